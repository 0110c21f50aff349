/- A region that draws its order: operations that yield in whatever world come first; the rest, where its order is forced, is walked in the text's order. Conditions: none. -/
import Derived.Test.YtbdnhcfebgkpdaaDoorKit
import Derived.RegionTactic
import Derived.NoCompiler
import Derived.Deep.AppendLies
import Derived.OrdersHeld
set_option linter.unusedVariables false
set_option linter.unusedSimpArgs false
set_option maxRecDepth 100000
namespace Go.Proofs.YtbdnhcfebgkpdaaDoor
open Go.RowKit

/-- from operation k on the order is the text's -/
def chainFrom (md : Region.Mode) (ops : Array Oper) : Nat → Array Bool → Nat → Bool
  | 0, listed, k => (Region.ready md ops listed).isEmpty && decide (ops.size ≤ k)
  | n + 1, listed, k =>
    ((Region.ready md ops listed).isEmpty && decide (ops.size ≤ k)) ||
    (decide (Region.ready md ops listed = [k]) && chainFrom md ops n (listed.setIfInBounds k true) (k + 1))

theorem wpList_drop {P : Program} {ops : Array Oper} {Q : Exit → Act → World → Prop} {k : Nat} {a : Act} {w : World} (h : wpList P ops Q (ops.toList.drop k) a w) :
    wpOp P ops Q k (wpList P ops Q (ops.toList.drop (k + 1))) a w := by
  unfold wpOp
  cases hk : ops[k]? with
  | none =>
    have : ops.toList.length ≤ k := by simpa using hk
    rw [List.drop_eq_nil_of_le this] at h
    show wpList P ops Q (ops.toList.drop (k + 1)) a w
    rw [List.drop_eq_nil_of_le (by omega)]
    exact h
  | some o =>
    have hlt : k < ops.toList.length := by
      have := (Array.getElem?_eq_some_iff.1 hk).1
      simpa using this
    have e : ops.toList.drop k = o :: ops.toList.drop (k + 1) := by
      rw [List.drop_eq_getElem_cons hlt]
      congr 1
      have := (Array.getElem?_eq_some_iff.1 hk).2
      simpa using this
    rw [e] at h
    exact h

theorem wpAny_drop {P : Program} {md : Region.Mode} {ops : Array Oper} {Q : Exit → Act → World → Prop} (n : Nat) : ∀ (k : Nat) (listed : Array Bool) (a : Act) (w : World),
    chainFrom md ops n listed k = true → wpList P ops Q (ops.toList.drop k) a w → wpAny P md ops Q n listed a w := by
  induction n with
  | zero =>
    intro k listed a w hc h
    simp only [chainFrom, Bool.and_eq_true, decide_eq_true_eq, List.isEmpty_iff] at hc
    rw [List.drop_eq_nil_of_le (by simpa using hc.2)] at h
    exact ⟨hc.1, h⟩
  | succ n ih =>
    intro k listed a w hc h
    simp only [chainFrom, Bool.or_eq_true, Bool.and_eq_true, decide_eq_true_eq, List.isEmpty_iff] at hc
    rcases hc with ⟨h1, h2⟩ | ⟨h1, h2⟩
    · rw [List.drop_eq_nil_of_le (by simpa using h2)] at h
      exact ⟨fun _ => h, by rw [h1]; simp⟩
    · refine ⟨fun h0 => by rw [h0] at h1; simp at h1, ?_⟩
      rw [h1]
      intro i hi
      simp at hi
      subst hi
      exact wpOp_mono (fun a w hw => ih _ _ a w h2 hw) (wpList_drop h)

/-- one operation alone may come up -/
theorem wpAny_one {P : Program} {md : Region.Mode} {ops : Array Oper} {Q : Exit → Act → World → Prop} {n : Nat} {listed : Array Bool} {a : Act} {w : World} (i : Nat) {o : Oper} (ho : ops[i]? = some o) (hr : Region.ready md ops listed = [i])
    (h : ∀ K : Act → World → Prop, (∀ a w, wpAny P md ops Q n (listed.setIfInBounds i true) a w → K a w) → if Region.wanted o (yielded ops a.tmps) = true then Oper.wp P o a w K Q else K (a.put o.dst undef) w) : wpAny P md ops Q (n + 1) listed a w :=
  wpAny_ready hr (by simp) (AllReady.cons ho h AllReady.nil)

/-- two operations may come up -/
theorem wpAny_two {P : Program} {md : Region.Mode} {ops : Array Oper} {Q : Exit → Act → World → Prop} {n : Nat} {listed : Array Bool} {a : Act} {w : World} (i j : Nat) {o p : Oper} (ho : ops[i]? = some o) (hp : ops[j]? = some p) (hr : Region.ready md ops listed = [i, j])
    (h : ∀ K : Act → World → Prop, (∀ a w, wpAny P md ops Q n (listed.setIfInBounds i true) a w → K a w) → if Region.wanted o (yielded ops a.tmps) = true then Oper.wp P o a w K Q else K (a.put o.dst undef) w)
    (h2 : ∀ K : Act → World → Prop, (∀ a w, wpAny P md ops Q n (listed.setIfInBounds j true) a w → K a w) → if Region.wanted p (yielded ops a.tmps) = true then Oper.wp P p a w K Q else K (a.put p.dst undef) w) : wpAny P md ops Q (n + 1) listed a w :=
  wpAny_ready hr (by simp) (AllReady.cons ho h (AllReady.cons hp h2 AllReady.nil))

/-! An operation that yields in every world that meets S is taken first, where S holds behind each of the operations below number m, and no other could come before it. -/
section
variable {P : Program} {md : Region.Mode} {ops : Array Oper} {Q : Exit → Act → World → Prop} {S : World → Prop} {m : Nat}
def wpAnyT (P : Program) (md : Region.Mode) (ops : Array Oper) (Q : Exit → Act → World → Prop) (S : World → Prop) (m : Nat) : Nat → Array Bool → Act → World → Prop
  | 0, listed, a, w => Region.ready md ops listed = [] ∧ Q .normal a w
  | fuel + 1, listed, a, w =>
    (Region.ready md ops listed = [] → Q .normal a w) ∧
    ∀ i ∈ Region.ready md ops listed, wpOp P ops Q i (fun a' w' => (i < m → S w') ∧ wpAnyT P md ops Q S m fuel (listed.setIfInBounds i true) a' w') a w

theorem wpAny_of_T : ∀ (fuel : Nat) (listed : Array Bool) (a : Act) (w : World), wpAnyT P md ops Q S m fuel listed a w → wpAny P md ops Q fuel listed a w
  | 0, _, _, _, h => h
  | fuel + 1, _, _, _, h => ⟨h.1, fun i hi => wpOp_mono (fun a' w' h' => wpAny_of_T fuel _ a' w' h'.2) (h.2 i hi)⟩

theorem wpAnyT_first {i : Nat} {oi : Oper} {v : Value} (hi : ops[i]? = some oi) (hsel : ∀ (j : Nat) (o : Oper) cs b, ops[j]? = some o → o.op ≠ .select cs b)
    (hQ : ∀ c a w, Q (.panic c) (a.put oi.dst v) w → Q (.panic c) a w) :
    ∀ (fuel : Nat) (listed : Array Bool) (a : Act) (w : World),
      (∀ j oj, ops[j]? = some oj → j ≠ i → listed.getD j true = false → (∀ e ∈ oj.after, Region.binds md e = true → e.on ≠ i) → oi.apart ops oj = true) →
      (∀ j oj, ops[j]? = some oj → j ≠ i → listed.getD j true = false → (∀ e ∈ oj.after, Region.binds md e = true → e.on ≠ i) → j < m) →
      i ∈ Region.ready md ops listed → YieldsIf P ops S oi v a → S w →
      wpAnyT P md ops Q S m fuel (listed.setIfInBounds i true) (a.put oi.dst v) w → wpAnyT P md ops Q S m (fuel + 1) listed a w := by
  intro fuel
  induction fuel with
  | zero =>
    intro listed a w _ _ hr hy hS H
    refine ⟨fun h => (by rw [h] at hr; cases hr), fun j hj => ?_⟩
    by_cases hji : j = i
    · subst hji; exact hy.wpOp hi hS ⟨fun _ => hS, H⟩
    · have := ready_mono hj hji
      rw [H.1] at this
      cases this
  | succ fuel ih =>
    intro listed a w hfree hbef hr hy hS H
    refine ⟨fun h => (by rw [h] at hr; cases hr), fun j hj => ?_⟩
    by_cases hji : j = i
    · subst hji; exact hy.wpOp hi hS ⟨fun _ => hS, H⟩
    · have h1 := H.2 j (ready_mono hj hji)
      obtain ⟨hjun, oj, hoj, hall⟩ := mem_ready.1 hj
      have hnot : ∀ e ∈ oj.after, Region.binds md e = true → e.on ≠ i := fun e he hb heq => by
        have h1 := hall e he hb
        have h0 := (mem_ready.1 hr).1
        rw [heq] at h1
        rcases Nat.lt_or_ge i listed.size with h' | h'
        · simp [h'] at h0 h1; rw [h0] at h1; cases h1
        · simp [Array.getElem?_eq_none h'] at h1
      have h2 := wpOp_putIf hoj (hfree j oj hoj hji hjun hnot) (fun cs b => hsel i oi cs b hi) (fun cs b => hsel j oj cs b hoj) hQ hy h1
      have hun' : ∀ k, (listed.setIfInBounds j true).getD k true = false → listed.getD k true = false := fun k hun => by
        by_cases hjk : j = k
        · subst hjk; exact hjun
        · rw [getD_set_ne true hjk] at hun; exact hun
      have hS' := hbef j oj hoj hji hjun hnot
      refine wpOp_mono (fun a' w' h3 => ⟨h3.2.1, ih (listed.setIfInBounds j true) a' w' (fun k ok hk hki hun hno => hfree k ok hk hki (hun' k hun) hno) (fun k ok hk hki hun hno => hbef k ok hk hki (hun' k hun) hno) (ready_mono hr (Ne.symm hji)) h3.1 (h3.2.1 hS') ?_⟩) h2
      rw [Array.setIfInBounds_comm _ _ hji]
      exact h3.2.2

/-- who could come before operation i is below number m -/
def beforeB (md : Region.Mode) (ops : Array Oper) (listed : Array Bool) (i m : Nat) : Bool :=
  (List.range ops.size).all fun j => decide (j < m) || decide (j = i) || listed.getD j true || (ops.getD j default).after.any fun e => Region.binds md e && decide (e.on = i)
theorem beforeB_spec {listed : Array Bool} {i : Nat} (h : beforeB md ops listed i m = true) : ∀ j oj, ops[j]? = some oj → j ≠ i → listed.getD j true = false → (∀ e ∈ oj.after, Region.binds md e = true → e.on ≠ i) → j < m := by
  intro j oj hj hji hl hno
  have hlt := (Array.getElem?_eq_some_iff.1 hj).1
  have he := (Array.getElem?_eq_some_iff.1 hj).2
  have h1 := List.all_eq_true.1 h j (by simpa using hlt)
  have hd : ops.getD j default = oj := by simp [Array.getD, hlt, he]
  rw [hl, hd] at h1
  simp only [Bool.or_false, Bool.or_eq_true, decide_eq_true_eq] at h1
  rcases h1 with (h1 | h1) | h1
  · exact h1
  · exact absurd h1 hji
  · obtain ⟨e, hm, hb⟩ := Array.any_eq_true'.1 h1
    simp only [Bool.and_eq_true, decide_eq_true_eq] at hb
    exact absurd hb.2 (hno e hm hb.1)

theorem wpAnyT_take {i : Nat} {oi : Oper} {v : Value} {fuel : Nat} {listed : Array Bool} {a : Act} {w : World} (hi : ops[i]? = some oi)
    (hs : Region.noSelect ops = true) (hf : Region.free md ops listed i = true) (hb : beforeB md ops listed i m = true) (hr : (Region.ready md ops listed).contains i = true)
    (hQ : ∀ c a w, Q (.panic c) (a.put oi.dst v) w → Q (.panic c) a w) (hy : YieldsIf P ops S oi v a) (hS : S w)
    (h : wpAnyT P md ops Q S m fuel (listed.setIfInBounds i true) (a.put oi.dst v) w) : wpAnyT P md ops Q S m (fuel + 1) listed a w :=
  wpAnyT_first hi (Region.noSelect_spec hs) hQ fuel listed a w (Region.free_spec hi hf) (beforeB_spec hb) (by simpa using hr) hy hS h

/-- one operation alone may come up -/
theorem wpAnyT_one {n : Nat} {listed : Array Bool} {a : Act} {w : World} (i : Nat) {o : Oper} (ho : ops[i]? = some o) (hr : Region.ready md ops listed = [i])
    (h : ∀ K : Act → World → Prop, (∀ a w, (i < m → S w) → wpAnyT P md ops Q S m n (listed.setIfInBounds i true) a w → K a w) → if Region.wanted o (yielded ops a.tmps) = true then Oper.wp P o a w K Q else K (a.put o.dst undef) w) : wpAnyT P md ops Q S m (n + 1) listed a w := by
  refine ⟨fun h0 => by rw [h0] at hr; simp at hr, ?_⟩
  rw [hr]
  intro j hj
  simp at hj
  subst hj
  exact wpOp_step ho fun K hK => h K fun a w h1 h2 => hK a w ⟨h1, h2⟩

/-- from operation k on, all beyond m, the order is the text's -/
theorem wpAnyT_drop (n : Nat) : ∀ (k : Nat) (listed : Array Bool) (a : Act) (w : World), m ≤ k →
    chainFrom md ops n listed k = true → wpList P ops Q (ops.toList.drop k) a w → wpAnyT P md ops Q S m n listed a w := by
  induction n with
  | zero =>
    intro k listed a w _ hc h
    simp only [chainFrom, Bool.and_eq_true, decide_eq_true_eq, List.isEmpty_iff] at hc
    rw [List.drop_eq_nil_of_le (by simpa using hc.2)] at h
    exact ⟨hc.1, h⟩
  | succ n ih =>
    intro k listed a w hm hc h
    simp only [chainFrom, Bool.or_eq_true, Bool.and_eq_true, decide_eq_true_eq, List.isEmpty_iff] at hc
    rcases hc with ⟨h1, h2⟩ | ⟨h1, h2⟩
    · rw [List.drop_eq_nil_of_le (by simpa using h2)] at h
      exact ⟨fun _ => h, by rw [h1]; simp⟩
    · refine ⟨fun h0 => by rw [h0] at h1; simp at h1, ?_⟩
      rw [h1]
      intro i hi
      simp at hi
      subst hi
      exact wpOp_mono (fun a w hw => ⟨fun h => by omega, ih _ _ a w (by omega) h2 hw⟩) (wpList_drop h)
end

theorem forget_world {P : Program} {c : Code} {Q : Exit → Act → World → Prop} {a : Act} {w : World} (F : World → Prop) (hF : F w) (h : ∀ w, F w → c.wp P Q a w) : c.wp P Q a w := h w hF
theorem hb_alloc {w : World} {k : Nat} {o : Obj} (h : w.heap[k]? = some o) (x : Obj) : (w.alloc x).heap[k]? = some o := (Below.heap_alloc _ _ _ (lt_of_heap h)).trans h
theorem hb_set_ne {w : World} {k : Nat} {o : Obj} (h : w.heap[k]? = some o) (a : Addr) (u : Value) (hne : k ≠ a.block) : (w.setCell a u).heap[k]? = some o := (Below.heap_setCell _ _ _ _ hne).trans h
theorem grown_trans {a b c : World} {row : Option Nat} (h : a.grownBy b row) (k : b.grownBy c row) : a.grownBy c row :=
  ⟨k.os.trans h.os, k.tape.trans h.tape, k.output.trans h.output, Nat.le_trans h.size k.size, fun i hi hne => (k.block i (Nat.lt_of_lt_of_le hi h.size) hne).trans (h.block i hi hne)⟩
theorem grown_set (w : World) (b o : Nat) (u : Value) : w.grownBy (w.setCell ⟨b, o, none⟩ u) (some b) := ⟨rfl, rfl, rfl, by simp, fun k hk hne => Below.heap_setCell _ _ _ _ (fun e => hne (by rw [e]))⟩
/-- what a call leaves that writes block b and makes blocks: for a caller whose own blocks begin at base -/
theorem grown_new {a b c : World} {row row' : Option Nat} (h : a.grownBy b row) (k : b.grownBy c row') (hr : ∀ i, row' = some i → row = some i ∨ a.heap.size ≤ i) : a.grownBy c row :=
  ⟨k.os.trans h.os, k.tape.trans h.tape, k.output.trans h.output, Nat.le_trans h.size k.size, fun i hi hne => (k.block i (Nat.lt_of_lt_of_le hi h.size) (fun e => by rcases hr i e.symm with h | h; exact hne h.symm; omega)).trans (h.block i hi hne)⟩
theorem results_row_tmp {P : Program} {fn : Func} {p u : Tmp} {ty : TypeId} (h : fn.results = #[.cell p ty, .tmp u]) (tmps : Array Value) (w : World) (g : Nat) (t : TypeId) (cs : Array Value) (fr : Nat × Nat) (d : TypeDesc)
    (hp : tmps.getD p undef = .pointer (some ⟨g, 0, none⟩)) (hg : w.heap[g]? = some (.cells cs t fr))
    (hu : P.underlying ty = some d) (hd : (match d with | .struct _ | .array _ _ => true | _ => false) = true) (hi : (P.info? ty).map (·.size) = some cs.size) :
    (results fn tmps).run P w = .ok (.tuple #[.agg cs, tmps.getD u undef]) w := by
  have hp' : tmps[p]?.getD undef = .pointer (some ⟨g, 0, none⟩) := by simpa using hp
  rw [results_cell_tmp h]
  simp [asAddr, hp', Result.andThen, run_loadVar_row w g t ty cs fr d hg hu hd hi]
theorem grown_undrew {w w' : World} {row : Option Nat} (h : w.drew.grownBy w' row) : w.grownBy w' row := ⟨h.os, h.tape, h.output, h.size, h.block⟩
theorem keeps_undrew {lo : Nat} {w w' : World} (h : Keeps lo w.drew w') : Keeps lo w w' := h
theorem below_of_grown {w w' : World} (h : w.grownBy w' none) : Below w.heap.size w w' := ⟨h.os, h.tape, h.output, h.size, fun k hk => h.block k hk (by simp)⟩
theorem hb_new2 (w : World) (A B : Obj) (n : Nat) (h : w.heap.size + 1 = n) : ((w.alloc A).alloc B).heap[n]? = some B := by subst h; exact heap_alloc2_new w A B

/-- 'xs = append(xs, x)' on a row of the call's own: where the new row lies -/
theorem app_push_at {P : Program} {w : World} (t e : TypeId) (z : Value) (size bytes : Nat) (T : P.underlying t = some (.slice e)) (I : (P.info? e).map (fun i => (i.zero, i.size, i.bytes)) = some (some z, size, bytes)) (Z : z.cells.size = size) (S : 0 < size)
    {ops : Array Oper} {rest : List Oper} {o : Oper} {a : Act} {Q : Exit → Act → World → Prop} (hgd : o.guard = none) (s x : Operand)
    (ho : o.op = .call { callee := .builtin .append, args := #[s, x], argTypes := #[t, t] })
    (base : Nat) (v : Value) (n : Nat) (xs : List Value) (hs : a.eval s = v) (hown : w.ownsRow base e size v n xs)
    (g c : Nat) (news : List Value) (hx : a.eval x = .slice (some ⟨g, 0, none⟩) 1 c) (hl : news.length = size) (hnews : ∀ j u, news[j]? = some u → w.cell? ⟨g, j, none⟩ = some u) (h1 : ∀ u ∈ news, u.oneCell' = true)
    (hn : n + 1 ≤ maxLen) (hb : (n + 1) * bytes ≤ 140737488355328) (hbase : base ≤ w.heap.size)
    (h : ∀ g' cap' w', w'.ownsRow base e size (.slice (some ⟨g', 0, none⟩) (n + 1) cap') (n + 1) (xs ++ news) → w.grownBy w' v.ownBlock → (v.ownBlock = some g' ∨ g' = w.heap.size) → wpList P ops Q rest (a.put o.dst (.slice (some ⟨g', 0, none⟩) (n + 1) cap')) w') : wpList P ops Q (o :: rest) a w := by
  obtain ⟨i, hi, hz0, hz1, hz2⟩ := info_parts I
  refine wpList_append_lies w hgd s x t ho base e i z size bytes T hi hz0 hz1 hz2 Z S v n xs hs hown ⟨g, 0, none⟩ 1 c news hx (by omega) ?_ h1 (by omega) hn hb hbase w.heap.size rfl fun g' cap' w' h2 h3 h4 _ => h g' cap' w' h2 h3 h4
  intro j u hj
  have hadd : (⟨g, 0, none⟩ : Addr).add j = ⟨g, j, none⟩ := by unfold Addr.add; split <;> simp_all
  rw [hadd]
  exact hnews j u hj

end Go.Proofs.YtbdnhcfebgkpdaaDoor
