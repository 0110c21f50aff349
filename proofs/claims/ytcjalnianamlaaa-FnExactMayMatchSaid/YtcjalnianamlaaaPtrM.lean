/- A set of nodes that the program keeps as a map keyed by their addresses; a map from letters to nodes. Conditions: those typed. -/
import Derived.Test.YtcjalnianamlaaaGraP
import Derived.Test.YtcjalnianamlaaaKit
import Derived.Maps.OwnSet
import Derived.Maps.StringElems
import Derived.LaidEqlPtr
set_option linter.unusedVariables false
set_option linter.unusedSimpArgs false
set_option maxRecDepth 100000
namespace Go.Proofs.Ytcjalnianamlaaa
open Go.RowKit Go.Maps Ty
namespace PtrM
open GraP
abbrev ptr (r : Nat) : Value := .pointer (some ⟨r, 0, none⟩)
/-- a block of cells -/
def NB (w : World) (r : Nat) : Prop := ∃ cs t, w.heap[r]? = some (.cells cs t (0, 0))
theorem run_equal_ptr {P : Program} (w : World) {tp te : TypeId} {j : TypeInfo} (hp : P.underlying tp = some (.pointer te)) (hte : P.info? te = some j) (hsz : j.size ≠ 0) {k r : Nat} (hk : NB w k) (hr : NB w r) : (Op.equal tp (ptr k) (ptr r)).run P w = .ok (decide (k = r)) w := by
  by_cases e : k = r
  · subst e
    have h : ∀ d : Nat, (Op.equalIn (d + 1) tp (.pointer (some (⟨k, 0, none⟩ : Addr))) (.pointer (some ⟨k, 0, none⟩))).run P w = .ok true w := fun d => by
      simp [Op.equalIn, run_underlying hp, sizeOf, typeInfo, hte, run_sameAddr_same]
    simp [Op.equal, Op.maxDepth, h 9999]
  · obtain ⟨ca, ta, ha⟩ := hk
    obtain ⟨cb, tb, hb⟩ := hr
    have hne : (⟨k, 0, none⟩ : Addr) ≠ ⟨r, 0, none⟩ := fun h => e (by cases h; rfl)
    have h : ∀ d : Nat, (Op.equalIn (d + 1) tp (.pointer (some (⟨k, 0, none⟩ : Addr))) (.pointer (some ⟨r, 0, none⟩))).run P w = .ok false w := fun d => by
      simp [Op.equalIn, run_underlying hp, sizeOf, typeInfo, hte, hsz, run_sameAddr_other w hne ha hb]
    simp [Op.equal, Op.maxDepth, h 9999, e]
theorem node_info : ∃ j, Try.prog.info? 113 = some j ∧ j.size ≠ 0 := by
  have h : (Try.prog.info? 113).map (fun j => j.size) = some 3 := by kernel_rfl
  obtain ⟨j, h1, h2⟩ := Option.map_eq_some_iff.1 h
  exact ⟨j, h1, by rw [h2]; decide⟩
theorem equal_ptr {w : World} {k r : Nat} (hk : NB w k) (hr : NB w r) : (Op.equal 81 (ptr k) (ptr r)).run Try.prog w = .ok (decide (k = r)) w := by
  obtain ⟨j, hj, hz⟩ := node_info
  exact run_equal_ptr w Try.underlying81 hj hz hk hr
theorem run_eql_ptr {P : Program} (w : World) {tp te : TypeId} {j : TypeInfo} (hp : P.underlying tp = some (.pointer te)) (hte : P.info? te = some j) (hsz : j.size ≠ 0) {k r : Nat} (hk : NB w k) (hr : NB w r) : (binOp .eql tp (ptr k) (ptr r)).run P w = .ok (.bool (decide (k = r))) w := by
  simp only [binOp]
  simp [run_equal_ptr w hp hte hsz hk hr]
theorem eql_ptr {w : World} {k r : Nat} (hk : NB w k) (hr : NB w r) : (binOp .eql 81 (ptr k) (ptr r)).run Try.prog w = .ok (.bool (decide (k = r))) w := by
  obtain ⟨j, hj, hz⟩ := node_info
  exact run_eql_ptr w Try.underlying81 hj hz hk hr
theorem ptr_inj {k r : Nat} (h : ptr k = ptr r) : k = r := by simpa [ptr] using h
theorem run_check {w : World} (e : Bool) (k : Nat) : (Instr.checkKey e 10000 81 (ptr k)).run Try.prog w = .ok () w := by
  unfold Instr.checkKey
  simp [run_underlying Try.underlying81, Result.andThen]
/-- the search for a node among the entries -/
theorem run_asking {w : World} {k : Nat} (hk : NB w k) : ∀ (es : List MapEntry) (i : Nat), (∀ x ∈ es, ∃ r, x.key = ptr r ∧ NB w r) →
    ((Instr.findAsking 81 (ptr k) es i).run Try.prog w = .ok none w ∧ ∀ x ∈ es, x.key ≠ ptr k) ∨ ∃ j e, (Instr.findAsking 81 (ptr k) es i).run Try.prog w = .ok (some (i + j, e.val)) w ∧ es[j]? = some e ∧ e.key = ptr k
  | [], i, _ => .inl ⟨rfl, by simp⟩
  | e :: es, i, h => by
    obtain ⟨r, hr, hn⟩ := h e (.head _)
    have heq := equal_ptr hk hn
    by_cases hkr : k = r
    · subst hkr
      refine .inr ⟨0, e, ?_, rfl, hr⟩
      unfold Instr.findAsking
      simp [hr, heq, Result.andThen]
    · rcases run_asking hk es (i + 1) (fun x hx => h x (.tail _ hx)) with ⟨h1, h2⟩ | ⟨j, e', h1, h2, h3⟩
      · refine .inl ⟨?_, fun x hx => ?_⟩
        · unfold Instr.findAsking
          simp [hr, heq, hkr, Result.andThen, h1]
        · cases hx with
          | head => rw [hr]; exact fun h => hkr (ptr_inj h).symm
          | tail _ hx => exact h2 x hx
      · refine .inr ⟨j + 1, e', ?_, by simpa using h2, h3⟩
        unfold Instr.findAsking
        simp [hr, heq, hkr, Result.andThen, h1]
        omega
theorem run_find {w : World} {k : Nat} (hk : NB w k) (es : List MapEntry) (h : ∀ x ∈ es, ∃ r, x.key = ptr r ∧ NB w r) :
    ((Instr.findKey 81 (ptr k) es).run Try.prog w = .ok none w ∧ ∀ x ∈ es, x.key ≠ ptr k) ∨ ∃ j e, (Instr.findKey 81 (ptr k) es).run Try.prog w = .ok (some (j, e.val)) w ∧ es[j]? = some e ∧ e.key = ptr k := by
  cases es with
  | nil => exact .inl ⟨by simp [Instr.findKey, run_underlying Try.underlying81, Result.andThen, Instr.findNow], by simp⟩
  | cons e es =>
    have hf : Instr.findNow (.pointer 113) (ptr k) (e :: es) 0 = none := rfl
    have hrun : (Instr.findKey 81 (ptr k) (e :: es)).run Try.prog w = (Instr.findAsking 81 (ptr k) (e :: es) 0).run Try.prog w := by
      simp [Instr.findKey, run_underlying Try.underlying81, Result.andThen, hf]
    rw [hrun]
    rcases run_asking hk (e :: es) 0 h with h1 | ⟨j, e', h1, h2⟩
    · exact .inl h1
    · exact .inr ⟨j, e', by simpa using h1, h2⟩
def del (A : Set') (r : Nat) : Set' := fun n => if n = r then false else A n
theorem del_put {A : Set'} {r : Nat} (h : A r = false) : del (put A r) r = A := by
  funext n
  unfold del put
  by_cases e : n = r
  · subst e; simp [h]
  · simp [e]
/-- block b is a map that holds just the nodes of A -/
def SM (w : World) (b : Nat) (A : Set') : Prop := ∃ es clock, w.heap[b]? = some (.map es clock) ∧ (es.toList.map (·.key)).Nodup ∧ (∀ x ∈ es.toList, ∃ r, x.key = ptr r ∧ x.val = .bool true ∧ A r = true) ∧ ∀ r, A r = true → ∃ x ∈ es.toList, x.key = ptr r
theorem SM.heap {w w' : World} {b : Nat} {A : Set'} (h : SM w b A) (e : w'.heap[b]? = w.heap[b]?) : SM w' b A := by obtain ⟨es, c, h1, r⟩ := h; exact ⟨es, c, e.trans h1, r⟩
theorem SM.made (w : World) : SM (w.alloc (.map #[] 0)) w.heap.size (fun _ => false) := ⟨#[], 0, heap_alloc_new _ _, by simp, by simp, by simp⟩
theorem SM.lt {w : World} {b : Nat} {A : Set'} (h : SM w b A) : b < w.heap.size := by obtain ⟨es, c, h1, r⟩ := h; exact lt_of_heap h1
theorem SM.isMap {w : World} {b : Nat} {A : Set'} (h : SM w b A) : ∃ es c, w.heap[b]? = some (.map es c) := by obtain ⟨es, c, h1, r⟩ := h; exact ⟨es, c, h1⟩
theorem zeroB (w : World) : (zeroValue 4).run Try.prog w = .ok (.bool false) w := by kernel_rfl
theorem look_run {w : World} {b k : Nat} {A : Set'} (h : SM w b A) (hk : NB w k) (hA : ∀ r, A r = true → NB w r) : (Instr.lookup 115 (.map (some b)) (ptr k) false).run Try.prog w = .ok (.bool (A k)) w := by
  obtain ⟨es, clock, hb, hnd, h1, h2⟩ := h
  rcases run_find hk es.toList (fun x hx => by obtain ⟨r, q1, q2, q3⟩ := h1 x hx; exact ⟨r, q1, hA r q3⟩) with ⟨f1, f2⟩ | ⟨j, e, f1, f2, f3⟩
  · have hAk : A k = false := by
      cases hAk : A k with
      | false => rfl
      | true => obtain ⟨x, hx, hxk⟩ := h2 k hAk; exact absurd hxk (f2 x hx)
    simp [Instr.lookup, run_underlying Try.underlying115, MapKept.run_getObj_map hb, run_check, f1, zeroB, Result.andThen, hAk]
  · obtain ⟨r, q1, q2, q3⟩ := h1 e (List.mem_of_getElem? f2)
    rw [f3] at q1
    have := ptr_inj q1
    subst this
    simp [Instr.lookup, run_underlying Try.underlying115, MapKept.run_getObj_map hb, run_check, f1, Result.andThen, q2, q3]
open Go.ChangeMaps (setBlock)
theorem stay_run {w : World} (k : Nat) : (Instr.keyThatStays (ptr k) (ptr k)).run Try.prog w = .ok (ptr k) w := by simp [Instr.keyThatStays, Instr.sameBits]
theorem store_run {w : World} {b k : Nat} {A : Set'} (h : SM w b A) (hk : NB w k) (hA : ∀ r, A r = true → NB w r) : ∃ w', (Instr.mapUpdate 115 (.map (some b)) (ptr k) (.bool true)).run Try.prog w = .ok () w' ∧ SM w' b (put A k) ∧ w.grownBy w' (some b) := by
  obtain ⟨es, clock, hb, hnd, h1, h2⟩ := h
  have hgr : ∀ es' c', w.grownBy (setBlock w b (.map es' c')) (some b) := fun es' c' => ⟨rfl, rfl, rfl, by simp [setBlock], fun i _ hi => ChangeMaps.heap_setBlock_other hb _ (fun e => hi (by rw [e]))⟩
  rcases run_find hk es.toList (fun x hx => by obtain ⟨r, q1, q2, q3⟩ := h1 x hx; exact ⟨r, q1, hA r q3⟩) with ⟨f1, f2⟩ | ⟨j, e, f1, f2, f3⟩
  · refine ⟨setBlock w b (.map (es.push ⟨ptr k, .bool true, clock⟩) (clock + 1)), ?_, ⟨_, _, ChangeMaps.heap_setBlock_same hb _, ?_, ?_, ?_⟩, hgr _ _⟩
    · simp [Instr.mapUpdate, run_underlying Try.underlying115, MapKept.run_getObj_map hb, run_check, f1, MapKept.run_setObj_map _ hb, Result.andThen, setBlock]
    · simp only [Array.toList_push, List.map_append, List.map_cons, List.map_nil]
      refine List.nodup_append.2 ⟨hnd, by simp, ?_⟩
      intro x hx y hy
      simp only [List.mem_singleton] at hy
      subst hy
      obtain ⟨z, hz, rfl⟩ := List.mem_map.1 hx
      exact f2 z hz
    · intro x hx
      simp only [Array.toList_push, List.mem_append, List.mem_singleton] at hx
      rcases hx with hx | rfl
      · obtain ⟨r, q1, q2, q3⟩ := h1 x hx
        exact ⟨r, q1, q2, by unfold put; split; rfl; exact q3⟩
      · exact ⟨k, rfl, rfl, by simp [put]⟩
    · intro r hr
      unfold put at hr
      simp only [Array.toList_push, List.mem_append, List.mem_singleton]
      split at hr
      · rename_i e; subst e; exact ⟨_, .inr rfl, rfl⟩
      · obtain ⟨x, hx, q⟩ := h2 r hr; exact ⟨x, .inl hx, q⟩
  · have hj : es[j]? = some e := by simpa using f2
    have hAk : A k = true := by
      obtain ⟨r, q1, q2, q3⟩ := h1 e (List.mem_of_getElem? f2)
      rw [f3] at q1
      rw [ptr_inj q1]; exact q3
    have hput : put A k = A := by
      funext n
      unfold put
      split
      · rename_i e; rw [e, hAk]
      · rfl
    have hval : e.val = .bool true := by obtain ⟨r, q1, q2, q3⟩ := h1 e (List.mem_of_getElem? f2); exact q2
    have hes : es.modify j (fun e' => { e' with key := ptr k, val := .bool true }) = es := by
      apply Array.ext_getElem?
      intro i
      rw [Array.getElem?_modify]
      split
      · rename_i hji
        subst hji
        rw [hj]
        simp only [Option.map_some, Option.some.injEq]
        cases e
        simp only at f3 hval
        subst f3 hval
        rfl
      · rfl
    refine ⟨setBlock w b (.map es clock), ?_, ⟨es, clock, ChangeMaps.heap_setBlock_same hb _, hnd, by rw [hput]; exact h1, by rw [hput]; exact h2⟩, hgr _ _⟩
    simp only [Instr.mapUpdate]
    simp [run_underlying Try.underlying115, MapKept.run_getObj_map hb, run_check, f1, hj, f3, stay_run, MapKept.run_setObj_map _ hb, Result.andThen, setBlock, hes]
theorem drop_run {w : World} {b k : Nat} {A : Set'} (h : SM w b A) (hk : NB w k) (hA : ∀ r, A r = true → NB w r) (ty : TypeId) : ∃ w', (Builtin.delete_ #[115, 81] ty #[.map (some b), ptr k]).run Try.prog w = .ok (.tuple #[]) w' ∧ SM w' b (del A k) ∧ w.grownBy w' (some b) := by
  obtain ⟨es, clock, hb, hnd, h1, h2⟩ := h
  have hgr : ∀ es' c', w.grownBy (setBlock w b (.map es' c')) (some b) := fun es' c' => ⟨rfl, rfl, rfl, by simp [setBlock], fun i _ hi => ChangeMaps.heap_setBlock_other hb _ (fun e => hi (by rw [e]))⟩
  rcases run_find hk es.toList (fun x hx => by obtain ⟨r, q1, q2, q3⟩ := h1 x hx; exact ⟨r, q1, hA r q3⟩) with ⟨f1, f2⟩ | ⟨j, e, f1, f2, f3⟩
  · refine ⟨setBlock w b (.map es clock), ?_, ⟨es, clock, ChangeMaps.heap_setBlock_same hb _, hnd, fun x hx => ?_, fun r hr => ?_⟩, hgr _ _⟩
    · simp [Builtin.delete_, run_underlying Try.underlying115, MapKept.run_getObj_map hb, run_check, f1, MapKept.run_setObj_map _ hb, Result.andThen, setBlock]
    · obtain ⟨r, q1, q2, q3⟩ := h1 x hx
      refine ⟨r, q1, q2, ?_⟩
      unfold del
      rw [if_neg (fun e => f2 x hx (by rw [q1, e]))]
      exact q3
    · unfold del at hr
      split at hr
      · simp at hr
      · exact h2 r hr
  · have hjl : j < es.size := by have := (List.getElem?_eq_some_iff.1 f2).1; simpa using this
    have hsub : (es.eraseIdxIfInBounds j).toList = es.toList.eraseIdx j := by
      unfold Array.eraseIdxIfInBounds
      rw [dif_pos hjl]
      simp
    have hother : ∀ x ∈ es.toList.eraseIdx j, x.key ≠ ptr k := by
      intro x hx
      obtain ⟨i, hi, hix⟩ := List.mem_eraseIdx_iff_getElem?.1 hx
      intro hxk
      have h3 : (es.toList.map (·.key))[i]? = some (ptr k) := by rw [List.getElem?_map, hix]; simp [hxk]
      have h4 : (es.toList.map (·.key))[j]? = some (ptr k) := by rw [List.getElem?_map, f2]; simp [f3]
      have hnd' := List.pairwise_iff_getElem.1 hnd
      obtain ⟨q1, q2⟩ := List.getElem?_eq_some_iff.1 h3
      obtain ⟨q3, q4⟩ := List.getElem?_eq_some_iff.1 h4
      rcases Nat.lt_trichotomy i j with hlt | heq | hgt
      · exact hnd' i j q1 q3 hlt (q2.trans q4.symm)
      · exact hi heq
      · exact hnd' j i q3 q1 hgt (q4.trans q2.symm)
    refine ⟨setBlock w b (.map (es.eraseIdxIfInBounds j) clock), ?_, ⟨_, clock, ChangeMaps.heap_setBlock_same hb _, ?_, fun x hx => ?_, fun r hr => ?_⟩, hgr _ _⟩
    · simp [Builtin.delete_, run_underlying Try.underlying115, MapKept.run_getObj_map hb, run_check, f1, MapKept.run_setObj_map _ hb, Result.andThen, setBlock]
    · rw [hsub]
      exact hnd.sublist ((List.eraseIdx_sublist _ _).map _)
    · rw [hsub] at hx
      obtain ⟨r, q1, q2, q3⟩ := h1 x ((List.eraseIdx_sublist _ _).subset hx)
      refine ⟨r, q1, q2, ?_⟩
      unfold del
      rw [if_neg (fun e => hother x hx (by rw [q1, e]))]
      exact q3
    · unfold del at hr
      split at hr
      · simp at hr
      · rename_i hne
        obtain ⟨x, hx, q⟩ := h2 r hr
        refine ⟨x, ?_, q⟩
        rw [hsub]
        obtain ⟨i, hi⟩ := List.getElem?_of_mem hx
        exact List.mem_eraseIdx_iff_getElem?.2 ⟨i, fun e => hne (by subst e; rw [f2] at hi; cases hi; exact (ptr_inj (q.symm.trans f3))), hi⟩
section
variable {w : World} {ops : Array Oper} {rest : List Oper} {o : Oper} {a : Act} {Q : Exit → Act → World → Prop}
theorem look_at (hg : o.guard = none) (m x : Operand) (hop : o.op = Op.lookup 115 m x false) {b k : Nat} {A : Set'} (h : SM w b A) (hk : NB w k) (hA : ∀ r, A r = true → NB w r) (v : Bool) (hv : A k = v)
    (hm : a.eval m = .map (some b)) (hx : a.eval x = ptr k) (hK : wpList Try.prog ops Q rest (a.put o.dst (.bool v)) w) : wpList Try.prog ops Q (o :: rest) a w := by
  refine wpList_plain hg fun K' hK' => ?_
  have hrun := look_run h hk hA
  rw [hv] at hrun
  unfold Oper.wp
  simp [execOp, hop, hm, hx, hrun, Result.andThen]
  exact hK' _ _ hK
theorem store_at (hg : o.guard = none) (m x v : Operand) (hop : o.op = Op.mapUpdate 115 m x v) {b k : Nat} {A : Set'} (h : SM w b A) (hk : NB w k) (hA : ∀ r, A r = true → NB w r)
    (hm : a.eval m = .map (some b)) (hx : a.eval x = ptr k) (hv : a.eval v = .bool true) (hK : ∀ w', SM w' b (put A k) → w.grownBy w' (some b) → wpList Try.prog ops Q rest (a.put o.dst undef) w') : wpList Try.prog ops Q (o :: rest) a w := by
  refine wpList_plain hg fun K' hK' => ?_
  obtain ⟨w', hrun, h1, h2⟩ := store_run h hk hA
  unfold Oper.wp
  simp [execOp, hop, hm, hx, hv, hrun, Result.andThen]
  exact hK' _ _ (hK w' h1 h2)
theorem drop_at (hg : o.guard = none) (m x : Operand) (hop : o.op = Op.call { callee := Callee.builtin Builtin.delete, args := #[m, x], argTypes := #[115, 81] }) {b k : Nat} {A : Set'} (h : SM w b A) (hk : NB w k) (hA : ∀ r, A r = true → NB w r)
    (hm : a.eval m = .map (some b)) (hx : a.eval x = ptr k) (hK : ∀ w', SM w' b (del A k) → w.grownBy w' (some b) → wpList Try.prog ops Q rest (a.put o.dst (.tuple #[])) w') : wpList Try.prog ops Q (o :: rest) a w := by
  refine wpList_plain hg fun K' hK' => ?_
  obtain ⟨w', hrun, h1, h2⟩ := drop_run h hk hA o.type
  unfold Oper.wp
  simp [execOp, hop, resolve, invoke, builtin, hm, hx, hrun, Result.andThen]
  exact hK' _ _ (hK w' h1 h2)
end

/-! letters to nodes -/
theorem lawS : Keyed Try.prog 9 := string_keyed Try.underlying9
theorem zeroP (w : World) : (zeroValue 81).run Try.prog w = .ok (.pointer none) w := by kernel_rfl
def kl (c : UInt8) : Lit := .string [c]
theorem hkey (c : UInt8) : keyOf Try.prog 9 (.string ⟨#[c]⟩) = some (kl c) := Go.WideMaps.keyOf_string_mk Try.underlying9 (by simp [ByteArray.size, maxLen])
theorem kl_inj {c d : UInt8} (h : kl c = kl d) : c = d := by simpa [kl] using h
/-- how an address reads: as its block's number -/
def RP : Value → Option (DataW Unit × List MemPlace)
  | .pointer none => some (.lit (.int .i64 (-1)), [])
  | .pointer (some ⟨b, 0, none⟩) => some (.lit (.int .i64 b), [])
  | _ => none
theorem rp_inv {v : Value} {n : Int} {ps : List MemPlace} (h : RP v = some (.lit (.int .i64 n), ps)) : (n = -1 ∧ v = .pointer none) ∨ ∃ b : Nat, n = b ∧ v = ptr b := by
  unfold RP at h
  split at h
  · simp at h; exact .inl ⟨by omega, rfl⟩
  · simp at h; rename_i b; exact .inr ⟨b, by omega, rfl⟩
  · simp at h
abbrev Sco := UInt8 → Option Nat
structure ReadsP (D : DataW Unit) (s : Sco) : Prop where
  has : ∀ c, Maps.has D (kl c) = (s c).isSome
  at' : ∀ c b, s c = some b → ∀ zd, D.atKey (kl c) zd = .lit (.int .i64 (b : Int))
def PM (w : World) (b n : Nat) (s : Sco) : Prop := ∃ D : DataW Unit, w.ownsMap Try.prog 9 RP b n D ∧ ReadsP D s
theorem PM.mono {w : World} {b n m : Nat} {s : Sco} (h : PM w b n s) (hm : n ≤ m) : PM w b m s := by obtain ⟨D, h1, h2⟩ := h; exact ⟨D, h1.mono hm, h2⟩
theorem PM.heap {w w' : World} {b n : Nat} {s : Sco} (h : PM w b n s) (e : w'.heap[b]? = w.heap[b]?) : PM w' b n s := by obtain ⟨D, ⟨es, k, h1, r⟩, h2⟩ := h; exact ⟨D, ⟨es, k, e.trans h1, r⟩, h2⟩
theorem PM.lt {w : World} {b n : Nat} {s : Sco} (h : PM w b n s) : b < w.heap.size := by obtain ⟨D, h1, h2⟩ := h; exact h1.lt
theorem PM.isMap {w : World} {b n : Nat} {s : Sco} (h : PM w b n s) : ∃ es k, w.heap[b]? = some (.map es k) := by obtain ⟨D, ⟨es, k, h1, _⟩, h2⟩ := h; exact ⟨es, k, h1⟩
theorem PM.made (w : World) : PM (w.alloc (.map #[] 0)) w.heap.size 0 (fun _ => none) := by
  refine ⟨.map [], World.ownsMap_made w _ _ _, ⟨fun c => rfl, fun c t h => by simp at h⟩⟩
def sput (s : Sco) (c : UInt8) (b : Nat) : Sco := fun d => if d = c then some b else s d
section
variable {w : World} {ops : Array Oper} {rest : List Oper} {o : Oper} {a : Act} {Q : Exit → Act → World → Prop}
theorem look_sc (hg : o.guard = none) (m x : Operand) (hop : o.op = Op.lookup 83 m x false) {mb n : Nat} {s : Sco} (h : PM w mb n s) {c : UInt8} (v : Option Nat) (hv : s c = v)
    (hm : a.eval m = .map (some mb)) (hx : a.eval x = .string ⟨#[c]⟩) (hK : wpList Try.prog ops Q rest (a.put o.dst (.pointer (v.map fun b => ⟨b, 0, none⟩))) w) : wpList Try.prog ops Q (o :: rest) a w := by
  obtain ⟨D, h1, h2⟩ := h
  refine wpList_plain hg fun K' hK' => ?_
  obtain ⟨u, ps, hrun, hvp⟩ := h1.lookup lawS Try.underlying83 (zeroP w) (zd := .lit (.int .i64 (-1))) (zp := []) rfl (hkey c)
  have e : u = .pointer (v.map fun b => ⟨b, 0, none⟩) := by
    subst hv
    cases hs : s c with
    | none =>
      have : Maps.has D (kl c) = false := by rw [h2.has, hs]; rfl
      rw [Maps.atKey_of_not_has this] at hvp
      rcases rp_inv hvp with ⟨_, e⟩ | ⟨b, e, _⟩
      · exact e
      · omega
    | some b =>
      rw [h2.at' c b hs] at hvp
      rcases rp_inv hvp with ⟨e, _⟩ | ⟨b', e, e2⟩
      · omega
      · have : b = b' := by omega
        subst this; exact e2
  rw [e] at hrun
  unfold Oper.wp
  simp [execOp, hop, hm, hx, hrun, Result.andThen]
  exact hK' _ _ hK
theorem store_sc (hg : o.guard = none) (m x v : Operand) (hop : o.op = Op.mapUpdate 83 m x v) {mb n : Nat} {s : Sco} (h : PM w mb n s) {c : UInt8} {b : Nat} (hn : n < maxLen)
    (hm : a.eval m = .map (some mb)) (hx : a.eval x = .string ⟨#[c]⟩) (hv : a.eval v = ptr b) (hK : ∀ w', PM w' mb (n + 1) (sput s c b) → w.grownBy w' (some mb) → wpList Try.prog ops Q rest (a.put o.dst undef) w') : wpList Try.prog ops Q (o :: rest) a w := by
  obtain ⟨D, h1, h2⟩ := h
  refine wpList_mapUpdate_own w hg m x v _ hop 9 81 lawS Try.underlying83 RP mb n D hm h1 hn _ _ (kl c) hx hv (hkey c) (.lit (.int .i64 (b : Int))) [] rfl fun w' h3 h4 => hK w' ⟨_, h3, ?_⟩ h4
  have hM := h1.isMap
  have hK : WideAt.IsKeyLit (kl c) := trivial
  refine ⟨fun d => ?_, fun d u hd zd => ?_⟩
  · by_cases e : d = c
    · subst e; rw [Maps.has_put_same hM hK]; simp [sput]
    · rw [Maps.has_put_other (fun h => e (kl_inj h)), h2.has]; simp [sput, e]
  · by_cases e : d = c
    · subst e
      rw [Maps.atKey_put_same hM hK]
      simp [sput] at hd
      rw [hd]
    · rw [Maps.atKey_put_other (fun h => e (kl_inj h))]
      simp [sput, e] at hd
      exact h2.at' d u hd zd
end
end PtrM
end Go.Proofs.Ytcjalnianamlaaa
