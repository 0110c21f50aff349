/- The laws' size, copy and comparison of slices of instances, and of worlds. Conditions: those typed. -/
import Derived.Test.YtlckalgdfbpejaaDoorWorldOpen
import Derived.Test.YtlckalgdfbpejaaDoorInst
import Derived.Test.YtlckalgdfbpejaaDoorClassS
import Derived.Deep.LoopGhost
set_option linter.unusedVariables false
set_option linter.unusedSimpArgs false
set_option maxRecDepth 100000
namespace Go.Proofs.YtlckalgdfbpejaaDoor
open Go.RowKit

def iw (p : II) : Nat := p.1.size + p.2.1.size + p.2.2.length + tot p.2.2
def itot (is : List II) : Nat := (is.map iw).sum
theorem itot_take (is : List II) (k : Nat) (p : II) (h : is[k]? = some p) : itot (is.take (k + 1)) = itot (is.take k) + iw p := by
  obtain ⟨hlt, rfl⟩ := List.getElem?_eq_some_iff.1 h
  unfold itot
  rw [List.take_succ_eq_append_getElem hlt]
  simp only [List.map_append, List.sum_append, List.map_cons, List.map_nil, List.sum_cons, List.sum_nil, Nat.add_zero]
theorem itot_app (xs ys : List II) : itot (xs ++ ys) = itot xs + itot ys := by simp [itot]
theorem itot_le (is : List II) (k : Nat) : itot (is.take k) ≤ itot is := by
  have := itot_app (is.take k) (is.drop k)
  rw [List.take_append_drop] at this
  omega
def szII (is : List II) (L : Int) : Int := if (is.length : Int) + itot is ≤ L then L - is.length - itot is else -1
def szW (cs : List BB) (is : List II) (L : Int) : Int := if (cs.length : Int) + tot cs + is.length + itot is ≤ L then L - cs.length - tot cs - is.length - itot is else -1

/-! the copy of a slice of instances -/
def TI (wr : World) (g n k : Nat) (is : List II) : Prop :=
  ∃ cs, wr.heap[g]? = some (.cells cs 39 (0, 0)) ∧ cs.size = n * 3 ∧ ∀ (i : Nat) (p : II), i < k → is[i]? = some p → cs[i * 3]? = some (.string p.1) ∧ cs[i * 3 + 1]? = some (.string p.2.1) ∧
    ∃ g2, g < g2 ∧ cs[i * 3 + 2]? = some (.slice (some ⟨g2, 0, none⟩) p.2.2.length p.2.2.length) ∧ wr.heap[g2]? = some (.cells (flat p.2.2).toArray 36 (0, 0))
theorem TI.below {wr w' : World} {g n k : Nat} {is : List II} (h : TI wr g n k is) (hb : Below wr.heap.size wr w') : TI w' g n k is := by
  obtain ⟨cs, h1, h2, h3⟩ := h
  refine ⟨cs, below_heap hb (lt_of_heap h1) h1, h2, fun i p hi hp => ?_⟩
  obtain ⟨q1, q2, g2, q3, q4, q5⟩ := h3 i p hi hp
  exact ⟨q1, q2, g2, q3, q4, below_heap hb (lt_of_heap q5) q5⟩
theorem TI.set {wr : World} {g n k : Nat} {is : List II} (h : TI wr g n k is) (hk : k < n) {a b : ByteArray} {ns : List BB} (hp : is[k]? = some (a, b, ns)) {g2 : Nat} (hg : g < g2) (h2 : wr.heap[g2]? = some (.cells (flat ns).toArray 36 (0, 0))) :
    TI (((wr.setCell ⟨g, k * 3, none⟩ (.string a)).setCell ⟨g, k * 3 + 1, none⟩ (.string b)).setCell ⟨g, k * 3 + 2, none⟩ (.slice (some ⟨g2, 0, none⟩) ns.length ns.length)) g n (k + 1) is := by
  obtain ⟨cs, h1, hs, h3⟩ := h
  have keep : ∀ (x : Nat) (o : Obj), g < x → wr.heap[x]? = some o → (((wr.setCell ⟨g, k * 3, none⟩ (.string a)).setCell ⟨g, k * 3 + 1, none⟩ (.string b)).setCell ⟨g, k * 3 + 2, none⟩ (.slice (some ⟨g2, 0, none⟩) ns.length ns.length)).heap[x]? = some o := fun x o hx ho =>
    hb_set_ne (hb_set_ne (hb_set_ne ho _ _ (by show x ≠ g; omega)) _ _ (by show x ≠ g; omega)) _ _ (by show x ≠ g; omega)
  refine ⟨_, heap_set (heap_set (heap_set h1 _ _) _ _) _ _, by simp [hs], fun i p hi hp2 => ?_⟩
  by_cases hik : i = k
  · subst hik
    rw [hp] at hp2
    cases hp2
    refine ⟨?_, ?_, g2, hg, ?_, keep _ _ hg h2⟩
    · rw [Array.getElem?_setIfInBounds_ne (by omega), Array.getElem?_setIfInBounds_ne (by omega), Array.getElem?_setIfInBounds_self_of_lt (by rw [hs]; omega)]
    · rw [Array.getElem?_setIfInBounds_ne (by omega), Array.getElem?_setIfInBounds_self_of_lt (by simp [hs]; omega)]
    · rw [Array.getElem?_setIfInBounds_self_of_lt (by simp [hs]; omega)]
  · obtain ⟨q1, q2, g3, q3, q4, q5⟩ := h3 i p (by omega) hp2
    refine ⟨?_, ?_, g3, q3, ?_, keep _ _ q3 q5⟩
    · rw [Array.getElem?_setIfInBounds_ne (by omega), Array.getElem?_setIfInBounds_ne (by omega), Array.getElem?_setIfInBounds_ne (by omega)]; exact q1
    · rw [Array.getElem?_setIfInBounds_ne (by omega), Array.getElem?_setIfInBounds_ne (by omega), Array.getElem?_setIfInBounds_ne (by omega)]; exact q2
    · rw [Array.getElem?_setIfInBounds_ne (by omega), Array.getElem?_setIfInBounds_ne (by omega), Array.getElem?_setIfInBounds_ne (by omega)]; exact q4
/-- sizes of a slice of instances -/
def SZ (is : List II) : Prop := is.length ≤ maxLen ∧ ∀ p ∈ is, p.1.size ≤ maxLen ∧ p.2.1.size ≤ maxLen ∧ p.2.2.length ≤ maxLen ∧ ∀ q ∈ p.2.2, q.1.size ≤ maxLen ∧ q.2.size ≤ maxLen
theorem SI.sizes {w : World} {v : Value} {is : List II} (h : SI w v is) : SZ is := by
  rcases h with ⟨rfl, _⟩ | ⟨b, off, cap, rfl, hn, hc⟩
  · exact ⟨by simp, by simp⟩
  · refine ⟨hn, fun p hp => ?_⟩
    obtain ⟨i, hi⟩ := List.getElem?_of_mem hp
    obtain ⟨_, _, z0, z1, a, n, c, _, hs⟩ := hc i p hi
    exact ⟨z0, z1, hs.sizes.1, hs.sizes.2⟩
theorem TI.si {wr : World} {g cap : Nat} {is : List II} (h : TI wr g is.length is.length is) (hz : SZ is) : SI wr (.slice (some ⟨g, 0, none⟩) is.length cap) is := by
  obtain ⟨cs, h1, hs, h3⟩ := h
  refine .inr ⟨g, 0, cap, rfl, hz.1, fun i p hp => ?_⟩
  have hlt := (List.getElem?_eq_some_iff.1 hp).1
  obtain ⟨q1, q2, g2, q3, q4, q5⟩ := h3 i p hlt hp
  obtain ⟨z0, z1, z2, z3⟩ := hz.2 p (List.mem_of_getElem? hp)
  rw [Nat.zero_add]
  exact ⟨(heap_cell h1 _).trans q1, (heap_cell h1 _).trans q2, z0, z1, _, _, _, (heap_cell h1 _).trans q4, SP.of_heap q5 z2 z3⟩
theorem toInstanceS_info : (Tryd.prog.info? 39).map (fun i => (i.zero, i.size, i.bytes)) = some (some (.agg #[.string ⟨#[]⟩, .string ⟨#[]⟩, .slice none 0 0]), 3, 56) := by kernel_rfl
theorem toInstanceS_make (n : Nat) (h : n ≤ 1048576) (w : World) : ∃ cs, cs.size = n * 3 ∧ (Instr.makeSlice 45 (.int .i64 (n : Int)) (.int .i64 (n : Int))).run Tryd.prog w = .ok (.slice (some ⟨w.heap.size, 0, none⟩) n n) (w.alloc (.cells cs 39)) := by
  obtain ⟨i, hi, hz⟩ := Option.map_eq_some_iff.1 toInstanceS_info
  simp only [Prod.mk.injEq] at hz
  have hr := run_make (P := Tryd.prog) w 45 39 i _ Tryd.underlying45 hi hz.1 .i64 .i64 n n (by omega) (Int.le_refl _) (by rw [hz.2.2]; omega) (by omega)
  refine ⟨_, ?_, hr⟩
  simp [hz.2.1, madeCells]
def SIPost (w : World) (is : List II) (en : Ending) (w' : World) : Prop :=
  ∃ g, en = .returned (.slice (some ⟨g, 0, none⟩) is.length is.length) ∧ w.heap.size ≤ g ∧ TI w' g is.length is.length is ∧ Below w.heap.size w w'
theorem TI.low {wr : World} {g n k : Nat} {is : List II} (h : TI wr g n k is) {a : Addr} (u : Value) (ha : a.block < g) : TI (wr.setCell a u) g n k is := by
  obtain ⟨cs, h1, h2, h3⟩ := h
  refine ⟨cs, hb_set_ne h1 _ _ (by omega), h2, fun i p hi hp => ?_⟩
  obtain ⟨q1, q2, g2, q3, q4, q5⟩ := h3 i p hi hp
  exact ⟨q1, q2, g2, q3, q4, hb_set_ne q5 _ _ (by omega)⟩
/-- a world that a call made: its classes in block g1, its instances in block g2 and behind it -/
def WO (lo : Nat) (w : World) (g1 g2 : Nat) (cs : List BB) (is : List II) : Prop := lo ≤ g1 ∧ g1 < g2 ∧ w.heap[g1]? = some (.cells (flat cs).toArray 80 (0, 0)) ∧ TI w g2 is.length is.length is
def WPost (w : World) (cs : List BB) (is : List II) (e : Ending) (w' : World) : Prop := ∃ g1 g2, e = .returned (.agg #[.slice (some ⟨g1, 0, none⟩) cs.length cs.length, .slice (some ⟨g2, 0, none⟩) is.length is.length]) ∧ SP w' (.slice (some ⟨g1, 0, none⟩) cs.length cs.length) cs ∧ SI w' (.slice (some ⟨g2, 0, none⟩) is.length is.length) is ∧ WO w.heap.size w' g1 g2 cs is ∧ Below w.heap.size w w'
set_option maxHeartbeats 2000000 in
theorem eqInstanceS_same (v v' : Value) (is : List II) (w : World) (hs : SI w v is) (hs' : SI w v' is) :
    Calls Tryd.prog 57 #[v, v'] w fun e w' => e = .returned (.bool true) ∧ Below w.heap.size w w' := by
  have hn := hs.sizes.1
  unfold maxLen at hn
  obtain ⟨a, cap, rfl⟩ := si_slice hs
  obtain ⟨a', cap', rfl⟩ := si_slice hs'
  have HS := hid hs
  have HS' := hid hs'
  clear hs hs'
  go_enter Tryd.func57, Tryd.ntmps57
  go_wp2
  go_loopg [5] is.length (fun q i wr => ∃ k : Nat, k ≤ is.length ∧ is.length - k ≤ q ∧ i = .int .i64 k ∧ Below w.heap.size w wr)
  case atStart => exact ⟨0, Nat.zero_le _, by simp, rfl, Below.refl _ _⟩
  case round =>
    obtain ⟨k, hk, hq, rfl, hb⟩ := hrel
    have HB := hid hb
    have hbz := hb.size
    clear hb
    by_cases hlt : k < is.length
    · obtain ⟨⟨x, y, ns⟩, hp⟩ : ∃ p, is[k]? = some p := ⟨_, List.getElem?_eq_getElem hlt⟩
      obtain ⟨b, off, u, c, rfl, k0, k1, k2, hsp, z0, z1, hbl⟩ := si_at (HS.out.below HB.out) hp
      obtain ⟨b', off', u', c', rfl, l0, l1, l2, hsp', z0', z1', hbl'⟩ := si_at (HS'.out.below HB.out) hp
      have HSP := hid hsp
      have HSP' := hid hsp'
      clear hsp hsp' hp
      go_wp2
      refine wp_region_any (by kernel_rfl) ?_
      change wpAny _ _ _ _ _ _ _ (World.drew _)
      refine wpAny_take (i := 0) (v := .slice (some ⟨b, off, none⟩) is.length cap) rfl (by kernel_rfl) (by kernel_rfl) (by kernel_rfl) (fun _ _ _ h => h) (Or.inl ⟨by rfl, fun _ => by go_simp⟩) ?_
      refine wpAny_take (i := 1) (v := .int .i64 k) rfl (by kernel_rfl) (by kernel_rfl) (by kernel_rfl) (fun _ _ _ h => h) (Or.inl ⟨by rfl, fun _ => by go_simp⟩) ?_
      refine wpAny_take (i := 2) (v := .pointer (some ⟨b, off + k * 3, none⟩)) rfl (by kernel_rfl) (by kernel_rfl) (by kernel_rfl) (fun _ _ _ h => h) (Or.inl ⟨by rfl, fun _ => by go_simp⟩) ?_
      refine wpAny_take (i := 4) (v := .slice (some ⟨b', off', none⟩) is.length cap') rfl (by kernel_rfl) (by kernel_rfl) (by kernel_rfl) (fun _ _ _ h => h) (Or.inl ⟨by rfl, fun _ => by go_simp⟩) ?_
      refine wpAny_take (i := 5) (v := .int .i64 k) rfl (by kernel_rfl) (by kernel_rfl) (by kernel_rfl) (fun _ _ _ h => h) (Or.inl ⟨by rfl, fun _ => by go_simp⟩) ?_
      refine wpAny_take (i := 6) (v := .pointer (some ⟨b', off' + k * 3, none⟩)) rfl (by kernel_rfl) (by kernel_rfl) (by kernel_rfl) (fun _ _ _ h => h) (Or.inl ⟨by rfl, fun _ => by go_simp⟩) ?_
      refine wpAny_of_T (S := fun X => X.cell? ⟨b, off + k * 3, none⟩ = some (.string x) ∧ X.cell? ⟨b, off + k * 3 + 1, none⟩ = some (.string y) ∧ X.cell? ⟨b, off + k * 3 + 2, none⟩ = some (.slice u ns.length c) ∧ X.cell? ⟨b', off' + k * 3, none⟩ = some (.string x) ∧ X.cell? ⟨b', off' + k * 3 + 1, none⟩ = some (.string y) ∧ X.cell? ⟨b', off' + k * 3 + 2, none⟩ = some (.slice u' ns.length c')) (m := 10) _ _ _ _ ?_
      refine wpAnyT_take (i := 3) (v := .agg #[.string x, .string y, .slice u ns.length c]) rfl (by kernel_rfl) (by kernel_rfl) (by kernel_rfl) (by kernel_rfl) (fun _ _ _ h => h) (Or.inl ⟨by rfl, fun X hS => by obtain ⟨e0, e1, e2, e3, e4, e5⟩ := hS; clear k0 k1 k2 l0 l1 l2; go_simp⟩) ⟨k0, k1, k2, l0, l1, l2⟩ ?_
      refine wpAnyT_take (i := 7) (v := .agg #[.string x, .string y, .slice u' ns.length c']) rfl (by kernel_rfl) (by kernel_rfl) (by kernel_rfl) (by kernel_rfl) (fun _ _ _ h => h) (Or.inl ⟨by rfl, fun X hS => by obtain ⟨e0, e1, e2, e3, e4, e5⟩ := hS; clear k0 k1 k2 l0 l1 l2; go_simp⟩) ⟨k0, k1, k2, l0, l1, l2⟩ ?_
      refine wpAnyT_one 8 rfl (by kernel_rfl) (fun K hK => ?_)
      go_simp
      refine (eqInstance_same x y _ _ ns wr.drew HSP.out HSP'.out).mono ?_
      rintro e w2 ⟨rfl, hb⟩
      have S2 : w2.cell? ⟨b, off + k * 3, none⟩ = some (.string x) ∧ w2.cell? ⟨b, off + k * 3 + 1, none⟩ = some (.string y) ∧ w2.cell? ⟨b, off + k * 3 + 2, none⟩ = some (.slice u ns.length c) ∧ w2.cell? ⟨b', off' + k * 3, none⟩ = some (.string x) ∧ w2.cell? ⟨b', off' + k * 3 + 1, none⟩ = some (.string y) ∧ w2.cell? ⟨b', off' + k * 3 + 2, none⟩ = some (.slice u' ns.length c') := ⟨(hb.cell (lt_of_cell k0)).trans k0, (hb.cell (lt_of_cell k1)).trans k1, (hb.cell (lt_of_cell k2)).trans k2, (hb.cell (lt_of_cell l0)).trans l0, (hb.cell (lt_of_cell l1)).trans l1, (hb.cell (lt_of_cell l2)).trans l2⟩
      refine hK _ _ (fun _ => S2) ?_
      clear hK K
      refine wpAnyT_one 9 rfl (by kernel_rfl) (fun K hK => ?_)
      go_simp
      refine hK _ _ (fun _ => S2) ?_
      clear hK K
      refine wpAnyT_drop _ 10 _ _ _ (by decide) (by kernel_rfl) ?_
      change wpList _ _ _ [] _ _
      have HB2 : Hid (Below w.heap.size w w2) := hid (HB.out.drew.trans (hb.mono HB.out.size))
      clear hb k0 k1 k2 l0 l1 l2 S2
      go_wp2
      go_roundg (gk - 1)
      case measure => omega
      case rel => exact ⟨k + 1, by omega, by omega, by go_num, HB2.out⟩
    · go_wp2
      go_ret
      exact ⟨rfl, HB.out⟩
theorem eqWorld_same (v v' : Value) (cs : List BB) (is : List II) (w : World) (hs : WR w v cs is) (hs' : WR w v' cs is) :
    Calls Tryd.prog 29 #[v, v'] w fun e w' => e = .returned (.bool true) ∧ Below w.heap.size w w' := by
  obtain ⟨x, y, rfl, h1, h2⟩ := hs
  obtain ⟨a, cap, rfl⟩ := sp_slice h1
  obtain ⟨b, cap', rfl⟩ := si_slice h2
  obtain ⟨x', y', rfl, h1', h2'⟩ := hs'
  obtain ⟨a', capp, rfl⟩ := sp_slice h1'
  obtain ⟨b', capp', rfl⟩ := si_slice h2'
  have hB0 : Hid (Below w.heap.size w ((w.alloc (.cells #[.slice a cs.length cap, .slice b is.length cap'] 47)).alloc (.cells #[.slice a' cs.length capp, .slice b' is.length capp'] 47))) := ((Below.refl _ _).alloc (Nat.le_refl _) _).alloc (by simp) _
  have H1 := hid (h1.below hB0.out)
  have H1' := hid (h1'.below hB0.out)
  have H2 := hid h2
  have H2' := hid h2'
  clear h1 h1' h2 h2'
  go_enter Tryd.func29, Tryd.ntmps29
  go_wp2_with fail
  refine (eqClassS_same _ _ cs _ H1.out H1'.out).mono ?_
  rintro e w1 ⟨rfl, hb⟩
  have x0 := below_heap hb (by simp; omega) (hb_alloc (heap_alloc_new w _) _)
  have x1 := below_heap hb (by simp) (hb_new2 w _ _ _ rfl)
  have k01 : w1.cell? ⟨w.heap.size, 1, none⟩ = some (.slice b is.length cap') := heap_cell x0 1
  have k11 : w1.cell? ⟨w.heap.size + 1, 1, none⟩ = some (.slice b' is.length capp') := heap_cell x1 1
  have HB1 : Hid (Below w.heap.size w w1) := hB0.out.trans (hb.mono (by simp; omega))
  have hz := hb.size
  simp only [World.size_alloc] at hz
  have hz1 : w.heap.size + 1 < w1.heap.size := by omega
  have hz2 : w.heap.size < w1.heap.size := by omega
  clear hb x0 x1
  go_wp2_with fail
  refine (eqInstanceS_same _ _ is _ (H2.out.below HB1.out) (H2'.out.below HB1.out)).mono ?_
  rintro e w2 ⟨rfl, hb⟩
  have HB2 : Hid (Below w.heap.size w w2) := HB1.out.trans (hb.mono HB1.out.size)
  clear hb
  go_wp2
  go_ret
  exact ⟨rfl, HB2.out⟩

end Go.Proofs.YtlckalgdfbpejaaDoor
