/- Whether the classes of a world are valid, of both sides. Conditions: those typed. -/
import Derived.Test.YtbdnhcfebgkpdaaDoorKnown
import Derived.Test.YtbdnhcfebgkpdaaDoorNeedP
import Derived.Deep.QuietTactic
import Derived.BigQuiet
import Derived.Lib.SmallJoins
set_option linter.unusedVariables false
set_option linter.unusedSimpArgs false
set_option maxRecDepth 100000
namespace Go.Proofs.YtbdnhcfebgkpdaaDoor
open Go.RowKit Known Go.Joins
namespace Classes
/-- a letter of a class's Supers is as it must be -/
def goodS (xs : List BB) (sup : List UInt8) (k : Nat) : Prop := ∃ c, sup[k]? = some c ∧ knownB xs ⟨#[c]⟩ = true ∧ ∀ j d, k = j + 1 → sup[j]? = some d → d.toNat < c.toNat
/-- a class is as it must be -/
def goodC (cs : List BB) (i : Nat) : Prop := ∃ (c : UInt8) (sup : List UInt8), cs[i]? = some (⟨#[c]⟩, ⟨sup.toArray⟩) ∧ isCap c = true ∧ (∀ j, i = j + 1 → ∃ (d : UInt8) (z : ByteArray), cs[j]? = some (⟨#[d]⟩, z) ∧ d.toNat < c.toNat) ∧ ∀ k, k < sup.length → goodS (cs.take i) sup k
open Classical in
/-- what classesOk returns -/
noncomputable def clB (cs : List BB) : Bool := decide ((∀ i, i < cs.length → goodC cs i) ∧ 1 ≤ cs.length ∧ cs.length ≤ 4)
open Classical in
theorem clB_no {cs : List BB} {i : Nat} (h : i < cs.length) (hg : ¬ goodC cs i) : clB cs = false := by
  unfold clB; exact decide_eq_false fun h2 => hg (h2.1 i h)
open Classical in
theorem clB_len {cs : List BB} (h : ¬ (1 ≤ cs.length ∧ cs.length ≤ 4)) : clB cs = false := by
  unfold clB; exact decide_eq_false fun h2 => h h2.2
open Classical in
theorem clB_yes {cs : List BB} (h : ∀ i, i < cs.length → goodC cs i) (h2 : 1 ≤ cs.length) (h3 : cs.length ≤ 4) : clB cs = true := by
  unfold clB; exact decide_eq_true ⟨h, h2, h3⟩
open Classical in
theorem clB_good {cs : List BB} (h : clB cs = true) : (∀ i, i < cs.length → goodC cs i) ∧ 1 ≤ cs.length ∧ cs.length ≤ 4 := by
  unfold clB at h; exact of_decide_eq_true h
theorem one_inj {c d : UInt8} (h : (ByteArray.mk #[c]) = ⟨#[d]⟩) : c = d := by
  have := congrArg ByteArray.data h
  simpa using this
theorem bad_cap {cs : List BB} {i : Nat} {l s : List UInt8} (hk : cs[i]? = some (⟨l.toArray⟩, ⟨s.toArray⟩)) (h : isCapL l = false) : ¬ goodC cs i := by
  rintro ⟨c, sup, h1, h2, _⟩
  rw [hk] at h1
  simp only [Option.some.injEq, Prod.mk.injEq, ByteArray.mk.injEq] at h1
  have : l = [c] := by simpa using h1.1
  subst this
  simp [isCapL, h2] at h
theorem bad_ord {cs : List BB} {j : Nat} {c d : UInt8} {s : List UInt8} {z : ByteArray} (hk : cs[j + 1]? = some (⟨#[c]⟩, ⟨s.toArray⟩)) (hj : cs[j]? = some (⟨#[d]⟩, z)) (h : c.toNat ≤ d.toNat) : ¬ goodC cs (j + 1) := by
  rintro ⟨c', sup, h1, _, h2, _⟩
  obtain ⟨d', z', h3, h4⟩ := h2 j rfl
  rw [hk] at h1
  rw [hj] at h3
  simp only [Option.some.injEq, Prod.mk.injEq] at h1 h3
  have e1 := one_inj h1.1
  have e2 := one_inj h3.1
  subst e1 e2
  omega
theorem bad_sup {cs : List BB} {i k : Nat} {x : ByteArray} {s : List UInt8} (hk : cs[i]? = some (x, ⟨s.toArray⟩)) (hlt : k < s.length) (h : ¬ goodS (cs.take i) s k) : ¬ goodC cs i := by
  rintro ⟨c, sup, h1, _, _, h2⟩
  rw [hk] at h1
  simp only [Option.some.injEq, Prod.mk.injEq, ByteArray.mk.injEq] at h1
  have : s = sup := by simpa using h1.2
  subst this
  exact h (h2 k hlt)
theorem bad_known {xs : List BB} {s : List UInt8} {k : Nat} {c : UInt8} (hk : s[k]? = some c) (h : knownB xs ⟨#[c]⟩ = false) : ¬ goodS xs s k := by
  rintro ⟨c', h1, h2, _⟩
  rw [hk] at h1
  cases h1
  rw [h] at h2; simp at h2
theorem bad_sord {xs : List BB} {s : List UInt8} {j : Nat} {c d : UInt8} (hk : s[j + 1]? = some c) (hj : s[j]? = some d) (h : c.toNat ≤ d.toNat) : ¬ goodS xs s (j + 1) := by
  rintro ⟨c', h1, _, h2⟩
  rw [hk] at h1
  cases h1
  have := h2 j d rfl hj
  omega
theorem sp_take {w : World} {a : Option Addr} {cap : Nat} {cs : List BB} (h : SP w (.slice a cs.length cap) cs) {k c' : Nat} (hk : k ≤ cs.length) : SP w (.slice a k c') (cs.take k) := by
  have hl : (cs.take k).length = k := by rw [List.length_take]; omega
  rcases h with ⟨rfl, a', cap', h⟩ | ⟨b, off, cap', h, hn, hc⟩
  · simp at hk; subst hk
    exact .inl ⟨rfl, _, _, rfl⟩
  · cases h
    refine .inr ⟨b, off, c', by rw [hl], by omega, fun i p hp => ?_⟩
    rw [List.getElem?_take] at hp
    split at hp
    · exact hc i p hp
    · simp at hp
theorem slice_at (l : List UInt8) (k : Nat) (c : UInt8) (h : l[k]? = some c) : (ByteArray.mk l.toArray).extract k (k + 1) = ⟨#[c]⟩ := by
  obtain ⟨hlt, rfl⟩ := List.getElem?_eq_some_iff.1 h
  apply ByteArray.ext
  simp [ByteArray.data_extract]
  rw [List.drop_eq_getElem_cons hlt]
  rfl
theorem run_sub (l : List UInt8) (k : Nat) (c : UInt8) (h : l[k]? = some c) (hl : l.length ≤ 1048576) (x : World) : (Instr.slice 9 (.string ⟨l.toArray⟩) (some (.int .i64 (k : Int))) (some (.int .i64 ((k : Int) + 1))) none).run Tryd.prog x = .ok (.string ⟨#[c]⟩) x := by
  have hlt := (List.getElem?_eq_some_iff.1 h).1
  rw [run_slice_string x 9 ⟨l.toArray⟩ .i64 .i64 (k : Int) ((k : Int) + 1) Tryd.underlying9 (by omega) (by omega) (by show (k : Int) + 1 ≤ ((ByteArray.mk l.toArray).size : Int); simp [ByteArray.size]; omega)]
  rw [show ((k : Int)).toNat = k by omega, show ((k : Int) + 1).toNat = k + 1 by omega, slice_at l k c h]
theorem l3Capital_any (l : List UInt8) (w : World) (hl : l.length ≤ 2147483648) :
    Calls Tryd.prog 37 #[.string ⟨l.toArray⟩] w fun e w' => e = .returned (.bool (isCapL l)) ∧ w = w' := by
  by_cases h : l.length = 1
  · obtain ⟨c, rfl⟩ : ∃ c, l = [c] := by
      match l, h with
      | [c], _ => exact ⟨c, rfl⟩
    exact l3Capital_one c w
  · have hR : Hid (isCapL l = false) := by
      match l, h with
      | [], _ => rfl
      | [c], h => simp at h
      | a :: b :: r, _ => rfl
    have e1 : ((l.length : Int) == 1) = false := by rw [beq_eq_false_iff_ne]; omega
    clear h
    go_enter Tryd.func37, Tryd.ntmps37
    go_wp2_with fail
    go_ret
    exact ⟨ret_bool hR.out.symm, rfl⟩

theorem below_drewN {B : Nat} {w w' : World} (h : Below B w w') : ∀ n, Below B w (w'.drewN n)
  | 0 => h
  | n + 1 => (below_drewN h n).drew
theorem heap_drewN (w : World) (n k : Nat) : (w.drewN n).heap[k]? = w.heap[k]? := rfl
theorem below_drew1 {B : Nat} {w w' : World} (h : Below B w w') : Below B w w'.drew := ⟨h.os, h.tape, h.output, h.size, h.block⟩
theorem get_at (s : List UInt8) (t : Nat) (e : UInt8) (h : s[t]? = some e) (hlt : t < (ByteArray.mk s.toArray).size) : (ByteArray.mk s.toArray)[t]'hlt = e := by
  obtain ⟨h1, rfl⟩ := List.getElem?_eq_some_iff.1 h
  rfl
theorem isClass_q {l : List UInt8} {b : Bool} (hb : isCapL l = b) (w : World) (hl : l.length ≤ 2147483648) : Calls Tryd.prog 36 #[.string ⟨l.toArray⟩] w fun e w' => e = .returned (.bool b) ∧ w' = w := (isClass_any l w hl).mono fun e w' h => ⟨by rw [h.1, hb], h.2.symm⟩
theorem l3Capital_q {l : List UInt8} {b : Bool} (hb : isCapL l = b) (w : World) (hl : l.length ≤ 2147483648) : Calls Tryd.prog 37 #[.string ⟨l.toArray⟩] w fun e w' => e = .returned (.bool b) ∧ w' = w := (l3Capital_any l w hl).mono fun e w' h => ⟨by rw [h.1, hb], h.2.symm⟩

theorem l3Class_at (a : Option Addr) (cap : Nat) (yi : Option Addr) (n c : Nat) (cs : List BB) (x : ByteArray) (w : World) (k : Nat) (hk : cs.length = k) (hs : SP w (.slice a k cap) cs) :
    Calls Tryd.prog 71 #[.agg #[.slice a k cap, .slice yi n c], .string x] w fun e w' => e = .returned (.int .i64 (idxC cs x)) ∧ Below w.heap.size w w' := by
  subst hk
  exact l3Class_any a cap yi n c cs x w hs

set_option maxHeartbeats 16000000 in
theorem classesOk_any (a : Option Addr) (cap : Nat) (yi : Option Addr) (n c1 : Nat) (cs : List BB) (w : World) (h0 : tot cs + cs.length ≤ 1048577) (hcap : cs.length ≤ cap) (hs : SP w (.slice a cs.length cap) cs) :
    Calls Tryd.prog 44 #[.agg #[.slice a cs.length cap, .slice yi n c1]] w fun e w' => e = .returned (.bool (clB cs)) ∧ Below w.heap.size w w' := by
  have hbd : Hid (∀ (i : Nat) (p : BB), cs[i]? = some p → p.1.size ≤ 1048576 ∧ p.2.size ≤ 1048576) := fun i p hp => by
    have h1 := tot_take cs i p hp
    have h2 := tot_le cs (i + 1)
    have h3 := (List.getElem?_eq_some_iff.1 hp).1
    omega
  have hl0 : cs.length ≤ 1048577 := by omega
  have HS := hid hs
  clear hs h0
  go_enter Tryd.func44, Tryd.ntmps44
  go_wp2_with fail
  go_loopg [9] cs.length (fun q i wr => ∃ k : Nat, k ≤ cs.length ∧ cs.length - k ≤ q ∧ i = .int .i64 k ∧ Hid (∀ i, i < k → goodC cs i) ∧ Below w.heap.size w wr ∧ w.heap.size < wr.heap.size ∧ wr.heap[w.heap.size]? = some (.cells #[.slice a cs.length cap, .slice yi n c1] 42 (0, 0)))
  case atStart => exact ⟨0, Nat.zero_le _, by simp, rfl, (fun i h => by omega), (Below.refl _ _).alloc (Nat.le_refl _) _, by simp, heap_alloc_new _ _⟩
  case round =>
    obtain ⟨k, hk, hq, rfl, hgood, hb, hz, hbox⟩ := hrel
    have HB := hid hb
    have HGD := hid hgood
    have hbz := hb.size
    clear hb hgood
    have HBOX := hid hbox
    have kb0 := heap_cell hbox 0
    clear hbox
    by_cases hlt : k < cs.length
    · obtain ⟨⟨x, y⟩, hp⟩ : ∃ p, cs[k]? = some p := ⟨_, List.getElem?_eq_getElem hlt⟩
      obtain ⟨b, off, rfl, k0, k1, z0, z1, hbl⟩ := sp_at (HS.out.below HB.out) hp
      obtain ⟨hs1, hs2⟩ := hbd.out k _ hp
      obtain ⟨l, rfl, hxl⟩ : ∃ l : List UInt8, x = ⟨l.toArray⟩ ∧ x.size = l.length := ⟨x.data.toList, rfl, by simp⟩
      obtain ⟨s, rfl, hyl⟩ : ∃ l : List UInt8, y = ⟨l.toArray⟩ ∧ y.size = l.length := ⟨y.data.toList, rfl, by simp⟩
      have HP := hid hp
      dsimp only at hs1 hs2
      have hll : l.length ≤ 1048576 := by omega
      have hsl : s.length ≤ 1048576 := by omega
      clear hp hs1 hs2 z0 z1 hxl hyl
      cases hv : isCapL l with
      | false =>
        have HV := hid hv
        have HR : Hid (clB cs = false) := clB_no hlt (bad_cap HP.out hv)
        clear hv
        go_wp2
        go_quiet ((go_at_call 36; exact Calls.quiet_of_same (isClass_q HV.out _ (by omega))))
        go_wp2
        go_ret
        exact ⟨ret_bool HR.out.symm, below_drewN (HB.out.alloc (by omega) _) _⟩
      | true =>
        obtain ⟨c, rfl⟩ : ∃ c, l = [c] := by
          match l, hv with
          | [c], _ => exact ⟨c, rfl⟩
        have HV := hid hv
        have hcap1 : Hid (isCap c = true) := hv
        clear hv
        match k, hk, hlt, hq, k0, k1, HP, HGD with
        | 0, hk, hlt, hq, k0, k1, HP, HGD =>
          simp only [Nat.zero_mul, Nat.add_zero] at k0 k1
          go_wp2
          go_quiet ((go_at_call 36; exact Calls.quiet_of_same (isClass_q HV.out _ (by simp))))
          go_wp2_with fail
          have HBW : Hid (Below w.heap.size w ((wr.alloc (.cells #[.string ⟨#[c]⟩, .string ⟨s.toArray⟩] 69)).drewN nq)) := below_drewN (HB.out.alloc (by omega) _) _
          have HX4 : Hid (((wr.alloc (.cells #[.string ⟨#[c]⟩, .string ⟨s.toArray⟩] 69)).drewN nq).heap[wr.heap.size]? = some (.cells #[.string ⟨#[c]⟩, .string ⟨s.toArray⟩] 69 (0, 0))) := (heap_drewN _ _ _).trans (heap_alloc_new _ _)
          have HX1 : Hid (((wr.alloc (.cells #[.string ⟨#[c]⟩, .string ⟨s.toArray⟩] 69)).drewN nq).heap[w.heap.size]? = some (.cells #[.slice (some ⟨b, off, none⟩) cs.length cap, .slice yi n c1] 42 (0, 0))) := (heap_drewN _ _ _).trans (hb_alloc HBOX.out _)
          clear k0 k1 kb0
          generalize ((wr.alloc (.cells #[.string ⟨#[c]⟩, .string ⟨s.toArray⟩] 69)).drewN nq) = W at *
          obtain ⟨b4, hb4⟩ : ∃ x, x = wr.heap.size := ⟨_, rfl⟩
          rw [← hb4] at HX4
          rw [← hb4]
          have hb4z : w.heap.size ≤ b4 := by omega
          clear hb4
          go_loopg [37] s.length (fun q i wr => ∃ m : Nat, m ≤ s.length ∧ s.length - m ≤ q ∧ i = .int .i64 m ∧ Hid (∀ t, t < m → goodS (cs.take 0) s t) ∧ Below W.heap.size W wr)
          case atStart => exact ⟨0, Nat.zero_le _, by simp, rfl, (fun t h => by omega), Below.refl _ _⟩
          case round =>
            obtain ⟨m, hm, hmq, rfl, hgs, hb⟩ := hrel
            have HBX := hid hb
            have HGS := hid hgs
            have hbzx := hb.size
            clear hb hgs
            have kx0 : wr.cell? ⟨w.heap.size, 0, none⟩ = some (.slice (some ⟨b, off, none⟩) cs.length cap) := (HBX.out.cell (p := ⟨w.heap.size, 0, none⟩) (lt_of_heap HX1.out)).trans (heap_cell HX1.out 0)
            have kx1 : wr.cell? ⟨b4, 1, none⟩ = some (.string ⟨s.toArray⟩) := (HBX.out.cell (p := ⟨b4, 1, none⟩) (lt_of_heap HX4.out)).trans (heap_cell HX4.out 1)
            have HBT : Hid (Below w.heap.size w wr) := HBW.out.trans (HBX.out.mono HBW.out.size)
            have hjc : 0 ≤ (cap : Int) := by omega
            by_cases hltm : m < s.length
            · obtain ⟨e, he⟩ : ∃ e, s[m]? = some e := ⟨_, List.getElem?_eq_getElem hltm⟩
              have HE := hid he
              have hsub := fun X => run_sub s m e he hsl X
              have HSK : Hid (SP wr.drew (.slice (some ⟨b, off, none⟩) 0 cap) (cs.take 0)) := sp_take (HS.out.below (below_drew1 HBT.out)) (by omega)
              have HLK : Hid ((cs.take 0).length = 0) := by show _ = _; rw [List.length_take]; omega
              clear he
              cases hkn : knownB (cs.take 0) ⟨#[e]⟩ with
              | false =>
                have HKN := hid hkn
                have HR : Hid (clB cs = false) := clB_no hlt (bad_sup HP.out hltm (bad_known HE.out hkn))
                clear hkn
                go_wp2_with fail
                refine wp_region_any (by kernel_rfl) ?_
                change wpAny _ _ _ _ _ _ _ (World.drew _)
                have SX : wr.drew.cell? ⟨w.heap.size, 0, none⟩ = some (.slice (some ⟨b, off, none⟩) cs.length cap) ∧ wr.drew.cell? ⟨b4, 1, none⟩ = some (.string ⟨s.toArray⟩) := ⟨kx0, kx1⟩
                refine wpAny_of_T (S := fun X => X.cell? ⟨w.heap.size, 0, none⟩ = some (.slice (some ⟨b, off, none⟩) cs.length cap) ∧ X.cell? ⟨b4, 1, none⟩ = some (.string ⟨s.toArray⟩)) (m := 28) _ _ _ _ ?_
                refine wpAnyT_take (i := 0) (v := .pointer (some ⟨w.heap.size, 0, none⟩)) rfl (by kernel_rfl) (by kernel_rfl) (by kernel_rfl) (by kernel_rfl) (fun _ _ _ h => h) (Or.inl ⟨by kernel_rfl, fun X hS => by clear kx0 kx1; obtain ⟨e0, e1⟩ := hS; go_simp⟩) SX ?_
                try go_simp
                refine wpAnyT_take (i := 1) (v := .slice (some ⟨b, off, none⟩) cs.length cap) rfl (by kernel_rfl) (by kernel_rfl) (by kernel_rfl) (by kernel_rfl) (fun _ _ _ h => h) (Or.inl ⟨by kernel_rfl, fun X hS => by clear kx0 kx1; obtain ⟨e0, e1⟩ := hS; go_simp⟩) SX ?_
                try go_simp
                refine wpAnyT_take (i := 2) (v := .int .i64 0) rfl (by kernel_rfl) (by kernel_rfl) (by kernel_rfl) (by kernel_rfl) (fun _ _ _ h => h) (Or.inl ⟨by kernel_rfl, fun X hS => by clear kx0 kx1; obtain ⟨e0, e1⟩ := hS; go_simp⟩) SX ?_
                try go_simp
                refine wpAnyT_take (i := 3) (v := .slice (some ⟨b, off, none⟩) 0 cap) rfl (by kernel_rfl) (by kernel_rfl) (by kernel_rfl) (by kernel_rfl) (fun _ _ _ h => h) (Or.inl ⟨by kernel_rfl, fun X hS => by clear kx0 kx1; obtain ⟨e0, e1⟩ := hS; go_simp; (try (intro hq; omega))⟩) SX ?_
                try go_simp
                refine wpAnyT_take (i := 4) (v := .pointer (some ⟨b4, 1, none⟩)) rfl (by kernel_rfl) (by kernel_rfl) (by kernel_rfl) (by kernel_rfl) (fun _ _ _ h => h) (Or.inl ⟨by kernel_rfl, fun X hS => by clear kx0 kx1; obtain ⟨e0, e1⟩ := hS; go_simp⟩) SX ?_
                try go_simp
                refine wpAnyT_take (i := 5) (v := .string ⟨s.toArray⟩) rfl (by kernel_rfl) (by kernel_rfl) (by kernel_rfl) (by kernel_rfl) (fun _ _ _ h => h) (Or.inl ⟨by kernel_rfl, fun X hS => by clear kx0 kx1; obtain ⟨e0, e1⟩ := hS; go_simp⟩) SX ?_
                try go_simp
                refine wpAnyT_take (i := 6) (v := .int .i64 m) rfl (by kernel_rfl) (by kernel_rfl) (by kernel_rfl) (by kernel_rfl) (fun _ _ _ h => h) (Or.inl ⟨by kernel_rfl, fun X hS => by clear kx0 kx1; obtain ⟨e0, e1⟩ := hS; go_simp⟩) SX ?_
                try go_simp
                refine wpAnyT_take (i := 7) (v := .int .i64 m) rfl (by kernel_rfl) (by kernel_rfl) (by kernel_rfl) (by kernel_rfl) (fun _ _ _ h => h) (Or.inl ⟨by kernel_rfl, fun X hS => by clear kx0 kx1; obtain ⟨e0, e1⟩ := hS; go_simp⟩) SX ?_
                try go_simp
                refine wpAnyT_take (i := 8) (v := .int .i64 (m + 1)) rfl (by kernel_rfl) (by kernel_rfl) (by kernel_rfl) (by kernel_rfl) (fun _ _ _ h => h) (Or.inl ⟨by kernel_rfl, fun X hS => by clear kx0 kx1; clear hS; go_simp; try exact IntWalk.i64_in _ (by omega)⟩) SX ?_
                try go_simp
                refine wpAnyT_take (i := 9) (v := .string ⟨#[e]⟩) rfl (by kernel_rfl) (by kernel_rfl) (by kernel_rfl) (by kernel_rfl) (fun _ _ _ h => h) (Or.inl ⟨by kernel_rfl, fun X hS => by clear kx0 kx1; obtain ⟨e0, e1⟩ := hS; go_simp⟩) SX ?_
                try go_simp
                refine wpAnyT_one 10 rfl (by kernel_rfl) (fun K hK => ?_)
                go_simp
                refine (known_any _ (cs.take 0) ⟨#[e]⟩ wr.drew HSK.out).mono ?_
                rintro e1 w1 ⟨rfl, hb⟩
                have HB1 : Hid (Below W.heap.size W w1) := (HBX.out.drew).trans (hb.mono HBX.out.size)
                have SY : w1.cell? ⟨w.heap.size, 0, none⟩ = some (.slice (some ⟨b, off, none⟩) cs.length cap) ∧ w1.cell? ⟨b4, 1, none⟩ = some (.string ⟨s.toArray⟩) := ⟨(hb.cell (lt_of_cell SX.1)).trans SX.1, (hb.cell (lt_of_cell SX.2)).trans SX.2⟩
                clear hb
                rw [HKN.out]
                refine hK _ _ (fun _ => SY) ?_
                clear hK K
                refine wpAnyT_take (i := 11) (v := .bool true) rfl (by kernel_rfl) (by kernel_rfl) (by kernel_rfl) (by kernel_rfl) (fun _ _ _ h => h) (Or.inl ⟨by kernel_rfl, fun X hS => by clear kx0 kx1; obtain ⟨e0, e1⟩ := hS; go_simp⟩) SY ?_
                try go_simp
                refine wpAnyT_take (i := 12) (v := .bool true) rfl (by kernel_rfl) (by kernel_rfl) (by kernel_rfl) (by kernel_rfl) (fun _ _ _ h => h) (Or.inl ⟨by kernel_rfl, fun X hS => by clear kx0 kx1; obtain ⟨e0, e1⟩ := hS; go_simp⟩) SY ?_
                try go_simp
                refine wpAnyT_take (i := 13) (v := undef) rfl (by kernel_rfl) (by kernel_rfl) (by kernel_rfl) (by kernel_rfl) (fun _ _ _ h => h) (Or.inr ⟨by kernel_rfl, rfl⟩) SY ?_
                try go_simp
                refine wpAnyT_take (i := 14) (v := undef) rfl (by kernel_rfl) (by kernel_rfl) (by kernel_rfl) (by kernel_rfl) (fun _ _ _ h => h) (Or.inr ⟨by kernel_rfl, rfl⟩) SY ?_
                try go_simp
                refine wpAnyT_take (i := 15) (v := undef) rfl (by kernel_rfl) (by kernel_rfl) (by kernel_rfl) (by kernel_rfl) (fun _ _ _ h => h) (Or.inr ⟨by kernel_rfl, rfl⟩) SY ?_
                try go_simp
                refine wpAnyT_take (i := 16) (v := undef) rfl (by kernel_rfl) (by kernel_rfl) (by kernel_rfl) (by kernel_rfl) (fun _ _ _ h => h) (Or.inr ⟨by kernel_rfl, rfl⟩) SY ?_
                try go_simp
                refine wpAnyT_take (i := 17) (v := undef) rfl (by kernel_rfl) (by kernel_rfl) (by kernel_rfl) (by kernel_rfl) (fun _ _ _ h => h) (Or.inr ⟨by kernel_rfl, rfl⟩) SY ?_
                try go_simp
                refine wpAnyT_take (i := 18) (v := undef) rfl (by kernel_rfl) (by kernel_rfl) (by kernel_rfl) (by kernel_rfl) (fun _ _ _ h => h) (Or.inr ⟨by kernel_rfl, rfl⟩) SY ?_
                try go_simp
                refine wpAnyT_take (i := 19) (v := undef) rfl (by kernel_rfl) (by kernel_rfl) (by kernel_rfl) (by kernel_rfl) (fun _ _ _ h => h) (Or.inr ⟨by kernel_rfl, rfl⟩) SY ?_
                try go_simp
                refine wpAnyT_take (i := 20) (v := undef) rfl (by kernel_rfl) (by kernel_rfl) (by kernel_rfl) (by kernel_rfl) (fun _ _ _ h => h) (Or.inr ⟨by kernel_rfl, rfl⟩) SY ?_
                try go_simp
                refine wpAnyT_take (i := 21) (v := undef) rfl (by kernel_rfl) (by kernel_rfl) (by kernel_rfl) (by kernel_rfl) (fun _ _ _ h => h) (Or.inr ⟨by kernel_rfl, rfl⟩) SY ?_
                try go_simp
                refine wpAnyT_take (i := 22) (v := undef) rfl (by kernel_rfl) (by kernel_rfl) (by kernel_rfl) (by kernel_rfl) (fun _ _ _ h => h) (Or.inr ⟨by kernel_rfl, rfl⟩) SY ?_
                try go_simp
                refine wpAnyT_take (i := 23) (v := undef) rfl (by kernel_rfl) (by kernel_rfl) (by kernel_rfl) (by kernel_rfl) (fun _ _ _ h => h) (Or.inr ⟨by kernel_rfl, rfl⟩) SY ?_
                try go_simp
                refine wpAnyT_take (i := 24) (v := undef) rfl (by kernel_rfl) (by kernel_rfl) (by kernel_rfl) (by kernel_rfl) (fun _ _ _ h => h) (Or.inr ⟨by kernel_rfl, rfl⟩) SY ?_
                try go_simp
                refine wpAnyT_take (i := 25) (v := undef) rfl (by kernel_rfl) (by kernel_rfl) (by kernel_rfl) (by kernel_rfl) (fun _ _ _ h => h) (Or.inr ⟨by kernel_rfl, rfl⟩) SY ?_
                try go_simp
                refine wpAnyT_take (i := 26) (v := undef) rfl (by kernel_rfl) (by kernel_rfl) (by kernel_rfl) (by kernel_rfl) (fun _ _ _ h => h) (Or.inr ⟨by kernel_rfl, rfl⟩) SY ?_
                try go_simp
                refine wpAnyT_take (i := 27) (v := .bool true) rfl (by kernel_rfl) (by kernel_rfl) (by kernel_rfl) (by kernel_rfl) (fun _ _ _ h => h) (Or.inl ⟨by kernel_rfl, fun X hS => by clear kx0 kx1; obtain ⟨e0, e1⟩ := hS; go_simp⟩) SY ?_
                try go_simp
                refine wpAnyT_drop _ 28 _ _ _ (by decide) (by kernel_rfl) ?_
                change wpList _ _ _ [] _ _
                clear SX SY kx0 kx1
                go_wp2
                go_ret
                exact ⟨ret_bool HR.out.symm, HBW.out.trans (HB1.out.mono HBW.out.size)⟩
              | true => exact absurd hkn (by simp [knownB])
            · have hme : m = s.length := by omega
              have HGC : Hid (∀ i, i < 0 + 1 → goodC cs i) := fun i hi => by
                by_cases e1 : i < 0
                · exact HGD.out i e1
                · obtain rfl : i = 0 := by omega
                  exact ⟨c, s, HP.out, hcap1.out, fun j h => by omega, fun t ht => HGS.out t (by omega)⟩
              clear kx1
              go_wp2_with fail
              go_roundg (cs.length - (0 + 1))
              case measure => omega
              case rel => exact ⟨0 + 1, by omega, by omega, by go_num, HGC.out, HBT.out, (by have := HBT.out.size; have := lt_of_heap HX1.out; omega), below_heap HBX.out (lt_of_heap HX1.out) HX1.out⟩
        | j + 1, hk, hlt, hq, k0, k1, HP, HGD =>
          obtain ⟨d, z, hd, hdv, -, -⟩ := HGD.out j (by omega)
          obtain ⟨b', off', eb, kp, -, -, -, -⟩ := sp_at (HS.out.below HB.out) hd
          cases eb
          have HD := hid hd
          have hjb : j + 1 < cs.length := hlt
          clear hd hdv
          by_cases hlt2 : d.toNat < c.toNat
          · have hge : ∀ X : World, (binOp .geq 9 (.string ⟨#[d]⟩) (.string ⟨#[c]⟩)).run Tryd.prog X = .ok (.bool false) X := fun X => by rw [geq1, decide_eq_false (by omega)]
            go_wp2
            go_quiet ((go_at_call 36; exact Calls.quiet_of_same (isClass_q HV.out _ (by simp))))
            go_wp2_with fail
            have HBW : Hid (Below w.heap.size w ((wr.alloc (.cells #[.string ⟨#[c]⟩, .string ⟨s.toArray⟩] 69)).drewN nq)) := below_drewN (HB.out.alloc (by omega) _) _
            have HX4 : Hid (((wr.alloc (.cells #[.string ⟨#[c]⟩, .string ⟨s.toArray⟩] 69)).drewN nq).heap[wr.heap.size]? = some (.cells #[.string ⟨#[c]⟩, .string ⟨s.toArray⟩] 69 (0, 0))) := (heap_drewN _ _ _).trans (heap_alloc_new _ _)
            have HX1 : Hid (((wr.alloc (.cells #[.string ⟨#[c]⟩, .string ⟨s.toArray⟩] 69)).drewN nq).heap[w.heap.size]? = some (.cells #[.slice (some ⟨b, off, none⟩) cs.length cap, .slice yi n c1] 42 (0, 0))) := (heap_drewN _ _ _).trans (hb_alloc HBOX.out _)
            clear k0 k1 kb0
            generalize ((wr.alloc (.cells #[.string ⟨#[c]⟩, .string ⟨s.toArray⟩] 69)).drewN nq) = W at *
            obtain ⟨b4, hb4⟩ : ∃ x, x = wr.heap.size := ⟨_, rfl⟩
            rw [← hb4] at HX4
            rw [← hb4]
            have hb4z : w.heap.size ≤ b4 := by omega
            clear hb4
            have hjlt : (j : Int) + 1 < (cs.length : Int) := by omega
            try rw [decide_eq_true hjlt]
            go_loopg [37] s.length (fun q i wr => ∃ m : Nat, m ≤ s.length ∧ s.length - m ≤ q ∧ i = .int .i64 m ∧ Hid (∀ t, t < m → goodS (cs.take (j + 1)) s t) ∧ Below W.heap.size W wr)
            case atStart => exact ⟨0, Nat.zero_le _, by simp, rfl, (fun t h => by omega), Below.refl _ _⟩
            case round =>
              obtain ⟨m, hm, hmq, rfl, hgs, hb⟩ := hrel
              have HBX := hid hb
              have HGS := hid hgs
              have hbzx := hb.size
              clear hb hgs
              have kx0 : wr.cell? ⟨w.heap.size, 0, none⟩ = some (.slice (some ⟨b, off, none⟩) cs.length cap) := (HBX.out.cell (p := ⟨w.heap.size, 0, none⟩) (lt_of_heap HX1.out)).trans (heap_cell HX1.out 0)
              have kx1 : wr.cell? ⟨b4, 1, none⟩ = some (.string ⟨s.toArray⟩) := (HBX.out.cell (p := ⟨b4, 1, none⟩) (lt_of_heap HX4.out)).trans (heap_cell HX4.out 1)
              have HBT : Hid (Below w.heap.size w wr) := HBW.out.trans (HBX.out.mono HBW.out.size)
              have hjc : ((j : Int) + 1) ≤ (cap : Int) := by omega
              by_cases hltm : m < s.length
              · obtain ⟨e, he⟩ : ∃ e, s[m]? = some e := ⟨_, List.getElem?_eq_getElem hltm⟩
                have HE := hid he
                have hsub := fun X => run_sub s m e he hsl X
                have HSK : Hid (SP wr.drew (.slice (some ⟨b, off, none⟩) (j + 1) cap) (cs.take (j + 1))) := sp_take (HS.out.below (below_drew1 HBT.out)) (by omega)
                have HLK : Hid ((cs.take (j + 1)).length = (j + 1)) := by show _ = _; rw [List.length_take]; omega
                clear he
                cases hkn : knownB (cs.take (j + 1)) ⟨#[e]⟩ with
                | false =>
                  have HKN := hid hkn
                  have HR : Hid (clB cs = false) := clB_no hlt (bad_sup HP.out hltm (bad_known HE.out hkn))
                  clear hkn
                  go_wp2_with fail
                  refine wp_region_any (by kernel_rfl) ?_
                  change wpAny _ _ _ _ _ _ _ (World.drew _)
                  have SX : wr.drew.cell? ⟨w.heap.size, 0, none⟩ = some (.slice (some ⟨b, off, none⟩) cs.length cap) ∧ wr.drew.cell? ⟨b4, 1, none⟩ = some (.string ⟨s.toArray⟩) := ⟨kx0, kx1⟩
                  refine wpAny_of_T (S := fun X => X.cell? ⟨w.heap.size, 0, none⟩ = some (.slice (some ⟨b, off, none⟩) cs.length cap) ∧ X.cell? ⟨b4, 1, none⟩ = some (.string ⟨s.toArray⟩)) (m := 28) _ _ _ _ ?_
                  refine wpAnyT_take (i := 0) (v := .pointer (some ⟨w.heap.size, 0, none⟩)) rfl (by kernel_rfl) (by kernel_rfl) (by kernel_rfl) (by kernel_rfl) (fun _ _ _ h => h) (Or.inl ⟨by kernel_rfl, fun X hS => by clear kx0 kx1; obtain ⟨e0, e1⟩ := hS; go_simp⟩) SX ?_
                  try go_simp
                  refine wpAnyT_take (i := 1) (v := .slice (some ⟨b, off, none⟩) cs.length cap) rfl (by kernel_rfl) (by kernel_rfl) (by kernel_rfl) (by kernel_rfl) (fun _ _ _ h => h) (Or.inl ⟨by kernel_rfl, fun X hS => by clear kx0 kx1; obtain ⟨e0, e1⟩ := hS; go_simp⟩) SX ?_
                  try go_simp
                  refine wpAnyT_take (i := 2) (v := .int .i64 ((j : Int) + 1)) rfl (by kernel_rfl) (by kernel_rfl) (by kernel_rfl) (by kernel_rfl) (fun _ _ _ h => h) (Or.inl ⟨by kernel_rfl, fun X hS => by clear kx0 kx1; obtain ⟨e0, e1⟩ := hS; go_simp⟩) SX ?_
                  try go_simp
                  refine wpAnyT_take (i := 3) (v := .slice (some ⟨b, off, none⟩) (j + 1) cap) rfl (by kernel_rfl) (by kernel_rfl) (by kernel_rfl) (by kernel_rfl) (fun _ _ _ h => h) (Or.inl ⟨by kernel_rfl, fun X hS => by clear kx0 kx1; obtain ⟨e0, e1⟩ := hS; go_simp; (try (intro hq; omega))⟩) SX ?_
                  try go_simp
                  refine wpAnyT_take (i := 4) (v := .pointer (some ⟨b4, 1, none⟩)) rfl (by kernel_rfl) (by kernel_rfl) (by kernel_rfl) (by kernel_rfl) (fun _ _ _ h => h) (Or.inl ⟨by kernel_rfl, fun X hS => by clear kx0 kx1; obtain ⟨e0, e1⟩ := hS; go_simp⟩) SX ?_
                  try go_simp
                  refine wpAnyT_take (i := 5) (v := .string ⟨s.toArray⟩) rfl (by kernel_rfl) (by kernel_rfl) (by kernel_rfl) (by kernel_rfl) (fun _ _ _ h => h) (Or.inl ⟨by kernel_rfl, fun X hS => by clear kx0 kx1; obtain ⟨e0, e1⟩ := hS; go_simp⟩) SX ?_
                  try go_simp
                  refine wpAnyT_take (i := 6) (v := .int .i64 m) rfl (by kernel_rfl) (by kernel_rfl) (by kernel_rfl) (by kernel_rfl) (fun _ _ _ h => h) (Or.inl ⟨by kernel_rfl, fun X hS => by clear kx0 kx1; obtain ⟨e0, e1⟩ := hS; go_simp⟩) SX ?_
                  try go_simp
                  refine wpAnyT_take (i := 7) (v := .int .i64 m) rfl (by kernel_rfl) (by kernel_rfl) (by kernel_rfl) (by kernel_rfl) (fun _ _ _ h => h) (Or.inl ⟨by kernel_rfl, fun X hS => by clear kx0 kx1; obtain ⟨e0, e1⟩ := hS; go_simp⟩) SX ?_
                  try go_simp
                  refine wpAnyT_take (i := 8) (v := .int .i64 (m + 1)) rfl (by kernel_rfl) (by kernel_rfl) (by kernel_rfl) (by kernel_rfl) (fun _ _ _ h => h) (Or.inl ⟨by kernel_rfl, fun X hS => by clear kx0 kx1; clear hS; go_simp; try exact IntWalk.i64_in _ (by omega)⟩) SX ?_
                  try go_simp
                  refine wpAnyT_take (i := 9) (v := .string ⟨#[e]⟩) rfl (by kernel_rfl) (by kernel_rfl) (by kernel_rfl) (by kernel_rfl) (fun _ _ _ h => h) (Or.inl ⟨by kernel_rfl, fun X hS => by clear kx0 kx1; obtain ⟨e0, e1⟩ := hS; go_simp⟩) SX ?_
                  try go_simp
                  refine wpAnyT_one 10 rfl (by kernel_rfl) (fun K hK => ?_)
                  go_simp
                  refine (known_any _ (cs.take (j + 1)) ⟨#[e]⟩ wr.drew HSK.out).mono ?_
                  rintro e1 w1 ⟨rfl, hb⟩
                  have HB1 : Hid (Below W.heap.size W w1) := (HBX.out.drew).trans (hb.mono HBX.out.size)
                  have SY : w1.cell? ⟨w.heap.size, 0, none⟩ = some (.slice (some ⟨b, off, none⟩) cs.length cap) ∧ w1.cell? ⟨b4, 1, none⟩ = some (.string ⟨s.toArray⟩) := ⟨(hb.cell (lt_of_cell SX.1)).trans SX.1, (hb.cell (lt_of_cell SX.2)).trans SX.2⟩
                  clear hb
                  rw [HKN.out]
                  refine hK _ _ (fun _ => SY) ?_
                  clear hK K
                  refine wpAnyT_take (i := 11) (v := .bool true) rfl (by kernel_rfl) (by kernel_rfl) (by kernel_rfl) (by kernel_rfl) (fun _ _ _ h => h) (Or.inl ⟨by kernel_rfl, fun X hS => by clear kx0 kx1; obtain ⟨e0, e1⟩ := hS; go_simp⟩) SY ?_
                  try go_simp
                  refine wpAnyT_take (i := 12) (v := .bool true) rfl (by kernel_rfl) (by kernel_rfl) (by kernel_rfl) (by kernel_rfl) (fun _ _ _ h => h) (Or.inl ⟨by kernel_rfl, fun X hS => by clear kx0 kx1; obtain ⟨e0, e1⟩ := hS; go_simp⟩) SY ?_
                  try go_simp
                  refine wpAnyT_take (i := 13) (v := undef) rfl (by kernel_rfl) (by kernel_rfl) (by kernel_rfl) (by kernel_rfl) (fun _ _ _ h => h) (Or.inr ⟨by kernel_rfl, rfl⟩) SY ?_
                  try go_simp
                  refine wpAnyT_take (i := 14) (v := undef) rfl (by kernel_rfl) (by kernel_rfl) (by kernel_rfl) (by kernel_rfl) (fun _ _ _ h => h) (Or.inr ⟨by kernel_rfl, rfl⟩) SY ?_
                  try go_simp
                  refine wpAnyT_take (i := 15) (v := undef) rfl (by kernel_rfl) (by kernel_rfl) (by kernel_rfl) (by kernel_rfl) (fun _ _ _ h => h) (Or.inr ⟨by kernel_rfl, rfl⟩) SY ?_
                  try go_simp
                  refine wpAnyT_take (i := 16) (v := undef) rfl (by kernel_rfl) (by kernel_rfl) (by kernel_rfl) (by kernel_rfl) (fun _ _ _ h => h) (Or.inr ⟨by kernel_rfl, rfl⟩) SY ?_
                  try go_simp
                  refine wpAnyT_take (i := 17) (v := undef) rfl (by kernel_rfl) (by kernel_rfl) (by kernel_rfl) (by kernel_rfl) (fun _ _ _ h => h) (Or.inr ⟨by kernel_rfl, rfl⟩) SY ?_
                  try go_simp
                  refine wpAnyT_take (i := 18) (v := undef) rfl (by kernel_rfl) (by kernel_rfl) (by kernel_rfl) (by kernel_rfl) (fun _ _ _ h => h) (Or.inr ⟨by kernel_rfl, rfl⟩) SY ?_
                  try go_simp
                  refine wpAnyT_take (i := 19) (v := undef) rfl (by kernel_rfl) (by kernel_rfl) (by kernel_rfl) (by kernel_rfl) (fun _ _ _ h => h) (Or.inr ⟨by kernel_rfl, rfl⟩) SY ?_
                  try go_simp
                  refine wpAnyT_take (i := 20) (v := undef) rfl (by kernel_rfl) (by kernel_rfl) (by kernel_rfl) (by kernel_rfl) (fun _ _ _ h => h) (Or.inr ⟨by kernel_rfl, rfl⟩) SY ?_
                  try go_simp
                  refine wpAnyT_take (i := 21) (v := undef) rfl (by kernel_rfl) (by kernel_rfl) (by kernel_rfl) (by kernel_rfl) (fun _ _ _ h => h) (Or.inr ⟨by kernel_rfl, rfl⟩) SY ?_
                  try go_simp
                  refine wpAnyT_take (i := 22) (v := undef) rfl (by kernel_rfl) (by kernel_rfl) (by kernel_rfl) (by kernel_rfl) (fun _ _ _ h => h) (Or.inr ⟨by kernel_rfl, rfl⟩) SY ?_
                  try go_simp
                  refine wpAnyT_take (i := 23) (v := undef) rfl (by kernel_rfl) (by kernel_rfl) (by kernel_rfl) (by kernel_rfl) (fun _ _ _ h => h) (Or.inr ⟨by kernel_rfl, rfl⟩) SY ?_
                  try go_simp
                  refine wpAnyT_take (i := 24) (v := undef) rfl (by kernel_rfl) (by kernel_rfl) (by kernel_rfl) (by kernel_rfl) (fun _ _ _ h => h) (Or.inr ⟨by kernel_rfl, rfl⟩) SY ?_
                  try go_simp
                  refine wpAnyT_take (i := 25) (v := undef) rfl (by kernel_rfl) (by kernel_rfl) (by kernel_rfl) (by kernel_rfl) (fun _ _ _ h => h) (Or.inr ⟨by kernel_rfl, rfl⟩) SY ?_
                  try go_simp
                  refine wpAnyT_take (i := 26) (v := undef) rfl (by kernel_rfl) (by kernel_rfl) (by kernel_rfl) (by kernel_rfl) (fun _ _ _ h => h) (Or.inr ⟨by kernel_rfl, rfl⟩) SY ?_
                  try go_simp
                  refine wpAnyT_take (i := 27) (v := .bool true) rfl (by kernel_rfl) (by kernel_rfl) (by kernel_rfl) (by kernel_rfl) (fun _ _ _ h => h) (Or.inl ⟨by kernel_rfl, fun X hS => by clear kx0 kx1; obtain ⟨e0, e1⟩ := hS; go_simp⟩) SY ?_
                  try go_simp
                  refine wpAnyT_drop _ 28 _ _ _ (by decide) (by kernel_rfl) ?_
                  change wpList _ _ _ [] _ _
                  clear SX SY kx0 kx1
                  go_wp2
                  go_ret
                  exact ⟨ret_bool HR.out.symm, HBW.out.trans (HB1.out.mono HBW.out.size)⟩
                | true =>
                  have HKN := hid hkn
                  clear hkn
                  match m, hm, hmq, hltm, hsub, HE, HGS with
                  | 0, hm, hmq, hltm, hsub, HE, HGS =>
                    have HN : Hid (∀ t, t < 0 + 1 → goodS (cs.take (j + 1)) s t) := fun t ht => by
                      obtain rfl : t = 0 := by omega
                      exact ⟨e, HE.out, HKN.out, fun j d h => by omega⟩
                    have hsub0 : ∀ X : World, (Instr.slice 9 (.string ⟨s.toArray⟩) (some (.int .i64 0)) (some (.int .i64 1)) none).run Tryd.prog X = .ok (.string ⟨#[e]⟩) X := fun X => by have := hsub X; simpa using this
                    go_wp2_with fail
                    refine wp_region_any (by kernel_rfl) ?_
                    change wpAny _ _ _ _ _ _ _ (World.drew _)
                    have SX : wr.drew.cell? ⟨w.heap.size, 0, none⟩ = some (.slice (some ⟨b, off, none⟩) cs.length cap) ∧ wr.drew.cell? ⟨b4, 1, none⟩ = some (.string ⟨s.toArray⟩) := ⟨kx0, kx1⟩
                    refine wpAny_of_T (S := fun X => X.cell? ⟨w.heap.size, 0, none⟩ = some (.slice (some ⟨b, off, none⟩) cs.length cap) ∧ X.cell? ⟨b4, 1, none⟩ = some (.string ⟨s.toArray⟩)) (m := 28) _ _ _ _ ?_
                    refine wpAnyT_take (i := 0) (v := .pointer (some ⟨w.heap.size, 0, none⟩)) rfl (by kernel_rfl) (by kernel_rfl) (by kernel_rfl) (by kernel_rfl) (fun _ _ _ h => h) (Or.inl ⟨by kernel_rfl, fun X hS => by clear kx0 kx1; obtain ⟨e0, e1⟩ := hS; go_simp⟩) SX ?_
                    try go_simp
                    refine wpAnyT_take (i := 1) (v := .slice (some ⟨b, off, none⟩) cs.length cap) rfl (by kernel_rfl) (by kernel_rfl) (by kernel_rfl) (by kernel_rfl) (fun _ _ _ h => h) (Or.inl ⟨by kernel_rfl, fun X hS => by clear kx0 kx1; obtain ⟨e0, e1⟩ := hS; go_simp⟩) SX ?_
                    try go_simp
                    refine wpAnyT_take (i := 2) (v := .int .i64 ((j : Int) + 1)) rfl (by kernel_rfl) (by kernel_rfl) (by kernel_rfl) (by kernel_rfl) (fun _ _ _ h => h) (Or.inl ⟨by kernel_rfl, fun X hS => by clear kx0 kx1; obtain ⟨e0, e1⟩ := hS; go_simp⟩) SX ?_
                    try go_simp
                    refine wpAnyT_take (i := 3) (v := .slice (some ⟨b, off, none⟩) (j + 1) cap) rfl (by kernel_rfl) (by kernel_rfl) (by kernel_rfl) (by kernel_rfl) (fun _ _ _ h => h) (Or.inl ⟨by kernel_rfl, fun X hS => by clear kx0 kx1; obtain ⟨e0, e1⟩ := hS; go_simp; (try (intro hq; omega))⟩) SX ?_
                    try go_simp
                    refine wpAnyT_take (i := 4) (v := .pointer (some ⟨b4, 1, none⟩)) rfl (by kernel_rfl) (by kernel_rfl) (by kernel_rfl) (by kernel_rfl) (fun _ _ _ h => h) (Or.inl ⟨by kernel_rfl, fun X hS => by clear kx0 kx1; obtain ⟨e0, e1⟩ := hS; go_simp⟩) SX ?_
                    try go_simp
                    refine wpAnyT_take (i := 5) (v := .string ⟨s.toArray⟩) rfl (by kernel_rfl) (by kernel_rfl) (by kernel_rfl) (by kernel_rfl) (fun _ _ _ h => h) (Or.inl ⟨by kernel_rfl, fun X hS => by clear kx0 kx1; obtain ⟨e0, e1⟩ := hS; go_simp⟩) SX ?_
                    try go_simp
                    refine wpAnyT_take (i := 6) (v := .int .i64 0) rfl (by kernel_rfl) (by kernel_rfl) (by kernel_rfl) (by kernel_rfl) (fun _ _ _ h => h) (Or.inl ⟨by kernel_rfl, fun X hS => by clear kx0 kx1; obtain ⟨e0, e1⟩ := hS; go_simp⟩) SX ?_
                    try go_simp
                    refine wpAnyT_take (i := 7) (v := .int .i64 0) rfl (by kernel_rfl) (by kernel_rfl) (by kernel_rfl) (by kernel_rfl) (fun _ _ _ h => h) (Or.inl ⟨by kernel_rfl, fun X hS => by clear kx0 kx1; obtain ⟨e0, e1⟩ := hS; go_simp⟩) SX ?_
                    try go_simp
                    refine wpAnyT_take (i := 8) (v := .int .i64 (0 + 1)) rfl (by kernel_rfl) (by kernel_rfl) (by kernel_rfl) (by kernel_rfl) (fun _ _ _ h => h) (Or.inl ⟨by kernel_rfl, fun X hS => by clear kx0 kx1; clear hS; go_simp; try exact IntWalk.i64_in _ (by omega)⟩) SX ?_
                    try go_simp
                    refine wpAnyT_take (i := 9) (v := .string ⟨#[e]⟩) rfl (by kernel_rfl) (by kernel_rfl) (by kernel_rfl) (by kernel_rfl) (fun _ _ _ h => h) (Or.inl ⟨by kernel_rfl, fun X hS => by clear kx0 kx1; obtain ⟨e0, e1⟩ := hS; go_simp⟩) SX ?_
                    try go_simp
                    refine wpAnyT_one 10 rfl (by kernel_rfl) (fun K hK => ?_)
                    go_simp
                    refine (known_any _ (cs.take (j + 1)) ⟨#[e]⟩ wr.drew HSK.out).mono ?_
                    rintro e1 w1 ⟨rfl, hb⟩
                    have HB1 : Hid (Below W.heap.size W w1) := (HBX.out.drew).trans (hb.mono HBX.out.size)
                    have SY : w1.cell? ⟨w.heap.size, 0, none⟩ = some (.slice (some ⟨b, off, none⟩) cs.length cap) ∧ w1.cell? ⟨b4, 1, none⟩ = some (.string ⟨s.toArray⟩) := ⟨(hb.cell (lt_of_cell SX.1)).trans SX.1, (hb.cell (lt_of_cell SX.2)).trans SX.2⟩
                    clear hb
                    rw [HKN.out]
                    refine hK _ _ (fun _ => SY) ?_
                    clear hK K
                    refine wpAnyT_take (i := 11) (v := .bool false) rfl (by kernel_rfl) (by kernel_rfl) (by kernel_rfl) (by kernel_rfl) (fun _ _ _ h => h) (Or.inl ⟨by kernel_rfl, fun X hS => by clear kx0 kx1; obtain ⟨e0, e1⟩ := hS; go_simp⟩) SY ?_
                    try go_simp
                    refine wpAnyT_take (i := 12) (v := .bool false) rfl (by kernel_rfl) (by kernel_rfl) (by kernel_rfl) (by kernel_rfl) (fun _ _ _ h => h) (Or.inl ⟨by kernel_rfl, fun X hS => by clear kx0 kx1; obtain ⟨e0, e1⟩ := hS; go_simp⟩) SY ?_
                    try go_simp
                    refine wpAnyT_take (i := 13) (v := .int .i64 0) rfl (by kernel_rfl) (by kernel_rfl) (by kernel_rfl) (by kernel_rfl) (fun _ _ _ h => h) (Or.inl ⟨by kernel_rfl, fun X hS => by clear kx0 kx1; obtain ⟨e0, e1⟩ := hS; go_simp⟩) SY ?_
                    try go_simp
                    refine wpAnyT_take (i := 14) (v := .bool false) rfl (by kernel_rfl) (by kernel_rfl) (by kernel_rfl) (by kernel_rfl) (fun _ _ _ h => h) (Or.inl ⟨by kernel_rfl, fun X hS => by clear kx0 kx1; obtain ⟨e0, e1⟩ := hS; go_simp⟩) SY ?_
                    try go_simp
                    refine wpAnyT_take (i := 15) (v := .bool false) rfl (by kernel_rfl) (by kernel_rfl) (by kernel_rfl) (by kernel_rfl) (fun _ _ _ h => h) (Or.inl ⟨by kernel_rfl, fun X hS => by clear kx0 kx1; obtain ⟨e0, e1⟩ := hS; go_simp⟩) SY ?_
                    try go_simp
                    refine wpAnyT_take (i := 16) (v := undef) rfl (by kernel_rfl) (by kernel_rfl) (by kernel_rfl) (by kernel_rfl) (fun _ _ _ h => h) (Or.inr ⟨by kernel_rfl, rfl⟩) SY ?_
                    try go_simp
                    refine wpAnyT_take (i := 17) (v := undef) rfl (by kernel_rfl) (by kernel_rfl) (by kernel_rfl) (by kernel_rfl) (fun _ _ _ h => h) (Or.inr ⟨by kernel_rfl, rfl⟩) SY ?_
                    try go_simp
                    refine wpAnyT_take (i := 18) (v := undef) rfl (by kernel_rfl) (by kernel_rfl) (by kernel_rfl) (by kernel_rfl) (fun _ _ _ h => h) (Or.inr ⟨by kernel_rfl, rfl⟩) SY ?_
                    try go_simp
                    refine wpAnyT_take (i := 19) (v := undef) rfl (by kernel_rfl) (by kernel_rfl) (by kernel_rfl) (by kernel_rfl) (fun _ _ _ h => h) (Or.inr ⟨by kernel_rfl, rfl⟩) SY ?_
                    try go_simp
                    refine wpAnyT_take (i := 20) (v := undef) rfl (by kernel_rfl) (by kernel_rfl) (by kernel_rfl) (by kernel_rfl) (fun _ _ _ h => h) (Or.inr ⟨by kernel_rfl, rfl⟩) SY ?_
                    try go_simp
                    refine wpAnyT_take (i := 21) (v := undef) rfl (by kernel_rfl) (by kernel_rfl) (by kernel_rfl) (by kernel_rfl) (fun _ _ _ h => h) (Or.inr ⟨by kernel_rfl, rfl⟩) SY ?_
                    try go_simp
                    refine wpAnyT_take (i := 22) (v := undef) rfl (by kernel_rfl) (by kernel_rfl) (by kernel_rfl) (by kernel_rfl) (fun _ _ _ h => h) (Or.inr ⟨by kernel_rfl, rfl⟩) SY ?_
                    try go_simp
                    refine wpAnyT_take (i := 23) (v := undef) rfl (by kernel_rfl) (by kernel_rfl) (by kernel_rfl) (by kernel_rfl) (fun _ _ _ h => h) (Or.inr ⟨by kernel_rfl, rfl⟩) SY ?_
                    try go_simp
                    refine wpAnyT_take (i := 24) (v := undef) rfl (by kernel_rfl) (by kernel_rfl) (by kernel_rfl) (by kernel_rfl) (fun _ _ _ h => h) (Or.inr ⟨by kernel_rfl, rfl⟩) SY ?_
                    try go_simp
                    refine wpAnyT_take (i := 25) (v := undef) rfl (by kernel_rfl) (by kernel_rfl) (by kernel_rfl) (by kernel_rfl) (fun _ _ _ h => h) (Or.inr ⟨by kernel_rfl, rfl⟩) SY ?_
                    try go_simp
                    refine wpAnyT_take (i := 26) (v := .bool false) rfl (by kernel_rfl) (by kernel_rfl) (by kernel_rfl) (by kernel_rfl) (fun _ _ _ h => h) (Or.inl ⟨by kernel_rfl, fun X hS => by clear kx0 kx1; obtain ⟨e0, e1⟩ := hS; go_simp⟩) SY ?_
                    try go_simp
                    refine wpAnyT_take (i := 27) (v := .bool false) rfl (by kernel_rfl) (by kernel_rfl) (by kernel_rfl) (by kernel_rfl) (fun _ _ _ h => h) (Or.inl ⟨by kernel_rfl, fun X hS => by clear kx0 kx1; obtain ⟨e0, e1⟩ := hS; go_simp⟩) SY ?_
                    try go_simp
                    refine wpAnyT_drop _ 28 _ _ _ (by decide) (by kernel_rfl) ?_
                    change wpList _ _ _ [] _ _
                    clear SX SY kx0 kx1
                    go_wp2
                    go_roundg (s.length - 1)
                    case measure => omega
                    case rel => exact ⟨1, by omega, by omega, rfl, HN.out, HB1.out⟩
                  | t + 1, hm, hmq, hltm, hsub, HE, HGS =>
                    obtain ⟨e0, he0⟩ : ∃ e0, s[t]? = some e0 := ⟨_, List.getElem?_eq_getElem (by omega)⟩
                    have HE0 := hid he0
                    clear he0
                    have hsub2 : ∀ X : World, (Instr.slice 9 (.string ⟨s.toArray⟩) (some (.int .i64 ((t : Int) + 1))) (some (.int .i64 ((t : Int) + 1 + 1))) none).run Tryd.prog X = .ok (.string ⟨#[e]⟩) X := fun X => by have := hsub X; simpa using this
                    clear hsub
                    by_cases hle : e0.toNat < e.toNat
                    · have HN : Hid (∀ i, i < t + 1 + 1 → goodS (cs.take (j + 1)) s i) := fun i hi => by
                        by_cases e1 : i < t + 1
                        · exact HGS.out i e1
                        · obtain rfl : i = t + 1 := by omega
                          exact ⟨e, HE.out, HKN.out, fun j d h hd => by obtain rfl : j = t := by omega
                                                                        rw [HE0.out] at hd; cases hd; exact hle⟩
                      go_wp2_with fail
                      refine wp_region_any (by kernel_rfl) ?_
                      change wpAny _ _ _ _ _ _ _ (World.drew _)
                      have SX : wr.drew.cell? ⟨w.heap.size, 0, none⟩ = some (.slice (some ⟨b, off, none⟩) cs.length cap) ∧ wr.drew.cell? ⟨b4, 1, none⟩ = some (.string ⟨s.toArray⟩) := ⟨kx0, kx1⟩
                      refine wpAny_of_T (S := fun X => X.cell? ⟨w.heap.size, 0, none⟩ = some (.slice (some ⟨b, off, none⟩) cs.length cap) ∧ X.cell? ⟨b4, 1, none⟩ = some (.string ⟨s.toArray⟩)) (m := 28) _ _ _ _ ?_
                      refine wpAnyT_take (i := 0) (v := .pointer (some ⟨w.heap.size, 0, none⟩)) rfl (by kernel_rfl) (by kernel_rfl) (by kernel_rfl) (by kernel_rfl) (fun _ _ _ h => h) (Or.inl ⟨by kernel_rfl, fun X hS => by clear kx0 kx1; obtain ⟨e0, e1⟩ := hS; go_simp⟩) SX ?_
                      try go_simp
                      refine wpAnyT_take (i := 1) (v := .slice (some ⟨b, off, none⟩) cs.length cap) rfl (by kernel_rfl) (by kernel_rfl) (by kernel_rfl) (by kernel_rfl) (fun _ _ _ h => h) (Or.inl ⟨by kernel_rfl, fun X hS => by clear kx0 kx1; obtain ⟨e0, e1⟩ := hS; go_simp⟩) SX ?_
                      try go_simp
                      refine wpAnyT_take (i := 2) (v := .int .i64 ((j : Int) + 1)) rfl (by kernel_rfl) (by kernel_rfl) (by kernel_rfl) (by kernel_rfl) (fun _ _ _ h => h) (Or.inl ⟨by kernel_rfl, fun X hS => by clear kx0 kx1; obtain ⟨e0, e1⟩ := hS; go_simp⟩) SX ?_
                      try go_simp
                      refine wpAnyT_take (i := 3) (v := .slice (some ⟨b, off, none⟩) (j + 1) cap) rfl (by kernel_rfl) (by kernel_rfl) (by kernel_rfl) (by kernel_rfl) (fun _ _ _ h => h) (Or.inl ⟨by kernel_rfl, fun X hS => by clear kx0 kx1; obtain ⟨e0, e1⟩ := hS; go_simp; (try (intro hq; omega))⟩) SX ?_
                      try go_simp
                      refine wpAnyT_take (i := 4) (v := .pointer (some ⟨b4, 1, none⟩)) rfl (by kernel_rfl) (by kernel_rfl) (by kernel_rfl) (by kernel_rfl) (fun _ _ _ h => h) (Or.inl ⟨by kernel_rfl, fun X hS => by clear kx0 kx1; obtain ⟨e0, e1⟩ := hS; go_simp⟩) SX ?_
                      try go_simp
                      refine wpAnyT_take (i := 5) (v := .string ⟨s.toArray⟩) rfl (by kernel_rfl) (by kernel_rfl) (by kernel_rfl) (by kernel_rfl) (fun _ _ _ h => h) (Or.inl ⟨by kernel_rfl, fun X hS => by clear kx0 kx1; obtain ⟨e0, e1⟩ := hS; go_simp⟩) SX ?_
                      try go_simp
                      refine wpAnyT_take (i := 6) (v := .int .i64 ((t : Int) + 1)) rfl (by kernel_rfl) (by kernel_rfl) (by kernel_rfl) (by kernel_rfl) (fun _ _ _ h => h) (Or.inl ⟨by kernel_rfl, fun X hS => by clear kx0 kx1; obtain ⟨e0, e1⟩ := hS; go_simp⟩) SX ?_
                      try go_simp
                      refine wpAnyT_take (i := 7) (v := .int .i64 ((t : Int) + 1)) rfl (by kernel_rfl) (by kernel_rfl) (by kernel_rfl) (by kernel_rfl) (fun _ _ _ h => h) (Or.inl ⟨by kernel_rfl, fun X hS => by clear kx0 kx1; obtain ⟨e0, e1⟩ := hS; go_simp⟩) SX ?_
                      try go_simp
                      refine wpAnyT_take (i := 8) (v := .int .i64 (((t : Int) + 1) + 1)) rfl (by kernel_rfl) (by kernel_rfl) (by kernel_rfl) (by kernel_rfl) (fun _ _ _ h => h) (Or.inl ⟨by kernel_rfl, fun X hS => by clear kx0 kx1; clear hS; go_simp; try exact IntWalk.i64_in _ (by omega)⟩) SX ?_
                      try go_simp
                      refine wpAnyT_take (i := 9) (v := .string ⟨#[e]⟩) rfl (by kernel_rfl) (by kernel_rfl) (by kernel_rfl) (by kernel_rfl) (fun _ _ _ h => h) (Or.inl ⟨by kernel_rfl, fun X hS => by clear kx0 kx1; obtain ⟨e0, e1⟩ := hS; go_simp⟩) SX ?_
                      try go_simp
                      refine wpAnyT_one 10 rfl (by kernel_rfl) (fun K hK => ?_)
                      go_simp
                      refine (known_any _ (cs.take (j + 1)) ⟨#[e]⟩ wr.drew HSK.out).mono ?_
                      rintro e1 w1 ⟨rfl, hb⟩
                      have HB1 : Hid (Below W.heap.size W w1) := (HBX.out.drew).trans (hb.mono HBX.out.size)
                      have SY : w1.cell? ⟨w.heap.size, 0, none⟩ = some (.slice (some ⟨b, off, none⟩) cs.length cap) ∧ w1.cell? ⟨b4, 1, none⟩ = some (.string ⟨s.toArray⟩) := ⟨(hb.cell (lt_of_cell SX.1)).trans SX.1, (hb.cell (lt_of_cell SX.2)).trans SX.2⟩
                      clear hb
                      rw [HKN.out]
                      refine hK _ _ (fun _ => SY) ?_
                      clear hK K
                      refine wpAnyT_take (i := 11) (v := .bool false) rfl (by kernel_rfl) (by kernel_rfl) (by kernel_rfl) (by kernel_rfl) (fun _ _ _ h => h) (Or.inl ⟨by kernel_rfl, fun X hS => by clear kx0 kx1; obtain ⟨e0, e1⟩ := hS; go_simp⟩) SY ?_
                      try go_simp
                      refine wpAnyT_take (i := 12) (v := .bool false) rfl (by kernel_rfl) (by kernel_rfl) (by kernel_rfl) (by kernel_rfl) (fun _ _ _ h => h) (Or.inl ⟨by kernel_rfl, fun X hS => by clear kx0 kx1; obtain ⟨e0, e1⟩ := hS; go_simp⟩) SY ?_
                      try go_simp
                      refine wpAnyT_take (i := 13) (v := .int .i64 ((t : Int) + 1)) rfl (by kernel_rfl) (by kernel_rfl) (by kernel_rfl) (by kernel_rfl) (fun _ _ _ h => h) (Or.inl ⟨by kernel_rfl, fun X hS => by clear kx0 kx1; obtain ⟨e0, e1⟩ := hS; go_simp⟩) SY ?_
                      try go_simp
                      refine wpAnyT_take (i := 14) (v := .bool true) rfl (by kernel_rfl) (by kernel_rfl) (by kernel_rfl) (by kernel_rfl) (fun _ _ _ h => h) (Or.inl ⟨by kernel_rfl, fun X hS => by clear kx0 kx1; obtain ⟨e0, e1⟩ := hS; go_simp⟩) SY ?_
                      try go_simp
                      refine wpAnyT_take (i := 15) (v := .bool true) rfl (by kernel_rfl) (by kernel_rfl) (by kernel_rfl) (by kernel_rfl) (fun _ _ _ h => h) (Or.inl ⟨by kernel_rfl, fun X hS => by clear kx0 kx1; obtain ⟨e0, e1⟩ := hS; go_simp⟩) SY ?_
                      try go_simp
                      refine wpAnyT_take (i := 16) (v := .pointer (some ⟨b4, 1, none⟩)) rfl (by kernel_rfl) (by kernel_rfl) (by kernel_rfl) (by kernel_rfl) (fun _ _ _ h => h) (Or.inl ⟨by kernel_rfl, fun X hS => by clear kx0 kx1; obtain ⟨e0, e1⟩ := hS; go_simp⟩) SY ?_
                      try go_simp
                      refine wpAnyT_take (i := 17) (v := .string ⟨s.toArray⟩) rfl (by kernel_rfl) (by kernel_rfl) (by kernel_rfl) (by kernel_rfl) (fun _ _ _ h => h) (Or.inl ⟨by kernel_rfl, fun X hS => by clear kx0 kx1; obtain ⟨e0, e1⟩ := hS; go_simp⟩) SY ?_
                      try go_simp
                      refine wpAnyT_take (i := 18) (v := .int .i64 ((t : Int) + 1)) rfl (by kernel_rfl) (by kernel_rfl) (by kernel_rfl) (by kernel_rfl) (fun _ _ _ h => h) (Or.inl ⟨by kernel_rfl, fun X hS => by clear kx0 kx1; obtain ⟨e0, e1⟩ := hS; go_simp⟩) SY ?_
                      try go_simp
                      refine wpAnyT_take (i := 19) (v := .int .i64 t) rfl (by kernel_rfl) (by kernel_rfl) (by kernel_rfl) (by kernel_rfl) (fun _ _ _ h => h) (Or.inl ⟨by kernel_rfl, fun X hS => by clear kx0 kx1; clear hS; go_simp; try exact IntWalk.i64_in _ (by omega)⟩) SY ?_
                      try go_simp
                      refine wpAnyT_take (i := 20) (v := .int .u8 e0.toNat) rfl (by kernel_rfl) (by kernel_rfl) (by kernel_rfl) (by kernel_rfl) (fun _ _ _ h => h) (Or.inl ⟨by kernel_rfl, fun X hS => by clear kx0 kx1; clear hS; go_simp; rw [dif_pos (show t < s.length by omega), get_at s t e0 HE0.out]; rfl⟩) SY ?_
                      try go_simp
                      refine wpAnyT_take (i := 21) (v := .pointer (some ⟨b4, 1, none⟩)) rfl (by kernel_rfl) (by kernel_rfl) (by kernel_rfl) (by kernel_rfl) (fun _ _ _ h => h) (Or.inl ⟨by kernel_rfl, fun X hS => by clear kx0 kx1; obtain ⟨e0, e1⟩ := hS; go_simp⟩) SY ?_
                      try go_simp
                      refine wpAnyT_take (i := 22) (v := .string ⟨s.toArray⟩) rfl (by kernel_rfl) (by kernel_rfl) (by kernel_rfl) (by kernel_rfl) (fun _ _ _ h => h) (Or.inl ⟨by kernel_rfl, fun X hS => by clear kx0 kx1; obtain ⟨e0, e1⟩ := hS; go_simp⟩) SY ?_
                      try go_simp
                      refine wpAnyT_take (i := 23) (v := .int .i64 ((t : Int) + 1)) rfl (by kernel_rfl) (by kernel_rfl) (by kernel_rfl) (by kernel_rfl) (fun _ _ _ h => h) (Or.inl ⟨by kernel_rfl, fun X hS => by clear kx0 kx1; obtain ⟨e0, e1⟩ := hS; go_simp⟩) SY ?_
                      try go_simp
                      refine wpAnyT_take (i := 24) (v := .int .u8 e.toNat) rfl (by kernel_rfl) (by kernel_rfl) (by kernel_rfl) (by kernel_rfl) (fun _ _ _ h => h) (Or.inl ⟨by kernel_rfl, fun X hS => by clear kx0 kx1; clear hS; go_simp; rw [dif_pos (show (0 : Int) ≤ (t : Int) + 1 by omega), get_at s (t + 1) e HE.out]; rfl⟩) SY ?_
                      try go_simp
                      refine wpAnyT_take (i := 25) (v := .bool false) rfl (by kernel_rfl) (by kernel_rfl) (by kernel_rfl) (by kernel_rfl) (fun _ _ _ h => h) (Or.inl ⟨by kernel_rfl, fun X hS => by clear kx0 kx1; obtain ⟨e0, e1⟩ := hS; go_simp⟩) SY ?_
                      try go_simp
                      refine wpAnyT_take (i := 26) (v := .bool false) rfl (by kernel_rfl) (by kernel_rfl) (by kernel_rfl) (by kernel_rfl) (fun _ _ _ h => h) (Or.inl ⟨by kernel_rfl, fun X hS => by clear kx0 kx1; obtain ⟨e0, e1⟩ := hS; go_simp⟩) SY ?_
                      try go_simp
                      refine wpAnyT_take (i := 27) (v := .bool false) rfl (by kernel_rfl) (by kernel_rfl) (by kernel_rfl) (by kernel_rfl) (fun _ _ _ h => h) (Or.inl ⟨by kernel_rfl, fun X hS => by clear kx0 kx1; obtain ⟨e0, e1⟩ := hS; go_simp⟩) SY ?_
                      try go_simp
                      refine wpAnyT_drop _ 28 _ _ _ (by decide) (by kernel_rfl) ?_
                      change wpList _ _ _ [] _ _
                      clear SX SY kx0 kx1
                      go_wp2
                      go_roundg (s.length - (t + 1 + 1))
                      case measure => omega
                      case rel => exact ⟨t + 1 + 1, by omega, by omega, by go_num, HN.out, HB1.out⟩
                    · have hle2 : e.toNat ≤ e0.toNat := by omega
                      have HR : Hid (clB cs = false) := clB_no hlt (bad_sup HP.out hltm (bad_sord HE.out HE0.out (by omega)))
                      go_wp2_with fail
                      refine wp_region_any (by kernel_rfl) ?_
                      change wpAny _ _ _ _ _ _ _ (World.drew _)
                      have SX : wr.drew.cell? ⟨w.heap.size, 0, none⟩ = some (.slice (some ⟨b, off, none⟩) cs.length cap) ∧ wr.drew.cell? ⟨b4, 1, none⟩ = some (.string ⟨s.toArray⟩) := ⟨kx0, kx1⟩
                      refine wpAny_of_T (S := fun X => X.cell? ⟨w.heap.size, 0, none⟩ = some (.slice (some ⟨b, off, none⟩) cs.length cap) ∧ X.cell? ⟨b4, 1, none⟩ = some (.string ⟨s.toArray⟩)) (m := 28) _ _ _ _ ?_
                      refine wpAnyT_take (i := 0) (v := .pointer (some ⟨w.heap.size, 0, none⟩)) rfl (by kernel_rfl) (by kernel_rfl) (by kernel_rfl) (by kernel_rfl) (fun _ _ _ h => h) (Or.inl ⟨by kernel_rfl, fun X hS => by clear kx0 kx1; obtain ⟨e0, e1⟩ := hS; go_simp⟩) SX ?_
                      try go_simp
                      refine wpAnyT_take (i := 1) (v := .slice (some ⟨b, off, none⟩) cs.length cap) rfl (by kernel_rfl) (by kernel_rfl) (by kernel_rfl) (by kernel_rfl) (fun _ _ _ h => h) (Or.inl ⟨by kernel_rfl, fun X hS => by clear kx0 kx1; obtain ⟨e0, e1⟩ := hS; go_simp⟩) SX ?_
                      try go_simp
                      refine wpAnyT_take (i := 2) (v := .int .i64 ((j : Int) + 1)) rfl (by kernel_rfl) (by kernel_rfl) (by kernel_rfl) (by kernel_rfl) (fun _ _ _ h => h) (Or.inl ⟨by kernel_rfl, fun X hS => by clear kx0 kx1; obtain ⟨e0, e1⟩ := hS; go_simp⟩) SX ?_
                      try go_simp
                      refine wpAnyT_take (i := 3) (v := .slice (some ⟨b, off, none⟩) (j + 1) cap) rfl (by kernel_rfl) (by kernel_rfl) (by kernel_rfl) (by kernel_rfl) (fun _ _ _ h => h) (Or.inl ⟨by kernel_rfl, fun X hS => by clear kx0 kx1; obtain ⟨e0, e1⟩ := hS; go_simp; (try (intro hq; omega))⟩) SX ?_
                      try go_simp
                      refine wpAnyT_take (i := 4) (v := .pointer (some ⟨b4, 1, none⟩)) rfl (by kernel_rfl) (by kernel_rfl) (by kernel_rfl) (by kernel_rfl) (fun _ _ _ h => h) (Or.inl ⟨by kernel_rfl, fun X hS => by clear kx0 kx1; obtain ⟨e0, e1⟩ := hS; go_simp⟩) SX ?_
                      try go_simp
                      refine wpAnyT_take (i := 5) (v := .string ⟨s.toArray⟩) rfl (by kernel_rfl) (by kernel_rfl) (by kernel_rfl) (by kernel_rfl) (fun _ _ _ h => h) (Or.inl ⟨by kernel_rfl, fun X hS => by clear kx0 kx1; obtain ⟨e0, e1⟩ := hS; go_simp⟩) SX ?_
                      try go_simp
                      refine wpAnyT_take (i := 6) (v := .int .i64 ((t : Int) + 1)) rfl (by kernel_rfl) (by kernel_rfl) (by kernel_rfl) (by kernel_rfl) (fun _ _ _ h => h) (Or.inl ⟨by kernel_rfl, fun X hS => by clear kx0 kx1; obtain ⟨e0, e1⟩ := hS; go_simp⟩) SX ?_
                      try go_simp
                      refine wpAnyT_take (i := 7) (v := .int .i64 ((t : Int) + 1)) rfl (by kernel_rfl) (by kernel_rfl) (by kernel_rfl) (by kernel_rfl) (fun _ _ _ h => h) (Or.inl ⟨by kernel_rfl, fun X hS => by clear kx0 kx1; obtain ⟨e0, e1⟩ := hS; go_simp⟩) SX ?_
                      try go_simp
                      refine wpAnyT_take (i := 8) (v := .int .i64 (((t : Int) + 1) + 1)) rfl (by kernel_rfl) (by kernel_rfl) (by kernel_rfl) (by kernel_rfl) (fun _ _ _ h => h) (Or.inl ⟨by kernel_rfl, fun X hS => by clear kx0 kx1; clear hS; go_simp; try exact IntWalk.i64_in _ (by omega)⟩) SX ?_
                      try go_simp
                      refine wpAnyT_take (i := 9) (v := .string ⟨#[e]⟩) rfl (by kernel_rfl) (by kernel_rfl) (by kernel_rfl) (by kernel_rfl) (fun _ _ _ h => h) (Or.inl ⟨by kernel_rfl, fun X hS => by clear kx0 kx1; obtain ⟨e0, e1⟩ := hS; go_simp⟩) SX ?_
                      try go_simp
                      refine wpAnyT_one 10 rfl (by kernel_rfl) (fun K hK => ?_)
                      go_simp
                      refine (known_any _ (cs.take (j + 1)) ⟨#[e]⟩ wr.drew HSK.out).mono ?_
                      rintro e1 w1 ⟨rfl, hb⟩
                      have HB1 : Hid (Below W.heap.size W w1) := (HBX.out.drew).trans (hb.mono HBX.out.size)
                      have SY : w1.cell? ⟨w.heap.size, 0, none⟩ = some (.slice (some ⟨b, off, none⟩) cs.length cap) ∧ w1.cell? ⟨b4, 1, none⟩ = some (.string ⟨s.toArray⟩) := ⟨(hb.cell (lt_of_cell SX.1)).trans SX.1, (hb.cell (lt_of_cell SX.2)).trans SX.2⟩
                      clear hb
                      rw [HKN.out]
                      refine hK _ _ (fun _ => SY) ?_
                      clear hK K
                      refine wpAnyT_take (i := 11) (v := .bool false) rfl (by kernel_rfl) (by kernel_rfl) (by kernel_rfl) (by kernel_rfl) (fun _ _ _ h => h) (Or.inl ⟨by kernel_rfl, fun X hS => by clear kx0 kx1; obtain ⟨e0, e1⟩ := hS; go_simp⟩) SY ?_
                      try go_simp
                      refine wpAnyT_take (i := 12) (v := .bool false) rfl (by kernel_rfl) (by kernel_rfl) (by kernel_rfl) (by kernel_rfl) (fun _ _ _ h => h) (Or.inl ⟨by kernel_rfl, fun X hS => by clear kx0 kx1; obtain ⟨e0, e1⟩ := hS; go_simp⟩) SY ?_
                      try go_simp
                      refine wpAnyT_take (i := 13) (v := .int .i64 ((t : Int) + 1)) rfl (by kernel_rfl) (by kernel_rfl) (by kernel_rfl) (by kernel_rfl) (fun _ _ _ h => h) (Or.inl ⟨by kernel_rfl, fun X hS => by clear kx0 kx1; obtain ⟨e0, e1⟩ := hS; go_simp⟩) SY ?_
                      try go_simp
                      refine wpAnyT_take (i := 14) (v := .bool true) rfl (by kernel_rfl) (by kernel_rfl) (by kernel_rfl) (by kernel_rfl) (fun _ _ _ h => h) (Or.inl ⟨by kernel_rfl, fun X hS => by clear kx0 kx1; obtain ⟨e0, e1⟩ := hS; go_simp⟩) SY ?_
                      try go_simp
                      refine wpAnyT_take (i := 15) (v := .bool true) rfl (by kernel_rfl) (by kernel_rfl) (by kernel_rfl) (by kernel_rfl) (fun _ _ _ h => h) (Or.inl ⟨by kernel_rfl, fun X hS => by clear kx0 kx1; obtain ⟨e0, e1⟩ := hS; go_simp⟩) SY ?_
                      try go_simp
                      refine wpAnyT_take (i := 16) (v := .pointer (some ⟨b4, 1, none⟩)) rfl (by kernel_rfl) (by kernel_rfl) (by kernel_rfl) (by kernel_rfl) (fun _ _ _ h => h) (Or.inl ⟨by kernel_rfl, fun X hS => by clear kx0 kx1; obtain ⟨e0, e1⟩ := hS; go_simp⟩) SY ?_
                      try go_simp
                      refine wpAnyT_take (i := 17) (v := .string ⟨s.toArray⟩) rfl (by kernel_rfl) (by kernel_rfl) (by kernel_rfl) (by kernel_rfl) (fun _ _ _ h => h) (Or.inl ⟨by kernel_rfl, fun X hS => by clear kx0 kx1; obtain ⟨e0, e1⟩ := hS; go_simp⟩) SY ?_
                      try go_simp
                      refine wpAnyT_take (i := 18) (v := .int .i64 ((t : Int) + 1)) rfl (by kernel_rfl) (by kernel_rfl) (by kernel_rfl) (by kernel_rfl) (fun _ _ _ h => h) (Or.inl ⟨by kernel_rfl, fun X hS => by clear kx0 kx1; obtain ⟨e0, e1⟩ := hS; go_simp⟩) SY ?_
                      try go_simp
                      refine wpAnyT_take (i := 19) (v := .int .i64 t) rfl (by kernel_rfl) (by kernel_rfl) (by kernel_rfl) (by kernel_rfl) (fun _ _ _ h => h) (Or.inl ⟨by kernel_rfl, fun X hS => by clear kx0 kx1; clear hS; go_simp; try exact IntWalk.i64_in _ (by omega)⟩) SY ?_
                      try go_simp
                      refine wpAnyT_take (i := 20) (v := .int .u8 e0.toNat) rfl (by kernel_rfl) (by kernel_rfl) (by kernel_rfl) (by kernel_rfl) (fun _ _ _ h => h) (Or.inl ⟨by kernel_rfl, fun X hS => by clear kx0 kx1; clear hS; go_simp; rw [dif_pos (show t < s.length by omega), get_at s t e0 HE0.out]; rfl⟩) SY ?_
                      try go_simp
                      refine wpAnyT_take (i := 21) (v := .pointer (some ⟨b4, 1, none⟩)) rfl (by kernel_rfl) (by kernel_rfl) (by kernel_rfl) (by kernel_rfl) (fun _ _ _ h => h) (Or.inl ⟨by kernel_rfl, fun X hS => by clear kx0 kx1; obtain ⟨e0, e1⟩ := hS; go_simp⟩) SY ?_
                      try go_simp
                      refine wpAnyT_take (i := 22) (v := .string ⟨s.toArray⟩) rfl (by kernel_rfl) (by kernel_rfl) (by kernel_rfl) (by kernel_rfl) (fun _ _ _ h => h) (Or.inl ⟨by kernel_rfl, fun X hS => by clear kx0 kx1; obtain ⟨e0, e1⟩ := hS; go_simp⟩) SY ?_
                      try go_simp
                      refine wpAnyT_take (i := 23) (v := .int .i64 ((t : Int) + 1)) rfl (by kernel_rfl) (by kernel_rfl) (by kernel_rfl) (by kernel_rfl) (fun _ _ _ h => h) (Or.inl ⟨by kernel_rfl, fun X hS => by clear kx0 kx1; obtain ⟨e0, e1⟩ := hS; go_simp⟩) SY ?_
                      try go_simp
                      refine wpAnyT_take (i := 24) (v := .int .u8 e.toNat) rfl (by kernel_rfl) (by kernel_rfl) (by kernel_rfl) (by kernel_rfl) (fun _ _ _ h => h) (Or.inl ⟨by kernel_rfl, fun X hS => by clear kx0 kx1; clear hS; go_simp; rw [dif_pos (show (0 : Int) ≤ (t : Int) + 1 by omega), get_at s (t + 1) e HE.out]; rfl⟩) SY ?_
                      try go_simp
                      refine wpAnyT_take (i := 25) (v := .bool true) rfl (by kernel_rfl) (by kernel_rfl) (by kernel_rfl) (by kernel_rfl) (fun _ _ _ h => h) (Or.inl ⟨by kernel_rfl, fun X hS => by clear kx0 kx1; obtain ⟨e0, e1⟩ := hS; go_simp⟩) SY ?_
                      try go_simp
                      refine wpAnyT_take (i := 26) (v := .bool true) rfl (by kernel_rfl) (by kernel_rfl) (by kernel_rfl) (by kernel_rfl) (fun _ _ _ h => h) (Or.inl ⟨by kernel_rfl, fun X hS => by clear kx0 kx1; obtain ⟨e0, e1⟩ := hS; go_simp⟩) SY ?_
                      try go_simp
                      refine wpAnyT_take (i := 27) (v := .bool true) rfl (by kernel_rfl) (by kernel_rfl) (by kernel_rfl) (by kernel_rfl) (fun _ _ _ h => h) (Or.inl ⟨by kernel_rfl, fun X hS => by clear kx0 kx1; obtain ⟨e0, e1⟩ := hS; go_simp⟩) SY ?_
                      try go_simp
                      refine wpAnyT_drop _ 28 _ _ _ (by decide) (by kernel_rfl) ?_
                      change wpList _ _ _ [] _ _
                      clear SX SY kx0 kx1
                      go_wp2
                      go_ret
                      exact ⟨ret_bool HR.out.symm, HBW.out.trans (HB1.out.mono HBW.out.size)⟩
              · have hme : m = s.length := by omega
                have HGC : Hid (∀ i, i < (j + 1) + 1 → goodC cs i) := fun i hi => by
                  by_cases e1 : i < (j + 1)
                  · exact HGD.out i e1
                  · obtain rfl : i = (j + 1) := by omega
                    exact ⟨c, s, HP.out, hcap1.out, fun q h => by (obtain rfl : q = j := (by omega)); exact ⟨d, _, HD.out, hlt2⟩, fun t ht => HGS.out t (by omega)⟩
                clear kx1
                go_wp2_with fail
                go_roundg (cs.length - ((j + 1) + 1))
                case measure => omega
                case rel => exact ⟨(j + 1) + 1, by omega, by omega, by go_num, HGC.out, HBT.out, (by have := HBT.out.size; have := lt_of_heap HX1.out; omega), below_heap HBX.out (lt_of_heap HX1.out) HX1.out⟩
          · have HR : Hid (clB cs = false) := clB_no hlt (bad_ord HP.out HD.out (by omega))
            have hge : ∀ X : World, (binOp .geq 9 (.string ⟨#[d]⟩) (.string ⟨#[c]⟩)).run Tryd.prog X = .ok (.bool true) X := fun X => by rw [geq1, decide_eq_true (by omega)]
            go_wp2
            go_quiet ((go_at_call 36; exact Calls.quiet_of_same (isClass_q HV.out _ (by simp))))
            go_wp2
            go_ret
            exact ⟨ret_bool HR.out.symm, below_drewN (HB.out.alloc (by omega) _) _⟩
    · have hke : k = cs.length := by omega
      subst hke
      have HGA : Hid (∀ i, i < cs.length → goodC cs i) := HGD.out
      by_cases h1 : 1 ≤ cs.length
      · by_cases h4 : cs.length ≤ 4
        · have HR : Hid (clB cs = true) := clB_yes HGA.out h1 h4
          go_wp2
          go_ret
          exact ⟨ret_bool (by rw [HR.out]; simp; omega), HB.out⟩
        · have HR : Hid (clB cs = false) := clB_len (fun h => h4 h.2)
          go_wp2
          go_ret
          exact ⟨ret_bool (by rw [HR.out]; simp; omega), HB.out⟩
      · have HR : Hid (clB cs = false) := clB_len (fun h => h1 h.1)
        go_wp2
        go_ret
        exact ⟨ret_bool HR.out.symm, HB.out⟩

set_option maxHeartbeats 16000000 in
theorem l3Classes_any (a : Option Addr) (cap : Nat) (cs : List BB) (w : World) (h0 : tot cs + cs.length ≤ 1048577) (hcap : cs.length ≤ cap) (hs : SP w (.slice a cs.length cap) cs) :
    Calls Tryd.prog 49 #[.slice a cs.length cap] w fun e w' => e = .returned (.bool (clB cs)) ∧ Below w.heap.size w w' := by
  have hbd : Hid (∀ (i : Nat) (p : BB), cs[i]? = some p → p.1.size ≤ 1048576 ∧ p.2.size ≤ 1048576) := fun i p hp => by
    have h1 := tot_take cs i p hp
    have h2 := tot_le cs (i + 1)
    have h3 := (List.getElem?_eq_some_iff.1 hp).1
    omega
  have hl0 : cs.length ≤ 1048577 := by omega
  have HS := hid hs
  clear hs h0
  go_enter Tryd.func49, Tryd.ntmps49
  go_wp2_with fail
  go_loopg [8] cs.length (fun q i wr => ∃ k : Nat, k ≤ cs.length ∧ cs.length - k ≤ q ∧ i = .int .i64 k ∧ Hid (∀ i, i < k → goodC cs i) ∧ Below w.heap.size w wr)
  case atStart => exact ⟨0, Nat.zero_le _, by simp, rfl, (fun i h => by omega), Below.refl _ _⟩
  case round =>
    obtain ⟨k, hk, hq, rfl, hgood, hb⟩ := hrel
    have HB := hid hb
    have HGD := hid hgood
    have hbz := hb.size
    clear hb hgood
    by_cases hlt : k < cs.length
    · obtain ⟨⟨x, y⟩, hp⟩ : ∃ p, cs[k]? = some p := ⟨_, List.getElem?_eq_getElem hlt⟩
      obtain ⟨b, off, rfl, k0, k1, z0, z1, hbl⟩ := sp_at (HS.out.below HB.out) hp
      obtain ⟨hs1, hs2⟩ := hbd.out k _ hp
      obtain ⟨l, rfl, hxl⟩ : ∃ l : List UInt8, x = ⟨l.toArray⟩ ∧ x.size = l.length := ⟨x.data.toList, rfl, by simp⟩
      obtain ⟨s, rfl, hyl⟩ : ∃ l : List UInt8, y = ⟨l.toArray⟩ ∧ y.size = l.length := ⟨y.data.toList, rfl, by simp⟩
      have HP := hid hp
      dsimp only at hs1 hs2
      have hll : l.length ≤ 1048576 := by omega
      have hsl : s.length ≤ 1048576 := by omega
      clear hp hs1 hs2 z0 z1 hxl hyl
      cases hv : isCapL l with
      | false =>
        have HV := hid hv
        have HR : Hid (clB cs = false) := clB_no hlt (bad_cap HP.out hv)
        clear hv
        go_wp2
        go_quiet ((go_at_call 37; exact Calls.quiet_of_same (l3Capital_q HV.out _ (by omega))))
        go_wp2
        go_ret
        exact ⟨ret_bool HR.out.symm, below_drewN (HB.out.alloc (by omega) _) _⟩
      | true =>
        obtain ⟨c, rfl⟩ : ∃ c, l = [c] := by
          match l, hv with
          | [c], _ => exact ⟨c, rfl⟩
        have HV := hid hv
        have hcap1 : Hid (isCap c = true) := hv
        clear hv
        match k, hk, hlt, hq, k0, k1, HP, HGD with
        | 0, hk, hlt, hq, k0, k1, HP, HGD =>
          simp only [Nat.zero_mul, Nat.add_zero] at k0 k1
          go_wp2
          go_quiet ((go_at_call 37; exact Calls.quiet_of_same (l3Capital_q HV.out _ (by simp))))
          go_wp2_with fail
          have HBW : Hid (Below w.heap.size w ((wr.alloc (.cells #[.string ⟨#[c]⟩, .string ⟨s.toArray⟩] 69)).drewN nq)) := below_drewN (HB.out.alloc (by omega) _) _
          have HX4 : Hid (((wr.alloc (.cells #[.string ⟨#[c]⟩, .string ⟨s.toArray⟩] 69)).drewN nq).heap[wr.heap.size]? = some (.cells #[.string ⟨#[c]⟩, .string ⟨s.toArray⟩] 69 (0, 0))) := (heap_drewN _ _ _).trans (heap_alloc_new _ _)
          clear k0 k1
          generalize ((wr.alloc (.cells #[.string ⟨#[c]⟩, .string ⟨s.toArray⟩] 69)).drewN nq) = W at *
          obtain ⟨b4, hb4⟩ : ∃ x, x = wr.heap.size := ⟨_, rfl⟩
          rw [← hb4] at HX4
          rw [← hb4]
          have hb4z : w.heap.size ≤ b4 := by omega
          clear hb4
          go_loopg [35] s.length (fun q i wr => ∃ m : Nat, m ≤ s.length ∧ s.length - m ≤ q ∧ i = .int .i64 m ∧ Hid (∀ t, t < m → goodS (cs.take 0) s t) ∧ Below W.heap.size W wr)
          case atStart => exact ⟨0, Nat.zero_le _, by simp, rfl, (fun t h => by omega), Below.refl _ _⟩
          case round =>
            obtain ⟨m, hm, hmq, rfl, hgs, hb⟩ := hrel
            have HBX := hid hb
            have HGS := hid hgs
            have hbzx := hb.size
            clear hb hgs
            have kx0 : wr.cell? ⟨b4, 0, none⟩ = some (.string ⟨#[c]⟩) := (HBX.out.cell (p := ⟨b4, 0, none⟩) (lt_of_heap HX4.out)).trans (heap_cell HX4.out 0)
            have kx1 : wr.cell? ⟨b4, 1, none⟩ = some (.string ⟨s.toArray⟩) := (HBX.out.cell (p := ⟨b4, 1, none⟩) (lt_of_heap HX4.out)).trans (heap_cell HX4.out 1)
            have HBT : Hid (Below w.heap.size w wr) := HBW.out.trans (HBX.out.mono HBW.out.size)
            have hjc : 0 ≤ (cap : Int) := by omega
            by_cases hltm : m < s.length
            · obtain ⟨e, he⟩ : ∃ e, s[m]? = some e := ⟨_, List.getElem?_eq_getElem hltm⟩
              have HE := hid he
              have hsub := fun X => run_sub s m e he hsl X
              have HSK : Hid (SP wr.drew (.slice (some ⟨b, off, none⟩) 0 cap) (cs.take 0)) := sp_take (HS.out.below (below_drew1 HBT.out)) (by omega)
              have HLK : Hid ((cs.take 0).length = 0) := by show _ = _; rw [List.length_take]; omega
              clear he
              cases hkn : knownB (cs.take 0) ⟨#[e]⟩ with
              | false =>
                have HKN := hid hkn
                have HR : Hid (clB cs = false) := clB_no hlt (bad_sup HP.out hltm (bad_known HE.out hkn))
                clear hkn
                go_wp2_with fail
                refine wp_region_any (by kernel_rfl) ?_
                change wpAny _ _ _ _ _ _ _ (World.drew _)
                have SX : wr.drew.cell? ⟨b4, 0, none⟩ = some (.string ⟨#[c]⟩) ∧ wr.drew.cell? ⟨b4, 1, none⟩ = some (.string ⟨s.toArray⟩) := ⟨kx0, kx1⟩
                refine wpAny_of_T (S := fun X => X.cell? ⟨b4, 0, none⟩ = some (.string ⟨#[c]⟩) ∧ X.cell? ⟨b4, 1, none⟩ = some (.string ⟨s.toArray⟩)) (m := 28) _ _ _ _ ?_
                refine wpAnyT_take (i := 0) (v := .slice (some ⟨b, off, none⟩) cs.length cap) rfl (by kernel_rfl) (by kernel_rfl) (by kernel_rfl) (by kernel_rfl) (fun _ _ _ h => h) (Or.inl ⟨by kernel_rfl, fun X hS => by clear kx0 kx1; obtain ⟨e0, e1⟩ := hS; go_simp⟩) SX ?_
                try go_simp
                refine wpAnyT_take (i := 1) (v := .int .i64 0) rfl (by kernel_rfl) (by kernel_rfl) (by kernel_rfl) (by kernel_rfl) (fun _ _ _ h => h) (Or.inl ⟨by kernel_rfl, fun X hS => by clear kx0 kx1; obtain ⟨e0, e1⟩ := hS; go_simp⟩) SX ?_
                try go_simp
                refine wpAnyT_take (i := 2) (v := .slice (some ⟨b, off, none⟩) 0 cap) rfl (by kernel_rfl) (by kernel_rfl) (by kernel_rfl) (by kernel_rfl) (fun _ _ _ h => h) (Or.inl ⟨by kernel_rfl, fun X hS => by clear kx0 kx1; clear hS; go_simp; (try (intro hq; omega))⟩) SX ?_
                try go_simp
                refine wpAnyT_take (i := 3) (v := .agg #[.slice (some ⟨b, off, none⟩) 0 cap, .slice none 0 0]) rfl (by kernel_rfl) (by kernel_rfl) (by kernel_rfl) (by kernel_rfl) (fun _ _ _ h => h) (Or.inl ⟨by kernel_rfl, fun X hS => by clear kx0 kx1; obtain ⟨e0, e1⟩ := hS; go_simp⟩) SX ?_
                try go_simp
                refine wpAnyT_take (i := 4) (v := .pointer (some ⟨b4, 1, none⟩)) rfl (by kernel_rfl) (by kernel_rfl) (by kernel_rfl) (by kernel_rfl) (fun _ _ _ h => h) (Or.inl ⟨by kernel_rfl, fun X hS => by clear kx0 kx1; obtain ⟨e0, e1⟩ := hS; go_simp⟩) SX ?_
                try go_simp
                refine wpAnyT_take (i := 5) (v := .string ⟨s.toArray⟩) rfl (by kernel_rfl) (by kernel_rfl) (by kernel_rfl) (by kernel_rfl) (fun _ _ _ h => h) (Or.inl ⟨by kernel_rfl, fun X hS => by clear kx0 kx1; obtain ⟨e0, e1⟩ := hS; go_simp⟩) SX ?_
                try go_simp
                refine wpAnyT_take (i := 6) (v := .int .i64 m) rfl (by kernel_rfl) (by kernel_rfl) (by kernel_rfl) (by kernel_rfl) (fun _ _ _ h => h) (Or.inl ⟨by kernel_rfl, fun X hS => by clear kx0 kx1; obtain ⟨e0, e1⟩ := hS; go_simp⟩) SX ?_
                try go_simp
                refine wpAnyT_take (i := 7) (v := .int .i64 m) rfl (by kernel_rfl) (by kernel_rfl) (by kernel_rfl) (by kernel_rfl) (fun _ _ _ h => h) (Or.inl ⟨by kernel_rfl, fun X hS => by clear kx0 kx1; obtain ⟨e0, e1⟩ := hS; go_simp⟩) SX ?_
                try go_simp
                refine wpAnyT_take (i := 8) (v := .int .i64 (m + 1)) rfl (by kernel_rfl) (by kernel_rfl) (by kernel_rfl) (by kernel_rfl) (fun _ _ _ h => h) (Or.inl ⟨by kernel_rfl, fun X hS => by clear kx0 kx1; clear hS; go_simp; try exact IntWalk.i64_in _ (by omega)⟩) SX ?_
                try go_simp
                refine wpAnyT_take (i := 9) (v := .string ⟨#[e]⟩) rfl (by kernel_rfl) (by kernel_rfl) (by kernel_rfl) (by kernel_rfl) (fun _ _ _ h => h) (Or.inl ⟨by kernel_rfl, fun X hS => by clear kx0 kx1; obtain ⟨e0, e1⟩ := hS; go_simp⟩) SX ?_
                try go_simp
                refine wpAnyT_one 10 rfl (by kernel_rfl) (fun K hK => ?_)
                go_simp
                refine (l3Class_at _ _ _ _ _ (cs.take 0) ⟨#[e]⟩ wr.drew 0 HLK.out HSK.out).mono ?_
                rintro e1 w1 ⟨rfl, hb⟩
                have HB1 : Hid (Below W.heap.size W w1) := (HBX.out.drew).trans (hb.mono HBX.out.size)
                have SY : w1.cell? ⟨b4, 0, none⟩ = some (.string ⟨#[c]⟩) ∧ w1.cell? ⟨b4, 1, none⟩ = some (.string ⟨s.toArray⟩) := ⟨(hb.cell (lt_of_cell SX.1)).trans SX.1, (hb.cell (lt_of_cell SX.2)).trans SX.2⟩
                clear hb
                refine hK _ _ (fun _ => SY) ?_
                clear hK K
                obtain ⟨ixv, hixv⟩ : ∃ v, v = idxC (cs.take 0) ⟨#[e]⟩ := ⟨_, rfl⟩
                have hix2 : ixv < 0 := by
                  have h := idx_known (cs.take 0) ⟨#[e]⟩
                  rw [HKN.out, ← hixv] at h
                  simpa using h
                rw [← hixv]
                clear hixv
                refine wpAnyT_take (i := 11) (v := .bool true) rfl (by kernel_rfl) (by kernel_rfl) (by kernel_rfl) (by kernel_rfl) (fun _ _ _ h => h) (Or.inl ⟨by kernel_rfl, fun X hS => by clear kx0 kx1; obtain ⟨e0, e1⟩ := hS; go_simp⟩) SY ?_
                try go_simp
                refine wpAnyT_take (i := 12) (v := .bool true) rfl (by kernel_rfl) (by kernel_rfl) (by kernel_rfl) (by kernel_rfl) (fun _ _ _ h => h) (Or.inl ⟨by kernel_rfl, fun X hS => by clear kx0 kx1; obtain ⟨e0, e1⟩ := hS; go_simp⟩) SY ?_
                try go_simp
                refine wpAnyT_take (i := 13) (v := undef) rfl (by kernel_rfl) (by kernel_rfl) (by kernel_rfl) (by kernel_rfl) (fun _ _ _ h => h) (Or.inr ⟨by kernel_rfl, rfl⟩) SY ?_
                try go_simp
                refine wpAnyT_take (i := 14) (v := undef) rfl (by kernel_rfl) (by kernel_rfl) (by kernel_rfl) (by kernel_rfl) (fun _ _ _ h => h) (Or.inr ⟨by kernel_rfl, rfl⟩) SY ?_
                try go_simp
                refine wpAnyT_take (i := 15) (v := undef) rfl (by kernel_rfl) (by kernel_rfl) (by kernel_rfl) (by kernel_rfl) (fun _ _ _ h => h) (Or.inr ⟨by kernel_rfl, rfl⟩) SY ?_
                try go_simp
                refine wpAnyT_take (i := 16) (v := undef) rfl (by kernel_rfl) (by kernel_rfl) (by kernel_rfl) (by kernel_rfl) (fun _ _ _ h => h) (Or.inr ⟨by kernel_rfl, rfl⟩) SY ?_
                try go_simp
                refine wpAnyT_take (i := 17) (v := undef) rfl (by kernel_rfl) (by kernel_rfl) (by kernel_rfl) (by kernel_rfl) (fun _ _ _ h => h) (Or.inr ⟨by kernel_rfl, rfl⟩) SY ?_
                try go_simp
                refine wpAnyT_take (i := 18) (v := undef) rfl (by kernel_rfl) (by kernel_rfl) (by kernel_rfl) (by kernel_rfl) (fun _ _ _ h => h) (Or.inr ⟨by kernel_rfl, rfl⟩) SY ?_
                try go_simp
                refine wpAnyT_take (i := 19) (v := undef) rfl (by kernel_rfl) (by kernel_rfl) (by kernel_rfl) (by kernel_rfl) (fun _ _ _ h => h) (Or.inr ⟨by kernel_rfl, rfl⟩) SY ?_
                try go_simp
                refine wpAnyT_take (i := 20) (v := undef) rfl (by kernel_rfl) (by kernel_rfl) (by kernel_rfl) (by kernel_rfl) (fun _ _ _ h => h) (Or.inr ⟨by kernel_rfl, rfl⟩) SY ?_
                try go_simp
                refine wpAnyT_take (i := 21) (v := undef) rfl (by kernel_rfl) (by kernel_rfl) (by kernel_rfl) (by kernel_rfl) (fun _ _ _ h => h) (Or.inr ⟨by kernel_rfl, rfl⟩) SY ?_
                try go_simp
                refine wpAnyT_take (i := 22) (v := undef) rfl (by kernel_rfl) (by kernel_rfl) (by kernel_rfl) (by kernel_rfl) (fun _ _ _ h => h) (Or.inr ⟨by kernel_rfl, rfl⟩) SY ?_
                try go_simp
                refine wpAnyT_take (i := 23) (v := undef) rfl (by kernel_rfl) (by kernel_rfl) (by kernel_rfl) (by kernel_rfl) (fun _ _ _ h => h) (Or.inr ⟨by kernel_rfl, rfl⟩) SY ?_
                try go_simp
                refine wpAnyT_take (i := 24) (v := undef) rfl (by kernel_rfl) (by kernel_rfl) (by kernel_rfl) (by kernel_rfl) (fun _ _ _ h => h) (Or.inr ⟨by kernel_rfl, rfl⟩) SY ?_
                try go_simp
                refine wpAnyT_take (i := 25) (v := undef) rfl (by kernel_rfl) (by kernel_rfl) (by kernel_rfl) (by kernel_rfl) (fun _ _ _ h => h) (Or.inr ⟨by kernel_rfl, rfl⟩) SY ?_
                try go_simp
                refine wpAnyT_take (i := 26) (v := undef) rfl (by kernel_rfl) (by kernel_rfl) (by kernel_rfl) (by kernel_rfl) (fun _ _ _ h => h) (Or.inr ⟨by kernel_rfl, rfl⟩) SY ?_
                try go_simp
                refine wpAnyT_take (i := 27) (v := .bool true) rfl (by kernel_rfl) (by kernel_rfl) (by kernel_rfl) (by kernel_rfl) (fun _ _ _ h => h) (Or.inl ⟨by kernel_rfl, fun X hS => by clear kx0 kx1; obtain ⟨e0, e1⟩ := hS; go_simp⟩) SY ?_
                try go_simp
                refine wpAnyT_drop _ 28 _ _ _ (by decide) (by kernel_rfl) ?_
                change wpList _ _ _ [] _ _
                clear SX SY kx0 kx1
                go_wp2
                go_ret
                exact ⟨ret_bool HR.out.symm, HBW.out.trans (HB1.out.mono HBW.out.size)⟩
              | true => exact absurd hkn (by simp [knownB])
            · have hme : m = s.length := by omega
              have HGC : Hid (∀ i, i < 0 + 1 → goodC cs i) := fun i hi => by
                by_cases e1 : i < 0
                · exact HGD.out i e1
                · obtain rfl : i = 0 := by omega
                  exact ⟨c, s, HP.out, hcap1.out, fun j h => by omega, fun t ht => HGS.out t (by omega)⟩
              clear kx1
              go_wp2_with fail
              go_roundg (cs.length - (0 + 1))
              case measure => omega
              case rel => exact ⟨0 + 1, by omega, by omega, by go_num, HGC.out, HBT.out⟩
        | j + 1, hk, hlt, hq, k0, k1, HP, HGD =>
          obtain ⟨d, z, hd, hdv, -, -⟩ := HGD.out j (by omega)
          obtain ⟨b', off', eb, kp, -, -, -, -⟩ := sp_at (HS.out.below HB.out) hd
          cases eb
          have HD := hid hd
          have hjb : j + 1 < cs.length := hlt
          clear hd hdv
          by_cases hlt2 : d.toNat < c.toNat
          · have hge : ∀ X : World, (binOp .geq 9 (.string ⟨#[d]⟩) (.string ⟨#[c]⟩)).run Tryd.prog X = .ok (.bool false) X := fun X => by rw [geq1, decide_eq_false (by omega)]
            go_wp2
            go_quiet ((go_at_call 37; exact Calls.quiet_of_same (l3Capital_q HV.out _ (by simp))))
            go_wp2_with fail
            have HBW : Hid (Below w.heap.size w ((wr.alloc (.cells #[.string ⟨#[c]⟩, .string ⟨s.toArray⟩] 69)).drewN nq)) := below_drewN (HB.out.alloc (by omega) _) _
            have HX4 : Hid (((wr.alloc (.cells #[.string ⟨#[c]⟩, .string ⟨s.toArray⟩] 69)).drewN nq).heap[wr.heap.size]? = some (.cells #[.string ⟨#[c]⟩, .string ⟨s.toArray⟩] 69 (0, 0))) := (heap_drewN _ _ _).trans (heap_alloc_new _ _)
            clear k0 k1
            generalize ((wr.alloc (.cells #[.string ⟨#[c]⟩, .string ⟨s.toArray⟩] 69)).drewN nq) = W at *
            obtain ⟨b4, hb4⟩ : ∃ x, x = wr.heap.size := ⟨_, rfl⟩
            rw [← hb4] at HX4
            rw [← hb4]
            have hb4z : w.heap.size ≤ b4 := by omega
            clear hb4
            have hjlt : (j : Int) + 1 < (cs.length : Int) := by omega
            try rw [decide_eq_true hjlt]
            go_loopg [35] s.length (fun q i wr => ∃ m : Nat, m ≤ s.length ∧ s.length - m ≤ q ∧ i = .int .i64 m ∧ Hid (∀ t, t < m → goodS (cs.take (j + 1)) s t) ∧ Below W.heap.size W wr)
            case atStart => exact ⟨0, Nat.zero_le _, by simp, rfl, (fun t h => by omega), Below.refl _ _⟩
            case round =>
              obtain ⟨m, hm, hmq, rfl, hgs, hb⟩ := hrel
              have HBX := hid hb
              have HGS := hid hgs
              have hbzx := hb.size
              clear hb hgs
              have kx0 : wr.cell? ⟨b4, 0, none⟩ = some (.string ⟨#[c]⟩) := (HBX.out.cell (p := ⟨b4, 0, none⟩) (lt_of_heap HX4.out)).trans (heap_cell HX4.out 0)
              have kx1 : wr.cell? ⟨b4, 1, none⟩ = some (.string ⟨s.toArray⟩) := (HBX.out.cell (p := ⟨b4, 1, none⟩) (lt_of_heap HX4.out)).trans (heap_cell HX4.out 1)
              have HBT : Hid (Below w.heap.size w wr) := HBW.out.trans (HBX.out.mono HBW.out.size)
              have hjc : ((j : Int) + 1) ≤ (cap : Int) := by omega
              by_cases hltm : m < s.length
              · obtain ⟨e, he⟩ : ∃ e, s[m]? = some e := ⟨_, List.getElem?_eq_getElem hltm⟩
                have HE := hid he
                have hsub := fun X => run_sub s m e he hsl X
                have HSK : Hid (SP wr.drew (.slice (some ⟨b, off, none⟩) (j + 1) cap) (cs.take (j + 1))) := sp_take (HS.out.below (below_drew1 HBT.out)) (by omega)
                have HLK : Hid ((cs.take (j + 1)).length = (j + 1)) := by show _ = _; rw [List.length_take]; omega
                clear he
                cases hkn : knownB (cs.take (j + 1)) ⟨#[e]⟩ with
                | false =>
                  have HKN := hid hkn
                  have HR : Hid (clB cs = false) := clB_no hlt (bad_sup HP.out hltm (bad_known HE.out hkn))
                  clear hkn
                  go_wp2_with fail
                  refine wp_region_any (by kernel_rfl) ?_
                  change wpAny _ _ _ _ _ _ _ (World.drew _)
                  have SX : wr.drew.cell? ⟨b4, 0, none⟩ = some (.string ⟨#[c]⟩) ∧ wr.drew.cell? ⟨b4, 1, none⟩ = some (.string ⟨s.toArray⟩) := ⟨kx0, kx1⟩
                  refine wpAny_of_T (S := fun X => X.cell? ⟨b4, 0, none⟩ = some (.string ⟨#[c]⟩) ∧ X.cell? ⟨b4, 1, none⟩ = some (.string ⟨s.toArray⟩)) (m := 28) _ _ _ _ ?_
                  refine wpAnyT_take (i := 0) (v := .slice (some ⟨b, off, none⟩) cs.length cap) rfl (by kernel_rfl) (by kernel_rfl) (by kernel_rfl) (by kernel_rfl) (fun _ _ _ h => h) (Or.inl ⟨by kernel_rfl, fun X hS => by clear kx0 kx1; obtain ⟨e0, e1⟩ := hS; go_simp⟩) SX ?_
                  try go_simp
                  refine wpAnyT_take (i := 1) (v := .int .i64 ((j : Int) + 1)) rfl (by kernel_rfl) (by kernel_rfl) (by kernel_rfl) (by kernel_rfl) (fun _ _ _ h => h) (Or.inl ⟨by kernel_rfl, fun X hS => by clear kx0 kx1; obtain ⟨e0, e1⟩ := hS; go_simp⟩) SX ?_
                  try go_simp
                  refine wpAnyT_take (i := 2) (v := .slice (some ⟨b, off, none⟩) (j + 1) cap) rfl (by kernel_rfl) (by kernel_rfl) (by kernel_rfl) (by kernel_rfl) (fun _ _ _ h => h) (Or.inl ⟨by kernel_rfl, fun X hS => by clear kx0 kx1; clear hS; go_simp; (try (intro hq; omega))⟩) SX ?_
                  try go_simp
                  refine wpAnyT_take (i := 3) (v := .agg #[.slice (some ⟨b, off, none⟩) (j + 1) cap, .slice none 0 0]) rfl (by kernel_rfl) (by kernel_rfl) (by kernel_rfl) (by kernel_rfl) (fun _ _ _ h => h) (Or.inl ⟨by kernel_rfl, fun X hS => by clear kx0 kx1; obtain ⟨e0, e1⟩ := hS; go_simp⟩) SX ?_
                  try go_simp
                  refine wpAnyT_take (i := 4) (v := .pointer (some ⟨b4, 1, none⟩)) rfl (by kernel_rfl) (by kernel_rfl) (by kernel_rfl) (by kernel_rfl) (fun _ _ _ h => h) (Or.inl ⟨by kernel_rfl, fun X hS => by clear kx0 kx1; obtain ⟨e0, e1⟩ := hS; go_simp⟩) SX ?_
                  try go_simp
                  refine wpAnyT_take (i := 5) (v := .string ⟨s.toArray⟩) rfl (by kernel_rfl) (by kernel_rfl) (by kernel_rfl) (by kernel_rfl) (fun _ _ _ h => h) (Or.inl ⟨by kernel_rfl, fun X hS => by clear kx0 kx1; obtain ⟨e0, e1⟩ := hS; go_simp⟩) SX ?_
                  try go_simp
                  refine wpAnyT_take (i := 6) (v := .int .i64 m) rfl (by kernel_rfl) (by kernel_rfl) (by kernel_rfl) (by kernel_rfl) (fun _ _ _ h => h) (Or.inl ⟨by kernel_rfl, fun X hS => by clear kx0 kx1; obtain ⟨e0, e1⟩ := hS; go_simp⟩) SX ?_
                  try go_simp
                  refine wpAnyT_take (i := 7) (v := .int .i64 m) rfl (by kernel_rfl) (by kernel_rfl) (by kernel_rfl) (by kernel_rfl) (fun _ _ _ h => h) (Or.inl ⟨by kernel_rfl, fun X hS => by clear kx0 kx1; obtain ⟨e0, e1⟩ := hS; go_simp⟩) SX ?_
                  try go_simp
                  refine wpAnyT_take (i := 8) (v := .int .i64 (m + 1)) rfl (by kernel_rfl) (by kernel_rfl) (by kernel_rfl) (by kernel_rfl) (fun _ _ _ h => h) (Or.inl ⟨by kernel_rfl, fun X hS => by clear kx0 kx1; clear hS; go_simp; try exact IntWalk.i64_in _ (by omega)⟩) SX ?_
                  try go_simp
                  refine wpAnyT_take (i := 9) (v := .string ⟨#[e]⟩) rfl (by kernel_rfl) (by kernel_rfl) (by kernel_rfl) (by kernel_rfl) (fun _ _ _ h => h) (Or.inl ⟨by kernel_rfl, fun X hS => by clear kx0 kx1; obtain ⟨e0, e1⟩ := hS; go_simp⟩) SX ?_
                  try go_simp
                  refine wpAnyT_one 10 rfl (by kernel_rfl) (fun K hK => ?_)
                  go_simp
                  refine (l3Class_at _ _ _ _ _ (cs.take (j + 1)) ⟨#[e]⟩ wr.drew (j + 1) HLK.out HSK.out).mono ?_
                  rintro e1 w1 ⟨rfl, hb⟩
                  have HB1 : Hid (Below W.heap.size W w1) := (HBX.out.drew).trans (hb.mono HBX.out.size)
                  have SY : w1.cell? ⟨b4, 0, none⟩ = some (.string ⟨#[c]⟩) ∧ w1.cell? ⟨b4, 1, none⟩ = some (.string ⟨s.toArray⟩) := ⟨(hb.cell (lt_of_cell SX.1)).trans SX.1, (hb.cell (lt_of_cell SX.2)).trans SX.2⟩
                  clear hb
                  refine hK _ _ (fun _ => SY) ?_
                  clear hK K
                  obtain ⟨ixv, hixv⟩ : ∃ v, v = idxC (cs.take (j + 1)) ⟨#[e]⟩ := ⟨_, rfl⟩
                  have hix2 : ixv < 0 := by
                    have h := idx_known (cs.take (j + 1)) ⟨#[e]⟩
                    rw [HKN.out, ← hixv] at h
                    simpa using h
                  rw [← hixv]
                  clear hixv
                  refine wpAnyT_take (i := 11) (v := .bool true) rfl (by kernel_rfl) (by kernel_rfl) (by kernel_rfl) (by kernel_rfl) (fun _ _ _ h => h) (Or.inl ⟨by kernel_rfl, fun X hS => by clear kx0 kx1; obtain ⟨e0, e1⟩ := hS; go_simp⟩) SY ?_
                  try go_simp
                  refine wpAnyT_take (i := 12) (v := .bool true) rfl (by kernel_rfl) (by kernel_rfl) (by kernel_rfl) (by kernel_rfl) (fun _ _ _ h => h) (Or.inl ⟨by kernel_rfl, fun X hS => by clear kx0 kx1; obtain ⟨e0, e1⟩ := hS; go_simp⟩) SY ?_
                  try go_simp
                  refine wpAnyT_take (i := 13) (v := undef) rfl (by kernel_rfl) (by kernel_rfl) (by kernel_rfl) (by kernel_rfl) (fun _ _ _ h => h) (Or.inr ⟨by kernel_rfl, rfl⟩) SY ?_
                  try go_simp
                  refine wpAnyT_take (i := 14) (v := undef) rfl (by kernel_rfl) (by kernel_rfl) (by kernel_rfl) (by kernel_rfl) (fun _ _ _ h => h) (Or.inr ⟨by kernel_rfl, rfl⟩) SY ?_
                  try go_simp
                  refine wpAnyT_take (i := 15) (v := undef) rfl (by kernel_rfl) (by kernel_rfl) (by kernel_rfl) (by kernel_rfl) (fun _ _ _ h => h) (Or.inr ⟨by kernel_rfl, rfl⟩) SY ?_
                  try go_simp
                  refine wpAnyT_take (i := 16) (v := undef) rfl (by kernel_rfl) (by kernel_rfl) (by kernel_rfl) (by kernel_rfl) (fun _ _ _ h => h) (Or.inr ⟨by kernel_rfl, rfl⟩) SY ?_
                  try go_simp
                  refine wpAnyT_take (i := 17) (v := undef) rfl (by kernel_rfl) (by kernel_rfl) (by kernel_rfl) (by kernel_rfl) (fun _ _ _ h => h) (Or.inr ⟨by kernel_rfl, rfl⟩) SY ?_
                  try go_simp
                  refine wpAnyT_take (i := 18) (v := undef) rfl (by kernel_rfl) (by kernel_rfl) (by kernel_rfl) (by kernel_rfl) (fun _ _ _ h => h) (Or.inr ⟨by kernel_rfl, rfl⟩) SY ?_
                  try go_simp
                  refine wpAnyT_take (i := 19) (v := undef) rfl (by kernel_rfl) (by kernel_rfl) (by kernel_rfl) (by kernel_rfl) (fun _ _ _ h => h) (Or.inr ⟨by kernel_rfl, rfl⟩) SY ?_
                  try go_simp
                  refine wpAnyT_take (i := 20) (v := undef) rfl (by kernel_rfl) (by kernel_rfl) (by kernel_rfl) (by kernel_rfl) (fun _ _ _ h => h) (Or.inr ⟨by kernel_rfl, rfl⟩) SY ?_
                  try go_simp
                  refine wpAnyT_take (i := 21) (v := undef) rfl (by kernel_rfl) (by kernel_rfl) (by kernel_rfl) (by kernel_rfl) (fun _ _ _ h => h) (Or.inr ⟨by kernel_rfl, rfl⟩) SY ?_
                  try go_simp
                  refine wpAnyT_take (i := 22) (v := undef) rfl (by kernel_rfl) (by kernel_rfl) (by kernel_rfl) (by kernel_rfl) (fun _ _ _ h => h) (Or.inr ⟨by kernel_rfl, rfl⟩) SY ?_
                  try go_simp
                  refine wpAnyT_take (i := 23) (v := undef) rfl (by kernel_rfl) (by kernel_rfl) (by kernel_rfl) (by kernel_rfl) (fun _ _ _ h => h) (Or.inr ⟨by kernel_rfl, rfl⟩) SY ?_
                  try go_simp
                  refine wpAnyT_take (i := 24) (v := undef) rfl (by kernel_rfl) (by kernel_rfl) (by kernel_rfl) (by kernel_rfl) (fun _ _ _ h => h) (Or.inr ⟨by kernel_rfl, rfl⟩) SY ?_
                  try go_simp
                  refine wpAnyT_take (i := 25) (v := undef) rfl (by kernel_rfl) (by kernel_rfl) (by kernel_rfl) (by kernel_rfl) (fun _ _ _ h => h) (Or.inr ⟨by kernel_rfl, rfl⟩) SY ?_
                  try go_simp
                  refine wpAnyT_take (i := 26) (v := undef) rfl (by kernel_rfl) (by kernel_rfl) (by kernel_rfl) (by kernel_rfl) (fun _ _ _ h => h) (Or.inr ⟨by kernel_rfl, rfl⟩) SY ?_
                  try go_simp
                  refine wpAnyT_take (i := 27) (v := .bool true) rfl (by kernel_rfl) (by kernel_rfl) (by kernel_rfl) (by kernel_rfl) (fun _ _ _ h => h) (Or.inl ⟨by kernel_rfl, fun X hS => by clear kx0 kx1; obtain ⟨e0, e1⟩ := hS; go_simp⟩) SY ?_
                  try go_simp
                  refine wpAnyT_drop _ 28 _ _ _ (by decide) (by kernel_rfl) ?_
                  change wpList _ _ _ [] _ _
                  clear SX SY kx0 kx1
                  go_wp2
                  go_ret
                  exact ⟨ret_bool HR.out.symm, HBW.out.trans (HB1.out.mono HBW.out.size)⟩
                | true =>
                  have HKN := hid hkn
                  clear hkn
                  match m, hm, hmq, hltm, hsub, HE, HGS with
                  | 0, hm, hmq, hltm, hsub, HE, HGS =>
                    have HN : Hid (∀ t, t < 0 + 1 → goodS (cs.take (j + 1)) s t) := fun t ht => by
                      obtain rfl : t = 0 := by omega
                      exact ⟨e, HE.out, HKN.out, fun j d h => by omega⟩
                    have hsub0 : ∀ X : World, (Instr.slice 9 (.string ⟨s.toArray⟩) (some (.int .i64 0)) (some (.int .i64 1)) none).run Tryd.prog X = .ok (.string ⟨#[e]⟩) X := fun X => by have := hsub X; simpa using this
                    go_wp2_with fail
                    refine wp_region_any (by kernel_rfl) ?_
                    change wpAny _ _ _ _ _ _ _ (World.drew _)
                    have SX : wr.drew.cell? ⟨b4, 0, none⟩ = some (.string ⟨#[c]⟩) ∧ wr.drew.cell? ⟨b4, 1, none⟩ = some (.string ⟨s.toArray⟩) := ⟨kx0, kx1⟩
                    refine wpAny_of_T (S := fun X => X.cell? ⟨b4, 0, none⟩ = some (.string ⟨#[c]⟩) ∧ X.cell? ⟨b4, 1, none⟩ = some (.string ⟨s.toArray⟩)) (m := 28) _ _ _ _ ?_
                    refine wpAnyT_take (i := 0) (v := .slice (some ⟨b, off, none⟩) cs.length cap) rfl (by kernel_rfl) (by kernel_rfl) (by kernel_rfl) (by kernel_rfl) (fun _ _ _ h => h) (Or.inl ⟨by kernel_rfl, fun X hS => by clear kx0 kx1; obtain ⟨e0, e1⟩ := hS; go_simp⟩) SX ?_
                    try go_simp
                    refine wpAnyT_take (i := 1) (v := .int .i64 ((j : Int) + 1)) rfl (by kernel_rfl) (by kernel_rfl) (by kernel_rfl) (by kernel_rfl) (fun _ _ _ h => h) (Or.inl ⟨by kernel_rfl, fun X hS => by clear kx0 kx1; obtain ⟨e0, e1⟩ := hS; go_simp⟩) SX ?_
                    try go_simp
                    refine wpAnyT_take (i := 2) (v := .slice (some ⟨b, off, none⟩) (j + 1) cap) rfl (by kernel_rfl) (by kernel_rfl) (by kernel_rfl) (by kernel_rfl) (fun _ _ _ h => h) (Or.inl ⟨by kernel_rfl, fun X hS => by clear kx0 kx1; clear hS; go_simp; (try (intro hq; omega))⟩) SX ?_
                    try go_simp
                    refine wpAnyT_take (i := 3) (v := .agg #[.slice (some ⟨b, off, none⟩) (j + 1) cap, .slice none 0 0]) rfl (by kernel_rfl) (by kernel_rfl) (by kernel_rfl) (by kernel_rfl) (fun _ _ _ h => h) (Or.inl ⟨by kernel_rfl, fun X hS => by clear kx0 kx1; obtain ⟨e0, e1⟩ := hS; go_simp⟩) SX ?_
                    try go_simp
                    refine wpAnyT_take (i := 4) (v := .pointer (some ⟨b4, 1, none⟩)) rfl (by kernel_rfl) (by kernel_rfl) (by kernel_rfl) (by kernel_rfl) (fun _ _ _ h => h) (Or.inl ⟨by kernel_rfl, fun X hS => by clear kx0 kx1; obtain ⟨e0, e1⟩ := hS; go_simp⟩) SX ?_
                    try go_simp
                    refine wpAnyT_take (i := 5) (v := .string ⟨s.toArray⟩) rfl (by kernel_rfl) (by kernel_rfl) (by kernel_rfl) (by kernel_rfl) (fun _ _ _ h => h) (Or.inl ⟨by kernel_rfl, fun X hS => by clear kx0 kx1; obtain ⟨e0, e1⟩ := hS; go_simp⟩) SX ?_
                    try go_simp
                    refine wpAnyT_take (i := 6) (v := .int .i64 0) rfl (by kernel_rfl) (by kernel_rfl) (by kernel_rfl) (by kernel_rfl) (fun _ _ _ h => h) (Or.inl ⟨by kernel_rfl, fun X hS => by clear kx0 kx1; obtain ⟨e0, e1⟩ := hS; go_simp⟩) SX ?_
                    try go_simp
                    refine wpAnyT_take (i := 7) (v := .int .i64 0) rfl (by kernel_rfl) (by kernel_rfl) (by kernel_rfl) (by kernel_rfl) (fun _ _ _ h => h) (Or.inl ⟨by kernel_rfl, fun X hS => by clear kx0 kx1; obtain ⟨e0, e1⟩ := hS; go_simp⟩) SX ?_
                    try go_simp
                    refine wpAnyT_take (i := 8) (v := .int .i64 (0 + 1)) rfl (by kernel_rfl) (by kernel_rfl) (by kernel_rfl) (by kernel_rfl) (fun _ _ _ h => h) (Or.inl ⟨by kernel_rfl, fun X hS => by clear kx0 kx1; clear hS; go_simp; try exact IntWalk.i64_in _ (by omega)⟩) SX ?_
                    try go_simp
                    refine wpAnyT_take (i := 9) (v := .string ⟨#[e]⟩) rfl (by kernel_rfl) (by kernel_rfl) (by kernel_rfl) (by kernel_rfl) (fun _ _ _ h => h) (Or.inl ⟨by kernel_rfl, fun X hS => by clear kx0 kx1; obtain ⟨e0, e1⟩ := hS; go_simp⟩) SX ?_
                    try go_simp
                    refine wpAnyT_one 10 rfl (by kernel_rfl) (fun K hK => ?_)
                    go_simp
                    refine (l3Class_at _ _ _ _ _ (cs.take (j + 1)) ⟨#[e]⟩ wr.drew (j + 1) HLK.out HSK.out).mono ?_
                    rintro e1 w1 ⟨rfl, hb⟩
                    have HB1 : Hid (Below W.heap.size W w1) := (HBX.out.drew).trans (hb.mono HBX.out.size)
                    have SY : w1.cell? ⟨b4, 0, none⟩ = some (.string ⟨#[c]⟩) ∧ w1.cell? ⟨b4, 1, none⟩ = some (.string ⟨s.toArray⟩) := ⟨(hb.cell (lt_of_cell SX.1)).trans SX.1, (hb.cell (lt_of_cell SX.2)).trans SX.2⟩
                    clear hb
                    refine hK _ _ (fun _ => SY) ?_
                    clear hK K
                    obtain ⟨ixv, hixv⟩ : ∃ v, v = idxC (cs.take (j + 1)) ⟨#[e]⟩ := ⟨_, rfl⟩
                    have hix2 : 0 ≤ ixv := by
                      have h := idx_known (cs.take (j + 1)) ⟨#[e]⟩
                      rw [HKN.out, ← hixv] at h
                      simpa using h
                    rw [← hixv]
                    clear hixv
                    refine wpAnyT_take (i := 11) (v := .bool false) rfl (by kernel_rfl) (by kernel_rfl) (by kernel_rfl) (by kernel_rfl) (fun _ _ _ h => h) (Or.inl ⟨by kernel_rfl, fun X hS => by clear kx0 kx1; obtain ⟨e0, e1⟩ := hS; go_simp⟩) SY ?_
                    try go_simp
                    refine wpAnyT_take (i := 12) (v := .bool false) rfl (by kernel_rfl) (by kernel_rfl) (by kernel_rfl) (by kernel_rfl) (fun _ _ _ h => h) (Or.inl ⟨by kernel_rfl, fun X hS => by clear kx0 kx1; obtain ⟨e0, e1⟩ := hS; go_simp⟩) SY ?_
                    try go_simp
                    refine wpAnyT_take (i := 13) (v := .int .i64 0) rfl (by kernel_rfl) (by kernel_rfl) (by kernel_rfl) (by kernel_rfl) (fun _ _ _ h => h) (Or.inl ⟨by kernel_rfl, fun X hS => by clear kx0 kx1; obtain ⟨e0, e1⟩ := hS; go_simp⟩) SY ?_
                    try go_simp
                    refine wpAnyT_take (i := 14) (v := .bool false) rfl (by kernel_rfl) (by kernel_rfl) (by kernel_rfl) (by kernel_rfl) (fun _ _ _ h => h) (Or.inl ⟨by kernel_rfl, fun X hS => by clear kx0 kx1; obtain ⟨e0, e1⟩ := hS; go_simp⟩) SY ?_
                    try go_simp
                    refine wpAnyT_take (i := 15) (v := .bool false) rfl (by kernel_rfl) (by kernel_rfl) (by kernel_rfl) (by kernel_rfl) (fun _ _ _ h => h) (Or.inl ⟨by kernel_rfl, fun X hS => by clear kx0 kx1; obtain ⟨e0, e1⟩ := hS; go_simp⟩) SY ?_
                    try go_simp
                    refine wpAnyT_take (i := 16) (v := undef) rfl (by kernel_rfl) (by kernel_rfl) (by kernel_rfl) (by kernel_rfl) (fun _ _ _ h => h) (Or.inr ⟨by kernel_rfl, rfl⟩) SY ?_
                    try go_simp
                    refine wpAnyT_take (i := 17) (v := undef) rfl (by kernel_rfl) (by kernel_rfl) (by kernel_rfl) (by kernel_rfl) (fun _ _ _ h => h) (Or.inr ⟨by kernel_rfl, rfl⟩) SY ?_
                    try go_simp
                    refine wpAnyT_take (i := 18) (v := undef) rfl (by kernel_rfl) (by kernel_rfl) (by kernel_rfl) (by kernel_rfl) (fun _ _ _ h => h) (Or.inr ⟨by kernel_rfl, rfl⟩) SY ?_
                    try go_simp
                    refine wpAnyT_take (i := 19) (v := undef) rfl (by kernel_rfl) (by kernel_rfl) (by kernel_rfl) (by kernel_rfl) (fun _ _ _ h => h) (Or.inr ⟨by kernel_rfl, rfl⟩) SY ?_
                    try go_simp
                    refine wpAnyT_take (i := 20) (v := undef) rfl (by kernel_rfl) (by kernel_rfl) (by kernel_rfl) (by kernel_rfl) (fun _ _ _ h => h) (Or.inr ⟨by kernel_rfl, rfl⟩) SY ?_
                    try go_simp
                    refine wpAnyT_take (i := 21) (v := undef) rfl (by kernel_rfl) (by kernel_rfl) (by kernel_rfl) (by kernel_rfl) (fun _ _ _ h => h) (Or.inr ⟨by kernel_rfl, rfl⟩) SY ?_
                    try go_simp
                    refine wpAnyT_take (i := 22) (v := undef) rfl (by kernel_rfl) (by kernel_rfl) (by kernel_rfl) (by kernel_rfl) (fun _ _ _ h => h) (Or.inr ⟨by kernel_rfl, rfl⟩) SY ?_
                    try go_simp
                    refine wpAnyT_take (i := 23) (v := undef) rfl (by kernel_rfl) (by kernel_rfl) (by kernel_rfl) (by kernel_rfl) (fun _ _ _ h => h) (Or.inr ⟨by kernel_rfl, rfl⟩) SY ?_
                    try go_simp
                    refine wpAnyT_take (i := 24) (v := undef) rfl (by kernel_rfl) (by kernel_rfl) (by kernel_rfl) (by kernel_rfl) (fun _ _ _ h => h) (Or.inr ⟨by kernel_rfl, rfl⟩) SY ?_
                    try go_simp
                    refine wpAnyT_take (i := 25) (v := undef) rfl (by kernel_rfl) (by kernel_rfl) (by kernel_rfl) (by kernel_rfl) (fun _ _ _ h => h) (Or.inr ⟨by kernel_rfl, rfl⟩) SY ?_
                    try go_simp
                    refine wpAnyT_take (i := 26) (v := .bool false) rfl (by kernel_rfl) (by kernel_rfl) (by kernel_rfl) (by kernel_rfl) (fun _ _ _ h => h) (Or.inl ⟨by kernel_rfl, fun X hS => by clear kx0 kx1; obtain ⟨e0, e1⟩ := hS; go_simp⟩) SY ?_
                    try go_simp
                    refine wpAnyT_take (i := 27) (v := .bool false) rfl (by kernel_rfl) (by kernel_rfl) (by kernel_rfl) (by kernel_rfl) (fun _ _ _ h => h) (Or.inl ⟨by kernel_rfl, fun X hS => by clear kx0 kx1; obtain ⟨e0, e1⟩ := hS; go_simp⟩) SY ?_
                    try go_simp
                    refine wpAnyT_drop _ 28 _ _ _ (by decide) (by kernel_rfl) ?_
                    change wpList _ _ _ [] _ _
                    clear SX SY kx0 kx1
                    go_wp2
                    go_roundg (s.length - 1)
                    case measure => omega
                    case rel => exact ⟨1, by omega, by omega, rfl, HN.out, HB1.out⟩
                  | t + 1, hm, hmq, hltm, hsub, HE, HGS =>
                    obtain ⟨e0, he0⟩ : ∃ e0, s[t]? = some e0 := ⟨_, List.getElem?_eq_getElem (by omega)⟩
                    have HE0 := hid he0
                    clear he0
                    have hsub2 : ∀ X : World, (Instr.slice 9 (.string ⟨s.toArray⟩) (some (.int .i64 ((t : Int) + 1))) (some (.int .i64 ((t : Int) + 1 + 1))) none).run Tryd.prog X = .ok (.string ⟨#[e]⟩) X := fun X => by have := hsub X; simpa using this
                    clear hsub
                    by_cases hle : e0.toNat < e.toNat
                    · have HN : Hid (∀ i, i < t + 1 + 1 → goodS (cs.take (j + 1)) s i) := fun i hi => by
                        by_cases e1 : i < t + 1
                        · exact HGS.out i e1
                        · obtain rfl : i = t + 1 := by omega
                          exact ⟨e, HE.out, HKN.out, fun j d h hd => by obtain rfl : j = t := by omega
                                                                        rw [HE0.out] at hd; cases hd; exact hle⟩
                      go_wp2_with fail
                      refine wp_region_any (by kernel_rfl) ?_
                      change wpAny _ _ _ _ _ _ _ (World.drew _)
                      have SX : wr.drew.cell? ⟨b4, 0, none⟩ = some (.string ⟨#[c]⟩) ∧ wr.drew.cell? ⟨b4, 1, none⟩ = some (.string ⟨s.toArray⟩) := ⟨kx0, kx1⟩
                      refine wpAny_of_T (S := fun X => X.cell? ⟨b4, 0, none⟩ = some (.string ⟨#[c]⟩) ∧ X.cell? ⟨b4, 1, none⟩ = some (.string ⟨s.toArray⟩)) (m := 28) _ _ _ _ ?_
                      refine wpAnyT_take (i := 0) (v := .slice (some ⟨b, off, none⟩) cs.length cap) rfl (by kernel_rfl) (by kernel_rfl) (by kernel_rfl) (by kernel_rfl) (fun _ _ _ h => h) (Or.inl ⟨by kernel_rfl, fun X hS => by clear kx0 kx1; obtain ⟨e0, e1⟩ := hS; go_simp⟩) SX ?_
                      try go_simp
                      refine wpAnyT_take (i := 1) (v := .int .i64 ((j : Int) + 1)) rfl (by kernel_rfl) (by kernel_rfl) (by kernel_rfl) (by kernel_rfl) (fun _ _ _ h => h) (Or.inl ⟨by kernel_rfl, fun X hS => by clear kx0 kx1; obtain ⟨e0, e1⟩ := hS; go_simp⟩) SX ?_
                      try go_simp
                      refine wpAnyT_take (i := 2) (v := .slice (some ⟨b, off, none⟩) (j + 1) cap) rfl (by kernel_rfl) (by kernel_rfl) (by kernel_rfl) (by kernel_rfl) (fun _ _ _ h => h) (Or.inl ⟨by kernel_rfl, fun X hS => by clear kx0 kx1; clear hS; go_simp; (try (intro hq; omega))⟩) SX ?_
                      try go_simp
                      refine wpAnyT_take (i := 3) (v := .agg #[.slice (some ⟨b, off, none⟩) (j + 1) cap, .slice none 0 0]) rfl (by kernel_rfl) (by kernel_rfl) (by kernel_rfl) (by kernel_rfl) (fun _ _ _ h => h) (Or.inl ⟨by kernel_rfl, fun X hS => by clear kx0 kx1; obtain ⟨e0, e1⟩ := hS; go_simp⟩) SX ?_
                      try go_simp
                      refine wpAnyT_take (i := 4) (v := .pointer (some ⟨b4, 1, none⟩)) rfl (by kernel_rfl) (by kernel_rfl) (by kernel_rfl) (by kernel_rfl) (fun _ _ _ h => h) (Or.inl ⟨by kernel_rfl, fun X hS => by clear kx0 kx1; obtain ⟨e0, e1⟩ := hS; go_simp⟩) SX ?_
                      try go_simp
                      refine wpAnyT_take (i := 5) (v := .string ⟨s.toArray⟩) rfl (by kernel_rfl) (by kernel_rfl) (by kernel_rfl) (by kernel_rfl) (fun _ _ _ h => h) (Or.inl ⟨by kernel_rfl, fun X hS => by clear kx0 kx1; obtain ⟨e0, e1⟩ := hS; go_simp⟩) SX ?_
                      try go_simp
                      refine wpAnyT_take (i := 6) (v := .int .i64 ((t : Int) + 1)) rfl (by kernel_rfl) (by kernel_rfl) (by kernel_rfl) (by kernel_rfl) (fun _ _ _ h => h) (Or.inl ⟨by kernel_rfl, fun X hS => by clear kx0 kx1; obtain ⟨e0, e1⟩ := hS; go_simp⟩) SX ?_
                      try go_simp
                      refine wpAnyT_take (i := 7) (v := .int .i64 ((t : Int) + 1)) rfl (by kernel_rfl) (by kernel_rfl) (by kernel_rfl) (by kernel_rfl) (fun _ _ _ h => h) (Or.inl ⟨by kernel_rfl, fun X hS => by clear kx0 kx1; obtain ⟨e0, e1⟩ := hS; go_simp⟩) SX ?_
                      try go_simp
                      refine wpAnyT_take (i := 8) (v := .int .i64 (((t : Int) + 1) + 1)) rfl (by kernel_rfl) (by kernel_rfl) (by kernel_rfl) (by kernel_rfl) (fun _ _ _ h => h) (Or.inl ⟨by kernel_rfl, fun X hS => by clear kx0 kx1; clear hS; go_simp; try exact IntWalk.i64_in _ (by omega)⟩) SX ?_
                      try go_simp
                      refine wpAnyT_take (i := 9) (v := .string ⟨#[e]⟩) rfl (by kernel_rfl) (by kernel_rfl) (by kernel_rfl) (by kernel_rfl) (fun _ _ _ h => h) (Or.inl ⟨by kernel_rfl, fun X hS => by clear kx0 kx1; obtain ⟨e0, e1⟩ := hS; go_simp⟩) SX ?_
                      try go_simp
                      refine wpAnyT_one 10 rfl (by kernel_rfl) (fun K hK => ?_)
                      go_simp
                      refine (l3Class_at _ _ _ _ _ (cs.take (j + 1)) ⟨#[e]⟩ wr.drew (j + 1) HLK.out HSK.out).mono ?_
                      rintro e1 w1 ⟨rfl, hb⟩
                      have HB1 : Hid (Below W.heap.size W w1) := (HBX.out.drew).trans (hb.mono HBX.out.size)
                      have SY : w1.cell? ⟨b4, 0, none⟩ = some (.string ⟨#[c]⟩) ∧ w1.cell? ⟨b4, 1, none⟩ = some (.string ⟨s.toArray⟩) := ⟨(hb.cell (lt_of_cell SX.1)).trans SX.1, (hb.cell (lt_of_cell SX.2)).trans SX.2⟩
                      clear hb
                      refine hK _ _ (fun _ => SY) ?_
                      clear hK K
                      obtain ⟨ixv, hixv⟩ : ∃ v, v = idxC (cs.take (j + 1)) ⟨#[e]⟩ := ⟨_, rfl⟩
                      have hix2 : 0 ≤ ixv := by
                        have h := idx_known (cs.take (j + 1)) ⟨#[e]⟩
                        rw [HKN.out, ← hixv] at h
                        simpa using h
                      rw [← hixv]
                      clear hixv
                      refine wpAnyT_take (i := 11) (v := .bool false) rfl (by kernel_rfl) (by kernel_rfl) (by kernel_rfl) (by kernel_rfl) (fun _ _ _ h => h) (Or.inl ⟨by kernel_rfl, fun X hS => by clear kx0 kx1; obtain ⟨e0, e1⟩ := hS; go_simp⟩) SY ?_
                      try go_simp
                      refine wpAnyT_take (i := 12) (v := .bool false) rfl (by kernel_rfl) (by kernel_rfl) (by kernel_rfl) (by kernel_rfl) (fun _ _ _ h => h) (Or.inl ⟨by kernel_rfl, fun X hS => by clear kx0 kx1; obtain ⟨e0, e1⟩ := hS; go_simp⟩) SY ?_
                      try go_simp
                      refine wpAnyT_take (i := 13) (v := .int .i64 ((t : Int) + 1)) rfl (by kernel_rfl) (by kernel_rfl) (by kernel_rfl) (by kernel_rfl) (fun _ _ _ h => h) (Or.inl ⟨by kernel_rfl, fun X hS => by clear kx0 kx1; obtain ⟨e0, e1⟩ := hS; go_simp⟩) SY ?_
                      try go_simp
                      refine wpAnyT_take (i := 14) (v := .bool true) rfl (by kernel_rfl) (by kernel_rfl) (by kernel_rfl) (by kernel_rfl) (fun _ _ _ h => h) (Or.inl ⟨by kernel_rfl, fun X hS => by clear kx0 kx1; obtain ⟨e0, e1⟩ := hS; go_simp⟩) SY ?_
                      try go_simp
                      refine wpAnyT_take (i := 15) (v := .bool true) rfl (by kernel_rfl) (by kernel_rfl) (by kernel_rfl) (by kernel_rfl) (fun _ _ _ h => h) (Or.inl ⟨by kernel_rfl, fun X hS => by clear kx0 kx1; obtain ⟨e0, e1⟩ := hS; go_simp⟩) SY ?_
                      try go_simp
                      refine wpAnyT_take (i := 16) (v := .pointer (some ⟨b4, 1, none⟩)) rfl (by kernel_rfl) (by kernel_rfl) (by kernel_rfl) (by kernel_rfl) (fun _ _ _ h => h) (Or.inl ⟨by kernel_rfl, fun X hS => by clear kx0 kx1; obtain ⟨e0, e1⟩ := hS; go_simp⟩) SY ?_
                      try go_simp
                      refine wpAnyT_take (i := 17) (v := .string ⟨s.toArray⟩) rfl (by kernel_rfl) (by kernel_rfl) (by kernel_rfl) (by kernel_rfl) (fun _ _ _ h => h) (Or.inl ⟨by kernel_rfl, fun X hS => by clear kx0 kx1; obtain ⟨e0, e1⟩ := hS; go_simp⟩) SY ?_
                      try go_simp
                      refine wpAnyT_take (i := 18) (v := .int .i64 ((t : Int) + 1)) rfl (by kernel_rfl) (by kernel_rfl) (by kernel_rfl) (by kernel_rfl) (fun _ _ _ h => h) (Or.inl ⟨by kernel_rfl, fun X hS => by clear kx0 kx1; obtain ⟨e0, e1⟩ := hS; go_simp⟩) SY ?_
                      try go_simp
                      refine wpAnyT_take (i := 19) (v := .int .i64 t) rfl (by kernel_rfl) (by kernel_rfl) (by kernel_rfl) (by kernel_rfl) (fun _ _ _ h => h) (Or.inl ⟨by kernel_rfl, fun X hS => by clear kx0 kx1; clear hS; go_simp; try exact IntWalk.i64_in _ (by omega)⟩) SY ?_
                      try go_simp
                      refine wpAnyT_take (i := 20) (v := .int .u8 e0.toNat) rfl (by kernel_rfl) (by kernel_rfl) (by kernel_rfl) (by kernel_rfl) (fun _ _ _ h => h) (Or.inl ⟨by kernel_rfl, fun X hS => by clear kx0 kx1; clear hS; go_simp; rw [dif_pos (show t < s.length by omega), get_at s t e0 HE0.out]; rfl⟩) SY ?_
                      try go_simp
                      refine wpAnyT_take (i := 21) (v := .pointer (some ⟨b4, 1, none⟩)) rfl (by kernel_rfl) (by kernel_rfl) (by kernel_rfl) (by kernel_rfl) (fun _ _ _ h => h) (Or.inl ⟨by kernel_rfl, fun X hS => by clear kx0 kx1; obtain ⟨e0, e1⟩ := hS; go_simp⟩) SY ?_
                      try go_simp
                      refine wpAnyT_take (i := 22) (v := .string ⟨s.toArray⟩) rfl (by kernel_rfl) (by kernel_rfl) (by kernel_rfl) (by kernel_rfl) (fun _ _ _ h => h) (Or.inl ⟨by kernel_rfl, fun X hS => by clear kx0 kx1; obtain ⟨e0, e1⟩ := hS; go_simp⟩) SY ?_
                      try go_simp
                      refine wpAnyT_take (i := 23) (v := .int .i64 ((t : Int) + 1)) rfl (by kernel_rfl) (by kernel_rfl) (by kernel_rfl) (by kernel_rfl) (fun _ _ _ h => h) (Or.inl ⟨by kernel_rfl, fun X hS => by clear kx0 kx1; obtain ⟨e0, e1⟩ := hS; go_simp⟩) SY ?_
                      try go_simp
                      refine wpAnyT_take (i := 24) (v := .int .u8 e.toNat) rfl (by kernel_rfl) (by kernel_rfl) (by kernel_rfl) (by kernel_rfl) (fun _ _ _ h => h) (Or.inl ⟨by kernel_rfl, fun X hS => by clear kx0 kx1; clear hS; go_simp; rw [dif_pos (show (0 : Int) ≤ (t : Int) + 1 by omega), get_at s (t + 1) e HE.out]; rfl⟩) SY ?_
                      try go_simp
                      refine wpAnyT_take (i := 25) (v := .bool false) rfl (by kernel_rfl) (by kernel_rfl) (by kernel_rfl) (by kernel_rfl) (fun _ _ _ h => h) (Or.inl ⟨by kernel_rfl, fun X hS => by clear kx0 kx1; obtain ⟨e0, e1⟩ := hS; go_simp⟩) SY ?_
                      try go_simp
                      refine wpAnyT_take (i := 26) (v := .bool false) rfl (by kernel_rfl) (by kernel_rfl) (by kernel_rfl) (by kernel_rfl) (fun _ _ _ h => h) (Or.inl ⟨by kernel_rfl, fun X hS => by clear kx0 kx1; obtain ⟨e0, e1⟩ := hS; go_simp⟩) SY ?_
                      try go_simp
                      refine wpAnyT_take (i := 27) (v := .bool false) rfl (by kernel_rfl) (by kernel_rfl) (by kernel_rfl) (by kernel_rfl) (fun _ _ _ h => h) (Or.inl ⟨by kernel_rfl, fun X hS => by clear kx0 kx1; obtain ⟨e0, e1⟩ := hS; go_simp⟩) SY ?_
                      try go_simp
                      refine wpAnyT_drop _ 28 _ _ _ (by decide) (by kernel_rfl) ?_
                      change wpList _ _ _ [] _ _
                      clear SX SY kx0 kx1
                      go_wp2
                      go_roundg (s.length - (t + 1 + 1))
                      case measure => omega
                      case rel => exact ⟨t + 1 + 1, by omega, by omega, by go_num, HN.out, HB1.out⟩
                    · have hle2 : e.toNat ≤ e0.toNat := by omega
                      have HR : Hid (clB cs = false) := clB_no hlt (bad_sup HP.out hltm (bad_sord HE.out HE0.out (by omega)))
                      go_wp2_with fail
                      refine wp_region_any (by kernel_rfl) ?_
                      change wpAny _ _ _ _ _ _ _ (World.drew _)
                      have SX : wr.drew.cell? ⟨b4, 0, none⟩ = some (.string ⟨#[c]⟩) ∧ wr.drew.cell? ⟨b4, 1, none⟩ = some (.string ⟨s.toArray⟩) := ⟨kx0, kx1⟩
                      refine wpAny_of_T (S := fun X => X.cell? ⟨b4, 0, none⟩ = some (.string ⟨#[c]⟩) ∧ X.cell? ⟨b4, 1, none⟩ = some (.string ⟨s.toArray⟩)) (m := 28) _ _ _ _ ?_
                      refine wpAnyT_take (i := 0) (v := .slice (some ⟨b, off, none⟩) cs.length cap) rfl (by kernel_rfl) (by kernel_rfl) (by kernel_rfl) (by kernel_rfl) (fun _ _ _ h => h) (Or.inl ⟨by kernel_rfl, fun X hS => by clear kx0 kx1; obtain ⟨e0, e1⟩ := hS; go_simp⟩) SX ?_
                      try go_simp
                      refine wpAnyT_take (i := 1) (v := .int .i64 ((j : Int) + 1)) rfl (by kernel_rfl) (by kernel_rfl) (by kernel_rfl) (by kernel_rfl) (fun _ _ _ h => h) (Or.inl ⟨by kernel_rfl, fun X hS => by clear kx0 kx1; obtain ⟨e0, e1⟩ := hS; go_simp⟩) SX ?_
                      try go_simp
                      refine wpAnyT_take (i := 2) (v := .slice (some ⟨b, off, none⟩) (j + 1) cap) rfl (by kernel_rfl) (by kernel_rfl) (by kernel_rfl) (by kernel_rfl) (fun _ _ _ h => h) (Or.inl ⟨by kernel_rfl, fun X hS => by clear kx0 kx1; clear hS; go_simp; (try (intro hq; omega))⟩) SX ?_
                      try go_simp
                      refine wpAnyT_take (i := 3) (v := .agg #[.slice (some ⟨b, off, none⟩) (j + 1) cap, .slice none 0 0]) rfl (by kernel_rfl) (by kernel_rfl) (by kernel_rfl) (by kernel_rfl) (fun _ _ _ h => h) (Or.inl ⟨by kernel_rfl, fun X hS => by clear kx0 kx1; obtain ⟨e0, e1⟩ := hS; go_simp⟩) SX ?_
                      try go_simp
                      refine wpAnyT_take (i := 4) (v := .pointer (some ⟨b4, 1, none⟩)) rfl (by kernel_rfl) (by kernel_rfl) (by kernel_rfl) (by kernel_rfl) (fun _ _ _ h => h) (Or.inl ⟨by kernel_rfl, fun X hS => by clear kx0 kx1; obtain ⟨e0, e1⟩ := hS; go_simp⟩) SX ?_
                      try go_simp
                      refine wpAnyT_take (i := 5) (v := .string ⟨s.toArray⟩) rfl (by kernel_rfl) (by kernel_rfl) (by kernel_rfl) (by kernel_rfl) (fun _ _ _ h => h) (Or.inl ⟨by kernel_rfl, fun X hS => by clear kx0 kx1; obtain ⟨e0, e1⟩ := hS; go_simp⟩) SX ?_
                      try go_simp
                      refine wpAnyT_take (i := 6) (v := .int .i64 ((t : Int) + 1)) rfl (by kernel_rfl) (by kernel_rfl) (by kernel_rfl) (by kernel_rfl) (fun _ _ _ h => h) (Or.inl ⟨by kernel_rfl, fun X hS => by clear kx0 kx1; obtain ⟨e0, e1⟩ := hS; go_simp⟩) SX ?_
                      try go_simp
                      refine wpAnyT_take (i := 7) (v := .int .i64 ((t : Int) + 1)) rfl (by kernel_rfl) (by kernel_rfl) (by kernel_rfl) (by kernel_rfl) (fun _ _ _ h => h) (Or.inl ⟨by kernel_rfl, fun X hS => by clear kx0 kx1; obtain ⟨e0, e1⟩ := hS; go_simp⟩) SX ?_
                      try go_simp
                      refine wpAnyT_take (i := 8) (v := .int .i64 (((t : Int) + 1) + 1)) rfl (by kernel_rfl) (by kernel_rfl) (by kernel_rfl) (by kernel_rfl) (fun _ _ _ h => h) (Or.inl ⟨by kernel_rfl, fun X hS => by clear kx0 kx1; clear hS; go_simp; try exact IntWalk.i64_in _ (by omega)⟩) SX ?_
                      try go_simp
                      refine wpAnyT_take (i := 9) (v := .string ⟨#[e]⟩) rfl (by kernel_rfl) (by kernel_rfl) (by kernel_rfl) (by kernel_rfl) (fun _ _ _ h => h) (Or.inl ⟨by kernel_rfl, fun X hS => by clear kx0 kx1; obtain ⟨e0, e1⟩ := hS; go_simp⟩) SX ?_
                      try go_simp
                      refine wpAnyT_one 10 rfl (by kernel_rfl) (fun K hK => ?_)
                      go_simp
                      refine (l3Class_at _ _ _ _ _ (cs.take (j + 1)) ⟨#[e]⟩ wr.drew (j + 1) HLK.out HSK.out).mono ?_
                      rintro e1 w1 ⟨rfl, hb⟩
                      have HB1 : Hid (Below W.heap.size W w1) := (HBX.out.drew).trans (hb.mono HBX.out.size)
                      have SY : w1.cell? ⟨b4, 0, none⟩ = some (.string ⟨#[c]⟩) ∧ w1.cell? ⟨b4, 1, none⟩ = some (.string ⟨s.toArray⟩) := ⟨(hb.cell (lt_of_cell SX.1)).trans SX.1, (hb.cell (lt_of_cell SX.2)).trans SX.2⟩
                      clear hb
                      refine hK _ _ (fun _ => SY) ?_
                      clear hK K
                      obtain ⟨ixv, hixv⟩ : ∃ v, v = idxC (cs.take (j + 1)) ⟨#[e]⟩ := ⟨_, rfl⟩
                      have hix2 : 0 ≤ ixv := by
                        have h := idx_known (cs.take (j + 1)) ⟨#[e]⟩
                        rw [HKN.out, ← hixv] at h
                        simpa using h
                      rw [← hixv]
                      clear hixv
                      refine wpAnyT_take (i := 11) (v := .bool false) rfl (by kernel_rfl) (by kernel_rfl) (by kernel_rfl) (by kernel_rfl) (fun _ _ _ h => h) (Or.inl ⟨by kernel_rfl, fun X hS => by clear kx0 kx1; obtain ⟨e0, e1⟩ := hS; go_simp⟩) SY ?_
                      try go_simp
                      refine wpAnyT_take (i := 12) (v := .bool false) rfl (by kernel_rfl) (by kernel_rfl) (by kernel_rfl) (by kernel_rfl) (fun _ _ _ h => h) (Or.inl ⟨by kernel_rfl, fun X hS => by clear kx0 kx1; obtain ⟨e0, e1⟩ := hS; go_simp⟩) SY ?_
                      try go_simp
                      refine wpAnyT_take (i := 13) (v := .int .i64 ((t : Int) + 1)) rfl (by kernel_rfl) (by kernel_rfl) (by kernel_rfl) (by kernel_rfl) (fun _ _ _ h => h) (Or.inl ⟨by kernel_rfl, fun X hS => by clear kx0 kx1; obtain ⟨e0, e1⟩ := hS; go_simp⟩) SY ?_
                      try go_simp
                      refine wpAnyT_take (i := 14) (v := .bool true) rfl (by kernel_rfl) (by kernel_rfl) (by kernel_rfl) (by kernel_rfl) (fun _ _ _ h => h) (Or.inl ⟨by kernel_rfl, fun X hS => by clear kx0 kx1; obtain ⟨e0, e1⟩ := hS; go_simp⟩) SY ?_
                      try go_simp
                      refine wpAnyT_take (i := 15) (v := .bool true) rfl (by kernel_rfl) (by kernel_rfl) (by kernel_rfl) (by kernel_rfl) (fun _ _ _ h => h) (Or.inl ⟨by kernel_rfl, fun X hS => by clear kx0 kx1; obtain ⟨e0, e1⟩ := hS; go_simp⟩) SY ?_
                      try go_simp
                      refine wpAnyT_take (i := 16) (v := .pointer (some ⟨b4, 1, none⟩)) rfl (by kernel_rfl) (by kernel_rfl) (by kernel_rfl) (by kernel_rfl) (fun _ _ _ h => h) (Or.inl ⟨by kernel_rfl, fun X hS => by clear kx0 kx1; obtain ⟨e0, e1⟩ := hS; go_simp⟩) SY ?_
                      try go_simp
                      refine wpAnyT_take (i := 17) (v := .string ⟨s.toArray⟩) rfl (by kernel_rfl) (by kernel_rfl) (by kernel_rfl) (by kernel_rfl) (fun _ _ _ h => h) (Or.inl ⟨by kernel_rfl, fun X hS => by clear kx0 kx1; obtain ⟨e0, e1⟩ := hS; go_simp⟩) SY ?_
                      try go_simp
                      refine wpAnyT_take (i := 18) (v := .int .i64 ((t : Int) + 1)) rfl (by kernel_rfl) (by kernel_rfl) (by kernel_rfl) (by kernel_rfl) (fun _ _ _ h => h) (Or.inl ⟨by kernel_rfl, fun X hS => by clear kx0 kx1; obtain ⟨e0, e1⟩ := hS; go_simp⟩) SY ?_
                      try go_simp
                      refine wpAnyT_take (i := 19) (v := .int .i64 t) rfl (by kernel_rfl) (by kernel_rfl) (by kernel_rfl) (by kernel_rfl) (fun _ _ _ h => h) (Or.inl ⟨by kernel_rfl, fun X hS => by clear kx0 kx1; clear hS; go_simp; try exact IntWalk.i64_in _ (by omega)⟩) SY ?_
                      try go_simp
                      refine wpAnyT_take (i := 20) (v := .int .u8 e0.toNat) rfl (by kernel_rfl) (by kernel_rfl) (by kernel_rfl) (by kernel_rfl) (fun _ _ _ h => h) (Or.inl ⟨by kernel_rfl, fun X hS => by clear kx0 kx1; clear hS; go_simp; rw [dif_pos (show t < s.length by omega), get_at s t e0 HE0.out]; rfl⟩) SY ?_
                      try go_simp
                      refine wpAnyT_take (i := 21) (v := .pointer (some ⟨b4, 1, none⟩)) rfl (by kernel_rfl) (by kernel_rfl) (by kernel_rfl) (by kernel_rfl) (fun _ _ _ h => h) (Or.inl ⟨by kernel_rfl, fun X hS => by clear kx0 kx1; obtain ⟨e0, e1⟩ := hS; go_simp⟩) SY ?_
                      try go_simp
                      refine wpAnyT_take (i := 22) (v := .string ⟨s.toArray⟩) rfl (by kernel_rfl) (by kernel_rfl) (by kernel_rfl) (by kernel_rfl) (fun _ _ _ h => h) (Or.inl ⟨by kernel_rfl, fun X hS => by clear kx0 kx1; obtain ⟨e0, e1⟩ := hS; go_simp⟩) SY ?_
                      try go_simp
                      refine wpAnyT_take (i := 23) (v := .int .i64 ((t : Int) + 1)) rfl (by kernel_rfl) (by kernel_rfl) (by kernel_rfl) (by kernel_rfl) (fun _ _ _ h => h) (Or.inl ⟨by kernel_rfl, fun X hS => by clear kx0 kx1; obtain ⟨e0, e1⟩ := hS; go_simp⟩) SY ?_
                      try go_simp
                      refine wpAnyT_take (i := 24) (v := .int .u8 e.toNat) rfl (by kernel_rfl) (by kernel_rfl) (by kernel_rfl) (by kernel_rfl) (fun _ _ _ h => h) (Or.inl ⟨by kernel_rfl, fun X hS => by clear kx0 kx1; clear hS; go_simp; rw [dif_pos (show (0 : Int) ≤ (t : Int) + 1 by omega), get_at s (t + 1) e HE.out]; rfl⟩) SY ?_
                      try go_simp
                      refine wpAnyT_take (i := 25) (v := .bool true) rfl (by kernel_rfl) (by kernel_rfl) (by kernel_rfl) (by kernel_rfl) (fun _ _ _ h => h) (Or.inl ⟨by kernel_rfl, fun X hS => by clear kx0 kx1; obtain ⟨e0, e1⟩ := hS; go_simp⟩) SY ?_
                      try go_simp
                      refine wpAnyT_take (i := 26) (v := .bool true) rfl (by kernel_rfl) (by kernel_rfl) (by kernel_rfl) (by kernel_rfl) (fun _ _ _ h => h) (Or.inl ⟨by kernel_rfl, fun X hS => by clear kx0 kx1; obtain ⟨e0, e1⟩ := hS; go_simp⟩) SY ?_
                      try go_simp
                      refine wpAnyT_take (i := 27) (v := .bool true) rfl (by kernel_rfl) (by kernel_rfl) (by kernel_rfl) (by kernel_rfl) (fun _ _ _ h => h) (Or.inl ⟨by kernel_rfl, fun X hS => by clear kx0 kx1; obtain ⟨e0, e1⟩ := hS; go_simp⟩) SY ?_
                      try go_simp
                      refine wpAnyT_drop _ 28 _ _ _ (by decide) (by kernel_rfl) ?_
                      change wpList _ _ _ [] _ _
                      clear SX SY kx0 kx1
                      go_wp2
                      go_ret
                      exact ⟨ret_bool HR.out.symm, HBW.out.trans (HB1.out.mono HBW.out.size)⟩
              · have hme : m = s.length := by omega
                have HGC : Hid (∀ i, i < (j + 1) + 1 → goodC cs i) := fun i hi => by
                  by_cases e1 : i < (j + 1)
                  · exact HGD.out i e1
                  · obtain rfl : i = (j + 1) := by omega
                    exact ⟨c, s, HP.out, hcap1.out, fun q h => by (obtain rfl : q = j := (by omega)); exact ⟨d, _, HD.out, hlt2⟩, fun t ht => HGS.out t (by omega)⟩
                clear kx1
                go_wp2_with fail
                go_roundg (cs.length - ((j + 1) + 1))
                case measure => omega
                case rel => exact ⟨(j + 1) + 1, by omega, by omega, by go_num, HGC.out, HBT.out⟩
          · have HR : Hid (clB cs = false) := clB_no hlt (bad_ord HP.out HD.out (by omega))
            have hge : ∀ X : World, (binOp .geq 9 (.string ⟨#[d]⟩) (.string ⟨#[c]⟩)).run Tryd.prog X = .ok (.bool true) X := fun X => by rw [geq1, decide_eq_true (by omega)]
            go_wp2
            go_quiet ((go_at_call 37; exact Calls.quiet_of_same (l3Capital_q HV.out _ (by simp))))
            go_wp2
            go_ret
            exact ⟨ret_bool HR.out.symm, below_drewN (HB.out.alloc (by omega) _) _⟩
    · have hke : k = cs.length := by omega
      subst hke
      have HGA : Hid (∀ i, i < cs.length → goodC cs i) := HGD.out
      by_cases h1 : 1 ≤ cs.length
      · by_cases h4 : cs.length ≤ 4
        · have HR : Hid (clB cs = true) := clB_yes HGA.out h1 h4
          go_wp2
          go_ret
          exact ⟨ret_bool (by rw [HR.out]; simp; omega), HB.out⟩
        · have HR : Hid (clB cs = false) := clB_len (fun h => h4 h.2)
          go_wp2
          go_ret
          exact ⟨ret_bool (by rw [HR.out]; simp; omega), HB.out⟩
      · have HR : Hid (clB cs = false) := clB_len (fun h => h1 h.1)
        go_wp2
        go_ret
        exact ⟨ret_bool HR.out.symm, HB.out⟩

end Classes
end Go.Proofs.YtbdnhcfebgkpdaaDoor
