/- The reference's l2Unify. Conditions: none. -/
import Derived.Test.YtcjalnianamlaaaUniO
import Derived.Deep.QuietTactic
import Derived.BigQuiet
set_option linter.unusedVariables false
set_option linter.unusedSimpArgs false
set_option maxRecDepth 100000
namespace Go.Proofs.Ytcjalnianamlaaa
open Go.RowKit Ty ListS Parts MkType
namespace UniS
open MatP UniP
theorem l2Index_q (c : UInt8) (w : World) : Calls Try.prog 56 #[.int .u8 c.toNat] w fun e w' => e = .returned (.int .i64 (ix c)) ∧ w' = w := (l2Index_any c w).mono fun e w' h => ⟨h.1, h.2.symm⟩
theorem heap_drewN (w : World) (n k : Nat) : (w.drewN n).heap[k]? = w.heap[k]? := rfl
def UPostW (w w0 : World) (mb : Nat) (r : Option Sg) (e : Ending) (w' : World) : Prop := e = .returned (.bool r.isSome) ∧ w.grownBy w' (some mb) ∧ ∀ m', r = some m' → MapW w0 w' mb m'
abbrev UnAt (m : Sg) (a b : Ty) (r : Option Sg) : Prop := ∀ (aa : Option Addr) (na ca : Nat) (ab : Option Addr) (nb cb : Nat) (w0 w : World) (mb : Nat), MapW w0 w mb m → Keeps 0 w0 w → w0.heap.size ≤ mb → SNode 0 w0 a (.int .u8 a.head.toNat) (.slice aa na ca) → SNode 0 w0 b (.int .u8 b.head.toNat) (.slice ab nb cb) →
  Calls Try.prog 54 #[.pointer (some ⟨mb, 0, none⟩), .agg #[.int .u8 a.head.toNat, .slice aa na ca], .agg #[.int .u8 b.head.toNat, .slice ab nb cb]] w (UPostW w w0 mb r)
theorem gb {w w' : World} (h : Below w.heap.size w w') (row : Option Nat) : w.grownBy w' row := ⟨h.os, h.tape, h.output, h.size, fun k hk _ => h.block k hk⟩
theorem grown_trans {a b c : World} {row : Option Nat} (h : a.grownBy b row) (h' : b.grownBy c row) : a.grownBy c row := ⟨h'.os.trans h.os, h'.tape.trans h.tape, h'.output.trans h.output, Nat.le_trans h.size h'.size, fun k hk hne => (h'.block k (Nat.lt_of_lt_of_le hk h.size) hne).trans (h.block k hk hne)⟩
theorem grown_setU (w : World) (b o : Nat) (u : Value) : w.grownBy (w.setCell ⟨b, o, none⟩ u) (some b) := ⟨rfl, rfl, rfl, by simp, fun k hk hne => Below.heap_setCell _ _ _ _ (fun e => hne (by rw [e]))⟩
theorem grown_drew (w : World) (row : Option Nat) : w.grownBy w.drew row := ⟨rfl, rfl, rfl, Nat.le_refl _, fun _ _ _ => rfl⟩
theorem cellG {w w' : World} {mb g o : Nat} {v : Value} (h : w.grownBy w' (some mb)) (hg : g < w.heap.size) (hne : g ≠ mb) (hc : w.cell? ⟨g, o, none⟩ = some v) : w'.cell? ⟨g, o, none⟩ = some v := by
  have e := h.block g hg (fun e => hne (by cases e; rfl))
  rw [← hc]
  simp [World.cell?, e]
theorem keeps_grownM {w0 w w' : World} {mb : Nat} (h : Keeps 0 w0 w) (hg : w.grownBy w' (some mb)) (hm : w0.heap.size ≤ mb) (hz : w0.heap.size ≤ w.heap.size) : Keeps 0 w0 w' := fun k h1 hk => (hg.block k (by omega) (fun e => by cases e; omega)).trans (h k h1 hk)
theorem tw_head {t : Ty} (h : TW t) : t.head ≠ 0 := by
  intro e
  cases t with
  | leaf c =>
    simp only [Ty.head] at e
    subst e
    exact absurd h (by simp [TW, lts])
  | one c u => simp only [Ty.head] at e; subst e; exact absurd h.1 (by decide)
  | two c u v => simp only [Ty.head] at e; subst e; exact absurd h.1 (by decide)
def TWm (m : Sg) : Prop := ∀ c t, m c = some t → TW t
theorem wk_tw {m : Sg} (hm : TWm m) {t u : Ty} (h : Wk m t u) (ht : TW t) : TW u := by
  induction h with
  | stop _ => exact ht
  | step e _ ih => exact ih (hm _ _ e)
theorem tw_upd {m : Sg} (hm : TWm m) {c : UInt8} {t : Ty} (ht : TW t) : TWm (upd m c t) := fun d u h => by
  by_cases e : d = c
  · subst e; rw [upd_same] at h; cases h; exact ht
  · rw [upd_ne e] at h; exact hm d u h
theorem un_tw {m : Sg} {a b : Ty} {r : Option Sg} (h : Un m a b r) : TWm m → TW a → TW b → ∀ m', r = some m' → TWm m' := by
  induction h with
  | same _ _ _ _ => intro hm _ _ m' e; cases e; exact hm
  | bind _ hb _ _ _ => intro hm _ htb m' e; cases e; exact tw_upd hm (wk_tw hm hb htb)
  | occ _ _ _ _ _ => intro _ _ _ m' e; simp at e
  | swap ha hb _ _ _ _ ih => intro hm hta htb; exact ih hm (wk_tw hm hb htb) (wk_tw hm ha hta)
  | clash _ _ _ _ _ => intro _ _ _ m' e; simp at e
  | con0 _ _ _ _ _ _ => intro hm _ _ m' e; cases e; exact hm
  | con1 ha hb _ _ hp hq _ ih => intro hm hta htb; exact ih hm (tw_parts (wk_tw hm ha hta) (by rw [hp]; simp)) (tw_parts (wk_tw hm hb htb) (by rw [hq]; simp))
  | con2n _ _ _ _ _ _ _ _ => intro _ _ _ m' e; simp at e
  | con2s ha hb _ _ hp hq _ _ i1 i2 =>
    intro hm hta htb
    have h1 := i1 hm (tw_parts (wk_tw hm ha hta) (by rw [hp]; simp)) (tw_parts (wk_tw hm hb htb) (by rw [hq]; simp)) _ rfl
    exact i2 h1 (tw_parts (wk_tw hm ha hta) (by rw [hp]; simp)) (tw_parts (wk_tw hm hb htb) (by rw [hq]; simp))
theorem hd_of {x y : Ty} (h : x.head ≠ y.head) : ((x.head.toNat : Int) != y.head.toNat) = true := by rw [bne, u8_eq, decide_eq_false h]; rfl
set_option maxHeartbeats 8000000 in
theorem un_same {m : Sg} {a b x y : Ty} (hwa : Wk m a x) (hwb : Wk m b y) (hl : x.head ∈ lts) (he : x.head = y.head) : UnAt m a b (some m) := by
  rcases ix_cases x.head with ⟨-, hni⟩ | ⟨k, hk, hix, -⟩
  · exact absurd hl hni
  have HIX := hid hix
  have HIY : Hid (ix y.head = k) := by show _ = _; rw [← he]; exact hix
  have hk0 : (0 : Int) ≤ (k : Int) := by omega
  clear hix hl he
  intro aa na ca ab nb cb w0 w mb hmap hk hmb hna hnb
  have HMAP := hid hmap
  have HK := hid hk
  have HNA := hid hna
  have HNB := hid hnb
  have hlt := hmap.lt
  have hz : w0.heap.size ≤ w.heap.size := by omega
  clear hmap hk hna hnb
  go_enter Try.func54, Try.ntmps54
  go_wp2_with fail
  have HBA : Hid (Below w.heap.size w ((w.alloc (.cells #[.int .u8 a.head.toNat, .slice aa na ca] 70)).alloc (.cells #[.int .u8 b.head.toNat, .slice ab nb cb] 70))) := ((Below.refl _ _).alloc (Nat.le_refl _) _).alloc (by simp) _
  refine (l2Walk_any a x aa na ca w0 _ mb m hwa (HMAP.out.below HBA.out) HNA.out).mono ?_
  rintro e w1 ⟨ax, nx, cx, rfl, hn, hb⟩
  have HNX := hid hn
  have HB1 : Hid (Below w.heap.size w w1) := HBA.out.trans (hb.mono (by simp; omega))
  have HX4 := hid (below_heap hb (by simp; omega) (hb_alloc (heap_alloc_new w (.cells #[.int .u8 a.head.toNat, .slice aa na ca] 70)) (.cells #[.int .u8 b.head.toNat, .slice ab nb cb] 70)))
  have HX5 := hid (below_heap hb (by simp) (heap_alloc2_new w (.cells #[.int .u8 a.head.toNat, .slice aa na ca] 70) (.cells #[.int .u8 b.head.toNat, .slice ab nb cb] 70)))
  have hl1 := lt_of_heap HX5.out
  have b0 := heap_cell HX4.out 0
  have b1 := heap_cell HX4.out 1
  have f0 := heap_free HX4.out 0
  have f1 := heap_free HX4.out 1
  have d0 := heap_cell HX5.out 0
  have d1 := heap_cell HX5.out 1
  have hnx := hid (snode_len hn)
  clear hb hn
  go_wp2_with fail
  have HB1S : Hid (Below w.heap.size w ((w1.setCell ⟨w.heap.size, 0, none⟩ (.int .u8 x.head.toNat)).setCell ⟨w.heap.size, 1, none⟩ (.slice ax nx cx))) := (HB1.out.setCell (Nat.le_refl _) _).setCell (Nat.le_refl _) _
  have HX4S : Hid (((w1.setCell ⟨w.heap.size, 0, none⟩ (.int .u8 x.head.toNat)).setCell ⟨w.heap.size, 1, none⟩ (.slice ax nx cx)).heap[w.heap.size]? = some (.cells #[.int .u8 x.head.toNat, .slice ax nx cx] 70 (0, 0))) := heap_set (heap_set HX4.out 0 _) 1 _
  have HX5S : Hid (((w1.setCell ⟨w.heap.size, 0, none⟩ (.int .u8 x.head.toNat)).setCell ⟨w.heap.size, 1, none⟩ (.slice ax nx cx)).heap[w.heap.size + 1]? = some (.cells #[.int .u8 b.head.toNat, .slice ab nb cb] 70 (0, 0))) := hb_set_ne (hb_set_ne HX5.out _ _ (by show w.heap.size + 1 ≠ w.heap.size; omega)) _ _ (by show w.heap.size + 1 ≠ w.heap.size; omega)
  clear b0 b1 f0 f1 d0 d1 HX4 HX5 hl1
  generalize ((w1.setCell ⟨w.heap.size, 0, none⟩ (.int .u8 x.head.toNat)).setCell ⟨w.heap.size, 1, none⟩ (.slice ax nx cx)) = W1 at *
  refine (l2Walk_any b y ab nb cb w0 W1 mb m hwb (HMAP.out.below HB1S.out) HNB.out).mono ?_
  rintro e w2 ⟨ay, ny, cy, rfl, hn, hb⟩
  have HNY := hid hn
  have hbz1 := HB1S.out.size
  have HB2 : Hid (Below w.heap.size w w2) := HB1S.out.trans (hb.mono hbz1)
  have HX4T := hid (below_heap hb (lt_of_heap HX4S.out) HX4S.out)
  have HX5T := hid (below_heap hb (lt_of_heap HX5S.out) HX5S.out)
  have hl2 := lt_of_heap HX5T.out
  have d0 := heap_cell HX5T.out 0
  have d1 := heap_cell HX5T.out 1
  have f0 := heap_free HX5T.out 0
  have f1 := heap_free HX5T.out 1
  have b0 := heap_cell HX4T.out 0
  have hny := hid (snode_len hn)
  clear hb hn
  go_wp2_with fail
  have HB2S : Hid (Below w.heap.size w ((w2.setCell ⟨w.heap.size + 1, 0, none⟩ (.int .u8 y.head.toNat)).setCell ⟨w.heap.size + 1, 1, none⟩ (.slice ay ny cy))) := (HB2.out.setCell (by show w.heap.size ≤ w.heap.size + 1; omega) _).setCell (by show w.heap.size ≤ w.heap.size + 1; omega) _
  have HX5U : Hid (((w2.setCell ⟨w.heap.size + 1, 0, none⟩ (.int .u8 y.head.toNat)).setCell ⟨w.heap.size + 1, 1, none⟩ (.slice ay ny cy)).heap[w.heap.size + 1]? = some (.cells #[.int .u8 y.head.toNat, .slice ay ny cy] 70 (0, 0))) := heap_set (heap_set HX5T.out 0 _) 1 _
  have HX4U : Hid (((w2.setCell ⟨w.heap.size + 1, 0, none⟩ (.int .u8 y.head.toNat)).setCell ⟨w.heap.size + 1, 1, none⟩ (.slice ay ny cy)).heap[w.heap.size]? = some (.cells #[.int .u8 x.head.toNat, .slice ax nx cx] 70 (0, 0))) := hb_set_ne (hb_set_ne HX4T.out _ _ (by show w.heap.size ≠ w.heap.size + 1; omega)) _ _ (by show w.heap.size ≠ w.heap.size + 1; omega)
  clear b0 d0 d1 f0 f1 HX4T HX5T HX4S HX5S hl2
  generalize ((w2.setCell ⟨w.heap.size + 1, 0, none⟩ (.int .u8 y.head.toNat)).setCell ⟨w.heap.size + 1, 1, none⟩ (.slice ay ny cy)) = W2 at *
  have hbz2 := HB2S.out.size
  have hl2 := lt_of_heap HX5U.out
  have b0 := heap_cell HX4U.out 0
  have d0 := heap_cell HX5U.out 0
  go_quiet ((go_at_call 56; exact Calls.quiet_of_same (l2Index_q _ _)))
  rw [HIX.out, HIY.out]
  have HB3 : Hid (Below w.heap.size w (W2.drewN nq)) := below_drewN HB2S.out _
  have HX4 : Hid ((W2.drewN nq).heap[w.heap.size]? = some (.cells #[.int .u8 x.head.toNat, .slice ax nx cx] 70 (0, 0))) := (heap_drewN _ _ _).trans HX4U.out
  have HX5 : Hid ((W2.drewN nq).heap[w.heap.size + 1]? = some (.cells #[.int .u8 y.head.toNat, .slice ay ny cy] 70 (0, 0))) := (heap_drewN _ _ _).trans HX5U.out
  clear b0 d0 HX4U HX5U hl2 hbz2
  generalize W2.drewN nq = W3 at *
  have hbz3 := HB3.out.size
  have hl3 := lt_of_heap HX5.out
  have HM3 := hid (HMAP.out.below HB3.out)
  have HK3 : Hid (Keeps 0 w0 W3) := keeps_belowW HK.out HB3.out hz
  have b0 := heap_cell HX4.out 0
  have b1 := heap_cell HX4.out 1
  have d0 := heap_cell HX5.out 0
  have d1 := heap_cell HX5.out 1
  go_wp2_with fail
  go_ret
  exact ⟨rfl, gb HB3.out _, fun m' e => by cases e; exact HM3.out⟩
set_option maxHeartbeats 8000000 in
theorem un_bind {m : Sg} {a b x y : Ty} (hwa : Wk m a x) (hwb : Wk m b y) (hne : x.head ≠ y.head) (hf : First x y) (htw : TW y) (ho : OcAt m x.head y false) : UnAt m a b (some (upd m x.head y)) := by
  rcases ix_cases x.head with ⟨-, hni⟩ | ⟨k, hk, hix, hkl⟩
  · exact absurd hf.1 hni
  have HKL := hid hkl
  have HIX := hid hix
  have hk0 : (0 : Int) ≤ (k : Int) := by omega
  have hj2 : (k : Int) < 12 := by omega
  obtain ⟨jy, hjy, hlt0, hcmp⟩ : ∃ j : Int, ix y.head = j ∧ ((k : Int) == j) = false ∧ (j < 0 ∨ (¬ j < 0 ∧ (k : Int) < j)) := by
    have hki : ix x.head = (ixl x.head : Int) := ix_ixl hf.1
    rcases ix_cases y.head with ⟨h1, h2⟩ | ⟨j, hj, h1, h2⟩
    · exact ⟨-1, h1, by rw [beq_eq_false_iff_ne]; omega, .inl (by decide)⟩
    · have hyl : y.head ∈ lts := List.mem_of_getElem? h2
      have hji : ix y.head = (ixl y.head : Int) := ix_ixl hyl
      rcases hf.2 with h3 | h3
      · exact absurd hyl h3
      · exact ⟨j, h1, by rw [beq_eq_false_iff_ne]; omega, .inr ⟨by omega, by omega⟩⟩
  have HIY := hid hjy
  clear hix hkl hf hjy
  intro aa na ca ab nb cb w0 w mb hmap hk hmb hna hnb
  have HMAP := hid hmap
  have HK := hid hk
  have HNA := hid hna
  have HNB := hid hnb
  have hlt := hmap.lt
  have hz : w0.heap.size ≤ w.heap.size := by omega
  clear hmap hk hna hnb
  go_enter Try.func54, Try.ntmps54
  go_wp2_with fail
  have HBA : Hid (Below w.heap.size w ((w.alloc (.cells #[.int .u8 a.head.toNat, .slice aa na ca] 70)).alloc (.cells #[.int .u8 b.head.toNat, .slice ab nb cb] 70))) := ((Below.refl _ _).alloc (Nat.le_refl _) _).alloc (by simp) _
  refine (l2Walk_any a x aa na ca w0 _ mb m hwa (HMAP.out.below HBA.out) HNA.out).mono ?_
  rintro e w1 ⟨ax, nx, cx, rfl, hn, hb⟩
  have HNX := hid hn
  have HB1 : Hid (Below w.heap.size w w1) := HBA.out.trans (hb.mono (by simp; omega))
  have HX4 := hid (below_heap hb (by simp; omega) (hb_alloc (heap_alloc_new w (.cells #[.int .u8 a.head.toNat, .slice aa na ca] 70)) (.cells #[.int .u8 b.head.toNat, .slice ab nb cb] 70)))
  have HX5 := hid (below_heap hb (by simp) (heap_alloc2_new w (.cells #[.int .u8 a.head.toNat, .slice aa na ca] 70) (.cells #[.int .u8 b.head.toNat, .slice ab nb cb] 70)))
  have hl1 := lt_of_heap HX5.out
  have b0 := heap_cell HX4.out 0
  have b1 := heap_cell HX4.out 1
  have f0 := heap_free HX4.out 0
  have f1 := heap_free HX4.out 1
  have d0 := heap_cell HX5.out 0
  have d1 := heap_cell HX5.out 1
  have hnx := hid (snode_len hn)
  clear hb hn
  go_wp2_with fail
  have HB1S : Hid (Below w.heap.size w ((w1.setCell ⟨w.heap.size, 0, none⟩ (.int .u8 x.head.toNat)).setCell ⟨w.heap.size, 1, none⟩ (.slice ax nx cx))) := (HB1.out.setCell (Nat.le_refl _) _).setCell (Nat.le_refl _) _
  have HX4S : Hid (((w1.setCell ⟨w.heap.size, 0, none⟩ (.int .u8 x.head.toNat)).setCell ⟨w.heap.size, 1, none⟩ (.slice ax nx cx)).heap[w.heap.size]? = some (.cells #[.int .u8 x.head.toNat, .slice ax nx cx] 70 (0, 0))) := heap_set (heap_set HX4.out 0 _) 1 _
  have HX5S : Hid (((w1.setCell ⟨w.heap.size, 0, none⟩ (.int .u8 x.head.toNat)).setCell ⟨w.heap.size, 1, none⟩ (.slice ax nx cx)).heap[w.heap.size + 1]? = some (.cells #[.int .u8 b.head.toNat, .slice ab nb cb] 70 (0, 0))) := hb_set_ne (hb_set_ne HX5.out _ _ (by show w.heap.size + 1 ≠ w.heap.size; omega)) _ _ (by show w.heap.size + 1 ≠ w.heap.size; omega)
  clear b0 b1 f0 f1 d0 d1 HX4 HX5 hl1
  generalize ((w1.setCell ⟨w.heap.size, 0, none⟩ (.int .u8 x.head.toNat)).setCell ⟨w.heap.size, 1, none⟩ (.slice ax nx cx)) = W1 at *
  refine (l2Walk_any b y ab nb cb w0 W1 mb m hwb (HMAP.out.below HB1S.out) HNB.out).mono ?_
  rintro e w2 ⟨ay, ny, cy, rfl, hn, hb⟩
  have HNY := hid hn
  have hbz1 := HB1S.out.size
  have HB2 : Hid (Below w.heap.size w w2) := HB1S.out.trans (hb.mono hbz1)
  have HX4T := hid (below_heap hb (lt_of_heap HX4S.out) HX4S.out)
  have HX5T := hid (below_heap hb (lt_of_heap HX5S.out) HX5S.out)
  have hl2 := lt_of_heap HX5T.out
  have d0 := heap_cell HX5T.out 0
  have d1 := heap_cell HX5T.out 1
  have f0 := heap_free HX5T.out 0
  have f1 := heap_free HX5T.out 1
  have b0 := heap_cell HX4T.out 0
  have hny := hid (snode_len hn)
  clear hb hn
  go_wp2_with fail
  have HB2S : Hid (Below w.heap.size w ((w2.setCell ⟨w.heap.size + 1, 0, none⟩ (.int .u8 y.head.toNat)).setCell ⟨w.heap.size + 1, 1, none⟩ (.slice ay ny cy))) := (HB2.out.setCell (by show w.heap.size ≤ w.heap.size + 1; omega) _).setCell (by show w.heap.size ≤ w.heap.size + 1; omega) _
  have HX5U : Hid (((w2.setCell ⟨w.heap.size + 1, 0, none⟩ (.int .u8 y.head.toNat)).setCell ⟨w.heap.size + 1, 1, none⟩ (.slice ay ny cy)).heap[w.heap.size + 1]? = some (.cells #[.int .u8 y.head.toNat, .slice ay ny cy] 70 (0, 0))) := heap_set (heap_set HX5T.out 0 _) 1 _
  have HX4U : Hid (((w2.setCell ⟨w.heap.size + 1, 0, none⟩ (.int .u8 y.head.toNat)).setCell ⟨w.heap.size + 1, 1, none⟩ (.slice ay ny cy)).heap[w.heap.size]? = some (.cells #[.int .u8 x.head.toNat, .slice ax nx cx] 70 (0, 0))) := hb_set_ne (hb_set_ne HX4T.out _ _ (by show w.heap.size ≠ w.heap.size + 1; omega)) _ _ (by show w.heap.size ≠ w.heap.size + 1; omega)
  clear b0 d0 d1 f0 f1 HX4T HX5T HX4S HX5S hl2
  generalize ((w2.setCell ⟨w.heap.size + 1, 0, none⟩ (.int .u8 y.head.toNat)).setCell ⟨w.heap.size + 1, 1, none⟩ (.slice ay ny cy)) = W2 at *
  have hbz2 := HB2S.out.size
  have hl2 := lt_of_heap HX5U.out
  have b0 := heap_cell HX4U.out 0
  have d0 := heap_cell HX5U.out 0
  go_quiet ((go_at_call 56; exact Calls.quiet_of_same (l2Index_q _ _)))
  rw [HIX.out, HIY.out]
  have HB3 : Hid (Below w.heap.size w (W2.drewN nq)) := below_drewN HB2S.out _
  have HX4 : Hid ((W2.drewN nq).heap[w.heap.size]? = some (.cells #[.int .u8 x.head.toNat, .slice ax nx cx] 70 (0, 0))) := (heap_drewN _ _ _).trans HX4U.out
  have HX5 : Hid ((W2.drewN nq).heap[w.heap.size + 1]? = some (.cells #[.int .u8 y.head.toNat, .slice ay ny cy] 70 (0, 0))) := (heap_drewN _ _ _).trans HX5U.out
  clear b0 d0 HX4U HX5U hl2 hbz2
  generalize W2.drewN nq = W3 at *
  have hbz3 := HB3.out.size
  have hl3 := lt_of_heap HX5.out
  have HM3 := hid (HMAP.out.below HB3.out)
  have HK3 : Hid (Keeps 0 w0 W3) := keeps_belowW HK.out HB3.out hz
  have b0 := heap_cell HX4.out 0
  have b1 := heap_cell HX4.out 1
  have d0 := heap_cell HX5.out 0
  have d1 := heap_cell HX5.out 1
  rcases hcmp with h1 | ⟨h1, h2⟩
  · go_wp2_with fail
    refine (ho ay ny cy w0 W3 mb HM3.out HK3.out (by omega) HNY.out).mono ?_
    rintro e w5 ⟨rfl, hb⟩
    have HB5 : Hid (Below w.heap.size w w5) := HB3.out.trans (hb.mono hbz3)
    have HM5 := hid (HM3.out.below hb)
    have HX5b := hid (below_heap hb hl3 HX5.out)
    have hbz5 := hb.size
    clear b0 b1 d0 d1 hb
    have d0 := heap_cell HX5b.out 0
    have d1 := heap_cell HX5b.out 1
    have hl5 := lt_of_heap HX5b.out
    obtain ⟨hd, am, nm, cm, m0, m1, fm0, fm1, -⟩ := HM5.out.at hk HKL.out
    have hmb5 := HM5.out.lt
    have hne1 : mb ≠ w.heap.size + 1 := by omega
    go_wp2_with fail
    go_region
    go_wp2_with fail
    go_ret
    refine ⟨rfl, grown_trans (gb HB5.out _) (grown_trans (grown_trans (grown_setU w5 mb (k * 2) _) (grown_setU _ mb (k * 2 + 1) _)) (grown_drew _ _)), fun m' e => ?_⟩
    cases e
    exact HM5.out.set hk HKL.out HNY.out (tw_head htw)
  · go_wp2_with fail
    refine (ho ay ny cy w0 W3 mb HM3.out HK3.out (by omega) HNY.out).mono ?_
    rintro e w5 ⟨rfl, hb⟩
    have HB5 : Hid (Below w.heap.size w w5) := HB3.out.trans (hb.mono hbz3)
    have HM5 := hid (HM3.out.below hb)
    have HX5b := hid (below_heap hb hl3 HX5.out)
    have hbz5 := hb.size
    clear b0 b1 d0 d1 hb
    have d0 := heap_cell HX5b.out 0
    have d1 := heap_cell HX5b.out 1
    have hl5 := lt_of_heap HX5b.out
    obtain ⟨hd, am, nm, cm, m0, m1, fm0, fm1, -⟩ := HM5.out.at hk HKL.out
    have hmb5 := HM5.out.lt
    have hne1 : mb ≠ w.heap.size + 1 := by omega
    go_wp2_with fail
    go_region
    go_wp2_with fail
    go_ret
    refine ⟨rfl, grown_trans (gb HB5.out _) (grown_trans (grown_trans (grown_setU w5 mb (k * 2) _) (grown_setU _ mb (k * 2 + 1) _)) (grown_drew _ _)), fun m' e => ?_⟩
    cases e
    exact HM5.out.set hk HKL.out HNY.out (tw_head htw)
set_option maxHeartbeats 8000000 in
theorem un_occ {m : Sg} {a b x y : Ty} (hwa : Wk m a x) (hwb : Wk m b y) (hne : x.head ≠ y.head) (hf : First x y) (ho : OcAt m x.head y true) : UnAt m a b none := by
  rcases ix_cases x.head with ⟨-, hni⟩ | ⟨k, hk, hix, hkl⟩
  · exact absurd hf.1 hni
  have HKL := hid hkl
  have HIX := hid hix
  have hk0 : (0 : Int) ≤ (k : Int) := by omega
  have hj2 : (k : Int) < 12 := by omega
  obtain ⟨jy, hjy, hlt0, hcmp⟩ : ∃ j : Int, ix y.head = j ∧ ((k : Int) == j) = false ∧ (j < 0 ∨ (¬ j < 0 ∧ (k : Int) < j)) := by
    have hki : ix x.head = (ixl x.head : Int) := ix_ixl hf.1
    rcases ix_cases y.head with ⟨h1, h2⟩ | ⟨j, hj, h1, h2⟩
    · exact ⟨-1, h1, by rw [beq_eq_false_iff_ne]; omega, .inl (by decide)⟩
    · have hyl : y.head ∈ lts := List.mem_of_getElem? h2
      have hji : ix y.head = (ixl y.head : Int) := ix_ixl hyl
      rcases hf.2 with h3 | h3
      · exact absurd hyl h3
      · exact ⟨j, h1, by rw [beq_eq_false_iff_ne]; omega, .inr ⟨by omega, by omega⟩⟩
  have HIY := hid hjy
  clear hix hkl hf hjy
  intro aa na ca ab nb cb w0 w mb hmap hk hmb hna hnb
  have HMAP := hid hmap
  have HK := hid hk
  have HNA := hid hna
  have HNB := hid hnb
  have hlt := hmap.lt
  have hz : w0.heap.size ≤ w.heap.size := by omega
  clear hmap hk hna hnb
  go_enter Try.func54, Try.ntmps54
  go_wp2_with fail
  have HBA : Hid (Below w.heap.size w ((w.alloc (.cells #[.int .u8 a.head.toNat, .slice aa na ca] 70)).alloc (.cells #[.int .u8 b.head.toNat, .slice ab nb cb] 70))) := ((Below.refl _ _).alloc (Nat.le_refl _) _).alloc (by simp) _
  refine (l2Walk_any a x aa na ca w0 _ mb m hwa (HMAP.out.below HBA.out) HNA.out).mono ?_
  rintro e w1 ⟨ax, nx, cx, rfl, hn, hb⟩
  have HNX := hid hn
  have HB1 : Hid (Below w.heap.size w w1) := HBA.out.trans (hb.mono (by simp; omega))
  have HX4 := hid (below_heap hb (by simp; omega) (hb_alloc (heap_alloc_new w (.cells #[.int .u8 a.head.toNat, .slice aa na ca] 70)) (.cells #[.int .u8 b.head.toNat, .slice ab nb cb] 70)))
  have HX5 := hid (below_heap hb (by simp) (heap_alloc2_new w (.cells #[.int .u8 a.head.toNat, .slice aa na ca] 70) (.cells #[.int .u8 b.head.toNat, .slice ab nb cb] 70)))
  have hl1 := lt_of_heap HX5.out
  have b0 := heap_cell HX4.out 0
  have b1 := heap_cell HX4.out 1
  have f0 := heap_free HX4.out 0
  have f1 := heap_free HX4.out 1
  have d0 := heap_cell HX5.out 0
  have d1 := heap_cell HX5.out 1
  have hnx := hid (snode_len hn)
  clear hb hn
  go_wp2_with fail
  have HB1S : Hid (Below w.heap.size w ((w1.setCell ⟨w.heap.size, 0, none⟩ (.int .u8 x.head.toNat)).setCell ⟨w.heap.size, 1, none⟩ (.slice ax nx cx))) := (HB1.out.setCell (Nat.le_refl _) _).setCell (Nat.le_refl _) _
  have HX4S : Hid (((w1.setCell ⟨w.heap.size, 0, none⟩ (.int .u8 x.head.toNat)).setCell ⟨w.heap.size, 1, none⟩ (.slice ax nx cx)).heap[w.heap.size]? = some (.cells #[.int .u8 x.head.toNat, .slice ax nx cx] 70 (0, 0))) := heap_set (heap_set HX4.out 0 _) 1 _
  have HX5S : Hid (((w1.setCell ⟨w.heap.size, 0, none⟩ (.int .u8 x.head.toNat)).setCell ⟨w.heap.size, 1, none⟩ (.slice ax nx cx)).heap[w.heap.size + 1]? = some (.cells #[.int .u8 b.head.toNat, .slice ab nb cb] 70 (0, 0))) := hb_set_ne (hb_set_ne HX5.out _ _ (by show w.heap.size + 1 ≠ w.heap.size; omega)) _ _ (by show w.heap.size + 1 ≠ w.heap.size; omega)
  clear b0 b1 f0 f1 d0 d1 HX4 HX5 hl1
  generalize ((w1.setCell ⟨w.heap.size, 0, none⟩ (.int .u8 x.head.toNat)).setCell ⟨w.heap.size, 1, none⟩ (.slice ax nx cx)) = W1 at *
  refine (l2Walk_any b y ab nb cb w0 W1 mb m hwb (HMAP.out.below HB1S.out) HNB.out).mono ?_
  rintro e w2 ⟨ay, ny, cy, rfl, hn, hb⟩
  have HNY := hid hn
  have hbz1 := HB1S.out.size
  have HB2 : Hid (Below w.heap.size w w2) := HB1S.out.trans (hb.mono hbz1)
  have HX4T := hid (below_heap hb (lt_of_heap HX4S.out) HX4S.out)
  have HX5T := hid (below_heap hb (lt_of_heap HX5S.out) HX5S.out)
  have hl2 := lt_of_heap HX5T.out
  have d0 := heap_cell HX5T.out 0
  have d1 := heap_cell HX5T.out 1
  have f0 := heap_free HX5T.out 0
  have f1 := heap_free HX5T.out 1
  have b0 := heap_cell HX4T.out 0
  have hny := hid (snode_len hn)
  clear hb hn
  go_wp2_with fail
  have HB2S : Hid (Below w.heap.size w ((w2.setCell ⟨w.heap.size + 1, 0, none⟩ (.int .u8 y.head.toNat)).setCell ⟨w.heap.size + 1, 1, none⟩ (.slice ay ny cy))) := (HB2.out.setCell (by show w.heap.size ≤ w.heap.size + 1; omega) _).setCell (by show w.heap.size ≤ w.heap.size + 1; omega) _
  have HX5U : Hid (((w2.setCell ⟨w.heap.size + 1, 0, none⟩ (.int .u8 y.head.toNat)).setCell ⟨w.heap.size + 1, 1, none⟩ (.slice ay ny cy)).heap[w.heap.size + 1]? = some (.cells #[.int .u8 y.head.toNat, .slice ay ny cy] 70 (0, 0))) := heap_set (heap_set HX5T.out 0 _) 1 _
  have HX4U : Hid (((w2.setCell ⟨w.heap.size + 1, 0, none⟩ (.int .u8 y.head.toNat)).setCell ⟨w.heap.size + 1, 1, none⟩ (.slice ay ny cy)).heap[w.heap.size]? = some (.cells #[.int .u8 x.head.toNat, .slice ax nx cx] 70 (0, 0))) := hb_set_ne (hb_set_ne HX4T.out _ _ (by show w.heap.size ≠ w.heap.size + 1; omega)) _ _ (by show w.heap.size ≠ w.heap.size + 1; omega)
  clear b0 d0 d1 f0 f1 HX4T HX5T HX4S HX5S hl2
  generalize ((w2.setCell ⟨w.heap.size + 1, 0, none⟩ (.int .u8 y.head.toNat)).setCell ⟨w.heap.size + 1, 1, none⟩ (.slice ay ny cy)) = W2 at *
  have hbz2 := HB2S.out.size
  have hl2 := lt_of_heap HX5U.out
  have b0 := heap_cell HX4U.out 0
  have d0 := heap_cell HX5U.out 0
  go_quiet ((go_at_call 56; exact Calls.quiet_of_same (l2Index_q _ _)))
  rw [HIX.out, HIY.out]
  have HB3 : Hid (Below w.heap.size w (W2.drewN nq)) := below_drewN HB2S.out _
  have HX4 : Hid ((W2.drewN nq).heap[w.heap.size]? = some (.cells #[.int .u8 x.head.toNat, .slice ax nx cx] 70 (0, 0))) := (heap_drewN _ _ _).trans HX4U.out
  have HX5 : Hid ((W2.drewN nq).heap[w.heap.size + 1]? = some (.cells #[.int .u8 y.head.toNat, .slice ay ny cy] 70 (0, 0))) := (heap_drewN _ _ _).trans HX5U.out
  clear b0 d0 HX4U HX5U hl2 hbz2
  generalize W2.drewN nq = W3 at *
  have hbz3 := HB3.out.size
  have hl3 := lt_of_heap HX5.out
  have HM3 := hid (HMAP.out.below HB3.out)
  have HK3 : Hid (Keeps 0 w0 W3) := keeps_belowW HK.out HB3.out hz
  have b0 := heap_cell HX4.out 0
  have b1 := heap_cell HX4.out 1
  have d0 := heap_cell HX5.out 0
  have d1 := heap_cell HX5.out 1
  rcases hcmp with h1 | ⟨h1, h2⟩
  · go_wp2_with fail
    refine (ho ay ny cy w0 W3 mb HM3.out HK3.out (by omega) HNY.out).mono ?_
    rintro e w5 ⟨rfl, hb⟩
    have HB5 : Hid (Below w.heap.size w w5) := HB3.out.trans (hb.mono hbz3)
    have HM5 := hid (HM3.out.below hb)
    have HX5b := hid (below_heap hb hl3 HX5.out)
    have hbz5 := hb.size
    clear b0 b1 d0 d1 hb
    go_wp2_with fail
    go_ret
    exact ⟨rfl, gb HB5.out _, fun m' e => by cases e⟩
  · go_wp2_with fail
    refine (ho ay ny cy w0 W3 mb HM3.out HK3.out (by omega) HNY.out).mono ?_
    rintro e w5 ⟨rfl, hb⟩
    have HB5 : Hid (Below w.heap.size w w5) := HB3.out.trans (hb.mono hbz3)
    have HM5 := hid (HM3.out.below hb)
    have HX5b := hid (below_heap hb hl3 HX5.out)
    have hbz5 := hb.size
    clear b0 b1 d0 d1 hb
    go_wp2_with fail
    go_ret
    exact ⟨rfl, gb HB5.out _, fun m' e => by cases e⟩
set_option maxHeartbeats 8000000 in
theorem un_swap {m : Sg} {a b x y : Ty} {r : Option Sg} (hwa : Wk m a x) (hwb : Wk m b y) (hne : x.head ≠ y.head) (hf : ¬ First x y) (hl : y.head ∈ lts) (ih : UnAt m y x r) : UnAt m a b r := by
  rcases ix_cases y.head with ⟨-, hni⟩ | ⟨j, hj, hjy, hjl⟩
  · exact absurd hl hni
  have HIY := hid hjy
  have hj0 : (0 : Int) ≤ (j : Int) := by omega
  obtain ⟨kx, hkx, hcmp⟩ : ∃ k : Int, ix x.head = k ∧ (k < 0 ∨ (0 ≤ k ∧ (k == (j : Int)) = false ∧ ¬ (k < (j : Int)) ∧ ¬ ((j : Int) < 0))) := by
    rcases ix_cases x.head with ⟨h1, h2⟩ | ⟨k, hk, h1, h2⟩
    · exact ⟨-1, h1, .inl (by decide)⟩
    · have hxl : x.head ∈ lts := List.mem_of_getElem? h2
      have h3 := ix_ixl hxl
      have h4 := ix_ixl hl
      have h5 : ¬ ixl x.head < ixl y.head := fun h => hf ⟨hxl, .inr h⟩
      have h6 : k ≠ j := fun e => hne (by rw [e, hjl] at h2; exact (Option.some.inj h2).symm)
      exact ⟨k, h1, .inr ⟨by omega, by rw [beq_eq_false_iff_ne]; omega, by omega, by omega⟩⟩
  have HIX := hid hkx
  clear hjy hjl hkx hf hl hne
  intro aa na ca ab nb cb w0 w mb hmap hk hmb hna hnb
  have HMAP := hid hmap
  have HK := hid hk
  have HNA := hid hna
  have HNB := hid hnb
  have hlt := hmap.lt
  have hz : w0.heap.size ≤ w.heap.size := by omega
  clear hmap hk hna hnb
  go_enter Try.func54, Try.ntmps54
  go_wp2_with fail
  have HBA : Hid (Below w.heap.size w ((w.alloc (.cells #[.int .u8 a.head.toNat, .slice aa na ca] 70)).alloc (.cells #[.int .u8 b.head.toNat, .slice ab nb cb] 70))) := ((Below.refl _ _).alloc (Nat.le_refl _) _).alloc (by simp) _
  refine (l2Walk_any a x aa na ca w0 _ mb m hwa (HMAP.out.below HBA.out) HNA.out).mono ?_
  rintro e w1 ⟨ax, nx, cx, rfl, hn, hb⟩
  have HNX := hid hn
  have HB1 : Hid (Below w.heap.size w w1) := HBA.out.trans (hb.mono (by simp; omega))
  have HX4 := hid (below_heap hb (by simp; omega) (hb_alloc (heap_alloc_new w (.cells #[.int .u8 a.head.toNat, .slice aa na ca] 70)) (.cells #[.int .u8 b.head.toNat, .slice ab nb cb] 70)))
  have HX5 := hid (below_heap hb (by simp) (heap_alloc2_new w (.cells #[.int .u8 a.head.toNat, .slice aa na ca] 70) (.cells #[.int .u8 b.head.toNat, .slice ab nb cb] 70)))
  have hl1 := lt_of_heap HX5.out
  have b0 := heap_cell HX4.out 0
  have b1 := heap_cell HX4.out 1
  have f0 := heap_free HX4.out 0
  have f1 := heap_free HX4.out 1
  have d0 := heap_cell HX5.out 0
  have d1 := heap_cell HX5.out 1
  have hnx := hid (snode_len hn)
  clear hb hn
  go_wp2_with fail
  have HB1S : Hid (Below w.heap.size w ((w1.setCell ⟨w.heap.size, 0, none⟩ (.int .u8 x.head.toNat)).setCell ⟨w.heap.size, 1, none⟩ (.slice ax nx cx))) := (HB1.out.setCell (Nat.le_refl _) _).setCell (Nat.le_refl _) _
  have HX4S : Hid (((w1.setCell ⟨w.heap.size, 0, none⟩ (.int .u8 x.head.toNat)).setCell ⟨w.heap.size, 1, none⟩ (.slice ax nx cx)).heap[w.heap.size]? = some (.cells #[.int .u8 x.head.toNat, .slice ax nx cx] 70 (0, 0))) := heap_set (heap_set HX4.out 0 _) 1 _
  have HX5S : Hid (((w1.setCell ⟨w.heap.size, 0, none⟩ (.int .u8 x.head.toNat)).setCell ⟨w.heap.size, 1, none⟩ (.slice ax nx cx)).heap[w.heap.size + 1]? = some (.cells #[.int .u8 b.head.toNat, .slice ab nb cb] 70 (0, 0))) := hb_set_ne (hb_set_ne HX5.out _ _ (by show w.heap.size + 1 ≠ w.heap.size; omega)) _ _ (by show w.heap.size + 1 ≠ w.heap.size; omega)
  clear b0 b1 f0 f1 d0 d1 HX4 HX5 hl1
  generalize ((w1.setCell ⟨w.heap.size, 0, none⟩ (.int .u8 x.head.toNat)).setCell ⟨w.heap.size, 1, none⟩ (.slice ax nx cx)) = W1 at *
  refine (l2Walk_any b y ab nb cb w0 W1 mb m hwb (HMAP.out.below HB1S.out) HNB.out).mono ?_
  rintro e w2 ⟨ay, ny, cy, rfl, hn, hb⟩
  have HNY := hid hn
  have hbz1 := HB1S.out.size
  have HB2 : Hid (Below w.heap.size w w2) := HB1S.out.trans (hb.mono hbz1)
  have HX4T := hid (below_heap hb (lt_of_heap HX4S.out) HX4S.out)
  have HX5T := hid (below_heap hb (lt_of_heap HX5S.out) HX5S.out)
  have hl2 := lt_of_heap HX5T.out
  have d0 := heap_cell HX5T.out 0
  have d1 := heap_cell HX5T.out 1
  have f0 := heap_free HX5T.out 0
  have f1 := heap_free HX5T.out 1
  have b0 := heap_cell HX4T.out 0
  have hny := hid (snode_len hn)
  clear hb hn
  go_wp2_with fail
  have HB2S : Hid (Below w.heap.size w ((w2.setCell ⟨w.heap.size + 1, 0, none⟩ (.int .u8 y.head.toNat)).setCell ⟨w.heap.size + 1, 1, none⟩ (.slice ay ny cy))) := (HB2.out.setCell (by show w.heap.size ≤ w.heap.size + 1; omega) _).setCell (by show w.heap.size ≤ w.heap.size + 1; omega) _
  have HX5U : Hid (((w2.setCell ⟨w.heap.size + 1, 0, none⟩ (.int .u8 y.head.toNat)).setCell ⟨w.heap.size + 1, 1, none⟩ (.slice ay ny cy)).heap[w.heap.size + 1]? = some (.cells #[.int .u8 y.head.toNat, .slice ay ny cy] 70 (0, 0))) := heap_set (heap_set HX5T.out 0 _) 1 _
  have HX4U : Hid (((w2.setCell ⟨w.heap.size + 1, 0, none⟩ (.int .u8 y.head.toNat)).setCell ⟨w.heap.size + 1, 1, none⟩ (.slice ay ny cy)).heap[w.heap.size]? = some (.cells #[.int .u8 x.head.toNat, .slice ax nx cx] 70 (0, 0))) := hb_set_ne (hb_set_ne HX4T.out _ _ (by show w.heap.size ≠ w.heap.size + 1; omega)) _ _ (by show w.heap.size ≠ w.heap.size + 1; omega)
  clear b0 d0 d1 f0 f1 HX4T HX5T HX4S HX5S hl2
  generalize ((w2.setCell ⟨w.heap.size + 1, 0, none⟩ (.int .u8 y.head.toNat)).setCell ⟨w.heap.size + 1, 1, none⟩ (.slice ay ny cy)) = W2 at *
  have hbz2 := HB2S.out.size
  have hl2 := lt_of_heap HX5U.out
  have b0 := heap_cell HX4U.out 0
  have d0 := heap_cell HX5U.out 0
  go_quiet ((go_at_call 56; exact Calls.quiet_of_same (l2Index_q _ _)))
  rw [HIX.out, HIY.out]
  have HB3 : Hid (Below w.heap.size w (W2.drewN nq)) := below_drewN HB2S.out _
  have HX4 : Hid ((W2.drewN nq).heap[w.heap.size]? = some (.cells #[.int .u8 x.head.toNat, .slice ax nx cx] 70 (0, 0))) := (heap_drewN _ _ _).trans HX4U.out
  have HX5 : Hid ((W2.drewN nq).heap[w.heap.size + 1]? = some (.cells #[.int .u8 y.head.toNat, .slice ay ny cy] 70 (0, 0))) := (heap_drewN _ _ _).trans HX5U.out
  clear b0 d0 HX4U HX5U hl2 hbz2
  generalize W2.drewN nq = W3 at *
  have hbz3 := HB3.out.size
  have hl3 := lt_of_heap HX5.out
  have HM3 := hid (HMAP.out.below HB3.out)
  have HK3 : Hid (Keeps 0 w0 W3) := keeps_belowW HK.out HB3.out hz
  have b0 := heap_cell HX4.out 0
  have b1 := heap_cell HX4.out 1
  have d0 := heap_cell HX5.out 0
  have d1 := heap_cell HX5.out 1
  rcases hcmp with h1 | ⟨h1, h2, h3, h4⟩
  · go_wp2_with fail
    refine (ih ay ny cy ax nx cx w0 W3 mb HM3.out HK3.out hmb HNY.out HNX.out).mono ?_
    rintro e w5 ⟨rfl, hg, hm⟩
    have HG := hid hg
    have HM := hid hm
    clear b0 b1 d0 d1 hg hm
    go_wp2_with fail
    go_ret
    exact ⟨rfl, grown_trans (gb HB3.out _) HG.out, HM.out⟩
  · go_wp2_with fail
    refine (ih ay ny cy ax nx cx w0 W3 mb HM3.out HK3.out hmb HNY.out HNX.out).mono ?_
    rintro e w5 ⟨rfl, hg, hm⟩
    have HG := hid hg
    have HM := hid hm
    clear b0 b1 d0 d1 hg hm
    go_wp2_with fail
    go_ret
    exact ⟨rfl, grown_trans (gb HB3.out _) HG.out, HM.out⟩
set_option maxHeartbeats 8000000 in
theorem un_clash {m : Sg} {a b x y : Ty} (hwa : Wk m a x) (hwb : Wk m b y) (hxl : x.head ∉ lts) (hyl : y.head ∉ lts) (hne : x.head ≠ y.head) : UnAt m a b none := by
  have HIX : Hid (ix x.head = -1) := by
    rcases ix_cases x.head with ⟨h, -⟩ | ⟨k, hk, -, h⟩
    · exact h
    · exact absurd (List.mem_of_getElem? h) hxl
  have HIY : Hid (ix y.head = -1) := by
    rcases ix_cases y.head with ⟨h, -⟩ | ⟨k, hk, -, h⟩
    · exact h
    · exact absurd (List.mem_of_getElem? h) hyl
  have hhd := hd_of hne
  clear hne hxl hyl
  intro aa na ca ab nb cb w0 w mb hmap hk hmb hna hnb
  have HMAP := hid hmap
  have HK := hid hk
  have HNA := hid hna
  have HNB := hid hnb
  have hlt := hmap.lt
  have hz : w0.heap.size ≤ w.heap.size := by omega
  clear hmap hk hna hnb
  go_enter Try.func54, Try.ntmps54
  go_wp2_with fail
  have HBA : Hid (Below w.heap.size w ((w.alloc (.cells #[.int .u8 a.head.toNat, .slice aa na ca] 70)).alloc (.cells #[.int .u8 b.head.toNat, .slice ab nb cb] 70))) := ((Below.refl _ _).alloc (Nat.le_refl _) _).alloc (by simp) _
  refine (l2Walk_any a x aa na ca w0 _ mb m hwa (HMAP.out.below HBA.out) HNA.out).mono ?_
  rintro e w1 ⟨ax, nx, cx, rfl, hn, hb⟩
  have HNX := hid hn
  have HB1 : Hid (Below w.heap.size w w1) := HBA.out.trans (hb.mono (by simp; omega))
  have HX4 := hid (below_heap hb (by simp; omega) (hb_alloc (heap_alloc_new w (.cells #[.int .u8 a.head.toNat, .slice aa na ca] 70)) (.cells #[.int .u8 b.head.toNat, .slice ab nb cb] 70)))
  have HX5 := hid (below_heap hb (by simp) (heap_alloc2_new w (.cells #[.int .u8 a.head.toNat, .slice aa na ca] 70) (.cells #[.int .u8 b.head.toNat, .slice ab nb cb] 70)))
  have hl1 := lt_of_heap HX5.out
  have b0 := heap_cell HX4.out 0
  have b1 := heap_cell HX4.out 1
  have f0 := heap_free HX4.out 0
  have f1 := heap_free HX4.out 1
  have d0 := heap_cell HX5.out 0
  have d1 := heap_cell HX5.out 1
  have hnx := hid (snode_len hn)
  clear hb hn
  go_wp2_with fail
  have HB1S : Hid (Below w.heap.size w ((w1.setCell ⟨w.heap.size, 0, none⟩ (.int .u8 x.head.toNat)).setCell ⟨w.heap.size, 1, none⟩ (.slice ax nx cx))) := (HB1.out.setCell (Nat.le_refl _) _).setCell (Nat.le_refl _) _
  have HX4S : Hid (((w1.setCell ⟨w.heap.size, 0, none⟩ (.int .u8 x.head.toNat)).setCell ⟨w.heap.size, 1, none⟩ (.slice ax nx cx)).heap[w.heap.size]? = some (.cells #[.int .u8 x.head.toNat, .slice ax nx cx] 70 (0, 0))) := heap_set (heap_set HX4.out 0 _) 1 _
  have HX5S : Hid (((w1.setCell ⟨w.heap.size, 0, none⟩ (.int .u8 x.head.toNat)).setCell ⟨w.heap.size, 1, none⟩ (.slice ax nx cx)).heap[w.heap.size + 1]? = some (.cells #[.int .u8 b.head.toNat, .slice ab nb cb] 70 (0, 0))) := hb_set_ne (hb_set_ne HX5.out _ _ (by show w.heap.size + 1 ≠ w.heap.size; omega)) _ _ (by show w.heap.size + 1 ≠ w.heap.size; omega)
  clear b0 b1 f0 f1 d0 d1 HX4 HX5 hl1
  generalize ((w1.setCell ⟨w.heap.size, 0, none⟩ (.int .u8 x.head.toNat)).setCell ⟨w.heap.size, 1, none⟩ (.slice ax nx cx)) = W1 at *
  refine (l2Walk_any b y ab nb cb w0 W1 mb m hwb (HMAP.out.below HB1S.out) HNB.out).mono ?_
  rintro e w2 ⟨ay, ny, cy, rfl, hn, hb⟩
  have HNY := hid hn
  have hbz1 := HB1S.out.size
  have HB2 : Hid (Below w.heap.size w w2) := HB1S.out.trans (hb.mono hbz1)
  have HX4T := hid (below_heap hb (lt_of_heap HX4S.out) HX4S.out)
  have HX5T := hid (below_heap hb (lt_of_heap HX5S.out) HX5S.out)
  have hl2 := lt_of_heap HX5T.out
  have d0 := heap_cell HX5T.out 0
  have d1 := heap_cell HX5T.out 1
  have f0 := heap_free HX5T.out 0
  have f1 := heap_free HX5T.out 1
  have b0 := heap_cell HX4T.out 0
  have hny := hid (snode_len hn)
  clear hb hn
  go_wp2_with fail
  have HB2S : Hid (Below w.heap.size w ((w2.setCell ⟨w.heap.size + 1, 0, none⟩ (.int .u8 y.head.toNat)).setCell ⟨w.heap.size + 1, 1, none⟩ (.slice ay ny cy))) := (HB2.out.setCell (by show w.heap.size ≤ w.heap.size + 1; omega) _).setCell (by show w.heap.size ≤ w.heap.size + 1; omega) _
  have HX5U : Hid (((w2.setCell ⟨w.heap.size + 1, 0, none⟩ (.int .u8 y.head.toNat)).setCell ⟨w.heap.size + 1, 1, none⟩ (.slice ay ny cy)).heap[w.heap.size + 1]? = some (.cells #[.int .u8 y.head.toNat, .slice ay ny cy] 70 (0, 0))) := heap_set (heap_set HX5T.out 0 _) 1 _
  have HX4U : Hid (((w2.setCell ⟨w.heap.size + 1, 0, none⟩ (.int .u8 y.head.toNat)).setCell ⟨w.heap.size + 1, 1, none⟩ (.slice ay ny cy)).heap[w.heap.size]? = some (.cells #[.int .u8 x.head.toNat, .slice ax nx cx] 70 (0, 0))) := hb_set_ne (hb_set_ne HX4T.out _ _ (by show w.heap.size ≠ w.heap.size + 1; omega)) _ _ (by show w.heap.size ≠ w.heap.size + 1; omega)
  clear b0 d0 d1 f0 f1 HX4T HX5T HX4S HX5S hl2
  generalize ((w2.setCell ⟨w.heap.size + 1, 0, none⟩ (.int .u8 y.head.toNat)).setCell ⟨w.heap.size + 1, 1, none⟩ (.slice ay ny cy)) = W2 at *
  have hbz2 := HB2S.out.size
  have hl2 := lt_of_heap HX5U.out
  have b0 := heap_cell HX4U.out 0
  have d0 := heap_cell HX5U.out 0
  go_quiet ((go_at_call 56; exact Calls.quiet_of_same (l2Index_q _ _)))
  rw [HIX.out, HIY.out]
  have HB3 : Hid (Below w.heap.size w (W2.drewN nq)) := below_drewN HB2S.out _
  have HX4 : Hid ((W2.drewN nq).heap[w.heap.size]? = some (.cells #[.int .u8 x.head.toNat, .slice ax nx cx] 70 (0, 0))) := (heap_drewN _ _ _).trans HX4U.out
  have HX5 : Hid ((W2.drewN nq).heap[w.heap.size + 1]? = some (.cells #[.int .u8 y.head.toNat, .slice ay ny cy] 70 (0, 0))) := (heap_drewN _ _ _).trans HX5U.out
  clear b0 d0 HX4U HX5U hl2 hbz2
  generalize W2.drewN nq = W3 at *
  have hbz3 := HB3.out.size
  have hl3 := lt_of_heap HX5.out
  have HM3 := hid (HMAP.out.below HB3.out)
  have HK3 : Hid (Keeps 0 w0 W3) := keeps_belowW HK.out HB3.out hz
  have b0 := heap_cell HX4.out 0
  have b1 := heap_cell HX4.out 1
  have d0 := heap_cell HX5.out 0
  have d1 := heap_cell HX5.out 1
  go_wp2_with fail
  go_ret
  exact ⟨rfl, gb HB3.out _, fun m' e => by cases e⟩
set_option maxHeartbeats 8000000 in
theorem un_con0 {m : Sg} {a b x y : Ty} (hwa : Wk m a x) (hwb : Wk m b y) (hxl : x.head ∉ lts) (he : x.head = y.head) (hpx : x.parts = []) (hpy : y.parts = []) : UnAt m a b (some m) := by
  have hyl : y.head ∉ lts := by rw [← he]; exact hxl
  have HIX : Hid (ix x.head = -1) := by
    rcases ix_cases x.head with ⟨h, -⟩ | ⟨k, hk, -, h⟩
    · exact h
    · exact absurd (List.mem_of_getElem? h) hxl
  have HIY : Hid (ix y.head = -1) := by
    rcases ix_cases y.head with ⟨h, -⟩ | ⟨k, hk, -, h⟩
    · exact h
    · exact absurd (List.mem_of_getElem? h) hyl
  have hhd : ((x.head.toNat : Int) != y.head.toNat) = false := by rw [he]; simp
  clear hxl hyl he
  intro aa na ca ab nb cb w0 w mb hmap hk hmb hna hnb
  have HMAP := hid hmap
  have HK := hid hk
  have HNA := hid hna
  have HNB := hid hnb
  have hlt := hmap.lt
  have hz : w0.heap.size ≤ w.heap.size := by omega
  clear hmap hk hna hnb
  go_enter Try.func54, Try.ntmps54
  go_wp2_with fail
  have HBA : Hid (Below w.heap.size w ((w.alloc (.cells #[.int .u8 a.head.toNat, .slice aa na ca] 70)).alloc (.cells #[.int .u8 b.head.toNat, .slice ab nb cb] 70))) := ((Below.refl _ _).alloc (Nat.le_refl _) _).alloc (by simp) _
  refine (l2Walk_any a x aa na ca w0 _ mb m hwa (HMAP.out.below HBA.out) HNA.out).mono ?_
  rintro e w1 ⟨ax, nx, cx, rfl, hn, hb⟩
  have HNX := hid hn
  have HB1 : Hid (Below w.heap.size w w1) := HBA.out.trans (hb.mono (by simp; omega))
  have HX4 := hid (below_heap hb (by simp; omega) (hb_alloc (heap_alloc_new w (.cells #[.int .u8 a.head.toNat, .slice aa na ca] 70)) (.cells #[.int .u8 b.head.toNat, .slice ab nb cb] 70)))
  have HX5 := hid (below_heap hb (by simp) (heap_alloc2_new w (.cells #[.int .u8 a.head.toNat, .slice aa na ca] 70) (.cells #[.int .u8 b.head.toNat, .slice ab nb cb] 70)))
  have hl1 := lt_of_heap HX5.out
  have b0 := heap_cell HX4.out 0
  have b1 := heap_cell HX4.out 1
  have f0 := heap_free HX4.out 0
  have f1 := heap_free HX4.out 1
  have d0 := heap_cell HX5.out 0
  have d1 := heap_cell HX5.out 1
  have hnx := hid (snode_len hn)
  clear hb hn
  go_wp2_with fail
  have HB1S : Hid (Below w.heap.size w ((w1.setCell ⟨w.heap.size, 0, none⟩ (.int .u8 x.head.toNat)).setCell ⟨w.heap.size, 1, none⟩ (.slice ax nx cx))) := (HB1.out.setCell (Nat.le_refl _) _).setCell (Nat.le_refl _) _
  have HX4S : Hid (((w1.setCell ⟨w.heap.size, 0, none⟩ (.int .u8 x.head.toNat)).setCell ⟨w.heap.size, 1, none⟩ (.slice ax nx cx)).heap[w.heap.size]? = some (.cells #[.int .u8 x.head.toNat, .slice ax nx cx] 70 (0, 0))) := heap_set (heap_set HX4.out 0 _) 1 _
  have HX5S : Hid (((w1.setCell ⟨w.heap.size, 0, none⟩ (.int .u8 x.head.toNat)).setCell ⟨w.heap.size, 1, none⟩ (.slice ax nx cx)).heap[w.heap.size + 1]? = some (.cells #[.int .u8 b.head.toNat, .slice ab nb cb] 70 (0, 0))) := hb_set_ne (hb_set_ne HX5.out _ _ (by show w.heap.size + 1 ≠ w.heap.size; omega)) _ _ (by show w.heap.size + 1 ≠ w.heap.size; omega)
  clear b0 b1 f0 f1 d0 d1 HX4 HX5 hl1
  generalize ((w1.setCell ⟨w.heap.size, 0, none⟩ (.int .u8 x.head.toNat)).setCell ⟨w.heap.size, 1, none⟩ (.slice ax nx cx)) = W1 at *
  refine (l2Walk_any b y ab nb cb w0 W1 mb m hwb (HMAP.out.below HB1S.out) HNB.out).mono ?_
  rintro e w2 ⟨ay, ny, cy, rfl, hn, hb⟩
  have HNY := hid hn
  have hbz1 := HB1S.out.size
  have HB2 : Hid (Below w.heap.size w w2) := HB1S.out.trans (hb.mono hbz1)
  have HX4T := hid (below_heap hb (lt_of_heap HX4S.out) HX4S.out)
  have HX5T := hid (below_heap hb (lt_of_heap HX5S.out) HX5S.out)
  have hl2 := lt_of_heap HX5T.out
  have d0 := heap_cell HX5T.out 0
  have d1 := heap_cell HX5T.out 1
  have f0 := heap_free HX5T.out 0
  have f1 := heap_free HX5T.out 1
  have b0 := heap_cell HX4T.out 0
  have hny := hid (snode_len hn)
  clear hb hn
  go_wp2_with fail
  have HB2S : Hid (Below w.heap.size w ((w2.setCell ⟨w.heap.size + 1, 0, none⟩ (.int .u8 y.head.toNat)).setCell ⟨w.heap.size + 1, 1, none⟩ (.slice ay ny cy))) := (HB2.out.setCell (by show w.heap.size ≤ w.heap.size + 1; omega) _).setCell (by show w.heap.size ≤ w.heap.size + 1; omega) _
  have HX5U : Hid (((w2.setCell ⟨w.heap.size + 1, 0, none⟩ (.int .u8 y.head.toNat)).setCell ⟨w.heap.size + 1, 1, none⟩ (.slice ay ny cy)).heap[w.heap.size + 1]? = some (.cells #[.int .u8 y.head.toNat, .slice ay ny cy] 70 (0, 0))) := heap_set (heap_set HX5T.out 0 _) 1 _
  have HX4U : Hid (((w2.setCell ⟨w.heap.size + 1, 0, none⟩ (.int .u8 y.head.toNat)).setCell ⟨w.heap.size + 1, 1, none⟩ (.slice ay ny cy)).heap[w.heap.size]? = some (.cells #[.int .u8 x.head.toNat, .slice ax nx cx] 70 (0, 0))) := hb_set_ne (hb_set_ne HX4T.out _ _ (by show w.heap.size ≠ w.heap.size + 1; omega)) _ _ (by show w.heap.size ≠ w.heap.size + 1; omega)
  clear b0 d0 d1 f0 f1 HX4T HX5T HX4S HX5S hl2
  generalize ((w2.setCell ⟨w.heap.size + 1, 0, none⟩ (.int .u8 y.head.toNat)).setCell ⟨w.heap.size + 1, 1, none⟩ (.slice ay ny cy)) = W2 at *
  have hbz2 := HB2S.out.size
  have hl2 := lt_of_heap HX5U.out
  have b0 := heap_cell HX4U.out 0
  have d0 := heap_cell HX5U.out 0
  go_quiet ((go_at_call 56; exact Calls.quiet_of_same (l2Index_q _ _)))
  rw [HIX.out, HIY.out]
  have HB3 : Hid (Below w.heap.size w (W2.drewN nq)) := below_drewN HB2S.out _
  have HX4 : Hid ((W2.drewN nq).heap[w.heap.size]? = some (.cells #[.int .u8 x.head.toNat, .slice ax nx cx] 70 (0, 0))) := (heap_drewN _ _ _).trans HX4U.out
  have HX5 : Hid ((W2.drewN nq).heap[w.heap.size + 1]? = some (.cells #[.int .u8 y.head.toNat, .slice ay ny cy] 70 (0, 0))) := (heap_drewN _ _ _).trans HX5U.out
  clear b0 d0 HX4U HX5U hl2 hbz2
  generalize W2.drewN nq = W3 at *
  have hbz3 := HB3.out.size
  have hl3 := lt_of_heap HX5.out
  have HM3 := hid (HMAP.out.below HB3.out)
  have HK3 : Hid (Keeps 0 w0 W3) := keeps_belowW HK.out HB3.out hz
  have b0 := heap_cell HX4.out 0
  have b1 := heap_cell HX4.out 1
  have d0 := heap_cell HX5.out 0
  have d1 := heap_cell HX5.out 1
  obtain rfl : nx = 0 := by rw [hnx.out, hpx]; rfl
  obtain rfl : ny = 0 := by rw [hny.out, hpy]; rfl
  clear hnx hny
  go_wp2_with fail
  clear b0 d0
  refine wp_loop_rounds 1 ?_
  have HG0 : Hid (w.grownBy W3 (some mb)) := gb HB3.out _
  rw [rounds_succ]
  go_wp2_with fail
  go_ret
  exact ⟨rfl, HG0.out, fun m' e => by cases e; exact HM3.out⟩
set_option maxHeartbeats 8000000 in
theorem un_con1 {m : Sg} {a b x y : Ty} {r : Option Sg} {p q : Ty} (hwa : Wk m a x) (hwb : Wk m b y) (hxl : x.head ∉ lts) (he : x.head = y.head) (hpx : x.parts = [p]) (hpy : y.parts = [q]) (ih : UnAt m p q r) : UnAt m a b r := by
  have hyl : y.head ∉ lts := by rw [← he]; exact hxl
  have HIX : Hid (ix x.head = -1) := by
    rcases ix_cases x.head with ⟨h, -⟩ | ⟨k, hk, -, h⟩
    · exact h
    · exact absurd (List.mem_of_getElem? h) hxl
  have HIY : Hid (ix y.head = -1) := by
    rcases ix_cases y.head with ⟨h, -⟩ | ⟨k, hk, -, h⟩
    · exact h
    · exact absurd (List.mem_of_getElem? h) hyl
  have hhd : ((x.head.toNat : Int) != y.head.toNat) = false := by rw [he]; simp
  clear hxl hyl he
  intro aa na ca ab nb cb w0 w mb hmap hk hmb hna hnb
  have HMAP := hid hmap
  have HK := hid hk
  have HNA := hid hna
  have HNB := hid hnb
  have hlt := hmap.lt
  have hz : w0.heap.size ≤ w.heap.size := by omega
  clear hmap hk hna hnb
  go_enter Try.func54, Try.ntmps54
  go_wp2_with fail
  have HBA : Hid (Below w.heap.size w ((w.alloc (.cells #[.int .u8 a.head.toNat, .slice aa na ca] 70)).alloc (.cells #[.int .u8 b.head.toNat, .slice ab nb cb] 70))) := ((Below.refl _ _).alloc (Nat.le_refl _) _).alloc (by simp) _
  refine (l2Walk_any a x aa na ca w0 _ mb m hwa (HMAP.out.below HBA.out) HNA.out).mono ?_
  rintro e w1 ⟨ax, nx, cx, rfl, hn, hb⟩
  have HNX := hid hn
  have HB1 : Hid (Below w.heap.size w w1) := HBA.out.trans (hb.mono (by simp; omega))
  have HX4 := hid (below_heap hb (by simp; omega) (hb_alloc (heap_alloc_new w (.cells #[.int .u8 a.head.toNat, .slice aa na ca] 70)) (.cells #[.int .u8 b.head.toNat, .slice ab nb cb] 70)))
  have HX5 := hid (below_heap hb (by simp) (heap_alloc2_new w (.cells #[.int .u8 a.head.toNat, .slice aa na ca] 70) (.cells #[.int .u8 b.head.toNat, .slice ab nb cb] 70)))
  have hl1 := lt_of_heap HX5.out
  have b0 := heap_cell HX4.out 0
  have b1 := heap_cell HX4.out 1
  have f0 := heap_free HX4.out 0
  have f1 := heap_free HX4.out 1
  have d0 := heap_cell HX5.out 0
  have d1 := heap_cell HX5.out 1
  have hnx := hid (snode_len hn)
  clear hb hn
  go_wp2_with fail
  have HB1S : Hid (Below w.heap.size w ((w1.setCell ⟨w.heap.size, 0, none⟩ (.int .u8 x.head.toNat)).setCell ⟨w.heap.size, 1, none⟩ (.slice ax nx cx))) := (HB1.out.setCell (Nat.le_refl _) _).setCell (Nat.le_refl _) _
  have HX4S : Hid (((w1.setCell ⟨w.heap.size, 0, none⟩ (.int .u8 x.head.toNat)).setCell ⟨w.heap.size, 1, none⟩ (.slice ax nx cx)).heap[w.heap.size]? = some (.cells #[.int .u8 x.head.toNat, .slice ax nx cx] 70 (0, 0))) := heap_set (heap_set HX4.out 0 _) 1 _
  have HX5S : Hid (((w1.setCell ⟨w.heap.size, 0, none⟩ (.int .u8 x.head.toNat)).setCell ⟨w.heap.size, 1, none⟩ (.slice ax nx cx)).heap[w.heap.size + 1]? = some (.cells #[.int .u8 b.head.toNat, .slice ab nb cb] 70 (0, 0))) := hb_set_ne (hb_set_ne HX5.out _ _ (by show w.heap.size + 1 ≠ w.heap.size; omega)) _ _ (by show w.heap.size + 1 ≠ w.heap.size; omega)
  clear b0 b1 f0 f1 d0 d1 HX4 HX5 hl1
  generalize ((w1.setCell ⟨w.heap.size, 0, none⟩ (.int .u8 x.head.toNat)).setCell ⟨w.heap.size, 1, none⟩ (.slice ax nx cx)) = W1 at *
  refine (l2Walk_any b y ab nb cb w0 W1 mb m hwb (HMAP.out.below HB1S.out) HNB.out).mono ?_
  rintro e w2 ⟨ay, ny, cy, rfl, hn, hb⟩
  have HNY := hid hn
  have hbz1 := HB1S.out.size
  have HB2 : Hid (Below w.heap.size w w2) := HB1S.out.trans (hb.mono hbz1)
  have HX4T := hid (below_heap hb (lt_of_heap HX4S.out) HX4S.out)
  have HX5T := hid (below_heap hb (lt_of_heap HX5S.out) HX5S.out)
  have hl2 := lt_of_heap HX5T.out
  have d0 := heap_cell HX5T.out 0
  have d1 := heap_cell HX5T.out 1
  have f0 := heap_free HX5T.out 0
  have f1 := heap_free HX5T.out 1
  have b0 := heap_cell HX4T.out 0
  have hny := hid (snode_len hn)
  clear hb hn
  go_wp2_with fail
  have HB2S : Hid (Below w.heap.size w ((w2.setCell ⟨w.heap.size + 1, 0, none⟩ (.int .u8 y.head.toNat)).setCell ⟨w.heap.size + 1, 1, none⟩ (.slice ay ny cy))) := (HB2.out.setCell (by show w.heap.size ≤ w.heap.size + 1; omega) _).setCell (by show w.heap.size ≤ w.heap.size + 1; omega) _
  have HX5U : Hid (((w2.setCell ⟨w.heap.size + 1, 0, none⟩ (.int .u8 y.head.toNat)).setCell ⟨w.heap.size + 1, 1, none⟩ (.slice ay ny cy)).heap[w.heap.size + 1]? = some (.cells #[.int .u8 y.head.toNat, .slice ay ny cy] 70 (0, 0))) := heap_set (heap_set HX5T.out 0 _) 1 _
  have HX4U : Hid (((w2.setCell ⟨w.heap.size + 1, 0, none⟩ (.int .u8 y.head.toNat)).setCell ⟨w.heap.size + 1, 1, none⟩ (.slice ay ny cy)).heap[w.heap.size]? = some (.cells #[.int .u8 x.head.toNat, .slice ax nx cx] 70 (0, 0))) := hb_set_ne (hb_set_ne HX4T.out _ _ (by show w.heap.size ≠ w.heap.size + 1; omega)) _ _ (by show w.heap.size ≠ w.heap.size + 1; omega)
  clear b0 d0 d1 f0 f1 HX4T HX5T HX4S HX5S hl2
  generalize ((w2.setCell ⟨w.heap.size + 1, 0, none⟩ (.int .u8 y.head.toNat)).setCell ⟨w.heap.size + 1, 1, none⟩ (.slice ay ny cy)) = W2 at *
  have hbz2 := HB2S.out.size
  have hl2 := lt_of_heap HX5U.out
  have b0 := heap_cell HX4U.out 0
  have d0 := heap_cell HX5U.out 0
  go_quiet ((go_at_call 56; exact Calls.quiet_of_same (l2Index_q _ _)))
  rw [HIX.out, HIY.out]
  have HB3 : Hid (Below w.heap.size w (W2.drewN nq)) := below_drewN HB2S.out _
  have HX4 : Hid ((W2.drewN nq).heap[w.heap.size]? = some (.cells #[.int .u8 x.head.toNat, .slice ax nx cx] 70 (0, 0))) := (heap_drewN _ _ _).trans HX4U.out
  have HX5 : Hid ((W2.drewN nq).heap[w.heap.size + 1]? = some (.cells #[.int .u8 y.head.toNat, .slice ay ny cy] 70 (0, 0))) := (heap_drewN _ _ _).trans HX5U.out
  clear b0 d0 HX4U HX5U hl2 hbz2
  generalize W2.drewN nq = W3 at *
  have hbz3 := HB3.out.size
  have hl3 := lt_of_heap HX5.out
  have HM3 := hid (HMAP.out.below HB3.out)
  have HK3 : Hid (Keeps 0 w0 W3) := keeps_belowW HK.out HB3.out hz
  have b0 := heap_cell HX4.out 0
  have b1 := heap_cell HX4.out 1
  have d0 := heap_cell HX5.out 0
  have d1 := heap_cell HX5.out 1
  obtain rfl : nx = 1 := by rw [hnx.out, hpx]; rfl
  obtain rfl : ny = 1 := by rw [hny.out, hpy]; rfl
  clear hnx hny
  go_wp2_with fail
  clear b0 d0
  refine wp_loop_rounds 2 ?_
  have HG0 : Hid (w.grownBy W3 (some mb)) := gb HB3.out _
  obtain ⟨g0, a0, n0, c0, eg0, hg0, y0, z0, hn0⟩ := part_at (j := 0) (u := p) HNX.out HK3.out (by rw [hpx]; rfl) (by have := HG0.out.size; omega)
  obtain ⟨k0, a0', n0', c0', ek0, hk0, y0', z0', hn0'⟩ := part_at (j := 0) (u := q) HNY.out HK3.out (by rw [hpy]; rfl) (by have := HG0.out.size; omega)
  subst eg0 ek0
  have HN0 := hid hn0
  have HN0' := hid hn0'
  have hbz0x := HG0.out.size
  have hlx0 := lt_of_heap HX5.out
  have x0 := heap_cell HX4.out 1
  have x1 := heap_cell HX5.out 1
  have hgr0 : g0 < W3.heap.size := by omega
  have hgr1 : k0 < W3.heap.size := by omega
  have hgm0 : g0 ≠ mb := by omega
  have hgm1 : k0 ≠ mb := by omega
  have hmw0 : w.heap.size ≠ mb := by omega
  have hmw1 : w.heap.size + 1 ≠ mb := by omega
  clear hn0 hn0'
  simp only [Nat.zero_mul, Nat.zero_add] at y0 z0 y0' z0'
  rw [rounds_succ]
  clear b1 d1
  go_wp2_with fail
  refine wp_region_any (by kernel_rfl) ?_
  change wpAny _ _ _ _ _ _ _ (World.drew _)
  have SX : W3.drew.cell? ⟨w.heap.size, 1, none⟩ = some (.slice (some ⟨g0, 0, none⟩) 1 cx) ∧ W3.drew.cell? ⟨w.heap.size + 1, 1, none⟩ = some (.slice (some ⟨k0, 0, none⟩) 1 cy) ∧ W3.drew.cell? ⟨g0, 0, none⟩ = some (.int .u8 p.head.toNat) ∧ W3.drew.cell? ⟨g0, 1, none⟩ = some (.slice a0 n0 c0) ∧ W3.drew.cell? ⟨k0, 0, none⟩ = some (.int .u8 q.head.toNat) ∧ W3.drew.cell? ⟨k0, 1, none⟩ = some (.slice a0' n0' c0') := ⟨x0, x1, y0, z0, y0', z0'⟩
  refine wpAny_of_T (S := fun X => X.cell? ⟨w.heap.size, 1, none⟩ = some (.slice (some ⟨g0, 0, none⟩) 1 cx) ∧ X.cell? ⟨w.heap.size + 1, 1, none⟩ = some (.slice (some ⟨k0, 0, none⟩) 1 cy) ∧ X.cell? ⟨g0, 0, none⟩ = some (.int .u8 p.head.toNat) ∧ X.cell? ⟨g0, 1, none⟩ = some (.slice a0 n0 c0) ∧ X.cell? ⟨k0, 0, none⟩ = some (.int .u8 q.head.toNat) ∧ X.cell? ⟨k0, 1, none⟩ = some (.slice a0' n0' c0')) (m := 13) _ _ _ _ ?_
  clear x0 x1 y0 z0 y0' z0'
  refine wpAnyT_take (i := 0) (v := .pointer (some ⟨mb, 0, none⟩)) rfl (by kernel_rfl) (by kernel_rfl) (by kernel_rfl) (by kernel_rfl) (fun _ _ _ h => h) (Or.inl ⟨by kernel_rfl, fun X hS => by obtain ⟨e0, e1, e2, e3, e4, e5⟩ := hS; go_simp⟩) SX ?_
  try go_simp
  refine wpAnyT_take (i := 1) (v := .pointer (some ⟨w.heap.size, 1, none⟩)) rfl (by kernel_rfl) (by kernel_rfl) (by kernel_rfl) (by kernel_rfl) (fun _ _ _ h => h) (Or.inl ⟨by kernel_rfl, fun X hS => by obtain ⟨e0, e1, e2, e3, e4, e5⟩ := hS; go_simp⟩) SX ?_
  try go_simp
  refine wpAnyT_take (i := 2) (v := .slice (some ⟨g0, 0, none⟩) 1 cx) rfl (by kernel_rfl) (by kernel_rfl) (by kernel_rfl) (by kernel_rfl) (fun _ _ _ h => h) (Or.inl ⟨by kernel_rfl, fun X hS => by obtain ⟨e0, e1, e2, e3, e4, e5⟩ := hS; go_simp⟩) SX ?_
  try go_simp
  refine wpAnyT_take (i := 3) (v := .int .i64 0) rfl (by kernel_rfl) (by kernel_rfl) (by kernel_rfl) (by kernel_rfl) (fun _ _ _ h => h) (Or.inl ⟨by kernel_rfl, fun X hS => by obtain ⟨e0, e1, e2, e3, e4, e5⟩ := hS; go_simp⟩) SX ?_
  try go_simp
  refine wpAnyT_take (i := 4) (v := .pointer (some ⟨g0, 0, none⟩)) rfl (by kernel_rfl) (by kernel_rfl) (by kernel_rfl) (by kernel_rfl) (fun _ _ _ h => h) (Or.inl ⟨by kernel_rfl, fun X hS => by obtain ⟨e0, e1, e2, e3, e4, e5⟩ := hS; go_simp⟩) SX ?_
  try go_simp
  refine wpAnyT_take (i := 5) (v := .agg #[.int .u8 p.head.toNat, .slice a0 n0 c0]) rfl (by kernel_rfl) (by kernel_rfl) (by kernel_rfl) (by kernel_rfl) (fun _ _ _ h => h) (Or.inl ⟨by kernel_rfl, fun X hS => by obtain ⟨e0, e1, e2, e3, e4, e5⟩ := hS; go_simp⟩) SX ?_
  try go_simp
  refine wpAnyT_take (i := 6) (v := .pointer (some ⟨w.heap.size + 1, 1, none⟩)) rfl (by kernel_rfl) (by kernel_rfl) (by kernel_rfl) (by kernel_rfl) (fun _ _ _ h => h) (Or.inl ⟨by kernel_rfl, fun X hS => by obtain ⟨e0, e1, e2, e3, e4, e5⟩ := hS; go_simp⟩) SX ?_
  try go_simp
  refine wpAnyT_take (i := 7) (v := .slice (some ⟨k0, 0, none⟩) 1 cy) rfl (by kernel_rfl) (by kernel_rfl) (by kernel_rfl) (by kernel_rfl) (fun _ _ _ h => h) (Or.inl ⟨by kernel_rfl, fun X hS => by obtain ⟨e0, e1, e2, e3, e4, e5⟩ := hS; go_simp⟩) SX ?_
  try go_simp
  refine wpAnyT_take (i := 8) (v := .int .i64 0) rfl (by kernel_rfl) (by kernel_rfl) (by kernel_rfl) (by kernel_rfl) (fun _ _ _ h => h) (Or.inl ⟨by kernel_rfl, fun X hS => by obtain ⟨e0, e1, e2, e3, e4, e5⟩ := hS; go_simp⟩) SX ?_
  try go_simp
  refine wpAnyT_take (i := 9) (v := .pointer (some ⟨k0, 0, none⟩)) rfl (by kernel_rfl) (by kernel_rfl) (by kernel_rfl) (by kernel_rfl) (fun _ _ _ h => h) (Or.inl ⟨by kernel_rfl, fun X hS => by obtain ⟨e0, e1, e2, e3, e4, e5⟩ := hS; go_simp⟩) SX ?_
  try go_simp
  refine wpAnyT_take (i := 10) (v := .agg #[.int .u8 q.head.toNat, .slice a0' n0' c0']) rfl (by kernel_rfl) (by kernel_rfl) (by kernel_rfl) (by kernel_rfl) (fun _ _ _ h => h) (Or.inl ⟨by kernel_rfl, fun X hS => by obtain ⟨e0, e1, e2, e3, e4, e5⟩ := hS; go_simp⟩) SX ?_
  try go_simp
  refine wpAnyT_one 11 rfl (by kernel_rfl) (fun K hK => ?_)
  go_simp
  refine (ih a0 n0 c0 a0' n0' c0' w0 W3.drew mb (HM3.out.heap rfl) (show Keeps 0 w0 W3.drew from HK3.out) hmb HN0.out HN0'.out).mono ?_
  rintro e v0 ⟨rfl, hg, hm⟩
  have HGV0 : Hid (W3.grownBy v0 (some mb)) := ⟨hg.os, hg.tape, hg.output, hg.size, hg.block⟩
  have HMV0 := hid hm
  clear hg hm
  have SXv0 : v0.cell? ⟨w.heap.size, 1, none⟩ = some (.slice (some ⟨g0, 0, none⟩) 1 cx) ∧ v0.cell? ⟨w.heap.size + 1, 1, none⟩ = some (.slice (some ⟨k0, 0, none⟩) 1 cy) ∧ v0.cell? ⟨g0, 0, none⟩ = some (.int .u8 p.head.toNat) ∧ v0.cell? ⟨g0, 1, none⟩ = some (.slice a0 n0 c0) ∧ v0.cell? ⟨k0, 0, none⟩ = some (.int .u8 q.head.toNat) ∧ v0.cell? ⟨k0, 1, none⟩ = some (.slice a0' n0' c0') := ⟨cellG HGV0.out (by omega) hmw0 SX.1, cellG HGV0.out (by omega) hmw1 SX.2.1, cellG HGV0.out hgr0 hgm0 SX.2.2.1, cellG HGV0.out hgr0 hgm0 SX.2.2.2.1, cellG HGV0.out hgr1 hgm1 SX.2.2.2.2.1, cellG HGV0.out hgr1 hgm1 SX.2.2.2.2.2⟩
  refine hK _ _ (fun _ => SXv0) ?_
  clear hK K
  clear SX
  cases r with
  | none =>
    refine wpAnyT_take (i := 12) (v := .bool true) rfl (by kernel_rfl) (by kernel_rfl) (by kernel_rfl) (by kernel_rfl) (fun _ _ _ h => h) (Or.inl ⟨by kernel_rfl, fun X hS => by obtain ⟨e0, e1, e2, e3, e4, e5⟩ := hS; go_simp⟩) SXv0 ?_
    try go_simp
    refine wpAnyT_drop _ 13 _ _ _ (by decide) (by kernel_rfl) ?_
    change wpList _ _ _ [] _ _
    clear SXv0
    go_wp2
    go_ret
    exact ⟨rfl, grown_trans HG0.out HGV0.out, fun m' e => by cases e⟩
  | some mr =>
    refine wpAnyT_take (i := 12) (v := .bool false) rfl (by kernel_rfl) (by kernel_rfl) (by kernel_rfl) (by kernel_rfl) (fun _ _ _ h => h) (Or.inl ⟨by kernel_rfl, fun X hS => by obtain ⟨e0, e1, e2, e3, e4, e5⟩ := hS; go_simp⟩) SXv0 ?_
    try go_simp
    refine wpAnyT_drop _ 13 _ _ _ (by decide) (by kernel_rfl) ?_
    change wpList _ _ _ [] _ _
    clear SXv0
    go_wp2
    go_wp2_with fail
    rw [rounds_succ]
    go_wp2_with fail
    go_ret
    exact ⟨rfl, grown_trans HG0.out HGV0.out, HMV0.out⟩
set_option maxHeartbeats 8000000 in
theorem un_con2n {m : Sg} {a b x y : Ty} {p p2 q q2 : Ty} (hwa : Wk m a x) (hwb : Wk m b y) (hxl : x.head ∉ lts) (he : x.head = y.head) (hpx : x.parts = [p, p2]) (hpy : y.parts = [q, q2]) (ih : UnAt m p q none) : UnAt m a b none := by
  have hyl : y.head ∉ lts := by rw [← he]; exact hxl
  have HIX : Hid (ix x.head = -1) := by
    rcases ix_cases x.head with ⟨h, -⟩ | ⟨k, hk, -, h⟩
    · exact h
    · exact absurd (List.mem_of_getElem? h) hxl
  have HIY : Hid (ix y.head = -1) := by
    rcases ix_cases y.head with ⟨h, -⟩ | ⟨k, hk, -, h⟩
    · exact h
    · exact absurd (List.mem_of_getElem? h) hyl
  have hhd : ((x.head.toNat : Int) != y.head.toNat) = false := by rw [he]; simp
  clear hxl hyl he
  intro aa na ca ab nb cb w0 w mb hmap hk hmb hna hnb
  have HMAP := hid hmap
  have HK := hid hk
  have HNA := hid hna
  have HNB := hid hnb
  have hlt := hmap.lt
  have hz : w0.heap.size ≤ w.heap.size := by omega
  clear hmap hk hna hnb
  go_enter Try.func54, Try.ntmps54
  go_wp2_with fail
  have HBA : Hid (Below w.heap.size w ((w.alloc (.cells #[.int .u8 a.head.toNat, .slice aa na ca] 70)).alloc (.cells #[.int .u8 b.head.toNat, .slice ab nb cb] 70))) := ((Below.refl _ _).alloc (Nat.le_refl _) _).alloc (by simp) _
  refine (l2Walk_any a x aa na ca w0 _ mb m hwa (HMAP.out.below HBA.out) HNA.out).mono ?_
  rintro e w1 ⟨ax, nx, cx, rfl, hn, hb⟩
  have HNX := hid hn
  have HB1 : Hid (Below w.heap.size w w1) := HBA.out.trans (hb.mono (by simp; omega))
  have HX4 := hid (below_heap hb (by simp; omega) (hb_alloc (heap_alloc_new w (.cells #[.int .u8 a.head.toNat, .slice aa na ca] 70)) (.cells #[.int .u8 b.head.toNat, .slice ab nb cb] 70)))
  have HX5 := hid (below_heap hb (by simp) (heap_alloc2_new w (.cells #[.int .u8 a.head.toNat, .slice aa na ca] 70) (.cells #[.int .u8 b.head.toNat, .slice ab nb cb] 70)))
  have hl1 := lt_of_heap HX5.out
  have b0 := heap_cell HX4.out 0
  have b1 := heap_cell HX4.out 1
  have f0 := heap_free HX4.out 0
  have f1 := heap_free HX4.out 1
  have d0 := heap_cell HX5.out 0
  have d1 := heap_cell HX5.out 1
  have hnx := hid (snode_len hn)
  clear hb hn
  go_wp2_with fail
  have HB1S : Hid (Below w.heap.size w ((w1.setCell ⟨w.heap.size, 0, none⟩ (.int .u8 x.head.toNat)).setCell ⟨w.heap.size, 1, none⟩ (.slice ax nx cx))) := (HB1.out.setCell (Nat.le_refl _) _).setCell (Nat.le_refl _) _
  have HX4S : Hid (((w1.setCell ⟨w.heap.size, 0, none⟩ (.int .u8 x.head.toNat)).setCell ⟨w.heap.size, 1, none⟩ (.slice ax nx cx)).heap[w.heap.size]? = some (.cells #[.int .u8 x.head.toNat, .slice ax nx cx] 70 (0, 0))) := heap_set (heap_set HX4.out 0 _) 1 _
  have HX5S : Hid (((w1.setCell ⟨w.heap.size, 0, none⟩ (.int .u8 x.head.toNat)).setCell ⟨w.heap.size, 1, none⟩ (.slice ax nx cx)).heap[w.heap.size + 1]? = some (.cells #[.int .u8 b.head.toNat, .slice ab nb cb] 70 (0, 0))) := hb_set_ne (hb_set_ne HX5.out _ _ (by show w.heap.size + 1 ≠ w.heap.size; omega)) _ _ (by show w.heap.size + 1 ≠ w.heap.size; omega)
  clear b0 b1 f0 f1 d0 d1 HX4 HX5 hl1
  generalize ((w1.setCell ⟨w.heap.size, 0, none⟩ (.int .u8 x.head.toNat)).setCell ⟨w.heap.size, 1, none⟩ (.slice ax nx cx)) = W1 at *
  refine (l2Walk_any b y ab nb cb w0 W1 mb m hwb (HMAP.out.below HB1S.out) HNB.out).mono ?_
  rintro e w2 ⟨ay, ny, cy, rfl, hn, hb⟩
  have HNY := hid hn
  have hbz1 := HB1S.out.size
  have HB2 : Hid (Below w.heap.size w w2) := HB1S.out.trans (hb.mono hbz1)
  have HX4T := hid (below_heap hb (lt_of_heap HX4S.out) HX4S.out)
  have HX5T := hid (below_heap hb (lt_of_heap HX5S.out) HX5S.out)
  have hl2 := lt_of_heap HX5T.out
  have d0 := heap_cell HX5T.out 0
  have d1 := heap_cell HX5T.out 1
  have f0 := heap_free HX5T.out 0
  have f1 := heap_free HX5T.out 1
  have b0 := heap_cell HX4T.out 0
  have hny := hid (snode_len hn)
  clear hb hn
  go_wp2_with fail
  have HB2S : Hid (Below w.heap.size w ((w2.setCell ⟨w.heap.size + 1, 0, none⟩ (.int .u8 y.head.toNat)).setCell ⟨w.heap.size + 1, 1, none⟩ (.slice ay ny cy))) := (HB2.out.setCell (by show w.heap.size ≤ w.heap.size + 1; omega) _).setCell (by show w.heap.size ≤ w.heap.size + 1; omega) _
  have HX5U : Hid (((w2.setCell ⟨w.heap.size + 1, 0, none⟩ (.int .u8 y.head.toNat)).setCell ⟨w.heap.size + 1, 1, none⟩ (.slice ay ny cy)).heap[w.heap.size + 1]? = some (.cells #[.int .u8 y.head.toNat, .slice ay ny cy] 70 (0, 0))) := heap_set (heap_set HX5T.out 0 _) 1 _
  have HX4U : Hid (((w2.setCell ⟨w.heap.size + 1, 0, none⟩ (.int .u8 y.head.toNat)).setCell ⟨w.heap.size + 1, 1, none⟩ (.slice ay ny cy)).heap[w.heap.size]? = some (.cells #[.int .u8 x.head.toNat, .slice ax nx cx] 70 (0, 0))) := hb_set_ne (hb_set_ne HX4T.out _ _ (by show w.heap.size ≠ w.heap.size + 1; omega)) _ _ (by show w.heap.size ≠ w.heap.size + 1; omega)
  clear b0 d0 d1 f0 f1 HX4T HX5T HX4S HX5S hl2
  generalize ((w2.setCell ⟨w.heap.size + 1, 0, none⟩ (.int .u8 y.head.toNat)).setCell ⟨w.heap.size + 1, 1, none⟩ (.slice ay ny cy)) = W2 at *
  have hbz2 := HB2S.out.size
  have hl2 := lt_of_heap HX5U.out
  have b0 := heap_cell HX4U.out 0
  have d0 := heap_cell HX5U.out 0
  go_quiet ((go_at_call 56; exact Calls.quiet_of_same (l2Index_q _ _)))
  rw [HIX.out, HIY.out]
  have HB3 : Hid (Below w.heap.size w (W2.drewN nq)) := below_drewN HB2S.out _
  have HX4 : Hid ((W2.drewN nq).heap[w.heap.size]? = some (.cells #[.int .u8 x.head.toNat, .slice ax nx cx] 70 (0, 0))) := (heap_drewN _ _ _).trans HX4U.out
  have HX5 : Hid ((W2.drewN nq).heap[w.heap.size + 1]? = some (.cells #[.int .u8 y.head.toNat, .slice ay ny cy] 70 (0, 0))) := (heap_drewN _ _ _).trans HX5U.out
  clear b0 d0 HX4U HX5U hl2 hbz2
  generalize W2.drewN nq = W3 at *
  have hbz3 := HB3.out.size
  have hl3 := lt_of_heap HX5.out
  have HM3 := hid (HMAP.out.below HB3.out)
  have HK3 : Hid (Keeps 0 w0 W3) := keeps_belowW HK.out HB3.out hz
  have b0 := heap_cell HX4.out 0
  have b1 := heap_cell HX4.out 1
  have d0 := heap_cell HX5.out 0
  have d1 := heap_cell HX5.out 1
  obtain rfl : nx = 2 := by rw [hnx.out, hpx]; rfl
  obtain rfl : ny = 2 := by rw [hny.out, hpy]; rfl
  clear hnx hny
  go_wp2_with fail
  clear b0 d0
  refine wp_loop_rounds 3 ?_
  have HG0 : Hid (w.grownBy W3 (some mb)) := gb HB3.out _
  obtain ⟨g0, a0, n0, c0, eg0, hg0, y0, z0, hn0⟩ := part_at (j := 0) (u := p) HNX.out HK3.out (by rw [hpx]; rfl) (by have := HG0.out.size; omega)
  obtain ⟨k0, a0', n0', c0', ek0, hk0, y0', z0', hn0'⟩ := part_at (j := 0) (u := q) HNY.out HK3.out (by rw [hpy]; rfl) (by have := HG0.out.size; omega)
  subst eg0 ek0
  have HN0 := hid hn0
  have HN0' := hid hn0'
  have hbz0x := HG0.out.size
  have hlx0 := lt_of_heap HX5.out
  have x0 := heap_cell HX4.out 1
  have x1 := heap_cell HX5.out 1
  have hgr0 : g0 < W3.heap.size := by omega
  have hgr1 : k0 < W3.heap.size := by omega
  have hgm0 : g0 ≠ mb := by omega
  have hgm1 : k0 ≠ mb := by omega
  have hmw0 : w.heap.size ≠ mb := by omega
  have hmw1 : w.heap.size + 1 ≠ mb := by omega
  clear hn0 hn0'
  simp only [Nat.zero_mul, Nat.zero_add] at y0 z0 y0' z0'
  rw [rounds_succ]
  clear b1 d1
  go_wp2_with fail
  refine wp_region_any (by kernel_rfl) ?_
  change wpAny _ _ _ _ _ _ _ (World.drew _)
  have SX : W3.drew.cell? ⟨w.heap.size, 1, none⟩ = some (.slice (some ⟨g0, 0, none⟩) 2 cx) ∧ W3.drew.cell? ⟨w.heap.size + 1, 1, none⟩ = some (.slice (some ⟨k0, 0, none⟩) 2 cy) ∧ W3.drew.cell? ⟨g0, 0, none⟩ = some (.int .u8 p.head.toNat) ∧ W3.drew.cell? ⟨g0, 1, none⟩ = some (.slice a0 n0 c0) ∧ W3.drew.cell? ⟨k0, 0, none⟩ = some (.int .u8 q.head.toNat) ∧ W3.drew.cell? ⟨k0, 1, none⟩ = some (.slice a0' n0' c0') := ⟨x0, x1, y0, z0, y0', z0'⟩
  refine wpAny_of_T (S := fun X => X.cell? ⟨w.heap.size, 1, none⟩ = some (.slice (some ⟨g0, 0, none⟩) 2 cx) ∧ X.cell? ⟨w.heap.size + 1, 1, none⟩ = some (.slice (some ⟨k0, 0, none⟩) 2 cy) ∧ X.cell? ⟨g0, 0, none⟩ = some (.int .u8 p.head.toNat) ∧ X.cell? ⟨g0, 1, none⟩ = some (.slice a0 n0 c0) ∧ X.cell? ⟨k0, 0, none⟩ = some (.int .u8 q.head.toNat) ∧ X.cell? ⟨k0, 1, none⟩ = some (.slice a0' n0' c0')) (m := 13) _ _ _ _ ?_
  clear x0 x1 y0 z0 y0' z0'
  refine wpAnyT_take (i := 0) (v := .pointer (some ⟨mb, 0, none⟩)) rfl (by kernel_rfl) (by kernel_rfl) (by kernel_rfl) (by kernel_rfl) (fun _ _ _ h => h) (Or.inl ⟨by kernel_rfl, fun X hS => by obtain ⟨e0, e1, e2, e3, e4, e5⟩ := hS; go_simp⟩) SX ?_
  try go_simp
  refine wpAnyT_take (i := 1) (v := .pointer (some ⟨w.heap.size, 1, none⟩)) rfl (by kernel_rfl) (by kernel_rfl) (by kernel_rfl) (by kernel_rfl) (fun _ _ _ h => h) (Or.inl ⟨by kernel_rfl, fun X hS => by obtain ⟨e0, e1, e2, e3, e4, e5⟩ := hS; go_simp⟩) SX ?_
  try go_simp
  refine wpAnyT_take (i := 2) (v := .slice (some ⟨g0, 0, none⟩) 2 cx) rfl (by kernel_rfl) (by kernel_rfl) (by kernel_rfl) (by kernel_rfl) (fun _ _ _ h => h) (Or.inl ⟨by kernel_rfl, fun X hS => by obtain ⟨e0, e1, e2, e3, e4, e5⟩ := hS; go_simp⟩) SX ?_
  try go_simp
  refine wpAnyT_take (i := 3) (v := .int .i64 0) rfl (by kernel_rfl) (by kernel_rfl) (by kernel_rfl) (by kernel_rfl) (fun _ _ _ h => h) (Or.inl ⟨by kernel_rfl, fun X hS => by obtain ⟨e0, e1, e2, e3, e4, e5⟩ := hS; go_simp⟩) SX ?_
  try go_simp
  refine wpAnyT_take (i := 4) (v := .pointer (some ⟨g0, 0, none⟩)) rfl (by kernel_rfl) (by kernel_rfl) (by kernel_rfl) (by kernel_rfl) (fun _ _ _ h => h) (Or.inl ⟨by kernel_rfl, fun X hS => by obtain ⟨e0, e1, e2, e3, e4, e5⟩ := hS; go_simp⟩) SX ?_
  try go_simp
  refine wpAnyT_take (i := 5) (v := .agg #[.int .u8 p.head.toNat, .slice a0 n0 c0]) rfl (by kernel_rfl) (by kernel_rfl) (by kernel_rfl) (by kernel_rfl) (fun _ _ _ h => h) (Or.inl ⟨by kernel_rfl, fun X hS => by obtain ⟨e0, e1, e2, e3, e4, e5⟩ := hS; go_simp⟩) SX ?_
  try go_simp
  refine wpAnyT_take (i := 6) (v := .pointer (some ⟨w.heap.size + 1, 1, none⟩)) rfl (by kernel_rfl) (by kernel_rfl) (by kernel_rfl) (by kernel_rfl) (fun _ _ _ h => h) (Or.inl ⟨by kernel_rfl, fun X hS => by obtain ⟨e0, e1, e2, e3, e4, e5⟩ := hS; go_simp⟩) SX ?_
  try go_simp
  refine wpAnyT_take (i := 7) (v := .slice (some ⟨k0, 0, none⟩) 2 cy) rfl (by kernel_rfl) (by kernel_rfl) (by kernel_rfl) (by kernel_rfl) (fun _ _ _ h => h) (Or.inl ⟨by kernel_rfl, fun X hS => by obtain ⟨e0, e1, e2, e3, e4, e5⟩ := hS; go_simp⟩) SX ?_
  try go_simp
  refine wpAnyT_take (i := 8) (v := .int .i64 0) rfl (by kernel_rfl) (by kernel_rfl) (by kernel_rfl) (by kernel_rfl) (fun _ _ _ h => h) (Or.inl ⟨by kernel_rfl, fun X hS => by obtain ⟨e0, e1, e2, e3, e4, e5⟩ := hS; go_simp⟩) SX ?_
  try go_simp
  refine wpAnyT_take (i := 9) (v := .pointer (some ⟨k0, 0, none⟩)) rfl (by kernel_rfl) (by kernel_rfl) (by kernel_rfl) (by kernel_rfl) (fun _ _ _ h => h) (Or.inl ⟨by kernel_rfl, fun X hS => by obtain ⟨e0, e1, e2, e3, e4, e5⟩ := hS; go_simp⟩) SX ?_
  try go_simp
  refine wpAnyT_take (i := 10) (v := .agg #[.int .u8 q.head.toNat, .slice a0' n0' c0']) rfl (by kernel_rfl) (by kernel_rfl) (by kernel_rfl) (by kernel_rfl) (fun _ _ _ h => h) (Or.inl ⟨by kernel_rfl, fun X hS => by obtain ⟨e0, e1, e2, e3, e4, e5⟩ := hS; go_simp⟩) SX ?_
  try go_simp
  refine wpAnyT_one 11 rfl (by kernel_rfl) (fun K hK => ?_)
  go_simp
  refine (ih a0 n0 c0 a0' n0' c0' w0 W3.drew mb (HM3.out.heap rfl) (show Keeps 0 w0 W3.drew from HK3.out) hmb HN0.out HN0'.out).mono ?_
  rintro e v0 ⟨rfl, hg, hm⟩
  have HGV0 : Hid (W3.grownBy v0 (some mb)) := ⟨hg.os, hg.tape, hg.output, hg.size, hg.block⟩
  have HMV0 := hid hm
  clear hg hm
  have SXv0 : v0.cell? ⟨w.heap.size, 1, none⟩ = some (.slice (some ⟨g0, 0, none⟩) 2 cx) ∧ v0.cell? ⟨w.heap.size + 1, 1, none⟩ = some (.slice (some ⟨k0, 0, none⟩) 2 cy) ∧ v0.cell? ⟨g0, 0, none⟩ = some (.int .u8 p.head.toNat) ∧ v0.cell? ⟨g0, 1, none⟩ = some (.slice a0 n0 c0) ∧ v0.cell? ⟨k0, 0, none⟩ = some (.int .u8 q.head.toNat) ∧ v0.cell? ⟨k0, 1, none⟩ = some (.slice a0' n0' c0') := ⟨cellG HGV0.out (by omega) hmw0 SX.1, cellG HGV0.out (by omega) hmw1 SX.2.1, cellG HGV0.out hgr0 hgm0 SX.2.2.1, cellG HGV0.out hgr0 hgm0 SX.2.2.2.1, cellG HGV0.out hgr1 hgm1 SX.2.2.2.2.1, cellG HGV0.out hgr1 hgm1 SX.2.2.2.2.2⟩
  refine hK _ _ (fun _ => SXv0) ?_
  clear hK K
  clear SX
  refine wpAnyT_take (i := 12) (v := .bool true) rfl (by kernel_rfl) (by kernel_rfl) (by kernel_rfl) (by kernel_rfl) (fun _ _ _ h => h) (Or.inl ⟨by kernel_rfl, fun X hS => by obtain ⟨e0, e1, e2, e3, e4, e5⟩ := hS; go_simp⟩) SXv0 ?_
  try go_simp
  refine wpAnyT_drop _ 13 _ _ _ (by decide) (by kernel_rfl) ?_
  change wpList _ _ _ [] _ _
  clear SXv0
  go_wp2
  go_ret
  exact ⟨rfl, grown_trans HG0.out HGV0.out, fun m' e => by cases e⟩
set_option maxHeartbeats 8000000 in
theorem un_con2s {m : Sg} {a b x y : Ty} {m1 : Sg} {r : Option Sg} {p p2 q q2 : Ty} (hwa : Wk m a x) (hwb : Wk m b y) (hxl : x.head ∉ lts) (he : x.head = y.head) (hpx : x.parts = [p, p2]) (hpy : y.parts = [q, q2]) (i1 : UnAt m p q (some m1)) (i2 : UnAt m1 p2 q2 r) : UnAt m a b r := by
  have hyl : y.head ∉ lts := by rw [← he]; exact hxl
  have HIX : Hid (ix x.head = -1) := by
    rcases ix_cases x.head with ⟨h, -⟩ | ⟨k, hk, -, h⟩
    · exact h
    · exact absurd (List.mem_of_getElem? h) hxl
  have HIY : Hid (ix y.head = -1) := by
    rcases ix_cases y.head with ⟨h, -⟩ | ⟨k, hk, -, h⟩
    · exact h
    · exact absurd (List.mem_of_getElem? h) hyl
  have hhd : ((x.head.toNat : Int) != y.head.toNat) = false := by rw [he]; simp
  clear hxl hyl he
  intro aa na ca ab nb cb w0 w mb hmap hk hmb hna hnb
  have HMAP := hid hmap
  have HK := hid hk
  have HNA := hid hna
  have HNB := hid hnb
  have hlt := hmap.lt
  have hz : w0.heap.size ≤ w.heap.size := by omega
  clear hmap hk hna hnb
  go_enter Try.func54, Try.ntmps54
  go_wp2_with fail
  have HBA : Hid (Below w.heap.size w ((w.alloc (.cells #[.int .u8 a.head.toNat, .slice aa na ca] 70)).alloc (.cells #[.int .u8 b.head.toNat, .slice ab nb cb] 70))) := ((Below.refl _ _).alloc (Nat.le_refl _) _).alloc (by simp) _
  refine (l2Walk_any a x aa na ca w0 _ mb m hwa (HMAP.out.below HBA.out) HNA.out).mono ?_
  rintro e w1 ⟨ax, nx, cx, rfl, hn, hb⟩
  have HNX := hid hn
  have HB1 : Hid (Below w.heap.size w w1) := HBA.out.trans (hb.mono (by simp; omega))
  have HX4 := hid (below_heap hb (by simp; omega) (hb_alloc (heap_alloc_new w (.cells #[.int .u8 a.head.toNat, .slice aa na ca] 70)) (.cells #[.int .u8 b.head.toNat, .slice ab nb cb] 70)))
  have HX5 := hid (below_heap hb (by simp) (heap_alloc2_new w (.cells #[.int .u8 a.head.toNat, .slice aa na ca] 70) (.cells #[.int .u8 b.head.toNat, .slice ab nb cb] 70)))
  have hl1 := lt_of_heap HX5.out
  have b0 := heap_cell HX4.out 0
  have b1 := heap_cell HX4.out 1
  have f0 := heap_free HX4.out 0
  have f1 := heap_free HX4.out 1
  have d0 := heap_cell HX5.out 0
  have d1 := heap_cell HX5.out 1
  have hnx := hid (snode_len hn)
  clear hb hn
  go_wp2_with fail
  have HB1S : Hid (Below w.heap.size w ((w1.setCell ⟨w.heap.size, 0, none⟩ (.int .u8 x.head.toNat)).setCell ⟨w.heap.size, 1, none⟩ (.slice ax nx cx))) := (HB1.out.setCell (Nat.le_refl _) _).setCell (Nat.le_refl _) _
  have HX4S : Hid (((w1.setCell ⟨w.heap.size, 0, none⟩ (.int .u8 x.head.toNat)).setCell ⟨w.heap.size, 1, none⟩ (.slice ax nx cx)).heap[w.heap.size]? = some (.cells #[.int .u8 x.head.toNat, .slice ax nx cx] 70 (0, 0))) := heap_set (heap_set HX4.out 0 _) 1 _
  have HX5S : Hid (((w1.setCell ⟨w.heap.size, 0, none⟩ (.int .u8 x.head.toNat)).setCell ⟨w.heap.size, 1, none⟩ (.slice ax nx cx)).heap[w.heap.size + 1]? = some (.cells #[.int .u8 b.head.toNat, .slice ab nb cb] 70 (0, 0))) := hb_set_ne (hb_set_ne HX5.out _ _ (by show w.heap.size + 1 ≠ w.heap.size; omega)) _ _ (by show w.heap.size + 1 ≠ w.heap.size; omega)
  clear b0 b1 f0 f1 d0 d1 HX4 HX5 hl1
  generalize ((w1.setCell ⟨w.heap.size, 0, none⟩ (.int .u8 x.head.toNat)).setCell ⟨w.heap.size, 1, none⟩ (.slice ax nx cx)) = W1 at *
  refine (l2Walk_any b y ab nb cb w0 W1 mb m hwb (HMAP.out.below HB1S.out) HNB.out).mono ?_
  rintro e w2 ⟨ay, ny, cy, rfl, hn, hb⟩
  have HNY := hid hn
  have hbz1 := HB1S.out.size
  have HB2 : Hid (Below w.heap.size w w2) := HB1S.out.trans (hb.mono hbz1)
  have HX4T := hid (below_heap hb (lt_of_heap HX4S.out) HX4S.out)
  have HX5T := hid (below_heap hb (lt_of_heap HX5S.out) HX5S.out)
  have hl2 := lt_of_heap HX5T.out
  have d0 := heap_cell HX5T.out 0
  have d1 := heap_cell HX5T.out 1
  have f0 := heap_free HX5T.out 0
  have f1 := heap_free HX5T.out 1
  have b0 := heap_cell HX4T.out 0
  have hny := hid (snode_len hn)
  clear hb hn
  go_wp2_with fail
  have HB2S : Hid (Below w.heap.size w ((w2.setCell ⟨w.heap.size + 1, 0, none⟩ (.int .u8 y.head.toNat)).setCell ⟨w.heap.size + 1, 1, none⟩ (.slice ay ny cy))) := (HB2.out.setCell (by show w.heap.size ≤ w.heap.size + 1; omega) _).setCell (by show w.heap.size ≤ w.heap.size + 1; omega) _
  have HX5U : Hid (((w2.setCell ⟨w.heap.size + 1, 0, none⟩ (.int .u8 y.head.toNat)).setCell ⟨w.heap.size + 1, 1, none⟩ (.slice ay ny cy)).heap[w.heap.size + 1]? = some (.cells #[.int .u8 y.head.toNat, .slice ay ny cy] 70 (0, 0))) := heap_set (heap_set HX5T.out 0 _) 1 _
  have HX4U : Hid (((w2.setCell ⟨w.heap.size + 1, 0, none⟩ (.int .u8 y.head.toNat)).setCell ⟨w.heap.size + 1, 1, none⟩ (.slice ay ny cy)).heap[w.heap.size]? = some (.cells #[.int .u8 x.head.toNat, .slice ax nx cx] 70 (0, 0))) := hb_set_ne (hb_set_ne HX4T.out _ _ (by show w.heap.size ≠ w.heap.size + 1; omega)) _ _ (by show w.heap.size ≠ w.heap.size + 1; omega)
  clear b0 d0 d1 f0 f1 HX4T HX5T HX4S HX5S hl2
  generalize ((w2.setCell ⟨w.heap.size + 1, 0, none⟩ (.int .u8 y.head.toNat)).setCell ⟨w.heap.size + 1, 1, none⟩ (.slice ay ny cy)) = W2 at *
  have hbz2 := HB2S.out.size
  have hl2 := lt_of_heap HX5U.out
  have b0 := heap_cell HX4U.out 0
  have d0 := heap_cell HX5U.out 0
  go_quiet ((go_at_call 56; exact Calls.quiet_of_same (l2Index_q _ _)))
  rw [HIX.out, HIY.out]
  have HB3 : Hid (Below w.heap.size w (W2.drewN nq)) := below_drewN HB2S.out _
  have HX4 : Hid ((W2.drewN nq).heap[w.heap.size]? = some (.cells #[.int .u8 x.head.toNat, .slice ax nx cx] 70 (0, 0))) := (heap_drewN _ _ _).trans HX4U.out
  have HX5 : Hid ((W2.drewN nq).heap[w.heap.size + 1]? = some (.cells #[.int .u8 y.head.toNat, .slice ay ny cy] 70 (0, 0))) := (heap_drewN _ _ _).trans HX5U.out
  clear b0 d0 HX4U HX5U hl2 hbz2
  generalize W2.drewN nq = W3 at *
  have hbz3 := HB3.out.size
  have hl3 := lt_of_heap HX5.out
  have HM3 := hid (HMAP.out.below HB3.out)
  have HK3 : Hid (Keeps 0 w0 W3) := keeps_belowW HK.out HB3.out hz
  have b0 := heap_cell HX4.out 0
  have b1 := heap_cell HX4.out 1
  have d0 := heap_cell HX5.out 0
  have d1 := heap_cell HX5.out 1
  obtain rfl : nx = 2 := by rw [hnx.out, hpx]; rfl
  obtain rfl : ny = 2 := by rw [hny.out, hpy]; rfl
  clear hnx hny
  go_wp2_with fail
  clear b0 d0
  refine wp_loop_rounds 3 ?_
  have HG0 : Hid (w.grownBy W3 (some mb)) := gb HB3.out _
  obtain ⟨g0, a0, n0, c0, eg0, hg0, y0, z0, hn0⟩ := part_at (j := 0) (u := p) HNX.out HK3.out (by rw [hpx]; rfl) (by have := HG0.out.size; omega)
  obtain ⟨k0, a0', n0', c0', ek0, hk0, y0', z0', hn0'⟩ := part_at (j := 0) (u := q) HNY.out HK3.out (by rw [hpy]; rfl) (by have := HG0.out.size; omega)
  subst eg0 ek0
  have HN0 := hid hn0
  have HN0' := hid hn0'
  have hbz0x := HG0.out.size
  have hlx0 := lt_of_heap HX5.out
  have x0 := heap_cell HX4.out 1
  have x1 := heap_cell HX5.out 1
  have hgr0 : g0 < W3.heap.size := by omega
  have hgr1 : k0 < W3.heap.size := by omega
  have hgm0 : g0 ≠ mb := by omega
  have hgm1 : k0 ≠ mb := by omega
  have hmw0 : w.heap.size ≠ mb := by omega
  have hmw1 : w.heap.size + 1 ≠ mb := by omega
  clear hn0 hn0'
  simp only [Nat.zero_mul, Nat.zero_add] at y0 z0 y0' z0'
  rw [rounds_succ]
  clear b1 d1
  go_wp2_with fail
  refine wp_region_any (by kernel_rfl) ?_
  change wpAny _ _ _ _ _ _ _ (World.drew _)
  have SX : W3.drew.cell? ⟨w.heap.size, 1, none⟩ = some (.slice (some ⟨g0, 0, none⟩) 2 cx) ∧ W3.drew.cell? ⟨w.heap.size + 1, 1, none⟩ = some (.slice (some ⟨k0, 0, none⟩) 2 cy) ∧ W3.drew.cell? ⟨g0, 0, none⟩ = some (.int .u8 p.head.toNat) ∧ W3.drew.cell? ⟨g0, 1, none⟩ = some (.slice a0 n0 c0) ∧ W3.drew.cell? ⟨k0, 0, none⟩ = some (.int .u8 q.head.toNat) ∧ W3.drew.cell? ⟨k0, 1, none⟩ = some (.slice a0' n0' c0') := ⟨x0, x1, y0, z0, y0', z0'⟩
  refine wpAny_of_T (S := fun X => X.cell? ⟨w.heap.size, 1, none⟩ = some (.slice (some ⟨g0, 0, none⟩) 2 cx) ∧ X.cell? ⟨w.heap.size + 1, 1, none⟩ = some (.slice (some ⟨k0, 0, none⟩) 2 cy) ∧ X.cell? ⟨g0, 0, none⟩ = some (.int .u8 p.head.toNat) ∧ X.cell? ⟨g0, 1, none⟩ = some (.slice a0 n0 c0) ∧ X.cell? ⟨k0, 0, none⟩ = some (.int .u8 q.head.toNat) ∧ X.cell? ⟨k0, 1, none⟩ = some (.slice a0' n0' c0')) (m := 13) _ _ _ _ ?_
  clear x0 x1 y0 z0 y0' z0'
  refine wpAnyT_take (i := 0) (v := .pointer (some ⟨mb, 0, none⟩)) rfl (by kernel_rfl) (by kernel_rfl) (by kernel_rfl) (by kernel_rfl) (fun _ _ _ h => h) (Or.inl ⟨by kernel_rfl, fun X hS => by obtain ⟨e0, e1, e2, e3, e4, e5⟩ := hS; go_simp⟩) SX ?_
  try go_simp
  refine wpAnyT_take (i := 1) (v := .pointer (some ⟨w.heap.size, 1, none⟩)) rfl (by kernel_rfl) (by kernel_rfl) (by kernel_rfl) (by kernel_rfl) (fun _ _ _ h => h) (Or.inl ⟨by kernel_rfl, fun X hS => by obtain ⟨e0, e1, e2, e3, e4, e5⟩ := hS; go_simp⟩) SX ?_
  try go_simp
  refine wpAnyT_take (i := 2) (v := .slice (some ⟨g0, 0, none⟩) 2 cx) rfl (by kernel_rfl) (by kernel_rfl) (by kernel_rfl) (by kernel_rfl) (fun _ _ _ h => h) (Or.inl ⟨by kernel_rfl, fun X hS => by obtain ⟨e0, e1, e2, e3, e4, e5⟩ := hS; go_simp⟩) SX ?_
  try go_simp
  refine wpAnyT_take (i := 3) (v := .int .i64 0) rfl (by kernel_rfl) (by kernel_rfl) (by kernel_rfl) (by kernel_rfl) (fun _ _ _ h => h) (Or.inl ⟨by kernel_rfl, fun X hS => by obtain ⟨e0, e1, e2, e3, e4, e5⟩ := hS; go_simp⟩) SX ?_
  try go_simp
  refine wpAnyT_take (i := 4) (v := .pointer (some ⟨g0, 0, none⟩)) rfl (by kernel_rfl) (by kernel_rfl) (by kernel_rfl) (by kernel_rfl) (fun _ _ _ h => h) (Or.inl ⟨by kernel_rfl, fun X hS => by obtain ⟨e0, e1, e2, e3, e4, e5⟩ := hS; go_simp⟩) SX ?_
  try go_simp
  refine wpAnyT_take (i := 5) (v := .agg #[.int .u8 p.head.toNat, .slice a0 n0 c0]) rfl (by kernel_rfl) (by kernel_rfl) (by kernel_rfl) (by kernel_rfl) (fun _ _ _ h => h) (Or.inl ⟨by kernel_rfl, fun X hS => by obtain ⟨e0, e1, e2, e3, e4, e5⟩ := hS; go_simp⟩) SX ?_
  try go_simp
  refine wpAnyT_take (i := 6) (v := .pointer (some ⟨w.heap.size + 1, 1, none⟩)) rfl (by kernel_rfl) (by kernel_rfl) (by kernel_rfl) (by kernel_rfl) (fun _ _ _ h => h) (Or.inl ⟨by kernel_rfl, fun X hS => by obtain ⟨e0, e1, e2, e3, e4, e5⟩ := hS; go_simp⟩) SX ?_
  try go_simp
  refine wpAnyT_take (i := 7) (v := .slice (some ⟨k0, 0, none⟩) 2 cy) rfl (by kernel_rfl) (by kernel_rfl) (by kernel_rfl) (by kernel_rfl) (fun _ _ _ h => h) (Or.inl ⟨by kernel_rfl, fun X hS => by obtain ⟨e0, e1, e2, e3, e4, e5⟩ := hS; go_simp⟩) SX ?_
  try go_simp
  refine wpAnyT_take (i := 8) (v := .int .i64 0) rfl (by kernel_rfl) (by kernel_rfl) (by kernel_rfl) (by kernel_rfl) (fun _ _ _ h => h) (Or.inl ⟨by kernel_rfl, fun X hS => by obtain ⟨e0, e1, e2, e3, e4, e5⟩ := hS; go_simp⟩) SX ?_
  try go_simp
  refine wpAnyT_take (i := 9) (v := .pointer (some ⟨k0, 0, none⟩)) rfl (by kernel_rfl) (by kernel_rfl) (by kernel_rfl) (by kernel_rfl) (fun _ _ _ h => h) (Or.inl ⟨by kernel_rfl, fun X hS => by obtain ⟨e0, e1, e2, e3, e4, e5⟩ := hS; go_simp⟩) SX ?_
  try go_simp
  refine wpAnyT_take (i := 10) (v := .agg #[.int .u8 q.head.toNat, .slice a0' n0' c0']) rfl (by kernel_rfl) (by kernel_rfl) (by kernel_rfl) (by kernel_rfl) (fun _ _ _ h => h) (Or.inl ⟨by kernel_rfl, fun X hS => by obtain ⟨e0, e1, e2, e3, e4, e5⟩ := hS; go_simp⟩) SX ?_
  try go_simp
  refine wpAnyT_one 11 rfl (by kernel_rfl) (fun K hK => ?_)
  go_simp
  refine (i1 a0 n0 c0 a0' n0' c0' w0 W3.drew mb (HM3.out.heap rfl) (show Keeps 0 w0 W3.drew from HK3.out) hmb HN0.out HN0'.out).mono ?_
  rintro e v0 ⟨rfl, hg, hm⟩
  have HGV0 : Hid (W3.grownBy v0 (some mb)) := ⟨hg.os, hg.tape, hg.output, hg.size, hg.block⟩
  have HMV0 := hid hm
  clear hg hm
  have SXv0 : v0.cell? ⟨w.heap.size, 1, none⟩ = some (.slice (some ⟨g0, 0, none⟩) 2 cx) ∧ v0.cell? ⟨w.heap.size + 1, 1, none⟩ = some (.slice (some ⟨k0, 0, none⟩) 2 cy) ∧ v0.cell? ⟨g0, 0, none⟩ = some (.int .u8 p.head.toNat) ∧ v0.cell? ⟨g0, 1, none⟩ = some (.slice a0 n0 c0) ∧ v0.cell? ⟨k0, 0, none⟩ = some (.int .u8 q.head.toNat) ∧ v0.cell? ⟨k0, 1, none⟩ = some (.slice a0' n0' c0') := ⟨cellG HGV0.out (by omega) hmw0 SX.1, cellG HGV0.out (by omega) hmw1 SX.2.1, cellG HGV0.out hgr0 hgm0 SX.2.2.1, cellG HGV0.out hgr0 hgm0 SX.2.2.2.1, cellG HGV0.out hgr1 hgm1 SX.2.2.2.2.1, cellG HGV0.out hgr1 hgm1 SX.2.2.2.2.2⟩
  refine hK _ _ (fun _ => SXv0) ?_
  clear hK K
  clear SX
  refine wpAnyT_take (i := 12) (v := .bool false) rfl (by kernel_rfl) (by kernel_rfl) (by kernel_rfl) (by kernel_rfl) (fun _ _ _ h => h) (Or.inl ⟨by kernel_rfl, fun X hS => by obtain ⟨e0, e1, e2, e3, e4, e5⟩ := hS; go_simp⟩) SXv0 ?_
  try go_simp
  refine wpAnyT_drop _ 13 _ _ _ (by decide) (by kernel_rfl) ?_
  change wpList _ _ _ [] _ _
  clear SXv0
  go_wp2
  have HG0n : Hid (w.grownBy v0 (some mb)) := grown_trans HG0.out HGV0.out
  have HX40 := hid (grown_keep HGV0.out HX4.out (by simp; omega))
  have HX50 := hid (grown_keep HGV0.out HX5.out (by simp; omega))
  have HK0n : Hid (Keeps 0 w0 v0) := keeps_grownM HK3.out HGV0.out hmb (by omega)
  have HM0n := hid (HMV0.out m1 rfl)
  go_wp2_with fail
  obtain ⟨g1, a1, n1, c1, eg1, hg1, y1, z1, hn1⟩ := part_at (j := 1) (u := p2) HNX.out HK0n.out (by rw [hpx]; rfl) (by have := HG0n.out.size; omega)
  obtain ⟨k1, a1', n1', c1', ek1, hk1, y1', z1', hn1'⟩ := part_at (j := 1) (u := q2) HNY.out HK0n.out (by rw [hpy]; rfl) (by have := HG0n.out.size; omega)
  cases eg1; cases ek1
  have HN1 := hid hn1
  have HN1' := hid hn1'
  have hbz1x := HG0n.out.size
  have hlx1 := lt_of_heap HX50.out
  have x0 := heap_cell HX40.out 1
  have x1 := heap_cell HX50.out 1
  have hgr0 : g0 < v0.heap.size := by omega
  have hgr1 : k0 < v0.heap.size := by omega
  have hgm0 : g0 ≠ mb := by omega
  have hgm1 : k0 ≠ mb := by omega
  have hmw0 : w.heap.size ≠ mb := by omega
  have hmw1 : w.heap.size + 1 ≠ mb := by omega
  clear hn1 hn1'
  skip
  rw [rounds_succ]
  skip
  go_wp2_with fail
  refine wp_region_any (by kernel_rfl) ?_
  change wpAny _ _ _ _ _ _ _ (World.drew _)
  have SX : v0.drew.cell? ⟨w.heap.size, 1, none⟩ = some (.slice (some ⟨g0, 0, none⟩) 2 cx) ∧ v0.drew.cell? ⟨w.heap.size + 1, 1, none⟩ = some (.slice (some ⟨k0, 0, none⟩) 2 cy) ∧ v0.drew.cell? ⟨g0, 2, none⟩ = some (.int .u8 p2.head.toNat) ∧ v0.drew.cell? ⟨g0, 3, none⟩ = some (.slice a1 n1 c1) ∧ v0.drew.cell? ⟨k0, 2, none⟩ = some (.int .u8 q2.head.toNat) ∧ v0.drew.cell? ⟨k0, 3, none⟩ = some (.slice a1' n1' c1') := ⟨x0, x1, y1, z1, y1', z1'⟩
  refine wpAny_of_T (S := fun X => X.cell? ⟨w.heap.size, 1, none⟩ = some (.slice (some ⟨g0, 0, none⟩) 2 cx) ∧ X.cell? ⟨w.heap.size + 1, 1, none⟩ = some (.slice (some ⟨k0, 0, none⟩) 2 cy) ∧ X.cell? ⟨g0, 2, none⟩ = some (.int .u8 p2.head.toNat) ∧ X.cell? ⟨g0, 3, none⟩ = some (.slice a1 n1 c1) ∧ X.cell? ⟨k0, 2, none⟩ = some (.int .u8 q2.head.toNat) ∧ X.cell? ⟨k0, 3, none⟩ = some (.slice a1' n1' c1')) (m := 13) _ _ _ _ ?_
  clear x0 x1 y1 z1 y1' z1'
  refine wpAnyT_take (i := 0) (v := .pointer (some ⟨mb, 0, none⟩)) rfl (by kernel_rfl) (by kernel_rfl) (by kernel_rfl) (by kernel_rfl) (fun _ _ _ h => h) (Or.inl ⟨by kernel_rfl, fun X hS => by obtain ⟨e0, e1, e2, e3, e4, e5⟩ := hS; go_simp⟩) SX ?_
  try go_simp
  refine wpAnyT_take (i := 1) (v := .pointer (some ⟨w.heap.size, 1, none⟩)) rfl (by kernel_rfl) (by kernel_rfl) (by kernel_rfl) (by kernel_rfl) (fun _ _ _ h => h) (Or.inl ⟨by kernel_rfl, fun X hS => by obtain ⟨e0, e1, e2, e3, e4, e5⟩ := hS; go_simp⟩) SX ?_
  try go_simp
  refine wpAnyT_take (i := 2) (v := .slice (some ⟨g0, 0, none⟩) 2 cx) rfl (by kernel_rfl) (by kernel_rfl) (by kernel_rfl) (by kernel_rfl) (fun _ _ _ h => h) (Or.inl ⟨by kernel_rfl, fun X hS => by obtain ⟨e0, e1, e2, e3, e4, e5⟩ := hS; go_simp⟩) SX ?_
  try go_simp
  refine wpAnyT_take (i := 3) (v := .int .i64 1) rfl (by kernel_rfl) (by kernel_rfl) (by kernel_rfl) (by kernel_rfl) (fun _ _ _ h => h) (Or.inl ⟨by kernel_rfl, fun X hS => by obtain ⟨e0, e1, e2, e3, e4, e5⟩ := hS; go_simp⟩) SX ?_
  try go_simp
  refine wpAnyT_take (i := 4) (v := .pointer (some ⟨g0, 2, none⟩)) rfl (by kernel_rfl) (by kernel_rfl) (by kernel_rfl) (by kernel_rfl) (fun _ _ _ h => h) (Or.inl ⟨by kernel_rfl, fun X hS => by obtain ⟨e0, e1, e2, e3, e4, e5⟩ := hS; go_simp⟩) SX ?_
  try go_simp
  refine wpAnyT_take (i := 5) (v := .agg #[.int .u8 p2.head.toNat, .slice a1 n1 c1]) rfl (by kernel_rfl) (by kernel_rfl) (by kernel_rfl) (by kernel_rfl) (fun _ _ _ h => h) (Or.inl ⟨by kernel_rfl, fun X hS => by obtain ⟨e0, e1, e2, e3, e4, e5⟩ := hS; go_simp⟩) SX ?_
  try go_simp
  refine wpAnyT_take (i := 6) (v := .pointer (some ⟨w.heap.size + 1, 1, none⟩)) rfl (by kernel_rfl) (by kernel_rfl) (by kernel_rfl) (by kernel_rfl) (fun _ _ _ h => h) (Or.inl ⟨by kernel_rfl, fun X hS => by obtain ⟨e0, e1, e2, e3, e4, e5⟩ := hS; go_simp⟩) SX ?_
  try go_simp
  refine wpAnyT_take (i := 7) (v := .slice (some ⟨k0, 0, none⟩) 2 cy) rfl (by kernel_rfl) (by kernel_rfl) (by kernel_rfl) (by kernel_rfl) (fun _ _ _ h => h) (Or.inl ⟨by kernel_rfl, fun X hS => by obtain ⟨e0, e1, e2, e3, e4, e5⟩ := hS; go_simp⟩) SX ?_
  try go_simp
  refine wpAnyT_take (i := 8) (v := .int .i64 1) rfl (by kernel_rfl) (by kernel_rfl) (by kernel_rfl) (by kernel_rfl) (fun _ _ _ h => h) (Or.inl ⟨by kernel_rfl, fun X hS => by obtain ⟨e0, e1, e2, e3, e4, e5⟩ := hS; go_simp⟩) SX ?_
  try go_simp
  refine wpAnyT_take (i := 9) (v := .pointer (some ⟨k0, 2, none⟩)) rfl (by kernel_rfl) (by kernel_rfl) (by kernel_rfl) (by kernel_rfl) (fun _ _ _ h => h) (Or.inl ⟨by kernel_rfl, fun X hS => by obtain ⟨e0, e1, e2, e3, e4, e5⟩ := hS; go_simp⟩) SX ?_
  try go_simp
  refine wpAnyT_take (i := 10) (v := .agg #[.int .u8 q2.head.toNat, .slice a1' n1' c1']) rfl (by kernel_rfl) (by kernel_rfl) (by kernel_rfl) (by kernel_rfl) (fun _ _ _ h => h) (Or.inl ⟨by kernel_rfl, fun X hS => by obtain ⟨e0, e1, e2, e3, e4, e5⟩ := hS; go_simp⟩) SX ?_
  try go_simp
  refine wpAnyT_one 11 rfl (by kernel_rfl) (fun K hK => ?_)
  go_simp
  refine (i2 a1 n1 c1 a1' n1' c1' w0 v0.drew mb (HM0n.out.heap rfl) (show Keeps 0 w0 v0.drew from HK0n.out) hmb HN1.out HN1'.out).mono ?_
  rintro e v1 ⟨rfl, hg, hm⟩
  have HGV1 : Hid (v0.grownBy v1 (some mb)) := ⟨hg.os, hg.tape, hg.output, hg.size, hg.block⟩
  have HMV1 := hid hm
  clear hg hm
  have SXv1 : v1.cell? ⟨w.heap.size, 1, none⟩ = some (.slice (some ⟨g0, 0, none⟩) 2 cx) ∧ v1.cell? ⟨w.heap.size + 1, 1, none⟩ = some (.slice (some ⟨k0, 0, none⟩) 2 cy) ∧ v1.cell? ⟨g0, 2, none⟩ = some (.int .u8 p2.head.toNat) ∧ v1.cell? ⟨g0, 3, none⟩ = some (.slice a1 n1 c1) ∧ v1.cell? ⟨k0, 2, none⟩ = some (.int .u8 q2.head.toNat) ∧ v1.cell? ⟨k0, 3, none⟩ = some (.slice a1' n1' c1') := ⟨cellG HGV1.out (by omega) hmw0 SX.1, cellG HGV1.out (by omega) hmw1 SX.2.1, cellG HGV1.out hgr0 hgm0 SX.2.2.1, cellG HGV1.out hgr0 hgm0 SX.2.2.2.1, cellG HGV1.out hgr1 hgm1 SX.2.2.2.2.1, cellG HGV1.out hgr1 hgm1 SX.2.2.2.2.2⟩
  refine hK _ _ (fun _ => SXv1) ?_
  clear hK K
  clear SX
  cases r with
  | none =>
    refine wpAnyT_take (i := 12) (v := .bool true) rfl (by kernel_rfl) (by kernel_rfl) (by kernel_rfl) (by kernel_rfl) (fun _ _ _ h => h) (Or.inl ⟨by kernel_rfl, fun X hS => by obtain ⟨e0, e1, e2, e3, e4, e5⟩ := hS; go_simp⟩) SXv1 ?_
    try go_simp
    refine wpAnyT_drop _ 13 _ _ _ (by decide) (by kernel_rfl) ?_
    change wpList _ _ _ [] _ _
    clear SXv1
    go_wp2
    go_ret
    exact ⟨rfl, grown_trans HG0n.out HGV1.out, fun m' e => by cases e⟩
  | some mr =>
    refine wpAnyT_take (i := 12) (v := .bool false) rfl (by kernel_rfl) (by kernel_rfl) (by kernel_rfl) (by kernel_rfl) (fun _ _ _ h => h) (Or.inl ⟨by kernel_rfl, fun X hS => by obtain ⟨e0, e1, e2, e3, e4, e5⟩ := hS; go_simp⟩) SXv1 ?_
    try go_simp
    refine wpAnyT_drop _ 13 _ _ _ (by decide) (by kernel_rfl) ?_
    change wpList _ _ _ [] _ _
    clear SXv1
    go_wp2
    go_wp2_with fail
    rw [rounds_succ]
    go_wp2_with fail
    go_ret
    exact ⟨rfl, grown_trans HG0n.out HGV1.out, HMV1.out⟩
theorem l2Unify_any {m : Sg} {a b : Ty} {r : Option Sg} (h : Un m a b r) : TWm m → TW a → TW b → UnAt m a b r := by
  induction h with
  | same ha hb hl he => intro _ _ _; exact un_same ha hb hl he
  | bind ha hb hne hf ho => intro hm _ htb; exact un_bind ha hb hne hf (wk_tw hm hb htb) (l2Occurs_any ho)
  | occ ha hb hne hf ho => intro _ _ _; exact un_occ ha hb hne hf (l2Occurs_any ho)
  | swap ha hb hne hf hl _ ih => intro hm hta htb; exact un_swap ha hb hne hf hl (ih hm (wk_tw hm hb htb) (wk_tw hm ha hta))
  | clash ha hb h1 h2 hne => intro _ _ _; exact un_clash ha hb h1 h2 hne
  | con0 ha hb h1 he hp hq => intro _ _ _; exact un_con0 ha hb h1 he hp hq
  | con1 ha hb h1 he hp hq _ ih => intro hm hta htb; exact un_con1 ha hb h1 he hp hq (ih hm (tw_parts (wk_tw hm ha hta) (by rw [hp]; simp)) (tw_parts (wk_tw hm hb htb) (by rw [hq]; simp)))
  | con2n ha hb h1 he hp hq _ ih => intro hm hta htb; exact un_con2n ha hb h1 he hp hq (ih hm (tw_parts (wk_tw hm ha hta) (by rw [hp]; simp)) (tw_parts (wk_tw hm hb htb) (by rw [hq]; simp)))
  | con2s ha hb h1 he hp hq hu _ i1 i2 =>
    intro hm hta htb
    have tp := tw_parts (u := _) (wk_tw hm ha hta) (by rw [hp]; exact List.mem_cons_self)
    have tq := tw_parts (u := _) (wk_tw hm hb htb) (by rw [hq]; exact List.mem_cons_self)
    exact un_con2s ha hb h1 he hp hq (i1 hm tp tq) (i2 (un_tw hu hm tp tq _ rfl) (tw_parts (wk_tw hm ha hta) (by rw [hp]; simp)) (tw_parts (wk_tw hm hb htb) (by rw [hq]; simp)))
end UniS
end Go.Proofs.Ytcjalnianamlaaa
