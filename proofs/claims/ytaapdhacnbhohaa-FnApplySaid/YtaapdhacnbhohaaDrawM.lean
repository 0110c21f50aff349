/- The draws of numbers, of heads with parts; the laws' comparison of lists of texts. Conditions: those typed. -/
import Derived.Test.YtaapdhacnbhohaaDrawV
import Derived.Test.YtaapdhacnbhohaaVarsI
set_option linter.unusedVariables false
set_option linter.unusedSimpArgs false
set_option maxRecDepth 100000
namespace Go.Proofs.Ytaapdhacnbhohaa
open Go.RowKit ListS
namespace Draw
def okN (hi : Nat) (cs : List Value) : Bool := cs.all fun v => match v with | .int .i64 x => decide (0 ≤ x) && decide (x ≤ hi) | _ => false
theorem okN_mem {hi : Nat} {cs : List Value} (h : okN hi cs = true) {u : Value} (hu : u ∈ cs) : ∃ k : Nat, u = .int .i64 k ∧ k ≤ hi := by
  have h1 := List.all_eq_true.1 h u hu
  split at h1
  · rename_i x
    simp only [Bool.and_eq_true, decide_eq_true_eq] at h1
    exact ⟨x.toNat, by rw [Int.toNat_of_nonneg h1.1], by omega⟩
  · simp at h1
theorem num_any (a q g n hi : Nat) (cs : Array Value) (w : World) (hq : q ≤ 100000) (h0 : 0 < n) (hs : n ≤ 1000) (hn : cs.size = n) (hg : w.heap[g]? = some (.cells cs 3 (0, 0))) (hok : okN hi cs.toList = true) (h : RD w a q) :
    Calls Try.prog 64 #[.pointer (some ⟨a, 0, none⟩), .slice (some ⟨g, 0, none⟩) n n] w fun e w' => ∃ k : Nat, e = .returned (.int .i64 k) ∧ k ≤ hi ∧ RD w' a (q + 1) ∧ w.grownBy w' (some a) := by
  have HG := hid hg
  have hne : g ≠ a := by
    obtain ⟨v, xs, p, h1, -⟩ := h
    exact heap_ne hg h1 (by decide)
  have HN := hid hn
  have HOK := hid hok
  clear hg hn hok
  go_enter Try.func64, Try.ntmps64
  go_wp2_with fail
  refine (pick_any a q n w h0 (by omega) (by omega) h).mono ?_
  rintro e w1 ⟨i, hi, rfl, hr, hgr⟩
  have hk := grown_keep hgr HG.out (by simp; omega)
  have hc : w1.cell? ⟨g, i, none⟩ = some (cs[i]'(by have := HN.out; omega)) := by rw [heap_cell hk, Array.getElem?_eq_getElem (by have := HN.out; omega)]
  obtain ⟨k, hk1, hk2⟩ := okN_mem HOK.out (show (cs[i]'(by have := HN.out; omega)) ∈ cs.toList by simp)
  rw [hk1] at hc
  have HR := hid hr
  have HGR := hid hgr
  clear hk hr hgr hk1
  go_wp2
  go_ret
  exact ⟨k, rfl, hk2, HR.out, HGR.out⟩
theorem RD.row {w w' : World} {a q base size n : Nat} {e : TypeId} {v : Value} {xs : List Value} (h : RD w a q) (ho : w.ownsRow base e size v n xs) (hne : e ≠ 106) (hg : w.grownBy w' (some a)) : w'.ownsRow base e size v n xs := by
  refine row_grown hg ho fun g hg1 hg2 => ?_
  obtain rfl : a = g := by simpa using hg2
  obtain ⟨v', ys, p, h1, -⟩ := h
  rcases ho.2 with ⟨rfl, -⟩ | ⟨g', cap, cur, rfl, hb, hgg, rest⟩
  · simp [Value.ownBlock] at hg1
  · simp [Value.ownBlock] at hg1
    subst hg1
    rw [h1] at hgg
    cases hgg
    exact hne rfl
set_option maxHeartbeats 4000000 in
theorem DrawMakeType_any (v : Value) (xs0 : List Int) (w : World) (h : SB w v xs0) : Calls Try.prog 28 #[v] w fun e w' => ∃ (s : ByteArray) (xs : List ByteArray) (g c : Nat), e = .returned (.tuple #[.string s, .slice (some ⟨g, 0, none⟩) xs.length c]) ∧ s.size ≤ 2 ∧ xs.length ≤ 3 ∧ (∀ x ∈ xs, x.size ≤ 40) ∧ w'.ownsRow w.heap.size 9 1 (.slice (some ⟨g, 0, none⟩) xs.length c) xs.length (strs xs) ∧ Below w.heap.size w w' := by
  go_enter Try.func28, Try.ntmps28
  go_wp2_with fail
  refine (open_any v xs0 w h).mono ?_
  rintro e w1 ⟨a, rfl, ha, hr, hb⟩
  have HR1 := hid hr
  have HB1 := hid hb
  clear hr hb
  go_wp2_with fail
  refine (ofS_any a 0 w1.heap.size 8 0 2 _ _ (by decide) (by decide) (by decide) rfl (heap_alloc_new w1 _) (by decide) (HR1.out.below ((Below.refl _ _).alloc (Nat.le_refl _) _))).mono ?_
  rintro e w2 ⟨s, rfl, h1, h2, hr, hgr⟩
  have hsz2 := hgr.size
  simp only [World.size_alloc] at hsz2
  have HR2 := hid hr
  have HB2 : Hid (Below w.heap.size w w2) := (HB1.out.alloc HB1.out.size _).grown hgr (by have := HB1.out.size; simp; omega) (fun g hg => by cases hg; exact ha)
  have hal := HR1.out.lt
  have hws := HB1.out.size
  clear hr hgr
  have HO2 : Hid ((w2.alloc (.cells #[] 9)).ownsRow (a + 1) 9 1 (.slice (some ⟨w2.heap.size, 0, none⟩) 0 0) 0 []) := by
    have h := World.ownsRow_made (base := a + 1) (e := 9) (size := 1) w2 #[] 0 (by omega) (by simp [maxLen]) rfl
    show World.ownsRow _ _ _ _ _ _ _
    simpa using h
  go_wp2_with fail
  have HR3 : Hid (RD (w2.alloc (.cells #[] 9)) a 1) := HR2.out.below ((Below.refl _ _).alloc (Nat.le_refl _) _)
  have HB3 : Hid (Below w.heap.size w (w2.alloc (.cells #[] 9))) := HB2.out.alloc HB2.out.size _
  have hz3 : (w2.alloc (.cells #[] 9)).heap.size = w2.heap.size + 1 := by simp
  obtain ⟨g2, hg2⟩ : ∃ g, g = w2.heap.size := ⟨_, rfl⟩
  rw [← hg2] at HO2 hz3
  rw [← hg2]
  clear hg2 HR1 HB1 HR2 HB2
  generalize w2.alloc (.cells #[] 9) = w3 at *
  rw [← hz3]
  refine (num_any a 1 w3.heap.size 5 3 _ _ (by decide) (by decide) (by decide) rfl (heap_alloc_new w3 _) (by decide) (HR3.out.below ((Below.refl _ _).alloc (Nat.le_refl _) _))).mono ?_
  rintro e w4 ⟨n, rfl, hn, hr, hgr⟩
  have HR4 := hid hr
  have HB4 : Hid (Below w.heap.size w w4) := (HB3.out.alloc HB3.out.size _).grown hgr (by have := HB3.out.size; simp; omega) (fun g hg => by cases hg; exact ha)
  have HO4 : Hid (w4.ownsRow (a + 1) 9 1 (.slice (some ⟨g2, 0, none⟩) 0 0) 0 []) := (HR3.out.below ((Below.refl _ _).alloc (Nat.le_refl _) _)).row (World.ownsRow.alloc HO2.out _) (by decide) hgr
  clear hr hgr HO2 HR3 HB3
  go_wp2_with fail
  go_loopg [6, 16] n (fun q o i wr => ∃ (k g c : Nat) (xs : List ByteArray), k ≤ n ∧ n - k ≤ q ∧ i = .int .i64 k ∧ o = .slice (some ⟨g, 0, none⟩) k c ∧ Hid (xs.length = k) ∧ Hid (∀ x ∈ xs, x.size ≤ 40) ∧ Hid (wr.ownsRow (a + 1) 9 1 (.slice (some ⟨g, 0, none⟩) k c) k (strs xs)) ∧ Hid (RD wr a (2 + 60 * k)) ∧ Below w.heap.size w wr)
  case atStart => exact ⟨0, g2, 0, [], Nat.zero_le _, by simp, rfl, rfl, rfl, (by show ∀ x ∈ _, _; simp), HO4.out, HR4.out, HB4.out⟩
  case round =>
    clear HO4 HR4 HB4
    obtain ⟨k, g, c, xs, hk, hq, rfl, rfl, hxl, hxs, hrow, hrd, hb⟩ := hrel
    have HXL := hid hxl.out
    have HXS := hid hxs.out
    have HO := hid hrow.out
    have HR := hid hrd.out
    have HB := hid hb
    have hbz := hb.size
    clear hxl hxs hrow hrd hb
    by_cases hlt : k < n
    · go_wp2_with fail
      refine (l1Any_any a (2 + 60 * k) wr (by omega) HR.out).mono ?_
      rintro e w5 ⟨u, rfl, -, hu, hr, hgr⟩
      have HR5 := hid hr
      have HO5 := hid (HR.out.row HO.out (by decide) hgr)
      have HB5 : Hid (Below w.heap.size w w5) := HB.out.grown hgr hbz (fun g hg => by cases hg; exact ha)
      have hz5 := hgr.size
      have har := HR.out.lt
      clear hr hgr
      obtain ⟨xv, hxv⟩ : ∃ xv, xv = strs xs := ⟨_, rfl⟩
      rw [← hxv] at HO5
      go_wp2_with (first
        | (at_builtin; refine app_push_at 31 9 (.string ⟨#[]⟩) 1 16 Try.underlying31 infoStr rfl (by decide) rfl _ _ rfl (a + 1) (.slice (some ⟨g, 0, none⟩) k c) k xv rfl (World.ownsRow.alloc HO5.out _) w5.heap.size 1 [.string u] rfl rfl (news_one (heap_cell (heap_alloc_new _ _) 0)) (by simp [Value.oneCell']) (by unfold maxLen; omega) (by omega) (by simp; omega) ?_))
      intro g1' cap1 w6 hown hgr hlie
      have HO6 := hid hown
      have hoA : World.ownsRow (w5.alloc (.cells #[.string u] 9)) (a + 1) 9 1 (.slice (some ⟨g, 0, none⟩) k c) k xv := World.ownsRow.alloc HO5.out _
      have HR6 : Hid (RD w6 a (2 + 60 * k + 60)) := (HR5.out.below ((Below.refl _ _).alloc (Nat.le_refl _) _)).grown hgr (fun g hg => by have := (row_own hoA g hg).1; omega)
      have HB6 : Hid (Below w.heap.size w w6) := (HB5.out.alloc (by omega) _).grown hgr (by simp; omega) (fun g hg => by have := (row_own hoA g hg).1; omega)
      have HXV := hid hxv
      clear hown hgr hlie hoA hxv
      go_wp2_with fail
      go_roundg (n - (k + 1))
      case measure => omega
      case rel =>
        refine ⟨k + 1, g1', cap1, xs ++ [u], by omega, by omega, by go_num, rfl, ?_, ?_, ?_, HR6.out.mono (by omega), HB6.out⟩
        · show _ = _
          rw [List.length_append, HXL.out]; rfl
        · show ∀ x ∈ _, _
          intro x hx
          rcases List.mem_append.1 hx with hx | hx
          · exact HXS.out x hx
          · simp at hx; subst hx; exact hu
        · have h9 := HO6.out
          first | rw [HXV.out] at h9 | skip
          have e9 : strs (xs ++ [u]) = strs xs ++ [.string u] := by simp [strs]
          show World.ownsRow _ _ _ _ _ _ _
          rw [e9]
          exact h9
    · have hke : k = n := by omega
      subst hke
      go_wp2
      go_ret2
      have h9 := HO.out
      rw [← HXL.out] at h9
      exact ⟨s, xs, g, c, by rw [HXL.out]; rfl, h2, by rw [HXL.out]; exact hn, HXS.out, row_mono h9 (by omega), HB.out⟩
set_option maxHeartbeats 4000000 in
theorem inTexts_same (v v2 : Value) (xs : List ByteArray) (w : World) (b1 b2 : Nat) (hn : xs.length ≤ 1099511627776) (h1 : w.ownsRow b1 9 1 v xs.length (strs xs)) (h2 : w.ownsRow b2 9 1 v2 xs.length (strs xs)) :
    Calls Try.prog 24 #[v, v2] w fun e w' => e = .returned (.bool true) ∧ Below w.heap.size w w' := by
  have HO1 := hid h1
  have HO2 := hid h2
  obtain ⟨a1, c1, rfl⟩ := row_slice h1
  obtain ⟨a2, c2, rfl⟩ := row_slice h2
  clear h1 h2
  go_enter Try.func24, Try.ntmps24
  go_wp2_with fail
  go_loopg [11] xs.length (fun q i wr => ∃ k : Nat, k ≤ xs.length ∧ xs.length - k ≤ q ∧ i = .int .i64 k ∧ Below w.heap.size w wr)
  case atStart => exact ⟨0, Nat.zero_le _, by simp, rfl, Below.refl _ _⟩
  case round =>
    obtain ⟨k, hk, hq, rfl, hb⟩ := hrel
    have HB := hid hb
    clear hb
    by_cases hlt : k < xs.length
    · obtain ⟨x, hx⟩ : ∃ x, xs[k]? = some x := ⟨_, List.getElem?_eq_getElem hlt⟩
      have hsx : (strs xs)[k]? = some (.string x) := by simp [strs, hx]
      obtain ⟨g1, cc1, e1, -, hg1, cs1, hc1, hd1⟩ := row_at HO1.out (by omega)
      obtain ⟨g2, cc2, e2, -, hg2, cs2, hc2, hd2⟩ := row_at HO2.out (by omega)
      cases e1
      cases e2
      have q1 : w.cell? ⟨g1, k, none⟩ = some (.string x) := (heap_cell hc1 k).trans (hd1 k _ hsx)
      have q2 : w.cell? ⟨g2, k, none⟩ = some (.string x) := (heap_cell hc2 k).trans (hd2 k _ hsx)
      have k1 : wr.cell? ⟨g1, k, none⟩ = some (.string x) := (HB.out.cell (lt_cell q1)).trans q1
      have k2 : wr.cell? ⟨g2, k, none⟩ = some (.string x) := (HB.out.cell (lt_cell q2)).trans q2
      clear hx hsx hc1 hd1 hc2 hd2 q1 q2
      go_wp2_with fail
      go_quiet (fail)
      rename_i nq
      have HBQ : Hid (Below w.heap.size w (wr.drewN nq)) := below_drewN HB.out _
      go_wp2_with fail
      go_roundg (xs.length - (k + 1))
      case measure => omega
      case rel => exact ⟨k + 1, by omega, by omega, by go_num, HBQ.out⟩
    · have hke : k = xs.length := by omega
      subst hke
      go_wp2
      go_ret
      exact ⟨rfl, HB.out⟩
end Draw
end Go.Proofs.Ytaapdhacnbhohaa
