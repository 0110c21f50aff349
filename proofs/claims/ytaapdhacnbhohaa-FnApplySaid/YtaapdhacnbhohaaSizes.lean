/- The reference's l1Size and l1Depth at a type's node. Conditions: a size of at most 1000. -/
import Derived.Test.YtaapdhacnbhohaaL1Read
set_option linter.unusedVariables false
set_option linter.unusedSimpArgs false
set_option maxRecDepth 100000
namespace Go.Proofs.Ytaapdhacnbhohaa
open Go.RowKit Ty

theorem row_some {w : World} {base : Nat} {e : TypeId} {size : Nat} {v : Value} {n : Nat} {xs : List Value} (h : w.ownsRow base e size v n xs) (hn : 0 < n) :
    ∃ g cap, v = .slice (some ⟨g, 0, none⟩) n cap ∧ base ≤ g ∧ g < w.heap.size ∧ ∀ j u, xs[j]? = some u → w.cell? ⟨g, j, none⟩ = some u := by
  rcases h.2 with ⟨_, h0⟩ | ⟨g, cap, cur, hv, hb, hg, _⟩
  · omega
  · subst hv
    exact ⟨g, cap, rfl, hb, lt_of_heap hg, fun j u hu => row_cell h j hu⟩
theorem row_none {w : World} {base : Nat} {e : TypeId} {size : Nat} {v : Value} {xs : List Value} (h : w.ownsRow base e size v 0 xs) : v = .slice none 0 0 ∨ ∃ g cap, v = .slice (some ⟨g, 0, none⟩) 0 cap := by
  rcases h.2 with ⟨hv, _⟩ | ⟨g, cap, cur, hv, _⟩
  · exact .inl hv
  · exact .inr ⟨g, cap, hv⟩

theorem Ty.Ty.size_pos (t : Ty) : 0 < t.size := by cases t <;> simp [Ty.size] <;> omega
theorem Ty.Ty.depth_le (t : Ty) : t.depth ≤ t.size := by induction t <;> simp [Ty.size, Ty.depth] <;> omega

theorem l1Size_any : ∀ (t : Ty) (h s : Value) (w : World), SNode 0 w t h s → t.size ≤ 1000 → Calls Try.prog 55 #[.agg #[h, s]] w fun e w' => e = .returned (.int .i64 (Ty.size t)) ∧ Below w.heap.size w w' := by
  intro t
  induction t with
  | leaf c =>
    intro h s w hn hb
    obtain ⟨rfl, hrow⟩ := hn
    rcases row_none hrow with rfl | ⟨g, cap, rfl⟩
    all_goals
      clear hrow
      go_enter Try.func55, Try.ntmps55
      go_wp2
      refine wp_loop_rounds 1 ?_
      rw [rounds_succ]
      go_wp2
      go_ret
      exact ⟨rfl, (Below.refl _ _).alloc (Nat.le_refl _) _⟩
  | one c t ih =>
    intro h s w hn hb
    obtain ⟨rfl, h1, s1, hrow, hn1⟩ := hn
    obtain ⟨g, cap, rfl, _, hg, hcell⟩ := row_some hrow (by omega)
    obtain ⟨rfl, sa, sn, sc, rfl⟩ := hn1.form
    have c0 := hcell 0 _ rfl
    have c1 := hcell 1 _ rfl
    have hb1 : t.size ≤ 999 := by simp only [Ty.size] at hb; omega
    have hd := t.size_pos
    have hd2 := t.depth_le
    have HN := hid hn1
    have HB0 := hid hb
    clear hcell hrow hn1 hb
    go_enter Try.func55, Try.ntmps55
    go_wp2
    refine wp_loop_rounds 2 ?_
    rw [rounds_succ]
    go_wp2_with fail
    refine (ih _ _ _ (Keeps.snode ((keeps_alloc w _ _).trans (keeps_alloc _ _ _) (by simp)) HN.out) (by omega)).mono ?_
    rintro e w1 ⟨rfl, hb⟩
    have hsz := hb.size
    simp only [World.size_alloc] at hsz
    have BL : Hid (Below w.heap.size w w1) := (((Below.refl _ _).alloc (Nat.le_refl _) _).alloc (by simp) _).trans (hb.mono (by simp; omega))
    clear hb
    go_wp2
    rw [rounds_succ]
    go_wp2
    go_ret
    exact ⟨ret_int (by simp [Ty.size] <;> omega), BL.out⟩
  | two c t u ih1 ih2 =>
    intro h s w hn hb
    obtain ⟨rfl, h1, s1, h2, s2, hrow, hn1, hn2⟩ := hn
    obtain ⟨g, cap, rfl, _, hg, hcell⟩ := row_some hrow (by omega)
    obtain ⟨rfl, sa, sn, sc, rfl⟩ := hn1.form
    obtain ⟨rfl, ta, tn, tc, rfl⟩ := hn2.form
    have c0 := hcell 0 _ rfl
    have c1 := hcell 1 _ rfl
    have c2 := hcell 2 _ rfl
    have c3 := hcell 3 _ rfl
    have hb1 : t.size + u.size ≤ 999 := by simp only [Ty.size] at hb; omega
    have hd := t.size_pos
    have hd2 := t.depth_le
    have he := u.size_pos
    have he2 := u.depth_le
    have HN1 := hid hn1
    have HN2 := hid hn2
    clear hcell hrow hn1 hn2 hb
    go_enter Try.func55, Try.ntmps55
    go_wp2
    refine wp_loop_rounds 3 ?_
    rw [rounds_succ]
    go_wp2_with fail
    refine (ih1 _ _ _ (Keeps.snode ((keeps_alloc w _ _).trans (keeps_alloc _ _ _) (by simp)) HN1.out) (by omega)).mono ?_
    rintro e w1 ⟨rfl, hb⟩
    have hsz := hb.size
    simp only [World.size_alloc] at hsz
    have bl : Below w.heap.size w w1 := (((Below.refl _ _).alloc (Nat.le_refl _) _).alloc (by simp) _).trans (hb.mono (by simp; omega))
    have d2 : w1.cell? ⟨g, 2, none⟩ = _ := (bl.cell (p := ⟨g, 2, none⟩) hg).trans c2
    have d3 : w1.cell? ⟨g, 3, none⟩ = _ := (bl.cell (p := ⟨g, 3, none⟩) hg).trans c3
    have hg1 : g < w1.heap.size := by omega
    have BL := hid bl
    clear hb bl
    go_wp2
    rw [rounds_succ]
    go_wp2_with fail
    refine (ih2 _ _ _ (Keeps.snode (((keeps_of BL.out _).trans (keeps_alloc _ _ _) (by omega))) HN2.out) (by omega)).mono ?_
    rintro e w2 ⟨rfl, hb⟩
    have hsz2 := hb.size
    simp only [World.size_alloc] at hsz2
    have BL2 : Hid (Below w.heap.size w w2) := (BL.out.alloc (by omega) _).trans (hb.mono (by simp; omega))
    clear hb
    go_wp2
    rw [rounds_succ]
    go_wp2
    go_ret
    exact ⟨ret_int (by simp [Ty.size] <;> omega), BL2.out⟩

theorem l1Depth_any : ∀ (t : Ty) (h s : Value) (w : World), SNode 0 w t h s → t.size ≤ 1000 → Calls Try.prog 57 #[.agg #[h, s]] w fun e w' => e = .returned (.int .i64 (Ty.depth t)) ∧ Below w.heap.size w w' := by
  intro t
  induction t with
  | leaf c =>
    intro h s w hn hb
    obtain ⟨rfl, hrow⟩ := hn
    rcases row_none hrow with rfl | ⟨g, cap, rfl⟩
    all_goals
      clear hrow
      go_enter Try.func57, Try.ntmps57
      go_wp2
      refine wp_loop_rounds 1 ?_
      rw [rounds_succ]
      go_wp2
      go_ret
      exact ⟨rfl, (Below.refl _ _).alloc (Nat.le_refl _) _⟩
  | one c t ih =>
    intro h s w hn hb
    obtain ⟨rfl, h1, s1, hrow, hn1⟩ := hn
    obtain ⟨g, cap, rfl, _, hg, hcell⟩ := row_some hrow (by omega)
    obtain ⟨rfl, sa, sn, sc, rfl⟩ := hn1.form
    have c0 := hcell 0 _ rfl
    have c1 := hcell 1 _ rfl
    have hb1 : t.size ≤ 999 := by simp only [Ty.size] at hb; omega
    have hd := t.size_pos
    have hd2 := t.depth_le
    have HN := hid hn1
    have HB0 := hid hb
    clear hcell hrow hn1 hb
    go_enter Try.func57, Try.ntmps57
    go_wp2
    refine wp_loop_rounds 2 ?_
    rw [rounds_succ]
    go_wp2_with fail
    refine (ih _ _ _ (Keeps.snode ((keeps_alloc w _ _).trans (keeps_alloc _ _ _) (by simp)) HN.out) (by omega)).mono ?_
    rintro e w1 ⟨rfl, hb⟩
    have hsz := hb.size
    simp only [World.size_alloc] at hsz
    have BL : Hid (Below w.heap.size w w1) := (((Below.refl _ _).alloc (Nat.le_refl _) _).alloc (by simp) _).trans (hb.mono (by simp; omega))
    clear hb
    go_wp2
    rw [rounds_succ]
    go_wp2
    go_ret
    exact ⟨ret_int (by simp [Ty.depth] <;> omega), BL.out⟩
  | two c t u ih1 ih2 =>
    intro h s w hn hb
    obtain ⟨rfl, h1, s1, h2, s2, hrow, hn1, hn2⟩ := hn
    obtain ⟨g, cap, rfl, _, hg, hcell⟩ := row_some hrow (by omega)
    obtain ⟨rfl, sa, sn, sc, rfl⟩ := hn1.form
    obtain ⟨rfl, ta, tn, tc, rfl⟩ := hn2.form
    have c0 := hcell 0 _ rfl
    have c1 := hcell 1 _ rfl
    have c2 := hcell 2 _ rfl
    have c3 := hcell 3 _ rfl
    have hb1 : t.size + u.size ≤ 999 := by simp only [Ty.size] at hb; omega
    have hd := t.size_pos
    have hd2 := t.depth_le
    have he := u.size_pos
    have he2 := u.depth_le
    have HN1 := hid hn1
    have HN2 := hid hn2
    clear hcell hrow hn1 hn2 hb
    go_enter Try.func57, Try.ntmps57
    go_wp2
    refine wp_loop_rounds 3 ?_
    rw [rounds_succ]
    go_wp2_with fail
    refine (ih1 _ _ _ (Keeps.snode ((keeps_alloc w _ _).trans (keeps_alloc _ _ _) (by simp)) HN1.out) (by omega)).mono ?_
    rintro e w1 ⟨rfl, hb⟩
    have hsz := hb.size
    simp only [World.size_alloc] at hsz
    have bl : Below w.heap.size w w1 := (((Below.refl _ _).alloc (Nat.le_refl _) _).alloc (by simp) _).trans (hb.mono (by simp; omega))
    have d2 : w1.cell? ⟨g, 2, none⟩ = _ := (bl.cell (p := ⟨g, 2, none⟩) hg).trans c2
    have d3 : w1.cell? ⟨g, 3, none⟩ = _ := (bl.cell (p := ⟨g, 3, none⟩) hg).trans c3
    have hg1 : g < w1.heap.size := by omega
    have BL := hid bl
    clear hb bl
    go_wp2
    rw [rounds_succ]
    go_wp2_with fail
    refine (ih2 _ _ _ (Keeps.snode (((keeps_of BL.out _).trans (keeps_alloc _ _ _) (by omega))) HN2.out) (by omega)).mono ?_
    rintro e w2 ⟨rfl, hb⟩
    have hsz2 := hb.size
    simp only [World.size_alloc] at hsz2
    have BL2 : Hid (Below w.heap.size w w2) := (BL.out.alloc (by omega) _).trans (hb.mono (by simp; omega))
    clear hb
    go_wp2
    rw [rounds_succ]
    go_wp2
    go_ret
    exact ⟨ret_int (by simp [Ty.depth] <;> omega), BL2.out⟩

end Go.Proofs.Ytaapdhacnbhohaa
