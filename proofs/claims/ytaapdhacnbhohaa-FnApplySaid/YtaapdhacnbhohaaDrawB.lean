/- The draws of bindings. Conditions: those typed. -/
import Derived.Test.YtaapdhacnbhohaaDrawM
import Derived.Test.YtaapdhacnbhohaaPairs
import Derived.Deep.AppendLies
set_option linter.unusedVariables false
set_option linter.unusedSimpArgs false
set_option maxRecDepth 100000
namespace Go.Proofs.Ytaapdhacnbhohaa
open Go.RowKit ListS
namespace Draw
theorem infoBind : (Try.prog.info? 46).map (fun i => (i.zero, i.size, i.bytes)) = some (some (.agg #[.string ⟨#[]⟩, .string ⟨#[]⟩]), 2, 32) := by kernel_rfl
theorem flat_app1 : ∀ (xs : List BB) (p : BB), flat (xs ++ [p]) = flat xs ++ [.string p.1, .string p.2]
  | [], p => rfl
  | x :: xs, p => by
    simp only [List.cons_append, flat]
    rw [flat_app1 xs p]
def BPost (w : World) (a q : Nat) (e : Ending) (w' : World) : Prop := ∃ (xs : List BB) (g c : Nat), e = .returned (.slice (some ⟨g, 0, none⟩) xs.length c) ∧ xs.length ≤ 7 ∧ (∀ p ∈ xs, p.1.size ≤ 1 ∧ p.2.size ≤ 40) ∧ w'.ownsRow w.heap.size 46 2 (.slice (some ⟨g, 0, none⟩) xs.length c) xs.length (flat xs) ∧ RD w' a q ∧ w.grownBy w' (some a)
/-- blocks below n but a's are as they were -/
theorem grown_row {w w1 w2 : World} {a base size n : Nat} {e : TypeId} {v : Value} {xs : List Value} (h : w.grownBy w1 (some a)) (ho : w1.ownsRow base e size v n xs) (hb : w.heap.size ≤ base) (hg : w1.grownBy w2 v.ownBlock) : w.grownBy w2 (some a) := by
  refine ⟨hg.os.trans h.os, hg.tape.trans h.tape, hg.output.trans h.output, Nat.le_trans h.size hg.size, fun k hk hne => ?_⟩
  exact (hg.block k (Nat.lt_of_lt_of_le hk h.size) (fun e => by have := (row_own ho k e.symm).1; omega)).trans (h.block k hk hne)
set_option maxHeartbeats 8000000 in
theorem l2Bindings_any (a q : Nat) (w : World) (hq : q ≤ 70000) (h : RD w a q) : Calls Try.prog 68 #[.pointer (some ⟨a, 0, none⟩)] w (BPost w a (q + 1000)) := by
  have HR := hid h
  have hal := h.lt
  clear h
  obtain ⟨ib, hib, hz0, hz1, hz2⟩ := info_parts infoBind
  go_enter Try.func68, Try.ntmps68
  go_wp2_with fail
  have HO1 : Hid ((w.alloc (.cells #[] 46)).ownsRow w.heap.size 46 2 (.slice (some ⟨w.heap.size, 0, none⟩) 0 0) 0 []) := by
    have h := World.ownsRow_made (base := w.heap.size) (e := 46) (size := 2) w #[] 0 (by omega) (by simp [maxLen]) rfl
    show World.ownsRow _ _ _ _ _ _ _
    simpa using h
  have HR1 : Hid (RD (w.alloc (.cells #[] 46)) a q) := HR.out.below ((Below.refl _ _).alloc (Nat.le_refl _) _)
  have HG1 : Hid (w.grownBy (w.alloc (.cells #[] 46)) (some a)) := gb0 ((Below.refl _ _).alloc (Nat.le_refl _) _) _
  go_loopg [3, 6] 6 (fun u o i wr => ∃ (k n g c : Nat) (xs : List BB), k ≤ 6 ∧ 6 - k ≤ u ∧ i = .int .i64 k ∧ o = .slice (some ⟨g, 0, none⟩) n c ∧ n ≤ k ∧ Hid (xs.length = n) ∧ Hid (∀ p ∈ xs, p.1.size ≤ 1 ∧ p.2.size ≤ 40) ∧ Hid (wr.ownsRow w.heap.size 46 2 (.slice (some ⟨g, 0, none⟩) n c) n (flat xs)) ∧ Hid (RD wr a (q + 100 * k)) ∧ Hid (w.grownBy wr (some a)))
  case atStart => exact ⟨0, 0, w.heap.size, 0, [], Nat.zero_le _, by simp, rfl, rfl, Nat.le_refl _, rfl, (by show ∀ p ∈ _, _; simp), HO1.out, HR1.out, HG1.out⟩
  case round =>
    clear HO1 HR1 HG1
    obtain ⟨k, n, g, c, xs, hk, hu, rfl, rfl, hnk, hxl, hxs, hrow, hrd, hg⟩ := hrel
    have HXL := hid hxl.out
    have HXS := hid hxs.out
    have HO := hid hrow.out
    have HRR := hid hrd.out
    have HG := hid hg.out
    clear hxl hxs hrow hrd hg
    by_cases hlt : k < 6
    · go_wp2_with fail
      refine (pick_any a (q + 100 * k) 3 wr (by decide) (by decide) (by omega) HRR.out).mono ?_
      rintro e w5 ⟨j, hj, rfl, hr, hgr⟩
      have HR5 := hid hr
      have HO5 := hid (HRR.out.row HO.out (by decide) hgr)
      have HG5 := hid (grown_trans HG.out hgr)
      clear hr hgr
      by_cases hj0 : j = 0
      · subst hj0
        go_wp2_with fail
        have hw5 : Below w5.heap.size w5 w5.drew := (Below.refl _ _).drew
        have HR6 := hid (HR5.out.below hw5)
        have HO6 := hid (row_below hw5 HO5.out)
        have HG6 := hid (grown_trans HG5.out (gb0 hw5 _))
        clear hw5 HR5 HO5 HG5
        obtain ⟨cc, hcc⟩ : ∃ cc, ([88, 89, 90, 120, 121, 122, 49, 50, 51, 52, 53, 54] : List UInt8)[k]? = some cc := ⟨_, List.getElem?_eq_getElem (by simp; omega)⟩
        have hsl : ∀ x : World, (Instr.slice 9 (.string ⟨#[88, 89, 90, 120, 121, 122, 49, 50, 51, 52, 53, 54]⟩) (some (.int .i64 (k : Int))) (some (.int .i64 ((k : Int) + 1))) none).run Try.prog x = .ok (.string ⟨#[cc]⟩) x := fun x => run_one [88, 89, 90, 120, 121, 122, 49, 50, 51, 52, 53, 54] k cc hcc x
        clear hcc
        refine wp_region_any (by kernel_rfl) ?_
        change wpAny _ _ _ _ _ _ _ (World.drew _)
        have SX : True := trivial
        refine wpAny_of_T (S := fun X => True) (m := 13) _ _ _ _ ?_
        generalize w5.drew = w6 at *
        refine wpAnyT_take (i := 0) (v := .slice (some ⟨g, 0, none⟩) n c) rfl (by kernel_rfl) (by kernel_rfl) (by kernel_rfl) (by kernel_rfl) (fun _ _ _ h => h) (Or.inl ⟨by kernel_rfl, fun X hS => by clear hS; go_simp⟩) trivial ?_
        try go_simp
        refine wpAnyT_take (i := 1) (v := .int .i64 k) rfl (by kernel_rfl) (by kernel_rfl) (by kernel_rfl) (by kernel_rfl) (fun _ _ _ h => h) (Or.inl ⟨by kernel_rfl, fun X hS => by clear hS; go_simp⟩) trivial ?_
        try go_simp
        refine wpAnyT_take (i := 2) (v := .int .i64 k) rfl (by kernel_rfl) (by kernel_rfl) (by kernel_rfl) (by kernel_rfl) (fun _ _ _ h => h) (Or.inl ⟨by kernel_rfl, fun X hS => by clear hS; go_simp⟩) trivial ?_
        try go_simp
        refine wpAnyT_take (i := 3) (v := .int .i64 ((k : Int) + 1)) rfl (by kernel_rfl) (by kernel_rfl) (by kernel_rfl) (by kernel_rfl) (fun _ _ _ h => h) (Or.inl ⟨by kernel_rfl, fun X hS => by clear hS; go_simp; rw [IntKind.wrap_i64]; omega⟩) trivial ?_
        try go_simp
        refine wpAnyT_take (i := 4) (v := .string ((ByteArray.mk #[cc]))) rfl (by kernel_rfl) (by kernel_rfl) (by kernel_rfl) (by kernel_rfl) (fun _ _ _ h => h) (Or.inl ⟨by kernel_rfl, fun X hS => by clear hS; go_simp⟩) trivial ?_
        try go_simp
        refine wpAnyT_take (i := 5) (v := .pointer (some ⟨a, 0, none⟩)) rfl (by kernel_rfl) (by kernel_rfl) (by kernel_rfl) (by kernel_rfl) (fun _ _ _ h => h) (Or.inl ⟨by kernel_rfl, fun X hS => by clear hS; go_simp⟩) trivial ?_
        try go_simp
        refine wpAnyT_take (i := 6) (v := .pointer (some ⟨a, 0, none⟩)) rfl (by kernel_rfl) (by kernel_rfl) (by kernel_rfl) (by kernel_rfl) (fun _ _ _ h => h) (Or.inl ⟨by kernel_rfl, fun X hS => by clear hS; go_simp⟩) trivial ?_
        try go_simp
        clear hsl
        have hes : ((ByteArray.mk #[cc])).size ≤ 1 := Nat.le_refl 1
        generalize (ByteArray.mk #[cc]) = vb at *
        refine wpAnyT_one 7 rfl (by kernel_rfl) (fun K hK => ?_)
        go_simp
        refine (pick_any a (q + 100 * k + 1) 3 w6 (by decide) (by decide) (by omega) HR6.out).mono ?_
        rintro e w7 ⟨d, hd, rfl, hr, hgr⟩
        have HR7 := hid hr
        have HO7 := hid (HR6.out.row HO6.out (by decide) hgr)
        have HG7 := hid (grown_trans HG6.out hgr)
        clear hr hgr
        refine hK _ _ (fun _ => trivial) ?_
        clear hK K
        refine wpAnyT_one 8 rfl (by kernel_rfl) (fun K hK => ?_)
        go_simp
        refine (l1Draw_any a false d (by omega) (q + 100 * k + 2) w7 (by omega) HR7.out).mono ?_
        rintro e w8 ⟨s, rfl, hs1, hs2, hr, hgr⟩
        have hlb : LB d ≤ 36 := by
          rcases (by omega : d = 0 ∨ d = 1 ∨ d = 2) with rfl | rfl | rfl <;> decide
        have HR8 : Hid (RD w8 a (q + 100 * k + 40)) := hr.mono (by omega)
        have HO8 := hid (HR7.out.row HO7.out (by decide) hgr)
        have HG8 := hid (grown_trans HG7.out hgr)
        clear hr hgr
        refine hK _ _ (fun _ => trivial) ?_
        clear hK K
        refine wpAnyT_take (i := 9) (v := .agg #[.string vb, .string s]) rfl (by kernel_rfl) (by kernel_rfl) (by kernel_rfl) (by kernel_rfl) (fun _ _ _ h => h) (Or.inl ⟨by kernel_rfl, fun X hS => by clear hS; go_simp⟩) trivial ?_
        try go_simp
        refine wpAnyT_one 10 rfl (by kernel_rfl) (fun K hK => ?_)
        go_simp
        refine hK _ _ (fun _ => trivial) ?_
        clear hK K
        have HRA : Hid (RD (w8.alloc (.cells #[.string vb, .string s] 46)) a (q + 100 * k + 40)) := HR8.out.below ((Below.refl _ _).alloc (Nat.le_refl _) _)
        have HOA : Hid ((w8.alloc (.cells #[.string vb, .string s] 46)).ownsRow w.heap.size 46 2 (.slice (some ⟨g, 0, none⟩) n c) n (flat xs)) := World.ownsRow.alloc HO8.out _
        have HGA : Hid (w.grownBy (w8.alloc (.cells #[.string vb, .string s] 46)) (some a)) := grown_trans HG8.out (gb0 ((Below.refl _ _).alloc (Nat.le_refl _) _) _)
        have hz8 := HG8.out.size
        have hadd : ∀ j, (⟨w8.heap.size, 0, none⟩ : Addr).add j = ⟨w8.heap.size, j, none⟩ := fun j => by unfold Addr.add; split <;> simp_all
        refine wpAnyT_one 11 rfl (by kernel_rfl) (fun K hK => ?_)
        rw [if_pos (by kernel_rfl)]
        refine (wp_append_lies (w8.alloc (.cells #[.string vb, .string s] 46)) (Operand.tmp 12) (Operand.tmp 22) 38 rfl (w.heap.size) 46 ib (.agg #[.string ⟨#[]⟩, .string ⟨#[]⟩]) 2 32 Try.underlying38 hib hz0 hz1 hz2 rfl (by decide) (.slice (some ⟨g, 0, none⟩) n c) n (flat xs) rfl HOA.out ⟨w8.heap.size, 0, none⟩ 1 1 [.string vb, .string s] rfl (by simp) (fun j u hj => by rw [hadd]; exact news_two (heap_cell (heap_alloc_new _ _) 0) (heap_cell (heap_alloc_new _ _) 1) j u hj) (by simp [Value.oneCell']) (by decide) (by unfold maxLen; omega) (by omega) (by simp; omega) (w8.alloc (.cells #[.string vb, .string s] 46)).heap.size rfl fun g1' cap1 w9 hown hgr hlie hlt9 => hK _ _ (fun _ => trivial) ?_)
        clear hK K
        have HO9 := hid hown
        have HR9 : Hid (RD w9 a (q + 100 * k + 40)) := HRA.out.grown hgr (fun g hg => by have := (row_own HOA.out g hg).1; omega)
        have HG9 : Hid (w.grownBy w9 (some a)) := grown_row HGA.out HOA.out (Nat.le_refl _) hgr
        clear hown hgr hlie
        refine wpAnyT_take (i := 12) (v := .slice (some ⟨g1', 0, none⟩) (n + 1) cap1) rfl (by kernel_rfl) (by kernel_rfl) (by kernel_rfl) (by kernel_rfl) (fun _ _ _ h => h) (Or.inl ⟨by kernel_rfl, fun X hS => by clear hS; go_simp⟩) trivial ?_
        try go_simp
        refine wpAnyT_drop _ 13 _ _ _ (by decide) (by kernel_rfl) ?_
        change wpList _ _ _ [] _ _
        go_wp2_with fail
        go_roundg (6 - (k + 1))
        case measure => omega
        case rel =>
          refine ⟨k + 1, n + 1, g1', cap1, xs ++ [(vb, s)], by omega, by omega, by go_num, rfl, by omega, ?_, ?_, ?_, HR9.out.mono (by omega), HG9.out⟩
          · show _ = _
            rw [List.length_append, HXL.out]; rfl
          · show ∀ p ∈ _, _
            intro p hp
            rcases List.mem_append.1 hp with hp | hp
            · exact HXS.out p hp
            · simp at hp; subst hp; exact ⟨hes, by show s.size ≤ 40; omega⟩
          · show World.ownsRow _ _ _ _ _ _ _
            rw [flat_app1]
            exact HO9.out
      · have hj1 : ((j : Int) == 0) = false := by rw [beq_eq_false_iff_ne]; omega
        go_wp2_with fail
        go_roundg (6 - (k + 1))
        case measure => omega
        case rel => exact ⟨k + 1, n, g, c, xs, by omega, by omega, by go_num, rfl, by omega, HXL.out, HXS.out, HO5.out, HR5.out.mono (by omega), HG5.out⟩
    · have hke : k = 6 := by omega
      subst hke
      go_wp2_with fail
      refine (pick_any a (q + 100 * 6) 20 wr (by decide) (by decide) (by omega) HRR.out).mono ?_
      rintro e w5 ⟨j, hj, rfl, hr, hgr⟩
      have HR5 := hid hr
      have HO5 := hid (HRR.out.row HO.out (by decide) hgr)
      have HG5 := hid (grown_trans HG.out hgr)
      clear hr hgr
      by_cases hj0 : j = 0
      · subst hj0
        go_wp2_with fail
        have HR6 : Hid (RD (w5.alloc (.cells #[.string ⟨#[120]⟩, .string ⟨#[105]⟩, .string ⟨#[]⟩] 9)) a (q + 100 * 6 + 1)) := HR5.out.below ((Below.refl _ _).alloc (Nat.le_refl _) _)
        refine (ofS_any a (q + 100 * 6 + 1) w5.heap.size 3 0 1 _ _ (by omega) (by decide) (by decide) rfl (heap_alloc_new w5 _) (by decide) HR6.out).mono ?_
        rintro e w6 ⟨s, rfl, hs1, hs2, hr, hgr⟩
        have HR7 := hid hr
        have HO7 := hid (HR6.out.row (World.ownsRow.alloc HO5.out _) (by decide) hgr)
        have HG7 := hid (grown_trans (grown_trans HG5.out (gb0 ((Below.refl _ _).alloc (Nat.le_refl _) _) _)) hgr)
        clear hr hgr HR6
        go_wp2_with fail
        have HR8 : Hid (RD (w6.alloc (.cells #[.string ⟨#[105]⟩, .string ⟨#[113]⟩] 9)) a (q + 100 * 6 + 1 + 1)) := HR7.out.below ((Below.refl _ _).alloc (Nat.le_refl _) _)
        refine (ofS_any a (q + 100 * 6 + 1 + 1) w6.heap.size 2 0 1 _ _ (by omega) (by decide) (by decide) rfl (heap_alloc_new w6 _) (by decide) HR8.out).mono ?_
        rintro e w8 ⟨s', rfl, hs3, hs4, hr, hgr⟩
        have HR9 := hid hr
        have HO9 := hid (HR8.out.row (World.ownsRow.alloc HO7.out _) (by decide) hgr)
        have HG9 := hid (grown_trans (grown_trans HG7.out (gb0 ((Below.refl _ _).alloc (Nat.le_refl _) _) _)) hgr)
        have hz9 := HG9.out.size
        clear hr hgr HR8
        go_wp2_with (first
          | (at_builtin; refine app_push_at 38 46 (.agg #[.string ⟨#[]⟩, .string ⟨#[]⟩]) 2 32 Try.underlying38 infoBind rfl (by decide) rfl _ _ rfl w.heap.size (.slice (some ⟨g, 0, none⟩) n c) n (flat xs) rfl (World.ownsRow.alloc HO9.out _) w8.heap.size 1 [.string s, .string s'] rfl rfl (news_two (heap_cell (heap_alloc_new _ _) 0) (heap_cell (heap_alloc_new _ _) 1)) (by simp [Value.oneCell']) (by unfold maxLen; omega) (by omega) (by simp; omega) ?_))
        intro g1' cap1 w9 hown hgr hlie
        have hoA : World.ownsRow (w8.alloc (.cells #[.string s, .string s'] 46)) w.heap.size 46 2 (.slice (some ⟨g, 0, none⟩) n c) n (flat xs) := World.ownsRow.alloc HO9.out _
        have HRE : Hid (RD w9 a (q + 1000)) := ((HR9.out.below ((Below.refl _ _).alloc (Nat.le_refl _) _)).grown hgr (fun g hg => by have := (row_own hoA g hg).1; omega)).mono (by omega)
        have HGE : Hid (w.grownBy w9 (some a)) := grown_row (grown_trans HG9.out (gb0 ((Below.refl _ _).alloc (Nat.le_refl _) _) _)) hoA (Nat.le_refl _) hgr
        have HOE := hid hown
        clear hown hgr hlie hoA
        go_wp2
        go_ret
        have hfl : flat (xs ++ [(s, s')]) = flat xs ++ [.string s, .string s'] := flat_app1 _ _
        refine ⟨xs ++ [(s, s')], g1', cap1, by rw [List.length_append, HXL.out]; rfl, by rw [List.length_append, HXL.out]; simp; omega, ?_, ?_, HRE.out, HGE.out⟩
        · intro p hp
          rcases List.mem_append.1 hp with hp | hp
          · exact HXS.out p hp
          · simp at hp; subst hp; exact ⟨hs2, by show s'.size ≤ 40; omega⟩
        · rw [hfl, List.length_append, HXL.out]
          exact HOE.out
      · have hj1 : ((j : Int) == 0) = false := by rw [beq_eq_false_iff_ne]; omega
        go_wp2
        go_ret
        have h9 := HO5.out
        exact ⟨xs, g, c, by rw [HXL.out]; rfl, by rw [HXL.out]; omega, HXS.out, by rw [HXL.out]; exact h9, HR5.out.mono (by omega), HG5.out⟩
/-- a row of another kind of elements stands when a row grows -/
theorem row_grownT {w w' : World} {base n size base2 n2 size2 : Nat} {v v2 : Value} {xs xs2 : List Value} {e0 e2 : TypeId} (hg : w.grownBy w' v2.ownBlock) (ho : w.ownsRow base e0 size v n xs) (ho2 : w.ownsRow base2 e2 size2 v2 n2 xs2) (hne : e0 ≠ e2) : w'.ownsRow base e0 size v n xs := by
  refine row_grown hg ho fun g hgu e' => ?_
  rcases ho.2 with ⟨rfl, _⟩ | ⟨g1, cap1, cur1, rfl, hb1, hg1, _⟩
  · simp [Value.ownBlock] at hgu
  · simp [Value.ownBlock] at hgu
    subst hgu
    rcases ho2.2 with ⟨rfl, _⟩ | ⟨g2, cap2, cur2, rfl, hb2, hg2, _⟩
    · simp [Value.ownBlock] at e'
    · simp [Value.ownBlock] at e'
      subst e'
      rw [hg1] at hg2
      cases hg2
      exact hne rfl
/-- a new slice of few short bindings -/
def BsPost (w w' : World) (v : Value) (xs : List BB) : Prop := ∃ (g c : Nat), v = .slice (some ⟨g, 0, none⟩) xs.length c ∧ xs.length ≤ 7 ∧ tot xs + xs.length ≤ 1048576 ∧ w'.ownsRow w.heap.size 46 2 v xs.length (flat xs) ∧ (∀ (i : Nat) (p : BB), xs[i]? = some p → p.1.size ≤ maxLen ∧ p.2.size ≤ maxLen) ∧ Below w.heap.size w w'
theorem sp_rowB {w : World} {base n cap : Nat} {e : TypeId} {a : Option Addr} {xs : List BB} (ho : w.ownsRow base e 2 (.slice a n cap) xs.length (flat xs)) (hz : ∀ (i : Nat) (p : BB), xs[i]? = some p → p.1.size ≤ maxLen ∧ p.2.size ≤ maxLen) : SP w (.slice a n cap) xs := by
  rcases ho.2 with ⟨h, h0⟩ | ⟨g, c, cur, h, hb, hg, h1, h2, h3, h4⟩
  · have hx := List.length_eq_zero_iff.1 h0
    cases h
    exact .inl ⟨hx, _, _, rfl⟩
  · cases h
    refine .inr ⟨g, 0, cap, rfl, Nat.le_trans h1 h2, fun i p hp => ?_⟩
    obtain ⟨f0, f1⟩ := flat_get xs i p hp
    have r0 := row_cell ho (i * 2) f0
    have r1 := row_cell ho (i * 2 + 1) f1
    obtain ⟨z0, z1⟩ := hz i p hp
    exact ⟨by simpa using r0, by simpa using r1, z0, z1⟩
theorem tot_small : ∀ (xs : List BB), (∀ p ∈ xs, p.1.size ≤ 1 ∧ p.2.size ≤ 40) → tot xs ≤ 41 * xs.length
  | [], _ => by simp [tot]
  | x :: xs, h => by
    have h1 := tot_small xs (fun p hp => h p (List.mem_cons_of_mem _ hp))
    have h2 := h x (by simp)
    simp only [tot, List.map_cons, List.sum_cons, List.length_cons] at h1 ⊢
    omega
theorem bs_of {w0 w w' : World} {g c : Nat} {xs : List BB} (hwb : w0.heap.size ≤ w.heap.size) (h1 : xs.length ≤ 7) (h2 : ∀ p ∈ xs, p.1.size ≤ 1 ∧ p.2.size ≤ 40) (ho : w'.ownsRow w.heap.size 46 2 (.slice (some ⟨g, 0, none⟩) xs.length c) xs.length (flat xs)) (hb : Below w0.heap.size w0 w') : BsPost w0 w' (.slice (some ⟨g, 0, none⟩) xs.length c) xs := by
  have h3 := tot_small xs h2
  exact ⟨g, c, rfl, h1, by omega, row_mono ho hwb, (fun i p hp => by have := h2 p (List.mem_of_getElem? hp); unfold maxLen; omega), hb⟩
theorem DrawBindingsValid_any (v : Value) (xs0 : List Int) (w : World) (h : SB w v xs0) : Calls Try.prog 34 #[v] w fun e w' => ∃ u xs, e = .returned u ∧ BsPost w w' u xs := by
  go_enter Try.func34, Try.ntmps34
  go_wp2_with fail
  refine (open_any v xs0 w h).mono ?_
  rintro e w1 ⟨a, rfl, ha, hr, hb⟩
  have HR1 := hid hr
  have HB1 := hid hb
  clear hr hb
  go_wp2_with fail
  refine (l2Bindings_any a 0 w1 (by decide) HR1.out).mono ?_
  rintro e w2 ⟨xs, g, c, rfl, h1, h2, ho, hr, hgr⟩
  have HB2 : Hid (Below w.heap.size w w2) := HB1.out.grown hgr HB1.out.size (fun g hg => by cases hg; exact ha)
  have HBS := hid (bs_of HB1.out.size h1 h2 ho HB2.out)
  clear hr hgr ho h2
  go_wp2
  go_ret
  exact ⟨_, xs, rfl, HBS.out⟩
theorem DrawApplyBindings_any (v : Value) (xs0 : List Int) (w : World) (h : SB w v xs0) : Calls Try.prog 31 #[v] w fun e w' => ∃ u xs s, e = .returned (.tuple #[u, .string s]) ∧ s.size ≤ 40 ∧ BsPost w w' u xs := by
  go_enter Try.func31, Try.ntmps31
  go_wp2_with fail
  refine (open_any v xs0 w h).mono ?_
  rintro e w1 ⟨a, rfl, ha, hr, hb⟩
  have HR1 := hid hr
  have HB1 := hid hb
  clear hr hb
  go_wp2_with fail
  refine (l2Bindings_any a 0 w1 (by decide) HR1.out).mono ?_
  rintro e w2 ⟨xs, g, c, rfl, h1, h2, ho, hr, hgr⟩
  have HB2 : Hid (Below w.heap.size w w2) := HB1.out.grown hgr HB1.out.size (fun g hg => by cases hg; exact ha)
  have HR2 := hid hr
  have HO2 := hid ho
  have HS2 := hid h2
  clear hr hgr ho h2
  go_wp2_with fail
  refine (l1Any_any a (0 + 1000) w2 (by decide) HR2.out).mono ?_
  rintro e w3 ⟨s, rfl, -, hs, hr, hgr⟩
  have HB3 : Hid (Below w.heap.size w w3) := HB2.out.grown hgr HB2.out.size (fun g hg => by cases hg; exact ha)
  have HBS := hid (bs_of HB1.out.size h1 HS2.out (HR2.out.row HO2.out (by decide) hgr) HB3.out)
  clear hr hgr
  go_wp2
  go_ret2
  exact ⟨_, xs, s, rfl, hs, HBS.out⟩
end Draw
end Go.Proofs.Ytaapdhacnbhohaa
