/- The reference's l2Told, MatchType and IsInstance. Conditions: texts of at most 2^30 bytes. -/
import Derived.Test.YtlhildfiddphcaaMatS
import Derived.Test.YtlhildfiddphcaaMatB
set_option linter.unusedVariables false
set_option linter.unusedSimpArgs false
set_option maxRecDepth 100000
namespace Go.Proofs.Ytlhildfiddphcaa
open Go.RowKit Ty ListS Parts Go.Proofs.Ytlhildfiddphcaa.Text MkType
namespace MatS
open MatP MatI Go.Proofs.Ytlhildfiddphcaa.Sub
def toldUp (s : Sg) (k : Nat) : List BB := ((vs6.take k).filter fun c => (s c).isSome).map fun c => (⟨#[c]⟩, ⟨(MapS.tx s c).toArray⟩)
theorem toldUp_all (s : Sg) : toldUp s 12 = told s := rfl
theorem toldUp_len (s : Sg) (k : Nat) : (toldUp s k).length ≤ 6 := by
  unfold toldUp
  rw [List.length_map]
  exact Nat.le_trans (List.length_filter_le _ _) (by rw [List.length_take]; exact Nat.min_le_right _ _)
theorem lets_vs6 {k : Nat} {c : UInt8} (hk : k < 6) (h : lets[k]? = some c) : vs6[k]? = some c := by
  rcases k with _ | _ | _ | _ | _ | _ | k
  all_goals first | omega | exact h
theorem lets_not {k : Nat} {c : UInt8} (hk : ¬ k < 6) (h : lets[k]? = some c) : isV c = false := by
  rcases k with _ | _ | _ | _ | _ | _ | _ | _ | _ | _ | _ | _ | k
  all_goals first | omega | (simp [lets] at h; subst h; rfl) | (simp [lets] at h)
theorem toldUp_some {s : Sg} {k : Nat} {c : UInt8} {u : Ty} (hk : k < 6) (h : lets[k]? = some c) (hs : s c = some u) : toldUp s (k + 1) = toldUp s k ++ [(⟨#[c]⟩, ⟨u.text.toArray⟩)] := by
  obtain ⟨hlt, rfl⟩ := List.getElem?_eq_some_iff.1 (lets_vs6 hk h)
  unfold toldUp
  rw [List.take_succ_eq_append_getElem hlt, List.filter_append, List.map_append]
  simp [hs, MapS.tx]
theorem toldUp_none {s : Sg} {k : Nat} {c : UInt8} (h : lets[k]? = some c) (hs : s c = none) : toldUp s (k + 1) = toldUp s k := by
  by_cases hk : k < 6
  · obtain ⟨hlt, rfl⟩ := List.getElem?_eq_some_iff.1 (lets_vs6 hk h)
    unfold toldUp
    rw [List.take_succ_eq_append_getElem hlt, List.filter_append, List.map_append]
    simp [hs]
  · unfold toldUp
    rw [List.take_of_length_le (by show 6 ≤ _; omega), List.take_of_length_le (by show 6 ≤ _; omega)]
theorem slice_one (l : List UInt8) (k : Nat) (c : UInt8) (h : l[k]? = some c) : (ByteArray.mk l.toArray).extract k (k + 1) = ⟨#[c]⟩ := by
  obtain ⟨hlt, rfl⟩ := List.getElem?_eq_some_iff.1 h
  apply ByteArray.ext
  simp [ByteArray.data_extract]
  rw [List.drop_eq_getElem_cons hlt]
  rfl
def TPost (w : World) (xs : List BB) (e : Ending) (w' : World) : Prop := ∃ a cap, e = .returned (.tuple #[.slice a xs.length cap, .bool true]) ∧ w'.ownsRow w.heap.size 45 2 (.slice a xs.length cap) xs.length (flat xs) ∧ Below w.heap.size w w'
def TL (w : World) (s : Sg) (q : Nat) (o i : Value) (wr : World) : Prop :=
  ∃ (k n : Nat) (ao : Option Addr) (capo : Nat), k ≤ 12 ∧ 12 - k ≤ q ∧ i = .int .i64 k ∧ o = .slice ao n capo ∧ Hid (n = (toldUp s k).length) ∧ wr.ownsRow w.heap.size 45 2 (.slice ao n capo) n (flat (toldUp s k)) ∧ Below w.heap.size w wr
set_option maxHeartbeats 8000000 in
theorem l2Told_any (s : Sg) (w : World) (mb : Nat) (hmap : MapAt (fun k => k < w.heap.size) w mb s) (hg : GS 60 s) : Calls Try.prog 14 #[.pointer (some ⟨mb, 0, none⟩)] w (TPost w (told s)) := by
  have HMAP := hid hmap
  have HG := hid hg
  have hmb := hmap.lt
  obtain ⟨ib, hib, hz0, hz1, hz2⟩ := info_parts infoB
  clear hmap hg
  go_enter Try.func14, Try.ntmps14
  go_wp2_with fail
  go_loopg [4, 10] 12 (fun q o i wr => TL w s q o i wr)
  case atStart =>
    have h := World.ownsRow_made (base := w.heap.size) (e := 45) (size := 2) w #[] 0 (Nat.le_refl _) (by simp [maxLen]) rfl
    exact ⟨0, 0, some ⟨w.heap.size, 0, none⟩, 0, Nat.zero_le _, by simp, rfl, rfl, rfl, h, (Below.refl _ w).alloc (Nat.le_refl _) _⟩
  case round =>
    obtain ⟨k, n, ao, capo, hk, hq, rfl, rfl, hn, hown, hb⟩ := hrel
    have HN := hid hn.out
    have HOWN := hid hown
    have HB := hid hb
    have hbz := hb.size
    have hn6 : n ≤ 6 := by rw [hn.out]; exact toldUp_len s k
    clear hn hown hb
    by_cases hlt : k < 12
    · obtain ⟨c, hc⟩ : ∃ c, lets[k]? = some c := ⟨_, List.getElem?_eq_getElem (by show k < 12; exact hlt)⟩
      obtain ⟨hm0, cs, em, hm1, hm2, hm3⟩ := HMAP.out.below HB.out
      obtain ⟨hd, au, nm, cu, q1, q2, q3⟩ := hm3 k hlt c hc
      have km0 : wr.cell? ⟨mb, k * 2, none⟩ = some (.int .u8 hd.toNat) := (heap_cell hm1 _).trans q1
      have km1 : wr.cell? ⟨mb, k * 2 + 1, none⟩ = some (.slice au nm cu) := (heap_cell hm1 _).trans q2
      have hmr := lt_of_heap hm1
      have hj2 : (k : Int) < 12 := by omega
      have HC := hid hc
      clear hm0 hm1 hm2 hm3 q1 q2 hc
      cases hs : s c with
      | none =>
        rw [hs] at q3
        obtain rfl : hd = 0 := q3
        have HT : Hid (toldUp s (k + 1) = toldUp s k) := toldUp_none HC.out hs
        clear hs
        go_wp2_with fail
        go_region
        go_wp2_with fail
        go_roundg (gk - 1)
        case measure => omega
        case rel =>
          refine ⟨k + 1, n, ao, capo, by omega, by omega, by go_num, rfl, ?_, ?_, ?_⟩
          · show _ = _
            rw [HT.out]; exact HN.out
          · rw [HT.out]
            exact row_below (Below.refl _ _) (World.ownsRow.alloc HOWN.out _)
          · exact below_drewX (HB.out.alloc (by omega) _)
      | some u =>
        rw [hs] at q3
        obtain ⟨rfl, hne, hsr⟩ := q3
        have hu := HG.out _ _ hs
        have hul : u.text.length ≤ 60 := hu.2.2
        have hk6 : k < 6 := by
          by_cases h : k < 6
          · exact h
          · have := lets_not h HC.out; rw [this] at hu; exact absurd hu.1 (by simp)
        have HT : Hid (toldUp s (k + 1) = toldUp s k ++ [(⟨#[c]⟩, ⟨u.text.toArray⟩)]) := toldUp_some hk6 HC.out hs
        have hz0' : ((u.head.toNat : Int) == 0) = false := by
          rw [beq_eq_false_iff_ne]; intro e
          exact hne (UInt8.toNat_inj.1 (by have : u.head.toNat = 0 := by omega
                                           rw [this]; rfl))
        have HSR := hid hsr
        have hsl : ∀ x : World, (Instr.slice 9 (.string ⟨#[88, 89, 90, 120, 121, 122, 49, 50, 51, 52, 53, 54]⟩) (some (.int .i64 (k : Int))) (some (.int .i64 ((k : Int) + 1))) none).run Try.prog x = .ok (.string ⟨#[c]⟩) x := fun x => by
          rw [run_slice_string x 9 ⟨#[88, 89, 90, 120, 121, 122, 49, 50, 51, 52, 53, 54]⟩ .i64 .i64 (k : Int) ((k : Int) + 1) Try.underlying9 (by omega) (by omega) (by show ((k : Int) + 1) ≤ 12; omega)]
          rw [show ((k : Int)).toNat = k by omega, show ((k : Int) + 1).toNat = k + 1 by omega]
          have h := slice_one [88, 89, 90, 120, 121, 122, 49, 50, 51, 52, 53, 54] k c HC.out
          exact congrArg (fun z => Result.ok (Value.string z) x) h
        clear hs hsr hu hne
        go_wp2_with fail
        go_region
        go_wp2_with fail
        have HBW0 : Hid (Below wr.heap.size wr (wr.alloc (.cells #[.int .u8 u.head.toNat, .slice au nm cu] 30)).drew) := below_drewX ((Below.refl _ _).alloc (Nat.le_refl _) _)
        have HNW0 : Hid ((wr.alloc (.cells #[.int .u8 u.head.toNat, .slice au nm cu] 30)).drew.heap[wr.heap.size]? = some (.cells #[.int .u8 u.head.toNat, .slice au nm cu] 30 (0, 0))) := heap_alloc_new _ _
        have HSW0 : Hid (SNode 0 (wr.alloc (.cells #[.int .u8 u.head.toNat, .slice au nm cu] 30)).drew u (.int .u8 u.head.toNat) (.slice au nm cu)) := HSR.out _ (fun k h1 h2 => HBW0.out.block k h2) HBW0.out.size
        have hz0W : (wr.alloc (.cells #[.int .u8 u.head.toNat, .slice au nm cu] 30)).drew.heap.size = wr.heap.size + 1 := by show (World.alloc _ _).heap.size = _; simp
        clear km0 km1
        generalize (wr.alloc (.cells #[.int .u8 u.head.toNat, .slice au nm cu] 30)).drew = W0 at *
        refine (l2Length_any (u.size + 1) u _ _ 0 W0 (by omega) (by omega) HSW0.out).mono ?_
        rintro e W ⟨rfl, hb⟩
        have HBW : Hid (Below wr.heap.size wr W) := HBW0.out.trans (hb.mono HBW0.out.size)
        have hbz2 := hb.size
        have HNW := hid (below_heap hb (by omega) HNW0.out)
        have d0 : W.cell? ⟨wr.heap.size, 0, none⟩ = some (.int .u8 u.head.toNat) := heap_cell HNW.out 0
        have d1 : W.cell? ⟨wr.heap.size, 1, none⟩ = some (.slice au nm cu) := heap_cell HNW.out 1
        have HSNW : Hid (SNode 0 W.drew u (.int .u8 u.head.toNat) (.slice au nm cu)) := Keeps.snode (w := W0) (w' := W.drew) (fun k h1 hk1 => hb.block k hk1) HSW0.out
        have HOW : Hid (W.ownsRow w.heap.size 45 2 (.slice ao n capo) n (flat (toldUp s k))) := row_below hb (row_below HBW0.out HOWN.out)
        have hbW : wr.heap.size < W.heap.size := by omega
        have hgt : ¬ (60 < u.text.length) := by omega
        have hob : Hid (∀ g, (Value.slice ao n capo).ownBlock = some g → g < wr.heap.size) := fun g h => (row_own HOWN.out g h).2
        clear hb HOWN HNW0 HSW0
        go_wp2_with fail
        refine wp_region_any (by kernel_rfl) ?_
        change wpAny _ _ _ _ _ _ _ (World.drew _)
        have SX : W.drew.cell? ⟨wr.heap.size, 0, none⟩ = some (.int .u8 u.head.toNat) ∧ W.drew.cell? ⟨wr.heap.size, 1, none⟩ = some (.slice au nm cu) := ⟨d0, d1⟩
        refine wpAny_of_T (S := fun X => X.cell? ⟨wr.heap.size, 0, none⟩ = some (.int .u8 u.head.toNat) ∧ X.cell? ⟨wr.heap.size, 1, none⟩ = some (.slice au nm cu)) (m := 11) _ _ _ _ ?_
        clear d0 d1
        refine wpAnyT_take (i := 0) (v := .slice ao n capo) rfl (by kernel_rfl) (by kernel_rfl) (by kernel_rfl) (by kernel_rfl) (fun _ _ _ h => h) (Or.inl ⟨by kernel_rfl, fun X hS => by obtain ⟨e0, e1⟩ := hS; go_simp⟩) SX ?_
        try go_simp
        refine wpAnyT_take (i := 1) (v := .int .i64 k) rfl (by kernel_rfl) (by kernel_rfl) (by kernel_rfl) (by kernel_rfl) (fun _ _ _ h => h) (Or.inl ⟨by kernel_rfl, fun X hS => by obtain ⟨e0, e1⟩ := hS; go_simp⟩) SX ?_
        try go_simp
        refine wpAnyT_take (i := 2) (v := .int .i64 k) rfl (by kernel_rfl) (by kernel_rfl) (by kernel_rfl) (by kernel_rfl) (fun _ _ _ h => h) (Or.inl ⟨by kernel_rfl, fun X hS => by obtain ⟨e0, e1⟩ := hS; go_simp⟩) SX ?_
        try go_simp
        refine wpAnyT_take (i := 3) (v := .int .i64 ((k : Int) + 1)) rfl (by kernel_rfl) (by kernel_rfl) (by kernel_rfl) (by kernel_rfl) (fun _ _ _ h => h) (Or.inl ⟨by kernel_rfl, fun X hS => by clear hS; go_simp; rw [IntKind.wrap_i64]; omega⟩) SX ?_
        try go_simp
        refine wpAnyT_take (i := 4) (v := .string ⟨#[c]⟩) rfl (by kernel_rfl) (by kernel_rfl) (by kernel_rfl) (by kernel_rfl) (fun _ _ _ h => h) (Or.inl ⟨by kernel_rfl, fun X hS => by clear hS; go_simp⟩) SX ?_
        try go_simp
        refine wpAnyT_take (i := 5) (v := .agg #[.int .u8 u.head.toNat, .slice au nm cu]) rfl (by kernel_rfl) (by kernel_rfl) (by kernel_rfl) (by kernel_rfl) (fun _ _ _ h => h) (Or.inl ⟨by kernel_rfl, fun X hS => by obtain ⟨e0, e1⟩ := hS; go_simp⟩) SX ?_
        try go_simp
        refine wpAnyT_one 6 rfl (by kernel_rfl) (fun K hK => ?_)
        go_simp
        refine (l1Text_any (u.size + 1) u _ _ 0 W.drew (by omega) (by omega) HSNW.out).mono ?_
        rintro e w6 ⟨rfl, hb⟩
        have HB6 : Hid (Below W.heap.size W w6) := ⟨hb.os, hb.tape, hb.output, hb.size, hb.block⟩
        have hz6 := HB6.out.size
        clear hb
        have SX6 : w6.cell? ⟨wr.heap.size, 0, none⟩ = some (.int .u8 u.head.toNat) ∧ w6.cell? ⟨wr.heap.size, 1, none⟩ = some (.slice au nm cu) := ⟨(HB6.out.cell (p := ⟨wr.heap.size, 0, none⟩) hbW).trans SX.1, (HB6.out.cell (p := ⟨wr.heap.size, 1, none⟩) hbW).trans SX.2⟩
        refine hK _ _ (fun _ => SX6) ?_
        clear hK K
        clear SX
        refine wpAnyT_take (i := 7) (v := .agg #[.string ⟨#[c]⟩, .string ⟨u.text.toArray⟩]) rfl (by kernel_rfl) (by kernel_rfl) (by kernel_rfl) (by kernel_rfl) (fun _ _ _ h => h) (Or.inl ⟨by kernel_rfl, fun X hS => by clear hS; go_simp⟩) SX6 ?_
        try go_simp
        have HN6 := hid (below_heap HB6.out hbW HNW.out)
        refine wpAnyT_one 8 rfl (by kernel_rfl) (fun K hK => ?_)
        go_simp
        refine hK _ _ (fun _ => ⟨heap_cell (hb_alloc HN6.out _) 0, heap_cell (hb_alloc HN6.out _) 1⟩) ?_
        clear hK K
        have HO8 : Hid ((w6.alloc (.cells #[.string ⟨#[c]⟩, .string ⟨u.text.toArray⟩] 45)).ownsRow w.heap.size 45 2 (.slice ao n capo) n (flat (toldUp s k))) := World.ownsRow.alloc (row_below HB6.out HOW.out) _
        have HB8 : Hid (Below w.heap.size w (w6.alloc (.cells #[.string ⟨#[c]⟩, .string ⟨u.text.toArray⟩] 45))) := (HB.out.trans ((HBW.out.trans (HB6.out.mono (by omega))).mono hbz)).alloc (by omega) _
        have hadd : ∀ j, (⟨w6.heap.size, 0, none⟩ : Addr).add j = ⟨w6.heap.size, j, none⟩ := fun j => by unfold Addr.add; split <;> simp_all
        refine wpAnyT_one 9 rfl (by kernel_rfl) (fun K hK => ?_)
        rw [if_pos (by kernel_rfl)]
        refine (wp_append_lies (w6.alloc (.cells #[.string ⟨#[c]⟩, .string ⟨u.text.toArray⟩] 45)) (Operand.tmp 27) (Operand.tmp 35) 22 rfl (w.heap.size) 45 ib (.agg #[.string ⟨#[]⟩, .string ⟨#[]⟩]) 2 32 Try.underlying22 hib hz0 hz1 hz2 rfl (by decide) (.slice ao n capo) n (flat (toldUp s k)) rfl HO8.out ⟨w6.heap.size, 0, none⟩ 1 1 [.string ⟨#[c]⟩, .string ⟨u.text.toArray⟩] rfl rfl (fun j v hj => by rw [hadd]; exact news_two (heap_cell (heap_alloc_new _ _) 0) (heap_cell (heap_alloc_new _ _) 1) j v hj) (by simp [Value.oneCell']) (by decide) (by unfold maxLen; omega) (by omega) (by simp; omega) _ rfl (fun g4 cap4 w9 hown hgr hlie hlt9 => hK _ _ (fun _ => ⟨?_, ?_⟩) ?_))
        · exact heap_cell (grown_keep hgr (hb_alloc HN6.out _) (fun e => by have := hob.out _ e.symm; omega)) 0
        · exact heap_cell (grown_keep hgr (hb_alloc HN6.out _) (fun e => by have := hob.out _ e.symm; omega)) 1
        have HN9 := hid (grown_keep hgr (hb_alloc HN6.out _) (fun e => by have := hob.out _ e.symm; omega))
        have HO9 := hid hown
        have HB9 : Hid (Below w.heap.size w w9) := HB8.out.grown hgr (by simp; omega) (fun g h => (row_own HO8.out g h).1)
        clear hK K hown hgr hlie hlt9
        refine wpAnyT_one 10 rfl (by kernel_rfl) (fun K hK => ?_)
        go_simp
        refine hK _ _ (fun _ => ⟨heap_cell HN9.out 0, heap_cell HN9.out 1⟩) ?_
        clear hK K
        refine wpAnyT_drop _ 11 _ _ _ (by decide) (by kernel_rfl) ?_
        change wpList _ _ _ [] _ _
        clear SX6
        go_wp2_with fail
        go_roundg (gk - 1)
        case measure => omega
        case rel =>
          refine ⟨k + 1, n + 1, some ⟨g4, 0, none⟩, cap4, by omega, by omega, by go_num, rfl, ?_, ?_, HB9.out⟩
          · show _ = _
            rw [HT.out, List.length_append, HN.out]; rfl
          · rw [HT.out, flat_app]; exact HO9.out
    · have hke : k = 12 := by omega
      subst hke
      have HT : Hid (toldUp s 12 = told s) := toldUp_all s
      have HL : Hid ((told s).length = n) := by show _ = _; rw [HN.out, HT.out]
      go_wp2_with fail
      go_ret2
      have h := HOWN.out
      rw [HT.out] at h
      refine ⟨ao, capo, ?_, ?_, HB.out⟩
      · rw [HL.out]; rfl
      · rw [HL.out]; exact h
theorem made_at {W : World} {b : Nat} (z : Nat) (hz : W.heap.size = z) (hB : b ≤ z) : (W.alloc (.cells #[] 45)).ownsRow b 45 2 (.slice (some ⟨z, 0, none⟩) 0 0) 0 [] := by
  subst hz
  exact World.ownsRow_made W #[] 0 hB (by simp [maxLen]) rfl
theorem map_made (P : Nat → Prop) (w : World) (z : Nat) (hz : w.heap.size = z) : MapAt P (w.alloc (.cells #[.int .u8 0, .slice none 0 0, .int .u8 0, .slice none 0 0, .int .u8 0, .slice none 0 0, .int .u8 0, .slice none 0 0, .int .u8 0, .slice none 0 0, .int .u8 0, .slice none 0 0, .int .u8 0, .slice none 0 0, .int .u8 0, .slice none 0 0, .int .u8 0, .slice none 0 0, .int .u8 0, .slice none 0 0, .int .u8 0, .slice none 0 0, .int .u8 0, .slice none 0 0] 35)) z (fun _ => none) := by
  subst hz
  refine ⟨fun _ _ => rfl, _, _, heap_alloc_new _ _, rfl, fun k hk c hc => ⟨0, none, 0, 0, ?_, ?_, rfl⟩⟩
  all_goals (rcases k with _ | _ | _ | _ | _ | _ | _ | _ | _ | _ | _ | _ | k <;> first | rfl | omega)
set_option maxHeartbeats 8000000 in
theorem MatchType_spec (lp lt : List UInt8) (w : World) (hp : lp.length ≤ 1073741824) (ht : lt.length ≤ 1073741824) : Calls Try.prog 5 #[.string ⟨lp.toArray⟩, .string ⟨lt.toArray⟩] w (MTPost w (matchO lp lt)) := by
  cases h1 : ty lp with
  | none =>
    have HR : Hid (matchO lp lt = none) := by show _ = _; unfold matchO; rw [h1]
    have HT1 := hid (fun W => l1Read_none lp W (by unfold maxLen; omega) h1)
    clear h1
    cases h2 : ty lt with
    | none =>
      have HT2 := hid (fun W => l1Read_none lt W (by unfold maxLen; omega) h2)
      clear h2
      go_enter Try.func5, Try.ntmps5
      go_wp2_with fail
      refine (HT1.out w).mono ?_
      rintro e w1 ⟨rfl, hb⟩
      have HB1 := hid hb
      clear hb
      go_wp2_with fail
      refine (HT2.out (w1.alloc (.cells #[.int .u8 0, .slice none 0 0] 30))).mono ?_
      rintro e w2 ⟨rfl, hb⟩
      have HB2 : Hid (Below w.heap.size w w2) := (HB1.out.alloc HB1.out.size _).trans (hb.mono (by have := HB1.out.size; simp; omega))
      clear hb
      go_wp2_with fail
      go_ret2
      have hz := HB2.out.size
      exact ⟨some ⟨w2.heap.size + 1 + 1, 0, none⟩, 0, by rw [HR.out]; rfl, by rw [HR.out]; exact made_at _ (by simp) (by omega), ((HB2.out.alloc hz _).alloc (by simp; omega) _).alloc (by simp; omega) _⟩
    | some t =>
      have HT2 := hid (fun W => l1Read_some lt t W h2)
      clear h2
      go_enter Try.func5, Try.ntmps5
      go_wp2_with fail
      refine (HT1.out w).mono ?_
      rintro e w1 ⟨rfl, hb⟩
      have HB1 := hid hb
      clear hb
      go_wp2_with fail
      refine (HT2.out (w1.alloc (.cells #[.int .u8 0, .slice none 0 0] 30))).mono ?_
      rintro e w2 ⟨h2, s2, rfl, hn, hb⟩
      obtain ⟨rfl, a2, n2, c2, rfl⟩ := hn.form
      have HN2 := hid hn
      clear hn
      have HB2 : Hid (Below w.heap.size w w2) := (HB1.out.alloc HB1.out.size _).trans (hb.mono (by have := HB1.out.size; simp; omega))
      clear hb
      go_wp2_with fail
      go_ret2
      have hz := HB2.out.size
      exact ⟨some ⟨w2.heap.size + 1 + 1, 0, none⟩, 0, by rw [HR.out]; rfl, by rw [HR.out]; exact made_at _ (by simp) (by omega), ((HB2.out.alloc hz _).alloc (by simp; omega) _).alloc (by simp; omega) _⟩
  | some p =>
    have HT1 := hid (fun W => l1Read_some lp p W h1)
    cases h2 : ty lt with
    | none =>
      have HR : Hid (matchO lp lt = none) := by show _ = _; unfold matchO; rw [h1, h2]
      have HT2 := hid (fun W => l1Read_none lt W (by unfold maxLen; omega) h2)
      clear h1 h2
      go_enter Try.func5, Try.ntmps5
      go_wp2_with fail
      refine (HT1.out w).mono ?_
      rintro e w1 ⟨h1, s1, rfl, hn, hb⟩
      obtain ⟨rfl, a1, n1, c1, rfl⟩ := hn.form
      have HN1 := hid hn
      clear hn
      have HB1 := hid hb
      clear hb
      go_wp2_with fail
      refine (HT2.out (w1.alloc (.cells #[.int .u8 p.head.toNat, .slice a1 n1 c1] 30))).mono ?_
      rintro e w2 ⟨rfl, hb⟩
      have HB2 : Hid (Below w.heap.size w w2) := (HB1.out.alloc HB1.out.size _).trans (hb.mono (by have := HB1.out.size; simp; omega))
      clear hb
      go_wp2_with fail
      go_ret2
      have hz := HB2.out.size
      exact ⟨some ⟨w2.heap.size + 1 + 1, 0, none⟩, 0, by rw [HR.out]; rfl, by rw [HR.out]; exact made_at _ (by simp) (by omega), ((HB2.out.alloc hz _).alloc (by simp; omega) _).alloc (by simp; omega) _⟩
    | some t =>
      have HR : Hid (matchO lp lt = mt p t (fun _ => none)) := by show _ = _; unfold matchO; rw [h1, h2]
      have HT2 := hid (fun W => l1Read_some lt t W h2)
      obtain ⟨e1, hwp, hl1⟩ := ty_some h1
      obtain ⟨e2, hwt, hl2⟩ := ty_some h2
      have HWP := hid hwp
      have HWT := hid hwt
      have hpl : p.text.length ≤ 60 := by rw [← e1]; exact hl1
      have htl : t.text.length ≤ 60 := by rw [← e2]; exact hl2
      clear e1 e2 h1 h2 hwp hwt
      cases hm : mt p t (fun _ => none) with
      | none =>
        have HM := hid hm
        have HRN : Hid (matchO lp lt = none) := HR.out.trans hm
        clear hm
        go_enter Try.func5, Try.ntmps5
        go_wp2_with fail
        refine (HT1.out w).mono ?_
        rintro e w1 ⟨h1, s1, rfl, hn, hb⟩
        obtain ⟨rfl, a1, n1, c1, rfl⟩ := hn.form
        have HN1 := hid hn
        clear hn
        have HB1 := hid hb
        clear hb
        go_wp2_with fail
        refine (HT2.out (w1.alloc (.cells #[.int .u8 p.head.toNat, .slice a1 n1 c1] 30))).mono ?_
        rintro e w2 ⟨h2, s2, rfl, hn, hb⟩
        obtain ⟨rfl, a2, n2, c2, rfl⟩ := hn.form
        have HN2 := hid hn
        clear hn
        have HB2 : Hid (Below w.heap.size w w2) := (HB1.out.alloc HB1.out.size _).trans (hb.mono (by have := HB1.out.size; simp; omega))
        have hb0 : Below w1.heap.size w1 w2 := ((Below.refl _ _).alloc (Nat.le_refl _) _).trans (hb.mono (by simp))
        have hz2 := hb.size
        simp only [World.size_alloc] at hz2
        have HBX := hid (below_heap hb (by simp) (heap_alloc_new w1 (.cells #[.int .u8 p.head.toNat, .slice a1 n1 c1] 30)))
        have HP3 : Hid (SNode 0 (w2.alloc (.cells #[.int .u8 t.head.toNat, .slice a2 n2 c2] 30)) p (.int .u8 p.head.toNat) (.slice a1 n1 c1)) := Keeps.snode (w := w1) (fun k h1 hk1 => (Below.heap_alloc _ _ _ (by omega)).trans (hb0.block k hk1)) (HN1.out.mono (Nat.zero_le _))
        have HT3 : Hid (SNode 0 (w2.alloc (.cells #[.int .u8 t.head.toNat, .slice a2 n2 c2] 30)) t (.int .u8 t.head.toNat) (.slice a2 n2 c2)) := Keeps.snode (w := w2) (fun k h1 hk1 => Below.heap_alloc _ _ _ hk1) (HN2.out.mono (Nat.zero_le _))
        have HY0 : Hid ((w2.alloc (.cells #[.int .u8 t.head.toNat, .slice a2 n2 c2] 30)).heap[w1.heap.size]? = some (.cells #[.int .u8 p.head.toNat, .slice a1 n1 c1] 30 (0, 0))) := hb_alloc HBX.out _
        have HY1 : Hid ((w2.alloc (.cells #[.int .u8 t.head.toNat, .slice a2 n2 c2] 30)).heap[w2.heap.size]? = some (.cells #[.int .u8 t.head.toNat, .slice a2 n2 c2] 30 (0, 0))) := heap_alloc_new _ _
        have HBW3 : Hid (Below w.heap.size w (w2.alloc (.cells #[.int .u8 t.head.toNat, .slice a2 n2 c2] 30))) := HB2.out.alloc HB2.out.size _
        have hzw3 : (w2.alloc (.cells #[.int .u8 t.head.toNat, .slice a2 n2 c2] 30)).heap.size = w2.heap.size + 1 := by simp
        have HMM : Hid (MapAt (fun k => k < (w2.alloc (.cells #[.int .u8 t.head.toNat, .slice a2 n2 c2] 30)).heap.size) ((w2.alloc (.cells #[.int .u8 t.head.toNat, .slice a2 n2 c2] 30)).alloc (.cells #[.int .u8 0, .slice none 0 0, .int .u8 0, .slice none 0 0, .int .u8 0, .slice none 0 0, .int .u8 0, .slice none 0 0, .int .u8 0, .slice none 0 0, .int .u8 0, .slice none 0 0, .int .u8 0, .slice none 0 0, .int .u8 0, .slice none 0 0, .int .u8 0, .slice none 0 0, .int .u8 0, .slice none 0 0, .int .u8 0, .slice none 0 0, .int .u8 0, .slice none 0 0] 35)) (w2.heap.size + 1) (fun _ => none)) := map_made _ _ _ (by simp)
        have kb0 := heap_cell HBX.out 0
        have kb1 := heap_cell HBX.out 1
        have hl12 : w1.heap.size < w2.heap.size := by omega
        clear hb hb0 HBX HN1 HN2
        go_wp2_with fail
        clear kb0 kb1
        refine (l2Match_any (p.size + 1) p t _ _ _ _ (w2.alloc (.cells #[.int .u8 t.head.toNat, .slice a2 n2 c2] 30)) _ (w2.heap.size + 1) (fun _ => none) (by omega) HWP.out HWT.out htl gs_none (fun k _ hk => Below.heap_alloc _ _ _ hk) HMM.out (by simp) HP3.out HT3.out).mono ?_
        rintro e w4 ⟨rfl, hg4, hm4⟩
        rw [HM.out]
        have HB4 : Hid (Below w.heap.size w w4) := ((HBW3.out.alloc (by have := HBW3.out.size; exact this) _).grown hg4 (by have := HBW3.out.size; simp at this ⊢; omega) (fun g h => by cases h; have := HBW3.out.size; simp at this; omega))
        have HM4 := hid hm4
        have hz4 : w2.heap.size + 2 ≤ w4.heap.size := by have := hg4.size; simpa using this
        clear hg4 hm4
        go_wp2_with fail
        go_ret2
        exact ⟨some ⟨w4.heap.size, 0, none⟩, 0, by rw [HRN.out]; rfl, by rw [HRN.out]; exact World.ownsRow_made w4 #[] 0 HB4.out.size (by simp [maxLen]) rfl, HB4.out.alloc HB4.out.size _⟩
      | some s =>
        have HM := hid hm
        have HRN : Hid (matchO lp lt = some s) := HR.out.trans hm
        have HGS : Hid (GS 60 s) := mt_gs p t _ s 60 HWP.out HWT.out htl gs_none hm
        clear hm
        go_enter Try.func5, Try.ntmps5
        go_wp2_with fail
        refine (HT1.out w).mono ?_
        rintro e w1 ⟨h1, s1, rfl, hn, hb⟩
        obtain ⟨rfl, a1, n1, c1, rfl⟩ := hn.form
        have HN1 := hid hn
        clear hn
        have HB1 := hid hb
        clear hb
        go_wp2_with fail
        refine (HT2.out (w1.alloc (.cells #[.int .u8 p.head.toNat, .slice a1 n1 c1] 30))).mono ?_
        rintro e w2 ⟨h2, s2, rfl, hn, hb⟩
        obtain ⟨rfl, a2, n2, c2, rfl⟩ := hn.form
        have HN2 := hid hn
        clear hn
        have HB2 : Hid (Below w.heap.size w w2) := (HB1.out.alloc HB1.out.size _).trans (hb.mono (by have := HB1.out.size; simp; omega))
        have hb0 : Below w1.heap.size w1 w2 := ((Below.refl _ _).alloc (Nat.le_refl _) _).trans (hb.mono (by simp))
        have hz2 := hb.size
        simp only [World.size_alloc] at hz2
        have HBX := hid (below_heap hb (by simp) (heap_alloc_new w1 (.cells #[.int .u8 p.head.toNat, .slice a1 n1 c1] 30)))
        have HP3 : Hid (SNode 0 (w2.alloc (.cells #[.int .u8 t.head.toNat, .slice a2 n2 c2] 30)) p (.int .u8 p.head.toNat) (.slice a1 n1 c1)) := Keeps.snode (w := w1) (fun k h1 hk1 => (Below.heap_alloc _ _ _ (by omega)).trans (hb0.block k hk1)) (HN1.out.mono (Nat.zero_le _))
        have HT3 : Hid (SNode 0 (w2.alloc (.cells #[.int .u8 t.head.toNat, .slice a2 n2 c2] 30)) t (.int .u8 t.head.toNat) (.slice a2 n2 c2)) := Keeps.snode (w := w2) (fun k h1 hk1 => Below.heap_alloc _ _ _ hk1) (HN2.out.mono (Nat.zero_le _))
        have HY0 : Hid ((w2.alloc (.cells #[.int .u8 t.head.toNat, .slice a2 n2 c2] 30)).heap[w1.heap.size]? = some (.cells #[.int .u8 p.head.toNat, .slice a1 n1 c1] 30 (0, 0))) := hb_alloc HBX.out _
        have HY1 : Hid ((w2.alloc (.cells #[.int .u8 t.head.toNat, .slice a2 n2 c2] 30)).heap[w2.heap.size]? = some (.cells #[.int .u8 t.head.toNat, .slice a2 n2 c2] 30 (0, 0))) := heap_alloc_new _ _
        have HBW3 : Hid (Below w.heap.size w (w2.alloc (.cells #[.int .u8 t.head.toNat, .slice a2 n2 c2] 30))) := HB2.out.alloc HB2.out.size _
        have hzw3 : (w2.alloc (.cells #[.int .u8 t.head.toNat, .slice a2 n2 c2] 30)).heap.size = w2.heap.size + 1 := by simp
        have HMM : Hid (MapAt (fun k => k < (w2.alloc (.cells #[.int .u8 t.head.toNat, .slice a2 n2 c2] 30)).heap.size) ((w2.alloc (.cells #[.int .u8 t.head.toNat, .slice a2 n2 c2] 30)).alloc (.cells #[.int .u8 0, .slice none 0 0, .int .u8 0, .slice none 0 0, .int .u8 0, .slice none 0 0, .int .u8 0, .slice none 0 0, .int .u8 0, .slice none 0 0, .int .u8 0, .slice none 0 0, .int .u8 0, .slice none 0 0, .int .u8 0, .slice none 0 0, .int .u8 0, .slice none 0 0, .int .u8 0, .slice none 0 0, .int .u8 0, .slice none 0 0, .int .u8 0, .slice none 0 0] 35)) (w2.heap.size + 1) (fun _ => none)) := map_made _ _ _ (by simp)
        have kb0 := heap_cell HBX.out 0
        have kb1 := heap_cell HBX.out 1
        have hl12 : w1.heap.size < w2.heap.size := by omega
        clear hb hb0 HBX HN1 HN2
        go_wp2_with fail
        clear kb0 kb1
        refine (l2Match_any (p.size + 1) p t _ _ _ _ (w2.alloc (.cells #[.int .u8 t.head.toNat, .slice a2 n2 c2] 30)) _ (w2.heap.size + 1) (fun _ => none) (by omega) HWP.out HWT.out htl gs_none (fun k _ hk => Below.heap_alloc _ _ _ hk) HMM.out (by simp) HP3.out HT3.out).mono ?_
        rintro e w4 ⟨rfl, hg4, hm4⟩
        rw [HM.out]
        have HB4 : Hid (Below w.heap.size w w4) := ((HBW3.out.alloc (by have := HBW3.out.size; exact this) _).grown hg4 (by have := HBW3.out.size; simp at this ⊢; omega) (fun g h => by cases h; have := HBW3.out.size; simp at this; omega))
        have HM4 := hid hm4
        have hz4 : w2.heap.size + 2 ≤ w4.heap.size := by have := hg4.size; simpa using this
        clear hg4 hm4
        go_wp2_with fail
        refine (l2Told_any s w4 (w2.heap.size + 1) (MapAt.mono (HM4.out s HM.out) (fun k h1 h => h1)) HGS.out).mono ?_
        rintro e w5 ⟨a, cap, rfl, hrow, hb⟩
        have HROW : Hid (w5.ownsRow w.heap.size 45 2 (.slice a (told s).length cap) (told s).length (flat (told s))) := row_mono hrow HB4.out.size
        have HB5 : Hid (Below w.heap.size w w5) := HB4.out.trans (hb.mono HB4.out.size)
        clear hrow hb
        go_wp2_with fail
        go_ret2
        exact ⟨a, cap, by rw [HRN.out]; rfl, by rw [HRN.out]; exact HROW.out, HB5.out⟩
theorem IsInstance_spec (lp lt : List UInt8) (w : World) (hp : lp.length ≤ 1073741824) (ht : lt.length ≤ 1073741824) : Calls Try.prog 10 #[.string ⟨lp.toArray⟩, .string ⟨lt.toArray⟩] w fun e w' => e = .returned (.bool (matchO lp lt).isSome) ∧ Below w.heap.size w w' := by
  go_enter Try.func10, Try.ntmps10
  go_wp2_with fail
  refine (MatchType_spec lp lt w hp ht).mono ?_
  rintro e w1 ⟨a, cap, rfl, hrow, hb⟩
  have HB := hid hb
  clear hrow hb
  go_wp2_with fail
  go_ret
  exact ⟨rfl, HB.out⟩
end MatS
end Go.Proofs.Ytlhildfiddphcaa
