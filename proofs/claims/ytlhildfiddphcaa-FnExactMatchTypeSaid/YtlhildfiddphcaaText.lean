/- The texts of types of both sides, and PartsOf. Conditions: a text of at most 1000 bytes. -/
import Derived.Test.YtlhildfiddphcaaParts
set_option linter.unusedVariables false
set_option linter.unusedSimpArgs false
set_option maxRecDepth 100000
namespace Go.Proofs.Ytlhildfiddphcaa
open Go.RowKit Ty ListS Parts
namespace Text
theorem infoStr : (Try.prog.info? 9).map (fun i => (i.zero, i.size, i.bytes)) = some (some (.string ⟨#[]⟩), 1, 16) := by kernel_rfl
/-- what the loop over the parts of node b knows -/
def LR (w : World) (t : Ty) (q : Nat) (o i : Value) (wr : World) : Prop :=
  ∃ (k g cap : Nat), k ≤ t.parts.length ∧ t.parts.length - k ≤ q ∧ i = .int .i64 k ∧ o = .slice (some ⟨g, 0, none⟩) k cap ∧ wr.ownsRow w.heap.size 9 1 (.slice (some ⟨g, 0, none⟩) k cap) k (strs (texts (t.parts.take k))) ∧ Below w.heap.size w wr ∧ w.heap.size ≤ wr.heap.size
theorem texts_snoc (t u : Ty) (k : Nat) (h : t.parts[k]? = some u) : strs (texts (t.parts.take (k + 1))) = strs (texts (t.parts.take k)) ++ [.string ⟨u.text.toArray⟩] := by
  obtain ⟨hlt, rfl⟩ := List.getElem?_eq_some_iff.1 h
  rw [List.take_succ_eq_append_getElem hlt]
  simp only [texts, strs, List.map_append, List.map_cons, List.map_nil]
set_option maxHeartbeats 4000000 in
theorem text_impl (n : Nat) : ∀ (t : Ty) (b lo : Nat) (w : World), t.size < n → t.text.length ≤ 1000 → INode lo w t b → Calls Try.prog 26 #[.pointer (some ⟨b, 0, none⟩)] w fun e w' => e = .returned (.string ⟨t.text.toArray⟩) ∧ Below w.heap.size w w' := by
  induction n with
  | zero => intro t b lo w h; omega
  | succ n ih =>
    intro t b lo w hn hlen hnode
    obtain ⟨hlo, v, ps, hh, hv, hp⟩ := inode hnode
    have hbl := lt_of_heap hh
    have k0 := heap_cell hh 0
    have k1 := heap_cell hh 1
    have HH := hid hh
    have IH := hid ih
    have hln : Hid (t.text = t.head :: (pre t.parts ++ close t.parts)) := text_pre t
    clear ih hnode hh
    obtain ⟨a, cap, rfl⟩ := row_slice hv
    have HV := hid hv
    have HP := hid hp
    clear hv hp
    by_cases h0 : t.parts.length = 0
    · have hz0 : ((t.parts.length : Int) == 0) = true := by rw [h0]; rfl
      have h00 : t.parts.length ≤ 0 := by omega
      clear h0
      go_enter Try.func26, Try.ntmps26
      go_wp2
      go_ret
      refine ⟨?_, Below.refl _ _⟩
      have e0 : t.parts = [] := List.eq_nil_of_length_eq_zero (by omega)
      rw [hln.out, e0]
      rfl
    · have hz0 : ((t.parts.length : Int) == 0) = false := by rw [beq_eq_false_iff_ne]; omega
      have h00 : 0 < t.parts.length := by omega
      clear h0
      go_enter Try.func26, Try.ntmps26
      go_wp2_with fail
      go_loopg [3, 22] t.parts.length (fun q o i wr => LR w t q o i wr)
      case atStart => exact ⟨0, w.heap.size, 0, Nat.zero_le _, by simp, rfl, rfl, World.ownsRow_made w #[] 0 (Nat.le_refl _) (by simp [maxLen]) rfl, (Below.refl _ _).alloc (Nat.le_refl _) _, by simp⟩
      case round =>
        obtain ⟨k, g, cap, hk, hq, rfl, rfl, hrow, hb, hz⟩ := hrel
        have HR := hid hrow
        have HB := hid hb
        clear hrow hb
        by_cases hlt : k < t.parts.length
        · obtain ⟨u, hu⟩ : ∃ u, t.parts[k]? = some u := ⟨_, List.getElem?_eq_getElem hlt⟩
          obtain ⟨p, hp, hnp⟩ := HP.out k u hu
          obtain ⟨g0, cap0, e0, -, hg0, cs0, hc0, hd0⟩ := row_at HV.out (by omega)
          cases e0
          have kp : wr.cell? ⟨g0, k, none⟩ = some (.pointer (some ⟨p, 0, none⟩)) := (HB.out.cell (p := ⟨g0, k, none⟩) (by show g0 < w.heap.size; exact hg0)).trans ((heap_cell hc0 k).trans (hd0 k _ hp))
          have hts := hid (texts_snoc t u k hu)
          have hlen : (texts (t.parts.take k)).length = k := by simp [texts]; omega
          have HN := hid hnp
          have hus := text_parts_le t u k hu
          have hszu := size_parts t u k hu
          have h2 := parts_len t
          clear hd0 hc0 hp hnp hu
          generalize strs (texts (t.parts.take k)) = xv at *
          go_wp2_with fail
          refine (IH.out u p lo wr (by omega) (by omega) ((keeps_of HB.out _).inode HN.out)).mono ?_
          rintro e w1 ⟨rfl, hb1⟩
          have HR1 := hid (row_below hb1 HR.out)
          have hz1 := hb1.size
          have HB1 : Hid (Below w.heap.size w w1) := HB.out.trans (hb1.mono hz)
          clear hb1
          go_wp2_with (first
            | (at_builtin; refine app_push_at 62 9 (.string ⟨#[]⟩) 1 16 Try.underlying62 infoStr rfl (by decide) rfl _ _ rfl w.heap.size (.slice (some ⟨g, 0, none⟩) k cap) k xv rfl (World.ownsRow.alloc HR1.out _) w1.heap.size 1 [.string ⟨u.text.toArray⟩] rfl rfl (news_one (heap_cell (heap_alloc_new _ _) 0)) (by simp [Value.oneCell']) (by unfold maxLen; omega) (by omega) (by simp; omega) ?_))
          intro g1 cap1 w2 hown hgr hlie
          have hz2 := hgr.size
          simp only [World.size_alloc] at hz2
          have HB2 : Hid (Below w.heap.size w w2) := (HB1.out.alloc (by omega) _).grown hgr (by simp; omega) (by have := (row_block HR1.out).1; simp [Value.ownBlock]; omega)
          have HO := hid hown
          clear hown hgr hlie kp
          go_wp2
          go_roundg (gk - 1)
          case measure => omega
          case rel => exact ⟨k + 1, g1, cap1, by omega, by omega, by go_num, rfl, by rw [hts.out]; exact HO.out, HB2.out, by omega⟩
        · have hke : k = t.parts.length := by omega
          subst hke
          have hxs : Hid ((texts (t.parts.take t.parts.length)).length = t.parts.length ∧ pre t.parts = 40 :: Lib.join ((texts (t.parts.take t.parts.length)).map (·.data.toList)) [44]) := by
            have e1 := List.take_length (l := t.parts)
            refine ⟨by simp [texts], ?_⟩
            rw [e1]
            exact (join_pre t.parts (by intro e; rw [e] at h00; simp at h00)).symm
          have hjl : (Lib.join ((texts (t.parts.take t.parts.length)).map (·.data.toList)) [44]).length ≤ 1000 := by
            have h1 := pre_len t t.parts.length
            rw [List.take_length, hxs.out.2] at h1
            simp only [List.length_cons] at h1
            omega
          have h2 := parts_len t
          have kb : wr.cell? ⟨b, 0, none⟩ = some (.string ⟨#[t.head]⟩) := (HB.out.cell (p := ⟨b, 0, none⟩) hbl).trans k0
          generalize texts (t.parts.take t.parts.length) = xs at *
          go_wp2_with fail
          refine wp_region_any (by kernel_rfl) ?_
          change wpAny _ _ _ _ _ _ _ (World.drew _)
          refine wpAny_take (i := 0) (v := .pointer (some ⟨b, 0, none⟩)) rfl (by kernel_rfl) (by kernel_rfl) (by kernel_rfl) (fun _ _ _ h => h) (Or.inl ⟨by rfl, fun _ => by go_simp⟩) ?_
          refine wpAny_take (i := 1) (v := .pointer (some ⟨b, 0, none⟩)) rfl (by kernel_rfl) (by kernel_rfl) (by kernel_rfl) (fun _ _ _ h => h) (Or.inl ⟨by rfl, fun _ => by go_simp⟩) ?_
          refine wpAny_take (i := 2) (v := .pointer (some ⟨b, 0, none⟩)) rfl (by kernel_rfl) (by kernel_rfl) (by kernel_rfl) (fun _ _ _ h => h) (Or.inl ⟨by rfl, fun _ => by go_simp⟩) ?_
          refine wpAny_take (i := 5) (v := .slice (some ⟨g, 0, none⟩) t.parts.length cap) rfl (by kernel_rfl) (by kernel_rfl) (by kernel_rfl) (fun _ _ _ h => h) (Or.inl ⟨by rfl, fun _ => by go_simp⟩) ?_
          refine wpAny_of_T (S := fun X => X.cell? ⟨b, 0, none⟩ = some (.string ⟨#[t.head]⟩)) (m := 9) _ _ _ _ ?_
          refine wpAnyT_take (i := 3) (v := .string ⟨#[t.head]⟩) rfl (by kernel_rfl) (by kernel_rfl) (by kernel_rfl) (by kernel_rfl) (fun _ _ _ h => h) (Or.inl ⟨by rfl, fun X hS => by have hS1 : X.cell? ⟨b, 0, none⟩ = some (.string ⟨#[t.head]⟩) := hS; clear hS; go_simp⟩) kb ?_
          refine wpAnyT_take (i := 4) (v := .string (⟨#[t.head]⟩ ++ ⟨#[40]⟩)) rfl (by kernel_rfl) (by kernel_rfl) (by kernel_rfl) (by kernel_rfl) (fun _ _ _ h => h) (Or.inl ⟨by rfl, fun X hS => by clear hS; go_simp⟩) kb ?_
          refine wpAnyT_one 6 rfl (by kernel_rfl) (fun K hK => ?_)
          go_simp
          have hj := join_row xs ⟨#[44]⟩ (.slice (some ⟨g, 0, none⟩) t.parts.length cap) w.heap.size wr.drew (by rw [hxs.out.1]; exact HR.out) (by rw [hxs.out.1]; omega) (by show (Lib.join (xs.map (·.data.toList)) [44]).length ≤ _; omega)
          rw [show (ByteArray.mk #[44]).data.toList = [44] from rfl] at hj
          refine hj.mono ?_
          rintro e w1 ⟨rfl, hb⟩
          have HB1 : Hid (Below w.heap.size w w1) := HB.out.drew.trans (hb.mono hz)
          have kb1 : w1.cell? ⟨b, 0, none⟩ = some (.string ⟨#[t.head]⟩) := (hb.cell (p := ⟨b, 0, none⟩) (by show b < wr.heap.size; omega)).trans kb
          refine hK _ _ (fun _ => kb1) ?_
          clear hK K hb hj
          generalize Lib.join (xs.map (·.data.toList)) [44] = js at *
          have hno1 : ¬ 9223372036854775807 < 2 + js.length := by omega
          have hno2 : ¬ 9223372036854775807 < 2 + js.length + 1 := by omega
          refine wpAnyT_one 7 rfl (by kernel_rfl) (fun K hK => ?_)
          go_simp
          refine hK _ _ (fun _ => kb1) ?_
          clear hK K
          refine wpAnyT_one 8 rfl (by kernel_rfl) (fun K hK => ?_)
          go_simp
          refine hK _ _ (fun _ => kb1) ?_
          clear hK K
          refine wpAnyT_drop _ 9 _ _ _ (Nat.le_refl _) (by kernel_rfl) ?_
          change wpList _ _ _ (_ :: _) _ _
          go_wp2
          go_ret
          refine ⟨ret_string ?_, HB1.out⟩
          have e0 : close t.parts = [41] := by unfold close; rw [if_neg (by intro e; rw [e] at h00; simp at h00)]
          rw [hln.out, hxs.out.2, e0]
          apply ByteArray.ext
          simp

theorem sep_ext (t : Ty) (k : Nat) (h : k < t.parts.length) : (ByteArray.mk #[40, 44]).extract k (k + 1) = ⟨#[sep (t.parts.take k)]⟩ := by
  have h2 := parts_len t
  have : k = 0 ∨ k = 1 := by omega
  rcases this with rfl | rfl
  · rfl
  · have : t.parts.take 1 ≠ [] := by
      cases hp : t.parts with
      | nil => rw [hp] at h; simp at h
      | cons a b => simp
    simp [sep, this]
    rfl
theorem oneCells {lo : Nat} {w : World} {t : Ty} {h s : Value} (hn : SNode lo w t h s) : ∃ a n cap, s = .slice a n cap := (hn.form).2
def LS (w : World) (t : Ty) (s : Value) (q : Nat) (o i : Value) (wr : World) : Prop :=
  ∃ (k : Nat), k ≤ t.parts.length ∧ t.parts.length - k ≤ q ∧ i = .int .i64 k ∧ o = .string ⟨(t.head :: pre (t.parts.take k)).toArray⟩ ∧ Below w.heap.size w wr ∧ w.heap.size < wr.heap.size ∧ wr.heap[w.heap.size]? = some (.cells #[.int .u8 t.head.toNat, s] 30 (0, 0))
theorem below_row {B : Nat} {w w' : World} (h : Below B w w') {base : Nat} {e : TypeId} {size : Nat} {v : Value} {n : Nat} {xs : List Value} (ho : w.ownsRow base e size v n xs) (hB : w.heap.size ≤ B) : w'.ownsRow base e size v n xs := Keeps.row (base := base) (fun k _ hk => h.block k (by omega)) ho
set_option maxHeartbeats 4000000 in
theorem l1Text_any (n : Nat) : ∀ (t : Ty) (h s : Value) (lo : Nat) (w : World), t.size < n → t.text.length ≤ 1000 → SNode lo w t h s → Calls Try.prog 22 #[.agg #[h, s]] w fun e w' => e = .returned (.string ⟨t.text.toArray⟩) ∧ Below w.heap.size w w' := by
  induction n with
  | zero => intro t h s lo w hn; omega
  | succ n ih =>
    intro t h s lo w hn hlen hnode
    obtain ⟨rfl, ps, hrow, hp⟩ := snode hnode
    obtain ⟨a, cap, rfl⟩ := row_slice hrow
    have HV := hid hrow
    have HP := hid hp
    have IH := hid ih
    have hln : Hid (t.text = t.head :: (pre t.parts ++ close t.parts)) := text_pre t
    have hlt256 := t.head.toNat_lt
    have hcv := fun wx => run_byte (P := Try.prog) wx 67 9 5 Try.underlying67 Try.underlying5 Try.underlying9 t.head (t.head.toNat : Int) rfl
    have hcv0 := hcv (w.alloc (.cells #[.int .u8 t.head.toNat, .slice a t.parts.length cap] 30))
    simp only [World.size_alloc] at hcv0
    clear ih hnode hrow hp hcv
    go_enter Try.func22, Try.ntmps22
    go_wp2_with fail
    clear hcv0
    go_loopg [3, 13] t.parts.length (fun q o i wr => LS w t (.slice a t.parts.length cap) q o i wr)
    case atStart => exact ⟨0, Nat.zero_le _, by simp, rfl, rfl, ((Below.refl _ _).alloc (Nat.le_refl _) _).alloc (by simp) _, by simp; omega, hb_alloc (heap_alloc_new w _) _⟩
    case round =>
      obtain ⟨k, hk, hq, rfl, rfl, hb, hz, hbox⟩ := hrel
      have HB := hid hb
      have HBOX := hid hbox
      clear hb hbox
      by_cases hlt : k < t.parts.length
      · obtain ⟨u, hu⟩ : ∃ u, t.parts[k]? = some u := ⟨_, List.getElem?_eq_getElem hlt⟩
        obtain ⟨h1, s1, e1, e2, hnu⟩ := HP.out k u hu
        obtain ⟨eh, sa, sn, sc, es⟩ := hnu.form
        subst eh es
        obtain ⟨g0, cap0, e0, -, hg0, cs0, hc0, hd0⟩ := row_at HV.out (by omega)
        cases e0
        have c0 : wr.cell? ⟨g0, k * 2, none⟩ = some (.int .u8 u.head.toNat) := (HB.out.cell (p := ⟨g0, k * 2, none⟩) hg0).trans ((heap_cell hc0 _).trans (hd0 _ _ e1))
        have c1 : wr.cell? ⟨g0, k * 2 + 1, none⟩ = some (.slice sa sn sc) := (HB.out.cell (p := ⟨g0, k * 2 + 1, none⟩) hg0).trans ((heap_cell hc0 _).trans (hd0 _ _ e2))
        have hgr : g0 < wr.heap.size := by omega
        have HN := hid hnu
        have hus := text_parts_le t u k hu
        have hszu := size_parts t u k hu
        have h2 := parts_len t
        have hsep := sep_ext t k hlt
        have hpre : Hid (pre (t.parts.take (k + 1)) = pre (t.parts.take k) ++ sep (t.parts.take k) :: u.text) := by
          show _ = _
          obtain ⟨hlt2, rfl⟩ := List.getElem?_eq_some_iff.1 hu
          rw [List.take_succ_eq_append_getElem hlt2, pre_snoc]
        have hpl := pre_len t k
        generalize pre (t.parts.take k) = pk at *
        generalize sep (t.parts.take k) = sk at *
        clear hd0 hc0 e1 e2 hnu hu
        go_wp2_with fail
        have d0 : (wr.alloc (.cells #[.int .u8 u.head.toNat, .slice sa sn sc] 30)).cell? ⟨wr.heap.size, 0, none⟩ = some (.int .u8 u.head.toNat) := heap_cell (heap_alloc_new _ _) 0
        have d1 : (wr.alloc (.cells #[.int .u8 u.head.toNat, .slice sa sn sc] 30)).cell? ⟨wr.heap.size, 1, none⟩ = some (.slice sa sn sc) := heap_cell (heap_alloc_new _ _) 1
        have HB1 : Hid (Below w.heap.size w (wr.alloc (.cells #[.int .u8 u.head.toNat, .slice sa sn sc] 30))) := HB.out.alloc (by omega) _
        have HBOX1 := hid (hb_alloc HBOX.out (.cells #[.int .u8 u.head.toNat, .slice sa sn sc] 30))
        have hz1 : w.heap.size < (wr.alloc (.cells #[.int .u8 u.head.toNat, .slice sa sn sc] 30)).heap.size := by simp; omega
        have hzb : wr.heap.size < (wr.alloc (.cells #[.int .u8 u.head.toNat, .slice sa sn sc] 30)).heap.size := by simp
        obtain ⟨bb, hbb⟩ : ∃ x, x = wr.heap.size := ⟨_, rfl⟩
        rw [← hbb] at d0 d1 hzb
        rw [← hbb]
        generalize wr.alloc (.cells #[.int .u8 u.head.toNat, .slice sa sn sc] 30) = W at *
        clear hbb c0 c1
        refine wp_region_any (by kernel_rfl) ?_
        change wpAny _ _ _ _ _ _ _ (World.drew _)
        refine wpAny_take (i := 0) (v := .string ⟨(t.head :: pk).toArray⟩) rfl (by kernel_rfl) (by kernel_rfl) (by kernel_rfl) (fun _ _ _ h => h) (Or.inl ⟨by rfl, fun _ => by go_simp⟩) ?_
        refine wpAny_take (i := 1) (v := .int .i64 k) rfl (by kernel_rfl) (by kernel_rfl) (by kernel_rfl) (fun _ _ _ h => h) (Or.inl ⟨by rfl, fun _ => by go_simp⟩) ?_
        refine wpAny_take (i := 2) (v := .int .i64 k) rfl (by kernel_rfl) (by kernel_rfl) (by kernel_rfl) (fun _ _ _ h => h) (Or.inl ⟨by rfl, fun _ => by go_simp⟩) ?_
        have hwk : IntKind.i64.wrap ((k : Int) + 1) = (k : Int) + 1 := IntWalk.i64_in _ (by omega)
        refine wpAny_take (i := 3) (v := .int .i64 ((k : Int) + 1)) rfl (by kernel_rfl) (by kernel_rfl) (by kernel_rfl) (fun _ _ _ h => h) (Or.inl ⟨by rfl, fun _ => by go_simp⟩) ?_
        have hsl : ∀ x : World, (Instr.slice 9 (.string ⟨#[40, 44]⟩) (some (.int .i64 (k : Int))) (some (.int .i64 ((k : Int) + 1))) none).run Try.prog x = .ok (.string ⟨#[sk]⟩) x := fun x => by
          rw [run_slice_string x 9 ⟨#[40, 44]⟩ .i64 .i64 (k : Int) ((k : Int) + 1) Try.underlying9 (by omega) (by omega) (by show (k : Int) + 1 ≤ 2; omega)]
          rw [show ((k : Int)).toNat = k by omega, show ((k : Int) + 1).toNat = k + 1 by omega, hsep]
        refine wpAny_take (i := 4) (v := .string ⟨#[sk]⟩) rfl (by kernel_rfl) (by kernel_rfl) (by kernel_rfl) (fun _ _ _ h => h) (Or.inl ⟨by rfl, fun _ => by go_simp⟩) ?_
        clear hsl
        have hn1 : ¬ 9223372036854775807 < pk.length + 1 + 1 := by omega
        refine wpAny_take (i := 5) (v := .string (⟨(t.head :: pk).toArray⟩ ++ ⟨#[sk]⟩)) rfl (by kernel_rfl) (by kernel_rfl) (by kernel_rfl) (fun _ _ _ h => h) (Or.inl ⟨by rfl, fun _ => by go_simp⟩) ?_
        refine wpAny_of_T (S := fun X => X.cell? ⟨bb, 0, none⟩ = some (.int .u8 u.head.toNat) ∧ X.cell? ⟨bb, 1, none⟩ = some (.slice sa sn sc)) (m := 9) _ _ _ _ ?_
        have HS0 := (⟨d0, d1⟩ : W.drew.cell? ⟨bb, 0, none⟩ = some (.int .u8 u.head.toNat) ∧ W.drew.cell? ⟨bb, 1, none⟩ = some (.slice sa sn sc))
        refine wpAnyT_take (i := 6) (v := .agg #[.int .u8 u.head.toNat, .slice sa sn sc]) rfl (by kernel_rfl) (by kernel_rfl) (by kernel_rfl) (by kernel_rfl) (fun _ _ _ h => h) (Or.inl ⟨by rfl, fun X hS => by obtain ⟨e0, e1⟩ := hS; clear d0 d1 HS0; go_simp⟩) HS0 ?_
        refine wpAnyT_one 7 rfl (by kernel_rfl) (fun K hK => ?_)
        go_simp
        refine (IH.out u _ _ lo W.drew (by omega) (by omega) (Keeps.snode (keeps_of (w := w) (w' := W.drew) HB1.out.drew _) HN.out)).mono ?_
        rintro e w2 ⟨rfl, hb⟩
        have HB2 : Hid (Below w.heap.size w w2) := HB1.out.drew.trans (hb.mono (by show w.heap.size ≤ W.heap.size; omega))
        have HBOX2 : Hid (w2.heap[w.heap.size]? = some (.cells #[.int .u8 t.head.toNat, .slice (some ⟨g0, 0, none⟩) t.parts.length cap] 30 (0, 0))) := (hb.block w.heap.size (by show w.heap.size < W.heap.size; omega)).trans HBOX1.out
        have hz2 : W.heap.size ≤ w2.heap.size := hb.size
        have S2 : w2.cell? ⟨bb, 0, none⟩ = some (.int .u8 u.head.toNat) ∧ w2.cell? ⟨bb, 1, none⟩ = some (.slice sa sn sc) := ⟨(hb.cell (p := ⟨bb, 0, none⟩) hzb).trans d0, (hb.cell (p := ⟨bb, 1, none⟩) hzb).trans d1⟩
        refine hK _ _ (fun _ => S2) ?_
        clear hK K hb HS0 d0 d1
        have hn2 : ¬ 9223372036854775807 < pk.length + 1 + 1 + u.text.length := by omega
        refine wpAnyT_one 8 rfl (by kernel_rfl) (fun K hK => ?_)
        go_simp
        refine hK _ _ (fun _ => S2) ?_
        clear hK K
        refine wpAnyT_drop _ 9 _ _ _ (Nat.le_refl _) (by kernel_rfl) ?_
        change wpList _ _ _ (_ :: _) _ _
        clear S2
        go_wp2
        go_roundg (gk - 1)
        case measure => omega
        case rel =>
          refine ⟨k + 1, by omega, by omega, by go_num, ?_, HB2.out, by omega, HBOX2.out⟩
          rw [hpre.out]
          congr 1
          apply ByteArray.ext
          simp
      · have hke : k = t.parts.length := by omega
        subst hke
        have e1 := List.take_length (l := t.parts)
        rw [e1]
        have kb : wr.cell? ⟨w.heap.size, 1, none⟩ = some (.slice a t.parts.length cap) := heap_cell HBOX.out 1
        have hpl := pre_len t t.parts.length
        rw [e1] at hpl
        clear e1
        by_cases h0 : t.parts.length = 0
        · have h00 : decide (0 < t.parts.length) = false := decide_eq_false (by omega)
          have h01 : Hid (t.parts = []) := List.eq_nil_of_length_eq_zero h0
          clear h0
          go_wp2
          go_ret
          refine ⟨ret_string ?_, HB.out⟩
          rw [hln.out, h01.out]
          simp [close]
        · have h00 : decide (0 < t.parts.length) = true := decide_eq_true (by omega)
          have h01 : Hid (close t.parts = [41]) := by show _ = _; unfold close; rw [if_neg (by intro e; rw [e] at h0; simp at h0)]
          clear h0
          generalize pre t.parts = pk at *
          go_wp2
          go_ret
          refine ⟨ret_string ?_, HB.out⟩
          rw [hln.out, h01.out]
          apply ByteArray.ext
          simp
end Text
end Go.Proofs.Ytlhildfiddphcaa
