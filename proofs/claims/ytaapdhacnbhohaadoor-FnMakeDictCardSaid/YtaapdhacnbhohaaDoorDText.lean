/- The texts of dictionaries of both sides, and PartsOfDict. Conditions: a text of at most 2000 bytes. -/
import Derived.Test.YtaapdhacnbhohaaDoorL6Read
import Derived.Test.YtaapdhacnbhohaaDoorImplD
import Derived.Test.YtaapdhacnbhohaaDoorJoin
import Derived.Test.YtaapdhacnbhohaaDoorListS
set_option linter.unusedVariables false
set_option linter.unusedSimpArgs false
set_option maxRecDepth 100000
namespace Go.Proofs.YtaapdhacnbhohaaDoor
open Go.RowKit Dt ListS
namespace DText
def ftexts : F → List ByteArray
  | .nil => []
  | .cons c k r => ⟨(dtext c k).toArray⟩ :: ftexts r
theorem ftexts_len (f : F) : (ftexts f).length = f.len := by induction f with | nil => rfl | cons c k r _ ih => simp [ftexts, F.len, ih]
theorem ftexts_app (f g : F) : ftexts (f.app g) = ftexts f ++ ftexts g := by induction f with | nil => rfl | cons c k r _ ih => simp [ftexts, F.app, ih]
def fpre (f : F) : List UInt8 := match f.ct with | [] => [] | _ :: l => 40 :: l
def fsep (f : F) : UInt8 := match f.ct with | [] => 40 | _ => 44
theorem fpre_snoc (A : F) (c : UInt8) (k : F) : fpre (A.app (.cons c k .nil)) = fpre A ++ fsep A :: dtext c k := by
  unfold fpre fsep
  rw [F.ct_app]
  rcases A.ct_cases with ⟨rfl, h0⟩ | ⟨_, l, h0⟩ <;> rw [h0] <;> simp [F.ct, dtext]
theorem fsep_len (A : F) : fsep A = if A.len = 0 then 40 else 44 := by
  unfold fsep
  cases A with
  | nil => rfl
  | cons c k r => simp [F.ct, F.len]
theorem wrap_pre (f : F) : wrap f.ct = fpre f ++ (if f.len = 0 then [] else [41]) := by
  unfold fpre
  cases f with
  | nil => rfl
  | cons c k r => simp [F.ct, F.len, wrap]
theorem fpre_join (f : F) (h : 0 < f.len) : fpre f = 40 :: Lib.join ((ftexts f).map (·.data.toList)) [44] := by
  cases f with
  | nil => simp [F.len] at h
  | cons c k r =>
    simp only [ftexts, List.map_cons, Lib.join_cons, fpre, F.ct]
    congr 1
    rw [show c :: (wrap k.ct ++ r.ct) = dtext c k ++ r.ct by simp [dtext]]
    congr 1
    unfold Lib.joinTail
    clear h
    induction r with
    | nil => rfl
    | cons c' k' r' _ ih => simp [F.ct, ftexts, dtext] at ih ⊢; exact ih
theorem part_len (A : F) (c : UInt8) (k B : F) : (dtext c k).length + 1 ≤ ((A.app (.cons c k B)).ct).length := by
  rw [F.ct_app]; simp [F.ct, dtext]; omega
theorem ct_wrap (f : F) : f.ct.length ≤ (wrap f.ct).length := by cases f.ct <;> simp [wrap]
theorem fpre_le (A B : F) : (fpre A).length ≤ ((A.app B).ct).length := by
  have : (fpre A).length ≤ A.ct.length := by unfold fpre; cases A.ct <;> simp
  rw [F.ct_app]; simp; omega
theorem len_ct (f : F) : f.len ≤ f.ct.length := Nat.le_trans (L6.F.len_le f) (L6.F.size_ct f)
theorem WF_at {A : F} {c : UInt8} {k B : F} (h : (A.app (.cons c k B)).WF) : dig c ∧ k.len ≤ 3 ∧ k.WF := by
  have := (F.WF_app _ _).1 h
  exact ⟨this.2.1, this.2.2.1, this.2.2.2.1⟩
theorem infoStr : (Tryd.prog.info? 9).map (fun i => (i.zero, i.size, i.bytes)) = some (some (.string ⟨#[]⟩), 1, 16) := by kernel_rfl
theorem dig_num {c : UInt8} (h : dig c) : 48 ≤ c.toNat ∧ c.toNat ≤ 57 := by
  unfold dig at h
  rw [UInt8.le_iff_toNat_le, UInt8.le_iff_toNat_le] at h
  simpa using h
theorem dec_ten : ∀ i, i < 10 → Lib.decDigits i = [UInt8.ofNat (48 + i)] := fun i h => Lib.decDigits_one h
theorem itoa_dig (c : UInt8) (hd : dig c) (w : World) : Calls Tryd.prog 66 #[.int .i64 (dv c)] w fun e w' => e = .returned (.string ⟨#[c]⟩) ∧ w' = w := by
  obtain ⟨h1, h2⟩ := dig_num hd
  have h := Tryd.strconv_Itoa_small (c.toNat - 48) (by omega) w
  rw [dec_ten (c.toNat - 48) (by omega), show 48 + (c.toNat - 48) = c.toNat by omega, show ((c.toNat - 48 : Nat) : Int) = dv c by unfold dv; omega] at h
  simpa using h
theorem l13Dec_dig (c : UInt8) (hd : dig c) (w : World) : Calls Tryd.prog 101 #[.int .i64 (dv c)] w fun e w' => e = .returned (.string ⟨#[c]⟩) ∧ Below w.heap.size w w' := by
  obtain ⟨h1, h2⟩ := dig_num hd
  obtain ⟨n, hn⟩ : ∃ n : Int, n = dv c := ⟨_, rfl⟩
  have hb : 0 ≤ n ∧ n ≤ 9 := by rw [hn]; unfold dv; omega
  have hc : 48 + n = (c.toNat : Int) := by rw [hn]; unfold dv; omega
  have hcv := run_byte (P := Tryd.prog) w 22 9 5 Tryd.underlying22 Tryd.underlying5 Tryd.underlying9 c (48 + n) hc
  rw [← hn]
  have HN := hid hn
  obtain ⟨b1, b2⟩ := hb
  clear hn hc hd
  go_enter Tryd.func101, Tryd.ntmps101
  go_wp2_with fail
  refine wp_loop_rounds 1 ?_
  rw [rounds_succ]
  go_wp2
  go_ret
  refine ⟨ret_string ?_, (Below.refl _ _).alloc (Nat.le_refl _) _⟩
  apply ByteArray.ext
  simp
/-- strings.Join over a row of strings -/
theorem join_row (xs : List ByteArray) (sep : ByteArray) (v : Value) (base : Nat) (w : World) (h : w.ownsRow base 9 1 v xs.length (strs xs)) (hN : xs.length ≤ 1099511627776) (hlen : (Lib.join (xs.map (·.data.toList)) sep.data.toList).length ≤ 140737488355328) :
    Calls Tryd.prog 46 #[v, .string sep] w fun e w' => e = .returned (.string ⟨(Lib.join (xs.map (·.data.toList)) sep.data.toList).toArray⟩) ∧ Below w.heap.size w w' := by
  rcases h.2 with ⟨rfl, hx⟩ | ⟨g, cap, cur, rfl, hb, hg, hcap, _⟩
  · have hx0 : xs = [] := by
      have : xs.length = 0 := by simpa [strs] using hx
      exact List.eq_nil_of_length_eq_zero this
    subst hx0
    refine (Tryd.strings_Join_none none 0 sep w).mono ?_
    rintro e w' ⟨rfl, rfl⟩
    exact ⟨rfl, Below.refl _ _⟩
  · exact Tryd.strings_Join g 0 cap xs sep w (fun j x hx => by
      have h1 : (strs xs)[j]? = some (.string x) := by simp [strs, hx]
      have := row_cell h j h1
      simpa using this) (lt_of_heap hg) (by omega) hcap hlen
/-- joined -/
def jtext (head : List UInt8) (xs : List ByteArray) : List UInt8 := if xs.length = 0 then head else head ++ 40 :: (Lib.join (xs.map (·.data.toList)) [44] ++ [41])
theorem joined_any (head : List UInt8) (xs : List ByteArray) (v : Value) (base : Nat) (w : World) (h : w.ownsRow base 9 1 v xs.length (strs xs)) (hN : xs.length ≤ 1099511627776) (hh : head.length ≤ 1000) (hlen : (Lib.join (xs.map (·.data.toList)) [44]).length ≤ 1099511627776) :
    Calls Tryd.prog 69 #[.string ⟨head.toArray⟩, v] w fun e w' => e = .returned (.string ⟨(jtext head xs).toArray⟩) ∧ Below w.heap.size w w' := by
  obtain ⟨a, cap, rfl⟩ := ListS.row_slice h
  have HR := hid h
  clear h
  by_cases h0 : xs.length = 0
  · have hz0 : ((xs.length : Int) == 0) = true := by rw [h0]; rfl
    have hj : Hid (jtext head xs = head) := by show _ = _; unfold jtext; rw [if_pos h0]
    clear h0
    go_enter Tryd.func69, Tryd.ntmps69
    go_wp2
    go_ret
    exact ⟨by rw [hj.out]; rfl, Below.refl _ _⟩
  · have hz0 : ((xs.length : Int) == 0) = false := by rw [beq_eq_false_iff_ne]; omega
    have hj : Hid (jtext head xs = head ++ 40 :: (Lib.join (xs.map (·.data.toList)) [44] ++ [41])) := by show _ = _; unfold jtext; rw [if_neg h0]
    clear h0
    go_enter Tryd.func69, Tryd.ntmps69
    go_wp2_with fail
    have hc := join_row xs ⟨#[44]⟩ (.slice a xs.length cap) base w HR.out hN (by show (Lib.join (xs.map (·.data.toList)) [44]).length ≤ _; omega)
    rw [show (ByteArray.mk #[44]).data.toList = [44] from rfl] at hc
    refine hc.mono ?_
    rintro e w1 ⟨rfl, hb⟩
    have HB := hid hb
    clear hb hc
    generalize Lib.join (xs.map (·.data.toList)) [44] = js at *
    go_wp2
    go_ret
    refine ⟨ret_string ?_, HB.out⟩
    rw [hj.out]
    apply ByteArray.ext
    simp
theorem jtext_dict (c : UInt8) (k : F) : jtext [c] (ftexts k) = dtext c k := by
  unfold jtext dtext
  rw [ftexts_len, wrap_pre]
  by_cases h : k.len = 0
  · obtain rfl := F.len_nil h
    simp [fpre, F.ct, F.len]
  · rw [if_neg h, if_neg h, fpre_join k (by omega)]
    simp
theorem join_le (k : F) : (Lib.join ((ftexts k).map (·.data.toList)) [44]).length ≤ k.ct.length := by
  by_cases h : k.len = 0
  · obtain rfl := F.len_nil h
    simp [ftexts, Lib.join]
  · have h1 := fpre_join k (by omega)
    have h2 : (fpre k).length ≤ k.ct.length := by unfold fpre; cases k.ct <;> simp
    rw [h1] at h2
    simp at h2
    omega

/-- what a loop over the parts of the program's node knows: w the call's world, w1 that behind the reading -/
def LP (w w1 : World) (k : F) (q : Nat) (o i : Value) (wr : World) : Prop :=
  ∃ (A B : F) (g cap : Nat), Hid (k = A.app B) ∧ A.len + B.len ≤ k.len ∧ k.len ≤ A.len + B.len ∧ B.len ≤ q ∧ i = .int .i64 A.len ∧ o = .slice (some ⟨g, 0, none⟩) A.len cap ∧ wr.ownsRow w.heap.size 9 1 (.slice (some ⟨g, 0, none⟩) A.len cap) A.len (strs (ftexts A)) ∧ Below w.heap.size w wr ∧ w.heap.size ≤ wr.heap.size ∧ Keeps (w.heap.size + 1) w1 wr ∧ w1.heap.size ≤ wr.heap.size ∧ (g = w.heap.size ∨ w1.heap.size ≤ g)
theorem strs_snoc (A : F) (c : UInt8) (k : F) : strs (ftexts (A.app (.cons c k .nil))) = strs (ftexts A) ++ [.string ⟨(dtext c k).toArray⟩] := by rw [ftexts_app]; simp [ftexts, strs]
set_option maxHeartbeats 4000000 in
theorem text_impl (n : Nat) : ∀ (c : UInt8) (k : F) (b : Nat) (P : Nat → Prop) (w : World), k.size < n → (dtext c k).length ≤ 2000 → dig c → k.WF → ID P w c k b → Calls Tryd.prog 62 #[.pointer (some ⟨b, 0, none⟩)] w fun e w' => e = .returned (.string ⟨(dtext c k).toArray⟩) ∧ Below w.heap.size w w' := by
  induction n with
  | zero => intro c k b P w h; omega
  | succ n ih =>
    intro c k b P w hn hlen hd hwf hnode
    obtain ⟨v, ps, -, hh, ⟨hv, -⟩, hs⟩ := hnode
    have hbl := lt_of_heap hh
    obtain ⟨a, capn, rfl, -⟩ := Go.Proofs.YtaapdhacnbhohaaDoor.row_slice hv
    have q0 := heap_cell hh 0
    have q1 := heap_cell hh 1
    have hs2 : IDs (fun x => x < w.heap.size) w k ps := (hs.mono (P' := fun x => P x ∧ x < w.heap.size) (fun k hk h => ⟨h, hk⟩)).mono (fun k hk h => h.2)
    have HV := hid hv
    have HS := hid hs2
    have HD := hid hd
    have HWF := hid hwf
    have IH := hid ih
    have hct : k.ct.length + 1 ≤ 2000 := by have := ct_wrap k; simp [dtext] at hlen; omega
    have hcl0 := len_ct k
    clear ih hs hs2 hv hh hd hwf
    go_enter Tryd.func62, Tryd.ntmps62
    go_wp2_with fail
    go_loopg [3, 12] k.len (fun q o i wr => ∃ (A B : F) (g cap : Nat), Hid (k = A.app B) ∧ A.len + B.len ≤ k.len ∧ k.len ≤ A.len + B.len ∧ B.len ≤ q ∧ i = .int .i64 A.len ∧ o = .slice (some ⟨g, 0, none⟩) A.len cap ∧ wr.ownsRow w.heap.size 9 1 (.slice (some ⟨g, 0, none⟩) A.len cap) A.len (strs (ftexts A)) ∧ Below w.heap.size w wr ∧ w.heap.size ≤ wr.heap.size)
    case atStart => exact ⟨.nil, k, w.heap.size, 0, rfl, by simp [F.len], by simp [F.len], Nat.le_refl _, rfl, rfl, World.ownsRow_made w #[] 0 (Nat.le_refl _) (by simp [maxLen]) rfl, (Below.refl _ _).alloc (Nat.le_refl _) _, by simp⟩
    case round =>
      obtain ⟨A, B, g, cap, hAB, hl1, hl2, hBq, rfl, rfl, hrow, hb, hz⟩ := hrel
      have HB := hid hb
      clear hb
      cases B with
      | nil =>
        have hge : k.len ≤ A.len := by simpa [F.len] using hl2
        have hge2 : A.len ≤ k.len := by simpa [F.len] using hl1
        have hAk : Hid (k = A) := by show _ = _; rw [hAB.out, F.app_nil]
        have kb : wr.cell? ⟨b, 0, none⟩ = some (.int .i64 (dv c)) := (HB.out.cell (p := ⟨b, 0, none⟩) hbl).trans q0
        have hfl := ftexts_len A
        have hj1 := join_le A
        have hjl : (Lib.join ((ftexts A).map (·.data.toList)) [44]).length ≤ 2000 := by rw [← hAk.out] at hj1; rw [← hAk.out]; omega
        have HR : Hid (wr.ownsRow w.heap.size 9 1 (.slice (some ⟨g, 0, none⟩) A.len cap) (ftexts A).length (strs (ftexts A))) := by show World.ownsRow _ _ _ _ _ _ _; rw [hfl]; exact hrow
        have HFL := hid hfl
        clear hl1 hl2 hBq hfl hj1 hrow
        go_wp2_with fail
        refine (itoa_dig c HD.out _).mono ?_
        rintro e w1 ⟨rfl, rfl⟩
        go_wp2_with fail
        refine (joined_any [c] (ftexts A) (.slice (some ⟨g, 0, none⟩) A.len cap) w.heap.size _ HR.out (by rw [HFL.out]; omega) (by simp) (by omega)).mono ?_
        rintro e w2 ⟨rfl, hb⟩
        have HB2 : Hid (Below w.heap.size w w2) := HB.out.trans (hb.mono hz)
        clear hb
        go_wp2
        go_ret
        refine ⟨ret_string ?_, HB2.out⟩
        rw [jtext_dict, hAk.out]
      | cons c1 k1 B1 =>
        have hl3 : A.len + 1 + B1.len ≤ k.len := by simp [F.len] at hl1; omega
        have hl4 : k.len ≤ A.len + 1 + B1.len := by simp [F.len] at hl2; omega
        have hBq2 : B1.len + 1 ≤ gk := by simpa [F.len] using hBq
        obtain ⟨p, hp, hnp⟩ := IDs.at (by rw [← hAB.out]; exact HS.out : IDs _ w (A.app (.cons c1 k1 B1)) ps)
        have hlt : A.len < k.len := by omega
        obtain ⟨g0, cap0, e0, -, hg0, cs0, hc0, hd0⟩ := row_at HV.out (by omega)
        cases e0
        have kp : wr.cell? ⟨g0, A.len, none⟩ = some (.pointer (some ⟨p, 0, none⟩)) := (HB.out.cell (p := ⟨g0, A.len, none⟩) hg0).trans ((heap_cell hc0 _).trans (hd0 _ _ hp))
        have HN := hid hnp
        have hszk : k1.size < k.size := by have := hAB.out; rw [this, F.size_app]; simp [F.size]; omega
        have hpl := part_len A c1 k1 B1
        rw [← hAB.out] at hpl
        obtain ⟨hdc, hk3, hkw⟩ := WF_at (by rw [← hAB.out]; exact HWF.out : (A.app (.cons c1 k1 B1)).WF)
        have HDC := hid hdc
        have HKW := hid hkw
        obtain ⟨xv, hxv⟩ : ∃ xv, strs (ftexts A) = xv := ⟨_, rfl⟩
        have HXV := hid hxv
        rw [hxv] at hrow
        have HR := hid hrow
        clear hd0 hc0 hp hnp hl1 hl2 hBq hdc hkw hxv hrow
        go_wp2_with fail
        refine (IH.out c1 k1 p _ wr (by omega) (by omega) HDC.out HKW.out ((keepsP_below HB.out (Nat.le_refl _)).id HN.out)).mono ?_
        rintro e w2 ⟨rfl, hb1⟩
        have hz2 := hb1.size
        have HR1 := hid (ListS.row_below hb1 HR.out)
        have HB2 : Hid (Below w.heap.size w w2) := HB.out.trans (hb1.mono hz)
        clear hb1 kp
        go_wp2_with (first
          | (at_builtin; refine app_push_at 35 9 (.string ⟨#[]⟩) 1 16 Tryd.underlying35 infoStr rfl (by decide) rfl _ _ rfl w.heap.size (.slice (some ⟨g, 0, none⟩) A.len cap) A.len xv rfl (World.ownsRow.alloc HR1.out _) w2.heap.size 1 [.string ⟨(dtext c1 k1).toArray⟩] rfl rfl (news_one (heap_cell (heap_alloc_new _ _) 0)) (by simp [Value.oneCell']) (by unfold maxLen; omega) (by omega) (by simp; omega) ?_))
        intro g1 cap1 w3 hown hgr hlie
        have hz3 := hgr.size
        simp only [World.size_alloc] at hz3
        have HB3 : Hid (Below w.heap.size w w3) := (HB2.out.alloc (by omega) _).grown hgr (by simp; omega) (by have := (row_block HR1.out).1; simp [Value.ownBlock]; omega)
        have HO3 := hid hown
        clear hown hgr hlie
        go_wp2
        go_roundg (gk - 1)
        case measure => omega
        case rel =>
          have e1 : (A.app (.cons c1 k1 .nil)).len = A.len + 1 := by rw [F.len_app]; rfl
          refine ⟨A.app (.cons c1 k1 .nil), B1, g1, cap1, by show _ = _; rw [hAB.out, F.app_assoc]; rfl, by omega, by omega, by omega, by rw [e1]; go_num, by rw [e1], ?_, HB3.out, by omega⟩
          rw [e1, strs_snoc, HXV.out]
          exact HO3.out

/-- the parts of a text's dictionary -/
def dparts (l : List UInt8) : F := match dt l with | some (_, k) => k | none => .nil
theorem LPost_of {w wr : World} {k A : F} {g cap : Nat} (h : k = A) (hr : wr.ownsRow w.heap.size 9 1 (.slice (some ⟨g, 0, none⟩) A.len cap) A.len (strs (ftexts A))) (hb : Below w.heap.size w wr) : LPost w (ftexts k) (.returned (.slice (some ⟨g, 0, none⟩) A.len cap)) wr := by
  subst h
  exact ⟨g, cap, by rw [ftexts_len], by rw [ftexts_len]; exact hr, hb⟩
set_option maxHeartbeats 4000000 in
theorem PartsOfDict_impl (l : List UInt8) (w : World) (hl : l.length ≤ 2147483648) : Calls Tryd.prog 16 #[.string ⟨l.toArray⟩] w (LPost w (ftexts (dparts l))) := by
  unfold dparts
  cases h : dt l with
  | none =>
    have ho := fun w => DictI.dictOf_none l w hl h
    clear h
    go_enter Tryd.func16, Tryd.ntmps16
    go_wp2_with fail
    refine (ho _).mono ?_
    rintro e w1 ⟨rfl, hb⟩
    have HO : Hid (w1.ownsRow w.heap.size 9 1 (.slice (some ⟨w.heap.size, 0, none⟩) 0 0) 0 []) := ListS.row_below hb (World.ownsRow_made w #[] 0 (Nat.le_refl _) (by simp [maxLen]) rfl)
    have HB : Hid (Below w.heap.size w w1) := ((Below.refl _ _).alloc (Nat.le_refl _) _).trans (hb.mono (by simp))
    clear hb
    go_wp2
    go_ret
    exact ⟨_, _, rfl, HO.out, HB.out⟩
  | some x =>
    obtain ⟨c, k⟩ := x
    have ho := fun w => DictI.dictOf_some l c k w h
    obtain ⟨rfl, hd, -, hwf, hl60⟩ := dt_some h
    have hct : k.ct.length ≤ 1200 := by have := ct_wrap k; simp [dtext] at hl60; omega
    have HWF := hid hwf
    clear h hd hwf
    generalize dtext c k = l at *
    go_enter Tryd.func16, Tryd.ntmps16
    go_wp2_with fail
    refine (ho _).mono ?_
    rintro e w1 ⟨b, rfl, hn, hb⟩
    have hz1 := hb.size
    have HO : Hid (w1.ownsRow w.heap.size 9 1 (.slice (some ⟨w.heap.size, 0, none⟩) 0 0) 0 []) := ListS.row_below hb (World.ownsRow_made w #[] 0 (Nat.le_refl _) (by simp [maxLen]) rfl)
    have HB1 : Hid (Below w.heap.size w w1) := ((Below.refl _ _).alloc (Nat.le_refl _) _).trans (hb.mono (by simp))
    simp only [World.size_alloc] at hn hz1
    obtain ⟨v, ps, -, hh, ⟨hv, hvb⟩, hs⟩ := hn
    obtain ⟨a, capn, rfl, -⟩ := Go.Proofs.YtaapdhacnbhohaaDoor.row_slice hv
    have q1 := heap_cell hh 1
    have HV := hid hv
    have HVB := hid hvb
    have HS := hid hs
    clear hv hs hh hb hvb
    go_wp2_with fail
    go_loopg [3, 17] k.len (fun q o i wr => LP w w1 k q o i wr)
    case atStart => exact ⟨.nil, k, w.heap.size, 0, rfl, by simp [F.len], by simp [F.len], Nat.le_refl _, rfl, rfl, HO.out, HB1.out, by omega, Keeps.refl _ _, Nat.le_refl _, .inl rfl⟩
    case round =>
      obtain ⟨A, B, g, cap, hAB, hl1, hl2, hBq, rfl, rfl, hrow, hb, hz, hkp, hzz, hgg⟩ := hrel
      have HB := hid hb
      have HK := hid hkp
      clear hb hkp
      cases B with
      | nil =>
        have hge : k.len ≤ A.len := by simpa [F.len] using hl2
        have hge2 : A.len ≤ k.len := by simpa [F.len] using hl1
        clear hl1 hl2 hBq hgg
        have hAk : Hid (k = A) := by show _ = _; rw [hAB.out, F.app_nil]
        have HR2 := hid hrow
        clear hrow
        go_wp2
        go_ret
        exact LPost_of hAk.out HR2.out HB.out
      | cons c1 k1 B1 =>
        have hl3 : A.len + 1 + B1.len ≤ k.len := by simp [F.len] at hl1; omega
        have hl4 : k.len ≤ A.len + 1 + B1.len := by simp [F.len] at hl2; omega
        have hBq2 : B1.len + 1 ≤ gk := by simpa [F.len] using hBq
        obtain ⟨p, hp, hnp⟩ := IDs.at (by rw [← hAB.out]; exact HS.out : IDs _ w1 (A.app (.cons c1 k1 B1)) ps)
        have hlt : A.len < k.len := by omega
        obtain ⟨g0, cap0, e0, -, hg0, cs0, hc0, hd0⟩ := row_at (row_keptP (P := fun x => w.heap.size + 1 ≤ x) (keepsP_of HK.out (fun k h => h)) HV.out (fun g h => (HVB.out g h))) (by omega)
        cases e0
        have kp : wr.cell? ⟨g0, A.len, none⟩ = some (.pointer (some ⟨p, 0, none⟩)) := (heap_cell hc0 _).trans (hd0 _ _ hp)
        have HN := hid hnp
        have hszk : k1.size < k.size := by have := hAB.out; rw [this, F.size_app]; simp [F.size]; omega
        have hpl := part_len A c1 k1 B1
        rw [← hAB.out] at hpl
        obtain ⟨hdc, hk3, hkw⟩ := WF_at (by rw [← hAB.out]; exact HWF.out : (A.app (.cons c1 k1 B1)).WF)
        have HDC := hid hdc
        have HKW := hid hkw
        have hcl := len_ct k
        obtain ⟨xv, hxv⟩ : ∃ xv, strs (ftexts A) = xv := ⟨_, rfl⟩
        have HXV := hid hxv
        rw [hxv] at hrow
        have HR := hid hrow
        clear hd0 hc0 hp hnp hl1 hl2 hBq hdc hkw hxv hrow
        go_wp2_with fail
        refine (text_impl (k1.size + 1) c1 k1 p _ wr (by omega) (by omega) HDC.out HKW.out ((keepsP_of HK.out (fun k h => h)).id HN.out)).mono ?_
        rintro e w2 ⟨rfl, hb1⟩
        have hz2 := hb1.size
        have HR1 := hid (ListS.row_below hb1 HR.out)
        have HB2 : Hid (Below w.heap.size w w2) := HB.out.trans (hb1.mono hz)
        have HK2 : Hid (Keeps (w.heap.size + 1) w1 w2) := HK.out.below hb1 hzz
        clear hb1 kp
        go_wp2_with (first
          | (at_builtin; refine app_push_at 35 9 (.string ⟨#[]⟩) 1 16 Tryd.underlying35 infoStr rfl (by decide) rfl _ _ rfl w.heap.size (.slice (some ⟨g, 0, none⟩) A.len cap) A.len xv rfl (World.ownsRow.alloc HR1.out _) w2.heap.size 1 [.string ⟨(dtext c1 k1).toArray⟩] rfl rfl (news_one (heap_cell (heap_alloc_new _ _) 0)) (by simp [Value.oneCell']) (by unfold maxLen; omega) (by omega) (by simp; omega) ?_))
        intro g1 cap1 w3 hown hgr hlie
        (try simp only [World.size_alloc, Value.ownBlock, Option.some.injEq] at hlie)
        have hz3 := hgr.size
        simp only [World.size_alloc] at hz3
        have HB3 : Hid (Below w.heap.size w w3) := (HB2.out.alloc (by omega) _).grown hgr (by simp; omega) (by have := (row_block HR1.out).1; simp [Value.ownBlock]; omega)
        have HK3 : Hid (Keeps (w.heap.size + 1) w1 w3) := (HK2.out.alloc _ (by omega)).grown hgr (by simp; omega) (by simp [Value.ownBlock]; omega)
        have HO3 := hid hown
        have HLIE : Hid (g1 = w.heap.size ∨ w1.heap.size ≤ g1) := by show _ ∨ _; omega
        clear hown hgr hlie
        go_wp2
        go_roundg (gk - 1)
        case measure => omega
        case rel =>
          have e1 : (A.app (.cons c1 k1 .nil)).len = A.len + 1 := by rw [F.len_app]; rfl
          refine ⟨A.app (.cons c1 k1 .nil), B1, g1, cap1, by show _ = _; rw [hAB.out, F.app_assoc]; rfl, by omega, by omega, by omega, by rw [e1]; go_num, by rw [e1], ?_, HB3.out, by omega, HK3.out, by omega, HLIE.out⟩
          rw [e1, strs_snoc, HXV.out]
          exact HO3.out

theorem sep_ext (A : F) (h : A.len < 3) : (ByteArray.mk #[40, 44, 44]).extract A.len (A.len + 1) = ⟨#[fsep A]⟩ := by
  rw [fsep_len]
  have : A.len = 0 ∨ A.len = 1 ∨ A.len = 2 := by omega
  rcases this with h | h | h <;> rw [h] <;> rfl
set_option maxHeartbeats 4000000 in
theorem l6Text_any (n : Nat) : ∀ (c : UInt8) (k : F) (h s : Value) (P : Nat → Prop) (w : World), k.size < n → (dtext c k).length ≤ 6000 → dig c → k.len ≤ 3 → k.WF → SD P w c k h s → Calls Tryd.prog 64 #[.agg #[h, s]] w fun e w' => e = .returned (.string ⟨(dtext c k).toArray⟩) ∧ Below w.heap.size w w' := by
  induction n with
  | zero => intro c k h s P w hn; omega
  | succ n ih =>
    intro c k h s P w hn hlen hd hk3 hwf hnode
    obtain ⟨rfl, ps, ⟨hv, -⟩, hs⟩ := hnode
    obtain ⟨a, cap, rfl, -⟩ := Go.Proofs.YtaapdhacnbhohaaDoor.row_slice hv
    have hs2 : SDs (fun x => x < w.heap.size) w k ps := (hs.mono (P' := fun x => P x ∧ x < w.heap.size) (fun k hk h => ⟨h, hk⟩)).mono (fun k hk h => h.2)
    have HV := hid hv
    have HS := hid hs2
    have HD := hid hd
    have HWF := hid hwf
    have IH := hid ih
    have hct : k.ct.length + 1 ≤ 6000 := by have := ct_wrap k; simp [dtext] at hlen; omega
    have hln : Hid (dtext c k = c :: (fpre k ++ (if k.len = 0 then [] else [41]))) := by show _ = _; rw [← wrap_pre]; rfl
    clear ih hs hs2 hv hd hwf
    go_enter Tryd.func64, Tryd.ntmps64
    go_wp2_with fail
    refine (l13Dec_dig c HD.out _).mono ?_
    rintro e w1 ⟨rfl, hb⟩
    have hz1 := hb.size
    simp only [World.size_alloc] at hz1
    have HB1 : Hid (Below w.heap.size w w1) := ((Below.refl _ _).alloc (Nat.le_refl _) _).trans (hb.mono (by simp))
    have hbox : w1.heap[w.heap.size]? = some (.cells #[.int .i64 (dv c), .slice a k.len cap] 85 (0, 0)) := below_heap hb (by simp) (heap_alloc_new _ _)
    have kb1 := heap_cell hbox 1
    have HBOX := hid hbox
    clear hb hbox
    go_wp2_with fail
    clear kb1
    go_loopg [3, 12] k.len (fun q o i wr => ∃ (A B : F), Hid (k = A.app B) ∧ A.len + B.len ≤ k.len ∧ k.len ≤ A.len + B.len ∧ B.len ≤ q ∧ i = .int .i64 A.len ∧ o = .string ⟨(c :: fpre A).toArray⟩ ∧ Below w.heap.size w wr ∧ w.heap.size < wr.heap.size ∧ wr.heap[w.heap.size]? = some (.cells #[.int .i64 (dv c), .slice a k.len cap] 85 (0, 0)))
    case atStart => exact ⟨.nil, k, rfl, by simp [F.len], by simp [F.len], Nat.le_refl _, rfl, rfl, HB1.out, by omega, HBOX.out⟩
    case round =>
      obtain ⟨A, B, hAB, hl1, hl2, hBq, rfl, rfl, hb, hz, hbox⟩ := hrel
      have HB := hid hb
      have HBX := hid hbox
      clear hb hbox HBOX HB1
      have hpl := fpre_le A B
      rw [← hAB.out] at hpl
      cases B with
      | nil =>
        have hge : k.len ≤ A.len := by simpa [F.len] using hl2
        have hge2 : A.len ≤ k.len := by simpa [F.len] using hl1
        have hAk : Hid (k = A) := by show _ = _; rw [hAB.out, F.app_nil]
        have kb : wr.cell? ⟨w.heap.size, 1, none⟩ = some (.slice a k.len cap) := heap_cell HBX.out 1
        clear hl1 hl2 hBq
        by_cases h0 : k.len = 0
        · have h00 : decide (0 < k.len) = false := decide_eq_false (by omega)
          have h01 : Hid (dtext c k = c :: fpre A) := by show _ = _; rw [hln.out, if_pos h0, hAk.out]; simp
          clear h0
          go_wp2
          go_ret
          exact ⟨ret_string (by rw [h01.out]), HB.out⟩
        · have h00 : decide (0 < k.len) = true := decide_eq_true (by omega)
          have h01 : Hid (dtext c k = c :: (fpre A ++ [41])) := by show _ = _; rw [hln.out, if_neg h0, hAk.out]
          clear h0
          generalize fpre A = pk at *
          go_wp2
          go_ret
          refine ⟨ret_string ?_, HB.out⟩
          rw [h01.out]
          apply ByteArray.ext
          simp
      | cons c1 k1 B1 =>
        have hl3 : A.len + 1 + B1.len ≤ k.len := by simp [F.len] at hl1; omega
        have hl4 : k.len ≤ A.len + 1 + B1.len := by simp [F.len] at hl2; omega
        have hBq2 : B1.len + 1 ≤ gk := by simpa [F.len] using hBq
        obtain ⟨h1, s1, e1, e2, hnp⟩ := SDs.at (by rw [← hAB.out]; exact HS.out : SDs _ w (A.app (.cons c1 k1 B1)) ps)
        obtain ⟨eh1, p1, n1, c1', es1⟩ := hnp.form
        subst eh1 es1
        have hlt : A.len < k.len := by omega
        obtain ⟨g0, cap0, e0, -, hg0, cs0, hc0, hd0⟩ := row_at HV.out (by omega)
        cases e0
        have c0 : wr.cell? ⟨g0, A.len * 2, none⟩ = some (.int .i64 (dv c1)) := (HB.out.cell (p := ⟨g0, A.len * 2, none⟩) hg0).trans ((heap_cell hc0 _).trans (hd0 _ _ e1))
        have c1x : wr.cell? ⟨g0, A.len * 2 + 1, none⟩ = some (.slice p1 n1 c1') := (HB.out.cell (p := ⟨g0, A.len * 2 + 1, none⟩) hg0).trans ((heap_cell hc0 _).trans (hd0 _ _ e2))
        have hgr : g0 < wr.heap.size := by omega
        have HN := hid hnp
        have hszk : k1.size < k.size := by have := hAB.out; rw [this, F.size_app]; simp [F.size]; omega
        have hpl1 := part_len A c1 k1 B1
        rw [← hAB.out] at hpl1
        obtain ⟨hdc, hk31, hkw⟩ := WF_at (by rw [← hAB.out]; exact HWF.out : (A.app (.cons c1 k1 B1)).WF)
        have HDC := hid hdc
        have HKW := hid hkw
        have hsep := sep_ext A (by omega)
        have hpre := hid (fpre_snoc A c1 k1)
        generalize fpre A = pk at *
        generalize fsep A = sk at *
        clear hd0 hc0 e1 e2 hnp hl1 hl2 hBq hdc hkw
        go_wp2_with fail
        have d0 : (wr.alloc (.cells #[.int .i64 (dv c1), .slice p1 n1 c1'] 85)).cell? ⟨wr.heap.size, 0, none⟩ = some (.int .i64 (dv c1)) := heap_cell (heap_alloc_new _ _) 0
        have d1 : (wr.alloc (.cells #[.int .i64 (dv c1), .slice p1 n1 c1'] 85)).cell? ⟨wr.heap.size, 1, none⟩ = some (.slice p1 n1 c1') := heap_cell (heap_alloc_new _ _) 1
        have HB1 : Hid (Below w.heap.size w (wr.alloc (.cells #[.int .i64 (dv c1), .slice p1 n1 c1'] 85))) := HB.out.alloc (by omega) _
        have HBOX1 := hid (hb_alloc HBX.out (.cells #[.int .i64 (dv c1), .slice p1 n1 c1'] 85))
        have hz2 : w.heap.size < (wr.alloc (.cells #[.int .i64 (dv c1), .slice p1 n1 c1'] 85)).heap.size := by simp; omega
        have hzb : wr.heap.size < (wr.alloc (.cells #[.int .i64 (dv c1), .slice p1 n1 c1'] 85)).heap.size := by simp
        obtain ⟨bb, hbb⟩ : ∃ x, x = wr.heap.size := ⟨_, rfl⟩
        rw [← hbb] at d0 d1 hzb
        rw [← hbb]
        generalize wr.alloc (.cells #[.int .i64 (dv c1), .slice p1 n1 c1'] 85) = W at *
        clear hbb c0 c1x
        obtain ⟨kk, hkk⟩ : ∃ kk, kk = A.len := ⟨_, rfl⟩
        rw [← hkk] at hsep
        rw [← hkk]
        have hkk1 : kk ≤ A.len := by omega
        have hkk2 : A.len ≤ kk := by omega
        clear hkk
        refine wp_region_any (by kernel_rfl) ?_
        change wpAny _ _ _ _ _ _ _ (World.drew _)
        refine wpAny_take (i := 0) (v := .string ⟨(c :: pk).toArray⟩) rfl (by kernel_rfl) (by kernel_rfl) (by kernel_rfl) (fun _ _ _ h => h) (Or.inl ⟨by rfl, fun _ => by go_simp⟩) ?_
        refine wpAny_take (i := 1) (v := .int .i64 kk) rfl (by kernel_rfl) (by kernel_rfl) (by kernel_rfl) (fun _ _ _ h => h) (Or.inl ⟨by rfl, fun _ => by go_simp⟩) ?_
        refine wpAny_take (i := 2) (v := .int .i64 kk) rfl (by kernel_rfl) (by kernel_rfl) (by kernel_rfl) (fun _ _ _ h => h) (Or.inl ⟨by rfl, fun _ => by go_simp⟩) ?_
        have hwk : IntKind.i64.wrap ((kk : Int) + 1) = (kk : Int) + 1 := IntWalk.i64_in _ (by omega)
        refine wpAny_take (i := 3) (v := .int .i64 ((kk : Int) + 1)) rfl (by kernel_rfl) (by kernel_rfl) (by kernel_rfl) (fun _ _ _ h => h) (Or.inl ⟨by rfl, fun _ => by go_simp⟩) ?_
        have hsl : ∀ x : World, (Instr.slice 9 (.string ⟨#[40, 44, 44]⟩) (some (.int .i64 (kk : Int))) (some (.int .i64 ((kk : Int) + 1))) none).run Tryd.prog x = .ok (.string ⟨#[sk]⟩) x := fun x => by
          rw [run_slice_string x 9 ⟨#[40, 44, 44]⟩ .i64 .i64 (kk : Int) ((kk : Int) + 1) Tryd.underlying9 (by omega) (by omega) (by show (kk : Int) + 1 ≤ 3; omega)]
          rw [show ((kk : Int)).toNat = kk by omega, show ((kk : Int) + 1).toNat = kk + 1 by omega, hsep]
        refine wpAny_take (i := 4) (v := .string ⟨#[sk]⟩) rfl (by kernel_rfl) (by kernel_rfl) (by kernel_rfl) (fun _ _ _ h => h) (Or.inl ⟨by rfl, fun _ => by go_simp⟩) ?_
        clear hsl
        have hn1 : ¬ 9223372036854775807 < pk.length + 1 + 1 := by omega
        refine wpAny_take (i := 5) (v := .string (⟨(c :: pk).toArray⟩ ++ ⟨#[sk]⟩)) rfl (by kernel_rfl) (by kernel_rfl) (by kernel_rfl) (fun _ _ _ h => h) (Or.inl ⟨by rfl, fun _ => by go_simp⟩) ?_
        refine wpAny_of_T (S := fun X => X.cell? ⟨bb, 0, none⟩ = some (.int .i64 (dv c1)) ∧ X.cell? ⟨bb, 1, none⟩ = some (.slice p1 n1 c1')) (m := 9) _ _ _ _ ?_
        have HS0 := (⟨d0, d1⟩ : W.drew.cell? ⟨bb, 0, none⟩ = some (.int .i64 (dv c1)) ∧ W.drew.cell? ⟨bb, 1, none⟩ = some (.slice p1 n1 c1'))
        refine wpAnyT_take (i := 6) (v := .agg #[.int .i64 (dv c1), .slice p1 n1 c1']) rfl (by kernel_rfl) (by kernel_rfl) (by kernel_rfl) (by kernel_rfl) (fun _ _ _ h => h) (Or.inl ⟨by rfl, fun X hS => by obtain ⟨e0, e1⟩ := hS; clear d0 d1 HS0; go_simp⟩) HS0 ?_
        refine wpAnyT_one 7 rfl (by kernel_rfl) (fun K hK => ?_)
        go_simp
        refine (IH.out c1 k1 _ _ (fun x => x < w.heap.size) W.drew (by omega) (by omega) HDC.out hk31 HKW.out ((keepsP_below (w := w) (w' := W.drew) HB1.out.drew (Nat.le_refl _)).sd HN.out)).mono ?_
        rintro e w2 ⟨rfl, hb⟩
        have HB2 : Hid (Below w.heap.size w w2) := HB1.out.drew.trans (hb.mono (by show w.heap.size ≤ W.heap.size; omega))
        have HBOX2 : Hid (w2.heap[w.heap.size]? = some (.cells #[.int .i64 (dv c), .slice (some ⟨g0, 0, none⟩) k.len cap] 85 (0, 0))) := (hb.block w.heap.size (by show w.heap.size < W.heap.size; omega)).trans HBOX1.out
        have hz3 : W.heap.size ≤ w2.heap.size := hb.size
        have S2 : w2.cell? ⟨bb, 0, none⟩ = some (.int .i64 (dv c1)) ∧ w2.cell? ⟨bb, 1, none⟩ = some (.slice p1 n1 c1') := ⟨(hb.cell (p := ⟨bb, 0, none⟩) hzb).trans d0, (hb.cell (p := ⟨bb, 1, none⟩) hzb).trans d1⟩
        refine hK _ _ (fun _ => S2) ?_
        clear hK K hb HS0 d0 d1
        have hn2 : ¬ 9223372036854775807 < pk.length + 1 + 1 + (dtext c1 k1).length := by omega
        refine wpAnyT_one 8 rfl (by kernel_rfl) (fun K hK => ?_)
        go_simp
        refine hK _ _ (fun _ => S2) ?_
        clear hK K
        refine wpAnyT_drop _ 9 _ _ _ (Nat.le_refl _) (by kernel_rfl) ?_
        change wpList _ _ _ (_ :: _) _ _
        clear S2
        go_wp2
        go_roundg (gk - 1)
        case measure => omega
        case rel =>
          have e1 : (A.app (.cons c1 k1 .nil)).len = A.len + 1 := by rw [F.len_app]; rfl
          refine ⟨A.app (.cons c1 k1 .nil), B1, by show _ = _; rw [hAB.out, F.app_assoc]; rfl, by omega, by omega, by omega, ?_, ?_, HB2.out, by omega, HBOX2.out⟩
          · rw [e1]; have : A.len = kk := by omega
            rw [this]; go_num
          · rw [hpre.out]
            congr 1
            apply ByteArray.ext
            simp
set_option maxHeartbeats 4000000 in
theorem PartsOfDict_spec (l : List UInt8) (w : World) (hl : l.length ≤ 2147483648) : Calls Tryd.prog 19 #[.string ⟨l.toArray⟩] w (LPost w (ftexts (dparts l))) := by
  unfold dparts
  cases h : dt l with
  | none =>
    have ho := fun w => L6.l6Read_none l w hl h
    clear h
    go_enter Tryd.func19, Tryd.ntmps19
    go_wp2_with fail
    refine (ho _).mono ?_
    rintro e w1 ⟨rfl, hb⟩
    have hz1 := hb.size
    simp only [World.size_alloc] at hz1
    have HO : Hid (w1.ownsRow w.heap.size 9 1 (.slice (some ⟨w.heap.size, 0, none⟩) 0 0) 0 []) := ListS.row_below hb (World.ownsRow_made w #[] 0 (Nat.le_refl _) (by simp [maxLen]) rfl)
    have HB : Hid (Below w.heap.size w w1) := ((Below.refl _ _).alloc (Nat.le_refl _) _).trans (hb.mono (by simp))
    clear hb
    go_wp2_with fail
    refine wp_loop_rounds 1 ?_
    rw [rounds_succ]
    go_wp2
    go_ret
    exact ⟨_, _, rfl, HO.out.alloc _, HB.out.alloc (by omega) _⟩
  | some x =>
    obtain ⟨c, k⟩ := x
    have ho := fun w => L6.l6Read_some l c k w h
    obtain ⟨rfl, hd, -, hwf, hl60⟩ := dt_some h
    have hct : k.ct.length ≤ 1200 := by have := ct_wrap k; simp [dtext] at hl60; omega
    have HWF := hid hwf
    clear h hd hwf
    generalize dtext c k = l at *
    go_enter Tryd.func19, Tryd.ntmps19
    go_wp2_with fail
    refine (ho _).mono ?_
    rintro e w1 ⟨sl, rfl, hn, hb⟩
    have hz1 := hb.size
    have HO : Hid (w1.ownsRow w.heap.size 9 1 (.slice (some ⟨w.heap.size, 0, none⟩) 0 0) 0 []) := ListS.row_below hb (World.ownsRow_made w #[] 0 (Nat.le_refl _) (by simp [maxLen]) rfl)
    have HB1 : Hid (Below w.heap.size w w1) := ((Below.refl _ _).alloc (Nat.le_refl _) _).trans (hb.mono (by simp))
    simp only [World.size_alloc] at hn hz1
    obtain ⟨-, ps, ⟨hv, hvb⟩, hs⟩ := hn
    obtain ⟨a, capn, rfl, -⟩ := Go.Proofs.YtaapdhacnbhohaaDoor.row_slice hv
    have HV := hid hv
    have HVB := hid hvb
    have HS := hid hs
    clear hv hs hb hvb
    go_wp2_with fail
    go_loopg [3, 17] k.len (fun q o i wr => LP w w1 k q o i wr)
    case atStart => exact ⟨.nil, k, w.heap.size, 0, rfl, by simp [F.len], by simp [F.len], Nat.le_refl _, rfl, rfl, HO.out.alloc _, HB1.out.alloc (by omega) _, by simp; omega, keeps_alloc _ _ _, by simp, .inl rfl⟩
    case round =>
      obtain ⟨A, B, g, cap, hAB, hl1, hl2, hBq, rfl, rfl, hrow, hb, hz, hkp, hzz, hgg⟩ := hrel
      have HB := hid hb
      have HK := hid hkp
      clear hb hkp
      cases B with
      | nil =>
        have hge : k.len ≤ A.len := by simpa [F.len] using hl2
        have hge2 : A.len ≤ k.len := by simpa [F.len] using hl1
        clear hl1 hl2 hBq hgg
        have hAk : Hid (k = A) := by show _ = _; rw [hAB.out, F.app_nil]
        have HR2 := hid hrow
        clear hrow
        go_wp2
        go_ret
        exact LPost_of hAk.out HR2.out HB.out
      | cons c1 k1 B1 =>
        have hl3 : A.len + 1 + B1.len ≤ k.len := by simp [F.len] at hl1; omega
        have hl4 : k.len ≤ A.len + 1 + B1.len := by simp [F.len] at hl2; omega
        have hBq2 : B1.len + 1 ≤ gk := by simpa [F.len] using hBq
        obtain ⟨h1, s1, e1, e2, hnp⟩ := SDs.at (by rw [← hAB.out]; exact HS.out : SDs _ w1 (A.app (.cons c1 k1 B1)) ps)
        obtain ⟨eh1, p1, n1, c1', es1⟩ := hnp.form
        subst eh1 es1
        have hlt : A.len < k.len := by omega
        obtain ⟨g0, cap0, e0, -, hg0, cs0, hc0, hd0⟩ := row_at (row_keptP (P := fun x => w.heap.size + 1 ≤ x) (keepsP_of HK.out (fun k h => h)) HV.out (fun g h => (HVB.out g h))) (by omega)
        cases e0
        have c0 : wr.cell? ⟨g0, A.len * 2, none⟩ = some (.int .i64 (dv c1)) := (heap_cell hc0 _).trans (hd0 _ _ e1)
        have c1x : wr.cell? ⟨g0, A.len * 2 + 1, none⟩ = some (.slice p1 n1 c1') := (heap_cell hc0 _).trans (hd0 _ _ e2)
        have HN := hid hnp
        have hszk : k1.size < k.size := by have := hAB.out; rw [this, F.size_app]; simp [F.size]; omega
        have hpl := part_len A c1 k1 B1
        rw [← hAB.out] at hpl
        obtain ⟨hdc, hk3, hkw⟩ := WF_at (by rw [← hAB.out]; exact HWF.out : (A.app (.cons c1 k1 B1)).WF)
        have HDC := hid hdc
        have HKW := hid hkw
        have hcl := len_ct k
        obtain ⟨xv, hxv⟩ : ∃ xv, strs (ftexts A) = xv := ⟨_, rfl⟩
        have HXV := hid hxv
        rw [hxv] at hrow
        have HR := hid hrow
        clear hd0 hc0 e1 e2 hnp hl1 hl2 hBq hdc hkw hxv hrow
        go_wp2_with fail
        refine (l6Text_any (k1.size + 1) c1 k1 _ _ (fun x => w.heap.size + 1 ≤ x) _ (by omega) (by omega) HDC.out hk3 HKW.out ((keepsP_alloc _ _).sd ((keepsP_of HK.out (fun k h => h)).sd HN.out))).mono ?_
        rintro e w2 ⟨rfl, hb1⟩
        have hz2 := hb1.size
        simp only [World.size_alloc] at hz2
        have HR1 := hid (ListS.row_below hb1 (HR.out.alloc _))
        have HB2 : Hid (Below w.heap.size w w2) := (HB.out.alloc (by omega) _).trans (hb1.mono (by simp; omega))
        have HK2 : Hid (Keeps (w.heap.size + 1) w1 w2) := (HK.out.alloc _ hzz).below hb1 (by simp; omega)
        clear hb1 c0 c1x
        go_wp2_with (first
          | (at_builtin; refine app_push_at 35 9 (.string ⟨#[]⟩) 1 16 Tryd.underlying35 infoStr rfl (by decide) rfl _ _ rfl w.heap.size (.slice (some ⟨g, 0, none⟩) A.len cap) A.len xv rfl (World.ownsRow.alloc HR1.out _) w2.heap.size 1 [.string ⟨(dtext c1 k1).toArray⟩] rfl rfl (news_one (heap_cell (heap_alloc_new _ _) 0)) (by simp [Value.oneCell']) (by unfold maxLen; omega) (by omega) (by simp; omega) ?_))
        intro g1 cap1 w3 hown hgr hlie
        (try simp only [World.size_alloc, Value.ownBlock, Option.some.injEq] at hlie)
        have hz3 := hgr.size
        simp only [World.size_alloc] at hz3
        have HB3 : Hid (Below w.heap.size w w3) := (HB2.out.alloc (by omega) _).grown hgr (by simp; omega) (by have := (row_block HR1.out).1; simp [Value.ownBlock]; omega)
        have HK3 : Hid (Keeps (w.heap.size + 1) w1 w3) := (HK2.out.alloc _ (by omega)).grown hgr (by simp; omega) (by simp [Value.ownBlock]; omega)
        have HO3 := hid hown
        have HLIE : Hid (g1 = w.heap.size ∨ w1.heap.size ≤ g1) := by show _ ∨ _; omega
        clear hown hgr hlie
        go_wp2
        go_roundg (gk - 1)
        case measure => omega
        case rel =>
          have e1 : (A.app (.cons c1 k1 .nil)).len = A.len + 1 := by rw [F.len_app]; rfl
          refine ⟨A.app (.cons c1 k1 .nil), B1, g1, cap1, by show _ = _; rw [hAB.out, F.app_assoc]; rfl, by omega, by omega, by omega, by rw [e1]; go_num, by rw [e1], ?_, HB3.out, by omega, HK3.out, by omega, HLIE.out⟩
          rw [e1, strs_snoc, HXV.out]
          exact HO3.out
end DText
end Go.Proofs.YtaapdhacnbhohaaDoor
