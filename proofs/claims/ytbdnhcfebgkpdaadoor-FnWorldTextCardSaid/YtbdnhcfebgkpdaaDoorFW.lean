/- FormatWorld, of both sides. Conditions: the sizes are those typed. -/
import Derived.Test.YtbdnhcfebgkpdaaDoorWV
import Derived.Test.YtbdnhcfebgkpdaaDoorFmtI
set_option linter.unusedVariables false
set_option linter.unusedSimpArgs false
set_option maxRecDepth 100000
namespace Go.Proofs.YtbdnhcfebgkpdaaDoor
open Go.RowKit Known Classes Ty IV
open WV FmtI
namespace FW
def bl (l : List UInt8) : ByteArray := ⟨l.toArray⟩
theorem bl_app (a b : List UInt8) : bl (a ++ b) = bl a ++ bl b := by apply ByteArray.ext; simp [bl, ByteArray.data_append]
theorem bl_data (a : ByteArray) : bl a.data.toList = a := by apply ByteArray.ext; simp [bl]
theorem bl_size (a : List UInt8) : (bl a).size = a.length := by simp [bl, ByteArray.size]
/-- a class as text -/
def clsT (p : BB) : ByteArray := if p.2.toList.isEmpty then p.1 else p.1 ++ ⟨#[60]⟩ ++ p.2
def clsL (cs : List BB) : List UInt8 := Lib.join ((cs.map clsT).map (·.data.toList)) [32]
def insL (is : List II) : List UInt8 := (is.map fun p => 59 :: (fmtI p.1 p.2.1 p.2.2).data.toList).flatten
/-- what FormatWorld returns -/
noncomputable def fmtW (cs : List BB) (is : List II) : ByteArray := if wvB cs is then bl (clsL cs ++ insL is) else ⟨#[]⟩
theorem fmtW_no {cs : List BB} {is : List II} (h : wvB cs is = false) : fmtW cs is = ⟨#[]⟩ := by unfold fmtW; rw [h]; rfl
theorem fmtW_yes {cs : List BB} {is : List II} (h : wvB cs is = true) : fmtW cs is = bl (clsL cs ++ insL is) := by unfold fmtW; rw [h]; rfl
theorem clsT_e {x y : ByteArray} (h : y.toList.isEmpty = true) : clsT (x, y) = x := by unfold clsT; rw [if_pos h]
theorem clsT_n {x y : ByteArray} (h : y.toList.isEmpty = false) : clsT (x, y) = x ++ ⟨#[60]⟩ ++ y := by unfold clsT; rw [if_neg (by simp [h])]
theorem app_assoc (a b c : ByteArray) : a ++ b ++ c = a ++ (b ++ c) := by apply ByteArray.ext; simp [ByteArray.data_append]
theorem clsT_n2 {x y : ByteArray} (h : y.toList.isEmpty = false) : clsT (x, y) = x ++ (⟨#[60]⟩ ++ y) := by rw [clsT_n h, app_assoc]
theorem clsT_size (p : BB) : (clsT p).size ≤ p.1.size + p.2.size + 1 := by
  unfold clsT
  split
  · omega
  · rw [ByteArray.size_append, ByteArray.size_append, show (ByteArray.mk #[60]).size = 1 from rfl]; omega
theorem clsL_one (p : BB) : bl (clsL []) ++ clsT p = bl (clsL [p]) := by
  rw [show clsL [p] = (clsT p).data.toList by unfold clsL; rw [List.map_cons, List.map_cons, Lib.join_cons]; simp [Lib.joinTail], bl_data]
  apply ByteArray.ext
  simp [clsL, Lib.join_nil, bl, ByteArray.data_append]
theorem joinTail_snoc (sep : List UInt8) (xs : List (List UInt8)) (y : List UInt8) : Lib.joinTail sep (xs ++ [y]) = Lib.joinTail sep xs ++ (sep ++ y) := by
  simp [Lib.joinTail]
theorem clsL_snoc {cs : List BB} (h : cs ≠ []) (p : BB) : bl (clsL cs) ++ ⟨#[32]⟩ ++ clsT p = bl (clsL (cs ++ [p])) := by
  match cs, h with
  | q :: r, _ =>
    have : clsL (q :: r ++ [p]) = clsL (q :: r) ++ ([32] ++ (clsT p).data.toList) := by
      unfold clsL
      rw [List.cons_append, List.map_cons, List.map_cons, Lib.join_cons, List.map_cons, List.map_cons, Lib.join_cons, List.map_append, List.map_append, List.map_cons, List.map_nil, List.map_cons, List.map_nil, joinTail_snoc]
      simp
    rw [this, bl_app, bl_app, bl_data, app_assoc]
    rfl
theorem clsL_len (cs : List BB) : (clsL cs).length ≤ tot cs + 2 * cs.length := by
  have key : ∀ r : List BB, (Lib.joinTail [32] ((r.map clsT).map (·.data.toList))).length ≤ tot r + 2 * r.length := by
    intro r
    induction r with
    | nil => simp [Lib.joinTail]
    | cons p r ih =>
      have hp := clsT_size p
      simp only [Lib.joinTail, List.map_cons, List.flatten_cons, List.length_append] at ih ⊢
      rw [show tot (p :: r) = (p.1.size + p.2.size) + tot r from rfl]
      simp only [List.length_cons, List.length_nil, Array.length_toList] at ih ⊢
      have : (clsT p).data.size = (clsT p).size := rfl
      omega
  cases cs with
  | nil => simp [clsL, Lib.join_nil]
  | cons p r =>
    have hp := clsT_size p
    have hk := key r
    unfold clsL
    rw [List.map_cons, List.map_cons, Lib.join_cons, List.length_append, show tot (p :: r) = (p.1.size + p.2.size) + tot r from rfl]
    have : (clsT p).data.toList.length = (clsT p).size := by rw [Array.length_toList]; rfl
    simp only [List.length_cons]
    omega
theorem insL_snoc (is : List II) (x y : ByteArray) (ns : List BB) : insL (is ++ [(x, y, ns)]) = insL is ++ (59 :: (fmtI x y ns).data.toList) := by
  unfold insL; simp
theorem insL_len (is : List II) : (insL is).length ≤ 3 * itot is + 3 * is.length := by
  induction is with
  | nil => simp [insL]
  | cons p r ih =>
    have hp := fmtI_size p.1 p.2.1 p.2.2
    have e1 : insL (p :: r) = (59 :: (fmtI p.1 p.2.1 p.2.2).data.toList) ++ insL r := by unfold insL; simp
    have e2 : itot (p :: r) = iw p + itot r := rfl
    have e3 : iw p = p.1.size + p.2.1.size + p.2.2.length + tot p.2.2 := rfl
    have e4 : (fmtI p.1 p.2.1 p.2.2).data.toList.length = (fmtI p.1 p.2.1 p.2.2).size := by rw [Array.length_toList]; rfl
    rw [e1, List.length_append]
    simp only [List.length_cons]
    omega
/-- what stands behind k instances -/
def outL (cs : List BB) (is : List II) (k : Nat) : ByteArray := bl (clsL cs ++ insL (is.take k))
theorem outL_zero (cs : List BB) (is : List II) : outL cs is 0 = bl (clsL cs) := by unfold outL; simp [insL]
theorem outL_all (cs : List BB) (is : List II) : outL cs is is.length = bl (clsL cs ++ insL is) := by unfold outL; rw [List.take_length]
theorem outL_step {cs : List BB} {is : List II} {k : Nat} {x y : ByteArray} {ns : List BB} (h : is[k]? = some (x, y, ns)) : outL cs is k ++ ⟨#[59]⟩ ++ fmtI x y ns = outL cs is (k + 1) := by
  obtain ⟨hlt, hg⟩ := List.getElem?_eq_some_iff.1 h
  unfold outL
  rw [List.take_succ_eq_append_getElem hlt, hg, insL_snoc, bl_app, bl_app, bl_app, show (59 :: (fmtI x y ns).data.toList) = [59] ++ (fmtI x y ns).data.toList from rfl, bl_app, bl_data]
  simp only [app_assoc]
  rfl
theorem outL_step2 {cs : List BB} {is : List II} {k : Nat} {x y : ByteArray} {ns : List BB} (h : is[k]? = some (x, y, ns)) : outL cs is k ++ (⟨#[59]⟩ ++ fmtI x y ns) = outL cs is (k + 1) := by rw [← app_assoc]; exact outL_step h
theorem outL_size (cs : List BB) (is : List II) (k : Nat) (h : k ≤ is.length) : (outL cs is k).size ≤ tot cs + 2 * cs.length + 3 * itot is + 3 * is.length := by
  unfold outL
  rw [bl_size, List.length_append]
  have h1 := clsL_len cs
  have h2 := insL_len (is.take k)
  have h3 := itot_le is k
  rw [List.length_take] at h2
  omega
theorem clsK_size (cs : List BB) (k : Nat) : (bl (clsL (cs.take k))).size ≤ tot cs + 2 * cs.length := by
  rw [bl_size]
  have h1 := clsL_len (cs.take k)
  have h2 := tot_le cs k
  rw [List.length_take] at h1
  omega
theorem cls_first {cs : List BB} {p : BB} (h : cs[0]? = some p) : bl (clsL (cs.take 0)) ++ clsT p = bl (clsL (cs.take (0 + 1))) := by
  obtain ⟨hlt, hg⟩ := List.getElem?_eq_some_iff.1 h
  rw [List.take_succ_eq_append_getElem hlt, hg, List.take_zero]
  exact clsL_one p
theorem cls_next {cs : List BB} {p : BB} {k : Nat} (hk : k ≠ 0) (h : cs[k]? = some p) : bl (clsL (cs.take k)) ++ ⟨#[32]⟩ ++ clsT p = bl (clsL (cs.take (k + 1))) := by
  obtain ⟨hlt, hg⟩ := List.getElem?_eq_some_iff.1 h
  rw [List.take_succ_eq_append_getElem hlt, hg]
  refine clsL_snoc ?_ p
  intro e
  have := congrArg List.length e
  rw [List.length_take, List.length_nil] at this
  omega
def pieceC (xs : List BB) : List Value := xs.map fun p => .string (clsT p)
set_option maxHeartbeats 8000000 in
theorem FormatWorld_spec (a b : Option Addr) (cap cap2 : Nat) (cs : List BB) (is : List II) (w : World) (h0 : tot cs + cs.length ≤ 1048577) (h1 : itot is + is.length ≤ 1048576) (hcap : cs.length ≤ cap) (hs : SP w (.slice a cs.length cap) cs) (hi : SI w (.slice b is.length cap2) is) :
    Calls Tryd.prog 21 #[.agg #[.slice a cs.length cap, .slice b is.length cap2]] w fun e w' => e = .returned (.string (fmtW cs is)) ∧ Below w.heap.size w w' := by
  have hcl : cs.length ≤ 1048577 := by omega
  have hil : is.length ≤ 1048576 := by omega
  have HBD : Hid (∀ (i : Nat) (p : BB), cs[i]? = some p → p.1.size ≤ 1048576 ∧ p.2.size ≤ 1048576) := bnd h0
  have HS := hid hs
  have HI := hid hi
  have H0 := hid h0
  have H1 := hid h1
  clear hs hi h0 h1
  go_enter Tryd.func21, Tryd.ntmps21
  go_wp2_with fail
  have HBW : Hid (Below w.heap.size w (w.alloc (.cells #[.slice a cs.length cap, .slice b is.length cap2] 42))) := (Below.refl _ _).alloc (Nat.le_refl _) _
  have HX1 : Hid ((w.alloc (.cells #[.slice a cs.length cap, .slice b is.length cap2] 42)).heap[w.heap.size]? = some (.cells #[.slice a cs.length cap, .slice b is.length cap2] 42 (0, 0))) := heap_alloc_new _ _
  generalize w.alloc (.cells #[.slice a cs.length cap, .slice b is.length cap2] 42) = W at *
  have hzb := HBW.out.size
  have hzs := lt_of_heap HX1.out
  refine (WorldValid_spec a b cap cap2 cs is W H0.out H1.out hcap (HS.out.below HBW.out) (HI.out.below HBW.out)).mono ?_
  rintro e w1 ⟨rfl, hb⟩
  have HB1 := hid hb
  obtain ⟨p10, p11⟩ := keep2 HX1.out hb
  have hz1 := hb.size
  have hlt1 : w.heap.size < w1.heap.size := by omega
  clear hb
  cases hv : wvB cs is with
  | false =>
    have HR : Hid (fmtW cs is = ⟨#[]⟩) := fmtW_no hv
    clear hv
    go_wp2
    go_ret
    exact ⟨ret_string HR.out.symm, HBW.out.trans (HB1.out.mono HBW.out.size)⟩
  | true =>
    have HWV : Hid (fmtW cs is = bl (clsL cs ++ insL is)) := fmtW_yes hv
    clear hv
    go_wp2_with fail
    have HS0' : Hid (ByteArray.mk #[] = bl (clsL (cs.take 0))) := by show _ = _; simp [clsL, Lib.join_nil, bl]
    go_loopg [3, 14] cs.length (fun q o i wr => ∃ (k : Nat) (s : ByteArray), k ≤ cs.length ∧ cs.length - k ≤ q ∧ o = .string s ∧ i = .int .i64 k ∧ Hid (s = bl (clsL (cs.take k))) ∧ Below W.heap.size W wr)
    case atStart => exact ⟨0, _, Nat.zero_le _, by simp, rfl, rfl, HS0'.out, HB1.out⟩
    case round =>
      obtain ⟨k, s, hk, hq, rfl, rfl, hS, hb⟩ := hrel
      have HB := hid hb
      have hbz := hb.size
      have HSS := hid hS
      have hssz : s.size ≤ 4194304 := by have := clsK_size cs k; rw [hS.out]; have := H0.out; omega
      clear hb hS p10 p11 hlt1
      by_cases hlt : k < cs.length
      · obtain ⟨⟨x, y⟩, hp⟩ : ∃ p, cs[k]? = some p := ⟨_, List.getElem?_eq_getElem hlt⟩
        obtain ⟨b2, off, rfl, k0, k1, z0, z1, hbl⟩ := sp_at ((HS.out.below HBW.out).below HB.out) hp
        obtain ⟨hs1, hs2⟩ := HBD.out k _ hp
        have HP := hid hp
        dsimp only at hs1 hs2
        clear hp z0 z1
        by_cases hk0 : k = 0
        · subst hk0
          simp only [Nat.zero_mul, Nat.add_zero] at k0 k1
          cases hpe : y.toList.isEmpty with
          | true =>
            have HST : Hid (s ++ x = bl (clsL (cs.take (0 + 1)))) := by
              have h := cls_first HP.out
              rw [clsT_e hpe] at h
              show _ = _
              rw [HSS.out]; exact h
            have hpe2 : y.toList = [] := by simpa using hpe

            go_wp2_with fail
            go_roundg (cs.length - (0 + 1))
            case measure => omega
            case rel => exact ⟨0 + 1, _, by omega, by omega, rfl, by go_num, HST.out, HB.out.alloc (by omega) _⟩
          | false =>
            have HST : Hid (s ++ x ++ ⟨#[60]⟩ ++ y = bl (clsL (cs.take (0 + 1)))) := by
              have h := cls_first HP.out
              rw [clsT_n hpe, ← app_assoc, ← app_assoc] at h
              show _ = _
              rw [HSS.out]; exact h


            go_wp2_with fail
            go_roundg (cs.length - (0 + 1))
            case measure => omega
            case rel => exact ⟨0 + 1, _, by omega, by omega, rfl, by go_num, HST.out, HB.out.alloc (by omega) _⟩
        · have hk1 : ((k : Int) > 0) := by omega
          cases hpe : y.toList.isEmpty with
          | true =>
            have HST : Hid (s ++ ⟨#[32]⟩ ++ x = bl (clsL (cs.take (k + 1)))) := by
              have h := cls_next hk0 HP.out
              rw [clsT_e hpe] at h
              show _ = _
              rw [HSS.out]; exact h
            have hpe2 : y.toList = [] := by simpa using hpe
            clear hk0
            go_wp2_with fail
            go_roundg (cs.length - (k + 1))
            case measure => omega
            case rel => exact ⟨k + 1, _, by omega, by omega, rfl, by go_num, HST.out, HB.out.alloc (by omega) _⟩
          | false =>
            have HST : Hid (s ++ ⟨#[32]⟩ ++ x ++ ⟨#[60]⟩ ++ y = bl (clsL (cs.take (k + 1)))) := by
              have h := cls_next hk0 HP.out
              rw [clsT_n hpe, ← app_assoc, ← app_assoc] at h
              show _ = _
              rw [HSS.out]; exact h

            clear hk0
            go_wp2_with fail
            go_roundg (cs.length - (k + 1))
            case measure => omega
            case rel => exact ⟨k + 1, _, by omega, by omega, rfl, by go_num, HST.out, HB.out.alloc (by omega) _⟩
      · have hke : k = cs.length := by omega
        have HS0 : Hid (s = outL cs is 0) := by show _ = _; rw [HSS.out, hke, List.take_length, outL_zero]
        have HBL := HB
        clear hke
        obtain ⟨p10, p11⟩ := keep2 HX1.out HB.out
        have hlt1 : w.heap.size < wr.heap.size := by omega
        go_wp2_with fail
        clear p10 p11 hlt1 hbz HSS
        go_loopg [3, 39] is.length (fun q o i wr => ∃ (k : Nat) (s : ByteArray), k ≤ is.length ∧ is.length - k ≤ q ∧ o = .string s ∧ i = .int .i64 k ∧ Hid (s = outL cs is k) ∧ Below W.heap.size W wr)
        case atStart => exact ⟨0, _, Nat.zero_le _, by simp, rfl, rfl, HS0.out, HBL.out⟩
        case round =>
          obtain ⟨k, s, hk, hq, rfl, rfl, hS, hb⟩ := hrel
          have HB := hid hb
          have hbz := hb.size
          have HSS := hid hS
          have hssz : s.size ≤ 8388608 := by have := outL_size cs is k hk; rw [hS.out]; have := H0.out; have := H1.out; omega
          clear hb hS
          by_cases hlt : k < is.length
          · obtain ⟨⟨x, y, ns⟩, hp⟩ : ∃ p, is[k]? = some p := ⟨_, List.getElem?_eq_getElem hlt⟩
            obtain ⟨b2, off, an, cn, rfl, k0, k1, k2, hsn, -, -, hbl⟩ := si_at ((HI.out.below HBW.out).below HB.out) hp
            have hiw : iw (x, y, ns) ≤ 1048576 := by have h1 := itot_take is k _ hp; have h2 := itot_le is (k + 1); have := H1.out; omega
            unfold iw at hiw
            dsimp only at hiw
            have HP := hid hp
            have HSN := hid hsn
            have hfz := fmtI_size x y ns
            have HIW : Hid (x.size + y.size + tot ns + ns.length ≤ 1048576) := by show _ ≤ _; omega
            have hfz2 : (fmtI x y ns).size ≤ 8388608 := by omega
            clear hp hsn hfz hiw
            go_wp2_with fail
            have HBV : Hid (Below W.heap.size W (wr.alloc (.cells #[.string x, .string y, .slice an ns.length cn] 28))) := HB.out.alloc (by omega) _
            have HSV : Hid (SP (wr.alloc (.cells #[.string x, .string y, .slice an ns.length cn] 28)) (.slice an ns.length cn) ns) := HSN.out.below ((Below.refl _ _).alloc (Nat.le_refl _) _)
            clear k0 k1 k2
            generalize wr.alloc (.cells #[.string x, .string y, .slice an ns.length cn] 28) = V at *
            refine (FormatInstance_spec x y _ ns V HIW.out HSV.out).mono ?_
            rintro e w5 ⟨rfl, hb⟩
            have HB5 : Hid (Below W.heap.size W w5) := HBV.out.trans (hb.mono HBV.out.size)
            have HST : Hid (s ++ ⟨#[59]⟩ ++ fmtI x y ns = outL cs is (k + 1)) := by show _ = _; rw [HSS.out]; exact outL_step HP.out
            clear hb
            go_wp2_with fail
            go_roundg (is.length - (k + 1))
            case measure => omega
            case rel => exact ⟨k + 1, _, by omega, by omega, rfl, by go_num, HST.out, HB5.out⟩
          · have hke : k = is.length := by omega
            have HR : Hid (s = fmtW cs is) := by show _ = _; rw [HSS.out, hke, outL_all, HWV.out]
            clear hke
            go_wp2_with fail
            go_ret
            exact ⟨ret_string HR.out, HBW.out.trans (HB.out.mono HBW.out.size)⟩
set_option maxHeartbeats 8000000 in
theorem FormatWorld_impl (a b : Option Addr) (cap cap2 : Nat) (cs : List BB) (is : List II) (w : World) (h0 : tot cs + cs.length ≤ 1048577) (h1 : itot is + is.length ≤ 1048576) (hcap : cs.length ≤ cap) (hs : SP w (.slice a cs.length cap) cs) (hi : SI w (.slice b is.length cap2) is) :
    Calls Tryd.prog 19 #[.agg #[.slice a cs.length cap, .slice b is.length cap2]] w fun e w' => e = .returned (.string (fmtW cs is)) ∧ Below w.heap.size w w' := by
  have hcl : cs.length ≤ 1048577 := by omega
  have hil : is.length ≤ 1048576 := by omega
  have HBD : Hid (∀ (i : Nat) (p : BB), cs[i]? = some p → p.1.size ≤ 1048576 ∧ p.2.size ≤ 1048576) := bnd h0
  have HS := hid hs
  have HI := hid hi
  have H0 := hid h0
  have H1 := hid h1
  clear hs hi h0 h1
  go_enter Tryd.func19, Tryd.ntmps19
  go_wp2_with fail
  have HBW : Hid (Below w.heap.size w (w.alloc (.cells #[.slice a cs.length cap, .slice b is.length cap2] 42))) := (Below.refl _ _).alloc (Nat.le_refl _) _
  have HX1 : Hid ((w.alloc (.cells #[.slice a cs.length cap, .slice b is.length cap2] 42)).heap[w.heap.size]? = some (.cells #[.slice a cs.length cap, .slice b is.length cap2] 42 (0, 0))) := heap_alloc_new _ _
  generalize w.alloc (.cells #[.slice a cs.length cap, .slice b is.length cap2] 42) = W at *
  have hzb := HBW.out.size
  have hzs := lt_of_heap HX1.out
  refine (WorldValid_impl a b cap cap2 cs is W H0.out H1.out hcap (HS.out.below HBW.out) (HI.out.below HBW.out)).mono ?_
  rintro e w1 ⟨rfl, hb⟩
  have HB1 := hid hb
  obtain ⟨p10, p11⟩ := keep2 HX1.out hb
  have hz1 := hb.size
  have hlt1 : w.heap.size < w1.heap.size := by omega
  clear hb
  cases hv : wvB cs is with
  | false =>
    have HR : Hid (fmtW cs is = ⟨#[]⟩) := fmtW_no hv
    clear hv
    go_wp2
    go_ret
    exact ⟨ret_string HR.out.symm, HBW.out.trans (HB1.out.mono HBW.out.size)⟩
  | true =>
    have HWV : Hid (fmtW cs is = bl (clsL cs ++ insL is)) := fmtW_yes hv
    clear hv
    go_wp2_with fail
    have HO0 : Hid ((w1.alloc (.cells #[] 9)).ownsRow W.heap.size 9 1 (.slice (some ⟨w1.heap.size, 0, none⟩) 0 0) 0 []) := by
      have := World.ownsRow_made (base := W.heap.size) (e := 9) (size := 1) w1 #[] 0 (by omega) (by simp [maxLen]) rfl
      show World.ownsRow _ _ _ _ _ _ _
      simpa using this
    go_loopg [3, 17] cs.length (fun q o i wr => ∃ (k g cp : Nat), k ≤ cs.length ∧ cs.length - k ≤ q ∧ o = .slice (some ⟨g, 0, none⟩) k cp ∧ i = .int .i64 k ∧ Hid (wr.ownsRow W.heap.size 9 1 (.slice (some ⟨g, 0, none⟩) k cp) k (pieceC (cs.take k))) ∧ Below W.heap.size W wr)
    case atStart => exact ⟨0, w1.heap.size, 0, Nat.zero_le _, by simp, rfl, rfl, HO0.out, HB1.out.alloc (by omega) _⟩
    case round =>
      obtain ⟨k, g, cp, hk, hq, rfl, rfl, hO, hb⟩ := hrel
      have HB := hid hb
      have hbz := hb.size
      have HO := hid hO.out
      clear hb hO p10 p11 hlt1 HO0
      by_cases hlt : k < cs.length
      · obtain ⟨⟨x, y⟩, hp⟩ : ∃ p, cs[k]? = some p := ⟨_, List.getElem?_eq_getElem hlt⟩
        obtain ⟨b2, off, rfl, k0, k1, z0, z1, hbl⟩ := sp_at ((HS.out.below HBW.out).below HB.out) hp
        obtain ⟨hs1, hs2⟩ := HBD.out k _ hp
        have HPP := hid hp
        have hpl : (pieceC (cs.take k)).length = k := by simp [pieceC]; omega
        have HPL := hid hpl
        dsimp only at hs1 hs2
        clear hp z0 z1 hpl
        cases hpe : y.toList.isEmpty with
        | true =>
          have HCT : Hid (clsT (x, y) = x) := clsT_e hpe
          have HP : Hid (pieceC (cs.take (k + 1)) = pieceC (cs.take k) ++ [.string (x)]) := by
            show _ = _
            rw [← HCT.out]
            unfold pieceC
            obtain ⟨hl, hg⟩ := List.getElem?_eq_some_iff.1 HPP.out
            rw [List.take_succ_eq_append_getElem hl, List.map_append, hg]
            rfl
          have hpe2 : y.toList = [] := by simpa using hpe
          have HBA : Hid (Below W.heap.size W (wr.alloc (.cells #[.string x, .string y] 69))) := HB.out.alloc (by omega) _
          have HOA : Hid ((wr.alloc (.cells #[.string x, .string y] 69)).ownsRow W.heap.size 9 1 (.slice (some ⟨g, 0, none⟩) k cp) k (pieceC (cs.take k))) := World.ownsRow.alloc HO.out _
          have hxy : (x ++ (ByteArray.mk #[60] ++ y)).size ≤ 4194304 := by rw [ByteArray.size_append, ByteArray.size_append, show (ByteArray.mk #[60]).size = 1 from rfl]; omega
          go_wp2_with (first
            | (at_builtin; refine app_push_at 55 9 (.string ⟨#[]⟩) 1 16 Tryd.underlying55 FmtI.infoStr rfl (by decide) rfl _ _ rfl W.heap.size _ _ _ rfl (World.ownsRow.alloc HOA.out _) (wr.heap.size + 1) 1 [.string (x)] (by simp [go_sem]) rfl (news_one (heap_cell (hb_new2 _ _ _ _ rfl) 0)) (by simp [Value.oneCell']) (by unfold maxLen; omega) (by omega) (by simp; omega) ?_))
          intro g1 cap1 w2 hown hgr hlie
          simp only [World.size_alloc, Value.ownBlock, Option.some.injEq] at hlie
          have hg0 := (row_block HO.out).1
          have HB2 : Hid (Below W.heap.size W w2) := (HBA.out.alloc (by simp; omega) _).grown hgr (by simp; omega) (by simp [Value.ownBlock]; omega)
          have HO2 := hid hown
          clear hown hgr
          go_wp2_with fail
          go_roundg (cs.length - (k + 1))
          case measure => omega
          case rel =>
            refine ⟨k + 1, g1, cap1, by omega, by omega, rfl, by go_num, ?_, HB2.out⟩
            show World.ownsRow _ _ _ _ _ _ _
            rw [HP.out]
            exact HO2.out
        | false =>
          have HCT : Hid (clsT (x, y) = x ++ (⟨#[60]⟩ ++ y)) := clsT_n2 hpe
          have HP : Hid (pieceC (cs.take (k + 1)) = pieceC (cs.take k) ++ [.string (x ++ (⟨#[60]⟩ ++ y))]) := by
            show _ = _
            rw [← HCT.out]
            unfold pieceC
            obtain ⟨hl, hg⟩ := List.getElem?_eq_some_iff.1 HPP.out
            rw [List.take_succ_eq_append_getElem hl, List.map_append, hg]
            rfl

          have HBA : Hid (Below W.heap.size W (wr.alloc (.cells #[.string x, .string y] 69))) := HB.out.alloc (by omega) _
          have HOA : Hid ((wr.alloc (.cells #[.string x, .string y] 69)).ownsRow W.heap.size 9 1 (.slice (some ⟨g, 0, none⟩) k cp) k (pieceC (cs.take k))) := World.ownsRow.alloc HO.out _
          have hxy : (x ++ (ByteArray.mk #[60] ++ y)).size ≤ 4194304 := by rw [ByteArray.size_append, ByteArray.size_append, show (ByteArray.mk #[60]).size = 1 from rfl]; omega
          go_wp2_with (first
            | (at_builtin; refine app_push_at 55 9 (.string ⟨#[]⟩) 1 16 Tryd.underlying55 FmtI.infoStr rfl (by decide) rfl _ _ rfl W.heap.size _ _ _ rfl (World.ownsRow.alloc HOA.out _) (wr.heap.size + 1) 1 [.string (x ++ (⟨#[60]⟩ ++ y))] (by simp [go_sem]) rfl (news_one (heap_cell (hb_new2 _ _ _ _ rfl) 0)) (by simp [Value.oneCell']) (by unfold maxLen; omega) (by omega) (by simp; omega) ?_))
          intro g1 cap1 w2 hown hgr hlie
          simp only [World.size_alloc, Value.ownBlock, Option.some.injEq] at hlie
          have hg0 := (row_block HO.out).1
          have HB2 : Hid (Below W.heap.size W w2) := (HBA.out.alloc (by simp; omega) _).grown hgr (by simp; omega) (by simp [Value.ownBlock]; omega)
          have HO2 := hid hown
          clear hown hgr
          go_wp2_with fail
          go_roundg (cs.length - (k + 1))
          case measure => omega
          case rel =>
            refine ⟨k + 1, g1, cap1, by omega, by omega, rfl, by go_num, ?_, HB2.out⟩
            show World.ownsRow _ _ _ _ _ _ _
            rw [HP.out]
            exact HO2.out
      · have hke : k = cs.length := by omega
        have HOE : Hid (wr.ownsRow W.heap.size 9 1 (.slice (some ⟨g, 0, none⟩) cs.length cp) cs.length (pieceC cs)) := by
          have := HO.out
          rw [hke, List.take_length] at this
          exact this
        subst hke
        clear HO
        obtain ⟨p10, p11⟩ := keep2 HX1.out HB.out
        go_wp2_with fail
        have hj := Tryd.strings_Join g 0 cp (cs.map clsT) ⟨#[32]⟩ wr (fun j x hx => by
          have h1 : (pieceC cs)[j]? = some (.string x) := by
            simp only [List.getElem?_map, Option.map_eq_some_iff] at hx
            obtain ⟨c, hc, rfl⟩ := hx
            simp [pieceC, hc]
          have := row_cell HOE.out j h1
          simpa using this) (lt_of_heap (row_block HOE.out).2.choose_spec) (by simp; omega) (by
            rcases HOE.out.2 with ⟨h0, _⟩ | ⟨g', cap', cur, h0, _, _, hle, _⟩
            · simp at h0
            · simp at h0; simp; omega) (by show (clsL cs).length ≤ _; have := clsL_len cs; have := H0.out; omega)
        rw [show Lib.join ((cs.map clsT).map (·.data.toList)) (ByteArray.mk #[32]).data.toList = clsL cs from rfl] at hj
        simp only [List.length_map] at hj
        refine hj.mono ?_
        rintro e w3 ⟨rfl, hb⟩
        have HBL : Hid (Below W.heap.size W w3) := HB.out.trans (hb.mono HB.out.size)
        have HS0 : Hid (bl (clsL cs) = outL cs is 0) := (outL_zero cs is).symm
        have hz3 := hb.size
        clear hb hj p10 p11
        obtain ⟨p10, p11⟩ := keep2 HX1.out HBL.out
        rw [show ByteArray.mk (clsL cs).toArray = bl (clsL cs) from rfl]
        go_wp2_with fail
        clear p10 p11 hbz
        go_loopg [7, 41] is.length (fun q o i wr => ∃ (k : Nat) (s : ByteArray), k ≤ is.length ∧ is.length - k ≤ q ∧ o = .string s ∧ i = .int .i64 k ∧ Hid (s = outL cs is k) ∧ Below W.heap.size W wr)
        case atStart => exact ⟨0, _, Nat.zero_le _, by simp, rfl, rfl, HS0.out, HBL.out⟩
        case round =>
          obtain ⟨k, s, hk, hq, rfl, rfl, hS, hb⟩ := hrel
          have HB := hid hb
          have hbz := hb.size
          have HSS := hid hS
          have hssz : s.size ≤ 8388608 := by have := outL_size cs is k hk; rw [hS.out]; have := H0.out; have := H1.out; omega
          clear hb hS
          by_cases hlt : k < is.length
          · obtain ⟨⟨x, y, ns⟩, hp⟩ : ∃ p, is[k]? = some p := ⟨_, List.getElem?_eq_getElem hlt⟩
            obtain ⟨b2, off, an, cn, rfl, k0, k1, k2, hsn, -, -, hbl⟩ := si_at ((HI.out.below HBW.out).below HB.out) hp
            have hiw : iw (x, y, ns) ≤ 1048576 := by have h1 := itot_take is k _ hp; have h2 := itot_le is (k + 1); have := H1.out; omega
            unfold iw at hiw
            dsimp only at hiw
            have HP := hid hp
            have HSN := hid hsn
            have hfz := fmtI_size x y ns
            have HIW : Hid (x.size + y.size + tot ns + ns.length ≤ 1048576) := by show _ ≤ _; omega
            have hfz2 : (fmtI x y ns).size ≤ 8388608 := by omega
            clear hp hsn hfz hiw
            go_wp2_with fail
            have HBV : Hid (Below W.heap.size W (wr.alloc (.cells #[.string x, .string y, .slice an ns.length cn] 28))) := HB.out.alloc (by omega) _
            have HSV : Hid (SP (wr.alloc (.cells #[.string x, .string y, .slice an ns.length cn] 28)) (.slice an ns.length cn) ns) := HSN.out.below ((Below.refl _ _).alloc (Nat.le_refl _) _)
            clear k0 k1 k2
            generalize wr.alloc (.cells #[.string x, .string y, .slice an ns.length cn] 28) = V at *
            refine (FormatInstance_impl x y _ ns V HIW.out HSV.out).mono ?_
            rintro e w5 ⟨rfl, hb⟩
            have HB5 : Hid (Below W.heap.size W w5) := HBV.out.trans (hb.mono HBV.out.size)
            have HST : Hid (s ++ (⟨#[59]⟩ ++ fmtI x y ns) = outL cs is (k + 1)) := by show _ = _; rw [HSS.out]; exact outL_step2 HP.out
            clear hb
            go_wp2_with fail
            go_roundg (is.length - (k + 1))
            case measure => omega
            case rel => exact ⟨k + 1, _, by omega, by omega, rfl, by go_num, HST.out, HB5.out⟩
          · have hke : k = is.length := by omega
            have HR : Hid (s = fmtW cs is) := by show _ = _; rw [HSS.out, hke, outL_all, HWV.out]
            clear hke
            go_wp2_with fail
            go_ret
            exact ⟨ret_string HR.out, HBW.out.trans (HB.out.mono HBW.out.size)⟩
end FW
end Go.Proofs.YtbdnhcfebgkpdaaDoor
