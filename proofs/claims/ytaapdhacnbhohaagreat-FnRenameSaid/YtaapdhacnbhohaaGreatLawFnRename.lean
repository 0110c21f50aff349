/- FnRename answers true for every input: a drawn type renamed has capital variables alone, has the same form, and renamed again it stays. Conditions: none. -/
import Derived.Test.YtaapdhacnbhohaaGreatDrawV
import Derived.Test.YtaapdhacnbhohaaGreatRenU
import Derived.Test.YtaapdhacnbhohaaGreatVarsI
import Derived.Test.YtaapdhacnbhohaaGreatTypeFns
import Derived.Test.YtaapdhacnbhohaaGreatGround
import Derived.Test.YtaapdhacnbhohaaGreatRows
import Derived.Test.YtaapdhacnbhohaaGreatFacts
import Derived.WalkKit
import Derived.ProofKit
import Derived.OpenShut
import Derived.ShutString
import Derived.ChangeOld
import Derived.Below
import Derived.Carry
import Derived.Lib.SmallJoins
set_option linter.unusedVariables false
set_option linter.unusedSimpArgs false
set_option maxRecDepth 100000
namespace Go.Proofs.YtaapdhacnbhohaaGreat.fnRename
open Go.ChangeShapes Go.WideShapes Go.ChangeAt Go.RowKit Go.Joins Ty
open Go.ChangeMaps (open_string shut_string)

theorem own : ownKnob Tryz.prog.godebug = none := by kernel_rfl
theorem laidOut : laidOutB Tryz.prog = true := by kernel_rfl
theorem bytes (s : ByteArray) : ∃ l : List UInt8, s = ⟨l.toArray⟩ ∧ s.size = l.length := ⟨s.data.toList, rfl, by simp⟩
set_option maxHeartbeats 8000000 in
theorem walk (w : World) (v0 : Value) (xs0 : List Int) (s0 : Draw.SB w v0 xs0) :
    Calls Tryz.prog 3 #[v0] w fun e w' => e = .returned (.bool true) ∧ Below w.heap.size w w' := by
  obtain ⟨a0, c0, rfl⟩ := Draw.sb_slice s0
  by_cases hl0 : 1048576 < xs0.length
  · have hl0' : (xs0.length : Int) > 1048576 := by omega
    go_enter Tryz.func3, Tryz.ntmps3
    go_wp2
    go_ret
    exact ⟨rfl, Below.refl _ _⟩
  have hl0' : ¬ (xs0.length : Int) > 1048576 := by omega
  have S0 := hid s0
  have B : Hid (Below w.heap.size w w) := Below.refl _ _
  clear s0
  go_enter Tryz.func3, Tryz.ntmps3
  go_wp2_with fail
  refine (Draw.DrawRenameType_any _ xs0 w S0.out).mono ?_
  rintro e w1 ⟨s, rfl, -, hs, hb⟩
  replace B : Hid (Below w.heap.size w w1) := B.out.trans (hb.mono B.out.size)
  clear hb 
  obtain ⟨l, rfl, hz⟩ := bytes s
  have hl : l.length ≤ 2147483648 := by omega
  have hl1 : l.length ≤ 1048576 := by omega
  have hl2 : l.length + 4 ≤ maxLen := by unfold maxLen; omega
  clear hz hs S0
  obtain ⟨u, hu⟩ : ∃ u, u = RenP.renL l := ⟨_, rfl⟩
  have HU := hid hu
  clear hu
  go_wp2_with fail
  refine ((show Calls Tryz.prog _ _ w1 (fun e w' => e = .returned (.string ⟨u.toArray⟩) ∧ Below (w1).heap.size w1 w') from by rw [HU.out]; exact Ren.RenameType_impl l w1 hl1)).mono ?_
  rintro e w2 ⟨rfl, hb⟩
  replace B : Hid (Below w.heap.size w w2) := B.out.trans (hb.mono B.out.size)
  clear hb 
  cases ht : ty l with
  | none =>
    have HT1 := hid (fun x => TypeValid_impl l x hl2)
    rw [ht] at HT1
    have hu0 : u.isEmpty = true := by rw [HU.out, RenP.ren_none ht]; rfl
    clear ht
    go_wp2_with fail
    refine ((show Calls Tryz.prog _ _ w2 (fun e w' => e = .returned (.string ⟨u.toArray⟩) ∧ Below (w2).heap.size w2 w') from by rw [HU.out]; exact Ren.RenameType_spec l w2 hl1)).mono ?_
    rintro e w3 ⟨rfl, hb⟩
    replace B : Hid (Below w.heap.size w w3) := B.out.trans (hb.mono B.out.size)
    clear hb 
    go_wp2_with fail
    refine ((show Calls Tryz.prog _ _ w3 (fun e w' => e = .returned (.string ⟨u.toArray⟩) ∧ Below (w3).heap.size w3 w') from by rw [HU.out]; exact Ren.RenameType_spec l w3 hl1)).mono ?_
    rintro e w4 ⟨rfl, hb⟩
    replace B : Hid (Below w.heap.size w w4) := B.out.trans (hb.mono B.out.size)
    clear hb 
    go_wp2_with fail
    refine (HT1.out w4).mono ?_
    rintro e w5 ⟨rfl, hb⟩
    replace B : Hid (Below w.heap.size w w5) := B.out.trans (hb.mono B.out.size)
    clear hb 
    go_wp2
    go_ret
    exact ⟨rfl, B.out⟩
  | some t =>
    have hum : u = l.map RenP.cap := by rw [HU.out]; exact (RenP.ren_some ht).1
    have htu : ty u = some (RenP.capT t) := by rw [hum]; exact (RenP.ren_some ht).2
    have hul : u.length = l.length := by rw [hum, List.length_map]
    have hlp : 0 < l.length := by
      rw [(ty_some ht).1]
      cases t <;> simp [Ty.text]
    have hu0 : u.isEmpty = false := by
      cases hq : u with
      | nil => rw [hq] at hul; simp at hul; omega
      | cons x y => rfl
    have hlen : (((u.length : Nat) : Int) == ((l.length : Nat) : Int)) = true := by rw [hul]; simp
    have HTU := hid (fun x => TypeValid_impl u x (by rw [hul]; exact hl2))
    rw [htu] at HTU
    have HVU := hid (fun x => VarsOf_impl u x (by rw [hul]; exact hl))
    have HSU := hid (fun x => SizeOf_impl u x (by rw [hul]; exact hl))
    have HSL := hid (fun x => SizeOf_impl l x hl)
    have HDU := hid (fun x => DepthOf_impl u x (by rw [hul]; exact hl))
    have HDL := hid (fun x => DepthOf_impl l x hl)
    have hss := RenP.size_same ht
    rw [← hum] at hss
    rw [hss.1] at HSU
    rw [hss.2] at HDU
    have HRU := hid (fun x => Ren.RenameType_impl u x (by rw [hul]; exact hl1))
    have hra : RenP.renL u = u := by rw [hum]; exact RenP.ren_again ht
    rw [hra] at HRU
    have HVC : Hid (∀ (k : Nat) (v : UInt8), (varsL u)[k]? = some v → v.toNat ≤ 90) := by
      show ∀ (k : Nat) (v : UInt8), _
      intro k v hv
      rw [hum] at hv
      exact RenP.vars_cap hv
    have HGS : Hid (groundB l = true → u = l) := by
      show _ → _
      intro hg
      rw [hum]
      exact RenP.ground_same hg
    clear ht hum htu hlp hss hra hul
    go_wp2_with fail
    refine ((show Calls Tryz.prog _ _ w2 (fun e w' => e = .returned (.string ⟨u.toArray⟩) ∧ Below (w2).heap.size w2 w') from by rw [HU.out]; exact Ren.RenameType_spec l w2 hl1)).mono ?_
    rintro e w3 ⟨rfl, hb⟩
    replace B : Hid (Below w.heap.size w w3) := B.out.trans (hb.mono B.out.size)
    clear hb 
    go_wp2_with fail
    refine (HVU.out w3).mono ?_
    rintro e w4 ⟨rfl, hb⟩
    replace B : Hid (Below w.heap.size w w4) := B.out.trans (hb.mono B.out.size)
    clear hb 
    go_wp2_with fail
    have hv6 := varsL_len u
    go_loopg [33] (varsL u).length (fun q i wr => ∃ k : Nat, k ≤ (varsL u).length ∧ (varsL u).length - k ≤ q ∧ i = .int .i64 k ∧ Below w.heap.size w wr)
    case atStart => exact ⟨0, Nat.zero_le _, by simp, rfl, B.out⟩
    case round =>
      clear B
      obtain ⟨k, hk, hq, rfl, hb⟩ := hrel
      have HB := hid hb
      clear hb
      by_cases hlt : k < (varsL u).length
      · obtain ⟨v, hv⟩ : ∃ v, (varsL u)[k]? = some v := ⟨_, List.getElem?_eq_getElem hlt⟩
        have hv90 := HVC.out k v hv
        have hsz : (ByteArray.mk (varsL u).toArray).size = (varsL u).length := by simp [ByteArray.size]
        have hi2 : ((ByteArray.mk (varsL u).toArray)[k]'(by rw [hsz]; exact hlt)) = v := by
          have := (List.getElem?_eq_some_iff.1 hv).2
          rw [← this]
          rfl
        have hi1 : (varsL u)[k]'hlt = v := hi2
        have hgt : ¬ ((v.toNat : Nat) : Int) > 90 := by omega
        clear hv
        go_wp2_with fail
        refine (HVU.out wr).mono ?_
        rintro e w1 ⟨rfl, hb⟩
        have HB1 : Hid (Below w.heap.size w w1) := HB.out.trans (hb.mono HB.out.size)
        clear hb
        go_wp2_with fail
        go_roundg ((varsL u).length - (k + 1))
        case measure => omega
        case rel => exact ⟨k + 1, by omega, by omega, by go_num, HB1.out⟩
      · have hke : k = (varsL u).length := by omega
        subst hke
        clear hlt hq hk
        cases hg : groundB l with
        | true =>
          have hul := HGS.out hg
          have hgl := hid (fun x => IsGround_impl l x hl)
          rw [hg] at hgl
          have heq : (u == l) = true := by rw [hul]; simp
          clear hg hul
          have B := HB
          clear HB
          go_wp2_with fail
          refine (HTU.out wr).mono ?_
          rintro e w21 ⟨rfl, hb⟩
          replace B : Hid (Below w.heap.size w w21) := B.out.trans (hb.mono B.out.size)
          clear hb 
          go_wp2_with fail
          refine (HSU.out w21).mono ?_
          rintro e w22 ⟨rfl, hb⟩
          replace B : Hid (Below w.heap.size w w22) := B.out.trans (hb.mono B.out.size)
          clear hb 
          go_wp2_with fail
          refine (HSL.out w22).mono ?_
          rintro e w23 ⟨rfl, hb⟩
          replace B : Hid (Below w.heap.size w w23) := B.out.trans (hb.mono B.out.size)
          clear hb 
          go_wp2_with fail
          refine (HDU.out w23).mono ?_
          rintro e w24 ⟨rfl, hb⟩
          replace B : Hid (Below w.heap.size w w24) := B.out.trans (hb.mono B.out.size)
          clear hb 
          go_wp2_with fail
          refine (HDL.out w24).mono ?_
          rintro e w25 ⟨rfl, hb⟩
          replace B : Hid (Below w.heap.size w w25) := B.out.trans (hb.mono B.out.size)
          clear hb 
          go_wp2_with fail
          refine (HRU.out w25).mono ?_
          rintro e w26 ⟨rfl, hb⟩
          replace B : Hid (Below w.heap.size w w26) := B.out.trans (hb.mono B.out.size)
          clear hb 
          go_wp2_with fail
          refine (hgl.out w26).mono ?_
          rintro e w27 ⟨rfl, hb⟩
          replace B : Hid (Below w.heap.size w w27) := B.out.trans (hb.mono B.out.size)
          clear hb 
          go_wp2
          go_ret
          exact ⟨rfl, B.out⟩
        | false =>
          have hgl := hid (fun x => IsGround_impl l x hl)
          rw [hg] at hgl
          clear hg
          have B := HB
          clear HB
          go_wp2_with fail
          refine (HTU.out wr).mono ?_
          rintro e w21 ⟨rfl, hb⟩
          replace B : Hid (Below w.heap.size w w21) := B.out.trans (hb.mono B.out.size)
          clear hb 
          go_wp2_with fail
          refine (HSU.out w21).mono ?_
          rintro e w22 ⟨rfl, hb⟩
          replace B : Hid (Below w.heap.size w w22) := B.out.trans (hb.mono B.out.size)
          clear hb 
          go_wp2_with fail
          refine (HSL.out w22).mono ?_
          rintro e w23 ⟨rfl, hb⟩
          replace B : Hid (Below w.heap.size w w23) := B.out.trans (hb.mono B.out.size)
          clear hb 
          go_wp2_with fail
          refine (HDU.out w23).mono ?_
          rintro e w24 ⟨rfl, hb⟩
          replace B : Hid (Below w.heap.size w w24) := B.out.trans (hb.mono B.out.size)
          clear hb 
          go_wp2_with fail
          refine (HDL.out w24).mono ?_
          rintro e w25 ⟨rfl, hb⟩
          replace B : Hid (Below w.heap.size w w25) := B.out.trans (hb.mono B.out.size)
          clear hb 
          go_wp2_with fail
          refine (HRU.out w25).mono ?_
          rintro e w26 ⟨rfl, hb⟩
          replace B : Hid (Below w.heap.size w w26) := B.out.trans (hb.mono B.out.size)
          clear hb 
          go_wp2_with fail
          refine (hgl.out w26).mono ?_
          rintro e w27 ⟨rfl, hb⟩
          replace B : Hid (Below w.heap.size w w27) := B.out.trans (hb.mono B.out.size)
          clear hb 
          go_wp2
          go_ret
          exact ⟨rfl, B.out⟩

theorem lifted (os : Os) (started : os.Started) (H : Type) (enc : TypeId × Value → H) :
    ReturnsInHanded {} Tryz.checked os 3 .any (Rows.fnRenameSpec.pre6 enc Tryz.prog Tryz.f3 Rows.fnRenameRow.domain false) (Rows.fnRenameSpec.post enc Tryz.prog Tryz.f3 false true false false) := by
  refine returnsInHanded_of_change (C := Tryz.checked) own started (by kernel_rfl) Tryz.func3
    (ChangeSpec.witness6 (enc := enc) (C := Tryz.checked) false ⟨#[], #[.slice none 0 0], []⟩ 8 (by kernel_rfl) (by kernel_rfl) (by kernel_rfl) (by kernel_rfl)) ?_
  intro W base args ds gs before hval0 hW hcnd _
  have hval : ∀ (j : Nat) t v, Tryz.f3.params[j]? = some t → args[j]? = some v → Value.okWide Tryz.prog W .any base t v := hval0
  have hW' := hW
  obtain ⟨p, q, hA0, hV, rfl, hfz, hnd⟩ := hW
  have hA : DataW.TrodAll enc Tryz.prog W 0 (fun _ => true) true Tryz.f3.params.toList args.toList ds p := hA0
  rw [Tryz.params3] at hA hval
  have hL := DataW.TrodAll.lt hA
  obtain ⟨v0, vs0, d0, ds0, p0, q0, hargs, rfl, rfl, h0, r0⟩ := trodAll_cons hA
  obtain ⟨rfl, rfl, rfl⟩ := trodAll_nil r0
  obtain rfl : args = #[v0] := by cases args; simp_all
  obtain ⟨rfl, rfl⟩ := trodVars_none hV
  have k0 := h0
  have l0 : ∀ x ∈ p0, x.block < W.heap.size := fun x hx => hL x (by simp [hx])
  obtain ⟨xs0, s0⟩ := Draw.open_sb Tryz.underlying22 Tryz.underlying5 (by kernel_rfl) (hval 0 22 v0 rfl rfl) h0
  clear hA0 hval0
  simp only [List.append_nil] at hW'
  refine (walk W _ _ s0).mono fun e W' ⟨he, bel⟩ => ?_
  subst he
  exact ⟨_, rfl, _, _, _, [], _, [], hW', (trodAll_cons_mk (shut_bool Tryz.underlying4 _) trodAll_mk0), (trodAll_cons_mk (Below.trod laidOut (by kernel_rfl) (of_decide_eq_true (by kernel_rfl)) k0 bel l0) trodAll_mk0), rfl, bel.frame _, fun h => by cases h⟩
theorem e1 : Rows.fnRenameRow.lifted = Rows.fnRenameRow.lifted := rfl
theorem e2 : Rows.fnRenameRow.make = Rows.fnRenameRow.make := rfl
theorem e3 : Rows.fnRenameRow.plainKeys = Rows.fnRenameRow.plainKeys := rfl
theorem facts : joinedFacts Tryz.pinned.checked.prog 3 Tryz.f3 Rows.fnRenameSpec Rows.fnRenameRow = true := by
  refine Facts.joined e1 e2 e3 ?_ ?_ ?_ ?_ ?_ ?_ ?_ ?_ ?_ ?_ ?_ ?_ ?_ ?_ ?_ ?_ ?_ ?_ ?_ ?_ ?_ ?_ ?_
  all_goals as_aux_lemma => kernel_rfl
theorem over : Rows.fnRenameRow.holds Tryz.pinned (OpenSpec.ofChange Rows.fnRenameSpec) :=
  OpenClaim.holds_of_wide 3 Tryz.f3 rfl rfl rfl rfl rfl rfl rfl ⟨rfl, rfl, rfl, rfl, rfl⟩ rfl rfl rfl rfl rfl (by kernel_rfl) Tryz.func3 facts
    (of_decide_eq_true (by kernel_rfl)) (by unfold Func.isWrapper; first | (rw [if_pos (by decide +kernel)]; kernel_rfl) | (rw [if_neg (by decide +kernel)]; exact ⟨rfl, rfl⟩))
    (fun os started H enc _ => lifted os started H enc)
end Go.Proofs.YtaapdhacnbhohaaGreat.fnRename
namespace Go.Proofs.YtaapdhacnbhohaaGreat
theorem fnRename_holds : Rows.FnRenameSaid := fnRename.over
end Go.Proofs.YtaapdhacnbhohaaGreat
