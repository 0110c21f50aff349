/- FnExactMatchType answers true for every input: the program's MatchType returns what the reference's returns. Conditions: none. -/
import Derived.Test.YtlhildfiddphcaaMatT
import Derived.Test.YtlhildfiddphcaaBMk
import Derived.Test.YtlhildfiddphcaaBindS
import Derived.Test.YtlhildfiddphcaaRows
import Derived.Test.YtlhildfiddphcaaFacts
import Derived.WalkKit
import Derived.ProofKit
import Derived.OpenShut
import Derived.ShutString
import Derived.ChangeOld
import Derived.Below
set_option linter.unusedVariables false
set_option linter.unusedSimpArgs false
set_option maxRecDepth 100000
namespace Go.Proofs.Ytlhildfiddphcaa.fnExactMatchType
open Go.ChangeShapes Go.WideShapes Go.ChangeAt Go.RowKit Ty ListS MatP MatI
open Go.ChangeMaps (open_string shut_string)

theorem own : ownKnob Try.prog.godebug = none := by kernel_rfl
theorem bytes (s : ByteArray) : ∃ l : List UInt8, s = ⟨l.toArray⟩ ∧ s.size = l.length := ⟨s.data.toList, rfl, by simp⟩

theorem toldO_len (o : Option Sg) : (toldO o).length ≤ 6 := by
  cases o with
  | none => simp [toldO]
  | some s => show (told s).length ≤ 6; rw [told_len]; exact ks_len s
theorem toldO_sizes (l0 l1 : List UInt8) : ∀ (i : Nat) (p : BB), (toldO (matchO l0 l1))[i]? = some p → p.1.size ≤ maxLen ∧ p.2.size ≤ maxLen := by
  intro i p h
  cases hm : matchO l0 l1 with
  | none => rw [hm] at h; simp [toldO] at h
  | some s =>
    rw [hm] at h
    have hg : GS 60 s := by
      unfold matchO at hm
      cases h1 : ty l0 with
      | none => rw [h1] at hm; simp at hm
      | some a =>
        cases h2 : ty l1 with
        | none => rw [h1, h2] at hm; simp at hm
        | some b =>
          rw [h1, h2] at hm
          obtain ⟨e2, q2, q3⟩ := ty_some h2
          exact mt_gs a b _ s 60 (ty_some h1).2.1 q2 (by rw [← e2]; exact q3) gs_none hm
    show p.1.size ≤ maxLen ∧ _
    have h' : (told s)[i]? = some p := h
    unfold told at h'
    rw [List.getElem?_map] at h'
    obtain ⟨c, hc, rfl⟩ := Option.map_eq_some_iff.1 h'
    refine ⟨by simp [ByteArray.size, maxLen], ?_⟩
    show (MapS.tx s c).toArray.size ≤ maxLen
    unfold MapS.tx
    cases hs : s c with
    | none => simp [maxLen]
    | some u => have := (hg c u hs).2.2; simp [maxLen]; omega
theorem sp_row {w : World} {base n cap : Nat} {a : Option Addr} {xs : List BB} (ho : w.ownsRow base 45 2 (.slice a n cap) xs.length (flat xs)) (hz : ∀ (i : Nat) (p : BB), xs[i]? = some p → p.1.size ≤ maxLen ∧ p.2.size ≤ maxLen) : SP w (.slice a n cap) xs := by
  rcases ho.2 with ⟨h, h0⟩ | ⟨g, c, cur, h, hb, hg, h1, h2, h3, h4⟩
  · have hx := List.length_eq_zero_iff.1 h0
    cases h
    exact .inl ⟨hx, _, _, rfl⟩
  · cases h
    refine .inr ⟨g, 0, cap, rfl, Nat.le_trans h1 h2, fun i p hp => ?_⟩
    obtain ⟨f0, f1⟩ := flat_get xs i p hp
    have r0 := row_cell ho (i * 2) f0
    have r1 := row_cell ho (i * 2 + 1) f1
    obtain ⟨z0, z1⟩ := hz i p hp
    exact ⟨by simpa using r0, by simpa using r1, z0, z1⟩
set_option maxHeartbeats 8000000 in
theorem walk (a0 : ByteArray) (w0 : a0.size ≤ maxLen) (a1 : ByteArray) (w1 : a1.size ≤ maxLen) (w : World) :
    Calls Try.prog 3 #[.string a0, .string a1] w fun e w' => e = .returned (.bool true) ∧ Below w.heap.size w w' := by
  obtain ⟨l0, rfl, hz0⟩ := bytes a0
  by_cases h0 : l0.length ≤ 1048576
  rotate_left
  · unfold maxLen at w0
    go_enter Try.func3, Try.ntmps3
    go_wp2_with fail
    go_ret
    exact ⟨rfl, Below.refl _ _⟩
  obtain ⟨l1, rfl, hz1⟩ := bytes a1
  by_cases h1 : l1.length ≤ 1048576
  rotate_left
  · unfold maxLen at w1
    go_enter Try.func3, Try.ntmps3
    go_wp2_with fail
    go_ret
    exact ⟨rfl, Below.refl _ _⟩
  obtain ⟨o, ho⟩ : ∃ o, o = matchO l0 l1 := ⟨_, rfl⟩
  obtain ⟨xs, hxs⟩ : ∃ xs, xs = toldO o := ⟨_, rfl⟩
  obtain ⟨ok, hok⟩ : ∃ b, b = o.isSome := ⟨_, rfl⟩
  have HXS : Hid (toldO o = xs) := hxs.symm
  have HZ : Hid (∀ (i : Nat) (p : BB), xs[i]? = some p → p.1.size ≤ maxLen ∧ p.2.size ≤ maxLen) := by rw [hxs, ho]; exact toldO_sizes l0 l1
  have MP : ∀ (f : FuncId) (h : ∀ (lp lt : List UInt8) (w : World), lp.length ≤ 1073741824 → lt.length ≤ 1073741824 → Calls Try.prog f #[.string ⟨lp.toArray⟩, .string ⟨lt.toArray⟩] w (MatI.MTPost w (matchO lp lt))) (W : World), Calls Try.prog f #[.string ⟨l0.toArray⟩, .string ⟨l1.toArray⟩] W fun e w' => ∃ a cap, e = .returned (.tuple #[.slice a xs.length cap, .bool ok]) ∧ w'.ownsRow W.heap.size 45 2 (.slice a xs.length cap) xs.length (flat xs) ∧ Below W.heap.size W w' := by
    intro f h W
    have h2 := h l0 l1 W (by omega) (by omega)
    rw [← ho] at h2
    unfold MatI.MTPost at h2
    rw [← hxs, ← hok] at h2
    exact h2
  have MPS := hid (MP _ MatS.MatchType_spec)
  have MPI := hid (MP _ MatI.MatchType_impl)
  clear hok ho hxs MP
  have HX : Hid (xs.length ≤ 6) := by rw [← HXS.out]; exact toldO_len _
  go_enter Try.func3, Try.ntmps3
  go_wp2_with fail
  refine (MPS.out w).mono ?_
  rintro e w1 ⟨va, vc, rfl, ho, hb⟩
  have Ov := hid (row_own ho)
  have Rv := hid ho
  have B : Hid (Below w.heap.size w w1) := hb
  have hz1 := hb.size
  clear ho hb
  go_wp2_with fail
  refine (MPI.out w1).mono ?_
  rintro e w2 ⟨ua, uc, rfl, ho, hb⟩
  have Ou := hid (row_own ho)
  have Ru := hid ho
  replace Rv : Hid (World.ownsRow w2 w.heap.size 45 2 (.slice va xs.length vc) xs.length (flat xs)) := row_below hb Rv.out
  replace B : Hid (Below w.heap.size w w2) := B.out.trans (hb.mono B.out.size)
  have hz2 := hb.size
  clear ho hb
  go_wp2_with fail
  refine (eqBindingS_same _ _ xs w2 (sp_row Ru.out HZ.out) (sp_row Rv.out HZ.out)).mono ?_
  rintro e w3 ⟨rfl, hb⟩
  replace Rv : Hid (World.ownsRow w3 w.heap.size 45 2 (.slice va xs.length vc) xs.length (flat xs)) := row_below hb Rv.out
  replace Ru : Hid (World.ownsRow w3 w1.heap.size 45 2 (.slice ua xs.length uc) xs.length (flat xs)) := row_below hb Ru.out
  replace B : Hid (Below w.heap.size w w3) := B.out.trans (hb.mono B.out.size)
  have hz3 := hb.size
  clear hb
  go_wp2_with fail
  refine (BMk.mark_v _ xs 1 w3 _ (by decide) (by decide) (by have := HX.out; omega) Ru.out).mono ?_
  rintro e w4 ⟨rfl, hm, hgr⟩
  have M := hid hm
  have hov := fun g h => (Ou.out g h).1
  replace B : Hid (Below w.heap.size w w4) := B.out.grown hgr B.out.size (fun g h => by have := hov g h; omega)
  replace Rv : Hid (World.ownsRow w4 w.heap.size 45 2 (.slice va xs.length vc) xs.length (flat xs)) := row_grown hgr Rv.out (fun g h e => by have h1 := (Ov.out g h).2; have h2 := hov g e; omega)
  have hz4 := hgr.size
  clear hm hgr hov Ru
  have hneg : ¬ (((1 + xs.length * 2 : Nat) : Int) < 0) := by omega
  have hsame : (((1 + xs.length * 2 : Nat) : Int) != ((1 + xs.length * 2 : Nat) : Int)) = false := by simp
  go_wp2_with fail
  refine (BMk.held_v _ xs.length 1 w4 (by decide) (by decide) (by have := HX.out; omega) M.out).mono ?_
  rintro e w5 ⟨rfl, hb⟩
  replace Rv : Hid (World.ownsRow w5 w.heap.size 45 2 (.slice va xs.length vc) xs.length (flat xs)) := row_below hb Rv.out
  replace M : Hid (BMk.HM w5 (.slice ua xs.length uc) xs.length 1) := M.out.below hb
  replace B : Hid (Below w.heap.size w w5) := B.out.trans (hb.mono B.out.size)
  have hz5 := hb.size
  clear hb
  go_wp2_with fail
  refine (MPI.out w5).mono ?_
  rintro e w6 ⟨ta, tc, rfl, ho, hb⟩
  have Rt := hid ho
  replace Rv : Hid (World.ownsRow w6 w.heap.size 45 2 (.slice va xs.length vc) xs.length (flat xs)) := row_below hb Rv.out
  replace M : Hid (BMk.HM w6 (.slice ua xs.length uc) xs.length 1) := M.out.below hb
  replace B : Hid (Below w.heap.size w w6) := B.out.trans (hb.mono B.out.size)
  clear ho hb
  go_wp2_with fail
  refine (eqBindingS_same _ _ xs w6 (sp_row Rt.out HZ.out) (sp_row Rv.out HZ.out)).mono ?_
  rintro e w7 ⟨rfl, hb⟩
  replace M : Hid (BMk.HM w7 (.slice ua xs.length uc) xs.length 1) := M.out.below hb
  replace B : Hid (Below w.heap.size w w7) := B.out.trans (hb.mono B.out.size)
  clear hb
  go_wp2_with fail
  refine (BMk.held_v _ xs.length 1 w7 (by decide) (by decide) (by have := HX.out; omega) M.out).mono ?_
  rintro e w8 ⟨rfl, hb⟩
  replace B : Hid (Below w.heap.size w w8) := B.out.trans (hb.mono B.out.size)
  clear hb
  go_wp2
  go_ret
  exact ⟨rfl, B.out⟩

set_option maxRecDepth 100000 in
theorem lifted (os : Os) (started : os.Started) (H : Type) (enc : TypeId × Value → H) :
    ReturnsInHanded {} Try.checked os 3 .any (Rows.fnExactMatchTypeSpec.pre6 enc Try.prog Try.f3 Rows.fnExactMatchTypeRow.domain false) (Rows.fnExactMatchTypeSpec.post enc Try.prog Try.f3 false true false false) := by
  refine returnsInHanded_of_change (C := Try.checked) own started (by kernel_rfl) Try.func3
    (ChangeSpec.witness6 (enc := enc) (C := Try.checked) false ⟨#[], #[.string ByteArray.empty, .string ByteArray.empty], []⟩ 8 (by kernel_rfl) (by kernel_rfl) (by kernel_rfl) (by kernel_rfl)) ?_
  intro W base args ds gs before hval0 hW hcnd _
  have hval : ∀ (j : Nat) t v, Try.f3.params[j]? = some t → args[j]? = some v → Value.okWide Try.prog W .any base t v := hval0
  have hW' := hW
  obtain ⟨p, q, hA0, hV, rfl, hfz, hnd⟩ := hW
  have hA : DataW.TrodAll enc Try.prog W 0 (fun _ => true) true Try.f3.params.toList args.toList ds p := hA0
  rw [Try.params3] at hA hval
  obtain ⟨v0, vs0, d0, ds0, p0, q0, hargs, rfl, rfl, h0, r0⟩ := trodAll_cons hA
  obtain ⟨v1, vs1, d1, ds1, p1, q1, rfl, rfl, rfl, h1, r1⟩ := trodAll_cons r0
  obtain ⟨rfl, rfl, rfl⟩ := trodAll_nil r1
  obtain rfl : args = #[v0, v1] := by cases args; simp_all
  obtain ⟨rfl, rfl⟩ := trodVars_none hV
  obtain ⟨a0, rfl, rfl, rfl, w0⟩ := open_string Try.underlying9 (hval 0 9 v0 rfl rfl) h0
  obtain ⟨a1, rfl, rfl, rfl, w1⟩ := open_string Try.underlying9 (hval 1 9 v1 rfl rfl) h1
  clear hA0 hval0
  simp only [List.append_nil] at hW'
  refine (walk a0 w0 a1 w1 W).mono fun e W' ⟨he, bel⟩ => ?_
  subst he
  exact ⟨_, rfl, _, _, _, [], _, [], hW', (trodAll_cons_mk (shut_bool Try.underlying4 _) trodAll_mk0), (trodAll_cons_mk (shut_string Try.underlying9 w0) (trodAll_cons_mk (shut_string Try.underlying9 w1) trodAll_mk0)), rfl, bel.frame _, fun h => by cases h⟩
theorem e1 : Rows.fnExactMatchTypeRow.lifted = Rows.fnExactMatchTypeRow.lifted := rfl
theorem e2 : Rows.fnExactMatchTypeRow.make = Rows.fnExactMatchTypeRow.make := rfl
theorem e3 : Rows.fnExactMatchTypeRow.plainKeys = Rows.fnExactMatchTypeRow.plainKeys := rfl
theorem facts : joinedFacts Try.pinned.checked.prog 3 Try.f3 Rows.fnExactMatchTypeSpec Rows.fnExactMatchTypeRow = true := by
  refine Facts.joined e1 e2 e3 ?_ ?_ ?_ ?_ ?_ ?_ ?_ ?_ ?_ ?_ ?_ ?_ ?_ ?_ ?_ ?_ ?_ ?_ ?_ ?_ ?_ ?_ ?_
  all_goals as_aux_lemma => kernel_rfl
theorem over : Rows.fnExactMatchTypeRow.holds Try.pinned (OpenSpec.ofChange Rows.fnExactMatchTypeSpec) :=
  OpenClaim.holds_of_wide 3 Try.f3 rfl rfl rfl rfl rfl rfl rfl ⟨rfl, rfl, rfl, rfl, rfl⟩ rfl rfl rfl rfl rfl (by kernel_rfl) Try.func3 facts
    (of_decide_eq_true (by kernel_rfl)) (by unfold Func.isWrapper; first | (rw [if_pos (by decide +kernel)]; kernel_rfl) | (rw [if_neg (by decide +kernel)]; exact ⟨rfl, rfl⟩))
    (fun os started H enc _ => lifted os started H enc)
end Go.Proofs.Ytlhildfiddphcaa.fnExactMatchType
namespace Go.Proofs.Ytlhildfiddphcaa
theorem fnExactMatchType_holds : Rows.FnExactMatchTypeSaid := fnExactMatchType.over
end Go.Proofs.Ytlhildfiddphcaa
