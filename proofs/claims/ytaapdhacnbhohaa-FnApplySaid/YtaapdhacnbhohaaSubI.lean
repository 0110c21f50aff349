/- The program's ApplyBindings. Conditions: texts of at most 2^20 bytes together. -/
import Derived.Test.YtaapdhacnbhohaaSub
set_option linter.unusedVariables false
set_option linter.unusedSimpArgs false
set_option maxRecDepth 100000
namespace Go.Proofs.Ytaapdhacnbhohaa
open Go.RowKit Ty ListS Parts Go.Proofs.Ytaapdhacnbhohaa.Text MkType
namespace Sub
def APost (w : World) (o : Option (List UInt8)) (e : Ending) (w' : World) : Prop :=
  e = .returned (.tuple #[.string ⟨(o.getD []).toArray⟩, .bool o.isSome]) ∧ Below w.heap.size w w'
theorem apply_bad {xs : List BB} {l : List UInt8} (h : bvB xs = false) : applyB xs l = none := by unfold applyB; rw [if_neg (by rw [h]; simp)]
theorem apply_not {xs : List BB} {l : List UInt8} (h : (ty l).isSome = false) : applyB xs l = none := by unfold applyB; rw [if_neg (by rw [h]; simp)]
theorem apply_yes {xs : List BB} {l : List UInt8} (h : bvB xs = true) (h2 : (ty l).isSome = true) (h3 : (l.flatMap (chL xs)).length ≤ 60) : applyB xs l = some (l.flatMap (chL xs)) := by unfold applyB; rw [if_pos ⟨h, h2⟩, if_pos h3]
theorem apply_long {xs : List BB} {l : List UInt8} (h3 : ¬ (l.flatMap (chL xs)).length ≤ 60) : applyB xs l = none := by unfold applyB; split <;> simp [h3]
theorem slice_one (l : List UInt8) (k : Nat) (c : UInt8) (h : l[k]? = some c) : (ByteArray.mk l.toArray).extract k (k + 1) = ⟨#[c]⟩ := by
  obtain ⟨hlt, rfl⟩ := List.getElem?_eq_some_iff.1 h
  apply ByteArray.ext
  simp [ByteArray.data_extract]
  rw [List.drop_eq_getElem_cons hlt]
  rfl
theorem find_none_take {xs : List BB} {c : UInt8} {k : Nat} {p : BB} (h : (xs.take k).find? (fun p => decide (p.1 = ⟨#[c]⟩)) = none) (hk : xs[k]? = some p) (hp : p.1 ≠ ⟨#[c]⟩) : (xs.take (k + 1)).find? (fun p => decide (p.1 = ⟨#[c]⟩)) = none := by
  obtain ⟨hlt, rfl⟩ := List.getElem?_eq_some_iff.1 hk
  rw [List.take_succ_eq_append_getElem hlt, List.find?_append, h]
  simp [hp]
theorem chL_found {xs : List BB} {c : UInt8} {k : Nat} {p : BB} (h : (xs.take k).find? (fun p => decide (p.1 = ⟨#[c]⟩)) = none) (hk : xs[k]? = some p) (hp : p.1 = ⟨#[c]⟩) : chL xs c = p.2.data.toList := by
  obtain ⟨hlt, rfl⟩ := List.getElem?_eq_some_iff.1 hk
  have e : xs = xs.take k ++ (xs[k] :: xs.drop (k + 1)) := by rw [← List.drop_eq_getElem_cons hlt, List.take_append_drop]
  have : xs.find? (fun p => decide (p.1 = ⟨#[c]⟩)) = some xs[k] := by
    conv => lhs; rw [e]
    rw [List.find?_append, h, List.find?_cons]
    simp [hp]
  unfold chL
  rw [this]
theorem chL_own {xs : List BB} {c : UInt8} (h : (xs.take xs.length).find? (fun p => decide (p.1 = ⟨#[c]⟩)) = none) : chL xs c = [c] := by
  rw [List.take_length] at h
  unfold chL
  rw [h]
theorem str_beq {x y : ByteArray} {b : Bool} (h : decide (x = y) = b) : (x.toList == y.toList) = b := by
  cases b with
  | true => have := of_decide_eq_true h; rw [this]; simp
  | false =>
    have := of_decide_eq_false h
    rw [beq_eq_false_iff_ne]
    intro e
    rw [ByteArray.toList_eq, ByteArray.toList_eq] at e
    exact this (ByteArray.ext (Array.toList_inj.1 e))
theorem cat_eq (o d : List UInt8) : (ByteArray.mk o.toArray ++ ByteArray.mk d.toArray) = ⟨(o ++ d).toArray⟩ := by apply ByteArray.ext; simp
theorem sp_slice {w : World} {v : Value} {xs : List BB} (h : SP w v xs) : ∃ a cap, v = .slice a xs.length cap := by
  rcases h with ⟨rfl, a, cap, rfl⟩ | ⟨b, off, cap, rfl, _⟩
  · exact ⟨a, cap, rfl⟩
  · exact ⟨_, cap, rfl⟩
theorem sp_at {w : World} {a : Option Addr} {cap : Nat} {xs : List BB} (h : SP w (.slice a xs.length cap) xs) {j : Nat} {x y : ByteArray} (hj : xs[j]? = some (x, y)) : ∃ b off, a = some ⟨b, off, none⟩ ∧ w.cell? ⟨b, off + j * 2, none⟩ = some (.string x) ∧ w.cell? ⟨b, off + j * 2 + 1, none⟩ = some (.string y) ∧ x.size ≤ maxLen ∧ y.size ≤ maxLen ∧ b < w.heap.size := by
  rcases h with ⟨rfl, a, cap, h⟩ | ⟨b, off, cap, h, hn, hc⟩
  · simp at hj
  · cases h
    obtain ⟨h1, h2, h3, h4⟩ := hc j _ hj
    exact ⟨b, off, rfl, h1, h2, h3, h4, lt_of_cell h1⟩
set_option maxHeartbeats 4000000 in
theorem ApplyBindings_impl (v : Value) (xs : List BB) (l : List UInt8) (w : World) (hl : l.length ≤ 2147483648) (h0 : tot xs + xs.length ≤ 1048576) (hs : SP w v xs) :
    Calls Try.prog 32 #[v, .string ⟨l.toArray⟩] w (APost w (applyB xs l)) := by
  obtain ⟨a0, cap0, rfl⟩ := sp_slice hs
  have HS := hid hs
  cases hbv : bvB xs with
  | false =>
    have HN : Hid (applyB xs l = none) := apply_bad hbv
    have HBV := hid hbv
    clear hbv hs
    go_enter Try.func32, Try.ntmps32
    go_wp2_with (first
      | (go_at_call 35; refine (BindingsValid_impl _ xs _ h0 HS.out).mono ?_; rintro e w1 ⟨rfl, hb⟩; rw [HBV.out]; have HB1 := hid hb; clear hb))
    go_ret2
    exact ⟨by rw [HN.out]; rfl, HB1.out⟩
  | true =>
    have HG : Hid (∀ i, i < xs.length → good xs i) := bv_good hbv
    have HBV := hid hbv
    clear hbv
    cases hty : ty l with
    | none =>
      have HN : Hid (applyB xs l = none) := apply_not (by rw [hty]; rfl)
      have HT : Hid ((ty l).isSome = false) := by show _ = _; rw [hty]; rfl
      clear hty hs
      go_enter Try.func32, Try.ntmps32
      go_wp2_with (first
        | (go_at_call 35; refine (BindingsValid_impl _ xs _ h0 HS.out).mono ?_; rintro e w1 ⟨rfl, hb⟩; rw [HBV.out]; have HB1 := hid hb; clear hb)
        | (go_at_call 20; refine (TypeValid_impl l _ (by unfold maxLen; omega)).mono ?_; rintro e w2 ⟨rfl, hb⟩; rw [HT.out]; have HB2 : Hid (Below w.heap.size w w2) := HB1.out.trans (hb.mono HB1.out.size); clear hb))
      go_ret2
      exact ⟨by rw [HN.out]; rfl, HB2.out⟩
    | some t =>
      have HT : Hid ((ty l).isSome = true) := by show _ = _; rw [hty]; rfl
      have hl60 : l.length ≤ 60 := (ty_some hty).2.2
      clear hty hs
      go_enter Try.func32, Try.ntmps32
      go_wp2_with (first
        | (go_at_call 35; refine (BindingsValid_impl _ xs _ h0 HS.out).mono ?_; rintro e w1 ⟨rfl, hb⟩; rw [HBV.out]; have HB1 := hid hb; clear hb)
        | (go_at_call 20; refine (TypeValid_impl l _ (by unfold maxLen; omega)).mono ?_; rintro e w2 ⟨rfl, hb⟩; rw [HT.out]; have HB2 : Hid (Below w.heap.size w w2) := HB1.out.trans (hb.mono HB1.out.size); clear hb))
      go_loopg [6, 21] l.length (fun q o i wr => ∃ k : Nat, k ≤ l.length ∧ l.length - k ≤ q ∧ i = .int .i64 k ∧ o = .string ⟨((l.take k).flatMap (chL xs)).toArray⟩ ∧ Below w.heap.size w wr)
      case atStart => exact ⟨0, Nat.zero_le _, by simp, rfl, rfl, HB2.out⟩
      case round =>
        obtain ⟨k, hk, hq, rfl, rfl, hb⟩ := hrel
        have HB := hid hb
        have hbz := hb.size
        clear hb
        by_cases hlt : k < l.length
        · obtain ⟨c, hc⟩ : ∃ c, l[k]? = some c := ⟨_, List.getElem?_eq_getElem hlt⟩
          have hcs := slice_one l k c hc
          have hsz : (ByteArray.mk l.toArray).size = l.length := by simp [ByteArray.size]
          have HST : Hid ((l.take (k + 1)).flatMap (chL xs) = (l.take k).flatMap (chL xs) ++ chL xs c) := by
            show _ = _
            obtain ⟨hlt2, rfl⟩ := List.getElem?_eq_some_iff.1 hc
            rw [List.take_succ_eq_append_getElem hlt2, List.flatMap_append]; simp
          have hol : ((l.take k).flatMap (chL xs)).length ≤ 60 * 60 := by
            have := flat_le (chL_len HG.out) (l.take k)
            have h2 : (l.take k).length ≤ 60 := by rw [List.length_take]; omega
            omega
          have hcl := chL_len HG.out c
          obtain ⟨d, hd⟩ : ∃ d, d = chL xs c := ⟨_, rfl⟩
          have HD := hid hd
          rw [← hd] at hcl HST
          clear hd hc
          generalize (l.take k).flatMap (chL xs) = o at *
          have HSW := hid (HS.out.below HB.out)
          have hsl : ∀ x : World, (Instr.slice 9 (.string ⟨l.toArray⟩) (some (.int .i64 (k : Int))) (some (.int .i64 ((k : Int) + 1))) none).run Try.prog x = .ok (.string ⟨#[c]⟩) x := fun x => by
            rw [run_slice_string x 9 ⟨l.toArray⟩ .i64 .i64 (k : Int) ((k : Int) + 1) Try.underlying9 (by omega) (by omega) (by rw [hsz]; omega)]
            rw [show ((k : Int)).toNat = k by omega, show ((k : Int) + 1).toNat = k + 1 by omega, hcs]
          clear hcs hsz
          go_wp2_with fail
          clear hsl
          go_loopg [8, 31] xs.length (fun q o i w2 => ∃ j : Nat, j ≤ xs.length ∧ xs.length - j ≤ q ∧ i = .int .i64 j ∧ o = .string ⟨#[c]⟩ ∧ Hid ((xs.take j).find? (fun p => decide (p.1 = ⟨#[c]⟩)) = none) ∧ Below w.heap.size w w2)
          case atStart => exact ⟨0, Nat.zero_le _, by simp, rfl, rfl, rfl, HB.out⟩
          case round =>
            obtain ⟨j, hj, hq2, rfl, rfl, hfn, hb⟩ := hrel
            have HFN := hid hfn
            have HB2' := hid hb
            have hbz2 := hb.size
            clear hb hfn
            by_cases hlt2 : j < xs.length
            · obtain ⟨⟨x, y⟩, hp⟩ : ∃ p, xs[j]? = some p := ⟨_, List.getElem?_eq_getElem hlt2⟩
              obtain ⟨b, off, rfl, k0, k1, z0, z1, hbl⟩ := sp_at (HS.out.below HB2'.out) hp
              have HP := hid hp
              have HYL : Hid (x = ⟨#[c]⟩ → y = ⟨d.toArray⟩) := fun e => by
                have := chL_found HFN.out HP.out e
                rw [HD.out, this]
              clear hp
              by_cases hx : x = ⟨#[c]⟩
              · have hy := HYL.out hx
                subst hx hy
                have hn1 : ¬ 9223372036854775807 < o.length + d.length := by omega
                go_wp2_with fail
                go_roundg (l.length - (k + 1))
                case measure => omega
                case rel => exact ⟨k + 1, by omega, by omega, by go_num, by rw [HST.out, ← cat_eq], HB2'.out.alloc (by omega) _⟩
              · have hb0 : (x.toList == [c]) = false := by have := str_beq (y := ⟨#[c]⟩) (decide_eq_false hx); simpa using this
                have HNX : Hid ((xs.take (j + 1)).find? (fun p => decide (p.1 = ⟨#[c]⟩)) = none) := find_none_take HFN.out HP.out hx
                clear hx
                go_wp2_with fail
                go_roundg (gk - 1)
                case measure => omega
                case rel => exact ⟨j + 1, by omega, by omega, by go_num, rfl, HNX.out, HB2'.out.alloc (by omega) _⟩
            · have hje : j = xs.length := by omega
              have hdc : d = [c] := by rw [HD.out]; exact chL_own (by rw [← hje]; exact HFN.out)
              subst hdc
              have hn1 : ¬ 9223372036854775807 < o.length + 1 := by omega
              go_wp2_with fail
              go_roundg (l.length - (k + 1))
              case measure => omega
              case rel => exact ⟨k + 1, by omega, by omega, by go_num, by rw [HST.out, ← cat_eq], HB2'.out⟩
        · have hke : k = l.length := by omega
          have hol := flat_chL HG.out hl60
          obtain ⟨d, hd⟩ : ∃ d, d = l.flatMap (chL xs) := ⟨_, rfl⟩
          have HD : Hid ((l.take k).flatMap (chL xs) = d) := by show _ = _; rw [hke, List.take_length, hd]
          rw [← hd] at hol
          rw [HD.out]
          by_cases hd60 : d.length ≤ 60
          · have HR : Hid (applyB xs l = some d) := by show _ = _; rw [hd]; exact apply_yes HBV.out HT.out (by rw [← hd]; exact hd60)
            clear hd
            go_wp2_with fail
            go_ret2
            exact ⟨by rw [HR.out]; rfl, HB.out⟩
          · have HR : Hid (applyB xs l = none) := apply_long (by rw [← hd]; exact hd60)
            clear hd
            go_wp2_with fail
            go_ret2
            exact ⟨by rw [HR.out]; rfl, HB.out⟩
end Sub
end Go.Proofs.Ytaapdhacnbhohaa
