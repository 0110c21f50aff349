/- The program's bindings of a map, MatchType and IsInstance. Conditions: texts of at most 2^30 bytes. -/
import Derived.Test.YtlhildfiddphcaaMatI
import Derived.Test.YtlhildfiddphcaaIter
import Derived.Test.YtlhildfiddphcaaPairs
import Derived.Test.YtlhildfiddphcaaReg
set_option linter.unusedVariables false
set_option linter.unusedSimpArgs false
set_option maxRecDepth 100000
namespace Go.Proofs.Ytlhildfiddphcaa
open Go.RowKit Go.Maps Ty ListS Parts Go.Proofs.Ytlhildfiddphcaa.Text
namespace MatI
open MatP MapS Go.Sort
theorem _root_.Go.Proofs.Ytlhildfiddphcaa.MapS.OM.heap {w w' : World} {b n : Nat} {s : Sg} (h : OM w b n s) (e : w'.heap[b]? = w.heap[b]?) : OM w' b n s := by obtain ⟨D, ⟨es, k, h1, r⟩, h2⟩ := h; exact ⟨D, ⟨es, k, e.trans h1, r⟩, h2⟩
def vs6 : List UInt8 := [88, 89, 90, 120, 121, 122]
/-- the letters that are bound, in order -/
def ks (s : Sg) : List UInt8 := vs6.filter fun c => (s c).isSome
/-- the bindings, in order -/
def told (s : Sg) : List BB := (ks s).map fun c => (⟨#[c]⟩, ⟨(tx s c).toArray⟩)
theorem told_len (s : Sg) : (told s).length = (ks s).length := by simp [told]
theorem ks_len (s : Sg) : (ks s).length ≤ 6 := List.length_filter_le _ _
theorem isV_vs6 {c : UInt8} (h : isV c = true) : c ∈ vs6 := by
  simp [isV] at h
  simp [vs6]
  rcases h with rfl | rfl | rfl | rfl | rfl | rfl <;> simp
theorem keys_perm {w : World} {b n : Nat} {s : Sg} {D : DataW Unit} (ho : w.ownsMap Try.prog 9 R b n D) (hr : Reads D s) (hg : GS 60 s) : ((ks s).map fun c => [c]).Perm (strKeys D) := by
  obtain ⟨es, hD, hd⟩ := ho.tidy law
  obtain ⟨es2, hD2, hk⟩ := ho.keysOf
  rw [hD] at hD2
  cases hD2
  subst hD
  refine perm_strKeys hd (fun p hp => ?_) ?_ fun x => ?_
  · obtain ⟨v, hv⟩ := hk p hp
    obtain ⟨x, _, hx, _⟩ := Maps.keyOf_str Try.underlying9 hv
    exact ⟨x, hx⟩
  · refine List.Pairwise.map _ (R := fun a b => a ≠ b) (fun a b h e => h (by simpa using e)) ?_
    exact List.Pairwise.filter _ (by decide)
  · constructor
    · intro h
      rw [List.mem_map] at h
      obtain ⟨c, hc, rfl⟩ := h
      have := (List.mem_filter.1 hc).2
      have h2 := hr.has c
      rw [this] at h2
      exact h2
    · intro h
      obtain ⟨c, hc⟩ := hr.keys _ h
      rw [hc, hr.has] at h
      obtain ⟨u, hu⟩ := Option.isSome_iff_exists.1 h
      have : x = [c] := by simpa [kl] using hc
      rw [this, List.mem_map]
      exact ⟨c, List.mem_filter.2 ⟨isV_vs6 (hg c u hu).1, h⟩, rfl⟩
theorem sorted_eq {w : World} {b n : Nat} {s : Sg} {D : DataW Unit} (ho : w.ownsMap Try.prog 9 R b n D) (hr : Reads D s) (hg : GS 60 s) {ss : List (List UInt8)} (hS : ss.Perm (strKeys D)) : ss.mergeSort (fun x y => decide (x ≤ y)) = (ks s).map fun c => [c] := by
  have h1 : ss.Perm ((ks s).map fun c => [c]) := hS.trans (keys_perm ho hr hg).symm
  have h2 := mergeSort_of_perm h1
  have h3 : ((ks s).map fun c => [c]).Pairwise (fun a b => leB a b = true) := by
    have h4 : (vs6.map fun c => [c]).Pairwise (fun a b => leB a b = true) := by decide
    exact h4.sublist (List.filter_sublist.map _)
  rw [List.mergeSort_of_pairwise h3] at h2
  exact h2
set_option maxHeartbeats 1000000 in
theorem sorted_keys (w : World) (gz : Nat) (hgz : w.heap.size = gz) (mb n : Nat) (s : Sg) (hom : OM w mb n s) (hn : n ≤ 1000000) (hg : GS 60 s) : Calls Try.prog 27 #[.func (.func 38) #[] #[.pointer (some ⟨gz, 0, none⟩)]] (w.alloc (.cells #[.map (some mb)] 40))
    fun e w' => ∃ a cap, e = .returned (.slice a (ks s).length cap) ∧ w'.ownsRow (w.heap.size + 1) 9 1 (.slice a (ks s).length cap) (ks s).length ((ks s).map fun c => .string ⟨#[c]⟩) ∧ Below w.heap.size w w' ∧ w.heap.size + 1 ≤ w'.heap.size := by
  subst hgz
  obtain ⟨D, ho, hr⟩ := hom
  have hz := ho.size_le
  refine ((callsIn_wide (n := 5)).1 (Try.slices_Sorted_keys_27_28 mb n D R w ho (by unfold maxLen; omega) (by omega))).mono ?_
  rintro e w' ⟨v, ss, rfl, hS, hrow, -, hb⟩
  rw [sorted_eq ho hr hg hS] at hrow
  have hl : ss.length = (ks s).length := by
    have := (hS.trans (keys_perm ho hr hg).symm).length_eq
    simpa using this
  rw [hl] at hrow
  obtain ⟨a, cap, rfl⟩ := row_slice hrow
  refine ⟨a, cap, rfl, ?_, ((Below.refl _ w).alloc (Nat.le_refl _) _).trans (hb.mono (by simp)), by have := hb.size; simpa using this⟩
  rw [List.map_map] at hrow
  simp only [World.size_alloc] at hrow
  have : (Go.Proofs.encStr ∘ fun c => [c]) = fun (c : UInt8) => Value.string ⟨#[c]⟩ := rfl
  rw [this] at hrow
  exact hrow
def BPost (w : World) (xs : List BB) (e : Ending) (w' : World) : Prop := ∃ a cap, e = .returned (.slice a xs.length cap) ∧ w'.ownsRow w.heap.size 45 2 (.slice a xs.length cap) xs.length (flat xs) ∧ Below w.heap.size w w'
theorem size_le_text (t : Ty) : t.size ≤ t.text.length := by
  induction t with
  | leaf c => simp [Ty.size, Ty.text]
  | one c t ih => simp [Ty.size, Ty.text]; omega
  | two c t u ih1 ih2 => simp [Ty.size, Ty.text]; omega
theorem infoB : (Try.prog.info? 45).map (fun i => (i.zero, i.size, i.bytes)) = some (some (.agg #[.string ⟨#[]⟩, .string ⟨#[]⟩]), 2, 32) := by kernel_rfl
theorem flat_app : ∀ (xs : List BB) (p : BB), flat (xs ++ [p]) = flat xs ++ [.string p.1, .string p.2]
  | [], p => rfl
  | q :: xs, p => by simp [flat, flat_app xs p]
def BL (w w3 : World) (mb n : Nat) (s : Sg) (q : Nat) (o i : Value) (wr : World) : Prop :=
  ∃ (k : Nat) (ao : Option Addr) (capo : Nat), k ≤ (ks s).length ∧ (ks s).length - k ≤ q ∧ i = .int .i64 k ∧ o = .slice ao k capo ∧ wr.ownsRow w.heap.size 45 2 (.slice ao k capo) k (flat ((told s).take k)) ∧ (∀ p, ao = some p → p.block = w.heap.size ∨ w3.heap.size ≤ p.block) ∧ (∀ j, j < w3.heap.size → j ≠ w.heap.size → wr.heap[j]? = w3.heap[j]?) ∧ Below w.heap.size w wr ∧ w3.heap.size ≤ wr.heap.size
set_option maxHeartbeats 4000000 in
theorem bindings_any (w : World) (mb n : Nat) (s : Sg) (hom : OM w mb n s) (hn : n ≤ 1000000) (hg : GS 60 s) : Calls Try.prog 17 #[.map (some mb)] w (BPost w (told s)) := by
  have HOM := hid hom
  have HG := hid hg
  have hmb := hom.lt
  have hkl := ks_len s
  have HK : ∀ W : World, Calls Try.prog 28 #[.map (some mb)] W fun e w' => e = .returned (.func (.func 38) #[] #[.pointer (some ⟨W.heap.size, 0, none⟩)]) ∧ w' = W.alloc (.cells #[.map (some mb)] 40) := fun W => (callsIn_wide (n := 5)).1 (Try.maps_Keys_28 (some mb) W)
  have HKK := hid HK
  have HOM0 : Hid (OM (w.alloc (.cells #[] 45)) mb n s) := HOM.out.heap (Below.heap_alloc _ _ _ hmb)
  clear hom hg HK
  go_enter Try.func17, Try.ntmps17
  go_wp2_with (first
    | (go_at_call 28; refine (HKK.out _).mono ?_; rintro e w' ⟨rfl, rfl⟩)
    | (go_at_call 27; refine (sorted_keys (w.alloc (.cells #[] 45)) (w.heap.size + 1) (by simp) mb n s HOM0.out hn HG.out).mono ?_; rintro e w3 ⟨a, cap, rfl, hrow, hb, hz⟩; have HROW := hid hrow; have HB3 := hid hb; have HZ3 := hid hz; clear hrow hb hz))
  go_loopg [3, 11] (ks s).length (fun q o i wr => BL w w3 mb n s q o i wr)
  case atStart =>
    have h := World.ownsRow_made (base := w.heap.size) (e := 45) (size := 2) w #[] 0 (Nat.le_refl _) (by simp [maxLen]) rfl
    have hz := HZ3.out
    simp only [World.size_alloc] at hz
    exact ⟨0, some ⟨w.heap.size, 0, none⟩, 0, Nat.zero_le _, by simp, rfl, rfl, row_below HB3.out h, fun p h => by cases h; exact .inl rfl, fun _ _ _ => rfl, ((Below.refl _ w).alloc (Nat.le_refl _) _).trans (HB3.out.mono (by simp)), Nat.le_refl _⟩
  case round =>
    obtain ⟨k, ao, capo, hk, hq, rfl, rfl, hown, hblk, hkp, hb, hz⟩ := hrel
    have HOWN := hid hown
    have HBLK := hid hblk
    have HKP := hid hkp
    have HB := hid hb
    have hz3 := HZ3.out
    simp only [World.size_alloc] at hz3
    clear hown hblk hkp hb
    by_cases hlt : k < (ks s).length
    · obtain ⟨c, hc⟩ : ∃ c, (ks s)[k]? = some c := ⟨_, List.getElem?_eq_getElem hlt⟩
      obtain ⟨g0, cap0, e0, hgb, hg0, cs0, hc0, hd0⟩ := row_at HROW.out (by omega)
      cases e0
      (try simp only [World.size_alloc] at hgb)
      have c0 : wr.cell? ⟨g0, k, none⟩ = some (.string ⟨#[c]⟩) := (heap_cell ((HKP.out g0 hg0 (by omega)).trans hc0) _).trans (hd0 k _ (by rw [List.getElem?_map, hc]; rfl))
      have hgr : g0 < wr.heap.size := by omega
      have HOMr : Hid (OM wr mb n s) := HOM.out.heap (HB.out.block mb hmb)
      have HST : Hid (flat ((told s).take (k + 1)) = flat ((told s).take k) ++ [.string ⟨#[c]⟩, .string ⟨(tx s c).toArray⟩]) := by
        show _ = _
        have hlt2 : k < (told s).length := by rw [told_len]; exact hlt
        rw [List.take_succ_eq_append_getElem hlt2, flat_app]
        have : (told s)[k] = (⟨#[c]⟩, ⟨(tx s c).toArray⟩) := by
          obtain ⟨h1, h2⟩ := List.getElem?_eq_some_iff.1 hc
          simp [told, h2]
        rw [this]
      clear hd0 hc0 hc
      go_wp2_with (first
        | (at_lookup; refine MapS.look rfl _ _ rfl HOMr.out (tx s c) rfl rfl rfl ?_)
        | (at_builtin; refine app_push_at 22 45 (.agg #[.string ⟨#[]⟩, .string ⟨#[]⟩]) 2 32 Try.underlying22 infoB rfl (by decide) rfl _ _ rfl w.heap.size (.slice ao k capo) k (flat ((told s).take k)) rfl (World.ownsRow.alloc HOWN.out _) wr.heap.size 1 [.string ⟨#[c]⟩, .string ⟨(tx s c).toArray⟩] rfl rfl (news_two (heap_cell (heap_alloc_new _ _) 0) (heap_cell (heap_alloc_new _ _) 1)) (by simp [Value.oneCell']) (by unfold maxLen; omega) (by omega) (by simp; have := HB.out.size; omega) ?_))
      intro g4 cap4 w4 hown hg hlie
      (try simp only [World.size_alloc] at hlie)
      have HO4 := hid hown
      have hz4 : wr.heap.size + 1 ≤ w4.heap.size := by have := hg.size; simpa using this
      have hob : ∀ g, (Value.slice ao k capo).ownBlock = some g → g = w.heap.size ∨ w3.heap.size ≤ g := fun g h => by
        cases ha : ao with
        | none => rw [ha] at h; simp [Value.ownBlock] at h
        | some p => rw [ha] at h; simp [Value.ownBlock] at h; have := HBLK.out p ha; rw [h] at this; exact this
      have HL4 : Hid (g4 = w.heap.size ∨ w3.heap.size ≤ g4) := by
        rcases hlie with h | h
        · exact hob g4 h
        · exact .inr (by omega)
      have HK4 : Hid (∀ j, j < w3.heap.size → j ≠ w.heap.size → w4.heap[j]? = w3.heap[j]?) := fun j hj hne => by
        rw [hg.block j (by simp; omega) (fun e => by rcases hob j e.symm with h | h <;> omega), Below.heap_alloc _ _ _ (by omega)]
        exact HKP.out j hj hne
      have HB4 : Hid (Below w.heap.size w w4) := (HB.out.alloc (by have := HB.out.size; omega) _).grown hg (by simp; have := HB.out.size; omega) (fun g h => by rcases hob g h with h | h <;> omega)
      clear hown hg hlie hob
      go_wp2
      go_roundg (gk - 1)
      case measure => omega
      case rel => exact ⟨k + 1, some ⟨g4, 0, none⟩, cap4, by omega, by omega, by go_num, rfl, by rw [HST.out]; exact HO4.out, fun p h => by cases h; exact HL4.out, HK4.out, HB4.out, by omega⟩
    · have hke : k = (ks s).length := by omega
      have HT : Hid ((told s).take k = told s) := by show _ = _; rw [hke, ← told_len, List.take_length]
      have HL : Hid ((told s).length = k) := by show _ = _; rw [told_len, hke]
      clear hke
      go_wp2_with fail
      go_ret
      have h := HOWN.out
      rw [HT.out] at h
      refine ⟨ao, capo, ?_, ?_, HB.out⟩
      · rw [HL.out]; rfl
      · rw [HL.out]; exact h
/-- what a pattern's match with a type binds -/
def matchO (lp lt : List UInt8) : Option Sg := match ty lp, ty lt with | some p, some t => mt p t (fun _ => none) | _, _ => none
def toldO (o : Option Sg) : List BB := match o with | some s => told s | none => []
def MTPost (w : World) (o : Option Sg) (e : Ending) (w' : World) : Prop := ∃ a cap, e = .returned (.tuple #[.slice a (toldO o).length cap, .bool o.isSome]) ∧ w'.ownsRow w.heap.size 45 2 (.slice a (toldO o).length cap) (toldO o).length (flat (toldO o)) ∧ Below w.heap.size w w'
theorem row_no (w : World) (b : Nat) : w.ownsRow b 45 2 (.slice none 0 0) 0 [] := ⟨rfl, .inl ⟨rfl, rfl⟩⟩
theorem gs_none : GS 60 (fun _ => none) := fun c u h => by simp at h
set_option maxHeartbeats 4000000 in
theorem MatchType_impl (lp lt : List UInt8) (w : World) (hp : lp.length ≤ 1073741824) (ht : lt.length ≤ 1073741824) : Calls Try.prog 6 #[.string ⟨lp.toArray⟩, .string ⟨lt.toArray⟩] w (MTPost w (matchO lp lt)) := by
  have hmm := @run_makeMap Try.prog
  cases h1 : ty lp with
  | none =>
    have HR : Hid (matchO lp lt = none) := by show _ = _; unfold matchO; rw [h1]
    have HT1 := hid (fun W => typeOf_none lp W (by unfold maxLen; omega) h1)
    clear h1
    cases h2 : ty lt with
    | none =>
      have HT2 := hid (fun W => typeOf_none lt W (by unfold maxLen; omega) h2)
      clear h2
      go_enter Try.func6, Try.ntmps6
      go_wp2_with fail
      refine (HT1.out w).mono ?_
      rintro e w1 ⟨rfl, hb⟩; have HB1 := hid hb; clear hb
      go_wp2_with fail
      refine (HT2.out w1).mono ?_
      rintro e w2 ⟨rfl, hb⟩; have HB2 : Hid (Below w.heap.size w w2) := HB1.out.trans (hb.mono HB1.out.size); clear hb
      go_wp2_with fail
      go_ret2
      exact ⟨none, 0, by rw [HR.out]; rfl, by rw [HR.out]; exact row_no _ _, HB2.out.alloc HB2.out.size _⟩
    | some t =>
      have HT2 := hid (fun W => typeOf_some lt t W h2)
      clear h2
      go_enter Try.func6, Try.ntmps6
      go_wp2_with fail
      refine (HT1.out w).mono ?_
      rintro e w1 ⟨rfl, hb⟩; have HB1 := hid hb; clear hb
      go_wp2_with fail
      refine (HT2.out w1).mono ?_
      rintro e w2 ⟨b2, rfl, hn2, hb⟩; have HB2 : Hid (Below w.heap.size w w2) := HB1.out.trans (hb.mono HB1.out.size); clear hb hn2
      go_wp2_with fail
      go_ret2
      exact ⟨none, 0, by rw [HR.out]; rfl, by rw [HR.out]; exact row_no _ _, HB2.out.alloc HB2.out.size _⟩
  | some p =>
    have HT1 := hid (fun W => typeOf_some lp p W h1)
    cases h2 : ty lt with
    | none =>
      have HR : Hid (matchO lp lt = none) := by show _ = _; unfold matchO; rw [h1, h2]
      have HT2 := hid (fun W => typeOf_none lt W (by unfold maxLen; omega) h2)
      clear h1 h2
      go_enter Try.func6, Try.ntmps6
      go_wp2_with fail
      refine (HT1.out w).mono ?_
      rintro e w1 ⟨b1, rfl, hn1, hb⟩; have HB1 := hid hb; clear hb hn1
      go_wp2_with fail
      refine (HT2.out w1).mono ?_
      rintro e w2 ⟨rfl, hb⟩; have HB2 : Hid (Below w.heap.size w w2) := HB1.out.trans (hb.mono HB1.out.size); clear hb
      go_wp2_with fail
      go_ret2
      exact ⟨none, 0, by rw [HR.out]; rfl, by rw [HR.out]; exact row_no _ _, HB2.out.alloc HB2.out.size _⟩
    | some t =>
      have HR : Hid (matchO lp lt = mt p t (fun _ => none)) := by show _ = _; unfold matchO; rw [h1, h2]
      have HT2 := hid (fun W => typeOf_some lt t W h2)
      obtain ⟨e1, hwp, hl1⟩ := ty_some h1
      obtain ⟨e2, hwt, hl2⟩ := ty_some h2
      have HWP := hid hwp
      have HWT := hid hwt
      have hpl : p.text.length ≤ 60 := by rw [← e1]; exact hl1
      have htl : t.text.length ≤ 60 := by rw [← e2]; exact hl2
      have hps := size_le_text p
      clear e1 e2 h1 h2 hwp hwt
      cases hm : mt p t (fun _ => none) with
      | none =>
        have HM := hid hm
        have HRN : Hid (matchO lp lt = none) := HR.out.trans hm
        clear hm
        go_enter Try.func6, Try.ntmps6
        go_wp2_with fail
        refine (HT1.out w).mono ?_
        rintro e w1 ⟨b1, rfl, hn1, hb⟩; have HB1 := hid hb; have HN1 := hid hn1; clear hb hn1
        go_wp2_with fail
        refine (HT2.out w1).mono ?_
        rintro e w2 ⟨b2, rfl, hn2, hb⟩; have HB2 : Hid (Below w.heap.size w w2) := HB1.out.trans (hb.mono HB1.out.size); have HN1' : Hid (INode w.heap.size w2 p b1) := Keeps.inode (keeps_of hb _) HN1.out; have HN2 := hid hn2; clear hb hn2
        go_wp2_with fail
        refine (match_any (p.size + 1) p t b1 b2 w.heap.size w1.heap.size _ w2.heap.size 0 (fun _ => none) (by omega) HWP.out HWT.out htl gs_none (by omega) (Keeps.inode (keeps_alloc _ _ _) HN1'.out) (Keeps.inode (keeps_alloc _ _ _) HN2.out) (OM.made w2)).mono ?_
        rintro e w3 ⟨rfl, hg3, hom3⟩; rw [HM.out]; have HG3 := hid hg3; clear hg3 hom3
        go_wp2_with fail
        go_ret2
        exact ⟨none, 0, by rw [HRN.out]; rfl, by rw [HRN.out]; exact row_no _ _, (HB2.out.alloc HB2.out.size _).grown HG3.out (by have := HB2.out.size; simp; omega) (fun g h => by cases h; exact HB2.out.size)⟩
      | some s =>
        have HM := hid hm
        have HRN : Hid (matchO lp lt = some s) := HR.out.trans hm
        have HGS : Hid (GS 60 s) := mt_gs p t _ s 60 HWP.out HWT.out htl gs_none hm
        clear hm
        go_enter Try.func6, Try.ntmps6
        go_wp2_with fail
        refine (HT1.out w).mono ?_
        rintro e w1 ⟨b1, rfl, hn1, hb⟩; have HB1 := hid hb; have HN1 := hid hn1; clear hb hn1
        go_wp2_with fail
        refine (HT2.out w1).mono ?_
        rintro e w2 ⟨b2, rfl, hn2, hb⟩; have HB2 : Hid (Below w.heap.size w w2) := HB1.out.trans (hb.mono HB1.out.size); have HN1' : Hid (INode w.heap.size w2 p b1) := Keeps.inode (keeps_of hb _) HN1.out; have HN2 := hid hn2; clear hb hn2
        go_wp2_with fail
        refine (match_any (p.size + 1) p t b1 b2 w.heap.size w1.heap.size _ w2.heap.size 0 (fun _ => none) (by omega) HWP.out HWT.out htl gs_none (by omega) (Keeps.inode (keeps_alloc _ _ _) HN1'.out) (Keeps.inode (keeps_alloc _ _ _) HN2.out) (OM.made w2)).mono ?_
        rintro e w3 ⟨rfl, hg3, hom3⟩; rw [HM.out]; have HB3 : Hid (Below w.heap.size w w3) := (HB2.out.alloc HB2.out.size _).grown hg3 (by have := HB2.out.size; simp; omega) (fun g h => by cases h; exact HB2.out.size); have HO3 := hid (hom3 s HM.out); clear hg3 hom3
        go_wp2_with fail
        refine (bindings_any w3 w2.heap.size _ s HO3.out (by omega) HGS.out).mono ?_
        rintro e w4 ⟨a, cap, rfl, hrow, hb⟩; have HROW : Hid (w4.ownsRow w.heap.size 45 2 (.slice a (told s).length cap) (told s).length (flat (told s))) := row_mono hrow HB3.out.size; have HB4 : Hid (Below w.heap.size w w4) := HB3.out.trans (hb.mono HB3.out.size); clear hrow hb
        go_wp2_with fail
        go_ret2
        exact ⟨a, cap, by rw [HRN.out]; rfl, by rw [HRN.out]; exact HROW.out, HB4.out⟩
theorem IsInstance_impl (lp lt : List UInt8) (w : World) (hp : lp.length ≤ 1073741824) (ht : lt.length ≤ 1073741824) : Calls Try.prog 11 #[.string ⟨lp.toArray⟩, .string ⟨lt.toArray⟩] w fun e w' => e = .returned (.bool (matchO lp lt).isSome) ∧ Below w.heap.size w w' := by
  go_enter Try.func11, Try.ntmps11
  go_wp2_with (first
    | (go_at_call 6; refine (MatchType_impl lp lt w hp ht).mono ?_; rintro e w1 ⟨a, cap, rfl, hrow, hb⟩; have HB := hid hb; clear hrow hb))
  go_ret
  exact ⟨rfl, HB.out⟩
end MatI
end Go.Proofs.Ytlhildfiddphcaa
