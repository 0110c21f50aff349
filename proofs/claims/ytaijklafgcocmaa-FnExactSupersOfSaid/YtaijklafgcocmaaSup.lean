/- SupersOf of both sides. Conditions: the sizes are those typed. -/
import Derived.Test.YtaijklafgcocmaaSupS
set_option linter.unusedVariables false
set_option linter.unusedSimpArgs false
set_option maxRecDepth 100000
namespace Go.Proofs.Ytaijklafgcocmaa
open Go.RowKit Known Classes Ty IV
open WV HC
namespace Sup
/-- the classes' letters and what stands above each -/
def cl (p : BB) : UInt8 × List UInt8 := (p.1.data.toList.headD 0, p.2.data.toList)
def tc (cs : List BB) : SupP.CS := cs.map cl
theorem tc_at {cs : List BB} {i : Nat} {c : UInt8} {s : List UInt8} (h : cs[i]? = some (⟨#[c]⟩, ⟨s.toArray⟩)) : (tc cs)[i]? = some (c, s) := by
  unfold tc; rw [List.getElem?_map, h]; rfl
theorem tc_len (cs : List BB) : (tc cs).length = cs.length := by simp [tc]
theorem tc_get {cs : List BB} (hg : ∀ i, i < cs.length → goodC cs i) {i : Nat} {c : UInt8} {s : List UInt8} (h : (tc cs)[i]? = some (c, s)) : cs[i]? = some (⟨#[c]⟩, ⟨s.toArray⟩) := by
  have hi : i < cs.length := by have := (List.getElem?_eq_some_iff.1 h).1; rwa [tc_len] at this
  obtain ⟨d, t, hd, _⟩ := hg i hi
  have := tc_at hd
  rw [h] at this
  cases this
  exact hd
theorem known_at {cs : List BB} (hg : ∀ i, i < cs.length → goodC cs i) {n : Nat} {x : ByteArray} (h : knownB (cs.take n) x = true) : ∃ (j : Nat) (c : UInt8) (s : List UInt8), j < n ∧ x = ⟨#[c]⟩ ∧ cs[j]? = some (⟨#[c]⟩, ⟨s.toArray⟩) := by
  unfold knownB at h
  rw [List.any_eq_true] at h
  obtain ⟨p, hp, he⟩ := h
  obtain ⟨j, hj, hh⟩ := List.mem_iff_getElem.1 hp
  have he : p.1 = x := by simpa using he
  rw [List.length_take] at hj
  have hj2 : j < cs.length := by omega
  obtain ⟨d, t, hd, _⟩ := hg j hj2
  rw [List.getElem_take] at hh
  have : cs[j]? = some p := by rw [List.getElem?_eq_getElem hj2, hh]
  rw [hd] at this
  cases this
  exact ⟨j, d, t, by omega, he.symm, hd⟩
theorem ok_names {cs : List BB} (hg : ∀ i, i < cs.length → goodC cs i) : ∀ (i j : Nat) (c d : UInt8) (s t : List UInt8), i < j → (tc cs)[i]? = some (c, s) → (tc cs)[j]? = some (d, t) → c.toNat < d.toNat := by
  intro i j
  induction j with
  | zero => intro c d s t h; omega
  | succ j ih =>
    intro c d s t hij hi hj
    have hj' := tc_get hg hj
    obtain ⟨d', t', h1, _, h2, _⟩ := hg (j + 1) (List.getElem?_eq_some_iff.1 hj').1
    rw [hj'] at h1
    obtain rfl : d = d' := by simpa using congrArg (·.map (·.1.data.toList)) h1
    obtain ⟨e, z, he, hlt⟩ := h2 j rfl
    by_cases hij2 : i = j
    · subst hij2
      have := tc_get hg hi
      rw [he] at this
      obtain rfl : e = c := by simpa using congrArg (·.map (·.1.data.toList)) this
      exact hlt
    · have hz : z = ⟨z.data.toList.toArray⟩ := rfl
      rw [hz] at he
      have := ih c e s _ (by omega) hi (tc_at he)
      omega
theorem ok_of {cs : List BB} (hg : ∀ i, i < cs.length → goodC cs i) : SupP.OK (tc cs) := by
  refine ⟨?_, ?_⟩
  · rw [List.pairwise_iff_getElem]
    intro i j hi hj hij
    simp only [List.length_map] at hi hj
    have e1 : (tc cs)[i]? = some (((tc cs)[i]).1, ((tc cs)[i]).2) := List.getElem?_eq_getElem hi
    have e2 : (tc cs)[j]? = some (((tc cs)[j]).1, ((tc cs)[j]).2) := List.getElem?_eq_getElem hj
    simpa using ok_names hg i j _ _ _ _ hij e1 e2
  · intro i c s hi x hx
    have hi' := tc_get hg hi
    obtain ⟨d, t, h1, _, _, h2⟩ := hg i (List.getElem?_eq_some_iff.1 hi').1
    rw [hi'] at h1
    have hst : s = t := by simpa using congrArg (·.map (·.2.data.toList)) h1
    subst hst
    obtain ⟨k, hk, hkx⟩ := List.mem_iff_getElem.1 hx
    obtain ⟨e, he, hkn, _⟩ := h2 k hk
    rw [List.getElem?_eq_getElem hk, hkx] at he
    cases he
    obtain ⟨j, c', s', hj, hxe, hcs⟩ := known_at hg hkn
    have := one_inj hxe
    subst this
    exact ⟨j, s', hj, tc_at hcs⟩
theorem caps_mem {c : UInt8} (h : isCap c = true) : c ∈ SupP.caps := by
  have h1 : 65 ≤ c.toNat ∧ c.toNat ≤ 84 := by unfold isCap at h; simpa using h
  obtain ⟨d, hd, hn⟩ := caps_at (c.toNat - 65) (by omega)
  have : d = c := by apply UInt8.toNat_inj.1; omega
  subst this
  exact List.mem_of_getElem? hd
theorem ok_caps {cs : List BB} (hg : ∀ i, i < cs.length → goodC cs i) : ∀ p ∈ tc cs, p.1 ∈ SupP.caps := by
  intro p hp
  obtain ⟨i, hi, hh⟩ := List.mem_iff_getElem.1 hp
  rw [tc_len] at hi
  obtain ⟨d, t, h1, h2, _⟩ := hg i hi
  have := tc_at h1
  rw [List.getElem?_eq_getElem (by rw [tc_len]; exact hi), hh] at this
  cases this
  exact caps_mem h2
/-- what stands above a class is short -/
theorem sup_short {cs : List BB} (hg : ∀ i, i < cs.length → goodC cs i) {i : Nat} {c : UInt8} {s : List UInt8} (h : (tc cs)[i]? = some (c, s)) : s.length ≤ 20 := by
  have hi' := tc_get hg h
  obtain ⟨d, t, h1, _, _, h2⟩ := hg i (List.getElem?_eq_some_iff.1 hi').1
  rw [hi'] at h1
  have hst : s = t := by simpa using congrArg (·.map (·.2.data.toList)) h1
  subst hst
  have hord : ∀ j k (hj : j < s.length) (hk : k < s.length), j < k → s[j].toNat < s[k].toNat := by
    intro j k
    induction k with
    | zero => intro _ _ h; omega
    | succ k ih =>
      intro hj hk hjk
      obtain ⟨e, he, _, h3⟩ := h2 (k + 1) hk
      rw [List.getElem?_eq_getElem hk] at he
      cases he
      have h4 := h3 k (s[k]'(by omega)) rfl (List.getElem?_eq_getElem (by omega))
      by_cases e : j = k
      · subst e; exact h4
      · have := ih hj (by omega) (by omega); omega
  have hs : s = SupP.caps.filter (fun c => s.contains c) := by
    apply SupP.sorted_ext
    · rw [List.pairwise_iff_getElem]
      intro j k hj hk hjk
      exact hord j k hj hk hjk
    · exact SupP.caps_sorted.filter _
    · intro x
      rw [List.mem_filter]
      constructor
      · intro hx
        obtain ⟨j, t, _, hj⟩ := (ok_of hg).2 i c s h x hx
        exact ⟨ok_caps hg _ (List.mem_of_getElem? hj), by simpa using hx⟩
      · rintro ⟨_, hx⟩; simpa using hx
  rw [hs]
  exact Nat.le_trans (List.length_filter_le _ _) (by decide)
theorem supC_short {cs : List BB} (hg : ∀ i, i < cs.length → goodC cs i) (c : UInt8) : (SupP.sup (tc cs) c).length ≤ 20 := by
  unfold SupP.sup
  cases hf : (tc cs).find? (fun p => p.1 == c) with
  | none => simp
  | some p =>
    obtain ⟨i, hi, hh⟩ := List.mem_iff_getElem.1 (List.mem_of_find?_eq_some hf)
    exact sup_short hg (i := i) (c := p.1) (s := p.2) (by rw [List.getElem?_eq_getElem hi, hh])
theorem rnd_short {cs : List BB} (hg : ∀ i, i < cs.length → goodC cs i) (c : UInt8) : ∀ k, (SupP.rnd (tc cs) c k).length ≤ 20
  | 0 => supC_short hg c
  | k + 1 => Nat.le_trans (List.length_filter_le _ _) (by decide)
theorem flat_short {cs : List BB} (hg : ∀ i, i < cs.length → goodC cs i) : ∀ l : List UInt8, ((l.map (SupP.sup (tc cs))).flatten).length ≤ 20 * l.length
  | [] => by simp
  | c :: l => by
    have h1 := flat_short hg l
    have h2 := supC_short hg c
    simp only [List.map_cons, List.flatten_cons, List.length_append, List.length_cons]
    omega
theorem acc_short {cs : List BB} (hg : ∀ i, i < cs.length → goodC cs i) (c : UInt8) : ∀ k, (SupP.acc (tc cs) c k).length ≤ 20 * k
  | 0 => by simp [SupP.acc]
  | k + 1 => by
    have h1 := acc_short hg c k
    unfold SupP.acc
    rw [List.length_append]
    split
    · rename_i p hp
      have h2 := sup_short hg (i := _) (c := p.1) (s := p.2) hp
      split
      · omega
      · simp; omega
    · simp; omega
/-- what SupersOf returns -/
noncomputable def supB (cs : List BB) (is : List II) (x : ByteArray) : ByteArray := if hcB cs is x then ⟨(SupP.impl (tc cs) (x.data.toList.headD 0)).toArray⟩ else ⟨#[]⟩
theorem supB_no {cs : List BB} {is : List II} {x : ByteArray} (h : hcB cs is x = false) : supB cs is x = ⟨#[]⟩ := by unfold supB; rw [h]; rfl
theorem supB_yes {cs : List BB} {is : List II} {c : UInt8} (h : hcB cs is ⟨#[c]⟩ = true) : supB cs is ⟨#[c]⟩ = ⟨(SupP.impl (tc cs) c).toArray⟩ := by unfold supB; rw [h]; rfl
theorem hc_good {cs : List BB} {is : List II} {x : ByteArray} (h : hcB cs is x = true) : (∀ i, i < cs.length → goodC cs i) ∧ 1 ≤ cs.length ∧ cs.length ≤ 4 ∧ knownB cs x = true := by
  unfold hcB wvB at h
  simp only [Bool.and_eq_true] at h
  obtain ⟨h1, h2, h3⟩ := clB_good h.1.1
  exact ⟨h1, h2, h3, h.2⟩
theorem acc_in {T : SupP.CS} {c d : UInt8} {k m : Nat} {s : List UInt8} (hm : T.length = m + (k + 1)) (h : T[m]? = some (d, s)) (hin : d = c ∨ d ∈ SupP.acc T c k) : SupP.acc T c (k + 1) = SupP.acc T c k ++ s := by
  show SupP.acc T c k ++ _ = _
  rw [show T.length - (k + 1) = m by omega, h]
  dsimp only
  rw [if_pos hin]
theorem acc_out {T : SupP.CS} {c d : UInt8} {k m : Nat} {s : List UInt8} (hm : T.length = m + (k + 1)) (h : T[m]? = some (d, s)) (h1 : d ≠ c) (h2 : d ∉ SupP.acc T c k) : SupP.acc T c (k + 1) = SupP.acc T c k := by
  show SupP.acc T c k ++ _ = _
  rw [show T.length - (k + 1) = m by omega, h]
  dsimp only
  rw [if_neg (by rintro (h | h) <;> contradiction)]
  simp
/-- the program's second loop -/
def outI (T : SupP.CS) (c : UInt8) (k : Nat) : List UInt8 := ((T.take k).map (·.1)).filter (fun x => (SupP.acc T c T.length).contains x)
theorem outI_all (T : SupP.CS) (c : UInt8) : outI T c T.length = SupP.impl T c := by unfold outI SupP.impl; rw [List.take_length]
theorem outI_step {T : SupP.CS} {c d : UInt8} {k : Nat} {s : List UInt8} (h : T[k]? = some (d, s)) : outI T c (k + 1) = outI T c k ++ if (SupP.acc T c T.length).contains d then [d] else [] := by
  obtain ⟨hl, hg⟩ := List.getElem?_eq_some_iff.1 h
  unfold outI
  rw [List.take_succ_eq_append_getElem hl, hg, List.map_append, List.filter_append]
  congr 1
  simp only [List.map_cons, List.map_nil, List.filter_cons, List.filter_nil]
theorem outI_len (T : SupP.CS) (c : UInt8) (k : Nat) : (outI T c k).length ≤ T.length := by
  unfold outI
  refine Nat.le_trans (List.length_filter_le _ _) ?_
  rw [List.length_map, List.length_take]; omega
theorem app_ba (a b : List UInt8) : (ByteArray.mk a.toArray) ++ (ByteArray.mk b.toArray) = ⟨(a ++ b).toArray⟩ := by apply ByteArray.ext; simp [ByteArray.data_append]
theorem str1_eq {c d : UInt8} (h : d = c) : ((ByteArray.mk #[d]).toList == (ByteArray.mk #[c]).toList) = true := by rw [h]; simp
theorem str1_ne {c d : UInt8} (h : d ≠ c) : ((ByteArray.mk #[d]).toList == (ByteArray.mk #[c]).toList) = false := str_ne (fun e => h (one_inj e))
set_option maxHeartbeats 8000000 in
theorem SupersOf_impl (a b : Option Addr) (cap cap2 : Nat) (cs : List BB) (is : List II) (x : ByteArray) (w : World) (h0 : tot cs + cs.length ≤ 1048576) (h1 : itot is + is.length ≤ 1048576) (hcap : cs.length ≤ cap) (hs : SP w (.slice a cs.length cap) cs) (hi : SI w (.slice b is.length cap2) is) :
    Calls Try.prog 28 #[.agg #[.slice a cs.length cap, .slice b is.length cap2], .string x] w fun e w' => e = .returned (.string (supB cs is x)) ∧ Below w.heap.size w w' := by
  have HS := hid hs
  have HI := hid hi
  have H0 := hid h0
  have H1 := hid h1
  clear hs hi h0 h1
  go_enter Try.func28, Try.ntmps28
  go_wp2_with fail
  have HBW : Hid (Below w.heap.size w (w.alloc (.cells #[.slice a cs.length cap, .slice b is.length cap2] 37))) := (Below.refl _ _).alloc (Nat.le_refl _) _
  have HX1 : Hid ((w.alloc (.cells #[.slice a cs.length cap, .slice b is.length cap2] 37)).heap[w.heap.size]? = some (.cells #[.slice a cs.length cap, .slice b is.length cap2] 37 (0, 0))) := heap_alloc_new _ _
  generalize w.alloc (.cells #[.slice a cs.length cap, .slice b is.length cap2] 37) = W at *
  have hzb := HBW.out.size
  have hzs := lt_of_heap HX1.out
  refine (HasClass_impl a b cap cap2 cs is x W H0.out H1.out hcap (HS.out.below HBW.out) (HI.out.below HBW.out)).mono ?_
  rintro e w1 ⟨rfl, hb⟩
  have HB1 := hid hb
  obtain ⟨p10, p11⟩ := keep2 HX1.out hb
  have hz1 := hb.size
  clear hb
  cases hv : hcB cs is x with
  | false =>
    have HR : Hid (supB cs is x = ⟨#[]⟩) := supB_no hv
    clear hv
    go_wp2
    go_ret
    exact ⟨ret_string HR.out.symm, HBW.out.trans (HB1.out.mono HBW.out.size)⟩
  | true =>
    obtain ⟨hg, hl1, hl4, hkn⟩ := hc_good hv
    obtain ⟨i0, c, s0, hi0, hxe, hcs⟩ := known_at (n := cs.length) hg (by rw [List.take_length]; exact hkn)
    subst hxe
    have HR : Hid (supB cs is ⟨#[c]⟩ = ⟨(SupP.impl (tc cs) c).toArray⟩) := supB_yes hv
    have HG := hid hg
    have HOK := hid (ok_of hg)
    have HCS := hid hcs
    have HTL := hid (tc_len cs)
    clear hv hg hkn hcs
    go_wp2_with fail
    clear p10 p11
    go_loopg [5, 6] cs.length (fun q o i wr => ∃ (k : Nat) (j : Int), k ≤ cs.length ∧ cs.length - k ≤ q ∧ j + k + 1 ≤ cs.length ∧ cs.length ≤ j + k + 1 ∧ o = .string ⟨(SupP.acc (tc cs) c k).toArray⟩ ∧ i = .int .i64 j ∧ (SupP.acc (tc cs) c k).length ≤ 80 ∧ Below W.heap.size W wr)
    case atStart => exact ⟨0, (cs.length : Int) - 1, Nat.zero_le _, by simp, by omega, by omega, rfl, rfl, by simp [SupP.acc], HB1.out⟩
    case round =>
      obtain ⟨k, j, hk, hq, hj1, hj2, rfl, rfl, hal, hb⟩ := hrel
      have HB := hid hb
      have hbz := hb.size
      clear hb
      by_cases hlt0 : k < cs.length
      · obtain ⟨m, rfl⟩ : ∃ m : Nat, j = m := ⟨j.toNat, by omega⟩
        have hlt : m < cs.length := by omega
        have hla := acc_short HG.out c (k + 1)
        obtain ⟨⟨y, z⟩, hp⟩ : ∃ p, cs[m]? = some p := ⟨_, List.getElem?_eq_getElem hlt⟩
        obtain ⟨b2, off, rfl, k0, k1, z0, z1, hbl⟩ := sp_at ((HS.out.below HBW.out).below HB.out) hp
        obtain ⟨d, s, hds, -⟩ := HG.out m hlt
        rw [hp] at hds
        cases hds
        have HP := hid hp
        have HTM := hid (tc_at hp)
        have hsl := sup_short HG.out (tc_at hp)
        clear hp z0 z1
        obtain ⟨p10, p11⟩ := keep2 HX1.out HB.out
        have hlt1 : w.heap.size < wr.heap.size := by omega
        by_cases hdc : d = c
        · have he : (d == c) = true := by simpa using hdc
          have HA : Hid (SupP.acc (tc cs) c (k + 1) = SupP.acc (tc cs) c k ++ s) := acc_in (m := m) (by rw [HTL.out]; omega) HTM.out (.inl hdc)
          have hla2 : (SupP.acc (tc cs) c k ++ s).length ≤ 80 := by rw [← HA.out]; omega
          clear hla hdc
          go_wp2_with fail
          rw [app_ba]
          go_roundg (cs.length - (k + 1))
          case measure => omega
          case rel => exact ⟨k + 1, (m : Int) - 1, by omega, by omega, by omega, by omega, by rw [HA.out], rfl, by rw [HA.out]; exact hla2, HB.out.alloc (by omega) _⟩
        · have he : (d == c) = false := by simpa using hdc
          cases hin : (SupP.acc (tc cs) c k).contains d with
          | true =>
            have HIN := hid hin
            have HA : Hid (SupP.acc (tc cs) c (k + 1) = SupP.acc (tc cs) c k ++ s) := acc_in (m := m) (by rw [HTL.out]; omega) HTM.out (.inr (by simpa using hin))
            have hla2 : (SupP.acc (tc cs) c k ++ s).length ≤ 80 := by rw [← HA.out]; omega
            clear hla hdc hin
            go_wp2_with (go_at_call 56; refine (sContains ⟨(SupP.acc (tc cs) c k).toArray⟩ d _).mono ?_; rintro e w' ⟨rfl, rfl⟩; rw [show (ByteArray.mk (SupP.acc (tc cs) c k).toArray).data.toList.contains d = true from HIN.out])
            rw [app_ba]
            go_roundg (cs.length - (k + 1))
            case measure => omega
            case rel => exact ⟨k + 1, (m : Int) - 1, by omega, by omega, by omega, by omega, by rw [HA.out], rfl, by rw [HA.out]; exact hla2, HB.out.alloc (by omega) _⟩
          | false =>
            have HIN := hid hin
            have HA : Hid (SupP.acc (tc cs) c (k + 1) = SupP.acc (tc cs) c k) := acc_out (m := m) (by rw [HTL.out]; omega) HTM.out hdc (by simpa using hin)
            clear hla hdc hin
            go_wp2_with (go_at_call 56; refine (sContains ⟨(SupP.acc (tc cs) c k).toArray⟩ d _).mono ?_; rintro e w' ⟨rfl, rfl⟩; rw [show (ByteArray.mk (SupP.acc (tc cs) c k).toArray).data.toList.contains d = false from HIN.out])
            go_roundg (cs.length - (k + 1))
            case measure => omega
            case rel => exact ⟨k + 1, (m : Int) - 1, by omega, by omega, by omega, by omega, by rw [HA.out], rfl, by rw [HA.out]; exact hal, HB.out.alloc (by omega) _⟩
      · have hke : k = cs.length := by omega
        subst hke
        have hneg : j < 0 := by omega
        have HAL : Hid (SupP.acc (tc cs) c cs.length = SupP.acc (tc cs) c (tc cs).length) := by show _ = _; rw [HTL.out]
        rw [HAL.out] at hal ⊢
        have HBL := HB
        obtain ⟨p10, p11⟩ := keep2 HX1.out HB.out
        go_wp2_with fail
        clear p10 p11 hbz hj1 hj2 hneg hq hlt0
        go_loopg [8, 45] cs.length (fun q o i wr => ∃ (k : Nat), k ≤ cs.length ∧ cs.length - k ≤ q ∧ o = .string ⟨(outI (tc cs) c k).toArray⟩ ∧ i = .int .i64 k ∧ Below W.heap.size W wr)
        case atStart => exact ⟨0, Nat.zero_le _, by simp, rfl, rfl, HBL.out⟩
        case round =>
          obtain ⟨k, hk, hq, rfl, rfl, hb⟩ := hrel
          have HB := hid hb
          have hbz := hb.size
          clear hb
          have hol := outI_len (tc cs) c k
          rw [HTL.out] at hol
          by_cases hlt : k < cs.length
          · obtain ⟨⟨y, z⟩, hp⟩ : ∃ p, cs[k]? = some p := ⟨_, List.getElem?_eq_getElem hlt⟩
            obtain ⟨b2, off, rfl, k0, k1, z0, z1, hbl⟩ := sp_at ((HS.out.below HBW.out).below HB.out) hp
            obtain ⟨d, s, hds, -⟩ := HG.out k hlt
            rw [hp] at hds
            cases hds
            have HP := hid hp
            have HTM := hid (tc_at hp)
            have hsl := sup_short HG.out (tc_at hp)
            clear hp z0 z1
            obtain ⟨p10, p11⟩ := keep2 HX1.out HB.out
            have hlt1 : w.heap.size < wr.heap.size := by omega
            have HOS := hid (outI_step (c := c) HTM.out)
            cases hin : (SupP.acc (tc cs) c (tc cs).length).contains d with
            | true =>
              have HIN := hid hin
              have HO : Hid (outI (tc cs) c (k + 1) = outI (tc cs) c k ++ [d]) := by
                show _ = _
                rw [HOS.out, hin]; rfl
              clear hin
              go_wp2_with (go_at_call 56; refine (sContains ⟨(SupP.acc (tc cs) c (tc cs).length).toArray⟩ d _).mono ?_; rintro e w' ⟨rfl, rfl⟩; rw [show (ByteArray.mk (SupP.acc (tc cs) c (tc cs).length).toArray).data.toList.contains d = true from HIN.out])
              rw [app_lists]
              go_roundg (cs.length - (k + 1))
              case measure => omega
              case rel => exact ⟨k + 1, by omega, by omega, by rw [HO.out], by go_num, HB.out.alloc (by omega) _⟩
            | false =>
              have HIN := hid hin
              have HO : Hid (outI (tc cs) c (k + 1) = outI (tc cs) c k) := by
                show _ = _
                rw [HOS.out, hin]; simp
              clear hin
              go_wp2_with (go_at_call 56; refine (sContains ⟨(SupP.acc (tc cs) c (tc cs).length).toArray⟩ d _).mono ?_; rintro e w' ⟨rfl, rfl⟩; rw [show (ByteArray.mk (SupP.acc (tc cs) c (tc cs).length).toArray).data.toList.contains d = false from HIN.out])
              go_roundg (cs.length - (k + 1))
              case measure => omega
              case rel => exact ⟨k + 1, by omega, by omega, by rw [HO.out], by go_num, HB.out.alloc (by omega) _⟩
          · have hke : k = cs.length := by omega
            have HE : Hid (outI (tc cs) c k = SupP.impl (tc cs) c) := by show _ = _; rw [hke, ← HTL.out]; exact outI_all _ _
            clear hke
            go_wp2_with fail
            go_ret
            exact ⟨by rw [HR.out, ← HE.out]; rfl, HBW.out.trans (HB.out.mono HBW.out.size)⟩

theorem idx_at {cs : List BB} (hg : ∀ i, i < cs.length → goodC cs i) {i : Nat} {c : UInt8} {s : List UInt8} (h : cs[i]? = some (⟨#[c]⟩, ⟨s.toArray⟩)) : idxC cs ⟨#[c]⟩ = i := by
  refine (idxC_some ?_ h rfl).1
  intro q hq he
  obtain ⟨j, hj, hh⟩ := List.mem_iff_getElem.1 hq
  rw [List.length_take] at hj
  rw [List.getElem_take] at hh
  obtain ⟨d, t, hd, _⟩ := hg j (by omega)
  rw [List.getElem?_eq_getElem (by omega), hh] at hd
  cases hd
  have := one_inj he
  subst this
  have e : cs[j]? = some (⟨#[d]⟩, ⟨t.toArray⟩) := by rw [List.getElem?_eq_getElem (by omega), hh]
  have := SupP.name_inj (ok_of hg) (tc_at h) (tc_at e)
  omega
/-- what stands above, behind m letters of a round -/
def upm (T : SupP.CS) (L : List UInt8) (m : Nat) : List UInt8 := L ++ ((L.take m).map (SupP.sup T)).flatten
theorem upm_zero (T : SupP.CS) (L : List UInt8) : upm T L 0 = L := by unfold upm; simp
theorem upm_step {T : SupP.CS} {L : List UInt8} {m : Nat} {e : UInt8} (h : L[m]? = some e) : upm T L (m + 1) = upm T L m ++ SupP.sup T e := by
  obtain ⟨hl, hg⟩ := List.getElem?_eq_some_iff.1 h
  unfold upm
  rw [List.take_succ_eq_append_getElem hl, hg]
  simp
theorem upm_at {T : SupP.CS} {L : List UInt8} {m : Nat} {e : UInt8} (h : L[m]? = some e) : (upm T L m)[m]? = some e := by
  obtain ⟨hl, hg⟩ := List.getElem?_eq_some_iff.1 h
  unfold upm
  rw [List.getElem?_append_left hl, h]
theorem upm_short {cs : List BB} (hg : ∀ i, i < cs.length → goodC cs i) {L : List UInt8} (h : L.length ≤ 20) (m : Nat) : (upm (tc cs) L m).length ≤ 420 := by
  unfold upm
  rw [List.length_append]
  have := flat_short hg (L.take m)
  rw [List.length_take] at this
  omega
theorem upm_all (T : SupP.CS) (c : UInt8) (k : Nat) : SupP.sortL (upm T (SupP.rnd T c k) (SupP.rnd T c k).length) = SupP.rnd T c (k + 1) := by unfold upm; rw [List.take_length]; rfl
theorem rnd_at {cs : List BB} (hg : ∀ i, i < cs.length → goodC cs i) {i0 : Nat} {c : UInt8} {s0 : List UInt8} (hc : cs[i0]? = some (⟨#[c]⟩, ⟨s0.toArray⟩)) {k m : Nat} {e : UInt8} (h : (SupP.rnd (tc cs) c k)[m]? = some e) : ∃ (j : Nat) (t : List UInt8), j < cs.length ∧ cs[j]? = some (⟨#[e]⟩, ⟨t.toArray⟩) ∧ SupP.sup (tc cs) e = t := by
  obtain ⟨j, t, hj, hjt⟩ := SupP.Up.index (ok_of hg) (tc_at hc) (SupP.rnd_up (ok_of hg) c k e (List.mem_of_getElem? h))
  exact ⟨j, t, by have := (List.getElem?_eq_some_iff.1 hjt).1; rwa [tc_len] at this, tc_get hg hjt, SupP.sup_at (ok_of hg) hjt⟩
set_option maxHeartbeats 8000000 in
theorem SupersOf_spec (a b : Option Addr) (cap cap2 : Nat) (cs : List BB) (is : List II) (x : ByteArray) (w : World) (h0 : tot cs + cs.length ≤ 1048576) (h1 : itot is + is.length ≤ 1048576) (hcap : cs.length ≤ cap) (hs : SP w (.slice a cs.length cap) cs) (hi : SI w (.slice b is.length cap2) is) :
    Calls Try.prog 27 #[.agg #[.slice a cs.length cap, .slice b is.length cap2], .string x] w fun e w' => e = .returned (.string (supB cs is x)) ∧ Below w.heap.size w w' := by
  have HS := hid hs
  have HI := hid hi
  have H0 := hid h0
  have H1 := hid h1
  clear hs hi h0 h1
  go_enter Try.func27, Try.ntmps27
  go_wp2_with fail
  have HBW : Hid (Below w.heap.size w (w.alloc (.cells #[.slice a cs.length cap, .slice b is.length cap2] 37))) := (Below.refl _ _).alloc (Nat.le_refl _) _
  have HX1 : Hid ((w.alloc (.cells #[.slice a cs.length cap, .slice b is.length cap2] 37)).heap[w.heap.size]? = some (.cells #[.slice a cs.length cap, .slice b is.length cap2] 37 (0, 0))) := heap_alloc_new _ _
  generalize w.alloc (.cells #[.slice a cs.length cap, .slice b is.length cap2] 37) = W at *
  have hzb := HBW.out.size
  have hzs := lt_of_heap HX1.out
  refine (HasClass_spec a b cap cap2 cs is x W H0.out H1.out hcap (HS.out.below HBW.out) (HI.out.below HBW.out)).mono ?_
  rintro e w1 ⟨rfl, hb⟩
  have HB1 := hid hb
  obtain ⟨p10, p11⟩ := keep2 HX1.out hb
  have hz1 := hb.size
  clear hb
  cases hv : hcB cs is x with
  | false =>
    have HR : Hid (supB cs is x = ⟨#[]⟩) := supB_no hv
    clear hv
    go_wp2
    go_ret
    exact ⟨ret_string HR.out.symm, HBW.out.trans (HB1.out.mono HBW.out.size)⟩
  | true =>
    obtain ⟨hg, hl1, hl4, hkn⟩ := hc_good hv
    obtain ⟨i0, c, s0, hi0, hxe, hcs⟩ := known_at (n := cs.length) hg (by rw [List.take_length]; exact hkn)
    subst hxe
    have HR : Hid (supB cs is ⟨#[c]⟩ = ⟨(SupP.impl (tc cs) c).toArray⟩) := supB_yes hv
    have HG := hid hg
    have HOK := hid (ok_of hg)
    have HCS := hid hcs
    have HTL := hid (tc_len cs)
    clear hv hg hkn hcs
    obtain ⟨b2, off, rfl, k0, k1, -, -, hbl⟩ := sp_at ((HS.out.below HBW.out).below HB1.out) HCS.out
    have HIX : Hid (idxC cs ⟨#[c]⟩ = i0) := idx_at HG.out HCS.out
    have HS0 : Hid (s0 = SupP.rnd (tc cs) c 0) := (SupP.sup_at HOK.out (tc_at HCS.out)).symm
    have hs0l := sup_short HG.out (tc_at HCS.out)
    have hlt1 : w.heap.size < w1.heap.size := by omega
    clear k0
    go_wp2_with fail
    refine wp_region_any (by kernel_rfl) ?_
    change wpAny _ _ _ _ _ _ _ (World.drew _)
    have SX : w1.drew.cell? ⟨w.heap.size, 0, none⟩ = some (.slice (some ⟨b2, off, none⟩) cs.length cap) ∧ w1.drew.cell? ⟨w.heap.size, 1, none⟩ = some (.slice b is.length cap2) ∧ w1.drew.cell? ⟨b2, off + i0 * 2 + 1, none⟩ = some (.string ⟨s0.toArray⟩) := ⟨p10, p11, k1⟩
    refine wpAny_of_T (S := fun X => X.cell? ⟨w.heap.size, 0, none⟩ = some (.slice (some ⟨b2, off, none⟩) cs.length cap) ∧ X.cell? ⟨w.heap.size, 1, none⟩ = some (.slice b is.length cap2) ∧ X.cell? ⟨b2, off + i0 * 2 + 1, none⟩ = some (.string ⟨s0.toArray⟩)) (m := 9) _ _ _ _ ?_
    refine wpAnyT_take (i := 0) (v := .pointer (some ⟨w.heap.size, 0, none⟩)) rfl (by kernel_rfl) (by kernel_rfl) (by kernel_rfl) (by kernel_rfl) (fun _ _ _ h => h) (Or.inl ⟨by kernel_rfl, fun X hS => by obtain ⟨e0, e1, e2⟩ := hS; go_simp⟩) SX ?_
    try go_simp
    refine wpAnyT_take (i := 1) (v := .slice (some ⟨b2, off, none⟩) cs.length cap) rfl (by kernel_rfl) (by kernel_rfl) (by kernel_rfl) (by kernel_rfl) (fun _ _ _ h => h) (Or.inl ⟨by kernel_rfl, fun X hS => by obtain ⟨e0, e1, e2⟩ := hS; go_simp⟩) SX ?_
    try go_simp
    refine wpAnyT_take (i := 2) (v := .agg #[.slice (some ⟨b2, off, none⟩) cs.length cap, .slice b is.length cap2]) rfl (by kernel_rfl) (by kernel_rfl) (by kernel_rfl) (by kernel_rfl) (fun _ _ _ h => h) (Or.inl ⟨by kernel_rfl, fun X hS => by obtain ⟨e0, e1, e2⟩ := hS; go_simp⟩) SX ?_
    try go_simp
    refine wpAnyT_take (i := 3) (v := .string ⟨#[c]⟩) rfl (by kernel_rfl) (by kernel_rfl) (by kernel_rfl) (by kernel_rfl) (fun _ _ _ h => h) (Or.inl ⟨by kernel_rfl, fun X hS => by obtain ⟨e0, e1, e2⟩ := hS; go_simp⟩) SX ?_
    try go_simp
    refine wpAnyT_one 4 rfl (by kernel_rfl) (fun K hK => ?_)
    go_simp
    refine (l3Class_any (some ⟨b2, off, none⟩) cap b is.length cap2 cs ⟨#[c]⟩ w1.drew (((HS.out.below HBW.out).below HB1.out).below (below_drew1 (Below.refl _ w1)))).mono ?_
    rintro e w2 ⟨rfl, hb⟩
    have HB2 : Hid (Below W.heap.size W w2) := HB1.out.trans ((below_drew1 (Below.refl _ w1)).trans hb |>.mono HB1.out.size)
    have SX2 : w2.cell? ⟨w.heap.size, 0, none⟩ = some (.slice (some ⟨b2, off, none⟩) cs.length cap) ∧ w2.cell? ⟨w.heap.size, 1, none⟩ = some (.slice b is.length cap2) ∧ w2.cell? ⟨b2, off + i0 * 2 + 1, none⟩ = some (.string ⟨s0.toArray⟩) := ⟨(hb.cell (lt_of_cell p10)).trans p10, (hb.cell (lt_of_cell p11)).trans p11, (hb.cell (lt_of_cell k1)).trans k1⟩
    clear hb
    rw [HIX.out]
    refine hK _ _ (fun _ => SX2) ?_
    clear hK K
    clear SX p10 p11 k1
    refine wpAnyT_take (i := 5) (v := .pointer (some ⟨b2, off + i0 * 2, none⟩)) rfl (by kernel_rfl) (by kernel_rfl) (by kernel_rfl) (by kernel_rfl) (fun _ _ _ h => h) (Or.inl ⟨by kernel_rfl, fun X hS => by obtain ⟨e0, e1, e2⟩ := hS; go_simp⟩) SX2 ?_
    try go_simp
    refine wpAnyT_take (i := 6) (v := .pointer (some ⟨b2, off + i0 * 2 + 1, none⟩)) rfl (by kernel_rfl) (by kernel_rfl) (by kernel_rfl) (by kernel_rfl) (fun _ _ _ h => h) (Or.inl ⟨by kernel_rfl, fun X hS => by obtain ⟨e0, e1, e2⟩ := hS; go_simp⟩) SX2 ?_
    try go_simp
    refine wpAnyT_take (i := 7) (v := .string ⟨s0.toArray⟩) rfl (by kernel_rfl) (by kernel_rfl) (by kernel_rfl) (by kernel_rfl) (fun _ _ _ h => h) (Or.inl ⟨by kernel_rfl, fun X hS => by obtain ⟨e0, e1, e2⟩ := hS; go_simp⟩) SX2 ?_
    try go_simp
    refine wpAnyT_take (i := 8) (v := .string ⟨s0.toArray⟩) rfl (by kernel_rfl) (by kernel_rfl) (by kernel_rfl) (by kernel_rfl) (fun _ _ _ h => h) (Or.inl ⟨by kernel_rfl, fun X hS => by obtain ⟨e0, e1, e2⟩ := hS; go_simp⟩) SX2 ?_
    try go_simp
    refine wpAnyT_drop _ 9 _ _ _ (by decide) (by kernel_rfl) ?_
    change wpList _ _ _ [] _ _
    obtain ⟨p10, p11, -⟩ := SX2
    go_wp2_with fail
    clear p10 p11
    clear HIX
    rw [HS0.out]
    go_loopg [6, 24] cs.length (fun q o i wr => ∃ (k : Nat), k ≤ cs.length ∧ cs.length - k ≤ q ∧ o = .string ⟨(SupP.rnd (tc cs) c k).toArray⟩ ∧ i = .int .i64 k ∧ Below W.heap.size W wr)
    case atStart => exact ⟨0, Nat.zero_le _, by simp, rfl, rfl, HB2.out⟩
    case round =>
      obtain ⟨k, hk, hq, rfl, rfl, hb⟩ := hrel
      have HBK := hid hb
      have hbz := hb.size
      clear hb
      have hrl := rnd_short HG.out c k
      by_cases hlt : k < cs.length
      · go_wp2_with fail
        go_loopg [6, 28] (SupP.rnd (tc cs) c k).length (fun q o i wr => ∃ (m : Nat), m ≤ (SupP.rnd (tc cs) c k).length ∧ (SupP.rnd (tc cs) c k).length - m ≤ q ∧ o = .string ⟨(upm (tc cs) (SupP.rnd (tc cs) c k) m).toArray⟩ ∧ i = .int .i64 m ∧ Below W.heap.size W wr)
        case atStart => exact ⟨0, Nat.zero_le _, by simp, by rw [upm_zero], rfl, HBK.out⟩
        case round =>
          obtain ⟨m, hm, hqm, rfl, rfl, hb⟩ := hrel
          have HBX := hid hb
          have hbx := hb.size
          clear hb
          have hul := upm_short HG.out hrl m
          by_cases hltm : m < (SupP.rnd (tc cs) c k).length
          · obtain ⟨e, he⟩ : ∃ e, (SupP.rnd (tc cs) c k)[m]? = some e := ⟨_, List.getElem?_eq_getElem hltm⟩
            obtain ⟨j, t, hj, hjt, hse⟩ := rnd_at HG.out HCS.out he
            have HUP : Hid (upm (tc cs) (SupP.rnd (tc cs) c k) (m + 1) = upm (tc cs) (SupP.rnd (tc cs) c k) m ++ t) := by show _ = _; rw [upm_step he, hse]
            have hsub := fun X => run_sub (upm (tc cs) (SupP.rnd (tc cs) c k) m) m e (upm_at he) (by omega) X
            have HIX : Hid (idxC cs ⟨#[e]⟩ = j) := idx_at HG.out hjt
            obtain ⟨b3, off3, hbe, -, k1, -, -, hbl3⟩ := sp_at ((HS.out.below HBW.out).below HBX.out) hjt
            cases hbe
            have htl := sup_short HG.out (tc_at hjt)
            obtain ⟨p10, p11⟩ := keep2 HX1.out HBX.out
            clear he hjt hse
            go_wp2_with fail
            refine wp_region_any (by kernel_rfl) ?_
            change wpAny _ _ _ _ _ _ _ (World.drew _)
            have SX : wr.drew.cell? ⟨w.heap.size, 0, none⟩ = some (.slice (some ⟨b2, off, none⟩) cs.length cap) ∧ wr.drew.cell? ⟨w.heap.size, 1, none⟩ = some (.slice b is.length cap2) ∧ wr.drew.cell? ⟨b2, off + j * 2 + 1, none⟩ = some (.string ⟨t.toArray⟩) := ⟨p10, p11, k1⟩
            refine wpAny_of_T (S := fun X => X.cell? ⟨w.heap.size, 0, none⟩ = some (.slice (some ⟨b2, off, none⟩) cs.length cap) ∧ X.cell? ⟨w.heap.size, 1, none⟩ = some (.slice b is.length cap2) ∧ X.cell? ⟨b2, off + j * 2 + 1, none⟩ = some (.string ⟨t.toArray⟩)) (m := 15) _ _ _ _ ?_
            refine wpAnyT_take (i := 0) (v := .string ⟨(upm (tc cs) (SupP.rnd (tc cs) c k) m).toArray⟩) rfl (by kernel_rfl) (by kernel_rfl) (by kernel_rfl) (by kernel_rfl) (fun _ _ _ h => h) (Or.inl ⟨by kernel_rfl, fun X hS => by obtain ⟨e0, e1, e2⟩ := hS; go_simp⟩) SX ?_
            try go_simp
            refine wpAnyT_take (i := 1) (v := .pointer (some ⟨w.heap.size, 0, none⟩)) rfl (by kernel_rfl) (by kernel_rfl) (by kernel_rfl) (by kernel_rfl) (fun _ _ _ h => h) (Or.inl ⟨by kernel_rfl, fun X hS => by obtain ⟨e0, e1, e2⟩ := hS; go_simp⟩) SX ?_
            try go_simp
            refine wpAnyT_take (i := 2) (v := .slice (some ⟨b2, off, none⟩) cs.length cap) rfl (by kernel_rfl) (by kernel_rfl) (by kernel_rfl) (by kernel_rfl) (fun _ _ _ h => h) (Or.inl ⟨by kernel_rfl, fun X hS => by obtain ⟨e0, e1, e2⟩ := hS; go_simp⟩) SX ?_
            try go_simp
            refine wpAnyT_take (i := 3) (v := .agg #[.slice (some ⟨b2, off, none⟩) cs.length cap, .slice b is.length cap2]) rfl (by kernel_rfl) (by kernel_rfl) (by kernel_rfl) (by kernel_rfl) (fun _ _ _ h => h) (Or.inl ⟨by kernel_rfl, fun X hS => by obtain ⟨e0, e1, e2⟩ := hS; go_simp⟩) SX ?_
            try go_simp
            refine wpAnyT_take (i := 4) (v := .string ⟨(upm (tc cs) (SupP.rnd (tc cs) c k) m).toArray⟩) rfl (by kernel_rfl) (by kernel_rfl) (by kernel_rfl) (by kernel_rfl) (fun _ _ _ h => h) (Or.inl ⟨by kernel_rfl, fun X hS => by obtain ⟨e0, e1, e2⟩ := hS; go_simp⟩) SX ?_
            try go_simp
            refine wpAnyT_take (i := 5) (v := .int .i64 m) rfl (by kernel_rfl) (by kernel_rfl) (by kernel_rfl) (by kernel_rfl) (fun _ _ _ h => h) (Or.inl ⟨by kernel_rfl, fun X hS => by obtain ⟨e0, e1, e2⟩ := hS; go_simp⟩) SX ?_
            try go_simp
            refine wpAnyT_take (i := 6) (v := .int .i64 m) rfl (by kernel_rfl) (by kernel_rfl) (by kernel_rfl) (by kernel_rfl) (fun _ _ _ h => h) (Or.inl ⟨by kernel_rfl, fun X hS => by obtain ⟨e0, e1, e2⟩ := hS; go_simp⟩) SX ?_
            try go_simp
            refine wpAnyT_take (i := 7) (v := .int .i64 (m + 1)) rfl (by kernel_rfl) (by kernel_rfl) (by kernel_rfl) (by kernel_rfl) (fun _ _ _ h => h) (Or.inl ⟨by kernel_rfl, fun X hS => by clear hS; go_simp; try exact IntWalk.i64_in _ (by omega)⟩) SX ?_
            try go_simp
            refine wpAnyT_take (i := 8) (v := .string ⟨#[e]⟩) rfl (by kernel_rfl) (by kernel_rfl) (by kernel_rfl) (by kernel_rfl) (fun _ _ _ h => h) (Or.inl ⟨by kernel_rfl, fun X hS => by clear hS; go_simp⟩) SX ?_
            try go_simp
            refine wpAnyT_one 9 rfl (by kernel_rfl) (fun K hK => ?_)
            go_simp
            refine (l3Class_any (some ⟨b2, off, none⟩) cap b is.length cap2 cs ⟨#[e]⟩ wr.drew (((HS.out.below HBW.out).below HBX.out).below (below_drew1 (Below.refl _ wr)))).mono ?_
            rintro e1 w2 ⟨rfl, hb⟩
            have HB2 : Hid (Below W.heap.size W w2) := HBX.out.trans ((below_drew1 (Below.refl _ wr)).trans hb |>.mono HBX.out.size)
            have SX2 : w2.cell? ⟨w.heap.size, 0, none⟩ = some (.slice (some ⟨b2, off, none⟩) cs.length cap) ∧ w2.cell? ⟨w.heap.size, 1, none⟩ = some (.slice b is.length cap2) ∧ w2.cell? ⟨b2, off + j * 2 + 1, none⟩ = some (.string ⟨t.toArray⟩) := ⟨(hb.cell (lt_of_cell p10)).trans p10, (hb.cell (lt_of_cell p11)).trans p11, (hb.cell (lt_of_cell k1)).trans k1⟩
            clear hb
            rw [HIX.out]
            refine hK _ _ (fun _ => SX2) ?_
            clear hK K
            clear SX p10 p11 k1 hsub
            refine wpAnyT_take (i := 10) (v := .pointer (some ⟨b2, off + j * 2, none⟩)) rfl (by kernel_rfl) (by kernel_rfl) (by kernel_rfl) (by kernel_rfl) (fun _ _ _ h => h) (Or.inl ⟨by kernel_rfl, fun X hS => by obtain ⟨e0, e1, e2⟩ := hS; go_simp⟩) SX2 ?_
            try go_simp
            refine wpAnyT_take (i := 11) (v := .pointer (some ⟨b2, off + j * 2 + 1, none⟩)) rfl (by kernel_rfl) (by kernel_rfl) (by kernel_rfl) (by kernel_rfl) (fun _ _ _ h => h) (Or.inl ⟨by kernel_rfl, fun X hS => by obtain ⟨e0, e1, e2⟩ := hS; go_simp⟩) SX2 ?_
            try go_simp
            refine wpAnyT_take (i := 12) (v := .string ⟨t.toArray⟩) rfl (by kernel_rfl) (by kernel_rfl) (by kernel_rfl) (by kernel_rfl) (fun _ _ _ h => h) (Or.inl ⟨by kernel_rfl, fun X hS => by obtain ⟨e0, e1, e2⟩ := hS; go_simp⟩) SX2 ?_
            try go_simp
            refine wpAnyT_take (i := 13) (v := .string (⟨(upm (tc cs) (SupP.rnd (tc cs) c k) m).toArray⟩ ++ ⟨t.toArray⟩)) rfl (by kernel_rfl) (by kernel_rfl) (by kernel_rfl) (by kernel_rfl) (fun _ _ _ h => h) (Or.inl ⟨by kernel_rfl, fun X hS => by clear hS; go_simp; try omega⟩) SX2 ?_
            try go_simp
            refine wpAnyT_take (i := 14) (v := .string (⟨(upm (tc cs) (SupP.rnd (tc cs) c k) m).toArray⟩ ++ ⟨t.toArray⟩)) rfl (by kernel_rfl) (by kernel_rfl) (by kernel_rfl) (by kernel_rfl) (fun _ _ _ h => h) (Or.inl ⟨by kernel_rfl, fun X hS => by obtain ⟨e0, e1, e2⟩ := hS; go_simp⟩) SX2 ?_
            try go_simp
            refine wpAnyT_drop _ 15 _ _ _ (by decide) (by kernel_rfl) ?_
            change wpList _ _ _ [] _ _
            clear SX2
            go_wp2_with fail
            rw [app_ba]
            go_roundg ((SupP.rnd (tc cs) c k).length - (m + 1))
            case measure => omega
            case rel => exact ⟨m + 1, by omega, by omega, by rw [HUP.out], by go_num, HB2.out⟩
          · have hme : m = (SupP.rnd (tc cs) c k).length := by omega
            have HRN : Hid (SupP.sortL (upm (tc cs) (SupP.rnd (tc cs) c k) m) = SupP.rnd (tc cs) c (k + 1)) := by show _ = _; rw [hme]; exact upm_all _ _ _
            clear hme
            go_wp2_with fail
            refine (l3Sorted_any (upm (tc cs) (SupP.rnd (tc cs) c k) m) wr (by omega)).mono ?_
            rintro e w3 ⟨rfl, hb⟩
            have HB3 : Hid (Below W.heap.size W w3) := HBX.out.trans (hb.mono HBX.out.size)
            clear hb
            rw [HRN.out]
            go_wp2_with fail
            go_roundg (cs.length - (k + 1))
            case measure => omega
            case rel => exact ⟨k + 1, by omega, by omega, rfl, by go_num, HB3.out⟩
      · have hke : k = cs.length := by omega
        have HE : Hid (SupP.rnd (tc cs) c k = SupP.impl (tc cs) c) := by
          have h := SupP.same HOK.out (ok_caps HG.out) (tc_at HCS.out)
          rw [HTL.out] at h
          show _ = _
          rw [hke]; exact h
        clear hke
        go_wp2_with fail
        go_loop [5, 51] (fun o i => ∃ (m : Nat), m ≤ (SupP.rnd (tc cs) c k).length ∧ o = .string ⟨((SupP.rnd (tc cs) c k).take m).toArray⟩ ∧ i = .int .i64 m) (fun _ i => (SupP.rnd (tc cs) c k).length - (intOf i).toNat)
        case atStart => exact ⟨0, Nat.zero_le _, rfl, rfl⟩
        case round =>
          obtain ⟨m, hm, rfl, rfl⟩ := hrel
          have htk : ((SupP.rnd (tc cs) c k).take m).length ≤ 20 := by rw [List.length_take]; omega
          by_cases hltm : m < (SupP.rnd (tc cs) c k).length
          · obtain ⟨e, he⟩ : ∃ e, (SupP.rnd (tc cs) c k)[m]? = some e := ⟨_, List.getElem?_eq_getElem hltm⟩
            have hsub := fun X => run_sub (SupP.rnd (tc cs) c k) m e he (by omega) X
            have HTK : Hid ((SupP.rnd (tc cs) c k).take (m + 1) = (SupP.rnd (tc cs) c k).take m ++ [e]) := by
              obtain ⟨hl, hg⟩ := List.getElem?_eq_some_iff.1 he
              show _ = _
              rw [List.take_succ_eq_append_getElem hl, hg]
            clear he
            go_wp2_with fail
            rw [app_lists]
            go_round
            case rel => exact ⟨m + 1, by omega, by rw [HTK.out], by go_num⟩
            case measure => simp [intOf]; omega
          · have hme : m = (SupP.rnd (tc cs) c k).length := by omega
            have HTE : Hid ((SupP.rnd (tc cs) c k).take m = SupP.impl (tc cs) c) := by show _ = _; rw [hme, List.take_length]; exact HE.out
            clear hme
            go_wp2_with fail
            go_ret
            exact ⟨by rw [HR.out, ← HTE.out]; rfl, HBW.out.trans (HBK.out.mono HBW.out.size)⟩
end Sup
end Go.Proofs.Ytaijklafgcocmaa
