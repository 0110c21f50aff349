/- Which world a text spells: both ways are one. Conditions: none. -/
import Derived.Test.YtbdnhcfebgkpdaaDoorPInP
import Derived.Test.YtbdnhcfebgkpdaaDoorFW
set_option linter.unusedVariables false
set_option linter.unusedSimpArgs false
namespace Go.Proofs.YtbdnhcfebgkpdaaDoor
open Ty SplP PInP Known Classes IV WV FW FmtI
namespace PWoP
/-- a class, as the reference reads it -/
def clsS (x : List UInt8) : BB := match x with | c :: d :: e :: r => if d = 60 then (⟨#[c]⟩, ⟨(e :: r).toArray⟩) else (⟨x.toArray⟩, ⟨#[]⟩) | _ => (⟨x.toArray⟩, ⟨#[]⟩)
/-- a class, as the program reads it -/
def clsI (x : List UInt8) : BB := (⟨(x.takeWhile (· != 60)).toArray⟩, ⟨((x.dropWhile (· != 60)).drop 1).toArray⟩)
def instsL : List (List UInt8) → Option (List II)
  | [] => some []
  | p :: ps => match instL p, instsL ps with | some (n, ns), some r => some ((n.1, n.2, ns) :: r) | _, _ => none
open Classical in
noncomputable def specW (s : List UInt8) : Option (List BB × List II) := match splitC 59 s with
  | p0 :: ps => (match instsL ps with | none => none | some is => if wvB ((splitC 32 p0).map clsS) is = true then some ((splitC 32 p0).map clsS, is) else none)
  | [] => none
open Classical in
noncomputable def implW (s : List UInt8) : Option (List BB × List II) := match splitC 59 s with
  | p0 :: ps => (match instsL ps with | none => none | some is => if s ≠ [] ∧ fmtW ((splitC 32 p0).map clsI) is = bl s then some ((splitC 32 p0).map clsI, is) else none)
  | [] => none
theorem split_join (c : UInt8) : ∀ (ps : List (List UInt8)), ps ≠ [] → (∀ p ∈ ps, c ∉ p) → splitC c (Lib.join ps [c]) = ps
  | [], h, _ => absurd rfl h
  | [p], _, h => by
    rw [Lib.join_cons]
    simp only [Lib.joinTail, List.map_nil, List.flatten_nil, List.append_nil]
    exact splitC_none (h p (by simp))
  | p :: q :: ps, _, h => by
    have ih := split_join c (q :: ps) (by simp) (fun r hr => h r (List.mem_cons_of_mem _ hr))
    rw [Lib.join_cons] at ih ⊢
    rw [show Lib.joinTail [c] (q :: ps) = c :: (q ++ Lib.joinTail [c] ps) by simp [Lib.joinTail]]
    rw [splitC_at _ (h p (by simp)), ih]
theorem needT_of {l : List UInt8} {p : BB} (h : needB l = some p) : (FmtI.needT p).data.toList = l := by
  obtain ⟨c, t, rfl, -, -, rfl⟩ := needB_some h
  rw [needT_data]
  simp
theorem allN_text : ∀ {ps : List (List UInt8)} {xs : List BB}, allN ps = some xs → (xs.map FmtI.needT).map (·.data.toList) = ps
  | [], xs, h => by simp [allN] at h; subst h; rfl
  | p :: ps, xs, h => by
    unfold allN at h
    split at h
    · rename_i x ys h1 h2
      cases h
      simp only [List.map_cons]
      rw [allN_text h2, needT_of h1]
    · simp at h
/-- an instance that was read is printed as it was -/
theorem inst_text {l : List UInt8} {n : BB} {ns : List BB} (h : instL l = some (n, ns)) : (fmtI n.1 n.2 ns).data.toList = l := by
  have hj := splitC_join 58 l
  unfold instL at h
  split at h
  · rename_i a ha
    obtain ⟨x, h1, h2⟩ := Option.map_eq_some_iff.1 h
    cases h2
    rw [ha, Lib.join_cons] at hj
    simp [Lib.joinTail] at hj
    rw [← hj]
    exact needT_of h1
  · rename_i a b ha
    split at h
    · rename_i x ys h1 h2
      cases h
      rw [ha, Lib.join_cons] at hj
      simp [Lib.joinTail] at hj
      rw [← hj]
      have e1 := allN_text h2
      have e2 := splitC_join 38 b
      have e3 : fmtL ns = b := by unfold fmtL; rw [e1, e2]
      cases ns with
      | nil =>
        have := allN_len h2
        have h3 := splitC_ne 38 b
        simp at this
        exact absurd (List.length_eq_zero_iff.1 this.symm) h3
      | cons q r =>
        show (needText n.1 n.2 ++ ⟨#[58]⟩ ++ ⟨(fmtL (q :: r)).toArray⟩).data.toList = _
        rw [e3, ByteArray.data_append, ByteArray.data_append]
        have := needT_of h1
        rw [show FmtI.needT n = needText n.1 n.2 from rfl] at this
        simp [this]
    · simp at h
  · simp at h
theorem insts_text : ∀ {ps : List (List UInt8)} {is : List II}, instsL ps = some is → insL is = (ps.map (59 :: ·)).flatten
  | [], is, h => by simp [instsL] at h; subst h; rfl
  | p :: ps, is, h => by
    unfold instsL at h
    split at h
    · rename_i n ns r h1 h2
      cases h
      have e := insts_text h2
      unfold insL at e ⊢
      simp only [List.map_cons, List.flatten_cons]
      rw [e, inst_text h1]
    · simp at h
theorem join59 (p0 : List UInt8) (ps : List (List UInt8)) : Lib.join (p0 :: ps) [59] = p0 ++ (ps.map (59 :: ·)).flatten := by
  rw [Lib.join_cons]
  simp [Lib.joinTail]
theorem kn_at {cs : List BB} (hg : ∀ i, i < cs.length → goodC cs i) {n : Nat} {x : ByteArray} (h : knownB (cs.take n) x = true) : ∃ c : UInt8, x = ⟨#[c]⟩ ∧ isCap c = true := by
  unfold knownB at h
  rw [List.any_eq_true] at h
  obtain ⟨p, hp, he⟩ := h
  obtain ⟨j, hj, hh⟩ := List.mem_iff_getElem.1 hp
  have he : p.1 = x := by simpa using he
  rw [List.length_take] at hj
  have hj2 : j < cs.length := by omega
  obtain ⟨d, t, hd, hc, _⟩ := hg j hj2
  rw [List.getElem_take] at hh
  have : cs[j]? = some p := by rw [List.getElem?_eq_getElem hj2, hh]
  rw [hd] at this
  cases this
  exact ⟨d, he.symm, hc⟩
/-- a class of a valid world: a capital letter, and capital letters -/
theorem cls_caps {cs : List BB} (hg : ∀ i, i < cs.length → goodC cs i) {p : BB} (hp : p ∈ cs) : ∃ (c : UInt8) (sup : List UInt8), p = (⟨#[c]⟩, ⟨sup.toArray⟩) ∧ isCap c = true ∧ ∀ e ∈ sup, isCap e = true := by
  obtain ⟨i, hi, hh⟩ := List.mem_iff_getElem.1 hp
  obtain ⟨c, sup, h1, h2, -, h3⟩ := hg i hi
  rw [List.getElem?_eq_getElem hi, hh] at h1
  cases h1
  refine ⟨c, sup, rfl, h2, fun e he => ?_⟩
  obtain ⟨k, hk, hke⟩ := List.mem_iff_getElem.1 he
  obtain ⟨e', h4, h5, -⟩ := h3 k hk
  rw [List.getElem?_eq_getElem hk, hke] at h4
  cases h4
  obtain ⟨d, h6, h7⟩ := kn_at hg h5
  have := one_inj h6
  subst this
  exact h7
theorem cap_ne {c x : UInt8} (h : isCap c = true) (hx : isCap x = false) : c ≠ x := by rintro rfl; rw [h] at hx; simp at hx
theorem wv_good {cs : List BB} {is : List II} (h : wvB cs is = true) : ∀ i, i < cs.length → goodC cs i := by
  unfold wvB at h
  simp only [Bool.and_eq_true] at h
  exact (clB_good h.1).1
theorem emp (l : List UInt8) : ((ByteArray.mk l.toArray).toList.isEmpty = true) ↔ l = [] := by
  rw [ByteArray.toList_eq]
  simp
theorem ba_inj {a b : List UInt8} (h : ByteArray.mk a.toArray = ByteArray.mk b.toArray) : a = b := by
  have := congrArg (fun x => x.data.toList) h
  simpa using this
theorem clsT_nil (c : UInt8) : (clsT (⟨#[c]⟩, ⟨#[]⟩)).data.toList = [c] := by
  rw [clsT_e (by exact (emp []).2 rfl)]
theorem clsT_cons (c : UInt8) (s : List UInt8) (h : s ≠ []) : (clsT (⟨#[c]⟩, ⟨s.toArray⟩)).data.toList = c :: 60 :: s := by
  have he : (ByteArray.mk s.toArray).toList.isEmpty = false := by
    cases hx : (ByteArray.mk s.toArray).toList.isEmpty with
    | false => rfl
    | true => exact absurd ((emp s).1 hx) h
  rw [clsT_n he, ByteArray.data_append, ByteArray.data_append]
  simp
theorem clsI_of {x : List UInt8} {c : UInt8} (hc : c ≠ 60) : (x = [c] → clsI x = (⟨#[c]⟩, ⟨#[]⟩)) ∧ ∀ s, x = c :: 60 :: s → clsI x = (⟨#[c]⟩, ⟨s.toArray⟩) := by
  have h : (c != 60) = true := by simpa using hc
  refine ⟨?_, ?_⟩
  · rintro rfl; unfold clsI; simp [h]
  · rintro s rfl; unfold clsI; simp [h]
theorem clsS_of {x : List UInt8} {c : UInt8} : (x = [c] → clsS x = (⟨#[c]⟩, ⟨#[]⟩)) ∧ ∀ s, s ≠ [] → x = c :: 60 :: s → clsS x = (⟨#[c]⟩, ⟨s.toArray⟩) := by
  refine ⟨?_, ?_⟩
  · rintro rfl; rfl
  · rintro s hs rfl
    cases s with
    | nil => exact absurd rfl hs
    | cons e r => unfold clsS; simp
/-- the parts of a text whose classes, as the reference reads them, are valid -/
theorem partS {x : List UInt8} {c : UInt8} {sup : List UInt8} (h : clsS x = (⟨#[c]⟩, ⟨sup.toArray⟩)) : x = [c] ∧ sup = [] ∨ (sup ≠ [] ∧ x = c :: 60 :: sup) := by
  unfold clsS at h
  split at h
  · rename_i c' d e r
    split at h
    · rename_i hd
      subst hd
      simp only [Prod.mk.injEq] at h
      have h1 := one_inj h.1
      have h2 := ba_inj h.2
      subst h1
      exact .inr ⟨by rw [← h2]; simp, by rw [h2]⟩
    · simp only [Prod.mk.injEq] at h
      have := congrArg (fun x => x.data.toList) h.1
      simp at this
  · simp only [Prod.mk.injEq] at h
    have h1 := congrArg (fun x => x.data.toList) h.1
    have h2 := congrArg (fun x => x.data.toList) h.2
    simp at h1 h2
    exact .inl ⟨h1, h2⟩
theorem same (s : List UInt8) : implW s = specW s := by
  have hj := splitC_join 59 s
  unfold implW specW
  cases hsp : splitC 59 s with
  | nil => rfl
  | cons p0 ps =>
    rw [hsp, join59] at hj
    dsimp only
    cases hin : instsL ps with
    | none => rfl
    | some is =>
      dsimp only
      have hit := insts_text hin
      have hp0 := splitC_join 32 p0
      by_cases hw : wvB ((splitC 32 p0).map clsS) is = true
      · have hg := wv_good hw
        have hall : ∀ x ∈ splitC 32 p0, clsI x = clsS x ∧ (clsT (clsS x)).data.toList = x ∧ x ≠ [] := by
          intro x hx
          obtain ⟨c, sup, he, hc, -⟩ := cls_caps hg (List.mem_map.2 ⟨x, hx, rfl⟩)
          have hc60 := cap_ne hc (x := 60) (by decide)
          rcases partS he with ⟨h1, h2⟩ | ⟨h1, h2⟩
          · rw [(clsI_of hc60).1 h1, clsS_of.1 h1]
            exact ⟨rfl, by rw [clsT_nil, h1], by rw [h1]; simp⟩
          · rw [(clsI_of hc60).2 sup h2, clsS_of.2 sup h1 h2]
            exact ⟨rfl, by rw [clsT_cons c sup h1, h2], by rw [h2]; simp⟩
        have hcs : (splitC 32 p0).map clsI = (splitC 32 p0).map clsS := List.map_congr_left fun x hx => (hall x hx).1
        have hcl : clsL ((splitC 32 p0).map clsS) = p0 := by
          unfold clsL
          rw [List.map_map, List.map_map]
          rw [show List.map (((fun x => x.data.toList) ∘ clsT) ∘ clsS) (splitC 32 p0) = splitC 32 p0 from by
            conv => rhs; rw [← List.map_id (splitC 32 p0)]
            exact List.map_congr_left fun x hx => (hall x hx).2.1]
          exact hp0
        have hs : s ≠ [] := by
          rintro rfl
          have h0 : p0 = [] := (List.append_eq_nil_iff.1 hj).1
          subst h0
          exact (hall [] (by simp [splitC])).2.2 rfl
        rw [hcs, if_pos hw, if_pos ⟨hs, by rw [fmtW_yes hw, hcl, hit, hj]⟩]
      · rw [if_neg hw, if_neg]
        rintro ⟨hs, hf⟩
        have hwI : wvB ((splitC 32 p0).map clsI) is = true := by
          cases hx : wvB ((splitC 32 p0).map clsI) is with
          | true => rfl
          | false =>
            rw [fmtW_no hx] at hf
            have := congrArg (fun x => x.data.toList) hf
            simp [bl] at this
            exact absurd this hs
        have hg := wv_good hwI
        rw [fmtW_yes hwI, hit] at hf
        have hf2 : clsL ((splitC 32 p0).map clsI) = p0 := by
          have := ba_inj hf
          rw [← hj] at this
          exact List.append_cancel_right this
        have hps : ((splitC 32 p0).map clsI).map clsT |>.map (·.data.toList) |> (· = splitC 32 p0) := by
          have h1 := split_join 32 ((((splitC 32 p0).map clsI).map clsT).map (·.data.toList)) (by
            have := splitC_ne 32 p0
            cases h : splitC 32 p0 with
            | nil => exact absurd h this
            | cons a b => simp) (by
            intro p hp
            obtain ⟨q, hq, rfl⟩ := List.mem_map.1 hp
            obtain ⟨r, hr, rfl⟩ := List.mem_map.1 hq
            obtain ⟨c, sup, rfl, hc, hsup⟩ := cls_caps hg hr
            have hc32 := cap_ne hc (x := 32) (by decide)
            by_cases hn : sup = []
            · subst hn
              show 32 ∉ (clsT (⟨#[c]⟩, ⟨#[]⟩)).data.toList
              rw [clsT_nil]
              simpa using Ne.symm hc32
            · rw [clsT_cons c sup hn]
              simp only [List.mem_cons, not_or]
              exact ⟨Ne.symm hc32, by decide, fun hm => cap_ne (hsup 32 hm) (x := 32) (by decide) rfl⟩)
          have h2 : Lib.join ((((splitC 32 p0).map clsI).map clsT).map (·.data.toList)) [32] = p0 := hf2
          rw [h2] at h1
          exact h1.symm
        have hps : (((splitC 32 p0).map clsI).map clsT).map (·.data.toList) = splitC 32 p0 := hps
        apply hw
        have hcs : (splitC 32 p0).map clsS = (splitC 32 p0).map clsI := by
          apply List.map_congr_left
          intro x hx
          obtain ⟨k, hk, hkx⟩ := List.mem_iff_getElem.1 hx
          have e1 : (clsT (clsI x)).data.toList = x := by
            have := congrArg (fun l => l[k]?) hps
            simp only [List.getElem?_map, List.getElem?_eq_getElem hk, hkx, Option.map_some] at this
            exact Option.some.inj this
          obtain ⟨c, sup, he, hc, -⟩ := cls_caps hg (List.mem_map.2 ⟨x, hx, rfl⟩)
          rw [he] at e1 ⊢
          by_cases hn : sup = []
          · subst hn
            rw [show (clsT (⟨#[c]⟩, ⟨([] : List UInt8).toArray⟩)).data.toList = [c] from clsT_nil c] at e1
            exact clsS_of.1 e1.symm
          · rw [clsT_cons c sup hn] at e1
            exact clsS_of.2 sup hn e1.symm
        rw [hcs]; exact hwI
end PWoP
end Go.Proofs.YtbdnhcfebgkpdaaDoor
