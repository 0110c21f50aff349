/- The program's endless and ends. Conditions: none. -/
import Derived.Test.YtebdkafblohojaaGraU
import Derived.Test.YtebdkafblohojaaAptP
set_option linter.unusedVariables false
set_option linter.unusedSimpArgs false
set_option maxRecDepth 100000
namespace Go.Proofs.Ytebdkafblohojaa
open Go.RowKit Ty
namespace GraW
open GraP PtrM ListS AptP
/-- all but two blocks is as it was -/
structure G2 (w w' : World) (a b : Nat) : Prop where
  os : w'.os = w.os
  tape : w'.tape = w.tape
  output : w'.output = w.output
  size : w.heap.size ≤ w'.heap.size
  block : ∀ k, k < w.heap.size → k ≠ a → k ≠ b → w'.heap[k]? = w.heap[k]?
theorem G2.refl (w : World) (a b : Nat) : G2 w w a b := ⟨rfl, rfl, rfl, Nat.le_refl _, fun _ _ _ _ => rfl⟩
theorem G2.trans {u v w : World} {a b : Nat} (h : G2 u v a b) (k : G2 v w a b) : G2 u w a b := ⟨k.os.trans h.os, k.tape.trans h.tape, k.output.trans h.output, Nat.le_trans h.size k.size, fun i hi h1 h2 => (k.block i (Nat.lt_of_lt_of_le hi h.size) h1 h2).trans (h.block i hi h1 h2)⟩
theorem G2.drew {u v : World} {a b : Nat} (h : G2 u v a b) : G2 u v.drew a b := ⟨h.os, h.tape, h.output, h.size, h.block⟩
theorem G2.fst {u v : World} {a : Nat} (h : u.grownBy v (some a)) (b : Nat) : G2 u v a b := ⟨h.os, h.tape, h.output, h.size, fun k hk h1 _ => h.block k hk (fun e => h1 (by cases e; rfl))⟩
theorem G2.snd {u v : World} {b : Nat} (h : u.grownBy v (some b)) (a : Nat) : G2 u v a b := ⟨h.os, h.tape, h.output, h.size, fun k hk _ h1 => h.block k hk (fun e => h1 (by cases e; rfl))⟩
theorem G2.kc {w w' : World} {a b : Nat} {A D : Set'} (h : G2 w w' a b) (ha : SM w a A) (hb : SM w b D) : KC w w' := fun k cs e fr q => by
  obtain ⟨es, c, h1⟩ := ha.isMap
  obtain ⟨es2, c2, h2⟩ := hb.isMap
  exact (h.block k (lt_of_heap q) (fun e => by subst e; rw [h1] at q; simp at q) (fun e => by subst e; rw [h2] at q; simp at q)).trans q
theorem SM.other {w w' : World} {a b : Nat} {D : Set'} (h : w.grownBy w' (some a)) (hb : SM w b D) (hne : b ≠ a) : SM w' b D := hb.heap (h.block b hb.lt (fun e => hne (by cases e; rfl)))
def SN (N : Nds) (A : Set') : Prop := ∀ r, A r = true → ∃ v, N r = some v
theorem SN.put {N : Nds} {A : Set'} (h : SN N A) {r : Nat} (hr : ∃ v, N r = some v) : SN N (put A r) := fun n hn => by
  unfold GraP.put at hn
  split at hn
  · rename_i e; rw [e]; exact hr
  · exact h n hn
def EPost (w : World) (N : Nds) (A : Set') (ab db : Nat) (o : Option Set') (e : Ending) (w' : World) : Prop := e = .returned (.bool o.isNone) ∧ G2 w w' ab db ∧ ∀ D', o = some D' → SM w' ab A ∧ SM w' db D' ∧ SN N D'
abbrev EdAt (N : Nds) (L : Lks) (A D : Set') (n : Nat) (o : Option Set') : Prop := ∀ (w : World) (ab db : Nat) (B : Nat → Prop), GH w N L B → NL N L → SM w ab A → SM w db D → db ≠ ab → SN N A → SN N D → (∃ v, N n = some v) → Calls Try.prog 22 #[ptr n, .map (some ab), .map (some db)] w (EPost w N A ab db o)
set_option maxHeartbeats 8000000 in
theorem ed_above {N : Nds} {L : Lks} {A D : Set'} {n r : Nat} (he : En L n r) (ha : A r = true) : EdAt N L A D n none := by
  intro w ab db B hg hnl hsa hsd hab hA hD hn
  have HG := hid hg
  have HNL := hid hnl
  have HSA := hid hsa
  have HSD := hid hsd
  have HA := hid hA
  have HD := hid hD
  have HN := hid hn
  have HR := hid (en_node he hnl hn)
  have HNB : Hid (∀ r, A r = true → NB w r) := fun r h => hg.nb (hA r h)
  have HNBD : Hid (∀ r, D r = true → NB w r) := fun r h => hg.nb (hD r h)
  have HNR := hid (hg.nb HR.out)
  have HAr := hid ha
  clear hg hnl hsa hsd hA hD hn ha
  go_enter Try.func22, Try.ntmps22
  go_wp2_with fail
  refine (end_any he HNL.out w HG.out HN.out).mono ?_
  rintro e w' ⟨rfl, rfl⟩
  go_wp2_with (first | (at_lookup; refine look_at rfl _ _ rfl HSA.out HNR.out HNB.out true HAr.out rfl rfl ?_))
  go_ret
  exact ⟨rfl, (G2.refl _ _ _), fun D' h => by simp at h⟩
set_option maxHeartbeats 8000000 in
theorem ed_done {N : Nds} {L : Lks} {A D : Set'} {n r : Nat} (he : En L n r) (ha : A r = false) (hd : D r = true) : EdAt N L A D n (some D) := by
  have HDr := hid hd
  clear hd
  intro w ab db B hg hnl hsa hsd hab hA hD hn
  have HG := hid hg
  have HNL := hid hnl
  have HSA := hid hsa
  have HSD := hid hsd
  have HA := hid hA
  have HD := hid hD
  have HN := hid hn
  have HR := hid (en_node he hnl hn)
  have HNB : Hid (∀ r, A r = true → NB w r) := fun r h => hg.nb (hA r h)
  have HNBD : Hid (∀ r, D r = true → NB w r) := fun r h => hg.nb (hD r h)
  have HNR := hid (hg.nb HR.out)
  have HAr := hid ha
  clear hg hnl hsa hsd hA hD hn ha
  go_enter Try.func22, Try.ntmps22
  go_wp2_with fail
  refine (end_any he HNL.out w HG.out HN.out).mono ?_
  rintro e w' ⟨rfl, rfl⟩
  go_wp2_with (first | (at_lookup; refine look_at rfl _ _ rfl HSA.out HNR.out HNB.out false HAr.out rfl rfl ?_) | (at_lookup; refine look_at rfl _ _ rfl HSD.out HNR.out HNBD.out true HDr.out rfl rfl ?_))
  go_ret
  exact ⟨rfl, (G2.refl _ _ _), fun D' h => by cases h; exact ⟨HSA.out, HSD.out, HD.out⟩⟩
set_option maxHeartbeats 8000000 in
theorem ed_v0 {N : Nds} {L : Lks} {A D : Set'} {n r : Nat} {c : UInt8} (he : En L n r) (ha : A r = false) (hd : D r = false) (hx : N r = some (c, [])) : EdAt N L A D n (some (put D r)) := by
  have HDr := hid hd
  clear hd
  have hx := hid hx
  intro w ab db B hg hnl hsa hsd hab hA hD hn
  have HG := hid hg
  have HNL := hid hnl
  have HSA := hid hsa
  have HSD := hid hsd
  have HA := hid hA
  have HD := hid hD
  have HN := hid hn
  have HR := hid (en_node he hnl hn)
  have HNB : Hid (∀ r, A r = true → NB w r) := fun r h => hg.nb (hA r h)
  have HNBD : Hid (∀ r, D r = true → NB w r) := fun r h => hg.nb (hD r h)
  have HNR := hid (hg.nb HR.out)
  have HAr := hid ha
  clear hg hnl hsa hsd hA hD hn ha
  go_enter Try.func22, Try.ntmps22
  go_wp2_with fail
  refine (end_any he HNL.out w HG.out HN.out).mono ?_
  rintro e w' ⟨rfl, rfl⟩
  go_wp2_with (first | (at_lookup; refine look_at rfl _ _ rfl HSA.out HNR.out HNB.out false HAr.out rfl rfl ?_) | (at_lookup; refine look_at rfl _ _ rfl HSD.out HNR.out HNBD.out false HDr.out rfl rfl ?_) | (at_mapUpdate; refine store_at rfl _ _ _ rfl HSA.out HNR.out HNB.out rfl rfl rfl ?_; intro w1 hs1 hg1; have HSA1 := hid hs1; have HG1 : Hid (GH w1 N L B) := HG.out.kc (KC.map hg1 HSA.out.isMap); have HSD1 : Hid (SM w1 db D) := SM.other hg1 HSD.out hab; have HX1 : Hid (G2 w w1 ab db) := G2.fst hg1 db; obtain ⟨a1, cap1, -, c1, -, -, hl1, hr1⟩ := HG1.out.at hx.out; have HR1 := hid hr1; clear hs1 hg1 hr1))
  refine wp_loop_rounds 1 ?_
  have HDn := HD
  rw [rounds_succ]
  have HNBf : Hid (∀ r', put A r r' = true → NB w1 r') := fun r' h => HG1.out.nb (HA.out.put HR.out r' h)
  go_wp2_with (first | (at_delete; refine drop_at rfl _ _ rfl HSA1.out (HG1.out.nb HR.out) HNBf.out rfl rfl ?_; intro w8 hs8 hg8; have HSA8 := hid hs8; have HG8 := hid (HG1.out.kc (KC.map hg8 HSA1.out.isMap)); have HSD8 : Hid (SM w8 db D) := SM.other hg8 HSD1.out hab; have HX8 : Hid (G2 w w8 ab db) := HX1.out.trans (G2.fst hg8 db); have HNB8 : Hid (∀ r', D r' = true → NB w8 r') := (fun r' h => HG8.out.nb (HDn.out r' h)); clear hs8 hg8) | (at_mapUpdate; refine store_at rfl _ _ _ rfl HSD8.out (HG8.out.nb HR.out) HNB8.out rfl rfl rfl ?_; intro w9 hs9 hg9; have HSD9 := hid hs9; have HSA9 : Hid (SM w9 ab A) := (by have := SM.other hg9 HSA8.out (fun e => hab e.symm); rw [del_put HAr.out] at this; exact this); have HX9 : Hid (G2 w w9 ab db) := HX8.out.trans (G2.snd hg9 ab); clear hs9 hg9))
  go_ret
  exact ⟨rfl, HX9.out, fun D' h => by cases h; exact ⟨HSA9.out, HSD9.out, HDn.out.put HR.out⟩⟩
set_option maxHeartbeats 8000000 in
theorem ed_v1t {N : Nds} {L : Lks} {A D : Set'} {n r p : Nat} {c : UInt8} (he : En L n r) (ha : A r = false) (hd : D r = false) (hx : N r = some (c, [p])) (hnp : ∃ v, N p = some v) (ih1 : EdAt N L (put A r) D p none) : EdAt N L A D n none := by
  have hnp := hid hnp
  have IH1 := hid ih1
  clear ih1
  have HDr := hid hd
  clear hd
  have hx := hid hx
  intro w ab db B hg hnl hsa hsd hab hA hD hn
  have HG := hid hg
  have HNL := hid hnl
  have HSA := hid hsa
  have HSD := hid hsd
  have HA := hid hA
  have HD := hid hD
  have HN := hid hn
  have HR := hid (en_node he hnl hn)
  have HNB : Hid (∀ r, A r = true → NB w r) := fun r h => hg.nb (hA r h)
  have HNBD : Hid (∀ r, D r = true → NB w r) := fun r h => hg.nb (hD r h)
  have HNR := hid (hg.nb HR.out)
  have HAr := hid ha
  clear hg hnl hsa hsd hA hD hn ha
  go_enter Try.func22, Try.ntmps22
  go_wp2_with fail
  refine (end_any he HNL.out w HG.out HN.out).mono ?_
  rintro e w' ⟨rfl, rfl⟩
  go_wp2_with (first | (at_lookup; refine look_at rfl _ _ rfl HSA.out HNR.out HNB.out false HAr.out rfl rfl ?_) | (at_lookup; refine look_at rfl _ _ rfl HSD.out HNR.out HNBD.out false HDr.out rfl rfl ?_) | (at_mapUpdate; refine store_at rfl _ _ _ rfl HSA.out HNR.out HNB.out rfl rfl rfl ?_; intro w1 hs1 hg1; have HSA1 := hid hs1; have HG1 : Hid (GH w1 N L B) := HG.out.kc (KC.map hg1 HSA.out.isMap); have HSD1 : Hid (SM w1 db D) := SM.other hg1 HSD.out hab; have HX1 : Hid (G2 w w1 ab db) := G2.fst hg1 db; obtain ⟨a1, cap1, -, c1, -, -, hl1, hr1⟩ := HG1.out.at hx.out; have HR1 := hid hr1; clear hs1 hg1 hr1))
  refine wp_loop_rounds 2 ?_
  have HDn := HD
  obtain ⟨g0, eg0, k0, hk0⟩ := row_part HR1.out (j := 0) (p := p) rfl (by simp)
  subst eg0
  rw [rounds_succ]
  go_wp2_with fail
  refine (IH1.out w1 ab db B HG1.out HNL.out HSA1.out HSD1.out hab (HA.out.put HR.out) HDn.out hnp.out).mono ?_
  rintro e V0 ⟨rfl, hgg, hpp⟩
  have HXV0 : Hid (G2 w V0 ab db) := HX1.out.trans hgg
  clear hgg hpp
  go_wp2_with fail
  go_ret
  exact ⟨rfl, HXV0.out, fun D' h => by simp at h⟩
set_option maxHeartbeats 8000000 in
theorem ed_v1f {N : Nds} {L : Lks} {A D D1 : Set'} {n r p : Nat} {c : UInt8} (he : En L n r) (ha : A r = false) (hd : D r = false) (hx : N r = some (c, [p])) (hnp : ∃ v, N p = some v) (ih1 : EdAt N L (put A r) D p (some D1)) : EdAt N L A D n (some (put D1 r)) := by
  have hnp := hid hnp
  have IH1 := hid ih1
  clear ih1
  have HDr := hid hd
  clear hd
  have hx := hid hx
  intro w ab db B hg hnl hsa hsd hab hA hD hn
  have HG := hid hg
  have HNL := hid hnl
  have HSA := hid hsa
  have HSD := hid hsd
  have HA := hid hA
  have HD := hid hD
  have HN := hid hn
  have HR := hid (en_node he hnl hn)
  have HNB : Hid (∀ r, A r = true → NB w r) := fun r h => hg.nb (hA r h)
  have HNBD : Hid (∀ r, D r = true → NB w r) := fun r h => hg.nb (hD r h)
  have HNR := hid (hg.nb HR.out)
  have HAr := hid ha
  clear hg hnl hsa hsd hA hD hn ha
  go_enter Try.func22, Try.ntmps22
  go_wp2_with fail
  refine (end_any he HNL.out w HG.out HN.out).mono ?_
  rintro e w' ⟨rfl, rfl⟩
  go_wp2_with (first | (at_lookup; refine look_at rfl _ _ rfl HSA.out HNR.out HNB.out false HAr.out rfl rfl ?_) | (at_lookup; refine look_at rfl _ _ rfl HSD.out HNR.out HNBD.out false HDr.out rfl rfl ?_) | (at_mapUpdate; refine store_at rfl _ _ _ rfl HSA.out HNR.out HNB.out rfl rfl rfl ?_; intro w1 hs1 hg1; have HSA1 := hid hs1; have HG1 : Hid (GH w1 N L B) := HG.out.kc (KC.map hg1 HSA.out.isMap); have HSD1 : Hid (SM w1 db D) := SM.other hg1 HSD.out hab; have HX1 : Hid (G2 w w1 ab db) := G2.fst hg1 db; obtain ⟨a1, cap1, -, c1, -, -, hl1, hr1⟩ := HG1.out.at hx.out; have HR1 := hid hr1; clear hs1 hg1 hr1))
  refine wp_loop_rounds 2 ?_
  have HDn := HD
  obtain ⟨g0, eg0, k0, hk0⟩ := row_part HR1.out (j := 0) (p := p) rfl (by simp)
  subst eg0
  rw [rounds_succ]
  go_wp2_with fail
  refine (IH1.out w1 ab db B HG1.out HNL.out HSA1.out HSD1.out hab (HA.out.put HR.out) HDn.out hnp.out).mono ?_
  rintro e V0 ⟨rfl, hgg, hpp⟩
  have HXV0 : Hid (G2 w V0 ab db) := HX1.out.trans hgg
  have HGV0 := hid (HG1.out.kc (hgg.kc HSA1.out HSD1.out))
  have HK1 : Hid (KC w1 V0) := (hgg.kc HSA1.out HSD1.out)
  obtain ⟨hp1, hp2, hp3⟩ := hpp _ rfl
  have HSAV0 := hid hp1
  have HSDV0 := hid hp2
  clear HDn
  have HDn := hid hp3
  clear hgg hpp hp1 hp2 hp3 k0
  go_wp2_with fail
  rw [rounds_succ]
  have HNBf : Hid (∀ r', put A r r' = true → NB V0 r') := fun r' h => HGV0.out.nb (HA.out.put HR.out r' h)
  go_wp2_with (first | (at_delete; refine drop_at rfl _ _ rfl HSAV0.out (HGV0.out.nb HR.out) HNBf.out rfl rfl ?_; intro w8 hs8 hg8; have HSA8 := hid hs8; have HG8 := hid (HGV0.out.kc (KC.map hg8 HSAV0.out.isMap)); have HSD8 : Hid (SM w8 db D1) := SM.other hg8 HSDV0.out hab; have HX8 : Hid (G2 w w8 ab db) := HXV0.out.trans (G2.fst hg8 db); have HNB8 : Hid (∀ r', D1 r' = true → NB w8 r') := (fun r' h => HG8.out.nb (HDn.out r' h)); clear hs8 hg8) | (at_mapUpdate; refine store_at rfl _ _ _ rfl HSD8.out (HG8.out.nb HR.out) HNB8.out rfl rfl rfl ?_; intro w9 hs9 hg9; have HSD9 := hid hs9; have HSA9 : Hid (SM w9 ab A) := (by have := SM.other hg9 HSA8.out (fun e => hab e.symm); rw [del_put HAr.out] at this; exact this); have HX9 : Hid (G2 w w9 ab db) := HX8.out.trans (G2.snd hg9 ab); clear hs9 hg9))
  go_ret
  exact ⟨rfl, HX9.out, fun D' h => by cases h; exact ⟨HSA9.out, HSD9.out, HDn.out.put HR.out⟩⟩
set_option maxHeartbeats 8000000 in
theorem ed_v2t {N : Nds} {L : Lks} {A D : Set'} {n r p q : Nat} {c : UInt8} (he : En L n r) (ha : A r = false) (hd : D r = false) (hx : N r = some (c, [p, q])) (hnp : ∃ v, N p = some v) (ih1 : EdAt N L (put A r) D p none) : EdAt N L A D n none := by
  have hnp := hid hnp
  have IH1 := hid ih1
  clear ih1
  have HDr := hid hd
  clear hd
  have hx := hid hx
  intro w ab db B hg hnl hsa hsd hab hA hD hn
  have HG := hid hg
  have HNL := hid hnl
  have HSA := hid hsa
  have HSD := hid hsd
  have HA := hid hA
  have HD := hid hD
  have HN := hid hn
  have HR := hid (en_node he hnl hn)
  have HNB : Hid (∀ r, A r = true → NB w r) := fun r h => hg.nb (hA r h)
  have HNBD : Hid (∀ r, D r = true → NB w r) := fun r h => hg.nb (hD r h)
  have HNR := hid (hg.nb HR.out)
  have HAr := hid ha
  clear hg hnl hsa hsd hA hD hn ha
  go_enter Try.func22, Try.ntmps22
  go_wp2_with fail
  refine (end_any he HNL.out w HG.out HN.out).mono ?_
  rintro e w' ⟨rfl, rfl⟩
  go_wp2_with (first | (at_lookup; refine look_at rfl _ _ rfl HSA.out HNR.out HNB.out false HAr.out rfl rfl ?_) | (at_lookup; refine look_at rfl _ _ rfl HSD.out HNR.out HNBD.out false HDr.out rfl rfl ?_) | (at_mapUpdate; refine store_at rfl _ _ _ rfl HSA.out HNR.out HNB.out rfl rfl rfl ?_; intro w1 hs1 hg1; have HSA1 := hid hs1; have HG1 : Hid (GH w1 N L B) := HG.out.kc (KC.map hg1 HSA.out.isMap); have HSD1 : Hid (SM w1 db D) := SM.other hg1 HSD.out hab; have HX1 : Hid (G2 w w1 ab db) := G2.fst hg1 db; obtain ⟨a1, cap1, -, c1, -, -, hl1, hr1⟩ := HG1.out.at hx.out; have HR1 := hid hr1; clear hs1 hg1 hr1))
  refine wp_loop_rounds 3 ?_
  have HDn := HD
  obtain ⟨g0, eg0, k0, hk0⟩ := row_part HR1.out (j := 0) (p := p) rfl (by simp)
  subst eg0
  rw [rounds_succ]
  go_wp2_with fail
  refine (IH1.out w1 ab db B HG1.out HNL.out HSA1.out HSD1.out hab (HA.out.put HR.out) HDn.out hnp.out).mono ?_
  rintro e V0 ⟨rfl, hgg, hpp⟩
  have HXV0 : Hid (G2 w V0 ab db) := HX1.out.trans hgg
  clear hgg hpp
  go_wp2_with fail
  go_ret
  exact ⟨rfl, HXV0.out, fun D' h => by simp at h⟩
set_option maxHeartbeats 8000000 in
theorem ed_v2ft {N : Nds} {L : Lks} {A D D1 : Set'} {n r p q : Nat} {c : UInt8} (he : En L n r) (ha : A r = false) (hd : D r = false) (hx : N r = some (c, [p, q])) (hnp : ∃ v, N p = some v) (hnq : ∃ v, N q = some v) (ih1 : EdAt N L (put A r) D p (some D1)) (ih2 : EdAt N L (put A r) D1 q none) : EdAt N L A D n none := by
  have hnp := hid hnp
  have IH1 := hid ih1
  clear ih1
  have hnq := hid hnq
  have IH2 := hid ih2
  clear ih2
  have HDr := hid hd
  clear hd
  have hx := hid hx
  intro w ab db B hg hnl hsa hsd hab hA hD hn
  have HG := hid hg
  have HNL := hid hnl
  have HSA := hid hsa
  have HSD := hid hsd
  have HA := hid hA
  have HD := hid hD
  have HN := hid hn
  have HR := hid (en_node he hnl hn)
  have HNB : Hid (∀ r, A r = true → NB w r) := fun r h => hg.nb (hA r h)
  have HNBD : Hid (∀ r, D r = true → NB w r) := fun r h => hg.nb (hD r h)
  have HNR := hid (hg.nb HR.out)
  have HAr := hid ha
  clear hg hnl hsa hsd hA hD hn ha
  go_enter Try.func22, Try.ntmps22
  go_wp2_with fail
  refine (end_any he HNL.out w HG.out HN.out).mono ?_
  rintro e w' ⟨rfl, rfl⟩
  go_wp2_with (first | (at_lookup; refine look_at rfl _ _ rfl HSA.out HNR.out HNB.out false HAr.out rfl rfl ?_) | (at_lookup; refine look_at rfl _ _ rfl HSD.out HNR.out HNBD.out false HDr.out rfl rfl ?_) | (at_mapUpdate; refine store_at rfl _ _ _ rfl HSA.out HNR.out HNB.out rfl rfl rfl ?_; intro w1 hs1 hg1; have HSA1 := hid hs1; have HG1 : Hid (GH w1 N L B) := HG.out.kc (KC.map hg1 HSA.out.isMap); have HSD1 : Hid (SM w1 db D) := SM.other hg1 HSD.out hab; have HX1 : Hid (G2 w w1 ab db) := G2.fst hg1 db; obtain ⟨a1, cap1, -, c1, -, -, hl1, hr1⟩ := HG1.out.at hx.out; have HR1 := hid hr1; clear hs1 hg1 hr1))
  refine wp_loop_rounds 3 ?_
  have HDn := HD
  obtain ⟨g0, eg0, k0, hk0⟩ := row_part HR1.out (j := 0) (p := p) rfl (by simp)
  subst eg0
  rw [rounds_succ]
  go_wp2_with fail
  refine (IH1.out w1 ab db B HG1.out HNL.out HSA1.out HSD1.out hab (HA.out.put HR.out) HDn.out hnp.out).mono ?_
  rintro e V0 ⟨rfl, hgg, hpp⟩
  have HXV0 : Hid (G2 w V0 ab db) := HX1.out.trans hgg
  have HGV0 := hid (HG1.out.kc (hgg.kc HSA1.out HSD1.out))
  have HK1 : Hid (KC w1 V0) := (hgg.kc HSA1.out HSD1.out)
  obtain ⟨hp1, hp2, hp3⟩ := hpp _ rfl
  have HSAV0 := hid hp1
  have HSDV0 := hid hp2
  clear HDn
  have HDn := hid hp3
  clear hgg hpp hp1 hp2 hp3 k0
  go_wp2_with fail
  obtain ⟨g1, eg1, k1, hk1⟩ := row_part (KC.row HK1.out HR1.out) (j := 1) (p := q) rfl (by simp)
  cases eg1
  rw [rounds_succ]
  go_wp2_with fail
  refine (IH2.out V0 ab db B HGV0.out HNL.out HSAV0.out HSDV0.out hab (HA.out.put HR.out) HDn.out hnq.out).mono ?_
  rintro e V1 ⟨rfl, hgg, hpp⟩
  have HXV1 : Hid (G2 w V1 ab db) := HXV0.out.trans hgg
  clear hgg hpp
  go_wp2_with fail
  go_ret
  exact ⟨rfl, HXV1.out, fun D' h => by simp at h⟩
set_option maxHeartbeats 8000000 in
theorem ed_v2ff {N : Nds} {L : Lks} {A D D1 D2 : Set'} {n r p q : Nat} {c : UInt8} (he : En L n r) (ha : A r = false) (hd : D r = false) (hx : N r = some (c, [p, q])) (hnp : ∃ v, N p = some v) (hnq : ∃ v, N q = some v) (ih1 : EdAt N L (put A r) D p (some D1)) (ih2 : EdAt N L (put A r) D1 q (some D2)) : EdAt N L A D n (some (put D2 r)) := by
  have hnp := hid hnp
  have IH1 := hid ih1
  clear ih1
  have hnq := hid hnq
  have IH2 := hid ih2
  clear ih2
  have HDr := hid hd
  clear hd
  have hx := hid hx
  intro w ab db B hg hnl hsa hsd hab hA hD hn
  have HG := hid hg
  have HNL := hid hnl
  have HSA := hid hsa
  have HSD := hid hsd
  have HA := hid hA
  have HD := hid hD
  have HN := hid hn
  have HR := hid (en_node he hnl hn)
  have HNB : Hid (∀ r, A r = true → NB w r) := fun r h => hg.nb (hA r h)
  have HNBD : Hid (∀ r, D r = true → NB w r) := fun r h => hg.nb (hD r h)
  have HNR := hid (hg.nb HR.out)
  have HAr := hid ha
  clear hg hnl hsa hsd hA hD hn ha
  go_enter Try.func22, Try.ntmps22
  go_wp2_with fail
  refine (end_any he HNL.out w HG.out HN.out).mono ?_
  rintro e w' ⟨rfl, rfl⟩
  go_wp2_with (first | (at_lookup; refine look_at rfl _ _ rfl HSA.out HNR.out HNB.out false HAr.out rfl rfl ?_) | (at_lookup; refine look_at rfl _ _ rfl HSD.out HNR.out HNBD.out false HDr.out rfl rfl ?_) | (at_mapUpdate; refine store_at rfl _ _ _ rfl HSA.out HNR.out HNB.out rfl rfl rfl ?_; intro w1 hs1 hg1; have HSA1 := hid hs1; have HG1 : Hid (GH w1 N L B) := HG.out.kc (KC.map hg1 HSA.out.isMap); have HSD1 : Hid (SM w1 db D) := SM.other hg1 HSD.out hab; have HX1 : Hid (G2 w w1 ab db) := G2.fst hg1 db; obtain ⟨a1, cap1, -, c1, -, -, hl1, hr1⟩ := HG1.out.at hx.out; have HR1 := hid hr1; clear hs1 hg1 hr1))
  refine wp_loop_rounds 3 ?_
  have HDn := HD
  obtain ⟨g0, eg0, k0, hk0⟩ := row_part HR1.out (j := 0) (p := p) rfl (by simp)
  subst eg0
  rw [rounds_succ]
  go_wp2_with fail
  refine (IH1.out w1 ab db B HG1.out HNL.out HSA1.out HSD1.out hab (HA.out.put HR.out) HDn.out hnp.out).mono ?_
  rintro e V0 ⟨rfl, hgg, hpp⟩
  have HXV0 : Hid (G2 w V0 ab db) := HX1.out.trans hgg
  have HGV0 := hid (HG1.out.kc (hgg.kc HSA1.out HSD1.out))
  have HK1 : Hid (KC w1 V0) := (hgg.kc HSA1.out HSD1.out)
  obtain ⟨hp1, hp2, hp3⟩ := hpp _ rfl
  have HSAV0 := hid hp1
  have HSDV0 := hid hp2
  clear HDn
  have HDn := hid hp3
  clear hgg hpp hp1 hp2 hp3 k0
  go_wp2_with fail
  obtain ⟨g1, eg1, k1, hk1⟩ := row_part (KC.row HK1.out HR1.out) (j := 1) (p := q) rfl (by simp)
  cases eg1
  rw [rounds_succ]
  go_wp2_with fail
  refine (IH2.out V0 ab db B HGV0.out HNL.out HSAV0.out HSDV0.out hab (HA.out.put HR.out) HDn.out hnq.out).mono ?_
  rintro e V1 ⟨rfl, hgg, hpp⟩
  have HXV1 : Hid (G2 w V1 ab db) := HXV0.out.trans hgg
  have HGV1 := hid (HGV0.out.kc (hgg.kc HSAV0.out HSDV0.out))
  have HK2 : Hid (KC w1 V1) := HK1.out.trans (hgg.kc HSAV0.out HSDV0.out)
  obtain ⟨hp1, hp2, hp3⟩ := hpp _ rfl
  have HSAV1 := hid hp1
  have HSDV1 := hid hp2
  clear HDn
  have HDn := hid hp3
  clear hgg hpp hp1 hp2 hp3 k1
  go_wp2_with fail
  rw [rounds_succ]
  have HNBf : Hid (∀ r', put A r r' = true → NB V1 r') := fun r' h => HGV1.out.nb (HA.out.put HR.out r' h)
  go_wp2_with (first | (at_delete; refine drop_at rfl _ _ rfl HSAV1.out (HGV1.out.nb HR.out) HNBf.out rfl rfl ?_; intro w8 hs8 hg8; have HSA8 := hid hs8; have HG8 := hid (HGV1.out.kc (KC.map hg8 HSAV1.out.isMap)); have HSD8 : Hid (SM w8 db D2) := SM.other hg8 HSDV1.out hab; have HX8 : Hid (G2 w w8 ab db) := HXV1.out.trans (G2.fst hg8 db); have HNB8 : Hid (∀ r', D2 r' = true → NB w8 r') := (fun r' h => HG8.out.nb (HDn.out r' h)); clear hs8 hg8) | (at_mapUpdate; refine store_at rfl _ _ _ rfl HSD8.out (HG8.out.nb HR.out) HNB8.out rfl rfl rfl ?_; intro w9 hs9 hg9; have HSD9 := hid hs9; have HSA9 : Hid (SM w9 ab A) := (by have := SM.other hg9 HSA8.out (fun e => hab e.symm); rw [del_put HAr.out] at this; exact this); have HX9 : Hid (G2 w w9 ab db) := HX8.out.trans (G2.snd hg9 ab); clear hs9 hg9))
  go_ret
  exact ⟨rfl, HX9.out, fun D' h => by cases h; exact ⟨HSA9.out, HSD9.out, HDn.out.put HR.out⟩⟩
theorem endless_any {N : Nds} (hw : Wh N) {L : Lks} {A D : Set'} {n : Nat} {o : Option Set'} (h : Ed N L A D n o) : EdAt N L A D n o := by
  induction h with
  | above he ha => exact ed_above he ha
  | done he ha hd => exact ed_done he ha hd
  | v0 he ha hd hx => exact ed_v0 he ha hd hx
  | v1t he ha hd hx _ ih => exact ed_v1t he ha hd hx (hw.parts _ _ _ hx _ (by simp)) ih
  | v1f he ha hd hx _ ih => exact ed_v1f he ha hd hx (hw.parts _ _ _ hx _ (by simp)) ih
  | v2t he ha hd hx _ ih => exact ed_v2t he ha hd hx (hw.parts _ _ _ hx _ (by simp)) ih
  | v2ft he ha hd hx _ _ i1 i2 => exact ed_v2ft he ha hd hx (hw.parts _ _ _ hx _ (by simp)) (hw.parts _ _ _ hx _ (by simp)) i1 i2
  | v2ff he ha hd hx _ _ i1 i2 => exact ed_v2ff he ha hd hx (hw.parts _ _ _ hx _ (by simp)) (hw.parts _ _ _ hx _ (by simp)) i1 i2
set_option maxHeartbeats 4000000 in
theorem ends_any {N : Nds} (hw : Wh N) {L : Lks} {n : Nat} {o : Option Set'} (h : Ed N L none' none' n o) (w : World) (B : Nat → Prop) (hg : GH w N L B) (hnl : NL N L) (hn : ∃ v, N n = some v) :
    Calls Try.prog 12 #[ptr n] w fun e w' => e = .returned (.bool o.isSome) ∧ Below w.heap.size w w' := by
  have HE := hid (endless_any hw h)
  have HG := hid hg
  have HNL := hid hnl
  have HN := hid hn
  clear h hg hnl hn hw
  have hmm := @run_makeMap Try.prog
  go_enter Try.func12, Try.ntmps12
  go_wp2_with fail
  clear hmm
  refine (HE.out _ w.heap.size (w.heap.size + 1) B (HG.out.kc ?_) HNL.out ?_ ?_ (by omega) (fun r h => by simp [none'] at h) (fun r h => by simp [none'] at h) HN.out).mono ?_
  · exact KC.below (((Below.refl _ w).alloc (Nat.le_refl _) _).alloc (by simp) _)
  · exact (SM.made w).heap (Below.heap_alloc _ _ _ (by simp))
  · have := SM.made (w.alloc (.map #[] 0))
    rw [World.size_alloc] at this
    exact this
  · rintro e w' ⟨rfl, hgg, -⟩
    have HX := hid hgg
    clear hgg
    go_wp2_with fail
    go_ret
    refine ⟨by cases o <;> rfl, ?_⟩
    refine (((Below.refl _ w).alloc (Nat.le_refl _) (.map #[] 0)).alloc (by simp) (.map #[] 0)).trans ?_
    exact ⟨HX.out.os, HX.out.tape, HX.out.output, HX.out.size, fun k hk => HX.out.block k (by simp; omega) (by omega) (by omega)⟩
end GraW
end Go.Proofs.Ytebdkafblohojaa
