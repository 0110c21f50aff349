/- The program's endless and ends. Conditions: none. -/
import Derived.Test.YtcjalnianamlaaaGraU
import Derived.Test.YtcjalnianamlaaaAptP
import Derived.Test.YtcjalnianamlaaaGraW
import Derived.Test.YtcjalnianamlaaaParts
import Derived.Test.YtcjalnianamlaaaImplT
import Derived.Test.YtcjalnianamlaaaVar
import Derived.Test.YtcjalnianamlaaaAptS
import Derived.Test.YtcjalnianamlaaaDepthI
import Derived.Test.YtcjalnianamlaaaHC
import Derived.Test.YtcjalnianamlaaaListS
set_option linter.unusedVariables false
set_option linter.unusedSimpArgs false
set_option maxRecDepth 100000
namespace Go.Proofs.Ytcjalnianamlaaa
open Go.RowKit Ty
namespace GraW
open GraP PtrM ListS AptP
/-- all but two blocks is as it was -/
structure G2 (w w' : World) (a b : Nat) : Prop where
  os : w'.os = w.os
  tape : w'.tape = w.tape
  output : w'.output = w.output
  size : w.heap.size ≤ w'.heap.size
  block : ∀ k, k < w.heap.size → k ≠ a → k ≠ b → w'.heap[k]? = w.heap[k]?
theorem G2.refl (w : World) (a b : Nat) : G2 w w a b := ⟨rfl, rfl, rfl, Nat.le_refl _, fun _ _ _ _ => rfl⟩
theorem G2.trans {u v w : World} {a b : Nat} (h : G2 u v a b) (k : G2 v w a b) : G2 u w a b := ⟨k.os.trans h.os, k.tape.trans h.tape, k.output.trans h.output, Nat.le_trans h.size k.size, fun i hi h1 h2 => (k.block i (Nat.lt_of_lt_of_le hi h.size) h1 h2).trans (h.block i hi h1 h2)⟩
theorem G2.drew {u v : World} {a b : Nat} (h : G2 u v a b) : G2 u v.drew a b := ⟨h.os, h.tape, h.output, h.size, h.block⟩
theorem G2.fst {u v : World} {a : Nat} (h : u.grownBy v (some a)) (b : Nat) : G2 u v a b := ⟨h.os, h.tape, h.output, h.size, fun k hk h1 _ => h.block k hk (fun e => h1 (by cases e; rfl))⟩
theorem G2.snd {u v : World} {b : Nat} (h : u.grownBy v (some b)) (a : Nat) : G2 u v a b := ⟨h.os, h.tape, h.output, h.size, fun k hk _ h1 => h.block k hk (fun e => h1 (by cases e; rfl))⟩
theorem G2.kc {w w' : World} {a b : Nat} {A D : Set'} (h : G2 w w' a b) (ha : SM w a A) (hb : SM w b D) : KC w w' := fun k cs e fr q => by
  obtain ⟨es, c, h1⟩ := ha.isMap
  obtain ⟨es2, c2, h2⟩ := hb.isMap
  exact (h.block k (lt_of_heap q) (fun e => by subst e; rw [h1] at q; simp at q) (fun e => by subst e; rw [h2] at q; simp at q)).trans q
theorem SM.other {w w' : World} {a b : Nat} {D : Set'} (h : w.grownBy w' (some a)) (hb : SM w b D) (hne : b ≠ a) : SM w' b D := hb.heap (h.block b hb.lt (fun e => hne (by cases e; rfl)))
def SN (N : Nds) (A : Set') : Prop := ∀ r, A r = true → ∃ v, N r = some v
theorem SN.put {N : Nds} {A : Set'} (h : SN N A) {r : Nat} (hr : ∃ v, N r = some v) : SN N (put A r) := fun n hn => by
  unfold GraP.put at hn
  split at hn
  · rename_i e; rw [e]; exact hr
  · exact h n hn
def EPost (w : World) (N : Nds) (A : Set') (ab db : Nat) (o : Option Set') (e : Ending) (w' : World) : Prop := e = .returned (.bool o.isNone) ∧ G2 w w' ab db ∧ ∀ D', o = some D' → SM w' ab A ∧ SM w' db D' ∧ SN N D'
abbrev EdAt (N : Nds) (L : Lks) (A D : Set') (n : Nat) (o : Option Set') : Prop := ∀ (w : World) (ab db : Nat) (B : Nat → Prop), GH w N L B → NL N L → SM w ab A → SM w db D → db ≠ ab → SN N A → SN N D → (∃ v, N n = some v) → Calls Try.prog 68 #[ptr n, .map (some ab), .map (some db)] w (EPost w N A ab db o)
set_option maxHeartbeats 8000000 in
theorem ed_above {N : Nds} {L : Lks} {A D : Set'} {n r : Nat} (he : En L n r) (ha : A r = true) : EdAt N L A D n none := by
  intro w ab db B hg hnl hsa hsd hab hA hD hn
  have HG := hid hg
  have HNL := hid hnl
  have HSA := hid hsa
  have HSD := hid hsd
  have HA := hid hA
  have HD := hid hD
  have HN := hid hn
  have HR := hid (en_node he hnl hn)
  have HNB : Hid (∀ r, A r = true → NB w r) := fun r h => hg.nb (hA r h)
  have HNBD : Hid (∀ r, D r = true → NB w r) := fun r h => hg.nb (hD r h)
  have HNR := hid (hg.nb HR.out)
  have HAr := hid ha
  clear hg hnl hsa hsd hA hD hn ha
  go_enter Try.func68, Try.ntmps68
  go_wp2_with fail
  refine (end_any he HNL.out w HG.out HN.out).mono ?_
  rintro e w' ⟨rfl, rfl⟩
  go_wp2_with (first | (at_lookup; refine look_at rfl _ _ rfl HSA.out HNR.out HNB.out true HAr.out rfl rfl ?_))
  go_ret
  exact ⟨rfl, (G2.refl _ _ _), fun D' h => by simp at h⟩
set_option maxHeartbeats 8000000 in
theorem ed_done {N : Nds} {L : Lks} {A D : Set'} {n r : Nat} (he : En L n r) (ha : A r = false) (hd : D r = true) : EdAt N L A D n (some D) := by
  have HDr := hid hd
  clear hd
  intro w ab db B hg hnl hsa hsd hab hA hD hn
  have HG := hid hg
  have HNL := hid hnl
  have HSA := hid hsa
  have HSD := hid hsd
  have HA := hid hA
  have HD := hid hD
  have HN := hid hn
  have HR := hid (en_node he hnl hn)
  have HNB : Hid (∀ r, A r = true → NB w r) := fun r h => hg.nb (hA r h)
  have HNBD : Hid (∀ r, D r = true → NB w r) := fun r h => hg.nb (hD r h)
  have HNR := hid (hg.nb HR.out)
  have HAr := hid ha
  clear hg hnl hsa hsd hA hD hn ha
  go_enter Try.func68, Try.ntmps68
  go_wp2_with fail
  refine (end_any he HNL.out w HG.out HN.out).mono ?_
  rintro e w' ⟨rfl, rfl⟩
  go_wp2_with (first | (at_lookup; refine look_at rfl _ _ rfl HSA.out HNR.out HNB.out false HAr.out rfl rfl ?_) | (at_lookup; refine look_at rfl _ _ rfl HSD.out HNR.out HNBD.out true HDr.out rfl rfl ?_))
  go_ret
  exact ⟨rfl, (G2.refl _ _ _), fun D' h => by cases h; exact ⟨HSA.out, HSD.out, HD.out⟩⟩
set_option maxHeartbeats 8000000 in
theorem ed_v0 {N : Nds} {L : Lks} {A D : Set'} {n r : Nat} {c : UInt8} (he : En L n r) (ha : A r = false) (hd : D r = false) (hx : N r = some (c, [])) : EdAt N L A D n (some (put D r)) := by
  have HDr := hid hd
  clear hd
  have hx := hid hx
  intro w ab db B hg hnl hsa hsd hab hA hD hn
  have HG := hid hg
  have HNL := hid hnl
  have HSA := hid hsa
  have HSD := hid hsd
  have HA := hid hA
  have HD := hid hD
  have HN := hid hn
  have HR := hid (en_node he hnl hn)
  have HNB : Hid (∀ r, A r = true → NB w r) := fun r h => hg.nb (hA r h)
  have HNBD : Hid (∀ r, D r = true → NB w r) := fun r h => hg.nb (hD r h)
  have HNR := hid (hg.nb HR.out)
  have HAr := hid ha
  clear hg hnl hsa hsd hA hD hn ha
  go_enter Try.func68, Try.ntmps68
  go_wp2_with fail
  refine (end_any he HNL.out w HG.out HN.out).mono ?_
  rintro e w' ⟨rfl, rfl⟩
  go_wp2_with (first | (at_lookup; refine look_at rfl _ _ rfl HSA.out HNR.out HNB.out false HAr.out rfl rfl ?_) | (at_lookup; refine look_at rfl _ _ rfl HSD.out HNR.out HNBD.out false HDr.out rfl rfl ?_) | (at_mapUpdate; refine store_at rfl _ _ _ rfl HSA.out HNR.out HNB.out rfl rfl rfl ?_; intro w1 hs1 hg1; have HSA1 := hid hs1; have HG1 : Hid (GH w1 N L B) := HG.out.kc (KC.map hg1 HSA.out.isMap); have HSD1 : Hid (SM w1 db D) := SM.other hg1 HSD.out hab; have HX1 : Hid (G2 w w1 ab db) := G2.fst hg1 db; obtain ⟨a1, cap1, -, c1, -, -, hl1, hr1⟩ := HG1.out.at hx.out; have HR1 := hid hr1; clear hs1 hg1 hr1))
  refine wp_loop_rounds 1 ?_
  have HDn := HD
  rw [rounds_succ]
  have HNBf : Hid (∀ r', put A r r' = true → NB w1 r') := fun r' h => HG1.out.nb (HA.out.put HR.out r' h)
  go_wp2_with (first | (at_delete; refine drop_at rfl _ _ rfl HSA1.out (HG1.out.nb HR.out) HNBf.out rfl rfl ?_; intro w8 hs8 hg8; have HSA8 := hid hs8; have HG8 := hid (HG1.out.kc (KC.map hg8 HSA1.out.isMap)); have HSD8 : Hid (SM w8 db D) := SM.other hg8 HSD1.out hab; have HX8 : Hid (G2 w w8 ab db) := HX1.out.trans (G2.fst hg8 db); have HNB8 : Hid (∀ r', D r' = true → NB w8 r') := (fun r' h => HG8.out.nb (HDn.out r' h)); clear hs8 hg8) | (at_mapUpdate; refine store_at rfl _ _ _ rfl HSD8.out (HG8.out.nb HR.out) HNB8.out rfl rfl rfl ?_; intro w9 hs9 hg9; have HSD9 := hid hs9; have HSA9 : Hid (SM w9 ab A) := (by have := SM.other hg9 HSA8.out (fun e => hab e.symm); rw [del_put HAr.out] at this; exact this); have HX9 : Hid (G2 w w9 ab db) := HX8.out.trans (G2.snd hg9 ab); clear hs9 hg9))
  go_ret
  exact ⟨rfl, HX9.out, fun D' h => by cases h; exact ⟨HSA9.out, HSD9.out, HDn.out.put HR.out⟩⟩
set_option maxHeartbeats 8000000 in
theorem ed_v1t {N : Nds} {L : Lks} {A D : Set'} {n r p : Nat} {c : UInt8} (he : En L n r) (ha : A r = false) (hd : D r = false) (hx : N r = some (c, [p])) (hnp : ∃ v, N p = some v) (ih1 : EdAt N L (put A r) D p none) : EdAt N L A D n none := by
  have hnp := hid hnp
  have IH1 := hid ih1
  clear ih1
  have HDr := hid hd
  clear hd
  have hx := hid hx
  intro w ab db B hg hnl hsa hsd hab hA hD hn
  have HG := hid hg
  have HNL := hid hnl
  have HSA := hid hsa
  have HSD := hid hsd
  have HA := hid hA
  have HD := hid hD
  have HN := hid hn
  have HR := hid (en_node he hnl hn)
  have HNB : Hid (∀ r, A r = true → NB w r) := fun r h => hg.nb (hA r h)
  have HNBD : Hid (∀ r, D r = true → NB w r) := fun r h => hg.nb (hD r h)
  have HNR := hid (hg.nb HR.out)
  have HAr := hid ha
  clear hg hnl hsa hsd hA hD hn ha
  go_enter Try.func68, Try.ntmps68
  go_wp2_with fail
  refine (end_any he HNL.out w HG.out HN.out).mono ?_
  rintro e w' ⟨rfl, rfl⟩
  go_wp2_with (first | (at_lookup; refine look_at rfl _ _ rfl HSA.out HNR.out HNB.out false HAr.out rfl rfl ?_) | (at_lookup; refine look_at rfl _ _ rfl HSD.out HNR.out HNBD.out false HDr.out rfl rfl ?_) | (at_mapUpdate; refine store_at rfl _ _ _ rfl HSA.out HNR.out HNB.out rfl rfl rfl ?_; intro w1 hs1 hg1; have HSA1 := hid hs1; have HG1 : Hid (GH w1 N L B) := HG.out.kc (KC.map hg1 HSA.out.isMap); have HSD1 : Hid (SM w1 db D) := SM.other hg1 HSD.out hab; have HX1 : Hid (G2 w w1 ab db) := G2.fst hg1 db; obtain ⟨a1, cap1, -, c1, -, -, hl1, hr1⟩ := HG1.out.at hx.out; have HR1 := hid hr1; clear hs1 hg1 hr1))
  refine wp_loop_rounds 2 ?_
  have HDn := HD
  obtain ⟨g0, eg0, k0, hk0⟩ := row_part HR1.out (j := 0) (p := p) rfl (by simp)
  subst eg0
  rw [rounds_succ]
  go_wp2_with fail
  refine (IH1.out w1 ab db B HG1.out HNL.out HSA1.out HSD1.out hab (HA.out.put HR.out) HDn.out hnp.out).mono ?_
  rintro e V0 ⟨rfl, hgg, hpp⟩
  have HXV0 : Hid (G2 w V0 ab db) := HX1.out.trans hgg
  clear hgg hpp
  go_wp2_with fail
  go_ret
  exact ⟨rfl, HXV0.out, fun D' h => by simp at h⟩
set_option maxHeartbeats 8000000 in
theorem ed_v1f {N : Nds} {L : Lks} {A D D1 : Set'} {n r p : Nat} {c : UInt8} (he : En L n r) (ha : A r = false) (hd : D r = false) (hx : N r = some (c, [p])) (hnp : ∃ v, N p = some v) (ih1 : EdAt N L (put A r) D p (some D1)) : EdAt N L A D n (some (put D1 r)) := by
  have hnp := hid hnp
  have IH1 := hid ih1
  clear ih1
  have HDr := hid hd
  clear hd
  have hx := hid hx
  intro w ab db B hg hnl hsa hsd hab hA hD hn
  have HG := hid hg
  have HNL := hid hnl
  have HSA := hid hsa
  have HSD := hid hsd
  have HA := hid hA
  have HD := hid hD
  have HN := hid hn
  have HR := hid (en_node he hnl hn)
  have HNB : Hid (∀ r, A r = true → NB w r) := fun r h => hg.nb (hA r h)
  have HNBD : Hid (∀ r, D r = true → NB w r) := fun r h => hg.nb (hD r h)
  have HNR := hid (hg.nb HR.out)
  have HAr := hid ha
  clear hg hnl hsa hsd hA hD hn ha
  go_enter Try.func68, Try.ntmps68
  go_wp2_with fail
  refine (end_any he HNL.out w HG.out HN.out).mono ?_
  rintro e w' ⟨rfl, rfl⟩
  go_wp2_with (first | (at_lookup; refine look_at rfl _ _ rfl HSA.out HNR.out HNB.out false HAr.out rfl rfl ?_) | (at_lookup; refine look_at rfl _ _ rfl HSD.out HNR.out HNBD.out false HDr.out rfl rfl ?_) | (at_mapUpdate; refine store_at rfl _ _ _ rfl HSA.out HNR.out HNB.out rfl rfl rfl ?_; intro w1 hs1 hg1; have HSA1 := hid hs1; have HG1 : Hid (GH w1 N L B) := HG.out.kc (KC.map hg1 HSA.out.isMap); have HSD1 : Hid (SM w1 db D) := SM.other hg1 HSD.out hab; have HX1 : Hid (G2 w w1 ab db) := G2.fst hg1 db; obtain ⟨a1, cap1, -, c1, -, -, hl1, hr1⟩ := HG1.out.at hx.out; have HR1 := hid hr1; clear hs1 hg1 hr1))
  refine wp_loop_rounds 2 ?_
  have HDn := HD
  obtain ⟨g0, eg0, k0, hk0⟩ := row_part HR1.out (j := 0) (p := p) rfl (by simp)
  subst eg0
  rw [rounds_succ]
  go_wp2_with fail
  refine (IH1.out w1 ab db B HG1.out HNL.out HSA1.out HSD1.out hab (HA.out.put HR.out) HDn.out hnp.out).mono ?_
  rintro e V0 ⟨rfl, hgg, hpp⟩
  have HXV0 : Hid (G2 w V0 ab db) := HX1.out.trans hgg
  have HGV0 := hid (HG1.out.kc (hgg.kc HSA1.out HSD1.out))
  have HK1 : Hid (KC w1 V0) := (hgg.kc HSA1.out HSD1.out)
  obtain ⟨hp1, hp2, hp3⟩ := hpp _ rfl
  have HSAV0 := hid hp1
  have HSDV0 := hid hp2
  clear HDn
  have HDn := hid hp3
  clear hgg hpp hp1 hp2 hp3 k0
  go_wp2_with fail
  rw [rounds_succ]
  have HNBf : Hid (∀ r', put A r r' = true → NB V0 r') := fun r' h => HGV0.out.nb (HA.out.put HR.out r' h)
  go_wp2_with (first | (at_delete; refine drop_at rfl _ _ rfl HSAV0.out (HGV0.out.nb HR.out) HNBf.out rfl rfl ?_; intro w8 hs8 hg8; have HSA8 := hid hs8; have HG8 := hid (HGV0.out.kc (KC.map hg8 HSAV0.out.isMap)); have HSD8 : Hid (SM w8 db D1) := SM.other hg8 HSDV0.out hab; have HX8 : Hid (G2 w w8 ab db) := HXV0.out.trans (G2.fst hg8 db); have HNB8 : Hid (∀ r', D1 r' = true → NB w8 r') := (fun r' h => HG8.out.nb (HDn.out r' h)); clear hs8 hg8) | (at_mapUpdate; refine store_at rfl _ _ _ rfl HSD8.out (HG8.out.nb HR.out) HNB8.out rfl rfl rfl ?_; intro w9 hs9 hg9; have HSD9 := hid hs9; have HSA9 : Hid (SM w9 ab A) := (by have := SM.other hg9 HSA8.out (fun e => hab e.symm); rw [del_put HAr.out] at this; exact this); have HX9 : Hid (G2 w w9 ab db) := HX8.out.trans (G2.snd hg9 ab); clear hs9 hg9))
  go_ret
  exact ⟨rfl, HX9.out, fun D' h => by cases h; exact ⟨HSA9.out, HSD9.out, HDn.out.put HR.out⟩⟩
set_option maxHeartbeats 8000000 in
theorem ed_v2t {N : Nds} {L : Lks} {A D : Set'} {n r p q : Nat} {c : UInt8} (he : En L n r) (ha : A r = false) (hd : D r = false) (hx : N r = some (c, [p, q])) (hnp : ∃ v, N p = some v) (ih1 : EdAt N L (put A r) D p none) : EdAt N L A D n none := by
  have hnp := hid hnp
  have IH1 := hid ih1
  clear ih1
  have HDr := hid hd
  clear hd
  have hx := hid hx
  intro w ab db B hg hnl hsa hsd hab hA hD hn
  have HG := hid hg
  have HNL := hid hnl
  have HSA := hid hsa
  have HSD := hid hsd
  have HA := hid hA
  have HD := hid hD
  have HN := hid hn
  have HR := hid (en_node he hnl hn)
  have HNB : Hid (∀ r, A r = true → NB w r) := fun r h => hg.nb (hA r h)
  have HNBD : Hid (∀ r, D r = true → NB w r) := fun r h => hg.nb (hD r h)
  have HNR := hid (hg.nb HR.out)
  have HAr := hid ha
  clear hg hnl hsa hsd hA hD hn ha
  go_enter Try.func68, Try.ntmps68
  go_wp2_with fail
  refine (end_any he HNL.out w HG.out HN.out).mono ?_
  rintro e w' ⟨rfl, rfl⟩
  go_wp2_with (first | (at_lookup; refine look_at rfl _ _ rfl HSA.out HNR.out HNB.out false HAr.out rfl rfl ?_) | (at_lookup; refine look_at rfl _ _ rfl HSD.out HNR.out HNBD.out false HDr.out rfl rfl ?_) | (at_mapUpdate; refine store_at rfl _ _ _ rfl HSA.out HNR.out HNB.out rfl rfl rfl ?_; intro w1 hs1 hg1; have HSA1 := hid hs1; have HG1 : Hid (GH w1 N L B) := HG.out.kc (KC.map hg1 HSA.out.isMap); have HSD1 : Hid (SM w1 db D) := SM.other hg1 HSD.out hab; have HX1 : Hid (G2 w w1 ab db) := G2.fst hg1 db; obtain ⟨a1, cap1, -, c1, -, -, hl1, hr1⟩ := HG1.out.at hx.out; have HR1 := hid hr1; clear hs1 hg1 hr1))
  refine wp_loop_rounds 3 ?_
  have HDn := HD
  obtain ⟨g0, eg0, k0, hk0⟩ := row_part HR1.out (j := 0) (p := p) rfl (by simp)
  subst eg0
  rw [rounds_succ]
  go_wp2_with fail
  refine (IH1.out w1 ab db B HG1.out HNL.out HSA1.out HSD1.out hab (HA.out.put HR.out) HDn.out hnp.out).mono ?_
  rintro e V0 ⟨rfl, hgg, hpp⟩
  have HXV0 : Hid (G2 w V0 ab db) := HX1.out.trans hgg
  clear hgg hpp
  go_wp2_with fail
  go_ret
  exact ⟨rfl, HXV0.out, fun D' h => by simp at h⟩
set_option maxHeartbeats 8000000 in
theorem ed_v2ft {N : Nds} {L : Lks} {A D D1 : Set'} {n r p q : Nat} {c : UInt8} (he : En L n r) (ha : A r = false) (hd : D r = false) (hx : N r = some (c, [p, q])) (hnp : ∃ v, N p = some v) (hnq : ∃ v, N q = some v) (ih1 : EdAt N L (put A r) D p (some D1)) (ih2 : EdAt N L (put A r) D1 q none) : EdAt N L A D n none := by
  have hnp := hid hnp
  have IH1 := hid ih1
  clear ih1
  have hnq := hid hnq
  have IH2 := hid ih2
  clear ih2
  have HDr := hid hd
  clear hd
  have hx := hid hx
  intro w ab db B hg hnl hsa hsd hab hA hD hn
  have HG := hid hg
  have HNL := hid hnl
  have HSA := hid hsa
  have HSD := hid hsd
  have HA := hid hA
  have HD := hid hD
  have HN := hid hn
  have HR := hid (en_node he hnl hn)
  have HNB : Hid (∀ r, A r = true → NB w r) := fun r h => hg.nb (hA r h)
  have HNBD : Hid (∀ r, D r = true → NB w r) := fun r h => hg.nb (hD r h)
  have HNR := hid (hg.nb HR.out)
  have HAr := hid ha
  clear hg hnl hsa hsd hA hD hn ha
  go_enter Try.func68, Try.ntmps68
  go_wp2_with fail
  refine (end_any he HNL.out w HG.out HN.out).mono ?_
  rintro e w' ⟨rfl, rfl⟩
  go_wp2_with (first | (at_lookup; refine look_at rfl _ _ rfl HSA.out HNR.out HNB.out false HAr.out rfl rfl ?_) | (at_lookup; refine look_at rfl _ _ rfl HSD.out HNR.out HNBD.out false HDr.out rfl rfl ?_) | (at_mapUpdate; refine store_at rfl _ _ _ rfl HSA.out HNR.out HNB.out rfl rfl rfl ?_; intro w1 hs1 hg1; have HSA1 := hid hs1; have HG1 : Hid (GH w1 N L B) := HG.out.kc (KC.map hg1 HSA.out.isMap); have HSD1 : Hid (SM w1 db D) := SM.other hg1 HSD.out hab; have HX1 : Hid (G2 w w1 ab db) := G2.fst hg1 db; obtain ⟨a1, cap1, -, c1, -, -, hl1, hr1⟩ := HG1.out.at hx.out; have HR1 := hid hr1; clear hs1 hg1 hr1))
  refine wp_loop_rounds 3 ?_
  have HDn := HD
  obtain ⟨g0, eg0, k0, hk0⟩ := row_part HR1.out (j := 0) (p := p) rfl (by simp)
  subst eg0
  rw [rounds_succ]
  go_wp2_with fail
  refine (IH1.out w1 ab db B HG1.out HNL.out HSA1.out HSD1.out hab (HA.out.put HR.out) HDn.out hnp.out).mono ?_
  rintro e V0 ⟨rfl, hgg, hpp⟩
  have HXV0 : Hid (G2 w V0 ab db) := HX1.out.trans hgg
  have HGV0 := hid (HG1.out.kc (hgg.kc HSA1.out HSD1.out))
  have HK1 : Hid (KC w1 V0) := (hgg.kc HSA1.out HSD1.out)
  obtain ⟨hp1, hp2, hp3⟩ := hpp _ rfl
  have HSAV0 := hid hp1
  have HSDV0 := hid hp2
  clear HDn
  have HDn := hid hp3
  clear hgg hpp hp1 hp2 hp3 k0
  go_wp2_with fail
  obtain ⟨g1, eg1, k1, hk1⟩ := row_part (KC.row HK1.out HR1.out) (j := 1) (p := q) rfl (by simp)
  cases eg1
  rw [rounds_succ]
  go_wp2_with fail
  refine (IH2.out V0 ab db B HGV0.out HNL.out HSAV0.out HSDV0.out hab (HA.out.put HR.out) HDn.out hnq.out).mono ?_
  rintro e V1 ⟨rfl, hgg, hpp⟩
  have HXV1 : Hid (G2 w V1 ab db) := HXV0.out.trans hgg
  clear hgg hpp
  go_wp2_with fail
  go_ret
  exact ⟨rfl, HXV1.out, fun D' h => by simp at h⟩
set_option maxHeartbeats 8000000 in
theorem ed_v2ff {N : Nds} {L : Lks} {A D D1 D2 : Set'} {n r p q : Nat} {c : UInt8} (he : En L n r) (ha : A r = false) (hd : D r = false) (hx : N r = some (c, [p, q])) (hnp : ∃ v, N p = some v) (hnq : ∃ v, N q = some v) (ih1 : EdAt N L (put A r) D p (some D1)) (ih2 : EdAt N L (put A r) D1 q (some D2)) : EdAt N L A D n (some (put D2 r)) := by
  have hnp := hid hnp
  have IH1 := hid ih1
  clear ih1
  have hnq := hid hnq
  have IH2 := hid ih2
  clear ih2
  have HDr := hid hd
  clear hd
  have hx := hid hx
  intro w ab db B hg hnl hsa hsd hab hA hD hn
  have HG := hid hg
  have HNL := hid hnl
  have HSA := hid hsa
  have HSD := hid hsd
  have HA := hid hA
  have HD := hid hD
  have HN := hid hn
  have HR := hid (en_node he hnl hn)
  have HNB : Hid (∀ r, A r = true → NB w r) := fun r h => hg.nb (hA r h)
  have HNBD : Hid (∀ r, D r = true → NB w r) := fun r h => hg.nb (hD r h)
  have HNR := hid (hg.nb HR.out)
  have HAr := hid ha
  clear hg hnl hsa hsd hA hD hn ha
  go_enter Try.func68, Try.ntmps68
  go_wp2_with fail
  refine (end_any he HNL.out w HG.out HN.out).mono ?_
  rintro e w' ⟨rfl, rfl⟩
  go_wp2_with (first | (at_lookup; refine look_at rfl _ _ rfl HSA.out HNR.out HNB.out false HAr.out rfl rfl ?_) | (at_lookup; refine look_at rfl _ _ rfl HSD.out HNR.out HNBD.out false HDr.out rfl rfl ?_) | (at_mapUpdate; refine store_at rfl _ _ _ rfl HSA.out HNR.out HNB.out rfl rfl rfl ?_; intro w1 hs1 hg1; have HSA1 := hid hs1; have HG1 : Hid (GH w1 N L B) := HG.out.kc (KC.map hg1 HSA.out.isMap); have HSD1 : Hid (SM w1 db D) := SM.other hg1 HSD.out hab; have HX1 : Hid (G2 w w1 ab db) := G2.fst hg1 db; obtain ⟨a1, cap1, -, c1, -, -, hl1, hr1⟩ := HG1.out.at hx.out; have HR1 := hid hr1; clear hs1 hg1 hr1))
  refine wp_loop_rounds 3 ?_
  have HDn := HD
  obtain ⟨g0, eg0, k0, hk0⟩ := row_part HR1.out (j := 0) (p := p) rfl (by simp)
  subst eg0
  rw [rounds_succ]
  go_wp2_with fail
  refine (IH1.out w1 ab db B HG1.out HNL.out HSA1.out HSD1.out hab (HA.out.put HR.out) HDn.out hnp.out).mono ?_
  rintro e V0 ⟨rfl, hgg, hpp⟩
  have HXV0 : Hid (G2 w V0 ab db) := HX1.out.trans hgg
  have HGV0 := hid (HG1.out.kc (hgg.kc HSA1.out HSD1.out))
  have HK1 : Hid (KC w1 V0) := (hgg.kc HSA1.out HSD1.out)
  obtain ⟨hp1, hp2, hp3⟩ := hpp _ rfl
  have HSAV0 := hid hp1
  have HSDV0 := hid hp2
  clear HDn
  have HDn := hid hp3
  clear hgg hpp hp1 hp2 hp3 k0
  go_wp2_with fail
  obtain ⟨g1, eg1, k1, hk1⟩ := row_part (KC.row HK1.out HR1.out) (j := 1) (p := q) rfl (by simp)
  cases eg1
  rw [rounds_succ]
  go_wp2_with fail
  refine (IH2.out V0 ab db B HGV0.out HNL.out HSAV0.out HSDV0.out hab (HA.out.put HR.out) HDn.out hnq.out).mono ?_
  rintro e V1 ⟨rfl, hgg, hpp⟩
  have HXV1 : Hid (G2 w V1 ab db) := HXV0.out.trans hgg
  have HGV1 := hid (HGV0.out.kc (hgg.kc HSAV0.out HSDV0.out))
  have HK2 : Hid (KC w1 V1) := HK1.out.trans (hgg.kc HSAV0.out HSDV0.out)
  obtain ⟨hp1, hp2, hp3⟩ := hpp _ rfl
  have HSAV1 := hid hp1
  have HSDV1 := hid hp2
  clear HDn
  have HDn := hid hp3
  clear hgg hpp hp1 hp2 hp3 k1
  go_wp2_with fail
  rw [rounds_succ]
  have HNBf : Hid (∀ r', put A r r' = true → NB V1 r') := fun r' h => HGV1.out.nb (HA.out.put HR.out r' h)
  go_wp2_with (first | (at_delete; refine drop_at rfl _ _ rfl HSAV1.out (HGV1.out.nb HR.out) HNBf.out rfl rfl ?_; intro w8 hs8 hg8; have HSA8 := hid hs8; have HG8 := hid (HGV1.out.kc (KC.map hg8 HSAV1.out.isMap)); have HSD8 : Hid (SM w8 db D2) := SM.other hg8 HSDV1.out hab; have HX8 : Hid (G2 w w8 ab db) := HXV1.out.trans (G2.fst hg8 db); have HNB8 : Hid (∀ r', D2 r' = true → NB w8 r') := (fun r' h => HG8.out.nb (HDn.out r' h)); clear hs8 hg8) | (at_mapUpdate; refine store_at rfl _ _ _ rfl HSD8.out (HG8.out.nb HR.out) HNB8.out rfl rfl rfl ?_; intro w9 hs9 hg9; have HSD9 := hid hs9; have HSA9 : Hid (SM w9 ab A) := (by have := SM.other hg9 HSA8.out (fun e => hab e.symm); rw [del_put HAr.out] at this; exact this); have HX9 : Hid (G2 w w9 ab db) := HX8.out.trans (G2.snd hg9 ab); clear hs9 hg9))
  go_ret
  exact ⟨rfl, HX9.out, fun D' h => by cases h; exact ⟨HSA9.out, HSD9.out, HDn.out.put HR.out⟩⟩
theorem endless_any {N : Nds} (hw : Wh N) {L : Lks} {A D : Set'} {n : Nat} {o : Option Set'} (h : Ed N L A D n o) : EdAt N L A D n o := by
  induction h with
  | above he ha => exact ed_above he ha
  | done he ha hd => exact ed_done he ha hd
  | v0 he ha hd hx => exact ed_v0 he ha hd hx
  | v1t he ha hd hx _ ih => exact ed_v1t he ha hd hx (hw.parts _ _ _ hx _ (by simp)) ih
  | v1f he ha hd hx _ ih => exact ed_v1f he ha hd hx (hw.parts _ _ _ hx _ (by simp)) ih
  | v2t he ha hd hx _ ih => exact ed_v2t he ha hd hx (hw.parts _ _ _ hx _ (by simp)) ih
  | v2ft he ha hd hx _ _ i1 i2 => exact ed_v2ft he ha hd hx (hw.parts _ _ _ hx _ (by simp)) (hw.parts _ _ _ hx _ (by simp)) i1 i2
  | v2ff he ha hd hx _ _ i1 i2 => exact ed_v2ff he ha hd hx (hw.parts _ _ _ hx _ (by simp)) (hw.parts _ _ _ hx _ (by simp)) i1 i2
set_option maxHeartbeats 4000000 in
theorem ends_any {N : Nds} (hw : Wh N) {L : Lks} {n : Nat} {o : Option Set'} (h : Ed N L none' none' n o) (w : World) (B : Nat → Prop) (hg : GH w N L B) (hnl : NL N L) (hn : ∃ v, N n = some v) :
    Calls Try.prog 43 #[ptr n] w fun e w' => e = .returned (.bool o.isSome) ∧ Below w.heap.size w w' := by
  have HE := hid (endless_any hw h)
  have HG := hid hg
  have HNL := hid hnl
  have HN := hid hn
  clear h hg hnl hn hw
  have hmm := @run_makeMap Try.prog
  go_enter Try.func43, Try.ntmps43
  go_wp2_with fail
  clear hmm
  refine (HE.out _ w.heap.size (w.heap.size + 1) B (HG.out.kc ?_) HNL.out ?_ ?_ (by omega) (fun r h => by simp [none'] at h) (fun r h => by simp [none'] at h) HN.out).mono ?_
  · exact KC.below (((Below.refl _ w).alloc (Nat.le_refl _) _).alloc (by simp) _)
  · exact (SM.made w).heap (Below.heap_alloc _ _ _ (by simp))
  · have := SM.made (w.alloc (.map #[] 0))
    rw [World.size_alloc] at this
    exact this
  · rintro e w' ⟨rfl, hgg, -⟩
    have HX := hid hgg
    clear hgg
    go_wp2_with fail
    go_ret
    refine ⟨by cases o <;> rfl, ?_⟩
    refine (((Below.refl _ w).alloc (Nat.le_refl _) (.map #[] 0)).alloc (by simp) (.map #[] 0)).trans ?_
    exact ⟨HX.out.os, HX.out.tape, HX.out.output, HX.out.size, fun k hk => HX.out.block k (by simp; omega) (by omega) (by omega)⟩
end GraW
end Go.Proofs.Ytcjalnianamlaaa
set_option linter.unusedVariables false
set_option linter.unusedSimpArgs false
set_option maxRecDepth 100000
namespace Go.Proofs.Ytcjalnianamlaaa
open Go.RowKit Ty
namespace GraO
open GraP PtrM ListS AptP GraW
theorem KC.inode {w w' : World} (h : KC w w') : ∀ {t : Ty} {lo b : Nat}, INode lo w t b → INode lo w' t b := by
  intro t
  induction t with
  | leaf c => intro lo b ⟨hl, v, h1, h2⟩; exact ⟨hl, v, h _ _ _ _ h1, h.row h2⟩
  | one c t ih => intro lo b ⟨hl, v, p, h1, h2, h3⟩; exact ⟨hl, v, p, h _ _ _ _ h1, h.row h2, ih h3⟩
  | two c t u ih1 ih2 => intro lo b ⟨hl, v, p, q, h1, h2, h3, h4⟩; exact ⟨hl, v, p, q, h _ _ _ _ h1, h.row h2, ih1 h3, ih2 h4⟩
theorem cellG {w w' : World} {mb g o : Nat} {v : Value} (h : w.grownBy w' (some mb)) (hg : g < w.heap.size) (hne : g ≠ mb) (hc : w.cell? ⟨g, o, none⟩ = some v) : w'.cell? ⟨g, o, none⟩ = some v := by
  have e := h.block g hg (fun e => hne (by cases e; rfl))
  rw [← hc]
  simp [World.cell?, e]
/-- what share keeps: the names, the nodes; those from z0 on stand for types -/
structure ST (w : World) (mb n : Nat) (sc : Sco) (N : Nds) (z0 : Nat) : Prop where
  wh : Wh N
  pm : PM w mb n sc
  sce : ∀ c b, sc c = some b → N b = some (c, []) ∧ z0 ≤ b
  news : ∀ k v, N k = some v → z0 ≤ k → ∃ t, Rep N sc k t
  lt : ∀ k v, N k = some v → k < w.heap.size
  scv : ∀ c b, sc c = some b → isV c = true
structure SS (w0 w : World) (mb n : Nat) (sc : Sco) (N N0 : Nds) (sc0 : Sco) (z0 : Nat) (B : Nat → Prop) : Prop where
  st : ST w mb n sc N z0
  gh : GH w N L0 B
  sub : ∀ k v, N0 k = some v → N k = some v
  scs : ∀ c b, sc0 c = some b → sc c = some b
  gr : w0.grownBy w (some mb)
  new : ∀ k v, N k = some v → N0 k = some v ∨ w0.heap.size ≤ k
/-- a node is open in block O -/
structure OS (w0 w : World) (mb n : Nat) (sc : Sco) (N N0 : Nds) (sc0 : Sco) (z0 : Nat) (B : Nat → Prop) (O : Nat) (c : UInt8) (bs : List Nat) (a : Option Addr) (cap : Nat) : Prop where
  st : ST w mb n sc N z0
  gh : GH w N L0 (fun k => B k ∨ (Value.slice a bs.length cap).ownBlock = some k)
  sub : ∀ k v, N0 k = some v → N k = some v
  scs : ∀ c b, sc0 c = some b → sc c = some b
  gr : w0.grownBy w (some mb)
  new : ∀ k v, N k = some v → N0 k = some v ∨ w0.heap.size ≤ k
  no : N O = none
  ob : w.heap[O]? = some (.cells #[.string ⟨#[c]⟩, .slice a bs.length cap, .pointer none] 113 (0, 0))
  row : w.ownsRow (O + 1) 81 1 (.slice a bs.length cap) bs.length (bs.map ptr)
  le : w0.heap.size ≤ O
  mbl : mb < w0.heap.size
  hB : ∀ k, B k → k < w0.heap.size
theorem PM.below {w w' : World} {mb n : Nat} {sc : Sco} (h : PM w mb n sc) (hb : Below w.heap.size w w') : PM w' mb n sc := h.heap (hb.block _ h.lt)
theorem ST.below {w w' : World} {mb n z0 : Nat} {sc : Sco} {N : Nds} (h : ST w mb n sc N z0) (hb : Below w.heap.size w w') : ST w' mb n sc N z0 := ⟨h.wh, PM.below h.pm hb, h.sce, h.news, fun k v hk => Nat.lt_of_lt_of_le (h.lt k v hk) hb.size, h.scv⟩
theorem gb' {w w' : World} (h : Below w.heap.size w w') (row : Option Nat) : w.grownBy w' row := ⟨h.os, h.tape, h.output, h.size, fun k hk _ => h.block k hk⟩
theorem below_drw {B : Nat} {w w' : World} (h : Below B w w') : Below B w w'.drew := ⟨h.os, h.tape, h.output, h.size, h.block⟩
variable {w0 w w' : World} {mb n n' z0 : Nat} {sc sc' sc0 : Sco} {N N' N0 : Nds} {B : Nat → Prop} {O : Nat} {c : UInt8} {bs : List Nat} {a : Option Addr} {cap : Nat}
theorem SS.start (h : ST w mb n sc N z0) (hg : GH w N L0 B) : SS w w mb n sc N N sc z0 B := ⟨h, hg, fun _ _ h => h, fun _ _ h => h, gb' (Below.refl _ _) _, fun _ _ h => .inl h⟩
theorem SS.below (h : SS w0 w mb n sc N N0 sc0 z0 B) (hb : Below w.heap.size w w') : SS w0 w' mb n sc N N0 sc0 z0 B := ⟨h.st.below hb, h.gh.kc (KC.below hb), h.sub, h.scs, grown_trans h.gr (gb' hb _), h.new⟩
theorem SS.mono (h : SS w0 w mb n sc N N0 sc0 z0 B) (hn : n ≤ n') : SS w0 w mb n' sc N N0 sc0 z0 B := ⟨⟨h.st.wh, h.st.pm.mono hn, h.st.sce, h.st.news, h.st.lt, h.st.scv⟩, h.gh, h.sub, h.scs, h.gr, h.new⟩
theorem OS.init (h : ST w mb n sc N z0) (hg : GH w N L0 B) (hB : ∀ k, B k → k < w.heap.size) (c : UInt8) : OS w (w.alloc (.cells #[.string ⟨#[c]⟩, .slice none 0 0, .pointer none] 113 (0, 0))) mb n sc N N sc z0 B w.heap.size c [] none 0 where
  st := h.below ((Below.refl _ _).alloc (Nat.le_refl _) _)
  gh := (hg.kc (KC.below ((Below.refl _ _).alloc (Nat.le_refl _) _))).mono (fun k hk => by rcases hk with hk | hk; exact hk; simp [Value.ownBlock] at hk)
  sub := fun _ _ h => h
  scs := fun _ _ h => h
  gr := gb' ((Below.refl _ _).alloc (Nat.le_refl _) _) _
  new := fun _ _ h => .inl h
  no := by
    cases e : N w.heap.size with
    | none => rfl
    | some v => have := h.lt _ _ e; omega
  ob := heap_alloc_new _ _
  row := World.ownsRow_nil _ _ _ _
  le := Nat.le_refl _
  mbl := h.pm.lt
  hB := hB
theorem OS.drew (h : OS w0 w mb n sc N N0 sc0 z0 B O c bs a cap) : OS w0 w.drew mb n sc N N0 sc0 z0 B O c bs a cap where
  st := h.st.below (below_drw (Below.refl _ _))
  gh := h.gh.kc (KC.below (below_drw (Below.refl _ _)))
  sub := h.sub
  scs := h.scs
  gr := grown_trans h.gr (gb' (below_drw (Below.refl _ _)) _)
  new := h.new
  no := h.no
  ob := h.ob
  row := KC.row (KC.below (below_drw (Below.refl _ _))) h.row
  le := h.le
  mbl := h.mbl
  hB := h.hB
theorem OS.bnd (h : OS w0 w mb n sc N N0 sc0 z0 B O c bs a cap) : ∀ k, (B k ∨ (Value.slice a bs.length cap).ownBlock = some k) → k < w.heap.size := by
  rintro k (hk | hk)
  · exact Nat.lt_of_lt_of_le (h.hB k hk) h.gr.size
  · rcases h.row.2 with ⟨e, _⟩ | ⟨g, cap', cur, e, _, hg, _⟩
    · rw [e] at hk; simp [Value.ownBlock] at hk
    · rw [e] at hk; simp [Value.ownBlock] at hk; subst hk; exact lt_of_heap hg
/-- a part was shared -/
theorem OS.after (h : OS w0 w mb n sc N N0 sc0 z0 B O c bs a cap) (k : SS w w' mb n' sc' N' N sc z0 (fun k => B k ∨ (Value.slice a bs.length cap).ownBlock = some k)) : OS w0 w' mb n' sc' N' N0 sc0 z0 B O c bs a cap where
  st := k.st
  gh := k.gh
  sub := fun i v hi => k.sub i v (h.sub i v hi)
  scs := fun i v hi => k.scs i v (h.scs i v hi)
  gr := grown_trans h.gr k.gr
  new := fun i v hi => by
    rcases k.new i v hi with h1 | h1
    · exact h.new i v h1
    · exact .inr (Nat.le_trans h.gr.size h1)
  no := by
    cases e : N' O with
    | none => rfl
    | some v =>
      rcases k.new O v e with h1 | h1
      · rw [h.no] at h1; simp at h1
      · have := lt_of_heap h.ob; omega
  ob := KC.map k.gr h.st.pm.isMap _ _ _ _ h.ob
  row := KC.row (KC.map k.gr h.st.pm.isMap) h.row
  le := h.le
  mbl := h.mbl
  hB := h.hB
theorem own_ne {v : Value} {base m size : Nat} {e : TypeId} {xs : List Value} (h : w.ownsRow base e size v m xs) {k : Nat} (hk : v.ownBlock = some k) : ∃ cur, w.heap[k]? = some (.cells cur e (0, 0)) := by
  rcases h.2 with ⟨rfl, _⟩ | ⟨g, cap, cur, rfl, _, hg, _⟩
  · simp [Value.ownBlock] at hk
  · simp [Value.ownBlock] at hk; subst hk; exact ⟨_, hg⟩
theorem OS.ob8 (h : OS w0 w mb n sc N N0 sc0 z0 B O c bs a cap) {news : Obj} {w8 : World} (hgr : (w.alloc news).grownBy w8 (Value.slice a bs.length cap).ownBlock) : w8.heap[O]? = some (.cells #[.string ⟨#[c]⟩, .slice a bs.length cap, .pointer none] 113 (0, 0)) := by
  refine ((hgr.block O (by have := lt_of_heap h.ob; simp; omega) (fun e => ?_)).trans (Below.heap_alloc _ _ _ (lt_of_heap h.ob))).trans h.ob
  obtain ⟨cur, hc⟩ := own_ne h.row e.symm
  have := h.ob
  rw [hc] at this
  simp at this
/-- a part is pushed -/
theorem OS.push (h : OS w0 w mb n sc N N0 sc0 z0 B O c bs a cap) {news : Obj} {w8 : World} {g1 cap1 b : Nat} (hgr : (w.alloc news).grownBy w8 (Value.slice a bs.length cap).ownBlock)
    (hown : w8.ownsRow (O + 1) 81 1 (.slice (some ⟨g1, 0, none⟩) (bs.length + 1) cap1) (bs.length + 1) (bs.map ptr ++ [ptr b])) (hlie : (Value.slice a bs.length cap).ownBlock = some g1 ∨ g1 = (w.alloc news).heap.size) :
    OS w0 (w8.setCell ⟨O, 1, none⟩ (.slice (some ⟨g1, 0, none⟩) (bs.length + 1) cap1)) mb n sc N N0 sc0 z0 B O c (bs ++ [b]) (some ⟨g1, 0, none⟩) cap1 := by
  -- blocks that stay
  have hkeep : ∀ k, k < w.heap.size → (Value.slice a bs.length cap).ownBlock ≠ some k → w8.heap[k]? = w.heap[k]? := fun k hk hne => (hgr.block k (by simp; omega) (fun e => hne e.symm)).trans (Below.heap_alloc _ _ _ hk)
  have hstay : ∀ (k : Nat) (cs : Array Value) (e : TypeId), w.heap[k]? = some (.cells cs e (0, 0)) → e ≠ 81 → w8.heap[k]? = some (.cells cs e (0, 0)) := fun k cs e hk hne => (hkeep k (lt_of_heap hk) (fun hb => by
    obtain ⟨cur, hc⟩ := own_ne h.row hb
    rw [hc] at hk
    simp at hk
    exact hne hk.2.symm)).trans hk
  have hsz : w.heap.size ≤ w8.heap.size := Nat.le_trans (by simp) hgr.size
  have hOB : w8.heap[O]? = some (.cells #[.string ⟨#[c]⟩, .slice a bs.length cap, .pointer none] 113 (0, 0)) := hstay _ _ _ h.ob (by decide)
  have hmb : w8.heap[mb]? = w.heap[mb]? := hkeep mb h.st.pm.lt (fun hb => by
    obtain ⟨cur, hc⟩ := own_ne h.row hb
    obtain ⟨es, k, hm⟩ := h.st.pm.isMap
    rw [hc] at hm
    simp at hm)
  have hmO : mb ≠ O := fun e => by have := h.mbl; have := h.le; omega
  refine ⟨⟨h.st.wh, (h.st.pm.heap hmb).heap (Below.heap_setCell _ _ _ _ hmO), h.st.sce, h.st.news, fun k v hk => by simp; exact Nat.lt_of_lt_of_le (h.st.lt k v hk) hsz, h.st.scv⟩, ?_, h.sub, h.scs, ?_, h.new, h.no, ?_, ?_, h.le, h.mbl, h.hB⟩
  · intro k ck ps hk
    obtain ⟨v, q1, q2, q3⟩ := h.gh k ck ps hk
    have hkO : k ≠ O := fun e => by subst e; rw [h.no] at hk; simp at hk
    refine ⟨v, (Below.heap_setCell _ _ _ _ hkO).trans (hstay _ _ _ q1 (by decide)), ⟨q2.1, ?_⟩, ?_⟩
    · rcases q2.2 with q4 | ⟨g, cap', cur, q4, q5, q6, r⟩
      · exact .inl q4
      · refine .inr ⟨g, cap', cur, q4, q5, (Below.heap_setCell _ _ _ _ (by show g ≠ O; exact (heap_ne q6 h.ob (by decide)))).trans ((hkeep g (lt_of_heap q6) (fun hb => q3 g (by rw [q4]; rfl) (.inr hb))).trans q6), r⟩
    · intro g hg hgb
      rcases hgb with hgb | hgb
      · exact q3 g hg (.inl hgb)
      · simp [Value.ownBlock] at hgb
        subst hgb
        rcases hlie with h1 | h1
        · exact q3 g1 hg (.inr h1)
        · obtain ⟨cur, hc⟩ := own_ne q2 hg
          have := lt_of_heap hc
          simp at h1
          omega
  · refine ⟨hgr.os.trans h.gr.os, hgr.tape.trans h.gr.tape, hgr.output.trans h.gr.output, by simp; exact Nat.le_trans h.gr.size hsz, fun k hk hne => ?_⟩
    have hkO : k ≠ O := fun e => by have := h.le; omega
    rw [Below.heap_setCell _ _ _ _ hkO, hkeep k (Nat.lt_of_lt_of_le hk h.gr.size) ?_]
    · exact h.gr.block k hk hne
    · intro hb
      rcases h.row.2 with ⟨e, _⟩ | ⟨g, cap', cur, e, hl, hg, _⟩
      · rw [e] at hb; simp [Value.ownBlock] at hb
      · rw [e] at hb; simp [Value.ownBlock] at hb; subst hb; have := h.le; omega
  · have := heap_set hOB 1 (.slice (some ⟨g1, 0, none⟩) (bs.length + 1) cap1)
    rw [this]
    simp
  · have e1 : (bs ++ [b]).length = bs.length + 1 := by simp
    have e2 : (bs ++ [b]).map ptr = bs.map ptr ++ [ptr b] := by simp
    rw [e1, e2]
    refine ⟨hown.1, ?_⟩
    rcases hown.2 with q4 | ⟨g, cap', cur, q4, q5, q6, r⟩
    · exact .inl q4
    · exact .inr ⟨g, cap', cur, q4, q5, (Below.heap_setCell _ _ _ _ (by show g ≠ O; omega)).trans q6, r⟩
def nput (N : Nds) (O : Nat) (v : UInt8 × List Nat) : Nds := fun k => if k = O then some v else N k
theorem nput_same (N : Nds) (O : Nat) (v : UInt8 × List Nat) : nput N O v O = some v := by simp [nput]
theorem nput_ne {O k : Nat} {v : UInt8 × List Nat} (h : k ≠ O) : nput N O v k = N k := by simp [nput, h]
theorem nput_sub {O : Nat} {v : UInt8 × List Nat} (h : N O = none) : ∀ k u, N k = some u → nput N O v k = some u := fun k u hk => by
  rw [nput_ne (fun e => by subst e; rw [h] at hk; simp at hk)]; exact hk
theorem wh_put {v : UInt8 × List Nat} (h : Wh N) (hO : N O = none) (hl : ar v.1 = some v.2.length) (hp : ∀ p ∈ v.2, ∃ x, N p = some x) : Wh (nput N O v) := by
  refine ⟨fun k c ps hk p hpp => ?_, fun k c ps hk => ?_⟩
  · have hx : ∃ x, N p = some x := by
      by_cases e : k = O
      · subst e; rw [nput_same] at hk; cases hk; exact hp p hpp
      · rw [nput_ne e] at hk; exact h.parts k c ps hk p hpp
    obtain ⟨x, hx⟩ := hx
    exact ⟨x, nput_sub hO _ _ hx⟩
  · by_cases e : k = O
    · subst e; rw [nput_same] at hk; cases hk; exact hl
    · rw [nput_ne e] at hk; exact h.len k c ps hk
/-- the node is made -/
theorem OS.close (h : OS w0 w mb n sc N N0 sc0 z0 B O c bs a cap) (hz : z0 ≤ w0.heap.size) (hl : ar c = some bs.length) {t : Ty} (hr : Rep (nput N O (c, bs)) sc O t) (hp : ∀ p ∈ bs, ∃ x, N p = some x) : SS w0 w mb n sc (nput N O (c, bs)) N0 sc0 z0 B where
  st := ⟨wh_put h.st.wh h.no hl hp, h.st.pm, fun d b hd => ⟨nput_sub h.no _ _ (h.st.sce d b hd).1, (h.st.sce d b hd).2⟩, fun k v hk hzk => by
    by_cases e : k = O
    · subst e; exact ⟨t, hr⟩
    · rw [nput_ne e] at hk
      obtain ⟨u, hu⟩ := h.st.news k v hk hzk
      exact ⟨u, hu.mono (nput_sub h.no) (fun _ _ h => h)⟩, fun k v hk => by
    by_cases e : k = O
    · subst e; exact lt_of_heap h.ob
    · rw [nput_ne e] at hk; exact h.st.lt k v hk, h.st.scv⟩
  gh := fun k ck ps hk => by
    by_cases e : k = O
    · subst e
      rw [nput_same] at hk
      cases hk
      refine ⟨_, h.ob, row_mono h.row (Nat.zero_le _), fun g hg hB => ?_⟩
      rcases h.row.2 with ⟨e, _⟩ | ⟨g', cap', cur, e, hl, hgg, _⟩
      · rw [e] at hg; simp [Value.ownBlock] at hg
      · rw [e] at hg; simp [Value.ownBlock] at hg; subst hg; have := h.hB _ hB; have := h.le; omega
    · rw [nput_ne e] at hk
      obtain ⟨v, q1, q2, q3⟩ := h.gh k ck ps hk
      exact ⟨v, q1, q2, fun g hg hb => q3 g hg (.inl hb)⟩
  sub := fun k v hk => nput_sub h.no _ _ (h.sub k v hk)
  scs := h.scs
  gr := h.gr
  new := fun k v hk => by
    by_cases e : k = O
    · subst e; exact .inr h.le
    · rw [nput_ne e] at hk; exact h.new k v hk
/-- a variable's node is made and named -/
theorem SS.name (h : ST w mb n sc N z0) (hg : GH w N L0 B) (hB : ∀ k, B k → k < w.heap.size) (hz : z0 ≤ w.heap.size) {c : UInt8} (hc : sc c = none) (hv : isV c = true) (ha : ar c = some 0) {w3 : World}
    (hp : PM w3 mb (n + 1) (sput sc c w.heap.size)) (hgr : (w.alloc (.cells #[.string ⟨#[c]⟩, .slice none 0 0, .pointer none] 113 (0, 0))).grownBy w3 (some mb)) : SS w w3 mb (n + 1) (sput sc c w.heap.size) (nput N w.heap.size (c, [])) N sc z0 B := by
  have hno : N w.heap.size = none := by
    cases e : N w.heap.size with
    | none => rfl
    | some v => have := h.lt _ _ e; omega
  have hsub := nput_sub (v := (c, [])) hno
  have hscs : ∀ d b, sc d = some b → sput sc c w.heap.size d = some b := fun d b hd => by
    unfold sput
    rw [if_neg (fun e => by subst e; rw [hc] at hd; simp at hd)]
    exact hd
  have hkc : KC (w.alloc (.cells #[.string ⟨#[c]⟩, .slice none 0 0, .pointer none] 113 (0, 0))) w3 := KC.map hgr (PM.below h.pm ((Below.refl _ _).alloc (Nat.le_refl _) _)).isMap
  have hkc0 : KC w w3 := KC.trans (KC.below ((Below.refl _ _).alloc (Nat.le_refl _) _)) hkc
  have hz3 := hgr.size
  simp only [World.size_alloc] at hz3
  refine ⟨⟨wh_put h.wh hno ha (by simp), hp, ?_, ?_, ?_, ?_⟩, ?_, hsub, hscs, grown_trans (gb' ((Below.refl _ _).alloc (Nat.le_refl _) _) _) hgr, ?_⟩
  · intro d b hd
    unfold sput at hd
    split at hd
    · rename_i e; cases hd; subst e; exact ⟨nput_same _ _ _, hz⟩
    · exact ⟨hsub _ _ (h.sce d b hd).1, (h.sce d b hd).2⟩
  · intro k v hk hzk
    by_cases e : k = w.heap.size
    · subst e
      exact ⟨_, .var (nput_same _ _ _) hv (by simp [sput])⟩
    · rw [nput_ne e] at hk
      obtain ⟨u, hu⟩ := h.news k v hk hzk
      exact ⟨u, hu.mono hsub hscs⟩
  · intro k v hk
    by_cases e : k = w.heap.size
    · omega
    · rw [nput_ne e] at hk; have := h.lt k v hk; omega
  · intro d b hd
    unfold sput at hd
    split at hd
    · rename_i e; rw [e]; exact hv
    · exact h.scv d b hd
  · intro k ck ps hk
    by_cases e : k = w.heap.size
    · subst e
      rw [nput_same] at hk
      cases hk
      exact ⟨_, hkc _ _ _ _ (heap_alloc_new _ _), World.ownsRow_nil _ _ _ _, fun g hg => by simp [Value.ownBlock] at hg⟩
    · rw [nput_ne e] at hk
      exact hg.kc hkc0 k ck ps hk
  · intro k v hk
    by_cases e : k = w.heap.size
    · exact .inr (by omega)
    · rw [nput_ne e] at hk; exact .inl hk
end GraO
end Go.Proofs.Ytcjalnianamlaaa
set_option linter.unusedVariables false
set_option linter.unusedSimpArgs false
set_option maxRecDepth 100000
namespace Go.Proofs.Ytcjalnianamlaaa
open Go.RowKit Ty
namespace GraS
open GraP PtrM ListS AptP GraW GraO
theorem isVar_two {c : UInt8} {v : Bool} (h : isV c = v) (w : World) : Calls Try.prog 67 #[.string ⟨#[c]⟩] w fun e w' => e = .returned (.bool v) ∧ w = w' := by
  have := isVar_impl [c] w (by simp)
  have e : isVarL [c] = v := h
  rw [e] at this
  exact this
theorem wpAnyT_true {P : Program} {md : Region.Mode} {ops : Array Oper} {Q : Exit → Act → World → Prop} {S : World → Prop} {m m' : Nat} : ∀ (n : Nat) (listed : Array Bool) (a : Act) (w : World), wpAnyT P md ops Q S m n listed a w → wpAnyT P md ops Q (fun _ => True) m' n listed a w
  | 0, _, _, _, h => h
  | n + 1, listed, a, w, h => ⟨h.1, fun i hi => wpOp_mono (fun a' w' h' => ⟨fun _ => trivial, wpAnyT_true n _ a' w' h'.2⟩) (h.2 i hi)⟩
theorem isV_ar {c : UInt8} (hv : isV c = true) : ar c = some 0 := by
  simp [isV] at hv
  rcases hv with rfl | rfl | rfl | rfl | rfl | rfl <;> rfl
theorem SS.undrew {w w' : World} {mb n z0 : Nat} {sc sc0 : Sco} {N N0 : Nds} {B : Nat → Prop} (h : SS w.drew w' mb n sc N N0 sc0 z0 B) : SS w w' mb n sc N N0 sc0 z0 B := ⟨h.st, h.gh, h.sub, h.scs, ⟨h.gr.os, h.gr.tape, h.gr.output, h.gr.size, h.gr.block⟩, h.new⟩
theorem cells_map {w : World} {b mb n : Nat} {sc : Sco} {cs : Array Value} {e : TypeId} {fr : Nat × Nat} (h : w.heap[b]? = some (.cells cs e fr)) (hp : PM w mb n sc) : b ≠ mb := fun e => by
  obtain ⟨es, k, hm⟩ := hp.isMap
  subst e
  rw [h] at hm
  simp at hm
def ShPost (w : World) (mb n : Nat) (N : Nds) (sc : Sco) (z0 : Nat) (B : Nat → Prop) (t : Ty) (e : Ending) (w' : World) : Prop := ∃ b' N' sc', e = .returned (ptr b') ∧ SS w w' mb n sc' N' N sc z0 B ∧ Rep N' sc' b' t
abbrev ShAt (t : Ty) : Prop := ∀ (w : World) (b lo mb n : Nat) (sc : Sco) (N : Nds) (z0 : Nat) (B : Nat → Prop), ST w mb n sc N z0 → GH w N L0 B → (∀ k, B k → k < w.heap.size) → z0 ≤ w.heap.size → n + t.size ≤ 1000000 → INode lo w t b →
    Calls Try.prog 65 #[ptr b, .map (some mb)] w (ShPost w mb (n + t.size) N sc z0 B t)
set_option maxHeartbeats 4000000 in
theorem sh_var {c : UInt8} (hv : isV c = true) (ha : ar c = some 0) : ShAt (.leaf c) := by
  intro w b lo mb n sc N z0 B hst hg hB hz hn hnode
  have HST := hid hst
  have HG := hid hg
  have HBB := hid hB
  have HV := hid hv
  have hmbl := hst.pm.lt
  obtain ⟨-, v, hh, hrow⟩ := hnode
  obtain ⟨a, cap, rfl⟩ := row_slice hrow
  have k0 := heap_cell hh 0
  have hbl := lt_of_heap hh
  have hbm := cells_map hh hst.pm
  have HH := hid hh
  have HPM := hid hst.pm
  have HA := hid ha
  have hn2 : n + 1 ≤ 1000000 := by simp [Ty.size] at hn; omega
  clear hst hg hB hv hh hrow ha hn
  cases hs : sc c with
  | some b0 =>
    have HS := hid hs
    clear hs
    go_enter Try.func65, Try.ntmps65
    go_wp2_with (first | (go_at_call 67; refine (isVar_two HV.out _).mono ?_; rintro e w' ⟨rfl, rfl⟩) | (at_lookup; refine look_sc rfl _ _ rfl HPM.out (some b0) HS.out rfl rfl ?_))
    go_ret
    exact ⟨b0, N, sc, rfl, (SS.start HST.out HG.out).mono (Nat.le_add_right _ _), .var (HST.out.sce c b0 HS.out).1 HV.out HS.out⟩
  | none =>
    have HS := hid hs
    clear hs
    go_enter Try.func65, Try.ntmps65
    go_wp2_with (first | (go_at_call 67; refine (isVar_two HV.out _).mono ?_; rintro e w' ⟨rfl, rfl⟩) | (at_lookup; refine look_sc rfl _ _ rfl HPM.out none HS.out rfl rfl ?_))
    refine wp_region_any (by kernel_rfl) ?_
    change wpAny _ _ _ _ _ _ _ (World.drew _)
    have SX : w.drew.cell? ⟨b, 0, none⟩ = some (.string ⟨#[c]⟩) := k0
    refine wpAny_of_T (S := fun X => X.cell? ⟨b, 0, none⟩ = some (.string ⟨#[c]⟩)) (m := 11) _ _ _ _ ?_
    refine wpAnyT_take (i := 0) (v := .map (some mb)) rfl (by kernel_rfl) (by kernel_rfl) (by kernel_rfl) (by kernel_rfl) (fun _ _ _ h => h) (Or.inl ⟨by kernel_rfl, fun X hS => by clear hS; go_simp⟩) SX ?_
    try go_simp
    refine wpAnyT_take (i := 1) (v := .pointer (some ⟨b, 0, none⟩)) rfl (by kernel_rfl) (by kernel_rfl) (by kernel_rfl) (by kernel_rfl) (fun _ _ _ h => h) (Or.inl ⟨by kernel_rfl, fun X hS => by clear hS; go_simp⟩) SX ?_
    try go_simp
    refine wpAnyT_take (i := 2) (v := .pointer (some ⟨b, 0, none⟩)) rfl (by kernel_rfl) (by kernel_rfl) (by kernel_rfl) (by kernel_rfl) (fun _ _ _ h => h) (Or.inl ⟨by kernel_rfl, fun X hS => by clear hS; go_simp⟩) SX ?_
    try go_simp
    refine wpAnyT_take (i := 3) (v := .pointer (some ⟨b, 0, none⟩)) rfl (by kernel_rfl) (by kernel_rfl) (by kernel_rfl) (by kernel_rfl) (fun _ _ _ h => h) (Or.inl ⟨by kernel_rfl, fun X hS => by clear hS; go_simp⟩) SX ?_
    try go_simp
    refine wpAnyT_take (i := 4) (v := .string ⟨#[c]⟩) rfl (by kernel_rfl) (by kernel_rfl) (by kernel_rfl) (by kernel_rfl) (fun _ _ _ h => h) (Or.inl ⟨by kernel_rfl, fun X hS => by have e0 := hS; clear k0; go_simp⟩) SX ?_
    try go_simp
    refine wpAnyT_take (i := 5) (v := .pointer (some ⟨b, 0, none⟩)) rfl (by kernel_rfl) (by kernel_rfl) (by kernel_rfl) (by kernel_rfl) (fun _ _ _ h => h) (Or.inl ⟨by kernel_rfl, fun X hS => by clear hS; go_simp⟩) SX ?_
    try go_simp
    refine wpAnyT_take (i := 6) (v := .pointer (some ⟨b, 0, none⟩)) rfl (by kernel_rfl) (by kernel_rfl) (by kernel_rfl) (by kernel_rfl) (fun _ _ _ h => h) (Or.inl ⟨by kernel_rfl, fun X hS => by clear hS; go_simp⟩) SX ?_
    try go_simp
    refine wpAnyT_take (i := 7) (v := .pointer (some ⟨b, 0, none⟩)) rfl (by kernel_rfl) (by kernel_rfl) (by kernel_rfl) (by kernel_rfl) (fun _ _ _ h => h) (Or.inl ⟨by kernel_rfl, fun X hS => by clear hS; go_simp⟩) SX ?_
    try go_simp
    refine wpAnyT_take (i := 8) (v := .string ⟨#[c]⟩) rfl (by kernel_rfl) (by kernel_rfl) (by kernel_rfl) (by kernel_rfl) (fun _ _ _ h => h) (Or.inl ⟨by kernel_rfl, fun X hS => by have e0 := hS; clear k0; go_simp⟩) SX ?_
    try go_simp
    refine wpAnyT_take (i := 9) (v := .agg #[.string ⟨#[c]⟩, .slice none 0 0, .pointer none]) rfl (by kernel_rfl) (by kernel_rfl) (by kernel_rfl) (by kernel_rfl) (fun _ _ _ h => h) (Or.inl ⟨by kernel_rfl, fun X hS => by clear hS; go_simp⟩) SX ?_
    try go_simp
    have SX10 : (w.drew.alloc (.cells #[.string ⟨#[c]⟩, .slice none 0 0, .pointer none] 113 (0, 0))).cell? ⟨b, 0, none⟩ = some (.string ⟨#[c]⟩) := heap_cell (hb_alloc (w := w.drew) HH.out _) 0
    refine wpAnyT_one 10 rfl (by kernel_rfl) (fun K hK => ?_)
    go_simp
    refine hK _ _ (fun _ => SX10) ?_
    clear hK K
    clear SX
    refine wpAnyT_drop _ 11 _ _ _ (by decide) (by kernel_rfl) ?_
    change wpList _ _ _ [_] _ _
    have HPA : Hid (PM (w.alloc (.cells #[.string ⟨#[c]⟩, .slice none 0 0, .pointer none] 113 (0, 0))).drew mb n sc) := PM.below (w := w.drew) HPM.out ((Below.refl _ _).alloc (Nat.le_refl _) _)
    have SXA := SX10
    clear SX10
    go_wp2_with (first
      | (at_mapUpdate; refine store_sc rfl _ _ _ rfl (c := c) (b := w.heap.size) HPA.out (by unfold maxLen; omega) rfl rfl rfl ?_; intro w3 hp3 hg3; have HP3 := hid hp3; have HG3 := hid hg3; have k3 := cellG hg3 (by simp; omega) hbm SXA; have hz3 := Nat.lt_of_lt_of_le hbl (Nat.le_trans (by simp) hg3.size); clear hp3 hg3 SXA)
      | (at_lookup; refine look_sc rfl _ _ rfl HP3.out (c := c) (some w.heap.size) (by simp [sput]) rfl rfl ?_))
    go_ret
    refine ⟨w.heap.size, _, _, rfl, SS.undrew (SS.mono (SS.name (w := w.drew) (HST.out.below (below_drw (Below.refl _ _))) (HG.out.kc (KC.below (below_drw (Below.refl _ _)))) HBB.out hz HS.out HV.out HA.out HP3.out HG3.out) (by simp [Ty.size])), .var (nput_same _ _ _) HV.out (by simp [sput])⟩
set_option maxHeartbeats 8000000 in
theorem sh_c0 {c : UInt8} (hv : isV c = false) (ha : ar c = some 0)  : ShAt (.leaf c) := by
  intro w b lo mb n sc N z0 B hst hg hB hz hn hnode
  have HST := hid hst
  have HG := hid hg
  have HBB := hid hB
  have HV := hid hv
  have hmbl := hst.pm.lt
  obtain ⟨-, v, hh, hrow⟩ := hnode
  obtain ⟨a, cap, rfl⟩ := row_slice hrow
  have k0 := heap_cell hh 0
  have k1 := heap_cell hh 1
  have hbl := lt_of_heap hh
  have HROW := hid (row_mono hrow (Nat.zero_le lo))
  have HISM := hid hst.pm.isMap
  have HA := hid ha
  have hsz : n + 1 ≤ 1000000 := by simp [Ty.size] at hn; omega
  have HO0 : Hid (OS w (w.alloc (.cells #[.string ⟨#[c]⟩, .slice none 0 0, .pointer none] 113 (0, 0))) mb n sc N N sc z0 B w.heap.size c [] none 0) := OS.init hst hg hB c
  have HK0 : Hid (KC w (w.alloc (.cells #[.string ⟨#[c]⟩, .slice none 0 0, .pointer none] 113 (0, 0)))) := KC.map HO0.out.gr HISM.out
  clear hst hg hB hv hh hrow ha hn
  go_enter Try.func65, Try.ntmps65
  go_wp2_with (first | (go_at_call 67; refine (isVar_two HV.out _).mono ?_; rintro e w' ⟨rfl, rfl⟩))
  refine wp_loop_rounds 1 ?_
  rw [rounds_succ]
  go_wp2_with fail
  go_ret
  have hrep : Rep (nput N w.heap.size (c, [])) sc w.heap.size (.leaf c) := .n0 (nput_same _ _ _) HV.out
  exact ⟨w.heap.size, _, _, rfl, SS.mono (HO0.out.close hz HA.out hrep (by simp)) (by simp [Ty.size]; try omega), hrep⟩
set_option maxHeartbeats 8000000 in
theorem sh_c1 {c : UInt8} {t1 : Ty} (hv : isV c = false) (ha : ar c = some 1) (ih0 : ShAt t1) : ShAt (.one c t1) := by
  intro w b lo mb n sc N z0 B hst hg hB hz hn hnode
  have HST := hid hst
  have HG := hid hg
  have HBB := hid hB
  have HV := hid hv
  have hmbl := hst.pm.lt
  obtain ⟨-, v, p, hh, hrow, hn0⟩ := hnode
  obtain ⟨a, cap, rfl⟩ := row_slice hrow
  have k0 := heap_cell hh 0
  have k1 := heap_cell hh 1
  have hbl := lt_of_heap hh
  have HROW := hid (row_mono hrow (Nat.zero_le lo))
  have HISM := hid hst.pm.isMap
  have HA := hid ha
  have HN0 := hid hn0
  have IH0 := hid ih0
  clear hn0 ih0
  have hsz : n + t1.size + 1 ≤ 1000000 := by simp [Ty.size] at hn; omega
  have HO0 : Hid (OS w (w.alloc (.cells #[.string ⟨#[c]⟩, .slice none 0 0, .pointer none] 113 (0, 0))) mb n sc N N sc z0 B w.heap.size c [] none 0) := OS.init hst hg hB c
  have HK0 : Hid (KC w (w.alloc (.cells #[.string ⟨#[c]⟩, .slice none 0 0, .pointer none] 113 (0, 0)))) := KC.map HO0.out.gr HISM.out
  clear hst hg hB hv hh hrow ha hn
  go_enter Try.func65, Try.ntmps65
  go_wp2_with (first | (go_at_call 67; refine (isVar_two HV.out _).mono ?_; rintro e w' ⟨rfl, rfl⟩))
  refine wp_loop_rounds 2 ?_
  generalize hO : w.heap.size = O at *
  generalize (w.alloc (.cells #[.string ⟨#[c]⟩, .slice none 0 0, .pointer none] 113 (0, 0))) = V0 at *
  clear k0 k1
  obtain ⟨g0, eg0, k0, hk0⟩ := row_part (ps := [p]) (KC.row HK0.out HROW.out) (j := 0) (p := p) rfl (by simp)
  subst eg0
  have d0 : V0.cell? ⟨O, 1, none⟩ = some (.slice none 0 0) := heap_cell HO0.out.ob 1
  have hzv0 : O ≤ V0.heap.size := Nat.le_of_lt (lt_of_heap HO0.out.ob)
  rw [rounds_succ]
  go_wp2_with fail
  refine wp_region_any (by kernel_rfl) ?_
  change wpAny _ _ _ _ _ _ _ (World.drew _)
  refine wpAny_of_T (S := fun X => True) (m := 13) _ _ _ _ ?_
  refine wpAnyT_take (i := 0) (v := .pointer (some ⟨O, 0, none⟩)) rfl (by kernel_rfl) (by kernel_rfl) (by kernel_rfl) (by kernel_rfl) (fun _ _ _ h => h) (Or.inl ⟨by kernel_rfl, fun X hS => by clear hS; go_simp⟩) trivial ?_
  try go_simp
  refine wpAnyT_take (i := 1) (v := .pointer (some ⟨O, 0, none⟩)) rfl (by kernel_rfl) (by kernel_rfl) (by kernel_rfl) (by kernel_rfl) (fun _ _ _ h => h) (Or.inl ⟨by kernel_rfl, fun X hS => by clear hS; go_simp⟩) trivial ?_
  try go_simp
  refine wpAnyT_take (i := 2) (v := .pointer (some ⟨O, 0, none⟩)) rfl (by kernel_rfl) (by kernel_rfl) (by kernel_rfl) (by kernel_rfl) (fun _ _ _ h => h) (Or.inl ⟨by kernel_rfl, fun X hS => by clear hS; go_simp⟩) trivial ?_
  try go_simp
  refine wpAnyT_take (i := 3) (v := .pointer (some ⟨O, 1, none⟩)) rfl (by kernel_rfl) (by kernel_rfl) (by kernel_rfl) (by kernel_rfl) (fun _ _ _ h => h) (Or.inl ⟨by kernel_rfl, fun X hS => by clear hS; go_simp⟩) trivial ?_
  try go_simp
  refine wpAnyT_take (i := 5) (v := .pointer (some ⟨p, 0, none⟩)) rfl (by kernel_rfl) (by kernel_rfl) (by kernel_rfl) (by kernel_rfl) (fun _ _ _ h => h) (Or.inl ⟨by kernel_rfl, fun X hS => by clear hS; go_simp⟩) trivial ?_
  try go_simp
  refine wpAnyT_take (i := 6) (v := .map (some mb)) rfl (by kernel_rfl) (by kernel_rfl) (by kernel_rfl) (by kernel_rfl) (fun _ _ _ h => h) (Or.inl ⟨by kernel_rfl, fun X hS => by clear hS; go_simp⟩) trivial ?_
  try go_simp
  have SX : V0.drew.cell? ⟨O, 1, none⟩ = some (.slice none 0 0) := d0
  refine wpAnyT_true (S := fun X => X.cell? ⟨O, 1, none⟩ = some (.slice none 0 0)) (m := 9) _ _ _ _ ?_
  refine wpAnyT_take (i := 4) (v := .slice none 0 0) rfl (by kernel_rfl) (by kernel_rfl) (by kernel_rfl) (by kernel_rfl) (fun _ _ _ h => h) (Or.inl ⟨by kernel_rfl, fun X hS => by have e0 := hS; clear d0; go_simp⟩) SX ?_
  try go_simp
  refine wpAnyT_one 7 rfl (by kernel_rfl) (fun K hK => ?_)
  go_simp
  refine (IH0.out V0.drew p lo mb (n) sc N z0 (fun k => B k ∨ (Value.slice none [].length 0).ownBlock = some k) HO0.out.drew.st HO0.out.drew.gh HO0.out.drew.bnd (by show z0 ≤ V0.heap.size; omega) (by omega) (KC.inode (KC.trans HK0.out (KC.below (below_drw (Below.refl _ _)))) HN0.out)).mono ?_
  rintro e W0 ⟨b0, N0, sc0, rfl, hss0, hrep0⟩
  have HP0 := hid (HO0.out.drew.after hss0)
  have HR0 := hid hrep0
  have HS0 := hid hss0
  clear hss0 hrep0
  have SX7 : W0.cell? ⟨O, 1, none⟩ = some (.slice none 0 0) := heap_cell HP0.out.ob 1
  refine hK _ _ (fun _ => SX7) ?_
  clear hK K
  clear SX
  have SX8 : (W0.alloc (.cells #[ptr b0] 81 (0, 0))).cell? ⟨O, 1, none⟩ = some (.slice none 0 0) := heap_cell (hb_alloc HP0.out.ob _) 1
  refine wpAnyT_one 8 rfl (by kernel_rfl) (fun K hK => ?_)
  go_simp
  refine hK _ _ (fun _ => SX8) ?_
  clear hK K
  clear SX7
  refine wpAnyT_drop _ 9 _ _ _ (by decide) (by kernel_rfl) ?_
  change wpList _ _ _ [_, _, _, _] _ _
  have hzw0 := lt_of_heap HP0.out.ob
  go_wp2_with (first
    | (at_builtin; refine app_push_at 111 81 (.pointer none) 1 8 Try.underlying111 infoPN rfl (by decide) rfl _ _ rfl (O + 1) (.slice none 0 0) 0 [] rfl (World.ownsRow.alloc HP0.out.row _) W0.heap.size 1 [ptr b0] rfl rfl (news_one (heap_cell (heap_alloc_new _ _) 0)) (by simp [Value.oneCell']) (by decide) (by decide) (by have := hzw0; simp only [World.size_alloc]; omega) ?_; intro g10 cap10 w80 hown hgr hlie; have HQ0 := hid (HP0.out.push (b := b0) hgr hown hlie); have ob8 := HP0.out.ob8 hgr; have c8 := heap_cell ob8 1; have f8 := heap_free ob8 1; have hl8 := lt_of_heap ob8; clear hown hgr hlie ob8 SX8))
  clear c8 f8 hl8 k0 d0
  have HO1 : Hid (OS w (w80.setCell ⟨O, 1, none⟩ (.slice (some ⟨g10, 0, none⟩) 1 cap10)) mb (n + t1.size) sc0 N0 N sc z0 B O c [b0] (some ⟨g10, 0, none⟩) cap10) := HQ0.out
  have HK1 : Hid (KC w (w80.setCell ⟨O, 1, none⟩ (.slice (some ⟨g10, 0, none⟩) 1 cap10))) := KC.map HO1.out.gr HISM.out
  clear HQ0
  generalize (w80.setCell ⟨O, 1, none⟩ (.slice (some ⟨g10, 0, none⟩) 1 cap10)) = V1 at *
  rw [rounds_succ]
  go_wp2_with fail
  go_ret
  have hrep : Rep (nput N0 O (c, [b0])) sc0 O (.one c t1) := .n1 (nput_same _ _ _) HV.out (HR0.out.mono (nput_sub HO1.out.no) (fun _ _ h => h))
  exact ⟨O, _, _, rfl, SS.mono (HO1.out.close (by omega) HA.out hrep (fun x hx => by simp at hx; subst hx; exact HR0.out.node)) (by simp [Ty.size]; try omega), hrep⟩
set_option maxHeartbeats 8000000 in
theorem sh_c2 {c : UInt8} {t1 t2 : Ty} (hv : isV c = false) (ha : ar c = some 2) (ih0 : ShAt t1) (ih1 : ShAt t2) : ShAt (.two c t1 t2) := by
  intro w b lo mb n sc N z0 B hst hg hB hz hn hnode
  have HST := hid hst
  have HG := hid hg
  have HBB := hid hB
  have HV := hid hv
  have hmbl := hst.pm.lt
  obtain ⟨-, v, p, q, hh, hrow, hn0, hn1⟩ := hnode
  obtain ⟨a, cap, rfl⟩ := row_slice hrow
  have k0 := heap_cell hh 0
  have k1 := heap_cell hh 1
  have hbl := lt_of_heap hh
  have HROW := hid (row_mono hrow (Nat.zero_le lo))
  have HISM := hid hst.pm.isMap
  have HA := hid ha
  have HN0 := hid hn0
  have IH0 := hid ih0
  clear hn0 ih0
  have HN1 := hid hn1
  have IH1 := hid ih1
  clear hn1 ih1
  have hsz : n + t1.size + t2.size + 1 ≤ 1000000 := by simp [Ty.size] at hn; omega
  have HO0 : Hid (OS w (w.alloc (.cells #[.string ⟨#[c]⟩, .slice none 0 0, .pointer none] 113 (0, 0))) mb n sc N N sc z0 B w.heap.size c [] none 0) := OS.init hst hg hB c
  have HK0 : Hid (KC w (w.alloc (.cells #[.string ⟨#[c]⟩, .slice none 0 0, .pointer none] 113 (0, 0)))) := KC.map HO0.out.gr HISM.out
  clear hst hg hB hv hh hrow ha hn
  go_enter Try.func65, Try.ntmps65
  go_wp2_with (first | (go_at_call 67; refine (isVar_two HV.out _).mono ?_; rintro e w' ⟨rfl, rfl⟩))
  refine wp_loop_rounds 3 ?_
  generalize hO : w.heap.size = O at *
  generalize (w.alloc (.cells #[.string ⟨#[c]⟩, .slice none 0 0, .pointer none] 113 (0, 0))) = V0 at *
  clear k0 k1
  obtain ⟨g0, eg0, k0, hk0⟩ := row_part (ps := [p, q]) (KC.row HK0.out HROW.out) (j := 0) (p := p) rfl (by simp)
  subst eg0
  have d0 : V0.cell? ⟨O, 1, none⟩ = some (.slice none 0 0) := heap_cell HO0.out.ob 1
  have hzv0 : O ≤ V0.heap.size := Nat.le_of_lt (lt_of_heap HO0.out.ob)
  rw [rounds_succ]
  go_wp2_with fail
  refine wp_region_any (by kernel_rfl) ?_
  change wpAny _ _ _ _ _ _ _ (World.drew _)
  refine wpAny_of_T (S := fun X => True) (m := 13) _ _ _ _ ?_
  refine wpAnyT_take (i := 0) (v := .pointer (some ⟨O, 0, none⟩)) rfl (by kernel_rfl) (by kernel_rfl) (by kernel_rfl) (by kernel_rfl) (fun _ _ _ h => h) (Or.inl ⟨by kernel_rfl, fun X hS => by clear hS; go_simp⟩) trivial ?_
  try go_simp
  refine wpAnyT_take (i := 1) (v := .pointer (some ⟨O, 0, none⟩)) rfl (by kernel_rfl) (by kernel_rfl) (by kernel_rfl) (by kernel_rfl) (fun _ _ _ h => h) (Or.inl ⟨by kernel_rfl, fun X hS => by clear hS; go_simp⟩) trivial ?_
  try go_simp
  refine wpAnyT_take (i := 2) (v := .pointer (some ⟨O, 0, none⟩)) rfl (by kernel_rfl) (by kernel_rfl) (by kernel_rfl) (by kernel_rfl) (fun _ _ _ h => h) (Or.inl ⟨by kernel_rfl, fun X hS => by clear hS; go_simp⟩) trivial ?_
  try go_simp
  refine wpAnyT_take (i := 3) (v := .pointer (some ⟨O, 1, none⟩)) rfl (by kernel_rfl) (by kernel_rfl) (by kernel_rfl) (by kernel_rfl) (fun _ _ _ h => h) (Or.inl ⟨by kernel_rfl, fun X hS => by clear hS; go_simp⟩) trivial ?_
  try go_simp
  refine wpAnyT_take (i := 5) (v := .pointer (some ⟨p, 0, none⟩)) rfl (by kernel_rfl) (by kernel_rfl) (by kernel_rfl) (by kernel_rfl) (fun _ _ _ h => h) (Or.inl ⟨by kernel_rfl, fun X hS => by clear hS; go_simp⟩) trivial ?_
  try go_simp
  refine wpAnyT_take (i := 6) (v := .map (some mb)) rfl (by kernel_rfl) (by kernel_rfl) (by kernel_rfl) (by kernel_rfl) (fun _ _ _ h => h) (Or.inl ⟨by kernel_rfl, fun X hS => by clear hS; go_simp⟩) trivial ?_
  try go_simp
  have SX : V0.drew.cell? ⟨O, 1, none⟩ = some (.slice none 0 0) := d0
  refine wpAnyT_true (S := fun X => X.cell? ⟨O, 1, none⟩ = some (.slice none 0 0)) (m := 9) _ _ _ _ ?_
  refine wpAnyT_take (i := 4) (v := .slice none 0 0) rfl (by kernel_rfl) (by kernel_rfl) (by kernel_rfl) (by kernel_rfl) (fun _ _ _ h => h) (Or.inl ⟨by kernel_rfl, fun X hS => by have e0 := hS; clear d0; go_simp⟩) SX ?_
  try go_simp
  refine wpAnyT_one 7 rfl (by kernel_rfl) (fun K hK => ?_)
  go_simp
  refine (IH0.out V0.drew p lo mb (n) sc N z0 (fun k => B k ∨ (Value.slice none [].length 0).ownBlock = some k) HO0.out.drew.st HO0.out.drew.gh HO0.out.drew.bnd (by show z0 ≤ V0.heap.size; omega) (by omega) (KC.inode (KC.trans HK0.out (KC.below (below_drw (Below.refl _ _)))) HN0.out)).mono ?_
  rintro e W0 ⟨b0, N0, sc0, rfl, hss0, hrep0⟩
  have HP0 := hid (HO0.out.drew.after hss0)
  have HR0 := hid hrep0
  have HS0 := hid hss0
  clear hss0 hrep0
  have SX7 : W0.cell? ⟨O, 1, none⟩ = some (.slice none 0 0) := heap_cell HP0.out.ob 1
  refine hK _ _ (fun _ => SX7) ?_
  clear hK K
  clear SX
  have SX8 : (W0.alloc (.cells #[ptr b0] 81 (0, 0))).cell? ⟨O, 1, none⟩ = some (.slice none 0 0) := heap_cell (hb_alloc HP0.out.ob _) 1
  refine wpAnyT_one 8 rfl (by kernel_rfl) (fun K hK => ?_)
  go_simp
  refine hK _ _ (fun _ => SX8) ?_
  clear hK K
  clear SX7
  refine wpAnyT_drop _ 9 _ _ _ (by decide) (by kernel_rfl) ?_
  change wpList _ _ _ [_, _, _, _] _ _
  have hzw0 := lt_of_heap HP0.out.ob
  go_wp2_with (first
    | (at_builtin; refine app_push_at 111 81 (.pointer none) 1 8 Try.underlying111 infoPN rfl (by decide) rfl _ _ rfl (O + 1) (.slice none 0 0) 0 [] rfl (World.ownsRow.alloc HP0.out.row _) W0.heap.size 1 [ptr b0] rfl rfl (news_one (heap_cell (heap_alloc_new _ _) 0)) (by simp [Value.oneCell']) (by decide) (by decide) (by have := hzw0; simp only [World.size_alloc]; omega) ?_; intro g10 cap10 w80 hown hgr hlie; have HQ0 := hid (HP0.out.push (b := b0) hgr hown hlie); have ob8 := HP0.out.ob8 hgr; have c8 := heap_cell ob8 1; have f8 := heap_free ob8 1; have hl8 := lt_of_heap ob8; clear hown hgr hlie ob8 SX8))
  clear c8 f8 hl8 k0 d0
  have HO1 : Hid (OS w (w80.setCell ⟨O, 1, none⟩ (.slice (some ⟨g10, 0, none⟩) 1 cap10)) mb (n + t1.size) sc0 N0 N sc z0 B O c [b0] (some ⟨g10, 0, none⟩) cap10) := HQ0.out
  have HK1 : Hid (KC w (w80.setCell ⟨O, 1, none⟩ (.slice (some ⟨g10, 0, none⟩) 1 cap10))) := KC.map HO1.out.gr HISM.out
  clear HQ0
  generalize (w80.setCell ⟨O, 1, none⟩ (.slice (some ⟨g10, 0, none⟩) 1 cap10)) = V1 at *
  obtain ⟨g1, eg1, k1, hk1⟩ := row_part (ps := [p, q]) (KC.row HK1.out HROW.out) (j := 1) (p := q) rfl (by simp)
  cases eg1
  have d1 : V1.cell? ⟨O, 1, none⟩ = some (.slice (some ⟨g10, 0, none⟩) 1 cap10) := heap_cell HO1.out.ob 1
  have hzv1 : O ≤ V1.heap.size := Nat.le_of_lt (lt_of_heap HO1.out.ob)
  rw [rounds_succ]
  go_wp2_with fail
  refine wp_region_any (by kernel_rfl) ?_
  change wpAny _ _ _ _ _ _ _ (World.drew _)
  refine wpAny_of_T (S := fun X => True) (m := 13) _ _ _ _ ?_
  refine wpAnyT_take (i := 0) (v := .pointer (some ⟨O, 0, none⟩)) rfl (by kernel_rfl) (by kernel_rfl) (by kernel_rfl) (by kernel_rfl) (fun _ _ _ h => h) (Or.inl ⟨by kernel_rfl, fun X hS => by clear hS; go_simp⟩) trivial ?_
  try go_simp
  refine wpAnyT_take (i := 1) (v := .pointer (some ⟨O, 0, none⟩)) rfl (by kernel_rfl) (by kernel_rfl) (by kernel_rfl) (by kernel_rfl) (fun _ _ _ h => h) (Or.inl ⟨by kernel_rfl, fun X hS => by clear hS; go_simp⟩) trivial ?_
  try go_simp
  refine wpAnyT_take (i := 2) (v := .pointer (some ⟨O, 0, none⟩)) rfl (by kernel_rfl) (by kernel_rfl) (by kernel_rfl) (by kernel_rfl) (fun _ _ _ h => h) (Or.inl ⟨by kernel_rfl, fun X hS => by clear hS; go_simp⟩) trivial ?_
  try go_simp
  refine wpAnyT_take (i := 3) (v := .pointer (some ⟨O, 1, none⟩)) rfl (by kernel_rfl) (by kernel_rfl) (by kernel_rfl) (by kernel_rfl) (fun _ _ _ h => h) (Or.inl ⟨by kernel_rfl, fun X hS => by clear hS; go_simp⟩) trivial ?_
  try go_simp
  refine wpAnyT_take (i := 5) (v := .pointer (some ⟨q, 0, none⟩)) rfl (by kernel_rfl) (by kernel_rfl) (by kernel_rfl) (by kernel_rfl) (fun _ _ _ h => h) (Or.inl ⟨by kernel_rfl, fun X hS => by clear hS; go_simp⟩) trivial ?_
  try go_simp
  refine wpAnyT_take (i := 6) (v := .map (some mb)) rfl (by kernel_rfl) (by kernel_rfl) (by kernel_rfl) (by kernel_rfl) (fun _ _ _ h => h) (Or.inl ⟨by kernel_rfl, fun X hS => by clear hS; go_simp⟩) trivial ?_
  try go_simp
  have SX : V1.drew.cell? ⟨O, 1, none⟩ = some (.slice (some ⟨g10, 0, none⟩) 1 cap10) := d1
  refine wpAnyT_true (S := fun X => X.cell? ⟨O, 1, none⟩ = some (.slice (some ⟨g10, 0, none⟩) 1 cap10)) (m := 9) _ _ _ _ ?_
  refine wpAnyT_take (i := 4) (v := .slice (some ⟨g10, 0, none⟩) 1 cap10) rfl (by kernel_rfl) (by kernel_rfl) (by kernel_rfl) (by kernel_rfl) (fun _ _ _ h => h) (Or.inl ⟨by kernel_rfl, fun X hS => by have e0 := hS; clear d1; go_simp⟩) SX ?_
  try go_simp
  refine wpAnyT_one 7 rfl (by kernel_rfl) (fun K hK => ?_)
  go_simp
  refine (IH1.out V1.drew q lo mb (n + t1.size) sc0 N0 z0 (fun k => B k ∨ (Value.slice (some ⟨g10, 0, none⟩) [b0].length cap10).ownBlock = some k) HO1.out.drew.st HO1.out.drew.gh HO1.out.drew.bnd (by show z0 ≤ V1.heap.size; omega) (by omega) (KC.inode (KC.trans HK1.out (KC.below (below_drw (Below.refl _ _)))) HN1.out)).mono ?_
  rintro e W1 ⟨b1, N1, sc1, rfl, hss1, hrep1⟩
  have HP1 := hid (HO1.out.drew.after hss1)
  have HR1 := hid hrep1
  have HS1 := hid hss1
  clear hss1 hrep1
  have SX7 : W1.cell? ⟨O, 1, none⟩ = some (.slice (some ⟨g10, 0, none⟩) 1 cap10) := heap_cell HP1.out.ob 1
  refine hK _ _ (fun _ => SX7) ?_
  clear hK K
  clear SX
  have SX8 : (W1.alloc (.cells #[ptr b1] 81 (0, 0))).cell? ⟨O, 1, none⟩ = some (.slice (some ⟨g10, 0, none⟩) 1 cap10) := heap_cell (hb_alloc HP1.out.ob _) 1
  refine wpAnyT_one 8 rfl (by kernel_rfl) (fun K hK => ?_)
  go_simp
  refine hK _ _ (fun _ => SX8) ?_
  clear hK K
  clear SX7
  refine wpAnyT_drop _ 9 _ _ _ (by decide) (by kernel_rfl) ?_
  change wpList _ _ _ [_, _, _, _] _ _
  have hzw1 := lt_of_heap HP1.out.ob
  go_wp2_with (first
    | (at_builtin; refine app_push_at 111 81 (.pointer none) 1 8 Try.underlying111 infoPN rfl (by decide) rfl _ _ rfl (O + 1) (.slice (some ⟨g10, 0, none⟩) 1 cap10) 1 [ptr b0] rfl (World.ownsRow.alloc HP1.out.row _) W1.heap.size 1 [ptr b1] rfl rfl (news_one (heap_cell (heap_alloc_new _ _) 0)) (by simp [Value.oneCell']) (by decide) (by decide) (by have := hzw1; simp only [World.size_alloc]; omega) ?_; intro g11 cap11 w81 hown hgr hlie; have HQ1 := hid (HP1.out.push (b := b1) hgr hown hlie); have ob8 := HP1.out.ob8 hgr; have c8 := heap_cell ob8 1; have f8 := heap_free ob8 1; have hl8 := lt_of_heap ob8; clear hown hgr hlie ob8 SX8))
  clear c8 f8 hl8 k1 d1
  have HO2 : Hid (OS w (w81.setCell ⟨O, 1, none⟩ (.slice (some ⟨g11, 0, none⟩) 2 cap11)) mb (n + t1.size + t2.size) sc1 N1 N sc z0 B O c [b0, b1] (some ⟨g11, 0, none⟩) cap11) := HQ1.out
  have HK2 : Hid (KC w (w81.setCell ⟨O, 1, none⟩ (.slice (some ⟨g11, 0, none⟩) 2 cap11))) := KC.map HO2.out.gr HISM.out
  clear HQ1
  generalize (w81.setCell ⟨O, 1, none⟩ (.slice (some ⟨g11, 0, none⟩) 2 cap11)) = V2 at *
  rw [rounds_succ]
  go_wp2_with fail
  go_ret
  have hrep : Rep (nput N1 O (c, [b0, b1])) sc1 O (.two c t1 t2) := .n2 (nput_same _ _ _) HV.out ((HR0.out.mono HS1.out.sub HS1.out.scs).mono (nput_sub HO2.out.no) (fun _ _ h => h)) (HR1.out.mono (nput_sub HO2.out.no) (fun _ _ h => h))
  exact ⟨O, _, _, rfl, SS.mono (HO2.out.close (by omega) HA.out hrep (fun x hx => by simp at hx; rcases hx with rfl | rfl; exact (HR0.out.mono HS1.out.sub HS1.out.scs).node; exact HR1.out.node)) (by simp [Ty.size]; try omega), hrep⟩
theorem share_any : ∀ (t : Ty), t.WF → ShAt t := by
  intro t
  induction t with
  | leaf c =>
    intro h
    cases hv : isV c with
    | true => exact sh_var hv h
    | false => exact sh_c0 hv h
  | one c t ih =>
    intro h
    cases hv : isV c with
    | true => have := isV_ar hv; rw [h.1] at this; simp at this
    | false => exact sh_c1 hv h.1 (ih h.2)
  | two c t u i1 i2 =>
    intro h
    cases hv : isV c with
    | true => have := isV_ar hv; rw [h.1] at this; simp at this
    | false => exact sh_c2 hv h.1 (i1 h.2.1) (i2 h.2.2)
set_option maxHeartbeats 4000000 in
theorem fresh_any (l : List UInt8) (t : Ty) (h : ty l = some t) (w : World) (mb n : Nat) (sc : Sco) (N : Nds) (z0 : Nat) (B : Nat → Prop) (hst : ST w mb n sc N z0) (hg : GH w N L0 B) (hB : ∀ k, B k → k < w.heap.size) (hz : z0 ≤ w.heap.size) (hn : n + t.size ≤ 1000000) :
    Calls Try.prog 41 #[.string ⟨l.toArray⟩, .map (some mb)] w (ShPost w mb (n + t.size) N sc z0 B t) := by
  obtain ⟨rfl, hw, hl⟩ := ty_some h
  have hp := parse_text t hw t.text.length [] (Nat.le_refl _)
  simp only [List.append_nil] at hp
  have ho := (readType_all t.text.length t.text (Nat.le_refl _) (by simp [maxLen]; omega)).1 _ _ hp
  have HS := hid (share_any t hw)
  have HO := hid ho
  have HST := hid hst
  have HG := hid hg
  have HBB := hid hB
  clear hp h hw hl ho hst hg hB
  generalize t.text = l at *
  go_enter Try.func41, Try.ntmps41
  go_wp2_with (first
    | (go_at_call 64; refine (HO.out _).mono ?_; rintro e w1 ⟨b, rfl, hn1, hb⟩; have HN := hid hn1; have HB := hid hb; have hz1 := hb.size; clear hn1 hb)
    | (go_at_call 65; refine (HS.out w1 b _ mb n sc N z0 B (HST.out.below HB.out) (HG.out.kc (KC.below HB.out)) (fun k hk => Nat.lt_of_lt_of_le (HBB.out k hk) hz1) (by omega) hn HN.out).mono ?_; rintro e w2 ⟨b2, N2, sc2, rfl, hss, hrep⟩; have HSS := hid hss; have HR := hid hrep; clear hss hrep))
  go_ret
  exact ⟨b2, N2, sc2, rfl, ⟨HSS.out.st, HSS.out.gh, HSS.out.sub, HSS.out.scs, grown_trans (gb' HB.out _) HSS.out.gr, fun k v hk => (HSS.out.new k v hk).imp id (fun h => by omega)⟩, HR.out⟩
end GraS
end Go.Proofs.Ytcjalnianamlaaa
set_option linter.unusedVariables false
set_option linter.unusedSimpArgs false
set_option maxRecDepth 100000
namespace Go.Proofs.Ytcjalnianamlaaa
open Go.RowKit Ty
namespace AptI
open GraP PtrM ListS AptP GraW GraO GraS AptS
theorem st0 (w : World) : ST (w.alloc (.map #[] 0)) w.heap.size 0 (fun _ => none) (fun _ => none) 0 := ⟨⟨fun n c ps h => by simp at h, fun n c ps h => by simp at h⟩, PM.made w, fun c b h => by simp at h, fun k v h => by simp at h, fun k v h => by simp at h, fun c b h => by simp at h⟩
theorem gh0 (w : World) (B : Nat → Prop) : GH w (fun _ => none) L0 B := fun n c ps h => by simp at h
theorem st1 {w w0 : World} {mb n z0 : Nat} {sc sc0 : Sco} {N N0 : Nds} {B : Nat → Prop} (h : SS w0 w mb n sc N N0 sc0 z0 B) : ST (w.alloc (.map #[] 0)) w.heap.size 0 (fun _ => none) N (w.heap.size + 1) :=
  ⟨h.st.wh, PM.made w, fun c b h => by simp at h, fun k v hk hz => by have := h.st.lt k v hk; omega, fun k v hk => by have := h.st.lt k v hk; simp; omega, fun c b h => by simp at h⟩
theorem gh1 {w w0 : World} {mb n z0 : Nat} {sc sc0 : Sco} {N N0 : Nds} {B : Nat → Prop} (h : SS w0 w mb n sc N N0 sc0 z0 B) : GH (w.alloc (.map #[] 0)) N L0 B := h.gh.kc (KC.below ((Below.refl _ _).alloc (Nat.le_refl _) _))
theorem two {w3 w5 w2 : World} {m1 m2 n1 n2 b1 b2 : Nat} {s1 s2 : Sco} {N1 N2 : Nds} {B B' : Nat → Prop} {p q : Ty} (h1 : SS w2 w3 m1 n1 s1 N1 (fun _ => none) (fun _ => none) 0 B) (h2 : SS (w3.alloc (.map #[] 0)) w5 m2 n2 s2 N2 N1 (fun _ => none) (w3.heap.size + 1) B') (r1 : Rep N1 s1 b1 p) (r2 : Rep N2 s2 b2 q) :
    Two N2 s1 s2 b1 b2 p q w5.heap.size where
  wh := h2.st.wh
  lt := h2.st.lt
  all := fun n v hn => by
    rcases h2.new n v hn with h | h
    · obtain ⟨t, ht⟩ := h1.st.news n v h (Nat.zero_le _)
      exact .inl ⟨t, ht.mono h2.sub (fun _ _ h => h)⟩
    · exact .inr (h2.st.news n v hn (by simpa using h))
  sep := fun c d b hc hd => by
    have := h1.st.lt b _ (h1.st.sce c b hc).1
    have := (h2.st.sce d b hd).2
    omega
  let1 := fun c b hc => h2.sub _ _ (h1.st.sce c b hc).1
  let2 := fun c b hc => (h2.st.sce c b hc).1
  left := r1.mono h2.sub (fun _ _ h => h)
  right := r2
theorem bg {B b : Nat} {w0 w w' : World} (h : Below B w0 w) (hg : w.grownBy w' (some b)) (hb : B ≤ b) (hz : B ≤ w.heap.size) : Below B w0 w' := ⟨hg.os.trans h.os, hg.tape.trans h.tape, hg.output.trans h.output, Nat.le_trans h.size hg.size, fun k hk => (hg.block k (by omega) (fun e => by cases e; omega)).trans (h.block k hk)⟩
theorem bt {B : Nat} {N : Nds} {w0 w w' : World} (h : Below B w0 w) (hg : TN N w w') (hN : ∀ k v, N k = some v → B ≤ k) (hz : B ≤ w.heap.size) : Below B w0 w' := ⟨hg.os.trans h.os, hg.tape.trans h.tape, hg.output.trans h.output, Nat.le_trans h.size hg.size, fun k hk => (hg.block k (by omega) (by
    cases e : N k with
    | none => rfl
    | some v => have := hN k v e; omega)).trans (h.block k hk)⟩
theorem size_ty {l : List UInt8} {t : Ty} (h : ty l = some t) : t.size ≤ 60 := by
  obtain ⟨rfl, hw, hl⟩ := ty_some h
  have := count_size t hw
  omega
set_option maxHeartbeats 8000000 in
theorem AreApart_impl (lp lt : List UInt8) (w : World) (hp : lp.length ≤ 1073741824) (ht : lt.length ≤ 1073741824) : Calls Try.prog 24 #[.string ⟨lp.toArray⟩, .string ⟨lt.toArray⟩] w fun e w' => e = .returned (.bool (apB lp lt)) ∧ Below w.heap.size w w' := by
  cases h1 : ty lp with
  | none =>
    have HR : Hid (apB lp lt = false) := apB_n0 h1
    have HZ : Hid ((ty lp).isSome = false) := by show _ = _; rw [h1]; rfl
    clear h1
    go_enter Try.func24, Try.ntmps24
    go_wp2_with (first
      | (go_at_call 40; refine (TypeValid_impl lp _ (by unfold maxLen; omega)).mono ?_; rintro e w1 ⟨rfl, hb⟩; rw [HZ.out]; have HB1 := hid hb; clear hb))
    go_ret
    exact ⟨by rw [HR.out]; rfl, HB1.out⟩
  | some p =>
    have HZ : Hid ((ty lp).isSome = true) := by show _ = _; rw [h1]; rfl
    cases h2 : ty lt with
    | none =>
      have HR : Hid (apB lp lt = false) := apB_n1 h2
      have HZ2 : Hid ((ty lt).isSome = false) := by show _ = _; rw [h2]; rfl
      clear h1 h2
      go_enter Try.func24, Try.ntmps24
      go_wp2_with (first
        | (go_at_call 40; refine (TypeValid_impl lp _ (by unfold maxLen; omega)).mono ?_; rintro e w1 ⟨rfl, hb⟩; rw [HZ.out]; have HB1 := hid hb; clear hb)
        | (go_at_call 40; refine (TypeValid_impl lt _ (by unfold maxLen; omega)).mono ?_; rintro e w2 ⟨rfl, hb⟩; rw [HZ2.out]; have HB2 := hid hb; clear hb))
      go_ret
      exact ⟨by rw [HR.out]; rfl, HB1.out.trans (HB2.out.mono HB1.out.size)⟩
    | some q =>
      have HZ2 : Hid ((ty lt).isSome = true) := by show _ = _; rw [h2]; rfl
      have HT0 := hid h1
      have HT1 := hid h2
      have hsp := size_ty h1
      have hsq := size_ty h2
      clear h1 h2
      have hmm := @run_makeMap Try.prog
      go_enter Try.func24, Try.ntmps24
      go_wp2_with (first
        | (go_at_call 40; refine (TypeValid_impl lp _ (by unfold maxLen; omega)).mono ?_; rintro e w1 ⟨rfl, hb⟩; rw [HZ.out]; have HB1 := hid hb; have hz1 := hb.size; clear hb)
        | (go_at_call 40; refine (TypeValid_impl lt _ (by unfold maxLen; omega)).mono ?_; rintro e w2 ⟨rfl, hb⟩; rw [HZ2.out]; have HB2 : Hid (Below w.heap.size w w2) := HB1.out.trans (hb.mono HB1.out.size); have hz2 := hb.size; clear hb))
      go_wp2_with fail
      refine (fresh_any lp p HT0.out (w2.alloc (.map #[] 0)) w2.heap.size 0 (fun _ => none) (fun _ => none) 0 (fun _ => False) (st0 w2) (gh0 _ _) (fun _ h => h.elim) (Nat.zero_le _) (by omega)).mono ?_
      rintro e w3 ⟨b1, N1, sc1, rfl, hs1, hr1⟩
      have HS1 := hid hs1
      have HR1 := hid hr1
      have hz3 := hs1.gr.size
      simp only [World.size_alloc] at hz3
      clear hs1 hr1
      go_wp2_with fail
      refine (fresh_any lt q HT1.out (w3.alloc (.map #[] 0)) w3.heap.size 0 (fun _ => none) N1 (w3.heap.size + 1) (fun _ => False) (st1 HS1.out) (gh1 HS1.out) (fun _ h => h.elim) (by simp) (by omega)).mono ?_
      rintro e w5 ⟨b2, N2, sc2, rfl, hs2, hr2⟩
      have HS2 := hid hs2
      have HR2 := hid hr2
      have hz5 := hs2.gr.size
      simp only [World.size_alloc] at hz5
      clear hs2 hr2
      go_wp2_with fail
      clear hmm
      have HT : Hid (Two N2 sc1 sc2 b1 b2 p q w5.heap.size) := two HS1.out HS2.out HR1.out HR2.out
      obtain ⟨r, L, hug, hgw, hf, ht⟩ := impl_iff HT.out
      have HU := hid (unify_any HT.out.wh (ug2 HT.out.wh hug))
      have HNL : Hid (NL N2 L) := fun n b h => (hgw.node n b h).2
      have HN1 : Hid (∀ k v, N1 k = some v → w.heap.size ≤ k) := fun k v hk => by
        rcases HS1.out.new k v hk with h | h
        · simp at h
        · simp at h; omega
      have HN2 : Hid (∀ k v, N2 k = some v → w.heap.size ≤ k) := fun k v hk => by
        rcases HS2.out.new k v hk with h | h
        · exact HN1.out k v h
        · simp at h; omega
      have HF := hid hf
      have HTT := hid ht
      have HB3 : Hid (Below w.heap.size w w3) := bg (HB2.out.alloc (by omega) _) HS1.out.gr (by omega) (by simp; omega)
      have HB5 : Hid (Below w.heap.size w w5) := bg (HB3.out.alloc (by omega) _) HS2.out.gr (by omega) (by simp; omega)
      clear hug hgw hf ht
      refine (HU.out w5 (fun _ => False) HS2.out.gh (fun n b h => by simp [L0] at h) HT.out.left.node HT.out.right.node).mono ?_
      rintro e w6 ⟨rfl, hg6, htn6⟩
      have HG6 := hid hg6
      have HB6 : Hid (Below w.heap.size w w6) := bt HB5.out htn6 HN2.out (by omega)
      have hz6 := htn6.size
      clear hg6 htn6
      cases r with
      | false =>
        have HRR : Hid (apB lp lt = true) := apB_some (r := false) HT0.out HT1.out (by simpa using HF.out rfl)
        go_wp2_with fail
        go_ret
        exact ⟨by rw [HRR.out]; rfl, HB6.out⟩
      | true =>
        obtain ⟨o, ho1, ho2⟩ := HTT.out rfl
        have HRR : Hid (apB lp lt = !o.isSome) := apB_some HT0.out HT1.out ho2
        have HE := hid ho1
        clear ho1 ho2
        go_wp2_with fail
        refine (ends_any HT.out.wh HE.out w6 _ HG6.out HNL.out HT.out.left.node).mono ?_
        rintro e w7 ⟨rfl, hb7⟩
        have HB7 : Hid (Below w.heap.size w w7) := HB6.out.trans (hb7.mono (by omega))
        clear hb7
        cases o with
        | none =>
          go_wp2_with fail
          go_ret
          exact ⟨by rw [HRR.out]; rfl, HB7.out⟩
        | some D =>
          go_wp2_with fail
          go_ret
          exact ⟨by rw [HRR.out]; rfl, HB7.out⟩
end AptI
end Go.Proofs.Ytcjalnianamlaaa
set_option linter.unusedVariables false
set_option linter.unusedSimpArgs false
set_option maxRecDepth 100000
namespace Go.Proofs.Ytcjalnianamlaaa
open Go.RowKit Known Classes Ty IV
open WV HC ListS
namespace Among
/-- the numbers of the instances of a class for which h holds -/
def selB (h : II → Bool) (is : List II) (x : ByteArray) (k : Nat) : List Int := ((List.range k).filter (fun i => match is[i]? with | some p => decide (p.1 = x) && h p | none => false)).map Int.ofNat
theorem selB_zero (h : II → Bool) (is : List II) (x : ByteArray) : selB h is x 0 = [] := rfl
theorem selB_step {h : II → Bool} {is : List II} {x : ByteArray} {k : Nat} {p : II} (hp : is[k]? = some p) : selB h is x (k + 1) = selB h is x k ++ if decide (p.1 = x) && h p then [(k : Int)] else [] := by
  unfold selB
  rw [List.range_succ, List.filter_append, List.map_append]
  congr 1
  simp only [List.filter_cons, List.filter_nil, hp]
  split <;> rfl
theorem selB_len (h : II → Bool) (is : List II) (x : ByteArray) (k : Nat) : (selB h is x k).length ≤ k := by
  unfold selB
  rw [List.length_map]
  simpa using List.length_filter_le _ (List.range k)
theorem infoInt : (Try.prog.info? 3).map (fun i => (i.zero, i.size, i.bytes)) = some (some (.int .i64 0), 1, 8) := by kernel_rfl
/-- a list of numbers, and a truth -/
def LB (w : World) (xs : List Int) (ok : Bool) (e : Ending) (w' : World) : Prop := ∃ v, e = .returned (.tuple #[v, .bool ok]) ∧ w'.ownsRow w.heap.size 3 1 v xs.length (ints xs) ∧ Below w.heap.size w w'
theorem row_nil (w : World) (b : Nat) : w.ownsRow b 3 1 (.slice none 0 0) ([] : List Int).length (ints []) := ⟨by simp [ints], .inl ⟨rfl, rfl⟩⟩
theorem eqInt_b (v v2 : Value) (xs : List Int) (w : World) (b1 b2 : Nat) (hn : xs.length ≤ 1099511627776) (h1 : w.ownsRow b1 3 1 v xs.length (ints xs)) (h2 : w.ownsRow b2 3 1 v2 xs.length (ints xs)) :
    Calls Try.prog 10 #[v, v2] w fun e w' => e = .returned (.bool true) ∧ Below w.heap.size w w' :=
  (eqIntS_same v v2 xs w b1 b2 hn h1 h2).mono (by rintro e w' ⟨rfl, n, rfl⟩; exact ⟨rfl, below_grownN _ _⟩)
theorem eq_b {x y : ByteArray} (h : x = y) : (x.toList == y.toList) = true := by rw [h]; simp
end Among
end Go.Proofs.Ytcjalnianamlaaa
set_option linter.unusedVariables false
set_option linter.unusedSimpArgs false
set_option maxRecDepth 100000
namespace Go.Proofs.Ytcjalnianamlaaa
open Go.RowKit Known Classes Ty IV
open WV HC ListS Among
namespace May
/-- the type of the instance may match the need's -/
noncomputable def hM (cy : List UInt8) : II → Bool := fun p => !AptS.apB p.2.1.data.toList cy
/-- what MayMatch lists -/
noncomputable def mayL (cs : List BB) (is : List II) (xc : ByteArray) (cy : List UInt8) : List Int := if nvB cs is xc cy then selB (hM cy) is xc is.length else []
theorem mayL_no {cs : List BB} {is : List II} {x : ByteArray} {cy : List UInt8} (h : nvB cs is x cy = false) : mayL cs is x cy = [] := by unfold mayL; rw [h]; rfl
theorem mayL_yes {cs : List BB} {is : List II} {x : ByteArray} {cy : List UInt8} (h : nvB cs is x cy = true) : mayL cs is x cy = selB (hM cy) is x is.length := by unfold mayL; rw [h]; rfl
theorem mayL_len (cs : List BB) (is : List II) (x : ByteArray) (cy : List UInt8) : (mayL cs is x cy).length ≤ is.length := by
  unfold mayL
  split
  · exact selB_len _ _ _ _
  · simp
theorem ba_list (x : ByteArray) : ∃ l : List UInt8, x = ⟨l.toArray⟩ := ⟨x.data.toList, rfl⟩
theorem ap_spec (x : ByteArray) (cy : List UInt8) (w : World) (h : x.size ≤ 1048576) (hy : cy.length ≤ 1048576) : Calls Try.prog 18 #[.string x, .string ⟨cy.toArray⟩] w fun e w' => e = .returned (.bool (AptS.apB x.data.toList cy)) ∧ Below w.heap.size w w' := by
  have hx : x.data.toList.length ≤ 1073741824 := by simp; have : x.data.size = x.size := rfl; omega
  exact AptS.AreApart_spec x.data.toList cy w hx (by omega)
theorem ap_impl (x : ByteArray) (cy : List UInt8) (w : World) (h : x.size ≤ 1048576) (hy : cy.length ≤ 1048576) : Calls Try.prog 24 #[.string x, .string ⟨cy.toArray⟩] w fun e w' => e = .returned (.bool (AptS.apB x.data.toList cy)) ∧ Below w.heap.size w w' := by
  have hx : x.data.toList.length ≤ 1073741824 := by simp; have : x.data.size = x.size := rfl; omega
  exact AptI.AreApart_impl x.data.toList cy w hx (by omega)
theorem nv_spec (a b : Option Addr) (cap cap2 : Nat) (cs : List BB) (is : List II) (xc : ByteArray) (cy : List UInt8) (w : World) (hy : cy.length ≤ 1048576) (h0 : tot cs + cs.length ≤ 1048577) (h1 : itot is + is.length ≤ 1048576) (hcap : cs.length ≤ cap) (hs : SP w (.slice a cs.length cap) cs) (hi : SI w (.slice b is.length cap2) is) :
    Calls Try.prog 17 #[.agg #[.slice a cs.length cap, .slice b is.length cap2], .agg #[.string xc, .string ⟨cy.toArray⟩]] w fun e w' => e = .returned (.bool (nvB cs is xc cy)) ∧ Below w.heap.size w w' := by
  obtain ⟨l, rfl⟩ := ba_list xc
  exact NeedValid_spec a b cap cap2 cs is l cy w hy h0 h1 hcap hs hi
theorem nv_impl (a b : Option Addr) (cap cap2 : Nat) (cs : List BB) (is : List II) (xc : ByteArray) (cy : List UInt8) (w : World) (hy : cy.length ≤ 1048576) (h0 : tot cs + cs.length ≤ 1048577) (h1 : itot is + is.length ≤ 1048576) (hcap : cs.length ≤ cap) (hs : SP w (.slice a cs.length cap) cs) (hi : SI w (.slice b is.length cap2) is) :
    Calls Try.prog 21 #[.agg #[.slice a cs.length cap, .slice b is.length cap2], .agg #[.string xc, .string ⟨cy.toArray⟩]] w fun e w' => e = .returned (.bool (nvB cs is xc cy)) ∧ Below w.heap.size w w' := by
  obtain ⟨l, rfl⟩ := ba_list xc
  exact NeedValid_impl a b cap cap2 cs is l cy w hy h0 h1 hcap hs hi
theorem clo_may (x y : ByteArray) (v : Value) (cy : List UInt8) (xc : ByteArray) (bn : Nat) (w : World) (hy : y.size ≤ 1048576) (hcy : cy.length ≤ 1048576) (hX : w.heap[bn]? = some (.cells #[.string xc, .string ⟨cy.toArray⟩] 38 (0, 0))) :
    Calls Try.prog 23 #[.agg #[.string x, .string y, v], .pointer (some ⟨bn, 0, none⟩)] w fun e w' => e = .returned (.bool (hM cy (x, y, []))) ∧ Below w.heap.size w w' := by
  have k0 := heap_cell hX 0
  have k1 := heap_cell hX 1
  have hl := lt_of_heap hX
  clear hX
  go_enter Try.func23, Try.ntmps23
  go_wp2_with fail
  have hb0 : Below w.heap.size w (w.alloc (.cells #[.string x, .string y, v] 50)) := (Below.refl _ _).alloc (Nat.le_refl _) _
  refine (ap_impl y cy _ hy hcy).mono ?_
  rintro e w1 ⟨rfl, hb⟩
  have HB : Hid (Below w.heap.size w w1) := hb0.trans (hb.mono (by simp))
  clear hb hb0 k0 k1
  go_wp2_with fail
  go_ret
  exact ⟨rfl, HB.out⟩
set_option maxHeartbeats 8000000 in
theorem MayMatch_spec (a b : Option Addr) (cap cap2 : Nat) (cs : List BB) (is : List II) (xc : ByteArray) (cy : List UInt8) (w : World) (hcy : cy.length ≤ 1048576) (h0 : tot cs + cs.length ≤ 1048577) (h1 : itot is + is.length ≤ 1048576) (hcap : cs.length ≤ cap) (hs : SP w (.slice a cs.length cap) cs) (hi : SI w (.slice b is.length cap2) is) :
    Calls Try.prog 6 #[.agg #[.slice a cs.length cap, .slice b is.length cap2], .agg #[.string xc, .string ⟨cy.toArray⟩]] w (LB w (mayL cs is xc cy) (nvB cs is xc cy)) := by
  have hil : is.length ≤ 1048576 := by omega
  have HS := hid hs
  have HI := hid hi
  have H0 := hid h0
  have H1 := hid h1
  clear hs hi h0 h1
  go_enter Try.func6, Try.ntmps6
  go_wp2_with fail
  have HBW : Hid (Below w.heap.size w ((w.alloc (.cells #[.slice a cs.length cap, .slice b is.length cap2] 36)).alloc (.cells #[.string xc, .string ⟨cy.toArray⟩] 38))) := ((Below.refl _ _).alloc (Nat.le_refl _) _).alloc (by simp) _
  have HX1 : Hid (((w.alloc (.cells #[.slice a cs.length cap, .slice b is.length cap2] 36)).alloc (.cells #[.string xc, .string ⟨cy.toArray⟩] 38)).heap[w.heap.size]? = some (.cells #[.slice a cs.length cap, .slice b is.length cap2] 36 (0, 0))) := hb_alloc (heap_alloc_new _ _) _
  have HX2 : Hid (((w.alloc (.cells #[.slice a cs.length cap, .slice b is.length cap2] 36)).alloc (.cells #[.string xc, .string ⟨cy.toArray⟩] 38)).heap[w.heap.size + 1]? = some (.cells #[.string xc, .string ⟨cy.toArray⟩] 38 (0, 0))) := heap_alloc2_new _ _ _
  have HO0 : Hid ((((w.alloc (.cells #[.slice a cs.length cap, .slice b is.length cap2] 36)).alloc (.cells #[.string xc, .string ⟨cy.toArray⟩] 38)).alloc (.cells #[] 3)).ownsRow ((w.alloc (.cells #[.slice a cs.length cap, .slice b is.length cap2] 36)).alloc (.cells #[.string xc, .string ⟨cy.toArray⟩] 38)).heap.size 3 1 (.slice (some ⟨((w.alloc (.cells #[.slice a cs.length cap, .slice b is.length cap2] 36)).alloc (.cells #[.string xc, .string ⟨cy.toArray⟩] 38)).heap.size, 0, none⟩) ([] : List Int).length 0) ([] : List Int).length (ints [])) := by
    have := World.ownsRow_made (base := ((w.alloc (.cells #[.slice a cs.length cap, .slice b is.length cap2] 36)).alloc (.cells #[.string xc, .string ⟨cy.toArray⟩] 38)).heap.size) (e := 3) (size := 1) ((w.alloc (.cells #[.slice a cs.length cap, .slice b is.length cap2] 36)).alloc (.cells #[.string xc, .string ⟨cy.toArray⟩] 38)) #[] 0 (by simp) (by simp [maxLen]) rfl
    show World.ownsRow _ _ _ _ _ _ _
    simpa [ints] using this
  have hsz1 : w.heap.size + 1 + 1 = ((w.alloc (.cells #[.slice a cs.length cap, .slice b is.length cap2] 36)).alloc (.cells #[.string xc, .string ⟨cy.toArray⟩] 38)).heap.size := by simp
  rw [hsz1]
  clear hsz1
  generalize ((w.alloc (.cells #[.slice a cs.length cap, .slice b is.length cap2] 36)).alloc (.cells #[.string xc, .string ⟨cy.toArray⟩] 38)) = W at *
  have hzb := HBW.out.size
  have hzs := lt_of_heap HX2.out
  have HBV : Hid (Below W.heap.size W (W.alloc (.cells #[] 3))) := (Below.refl _ _).alloc (Nat.le_refl _) _
  refine (nv_spec a b cap cap2 cs is xc cy (W.alloc (.cells #[] 3)) hcy H0.out H1.out hcap ((HS.out.below HBW.out).below HBV.out) ((HI.out.below HBW.out).below HBV.out)).mono ?_
  rintro e w1 ⟨rfl, hb⟩
  have HB1 : Hid (Below W.heap.size W w1) := HBV.out.trans (hb.mono (by simp))
  have HO1 : Hid (w1.ownsRow W.heap.size 3 1 (.slice (some ⟨W.heap.size, 0, none⟩) ([] : List Int).length 0) ([] : List Int).length (ints [])) := row_below hb HO0.out
  obtain ⟨p10, p11⟩ := keep2 HX1.out HB1.out
  have hz1 := HB1.out.size
  clear hb
  cases hv : nvB cs is xc cy with
  | false =>
    have HT : Hid (mayL cs is xc cy = []) := mayL_no hv
    have HV := hid hv
    clear hv
    go_wp2
    go_ret2
    exact ⟨.slice (some ⟨W.heap.size, 0, none⟩) 0 0, by rw [HV.out]; rfl, by rw [HT.out]; exact row_mono HO1.out hzb, HBW.out.trans (HB1.out.mono HBW.out.size)⟩
  | true =>
    have HT : Hid (mayL cs is xc cy = selB (hM cy) is xc is.length) := mayL_yes hv
    have HV := hid hv
    clear hv
    go_wp2_with fail
    clear p10 p11
    go_loopg [6, 18] is.length (fun q o i wr => ∃ (k g cp : Nat) (xv : List Int), k ≤ is.length ∧ is.length - k ≤ q ∧ Hid (selB ((hM cy)) is xc k = xv) ∧ o = .slice (some ⟨g, 0, none⟩) xv.length cp ∧ i = .int .i64 k ∧ xv.length ≤ k ∧ Hid (wr.ownsRow W.heap.size 3 1 (.slice (some ⟨g, 0, none⟩) xv.length cp) xv.length (ints xv)) ∧ Below W.heap.size W wr)
    case atStart => exact ⟨0, _, 0, [], Nat.zero_le _, by simp, rfl, rfl, rfl, by simp, HO1.out, HB1.out⟩
    case round =>
      obtain ⟨k, g, cp, xv, hk, hq, hxv, rfl, rfl, hxl, hO, hb⟩ := hrel
      have HXV := hid hxv.out
      have HO := hid hO.out
      have HB := hid hb
      have hbz := hb.size
      have hxl2 : xv.length ≤ k + 1 := by omega
      clear hxv hO hb
      by_cases hlt : k < is.length
      · obtain ⟨⟨x, y, ns⟩, hp⟩ : ∃ p, is[k]? = some p := ⟨_, List.getElem?_eq_getElem hlt⟩
        obtain ⟨b2, off, an, cn, rfl, k0, k1, k2, hsn, -, -, hbl⟩ := si_at ((HI.out.below HBW.out).below HB.out) hp
        have HP := hid hp
        have HSN := hid hsn
        clear hp hsn
        obtain ⟨n0, n1⟩ := keep2 HX2.out HB.out
        have hbn : w.heap.size + 1 < wr.heap.size := by omega
        have HBA : Hid (Below W.heap.size W (wr.alloc (.cells #[.string x, .string y, .slice an ns.length cn] 50))) := HB.out.alloc (by omega) _
        have HOA : Hid ((wr.alloc (.cells #[.string x, .string y, .slice an ns.length cn] 50)).ownsRow W.heap.size 3 1 (.slice (some ⟨g, 0, none⟩) xv.length cp) xv.length (ints xv)) := World.ownsRow.alloc HO.out _
        by_cases hxe : x = xc
        · have he := str_eq hxe
          have hyb : y.size ≤ 1048576 := (WV.ibnd H1.out k _ HP.out).2.1
          cases hap : AptS.apB y.data.toList cy with
          | true =>
            have HAP := hid hap
            have HSX : Hid (selB ((hM cy)) is xc (k + 1) = xv) := by
              show _ = _
              rw [selB_step HP.out, HXV.out]
              simp [hxe, hM, hap]
            clear hxe hap
            go_wp2_with fail
            refine (ap_spec y cy _ hyb hcy).mono ?_
            rintro e w5 ⟨rfl, hb⟩
            have HB5 : Hid (Below W.heap.size W w5) := HBA.out.trans (hb.mono HBA.out.size)
            have HO5 : Hid (w5.ownsRow W.heap.size 3 1 (.slice (some ⟨g, 0, none⟩) xv.length cp) xv.length (ints xv)) := row_below hb HOA.out
            have hz5 := HB5.out.size
            have HVV : Hid (hM cy (x, y, []) = false) := by show (!AptS.apB y.data.toList cy) = _; rw [HAP.out]; rfl
            clear hb
            rw [HAP.out]
            go_wp2_with fail
            go_roundg (is.length - (k + 1))
            case measure => omega
            case rel => exact ⟨k + 1, g, cp, xv, by omega, by omega, HSX, rfl, by go_num, hxl2, HO5.out, HB5.out⟩
          | false =>
            have HAP := hid hap
            have HSX : Hid (selB ((hM cy)) is xc (k + 1) = xv ++ [(k : Int)]) := by
              show _ = _
              rw [selB_step HP.out, HXV.out]
              simp [hxe, hM, hap]
            clear hxe hap
            go_wp2_with fail
            refine (ap_spec y cy _ hyb hcy).mono ?_
            rintro e w5 ⟨rfl, hb⟩
            have HB5 : Hid (Below W.heap.size W w5) := HBA.out.trans (hb.mono HBA.out.size)
            have HO5 : Hid (w5.ownsRow W.heap.size 3 1 (.slice (some ⟨g, 0, none⟩) xv.length cp) xv.length (ints xv)) := row_below hb HOA.out
            have hz5 := HB5.out.size
            have HVV : Hid (hM cy (x, y, []) = true) := by show (!AptS.apB y.data.toList cy) = _; rw [HAP.out]; rfl
            clear hb
            rw [HAP.out]
            go_wp2_with (first
              | (at_builtin; refine app_push_at 30 3 (.int .i64 0) 1 8 Try.underlying30 infoInt rfl (by decide) rfl _ _ rfl W.heap.size (.slice (some ⟨g, 0, none⟩) xv.length cp) xv.length (ints xv) rfl (World.ownsRow.alloc HO5.out _) w5.heap.size 1 [.int .i64 (k : Int)] rfl rfl (news_one (heap_cell (heap_alloc_new _ _) 0)) (by simp [Value.oneCell']) (by unfold maxLen; omega) (by omega) (by first | omega | (simp; omega)) ?_))
            intro g1 cap1 w8 hown hgr hlie
            simp only [World.size_alloc, Value.ownBlock, Option.some.injEq] at hlie
            have hg0 := (row_block HO.out).1
            have hzz := HB5.out.size
            have HB8 : Hid (Below W.heap.size W w8) := (HB5.out.alloc (by first | omega | (simp; omega)) _).grown hgr (by first | omega | (simp; omega)) (by simp [Value.ownBlock]; omega)
            have HO8 : Hid (w8.ownsRow W.heap.size 3 1 (.slice (some ⟨g1, 0, none⟩) (xv ++ [(k : Int)]).length cap1) (xv ++ [(k : Int)]).length (ints (xv ++ [(k : Int)]))) := by
              show World.ownsRow _ _ _ _ _ _ _
              rw [List.length_append]
              simpa [ints] using hown
            clear hown hgr hzz
            go_wp2_with fail
            go_roundg (is.length - (k + 1))
            case measure => omega
            case rel => exact ⟨k + 1, g1, cap1, xv ++ [(k : Int)], by omega, by omega, HSX, by simp, by go_num, by simp; omega, HO8.out, HB8.out⟩
        · have he := str_ne hxe
          have HSX : Hid (selB ((hM cy)) is xc (k + 1) = xv) := by
            show _ = _
            rw [selB_step HP.out, HXV.out]
            simp [hxe]
          clear hxe
          go_wp2_with fail
          go_roundg (is.length - (k + 1))
          case measure => omega
          case rel => exact ⟨k + 1, g, cp, xv, by omega, by omega, HSX, rfl, by go_num, hxl2, HOA.out, HBA.out⟩
      · have hke : k = is.length := by omega
        have HR : Hid (selB ((hM cy)) is xc is.length = xv) := by show _ = _; rw [← HXV.out, hke]
        clear hke
        go_wp2_with fail
        go_ret2
        exact ⟨.slice (some ⟨g, 0, none⟩) xv.length cp, by rw [HV.out]; rfl, by rw [HT.out, HR.out]; exact row_mono HO.out HBW.out.size, HBW.out.trans (HB.out.mono HBW.out.size)⟩
def AP (w : World) (xs : List Int) (e : Ending) (w' : World) : Prop := ∃ g cap, e = .returned (.slice (some ⟨g, 0, none⟩) xs.length cap) ∧ w'.ownsRow w.heap.size 3 1 (.slice (some ⟨g, 0, none⟩) xs.length cap) xs.length (ints xs) ∧ Below w.heap.size w w'
set_option maxHeartbeats 8000000 in
theorem among_may (a b : Option Addr) (cap cap2 : Nat) (cs : List BB) (is : List II) (xc : ByteArray) (cy : List UInt8) (bn : Nat) (w : World) (hcy : cy.length ≤ 1048576) (hX : w.heap[bn]? = some (.cells #[.string xc, .string ⟨cy.toArray⟩] 38 (0, 0))) (h1 : itot is + is.length ≤ 1048576) (hi : SI w (.slice b is.length cap2) is) :
    Calls Try.prog 22 #[.agg #[.slice a cs.length cap, .slice b is.length cap2], .string xc, .func (.func 23) #[] #[.pointer (some ⟨bn, 0, none⟩)]] w (AP w (selB (hM cy) is xc is.length)) := by
  have hil : is.length ≤ 1048576 := by omega
  have HI := hid hi
  have H1 := hid h1
  have HXN := hid hX
  clear hi h1 hX
  go_enter Try.func22, Try.ntmps22
  go_wp2_with fail
  have HBW : Hid (Below w.heap.size w (w.alloc (.cells #[.slice a cs.length cap, .slice b is.length cap2] 36))) := (Below.refl _ _).alloc (Nat.le_refl _) _
  have HX1 : Hid ((w.alloc (.cells #[.slice a cs.length cap, .slice b is.length cap2] 36)).heap[w.heap.size]? = some (.cells #[.slice a cs.length cap, .slice b is.length cap2] 36 (0, 0))) := heap_alloc_new _ _
  have HO0 : Hid (((w.alloc (.cells #[.slice a cs.length cap, .slice b is.length cap2] 36)).alloc (.cells #[] 3)).ownsRow (w.alloc (.cells #[.slice a cs.length cap, .slice b is.length cap2] 36)).heap.size 3 1 (.slice (some ⟨(w.alloc (.cells #[.slice a cs.length cap, .slice b is.length cap2] 36)).heap.size, 0, none⟩) ([] : List Int).length 0) ([] : List Int).length (ints [])) := by
    have := World.ownsRow_made (base := (w.alloc (.cells #[.slice a cs.length cap, .slice b is.length cap2] 36)).heap.size) (e := 3) (size := 1) (w.alloc (.cells #[.slice a cs.length cap, .slice b is.length cap2] 36)) #[] 0 (by simp) (by simp [maxLen]) rfl
    show World.ownsRow _ _ _ _ _ _ _
    simpa [ints] using this
  have hsz1 : w.heap.size + 1 = (w.alloc (.cells #[.slice a cs.length cap, .slice b is.length cap2] 36)).heap.size := by simp
  rw [hsz1]
  clear hsz1
  generalize w.alloc (.cells #[.slice a cs.length cap, .slice b is.length cap2] 36) = W at *
  have hzb := HBW.out.size
  have hzs := lt_of_heap HX1.out
  have HB0 : Hid (Below W.heap.size W (W.alloc (.cells #[] 3))) := (Below.refl _ _).alloc (Nat.le_refl _) _
  have HXW : Hid (W.heap[bn]? = some (.cells #[.string xc, .string ⟨cy.toArray⟩] 38 (0, 0))) := below_heap HBW.out (lt_of_heap HXN.out) HXN.out
  go_loopg [7, 14] is.length (fun q o i wr => ∃ (k g cp : Nat) (xv : List Int), k ≤ is.length ∧ is.length - k ≤ q ∧ Hid (selB ((hM cy)) is xc k = xv) ∧ o = .slice (some ⟨g, 0, none⟩) xv.length cp ∧ i = .int .i64 k ∧ xv.length ≤ k ∧ Hid (wr.ownsRow W.heap.size 3 1 (.slice (some ⟨g, 0, none⟩) xv.length cp) xv.length (ints xv)) ∧ Below W.heap.size W wr)
  case atStart => exact ⟨0, _, 0, [], Nat.zero_le _, by simp, rfl, rfl, rfl, by simp, HO0.out, HB0.out⟩
  case round =>
    obtain ⟨k, g, cp, xv, hk, hq, hxv, rfl, rfl, hxl, hO, hb⟩ := hrel
    have HXV := hid hxv.out
    have HO := hid hO.out
    have HB := hid hb
    have hbz := hb.size
    have hxl2 : xv.length ≤ k + 1 := by omega
    clear hxv hO hb
    by_cases hlt : k < is.length
    · obtain ⟨⟨x, y, ns⟩, hp⟩ : ∃ p, is[k]? = some p := ⟨_, List.getElem?_eq_getElem hlt⟩
      obtain ⟨b2, off, an, cn, rfl, k0, k1, k2, hsn, -, -, hbl⟩ := si_at ((HI.out.below HBW.out).below HB.out) hp
      have HP := hid hp
      have HSN := hid hsn
      clear hp hsn
      have HBA : Hid (Below W.heap.size W (wr.alloc (.cells #[.string x, .string y, .slice an ns.length cn] 50))) := HB.out.alloc (by omega) _
      have HOA : Hid ((wr.alloc (.cells #[.string x, .string y, .slice an ns.length cn] 50)).ownsRow W.heap.size 3 1 (.slice (some ⟨g, 0, none⟩) xv.length cp) xv.length (ints xv)) := World.ownsRow.alloc HO.out _
      by_cases hxe : x = xc
      · have he := str_eq hxe
        have hyb : y.size ≤ 1048576 := (WV.ibnd H1.out k _ HP.out).2.1
        cases hap : AptS.apB y.data.toList cy with
        | true =>
          have HAP := hid hap
          have HSX : Hid (selB ((hM cy)) is xc (k + 1) = xv) := by
            show _ = _
            rw [selB_step HP.out, HXV.out]
            simp [hxe, hM, hap]
          clear hxe hap
          go_wp2_with fail
          refine (clo_may x y (.slice an ns.length cn) cy xc bn _ hyb hcy (below_heap HBA.out (lt_of_heap HXW.out) HXW.out)).mono ?_
          rintro e w5 ⟨rfl, hb⟩
          have HB5 : Hid (Below W.heap.size W w5) := HBA.out.trans (hb.mono HBA.out.size)
          have HO5 : Hid (w5.ownsRow W.heap.size 3 1 (.slice (some ⟨g, 0, none⟩) xv.length cp) xv.length (ints xv)) := row_below hb HOA.out
          have hz5 := HB5.out.size
          have HVV : Hid (hM cy (x, y, []) = false) := by show (!AptS.apB y.data.toList cy) = _; rw [HAP.out]; rfl
          clear hb
          rw [HVV.out]
          go_wp2_with fail
          go_roundg (is.length - (k + 1))
          case measure => omega
          case rel => exact ⟨k + 1, g, cp, xv, by omega, by omega, HSX, rfl, by go_num, hxl2, HO5.out, HB5.out⟩
        | false =>
          have HAP := hid hap
          have HSX : Hid (selB ((hM cy)) is xc (k + 1) = xv ++ [(k : Int)]) := by
            show _ = _
            rw [selB_step HP.out, HXV.out]
            simp [hxe, hM, hap]
          clear hxe hap
          go_wp2_with fail
          refine (clo_may x y (.slice an ns.length cn) cy xc bn _ hyb hcy (below_heap HBA.out (lt_of_heap HXW.out) HXW.out)).mono ?_
          rintro e w5 ⟨rfl, hb⟩
          have HB5 : Hid (Below W.heap.size W w5) := HBA.out.trans (hb.mono HBA.out.size)
          have HO5 : Hid (w5.ownsRow W.heap.size 3 1 (.slice (some ⟨g, 0, none⟩) xv.length cp) xv.length (ints xv)) := row_below hb HOA.out
          have hz5 := HB5.out.size
          have HVV : Hid (hM cy (x, y, []) = true) := by show (!AptS.apB y.data.toList cy) = _; rw [HAP.out]; rfl
          clear hb
          rw [HVV.out]
          go_wp2_with (first
            | (at_builtin; refine app_push_at 30 3 (.int .i64 0) 1 8 Try.underlying30 infoInt rfl (by decide) rfl _ _ rfl W.heap.size (.slice (some ⟨g, 0, none⟩) xv.length cp) xv.length (ints xv) rfl (World.ownsRow.alloc HO5.out _) w5.heap.size 1 [.int .i64 (k : Int)] rfl rfl (news_one (heap_cell (heap_alloc_new _ _) 0)) (by simp [Value.oneCell']) (by unfold maxLen; omega) (by omega) (by first | omega | (simp; omega)) ?_))
          intro g1 cap1 w8 hown hgr hlie
          simp only [World.size_alloc, Value.ownBlock, Option.some.injEq] at hlie
          have hg0 := (row_block HO.out).1
          have hzz := HB5.out.size
          have HB8 : Hid (Below W.heap.size W w8) := (HB5.out.alloc (by first | omega | (simp; omega)) _).grown hgr (by first | omega | (simp; omega)) (by simp [Value.ownBlock]; omega)
          have HO8 : Hid (w8.ownsRow W.heap.size 3 1 (.slice (some ⟨g1, 0, none⟩) (xv ++ [(k : Int)]).length cap1) (xv ++ [(k : Int)]).length (ints (xv ++ [(k : Int)]))) := by
            show World.ownsRow _ _ _ _ _ _ _
            rw [List.length_append]
            simpa [ints] using hown
          clear hown hgr hzz
          go_wp2_with fail
          go_roundg (is.length - (k + 1))
          case measure => omega
          case rel => exact ⟨k + 1, g1, cap1, xv ++ [(k : Int)], by omega, by omega, HSX, by simp, by go_num, by simp; omega, HO8.out, HB8.out⟩
      · have he := str_ne hxe
        have HSX : Hid (selB ((hM cy)) is xc (k + 1) = xv) := by
          show _ = _
          rw [selB_step HP.out, HXV.out]
          simp [hxe]
        clear hxe
        go_wp2_with fail
        go_roundg (is.length - (k + 1))
        case measure => omega
        case rel => exact ⟨k + 1, g, cp, xv, by omega, by omega, HSX, rfl, by go_num, hxl2, HOA.out, HBA.out⟩
    · have hke : k = is.length := by omega
      have HR : Hid (selB ((hM cy)) is xc is.length = xv) := by show _ = _; rw [← HXV.out, hke]
      clear hke
      go_wp2_with fail
      go_ret
      exact ⟨g, cp, by rw [HR.out]; rfl, by rw [HR.out]; exact (row_mono HO.out HBW.out.size), HBW.out.trans (HB.out.mono HBW.out.size)⟩
set_option maxHeartbeats 4000000 in
theorem MayMatch_impl (a b : Option Addr) (cap cap2 : Nat) (cs : List BB) (is : List II) (xc : ByteArray) (cy : List UInt8) (w : World) (hcy : cy.length ≤ 1048576) (h0 : tot cs + cs.length ≤ 1048577) (h1 : itot is + is.length ≤ 1048576) (hcap : cs.length ≤ cap) (hs : SP w (.slice a cs.length cap) cs) (hi : SI w (.slice b is.length cap2) is) :
    Calls Try.prog 9 #[.agg #[.slice a cs.length cap, .slice b is.length cap2], .agg #[.string xc, .string ⟨cy.toArray⟩]] w (LB w (mayL cs is xc cy) (nvB cs is xc cy)) := by
  have HS := hid hs
  have HI := hid hi
  have H0 := hid h0
  have H1 := hid h1
  clear hs hi h0 h1
  go_enter Try.func9, Try.ntmps9
  go_wp2_with fail
  have HBW : Hid (Below w.heap.size w ((w.alloc (.cells #[.slice a cs.length cap, .slice b is.length cap2] 36)).alloc (.cells #[.string xc, .string ⟨cy.toArray⟩] 38))) := ((Below.refl _ _).alloc (Nat.le_refl _) _).alloc (by simp) _
  have HX1 : Hid (((w.alloc (.cells #[.slice a cs.length cap, .slice b is.length cap2] 36)).alloc (.cells #[.string xc, .string ⟨cy.toArray⟩] 38)).heap[w.heap.size]? = some (.cells #[.slice a cs.length cap, .slice b is.length cap2] 36 (0, 0))) := hb_alloc (heap_alloc_new _ _) _
  have HX2 : Hid (((w.alloc (.cells #[.slice a cs.length cap, .slice b is.length cap2] 36)).alloc (.cells #[.string xc, .string ⟨cy.toArray⟩] 38)).heap[w.heap.size + 1]? = some (.cells #[.string xc, .string ⟨cy.toArray⟩] 38 (0, 0))) := heap_alloc2_new _ _ _
  generalize ((w.alloc (.cells #[.slice a cs.length cap, .slice b is.length cap2] 36)).alloc (.cells #[.string xc, .string ⟨cy.toArray⟩] 38)) = W at *
  have hzb := HBW.out.size
  have hzs := lt_of_heap HX2.out
  refine (nv_impl a b cap cap2 cs is xc cy W hcy H0.out H1.out hcap (HS.out.below HBW.out) (HI.out.below HBW.out)).mono ?_
  rintro e w1 ⟨rfl, hb⟩
  have HB1 := hid hb
  obtain ⟨p10, p11⟩ := keep2 HX1.out hb
  obtain ⟨n0, n1⟩ := keep2 HX2.out hb
  have hbn : w.heap.size + 1 < w1.heap.size := Nat.lt_of_lt_of_le hzs hb.size
  clear hb
  cases hv : nvB cs is xc cy with
  | false =>
    have HT : Hid (mayL cs is xc cy = []) := mayL_no hv
    have HV := hid hv
    clear hv
    go_wp2
    go_ret2
    exact ⟨.slice none 0 0, by rw [HV.out]; rfl, by rw [HT.out]; exact row_nil _ _, HBW.out.trans (HB1.out.mono HBW.out.size)⟩
  | true =>
    have HT : Hid (mayL cs is xc cy = selB (hM cy) is xc is.length) := mayL_yes hv
    have HV := hid hv
    clear hv
    go_wp2_with fail
    refine (among_may a b cap cap2 cs is xc cy (w.heap.size + 1) w1 hcy (below_heap HB1.out (lt_of_heap HX2.out) HX2.out) H1.out ((HI.out.below HBW.out).below HB1.out)).mono ?_
    rintro e w2 ⟨g, cp, rfl, hr, hb⟩
    have HB2 : Hid (Below W.heap.size W w2) := HB1.out.trans (hb.mono HB1.out.size)
    have HR := hid hr
    have hz1 := HB1.out.size
    clear hb hr
    go_wp2
    go_ret2
    exact ⟨.slice (some ⟨g, 0, none⟩) (selB (hM cy) is xc is.length).length cp, by rw [HV.out]; rfl, by rw [HT.out]; exact row_mono HR.out (by omega), HBW.out.trans (HB2.out.mono HBW.out.size)⟩
end May
end Go.Proofs.Ytcjalnianamlaaa
