/- AreApart of the program. Conditions: none. -/
import Derived.Test.YtebdkafblohojaaGraE
import Derived.Test.YtebdkafblohojaaGraS
import Derived.Test.YtebdkafblohojaaAptS
import Derived.Test.YtebdkafblohojaaDepthI
set_option linter.unusedVariables false
set_option linter.unusedSimpArgs false
set_option maxRecDepth 100000
namespace Go.Proofs.Ytebdkafblohojaa
open Go.RowKit Ty
namespace AptI
open GraP PtrM ListS AptP GraW GraO GraS AptS
theorem st0 (w : World) : ST (w.alloc (.map #[] 0)) w.heap.size 0 (fun _ => none) (fun _ => none) 0 := ⟨⟨fun n c ps h => by simp at h, fun n c ps h => by simp at h⟩, PM.made w, fun c b h => by simp at h, fun k v h => by simp at h, fun k v h => by simp at h, fun c b h => by simp at h⟩
theorem gh0 (w : World) (B : Nat → Prop) : GH w (fun _ => none) L0 B := fun n c ps h => by simp at h
theorem st1 {w w0 : World} {mb n z0 : Nat} {sc sc0 : Sco} {N N0 : Nds} {B : Nat → Prop} (h : SS w0 w mb n sc N N0 sc0 z0 B) : ST (w.alloc (.map #[] 0)) w.heap.size 0 (fun _ => none) N (w.heap.size + 1) :=
  ⟨h.st.wh, PM.made w, fun c b h => by simp at h, fun k v hk hz => by have := h.st.lt k v hk; omega, fun k v hk => by have := h.st.lt k v hk; simp; omega, fun c b h => by simp at h⟩
theorem gh1 {w w0 : World} {mb n z0 : Nat} {sc sc0 : Sco} {N N0 : Nds} {B : Nat → Prop} (h : SS w0 w mb n sc N N0 sc0 z0 B) : GH (w.alloc (.map #[] 0)) N L0 B := h.gh.kc (KC.below ((Below.refl _ _).alloc (Nat.le_refl _) _))
theorem two {w3 w5 w2 : World} {m1 m2 n1 n2 b1 b2 : Nat} {s1 s2 : Sco} {N1 N2 : Nds} {B B' : Nat → Prop} {p q : Ty} (h1 : SS w2 w3 m1 n1 s1 N1 (fun _ => none) (fun _ => none) 0 B) (h2 : SS (w3.alloc (.map #[] 0)) w5 m2 n2 s2 N2 N1 (fun _ => none) (w3.heap.size + 1) B') (r1 : Rep N1 s1 b1 p) (r2 : Rep N2 s2 b2 q) :
    Two N2 s1 s2 b1 b2 p q w5.heap.size where
  wh := h2.st.wh
  lt := h2.st.lt
  all := fun n v hn => by
    rcases h2.new n v hn with h | h
    · obtain ⟨t, ht⟩ := h1.st.news n v h (Nat.zero_le _)
      exact .inl ⟨t, ht.mono h2.sub (fun _ _ h => h)⟩
    · exact .inr (h2.st.news n v hn (by simpa using h))
  sep := fun c d b hc hd => by
    have := h1.st.lt b _ (h1.st.sce c b hc).1
    have := (h2.st.sce d b hd).2
    omega
  let1 := fun c b hc => h2.sub _ _ (h1.st.sce c b hc).1
  let2 := fun c b hc => (h2.st.sce c b hc).1
  left := r1.mono h2.sub (fun _ _ h => h)
  right := r2
theorem bg {B b : Nat} {w0 w w' : World} (h : Below B w0 w) (hg : w.grownBy w' (some b)) (hb : B ≤ b) (hz : B ≤ w.heap.size) : Below B w0 w' := ⟨hg.os.trans h.os, hg.tape.trans h.tape, hg.output.trans h.output, Nat.le_trans h.size hg.size, fun k hk => (hg.block k (by omega) (fun e => by cases e; omega)).trans (h.block k hk)⟩
theorem bt {B : Nat} {N : Nds} {w0 w w' : World} (h : Below B w0 w) (hg : TN N w w') (hN : ∀ k v, N k = some v → B ≤ k) (hz : B ≤ w.heap.size) : Below B w0 w' := ⟨hg.os.trans h.os, hg.tape.trans h.tape, hg.output.trans h.output, Nat.le_trans h.size hg.size, fun k hk => (hg.block k (by omega) (by
    cases e : N k with
    | none => rfl
    | some v => have := hN k v e; omega)).trans (h.block k hk)⟩
theorem size_ty {l : List UInt8} {t : Ty} (h : ty l = some t) : t.size ≤ 60 := by
  obtain ⟨rfl, hw, hl⟩ := ty_some h
  have := count_size t hw
  omega
set_option maxHeartbeats 8000000 in
theorem AreApart_impl (lp lt : List UInt8) (w : World) (hp : lp.length ≤ 1073741824) (ht : lt.length ≤ 1073741824) : Calls Try.prog 5 #[.string ⟨lp.toArray⟩, .string ⟨lt.toArray⟩] w fun e w' => e = .returned (.bool (apB lp lt)) ∧ Below w.heap.size w w' := by
  cases h1 : ty lp with
  | none =>
    have HR : Hid (apB lp lt = false) := apB_n0 h1
    have HZ : Hid ((ty lp).isSome = false) := by show _ = _; rw [h1]; rfl
    clear h1
    go_enter Try.func5, Try.ntmps5
    go_wp2_with (first
      | (go_at_call 9; refine (TypeValid_impl lp _ (by unfold maxLen; omega)).mono ?_; rintro e w1 ⟨rfl, hb⟩; rw [HZ.out]; have HB1 := hid hb; clear hb))
    go_ret
    exact ⟨by rw [HR.out]; rfl, HB1.out⟩
  | some p =>
    have HZ : Hid ((ty lp).isSome = true) := by show _ = _; rw [h1]; rfl
    cases h2 : ty lt with
    | none =>
      have HR : Hid (apB lp lt = false) := apB_n1 h2
      have HZ2 : Hid ((ty lt).isSome = false) := by show _ = _; rw [h2]; rfl
      clear h1 h2
      go_enter Try.func5, Try.ntmps5
      go_wp2_with (first
        | (go_at_call 9; refine (TypeValid_impl lp _ (by unfold maxLen; omega)).mono ?_; rintro e w1 ⟨rfl, hb⟩; rw [HZ.out]; have HB1 := hid hb; clear hb)
        | (go_at_call 9; refine (TypeValid_impl lt _ (by unfold maxLen; omega)).mono ?_; rintro e w2 ⟨rfl, hb⟩; rw [HZ2.out]; have HB2 := hid hb; clear hb))
      go_ret
      exact ⟨by rw [HR.out]; rfl, HB1.out.trans (HB2.out.mono HB1.out.size)⟩
    | some q =>
      have HZ2 : Hid ((ty lt).isSome = true) := by show _ = _; rw [h2]; rfl
      have HT0 := hid h1
      have HT1 := hid h2
      have hsp := size_ty h1
      have hsq := size_ty h2
      clear h1 h2
      have hmm := @run_makeMap Try.prog
      go_enter Try.func5, Try.ntmps5
      go_wp2_with (first
        | (go_at_call 9; refine (TypeValid_impl lp _ (by unfold maxLen; omega)).mono ?_; rintro e w1 ⟨rfl, hb⟩; rw [HZ.out]; have HB1 := hid hb; have hz1 := hb.size; clear hb)
        | (go_at_call 9; refine (TypeValid_impl lt _ (by unfold maxLen; omega)).mono ?_; rintro e w2 ⟨rfl, hb⟩; rw [HZ2.out]; have HB2 : Hid (Below w.heap.size w w2) := HB1.out.trans (hb.mono HB1.out.size); have hz2 := hb.size; clear hb))
      go_wp2_with fail
      refine (fresh_any lp p HT0.out (w2.alloc (.map #[] 0)) w2.heap.size 0 (fun _ => none) (fun _ => none) 0 (fun _ => False) (st0 w2) (gh0 _ _) (fun _ h => h.elim) (Nat.zero_le _) (by omega)).mono ?_
      rintro e w3 ⟨b1, N1, sc1, rfl, hs1, hr1⟩
      have HS1 := hid hs1
      have HR1 := hid hr1
      have hz3 := hs1.gr.size
      simp only [World.size_alloc] at hz3
      clear hs1 hr1
      go_wp2_with fail
      refine (fresh_any lt q HT1.out (w3.alloc (.map #[] 0)) w3.heap.size 0 (fun _ => none) N1 (w3.heap.size + 1) (fun _ => False) (st1 HS1.out) (gh1 HS1.out) (fun _ h => h.elim) (by simp) (by omega)).mono ?_
      rintro e w5 ⟨b2, N2, sc2, rfl, hs2, hr2⟩
      have HS2 := hid hs2
      have HR2 := hid hr2
      have hz5 := hs2.gr.size
      simp only [World.size_alloc] at hz5
      clear hs2 hr2
      go_wp2_with fail
      clear hmm
      have HT : Hid (Two N2 sc1 sc2 b1 b2 p q w5.heap.size) := two HS1.out HS2.out HR1.out HR2.out
      obtain ⟨r, L, hug, hgw, hf, ht⟩ := impl_iff HT.out
      have HU := hid (unify_any HT.out.wh (ug2 HT.out.wh hug))
      have HNL : Hid (NL N2 L) := fun n b h => (hgw.node n b h).2
      have HN1 : Hid (∀ k v, N1 k = some v → w.heap.size ≤ k) := fun k v hk => by
        rcases HS1.out.new k v hk with h | h
        · simp at h
        · simp at h; omega
      have HN2 : Hid (∀ k v, N2 k = some v → w.heap.size ≤ k) := fun k v hk => by
        rcases HS2.out.new k v hk with h | h
        · exact HN1.out k v h
        · simp at h; omega
      have HF := hid hf
      have HTT := hid ht
      have HB3 : Hid (Below w.heap.size w w3) := bg (HB2.out.alloc (by omega) _) HS1.out.gr (by omega) (by simp; omega)
      have HB5 : Hid (Below w.heap.size w w5) := bg (HB3.out.alloc (by omega) _) HS2.out.gr (by omega) (by simp; omega)
      clear hug hgw hf ht
      refine (HU.out w5 (fun _ => False) HS2.out.gh (fun n b h => by simp [L0] at h) HT.out.left.node HT.out.right.node).mono ?_
      rintro e w6 ⟨rfl, hg6, htn6⟩
      have HG6 := hid hg6
      have HB6 : Hid (Below w.heap.size w w6) := bt HB5.out htn6 HN2.out (by omega)
      have hz6 := htn6.size
      clear hg6 htn6
      cases r with
      | false =>
        have HRR : Hid (apB lp lt = true) := apB_some (r := false) HT0.out HT1.out (by simpa using HF.out rfl)
        go_wp2_with fail
        go_ret
        exact ⟨by rw [HRR.out]; rfl, HB6.out⟩
      | true =>
        obtain ⟨o, ho1, ho2⟩ := HTT.out rfl
        have HRR : Hid (apB lp lt = !o.isSome) := apB_some HT0.out HT1.out ho2
        have HE := hid ho1
        clear ho1 ho2
        go_wp2_with fail
        refine (ends_any HT.out.wh HE.out w6 _ HG6.out HNL.out HT.out.left.node).mono ?_
        rintro e w7 ⟨rfl, hb7⟩
        have HB7 : Hid (Below w.heap.size w w7) := HB6.out.trans (hb7.mono (by omega))
        clear hb7
        cases o with
        | none =>
          go_wp2_with fail
          go_ret
          exact ⟨by rw [HRR.out]; rfl, HB7.out⟩
        | some D =>
          go_wp2_with fail
          go_ret
          exact ⟨by rw [HRR.out]; rfl, HB7.out⟩
end AptI
end Go.Proofs.Ytebdkafblohojaa
