/- The program's match of a pattern with a type. Conditions: texts of at most 60 bytes. -/
import Derived.Test.YtlhildfiddphcaaMapS
set_option linter.unusedVariables false
set_option linter.unusedSimpArgs false
set_option maxRecDepth 100000
namespace Go.Proofs.Ytlhildfiddphcaa
open Go.RowKit Go.Maps Ty ListS Parts Go.Proofs.Ytlhildfiddphcaa.Text
namespace MatI
open MatP MapS
/-- every block of cells stays -/
def KC (w w' : World) : Prop := ∀ (k : Nat) (cs : Array Value) (e : TypeId) (fr : Nat × Nat), w.heap[k]? = some (Obj.cells cs e fr) → w'.heap[k]? = some (Obj.cells cs e fr)
theorem KC.refl (w : World) : KC w w := fun _ _ _ _ h => h
theorem KC.trans {a b c : World} (h : KC a b) (h' : KC b c) : KC a c := fun k cs e fr q => h' k cs e fr (h k cs e fr q)
theorem KC.below {w w' : World} (h : Below w.heap.size w w') : KC w w' := fun k cs e fr q => (h.block k (lt_of_heap q)).trans q
theorem KC.map {w w' : World} {b : Nat} (hg : w.grownBy w' (some b)) (hm : ∃ es k, w.heap[b]? = some (.map es k)) : KC w w' := fun k cs e fr q => by
  obtain ⟨es, c, hm⟩ := hm
  exact (hg.block k (lt_of_heap q) (fun h => by cases h; rw [hm] at q; simp at q)).trans q
theorem KC.row {w w' : World} (h : KC w w') {base : Nat} {e : TypeId} {size : Nat} {v : Value} {n : Nat} {xs : List Value} (ho : w.ownsRow base e size v n xs) : w'.ownsRow base e size v n xs := by
  refine ⟨ho.1, ?_⟩
  rcases ho.2 with hn | ⟨g, cap, cur, rfl, hb, hgg, rest⟩
  · exact .inl hn
  · exact .inr ⟨g, cap, cur, rfl, hb, h _ _ _ _ hgg, rest⟩
theorem KC.inode {w w' : World} (h : KC w w') : ∀ {t : Ty} {lo b : Nat}, INode lo w t b → INode lo w' t b := by
  intro t
  induction t with
  | leaf c => intro lo b ⟨hl, v, h1, h2⟩; exact ⟨hl, v, h _ _ _ _ h1, h.row h2⟩
  | one c t ih => intro lo b ⟨hl, v, p, h1, h2, h3⟩; exact ⟨hl, v, p, h _ _ _ _ h1, h.row h2, ih h3⟩
  | two c t u ih1 ih2 => intro lo b ⟨hl, v, p, q, h1, h2, h3, h4⟩; exact ⟨hl, v, p, q, h _ _ _ _ h1, h.row h2, ih1 h3, ih2 h4⟩
theorem gb {w w' : World} (h : Below w.heap.size w w') (row : Option Nat) : w.grownBy w' row := ⟨h.os, h.tape, h.output, h.size, fun k hk _ => h.block k hk⟩
theorem grown_trans {a b c : World} {row : Option Nat} (h : a.grownBy b row) (h' : b.grownBy c row) : a.grownBy c row := ⟨h'.os.trans h.os, h'.tape.trans h.tape, h'.output.trans h.output, Nat.le_trans h.size h'.size, fun k hk hne => (h'.block k (Nat.lt_of_lt_of_le hk h.size) hne).trans (h.block k hk hne)⟩
def MPost (w : World) (mb n : Nat) (o : Option Sg) (e : Ending) (w' : World) : Prop := e = .returned (.bool o.isSome) ∧ w.grownBy w' (some mb) ∧ ∀ s', o = some s' → OM w' mb n s'
theorem isVar_head (c : UInt8) : isVarL [c] = isV c := rfl
theorem below_drew {B : Nat} {w w' : World} (h : Below B w w') : Below B w w'.drew := ⟨h.os, h.tape, h.output, h.size, h.block⟩
theorem _root_.Go.Proofs.Ytlhildfiddphcaa.Ty.Ty.size_pos (t : Ty) : 0 < t.size := by cases t <;> simp [Ty.size] <;> omega
theorem str_one (c d : UInt8) : (({ data := #[c] } : ByteArray).toList == ({ data := #[d] } : ByteArray).toList) = (c == d) := by simp
theorem mtl_step {p u : Ty} {ps ts : List Ty} {s : Sg} {k : Nat} (hp : ps[k]? = some p) (hu : ts[k]? = some u) : mtl (ps.drop k) (ts.drop k) s = (mt p u s).bind (mtl (ps.drop (k + 1)) (ts.drop (k + 1))) := by
  obtain ⟨h1, rfl⟩ := List.getElem?_eq_some_iff.1 hp
  obtain ⟨h2, rfl⟩ := List.getElem?_eq_some_iff.1 hu
  rw [List.drop_eq_getElem_cons h1, List.drop_eq_getElem_cons h2]
  rfl
theorem mtl_end {ps ts : List Ty} {s : Sg} {k : Nat} (h : ps.length ≤ k) : mtl (ps.drop k) (ts.drop k) s = some s := by
  rw [List.drop_eq_nil_of_le h]
  simp [mtl]
theorem szs_drop {p : Ty} {ps : List Ty} {k : Nat} (hp : ps[k]? = some p) : szs (ps.drop k) = p.size + szs (ps.drop (k + 1)) := by
  obtain ⟨h1, rfl⟩ := List.getElem?_eq_some_iff.1 hp
  rw [List.drop_eq_getElem_cons h1]
  simp only [szs, List.map_cons, List.sum_cons]
def ML (w : World) (mb N : Nat) (p t : Ty) (s : Sg) (q : Nat) (iv : Value) (wr : World) : Prop :=
  ∃ (k n : Nat) (sk : Sg), k ≤ p.parts.length ∧ p.parts.length - k ≤ q ∧ iv = .int .i64 k ∧ Hid (mtl p.parts t.parts s = mtl (p.parts.drop k) (t.parts.drop k) sk) ∧ n + szs (p.parts.drop k) ≤ N ∧ GS 60 sk ∧ OM wr mb n sk ∧ w.grownBy wr (some mb)
set_option maxHeartbeats 8000000 in
theorem match_any (N : Nat) : ∀ (p t : Ty) (b b2 lo lo2 : Nat) (w : World) (mb n : Nat) (s : Sg), p.size < N → p.WF → t.WF → t.text.length ≤ 60 → GS 60 s → n + p.size ≤ 1000000 → INode lo w p b → INode lo2 w t b2 → OM w mb n s →
    Calls Try.prog 16 #[.pointer (some ⟨b, 0, none⟩), .pointer (some ⟨b2, 0, none⟩), .map (some mb)] w (MPost w mb (n + p.size) (mt p t s)) := by
  induction N with
  | zero => intro p t b b2 lo lo2 w mb n s h; omega
  | succ N ih =>
    intro p t b b2 lo lo2 w mb n s hN hp ht hlen hgs hn hnode hnode2 hom
    have HI1 := hid hnode
    have HI2 := hid hnode2
    have HOM := hid hom
    have IH := hid ih
    have HGS := hid hgs
    have HP := hid hp
    have HT := hid ht
    obtain ⟨hlo, v, ps, hh, hv, hpp⟩ := inode hnode
    obtain ⟨a, cap, rfl⟩ := row_slice hv
    have hbl := lt_of_heap hh
    have k0 := heap_cell hh 0
    have k1 := heap_cell hh 1
    have HH := hid hh
    have HV := hid hv
    have HPP := hid hpp
    have hsz1 := p.size_pos
    have hpl2 := parts_len p
    clear ih hnode hnode2 hom hgs hp ht hh hv hpp
    have HIV := hid (isVar_head p.head)
    cases hvh : isV p.head with
    | true =>
      have HVH := hid hvh
      have HM : Hid (mt p t s = match s p.head with | some u => if u = t then some s else none | none => some (upd s p.head t)) := mt_var HP.out s hvh
      clear hvh
      have hl1000 : t.text.length ≤ 1000 := by omega
      have hnm : n < maxLen := by unfold maxLen; omega
      cases hs : s p.head with
      | none =>
        have htx : Hid (tx s p.head = []) := by show _ = _; simp [tx, hs]
        have hok : Hid ((s p.head).isSome = false) := by show _ = _; rw [hs]; rfl
        have HR : Hid (mt p t s = some (upd s p.head t)) := by show _ = _; rw [HM.out, hs]
        clear hs HM
        go_enter Try.func16, Try.ntmps16
        go_wp2_with (first
          | (go_at_call 25; refine (isVar_impl [p.head] _ (by simp)).mono ?_; rintro e w1 ⟨rfl, rfl⟩; rw [HIV.out, HVH.out])
          | (go_at_call 26; refine (text_impl (t.size + 1) t b2 _ _ (by omega) (by omega) HI2.out).mono ?_; rintro e w1 ⟨rfl, hb⟩; have HB1 := hid hb; have kk0 := (hb.cell (p := ⟨b, 0, none⟩) hbl).trans k0; have hz1 := hb.size; clear hb)
          | (at_lookup; refine look_ok rfl _ _ rfl (HOM.out.below HB1.out) [] false htx.out hok.out rfl rfl ?_)
          | (at_mapUpdate; refine stS rfl _ _ _ rfl (HOM.out.below HB1.out) hl1000 hnm rfl rfl rfl ?_; intro w3 hom3 hg3; have HO3 := hid hom3; have HG3 := hid hg3; clear hom3 hg3))
        go_ret
        exact ⟨by rw [HR.out]; rfl, grown_trans (gb HB1.out _) HG3.out, fun s' e => by rw [HR.out] at e; cases e; exact HO3.out.mono (by omega)⟩
      | some u =>
        have htx : Hid (tx s p.head = u.text) := by show _ = _; simp [tx, hs]
        have hok : Hid ((s p.head).isSome = true) := by show _ = _; rw [hs]; rfl
        have hu := HGS.out _ _ hs
        by_cases hut : u = t
        · subst hut
          have HR : Hid (mt p u s = some s) := by show _ = _; rw [HM.out, hs]; simp
          have HUS : Hid (upd s p.head u = s) := upd_self hs
          clear hs HM hu
          go_enter Try.func16, Try.ntmps16
          go_wp2_with (first
            | (go_at_call 25; refine (isVar_impl [p.head] _ (by simp)).mono ?_; rintro e w1 ⟨rfl, rfl⟩; rw [HIV.out, HVH.out])
            | (go_at_call 26; refine (text_impl (u.size + 1) u b2 _ _ (by omega) (by omega) HI2.out).mono ?_; rintro e w1 ⟨rfl, hb⟩; have HB1 := hid hb; have kk0 := (hb.cell (p := ⟨b, 0, none⟩) hbl).trans k0; have hz1 := hb.size; clear hb)
            | (at_lookup; refine look_ok rfl _ _ rfl (HOM.out.below HB1.out) u.text true htx.out hok.out rfl rfl ?_)
            | (at_mapUpdate; refine stS rfl _ _ _ rfl (HOM.out.below HB1.out) hl1000 hnm rfl rfl rfl ?_; intro w3 hom3 hg3; have HO3 := hid hom3; have HG3 := hid hg3; clear hom3 hg3))
          go_ret
          exact ⟨by rw [HR.out]; rfl, grown_trans (gb HB1.out _) HG3.out, fun s' e => by rw [HR.out] at e; cases e; have h := HO3.out; rw [HUS.out] at h; exact h.mono (by omega)⟩
        · have HR : Hid (mt p t s = none) := by show _ = _; rw [HM.out, hs]; simp [hut]
          have hne : (u.text == t.text) = false := by rw [text_beq hu.2.1 HT.out]; exact decide_eq_false hut
          clear hs HM hu
          go_enter Try.func16, Try.ntmps16
          go_wp2_with (first
            | (go_at_call 25; refine (isVar_impl [p.head] _ (by simp)).mono ?_; rintro e w1 ⟨rfl, rfl⟩; rw [HIV.out, HVH.out])
            | (go_at_call 26; refine (text_impl (t.size + 1) t b2 _ _ (by omega) (by omega) HI2.out).mono ?_; rintro e w1 ⟨rfl, hb⟩; have HB1 := hid hb; have kk0 := (hb.cell (p := ⟨b, 0, none⟩) hbl).trans k0; have hz1 := hb.size; clear hb)
            | (at_lookup; refine look_ok rfl _ _ rfl (HOM.out.below HB1.out) u.text true htx.out hok.out rfl rfl ?_))
          go_ret
          exact ⟨by rw [HR.out]; rfl, gb HB1.out _, fun s' e => by rw [HR.out] at e; cases e⟩
    | false =>
      have HVH := hid hvh
      have HM : Hid (mt p t s = if t.head = p.head then mtl p.parts t.parts s else none) := mt_con HP.out HT.out s hvh
      clear hvh
      obtain ⟨hlo2, v2, ps2, hh2, hv2, hpp2⟩ := inode HI2.out
      obtain ⟨a2, cap2, rfl⟩ := row_slice hv2
      have hbl2 := lt_of_heap hh2
      have j0 := heap_cell hh2 0
      have j1 := heap_cell hh2 1
      have HH2 := hid hh2
      have HV2 := hid hv2
      have HPP2 := hid hpp2
      clear hh2 hv2 hpp2
      by_cases hhd : t.head = p.head
      · have HR : Hid (mt p t s = mtl p.parts t.parts s) := by show _ = _; rw [HM.out, if_pos hhd]
        have HLN : Hid (t.parts.length = p.parts.length) := wf_len HP.out HT.out hhd
        have heq : (p.head == t.head) = true := by rw [hhd]; simp
        rw [hhd] at j0 HH2
        have hszp := size_szs p
        clear HM hhd heq
        go_enter Try.func16, Try.ntmps16
        go_wp2_with (go_at_call 25; refine (isVar_impl [p.head] _ (by simp)).mono ?_; rintro e w1 ⟨rfl, rfl⟩; rw [HIV.out, HVH.out])
        go_region
        go_wp2_with fail
        go_loopg [54] p.parts.length (fun q iv wr => ML w mb (n + p.size) p t s q iv wr)
        case atStart => exact ⟨0, n, s, Nat.zero_le _, by simp, rfl, rfl, by simp; omega, HGS.out, HOM.out, gb (below_drew (Below.refl _ _)) _⟩
        case round =>
          obtain ⟨k, m, sk, hk, hq, rfl, hmt, hmn, hgk, homk, hgr⟩ := hrel
          have HMT := hid hmt.out
          have HGK := hid hgk
          have HOK := hid homk
          have HGR := hid hgr
          have HKC : Hid (KC w wr) := KC.map hgr HOM.out.isMap
          clear hmt hgk homk hgr
          by_cases hlt : k < p.parts.length
          · obtain ⟨u, hu⟩ : ∃ u, p.parts[k]? = some u := ⟨_, List.getElem?_eq_getElem hlt⟩
            obtain ⟨u2, hu2⟩ : ∃ u, t.parts[k]? = some u := ⟨_, List.getElem?_eq_getElem (by have := HLN.out; omega)⟩
            obtain ⟨q1, hq1, hn1⟩ := HPP.out k u hu
            obtain ⟨q2, hq2, hn2⟩ := HPP2.out k u2 hu2
            have HSTEP : Hid (mtl (p.parts.drop k) (t.parts.drop k) sk = (mt u u2 sk).bind (mtl (p.parts.drop (k + 1)) (t.parts.drop (k + 1)))) := mtl_step hu hu2
            have HSZ : Hid (m + u.size + szs (p.parts.drop (k + 1)) ≤ n + p.size) := by have h := szs_drop hu; rw [h] at hmn; show _ ≤ _; omega
            have hmu' : m + u.size ≤ 1000000 := by have := HSZ.out; omega
            clear hmn
            have HW1 := hid (wf_parts HP.out (List.mem_of_getElem? hu))
            have HW2 := hid (wf_parts HT.out (List.mem_of_getElem? hu2))
            obtain ⟨g0, cap0, e0, -, hg0, cs0, hc0, hd0⟩ := row_at HV.out (by omega)
            cases e0
            have hlt2 : k < t.parts.length := by have := HLN.out; omega
            obtain ⟨g1, cap1, e1, -, hg1, cs1, hc1, hd1⟩ := row_at HV2.out (by omega)
            cases e1
            have c0 : wr.cell? ⟨g0, k, none⟩ = some (.pointer (some ⟨q1, 0, none⟩)) := (heap_cell (HKC.out _ _ _ _ hc0) _).trans (hd0 _ _ hq1)
            have c1 : wr.cell? ⟨g1, k, none⟩ = some (.pointer (some ⟨q2, 0, none⟩)) := (heap_cell (HKC.out _ _ _ _ hc1) _).trans (hd1 _ _ hq2)
            have c2 := heap_cell (HKC.out _ _ _ _ HH2.out) 1
            have hbr2 := lt_of_heap (HKC.out _ _ _ _ HH2.out)
            have hgz0 := lt_of_heap (HKC.out _ _ _ _ hc0)
            have hgz1 := lt_of_heap (HKC.out _ _ _ _ hc1)
            have HN1 : Hid (INode lo wr u q1) := HKC.out.inode hn1
            have HN2 : Hid (INode lo2 wr u2 q2) := HKC.out.inode hn2
            have hsu := HW1.out.2.2
            have htu := HW2.out.2.1
            clear hd0 hd1 hc0 hc1 hq1 hq2 hn1 hn2 hu hu2 k0 k1 j0 j1
            cases hmu : mt u u2 sk with
            | none =>
              have HMU := hid hmu
              have HRN : Hid (mt p t s = none) := by show _ = _; rw [HR.out, HMT.out, HSTEP.out, hmu]; rfl
              clear hmu
              go_wp2_with (first
                | (go_at_call 16; refine (IH.out u u2 q1 q2 lo lo2 wr mb m sk (by omega) HW1.out.1 HW2.out.1 (by omega) HGK.out (by omega) HN1.out HN2.out HOK.out).mono ?_; rintro e w3 ⟨rfl, hg3, hom3⟩; rw [HMU.out]; have HG3 := hid hg3; clear hg3 hom3))
              go_ret
              exact ⟨by rw [HRN.out]; rfl, grown_trans HGR.out HG3.out, fun s' e => by rw [HRN.out] at e; cases e⟩
            | some s3 =>
              have HMU := hid hmu
              have HS3 : Hid (GS 60 s3) := mt_gs u u2 sk s3 60 HW1.out.1 HW2.out.1 (by omega) HGK.out hmu
              have HM3 : Hid (mtl p.parts t.parts s = mtl (p.parts.drop (k + 1)) (t.parts.drop (k + 1)) s3) := by show _ = _; rw [HMT.out, HSTEP.out, hmu]; rfl
              clear hmu
              go_wp2_with (first
                | (go_at_call 16; refine (IH.out u u2 q1 q2 lo lo2 wr mb m sk (by omega) HW1.out.1 HW2.out.1 (by omega) HGK.out (by omega) HN1.out HN2.out HOK.out).mono ?_; rintro e w3 ⟨rfl, hg3, hom3⟩; rw [HMU.out]; have HG3 := hid hg3; have HO3 := hid (hom3 s3 HMU.out); clear hg3 hom3))
              go_roundg (gk - 1)
              case measure => omega
              case rel => exact ⟨k + 1, m + u.size, s3, by omega, by omega, by go_num, HM3.out, HSZ.out, HS3.out, HO3.out, grown_trans HGR.out HG3.out⟩
          · have hke : k = p.parts.length := by omega
            have HRS : Hid (mt p t s = some sk) := by show _ = _; rw [HR.out, HMT.out, mtl_end (by omega)]
            clear k0 k1 j0 j1
            go_wp2_with fail
            go_ret
            exact ⟨by rw [HRS.out]; rfl, HGR.out, fun s' e => by rw [HRS.out] at e; cases e; exact HOK.out.mono (by omega)⟩
      · have HR : Hid (mt p t s = none) := by show _ = _; rw [HM.out, if_neg hhd]
        have heq : (p.head == t.head) = false := by rw [beq_eq_false_iff_ne]; exact fun e => hhd e.symm
        clear HM hhd
        go_enter Try.func16, Try.ntmps16
        go_wp2_with (go_at_call 25; refine (isVar_impl [p.head] _ (by simp)).mono ?_; rintro e w1 ⟨rfl, rfl⟩; rw [HIV.out, HVH.out])
        go_region
        go_wp2_with fail
        go_ret
        exact ⟨by rw [HR.out]; rfl, gb (below_drew (Below.refl _ _)) _, fun s' e => by rw [HR.out] at e; cases e⟩
end MatI
end Go.Proofs.Ytlhildfiddphcaa
