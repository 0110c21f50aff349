/- The reference's own copies of instances and worlds. Conditions: those typed. -/
import Derived.Test.YtbdnhcfebgkpdaaDoorPWoS
set_option linter.unusedVariables false
set_option linter.unusedSimpArgs false
set_option maxRecDepth 100000
namespace Go.Proofs.YtbdnhcfebgkpdaaDoor
open Go.RowKit Ty SplP ListS CutS PIn PInP IRow
namespace PWo
theorem row_cells1 {w : World} {b size n : Nat} {e : TypeId} {v : Value} {xs : List Value} (h : w.ownsRow b e size v n xs) : xs.length = n * size := h.1
theorem app_many_at {P : Program} {w : World} (t e : TypeId) (z : Value) (size bytes : Nat) (T : P.underlying t = some (.slice e)) (I : (P.info? e).map (fun i => (i.zero, i.size, i.bytes)) = some (some z, size, bytes)) (Z : z.cells.size = size) (S : 0 < size)
    {ops : Array Oper} {rest : List Oper} {o : Oper} {a : Act} {Q : Exit → Act → World → Prop} (hgd : o.guard = none) (s x : Operand)
    (ho : o.op = .call { callee := .builtin .append, args := #[s, x], argTypes := #[t, t] })
    (base : Nat) (v : Value) (n : Nat) (xs : List Value) (hs : a.eval s = v) (hown : w.ownsRow base e size v n xs)
    (g c m : Nat) (news : List Value) (hx : a.eval x = .slice (some ⟨g, 0, none⟩) m c) (hl : news.length = m * size) (hnews : ∀ j u, news[j]? = some u → w.cell? ⟨g, j, none⟩ = some u) (h1 : ∀ u ∈ news, u.oneCell' = true)
    (hn : n + m ≤ maxLen) (hb : (n + m) * bytes ≤ 140737488355328) (hbase : base ≤ w.heap.size)
    (h : ∀ v' w', w'.ownsRow base e size v' (n + m) (xs ++ news) → w.grownBy w' v.ownBlock → wpList P ops Q rest (a.put o.dst v') w') : wpList P ops Q (o :: rest) a w := by
  obtain ⟨i, hi, hz0, hz1, hz2⟩ := info_parts I
  refine wpList_append_own w hgd s x t ho base e i z size bytes T hi hz0 hz1 hz2 Z S v n xs hs hown ⟨g, 0, none⟩ m c news hx hl ?_ h1 hn hb hbase fun v' w' h2 h3 _ => h v' w' h2 h3
  intro j u hj
  have hadd : (⟨g, 0, none⟩ : Addr).add j = ⟨g, j, none⟩ := by unfold Addr.add; split <;> simp_all
  rw [hadd]
  exact hnews j u hj
theorem flat_one (xs : List BB) : ∀ u ∈ flat xs, u.oneCell' = true := by
  induction xs with
  | nil => simp [flat]
  | cons p xs ih =>
    intro u hu
    simp only [flat, List.mem_cons] at hu
    rcases hu with rfl | rfl | hu
    · rfl
    · rfl
    · exact ih u hu
set_option maxHeartbeats 4000000 in
theorem OwnInstance_some (x y : ByteArray) (g c b : Nat) (ns : List BB) (w : World) (hr : w.ownsRow b 25 2 (.slice (some ⟨g, 0, none⟩) ns.length c) ns.length (flat ns)) (hl : ns.length ≤ 1048577) :
    Calls Tryd.prog 89 #[.agg #[.string x, .string y, .slice (some ⟨g, 0, none⟩) ns.length c]] w fun e w' => ∃ a c', e = .returned (.agg #[.string x, .string y, .slice a ns.length c']) ∧ w'.ownsRow w.heap.size 25 2 (.slice a ns.length c') ns.length (flat ns) ∧ Below w.heap.size w w' := by
  have HR := hid hr
  clear hr
  go_enter Tryd.func89, Tryd.ntmps89
  have HE : Hid ((((w.alloc (.cells #[.string x, .string y, .slice (some ⟨g, 0, none⟩) ns.length c] 28)).alloc (.cells #[.string ⟨#[]⟩, .string ⟨#[]⟩, .slice none 0 0] 28)).alloc (.cells #[] 25)).ownsRow w.heap.size 25 2 (.slice (some ⟨w.heap.size + 1 + 1, 0, none⟩) 0 0) 0 []) := by
    have h := World.ownsRow_made (base := w.heap.size) (e := 25) (size := 2) ((w.alloc (.cells #[.string x, .string y, .slice (some ⟨g, 0, none⟩) ns.length c] 28)).alloc (.cells #[.string ⟨#[]⟩, .string ⟨#[]⟩, .slice none 0 0] 28)) #[] 0 (by simp; omega) (by simp [maxLen]) rfl
    show World.ownsRow _ _ _ _ _ _ _
    simpa using h
  have HR3 : Hid ((((w.alloc (.cells #[.string x, .string y, .slice (some ⟨g, 0, none⟩) ns.length c] 28)).alloc (.cells #[.string ⟨#[]⟩, .string ⟨#[]⟩, .slice none 0 0] 28)).alloc (.cells #[] 25)).ownsRow b 25 2 (.slice (some ⟨g, 0, none⟩) ns.length c) ns.length (flat ns)) := World.ownsRow.alloc (World.ownsRow.alloc (World.ownsRow.alloc HR.out _) _) _
  go_wp2_with (first
    | (at_builtin; refine app_many_at 26 25 (.agg #[.string ⟨#[]⟩, .string ⟨#[]⟩]) 2 32 Tryd.underlying26 PIn.infoNeed rfl (by decide) rfl _ _ rfl w.heap.size (.slice (some ⟨w.heap.size + 1 + 1, 0, none⟩) 0 0) 0 [] rfl HE.out g c ns.length (flat ns) (by simp [go_sem]) HR.out.1 (fun j u hu => row_cell HR3.out j hu) (flat_one ns) (by unfold maxLen; omega) (by omega) (by simp; omega) ?_))
  intro v' w6 hown hgr
  replace hown : w6.ownsRow w.heap.size 25 2 v' ns.length (flat ns) := by simpa using hown
  obtain ⟨va, vc, rfl⟩ := row_slice hown
  have HO6 := hid hown
  have HX6 : Hid (w6.heap[w.heap.size]? = some (.cells #[.string x, .string y, .slice (some ⟨g, 0, none⟩) ns.length c] 28 (0, 0))) := keep_rowG hgr HE.out (hb_alloc (hb_alloc (heap_alloc_new _ _) _) _) (by decide)
  have HZ6 : Hid (w6.heap[w.heap.size + 1]? = some (.cells #[.string ⟨#[]⟩, .string ⟨#[]⟩, .slice none 0 0] 28 (0, 0))) := keep_rowG hgr HE.out (hb_alloc (hb_newk (by simp)) _) (by decide)
  have HB6 : Hid (Below w.heap.size w w6) := ((((Below.refl _ _).alloc (Nat.le_refl _) _).alloc (by simp) _).alloc (by simp; omega) _).grown hgr (by simp; omega) (fun g hg => (row_own HE.out g hg).1)
  clear hown hgr HE HR3
  obtain ⟨i0, i1, i2, f0, f1, f2⟩ := PIn.k3 HX6.out
  obtain ⟨r0, r1, r2, z0, z1, z2⟩ := PIn.k3 HZ6.out
  go_wp2
  refine bodyPost_ret (results_cell_row rfl _ _ (w.heap.size + 1) 28 #[.string x, .string y, .slice va ns.length vc] (0, 0) _ rfl (heap_set (heap_set (heap_set (hb_set_ne HZ6.out _ _ (by show w.heap.size + 1 ≠ w.heap.size; omega)) 0 _) 1 _) 2 _) Tryd.underlying28 rfl (by kernel_rfl)) rfl ?_
  exact ⟨va, vc, rfl, row_setG (row_setG (row_setG (row_setG HO6.out HX6.out (by decide) _) (hb_set_ne HZ6.out _ _ (by show w.heap.size + 1 ≠ w.heap.size; omega)) (by decide) _) (heap_set (hb_set_ne HZ6.out _ _ (by show w.heap.size + 1 ≠ w.heap.size; omega)) 0 _) (by decide) _) (heap_set (heap_set (hb_set_ne HZ6.out _ _ (by show w.heap.size + 1 ≠ w.heap.size; omega)) 0 _) 1 _) (by decide) _, (((HB6.out.setCell (Nat.le_refl _) _).setCell (Nat.le_succ _) _).setCell (Nat.le_succ _) _).setCell (Nat.le_succ _) _⟩
set_option maxHeartbeats 4000000 in
theorem OwnInstance_none (x y : ByteArray) (w : World) :
    Calls Tryd.prog 89 #[.agg #[.string x, .string y, .slice none 0 0]] w fun e w' => ∃ a c', e = .returned (.agg #[.string x, .string y, .slice a 0 c']) ∧ w'.ownsRow w.heap.size 25 2 (.slice a 0 c') 0 (flat []) ∧ Below w.heap.size w w' := by
  go_enter Tryd.func89, Tryd.ntmps89
  go_wp2
  have hz : ((w.alloc (.cells #[.string x, .string y, .slice (some ⟨w.heap.size + 1 + 1, 0, none⟩) 0 0] 28)).alloc (.cells #[.string x, .string y, .slice (some ⟨w.heap.size + 1 + 1, 0, none⟩) 0 0] 28)).heap.size = w.heap.size + 1 + 1 := by simp
  have h := World.ownsRow_made (base := w.heap.size) (e := 25) (size := 2) ((w.alloc (.cells #[.string x, .string y, .slice (some ⟨w.heap.size + 1 + 1, 0, none⟩) 0 0] 28)).alloc (.cells #[.string x, .string y, .slice (some ⟨w.heap.size + 1 + 1, 0, none⟩) 0 0] 28)) #[] 0 (by simp; omega) (by simp [maxLen]) rfl
  rw [hz] at h
  refine bodyPost_ret (results_cell_row rfl _ _ (w.heap.size + 1) 28 #[.string x, .string y, .slice (some ⟨w.heap.size + 1 + 1, 0, none⟩) 0 0] (0, 0) _ rfl (hb_alloc (hb_newk (by simp)) _) Tryd.underlying28 rfl (by kernel_rfl)) rfl ?_
  exact ⟨_, _, rfl, h, (((Below.refl _ _).alloc (Nat.le_refl _) _).alloc (by simp) _).alloc (by simp; omega) _⟩
end PWo
end Go.Proofs.YtbdnhcfebgkpdaaDoor
set_option linter.unusedVariables false
set_option linter.unusedSimpArgs false
set_option maxRecDepth 100000
namespace Go.Proofs.YtbdnhcfebgkpdaaDoor
open Go.RowKit Ty SplP ListS CutS PIn PInP IRow
namespace PWo
theorem ir_slice {w : World} {b : Nat} {v : Value} {is : List II} (h : IR w b v is) : ∃ a c, v = .slice a is.length c := by
  obtain ⟨vs, h1, -⟩ := h
  exact row_slice h1
theorem IR_mono {w : World} {b b2 : Nat} {v : Value} {is : List II} (h : IR w b v is) (hb : b2 ≤ b) : IR w b2 v is := by
  obtain ⟨vs, h1, h2, h3, h4⟩ := h
  exact ⟨vs, row_mono h1 hb, h2, fun i p u hp hu => row_mono (h3 i p u hp hu) hb, h4⟩
theorem IR_set {w : World} {base k : Nat} {v x y : Value} {is : List II} (h : IR w base v is) (hk : w.heap[k]? = some (.cells #[x, y] 42 (0, 0))) (o : Nat) (x' : Value) : IR (w.setCell ⟨k, o, none⟩ x') base v is := by
  obtain ⟨vs, h1, h2⟩ := h
  exact ⟨vs, row_setG h1 hk (by decide) _, h2.set hk (by decide) _⟩
theorem OwnInst_any (x y : ByteArray) (u : Value) (ns : List BB) (b : Nat) (w : World) (hr : w.ownsRow b 25 2 u ns.length (flat ns)) (hl : ns.length ≤ 1048577) :
    Calls Tryd.prog 89 #[.agg #[.string x, .string y, u]] w fun e w' => ∃ a c', e = .returned (.agg #[.string x, .string y, .slice a ns.length c']) ∧ w'.ownsRow w.heap.size 25 2 (.slice a ns.length c') ns.length (flat ns) ∧ Below w.heap.size w w' := by
  rcases hr.2 with ⟨h, h0⟩ | ⟨g, c, cur, h, -⟩
  · subst h
    obtain rfl := List.length_eq_zero_iff.1 h0
    exact OwnInstance_none x y w
  · subst h
    exact OwnInstance_some x y g c b ns w hr hl
set_option maxHeartbeats 8000000 in
theorem OwnList_any (v : Value) (is : List II) (b : Nat) (w : World) (h : IR w b v is) (hl : is.length ≤ 1048577) (hn : ∀ (j : Nat) (p : II), is[j]? = some p → p.2.2.length ≤ 1048577) :
    Calls Tryd.prog 74 #[v] w fun e w' => ∃ u, e = .returned u ∧ IR w' w.heap.size u is ∧ Below w.heap.size w w' := by
  obtain ⟨a, c, rfl⟩ := ir_slice h
  have HN := hid hn
  have HH := hid h
  clear hn h
  go_enter Tryd.func74, Tryd.ntmps74
  go_wp2_with fail
  have HR0 : Hid ((w.alloc (.cells #[] 28)).ownsRow w.heap.size 28 3 (.slice (some ⟨w.heap.size, 0, none⟩) 0 0) 0 []) := by
    have h := World.ownsRow_made (base := w.heap.size) (e := 28) (size := 3) w #[] 0 (Nat.le_refl _) (by simp [maxLen]) rfl
    show World.ownsRow _ _ _ _ _ _ _
    simpa using h
  go_loopg [3, 9] is.length (fun q o i wr => ∃ (k g1 c1 : Nat) (vs D2 : List Value), k ≤ is.length ∧ is.length - k ≤ q ∧ i = .int .i64 k ∧ o = .slice (some ⟨g1, 0, none⟩) k c1 ∧ Hid (D2 = flatI (is.take k) vs) ∧ Hid (wr.ownsRow w.heap.size 28 3 (.slice (some ⟨g1, 0, none⟩) k c1) k D2) ∧ Hid (IRow.Rows wr w.heap.size (is.take k) vs) ∧ Below w.heap.size w wr)
  case atStart => exact ⟨0, w.heap.size, 0, [], flatI [] [], Nat.zero_le _, by simp, rfl, rfl, rfl, HR0.out, IRow.Rows.nil _ _, (Below.refl _ _).alloc (Nat.le_refl _) _⟩
  case round =>
    obtain ⟨k, g1, c1, vs, D2, hk, hq, rfl, rfl, hD, hrow, hrs, hb⟩ := hrel
    have HD := hid hD.out
    have HO := hid hrow.out
    have HRS := hid hrs.out
    have HB := hid hb
    have hbz := hb.size
    clear hD hrow hrs hb
    by_cases hlt : k < is.length
    · obtain ⟨⟨x, y, ns⟩, hp⟩ : ∃ p, is[k]? = some p := ⟨_, List.getElem?_eq_getElem hlt⟩
      have hnl : ns.length ≤ 1048577 := HN.out k _ hp
      obtain ⟨vs0, ho0, hr0⟩ := HH.out
      obtain ⟨u0, hu0⟩ : ∃ u, vs0[k]? = some u := ⟨_, List.getElem?_eq_getElem (by have := hr0.1; omega)⟩
      have hrw := hr0.2.1 k _ _ hp hu0
      obtain ⟨na, nc, rfl⟩ := row_slice hrw
      obtain ⟨f0, f1, f2⟩ := flatI_get is vs0 k _ _ hr0.1 hp hu0
      obtain ⟨g, hg⟩ : ∃ g, a = some ⟨g, 0, none⟩ := by
        rcases ho0.2 with ⟨h9, h8⟩ | ⟨g, c', cur, h9, -⟩
        · omega
        · cases h9; exact ⟨g, rfl⟩
      subst hg
      have kc0 : wr.cell? ⟨g, k * 3, none⟩ = some (.string x) := (HB.out.cell (lt_of_cell (row_cell ho0 _ f0))).trans (row_cell ho0 _ f0)
      have kc1 : wr.cell? ⟨g, k * 3 + 1, none⟩ = some (.string y) := (HB.out.cell (lt_of_cell (row_cell ho0 _ f1))).trans (row_cell ho0 _ f1)
      have kc2 : wr.cell? ⟨g, k * 3 + 2, none⟩ = some (.slice na ns.length nc) := (HB.out.cell (lt_of_cell (row_cell ho0 _ f2))).trans (row_cell ho0 _ f2)
      have HNR : Hid ((wr.alloc (.cells #[.string x, .string y, .slice na ns.length nc] 28)).ownsRow b 25 2 (.slice na ns.length nc) ns.length (flat ns)) := World.ownsRow.alloc (row_below HB.out hrw) _
      have HTK : Hid (is.take (k + 1) = is.take k ++ [(x, y, ns)]) := by
        show _ = _
        rw [List.take_add_one, hp]; rfl
      clear vs0 ho0 hr0 hu0 hrw f0 f1 f2 hp
      go_wp2_with fail
      have HBX : Hid (Below wr.heap.size wr (wr.alloc (.cells #[.string x, .string y, .slice na ns.length nc] 28))) := (Below.refl _ _).alloc (Nat.le_refl _) _
      clear kc0 kc1 kc2
      generalize wr.alloc (.cells #[.string x, .string y, .slice na ns.length nc] 28) = wx at *
      refine (OwnInst_any x y _ ns b wx HNR.out hnl).mono ?_
      rintro e w5 ⟨ma, mc, rfl, hnr, hb⟩
      have hz := HBX.out.size
      have HB5 : Hid (Below w.heap.size w w5) := (HB.out.trans (HBX.out.mono hbz)).trans (hb.mono (by omega))
      have HO5 := hid (row_below hb (row_below HBX.out HO.out))
      have HRS5 := hid ((HRS.out.below HBX.out).below hb)
      have HNW : Hid (∀ v ∈ vs, ∀ g, v.ownBlock = some g → (Value.slice ma ns.length mc).ownBlock ≠ some g) := by
        intro v hv g hg he
        have h1 := (HRS.out.own hv g hg).2
        have h2 := (row_own hnr g he).1
        omega
      have HNR5 : Hid (w5.ownsRow w.heap.size 25 2 (.slice ma ns.length mc) ns.length (flat ns)) := row_mono hnr (by omega)
      have hz5 := hb.size
      clear hb hnr HNR HBX
      have HBA : Hid (Below w.heap.size w (w5.alloc (.cells #[.string x, .string y, .slice ma ns.length mc] 28))) := HB5.out.alloc (by omega) _
      have HRA : Hid (IRow.Rows (w5.alloc (.cells #[.string x, .string y, .slice ma ns.length mc] 28)) w.heap.size (is.take k) vs) := HRS5.out.below ((Below.refl _ _).alloc (Nat.le_refl _) _)
      have HNA : Hid ((w5.alloc (.cells #[.string x, .string y, .slice ma ns.length mc] 28)).ownsRow w.heap.size 25 2 (.slice ma ns.length mc) ns.length (flat ns)) := World.ownsRow.alloc HNR5.out _
      have HOA : Hid ((w5.alloc (.cells #[.string x, .string y, .slice ma ns.length mc] 28)).ownsRow w.heap.size 28 3 (.slice (some ⟨g1, 0, none⟩) k c1) k D2) := World.ownsRow.alloc HO5.out _
      go_wp2_with (first
        | (at_builtin; refine app_push_at 40 28 (.agg #[.string ⟨#[]⟩, .string ⟨#[]⟩, .slice none 0 0]) 3 56 Tryd.underlying40 infoInst rfl (by decide) rfl _ _ rfl w.heap.size (.slice (some ⟨g1, 0, none⟩) k c1) k D2 rfl HOA.out w5.heap.size 1 [.string x, .string y, .slice ma ns.length mc] (by simp [go_sem]) (by simp) (news_three (heap_cell (heap_alloc_new _ _) 0) (heap_cell (heap_alloc_new _ _) 1) (heap_cell (heap_alloc_new _ _) 2)) (by simp [Value.oneCell']) (by unfold maxLen; omega) (by omega) (by first | omega | (simp; omega)) ?_))
      intro g1' cap1 w6 hown hgr hlie
      have HRS6 := hid (HRA.out.grown hgr HOA.out (by decide))
      have HNR6 := hid (row_grownG hgr HNA.out HOA.out (by decide))
      have HB6 : Hid (Below w.heap.size w w6) := HBA.out.grown hgr (by simp; omega) (fun g hg => (row_own HOA.out g hg).1)
      have HO6 := hid hown
      clear hown hgr hlie
      go_wp2_with fail
      go_roundg (is.length - (k + 1))
      case measure => omega
      case rel =>
        refine ⟨k + 1, g1', cap1, vs ++ [.slice ma ns.length mc], _, by omega, by omega, by go_num, rfl, ?_, HO6.out, ?_, HB6.out⟩
        · show _ = _
          rw [HTK.out, flatI_snoc _ vs _ _ HRS.out.1, HD.out]
        · show IRow.Rows _ _ _ _
          rw [HTK.out]
          exact HRS6.out.snoc (p := (x, y, ns)) HNR6.out HNW.out
    · have hke : k = is.length := by omega
      have hir : IR wr w.heap.size (.slice (some ⟨g1, 0, none⟩) k c1) is := by
        have h1 := HRS.out
        have h2 := HO.out
        rw [HD.out] at h2
        rw [hke] at h1 h2 ⊢
        rw [List.take_length] at h1 h2
        exact ⟨vs, h2, h1⟩
      have HIR := hid hir
      clear hir HO HRS HD hq
      go_wp2
      go_ret
      exact ⟨_, rfl, HIR.out, HB.out⟩
def OwPost (w : World) (cs : List BB) (is : List II) (e : Ending) (w' : World) : Prop := ∃ v u, e = .returned (.agg #[v, u]) ∧ w'.ownsRow w.heap.size 69 2 v cs.length (flat cs) ∧ IR w' w.heap.size u is ∧ Below w.heap.size w w'
set_option maxHeartbeats 8000000 in
theorem OwnWorld_some (g c d b0 : Nat) (b : Option Addr) (cs : List BB) (is : List II) (w : World) (ho : w.ownsRow b0 69 2 (.slice (some ⟨g, 0, none⟩) cs.length c) cs.length (flat cs)) (hi : IR w b0 (.slice b is.length d) is) (hcl : cs.length ≤ 1048577) (hl : is.length ≤ 1048577) (hn : ∀ (j : Nat) (p : II), is[j]? = some p → p.2.2.length ≤ 1048577) :
    Calls Tryd.prog 52 #[.agg #[.slice (some ⟨g, 0, none⟩) cs.length c, .slice b is.length d]] w (OwPost w cs is) := by
  have HO := hid ho
  have HI := hid hi
  have HN := hid hn
  clear ho hi hn
  go_enter Tryd.func52, Tryd.ntmps52
  have HE : Hid ((((w.alloc (.cells #[.slice (some ⟨g, 0, none⟩) cs.length c, .slice b is.length d] 42)).alloc (.cells #[.slice none 0 0, .slice none 0 0] 42)).alloc (.cells #[] 69)).ownsRow w.heap.size 69 2 (.slice (some ⟨w.heap.size + 1 + 1, 0, none⟩) 0 0) 0 []) := by
    have h := World.ownsRow_made (base := w.heap.size) (e := 69) (size := 2) ((w.alloc (.cells #[.slice (some ⟨g, 0, none⟩) cs.length c, .slice b is.length d] 42)).alloc (.cells #[.slice none 0 0, .slice none 0 0] 42)) #[] 0 (by simp; omega) (by simp [maxLen]) rfl
    show World.ownsRow _ _ _ _ _ _ _
    simpa using h
  have HC3 : Hid ((((w.alloc (.cells #[.slice (some ⟨g, 0, none⟩) cs.length c, .slice b is.length d] 42)).alloc (.cells #[.slice none 0 0, .slice none 0 0] 42)).alloc (.cells #[] 69)).ownsRow b0 69 2 (.slice (some ⟨g, 0, none⟩) cs.length c) cs.length (flat cs)) := World.ownsRow.alloc (World.ownsRow.alloc (World.ownsRow.alloc HO.out _) _) _
  have HB3 : Hid (Below w.heap.size w (((w.alloc (.cells #[.slice (some ⟨g, 0, none⟩) cs.length c, .slice b is.length d] 42)).alloc (.cells #[.slice none 0 0, .slice none 0 0] 42)).alloc (.cells #[] 69))) := (((Below.refl _ _).alloc (Nat.le_refl _) _).alloc (by simp) _).alloc (by simp; omega) _
  go_wp2_with (first
    | (at_builtin; refine app_many_at 39 69 (.agg #[.string ⟨#[]⟩, .string ⟨#[]⟩]) 2 32 Tryd.underlying39 infoClass rfl (by decide) rfl _ _ rfl w.heap.size (.slice (some ⟨w.heap.size + 1 + 1, 0, none⟩) 0 0) 0 [] rfl HE.out g c cs.length (flat cs) (by simp [go_sem]) HO.out.1 (fun j u hu => row_cell HC3.out j hu) (flat_one cs) (by unfold maxLen; omega) (by omega) (by simp; omega) ?_))
  intro v' w6 hown hgr
  replace hown : w6.ownsRow w.heap.size 69 2 v' cs.length (flat cs) := by simpa using hown
  obtain ⟨va, vc, rfl⟩ := row_slice hown
  have HX6 : Hid (w6.heap[w.heap.size]? = some (.cells #[.slice (some ⟨g, 0, none⟩) cs.length c, .slice b is.length d] 42 (0, 0))) := keep_rowG hgr HE.out (hb_alloc (hb_alloc (heap_alloc_new _ _) _) _) (by decide)
  have HZ6 : Hid (w6.heap[w.heap.size + 1]? = some (.cells #[.slice none 0 0, .slice none 0 0] 42 (0, 0))) := keep_rowG hgr HE.out (hb_alloc (hb_newk (by simp)) _) (by decide)
  have HB6 : Hid (Below w.heap.size w w6) := HB3.out.grown hgr (by simp; omega) (fun g hg => (row_own HE.out g hg).1)
  have HC6 := hid hown
  have HI6 := hid (HI.out.below HB6.out)
  have hz6 := HB6.out.size
  clear hown hgr HE HC3 HB3
  obtain ⟨i0, i1, f0, f1⟩ := k2 HX6.out
  obtain ⟨r0, r1, z0, z1⟩ := k2 HZ6.out
  go_wp2_with fail
  have HIA : Hid (IR (w6.setCell ⟨w.heap.size, 0, none⟩ (.slice va cs.length vc)) b0 (.slice b is.length d) is) := IR_set HI6.out HX6.out _ _
  have HCA : Hid ((w6.setCell ⟨w.heap.size, 0, none⟩ (.slice va cs.length vc)).ownsRow w.heap.size 69 2 (.slice va cs.length vc) cs.length (flat cs)) := row_setG HC6.out HX6.out (by decide) _
  have HXA : Hid ((w6.setCell ⟨w.heap.size, 0, none⟩ (.slice va cs.length vc)).heap[w.heap.size]? = some (.cells #[.slice va cs.length vc, .slice b is.length d] 42 (0, 0))) := heap_set HX6.out 0 _
  have HZA : Hid ((w6.setCell ⟨w.heap.size, 0, none⟩ (.slice va cs.length vc)).heap[w.heap.size + 1]? = some (.cells #[.slice none 0 0, .slice none 0 0] 42 (0, 0))) := hb_set_ne HZ6.out _ _ (by show w.heap.size + 1 ≠ w.heap.size; omega)
  have HBA : Hid (Below w.heap.size w (w6.setCell ⟨w.heap.size, 0, none⟩ (.slice va cs.length vc))) := HB6.out.setCell (Nat.le_refl _) _
  clear HC6 HX6 HZ6 HB6 HI6
  clear i0 i1 f0 f1 r0 r1 z0 z1
  generalize w6.setCell ⟨w.heap.size, 0, none⟩ (.slice va cs.length vc) = wm at *
  have HC6 := HCA
  have HX6 := HXA
  have HZ6 := HZA
  have HB6 := HBA
  clear HCA HXA HZA HBA
  obtain ⟨i0, i1, f0, f1⟩ := k2 HX6.out
  obtain ⟨r0, r1, z0, z1⟩ := k2 HZ6.out
  have hz6m := HB6.out.size
  refine (OwnList_any _ is b0 wm HIA.out hl HN.out).mono ?_
  rintro e w7 ⟨u, rfl, hir, hb⟩
  obtain ⟨ua, uc, rfl⟩ := ir_slice hir
  have HIR := hid hir
  have HX7 := hid (below_heap hb (lt_of_heap HX6.out) HX6.out)
  have HZ7 := hid (below_heap hb (lt_of_heap HZ6.out) HZ6.out)
  have HC7 := hid (row_below hb HC6.out)
  have HB7 : Hid (Below w.heap.size w w7) := HB6.out.trans (hb.mono HB6.out.size)
  have hz7 := hb.size
  clear hb hir
  clear i0 i1 f0 f1 r0 r1 z0 z1
  obtain ⟨i0, i1, f0, f1⟩ := k2 HX7.out
  obtain ⟨r0, r1, z0, z1⟩ := k2 HZ7.out
  go_wp2
  have HX8 : Hid ((w7.setCell ⟨w.heap.size, 1, none⟩ (.slice ua is.length uc)).heap[w.heap.size]? = some (.cells #[.slice va cs.length vc, .slice ua is.length uc] 42 (0, 0))) := heap_set HX7.out 1 _
  have HZ8 : Hid ((w7.setCell ⟨w.heap.size, 1, none⟩ (.slice ua is.length uc)).heap[w.heap.size + 1]? = some (.cells #[.slice none 0 0, .slice none 0 0] 42 (0, 0))) := hb_set_ne HZ7.out _ _ (by show w.heap.size + 1 ≠ w.heap.size; omega)
  refine bodyPost_ret (results_cell_row rfl _ _ (w.heap.size + 1) 42 #[.slice va cs.length vc, .slice ua is.length uc] (0, 0) _ rfl (heap_set (heap_set HZ8.out 0 _) 1 _) Tryd.underlying42 rfl (by kernel_rfl)) rfl ?_
  refine ⟨.slice va cs.length vc, .slice ua is.length uc, rfl, row_setG (row_setG (row_setG HC7.out HX7.out (by decide) _) HZ8.out (by decide) _) (heap_set HZ8.out 0 _) (by decide) _, IR_mono (IR_sets (IR_set HIR.out HX7.out _ _) HZ8.out _ _) (by omega), ((HB7.out.setCell (Nat.le_refl _) _).setCell (Nat.le_succ _) _).setCell (Nat.le_succ _) _⟩
set_option maxHeartbeats 8000000 in
theorem OwnWorld_none (d b0 : Nat) (b : Option Addr) (is : List II) (w : World) (hi : IR w b0 (.slice b is.length d) is) (hl : is.length ≤ 1048577) (hn : ∀ (j : Nat) (p : II), is[j]? = some p → p.2.2.length ≤ 1048577) :
    Calls Tryd.prog 52 #[.agg #[.slice none 0 0, .slice b is.length d]] w (OwPost w [] is) := by
  have HI := hid hi
  have HN := hid hn
  clear hi hn
  go_enter Tryd.func52, Tryd.ntmps52
  go_wp2_with fail
  have HC6 : Hid ((((w.alloc (.cells #[.slice (some ⟨w.heap.size + 1 + 1, 0, none⟩) 0 0, .slice b is.length d] 42)).alloc (.cells #[.slice none 0 0, .slice none 0 0] 42)).alloc (.cells #[] 69)).ownsRow w.heap.size 69 2 (.slice (some ⟨w.heap.size + 1 + 1, 0, none⟩) 0 0) 0 []) := by
    have h := World.ownsRow_made (base := w.heap.size) (e := 69) (size := 2) ((w.alloc (.cells #[.slice (some ⟨w.heap.size + 1 + 1, 0, none⟩) 0 0, .slice b is.length d] 42)).alloc (.cells #[.slice none 0 0, .slice none 0 0] 42)) #[] 0 (by simp; omega) (by simp [maxLen]) rfl
    show World.ownsRow _ _ _ _ _ _ _
    simpa using h
  have HX6 : Hid ((((w.alloc (.cells #[.slice (some ⟨w.heap.size + 1 + 1, 0, none⟩) 0 0, .slice b is.length d] 42)).alloc (.cells #[.slice none 0 0, .slice none 0 0] 42)).alloc (.cells #[] 69)).heap[w.heap.size]? = some (.cells #[.slice (some ⟨w.heap.size + 1 + 1, 0, none⟩) 0 0, .slice b is.length d] 42 (0, 0))) := hb_alloc (hb_alloc (heap_alloc_new _ _) _) _
  have HZ6 : Hid ((((w.alloc (.cells #[.slice (some ⟨w.heap.size + 1 + 1, 0, none⟩) 0 0, .slice b is.length d] 42)).alloc (.cells #[.slice none 0 0, .slice none 0 0] 42)).alloc (.cells #[] 69)).heap[w.heap.size + 1]? = some (.cells #[.slice none 0 0, .slice none 0 0] 42 (0, 0))) := hb_alloc (hb_newk (by simp)) _
  have HB6 : Hid (Below w.heap.size w (((w.alloc (.cells #[.slice (some ⟨w.heap.size + 1 + 1, 0, none⟩) 0 0, .slice b is.length d] 42)).alloc (.cells #[.slice none 0 0, .slice none 0 0] 42)).alloc (.cells #[] 69))) := (((Below.refl _ _).alloc (Nat.le_refl _) _).alloc (by simp) _).alloc (by simp; omega) _
  generalize ((w.alloc (.cells #[.slice (some ⟨w.heap.size + 1 + 1, 0, none⟩) 0 0, .slice b is.length d] 42)).alloc (.cells #[.slice none 0 0, .slice none 0 0] 42)).alloc (.cells #[] 69) = wm at *
  obtain ⟨i0, i1, f0, f1⟩ := k2 HX6.out
  obtain ⟨r0, r1, z0, z1⟩ := k2 HZ6.out
  have hz6m := HB6.out.size
  refine (OwnList_any _ is b0 wm (HI.out.below HB6.out) hl HN.out).mono ?_
  rintro e w7 ⟨u, rfl, hir, hb⟩
  obtain ⟨ua, uc, rfl⟩ := ir_slice hir
  have HIR := hid hir
  have HX7 := hid (below_heap hb (lt_of_heap HX6.out) HX6.out)
  have HZ7 := hid (below_heap hb (lt_of_heap HZ6.out) HZ6.out)
  have HC7 := hid (row_below hb HC6.out)
  have HB7 : Hid (Below w.heap.size w w7) := HB6.out.trans (hb.mono HB6.out.size)
  have hz7 := hb.size
  clear hb hir
  clear i0 i1 f0 f1 r0 r1 z0 z1
  obtain ⟨i0, i1, f0, f1⟩ := k2 HX7.out
  obtain ⟨r0, r1, z0, z1⟩ := k2 HZ7.out
  go_wp2
  have HX8 : Hid ((w7.setCell ⟨w.heap.size, 1, none⟩ (.slice ua is.length uc)).heap[w.heap.size]? = some (.cells #[.slice (some ⟨w.heap.size + 1 + 1, 0, none⟩) 0 0, .slice ua is.length uc] 42 (0, 0))) := heap_set HX7.out 1 _
  have HZ8 : Hid ((w7.setCell ⟨w.heap.size, 1, none⟩ (.slice ua is.length uc)).heap[w.heap.size + 1]? = some (.cells #[.slice none 0 0, .slice none 0 0] 42 (0, 0))) := hb_set_ne HZ7.out _ _ (by show w.heap.size + 1 ≠ w.heap.size; omega)
  refine bodyPost_ret (results_cell_row rfl _ _ (w.heap.size + 1) 42 #[.slice (some ⟨w.heap.size + 1 + 1, 0, none⟩) 0 0, .slice ua is.length uc] (0, 0) _ rfl (heap_set (heap_set HZ8.out 0 _) 1 _) Tryd.underlying42 rfl (by kernel_rfl)) rfl ?_
  refine ⟨.slice (some ⟨w.heap.size + 1 + 1, 0, none⟩) 0 0, .slice ua is.length uc, rfl, row_setG (row_setG (row_setG HC7.out HX7.out (by decide) _) HZ8.out (by decide) _) (heap_set HZ8.out 0 _) (by decide) _, IR_mono (IR_sets (IR_set HIR.out HX7.out _ _) HZ8.out _ _) (by omega), ((HB7.out.setCell (Nat.le_refl _) _).setCell (Nat.le_succ _) _).setCell (Nat.le_succ _) _⟩
theorem OwnWorld_any (v u : Value) (b0 : Nat) (cs : List BB) (is : List II) (w : World) (ho : w.ownsRow b0 69 2 v cs.length (flat cs)) (hi : IR w b0 u is) (hcl : cs.length ≤ 1048577) (hl : is.length ≤ 1048577) (hn : ∀ (j : Nat) (p : II), is[j]? = some p → p.2.2.length ≤ 1048577) :
    Calls Tryd.prog 52 #[.agg #[v, u]] w (OwPost w cs is) := by
  obtain ⟨b, d, rfl⟩ := ir_slice hi
  rcases ho.2 with ⟨h, h0⟩ | ⟨g, c, cur, h, -⟩
  · subst h
    obtain rfl := List.length_eq_zero_iff.1 h0
    exact OwnWorld_none d b0 b is w hi hl hn
  · subst h
    exact OwnWorld_some g c d b0 b cs is w ho hi hcl hl hn
/-- sizes of what a text spells -/
theorem rW_sizes (l : List UInt8) (hl : l.length ≤ 1048576) : tot (rW (PWoP.specW l)).1 + (rW (PWoP.specW l)).1.length ≤ 1048577 ∧ itot (rW (PWoP.specW l)).2.1 + (rW (PWoP.specW l)).2.1.length ≤ 1048576 := by
  cases hs : PWoP.specW l with
  | none => exact ⟨by simp [rW, tot], by simp [rW, itot]⟩
  | some q =>
    obtain ⟨cs, is⟩ := q
    obtain ⟨p0, hp0⟩ : ∃ a, (splitC 59 l)[0]? = some a := by
      cases h : splitC 59 l with
      | nil => exact absurd h (splitC_ne 59 l)
      | cons a r => exact ⟨a, rfl⟩
    rw [specW_eq hp0] at hs
    split at hs
    · simp at hs
    · rename_i js hi
      split at hs
      · cases hs
        exact world_sizesS hp0 hl hi
      · simp at hs
theorem lens_of {is : List II} (h : itot is ≤ 1048577) (j : Nat) (p : II) (hp : is[j]? = some p) : p.2.2.length ≤ 1048577 := by
  have := itot_at is j p hp
  unfold iw at this
  omega
set_option maxHeartbeats 8000000 in
theorem ParseWorld_spec (l : List UInt8) (w : World) (hl : l.length ≤ 1048576) :
    Calls Tryd.prog 26 #[.string ⟨l.toArray⟩] w (WoPost w (rW (PWoP.specW l))) := by
  obtain ⟨hs1, hs2⟩ := rW_sizes l hl
  obtain ⟨⟨cs, is, ok⟩, hr⟩ : ∃ r, r = rW (PWoP.specW l) := ⟨_, rfl⟩
  have HC := hid (fun w => RawParseWorld_spec l w hl)
  rw [← hr] at hs1 hs2 HC ⊢
  dsimp only at hs1 hs2
  clear hr
  go_enter Tryd.func26, Tryd.ntmps26
  go_wp2_with fail
  have HB0 : Hid (Below w.heap.size w (w.alloc (.cells #[.slice none 0 0, .slice none 0 0] 42))) := (Below.refl _ _).alloc (Nat.le_refl _) _
  have HR0 : Hid ((w.alloc (.cells #[.slice none 0 0, .slice none 0 0] 42)).heap[w.heap.size]? = some (.cells #[.slice none 0 0, .slice none 0 0] 42 (0, 0))) := heap_alloc_new _ _
  generalize w.alloc (.cells #[.slice none 0 0, .slice none 0 0] 42) = w0 at *
  refine (HC.out w0).mono ?_
  clear HC
  rintro e w1 ⟨v, u, rfl, hv, hu, hb⟩
  obtain ⟨va, vc, rfl⟩ := row_slice hv
  obtain ⟨ua, uc, rfl⟩ := ir_slice hu
  have HV := hid hv
  have HU := hid hu
  have HB1 : Hid (Below w.heap.size w w1) := HB0.out.trans (hb.mono HB0.out.size)
  have HR1 := hid (below_heap hb (lt_of_heap HR0.out) HR0.out)
  have hz1 := HB1.out.size
  clear hv hu hb
  go_wp2_with fail
  have HBX : Hid (Below w1.heap.size w1 (w1.alloc (.cells #[.slice va cs.length vc, .slice ua is.length uc] 42))) := (Below.refl _ _).alloc (Nat.le_refl _) _
  generalize w1.alloc (.cells #[.slice va cs.length vc, .slice ua is.length uc] 42) = wx at *
  refine (OwnWorld_any _ _ w0.heap.size cs is wx (row_below HBX.out HV.out) (HU.out.below HBX.out) (by omega) (by omega) (fun j p hp => lens_of (by omega) j p hp)).mono ?_
  rintro e w2 ⟨v', u', rfl, hv, hu, hb⟩
  obtain ⟨va', vc', rfl⟩ := row_slice hv
  obtain ⟨ua', uc', rfl⟩ := ir_slice hu
  have hzx := HBX.out.size
  have HB2 : Hid (Below w.heap.size w w2) := (HB1.out.trans (HBX.out.mono hz1)).trans (hb.mono (by omega))
  have HR2 := hid (below_heap hb (Nat.lt_of_lt_of_le (lt_of_heap HR1.out) HBX.out.size) (below_heap HBX.out (lt_of_heap HR1.out) HR1.out))
  have HV2 := hid (row_mono hv (by omega : w.heap.size ≤ _))
  have HU2 := hid (IR_mono hu (by omega : w.heap.size ≤ _))
  clear hv hu hb
  obtain ⟨r0, r1, z0, z1⟩ := k2 HR2.out
  have hlr2 := lt_of_heap HR2.out
  go_wp2
  refine bodyPost_ret (results_row_tmp rfl _ _ w.heap.size 42 #[.slice va' cs.length vc', .slice ua' is.length uc'] (0, 0) _ rfl (heap_set (heap_set HR2.out 0 _) 1 _) Tryd.underlying42 rfl (by kernel_rfl)) rfl ?_
  exact ⟨.slice va' cs.length vc', .slice ua' is.length uc', rfl, row_setG (row_setG HV2.out HR2.out (by decide) _) (heap_set HR2.out 0 _) (by decide) _, IR_sets HU2.out HR2.out _ _, (HB2.out.setCell (Nat.le_refl _) _).setCell (Nat.le_refl _) _⟩
end PWo
end Go.Proofs.YtbdnhcfebgkpdaaDoor
