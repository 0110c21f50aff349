/- ParseWorld of the program. Conditions: the text is at most 2^20 bytes long; a variable of the library holds a number. -/
import Derived.Test.YtbdnhcfebgkpdaaDoorTail
set_option linter.unusedVariables false
set_option linter.unusedSimpArgs false
set_option maxRecDepth 100000
namespace Go.Proofs.YtbdnhcfebgkpdaaDoor
open Go.RowKit Ty SplP ListS CutS PIn PInP IRow
namespace PWo
theorem infoClass : (Tryd.prog.info? 69).map (fun i => (i.zero, i.size, i.bytes)) = some (some (.agg #[.string ⟨#[]⟩, .string ⟨#[]⟩]), 2, 32) := by kernel_rfl
theorem infoInst : (Tryd.prog.info? 28).map (fun i => (i.zero, i.size, i.bytes)) = some (some (.agg #[.string ⟨#[]⟩, .string ⟨#[]⟩, .slice none 0 0]), 3, 56) := by kernel_rfl
theorem clsI_none {x : List UInt8} (h : (60 : UInt8) ∉ x) : PWoP.clsI x = (⟨x.toArray⟩, ⟨#[]⟩) := by
  unfold PWoP.clsI
  have h1 : ∀ c ∈ x, (c != 60) = true := fun c hc => by
    have : c ≠ 60 := by rintro rfl; exact h hc
    simpa using this
  have h2 : x.takeWhile (· != 60) = x := by
    clear h
    induction x with
    | nil => rfl
    | cons c r ih => rw [List.takeWhile_cons, h1 c (by simp), if_pos rfl, ih (fun d hd => h1 d (by simp [hd]))]
  have h3 : x.dropWhile (· != 60) = [] := by
    clear h h2
    induction x with
    | nil => rfl
    | cons c r ih => rw [List.dropWhile_cons, h1 c (by simp), if_pos rfl, ih (fun d hd => h1 d (by simp [hd]))]
  rw [h2, h3]
  rfl
theorem clsI_cut {a : List UInt8} (b : List UInt8) (h : (60 : UInt8) ∉ a) : PWoP.clsI (a ++ 60 :: b) = (⟨a.toArray⟩, ⟨b.toArray⟩) := by
  unfold PWoP.clsI
  have h2 : (a ++ 60 :: b).takeWhile (· != 60) = a ∧ (a ++ 60 :: b).dropWhile (· != 60) = 60 :: b := by
    induction a with
    | nil => simp
    | cons c r ih =>
      have hc : (c != 60) = true := by
        have : c ≠ 60 := by rintro rfl; exact h (by simp)
        simpa using this
      obtain ⟨i1, i2⟩ := ih (fun hm => h (by simp [hm]))
      refine ⟨?_, ?_⟩
      · rw [List.cons_append, List.takeWhile_cons, hc, if_pos rfl, i1]
      · rw [List.cons_append, List.dropWhile_cons, hc, if_pos rfl, i2]
  rw [h2.1, h2.2]
  rfl
/-- a block of another kind stands when a row grows -/
theorem keep_rowG {w w' : World} {base n size : Nat} {v : Value} {xs : List Value} {e0 : TypeId} (hg : w.grownBy w' v.ownBlock) (ho : w.ownsRow base e0 size v n xs) {k : Nat} {cs : Array Value} {e : TypeId} {fr : Nat × Nat} (h : w.heap[k]? = some (.cells cs e fr)) (hne : e ≠ e0) : w'.heap[k]? = some (.cells cs e fr) := by
  refine grown_keep hg h fun hk => ?_
  rcases ho.2 with ⟨rfl, _⟩ | ⟨g, cap, cur, rfl, hb, hgg, rest⟩
  · simp [Value.ownBlock] at hk
  · simp [Value.ownBlock] at hk
    subst hk
    rw [h] at hgg
    cases hgg
    exact hne rfl
theorem PB_keepG {w w' : World} {base n size : Nat} {v : Value} {xs : List Value} {e0 : TypeId} {pb : Nat} {ps : List (List UInt8)} (hg : w.grownBy w' v.ownBlock) (ho : w.ownsRow base e0 size v n xs) (hne : 9 ≠ e0) (h : PB w pb ps) : PB w' pb ps := by
  obtain ⟨cur, h1, h2⟩ := h
  exact ⟨cur, keep_rowG hg ho h1 hne, h2⟩
theorem k2 {w : World} {b : Nat} {x y : Value} {e : TypeId} (h : w.heap[b]? = some (.cells #[x, y] e (0, 0))) : w.cell? ⟨b, 0, none⟩ = some x ∧ w.cell? ⟨b, 1, none⟩ = some y ∧ w.frozen? ⟨b, 0, none⟩ = false ∧ w.frozen? ⟨b, 1, none⟩ = false :=
  ⟨heap_cell h 0, heap_cell h 1, heap_free h 0, heap_free h 1⟩
theorem take_map_snoc {α β : Type} (f : α → β) (ps : List α) (k : Nat) (x : α) (h : ps[k]? = some x) : (ps.take (k + 1)).map f = (ps.take k).map f ++ [f x] := by
  obtain ⟨hl, hg⟩ := List.getElem?_eq_some_iff.1 h
  rw [List.take_succ_eq_append_getElem hl, hg, List.map_append]
  rfl
/-- what ParseInstance does with a piece that spells no instance -/
theorem PI_bad (l : List UInt8) (w : World) (hn : instL l = none) (hl : l.length ≤ 1048576) (hm : ∃ m, w.cell? ⟨0, 0, none⟩ = some (.int .i64 m)) : Calls Tryd.prog 6 #[.string ⟨l.toArray⟩] w fun e w' => ∃ a c, e = .returned (.tuple #[.agg #[.string ⟨#[]⟩, .string ⟨#[]⟩, .slice a 0 c], .bool false]) ∧ Below w.heap.size w w' := by
  refine (PIn.ParseInstance_impl l w hl hm).mono ?_
  rw [PIn.rI_none hn]
  rintro e w' ⟨v, rfl, hv, hb⟩
  obtain ⟨a, c, rfl⟩ := row_slice hv
  exact ⟨a, c, rfl, hb⟩
theorem PI_good (l : List UInt8) (x y : ByteArray) (ns : List BB) (w : World) (hn : instL l = some ((x, y), ns)) (hl : l.length ≤ 1048576) (hm : ∃ m, w.cell? ⟨0, 0, none⟩ = some (.int .i64 m)) : Calls Tryd.prog 6 #[.string ⟨l.toArray⟩] w fun e w' => ∃ a c, e = .returned (.tuple #[.agg #[.string x, .string y, .slice a ns.length c], .bool true]) ∧ w'.ownsRow w.heap.size 25 2 (.slice a ns.length c) ns.length (flat ns) ∧ Below w.heap.size w w' := by
  refine (PIn.ParseInstance_impl l w hl hm).mono ?_
  rw [PIn.rI_some hn]
  rintro e w' ⟨v, rfl, hv, hb⟩
  obtain ⟨a, c, rfl⟩ := row_slice hv
  exact ⟨a, c, rfl, hv, hb⟩
/-- the call's results: a world of the call's own, and whether there was one -/
def WoPost (w : World) (r : List BB × List II × Bool) (e : Ending) (w' : World) : Prop := ∃ v u, e = .returned (.tuple #[.agg #[v, u], .bool r.2.2]) ∧ w'.ownsRow w.heap.size 69 2 v r.1.length (flat r.1) ∧ IR w' w.heap.size u r.2.1 ∧ Below w.heap.size w w'
theorem row_mono {w : World} {b b2 n size : Nat} {e : TypeId} {v : Value} {xs : List Value} (h : w.ownsRow b e size v n xs) (hb : b2 ≤ b) : w.ownsRow b2 e size v n xs := by
  refine ⟨h.1, ?_⟩
  rcases h.2 with h | ⟨g, cap, cur, h1, h2, rest⟩
  · exact .inl h
  · exact .inr ⟨g, cap, cur, h1, Nat.le_trans hb h2, rest⟩
theorem IR_sets {w : World} {base k : Nat} {v x y : Value} {is : List II} (h : IR w base v is) (hk : w.heap[k]? = some (.cells #[x, y] 42 (0, 0))) (x' y' : Value) : IR ((w.setCell ⟨k, 0, none⟩ x').setCell ⟨k, 1, none⟩ y') base v is := by
  obtain ⟨vs, h1, h2⟩ := h
  exact ⟨vs, row_setG (row_setG h1 hk (by decide) _) (heap_set hk 0 _) (by decide) _, (h2.set hk (by decide) _).set (heap_set hk 0 _) (by decide) _⟩
theorem mk_of_toList {a : ByteArray} {l : List UInt8} (h : a.toList = l) : a = ⟨l.toArray⟩ := by
  rw [← h]; apply ByteArray.ext; simp [ByteArray.toList_eq]
theorem row_noneI (w : World) (b : Nat) : w.ownsRow b 28 3 (.slice none 0 0) 0 (flatI [] []) := ⟨by simp [flatI], .inl ⟨rfl, rfl⟩⟩
theorem row_noneC (w : World) (b : Nat) : w.ownsRow b 69 2 (.slice none 0 0) 0 (flat []) := ⟨by simp [flat], .inl ⟨rfl, rfl⟩⟩
set_option maxHeartbeats 8000000 in
theorem ParseWorld_impl (l : List UInt8) (w : World) (hl : l.length ≤ 1048576) (hm : ∃ m, w.cell? ⟨0, 0, none⟩ = some (.int .i64 m)) :
    Calls Tryd.prog 20 #[.string ⟨l.toArray⟩] w (WoPost w (rW (PWoP.implW l))) := by
  have HMX := hid hm
  have HLL := hid hl
  clear hm
  go_enter Tryd.func20, Tryd.ntmps20
  go_wp2_with fail
  have HB0 : Hid (Below w.heap.size w (w.alloc (.cells #[.slice none 0 0, .slice none 0 0] 42))) := (Below.refl _ _).alloc (Nat.le_refl _) _
  have HR0 : Hid ((w.alloc (.cells #[.slice none 0 0, .slice none 0 0] 42)).heap[w.heap.size]? = some (.cells #[.slice none 0 0, .slice none 0 0] 42 (0, 0))) := heap_alloc_new _ _
  generalize w.alloc (.cells #[.slice none 0 0, .slice none 0 0] 42) = w0 at *
  refine (split_any l 59 w0 hl (hm_below HMX.out HB0.out)).mono ?_
  rintro e w1 ⟨fb, rfl, hpb, hpl, hb⟩
  have HB1 : Hid (Below w.heap.size w w1) := HB0.out.trans (hb.mono HB0.out.size)
  have HR1 := hid (below_heap hb (lt_of_heap HR0.out) HR0.out)
  have HF1 := hid (PB.of_heap hpb)
  have hl1 := lt_of_heap HR1.out
  have hfl := HF1.out.lt
  clear hb hpb
  obtain ⟨p0, hp0⟩ : ∃ a, (splitC 59 l)[0]? = some a := by
    cases h : splitC 59 l with
    | nil => exact absurd h (splitC_ne 59 l)
    | cons a r => exact ⟨a, rfl⟩
  have kf : w1.cell? ⟨fb, 0, none⟩ = some (.string ⟨p0.toArray⟩) := HF1.out.at hp0
  have hal := piece_len hp0
  have hal2 : p0.length ≤ 1048576 := by omega
  have hpos : 0 < (splitC 59 l).length := (List.getElem?_eq_some_iff.1 hp0).1
  have hfl2 : (splitC 59 l).length ≤ 1048577 := by rw [splitC_len]; have := List.count_le_length (a := (59 : UInt8)) (l := l); omega
  have hsl : (splitC 32 p0).length ≤ 1048577 := by rw [splitC_len]; have := List.count_le_length (a := (32 : UInt8)) (l := p0); omega
  have HP0 := hid hp0
  clear hp0 hl
  go_wp2_with fail
  have HB2 : Hid (Below w.heap.size w (w1.alloc (.cells #[.slice none 0 0, .slice none 0 0] 42))) := HB1.out.alloc (by omega) _
  have HR2 : Hid ((w1.alloc (.cells #[.slice none 0 0, .slice none 0 0] 42)).heap[w.heap.size]? = some (.cells #[.slice none 0 0, .slice none 0 0] 42 (0, 0))) := hb_alloc HR1.out _
  have HI2 : Hid ((w1.alloc (.cells #[.slice none 0 0, .slice none 0 0] 42)).heap[w1.heap.size]? = some (.cells #[.slice none 0 0, .slice none 0 0] 42 (0, 0))) := heap_alloc_new _ _
  have HF2 : Hid (PB (w1.alloc (.cells #[.slice none 0 0, .slice none 0 0] 42)) fb (splitC 59 l)) := PB.alloc HF1.out _
  clear kf
  generalize w1.alloc (.cells #[.slice none 0 0, .slice none 0 0] 42) = w2 at *
  obtain ⟨bi, hbi⟩ : ∃ x, x = w1.heap.size := ⟨_, rfl⟩
  rw [← hbi] at HI2
  rw [← hbi]
  have hwbi : w.heap.size < bi := by omega
  clear hbi
  refine (split_any p0 32 w2 hal2 (hm_below HMX.out HB2.out)).mono ?_
  rintro e w3 ⟨pb, rfl, hpb, hpl2, hb⟩
  have HB3 : Hid (Below w.heap.size w w3) := HB2.out.trans (hb.mono HB2.out.size)
  have HR3 := hid (below_heap hb (lt_of_heap HR2.out) HR2.out)
  have HI3 := hid (below_heap hb (lt_of_heap HI2.out) HI2.out)
  have HF3 := hid (HF2.out.below hb)
  have HP3 := hid (PB.of_heap hpb)
  clear hb hpb
  go_wp2_with fail
  go_loopg [22] (splitC 32 p0).length (fun q i wr => ∃ (k : Nat) (v : Value) (D : List Value), k ≤ (splitC 32 p0).length ∧ (splitC 32 p0).length - k ≤ q ∧ i = .int .i64 k ∧ Hid (D = flat (((splitC 32 p0).take k).map PWoP.clsI)) ∧ Hid (wr.ownsRow w.heap.size 69 2 v k D) ∧ Hid (wr.heap[bi]? = some (.cells #[v, .slice none 0 0] 42 (0, 0))) ∧ Hid (wr.heap[w.heap.size]? = some (.cells #[.slice none 0 0, .slice none 0 0] 42 (0, 0))) ∧ Hid (PB wr pb (splitC 32 p0)) ∧ Hid (PB wr fb (splitC 59 l)) ∧ Below w.heap.size w wr)
  case atStart => exact ⟨0, .slice none 0 0, flat [], Nat.zero_le _, by simp, rfl, rfl, row_noneC _ _, HI3.out, HR3.out, HP3.out, HF3.out, HB3.out⟩
  case round =>
    obtain ⟨k, v, D, hk, hq, rfl, hD, hrow, hbi, hr, hp, hf, hb⟩ := hrel
    have HD := hid hD.out
    have HO := hid hrow.out
    have HI := hid hbi.out
    have HRR := hid hr.out
    have HP := hid hp.out
    have HF := hid hf.out
    have HB := hid hb
    have hbz := hb.size
    have hlbi := lt_of_heap hbi.out
    obtain ⟨i0, i1, g0, g1⟩ := k2 hbi.out
    clear hD hrow hbi hr hp hf hb
    by_cases hlt : k < (splitC 32 p0).length
    · obtain ⟨x, hx⟩ : ∃ x, (splitC 32 p0)[k]? = some x := ⟨_, List.getElem?_eq_getElem hlt⟩
      have kp : wr.cell? ⟨pb, k, none⟩ = some (.string ⟨x.toArray⟩) := HP.out.at hx
      have hxl := piece_len hx
      have HTM := hid (take_map_snoc PWoP.clsI _ _ _ hx)
      clear hx
      rcases cut_first 60 x with hno | ⟨a, b, rfl, hno⟩
      · have HC := hid (sCut_no x 60 wr hno)
        have HDN : Hid (D ++ [.string ⟨x.toArray⟩, .string ⟨#[]⟩] = flat (((splitC 32 p0).take (k + 1)).map PWoP.clsI)) := by
          show _ = _
          rw [HTM.out, flat_app, ← HD.out, clsI_none hno]
        clear hno
        go_wp2_with fail
        refine HC.out.mono ?_
        rintro e w5 ⟨rfl, rfl⟩
        clear HC kp
        go_wp2_with (first
          | (at_builtin; refine app_push_at 39 69 (.agg #[.string ⟨#[]⟩, .string ⟨#[]⟩]) 2 32 Tryd.underlying39 infoClass rfl (by decide) rfl _ _ rfl w.heap.size v k D rfl (World.ownsRow.alloc HO.out _) wr.heap.size 1 [.string ⟨(x : List UInt8).toArray⟩, .string ⟨#[]⟩] rfl rfl (news_two (heap_cell (heap_alloc_new _ _) 0) (heap_cell (heap_alloc_new _ _) 1)) (by simp [Value.oneCell']) (by unfold maxLen; omega) (by omega) (by first | omega | (simp; omega)) ?_))
        intro g1' cap1 w6 hown hgr hlie
        have hoA : World.ownsRow (wr.alloc (.cells #[.string ⟨(x : List UInt8).toArray⟩, .string ⟨#[]⟩] 69)) w.heap.size 69 2 v k D := World.ownsRow.alloc HO.out _
        have HI6 : Hid (w6.heap[bi]? = some (.cells #[v, .slice none 0 0] 42 (0, 0))) := keep_rowG hgr hoA (hb_alloc HI.out _) (by decide)
        have HR6 : Hid (w6.heap[w.heap.size]? = some (.cells #[.slice none 0 0, .slice none 0 0] 42 (0, 0))) := keep_rowG hgr hoA (hb_alloc HRR.out _) (by decide)
        have HPA : PB (wr.alloc (.cells #[.string ⟨(x : List UInt8).toArray⟩, .string ⟨#[]⟩] 69)) pb (splitC 32 p0) := PB.alloc HP.out _
        have HFA : PB (wr.alloc (.cells #[.string ⟨(x : List UInt8).toArray⟩, .string ⟨#[]⟩] 69)) fb (splitC 59 l) := PB.alloc HF.out _
        have HP6 : Hid (PB w6 pb (splitC 32 p0)) := PB_keepG hgr hoA (by decide) HPA
        have HF6 : Hid (PB w6 fb (splitC 59 l)) := PB_keepG hgr hoA (by decide) HFA
        have HB6 : Hid (Below w.heap.size w w6) := (HB.out.alloc (by first | omega | exact HB.out.size) _).grown hgr (by first | omega | (simp; have := HB.out.size; omega)) (fun g hg => (row_own hoA g hg).1)
        have HG6 := hid (row_block hown).2
        have HO6 := hid hown
        have hne : g1' ≠ bi := by
          obtain ⟨cur, hcur⟩ := HG6.out
          exact fun e => heap_ne HI6.out hcur (by decide) e.symm
        have hnp : pb ≠ bi := by
          obtain ⟨cur, hc, -⟩ := HP6.out
          exact fun e => heap_ne HI6.out hc (by decide) e.symm
        have hnf : fb ≠ bi := by
          obtain ⟨cur, hc, -⟩ := HF6.out
          exact fun e => heap_ne HI6.out hc (by decide) e.symm
        have hnr : w.heap.size ≠ bi := by omega
        clear hown hgr hlie HPA HFA hoA
        clear i0 i1 g0 g1
        obtain ⟨i0, i1, g0, g1⟩ := k2 HI6.out
        go_wp2_with fail
        go_roundg ((splitC 32 p0).length - (k + 1))
        case measure => omega
        case rel =>
          refine ⟨k + 1, .slice (some ⟨g1', 0, none⟩) (k + 1) cap1, _, by omega, by omega, by go_num, HDN, ?_, heap_set HI6.out 0 _, hb_set_ne HR6.out _ _ hnr, HP6.out.set _ hnp, HF6.out.set _ hnf, HB6.out.setCell (Nat.le_of_lt hwbi) _⟩
          show World.ownsRow _ _ _ _ _ _ _
          exact row_set HO6.out _ hne
      · have hab : a.length + b.length + 1 ≤ 1048576 := by simp at hxl; omega
        have HC := hid (sCut a b 60 wr hno (by omega))
        have HDN : Hid (D ++ [.string ⟨a.toArray⟩, .string ⟨b.toArray⟩] = flat (((splitC 32 p0).take (k + 1)).map PWoP.clsI)) := by
          show _ = _
          rw [HTM.out, flat_app, ← HD.out, clsI_cut b hno]
        clear hno
        go_wp2_with fail
        refine HC.out.mono ?_
        rintro e w5' ⟨rfl, n5, rfl⟩
        have hbn : Below wr.heap.size wr (wr.drewN n5) := below_drewN (Below.refl _ _) n5
        have HB5 : Hid (Below w.heap.size w (wr.drewN n5)) := HB.out.trans (hbn.mono HB.out.size)
        have HI5 := hid (below_heap hbn hlbi HI.out)
        have HR5 := hid (below_heap hbn (lt_of_heap HRR.out) HRR.out)
        have HP5 := hid (HP.out.below hbn)
        have HF5 := hid (HF.out.below hbn)
        have HO5 := hid (row_below hbn HO.out)
        have hz5 := hbn.size
        clear hbn HC kp i0 i1 g0 g1
        generalize wr.drewN n5 = w5 at *
        have hlbi5 := lt_of_heap HI5.out
        obtain ⟨i0, i1, g0, g1⟩ := k2 HI5.out
        go_wp2_with (first
          | (at_builtin; refine app_push_at 39 69 (.agg #[.string ⟨#[]⟩, .string ⟨#[]⟩]) 2 32 Tryd.underlying39 infoClass rfl (by decide) rfl _ _ rfl w.heap.size v k D rfl (World.ownsRow.alloc HO5.out _) w5.heap.size 1 [.string ⟨(a : List UInt8).toArray⟩, .string ⟨(b : List UInt8).toArray⟩] rfl rfl (news_two (heap_cell (heap_alloc_new _ _) 0) (heap_cell (heap_alloc_new _ _) 1)) (by simp [Value.oneCell']) (by unfold maxLen; omega) (by omega) (by first | omega | (simp; omega)) ?_))
        intro g1' cap1 w6 hown hgr hlie
        have hoA : World.ownsRow (w5.alloc (.cells #[.string ⟨(a : List UInt8).toArray⟩, .string ⟨(b : List UInt8).toArray⟩] 69)) w.heap.size 69 2 v k D := World.ownsRow.alloc HO5.out _
        have HI6 : Hid (w6.heap[bi]? = some (.cells #[v, .slice none 0 0] 42 (0, 0))) := keep_rowG hgr hoA (hb_alloc HI5.out _) (by decide)
        have HR6 : Hid (w6.heap[w.heap.size]? = some (.cells #[.slice none 0 0, .slice none 0 0] 42 (0, 0))) := keep_rowG hgr hoA (hb_alloc HR5.out _) (by decide)
        have HPA : PB (w5.alloc (.cells #[.string ⟨(a : List UInt8).toArray⟩, .string ⟨(b : List UInt8).toArray⟩] 69)) pb (splitC 32 p0) := PB.alloc HP5.out _
        have HFA : PB (w5.alloc (.cells #[.string ⟨(a : List UInt8).toArray⟩, .string ⟨(b : List UInt8).toArray⟩] 69)) fb (splitC 59 l) := PB.alloc HF5.out _
        have HP6 : Hid (PB w6 pb (splitC 32 p0)) := PB_keepG hgr hoA (by decide) HPA
        have HF6 : Hid (PB w6 fb (splitC 59 l)) := PB_keepG hgr hoA (by decide) HFA
        have HB6 : Hid (Below w.heap.size w w6) := (HB5.out.alloc (by first | omega | exact HB5.out.size) _).grown hgr (by first | omega | (simp; have := HB5.out.size; omega)) (fun g hg => (row_own hoA g hg).1)
        have HG6 := hid (row_block hown).2
        have HO6 := hid hown
        have hne : g1' ≠ bi := by
          obtain ⟨cur, hcur⟩ := HG6.out
          exact fun e => heap_ne HI6.out hcur (by decide) e.symm
        have hnp : pb ≠ bi := by
          obtain ⟨cur, hc, -⟩ := HP6.out
          exact fun e => heap_ne HI6.out hc (by decide) e.symm
        have hnf : fb ≠ bi := by
          obtain ⟨cur, hc, -⟩ := HF6.out
          exact fun e => heap_ne HI6.out hc (by decide) e.symm
        have hnr : w.heap.size ≠ bi := by omega
        clear hown hgr hlie HPA HFA hoA
        clear i0 i1 g0 g1
        obtain ⟨i0, i1, g0, g1⟩ := k2 HI6.out
        go_wp2_with fail
        go_roundg ((splitC 32 p0).length - (k + 1))
        case measure => omega
        case rel =>
          refine ⟨k + 1, .slice (some ⟨g1', 0, none⟩) (k + 1) cap1, _, by omega, by omega, by go_num, HDN, ?_, heap_set HI6.out 0 _, hb_set_ne HR6.out _ _ hnr, HP6.out.set _ hnp, HF6.out.set _ hnf, HB6.out.setCell (Nat.le_of_lt hwbi) _⟩
          show World.ownsRow _ _ _ _ _ _ _
          exact row_set HO6.out _ hne
    · have hke : k = (splitC 32 p0).length := by omega
      obtain ⟨CS, HCS⟩ : ∃ CS, Hid (CS = (splitC 32 p0).map PWoP.clsI) := ⟨_, rfl⟩
      have HCR : Hid (wr.ownsRow w.heap.size 69 2 v CS.length (flat CS)) := by
        show World.ownsRow _ _ _ _ _ _ _
        have h := HO.out
        rw [HD.out, hke, List.take_length, ← HCS.out] at h
        rw [HCS.out, List.length_map, ← HCS.out]
        exact h
      have hn1 : 1 ≤ (splitC 59 l).length := hpos
      obtain ⟨va0, vc0, rfl⟩ := row_slice HCR.out
      have HIr := hid HI.out
      have HRr := hid HRR.out
      have HFr := hid HF.out
      have HBr := hid HB.out
      clear hke HD HO HP hq i0 i1 g0 g1 HI HRR HF HB
      obtain ⟨o, ho, htail⟩ := run_tail fb (splitC 59 l).length hn1 wr
      have HO1 := hid ho
      clear ho
      go_wp2_with fail
      clear htail
      go_loopg [44] ((splitC 59 l).length - 1) (fun q i wr => ∃ (k : Nat) (D : List II) (u : Value) (vs D2 : List Value), k ≤ (splitC 59 l).length - 1 ∧ (splitC 59 l).length - 1 - k ≤ q ∧ i = .int .i64 k ∧ Hid (D.length = k) ∧ Hid (∀ (j : Nat) (p : List UInt8) (x : II), j < k → (splitC 59 l)[j + 1]? = some p → D[j]? = some x → instL p = some ((x.1, x.2.1), x.2.2)) ∧ Hid (D2 = flatI D vs) ∧ Hid (wr.ownsRow w.heap.size 28 3 u k D2) ∧ Hid (IRow.Rows wr w.heap.size D vs) ∧ Hid (wr.ownsRow w.heap.size 69 2 (.slice va0 CS.length vc0) CS.length (flat CS)) ∧ Hid (wr.heap[bi]? = some (.cells #[.slice va0 CS.length vc0, u] 42 (0, 0))) ∧ Hid (wr.heap[w.heap.size]? = some (.cells #[.slice none 0 0, .slice none 0 0] 42 (0, 0))) ∧ Hid (PB wr fb (splitC 59 l)) ∧ Below w.heap.size w wr)
      case atStart => exact ⟨0, [], .slice none 0 0, [], flatI [] [], Nat.zero_le _, by simp, rfl, rfl, (fun j p x h => by omega), rfl, row_noneI _ _, IRow.Rows.nil _ _, HCR.out, HIr.out, HRr.out, HFr.out, HBr.out⟩
      case round =>
        clear HIr HRr HFr HBr HCR hbz hlbi
        obtain ⟨k, D, u, vs, D2, hk, hq, rfl, hDk, hgd, hD2, hrow, hrows, hcr, hbi, hr, hf, hb⟩ := hrel
        have HDK := hid hDk.out
        have HGD := hid hgd.out
        have HD2 := hid hD2.out
        have HO := hid hrow.out
        have HRS := hid hrows.out
        have HCR := hid hcr.out
        have HI := hid hbi.out
        have HRR := hid hr.out
        have HF := hid hf.out
        have HB := hid hb
        have hbz := hb.size
        have hlbi := lt_of_heap hbi.out
        have hlr := lt_of_heap hr.out
        obtain ⟨i0, i1, g0, g1⟩ := k2 hbi.out
        obtain ⟨r0, r1, z0, z1⟩ := k2 hr.out
        clear hDk hgd hD2 hrow hrows hcr hbi hr hf hb
        by_cases hlt : k < (splitC 59 l).length - 1
        · obtain ⟨pc, hpc⟩ : ∃ pc, (splitC 59 l)[k + 1]? = some pc := ⟨_, List.getElem?_eq_getElem (by omega)⟩
          have kp : wr.cell? ⟨fb, o + k, none⟩ = some (.string ⟨pc.toArray⟩) := by
            rw [HO1.out (by omega), Nat.add_comm]
            exact HF.out.at hpc
          have hpcl : pc.length ≤ 1048576 := by
            have h1 := piece_len hpc
            have h2 := HLL.out
            omega
          have HPC := hid hpc
          clear hpc
          cases hn : instL pc with
          | none =>
            have HN := hid hn
            clear hn
            go_wp2_with fail
            refine (PI_bad pc wr HN.out hpcl (hm_below HMX.out HB.out)).mono ?_
            rintro e w5 ⟨na, nc, rfl, hb⟩
            have HB5 : Hid (Below w.heap.size w w5) := HB.out.trans (hb.mono HB.out.size)
            have HR5 := hid (below_heap hb hlr HRR.out)
            have hz5 := hb.size
            have hlr5 := lt_of_heap HR5.out
            have HR : Hid (rW (PWoP.implW l) = ([], [], false)) := bad_inst HP0.out HPC.out HN.out
            clear hb kp i0 i1 g0 g1 r0 r1 z0 z1
            obtain ⟨r0, r1, z0, z1⟩ := k2 HR5.out
            go_wp2
            refine bodyPost_ret (results_row_tmp rfl _ _ w.heap.size 42 #[.slice none 0 0, .slice none 0 0] (0, 0) _ rfl (hb_alloc (heap_set (heap_set HR5.out 0 _) 1 _) _) Tryd.underlying42 rfl (by kernel_rfl)) rfl ?_
            exact ⟨.slice none 0 0, .slice none 0 0, by rw [HR.out]; rfl, by rw [HR.out]; exact row_noneC _ _, by rw [HR.out]; exact IR.none _ _, (((HB5.out).setCell (Nat.le_refl _) _).setCell (Nat.le_refl _) _).alloc (by simp; omega) _⟩
          | some pr =>
            obtain ⟨⟨x, y⟩, ns⟩ := pr
            have HN := hid hn
            clear hn
            go_wp2_with fail
            refine (PI_good pc x y ns wr HN.out hpcl (hm_below HMX.out HB.out)).mono ?_
            rintro e w5 ⟨na, nc, rfl, hnr, hb⟩
            have HB5 : Hid (Below w.heap.size w w5) := HB.out.trans (hb.mono HB.out.size)
            have HR5 := hid (below_heap hb hlr HRR.out)
            have HI5 := hid (below_heap hb hlbi HI.out)
            have HO5 := hid (row_below hb HO.out)
            have HC5 := hid (row_below hb HCR.out)
            have HF5 := hid (HF.out.below hb)
            have HRS5 := hid (HRS.out.below hb)
            have HNW : Hid (∀ v ∈ vs, ∀ g, v.ownBlock = some g → (Value.slice na ns.length nc).ownBlock ≠ some g) := by
              intro v hv g hg he
              have h1 := (HRS.out.own hv g hg).2
              have h2 := (row_own hnr g he).1
              omega
            have HNR : Hid (w5.ownsRow w.heap.size 25 2 (.slice na ns.length nc) ns.length (flat ns)) := row_mono hnr hbz
            have hz5 := hb.size
            have hlr5 := lt_of_heap HR5.out
            have hlbi5 := lt_of_heap HI5.out
            clear hb kp i0 i1 g0 g1 r0 r1 z0 z1 hnr
            obtain ⟨i0, i1, g0, g1⟩ := k2 HI5.out
            have HOA : Hid ((w5.alloc (.cells #[.string x, .string y, .slice na ns.length nc] 28)).ownsRow w.heap.size 28 3 u k D2) := World.ownsRow.alloc HO5.out _
            have HBA : Hid (Below w.heap.size w (w5.alloc (.cells #[.string x, .string y, .slice na ns.length nc] 28))) := HB5.out.alloc (by omega) _
            have HCA : Hid ((w5.alloc (.cells #[.string x, .string y, .slice na ns.length nc] 28)).ownsRow w.heap.size 69 2 (.slice va0 CS.length vc0) CS.length (flat CS)) := World.ownsRow.alloc HC5.out _
            have HRA : Hid (IRow.Rows (w5.alloc (.cells #[.string x, .string y, .slice na ns.length nc] 28)) w.heap.size D vs) := HRS5.out.below ((Below.refl _ _).alloc (Nat.le_refl _) _)
            have HNA : Hid ((w5.alloc (.cells #[.string x, .string y, .slice na ns.length nc] 28)).ownsRow w.heap.size 25 2 (.slice na ns.length nc) ns.length (flat ns)) := World.ownsRow.alloc HNR.out _
            go_wp2_with (first
              | (at_builtin; refine app_push_at 40 28 (.agg #[.string ⟨#[]⟩, .string ⟨#[]⟩, .slice none 0 0]) 3 56 Tryd.underlying40 infoInst rfl (by decide) rfl _ _ rfl w.heap.size u k D2 rfl (World.ownsRow.alloc HOA.out _) (w5.heap.size + 1) 1 [.string x, .string y, .slice na ns.length nc] (by simp [go_sem]) (by simp) (news_three (heap_cell (hb_new2 _ _ _ _ rfl) 0) (heap_cell (hb_new2 _ _ _ _ rfl) 1) (heap_cell (hb_new2 _ _ _ _ rfl) 2)) (by simp [Value.oneCell']) (by unfold maxLen; omega) (by omega) (by first | omega | (simp; omega)) ?_))
            intro g1' cap1 w6 hown hgr hlie
            have hoA : World.ownsRow ((w5.alloc (.cells #[.string x, .string y, .slice na ns.length nc] 28)).alloc (.cells #[.string x, .string y, .slice na ns.length nc] 28)) w.heap.size 28 3 u k D2 := World.ownsRow.alloc HOA.out _
            have HI6 : Hid (w6.heap[bi]? = some (.cells #[.slice va0 CS.length vc0, u] 42 (0, 0))) := keep_rowG hgr hoA (hb_alloc (hb_alloc HI5.out _) _) (by decide)
            have HR6 : Hid (w6.heap[w.heap.size]? = some (.cells #[.slice none 0 0, .slice none 0 0] 42 (0, 0))) := keep_rowG hgr hoA (hb_alloc (hb_alloc HR5.out _) _) (by decide)
            have HFA : PB (w5.alloc (.cells #[.string x, .string y, .slice na ns.length nc] 28)) fb (splitC 59 l) := PB.alloc HF5.out _
            have HFB : PB ((w5.alloc (.cells #[.string x, .string y, .slice na ns.length nc] 28)).alloc (.cells #[.string x, .string y, .slice na ns.length nc] 28)) fb (splitC 59 l) := PB.alloc HFA _
            have HF6 : Hid (PB w6 fb (splitC 59 l)) := PB_keepG hgr hoA (by decide) HFB
            have HC6 : Hid (w6.ownsRow w.heap.size 69 2 (.slice va0 CS.length vc0) CS.length (flat CS)) := row_grownG hgr (World.ownsRow.alloc HCA.out _) hoA (by decide)
            have HRS6 : Hid (IRow.Rows w6 w.heap.size D vs) := (HRA.out.below ((Below.refl _ _).alloc (Nat.le_refl _) (.cells #[.string x, .string y, .slice na ns.length nc] 28))).grown hgr hoA (by decide)
            have HNR6 : Hid (w6.ownsRow w.heap.size 25 2 (.slice na ns.length nc) ns.length (flat ns)) := row_grownG hgr (World.ownsRow.alloc HNA.out _) hoA (by decide)
            have HB6 : Hid (Below w.heap.size w w6) := (HBA.out.alloc (by simp; omega) _).grown hgr (by simp; omega) (fun g hg => (row_own hoA g hg).1)
            have HG6 := hid (row_block hown).2
            have HO6 := hid hown
            have hne : g1' ≠ bi := by
              obtain ⟨cur, hcur⟩ := HG6.out
              exact fun e => heap_ne HI6.out hcur (by decide) e.symm
            have hnf : fb ≠ bi := by
              obtain ⟨cur, hc, -⟩ := HF6.out
              exact fun e => heap_ne HI6.out hc (by decide) e.symm
            have hnr : w.heap.size ≠ bi := by omega
            clear hown hgr hlie HFA HFB hoA
            clear i0 i1 g0 g1
            obtain ⟨i0, i1, g0, g1⟩ := k2 HI6.out
            go_wp2_with fail
            go_roundg ((splitC 59 l).length - 1 - (k + 1))
            case measure => omega
            case rel =>
              refine ⟨k + 1, D ++ [(x, y, ns)], .slice (some ⟨g1', 0, none⟩) (k + 1) cap1, vs ++ [.slice na ns.length nc], _, by omega, by omega, by go_num, ?_, ?_, ?_, row_setG HO6.out HI6.out (by decide) _, (by show IRow.Rows _ _ _ _; exact (HRS6.out.snoc (p := (x, y, ns)) HNR6.out HNW.out).set HI6.out (by decide) _), row_setG HC6.out HI6.out (by decide) _, heap_set HI6.out 1 _, hb_set_ne HR6.out _ _ hnr, HF6.out.set _ hnf, HB6.out.setCell (Nat.le_of_lt hwbi) _⟩
              · show _ = _
                rw [List.length_append, HDK.out]; rfl
              · show ∀ (j : Nat) (p : List UInt8) (x' : II), _ → _ → _ → _
                intro j p x' hj hpj hxj
                by_cases e : j < k
                · rw [List.getElem?_append_left (by have := HDK.out; omega)] at hxj
                  exact HGD.out j p x' e hpj hxj
                · obtain rfl : j = k := by omega
                  rw [HPC.out] at hpj
                  cases hpj
                  rw [List.getElem?_append_right (by have := HDK.out; omega), show j - D.length = 0 by have := HDK.out; omega] at hxj
                  simp at hxj
                  rw [← hxj]; exact HN.out
              · show _ = _
                rw [flatI_snoc D vs _ _ HRS.out.1, HD2.out]
        · have hke : k = (splitC 59 l).length - 1 := by omega
          have HIN : Hid (PWoP.instsL ((splitC 59 l).drop 1) = some D) := insts_mk (by rw [List.length_drop, HDK.out, hke]) (fun j p x hp hx => HGD.out j p x (by have := (List.getElem?_eq_some_iff.1 hx).1; rw [HDK.out] at this; exact this) (by rw [List.getElem?_drop, Nat.add_comm] at hp; exact hp) hx)
          have hsz := world_sizes HP0.out HLL.out HIN.out
          rw [← HCS.out] at hsz
          obtain ⟨hs0, hs1⟩ := hsz
          have hrow : wr.ownsRow w.heap.size 28 3 u D.length (flatI D vs) := by
            have h := HO.out
            rw [HD2.out, ← HDK.out] at h
            exact h
          obtain ⟨ua, uc, rfl⟩ := row_slice hrow
          have hir : IR wr w.heap.size (.slice ua D.length uc) D := ⟨vs, hrow, HRS.out⟩
          have HIR := hid hir
          have hcap : CS.length ≤ vc0 := row_cap HCR.out
          have HFM := hid (FW.FormatWorld_impl va0 ua vc0 uc CS D wr hs0 hs1 hcap (sp_of HCR.out (by omega)) (si_of hir (by omega)))
          clear hrow hir hke HO HGD hq hcap hs0 hs1
          by_cases hle : l = []
          · have HR : Hid (rW (PWoP.implW l) = ([], [], false)) := bad_empty HP0.out hle
            have hse : l.isEmpty = true := by rw [hle]; rfl
            clear hle
            go_wp2
            refine bodyPost_ret (results_row_tmp rfl _ _ w.heap.size 42 #[.slice none 0 0, .slice none 0 0] (0, 0) _ rfl (heap_set (heap_set HRR.out 0 _) 1 _) Tryd.underlying42 rfl (by kernel_rfl)) rfl ?_
            exact ⟨.slice none 0 0, .slice none 0 0, by rw [HR.out]; rfl, by rw [HR.out]; exact row_noneC _ _, by rw [HR.out]; exact IR.none _ _, ((HB.out).setCell (Nat.le_refl _) _).setCell (Nat.le_refl _) _⟩
          · have hse : l.isEmpty = false := by
              cases l with
              | nil => exact absurd rfl hle
              | cons c r => rfl
            have HLE := hid hle
            clear hle
            go_wp2_with fail
            refine HFM.out.mono ?_
            rintro e w6 ⟨rfl, hb⟩
            have HB6 : Hid (Below w.heap.size w w6) := HB.out.trans (hb.mono HB.out.size)
            have HR6 := hid (below_heap hb hlr HRR.out)
            have HI6 := hid (below_heap hb hlbi HI.out)
            have HC6 := hid (row_below hb HCR.out)
            have HIR6 := hid (HIR.out.below hb)
            have hlr6 := lt_of_heap HR6.out
            have hlbi6 := lt_of_heap HI6.out
            have hnr : w.heap.size ≠ bi := by omega
            clear hb i0 i1 g0 g1 r0 r1 z0 z1 HFM
            obtain ⟨i0, i1, g0, g1⟩ := k2 HI6.out
            obtain ⟨r0, r1, z0, z1⟩ := k2 HR6.out
            by_cases hf : FW.fmtW CS D = ⟨l.toArray⟩
            · have HR : Hid (rW (PWoP.implW l) = (CS, D, true)) := by
                have h := good_text HP0.out HIN.out HLE.out (by rw [← HCS.out]; exact hf)
                rw [← HCS.out] at h
                exact h
              have hft : ((FW.fmtW CS D).toList == l) = true := by rw [hf]; simp
              clear hf
              go_wp2
              refine bodyPost_ret (results_row_tmp rfl _ _ w.heap.size 42 #[.slice va0 CS.length vc0, .slice ua D.length uc] (0, 0) _ rfl (heap_set (heap_set HR6.out 0 _) 1 _) Tryd.underlying42 rfl (by kernel_rfl)) rfl ?_
              exact ⟨.slice va0 CS.length vc0, .slice ua D.length uc, by rw [HR.out]; rfl, by rw [HR.out]; exact row_setG (row_setG HC6.out HR6.out (by decide) _) (heap_set HR6.out 0 _) (by decide) _, by rw [HR.out]; exact IR_sets HIR6.out HR6.out _ _, (HB6.out.setCell (Nat.le_refl _) _).setCell (Nat.le_refl _) _⟩

            · have HR : Hid (rW (PWoP.implW l) = ([], [], false)) := bad_text HP0.out HIN.out (by rw [← HCS.out]; exact hf)
              have hft : ((FW.fmtW CS D).toList == l) = false := by
                cases h : ((FW.fmtW CS D).toList == l) with
                | false => rfl
                | true => exact absurd (mk_of_toList (by simpa using h)) hf
              clear hf
              go_wp2
              refine bodyPost_ret (results_row_tmp rfl _ _ w.heap.size 42 #[.slice none 0 0, .slice none 0 0] (0, 0) _ rfl (heap_set (heap_set HR6.out 0 _) 1 _) Tryd.underlying42 rfl (by kernel_rfl)) rfl ?_
              exact ⟨.slice none 0 0, .slice none 0 0, by rw [HR.out]; rfl, by rw [HR.out]; exact row_noneC _ _, by rw [HR.out]; exact IR.none _ _, ((HB6.out).setCell (Nat.le_refl _) _).setCell (Nat.le_refl _) _⟩

end PWo
end Go.Proofs.YtbdnhcfebgkpdaaDoor
