/- The reference's l2Full and l2Solve. Conditions: none. -/
import Derived.Test.YtcjalnianamlaaaUniU
set_option linter.unusedVariables false
set_option linter.unusedSimpArgs false
set_option maxRecDepth 100000
namespace Go.Proofs.Ytcjalnianamlaaa
open Go.RowKit Ty ListS Parts MkType
namespace UniS
open MatP UniP
theorem infoSNf : (Try.prog.info? 70).map (fun i => (i.zero, i.size, i.bytes)) = some (some (.agg #[.int .u8 0, .slice .none 0 0]), 2, 32) := by kernel_rfl
theorem made_row {W : World} {b : Nat} (z : Nat) (hz : W.heap.size = z) (hB : b ≤ z) : (W.alloc (.cells #[] 70)).ownsRow b 70 2 (.slice (some ⟨z, 0, none⟩) 0 0) 0 [] := by
  subst hz
  exact World.ownsRow_made W #[] 0 hB (by simp [maxLen]) rfl
theorem below_drewU {B : Nat} {w w' : World} (h : Below B w w') : Below B w w'.drew := ⟨h.os, h.tape, h.output, h.size, h.block⟩
def FPost (w : World) (e : Ending) (w' : World) : Prop := ∃ (c : UInt8) (a : Option Addr) (n cap : Nat), e = .returned (.agg #[.int .u8 c.toNat, .slice a n cap]) ∧ Below w.heap.size w w'
def FLo (w : World) (u : Ty) (Z : Nat) (q : Nat) (iv : Value) (wr : World) : Prop :=
  ∃ (k : Nat) (a : Option Addr) (cap : Nat) (ps : List Value), k ≤ u.parts.length ∧ u.parts.length - k ≤ q ∧ iv = .int .i64 k ∧ wr.heap[Z + 1]? = some (.cells #[.int .u8 u.head.toNat, .slice a k cap] 70 (0, 0)) ∧ (∃ x y, wr.heap[w.heap.size + 1]? = some (.cells #[x, y] 70 (0, 0))) ∧ wr.ownsRow Z 70 2 (.slice a k cap) k ps ∧ (∀ p, a = some p → p.block ≠ Z + 1) ∧ Below w.heap.size w wr
set_option maxHeartbeats 8000000 in
theorem l2Full_any {m : Sg} (hi : Inv m) {s : UInt8 → Ty} (hs : Sol m s) (M : Nat) : ∀ (t : Ty) (a : Option Addr) (n c : Nat) (w0 w : World) (mb : Nat), (ev s t).size < M → TW t → MapW w0 w mb m → Keeps 0 w0 w → w0.heap.size ≤ w.heap.size → SNode 0 w0 t (.int .u8 t.head.toNat) (.slice a n c) →
    Calls Try.prog 55 #[.pointer (some ⟨mb, 0, none⟩), .agg #[.int .u8 t.head.toNat, .slice a n c]] w (FPost w) := by
  induction M with
  | zero => intro t a n c w0 w mb h; omega
  | succ M ih =>
    intro t a n c w0 w mb hM ht hmap hk hz hnode
    obtain ⟨u, hw, -, hu, hse⟩ := wk_total hi ht
    have hse := hse s hs
    have hps : Hid (∀ p ∈ u.parts, (ev s p).size < M ∧ TW p) := fun p hp => ⟨by
      by_cases hul : u.head ∈ lts
      · rw [tw_leaf hu hul] at hp; simp [Ty.parts] at hp
      · have := parts_size (s := s) hul hp; rw [hse] at this; omega, tw_parts hu hp⟩
    have IH := hid ih
    have HMAP := hid hmap
    have HK := hid hk
    have HN := hid hnode
    have hp2 := parts_len u
    have hmlt := hmap.lt
    clear ih hmap hk hnode hse
    go_enter Try.func55, Try.ntmps55
    go_wp2_with fail
    have HBA : Hid (Below w.heap.size w ((w.alloc (.cells #[.int .u8 t.head.toNat, .slice a n c] 70)).alloc (.cells #[.int .u8 0, .slice none 0 0] 70))) := ((Below.refl _ _).alloc (Nat.le_refl _) _).alloc (by simp) _
    refine (l2Walk_any t u a n c w0 _ mb m hw (HMAP.out.below HBA.out) HN.out).mono ?_
    rintro e w1 ⟨au, nu, cu, rfl, hn, hb⟩
    obtain rfl : nu = u.parts.length := snode_len hn
    have HU := hid hn
    have HB1 : Hid (Below w.heap.size w w1) := HBA.out.trans (hb.mono (by simp; omega))
    have HBX := hid (below_heap hb (by simp; omega) (hb_alloc (heap_alloc_new w (.cells #[.int .u8 t.head.toNat, .slice a n c] 70)) (.cells #[.int .u8 0, .slice none 0 0] 70)))
    have HRS := hid (below_heap hb (by simp) (heap_alloc2_new w (.cells #[.int .u8 t.head.toNat, .slice a n c] 70) (.cells #[.int .u8 0, .slice none 0 0] 70)))
    have b0 := heap_cell HBX.out 0
    have b1 := heap_cell HBX.out 1
    have f0 := heap_free HBX.out 0
    have f1 := heap_free HBX.out 1
    have hl1 := lt_of_heap HRS.out
    have hl0 : w.heap.size < w1.heap.size := by omega
    have hl01 : w.heap.size < w1.heap.size + 1 := by omega
    clear hb hn
    go_wp2_with fail
    go_loopg [18] u.parts.length (fun q iv wr => FLo w u w1.heap.size q iv wr)
    case atStart =>
      refine ⟨0, some ⟨w1.heap.size, 0, none⟩, 0, [], Nat.zero_le _, by simp, rfl, ?_, ⟨_, _, hb_alloc (hb_alloc (hb_set_ne (hb_set_ne HRS.out _ _ (by show w.heap.size + 1 ≠ w.heap.size; omega)) _ _ (by show w.heap.size + 1 ≠ w.heap.size; omega)) _) _⟩, ?_, ?_, ?_⟩
      · exact hb_new2 _ _ _ _ (by simp)
      · exact World.ownsRow.alloc (made_row w1.heap.size (by simp) (Nat.le_refl _)) _
      · intro p h; cases h; show w1.heap.size ≠ w1.heap.size + 1; omega
      · exact (((HB1.out.setCell (Nat.le_refl _) _).setCell (Nat.le_refl _) _).alloc (by simp; have := HB1.out.size; omega) _).alloc (by simp; have := HB1.out.size; omega) _
    case round =>
      obtain ⟨k, ao, cap1, ps1, hk, hq, rfl, hob, ⟨xr, yr, hres⟩, hrw, hna, hb⟩ := hrel
      have HB := hid hb
      have HOB := hid hob
      have HRES := hid hres
      have HROW := hid hrw
      have HNA := hid hna
      have hzr := lt_of_heap hob
      have hbz := hb.size
      have o0 := heap_cell hob 0
      have o1 := heap_cell hob 1
      have fo1 := heap_free hob 1
      clear hb hob hres hrw hna b0 b1 f0 f1
      by_cases hlt : k < u.parts.length
      · obtain ⟨p, hp⟩ : ∃ p, u.parts[k]? = some p := ⟨_, List.getElem?_eq_getElem hlt⟩
        have HKr : Hid (Keeps 0 w0 wr) := keeps_belowW HK.out HB.out hz
        obtain ⟨g0, sa, sn, sc, eg, hg0, c0, c1, hnu⟩ := part_at HU.out HKr.out hp (by omega)
        subst eg
        have HNp := hid hnu
        have HMr := hid (HMAP.out.below HB.out)
        have hpz := hps.out p (List.mem_of_getElem? hp)
        have hgr : g0 < wr.heap.size := by omega
        clear hnu hp
        go_wp2_with fail
        have HOBW := hid (hb_alloc HOB.out (.cells #[.int .u8 p.head.toNat, .slice sa sn sc] 70))
        have HRESW := hid (hb_alloc HRES.out (.cells #[.int .u8 p.head.toNat, .slice sa sn sc] 70))
        have d0 : (wr.alloc (.cells #[.int .u8 p.head.toNat, .slice sa sn sc] 70)).cell? ⟨wr.heap.size, 0, none⟩ = some (.int .u8 p.head.toNat) := heap_cell (heap_alloc_new _ _) 0
        have d1 : (wr.alloc (.cells #[.int .u8 p.head.toNat, .slice sa sn sc] 70)).cell? ⟨wr.heap.size, 1, none⟩ = some (.slice sa sn sc) := heap_cell (heap_alloc_new _ _) 1
        have HBW : Hid (Below w.heap.size w (wr.alloc (.cells #[.int .u8 p.head.toNat, .slice sa sn sc] 70))) := HB.out.alloc (by omega) _
        have HROWW := hid (World.ownsRow.alloc HROW.out (.cells #[.int .u8 p.head.toNat, .slice sa sn sc] 70))
        have hnr : Hid (∀ g, (Value.ownBlock (.slice ao k cap1)) = some g → w1.heap.size ≤ g ∧ g < wr.heap.size ∧ g ≠ w1.heap.size + 1) := fun g h => ⟨(ListS.row_own HROW.out g h).1, (ListS.row_own HROW.out g h).2, fun e => by
          cases ha : ao with
          | none => rw [ha] at h; simp [Value.ownBlock] at h
          | some p => rw [ha] at h; simp [Value.ownBlock] at h; exact HNA.out p ha (by rw [h]; exact e)⟩
        have hzW : (wr.alloc (.cells #[.int .u8 p.head.toNat, .slice sa sn sc] 70)).heap.size = wr.heap.size + 1 := by simp
        have HMW : Hid (MapW w0 (wr.alloc (.cells #[.int .u8 p.head.toNat, .slice sa sn sc] 70)).drew mb m) := HMr.out.below (below_drewU ((Below.refl _ _).alloc (Nat.le_refl _) _))
        have HKW : Hid (Keeps 0 w0 (wr.alloc (.cells #[.int .u8 p.head.toNat, .slice sa sn sc] 70)).drew) := keeps_belowW HKr.out (below_drewU ((Below.refl _ _).alloc (Nat.le_refl _) _)) (by omega)
        have kn1W : (wr.alloc (.cells #[.int .u8 p.head.toNat, .slice sa sn sc] 70)).cell? ⟨w1.heap.size + 1, 1, none⟩ = some (.slice ao k cap1) := heap_cell HOBW.out 1
        clear c0 c1 o0 o1 fo1 HB HOB HRES HROW HNA HMr HKr
        generalize (wr.alloc (.cells #[.int .u8 p.head.toNat, .slice sa sn sc] 70)) = W at *
        refine wp_region_any (by kernel_rfl) ?_
        change wpAny _ _ _ _ _ _ _ (World.drew _)
        refine wpAny_take (i := 0) (v := .pointer (some ⟨w1.heap.size + 1, 1, none⟩)) rfl (by kernel_rfl) (by kernel_rfl) (by kernel_rfl) (fun _ _ _ h => h) (Or.inl ⟨by rfl, fun _ => by go_simp⟩) ?_
        refine wpAny_take (i := 2) (v := .pointer (some ⟨mb, 0, none⟩)) rfl (by kernel_rfl) (by kernel_rfl) (by kernel_rfl) (fun _ _ _ h => h) (Or.inl ⟨by rfl, fun _ => by go_simp⟩) ?_
        refine wpAny_of_T (S := fun X => X.cell? ⟨w1.heap.size + 1, 1, none⟩ = some (.slice ao k cap1)) (m := 6) _ _ _ _ ?_
        refine wpAnyT_take (i := 1) (v := .slice ao k cap1) rfl (by kernel_rfl) (by kernel_rfl) (by kernel_rfl) (by kernel_rfl) (fun _ _ _ h => h) (Or.inl ⟨by rfl, fun X hS => by have hS1 : X.cell? ⟨w1.heap.size + 1, 1, none⟩ = some (.slice ao k cap1) := hS; clear hS kn1W d0 d1; go_simp⟩) kn1W ?_
        refine wpAnyT_one 3 rfl (by kernel_rfl) (fun K hK => ?_)
        go_simp
        refine hK _ _ (fun _ => kn1W) ?_
        clear hK K d0 d1
        refine wpAnyT_one 4 rfl (by kernel_rfl) (fun K hK => ?_)
        go_simp
        refine (IH.out p sa sn sc w0 W.drew mb hpz.1 hpz.2 HMW.out HKW.out (by show w0.heap.size ≤ W.heap.size; omega) HNp.out).mono ?_
        rintro e w4 ⟨ch, a3, n3, c3, rfl, hb⟩
        have hz1 : W.heap.size ≤ w4.heap.size := hb.size
        have kn1 : w4.cell? ⟨w1.heap.size + 1, 1, none⟩ = some (.slice ao k cap1) := (hb.cell (p := ⟨w1.heap.size + 1, 1, none⟩) (by show w1.heap.size + 1 < W.heap.size; omega)).trans kn1W
        have HB4 : Hid (Below W.heap.size W w4) := ⟨hb.os, hb.tape, hb.output, hb.size, hb.block⟩
        have HN4 := hid (below_heap HB4.out (by omega) HOBW.out)
        have HRES4 := hid (below_heap HB4.out (lt_of_heap HRESW.out) HRESW.out)
        clear hb kn1W
        refine hK _ _ (fun _ => kn1) ?_
        clear hK K
        refine wpAnyT_one 5 rfl (by kernel_rfl) (fun K hK => ?_)
        go_simp
        refine hK _ _ (fun _ => heap_cell (hb_alloc HN4.out _) 1) ?_
        clear hK K
        refine wpAnyT_drop _ 6 _ _ _ (Nat.le_refl _) (by kernel_rfl) ?_
        change wpList _ _ _ (_ :: _) _ _
        go_wp2_with (first
          | (at_builtin; refine app_push_at 68 70 (.agg #[.int .u8 0, .slice .none 0 0]) 2 32 Try.underlying68 infoSNf rfl (by decide) rfl _ _ rfl w1.heap.size (.slice ao k cap1) k ps1 rfl (World.ownsRow.alloc (ListS.row_below HB4.out HROWW.out) _) w4.heap.size 1 [.int .u8 ch.toNat, .slice a3 n3 c3] rfl rfl (news_two (heap_cell (heap_alloc_new _ _) 0) (heap_cell (heap_alloc_new _ _) 1)) (by simp [Value.oneCell']) (by unfold maxLen; omega) (by omega) (by simp; omega) ?_))
        intro g4 cap4 w5 hown hg hlie
        (try simp only [World.size_alloc] at hlie)
        have hn5 := grown_keep hg (hb_alloc HN4.out _) (fun e => (hnr.out _ e.symm).2.2 rfl)
        have hr5 := grown_keep hg (hb_alloc HRES4.out _) (fun e => by have := (hnr.out _ e.symm).1; omega)
        have kn1 := heap_cell hn5 1
        have fn1 := heap_free hn5 1
        have hz5 : w4.heap.size + 1 ≤ w5.heap.size := by have := hg.size; simpa using this
        have hg4 : g4 ≠ w1.heap.size + 1 := by
          intro e
          rcases hlie with h | h
          · exact (hnr.out _ h).2.2 e
          · omega
        have HB5 : Hid (Below w.heap.size w w5) := ((HBW.out.trans (HB4.out.mono (by omega))).alloc (by omega) _).grown hg (by simp; omega) (fun g h => by have := (hnr.out g h).1; have := HB1.out.size; omega)
        have HO5 := hid hown
        have HN5 := hid hn5
        have HR5 := hid hr5
        have hob1 := HB1.out.size
        clear hown hg hn5 hr5 hlie
        go_wp2
        go_roundg (gk - 1)
        case measure => omega
        case rel =>
          refine ⟨k + 1, some ⟨g4, 0, none⟩, cap4, _, by omega, by omega, by go_num, heap_set HN5.out 1 _, ⟨xr, yr, hb_set_ne HR5.out _ _ (by show w.heap.size + 1 ≠ w1.heap.size + 1; omega)⟩, row_set HO5.out _ (by show g4 ≠ w1.heap.size + 1; exact hg4), fun p h => by cases h; exact hg4, HB5.out.setCell (by show w.heap.size ≤ w1.heap.size + 1; omega) _⟩
      · have hke : k = u.parts.length := by omega
        have r0 := heap_cell HRES.out 0
        have r1 := heap_cell HRES.out 1
        have fr0 := heap_free HRES.out 0
        have fr1 := heap_free HRES.out 1
        have hlr := lt_of_heap HRES.out
        clear hke hk hq
        go_wp2_with fail
        refine bodyPost_ret (results_cell_row rfl _ _ (w.heap.size + 1) 70 #[.int .u8 u.head.toNat, .slice ao k cap1] (0, 0) _ rfl (heap_set (heap_set HRES.out 0 _) 1 _) Try.underlying70 rfl (by kernel_rfl)) rfl ?_
        exact ⟨u.head, ao, k, cap1, rfl, (HB.out.setCell (by show w.heap.size ≤ w.heap.size + 1; omega) _).setCell (by show w.heap.size ≤ w.heap.size + 1; omega) _⟩
def SPost (w : World) (r : Bool) (e : Ending) (w' : World) : Prop := ∃ q, e = .returned (.tuple #[.pointer q, .bool r]) ∧ Below w.heap.size w w'
theorem mapW_made (w0 w : World) (z : Nat) (hz : w.heap.size = z) : MapW w0 (w.alloc (.cells #[.int .u8 0, .slice none 0 0, .int .u8 0, .slice none 0 0, .int .u8 0, .slice none 0 0, .int .u8 0, .slice none 0 0, .int .u8 0, .slice none 0 0, .int .u8 0, .slice none 0 0, .int .u8 0, .slice none 0 0, .int .u8 0, .slice none 0 0, .int .u8 0, .slice none 0 0, .int .u8 0, .slice none 0 0, .int .u8 0, .slice none 0 0, .int .u8 0, .slice none 0 0] 99)) z (fun _ => none) := by
  subst hz
  refine ⟨fun _ _ => rfl, _, _, heap_alloc_new _ _, rfl, fun k hk c hc => ⟨0, none, 0, 0, ?_, ?_, rfl⟩⟩
  all_goals (rcases k with _ | _ | _ | _ | _ | _ | _ | _ | _ | _ | _ | _ | k <;> first | rfl | omega)
theorem cell_set_neS {w : World} {a b : Addr} {u v : Value} (h : w.cell? a = some v) (hne : a.block ≠ b.block) : (w.setCell b u).cell? a = some v := by
  rw [← h]
  have e := Below.heap_setCell w b u a.block hne
  simp [World.cell?, e]
set_option maxHeartbeats 8000000 in
theorem l2Solve_any (a b : Ty) (r : Option Sg) (aa : Option Addr) (na ca : Nat) (ab : Option Addr) (nb cb : Nat) (w : World) (hu : Un (fun _ => none) a b r) (hta : TW a) (htb : TW b) (hinv : ∀ m, r = some m → Inv m) (hna : SNode 0 w a (.int .u8 a.head.toNat) (.slice aa na ca)) (hnb : SNode 0 w b (.int .u8 b.head.toNat) (.slice ab nb cb)) :
    Calls Try.prog 34 #[.agg #[.int .u8 a.head.toNat, .slice aa na ca], .agg #[.int .u8 b.head.toNat, .slice ab nb cb]] w (SPost w r.isSome) := by
  have HNA := hid hna
  have HNB := hid hnb
  have HU : Hid (UnAt (fun _ => none) a b r) := l2Unify_any hu (fun c t h => by simp at h) hta htb
  have HTW : Hid (∀ m', r = some m' → TWm m') := un_tw hu (fun c t h => by simp at h) hta htb
  have HI := hid hinv
  clear hna hnb hu hta htb hinv
  go_enter Try.func34, Try.ntmps34
  go_wp2_with fail
  obtain ⟨w0, hw0⟩ : ∃ x, x = ((w.alloc (.cells #[.int .u8 a.head.toNat, .slice aa na ca] 70)).alloc (.cells #[.int .u8 b.head.toNat, .slice ab nb cb] 70)) := ⟨_, rfl⟩
  have HM : Hid (MapW w0 (((w.alloc (.cells #[.int .u8 a.head.toNat, .slice aa na ca] 70)).alloc (.cells #[.int .u8 b.head.toNat, .slice ab nb cb] 70)).alloc (.cells #[.int .u8 0, .slice none 0 0, .int .u8 0, .slice none 0 0, .int .u8 0, .slice none 0 0, .int .u8 0, .slice none 0 0, .int .u8 0, .slice none 0 0, .int .u8 0, .slice none 0 0, .int .u8 0, .slice none 0 0, .int .u8 0, .slice none 0 0, .int .u8 0, .slice none 0 0, .int .u8 0, .slice none 0 0, .int .u8 0, .slice none 0 0, .int .u8 0, .slice none 0 0] 99)) (w.heap.size + 2) (fun _ => none)) := mapW_made _ _ _ (by simp)
  have HK : Hid (Keeps 0 w0 (((w.alloc (.cells #[.int .u8 a.head.toNat, .slice aa na ca] 70)).alloc (.cells #[.int .u8 b.head.toNat, .slice ab nb cb] 70)).alloc (.cells #[.int .u8 0, .slice none 0 0, .int .u8 0, .slice none 0 0, .int .u8 0, .slice none 0 0, .int .u8 0, .slice none 0 0, .int .u8 0, .slice none 0 0, .int .u8 0, .slice none 0 0, .int .u8 0, .slice none 0 0, .int .u8 0, .slice none 0 0, .int .u8 0, .slice none 0 0, .int .u8 0, .slice none 0 0, .int .u8 0, .slice none 0 0, .int .u8 0, .slice none 0 0] 99))) := by rw [hw0]; exact fun k _ hk => Below.heap_alloc _ _ _ hk
  have HA0 : Hid (SNode 0 w0 a (.int .u8 a.head.toNat) (.slice aa na ca)) := by rw [hw0]; exact Keeps.snode (w := w) (fun k _ hk => (Below.heap_alloc _ _ _ (by simp; omega)).trans (Below.heap_alloc _ _ _ hk)) HNA.out
  have HB0 : Hid (SNode 0 w0 b (.int .u8 b.head.toNat) (.slice ab nb cb)) := by rw [hw0]; exact Keeps.snode (w := w) (fun k _ hk => (Below.heap_alloc _ _ _ (by simp; omega)).trans (Below.heap_alloc _ _ _ hk)) HNB.out
  have hz0 : w0.heap.size = w.heap.size + 2 := by rw [hw0]; simp
  have HBW : Hid (Below w.heap.size w (((w.alloc (.cells #[.int .u8 a.head.toNat, .slice aa na ca] 70)).alloc (.cells #[.int .u8 b.head.toNat, .slice ab nb cb] 70)).alloc (.cells #[.int .u8 0, .slice none 0 0, .int .u8 0, .slice none 0 0, .int .u8 0, .slice none 0 0, .int .u8 0, .slice none 0 0, .int .u8 0, .slice none 0 0, .int .u8 0, .slice none 0 0, .int .u8 0, .slice none 0 0, .int .u8 0, .slice none 0 0, .int .u8 0, .slice none 0 0, .int .u8 0, .slice none 0 0, .int .u8 0, .slice none 0 0, .int .u8 0, .slice none 0 0] 99))) := (((Below.refl _ _).alloc (Nat.le_refl _) _).alloc (by simp) _).alloc (by simp; omega) _
  clear hw0
  refine (HU.out aa na ca ab nb cb w0 _ (w.heap.size + 2) HM.out HK.out (by omega) HA0.out HB0.out).mono ?_
  rintro e w4 ⟨rfl, hg, hm⟩
  have HB4 : Hid (Below w.heap.size w w4) := HBW.out.grown hg (by simp; omega) (fun g h => by cases h; omega)
  have HK4 : Hid (Keeps 0 w0 w4) := keeps_grownM HK.out hg (by omega) (by simp; omega)
  have hz4 : w.heap.size + 3 ≤ w4.heap.size := by have := hg.size; simpa using this
  have HM4 := hid hm
  clear hg hm
  cases r with
  | none =>
    go_wp2_with fail
    go_ret2
    exact ⟨_, rfl, HB4.out⟩
  | some m =>
    have hi := HI.out m rfl
    obtain ⟨s, hs⟩ := hi.sol
    have HFL : Hid (∀ (t : Ty) (a : Option Addr) (n c : Nat) (X : World), MapW w0 X (w.heap.size + 2) m → Keeps 0 w0 X → w0.heap.size ≤ X.heap.size → SNode 0 w0 t (.int .u8 t.head.toNat) (.slice a n c) → TW t → Calls Try.prog 55 #[.pointer (some ⟨w.heap.size + 2, 0, none⟩), .agg #[.int .u8 t.head.toNat, .slice a n c]] X (FPost X)) := fun t a n c X h1 h2 h3 h4 h5 => l2Full_any hi hs _ t a n c w0 X _ (Nat.lt_succ_self _) h5 h1 h2 h3 h4
    have HMM := hid (HM4.out m rfl)
    have HTm := hid (HTW.out m rfl)
    clear hi hs HM4 HI HTW
    obtain ⟨ob, hob⟩ : ∃ x, x = w4.heap.size := ⟨_, rfl⟩
    go_wp2_with fail
    rw [← hob]
    have HO0 : Hid ((w4.alloc (.cells #[.int .u8 0, .slice none 0 0, .int .u8 0, .slice none 0 0, .int .u8 0, .slice none 0 0, .int .u8 0, .slice none 0 0, .int .u8 0, .slice none 0 0, .int .u8 0, .slice none 0 0, .int .u8 0, .slice none 0 0, .int .u8 0, .slice none 0 0, .int .u8 0, .slice none 0 0, .int .u8 0, .slice none 0 0, .int .u8 0, .slice none 0 0, .int .u8 0, .slice none 0 0] 99)).heap[ob]? = some (.cells #[.int .u8 0, .slice none 0 0, .int .u8 0, .slice none 0 0, .int .u8 0, .slice none 0 0, .int .u8 0, .slice none 0 0, .int .u8 0, .slice none 0 0, .int .u8 0, .slice none 0 0, .int .u8 0, .slice none 0 0, .int .u8 0, .slice none 0 0, .int .u8 0, .slice none 0 0, .int .u8 0, .slice none 0 0, .int .u8 0, .slice none 0 0, .int .u8 0, .slice none 0 0] 99 (0, 0))) := by rw [hob]; exact heap_alloc_new _ _
    have hobz : w.heap.size + 3 ≤ ob := by omega
    have hwz : (w4.alloc (.cells #[.int .u8 0, .slice none 0 0, .int .u8 0, .slice none 0 0, .int .u8 0, .slice none 0 0, .int .u8 0, .slice none 0 0, .int .u8 0, .slice none 0 0, .int .u8 0, .slice none 0 0, .int .u8 0, .slice none 0 0, .int .u8 0, .slice none 0 0, .int .u8 0, .slice none 0 0, .int .u8 0, .slice none 0 0, .int .u8 0, .slice none 0 0, .int .u8 0, .slice none 0 0] 99)).heap.size = ob + 1 := by rw [hob]; simp
    have HM5 : Hid (MapW w0 (w4.alloc (.cells #[.int .u8 0, .slice none 0 0, .int .u8 0, .slice none 0 0, .int .u8 0, .slice none 0 0, .int .u8 0, .slice none 0 0, .int .u8 0, .slice none 0 0, .int .u8 0, .slice none 0 0, .int .u8 0, .slice none 0 0, .int .u8 0, .slice none 0 0, .int .u8 0, .slice none 0 0, .int .u8 0, .slice none 0 0, .int .u8 0, .slice none 0 0, .int .u8 0, .slice none 0 0] 99)) (w.heap.size + 2) m) := HMM.out.below ((Below.refl _ _).alloc (Nat.le_refl _) _)
    have HK5 : Hid (Keeps 0 w0 (w4.alloc (.cells #[.int .u8 0, .slice none 0 0, .int .u8 0, .slice none 0 0, .int .u8 0, .slice none 0 0, .int .u8 0, .slice none 0 0, .int .u8 0, .slice none 0 0, .int .u8 0, .slice none 0 0, .int .u8 0, .slice none 0 0, .int .u8 0, .slice none 0 0, .int .u8 0, .slice none 0 0, .int .u8 0, .slice none 0 0, .int .u8 0, .slice none 0 0, .int .u8 0, .slice none 0 0] 99))) := keeps_belowW HK4.out ((Below.refl _ _).alloc (Nat.le_refl _) _) (by omega)
    have HB5 : Hid (Below w.heap.size w (w4.alloc (.cells #[.int .u8 0, .slice none 0 0, .int .u8 0, .slice none 0 0, .int .u8 0, .slice none 0 0, .int .u8 0, .slice none 0 0, .int .u8 0, .slice none 0 0, .int .u8 0, .slice none 0 0, .int .u8 0, .slice none 0 0, .int .u8 0, .slice none 0 0, .int .u8 0, .slice none 0 0, .int .u8 0, .slice none 0 0, .int .u8 0, .slice none 0 0, .int .u8 0, .slice none 0 0] 99))) := HB4.out.alloc (by omega) _
    clear hob HMM HK4 HB4 hz4
    generalize (w4.alloc (.cells #[.int .u8 0, .slice none 0 0, .int .u8 0, .slice none 0 0, .int .u8 0, .slice none 0 0, .int .u8 0, .slice none 0 0, .int .u8 0, .slice none 0 0, .int .u8 0, .slice none 0 0, .int .u8 0, .slice none 0 0, .int .u8 0, .slice none 0 0, .int .u8 0, .slice none 0 0, .int .u8 0, .slice none 0 0, .int .u8 0, .slice none 0 0, .int .u8 0, .slice none 0 0] 99)) = w5 at *
    go_loopg [19] 12 (fun q i wr => ∃ k : Nat, k ≤ 12 ∧ 12 - k ≤ q ∧ i = .int .i64 k ∧ MapW w0 wr (w.heap.size + 2) m ∧ Keeps 0 w0 wr ∧ Below w.heap.size w wr ∧ ob < wr.heap.size ∧ ∃ oc, wr.heap[ob]? = some (.cells oc 99 (0, 0)) ∧ oc.size = 24)
    case atStart => exact ⟨0, by omega, by omega, rfl, HM5.out, HK5.out, HB5.out, by omega, _, HO0.out, rfl⟩
    case round =>
      obtain ⟨k, hk, hq, rfl, hmr0, hkr, hb, hor, oc, ho, hoz⟩ := hrel
      have HMR := hid hmr0
      have HKR := hid hkr
      have HB := hid hb
      have HO := hid ho
      have hmr := hmr0.lt
      have hbz := hb.size
      clear hmr0 hkr hb ho
      by_cases hlt : k < 12
      · obtain ⟨c, hc⟩ : ∃ c, lts[k]? = some c := ⟨_, List.getElem?_eq_getElem (by show k < 12; exact hlt)⟩
        obtain ⟨hd, am, nm, cm, m0, m1, -, -, q3⟩ := HMR.out.at hlt hc
        have hj2 : (k : Int) < 12 := by omega
        cases hmc : m c with
        | none =>
          rw [hmc] at q3
          obtain rfl : hd = 0 := q3
          clear hmc hc
          go_wp2_with fail
          go_roundg (gk - 1)
          case measure => omega
          case rel => exact ⟨k + 1, by omega, by omega, by go_num, HMR.out, HKR.out, HB.out, hor, oc, HO.out, hoz⟩
        | some t =>
          rw [hmc] at q3
          obtain ⟨rfl, h0, hsn⟩ := q3
          have HTN := hid hsn
          have HTT := hid (HTm.out c t hmc)
          have hz' := (u8_ne0 h0).2
          have HMD : Hid (MapW w0 wr.drew (w.heap.size + 2) m) := HMR.out.heap rfl
          have HKD : Hid (Keeps 0 w0 wr.drew) := HKR.out
          clear hmc hc hsn h0
          go_wp2_with fail
          refine wp_region_any (by kernel_rfl) ?_
          change wpAny _ _ _ _ _ _ _ (World.drew _)
          have SX : wr.drew.cell? ⟨w.heap.size + 2, k * 2, none⟩ = some (.int .u8 t.head.toNat) ∧ wr.drew.cell? ⟨w.heap.size + 2, k * 2 + 1, none⟩ = some (.slice am nm cm) := ⟨m0, m1⟩
          refine wpAny_of_T (S := fun X => X.cell? ⟨w.heap.size + 2, k * 2, none⟩ = some (.int .u8 t.head.toNat) ∧ X.cell? ⟨w.heap.size + 2, k * 2 + 1, none⟩ = some (.slice am nm cm)) (m := 12) _ _ _ _ ?_
          clear m0 m1
          refine wpAnyT_take (i := 0) (v := .pointer (some ⟨ob, 0, none⟩)) rfl (by kernel_rfl) (by kernel_rfl) (by kernel_rfl) (by kernel_rfl) (fun _ _ _ h => h) (Or.inl ⟨by kernel_rfl, fun X hS => by obtain ⟨e0, e1⟩ := hS; go_simp⟩) SX ?_
          try go_simp
          refine wpAnyT_take (i := 1) (v := .int .i64 k) rfl (by kernel_rfl) (by kernel_rfl) (by kernel_rfl) (by kernel_rfl) (fun _ _ _ h => h) (Or.inl ⟨by kernel_rfl, fun X hS => by obtain ⟨e0, e1⟩ := hS; go_simp⟩) SX ?_
          try go_simp
          refine wpAnyT_take (i := 2) (v := .pointer (some ⟨w.heap.size + 2, 0, none⟩)) rfl (by kernel_rfl) (by kernel_rfl) (by kernel_rfl) (by kernel_rfl) (fun _ _ _ h => h) (Or.inl ⟨by kernel_rfl, fun X hS => by obtain ⟨e0, e1⟩ := hS; go_simp⟩) SX ?_
          try go_simp
          refine wpAnyT_take (i := 3) (v := .pointer (some ⟨w.heap.size + 2, 0, none⟩)) rfl (by kernel_rfl) (by kernel_rfl) (by kernel_rfl) (by kernel_rfl) (fun _ _ _ h => h) (Or.inl ⟨by kernel_rfl, fun X hS => by obtain ⟨e0, e1⟩ := hS; go_simp⟩) SX ?_
          try go_simp
          refine wpAnyT_take (i := 4) (v := .int .i64 k) rfl (by kernel_rfl) (by kernel_rfl) (by kernel_rfl) (by kernel_rfl) (fun _ _ _ h => h) (Or.inl ⟨by kernel_rfl, fun X hS => by obtain ⟨e0, e1⟩ := hS; go_simp⟩) SX ?_
          try go_simp
          refine wpAnyT_take (i := 5) (v := .pointer (some ⟨w.heap.size + 2, 0, none⟩)) rfl (by kernel_rfl) (by kernel_rfl) (by kernel_rfl) (by kernel_rfl) (fun _ _ _ h => h) (Or.inl ⟨by kernel_rfl, fun X hS => by obtain ⟨e0, e1⟩ := hS; go_simp⟩) SX ?_
          try go_simp
          refine wpAnyT_take (i := 6) (v := .pointer (some ⟨w.heap.size + 2, k * 2, none⟩)) rfl (by kernel_rfl) (by kernel_rfl) (by kernel_rfl) (by kernel_rfl) (fun _ _ _ h => h) (Or.inl ⟨by kernel_rfl, fun X hS => by obtain ⟨e0, e1⟩ := hS; go_simp⟩) SX ?_
          try go_simp
          refine wpAnyT_take (i := 7) (v := .agg #[.int .u8 t.head.toNat, .slice am nm cm]) rfl (by kernel_rfl) (by kernel_rfl) (by kernel_rfl) (by kernel_rfl) (fun _ _ _ h => h) (Or.inl ⟨by kernel_rfl, fun X hS => by obtain ⟨e0, e1⟩ := hS; go_simp⟩) SX ?_
          try go_simp
          refine wpAnyT_take (i := 9) (v := .pointer (some ⟨ob, 0, none⟩)) rfl (by kernel_rfl) (by kernel_rfl) (by kernel_rfl) (by kernel_rfl) (fun _ _ _ h => h) (Or.inl ⟨by kernel_rfl, fun X hS => by obtain ⟨e0, e1⟩ := hS; go_simp⟩) SX ?_
          try go_simp
          refine wpAnyT_one 8 rfl (by kernel_rfl) (fun K hK => ?_)
          go_simp
          refine (HFL.out t am nm cm wr.drew HMD.out HKD.out (by show w0.heap.size ≤ wr.heap.size; omega) HTN.out HTT.out).mono ?_
          rintro e w7 ⟨ch, a7, n7, c7, rfl, hb⟩
          have HB7 : Hid (Below wr.heap.size wr w7) := ⟨hb.os, hb.tape, hb.output, hb.size, hb.block⟩
          have hz7 := HB7.out.size
          clear hb
          have SX7 : w7.cell? ⟨w.heap.size + 2, k * 2, none⟩ = some (.int .u8 t.head.toNat) ∧ w7.cell? ⟨w.heap.size + 2, k * 2 + 1, none⟩ = some (.slice am nm cm) := ⟨(HB7.out.cell (p := ⟨w.heap.size + 2, k * 2, none⟩) hmr).trans SX.1, (HB7.out.cell (p := ⟨w.heap.size + 2, k * 2 + 1, none⟩) hmr).trans SX.2⟩
          have HO7 := hid (below_heap HB7.out hor HO.out)
          have p0 : w7.cell? ⟨ob, k * 2, none⟩ = some (oc[k * 2]'(by omega)) := by rw [heap_cell HO7.out, Array.getElem?_eq_getElem (by omega)]
          have p1 : w7.cell? ⟨ob, k * 2 + 1, none⟩ = some (oc[k * 2 + 1]'(by omega)) := by rw [heap_cell HO7.out, Array.getElem?_eq_getElem (by omega)]
          have q0 := heap_free HO7.out (k * 2)
          have q1 := heap_free HO7.out (k * 2 + 1)
          have hor7 := lt_of_heap HO7.out
          refine hK _ _ (fun _ => SX7) ?_
          clear hK K
          clear SX
          refine wpAnyT_take (i := 10) (v := .pointer (some ⟨ob, k * 2, none⟩)) rfl (by kernel_rfl) (by kernel_rfl) (by kernel_rfl) (by kernel_rfl) (fun _ _ _ h => h) (Or.inl ⟨by kernel_rfl, fun X hS => by clear hS p0 p1; go_simp⟩) SX7 ?_
          try go_simp
          refine wpAnyT_one 11 rfl (by kernel_rfl) (fun K hK => ?_)
          go_simp
          refine hK _ _ (fun _ => ⟨cell_set_neS (cell_set_neS SX7.1 (by show w.heap.size + 2 ≠ ob; omega)) (by show w.heap.size + 2 ≠ ob; omega), cell_set_neS (cell_set_neS SX7.2 (by show w.heap.size + 2 ≠ ob; omega)) (by show w.heap.size + 2 ≠ ob; omega)⟩) ?_
          clear hK K
          refine wpAnyT_drop _ 12 _ _ _ (by decide) (by kernel_rfl) ?_
          change wpList _ _ _ [] _ _
          clear SX7 p0 p1 q0 q1
          go_wp2_with fail
          go_roundg (gk - 1)
          case measure => omega
          case rel =>
            refine ⟨k + 1, by omega, by omega, by go_num, ?_, ?_, ?_, ?_, _, heap_set (heap_set HO7.out (k * 2) _) (k * 2 + 1) _, by simp [hoz]⟩
            · refine (HMR.out.below HB7.out).heap ?_
              rw [Below.heap_setCell _ _ _ _ (by show w.heap.size + 2 ≠ ob; omega), Below.heap_setCell _ _ _ _ (by show w.heap.size + 2 ≠ ob; omega)]
            · exact fun j h1 hj => by
                rw [Below.heap_setCell _ _ _ _ (by show j ≠ ob; omega), Below.heap_setCell _ _ _ _ (by show j ≠ ob; omega), HB7.out.block j (by omega)]
                exact HKR.out j h1 hj
            · exact ((HB.out.trans (HB7.out.mono hbz)).setCell (by show w.heap.size ≤ ob; omega) _).setCell (by show w.heap.size ≤ ob; omega) _
            · simp; omega
      · have hke : k = 12 := by omega
        subst hke
        go_wp2_with fail
        go_ret2
        exact ⟨_, rfl, HB.out⟩
end UniS
end Go.Proofs.Ytcjalnianamlaaa
