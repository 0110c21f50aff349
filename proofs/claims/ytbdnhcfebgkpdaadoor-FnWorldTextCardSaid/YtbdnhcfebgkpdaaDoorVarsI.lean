/- vars, VarsOf and IsGround of both sides. Conditions: the text is at most 2^31 bytes long. -/
import Derived.Test.YtbdnhcfebgkpdaaDoorVarsS
import Derived.Lib.Join
import Derived.Test.YtbdnhcfebgkpdaaDoorJoin
set_option linter.unusedVariables false
set_option linter.unusedSimpArgs false
set_option maxRecDepth 100000
namespace Go.Proofs.YtbdnhcfebgkpdaaDoor
open Go.RowKit Ty

theorem infoStr : (Tryd.prog.info? 9).map (fun i => (i.zero, i.size, i.bytes)) = some (some (.string ⟨#[]⟩), 1, 16) := by kernel_rfl

/-- what vars returns -/
def varsI (l : List UInt8) : List UInt8 := vlist.filter (fun v => l.contains v)
def chars (l : List UInt8) : List Value := l.map fun c => .string ⟨#[c]⟩
def VarsPost (w : World) (l : List UInt8) (e : Ending) (w' : World) : Prop :=
  ∃ g cap, e = .returned (.slice (some ⟨g, 0, none⟩) (varsI l).length cap) ∧ w'.ownsRow w.heap.size 9 1 (.slice (some ⟨g, 0, none⟩) (varsI l).length cap) (varsI l).length (chars (varsI l)) ∧ Below w.heap.size w w'

set_option maxHeartbeats 2000000 in
theorem vars_any (l : List UInt8) (w : World) : Calls Tryd.prog 69 #[.string ⟨l.toArray⟩] w (VarsPost w l) := by
  go_enter Tryd.func69, Tryd.ntmps69
  go_wp2_with fail
  go_loopw [3, 9] (fun o i wr => ∃ k g cap : Nat, k ≤ 6 ∧ i = .int .i64 k ∧ o = .slice (some ⟨g, 0, none⟩) ((vlist.take k).filter (fun v => l.contains v)).length cap ∧ g ≠ w.heap.size + 1 ∧ wr.ownsRow w.heap.size 9 1 (.slice (some ⟨g, 0, none⟩) ((vlist.take k).filter (fun v => l.contains v)).length cap) ((vlist.take k).filter (fun v => l.contains v)).length (chars ((vlist.take k).filter (fun v => l.contains v))) ∧ (∀ (j : Nat) c, vlist[j]? = some c → wr.cell? ⟨w.heap.size + 1, j, none⟩ = some (.string ⟨#[c]⟩)) ∧ Below w.heap.size w wr ∧ w.heap.size + 1 < wr.heap.size) (fun _ i _ => 6 - (intOf i).toNat)
  case atStart =>
    refine ⟨0, w.heap.size, 0, by omega, rfl, rfl, by omega, ?_, ?_, ((Below.refl _ _).alloc (Nat.le_refl _) _).alloc (by simp) _, by simp⟩
    · exact (World.ownsRow_made w #[] 0 (Nat.le_refl _) (by simp [maxLen]) rfl).alloc _
    · intro j c hj
      rw [heap_cell (heap_alloc2_new w _ _) j]
      match j, hj with
      | 0, h => simp [vlist] at h; subst h; rfl
      | 1, h => simp [vlist] at h; subst h; rfl
      | 2, h => simp [vlist] at h; subst h; rfl
      | 3, h => simp [vlist] at h; subst h; rfl
      | 4, h => simp [vlist] at h; subst h; rfl
      | 5, h => simp [vlist] at h; subst h; rfl
      | n + 6, h => simp [vlist] at h
  case round =>
    obtain ⟨k, g, cap, hk, rfl, rfl, hg, hown, hcell, hb, hlt0⟩ := hrel
    by_cases hlt : k < 6
    · have hks : k < vlist.length := hlt
      obtain ⟨c, hc⟩ : ∃ c, vlist[k] = c := ⟨_, rfl⟩
      have hc2 : vlist[k]? = some c := by rw [List.getElem?_eq_getElem hks, hc]
      have kc := hcell k c hc2
      have HC := hid hcell
      have HB := hid hb
      have HO := hid hown
      have hs := filter_take_succ (fun v => l.contains v) vlist k hks
      rw [hc] at hs
      have hlen : ((vlist.take k).filter (fun v => l.contains v)).length ≤ 6 := Nat.le_trans (List.length_filter_le _ _) (by simp [vlist]; omega)
      generalize (vlist.take k).filter (fun v => l.contains v) = x at *
      clear hcell hb hc hc2 hown
      cases hcc : l.contains c with
      | true =>
        have HS : Hid ((vlist.take (k + 1)).filter (fun v => l.contains v) = x ++ [c]) := by
          show _ = _
          rw [hs, hcc]; simp
        have HCC := hid hcc
        clear hs hcc
        go_wp2_with (first
          | (go_at_call 70; refine (sContains ⟨l.toArray⟩ c _).mono ?_; rintro e w' ⟨rfl, rfl⟩; rw [show (ByteArray.mk l.toArray).data.toList.contains c = true from HCC.out])
          | (at_builtin; refine app_push_at 55 9 (.string ⟨#[]⟩) 1 16 Tryd.underlying55 infoStr rfl (by decide) rfl _ _ rfl w.heap.size _ _ _ rfl (World.ownsRow.alloc HO.out _) wr.heap.size 1 [.string ⟨#[c]⟩] rfl rfl (news_one (heap_cell (heap_alloc_new _ _) 0)) (by simp [Value.oneCell']) (by unfold maxLen; omega) (by omega) (by simp; omega) ?_))
        intro g1 cap1 w1 hown hgr hlie
        simp only [World.size_alloc, Value.ownBlock, Option.some.injEq] at hlie
        have hz : wr.heap.size + 1 ≤ w1.heap.size := by have := hgr.size; simpa using this
        have HB1 : Hid (Below w.heap.size w w1) := (HB.out.alloc (by omega) _).grown hgr (by simp; omega) (by have := (row_block HO.out).1; simp [Value.ownBlock]; omega)
        have HC1 : Hid (∀ (j : Nat) c, vlist[j]? = some c → w1.cell? ⟨w.heap.size + 1, j, none⟩ = some (.string ⟨#[c]⟩)) := fun j c h => by
          have h1 := HC.out j c h
          rw [World.cell?_of_block (w := wr.alloc _) (hgr.block (w.heap.size + 1) (by simp; omega) (by simp [Value.ownBlock]; omega)), World.cell?_of_block (w := wr) (Below.heap_alloc _ _ _ hlt0)]
          exact h1
        have HO1 := hid hown
        clear hown hgr kc
        go_wp2
        go_roundw
        case rel =>
          refine ⟨k + 1, g1, cap1, by omega, by go_num, ?_, by omega, ?_, HC1.out, HB1.out, by omega⟩
          · rw [HS.out]; simp
          · rw [HS.out]; simpa [chars] using HO1.out
        case measure => simp [intOf]; omega
      | false =>
        have HS : Hid ((vlist.take (k + 1)).filter (fun v => l.contains v) = x) := by
          show _ = _
          rw [hs, hcc]; simp
        have HCC := hid hcc
        clear hs hcc
        go_wp2_with (first
          | (go_at_call 70; refine (sContains ⟨l.toArray⟩ c _).mono ?_; rintro e w' ⟨rfl, rfl⟩; rw [show (ByteArray.mk l.toArray).data.toList.contains c = false from HCC.out]))
        go_roundw
        case rel => exact ⟨k + 1, g, cap, by omega, by go_num, by rw [HS.out], hg, by rw [HS.out]; exact HO.out, HC.out, HB.out, hlt0⟩
        case measure => simp [intOf]; omega
    · have hk6 : k = 6 := by omega
      subst hk6
      have HB := hid hb
      have HO := hid hown
      have e6 : Hid ((vlist.take 6).filter (fun v => l.contains v) = varsI l) := rfl
      generalize (vlist.take 6).filter (fun v => l.contains v) = x at *
      clear hcell hb hown
      go_wp2
      go_ret
      refine ⟨g, cap, ?_, ?_, HB.out⟩
      · rw [← e6.out]; rfl
      · rw [← e6.out]; exact HO.out

theorem countI_pos {l : List UInt8} (h : (ty l).isSome = true) : varsL l = varsI l := by
  unfold varsL varsI
  apply List.filter_congr
  intro v hv
  have hV : isV v = true := by
    simp [vlist] at hv
    rcases hv with rfl | rfl | rfl | rfl | rfl | rfl <;> decide
  have e : countI l [v] = l.count v := by simp [countI, h, hV]
  rw [e]
  by_cases hm : v ∈ l
  · have := List.count_pos_iff.2 hm
    simp [hm]
  · have := List.count_eq_zero.2 hm
    simp [hm]
theorem varsL_none {l : List UInt8} (h : (ty l).isSome = false) : varsL l = [] := by
  unfold varsL
  rw [List.filter_eq_nil_iff]
  intro v hv
  simp [countI, h]

theorem tail_chars : ∀ (l : List UInt8), Lib.joinTail [] ((l.map fun c => (⟨#[c]⟩ : ByteArray)).map (·.data.toList)) = l := by
  intro l
  unfold Lib.joinTail
  induction l with
  | nil => rfl
  | cons c l ih => simpa using ih
theorem join_chars (l : List UInt8) : Lib.join ((l.map fun c => (⟨#[c]⟩ : ByteArray)).map (·.data.toList)) [] = l := by
  cases l with
  | nil => rfl
  | cons c l =>
    rw [List.map_cons, List.map_cons, Lib.join_cons, tail_chars]
    rfl

end Go.Proofs.YtbdnhcfebgkpdaaDoor
