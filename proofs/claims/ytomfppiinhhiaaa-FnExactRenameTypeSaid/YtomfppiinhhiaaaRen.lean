/- RenameType of both sides. Conditions: the text is at most 2^20 bytes long. -/
import Derived.Test.YtomfppiinhhiaaaImplT
import Derived.Test.YtomfppiinhhiaaaListS
import Derived.Defers
import Derived.Laws.Pointers
import Derived.Laws.LoneSync
import Derived.RegionTactic
import Derived.RegionCalls
import Derived.Laws.NewBlocks
import Derived.Deep.LoopGhost
import Derived.Deep.WholeRow
set_option linter.unusedVariables false
set_option linter.unusedSimpArgs false
set_option maxRecDepth 100000
namespace Go.Proofs.Ytomfppiinhhiaaa
open Go.RowKit Ty ListS
namespace Ren
theorem disable (w : World) : (callFunc 41 #[]).run Try.prog w = .ok (.value (.tuple #[])) w := run_call_mark0 Try.func41 (by kernel_rfl) (by kernel_rfl) (by kernel_rfl) .disable (by kernel_rfl) w
theorem enable (w : World) : (callFunc 43 #[]).run Try.prog w = .ok (.value (.tuple #[])) w := run_call_mark0 Try.func43 (by kernel_rfl) (by kernel_rfl) (by kernel_rfl) .enable (by kernel_rfl) w
theorem acquire (a : Addr) (w : World) : (callFunc 44 #[.pointer (some a)]).run Try.prog w = .ok (.value (.tuple #[])) w := run_call_marked Try.func44 (by kernel_rfl) (by kernel_rfl) (by kernel_rfl) .acquire (by kernel_rfl) a w
theorem releaseMerge (a : Addr) (w : World) : (callFunc 46 #[.pointer (some a)]).run Try.prog w = .ok (.value (.tuple #[])) w := run_call_marked Try.func46 (by kernel_rfl) (by kernel_rfl) (by kernel_rfl) .releaseMerge (by kernel_rfl) a w
theorem store_deferred (a : Addr) (x : Value) (u : FrameMode) (w : World) (hc : w.cell? a = some x) (hz : w.frozen? a = false) :
    CallsD Try.prog 28 #[.pointer (some a), .bool true] u w fun e u' w' => u' = u ∧ (e = .returned (.tuple #[]) ∧ w' = w.drew.setCell a (.int .u32 1)) := by
  have hc' : w.drew.cell? a = some x := by go_simp
  have hz' : w.drew.frozen? a = false := by go_simp
  have hst := run_call_store (P := Try.prog) Try.func36 (by kernel_rfl) (by kernel_rfl) (by kernel_rfl) (by kernel_rfl) (k := .u32) (y := 1) hc' hz'
  go_enter_d Try.func28, Try.ntmps28
  go_wp2
  go_region_calls
  all_goals (go_end0; exact ⟨rfl, rfl⟩)
theorem unlock_deferred (a : Addr) (u : FrameMode) (w : World) (hc : w.cell? a = some (.int .i32 1)) (hz : w.frozen? a = false) :
    CallsD Try.prog 27 #[.pointer (some a)] u w fun e u' w' => u' = u ∧ (e = .returned (.tuple #[]) ∧ w' = w.setCell a (.int .i32 0)) := by
  have hd := disable
  have he := enable
  have hr := releaseMerge
  have hadd := run_call_add (P := Try.prog) Try.func47 (by kernel_rfl) (by kernel_rfl) (by kernel_rfl) .i32 (by kernel_rfl) (y := -1) (s := 0) hc hz (by simp [go_sem]; rfl)
  have hcv := run_convert_to_unsafe (P := Try.prog) (src := 101) (dst := 105) Try.underlying101 Try.underlying105 (by kernel_rfl) hc
  go_enter_d Try.func27, Try.ntmps27
  go_wp2
  go_end0
  go_wp2
  go_end0
  exact ⟨rfl, rfl⟩
theorem lock_free (a : Addr) (w : World) (hc : w.cell? a = some (.int .i32 0)) (hz : w.frozen? a = false) :
    Calls Try.prog 26 #[.pointer (some a)] w fun e w' => e = .returned (.tuple #[]) ∧ w' = w.setCell a (.int .i32 1) := by
  have hd := disable
  have he := enable
  have ha := acquire
  have hcas := run_call_cas_hit (P := Try.prog) Try.func42 (by kernel_rfl) (by kernel_rfl) (by kernel_rfl) .i32 (by kernel_rfl) (y := 1) hc hz
  have hc' : (w.setCell a (.int .i32 1)).cell? a = some (.int .i32 1) := World.cell?_setCell_same w a _ hc
  have hcv := run_convert_to_unsafe (P := Try.prog) (src := 101) (dst := 105) Try.underlying101 Try.underlying105 (by kernel_rfl) hc'
  go_enter Try.func26, Try.ntmps26
  go_wp2
  first | go_end0 | (simp only [Exit.inBlock, Exit.then]; refine bodyPost_ret (results_none rfl _ _ _) rfl ?_) | refine bodyPost_ret (results_none rfl _ _ _) rfl ?_
  go_wp2
  go_end0
  exact ⟨rfl, rfl⟩
def six : Array Value := #[.string ⟨#[120]⟩, .string ⟨#[88]⟩, .string ⟨#[121]⟩, .string ⟨#[89]⟩, .string ⟨#[122]⟩, .string ⟨#[90]⟩]
/-- the table after so many of its changes -/
def capN (k j : Nat) : Nat := if j = 122 ∧ 1 ≤ k then 90 else if j = 121 ∧ 2 ≤ k then 89 else if j = 120 ∧ 3 ≤ k then 88 else j
theorem capN_zero (j : Nat) : capN 0 j = j := by unfold capN; simp
/-- block g begins with the six texts -/
def Six (w : World) (g : Nat) : Prop := ∃ cur : Array Value, w.heap[g]? = some (.cells cur 9 (0, 0)) ∧ ∀ (j : Nat) (u : Value), six[j]? = some u → cur[j]? = some u
theorem six_cell {w : World} {g : Nat} (h : Six w g) (j : Nat) {u : Value} (hu : six[j]? = some u) : w.cell? ⟨g, j, none⟩ = some u := by
  obtain ⟨cur, h1, h2⟩ := h
  exact (heap_cell h1 j).trans (h2 j u hu)
theorem Six.below {w w' : World} {g : Nat} (h : Six w g) (hb : Below w.heap.size w w') : Six w' g := by
  obtain ⟨cur, h1, h2⟩ := h
  exact ⟨cur, below_heap hb (lt_of_heap h1) h1, h2⟩
theorem Six.set {w : World} {g b o : Nat} (h : Six w g) (hne : g ≠ b) (u : Value) : Six (w.setCell ⟨b, o, none⟩ u) g := by
  obtain ⟨cur, h1, h2⟩ := h
  exact ⟨cur, hb_set_ne h1 _ _ hne, h2⟩
/-- block T holds the table -/
def Tab (w : World) (T : Nat) : Prop := ∃ tb : Array Value, w.heap[T]? = some (.cells tb 79 (0, 0)) ∧ tb.size = 256 ∧ ∀ j, j < 256 → tb[j]? = some (.int .u8 (capN 3 j : Nat))
theorem Tab.below {w w' : World} {T : Nat} (h : Tab w T) (hb : Below w.heap.size w w') : Tab w' T := by
  obtain ⟨tb, h1, h2⟩ := h
  exact ⟨tb, below_heap hb (lt_of_heap h1) h1, h2⟩
set_option maxHeartbeats 8000000 in
theorem build_any (b g c : Nat) (x0 x1 x2 x3 : Value) (w : World) (hb : w.heap[b]? = some (.cells #[x0, x1, x2, x3, .slice (some ⟨g, 0, none⟩) 6 c] 52 (0, 0))) (hg : Six w g) :
    Calls Try.prog 20 #[.pointer (some ⟨b, 0, none⟩)] w fun e w' => ∃ (T : Nat) (tb : Array Value), e = .returned (.iface 80 (.pointer (some ⟨T, 0, none⟩))) ∧ Tab w' T ∧ w.heap.size ≤ T ∧ Below w.heap.size w w' := by
  have k4 : w.cell? ⟨b, 4, none⟩ = some (.slice (some ⟨g, 0, none⟩) 6 c) := heap_cell hb 4
  have g0 : w.cell? ⟨g, 0, none⟩ = some (.string ⟨#[120]⟩) := six_cell hg 0 rfl
  have HB := hid hb
  have HG := hid hg
  clear hb hg
  go_enter Try.func20, Try.ntmps20
  go_wp2_with fail
  have g1 : w.cell? ⟨g, 1, none⟩ = some (.string ⟨#[88]⟩) := six_cell HG.out 1 rfl
  have g2 : w.cell? ⟨g, 2, none⟩ = some (.string ⟨#[121]⟩) := six_cell HG.out 2 rfl
  have g3 : w.cell? ⟨g, 3, none⟩ = some (.string ⟨#[89]⟩) := six_cell HG.out 3 rfl
  have g4 : w.cell? ⟨g, 4, none⟩ = some (.string ⟨#[122]⟩) := six_cell HG.out 4 rfl
  have g5 : w.cell? ⟨g, 5, none⟩ = some (.string ⟨#[90]⟩) := six_cell HG.out 5 rfl
  go_loopg [4, 5] 3 (fun q an i wr => ∃ k : Nat, k ≤ 3 ∧ 3 - k ≤ q ∧ i = .int .i64 ((2 * k : Nat) : Int) ∧ an = .bool true ∧ wr = w)
  case atStart => exact ⟨0, by omega, by omega, rfl, rfl, rfl⟩
  case round =>
    obtain ⟨k, hk, hq, rfl, rfl, rfl⟩ := hrel
    rcases (by omega : k = 0 ∨ k = 1 ∨ k = 2 ∨ k = 3) with rfl | rfl | rfl | rfl
    · go_wp2_with fail
      go_roundg 2
      case measure => omega
      case rel => exact ⟨1, by omega, by omega, by rfl, rfl, rfl⟩
    · go_wp2_with fail
      go_roundg 1
      case measure => omega
      case rel => exact ⟨2, by omega, by omega, by rfl, rfl, rfl⟩
    · go_wp2_with fail
      go_roundg 0
      case measure => omega
      case rel => exact ⟨3, by omega, by omega, by rfl, rfl, rfl⟩
    · go_wp2_with fail
      clear g0 g1 g2 g3 g4 g5 hq k4
      have hsc := run_storeCells_new (P := Try.prog) wr 79 Try.zeroCells79 Try.zeroCells79 (by kernel_rfl) rfl (by kernel_rfl)
      go_wp2_with fail
      rw [hsc]
      clear hsc
      go_wp2_with fail
      have hT : (wr.alloc (.cells Try.zeroCells79 79)).heap[wr.heap.size]? = some (.cells Try.zeroCells79 79 (0, 0)) := heap_alloc_new _ _
      have hBel : Below wr.heap.size wr (wr.alloc (.cells Try.zeroCells79 79)) := (Below.refl _ _).alloc (Nat.le_refl _) _
      have HT := hid hT
      have HBel := hid hBel
      have hzs : (Try.zeroCells79).size = 256 := by kernel_rfl
      have HZS := hid hzs
      clear hT hBel hzs
      obtain ⟨T, hTe⟩ : ∃ T, T = wr.heap.size := ⟨_, rfl⟩
      obtain ⟨w0, hw0⟩ : ∃ w0, w0 = wr := ⟨_, rfl⟩
      rw [← hTe] at HT
      rw [← hTe]
      subst hw0
      generalize w0.alloc (.cells Try.zeroCells79 79) = w1 at *
      have HTE := hid hTe
      clear hTe
      go_loopg [61] 256 (fun q i wr => ∃ (k : Nat) (tb : Array Value), k ≤ 256 ∧ 256 - k ≤ q ∧ i = .int .i64 k ∧ Hid (wr.heap[T]? = some (.cells tb 79 (0, 0)) ∧ tb.size = 256 ∧ ∀ j, j < k → tb[j]? = some (.int .u8 (j : Nat))) ∧ Below w0.heap.size w0 wr)
      case atStart => exact ⟨0, _, by omega, by omega, rfl, ⟨HT.out, HZS.out, fun j h => by omega⟩, HBel.out⟩
      case round =>
        clear HT HBel HZS
        obtain ⟨k, tb, hk, hq, rfl, hh, hb⟩ := hrel
        have HH := hid hh.out
        have HB1 := hid hb
        obtain ⟨h1, h2, -⟩ := hh.out
        have kc : wr.cell? ⟨T, k, none⟩ = tb[k]? := heap_cell h1 k
        have fz := heap_free h1 k
        clear hh hb
        by_cases hlt : k < 256
        · rw [Array.getElem?_eq_getElem (by omega)] at kc
          generalize tb[k]'_ = old at *
          clear h1
          go_wp2_with fail
          go_roundg (256 - (k + 1))
          case measure => omega
          case rel =>
            obtain ⟨h1, h2, h3⟩ := HH.out
            refine ⟨k + 1, tb.setIfInBounds k (.int .u8 (k : Nat)), by omega, by omega, by go_num, ⟨heap_set h1 k _, by simp [h2], fun j hj => ?_⟩, HB1.out.setCell (Nat.le_of_eq HTE.out.symm) _⟩
            by_cases e : j = k
            · subst e
              rw [Array.getElem?_setIfInBounds_self_of_lt (by omega)]
            · rw [Array.getElem?_setIfInBounds_ne (by omega)]
              exact h3 j (by omega)
        · have hke : k = 256 := by omega
          subst hke
          clear hlt hq hk h1 h2 kc fz
          go_wp2_with fail
          go_loopg [8] 3 (fun q i wr => ∃ (k : Nat) (tb : Array Value), k ≤ 3 ∧ 3 - k ≤ q ∧ i = .int .i64 (4 - 2 * (k : Int)) ∧ Hid (wr.heap[T]? = some (.cells tb 79 (0, 0)) ∧ tb.size = 256 ∧ ∀ j, j < 256 → tb[j]? = some (.int .u8 (capN k j : Nat))) ∧ Below w0.heap.size w0 wr)
          case atStart => exact ⟨0, _, by omega, by omega, rfl, ⟨HH.out.1, HH.out.2.1, fun j hj => by rw [HH.out.2.2 j hj, capN_zero]⟩, HB1.out⟩
          case round =>
            clear HH HB1
            obtain ⟨k, tb, hk, hq, rfl, hh, hb⟩ := hrel
            have HH := hid hh.out
            have HB1 := hid hb
            obtain ⟨h1, h2, h3⟩ := hh.out
            have hgw := HG.out.below hb
            have g0 : wr.cell? ⟨g, 0, none⟩ = some (.string ⟨#[120]⟩) := six_cell hgw 0 rfl
            have g1 : wr.cell? ⟨g, 1, none⟩ = some (.string ⟨#[88]⟩) := six_cell hgw 1 rfl
            have g2 : wr.cell? ⟨g, 2, none⟩ = some (.string ⟨#[121]⟩) := six_cell hgw 2 rfl
            have g3 : wr.cell? ⟨g, 3, none⟩ = some (.string ⟨#[89]⟩) := six_cell hgw 3 rfl
            have g4 : wr.cell? ⟨g, 4, none⟩ = some (.string ⟨#[122]⟩) := six_cell hgw 4 rfl
            have g5 : wr.cell? ⟨g, 5, none⟩ = some (.string ⟨#[90]⟩) := six_cell hgw 5 rfl
            clear hh hb hgw
            have i122 : ((ByteArray.mk #[122])[0]'(by decide)).toNat = 122 := rfl
            have i90 : ((ByteArray.mk #[90])[0]'(by decide)).toNat = 90 := rfl
            have i121 : ((ByteArray.mk #[121])[0]'(by decide)).toNat = 121 := rfl
            have i89 : ((ByteArray.mk #[89])[0]'(by decide)).toNat = 89 := rfl
            have i120 : ((ByteArray.mk #[120])[0]'(by decide)).toNat = 120 := rfl
            have i88 : ((ByteArray.mk #[88])[0]'(by decide)).toNat = 88 := rfl
            rcases (by omega : k = 0 ∨ k = 1 ∨ k = 2 ∨ k = 3) with rfl | rfl | rfl | rfl
            · have kc : wr.cell? ⟨T, 122, none⟩ = some (.int .u8 122) := (heap_cell h1 122).trans (h3 122 (by omega))
              have fz := heap_free h1 122
              clear h3
              go_wp2_with fail
              go_roundg 2
              case measure => omega
              case rel => exact ⟨1, _, by omega, by omega, by rfl, ⟨heap_set h1 122 _, by simp [h2], fun j hj => by
                have h9 := (HH.out).2.2 j hj
                by_cases e : j = 122
                · subst e
                  rw [Array.getElem?_setIfInBounds_self_of_lt (by omega)]
                  rfl
                · rw [Array.getElem?_setIfInBounds_ne (by omega), h9]
                  congr 2
                  unfold capN
                  split <;> split <;> (try split) <;> (try split) <;> (try split) <;> (try split) <;> omega⟩, HB1.out.setCell (Nat.le_of_eq HTE.out.symm) _⟩
            · have kc : wr.cell? ⟨T, 121, none⟩ = some (.int .u8 121) := (heap_cell h1 121).trans (h3 121 (by omega))
              have fz := heap_free h1 121
              clear h3
              go_wp2_with fail
              go_roundg 1
              case measure => omega
              case rel => exact ⟨2, _, by omega, by omega, by rfl, ⟨heap_set h1 121 _, by simp [h2], fun j hj => by
                have h9 := (HH.out).2.2 j hj
                by_cases e : j = 121
                · subst e
                  rw [Array.getElem?_setIfInBounds_self_of_lt (by omega)]
                  rfl
                · rw [Array.getElem?_setIfInBounds_ne (by omega), h9]
                  congr 2
                  unfold capN
                  split <;> split <;> (try split) <;> (try split) <;> (try split) <;> (try split) <;> omega⟩, HB1.out.setCell (Nat.le_of_eq HTE.out.symm) _⟩
            · have kc : wr.cell? ⟨T, 120, none⟩ = some (.int .u8 120) := (heap_cell h1 120).trans (h3 120 (by omega))
              have fz := heap_free h1 120
              clear h3
              go_wp2_with fail
              go_roundg 0
              case measure => omega
              case rel => exact ⟨3, _, by omega, by omega, by rfl, ⟨heap_set h1 120 _, by simp [h2], fun j hj => by
                have h9 := (HH.out).2.2 j hj
                by_cases e : j = 120
                · subst e
                  rw [Array.getElem?_setIfInBounds_self_of_lt (by omega)]
                  rfl
                · rw [Array.getElem?_setIfInBounds_ne (by omega), h9]
                  congr 2
                  unfold capN
                  split <;> split <;> (try split) <;> (try split) <;> (try split) <;> (try split) <;> omega⟩, HB1.out.setCell (Nat.le_of_eq HTE.out.symm) _⟩
            · clear h1 h2 h3
              go_wp2
              go_ret
              exact ⟨T, tb, rfl, ⟨tb, HH.out.1, HH.out.2.1, HH.out.2.2⟩, Nat.le_of_eq HTE.out.symm, HB1.out⟩
end Ren
end Go.Proofs.Ytomfppiinhhiaaa
