/- RenameType of both sides: sync.Once, the library's replacer. Conditions: those typed. -/
import Derived.Test.YtomfppiinhhiaaaRen
import Derived.Test.YtomfppiinhhiaaaRenP
set_option linter.unusedVariables false
set_option linter.unusedSimpArgs false
set_option maxRecDepth 100000
namespace Go.Proofs.Ytomfppiinhhiaaa
open Go.RowKit Ty ListS
namespace Ren
theorem gbR {w w' : World} (h : Below w.heap.size w w') (row : Option Nat) : w.grownBy w' row := ⟨h.os, h.tape, h.output, h.size, fun k hk _ => h.block k hk⟩
theorem Tab.set {w : World} {T b o : Nat} (h : Tab w T) (hne : T ≠ b) (u : Value) : Tab (w.setCell ⟨b, o, none⟩ u) T := by
  obtain ⟨tb, h1, h2⟩ := h
  exact ⟨tb, hb_set_ne h1 _ _ hne, h2⟩
theorem k5 {w : World} {b : Nat} {x0 x1 x2 x3 x4 : Value} {e : TypeId} (h : w.heap[b]? = some (.cells #[x0, x1, x2, x3, x4] e (0, 0))) : w.cell? ⟨b, 0, none⟩ = some x0 ∧ w.cell? ⟨b, 1, none⟩ = some x1 ∧ w.cell? ⟨b, 3, none⟩ = some x3 ∧ w.cell? ⟨b, 4, none⟩ = some x4 ∧ w.frozen? ⟨b, 0, none⟩ = false ∧ w.frozen? ⟨b, 1, none⟩ = false ∧ w.frozen? ⟨b, 3, none⟩ = false ∧ w.frozen? ⟨b, 4, none⟩ = false :=
  ⟨heap_cell h 0, heap_cell h 1, heap_cell h 3, heap_cell h 4, heap_free h 0, heap_free h 1, heap_free h 3, heap_free h 4⟩
def Once (w w' : World) (b : Nat) (x0 x1 x2 : Value) : Prop := ∃ T, Tab w' T ∧ T ≠ b ∧ w'.heap[b]? = some (.cells #[x0, x1, x2, .iface 80 (.pointer (some ⟨T, 0, none⟩)), .slice none 0 0] 52 (0, 0)) ∧ w.grownBy w' (some b)
set_option maxHeartbeats 2000000 in
theorem buildOnce_any (b g c : Nat) (x0 x1 x2 x3 : Value) (w : World) (hb : w.heap[b]? = some (.cells #[x0, x1, x2, x3, .slice (some ⟨g, 0, none⟩) 6 c] 52 (0, 0))) (hg : Six w g) :
    Calls Try.prog 15 #[.pointer (some ⟨b, 0, none⟩)] w fun e w' => e = .returned (.tuple #[]) ∧ Once w w' b x0 x1 x2 := by
  have hbl := lt_of_heap hb
  have HH := hid hb
  have HG := hid hg
  clear hb hg
  go_enter Try.func15, Try.ntmps15
  go_wp2_with fail
  refine (build_any b g c x0 x1 x2 x3 w HH.out HG.out).mono ?_
  rintro e w1 ⟨T, tb, rfl, ht, hT, hb⟩
  have h1 := below_heap hb hbl HH.out
  obtain ⟨k0, k1, k3, k4, f0, f1, f3, f4⟩ := k5 h1
  have H1 := hid h1
  have HTB := hid ht
  have HB := hid hb
  clear h1 ht hb k0 k1 f0 f1
  go_wp2
  go_end0
  have hne : T ≠ b := by omega
  exact ⟨rfl, T, (HTB.out.set hne _).set hne _, hne, heap_set (heap_set H1.out 3 _) 4 _, grown_trans (gbR HB.out _) (grown_trans (grown_set _ _ _ _) (grown_set _ _ _ _))⟩
set_option maxHeartbeats 4000000 in
theorem slow_any (b g c : Nat) (x2 x3 : Value) (w : World) (hb : w.heap[b]? = some (.cells #[.int .u32 0, .int .i32 0, x2, x3, .slice (some ⟨g, 0, none⟩) 6 c] 52 (0, 0))) (hg : Six w g) :
    Calls Try.prog 19 #[.pointer (some ⟨b, 0, none⟩), .func (.func 15) #[.pointer (some ⟨b, 0, none⟩)] #[]] w fun e w' => e = .returned (.tuple #[]) ∧ Once w w' b (.int .u32 1) (.int .i32 0) x2 := by
  obtain ⟨k0, k1, k3, k4, f0, f1, f3, f4⟩ := k5 hb
  have hne : g ≠ b := by
    obtain ⟨cur, hg1, -⟩ := hg
    exact heap_ne hg1 hb (by decide)
  have H1 : Hid ((w.setCell ⟨b, 1, none⟩ (.int .i32 1)).heap[b]? = some (.cells #[.int .u32 0, .int .i32 1, x2, x3, .slice (some ⟨g, 0, none⟩) 6 c] 52 (0, 0))) := heap_set hb 1 _
  have HG1 : Hid (Six (w.setCell ⟨b, 1, none⟩ (.int .i32 1)) g) := hg.set hne _
  have hl := run_call_load (P := Try.prog) Try.func25 (by kernel_rfl) (by kernel_rfl) (by kernel_rfl) .u32 (by kernel_rfl) (w := w.setCell ⟨b, 1, none⟩ (.int .i32 1)) (a := ⟨b, 0, none⟩) (x := 0) (heap_cell H1.out 0)
  have hnot : ∀ (x : Bool) (w : World), (Op.unary .not (.bool x)).run Try.prog w = .ok (.bool (!x)) w := fun _ _ => rfl
  clear hb hg
  go_enter_defers Try.func19, Try.ntmps19
  go_wp2_with (first | (go_at_call 26; refine (lock_free ⟨b, 1, none⟩ _ k1 f1).mono ?_; rintro e w' ⟨rfl, rfl⟩) | (go_at_call 18; go_in))
  refine (buildOnce_any b g c (.int .u32 0) (.int .i32 1) x2 x3 _ H1.out HG1.out).mono ?_
  rintro e w5 ⟨rfl, T, ht, hneT, hh, hg⟩
  have hh5 : w5.drew.heap[b]? = some (.cells #[.int .u32 0, .int .i32 1, x2, .iface 80 (.pointer (some ⟨T, 0, none⟩)), .slice none 0 0] 52 (0, 0)) := hh
  have HH := hid hh
  have HT := hid ht
  have HG := hid hg
  have HH5 := hid hh5
  clear hl hh ht hg hh5 k0 k1 k3 k4 f0 f1 f3 f4
  go_wp2
  refine leaves_cons (f := 28) (args := #[.pointer (some ⟨b, 0, none⟩), .bool true]) (by simp) (by simp [go_sem]) ?_
  refine (store_deferred ⟨b, 0, none⟩ (.int .u32 0) .returning _ (heap_cell HH.out 0) (heap_free HH.out 0)).mono ?_
  rintro e u' w'' ⟨rfl, rfl, rfl⟩
  refine leaves_cons (f := 27) (args := #[.pointer (some ⟨b, 1, none⟩)]) (by simp [settle]) (by simp [go_sem]) ?_
  refine (unlock_deferred ⟨b, 1, none⟩ _ _ (heap_cell (heap_set HH5.out 0 _) 1) (heap_free (heap_set HH5.out 0 _) 1)).mono ?_
  rintro e u' w'' ⟨rfl, rfl, rfl⟩
  have HTD : Hid (Tab w5.drew T) := HT.out.below ((Below.refl _ _).drew)
  have hend : Once w ((w5.drew.setCell ⟨b, 0, none⟩ (.int .u32 1)).setCell ⟨b, 1, none⟩ (.int .i32 0)) b (.int .u32 1) (.int .i32 0) x2 := ⟨T, (HTD.out.set hneT _).set hneT _, hneT, heap_set (heap_set HH5.out 0 _) 1 _, grown_trans (grown_set _ _ _ _) (grown_trans HG.out (grown_trans (gbR ((Below.refl _ _).drew) _) (grown_trans (grown_set _ _ _ _) (grown_set _ _ _ _))))⟩
  simp [Leaves, settle, results, Try.results19]
  exact hend
set_option maxHeartbeats 2000000 in
theorem do_first (b g c : Nat) (x2 x3 : Value) (w : World) (hb : w.heap[b]? = some (.cells #[.int .u32 0, .int .i32 0, x2, x3, .slice (some ⟨g, 0, none⟩) 6 c] 52 (0, 0))) (hg : Six w g) :
    Calls Try.prog 14 #[.pointer (some ⟨b, 0, none⟩), .func (.func 15) #[.pointer (some ⟨b, 0, none⟩)] #[]] w fun e w' => e = .returned (.tuple #[]) ∧ Once w w' b (.int .u32 1) (.int .i32 0) x2 := by
  have hl := run_call_load (P := Try.prog) Try.func25 (by kernel_rfl) (by kernel_rfl) (by kernel_rfl) .u32 (by kernel_rfl) (w := w) (a := ⟨b, 0, none⟩) (x := 0) (heap_cell hb 0)
  have hnot : ∀ (x : Bool) (w : World), (Op.unary .not (.bool x)).run Try.prog w = .ok (.bool (!x)) w := fun _ _ => rfl
  have HB := hid hb
  have HG := hid hg
  clear hb hg
  go_enter Try.func14, Try.ntmps14
  go_wp2_with (first | (go_at_call 18; go_in))
  refine (slow_any b g c x2 x3 w HB.out HG.out).mono ?_
  rintro e w1 ⟨rfl, ho⟩
  have HO := hid ho
  clear ho hl
  go_wp2
  go_end0
  exact ⟨rfl, HO.out⟩
end Ren
end Go.Proofs.Ytomfppiinhhiaaa
