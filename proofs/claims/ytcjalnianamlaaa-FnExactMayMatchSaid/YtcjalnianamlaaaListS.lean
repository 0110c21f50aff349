/- The laws' functions on slices of strings and of numbers: comparison, marks, copies, sizes. Conditions: those typed. -/
import Derived.Test.YtcjalnianamlaaaReg2
import Derived.Test.YtcjalnianamlaaaStr
import Derived.Deep.LoopGhost
import Derived.Deep.QuietTactic
import Derived.BigQuiet
import Derived.WalkSmall
import Derived.Laws.OwnMore
import Derived.Laws.IdiomStrings
set_option linter.unusedVariables false
set_option linter.unusedSimpArgs false
set_option maxRecDepth 100000
namespace Go.Proofs.Ytcjalnianamlaaa
open Go.RowKit
namespace ListS
theorem run_byte {P : Program} (w : World) (bt st ut : TypeId) (hb : P.underlying bt = some (.slice ut)) (hu : P.underlying ut = some (.int .u8)) (hs : P.underlying st = some .string) (c : UInt8) (n : Int) (hn : n = c.toNat) :
    (convert bt st (.slice (some ⟨w.heap.size, 0, none⟩) 1 1)).run P (w.alloc (.cells #[.int .u8 n] ut)) = .ok (.string ⟨#[c]⟩) (w.alloc (.cells #[.int .u8 n] ut)) := by
  subst hn
  exact run_convert_bytes_back (P := P) (w.alloc (.cells #[.int .u8 c.toNat] ut)) bt st ut ⟨w.heap.size, 0, none⟩ 1 [c] hb hu hs (fun j hj => by
    have : j = 0 := by simp at hj; omega
    subst this
    exact heap_cell (heap_alloc_new _ _) 0)
theorem cons_bytes (c : UInt8) (l : List UInt8) : (⟨(c :: l).toArray⟩ : ByteArray) = ⟨#[c]⟩ ++ ⟨l.toArray⟩ := by apply ByteArray.ext; simp
def strs (xs : List ByteArray) : List Value := xs.map Value.string
/-- a new slice that holds the strings xs -/
def LPost (w : World) (xs : List ByteArray) (e : Ending) (w' : World) : Prop :=
  ∃ g cap, e = .returned (.slice (some ⟨g, 0, none⟩) xs.length cap) ∧ w'.ownsRow w.heap.size 9 1 (.slice (some ⟨g, 0, none⟩) xs.length cap) xs.length (strs xs) ∧ Below w.heap.size w w'
theorem strs_len (xs : List ByteArray) : (strs xs).length = xs.length := by simp [strs]
theorem row_at {w : World} {base : Nat} {e : TypeId} {size : Nat} {v : Value} {n : Nat} {xs : List Value} (h : w.ownsRow base e size v n xs) (hn : 0 < n) :
    ∃ g cap, v = .slice (some ⟨g, 0, none⟩) n cap ∧ base ≤ g ∧ g < w.heap.size ∧ ∃ cs : Array Value, w.heap[g]? = some (.cells cs e (0, 0)) ∧ ∀ (j : Nat) (u : Value), xs[j]? = some u → cs[j]? = some u := by
  rcases h.2 with ⟨_, h0⟩ | ⟨g, cap, cur, hv, hb, hg, hr⟩
  · omega
  · subst hv
    refine ⟨g, cap, rfl, hb, lt_of_heap hg, cur, hg, fun j u hu => ?_⟩
    have := row_cell h j hu
    rw [heap_cell hg] at this
    exact this
theorem row_slice {w : World} {base : Nat} {e : TypeId} {size : Nat} {v : Value} {n : Nat} {xs : List Value} (h : w.ownsRow base e size v n xs) : ∃ a cap, v = .slice a n cap := by
  rcases h.2 with ⟨rfl, rfl⟩ | ⟨g', cap, cur, rfl, hb, hg, hx⟩
  · exact ⟨none, 0, by have := h.1; simp at this; subst this; rfl⟩
  · exact ⟨some ⟨g', 0, none⟩, cap, rfl⟩
theorem row_own {w : World} {base : Nat} {e : TypeId} {size : Nat} {v : Value} {n : Nat} {xs : List Value} (h : w.ownsRow base e size v n xs) : ∀ g, v.ownBlock = some g → base ≤ g ∧ g < w.heap.size := by
  intro g hv
  rcases h.2 with ⟨rfl, _⟩ | ⟨g', cap, cur, rfl, hb, hg, _⟩
  · simp [Value.ownBlock] at hv
  · simp [Value.ownBlock] at hv
    subst hv
    exact ⟨hb, lt_of_heap hg⟩
theorem row_grown {w w' : World} {row : Option Nat} (h : w.grownBy w' row) {base : Nat} {e : TypeId} {size : Nat} {v : Value} {n : Nat} {xs : List Value} (ho : w.ownsRow base e size v n xs) (hv : ∀ g, v.ownBlock = some g → row ≠ some g) : w'.ownsRow base e size v n xs := by
  refine ⟨ho.1, ?_⟩
  rcases ho.2 with hn | ⟨g, cap, cur, rfl, hb, hgg, rest⟩
  · exact .inl hn
  · exact .inr ⟨g, cap, cur, rfl, hb, (h.block g (lt_of_heap hgg) (fun e => hv g (by simp [Value.ownBlock]) e.symm)).trans hgg, rest⟩
theorem row_below {w w' : World} (h : Below w.heap.size w w') {base : Nat} {e : TypeId} {size : Nat} {v : Value} {n : Nat} {xs : List Value} (ho : w.ownsRow base e size v n xs) : w'.ownsRow base e size v n xs := (keeps_of h base).row ho
theorem below_grownN (w : World) (n : Nat) : Below w.heap.size w (w.drewN n) := below_drewN (Below.refl _ _) n

def ints (xs : List Int) : List Value := xs.map (Value.int .i64)
theorem ints_len (xs : List Int) : (ints xs).length = xs.length := by simp [ints]
theorem eqIntS_same (v v2 : Value) (xs : List Int) (w : World) (b1 b2 : Nat) (hn : xs.length ≤ 1099511627776) (h1 : w.ownsRow b1 3 1 v xs.length (ints xs)) (h2 : w.ownsRow b2 3 1 v2 xs.length (ints xs)) :
    Calls Try.prog 10 #[v, v2] w fun e w' => e = .returned (.bool true) ∧ ∃ n, w' = w.drewN n := by
  obtain ⟨a1, c1, rfl⟩ := row_slice h1
  obtain ⟨a2, c2, rfl⟩ := row_slice h2
  have R1 := hid h1
  have R2 := hid h2
  have hne : ((xs.length : Int) != (xs.length : Int)) = false := by simp
  clear h1 h2
  go_enter Try.func10, Try.ntmps10
  go_wp2_with fail
  go_loopg [5] xs.length (fun q i wr => ∃ k d, (k ≤ xs.length ∧ xs.length - k ≤ q ∧ i = .int .i64 k) ∧ wr = w.drewN d)
  case atStart => exact ⟨0, 0, ⟨Nat.zero_le _, by simp, rfl⟩, rfl⟩
  case round =>
    obtain ⟨k, d, ⟨hk, hq, rfl⟩, rfl⟩ := hrel
    by_cases hlt : k < xs.length
    · have hx : (ints xs)[k]? = some (.int .i64 xs[k]) := by simp [ints, hlt]
      obtain ⟨g1, c1', e1, -, hg1, cs1, hc1, hd1⟩ := row_at R1.out (by omega)
      obtain ⟨g2, c2', e2, -, hg2, cs2, hc2, hd2⟩ := row_at R2.out (by omega)
      cases e1
      cases e2
      have k1 : w.cell? ⟨g1, k, none⟩ = some (.int .i64 xs[k]) := (heap_cell hc1 k).trans (hd1 _ _ hx)
      have k2 : w.cell? ⟨g2, k, none⟩ = some (.int .i64 xs[k]) := (heap_cell hc2 k).trans (hd2 _ _ hx)
      clear hd1 hd2 hc1 hc2 hx
      go_wp2
      go_quiet (fail)
      go_wp2
      go_roundg (gk - 1)
      case measure => omega
      case rel => exact ⟨k + 1, _, ⟨by omega, by omega, by go_num⟩, rfl⟩
    · have hke : xs.length ≤ k := by omega
      go_wp2
      go_ret
      exact ⟨rfl, _, rfl⟩

/-- the first j of n cells are marked -/
def stage (f : Nat → Value) (k : Nat) (xs : List Value) (j : Nat) : List Value := ((List.range j).map fun i => f (k + i)) ++ xs.drop j
theorem stage_zero (f : Nat → Value) (k : Nat) (xs : List Value) : stage f k xs 0 = xs := by simp [stage]
theorem stage_set (f : Nat → Value) (k : Nat) (xs : List Value) (j : Nat) (h : j < xs.length) : (stage f k xs j).set j (f (k + j)) = stage f k xs (j + 1) := by
  unfold stage
  rw [List.range_succ, List.map_append, List.set_append_right _ _ (by simp)]
  simp only [List.length_map, List.length_range, Nat.sub_self, List.map_cons, List.map_nil, List.append_assoc, List.cons_append, List.nil_append]
  rw [List.drop_eq_getElem_cons h, List.set_cons_zero]
theorem stage_end (f : Nat → Value) (k : Nat) (xs : List Value) : stage f k xs xs.length = (List.range xs.length).map fun i => f (k + i) := by simp [stage]
theorem stage_len (f : Nat → Value) (k : Nat) (xs : List Value) (j : Nat) (h : j ≤ xs.length) : (stage f k xs j).length = xs.length := by simp [stage]; omega
def marksI (k n : Nat) : List Value := (List.range n).map fun i => Value.int .i64 ((k + i : Nat) : Int)
def MIPost (w : World) (k n : Nat) (v : Value) (e : Ending) (w' : World) : Prop := e = .returned (.int .i64 ((k + n : Nat) : Int)) ∧ w'.ownsRow 0 3 1 v n (marksI k n) ∧ w.grownBy w' v.ownBlock
theorem markIntS_any (v : Value) (xs : List Value) (k : Nat) (w : World) (hk : k ≤ 1099511627776) (hn : xs.length ≤ 1099511627776) (h1 : w.ownsRow 0 3 1 v xs.length xs) :
    Calls Try.prog 13 #[v, .int .i64 k] w (MIPost w k xs.length v) := by
  obtain ⟨a1, c1, rfl⟩ := row_slice h1
  have R1 := hid h1
  clear h1
  go_enter Try.func13, Try.ntmps13
  go_wp2_with fail
  go_loopg [1, 5] xs.length (fun q m i wr => ∃ j : Nat, j ≤ xs.length ∧ xs.length - j ≤ q ∧ i = .int .i64 j ∧ m = .int .i64 ((k + j : Nat) : Int) ∧ wr.ownsRow 0 3 1 (.slice a1 xs.length c1) xs.length (stage (fun i => .int .i64 (i : Int)) k xs j) ∧ w.grownBy wr (Value.ownBlock (.slice a1 xs.length c1)))
  case atStart => exact ⟨0, Nat.zero_le _, by simp, rfl, rfl, by rw [stage_zero]; exact R1.out, ⟨rfl, rfl, rfl, Nat.le_refl _, fun _ _ _ => rfl⟩⟩
  case round =>
    obtain ⟨j, hj, hq, rfl, rfl, hrow, hg⟩ := hrel
    have HR := hid hrow
    have HG := hid hg
    clear hrow hg
    by_cases hlt : j < xs.length
    · obtain ⟨g1, c1', e1, -, hg1, cs1, hc1, hd1⟩ := row_at HR.out (by omega)
      cases e1
      have hl : j < (stage (fun i => Value.int .i64 (i : Int)) k xs j).length := by rw [stage_len _ _ _ _ hj]; exact hlt
      have k1 : w.cell? ⟨g1, j, none⟩ = w.cell? ⟨g1, j, none⟩ := rfl
      have k2 : wr.cell? ⟨g1, j, none⟩ = some ((stage (fun i => Value.int .i64 (i : Int)) k xs j)[j]'hl) := (heap_cell hc1 j).trans (hd1 _ _ (List.getElem?_eq_getElem hl))
      have f2 : wr.frozen? ⟨g1, j, none⟩ = false := heap_free hc1 j
      clear k1 hd1 hc1
      go_wp2
      go_roundg (gk - 1)
      case measure => omega
      case rel =>
        obtain ⟨q1, q2⟩ := HR.out.stored j (.int .i64 ((k + j : Nat) : Int))
        refine ⟨j + 1, by omega, by omega, by go_num, by go_num, ?_, grown_trans HG.out q2⟩
        rw [← stage_set (fun i => Value.int .i64 (i : Int)) k xs j hlt]
        exact q1
    · have hke : xs.length ≤ j := by omega
      have hke2 : j ≤ xs.length := hj
      go_wp2
      go_ret
      have e : j = xs.length := by omega
      subst e
      exact ⟨rfl, by have := HR.out; rw [stage_end] at this; exact this, HG.out⟩
theorem heldIntS_same (v : Value) (k n : Nat) (w : World) (b : Nat) (hk : k ≤ 1099511627776) (hn : n ≤ 1099511627776) (h1 : w.ownsRow b 3 1 v n (marksI k n)) :
    Calls Try.prog 14 #[v, .int .i64 k] w fun e w' => e = .returned (.int .i64 ((k + n : Nat) : Int)) ∧ w = w' := by
  obtain ⟨a1, c1, rfl⟩ := row_slice h1
  have R1 := hid h1
  clear h1
  go_enter Try.func14, Try.ntmps14
  go_wp2_with fail
  go_loopg [1, 5] n (fun q m i wr => ∃ j : Nat, j ≤ n ∧ n - j ≤ q ∧ i = .int .i64 j ∧ m = .int .i64 ((k + j : Nat) : Int) ∧ wr = w)
  case atStart => exact ⟨0, Nat.zero_le _, by simp, rfl, rfl, rfl⟩
  case round =>
    obtain ⟨j, hj, hq, rfl, rfl, rfl⟩ := hrel
    by_cases hlt : j < n
    · obtain ⟨g1, c1', e1, -, hg1, cs1, hc1, hd1⟩ := row_at R1.out (by omega)
      cases e1
      have k2 : wr.cell? ⟨g1, j, none⟩ = some (.int .i64 ((k + j : Nat) : Int)) := (heap_cell hc1 j).trans (hd1 _ _ (by simp [marksI, hlt]))
      have hne : (((k + j : Nat) : Int) != ((k + j : Nat) : Int)) = false := by simp
      clear hd1 hc1
      go_wp2
      go_roundg (gk - 1)
      case measure => omega
      case rel => exact ⟨j + 1, by omega, by omega, by go_num, by go_num, rfl⟩
    · have hke : n ≤ j := by omega
      go_wp2
      go_ret
      have e : j = n := by omega
      subst e
      exact ⟨rfl, rfl⟩
/-- the decimal digits of k ahead of acc, in f rounds at most -/
def decF : Nat → Nat → List UInt8 → List UInt8
  | 0, _, acc => acc
  | f + 1, k, acc => if k = 0 then acc else decF f (k / 10) (UInt8.ofNat (48 + k % 10) :: acc)
def mt (k : Nat) : ByteArray := ⟨(109 :: decF k k []).toArray⟩
def MTPost (w : World) (k : Nat) (e : Ending) (w' : World) : Prop := e = .returned (.string (mt k)) ∧ Below w.heap.size w w'
set_option maxHeartbeats 1000000 in
theorem markText_any (k : Nat) (w : World) (h1 : 1 ≤ k) (h2 : k ≤ 4398046511104) : Calls Try.prog 46 #[.int .i64 k] w (MTPost w k) := by
  go_enter Try.func46, Try.ntmps46
  go_wp2_with fail
  go_loopg [0, 3] k (fun q m o wr => ∃ (j : Nat) (acc : List UInt8), m = .int .i64 j ∧ o = .string ⟨acc.toArray⟩ ∧ j ≤ q ∧ q ≤ k ∧ acc.length + q ≤ k ∧ Hid (decF q j acc = decF k k []) ∧ Below w.heap.size w wr)
  case atStart => exact ⟨k, [], rfl, rfl, Nat.le_refl _, Nat.le_refl _, by simp, rfl, Below.refl _ _⟩
  case round =>
    obtain ⟨j, acc, rfl, rfl, hj, hq, hacc, hd, hb⟩ := hrel
    have HB := hid hb
    clear hb
    by_cases h0 : j = 0
    · have e0 : Hid (mt k = ⟨(109 :: acc).toArray⟩) := by
        show _ = _
        unfold mt
        rw [← hd.out, h0]
        cases gk with
        | zero => rfl
        | succ f => simp [decF]
      have hj0 : j ≤ 0 := by omega
      clear h0 hd
      go_wp2
      go_ret
      refine ⟨?_, HB.out⟩
      rw [e0.out]
      rfl
    · have hj0 : 0 < j := by omega
      clear h0
      obtain ⟨c, hc⟩ : ∃ c, c = UInt8.ofNat (48 + j % 10) := ⟨_, rfl⟩
      have hcn : 48 + (j : Int) % 10 = (c.toNat : Int) := by rw [hc]; simp; omega
      have hd1 : Hid (decF (gk - 1) (j / 10) (c :: acc) = decF k k []) := by
        show _ = _
        rw [← hd.out, hc]
        obtain ⟨f, rfl⟩ : ∃ f, gk = f + 1 := ⟨gk - 1, by omega⟩
        simp [decF]; omega
      have hm := Nat.mod_lt j (show 10 > 0 by decide)
      have hcv := run_byte (P := Try.prog) wr 118 9 5 Try.underlying118 Try.underlying5 Try.underlying9 c (48 + (j : Int) % 10) hcn
      have HCN := hid hcn
      clear hc hcn
      have hdiv : j / 10 ≤ gk - 1 := by omega
      go_wp2
      go_roundg (gk - 1)
      case measure => omega
      case rel => exact ⟨j / 10, c :: acc, by go_num, (congrArg Value.string (cons_bytes c acc)).symm, hdiv, by omega, by simp; omega, hd1, HB.out.alloc HB.out.size _⟩
end ListS
end Go.Proofs.Ytcjalnianamlaaa
