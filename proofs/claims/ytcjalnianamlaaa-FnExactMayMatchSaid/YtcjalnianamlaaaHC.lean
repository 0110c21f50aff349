/- HasClass and NeedValid, of both sides. Conditions: the sizes are those typed. -/
import Derived.Test.YtcjalnianamlaaaWV
set_option linter.unusedVariables false
set_option linter.unusedSimpArgs false
set_option maxRecDepth 100000
namespace Go.Proofs.Ytcjalnianamlaaa
open Go.RowKit Known Classes Ty IV
open WV
namespace HC
noncomputable def hcB (cs : List BB) (is : List II) (x : ByteArray) : Bool := wvB cs is && knownB cs x
def noB (cs : List BB) (x : ByteArray) (y : List UInt8) : Bool := knownB cs x && (ty y).isSome
noncomputable def nvB (cs : List BB) (is : List II) (x : ByteArray) (y : List UInt8) : Bool := wvB cs is && noB cs x y
theorem and_f {a b : Bool} (h : a = false) : (a && b) = false := by rw [h]; rfl
theorem and_t {a b : Bool} (h : a = true) : (a && b) = b := by rw [h]; rfl
theorem keep_at {W W1 : World} {b o : Nat} {v : Value} (h : W.cell? ⟨b, o, none⟩ = some v) (hb : Below W.heap.size W W1) : W1.cell? ⟨b, o, none⟩ = some v := (hb.cell (lt_of_cell h)).trans h
set_option maxHeartbeats 2000000 in
theorem needOk_impl (a b : Option Addr) (cap cap2 : Nat) (cs : List BB) (is : List II) (x y : List UInt8) (w : World) (hy : y.length ≤ 1048576) (hs : SP w (.slice a cs.length cap) cs) :
    Calls Try.prog 39 #[.agg #[.slice a cs.length cap, .slice b is.length cap2], .agg #[.string ⟨x.toArray⟩, .string ⟨y.toArray⟩]] w fun e w' => e = .returned (.bool (noB cs ⟨x.toArray⟩ y)) ∧ Below w.heap.size w w' := by
  have HS := hid hs
  clear hs
  go_enter Try.func39, Try.ntmps39
  go_wp2_with fail
  have HBW : Hid (Below w.heap.size w ((w.alloc (.cells #[.slice a cs.length cap, .slice b is.length cap2] 36)).alloc (.cells #[.string ⟨x.toArray⟩, .string ⟨y.toArray⟩] 38))) := ((Below.refl _ _).alloc (Nat.le_refl _) _).alloc (by simp) _
  have HX1 : Hid (((w.alloc (.cells #[.slice a cs.length cap, .slice b is.length cap2] 36)).alloc (.cells #[.string ⟨x.toArray⟩, .string ⟨y.toArray⟩] 38)).heap[w.heap.size]? = some (.cells #[.slice a cs.length cap, .slice b is.length cap2] 36 (0, 0))) := hb_alloc (heap_alloc_new _ _) _
  have HX2 : Hid (((w.alloc (.cells #[.slice a cs.length cap, .slice b is.length cap2] 36)).alloc (.cells #[.string ⟨x.toArray⟩, .string ⟨y.toArray⟩] 38)).heap[w.heap.size + 1]? = some (.cells #[.string ⟨x.toArray⟩, .string ⟨y.toArray⟩] 38 (0, 0))) := heap_alloc2_new _ _ _
  generalize (w.alloc (.cells #[.slice a cs.length cap, .slice b is.length cap2] 36)).alloc (.cells #[.string ⟨x.toArray⟩, .string ⟨y.toArray⟩] 38) = W at *
  have hzb := HBW.out.size
  have hzs := lt_of_heap HX2.out
  refine (known_any _ cs ⟨x.toArray⟩ W (HS.out.below HBW.out)).mono ?_
  rintro e w1 ⟨rfl, hb⟩
  have HB1 := hid hb
  obtain ⟨p10, p11⟩ := keep2 HX2.out hb
  clear hb
  cases hv : knownB cs ⟨x.toArray⟩ with
  | false =>
    have HR : Hid (noB cs ⟨x.toArray⟩ y = false) := and_f hv
    clear hv
    go_wp2
    go_ret
    exact ⟨ret_bool HR.out.symm, HBW.out.trans (HB1.out.mono HBW.out.size)⟩
  | true =>
    have HR : Hid (noB cs ⟨x.toArray⟩ y = (ty y).isSome) := and_t hv
    clear hv
    go_wp2_with fail
    refine (TypeValid_impl y w1 (by unfold maxLen; omega)).mono ?_
    rintro e w2 ⟨rfl, hb⟩
    have HB2 : Hid (Below W.heap.size W w2) := HB1.out.trans (hb.mono HB1.out.size)
    clear hb
    go_wp2
    go_ret
    exact ⟨ret_bool HR.out.symm, HBW.out.trans (HB2.out.mono HBW.out.size)⟩
set_option maxHeartbeats 2000000 in
theorem needOk_spec (a b : Option Addr) (cap cap2 : Nat) (cs : List BB) (is : List II) (x y : List UInt8) (w : World) (hy : y.length ≤ 1048576) (hs : SP w (.slice a cs.length cap) cs) :
    Calls Try.prog 32 #[.agg #[.slice a cs.length cap, .slice b is.length cap2], .agg #[.string ⟨x.toArray⟩, .string ⟨y.toArray⟩]] w fun e w' => e = .returned (.bool (noB cs ⟨x.toArray⟩ y)) ∧ Below w.heap.size w w' := by
  have HS := hid hs
  clear hs
  go_enter Try.func32, Try.ntmps32
  go_wp2_with fail
  have HBW : Hid (Below w.heap.size w ((w.alloc (.cells #[.slice a cs.length cap, .slice b is.length cap2] 36)).alloc (.cells #[.string ⟨x.toArray⟩, .string ⟨y.toArray⟩] 38))) := ((Below.refl _ _).alloc (Nat.le_refl _) _).alloc (by simp) _
  have HX1 : Hid (((w.alloc (.cells #[.slice a cs.length cap, .slice b is.length cap2] 36)).alloc (.cells #[.string ⟨x.toArray⟩, .string ⟨y.toArray⟩] 38)).heap[w.heap.size]? = some (.cells #[.slice a cs.length cap, .slice b is.length cap2] 36 (0, 0))) := hb_alloc (heap_alloc_new _ _) _
  have HX2 : Hid (((w.alloc (.cells #[.slice a cs.length cap, .slice b is.length cap2] 36)).alloc (.cells #[.string ⟨x.toArray⟩, .string ⟨y.toArray⟩] 38)).heap[w.heap.size + 1]? = some (.cells #[.string ⟨x.toArray⟩, .string ⟨y.toArray⟩] 38 (0, 0))) := heap_alloc2_new _ _ _
  generalize (w.alloc (.cells #[.slice a cs.length cap, .slice b is.length cap2] 36)).alloc (.cells #[.string ⟨x.toArray⟩, .string ⟨y.toArray⟩] 38) = W at *
  have hzb := HBW.out.size
  have hzs := lt_of_heap HX2.out
  refine (l3Class_any a cap b is.length cap2 cs ⟨x.toArray⟩ W (HS.out.below HBW.out)).mono ?_
  rintro e w1 ⟨rfl, hb⟩
  have HB1 := hid hb
  obtain ⟨p10, p11⟩ := keep2 HX2.out hb
  clear hb
  obtain ⟨ixv, hixv⟩ : ∃ v, v = idxC cs ⟨x.toArray⟩ := ⟨_, rfl⟩
  have hkx := idx_known cs ⟨x.toArray⟩
  rw [← hixv] at hkx
  rw [← hixv]
  clear hixv
  cases hv : knownB cs ⟨x.toArray⟩ with
  | false =>
    have HR : Hid (noB cs ⟨x.toArray⟩ y = false) := and_f hv
    have hneg : ixv < 0 := by rw [hv] at hkx; simpa using hkx.symm
    clear hkx
    clear hv
    go_wp2
    go_ret
    exact ⟨ret_bool HR.out.symm, HBW.out.trans (HB1.out.mono HBW.out.size)⟩
  | true =>
    have HR : Hid (noB cs ⟨x.toArray⟩ y = (ty y).isSome) := and_t hv
    have hneg : 0 ≤ ixv := by rw [hv] at hkx; simpa using hkx.symm
    clear hkx
    clear hv
    go_wp2_with fail
    refine (TypeValid_spec y w1 (by unfold maxLen; omega)).mono ?_
    rintro e w2 ⟨rfl, hb⟩
    have HB2 : Hid (Below W.heap.size W w2) := HB1.out.trans (hb.mono HB1.out.size)
    clear hb
    go_wp2
    go_ret
    exact ⟨ret_bool HR.out.symm, HBW.out.trans (HB2.out.mono HBW.out.size)⟩
set_option maxHeartbeats 2000000 in
theorem NeedValid_impl (a b : Option Addr) (cap cap2 : Nat) (cs : List BB) (is : List II) (x y : List UInt8) (w : World) (hy : y.length ≤ 1048576) (h0 : tot cs + cs.length ≤ 1048577) (h1 : itot is + is.length ≤ 1048576) (hcap : cs.length ≤ cap) (hs : SP w (.slice a cs.length cap) cs) (hi : SI w (.slice b is.length cap2) is) :
    Calls Try.prog 21 #[.agg #[.slice a cs.length cap, .slice b is.length cap2], .agg #[.string ⟨x.toArray⟩, .string ⟨y.toArray⟩]] w fun e w' => e = .returned (.bool (nvB cs is ⟨x.toArray⟩ y)) ∧ Below w.heap.size w w' := by
  have HS := hid hs
  have HI := hid hi
  have H0 := hid h0
  have H1 := hid h1
  clear hs hi h0 h1
  go_enter Try.func21, Try.ntmps21
  go_wp2_with fail
  have HBW : Hid (Below w.heap.size w ((w.alloc (.cells #[.slice a cs.length cap, .slice b is.length cap2] 36)).alloc (.cells #[.string ⟨x.toArray⟩, .string ⟨y.toArray⟩] 38))) := ((Below.refl _ _).alloc (Nat.le_refl _) _).alloc (by simp) _
  have HX1 : Hid (((w.alloc (.cells #[.slice a cs.length cap, .slice b is.length cap2] 36)).alloc (.cells #[.string ⟨x.toArray⟩, .string ⟨y.toArray⟩] 38)).heap[w.heap.size]? = some (.cells #[.slice a cs.length cap, .slice b is.length cap2] 36 (0, 0))) := hb_alloc (heap_alloc_new _ _) _
  have HX2 : Hid (((w.alloc (.cells #[.slice a cs.length cap, .slice b is.length cap2] 36)).alloc (.cells #[.string ⟨x.toArray⟩, .string ⟨y.toArray⟩] 38)).heap[w.heap.size + 1]? = some (.cells #[.string ⟨x.toArray⟩, .string ⟨y.toArray⟩] 38 (0, 0))) := heap_alloc2_new _ _ _
  generalize (w.alloc (.cells #[.slice a cs.length cap, .slice b is.length cap2] 36)).alloc (.cells #[.string ⟨x.toArray⟩, .string ⟨y.toArray⟩] 38) = W at *
  have hzb := HBW.out.size
  have hzs := lt_of_heap HX2.out
  refine (WorldValid_impl a b cap cap2 cs is W H0.out H1.out hcap (HS.out.below HBW.out) (HI.out.below HBW.out)).mono ?_
  rintro e w1 ⟨rfl, hb⟩
  have HB1 := hid hb
  obtain ⟨p10, p11⟩ := keep2 HX1.out hb
  obtain ⟨q10, q11⟩ := keep2 HX2.out hb
  clear hb
  cases hv : wvB cs is with
  | false =>
    have HR : Hid (nvB cs is ⟨x.toArray⟩ y = false) := and_f hv
    clear hv
    go_wp2
    go_ret
    exact ⟨ret_bool HR.out.symm, HBW.out.trans (HB1.out.mono HBW.out.size)⟩
  | true =>
    have HR : Hid (nvB cs is ⟨x.toArray⟩ y = noB cs ⟨x.toArray⟩ y) := and_t hv
    clear hv
    go_wp2_with fail
    refine (needOk_impl a b cap cap2 cs is x y w1 hy ((HS.out.below HBW.out).below HB1.out)).mono ?_
    rintro e w2 ⟨rfl, hb⟩
    have HB2 : Hid (Below W.heap.size W w2) := HB1.out.trans (hb.mono HB1.out.size)
    clear hb
    go_wp2
    go_ret
    exact ⟨ret_bool HR.out.symm, HBW.out.trans (HB2.out.mono HBW.out.size)⟩
set_option maxHeartbeats 2000000 in
theorem NeedValid_spec (a b : Option Addr) (cap cap2 : Nat) (cs : List BB) (is : List II) (x y : List UInt8) (w : World) (hy : y.length ≤ 1048576) (h0 : tot cs + cs.length ≤ 1048577) (h1 : itot is + is.length ≤ 1048576) (hcap : cs.length ≤ cap) (hs : SP w (.slice a cs.length cap) cs) (hi : SI w (.slice b is.length cap2) is) :
    Calls Try.prog 17 #[.agg #[.slice a cs.length cap, .slice b is.length cap2], .agg #[.string ⟨x.toArray⟩, .string ⟨y.toArray⟩]] w fun e w' => e = .returned (.bool (nvB cs is ⟨x.toArray⟩ y)) ∧ Below w.heap.size w w' := by
  have HS := hid hs
  have HI := hid hi
  have H0 := hid h0
  have H1 := hid h1
  clear hs hi h0 h1
  go_enter Try.func17, Try.ntmps17
  go_wp2_with fail
  have HBW : Hid (Below w.heap.size w ((w.alloc (.cells #[.slice a cs.length cap, .slice b is.length cap2] 36)).alloc (.cells #[.string ⟨x.toArray⟩, .string ⟨y.toArray⟩] 38))) := ((Below.refl _ _).alloc (Nat.le_refl _) _).alloc (by simp) _
  have HX1 : Hid (((w.alloc (.cells #[.slice a cs.length cap, .slice b is.length cap2] 36)).alloc (.cells #[.string ⟨x.toArray⟩, .string ⟨y.toArray⟩] 38)).heap[w.heap.size]? = some (.cells #[.slice a cs.length cap, .slice b is.length cap2] 36 (0, 0))) := hb_alloc (heap_alloc_new _ _) _
  have HX2 : Hid (((w.alloc (.cells #[.slice a cs.length cap, .slice b is.length cap2] 36)).alloc (.cells #[.string ⟨x.toArray⟩, .string ⟨y.toArray⟩] 38)).heap[w.heap.size + 1]? = some (.cells #[.string ⟨x.toArray⟩, .string ⟨y.toArray⟩] 38 (0, 0))) := heap_alloc2_new _ _ _
  generalize (w.alloc (.cells #[.slice a cs.length cap, .slice b is.length cap2] 36)).alloc (.cells #[.string ⟨x.toArray⟩, .string ⟨y.toArray⟩] 38) = W at *
  have hzb := HBW.out.size
  have hzs := lt_of_heap HX2.out
  refine (WorldValid_spec a b cap cap2 cs is W H0.out H1.out hcap (HS.out.below HBW.out) (HI.out.below HBW.out)).mono ?_
  rintro e w1 ⟨rfl, hb⟩
  have HB1 := hid hb
  obtain ⟨p10, p11⟩ := keep2 HX1.out hb
  obtain ⟨q10, q11⟩ := keep2 HX2.out hb
  clear hb
  cases hv : wvB cs is with
  | false =>
    have HR : Hid (nvB cs is ⟨x.toArray⟩ y = false) := and_f hv
    clear hv
    go_wp2
    go_ret
    exact ⟨ret_bool HR.out.symm, HBW.out.trans (HB1.out.mono HBW.out.size)⟩
  | true =>
    have HR : Hid (nvB cs is ⟨x.toArray⟩ y = noB cs ⟨x.toArray⟩ y) := and_t hv
    clear hv
    go_wp2_with fail
    refine (needOk_spec a b cap cap2 cs is x y w1 hy ((HS.out.below HBW.out).below HB1.out)).mono ?_
    rintro e w2 ⟨rfl, hb⟩
    have HB2 : Hid (Below W.heap.size W w2) := HB1.out.trans (hb.mono HB1.out.size)
    clear hb
    go_wp2
    go_ret
    exact ⟨ret_bool HR.out.symm, HBW.out.trans (HB2.out.mono HBW.out.size)⟩
end HC
end Go.Proofs.Ytcjalnianamlaaa
