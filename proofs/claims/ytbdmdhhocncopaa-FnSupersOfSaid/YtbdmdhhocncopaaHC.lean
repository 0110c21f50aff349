/- HasClass and NeedValid, of both sides. Conditions: the sizes are those typed. -/
import Derived.Test.YtbdmdhhocncopaaWV
set_option linter.unusedVariables false
set_option linter.unusedSimpArgs false
set_option maxRecDepth 100000
namespace Go.Proofs.Ytbdmdhhocncopaa
open Go.RowKit Known Classes Ty IV
open WV
namespace HC
noncomputable def hcB (cs : List BB) (is : List II) (x : ByteArray) : Bool := wvB cs is && knownB cs x
def noB (cs : List BB) (x : ByteArray) (y : List UInt8) : Bool := knownB cs x && (ty y).isSome
noncomputable def nvB (cs : List BB) (is : List II) (x : ByteArray) (y : List UInt8) : Bool := wvB cs is && noB cs x y
theorem and_f {a b : Bool} (h : a = false) : (a && b) = false := by rw [h]; rfl
theorem and_t {a b : Bool} (h : a = true) : (a && b) = b := by rw [h]; rfl
theorem keep_at {W W1 : World} {b o : Nat} {v : Value} (h : W.cell? ⟨b, o, none⟩ = some v) (hb : Below W.heap.size W W1) : W1.cell? ⟨b, o, none⟩ = some v := (hb.cell (lt_of_cell h)).trans h
set_option maxHeartbeats 2000000 in
theorem HasClass_impl (a b : Option Addr) (cap cap2 : Nat) (cs : List BB) (is : List II) (x : ByteArray) (w : World) (h0 : tot cs + cs.length ≤ 1048577) (h1 : itot is + is.length ≤ 1048576) (hcap : cs.length ≤ cap) (hs : SP w (.slice a cs.length cap) cs) (hi : SI w (.slice b is.length cap2) is) :
    Calls Try.prog 8 #[.agg #[.slice a cs.length cap, .slice b is.length cap2], .string x] w fun e w' => e = .returned (.bool (hcB cs is x)) ∧ Below w.heap.size w w' := by
  have HS := hid hs
  have HI := hid hi
  have H0 := hid h0
  have H1 := hid h1
  clear hs hi h0 h1
  go_enter Try.func8, Try.ntmps8
  go_wp2_with fail
  have HBW : Hid (Below w.heap.size w (w.alloc (.cells #[.slice a cs.length cap, .slice b is.length cap2] 26))) := (Below.refl _ _).alloc (Nat.le_refl _) _
  have HX1 : Hid ((w.alloc (.cells #[.slice a cs.length cap, .slice b is.length cap2] 26)).heap[w.heap.size]? = some (.cells #[.slice a cs.length cap, .slice b is.length cap2] 26 (0, 0))) := heap_alloc_new _ _
  generalize w.alloc (.cells #[.slice a cs.length cap, .slice b is.length cap2] 26) = W at *
  have hzb := HBW.out.size
  have hzs := lt_of_heap HX1.out
  refine (WorldValid_impl a b cap cap2 cs is W H0.out H1.out hcap (HS.out.below HBW.out) (HI.out.below HBW.out)).mono ?_
  rintro e w1 ⟨rfl, hb⟩
  have HB1 := hid hb
  obtain ⟨p10, p11⟩ := keep2 HX1.out hb
  clear hb
  cases hv : wvB cs is with
  | false =>
    have HR : Hid (hcB cs is x = false) := and_f hv
    clear hv
    go_wp2
    go_ret
    exact ⟨ret_bool HR.out.symm, HBW.out.trans (HB1.out.mono HBW.out.size)⟩
  | true =>
    have HR : Hid (hcB cs is x = knownB cs x) := and_t hv
    clear hv
    go_wp2_with fail
    refine (known_any _ cs x w1 ((HS.out.below HBW.out).below HB1.out)).mono ?_
    rintro e w2 ⟨rfl, hb⟩
    have HB2 : Hid (Below W.heap.size W w2) := HB1.out.trans (hb.mono HB1.out.size)
    clear hb
    go_wp2
    go_ret
    exact ⟨ret_bool (by rw [HR.out]), HBW.out.trans (HB2.out.mono HBW.out.size)⟩
set_option maxHeartbeats 2000000 in
theorem HasClass_spec (a b : Option Addr) (cap cap2 : Nat) (cs : List BB) (is : List II) (x : ByteArray) (w : World) (h0 : tot cs + cs.length ≤ 1048577) (h1 : itot is + is.length ≤ 1048576) (hcap : cs.length ≤ cap) (hs : SP w (.slice a cs.length cap) cs) (hi : SI w (.slice b is.length cap2) is) :
    Calls Try.prog 9 #[.agg #[.slice a cs.length cap, .slice b is.length cap2], .string x] w fun e w' => e = .returned (.bool (hcB cs is x)) ∧ Below w.heap.size w w' := by
  have HS := hid hs
  have HI := hid hi
  have H0 := hid h0
  have H1 := hid h1
  clear hs hi h0 h1
  go_enter Try.func9, Try.ntmps9
  go_wp2_with fail
  have HBW : Hid (Below w.heap.size w (w.alloc (.cells #[.slice a cs.length cap, .slice b is.length cap2] 26))) := (Below.refl _ _).alloc (Nat.le_refl _) _
  have HX1 : Hid ((w.alloc (.cells #[.slice a cs.length cap, .slice b is.length cap2] 26)).heap[w.heap.size]? = some (.cells #[.slice a cs.length cap, .slice b is.length cap2] 26 (0, 0))) := heap_alloc_new _ _
  generalize w.alloc (.cells #[.slice a cs.length cap, .slice b is.length cap2] 26) = W at *
  have hzb := HBW.out.size
  have hzs := lt_of_heap HX1.out
  refine (WorldValid_spec a b cap cap2 cs is W H0.out H1.out hcap (HS.out.below HBW.out) (HI.out.below HBW.out)).mono ?_
  rintro e w1 ⟨rfl, hb⟩
  have HB1 := hid hb
  obtain ⟨p10, p11⟩ := keep2 HX1.out hb
  clear hb
  cases hv : wvB cs is with
  | false =>
    have HR : Hid (hcB cs is x = false) := and_f hv
    clear hv
    go_wp2
    go_ret
    exact ⟨ret_bool HR.out.symm, HBW.out.trans (HB1.out.mono HBW.out.size)⟩
  | true =>
    have HR : Hid (hcB cs is x = knownB cs x) := and_t hv
    clear hv
    go_wp2_with fail
    refine (l3Class_any a cap b is.length cap2 cs x w1 ((HS.out.below HBW.out).below HB1.out)).mono ?_
    rintro e w2 ⟨rfl, hb⟩
    have HB2 : Hid (Below W.heap.size W w2) := HB1.out.trans (hb.mono HB1.out.size)
    clear hb
    obtain ⟨ixv, hixv⟩ : ∃ v, v = idxC cs x := ⟨_, rfl⟩
    have hkx := idx_known cs x
    rw [← hixv] at hkx
    rw [← hixv]
    clear hixv
    have HK := hid hkx
    clear hkx
    go_wp2
    go_ret
    exact ⟨ret_bool (by rw [HR.out, HK.out]), HBW.out.trans (HB2.out.mono HBW.out.size)⟩
end HC
end Go.Proofs.Ytbdmdhhocncopaa
