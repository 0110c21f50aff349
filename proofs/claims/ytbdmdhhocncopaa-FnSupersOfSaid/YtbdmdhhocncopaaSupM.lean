/- The plain law of SupersOf: both sides compute what stands above a class. Conditions: the classes are those of a valid world. -/
import Derived.Lib.Hide
import Derived.Test.YtbdmdhhocncopaaHC
import Derived.Test.YtbdmdhhocncopaaListS
import Derived.Test.YtbdmdhhocncopaaReg2
import Derived.Deep.LoopGhost
set_option linter.unusedVariables false
namespace Go.Proofs.Ytbdmdhhocncopaa
namespace SupP
/-- a strictly ascending list is what its members make it -/
theorem sorted_ext : ∀ (xs ys : List UInt8), xs.Pairwise (fun a b => a.toNat < b.toNat) → ys.Pairwise (fun a b => a.toNat < b.toNat) → (∀ c, c ∈ xs ↔ c ∈ ys) → xs = ys
  | [], ys, _, _, h => by
    cases ys with
    | nil => rfl
    | cons y ys => exact absurd ((h y).2 (by simp)) (by simp)
  | x :: xs, [], _, _, h => absurd ((h x).1 (by simp)) (by simp)
  | x :: xs, y :: ys, hx, hy, h => by
    rw [List.pairwise_cons] at hx hy
    have e : x = y := by
      have h1 := (h x).1 (by simp)
      have h2 := (h y).2 (by simp)
      rw [List.mem_cons] at h1 h2
      rcases h1 with h1 | h1
      · exact h1
      · rcases h2 with h2 | h2
        · exact h2.symm
        · have a := hx.1 y h2
          have b := hy.1 x h1
          omega
    subst e
    rw [sorted_ext xs ys hx.2 hy.2 fun c => ⟨fun hc => ?_, fun hc => ?_⟩]
    · have h1 := (h c).1 (List.mem_cons_of_mem _ hc)
      rw [List.mem_cons] at h1
      rcases h1 with rfl | h1
      · exact absurd (hx.1 _ hc) (Nat.lt_irrefl _)
      · exact h1
    · have h1 := (h c).2 (List.mem_cons_of_mem _ hc)
      rw [List.mem_cons] at h1
      rcases h1 with rfl | h1
      · exact absurd (hy.1 _ hc) (Nat.lt_irrefl _)
      · exact h1

/-- classes as their letters and what stands above each -/
abbrev CS := List (UInt8 × List UInt8)
/-- the classes of a valid world: names ascend, what stands above one are names of those before it -/
def OK (cs : CS) : Prop := (cs.map (·.1)).Pairwise (fun a b => a.toNat < b.toNat) ∧ ∀ (i : Nat) (c : UInt8) (s : List UInt8), cs[i]? = some (c, s) → ∀ x ∈ s, ∃ j t, j < i ∧ cs[j]? = some (x, t)
/-- what stands above a letter -/
def sup (cs : CS) (c : UInt8) : List UInt8 := match cs.find? (fun p => p.1 == c) with | some p => p.2 | none => []
theorem name_inj {cs : CS} (h : OK cs) {i j : Nat} {c : UInt8} {s t : List UInt8} (hi : cs[i]? = some (c, s)) (hj : cs[j]? = some (c, t)) : i = j := by
  obtain ⟨li, gi⟩ := List.getElem?_eq_some_iff.1 hi
  obtain ⟨lj, gj⟩ := List.getElem?_eq_some_iff.1 hj
  rcases Nat.lt_trichotomy i j with e | e | e
  · have := (List.pairwise_iff_getElem.1 h.1) i j (by simpa using li) (by simpa using lj) e
    simp [gi, gj] at this
  · exact e
  · have := (List.pairwise_iff_getElem.1 h.1) j i (by simpa using lj) (by simpa using li) e
    simp [gi, gj] at this
theorem sup_at {cs : CS} (h : OK cs) {i : Nat} {c : UInt8} {s : List UInt8} (hi : cs[i]? = some (c, s)) : sup cs c = s := by
  unfold sup
  cases hf : cs.find? (fun p => p.1 == c) with
  | none =>
    rw [List.find?_eq_none] at hf
    exact absurd (hf _ (List.mem_of_getElem? hi)) (by simp)
  | some p =>
    obtain ⟨j, hj, hh⟩ := List.mem_iff_getElem.1 (List.mem_of_find?_eq_some hf)
    have hp := List.find?_some hf
    obtain ⟨d, t⟩ := p
    simp at hp
    subst hp
    have hj2 : cs[j]? = some (d, t) := by rw [List.getElem?_eq_getElem hj, hh]
    have := name_inj h hi hj2
    subst this
    rw [hi] at hj2; cases hj2; rfl
/-- x stands above c, through others -/
inductive Up (cs : CS) : UInt8 → UInt8 → Prop
  | one {c x} : x ∈ sup cs c → Up cs c x
  | more {c y x} : Up cs c y → x ∈ sup cs y → Up cs c x
theorem Up.index {cs : CS} (h : OK cs) {i : Nat} {c x : UInt8} {s : List UInt8} (hi : cs[i]? = some (c, s)) (u : Up cs c x) : ∃ j t, j < i ∧ cs[j]? = some (x, t) := by
  induction u with
  | one hx =>
    rw [sup_at h hi] at hx
    exact h.2 i _ s hi _ hx
  | more u hx ih =>
    obtain ⟨j, t, hj, hjt⟩ := ih
    rw [sup_at h hjt] at hx
    obtain ⟨j', t', h1, h2⟩ := h.2 j _ t hjt _ hx
    exact ⟨j', t', by omega, h2⟩

/-- the program: what it has when the classes from number i on are done, of k still to do -/
def acc (cs : CS) (c : UInt8) : Nat → List UInt8
  | 0 => []
  | k + 1 => acc cs c k ++ match cs[cs.length - (k + 1)]? with | some p => if p.1 = c ∨ p.1 ∈ acc cs c k then p.2 else [] | none => []
theorem acc_up {cs : CS} (h : OK cs) (c : UInt8) : ∀ k, ∀ x ∈ acc cs c k, Up cs c x
  | 0, x, hx => by simp [acc] at hx
  | k + 1, x, hx => by
    unfold acc at hx
    rw [List.mem_append] at hx
    rcases hx with hx | hx
    · exact acc_up h c k x hx
    · cases hp : cs[cs.length - (k + 1)]? with
      | none => rw [hp] at hx; simp at hx
      | some p =>
        obtain ⟨d, s⟩ := p
        rw [hp] at hx
        dsimp only at hx
        split at hx
        · rename_i hd
          rcases hd with rfl | hd
          · exact .one (by rw [sup_at h hp]; exact hx)
          · exact .more (acc_up h c k d hd) (by rw [sup_at h hp]; exact hx)
        · simp at hx
theorem acc_mono (cs : CS) (c : UInt8) {k m : Nat} (h : k ≤ m) : ∀ x ∈ acc cs c k, x ∈ acc cs c m := by
  induction h with
  | refl => exact fun _ h => h
  | step _ ih => intro x hx; unfold acc; exact List.mem_append_left _ (ih x hx)
theorem up_acc {cs : CS} (h : OK cs) {i : Nat} {c : UInt8} {s : List UInt8} (hi : cs[i]? = some (c, s)) {x : UInt8} (u : Up cs c x) : ∀ j t, cs[j]? = some (x, t) → x ∈ acc cs c (cs.length - (j + 1)) := by
  induction u with
  | one hx =>
    intro j t hj
    rw [sup_at h hi] at hx
    obtain ⟨j', t', h1, h2⟩ := h.2 i _ s hi _ hx
    have e := name_inj h hj h2
    subst e
    have li := (List.getElem?_eq_some_iff.1 hi).1
    refine acc_mono cs c (k := cs.length - i) (by omega) _ ?_
    rw [show cs.length - i = (cs.length - i - 1) + 1 by omega]
    unfold acc
    rw [show cs.length - (cs.length - i - 1 + 1) = i by omega, hi]
    simp [hx]
  | @more y x u hx ih =>
    intro j t hj
    obtain ⟨jy, ty, h1, h2⟩ := Up.index h hi u
    rw [sup_at h h2] at hx
    obtain ⟨j', t', h3, h4⟩ := h.2 jy _ ty h2 _ hx
    have e := name_inj h hj h4
    subst e
    have hy := ih jy ty h2
    have li := (List.getElem?_eq_some_iff.1 h2).1
    refine acc_mono cs c (k := cs.length - jy) (by omega) _ ?_
    rw [show cs.length - jy = (cs.length - (jy + 1)) + 1 by omega]
    unfold acc
    rw [show cs.length - (cs.length - (jy + 1) + 1) = jy by omega, h2]
    simp [hx, hy]
/-- what the program returns -/
def impl (cs : CS) (c : UInt8) : List UInt8 := (cs.map (·.1)).filter (fun x => (acc cs c cs.length).contains x)
theorem impl_mem {cs : CS} (h : OK cs) {i : Nat} {c : UInt8} {s : List UInt8} (hi : cs[i]? = some (c, s)) (x : UInt8) : x ∈ impl cs c ↔ Up cs c x := by
  unfold impl
  rw [List.mem_filter]
  constructor
  · rintro ⟨_, hx⟩
    exact acc_up h c _ x (by simpa using hx)
  · intro u
    obtain ⟨j, t, h1, h2⟩ := Up.index h hi u
    exact ⟨List.mem_map.2 ⟨_, List.mem_of_getElem? h2, rfl⟩, by simpa using acc_mono cs c (by omega) _ (up_acc h hi u j t h2)⟩
/-- the letters of classes -/
def caps : List UInt8 := [65, 66, 67, 68, 69, 70, 71, 72, 73, 74, 75, 76, 77, 78, 79, 80, 81, 82, 83, 84]
/-- what l3Sorted returns -/
def sortL (s : List UInt8) : List UInt8 := caps.filter (fun c => s.contains c)
/-- the reference: what it has behind k rounds -/
def rnd (cs : CS) (c : UInt8) : Nat → List UInt8
  | 0 => sup cs c
  | k + 1 => sortL (rnd cs c k ++ ((rnd cs c k).map (sup cs)).flatten)
theorem sort_mem {cs : CS} (hc : ∀ p ∈ cs, p.1 ∈ caps) (s : List UInt8) (hs : ∀ x ∈ s, ∃ (j : Nat) (t : List UInt8), cs[j]? = some (x, t)) (x : UInt8) : x ∈ sortL s ↔ x ∈ s := by
  unfold sortL
  rw [List.mem_filter]
  constructor
  · rintro ⟨_, hx⟩; simpa using hx
  · intro hx
    obtain ⟨j, t, hj⟩ := hs x hx
    exact ⟨hc _ (List.mem_of_getElem? hj), by simpa using hx⟩
theorem rnd_up {cs : CS} (h : OK cs) (c : UInt8) : ∀ k, ∀ x ∈ rnd cs c k, Up cs c x
  | 0, x, hx => .one hx
  | k + 1, x, hx => by
    have hx : x ∈ rnd cs c k ++ ((rnd cs c k).map (sup cs)).flatten := by
      unfold rnd sortL at hx
      simpa using (List.mem_filter.1 hx).2
    rw [List.mem_append] at hx
    rcases hx with hx | hx
    · exact rnd_up h c k x hx
    · rw [List.mem_flatten] at hx
      obtain ⟨l, hl, hx⟩ := hx
      obtain ⟨y, hy, rfl⟩ := List.mem_map.1 hl
      exact .more (rnd_up h c k y hy) hx
theorem rnd_step {cs : CS} (h : OK cs) (hc : ∀ p ∈ cs, p.1 ∈ caps) {i : Nat} {c : UInt8} {s : List UInt8} (hi : cs[i]? = some (c, s)) (k : Nat) (x : UInt8) : x ∈ rnd cs c (k + 1) ↔ x ∈ rnd cs c k ∨ ∃ y ∈ rnd cs c k, x ∈ sup cs y := by
  show x ∈ sortL _ ↔ _
  rw [sort_mem hc]
  · rw [List.mem_append, List.mem_flatten]
    constructor
    · rintro (hx | ⟨l, hl, hx⟩)
      · exact .inl hx
      · obtain ⟨y, hy, rfl⟩ := List.mem_map.1 hl
        exact .inr ⟨y, hy, hx⟩
    · rintro (hx | ⟨y, hy, hx⟩)
      · exact .inl hx
      · exact .inr ⟨_, List.mem_map.2 ⟨y, hy, rfl⟩, hx⟩
  · intro x hx
    have u : Up cs c x := by
      rw [List.mem_append] at hx
      rcases hx with hx | hx
      · exact rnd_up h c k x hx
      · rw [List.mem_flatten] at hx
        obtain ⟨l, hl, hx⟩ := hx
        obtain ⟨y, hy, rfl⟩ := List.mem_map.1 hl
        exact .more (rnd_up h c k y hy) hx
    obtain ⟨j, t, _, h2⟩ := Up.index h hi u
    exact ⟨j, t, h2⟩
theorem rnd_mono {cs : CS} (h : OK cs) (hc : ∀ p ∈ cs, p.1 ∈ caps) {i : Nat} {c : UInt8} {s : List UInt8} (hi : cs[i]? = some (c, s)) {k m : Nat} (hk : k ≤ m) : ∀ x ∈ rnd cs c k, x ∈ rnd cs c m := by
  induction hk with
  | refl => exact fun _ h => h
  | step _ ih => intro x hx; exact (rnd_step h hc hi _ x).2 (.inl (ih x hx))
theorem up_rnd {cs : CS} (h : OK cs) (hc : ∀ p ∈ cs, p.1 ∈ caps) {i : Nat} {c : UInt8} {s : List UInt8} (hi : cs[i]? = some (c, s)) {x : UInt8} (u : Up cs c x) : ∀ j t, cs[j]? = some (x, t) → x ∈ rnd cs c (i - j - 1) := by
  induction u with
  | one hx => intro j t hj; exact rnd_mono h hc hi (Nat.zero_le _) _ hx
  | @more y x u hx ih =>
    intro j t hj
    obtain ⟨jy, ty, h1, h2⟩ := Up.index h hi u
    have hy := ih jy ty h2
    have hx2 := hx
    rw [sup_at h h2] at hx2
    obtain ⟨j', t', h3, h4⟩ := h.2 jy _ ty h2 _ hx2
    have e := name_inj h hj h4
    subst e
    exact rnd_mono h hc hi (k := i - jy - 1 + 1) (by omega) _ ((rnd_step h hc hi _ x).2 (.inr ⟨y, hy, hx⟩))
theorem caps_sorted : caps.Pairwise (fun a b => a.toNat < b.toNat) := by decide
/-- both return the same -/
theorem same {cs : CS} (h : OK cs) (hc : ∀ p ∈ cs, p.1 ∈ caps) {i : Nat} {c : UInt8} {s : List UInt8} (hi : cs[i]? = some (c, s)) : rnd cs c cs.length = impl cs c := by
  have li := (List.getElem?_eq_some_iff.1 hi).1
  apply sorted_ext
  · rw [show cs.length = (cs.length - 1) + 1 by omega]
    exact caps_sorted.filter _
  · exact h.1.filter _
  · intro x
    rw [impl_mem h hi]
    constructor
    · exact rnd_up h c _ x
    · intro u
      obtain ⟨j, t, h1, h2⟩ := Up.index h hi u
      exact rnd_mono h hc hi (by omega) _ (up_rnd h hc hi u j t h2)
end SupP
end Go.Proofs.Ytbdmdhhocncopaa
set_option linter.unusedVariables false
set_option linter.unusedSimpArgs false
set_option maxRecDepth 100000
namespace Go.Proofs.Ytbdmdhhocncopaa
open Go.RowKit Known Classes Ty IV
namespace Sup
theorem caps_at (k : Nat) (h : k < 20) : ∃ c : UInt8, SupP.caps[k]? = some c ∧ (c.toNat : Int) = 65 + (k : Int) := by
  have : ∀ k : Fin 20, (SupP.caps[k.1]?).map (·.toNat) = some (65 + k.1) := by decide
  have h1 := this ⟨k, h⟩
  dsimp only at h1
  cases hc : SupP.caps[k]? with
  | none => rw [hc] at h1; simp at h1
  | some c => rw [hc] at h1; simp at h1; exact ⟨c, rfl, by omega⟩
theorem sort_take (s : List UInt8) (k : Nat) (c : UInt8) (h : SupP.caps[k]? = some c) : (SupP.caps.take (k + 1)).filter (fun c => s.contains c) = (SupP.caps.take k).filter (fun c => s.contains c) ++ if s.contains c then [c] else [] := by
  obtain ⟨hl, hg⟩ := List.getElem?_eq_some_iff.1 h
  rw [filter_take_succ _ _ _ hl, hg]
set_option maxHeartbeats 2000000 in
theorem l3Sorted_any (l : List UInt8) (w : World) (hl : l.length ≤ 1048576) :
    Calls Try.prog 21 #[.string ⟨l.toArray⟩] w fun e w' => e = .returned (.string ⟨(SupP.sortL l).toArray⟩) ∧ Below w.heap.size w w' := by
  go_enter Try.func21, Try.ntmps21
  go_wp2_with fail
  go_loopg [3, 4] 20 (fun q o i wr => ∃ (k : Nat) (acc : List UInt8), k ≤ 20 ∧ 20 - k ≤ q ∧ o = .string ⟨acc.toArray⟩ ∧ i = .int .i32 (65 + k) ∧ acc.length ≤ 20 ∧ Hid (acc = (SupP.caps.take k).filter (fun c => l.contains c)) ∧ Below w.heap.size w wr)
  case atStart => exact ⟨0, [], by omega, by omega, rfl, rfl, by simp, rfl, Below.refl _ _⟩
  case round =>
    obtain ⟨k, acc, hk, hq, rfl, rfl, hal, hacc, hb⟩ := hrel
    have HB := hid hb
    have hbz := hb.size
    clear hb
    by_cases hlt : k < 20
    · obtain ⟨c, hc, hcn⟩ := caps_at k hlt
      have HST := hid (sort_take l k c hc)
      have hlen : ((SupP.caps.take (k + 1)).filter (fun c => l.contains c)).length ≤ 20 := Nat.le_trans (List.length_filter_le _ _) (by rw [List.length_take]; show _ ≤ 20; omega)
      obtain ⟨ix, hix⟩ : ∃ ix, ix = Lib.indexByte l c := ⟨_, rfl⟩
      have hcon := Lib.contains_iff_indexByte l c
      rw [← hix] at hcon
      have HIX := hid hix
      have HCN := hid hcn
      have hw8 : IntKind.u8.wrap (65 + (k : Int)) = 65 + (k : Int) := by unfold IntKind.wrap; simp [IntKind.signed, IntKind.bits]; omega
      have hw32 : IntKind.i32.wrap (65 + (k : Int) + 1) = 65 + (k : Int) + 1 := by unfold IntKind.wrap; simp [IntKind.signed, IntKind.bits]; omega
      have hcv := fun W => ListS.run_byte (P := Try.prog) W 22 9 5 Try.underlying22 Try.underlying5 Try.underlying9 c (65 + (k : Int)) HCN.out.symm
      clear hc hix hcn
      cases hb2 : l.contains c with
      | false =>
        have HR : Hid (acc = (SupP.caps.take (k + 1)).filter (fun c => l.contains c)) := by
          show _ = _
          have h := HST.out
          rw [hb2] at h
          rw [h, ← hacc.out]; simp
        rw [hb2] at hcon
        have hneg : ix < 0 := by simpa using hcon.symm
        clear hcon hb2 hacc
        go_wp2_with fail
        have hfd := l13Find ⟨l.toArray⟩ c wr (by unfold maxLen; simp [ByteArray.size]; omega)
        rw [HCN.out] at hfd
        refine hfd.mono ?_
        clear hfd
        rintro e w' ⟨rfl, rfl⟩
        rw [show Lib.indexByte (ByteArray.mk l.toArray).data.toList c = ix from HIX.out.symm]
        go_wp2_with fail
        go_roundg (20 - (k + 1))
        case measure => omega
        case rel => exact ⟨k + 1, acc, by omega, by omega, rfl, by go_num, hal, HR.out, HB.out⟩
      | true =>
        have HR : Hid (acc ++ [c] = (SupP.caps.take (k + 1)).filter (fun c => l.contains c)) := by
          show _ = _
          have h := HST.out
          rw [hb2] at h
          rw [h, ← hacc.out]; simp
        have hal2 : (acc ++ [c]).length ≤ 20 := by have := HR.out; rw [this]; exact hlen
        rw [hb2] at hcon
        have hneg : 0 ≤ ix := by simpa using hcon.symm
        clear hcon hb2 hacc hlen
        go_wp2_with fail
        have hfd := l13Find ⟨l.toArray⟩ c wr (by unfold maxLen; simp [ByteArray.size]; omega)
        rw [HCN.out] at hfd
        refine hfd.mono ?_
        clear hfd
        rintro e w' ⟨rfl, rfl⟩
        rw [show Lib.indexByte (ByteArray.mk l.toArray).data.toList c = ix from HIX.out.symm]
        go_wp2_with fail
        rw [app_lists]
        go_roundg (20 - (k + 1))
        case measure => omega
        case rel => exact ⟨k + 1, acc ++ [c], by omega, by omega, rfl, by go_num, hal2, HR.out, HB.out.alloc (by omega) _⟩
    · have hke : k = 20 := by omega
      have HR : Hid (acc = SupP.sortL l) := by
        show _ = _
        rw [hacc.out, hke]; rfl
      clear hacc
      subst hke
      go_wp2_with fail
      go_ret
      exact ⟨by rw [← HR.out]; rfl, HB.out⟩
end Sup
end Go.Proofs.Ytbdmdhhocncopaa
set_option linter.unusedVariables false
set_option linter.unusedSimpArgs false
set_option maxRecDepth 100000
namespace Go.Proofs.Ytbdmdhhocncopaa
open Go.RowKit Known Classes Ty IV
open WV HC
namespace Sup
/-- the classes' letters and what stands above each -/
def cl (p : BB) : UInt8 × List UInt8 := (p.1.data.toList.headD 0, p.2.data.toList)
def tc (cs : List BB) : SupP.CS := cs.map cl
theorem tc_at {cs : List BB} {i : Nat} {c : UInt8} {s : List UInt8} (h : cs[i]? = some (⟨#[c]⟩, ⟨s.toArray⟩)) : (tc cs)[i]? = some (c, s) := by
  unfold tc; rw [List.getElem?_map, h]; rfl
theorem tc_len (cs : List BB) : (tc cs).length = cs.length := by simp [tc]
theorem tc_get {cs : List BB} (hg : ∀ i, i < cs.length → goodC cs i) {i : Nat} {c : UInt8} {s : List UInt8} (h : (tc cs)[i]? = some (c, s)) : cs[i]? = some (⟨#[c]⟩, ⟨s.toArray⟩) := by
  have hi : i < cs.length := by have := (List.getElem?_eq_some_iff.1 h).1; rwa [tc_len] at this
  obtain ⟨d, t, hd, _⟩ := hg i hi
  have := tc_at hd
  rw [h] at this
  cases this
  exact hd
theorem known_at {cs : List BB} (hg : ∀ i, i < cs.length → goodC cs i) {n : Nat} {x : ByteArray} (h : knownB (cs.take n) x = true) : ∃ (j : Nat) (c : UInt8) (s : List UInt8), j < n ∧ x = ⟨#[c]⟩ ∧ cs[j]? = some (⟨#[c]⟩, ⟨s.toArray⟩) := by
  unfold knownB at h
  rw [List.any_eq_true] at h
  obtain ⟨p, hp, he⟩ := h
  obtain ⟨j, hj, hh⟩ := List.mem_iff_getElem.1 hp
  have he : p.1 = x := by simpa using he
  rw [List.length_take] at hj
  have hj2 : j < cs.length := by omega
  obtain ⟨d, t, hd, _⟩ := hg j hj2
  rw [List.getElem_take] at hh
  have : cs[j]? = some p := by rw [List.getElem?_eq_getElem hj2, hh]
  rw [hd] at this
  cases this
  exact ⟨j, d, t, by omega, he.symm, hd⟩
theorem ok_names {cs : List BB} (hg : ∀ i, i < cs.length → goodC cs i) : ∀ (i j : Nat) (c d : UInt8) (s t : List UInt8), i < j → (tc cs)[i]? = some (c, s) → (tc cs)[j]? = some (d, t) → c.toNat < d.toNat := by
  intro i j
  induction j with
  | zero => intro c d s t h; omega
  | succ j ih =>
    intro c d s t hij hi hj
    have hj' := tc_get hg hj
    obtain ⟨d', t', h1, _, h2, _⟩ := hg (j + 1) (List.getElem?_eq_some_iff.1 hj').1
    rw [hj'] at h1
    obtain rfl : d = d' := by simpa using congrArg (·.map (·.1.data.toList)) h1
    obtain ⟨e, z, he, hlt⟩ := h2 j rfl
    by_cases hij2 : i = j
    · subst hij2
      have := tc_get hg hi
      rw [he] at this
      obtain rfl : e = c := by simpa using congrArg (·.map (·.1.data.toList)) this
      exact hlt
    · have hz : z = ⟨z.data.toList.toArray⟩ := rfl
      rw [hz] at he
      have := ih c e s _ (by omega) hi (tc_at he)
      omega
theorem ok_of {cs : List BB} (hg : ∀ i, i < cs.length → goodC cs i) : SupP.OK (tc cs) := by
  refine ⟨?_, ?_⟩
  · rw [List.pairwise_iff_getElem]
    intro i j hi hj hij
    simp only [List.length_map] at hi hj
    have e1 : (tc cs)[i]? = some (((tc cs)[i]).1, ((tc cs)[i]).2) := List.getElem?_eq_getElem hi
    have e2 : (tc cs)[j]? = some (((tc cs)[j]).1, ((tc cs)[j]).2) := List.getElem?_eq_getElem hj
    simpa using ok_names hg i j _ _ _ _ hij e1 e2
  · intro i c s hi x hx
    have hi' := tc_get hg hi
    obtain ⟨d, t, h1, _, _, h2⟩ := hg i (List.getElem?_eq_some_iff.1 hi').1
    rw [hi'] at h1
    have hst : s = t := by simpa using congrArg (·.map (·.2.data.toList)) h1
    subst hst
    obtain ⟨k, hk, hkx⟩ := List.mem_iff_getElem.1 hx
    obtain ⟨e, he, hkn, _⟩ := h2 k hk
    rw [List.getElem?_eq_getElem hk, hkx] at he
    cases he
    obtain ⟨j, c', s', hj, hxe, hcs⟩ := known_at hg hkn
    have := one_inj hxe
    subst this
    exact ⟨j, s', hj, tc_at hcs⟩
theorem caps_mem {c : UInt8} (h : isCap c = true) : c ∈ SupP.caps := by
  have h1 : 65 ≤ c.toNat ∧ c.toNat ≤ 84 := by unfold isCap at h; simpa using h
  obtain ⟨d, hd, hn⟩ := caps_at (c.toNat - 65) (by omega)
  have : d = c := by apply UInt8.toNat_inj.1; omega
  subst this
  exact List.mem_of_getElem? hd
theorem ok_caps {cs : List BB} (hg : ∀ i, i < cs.length → goodC cs i) : ∀ p ∈ tc cs, p.1 ∈ SupP.caps := by
  intro p hp
  obtain ⟨i, hi, hh⟩ := List.mem_iff_getElem.1 hp
  rw [tc_len] at hi
  obtain ⟨d, t, h1, h2, _⟩ := hg i hi
  have := tc_at h1
  rw [List.getElem?_eq_getElem (by rw [tc_len]; exact hi), hh] at this
  cases this
  exact caps_mem h2
/-- what stands above a class is short -/
theorem sup_short {cs : List BB} (hg : ∀ i, i < cs.length → goodC cs i) {i : Nat} {c : UInt8} {s : List UInt8} (h : (tc cs)[i]? = some (c, s)) : s.length ≤ 20 := by
  have hi' := tc_get hg h
  obtain ⟨d, t, h1, _, _, h2⟩ := hg i (List.getElem?_eq_some_iff.1 hi').1
  rw [hi'] at h1
  have hst : s = t := by simpa using congrArg (·.map (·.2.data.toList)) h1
  subst hst
  have hord : ∀ j k (hj : j < s.length) (hk : k < s.length), j < k → s[j].toNat < s[k].toNat := by
    intro j k
    induction k with
    | zero => intro _ _ h; omega
    | succ k ih =>
      intro hj hk hjk
      obtain ⟨e, he, _, h3⟩ := h2 (k + 1) hk
      rw [List.getElem?_eq_getElem hk] at he
      cases he
      have h4 := h3 k (s[k]'(by omega)) rfl (List.getElem?_eq_getElem (by omega))
      by_cases e : j = k
      · subst e; exact h4
      · have := ih hj (by omega) (by omega); omega
  have hs : s = SupP.caps.filter (fun c => s.contains c) := by
    apply SupP.sorted_ext
    · rw [List.pairwise_iff_getElem]
      intro j k hj hk hjk
      exact hord j k hj hk hjk
    · exact SupP.caps_sorted.filter _
    · intro x
      rw [List.mem_filter]
      constructor
      · intro hx
        obtain ⟨j, t, _, hj⟩ := (ok_of hg).2 i c s h x hx
        exact ⟨ok_caps hg _ (List.mem_of_getElem? hj), by simpa using hx⟩
      · rintro ⟨_, hx⟩; simpa using hx
  rw [hs]
  exact Nat.le_trans (List.length_filter_le _ _) (by decide)
theorem supC_short {cs : List BB} (hg : ∀ i, i < cs.length → goodC cs i) (c : UInt8) : (SupP.sup (tc cs) c).length ≤ 20 := by
  unfold SupP.sup
  cases hf : (tc cs).find? (fun p => p.1 == c) with
  | none => simp
  | some p =>
    obtain ⟨i, hi, hh⟩ := List.mem_iff_getElem.1 (List.mem_of_find?_eq_some hf)
    exact sup_short hg (i := i) (c := p.1) (s := p.2) (by rw [List.getElem?_eq_getElem hi, hh])
theorem rnd_short {cs : List BB} (hg : ∀ i, i < cs.length → goodC cs i) (c : UInt8) : ∀ k, (SupP.rnd (tc cs) c k).length ≤ 20
  | 0 => supC_short hg c
  | k + 1 => Nat.le_trans (List.length_filter_le _ _) (by decide)
theorem flat_short {cs : List BB} (hg : ∀ i, i < cs.length → goodC cs i) : ∀ l : List UInt8, ((l.map (SupP.sup (tc cs))).flatten).length ≤ 20 * l.length
  | [] => by simp
  | c :: l => by
    have h1 := flat_short hg l
    have h2 := supC_short hg c
    simp only [List.map_cons, List.flatten_cons, List.length_append, List.length_cons]
    omega
theorem acc_short {cs : List BB} (hg : ∀ i, i < cs.length → goodC cs i) (c : UInt8) : ∀ k, (SupP.acc (tc cs) c k).length ≤ 20 * k
  | 0 => by simp [SupP.acc]
  | k + 1 => by
    have h1 := acc_short hg c k
    unfold SupP.acc
    rw [List.length_append]
    split
    · rename_i p hp
      have h2 := sup_short hg (i := _) (c := p.1) (s := p.2) hp
      split
      · omega
      · simp; omega
    · simp; omega
/-- what SupersOf returns -/
noncomputable def supB (cs : List BB) (is : List II) (x : ByteArray) : ByteArray := if hcB cs is x then ⟨(SupP.impl (tc cs) (x.data.toList.headD 0)).toArray⟩ else ⟨#[]⟩
theorem supB_no {cs : List BB} {is : List II} {x : ByteArray} (h : hcB cs is x = false) : supB cs is x = ⟨#[]⟩ := by unfold supB; rw [h]; rfl
theorem supB_yes {cs : List BB} {is : List II} {c : UInt8} (h : hcB cs is ⟨#[c]⟩ = true) : supB cs is ⟨#[c]⟩ = ⟨(SupP.impl (tc cs) c).toArray⟩ := by unfold supB; rw [h]; rfl
theorem hc_good {cs : List BB} {is : List II} {x : ByteArray} (h : hcB cs is x = true) : (∀ i, i < cs.length → goodC cs i) ∧ 1 ≤ cs.length ∧ cs.length ≤ 4 ∧ knownB cs x = true := by
  unfold hcB wvB at h
  simp only [Bool.and_eq_true] at h
  obtain ⟨h1, h2, h3⟩ := clB_good h.1.1
  exact ⟨h1, h2, h3, h.2⟩
theorem acc_in {T : SupP.CS} {c d : UInt8} {k m : Nat} {s : List UInt8} (hm : T.length = m + (k + 1)) (h : T[m]? = some (d, s)) (hin : d = c ∨ d ∈ SupP.acc T c k) : SupP.acc T c (k + 1) = SupP.acc T c k ++ s := by
  show SupP.acc T c k ++ _ = _
  rw [show T.length - (k + 1) = m by omega, h]
  dsimp only
  rw [if_pos hin]
theorem acc_out {T : SupP.CS} {c d : UInt8} {k m : Nat} {s : List UInt8} (hm : T.length = m + (k + 1)) (h : T[m]? = some (d, s)) (h1 : d ≠ c) (h2 : d ∉ SupP.acc T c k) : SupP.acc T c (k + 1) = SupP.acc T c k := by
  show SupP.acc T c k ++ _ = _
  rw [show T.length - (k + 1) = m by omega, h]
  dsimp only
  rw [if_neg (by rintro (h | h) <;> contradiction)]
  simp
/-- the program's second loop -/
def outI (T : SupP.CS) (c : UInt8) (k : Nat) : List UInt8 := ((T.take k).map (·.1)).filter (fun x => (SupP.acc T c T.length).contains x)
theorem outI_all (T : SupP.CS) (c : UInt8) : outI T c T.length = SupP.impl T c := by unfold outI SupP.impl; rw [List.take_length]
theorem outI_step {T : SupP.CS} {c d : UInt8} {k : Nat} {s : List UInt8} (h : T[k]? = some (d, s)) : outI T c (k + 1) = outI T c k ++ if (SupP.acc T c T.length).contains d then [d] else [] := by
  obtain ⟨hl, hg⟩ := List.getElem?_eq_some_iff.1 h
  unfold outI
  rw [List.take_succ_eq_append_getElem hl, hg, List.map_append, List.filter_append]
  congr 1
  simp only [List.map_cons, List.map_nil, List.filter_cons, List.filter_nil]
theorem outI_len (T : SupP.CS) (c : UInt8) (k : Nat) : (outI T c k).length ≤ T.length := by
  unfold outI
  refine Nat.le_trans (List.length_filter_le _ _) ?_
  rw [List.length_map, List.length_take]; omega
theorem app_ba (a b : List UInt8) : (ByteArray.mk a.toArray) ++ (ByteArray.mk b.toArray) = ⟨(a ++ b).toArray⟩ := by apply ByteArray.ext; simp [ByteArray.data_append]
theorem str1_eq {c d : UInt8} (h : d = c) : ((ByteArray.mk #[d]).toList == (ByteArray.mk #[c]).toList) = true := by rw [h]; simp
theorem str1_ne {c d : UInt8} (h : d ≠ c) : ((ByteArray.mk #[d]).toList == (ByteArray.mk #[c]).toList) = false := str_ne (fun e => h (one_inj e))
set_option maxHeartbeats 8000000 in
theorem SupersOf_impl (a b : Option Addr) (cap cap2 : Nat) (cs : List BB) (is : List II) (x : ByteArray) (w : World) (h0 : tot cs + cs.length ≤ 1048577) (h1 : itot is + is.length ≤ 1048576) (hcap : cs.length ≤ cap) (hs : SP w (.slice a cs.length cap) cs) (hi : SI w (.slice b is.length cap2) is) :
    Calls Try.prog 6 #[.agg #[.slice a cs.length cap, .slice b is.length cap2], .string x] w fun e w' => e = .returned (.string (supB cs is x)) ∧ Below w.heap.size w w' := by
  have HS := hid hs
  have HI := hid hi
  have H0 := hid h0
  have H1 := hid h1
  clear hs hi h0 h1
  go_enter Try.func6, Try.ntmps6
  go_wp2_with fail
  have HBW : Hid (Below w.heap.size w (w.alloc (.cells #[.slice a cs.length cap, .slice b is.length cap2] 26))) := (Below.refl _ _).alloc (Nat.le_refl _) _
  have HX1 : Hid ((w.alloc (.cells #[.slice a cs.length cap, .slice b is.length cap2] 26)).heap[w.heap.size]? = some (.cells #[.slice a cs.length cap, .slice b is.length cap2] 26 (0, 0))) := heap_alloc_new _ _
  generalize w.alloc (.cells #[.slice a cs.length cap, .slice b is.length cap2] 26) = W at *
  have hzb := HBW.out.size
  have hzs := lt_of_heap HX1.out
  refine (HasClass_impl a b cap cap2 cs is x W H0.out H1.out hcap (HS.out.below HBW.out) (HI.out.below HBW.out)).mono ?_
  rintro e w1 ⟨rfl, hb⟩
  have HB1 := hid hb
  obtain ⟨p10, p11⟩ := keep2 HX1.out hb
  have hz1 := hb.size
  clear hb
  cases hv : hcB cs is x with
  | false =>
    have HR : Hid (supB cs is x = ⟨#[]⟩) := supB_no hv
    clear hv
    go_wp2
    go_ret
    exact ⟨ret_string HR.out.symm, HBW.out.trans (HB1.out.mono HBW.out.size)⟩
  | true =>
    obtain ⟨hg, hl1, hl4, hkn⟩ := hc_good hv
    obtain ⟨i0, c, s0, hi0, hxe, hcs⟩ := known_at (n := cs.length) hg (by rw [List.take_length]; exact hkn)
    subst hxe
    have HR : Hid (supB cs is ⟨#[c]⟩ = ⟨(SupP.impl (tc cs) c).toArray⟩) := supB_yes hv
    have HG := hid hg
    have HOK := hid (ok_of hg)
    have HCS := hid hcs
    have HTL := hid (tc_len cs)
    clear hv hg hkn hcs
    go_wp2_with fail
    clear p10 p11
    go_loopg [5, 6] cs.length (fun q o i wr => ∃ (k : Nat) (j : Int), k ≤ cs.length ∧ cs.length - k ≤ q ∧ j + k + 1 ≤ cs.length ∧ cs.length ≤ j + k + 1 ∧ o = .string ⟨(SupP.acc (tc cs) c k).toArray⟩ ∧ i = .int .i64 j ∧ (SupP.acc (tc cs) c k).length ≤ 80 ∧ Below W.heap.size W wr)
    case atStart => exact ⟨0, (cs.length : Int) - 1, Nat.zero_le _, by simp, by omega, by omega, rfl, rfl, by simp [SupP.acc], HB1.out⟩
    case round =>
      obtain ⟨k, j, hk, hq, hj1, hj2, rfl, rfl, hal, hb⟩ := hrel
      have HB := hid hb
      have hbz := hb.size
      clear hb
      by_cases hlt0 : k < cs.length
      · obtain ⟨m, rfl⟩ : ∃ m : Nat, j = m := ⟨j.toNat, by omega⟩
        have hlt : m < cs.length := by omega
        have hla := acc_short HG.out c (k + 1)
        obtain ⟨⟨y, z⟩, hp⟩ : ∃ p, cs[m]? = some p := ⟨_, List.getElem?_eq_getElem hlt⟩
        obtain ⟨b2, off, rfl, k0, k1, z0, z1, hbl⟩ := sp_at ((HS.out.below HBW.out).below HB.out) hp
        obtain ⟨d, s, hds, -⟩ := HG.out m hlt
        rw [hp] at hds
        cases hds
        have HP := hid hp
        have HTM := hid (tc_at hp)
        have hsl := sup_short HG.out (tc_at hp)
        clear hp z0 z1
        obtain ⟨p10, p11⟩ := keep2 HX1.out HB.out
        have hlt1 : w.heap.size < wr.heap.size := by omega
        by_cases hdc : d = c
        · have he : (d == c) = true := by simpa using hdc
          have HA : Hid (SupP.acc (tc cs) c (k + 1) = SupP.acc (tc cs) c k ++ s) := acc_in (m := m) (by rw [HTL.out]; omega) HTM.out (.inl hdc)
          have hla2 : (SupP.acc (tc cs) c k ++ s).length ≤ 80 := by rw [← HA.out]; omega
          clear hla hdc
          go_wp2_with fail
          rw [app_ba]
          go_roundg (cs.length - (k + 1))
          case measure => omega
          case rel => exact ⟨k + 1, (m : Int) - 1, by omega, by omega, by omega, by omega, by rw [HA.out], rfl, by rw [HA.out]; exact hla2, HB.out.alloc (by omega) _⟩
        · have he : (d == c) = false := by simpa using hdc
          cases hin : (SupP.acc (tc cs) c k).contains d with
          | true =>
            have HIN := hid hin
            have HA : Hid (SupP.acc (tc cs) c (k + 1) = SupP.acc (tc cs) c k ++ s) := acc_in (m := m) (by rw [HTL.out]; omega) HTM.out (.inr (by simpa using hin))
            have hla2 : (SupP.acc (tc cs) c k ++ s).length ≤ 80 := by rw [← HA.out]; omega
            clear hla hdc hin
            go_wp2_with (go_at_call 19; refine (sContains ⟨(SupP.acc (tc cs) c k).toArray⟩ d _).mono ?_; rintro e w' ⟨rfl, rfl⟩; rw [show (ByteArray.mk (SupP.acc (tc cs) c k).toArray).data.toList.contains d = true from HIN.out])
            rw [app_ba]
            go_roundg (cs.length - (k + 1))
            case measure => omega
            case rel => exact ⟨k + 1, (m : Int) - 1, by omega, by omega, by omega, by omega, by rw [HA.out], rfl, by rw [HA.out]; exact hla2, HB.out.alloc (by omega) _⟩
          | false =>
            have HIN := hid hin
            have HA : Hid (SupP.acc (tc cs) c (k + 1) = SupP.acc (tc cs) c k) := acc_out (m := m) (by rw [HTL.out]; omega) HTM.out hdc (by simpa using hin)
            clear hla hdc hin
            go_wp2_with (go_at_call 19; refine (sContains ⟨(SupP.acc (tc cs) c k).toArray⟩ d _).mono ?_; rintro e w' ⟨rfl, rfl⟩; rw [show (ByteArray.mk (SupP.acc (tc cs) c k).toArray).data.toList.contains d = false from HIN.out])
            go_roundg (cs.length - (k + 1))
            case measure => omega
            case rel => exact ⟨k + 1, (m : Int) - 1, by omega, by omega, by omega, by omega, by rw [HA.out], rfl, by rw [HA.out]; exact hal, HB.out.alloc (by omega) _⟩
      · have hke : k = cs.length := by omega
        subst hke
        have hneg : j < 0 := by omega
        have HAL : Hid (SupP.acc (tc cs) c cs.length = SupP.acc (tc cs) c (tc cs).length) := by show _ = _; rw [HTL.out]
        rw [HAL.out] at hal ⊢
        have HBL := HB
        obtain ⟨p10, p11⟩ := keep2 HX1.out HB.out
        go_wp2_with fail
        clear p10 p11 hbz hj1 hj2 hneg hq hlt0
        go_loopg [8, 45] cs.length (fun q o i wr => ∃ (k : Nat), k ≤ cs.length ∧ cs.length - k ≤ q ∧ o = .string ⟨(outI (tc cs) c k).toArray⟩ ∧ i = .int .i64 k ∧ Below W.heap.size W wr)
        case atStart => exact ⟨0, Nat.zero_le _, by simp, rfl, rfl, HBL.out⟩
        case round =>
          obtain ⟨k, hk, hq, rfl, rfl, hb⟩ := hrel
          have HB := hid hb
          have hbz := hb.size
          clear hb
          have hol := outI_len (tc cs) c k
          rw [HTL.out] at hol
          by_cases hlt : k < cs.length
          · obtain ⟨⟨y, z⟩, hp⟩ : ∃ p, cs[k]? = some p := ⟨_, List.getElem?_eq_getElem hlt⟩
            obtain ⟨b2, off, rfl, k0, k1, z0, z1, hbl⟩ := sp_at ((HS.out.below HBW.out).below HB.out) hp
            obtain ⟨d, s, hds, -⟩ := HG.out k hlt
            rw [hp] at hds
            cases hds
            have HP := hid hp
            have HTM := hid (tc_at hp)
            have hsl := sup_short HG.out (tc_at hp)
            clear hp z0 z1
            obtain ⟨p10, p11⟩ := keep2 HX1.out HB.out
            have hlt1 : w.heap.size < wr.heap.size := by omega
            have HOS := hid (outI_step (c := c) HTM.out)
            cases hin : (SupP.acc (tc cs) c (tc cs).length).contains d with
            | true =>
              have HIN := hid hin
              have HO : Hid (outI (tc cs) c (k + 1) = outI (tc cs) c k ++ [d]) := by
                show _ = _
                rw [HOS.out, hin]; rfl
              clear hin
              go_wp2_with (go_at_call 19; refine (sContains ⟨(SupP.acc (tc cs) c (tc cs).length).toArray⟩ d _).mono ?_; rintro e w' ⟨rfl, rfl⟩; rw [show (ByteArray.mk (SupP.acc (tc cs) c (tc cs).length).toArray).data.toList.contains d = true from HIN.out])
              rw [app_lists]
              go_roundg (cs.length - (k + 1))
              case measure => omega
              case rel => exact ⟨k + 1, by omega, by omega, by rw [HO.out], by go_num, HB.out.alloc (by omega) _⟩
            | false =>
              have HIN := hid hin
              have HO : Hid (outI (tc cs) c (k + 1) = outI (tc cs) c k) := by
                show _ = _
                rw [HOS.out, hin]; simp
              clear hin
              go_wp2_with (go_at_call 19; refine (sContains ⟨(SupP.acc (tc cs) c (tc cs).length).toArray⟩ d _).mono ?_; rintro e w' ⟨rfl, rfl⟩; rw [show (ByteArray.mk (SupP.acc (tc cs) c (tc cs).length).toArray).data.toList.contains d = false from HIN.out])
              go_roundg (cs.length - (k + 1))
              case measure => omega
              case rel => exact ⟨k + 1, by omega, by omega, by rw [HO.out], by go_num, HB.out.alloc (by omega) _⟩
          · have hke : k = cs.length := by omega
            have HE : Hid (outI (tc cs) c k = SupP.impl (tc cs) c) := by show _ = _; rw [hke, ← HTL.out]; exact outI_all _ _
            clear hke
            go_wp2_with fail
            go_ret
            exact ⟨by rw [HR.out, ← HE.out]; rfl, HBW.out.trans (HB.out.mono HBW.out.size)⟩

theorem idx_at {cs : List BB} (hg : ∀ i, i < cs.length → goodC cs i) {i : Nat} {c : UInt8} {s : List UInt8} (h : cs[i]? = some (⟨#[c]⟩, ⟨s.toArray⟩)) : idxC cs ⟨#[c]⟩ = i := by
  refine (idxC_some ?_ h rfl).1
  intro q hq he
  obtain ⟨j, hj, hh⟩ := List.mem_iff_getElem.1 hq
  rw [List.length_take] at hj
  rw [List.getElem_take] at hh
  obtain ⟨d, t, hd, _⟩ := hg j (by omega)
  rw [List.getElem?_eq_getElem (by omega), hh] at hd
  cases hd
  have := one_inj he
  subst this
  have e : cs[j]? = some (⟨#[d]⟩, ⟨t.toArray⟩) := by rw [List.getElem?_eq_getElem (by omega), hh]
  have := SupP.name_inj (ok_of hg) (tc_at h) (tc_at e)
  omega
/-- what stands above, behind m letters of a round -/
def upm (T : SupP.CS) (L : List UInt8) (m : Nat) : List UInt8 := L ++ ((L.take m).map (SupP.sup T)).flatten
theorem upm_zero (T : SupP.CS) (L : List UInt8) : upm T L 0 = L := by unfold upm; simp
theorem upm_step {T : SupP.CS} {L : List UInt8} {m : Nat} {e : UInt8} (h : L[m]? = some e) : upm T L (m + 1) = upm T L m ++ SupP.sup T e := by
  obtain ⟨hl, hg⟩ := List.getElem?_eq_some_iff.1 h
  unfold upm
  rw [List.take_succ_eq_append_getElem hl, hg]
  simp
theorem upm_at {T : SupP.CS} {L : List UInt8} {m : Nat} {e : UInt8} (h : L[m]? = some e) : (upm T L m)[m]? = some e := by
  obtain ⟨hl, hg⟩ := List.getElem?_eq_some_iff.1 h
  unfold upm
  rw [List.getElem?_append_left hl, h]
theorem upm_short {cs : List BB} (hg : ∀ i, i < cs.length → goodC cs i) {L : List UInt8} (h : L.length ≤ 20) (m : Nat) : (upm (tc cs) L m).length ≤ 420 := by
  unfold upm
  rw [List.length_append]
  have := flat_short hg (L.take m)
  rw [List.length_take] at this
  omega
theorem upm_all (T : SupP.CS) (c : UInt8) (k : Nat) : SupP.sortL (upm T (SupP.rnd T c k) (SupP.rnd T c k).length) = SupP.rnd T c (k + 1) := by unfold upm; rw [List.take_length]; rfl
theorem rnd_at {cs : List BB} (hg : ∀ i, i < cs.length → goodC cs i) {i0 : Nat} {c : UInt8} {s0 : List UInt8} (hc : cs[i0]? = some (⟨#[c]⟩, ⟨s0.toArray⟩)) {k m : Nat} {e : UInt8} (h : (SupP.rnd (tc cs) c k)[m]? = some e) : ∃ (j : Nat) (t : List UInt8), j < cs.length ∧ cs[j]? = some (⟨#[e]⟩, ⟨t.toArray⟩) ∧ SupP.sup (tc cs) e = t := by
  obtain ⟨j, t, hj, hjt⟩ := SupP.Up.index (ok_of hg) (tc_at hc) (SupP.rnd_up (ok_of hg) c k e (List.mem_of_getElem? h))
  exact ⟨j, t, by have := (List.getElem?_eq_some_iff.1 hjt).1; rwa [tc_len] at this, tc_get hg hjt, SupP.sup_at (ok_of hg) hjt⟩
set_option maxHeartbeats 8000000 in
theorem SupersOf_spec (a b : Option Addr) (cap cap2 : Nat) (cs : List BB) (is : List II) (x : ByteArray) (w : World) (h0 : tot cs + cs.length ≤ 1048577) (h1 : itot is + is.length ≤ 1048576) (hcap : cs.length ≤ cap) (hs : SP w (.slice a cs.length cap) cs) (hi : SI w (.slice b is.length cap2) is) :
    Calls Try.prog 7 #[.agg #[.slice a cs.length cap, .slice b is.length cap2], .string x] w fun e w' => e = .returned (.string (supB cs is x)) ∧ Below w.heap.size w w' := by
  have HS := hid hs
  have HI := hid hi
  have H0 := hid h0
  have H1 := hid h1
  clear hs hi h0 h1
  go_enter Try.func7, Try.ntmps7
  go_wp2_with fail
  have HBW : Hid (Below w.heap.size w (w.alloc (.cells #[.slice a cs.length cap, .slice b is.length cap2] 26))) := (Below.refl _ _).alloc (Nat.le_refl _) _
  have HX1 : Hid ((w.alloc (.cells #[.slice a cs.length cap, .slice b is.length cap2] 26)).heap[w.heap.size]? = some (.cells #[.slice a cs.length cap, .slice b is.length cap2] 26 (0, 0))) := heap_alloc_new _ _
  generalize w.alloc (.cells #[.slice a cs.length cap, .slice b is.length cap2] 26) = W at *
  have hzb := HBW.out.size
  have hzs := lt_of_heap HX1.out
  refine (HasClass_spec a b cap cap2 cs is x W H0.out H1.out hcap (HS.out.below HBW.out) (HI.out.below HBW.out)).mono ?_
  rintro e w1 ⟨rfl, hb⟩
  have HB1 := hid hb
  obtain ⟨p10, p11⟩ := keep2 HX1.out hb
  have hz1 := hb.size
  clear hb
  cases hv : hcB cs is x with
  | false =>
    have HR : Hid (supB cs is x = ⟨#[]⟩) := supB_no hv
    clear hv
    go_wp2
    go_ret
    exact ⟨ret_string HR.out.symm, HBW.out.trans (HB1.out.mono HBW.out.size)⟩
  | true =>
    obtain ⟨hg, hl1, hl4, hkn⟩ := hc_good hv
    obtain ⟨i0, c, s0, hi0, hxe, hcs⟩ := known_at (n := cs.length) hg (by rw [List.take_length]; exact hkn)
    subst hxe
    have HR : Hid (supB cs is ⟨#[c]⟩ = ⟨(SupP.impl (tc cs) c).toArray⟩) := supB_yes hv
    have HG := hid hg
    have HOK := hid (ok_of hg)
    have HCS := hid hcs
    have HTL := hid (tc_len cs)
    clear hv hg hkn hcs
    obtain ⟨b2, off, rfl, k0, k1, -, -, hbl⟩ := sp_at ((HS.out.below HBW.out).below HB1.out) HCS.out
    have HIX : Hid (idxC cs ⟨#[c]⟩ = i0) := idx_at HG.out HCS.out
    have HS0 : Hid (s0 = SupP.rnd (tc cs) c 0) := (SupP.sup_at HOK.out (tc_at HCS.out)).symm
    have hs0l := sup_short HG.out (tc_at HCS.out)
    have hlt1 : w.heap.size < w1.heap.size := by omega
    clear k0
    go_wp2_with fail
    refine wp_region_any (by kernel_rfl) ?_
    change wpAny _ _ _ _ _ _ _ (World.drew _)
    have SX : w1.drew.cell? ⟨w.heap.size, 0, none⟩ = some (.slice (some ⟨b2, off, none⟩) cs.length cap) ∧ w1.drew.cell? ⟨w.heap.size, 1, none⟩ = some (.slice b is.length cap2) ∧ w1.drew.cell? ⟨b2, off + i0 * 2 + 1, none⟩ = some (.string ⟨s0.toArray⟩) := ⟨p10, p11, k1⟩
    refine wpAny_of_T (S := fun X => X.cell? ⟨w.heap.size, 0, none⟩ = some (.slice (some ⟨b2, off, none⟩) cs.length cap) ∧ X.cell? ⟨w.heap.size, 1, none⟩ = some (.slice b is.length cap2) ∧ X.cell? ⟨b2, off + i0 * 2 + 1, none⟩ = some (.string ⟨s0.toArray⟩)) (m := 9) _ _ _ _ ?_
    refine wpAnyT_take (i := 0) (v := .pointer (some ⟨w.heap.size, 0, none⟩)) rfl (by kernel_rfl) (by kernel_rfl) (by kernel_rfl) (by kernel_rfl) (fun _ _ _ h => h) (Or.inl ⟨by kernel_rfl, fun X hS => by obtain ⟨e0, e1, e2⟩ := hS; go_simp⟩) SX ?_
    try go_simp
    refine wpAnyT_take (i := 1) (v := .slice (some ⟨b2, off, none⟩) cs.length cap) rfl (by kernel_rfl) (by kernel_rfl) (by kernel_rfl) (by kernel_rfl) (fun _ _ _ h => h) (Or.inl ⟨by kernel_rfl, fun X hS => by obtain ⟨e0, e1, e2⟩ := hS; go_simp⟩) SX ?_
    try go_simp
    refine wpAnyT_take (i := 2) (v := .agg #[.slice (some ⟨b2, off, none⟩) cs.length cap, .slice b is.length cap2]) rfl (by kernel_rfl) (by kernel_rfl) (by kernel_rfl) (by kernel_rfl) (fun _ _ _ h => h) (Or.inl ⟨by kernel_rfl, fun X hS => by obtain ⟨e0, e1, e2⟩ := hS; go_simp⟩) SX ?_
    try go_simp
    refine wpAnyT_take (i := 3) (v := .string ⟨#[c]⟩) rfl (by kernel_rfl) (by kernel_rfl) (by kernel_rfl) (by kernel_rfl) (fun _ _ _ h => h) (Or.inl ⟨by kernel_rfl, fun X hS => by obtain ⟨e0, e1, e2⟩ := hS; go_simp⟩) SX ?_
    try go_simp
    refine wpAnyT_one 4 rfl (by kernel_rfl) (fun K hK => ?_)
    go_simp
    refine (l3Class_any (some ⟨b2, off, none⟩) cap b is.length cap2 cs ⟨#[c]⟩ w1.drew (((HS.out.below HBW.out).below HB1.out).below (below_drew1 (Below.refl _ w1)))).mono ?_
    rintro e w2 ⟨rfl, hb⟩
    have HB2 : Hid (Below W.heap.size W w2) := HB1.out.trans ((below_drew1 (Below.refl _ w1)).trans hb |>.mono HB1.out.size)
    have SX2 : w2.cell? ⟨w.heap.size, 0, none⟩ = some (.slice (some ⟨b2, off, none⟩) cs.length cap) ∧ w2.cell? ⟨w.heap.size, 1, none⟩ = some (.slice b is.length cap2) ∧ w2.cell? ⟨b2, off + i0 * 2 + 1, none⟩ = some (.string ⟨s0.toArray⟩) := ⟨(hb.cell (lt_of_cell p10)).trans p10, (hb.cell (lt_of_cell p11)).trans p11, (hb.cell (lt_of_cell k1)).trans k1⟩
    clear hb
    rw [HIX.out]
    refine hK _ _ (fun _ => SX2) ?_
    clear hK K
    clear SX p10 p11 k1
    refine wpAnyT_take (i := 5) (v := .pointer (some ⟨b2, off + i0 * 2, none⟩)) rfl (by kernel_rfl) (by kernel_rfl) (by kernel_rfl) (by kernel_rfl) (fun _ _ _ h => h) (Or.inl ⟨by kernel_rfl, fun X hS => by obtain ⟨e0, e1, e2⟩ := hS; go_simp⟩) SX2 ?_
    try go_simp
    refine wpAnyT_take (i := 6) (v := .pointer (some ⟨b2, off + i0 * 2 + 1, none⟩)) rfl (by kernel_rfl) (by kernel_rfl) (by kernel_rfl) (by kernel_rfl) (fun _ _ _ h => h) (Or.inl ⟨by kernel_rfl, fun X hS => by obtain ⟨e0, e1, e2⟩ := hS; go_simp⟩) SX2 ?_
    try go_simp
    refine wpAnyT_take (i := 7) (v := .string ⟨s0.toArray⟩) rfl (by kernel_rfl) (by kernel_rfl) (by kernel_rfl) (by kernel_rfl) (fun _ _ _ h => h) (Or.inl ⟨by kernel_rfl, fun X hS => by obtain ⟨e0, e1, e2⟩ := hS; go_simp⟩) SX2 ?_
    try go_simp
    refine wpAnyT_take (i := 8) (v := .string ⟨s0.toArray⟩) rfl (by kernel_rfl) (by kernel_rfl) (by kernel_rfl) (by kernel_rfl) (fun _ _ _ h => h) (Or.inl ⟨by kernel_rfl, fun X hS => by obtain ⟨e0, e1, e2⟩ := hS; go_simp⟩) SX2 ?_
    try go_simp
    refine wpAnyT_drop _ 9 _ _ _ (by decide) (by kernel_rfl) ?_
    change wpList _ _ _ [] _ _
    obtain ⟨p10, p11, -⟩ := SX2
    go_wp2_with fail
    clear p10 p11
    clear HIX
    rw [HS0.out]
    go_loopg [6, 24] cs.length (fun q o i wr => ∃ (k : Nat), k ≤ cs.length ∧ cs.length - k ≤ q ∧ o = .string ⟨(SupP.rnd (tc cs) c k).toArray⟩ ∧ i = .int .i64 k ∧ Below W.heap.size W wr)
    case atStart => exact ⟨0, Nat.zero_le _, by simp, rfl, rfl, HB2.out⟩
    case round =>
      obtain ⟨k, hk, hq, rfl, rfl, hb⟩ := hrel
      have HBK := hid hb
      have hbz := hb.size
      clear hb
      have hrl := rnd_short HG.out c k
      by_cases hlt : k < cs.length
      · go_wp2_with fail
        go_loopg [6, 28] (SupP.rnd (tc cs) c k).length (fun q o i wr => ∃ (m : Nat), m ≤ (SupP.rnd (tc cs) c k).length ∧ (SupP.rnd (tc cs) c k).length - m ≤ q ∧ o = .string ⟨(upm (tc cs) (SupP.rnd (tc cs) c k) m).toArray⟩ ∧ i = .int .i64 m ∧ Below W.heap.size W wr)
        case atStart => exact ⟨0, Nat.zero_le _, by simp, by rw [upm_zero], rfl, HBK.out⟩
        case round =>
          obtain ⟨m, hm, hqm, rfl, rfl, hb⟩ := hrel
          have HBX := hid hb
          have hbx := hb.size
          clear hb
          have hul := upm_short HG.out hrl m
          by_cases hltm : m < (SupP.rnd (tc cs) c k).length
          · obtain ⟨e, he⟩ : ∃ e, (SupP.rnd (tc cs) c k)[m]? = some e := ⟨_, List.getElem?_eq_getElem hltm⟩
            obtain ⟨j, t, hj, hjt, hse⟩ := rnd_at HG.out HCS.out he
            have HUP : Hid (upm (tc cs) (SupP.rnd (tc cs) c k) (m + 1) = upm (tc cs) (SupP.rnd (tc cs) c k) m ++ t) := by show _ = _; rw [upm_step he, hse]
            have hsub := fun X => run_sub (upm (tc cs) (SupP.rnd (tc cs) c k) m) m e (upm_at he) (by omega) X
            have HIX : Hid (idxC cs ⟨#[e]⟩ = j) := idx_at HG.out hjt
            obtain ⟨b3, off3, hbe, -, k1, -, -, hbl3⟩ := sp_at ((HS.out.below HBW.out).below HBX.out) hjt
            cases hbe
            have htl := sup_short HG.out (tc_at hjt)
            obtain ⟨p10, p11⟩ := keep2 HX1.out HBX.out
            clear he hjt hse
            go_wp2_with fail
            refine wp_region_any (by kernel_rfl) ?_
            change wpAny _ _ _ _ _ _ _ (World.drew _)
            have SX : wr.drew.cell? ⟨w.heap.size, 0, none⟩ = some (.slice (some ⟨b2, off, none⟩) cs.length cap) ∧ wr.drew.cell? ⟨w.heap.size, 1, none⟩ = some (.slice b is.length cap2) ∧ wr.drew.cell? ⟨b2, off + j * 2 + 1, none⟩ = some (.string ⟨t.toArray⟩) := ⟨p10, p11, k1⟩
            refine wpAny_of_T (S := fun X => X.cell? ⟨w.heap.size, 0, none⟩ = some (.slice (some ⟨b2, off, none⟩) cs.length cap) ∧ X.cell? ⟨w.heap.size, 1, none⟩ = some (.slice b is.length cap2) ∧ X.cell? ⟨b2, off + j * 2 + 1, none⟩ = some (.string ⟨t.toArray⟩)) (m := 15) _ _ _ _ ?_
            refine wpAnyT_take (i := 0) (v := .string ⟨(upm (tc cs) (SupP.rnd (tc cs) c k) m).toArray⟩) rfl (by kernel_rfl) (by kernel_rfl) (by kernel_rfl) (by kernel_rfl) (fun _ _ _ h => h) (Or.inl ⟨by kernel_rfl, fun X hS => by obtain ⟨e0, e1, e2⟩ := hS; go_simp⟩) SX ?_
            try go_simp
            refine wpAnyT_take (i := 1) (v := .pointer (some ⟨w.heap.size, 0, none⟩)) rfl (by kernel_rfl) (by kernel_rfl) (by kernel_rfl) (by kernel_rfl) (fun _ _ _ h => h) (Or.inl ⟨by kernel_rfl, fun X hS => by obtain ⟨e0, e1, e2⟩ := hS; go_simp⟩) SX ?_
            try go_simp
            refine wpAnyT_take (i := 2) (v := .slice (some ⟨b2, off, none⟩) cs.length cap) rfl (by kernel_rfl) (by kernel_rfl) (by kernel_rfl) (by kernel_rfl) (fun _ _ _ h => h) (Or.inl ⟨by kernel_rfl, fun X hS => by obtain ⟨e0, e1, e2⟩ := hS; go_simp⟩) SX ?_
            try go_simp
            refine wpAnyT_take (i := 3) (v := .agg #[.slice (some ⟨b2, off, none⟩) cs.length cap, .slice b is.length cap2]) rfl (by kernel_rfl) (by kernel_rfl) (by kernel_rfl) (by kernel_rfl) (fun _ _ _ h => h) (Or.inl ⟨by kernel_rfl, fun X hS => by obtain ⟨e0, e1, e2⟩ := hS; go_simp⟩) SX ?_
            try go_simp
            refine wpAnyT_take (i := 4) (v := .string ⟨(upm (tc cs) (SupP.rnd (tc cs) c k) m).toArray⟩) rfl (by kernel_rfl) (by kernel_rfl) (by kernel_rfl) (by kernel_rfl) (fun _ _ _ h => h) (Or.inl ⟨by kernel_rfl, fun X hS => by obtain ⟨e0, e1, e2⟩ := hS; go_simp⟩) SX ?_
            try go_simp
            refine wpAnyT_take (i := 5) (v := .int .i64 m) rfl (by kernel_rfl) (by kernel_rfl) (by kernel_rfl) (by kernel_rfl) (fun _ _ _ h => h) (Or.inl ⟨by kernel_rfl, fun X hS => by obtain ⟨e0, e1, e2⟩ := hS; go_simp⟩) SX ?_
            try go_simp
            refine wpAnyT_take (i := 6) (v := .int .i64 m) rfl (by kernel_rfl) (by kernel_rfl) (by kernel_rfl) (by kernel_rfl) (fun _ _ _ h => h) (Or.inl ⟨by kernel_rfl, fun X hS => by obtain ⟨e0, e1, e2⟩ := hS; go_simp⟩) SX ?_
            try go_simp
            refine wpAnyT_take (i := 7) (v := .int .i64 (m + 1)) rfl (by kernel_rfl) (by kernel_rfl) (by kernel_rfl) (by kernel_rfl) (fun _ _ _ h => h) (Or.inl ⟨by kernel_rfl, fun X hS => by clear hS; go_simp; try exact IntWalk.i64_in _ (by omega)⟩) SX ?_
            try go_simp
            refine wpAnyT_take (i := 8) (v := .string ⟨#[e]⟩) rfl (by kernel_rfl) (by kernel_rfl) (by kernel_rfl) (by kernel_rfl) (fun _ _ _ h => h) (Or.inl ⟨by kernel_rfl, fun X hS => by clear hS; go_simp⟩) SX ?_
            try go_simp
            refine wpAnyT_one 9 rfl (by kernel_rfl) (fun K hK => ?_)
            go_simp
            refine (l3Class_any (some ⟨b2, off, none⟩) cap b is.length cap2 cs ⟨#[e]⟩ wr.drew (((HS.out.below HBW.out).below HBX.out).below (below_drew1 (Below.refl _ wr)))).mono ?_
            rintro e1 w2 ⟨rfl, hb⟩
            have HB2 : Hid (Below W.heap.size W w2) := HBX.out.trans ((below_drew1 (Below.refl _ wr)).trans hb |>.mono HBX.out.size)
            have SX2 : w2.cell? ⟨w.heap.size, 0, none⟩ = some (.slice (some ⟨b2, off, none⟩) cs.length cap) ∧ w2.cell? ⟨w.heap.size, 1, none⟩ = some (.slice b is.length cap2) ∧ w2.cell? ⟨b2, off + j * 2 + 1, none⟩ = some (.string ⟨t.toArray⟩) := ⟨(hb.cell (lt_of_cell p10)).trans p10, (hb.cell (lt_of_cell p11)).trans p11, (hb.cell (lt_of_cell k1)).trans k1⟩
            clear hb
            rw [HIX.out]
            refine hK _ _ (fun _ => SX2) ?_
            clear hK K
            clear SX p10 p11 k1 hsub
            refine wpAnyT_take (i := 10) (v := .pointer (some ⟨b2, off + j * 2, none⟩)) rfl (by kernel_rfl) (by kernel_rfl) (by kernel_rfl) (by kernel_rfl) (fun _ _ _ h => h) (Or.inl ⟨by kernel_rfl, fun X hS => by obtain ⟨e0, e1, e2⟩ := hS; go_simp⟩) SX2 ?_
            try go_simp
            refine wpAnyT_take (i := 11) (v := .pointer (some ⟨b2, off + j * 2 + 1, none⟩)) rfl (by kernel_rfl) (by kernel_rfl) (by kernel_rfl) (by kernel_rfl) (fun _ _ _ h => h) (Or.inl ⟨by kernel_rfl, fun X hS => by obtain ⟨e0, e1, e2⟩ := hS; go_simp⟩) SX2 ?_
            try go_simp
            refine wpAnyT_take (i := 12) (v := .string ⟨t.toArray⟩) rfl (by kernel_rfl) (by kernel_rfl) (by kernel_rfl) (by kernel_rfl) (fun _ _ _ h => h) (Or.inl ⟨by kernel_rfl, fun X hS => by obtain ⟨e0, e1, e2⟩ := hS; go_simp⟩) SX2 ?_
            try go_simp
            refine wpAnyT_take (i := 13) (v := .string (⟨(upm (tc cs) (SupP.rnd (tc cs) c k) m).toArray⟩ ++ ⟨t.toArray⟩)) rfl (by kernel_rfl) (by kernel_rfl) (by kernel_rfl) (by kernel_rfl) (fun _ _ _ h => h) (Or.inl ⟨by kernel_rfl, fun X hS => by clear hS; go_simp; try omega⟩) SX2 ?_
            try go_simp
            refine wpAnyT_take (i := 14) (v := .string (⟨(upm (tc cs) (SupP.rnd (tc cs) c k) m).toArray⟩ ++ ⟨t.toArray⟩)) rfl (by kernel_rfl) (by kernel_rfl) (by kernel_rfl) (by kernel_rfl) (fun _ _ _ h => h) (Or.inl ⟨by kernel_rfl, fun X hS => by obtain ⟨e0, e1, e2⟩ := hS; go_simp⟩) SX2 ?_
            try go_simp
            refine wpAnyT_drop _ 15 _ _ _ (by decide) (by kernel_rfl) ?_
            change wpList _ _ _ [] _ _
            clear SX2
            go_wp2_with fail
            rw [app_ba]
            go_roundg ((SupP.rnd (tc cs) c k).length - (m + 1))
            case measure => omega
            case rel => exact ⟨m + 1, by omega, by omega, by rw [HUP.out], by go_num, HB2.out⟩
          · have hme : m = (SupP.rnd (tc cs) c k).length := by omega
            have HRN : Hid (SupP.sortL (upm (tc cs) (SupP.rnd (tc cs) c k) m) = SupP.rnd (tc cs) c (k + 1)) := by show _ = _; rw [hme]; exact upm_all _ _ _
            clear hme
            go_wp2_with fail
            refine (l3Sorted_any (upm (tc cs) (SupP.rnd (tc cs) c k) m) wr (by omega)).mono ?_
            rintro e w3 ⟨rfl, hb⟩
            have HB3 : Hid (Below W.heap.size W w3) := HBX.out.trans (hb.mono HBX.out.size)
            clear hb
            rw [HRN.out]
            go_wp2_with fail
            go_roundg (cs.length - (k + 1))
            case measure => omega
            case rel => exact ⟨k + 1, by omega, by omega, rfl, by go_num, HB3.out⟩
      · have hke : k = cs.length := by omega
        have HE : Hid (SupP.rnd (tc cs) c k = SupP.impl (tc cs) c) := by
          have h := SupP.same HOK.out (ok_caps HG.out) (tc_at HCS.out)
          rw [HTL.out] at h
          show _ = _
          rw [hke]; exact h
        clear hke
        go_wp2_with fail
        go_loop [5, 51] (fun o i => ∃ (m : Nat), m ≤ (SupP.rnd (tc cs) c k).length ∧ o = .string ⟨((SupP.rnd (tc cs) c k).take m).toArray⟩ ∧ i = .int .i64 m) (fun _ i => (SupP.rnd (tc cs) c k).length - (intOf i).toNat)
        case atStart => exact ⟨0, Nat.zero_le _, rfl, rfl⟩
        case round =>
          obtain ⟨m, hm, rfl, rfl⟩ := hrel
          have htk : ((SupP.rnd (tc cs) c k).take m).length ≤ 20 := by rw [List.length_take]; omega
          by_cases hltm : m < (SupP.rnd (tc cs) c k).length
          · obtain ⟨e, he⟩ : ∃ e, (SupP.rnd (tc cs) c k)[m]? = some e := ⟨_, List.getElem?_eq_getElem hltm⟩
            have hsub := fun X => run_sub (SupP.rnd (tc cs) c k) m e he (by omega) X
            have HTK : Hid ((SupP.rnd (tc cs) c k).take (m + 1) = (SupP.rnd (tc cs) c k).take m ++ [e]) := by
              obtain ⟨hl, hg⟩ := List.getElem?_eq_some_iff.1 he
              show _ = _
              rw [List.take_succ_eq_append_getElem hl, hg]
            clear he
            go_wp2_with fail
            rw [app_lists]
            go_round
            case rel => exact ⟨m + 1, by omega, by rw [HTK.out], by go_num⟩
            case measure => simp [intOf]; omega
          · have hme : m = (SupP.rnd (tc cs) c k).length := by omega
            have HTE : Hid ((SupP.rnd (tc cs) c k).take m = SupP.impl (tc cs) c) := by show _ = _; rw [hme, List.take_length]; exact HE.out
            clear hme
            go_wp2_with fail
            go_ret
            exact ⟨by rw [HR.out, ← HTE.out]; rfl, HBW.out.trans (HBK.out.mono HBW.out.size)⟩
end Sup
end Go.Proofs.Ytbdmdhhocncopaa
set_option linter.unusedVariables false
set_option linter.unusedSimpArgs false
set_option maxRecDepth 100000
namespace Go.Proofs.Ytbdmdhhocncopaa
open Go.RowKit Known Classes Ty IV WV HC Sup
namespace SupL
theorem up_trans {T : SupP.CS} {c e x : UInt8} (h : SupP.Up T c e) (k : SupP.Up T e x) : SupP.Up T c x := by
  induction k with
  | one hx => exact .more h hx
  | more _ hx ih => exact .more ih hx
theorem facts {cs : List BB} {is : List II} {i0 : Nat} {c : UInt8} {s0 : List UInt8} (hv : hcB cs is ⟨#[c]⟩ = true) (hcs : cs[i0]? = some (⟨#[c]⟩, ⟨s0.toArray⟩)) :
    (∀ (k : Nat) (e : UInt8), (SupP.impl (tc cs) c)[k]? = some e → hcB cs is ⟨#[e]⟩ = true ∧ (∀ x ∈ SupP.impl (tc cs) e, x ∈ SupP.impl (tc cs) c) ∧ e.toNat < c.toNat ∧ ∀ (j : Nat) (d : UInt8), k = j + 1 → (SupP.impl (tc cs) c)[j]? = some d → d.toNat < e.toNat) ∧
    ∀ (k : Nat) (p : BB), cs[k]? = some p → p.1 = ⟨#[c]⟩ → ∀ x ∈ p.2.data.toList, x ∈ SupP.impl (tc cs) c := by
  obtain ⟨hg, -, -, -⟩ := hc_good hv
  have hok := ok_of hg
  have hi0 := tc_at hcs
  refine ⟨fun k e hk => ?_, fun k p hk hp x hx => ?_⟩
  · have hm := List.mem_of_getElem? hk
    have hu := (SupP.impl_mem hok hi0 e).1 hm
    obtain ⟨j, t, hj, hjt⟩ := hu.index hok hi0
    have hce := tc_get hg hjt
    refine ⟨?_, fun x hx => ?_, ok_names hg j i0 _ _ _ _ hj hjt hi0, fun j d hkj hd => ?_⟩
    · unfold hcB at hv ⊢
      rw [Bool.and_eq_true] at hv ⊢
      refine ⟨hv.1, ?_⟩
      unfold knownB
      rw [List.any_eq_true]
      exact ⟨_, List.mem_of_getElem? hce, by simp⟩
    · exact (SupP.impl_mem hok hi0 x).2 (up_trans hu ((SupP.impl_mem hok hjt x).1 hx))
    · subst hkj
      have hp : (SupP.impl (tc cs) c).Pairwise (fun a b => a.toNat < b.toNat) := by
        unfold SupP.impl
        exact hok.1.filter _
      rw [List.pairwise_iff_getElem] at hp
      obtain ⟨l1, g1⟩ := List.getElem?_eq_some_iff.1 hk
      obtain ⟨l2, g2⟩ := List.getElem?_eq_some_iff.1 hd
      have := hp j (j + 1) l2 l1 (by omega)
      rwa [g1, g2] at this
  · obtain ⟨d, t, h1, -, -, -⟩ := hg k (List.getElem?_eq_some_iff.1 hk).1
    rw [hk] at h1
    cases h1
    have hdc := one_inj hp
    subst hdc
    have hkt := tc_at hk
    have : SupP.sup (tc cs) d = t := SupP.sup_at hok hkt
    exact (SupP.impl_mem hok hi0 x).2 (.one (by rw [this]; simpa using hx))
theorem impl_len (cs : List BB) (c : UInt8) : (SupP.impl (tc cs) c).length ≤ cs.length := by
  unfold SupP.impl
  refine Nat.le_trans (List.length_filter_le _ _) ?_
  rw [List.length_map, tc_len]
  exact Nat.le_refl _
theorem take_has (b : List UInt8) (m : Nat) (c d : UInt8) (h : b[m]? = some d) : (b.take (m + 1)).contains c = ((b.take m).contains c || decide (d = c)) := by
  rw [List.take_add_one, h]
  simp [List.contains_eq_any_beq]
  rw [Bool.eq_iff_iff]
  simp
  constructor
  · rintro (h | h)
    · exact .inl h
    · exact .inr h.symm
  · rintro (h | h)
    · exact .inl h
    · exact .inr h.symm
set_option maxHeartbeats 8000000 in
theorem inLetters_yes (a b : List UInt8) (w : World) (h : ∀ x ∈ a, x ∈ b) (ha : a.length ≤ 1048576) (hb : b.length ≤ 1048576) :
    Calls Try.prog 10 #[.string ⟨a.toArray⟩, .string ⟨b.toArray⟩] w fun e w' => e = .returned (.bool true) ∧ Below w.heap.size w w' := by
  have HIN := hid h
  clear h
  go_enter Try.func10, Try.ntmps10
  go_wp2_with fail
  go_loopg [10] a.length (fun q i wr => ∃ k : Nat, k ≤ a.length ∧ a.length - k ≤ q ∧ i = .int .i64 k ∧ Below w.heap.size w wr)
  case atStart => exact ⟨0, Nat.zero_le _, by simp, rfl, Below.refl _ _⟩
  case round =>
    obtain ⟨k, hk, hq, rfl, hbl⟩ := hrel
    have HB := hid hbl
    clear hbl
    by_cases hlt : k < a.length
    · obtain ⟨c, hc⟩ : ∃ c, a[k]? = some c := ⟨_, List.getElem?_eq_getElem hlt⟩
      have hcb : b.contains c = true := by simpa using HIN.out c (List.mem_of_getElem? hc)
      have HC := hid hc
      have HCB := hid hcb
      clear hc hcb
      go_wp2_with fail
      go_loopg [6, 15] b.length (fun q2 v i2 wr => ∃ m : Nat, m ≤ b.length ∧ b.length - m ≤ q2 ∧ i2 = .int .i64 m ∧ v = .bool ((b.take m).contains c) ∧ Below w.heap.size w wr)
      case atStart => exact ⟨0, Nat.zero_le _, by simp, rfl, by simp, HB.out⟩
      case round =>
        clear HB
        obtain ⟨m, hm, hq2, rfl, rfl, hbl⟩ := hrel
        have HB := hid hbl
        clear hbl
        by_cases hlt2 : m < b.length
        · obtain ⟨d, hd⟩ : ∃ d, b[m]? = some d := ⟨_, List.getElem?_eq_getElem hlt2⟩
          have HD := hid hd
          have HT := hid (take_has b m c d hd)
          clear hd
          cases hv : (b.take m).contains c with
          | true =>
            rw [hv] at HT
            have HN : Hid ((b.take (m + 1)).contains c = true) := by show _ = _; rw [HT.out]; rfl
            clear hv HT
            go_wp2_with fail
            refine wp_region_any (by kernel_rfl) ?_
            change wpAny _ _ _ _ _ _ _ (World.drew _)
            have hb : Below wr.heap.size wr wr.drew := (Below.refl _ _).drew
            replace HB : Hid (Below w.heap.size w wr.drew) := HB.out.trans (hb.mono HB.out.size)
            clear hb
            generalize wr.drew = w1 at *
            refine wpAny_of_T (S := fun X => True) (m := 11) _ _ _ _ ?_
            refine wpAnyT_take (i := 0) (v := .bool true) rfl (by kernel_rfl) (by kernel_rfl) (by kernel_rfl) (by kernel_rfl) (fun _ _ _ h => h) (Or.inl ⟨by kernel_rfl, fun X hS => by clear hS; go_simp⟩) trivial ?_
            try go_simp
            refine wpAnyT_take (i := 1) (v := .bool true) rfl (by kernel_rfl) (by kernel_rfl) (by kernel_rfl) (by kernel_rfl) (fun _ _ _ h => h) (Or.inl ⟨by kernel_rfl, fun X hS => by clear hS; go_simp⟩) trivial ?_
            try go_simp
            refine wpAnyT_take (i := 2) (v := undef) rfl (by kernel_rfl) (by kernel_rfl) (by kernel_rfl) (by kernel_rfl) (fun _ _ _ h => h) (Or.inr ⟨by kernel_rfl, rfl⟩) trivial ?_
            try go_simp
            refine wpAnyT_take (i := 3) (v := undef) rfl (by kernel_rfl) (by kernel_rfl) (by kernel_rfl) (by kernel_rfl) (fun _ _ _ h => h) (Or.inr ⟨by kernel_rfl, rfl⟩) trivial ?_
            try go_simp
            refine wpAnyT_take (i := 4) (v := undef) rfl (by kernel_rfl) (by kernel_rfl) (by kernel_rfl) (by kernel_rfl) (fun _ _ _ h => h) (Or.inr ⟨by kernel_rfl, rfl⟩) trivial ?_
            try go_simp
            refine wpAnyT_take (i := 5) (v := undef) rfl (by kernel_rfl) (by kernel_rfl) (by kernel_rfl) (by kernel_rfl) (fun _ _ _ h => h) (Or.inr ⟨by kernel_rfl, rfl⟩) trivial ?_
            try go_simp
            refine wpAnyT_take (i := 6) (v := undef) rfl (by kernel_rfl) (by kernel_rfl) (by kernel_rfl) (by kernel_rfl) (fun _ _ _ h => h) (Or.inr ⟨by kernel_rfl, rfl⟩) trivial ?_
            try go_simp
            refine wpAnyT_take (i := 7) (v := undef) rfl (by kernel_rfl) (by kernel_rfl) (by kernel_rfl) (by kernel_rfl) (fun _ _ _ h => h) (Or.inr ⟨by kernel_rfl, rfl⟩) trivial ?_
            try go_simp
            refine wpAnyT_take (i := 8) (v := undef) rfl (by kernel_rfl) (by kernel_rfl) (by kernel_rfl) (by kernel_rfl) (fun _ _ _ h => h) (Or.inr ⟨by kernel_rfl, rfl⟩) trivial ?_
            try go_simp
            refine wpAnyT_take (i := 9) (v := .bool true) rfl (by kernel_rfl) (by kernel_rfl) (by kernel_rfl) (by kernel_rfl) (fun _ _ _ h => h) (Or.inl ⟨by kernel_rfl, fun X hS => by clear hS; go_simp⟩) trivial ?_
            try go_simp
            refine wpAnyT_take (i := 10) (v := .bool true) rfl (by kernel_rfl) (by kernel_rfl) (by kernel_rfl) (by kernel_rfl) (fun _ _ _ h => h) (Or.inl ⟨by kernel_rfl, fun X hS => by clear hS; go_simp⟩) trivial ?_
            try go_simp
            refine wpAnyT_drop _ 11 _ _ _ (by decide) (by kernel_rfl) ?_
            change wpList _ _ _ [] _ _
            go_wp2_with fail
            go_roundg (b.length - (m + 1))
            case measure => omega
            case rel => exact ⟨m + 1, by omega, by omega, by go_num, by rw [HN.out], HB.out⟩
          | false =>
            rw [hv] at HT
            obtain ⟨bb, hbb⟩ : ∃ bb, bb = decide (d = c) := ⟨_, rfl⟩
            have HN : Hid ((b.take (m + 1)).contains c = bb) := by show _ = _; rw [HT.out, hbb]; rfl
            have HE : Hid (((c.toNat : Int) == (d.toNat : Int)) = bb) := by
              show _ = _
              rw [hbb, Bool.eq_iff_iff, beq_iff_eq, decide_eq_true_eq]
              constructor
              · intro h; exact (UInt8.toNat_inj.1 (by omega)).symm
              · rintro rfl; rfl
            clear hv HT hbb
            go_wp2_with fail
            refine wp_region_any (by kernel_rfl) ?_
            change wpAny _ _ _ _ _ _ _ (World.drew _)
            have hb : Below wr.heap.size wr wr.drew := (Below.refl _ _).drew
            replace HB : Hid (Below w.heap.size w wr.drew) := HB.out.trans (hb.mono HB.out.size)
            clear hb
            generalize wr.drew = w1 at *
            refine wpAny_of_T (S := fun X => True) (m := 11) _ _ _ _ ?_
            refine wpAnyT_take (i := 0) (v := .bool false) rfl (by kernel_rfl) (by kernel_rfl) (by kernel_rfl) (by kernel_rfl) (fun _ _ _ h => h) (Or.inl ⟨by kernel_rfl, fun X hS => by clear hS; go_simp⟩) trivial ?_
            try go_simp
            refine wpAnyT_take (i := 1) (v := .bool false) rfl (by kernel_rfl) (by kernel_rfl) (by kernel_rfl) (by kernel_rfl) (fun _ _ _ h => h) (Or.inl ⟨by kernel_rfl, fun X hS => by clear hS; go_simp⟩) trivial ?_
            try go_simp
            refine wpAnyT_take (i := 2) (v := .string ⟨a.toArray⟩) rfl (by kernel_rfl) (by kernel_rfl) (by kernel_rfl) (by kernel_rfl) (fun _ _ _ h => h) (Or.inl ⟨by kernel_rfl, fun X hS => by clear hS; go_simp⟩) trivial ?_
            try go_simp
            refine wpAnyT_take (i := 3) (v := .int .i64 k) rfl (by kernel_rfl) (by kernel_rfl) (by kernel_rfl) (by kernel_rfl) (fun _ _ _ h => h) (Or.inl ⟨by kernel_rfl, fun X hS => by clear hS; go_simp⟩) trivial ?_
            try go_simp
            refine wpAnyT_take (i := 4) (v := .int .u8 c.toNat) rfl (by kernel_rfl) (by kernel_rfl) (by kernel_rfl) (by kernel_rfl) (fun _ _ _ h => h) (Or.inl ⟨by kernel_rfl, fun X hS => by clear hS; go_simp; rw [Classes.get_at a k c HC.out]⟩) trivial ?_
            try go_simp
            refine wpAnyT_take (i := 5) (v := .string ⟨b.toArray⟩) rfl (by kernel_rfl) (by kernel_rfl) (by kernel_rfl) (by kernel_rfl) (fun _ _ _ h => h) (Or.inl ⟨by kernel_rfl, fun X hS => by clear hS; go_simp⟩) trivial ?_
            try go_simp
            refine wpAnyT_take (i := 6) (v := .int .i64 m) rfl (by kernel_rfl) (by kernel_rfl) (by kernel_rfl) (by kernel_rfl) (fun _ _ _ h => h) (Or.inl ⟨by kernel_rfl, fun X hS => by clear hS; go_simp⟩) trivial ?_
            try go_simp
            refine wpAnyT_take (i := 7) (v := .int .u8 d.toNat) rfl (by kernel_rfl) (by kernel_rfl) (by kernel_rfl) (by kernel_rfl) (fun _ _ _ h => h) (Or.inl ⟨by kernel_rfl, fun X hS => by clear hS; go_simp; rw [Classes.get_at b m d HD.out]⟩) trivial ?_
            try go_simp
            refine wpAnyT_take (i := 8) (v := .bool bb) rfl (by kernel_rfl) (by kernel_rfl) (by kernel_rfl) (by kernel_rfl) (fun _ _ _ h => h) (Or.inl ⟨by kernel_rfl, fun X hS => by clear hS; go_simp; exact HE.out⟩) trivial ?_
            try go_simp
            refine wpAnyT_take (i := 9) (v := .bool bb) rfl (by kernel_rfl) (by kernel_rfl) (by kernel_rfl) (by kernel_rfl) (fun _ _ _ h => h) (Or.inl ⟨by kernel_rfl, fun X hS => by clear hS; go_simp⟩) trivial ?_
            try go_simp
            refine wpAnyT_take (i := 10) (v := .bool bb) rfl (by kernel_rfl) (by kernel_rfl) (by kernel_rfl) (by kernel_rfl) (fun _ _ _ h => h) (Or.inl ⟨by kernel_rfl, fun X hS => by clear hS; go_simp⟩) trivial ?_
            try go_simp
            refine wpAnyT_drop _ 11 _ _ _ (by decide) (by kernel_rfl) ?_
            change wpList _ _ _ [] _ _
            go_wp2_with fail
            go_roundg (b.length - (m + 1))
            case measure => omega
            case rel => exact ⟨m + 1, by omega, by omega, by go_num, by rw [HN.out], HB.out⟩
        · have hke : m = b.length := by omega
          subst hke
          have hall : (b.take b.length).contains c = true := by rw [List.take_length]; exact HCB.out
          rw [hall]
          clear hall hq2
          go_wp2_with fail
          go_roundg (a.length - (k + 1))
          case measure => omega
          case rel => exact ⟨k + 1, by omega, by omega, by go_num, HB.out⟩
    · have hke : k = a.length := by omega
      subst hke
      go_wp2
      go_ret
      exact ⟨rfl, HB.out⟩
end SupL
end Go.Proofs.Ytbdmdhhocncopaa
