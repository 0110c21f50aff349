/- Plain facts about the making of dictionaries: a dictionary is made of its letter and its parts, its size and its depth are theirs, it has no fewer letters than different ones. Nothing of Go. Conditions: none. -/
import Derived.Test.YtaapdhacnbhohaaDoorMkDict
import Derived.Test.YtaapdhacnbhohaaDoorInsts
import Derived.Test.YtaapdhacnbhohaaDoorImplD
set_option linter.unusedVariables false
set_option linter.unusedSimpArgs false
set_option maxRecDepth 100000
namespace Go.Proofs.YtaapdhacnbhohaaDoor
open Dt DText MkDict Insts
namespace MdPl
/-- the first so many of a forest -/
def sz : F → Nat → Nat
  | _, 0 => 0
  | .nil, _ + 1 => 0
  | .cons _ k r, n + 1 => 1 + k.size + sz r n
def dp : F → Nat → Nat
  | _, 0 => 0
  | .nil, _ + 1 => 0
  | .cons _ k r, n + 1 => max (1 + k.depth) (dp r n)
theorem sz_all : ∀ (f : F), sz f f.len = f.size
  | .nil => rfl
  | .cons c k r => by simp [sz, F.len, F.size, sz_all r]
theorem dp_all : ∀ (f : F), dp f f.len = f.depth
  | .nil => rfl
  | .cons c k r => by simp [dp, F.len, F.depth, dp_all r]
theorem at_part : ∀ (f : F) (k : Nat), k < f.len → f.WF → ∃ (c : UInt8) (g : F), (ftexts f)[k]? = some ⟨(dtext c g).toArray⟩ ∧ dig c ∧ g.len ≤ 3 ∧ g.WF ∧ (dtext c g).length < f.ct.length ∧ sz f (k + 1) = sz f k + (1 + g.size) ∧ dp f (k + 1) = max (dp f k) (1 + g.depth)
  | .nil, k, h, _ => by simp [F.len] at h
  | .cons c g r, 0, h, hw => by
    refine ⟨c, g, rfl, hw.1, hw.2.1, hw.2.2.1, ?_, by simp [sz], by simp [dp]⟩
    simp only [F.ct, dtext, List.length_cons, List.length_append]
    omega
  | .cons c g r, k + 1, h, hw => by
    obtain ⟨c', g', h1, h2, h3, h4, h5, h6, h7⟩ := at_part r k (by simp [F.len] at h; omega) hw.2.2.2
    refine ⟨c', g', by simpa [ftexts] using h1, h2, h3, h4, ?_, ?_, ?_⟩
    · simp only [F.ct, List.length_cons, List.length_append] at h5 ⊢
      omega
    · simp only [sz] at h6 ⊢
      rw [h6]
      omega
    · simp only [dp] at h7 ⊢
      rw [h7, Nat.max_assoc]
theorem part_dt {l : List UInt8} {c : UInt8} {f : F} (h : dt l = some (c, f)) {k : Nat} (hk : k < f.len) : ∃ (d : UInt8) (g : F), (ftexts f)[k]? = some ⟨(dtext d g).toArray⟩ ∧ dt (dtext d g) = some (d, g) ∧ (dtext d g).length ≤ 1200 ∧ sz f (k + 1) = sz f k + (1 + g.size) ∧ dp f (k + 1) = max (dp f k) (1 + g.depth) := by
  obtain ⟨e1, e2, e3, e4, e5⟩ := dt_some h
  obtain ⟨d, g, h1, h2, h3, h4, h5, h6, h7⟩ := at_part f k hk e4
  have h8 : (dtext d g).length ≤ 1200 := by
    rw [e1] at e5
    have : f.ct.length ≤ (dtext c f).length := by
      unfold dtext
      rw [List.length_cons]
      cases hc : f.ct with
      | nil => simp
      | cons x y => simp [wrap]
    omega
  exact ⟨d, g, h1, dt_of h2 h3 h4 h8, h8, h6, h7⟩
theorem size_le : ∀ (f : F), f.size ≤ f.ct.length ∧ f.depth ≤ f.ct.length
  | .nil => ⟨Nat.le_refl _, Nat.le_refl _⟩
  | .cons c k r => by
    obtain ⟨h1, h2⟩ := size_le k
    obtain ⟨h3, h4⟩ := size_le r
    have h5 : k.ct.length ≤ (wrap k.ct).length := by
      cases hc : k.ct with
      | nil => simp
      | cons x y => simp [wrap]
    simp only [F.size, F.depth, F.ct, List.length_cons, List.length_append]
    omega
theorem chr_dv {c : UInt8} (h : dig c) : chrI (dv c) = c := by
  obtain ⟨h1, h2⟩ := dig_num h
  unfold chrI dv
  rw [show (48 + ((c.toNat : Int) - 48).toNat) = c.toNat by omega]
  simp
theorem dv_bounds {c : UInt8} (h : dig c) : 0 ≤ dv c ∧ dv c ≤ 9 := by
  obtain ⟨h1, h2⟩ := dig_num h
  unfold dv
  omega
theorem all_ok : ∀ (f : F), f.WF → (∀ x ∈ ftexts f, x.data.toList.length ≤ 1200) → (ftexts f).all okD = true
  | .nil, _, _ => rfl
  | .cons c k r, hw, hx => by
    have h1 := all_ok r hw.2.2.2 (fun x h => hx x (List.mem_cons_of_mem _ h))
    have h2 := hx ⟨(dtext c k).toArray⟩ (by simp [ftexts])
    simp at h2
    simp only [ftexts, List.all_cons, Bool.and_eq_true]
    refine ⟨?_, h1⟩
    unfold okD
    rw [show (ByteArray.mk (dtext c k).toArray).data.toList = dtext c k by simp, dt_of hw.1 hw.2.1 hw.2.2.1 h2]
    rfl
theorem parts_len {l : List UInt8} {c : UInt8} {f : F} (h : dt l = some (c, f)) : ∀ x ∈ ftexts f, x.data.toList.length ≤ 1200 := by
  intro x hx
  obtain ⟨k, hk⟩ := List.getElem?_of_mem hx
  have hl := (List.getElem?_eq_some_iff.1 hk).1
  rw [ftexts_len] at hl
  obtain ⟨d, g, h1, h2, h3, -⟩ := part_dt h hl
  rw [h1] at hk
  cases hk
  simpa using h3
theorem md_self {l : List UInt8} {c : UInt8} {f : F} (h : dt l = some (c, f)) : md (dv c) (ftexts f) = some l := by
  obtain ⟨e1, e2, e3, e4, e5⟩ := dt_some h
  obtain ⟨h0, h9⟩ := dv_bounds e2
  have h4 := jtext_dict c f
  rw [md_yes h0 h9 (by rw [ftexts_len]; exact e3) (all_ok f e4 (parts_len h)) (by rw [chr_dv e2, h4, ← e1]; exact e5), chr_dv e2, h4, ← e1]
/-- the letters' number -/
def ds (l : List UInt8) : Nat := ((List.range 10).map fun i => l.count (chr i)).sum
theorem ds_app (x y : List UInt8) : ds (x ++ y) = ds x + ds y := by
  simp only [ds, List.range, List.range.loop, List.map_cons, List.map_nil, List.sum_cons, List.sum_nil, List.count_append]
  omega
theorem ds_cons (c : UInt8) (x : List UInt8) : ds (c :: x) = ds [c] + ds x := ds_app [c] x
theorem ds_one {c : UInt8} (h : dig c) : ds [c] = 1 := by
  obtain ⟨h1, h2⟩ := dig_num h
  have : c = chr (c.toNat - 48) := by
    unfold chr
    rw [show 48 + (c.toNat - 48) = c.toNat by omega]
    simp
  have hk : c.toNat - 48 < 10 := by omega
  rw [this]
  generalize c.toNat - 48 = k at hk
  rcases (by omega : k = 0 ∨ k = 1 ∨ k = 2 ∨ k = 3 ∨ k = 4 ∨ k = 5 ∨ k = 6 ∨ k = 7 ∨ k = 8 ∨ k = 9) with rfl | rfl | rfl | rfl | rfl | rfl | rfl | rfl | rfl | rfl <;> decide
theorem ds_wrap (x : List UInt8) (h : x = [] ∨ ∃ y, x = 44 :: y) : ds (wrap x) = ds x := by
  rcases h with rfl | ⟨y, rfl⟩
  · rfl
  · have h1 : ds [40] = 0 := by decide
    have h2 : ds [41] = 0 := by decide
    have h3 : ds [44] = 0 := by decide
    unfold wrap
    rw [ds_cons, ds_app, ds_cons 44, h1, h2, h3]
    omega
theorem ct_comma (f : F) : f.ct = [] ∨ ∃ y, f.ct = 44 :: y := by
  cases f with
  | nil => exact .inl rfl
  | cons c k r => exact .inr ⟨_, rfl⟩
theorem ds_ct : ∀ (f : F), f.WF → ds f.ct = f.size
  | .nil, _ => by decide
  | .cons c k r, hw => by
    have h1 := ds_ct k hw.2.2.1
    have h2 := ds_ct r hw.2.2.2
    have h3 : ds [44] = 0 := by decide
    simp only [F.ct]
    rw [ds_cons, ds_cons c, ds_app, ds_wrap _ (ct_comma k), ds_one hw.1, h1, h2, h3, F.size]
    omega
theorem filter_sum (p : Nat → Bool) (f : Nat → Nat) (h : ∀ i, p i = true → 1 ≤ f i) : ∀ (xs : List Nat), (xs.filter p).length ≤ (xs.map f).sum
  | [] => by simp
  | x :: xs => by
    have ih := filter_sum p f h xs
    rw [List.filter_cons]
    split
    · rename_i hp
      have := h x hp
      simp only [List.length_cons, List.map_cons, List.sum_cons]
      omega
    · simp only [List.map_cons, List.sum_cons]
      omega
theorem sel_small {l : List UInt8} {c : UInt8} {f : F} (h : dt l = some (c, f)) : (sel l 10).length ≤ 1 + f.size := by
  obtain ⟨e1, e2, e3, e4, e5⟩ := dt_some h
  have h1 : ds l = 1 + f.size := by
    rw [e1]
    unfold dtext
    rw [ds_cons, ds_one e2, ds_wrap _ (ct_comma f), ds_ct f e4]
  unfold sel
  rw [h]
  simp only [Option.isSome_some, if_true, List.length_map]
  rw [← h1]
  exact filter_sum _ _ (fun i hi => List.count_pos_iff.2 (by simpa using hi)) _
end MdPl
end Go.Proofs.YtaapdhacnbhohaaDoor
