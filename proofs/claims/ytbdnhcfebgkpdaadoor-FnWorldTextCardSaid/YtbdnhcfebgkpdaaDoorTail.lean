/- A row of instances of the call's own, the needs of each in a row of their own: what keeps it. Conditions: those typed. -/
import Derived.Test.YtbdnhcfebgkpdaaDoorPIn
import Derived.Test.YtbdnhcfebgkpdaaDoorWorldOpen
import Derived.Test.YtbdnhcfebgkpdaaDoorPWoP
set_option linter.unusedVariables false
set_option linter.unusedSimpArgs false
set_option maxRecDepth 100000
namespace Go.Proofs.YtbdnhcfebgkpdaaDoor
open Go.RowKit ListS
namespace IRow
/-- the cells of instances: their texts, and the slices of their needs -/
def flatI : List II → List Value → List Value
  | p :: is, u :: vs => .string p.1 :: .string p.2.1 :: u :: flatI is vs
  | _, _ => []
theorem flatI_len : ∀ (is : List II) (vs : List Value), vs.length = is.length → (flatI is vs).length = is.length * 3
  | [], [], _ => rfl
  | p :: is, u :: vs, h => by
    simp only [flatI, List.length_cons]
    rw [flatI_len is vs (by simpa using h)]
    omega
  | [], u :: vs, h => by simp at h
  | p :: is, [], h => by simp at h
theorem flatI_get : ∀ (is : List II) (vs : List Value) (i : Nat) (p : II) (u : Value), vs.length = is.length → is[i]? = some p → vs[i]? = some u → (flatI is vs)[i * 3]? = some (.string p.1) ∧ (flatI is vs)[i * 3 + 1]? = some (.string p.2.1) ∧ (flatI is vs)[i * 3 + 2]? = some u
  | [], vs, i, p, u, hl, hp, hu => by simp at hp
  | q :: is, [], i, p, u, hl, hp, hu => by simp at hl
  | q :: is, v :: vs, 0, p, u, hl, hp, hu => by
    simp at hp hu
    subst hp hu
    exact ⟨rfl, rfl, rfl⟩
  | q :: is, v :: vs, i + 1, p, u, hl, hp, hu => by
    have h := flatI_get is vs i p u (by simpa using hl) (by simpa using hp) (by simpa using hu)
    rw [show (i + 1) * 3 = i * 3 + 1 + 1 + 1 by omega]
    simpa only [flatI, List.getElem?_cons_succ] using h
theorem flatI_snoc : ∀ (is : List II) (vs : List Value) (p : II) (u : Value), vs.length = is.length → flatI (is ++ [p]) (vs ++ [u]) = flatI is vs ++ [.string p.1, .string p.2.1, u]
  | [], [], p, u, _ => rfl
  | q :: is, v :: vs, p, u, h => by
    simp only [List.cons_append, flatI]
    rw [flatI_snoc is vs p u (by simpa using h)]
  | [], v :: vs, p, u, h => by simp at h
  | q :: is, [], p, u, h => by simp at h
/-- each slice vs[i] is a row of the needs of is[i], no two in one block -/
def Rows (w : World) (base : Nat) (is : List II) (vs : List Value) : Prop := vs.length = is.length ∧ (∀ (i : Nat) (p : II) (u : Value), is[i]? = some p → vs[i]? = some u → w.ownsRow base 25 2 u p.2.2.length (flat p.2.2)) ∧
  ∀ (i j : Nat) (u v : Value) (g : Nat), i ≠ j → vs[i]? = some u → vs[j]? = some v → u.ownBlock = some g → v.ownBlock ≠ some g
theorem Rows.nil (w : World) (base : Nat) : Rows w base [] [] := ⟨rfl, fun i p u h => by simp at h, fun i j u v g _ h => by simp at h⟩
theorem Rows.below {w w' : World} {base : Nat} {is : List II} {vs : List Value} (h : Rows w base is vs) (hb : Below w.heap.size w w') : Rows w' base is vs := ⟨h.1, fun i p u hp hu => row_below hb (h.2.1 i p u hp hu), h.2.2⟩
theorem Rows.own {w : World} {base : Nat} {is : List II} {vs : List Value} (h : Rows w base is vs) {u : Value} (hu : u ∈ vs) : ∀ g, u.ownBlock = some g → base ≤ g ∧ g < w.heap.size := by
  obtain ⟨i, hi, rfl⟩ := List.mem_iff_getElem.1 hu
  intro g hg
  exact row_own (h.2.1 i (is[i]'(by have := h.1; omega)) _ (List.getElem?_eq_getElem _) (List.getElem?_eq_getElem hi)) g hg
/-- a row of another kind of elements grows: no needs are touched -/
theorem Rows.grown {w w' : World} {base n size b2 : Nat} {is : List II} {vs : List Value} {v : Value} {xs : List Value} {e : TypeId} (h : Rows w base is vs) (hg : w.grownBy w' v.ownBlock) (ho : w.ownsRow b2 e size v n xs) (hne : e ≠ 25) : Rows w' base is vs := by
  refine ⟨h.1, fun i p u hp hu => row_grown hg (h.2.1 i p u hp hu) fun g hgu e' => ?_, h.2.2⟩
  rcases ho.2 with ⟨rfl, _⟩ | ⟨g2, cap, cur, rfl, hb, hgg, rest⟩
  · simp [Value.ownBlock] at e'
  · simp [Value.ownBlock] at e'
    subst e'
    rcases (h.2.1 i p u hp hu).2 with ⟨rfl, _⟩ | ⟨g3, cap3, cur3, rfl, hb3, hg3, _⟩
    · simp [Value.ownBlock] at hgu
    · simp [Value.ownBlock] at hgu
      subst hgu
      rw [hgg] at hg3
      cases hg3
      exact hne rfl
theorem Rows.set {w : World} {base k o : Nat} {is : List II} {vs : List Value} (h : Rows w base is vs) {cs : Array Value} {e : TypeId} {fr : Nat × Nat} (hk : w.heap[k]? = some (.cells cs e fr)) (hne : e ≠ 25) (u : Value) : Rows (w.setCell ⟨k, o, none⟩ u) base is vs :=
  ⟨h.1, fun i p v hp hv => PIn.row_set_v (h.2.1 i p v hp hv) hk hne u, h.2.2⟩
theorem Rows.snoc {w : World} {base : Nat} {is : List II} {vs : List Value} (h : Rows w base is vs) {p : II} {u : Value} (hu : w.ownsRow base 25 2 u p.2.2.length (flat p.2.2)) (hnew : ∀ v ∈ vs, ∀ g, v.ownBlock = some g → u.ownBlock ≠ some g) : Rows w base (is ++ [p]) (vs ++ [u]) := by
  obtain ⟨h1, h2, h3⟩ := h
  refine ⟨by simp [h1], fun i q v hq hv => ?_, fun i j a b g hij ha hb hg => ?_⟩
  · by_cases e : i < is.length
    · rw [List.getElem?_append_left e] at hq
      rw [List.getElem?_append_left (by omega)] at hv
      exact h2 i q v hq hv
    · rw [List.getElem?_append_right (by omega)] at hq
      rw [List.getElem?_append_right (by omega)] at hv
      have hi : i - is.length = 0 := by have := (List.getElem?_eq_some_iff.1 hq).1; simp at this; omega
      rw [hi] at hq
      rw [show i - vs.length = 0 by omega] at hv
      simp at hq hv
      subst hq hv
      exact hu
  · have hi := (List.getElem?_eq_some_iff.1 ha).1
    have hj := (List.getElem?_eq_some_iff.1 hb).1
    simp only [List.length_append, List.length_singleton] at hi hj
    by_cases e1 : i < vs.length
    · rw [List.getElem?_append_left e1] at ha
      by_cases e2 : j < vs.length
      · rw [List.getElem?_append_left e2] at hb
        exact h3 i j a b g hij ha hb hg
      · rw [List.getElem?_append_right (by omega), show j - vs.length = 0 by omega] at hb
        simp at hb
        subst hb
        exact hnew a (List.mem_of_getElem? ha) g hg
    · rw [List.getElem?_append_right (by omega), show i - vs.length = 0 by omega] at ha
      simp at ha
      subst ha
      by_cases e2 : j < vs.length
      · rw [List.getElem?_append_left e2] at hb
        intro hbg
        exact hnew b (List.mem_of_getElem? hb) g hbg hg
      · omega
/-- the slice v holds these instances, all in rows of the call's own -/
def IR (w : World) (base : Nat) (v : Value) (is : List II) : Prop := ∃ vs, w.ownsRow base 28 3 v is.length (flatI is vs) ∧ Rows w base is vs
theorem IR.below {w w' : World} {base : Nat} {v : Value} {is : List II} (h : IR w base v is) (hb : Below w.heap.size w w') : IR w' base v is := by
  obtain ⟨vs, h1, h2⟩ := h
  exact ⟨vs, row_below hb h1, h2.below hb⟩
theorem IR.none (w : World) (base : Nat) : IR w base (.slice none 0 0) [] := ⟨[], ⟨by simp [flatI], .inl ⟨rfl, rfl⟩⟩, Rows.nil _ _⟩
theorem IR.si {w : World} {base n cap : Nat} {a : Option Addr} {is : List II} (h : IR w base (.slice a n cap) is) (hz : ∀ (i : Nat) (p : II), is[i]? = some p → p.1.size ≤ maxLen ∧ p.2.1.size ≤ maxLen ∧ ∀ (j : Nat) (q : BB), p.2.2[j]? = some q → q.1.size ≤ maxLen ∧ q.2.size ≤ maxLen)
    (sp : ∀ (a : Option Addr) (n cap : Nat) (xs : List BB), w.ownsRow base 25 2 (.slice a n cap) xs.length (flat xs) → (∀ (j : Nat) (q : BB), xs[j]? = some q → q.1.size ≤ maxLen ∧ q.2.size ≤ maxLen) → SP w (.slice a n cap) xs) : SI w (.slice a n cap) is := by
  obtain ⟨vs, ho, hr⟩ := h
  rcases ho.2 with ⟨h, h0⟩ | ⟨g, c, cur, h, hb, hg, h1, h2, h3, h4⟩
  · have hx := List.length_eq_zero_iff.1 h0
    cases h
    exact .inl ⟨hx, _, _, rfl⟩
  · cases h
    refine .inr ⟨g, 0, _, rfl, Nat.le_trans h1 h2, fun i p hp => ?_⟩
    have hi := (List.getElem?_eq_some_iff.1 hp).1
    have hu : vs[i]? = some (vs[i]'(by have := hr.1; omega)) := List.getElem?_eq_getElem _
    obtain ⟨f0, f1, f2⟩ := flatI_get is vs i p _ hr.1 hp hu
    have r0 := row_cell ho (i * 3) f0
    have r1 := row_cell ho (i * 3 + 1) f1
    have r2 := row_cell ho (i * 3 + 2) f2
    obtain ⟨z0, z1, z2⟩ := hz i p hp
    have hrow := hr.2.1 i p _ hp hu
    obtain ⟨a', c', he⟩ := row_slice hrow
    rw [he] at r2 hrow
    exact ⟨by simpa using r0, by simpa using r1, z0, z1, a', _, c', by simpa using r2, sp a' _ c' _ hrow z2⟩
end IRow
end Go.Proofs.YtbdnhcfebgkpdaaDoor
set_option linter.unusedVariables false
set_option linter.unusedSimpArgs false
set_option maxRecDepth 100000
namespace Go.Proofs.YtbdnhcfebgkpdaaDoor
open Go.RowKit Ty SplP ListS PInP IRow Classes IV WV FW FmtI
namespace PWo
theorem join_len (c : UInt8) : ∀ (p : List UInt8) (ps : List (List UInt8)), (Lib.join (p :: ps) [c]).length + 1 = ((p :: ps).map List.length).sum + (p :: ps).length
  | p, [] => by rw [Lib.join_cons]; simp [Lib.joinTail]
  | p, q :: ps => by
    have ih := join_len c q ps
    rw [Lib.join_cons] at ih ⊢
    rw [show Lib.joinTail [c] (q :: ps) = c :: (q ++ Lib.joinTail [c] ps) by simp [Lib.joinTail]]
    simp only [List.length_append, List.length_cons, List.map_cons, List.sum_cons] at ih ⊢
    omega
theorem split_sum (c : UInt8) (l : List UInt8) : ((splitC c l).map List.length).sum + (splitC c l).length = l.length + 1 := by
  have h := splitC_join c l
  cases hs : splitC c l with
  | nil => exact absurd hs (splitC_ne c l)
  | cons p ps =>
    rw [hs] at h
    have := join_len c p ps
    rw [h] at this
    omega
theorem need_size {l : List UInt8} {p : BB} (h : needB l = some p) : p.1.size + p.2.size + 1 ≤ l.length := by
  have h2 := PWoP.needT_of h
  obtain ⟨c, t, -, -, -, rfl⟩ := needB_some h
  rw [needT_data] at h2
  rw [← h2]
  simp [ByteArray.size]
  omega
theorem allN_size : ∀ {ps : List (List UInt8)} {xs : List BB}, allN ps = some xs → tot xs + xs.length ≤ (ps.map List.length).sum
  | [], xs, h => by simp [allN] at h; subst h; simp [tot]
  | p :: ps, xs, h => by
    unfold allN at h
    split at h
    · rename_i x ys h1 h2
      cases h
      have i1 := allN_size h2
      have i2 := need_size h1
      simp only [tot, List.map_cons, List.sum_cons, List.length_cons] at i1 ⊢
      omega
    · simp at h
theorem inst_size {l : List UInt8} {n : BB} {ns : List BB} (h : instL l = some (n, ns)) : iw (n.1, n.2, ns) ≤ l.length := by
  have hj := split_sum 58 l
  unfold instL at h
  unfold iw
  split at h
  · rename_i a ha
    obtain ⟨x, h1, h2⟩ := Option.map_eq_some_iff.1 h
    cases h2
    rw [ha] at hj
    have := need_size h1
    simp [tot] at hj ⊢
    omega
  · rename_i a b ha
    split at h
    · rename_i x xs h1 h2
      cases h
      rw [ha] at hj
      have i1 := need_size h1
      have i2 := allN_size h2
      have i3 := split_sum 38 b
      simp at hj ⊢
      have : 1 ≤ (splitC 38 b).length := by rw [splitC_len]; omega
      omega
    · simp at h
  · simp at h
theorem insts_size : ∀ {ps : List (List UInt8)} {is : List II}, PWoP.instsL ps = some is → itot is ≤ (ps.map List.length).sum ∧ is.length = ps.length
  | [], is, h => by simp [PWoP.instsL] at h; subst h; simp [itot]
  | p :: ps, is, h => by
    unfold PWoP.instsL at h
    split at h
    · rename_i n ns r h1 h2
      cases h
      obtain ⟨i1, i2⟩ := insts_size h2
      have i3 := inst_size h1
      simp only [itot, List.map_cons, List.sum_cons, List.length_cons] at i1 ⊢
      exact ⟨by omega, by omega⟩
    · simp at h
theorem insts_none : ∀ {ps : List (List UInt8)} {k : Nat} {p : List UInt8}, ps[k]? = some p → instL p = none → PWoP.instsL ps = none
  | [], k, p, h, _ => by simp at h
  | q :: ps, 0, p, h, hn => by
    simp at h
    subst h
    unfold PWoP.instsL
    rw [hn]
  | q :: ps, k + 1, p, h, hn => by
    have := insts_none (ps := ps) (k := k) (by simpa using h) hn
    unfold PWoP.instsL
    rw [this]
    cases instL q <;> rfl
theorem insts_mk : ∀ {ps : List (List UInt8)} {D : List II}, D.length = ps.length → (∀ (j : Nat) (p : List UInt8) (x : II), ps[j]? = some p → D[j]? = some x → instL p = some ((x.1, x.2.1), x.2.2)) → PWoP.instsL ps = some D
  | [], [], _, _ => rfl
  | [], x :: D, h, _ => by simp at h
  | p :: ps, [], h, _ => by simp at h
  | p :: ps, x :: D, h, hg => by
    have h1 := hg 0 p x rfl rfl
    have h2 := insts_mk (ps := ps) (D := D) (by simpa using h) (fun j q y hq hy => hg (j + 1) q y hq hy)
    unfold PWoP.instsL
    rw [h1, h2]
theorem clsI_size (x : List UInt8) : (PWoP.clsI x).1.size + (PWoP.clsI x).2.size ≤ x.length := by
  unfold PWoP.clsI
  have := congrArg List.length (List.takeWhile_append_dropWhile (p := (· != 60)) (l := x))
  rw [List.length_append] at this
  simp [ByteArray.size] at this ⊢
  omega
theorem clsL_tot : ∀ (ps : List (List UInt8)), tot (ps.map PWoP.clsI) ≤ (ps.map List.length).sum
  | [] => by simp [tot]
  | p :: ps => by
    have i1 := clsL_tot ps
    have i2 := clsI_size p
    simp only [tot, List.map_cons, List.sum_cons] at i1 ⊢
    omega
/-- the world's sizes -/
theorem world_sizes {l p0 : List UInt8} {is : List II} (hp : (splitC 59 l)[0]? = some p0) (hl : l.length ≤ 1048576) (hi : PWoP.instsL ((splitC 59 l).drop 1) = some is) :
    tot ((splitC 32 p0).map PWoP.clsI) + ((splitC 32 p0).map PWoP.clsI).length ≤ 1048577 ∧ itot is + is.length ≤ 1048576 := by
  have h1 := split_sum 59 l
  have h2 := split_sum 32 p0
  have h3 := clsL_tot (splitC 32 p0)
  cases hs : splitC 59 l with
  | nil => exact absurd hs (splitC_ne 59 l)
  | cons q ps =>
    rw [hs] at hp hi h1
    simp at hp hi
    subst hp
    obtain ⟨h4, h5⟩ := insts_size hi
    simp only [List.map_cons, List.sum_cons, List.length_cons] at h1
    rw [List.length_map]
    exact ⟨by omega, by omega⟩
open Classical in
theorem implW_eq {l p0 : List UInt8} (h : (splitC 59 l)[0]? = some p0) : PWoP.implW l = (match PWoP.instsL ((splitC 59 l).drop 1) with | none => none | some is => if l ≠ [] ∧ fmtW ((splitC 32 p0).map PWoP.clsI) is = bl l then some ((splitC 32 p0).map PWoP.clsI, is) else none) := by
  unfold PWoP.implW
  cases hs : splitC 59 l with
  | nil => exact absurd hs (splitC_ne 59 l)
  | cons q ps =>
    rw [hs] at h
    simp at h
    subst h
    rfl
/-- the three results -/
def rW (r : Option (List BB × List II)) : List BB × List II × Bool := match r with | none => ([], [], false) | some (a, b) => (a, b, true)
theorem bad_inst {l p0 p : List UInt8} {k : Nat} (h0 : (splitC 59 l)[0]? = some p0) (hk : (splitC 59 l)[k + 1]? = some p) (hn : instL p = none) : rW (PWoP.implW l) = ([], [], false) := by
  rw [implW_eq h0, insts_none (k := k) (by rw [List.getElem?_drop]; rw [Nat.add_comm]; exact hk) hn]
  rfl
open Classical in
theorem bad_empty {l p0 : List UInt8} (h0 : (splitC 59 l)[0]? = some p0) (h : l = []) : rW (PWoP.implW l) = ([], [], false) := by
  rw [implW_eq h0]
  split
  · rfl
  · rw [if_neg (fun hh => hh.1 h)]; rfl
open Classical in
theorem bad_text {l p0 : List UInt8} {is : List II} (h0 : (splitC 59 l)[0]? = some p0) (hi : PWoP.instsL ((splitC 59 l).drop 1) = some is) (h : fmtW ((splitC 32 p0).map PWoP.clsI) is ≠ bl l) : rW (PWoP.implW l) = ([], [], false) := by
  rw [implW_eq h0, hi]
  show rW (if _ then _ else _) = _
  rw [if_neg (fun hh => h hh.2)]
  rfl
open Classical in
theorem good_text {l p0 : List UInt8} {is : List II} (h0 : (splitC 59 l)[0]? = some p0) (hi : PWoP.instsL ((splitC 59 l).drop 1) = some is) (hl : l ≠ []) (h : fmtW ((splitC 32 p0).map PWoP.clsI) is = bl l) : rW (PWoP.implW l) = ((splitC 32 p0).map PWoP.clsI, is, true) := by
  rw [implW_eq h0, hi]
  show rW (if _ then _ else _) = _
  rw [if_pos ⟨hl, h⟩]
  rfl
/-- a row of another kind of elements stands when a cell is set -/
theorem row_setG {w : World} {base n size : Nat} {v : Value} {xs : List Value} {e0 : TypeId} (ho : w.ownsRow base e0 size v n xs) {k o : Nat} {cs : Array Value} {e : TypeId} {fr : Nat × Nat} (h : w.heap[k]? = some (.cells cs e fr)) (hne : e ≠ e0) (u : Value) : (w.setCell ⟨k, o, none⟩ u).ownsRow base e0 size v n xs := by
  refine ⟨ho.1, ?_⟩
  rcases ho.2 with hn | ⟨g, cap, cur, rfl, hb, hgg, rest⟩
  · exact .inl hn
  · refine .inr ⟨g, cap, cur, rfl, hb, hb_set_ne hgg _ _ (fun (e' : g = k) => ?_), rest⟩
    subst e'
    rw [h] at hgg
    cases hgg
    exact hne rfl
/-- a row of another kind of elements stands when a row grows -/
theorem row_grownG {w w' : World} {base n size base2 n2 size2 : Nat} {v v2 : Value} {xs xs2 : List Value} {e0 e2 : TypeId} (hg : w.grownBy w' v2.ownBlock) (ho : w.ownsRow base e0 size v n xs) (ho2 : w.ownsRow base2 e2 size2 v2 n2 xs2) (hne : e0 ≠ e2) : w'.ownsRow base e0 size v n xs := by
  refine row_grown hg ho fun g hgu e' => ?_
  rcases ho.2 with ⟨rfl, _⟩ | ⟨g1, cap1, cur1, rfl, hb1, hg1, _⟩
  · simp [Value.ownBlock] at hgu
  · rcases ho2.2 with ⟨rfl, _⟩ | ⟨g3, cap3, cur3, rfl, hb3, hg3, _⟩
    · simp [Value.ownBlock] at e'
    · simp [Value.ownBlock] at e' hgu
      subst e'
      subst hgu
      rw [hg1] at hg3
      cases hg3
      exact hne rfl
theorem news_three {w : World} {g : Nat} {u u2 u3 : Value} (h : w.cell? ⟨g, 0, none⟩ = some u) (h2 : w.cell? ⟨g, 1, none⟩ = some u2) (h3 : w.cell? ⟨g, 2, none⟩ = some u3) : ∀ j v, [u, u2, u3][j]? = some v → w.cell? ⟨g, j, none⟩ = some v := by
  intro j v hj
  match j with
  | 0 => simp at hj; rw [← hj]; exact h
  | 1 => simp at hj; rw [← hj]; exact h2
  | 2 => simp at hj; rw [← hj]; exact h3
  | j + 3 => simp at hj
end PWo
end Go.Proofs.YtbdnhcfebgkpdaaDoor
set_option maxRecDepth 100000
namespace Go.Proofs.YtbdnhcfebgkpdaaDoor
open Go.RowKit Ty SplP ListS PIn PInP IRow
namespace PWo
theorem run_tail (fb n : Nat) (hn : 1 ≤ n) (x : World) : ∃ o, (1 < n → o = 1) ∧ (Instr.slice 55 (.slice (some ⟨fb, 0, none⟩) n n) (some (.int .i64 1)) none none).run Tryd.prog x = .ok (.slice (some ⟨fb, o, none⟩) (n - 1) (n - 1)) x := by
  have hs : (sizeOf (Tryd.prog.elem 55)).run Tryd.prog x = .ok 1 x := by rfl
  have h := run_slice_l (P := Tryd.prog) x 55 (some ⟨fb, 0, none⟩) n n (by kernel_rfl) .i64 1 (by omega) (by omega)
  rw [h, hs]
  by_cases e : n = 1
  · subst e
    exact ⟨0, by omega, by simp [Result.andThen, sliced]⟩
  · exact ⟨1, fun _ => rfl, by simp [Result.andThen, sliced, e, Addr.add]⟩
theorem sp_rowG {w : World} {base n cap : Nat} {e : TypeId} {a : Option Addr} {xs : List BB} (ho : w.ownsRow base e 2 (.slice a n cap) xs.length (flat xs)) (hz : ∀ (i : Nat) (p : BB), xs[i]? = some p → p.1.size ≤ maxLen ∧ p.2.size ≤ maxLen) : SP w (.slice a n cap) xs := by
  rcases ho.2 with ⟨h, h0⟩ | ⟨g, c, cur, h, hb, hg, h1, h2, h3, h4⟩
  · have hx := List.length_eq_zero_iff.1 h0
    cases h
    exact .inl ⟨hx, _, _, rfl⟩
  · cases h
    refine .inr ⟨g, 0, cap, rfl, Nat.le_trans h1 h2, fun i p hp => ?_⟩
    obtain ⟨f0, f1⟩ := flat_get xs i p hp
    have r0 := row_cell ho (i * 2) f0
    have r1 := row_cell ho (i * 2 + 1) f1
    obtain ⟨z0, z1⟩ := hz i p hp
    exact ⟨by simpa using r0, by simpa using r1, z0, z1⟩
theorem row_cap {w : World} {base n c size : Nat} {e : TypeId} {a : Option Addr} {xs : List Value} (h : w.ownsRow base e size (.slice a n c) n xs) : n ≤ c := by
  rcases h.2 with ⟨h, h0⟩ | ⟨g, c', cur, h, hb, hg, h1, h2, h3, h4⟩
  · cases h; omega
  · cases h; exact h1
theorem tot_at : ∀ (xs : List BB) (i : Nat) (p : BB), xs[i]? = some p → p.1.size + p.2.size ≤ tot xs
  | [], i, p, h => by simp at h
  | q :: xs, 0, p, h => by
    simp at h
    subst h
    simp [tot]
  | q :: xs, i + 1, p, h => by
    have := tot_at xs i p (by simpa using h)
    simp only [tot, List.map_cons, List.sum_cons] at this ⊢
    omega
theorem itot_at : ∀ (xs : List II) (i : Nat) (p : II), xs[i]? = some p → iw p ≤ itot xs
  | [], i, p, h => by simp at h
  | q :: xs, 0, p, h => by
    simp at h
    subst h
    simp [itot]
  | q :: xs, i + 1, p, h => by
    have := itot_at xs i p (by simpa using h)
    simp only [itot, List.map_cons, List.sum_cons] at this ⊢
    omega
/-- the rows of a world of the call's own are read as a world -/
theorem sp_of {w : World} {base cap : Nat} {e : TypeId} {a : Option Addr} {xs : List BB} (ho : w.ownsRow base e 2 (.slice a xs.length cap) xs.length (flat xs)) (h : tot xs ≤ 1048577) : SP w (.slice a xs.length cap) xs :=
  sp_rowG ho fun i p hp => by have := tot_at xs i p hp; unfold maxLen; exact ⟨by omega, by omega⟩
theorem si_of {w : World} {base n cap : Nat} {a : Option Addr} {is : List II} (h : IR w base (.slice a n cap) is) (hz : itot is ≤ 1048577) : SI w (.slice a n cap) is := by
  refine h.si (fun i p hp => ?_) fun a n cap xs ho hz => sp_rowG ho hz
  have h1 := itot_at is i p hp
  unfold iw at h1
  unfold maxLen
  refine ⟨by omega, by omega, fun j q hq => ?_⟩
  have := tot_at p.2.2 j q hq
  exact ⟨by omega, by omega⟩
end PWo
end Go.Proofs.YtbdnhcfebgkpdaaDoor
