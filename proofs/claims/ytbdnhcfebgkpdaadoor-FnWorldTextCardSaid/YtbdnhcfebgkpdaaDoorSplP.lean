/- Texts cut at a byte: plain facts. Conditions: none. -/
import Derived.Lib.Split
import Derived.Lib.SplitLaws
import Derived.Lib.IndexBytes
import Derived.Lib.Join
import Derived.Test.YtbdnhcfebgkpdaaDoorStr
namespace Go.Proofs.YtbdnhcfebgkpdaaDoor
namespace SplP
open Go
def splitC (c : UInt8) : List UInt8 → List (List UInt8)
  | [] => [[]]
  | x :: l => if x = c then [] :: splitC c l else match splitC c l with | [] => [[x]] | p :: ps => (x :: p) :: ps
theorem splitC_ne (c : UInt8) : ∀ l, splitC c l ≠ []
  | [] => by simp [splitC]
  | x :: l => by unfold splitC; split; simp; split <;> simp
theorem splitC_none {c : UInt8} : ∀ {l : List UInt8}, c ∉ l → splitC c l = [l]
  | [], _ => rfl
  | x :: l, h => by
    have h1 : c ∉ l := fun e => h (List.mem_cons_of_mem _ e)
    have h2 : x ≠ c := fun e => h (by simp [e])
    unfold splitC
    rw [if_neg h2, splitC_none h1]
theorem splitC_at {c : UInt8} : ∀ {a : List UInt8} (b : List UInt8), c ∉ a → splitC c (a ++ c :: b) = a :: splitC c b
  | [], b, _ => by show splitC c (c :: b) = _; rw [splitC, if_pos rfl]
  | x :: a, b, h => by
    have h1 : c ∉ a := fun e => h (List.mem_cons_of_mem _ e)
    have h2 : x ≠ c := fun e => h (by simp [e])
    rw [List.cons_append, splitC, if_neg h2, splitC_at b h1]
theorem cut_first (c : UInt8) : ∀ l : List UInt8, c ∉ l ∨ ∃ a b, l = a ++ c :: b ∧ c ∉ a
  | [] => .inl (by simp)
  | x :: l => by
    by_cases h : x = c
    · exact .inr ⟨[], l, by simp [h], by simp⟩
    · rcases cut_first c l with h1 | ⟨a, b, rfl, h2⟩
      · exact .inl (by simp [Ne.symm h, h1])
      · exact .inr ⟨x :: a, b, by simp, by simp [Ne.symm h, h2]⟩
theorem index_none {c : UInt8} {l : List UInt8} (h : c ∉ l) : Lib.index l [c] = -1 := by
  rw [Lib.index_one]
  exact indexByte_neg l c fun j hj e => h (List.mem_of_getElem? e)
theorem index_at {c : UInt8} {a : List UInt8} (b : List UInt8) (h : c ∉ a) : Lib.index (a ++ c :: b) [c] = a.length := by
  rw [Lib.index_one]
  refine indexByte_at _ c a.length (by simp) fun j hj e => h ?_
  rw [List.getElem?_append_left hj] at e
  exact List.mem_of_getElem? e
theorem splitK_C (c : UInt8) : ∀ (n : Nat) (l : List UInt8), l.length ≤ n → Lib.splitK [c] 0 (l.count c) l = splitC c l := by
  intro n
  induction n with
  | zero => intro l hl; have : l = [] := by simpa using hl
            subst this; rfl
  | succ n ih =>
    intro l hl
    rcases cut_first c l with h | ⟨a, b, rfl, h⟩
    · rw [List.count_eq_zero.2 h, splitC_none h]; rfl
    · have hc : (a ++ c :: b).count c = b.count c + 1 := by
        rw [List.count_append, List.count_cons_self, List.count_eq_zero.2 h]; omega
      rw [hc, splitC_at b h, Lib.splitK, index_at b h, if_neg (by simp)]
      have e1 : (a ++ c :: b).take (((a.length : Nat) : Int).toNat + 0) = a := by simp
      have e2 : (a ++ c :: b).drop (((a.length : Nat) : Int).toNat + [c].length) = b := by
        rw [show ((a.length : Nat) : Int).toNat + [c].length = (a ++ [c]).length by simp, show a ++ c :: b = (a ++ [c]) ++ b by simp]
        exact List.drop_left
      rw [e1, e2, ih b (by simp at hl; omega)]

theorem splitC_pieces {c : UInt8} : ∀ {l : List UInt8}, ∀ p ∈ splitC c l, c ∉ p
  | [], p, hp => by simp [splitC] at hp; subst hp; simp
  | x :: l, p, hp => by
    unfold splitC at hp
    split at hp
    · rw [List.mem_cons] at hp
      rcases hp with rfl | hp
      · simp
      · exact splitC_pieces p hp
    · rename_i hx
      split at hp
      · simp at hp; subst hp; simp [Ne.symm hx]
      · rename_i q qs hq
        rw [List.mem_cons] at hp
        rcases hp with rfl | hp
        · have := splitC_pieces (l := l) q (by rw [hq]; simp)
          simp [Ne.symm hx, this]
        · exact splitC_pieces (l := l) p (by rw [hq]; simp [hp])
theorem splitC_len (c : UInt8) (l : List UInt8) : (splitC c l).length = l.count c + 1 := by
  induction l with
  | nil => rfl
  | cons x l ih =>
    unfold splitC
    split
    · rename_i h; subst h; simp [ih]
    · rename_i h
      rw [List.count_cons_of_ne h]
      split
      · rename_i e; rw [e] at ih; simp at ih
      · rename_i p ps e; rw [e] at ih; simpa using ih
/-- what is cut at its marks is the text -/
theorem splitC_join (c : UInt8) : ∀ l, Lib.join (splitC c l) [c] = l
  | [] => rfl
  | x :: l => by
    have ih := splitC_join c l
    unfold splitC
    split
    · rename_i h
      subst h
      cases hs : splitC x l with
      | nil => exact absurd hs (splitC_ne x l)
      | cons p ps =>
        rw [hs] at ih
        rw [Lib.join_cons] at ih ⊢
        simp only [Lib.joinTail, List.map_cons, List.flatten_cons, List.nil_append] at ih ⊢
        rw [List.append_assoc, ih]; rfl
    · split
      · rename_i e; exact absurd e (splitC_ne c l)
      · rename_i p ps e
        rw [e, Lib.join_cons] at ih
        rw [Lib.join_cons, List.cons_append, ih]
end SplP
end Go.Proofs.YtbdnhcfebgkpdaaDoor
