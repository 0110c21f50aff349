/- l13Cut of the reference: a text cut at a byte. Conditions: the text is at most 2^20 bytes long. -/
import Derived.Test.YtbdnhcfebgkpdaaDoorSplP
import Derived.Test.YtbdnhcfebgkpdaaDoorListS
import Derived.Test.YtbdnhcfebgkpdaaDoorKit
import Derived.Test.YtbdnhcfebgkpdaaDoorReg
import Derived.Deep.LoopGhost
set_option linter.unusedVariables false
set_option linter.unusedSimpArgs false
set_option maxRecDepth 100000
namespace Go.Proofs.YtbdnhcfebgkpdaaDoor
open Go.RowKit SplP ListS
namespace CutS
theorem infoStr2 : (Tryd.prog.info? 9).map (fun i => (i.zero, i.size, i.bytes)) = some (some (.string ⟨#[]⟩), 1, 16) := by kernel_rfl
def pieces (ps : List (List UInt8)) : List Value := ps.map fun p => .string ⟨p.toArray⟩
theorem pieces_len (ps : List (List UInt8)) : (pieces ps).length = ps.length := by simp [pieces]
/-- a new slice that holds these texts -/
def PcPost (w : World) (ps : List (List UInt8)) (e : Ending) (w' : World) : Prop := ∃ g cap, e = .returned (.slice (some ⟨g, 0, none⟩) ps.length cap) ∧ w'.ownsRow w.heap.size 9 1 (.slice (some ⟨g, 0, none⟩) ps.length cap) ps.length (pieces ps) ∧ Below w.heap.size w w'
/-- where the cutting stands: at byte k, the piece under way begins at f, D is done -/
def CutI (l : List UInt8) (c : UInt8) (k f : Nat) (D : List (List UInt8)) : Prop := (k ≤ l.length ∧ f ≤ k ∧ c ∉ (l.drop f).take (k - f) ∧ D ++ splitC c (l.drop f) = splitC c l) ∨ (k = l.length + 1 ∧ D = splitC c l)
theorem cut_zero (l : List UInt8) (c : UInt8) : CutI l c 0 0 [] := .inl ⟨Nat.zero_le _, Nat.le_refl _, by simp, rfl⟩
theorem drop_split (l : List UInt8) (f k : Nat) (d : UInt8) (hf : f ≤ k) (hk : l[k]? = some d) : l.drop f = (l.drop f).take (k - f) ++ d :: l.drop (k + 1) := by
  have h1 := (List.take_append_drop (k - f) (l.drop f)).symm
  rw [List.drop_drop, show f + (k - f) = k by omega] at h1
  obtain ⟨hl, hg⟩ := List.getElem?_eq_some_iff.1 hk
  rw [List.drop_eq_getElem_cons hl, hg] at h1
  exact h1
theorem cut_end {l : List UInt8} {c : UInt8} {f : Nat} {D : List (List UInt8)} (h : CutI l c l.length f D) : D ++ [(l.drop f).take (l.length - f)] = splitC c l := by
  rcases h with ⟨-, hf, hc, he⟩ | ⟨h, -⟩
  · have h1 : (l.drop f).take (l.length - f) = l.drop f := List.take_of_length_le (by simp)
    rw [h1] at hc ⊢
    rw [← he, splitC_none hc]
  · omega
theorem cut_hit {l : List UInt8} {c : UInt8} {k f : Nat} {D : List (List UInt8)} (h : CutI l c k f D) (hk : l[k]? = some c) : CutI l c (k + 1) (k + 1) (D ++ [(l.drop f).take (k - f)]) := by
  have hl := (List.getElem?_eq_some_iff.1 hk).1
  rcases h with ⟨-, hf, hc, he⟩ | ⟨h, -⟩
  · refine .inl ⟨hl, Nat.le_refl _, by simp, ?_⟩
    rw [← he]
    conv => rhs; rw [drop_split l f k c hf hk, splitC_at _ hc]
    simp
  · omega
theorem cut_miss {l : List UInt8} {c d : UInt8} {k f : Nat} {D : List (List UInt8)} (h : CutI l c k f D) (hk : l[k]? = some d) (hd : d ≠ c) : CutI l c (k + 1) f D := by
  have hl := (List.getElem?_eq_some_iff.1 hk).1
  rcases h with ⟨-, hf, hc, he⟩ | ⟨h, -⟩
  · refine .inl ⟨hl, by omega, ?_, he⟩
    have : (l.drop f).take (k + 1 - f) = (l.drop f).take (k - f) ++ [d] := by
      have h2 := drop_split l f k d hf hk
      have h3 : ((l.drop f).take (k - f)).length = k - f := by rw [List.length_take, List.length_drop]; omega
      conv => lhs; rw [h2]
      rw [List.take_append, h3, show k + 1 - f - (k - f) = 1 by omega, List.take_of_length_le (by rw [h3]; omega)]
      simp
    rw [this]
    simp only [List.mem_append, List.mem_singleton, not_or]
    exact ⟨hc, Ne.symm hd⟩
  · omega
theorem cut_le {l : List UInt8} {c : UInt8} {k f : Nat} {D : List (List UInt8)} (h : CutI l c k f D) (hk : k ≤ l.length) : f ≤ k := by
  rcases h with h | h
  · exact h.2.1
  · omega
theorem run_cut (l : List UInt8) (f k : Nat) (hf : f ≤ k) (hk : k ≤ l.length) (hl : l.length ≤ 1048576) (x : World) : (Instr.slice 9 (.string ⟨l.toArray⟩) (some (.int .i64 (f : Int))) (some (.int .i64 (k : Int))) none).run Tryd.prog x = .ok (.string ⟨((l.drop f).take (k - f)).toArray⟩) x := by
  rw [run_slice_string x 9 ⟨l.toArray⟩ .i64 .i64 (f : Int) (k : Int) Tryd.underlying9 (by omega) (by omega) (by show (k : Int) ≤ ((ByteArray.mk l.toArray).size : Int); simp [ByteArray.size]; omega)]
  congr 2
  apply ByteArray.ext
  apply Array.ext'
  rw [Int.toNat_natCast, Int.toNat_natCast, ByteArray.data_extract]
  simp [List.take_drop, show f + (k - f) = k by omega]
set_option maxHeartbeats 4000000 in
theorem l13Cut_any (l : List UInt8) (c : UInt8) (w : World) (hl : l.length ≤ 1048576) :
    Calls Tryd.prog 34 #[.string ⟨l.toArray⟩, .int .u8 c.toNat] w (PcPost w (splitC c l)) := by
  go_enter Tryd.func34, Tryd.ntmps34
  go_wp2_with fail
  have HO0 : Hid ((w.alloc (.cells #[] 9)).ownsRow w.heap.size 9 1 (.slice (some ⟨w.heap.size, 0, none⟩) ([] : List (List UInt8)).length 0) ([] : List (List UInt8)).length (pieces [])) := by
    have := World.ownsRow_made (base := w.heap.size) (e := 9) (size := 1) w #[] 0 (by simp) (by simp [maxLen]) rfl
    show World.ownsRow _ _ _ _ _ _ _
    simpa [pieces] using this
  go_loopg [5, 6, 7] (l.length + 1) (fun q o fr i wr => ∃ (k f g cp : Nat) (D : List (List UInt8)), k ≤ l.length + 1 ∧ l.length + 1 - k ≤ q ∧ o = .slice (some ⟨g, 0, none⟩) D.length cp ∧ fr = .int .i64 f ∧ i = .int .i64 k ∧ D.length ≤ k ∧ Hid (CutI l c k f D) ∧ Hid (wr.ownsRow w.heap.size 9 1 (.slice (some ⟨g, 0, none⟩) D.length cp) D.length (pieces D)) ∧ Below w.heap.size w wr)
  case atStart => exact ⟨0, 0, _, 0, [], Nat.zero_le _, by simp, rfl, rfl, rfl, by simp, cut_zero l c, HO0.out, (Below.refl _ _).alloc (Nat.le_refl _) _⟩
  case round =>
    obtain ⟨k, f, g, cp, D, hk, hq, rfl, rfl, rfl, hdl, hci, hO, hb⟩ := hrel
    have HCI := hid hci.out
    have HO := hid hO.out
    have HB := hid hb
    have hbz := hb.size
    clear hci hO hb HO0
    by_cases hlt : k ≤ l.length
    · have hfk := cut_le HCI.out hlt
      have hsl := fun X => run_cut l f k hfk hlt hl X
      by_cases hend : k = l.length
      · subst hend
        have HN : Hid (D ++ [(l.drop f).take (l.length - f)] = splitC c l) := cut_end HCI.out
        generalize (l.drop f).take (l.length - f) = P at *
        go_wp2_with (first
          | (at_builtin; refine app_push_at 55 9 (.string ⟨#[]⟩) 1 16 Tryd.underlying55 infoStr2 rfl (by decide) rfl _ _ rfl w.heap.size (.slice (some ⟨g, 0, none⟩) D.length cp) D.length (pieces D) rfl (World.ownsRow.alloc HO.out _) wr.heap.size 1 [.string ⟨(P).toArray⟩] rfl rfl (news_one (heap_cell (heap_alloc_new _ _) 0)) (by simp [Value.oneCell']) (by unfold maxLen; omega) (by omega) (by first | omega | (simp; omega)) ?_))
        intro g1 cap1 w8 hown hgr hlie
        simp only [World.size_alloc, Value.ownBlock, Option.some.injEq] at hlie
        have hg0 := (row_block HO.out).1
        have HB8 : Hid (Below w.heap.size w w8) := (HB.out.alloc (by omega) _).grown hgr (by first | omega | (simp; omega)) (by simp [Value.ownBlock]; omega)
        have HO8 : Hid (w8.ownsRow w.heap.size 9 1 (.slice (some ⟨g1, 0, none⟩) (D ++ [P]).length cap1) (D ++ [P]).length (pieces (D ++ [P]))) := by
          show World.ownsRow _ _ _ _ _ _ _
          rw [List.length_append]
          simpa [pieces] using hown
        clear hown hgr hsl
        go_wp2_with fail
        go_roundg (l.length + 1 - (l.length + 1))
        case measure => omega
        case rel => exact ⟨l.length + 1, l.length + 1, g1, cap1, D ++ [P], by omega, by omega, by simp, by go_num, by go_num, by simp; omega, .inr ⟨rfl, HN.out⟩, HO8.out, HB8.out⟩
      · have hlt2 : k < l.length := by omega
        have hne : ((k : Int) == (l.length : Int)) = false := by rw [beq_eq_false_iff_ne]; omega
        obtain ⟨d, hd⟩ : ∃ d, l[k]? = some d := ⟨_, List.getElem?_eq_getElem hlt2⟩
        have hget : ∀ h, (ByteArray.mk l.toArray)[k]'h = d := fun h => by
          obtain ⟨h1, rfl⟩ := List.getElem?_eq_some_iff.1 hd
          rfl
        have HD := hid hd
        clear hend hd
        by_cases hdc : d = c
        · subst hdc
          have HN : Hid (CutI l d (k + 1) (k + 1) (D ++ [(l.drop f).take (k - f)])) := cut_hit HCI.out HD.out
          generalize (l.drop f).take (k - f) = P at *
          go_wp2_with (first
            | (at_builtin; refine app_push_at 55 9 (.string ⟨#[]⟩) 1 16 Tryd.underlying55 infoStr2 rfl (by decide) rfl _ _ rfl w.heap.size (.slice (some ⟨g, 0, none⟩) D.length cp) D.length (pieces D) rfl (World.ownsRow.alloc HO.out _) wr.heap.size 1 [.string ⟨(P).toArray⟩] rfl rfl (news_one (heap_cell (heap_alloc_new _ _) 0)) (by simp [Value.oneCell']) (by unfold maxLen; omega) (by omega) (by first | omega | (simp; omega)) ?_))
          intro g1 cap1 w8 hown hgr hlie
          simp only [World.size_alloc, Value.ownBlock, Option.some.injEq] at hlie
          have hg0 := (row_block HO.out).1
          have HB8 : Hid (Below w.heap.size w w8) := (HB.out.alloc (by omega) _).grown hgr (by first | omega | (simp; omega)) (by simp [Value.ownBlock]; omega)
          have HO8 : Hid (w8.ownsRow w.heap.size 9 1 (.slice (some ⟨g1, 0, none⟩) (D ++ [P]).length cap1) (D ++ [P]).length (pieces (D ++ [P]))) := by
            show World.ownsRow _ _ _ _ _ _ _
            rw [List.length_append]
            simpa [pieces] using hown
          clear hown hgr hsl
          go_wp2_with fail
          go_roundg (l.length + 1 - (k + 1))
          case measure => omega
          case rel => exact ⟨k + 1, k + 1, g1, cap1, D ++ [P], by omega, by omega, by simp, by go_num, by go_num, by simp; omega, HN.out, HO8.out, HB8.out⟩
        · have HN : Hid (CutI l c (k + 1) f D) := cut_miss HCI.out HD.out hdc
          have hcd : ((d.toNat : Int) == (c.toNat : Int)) = false := by
            rw [beq_eq_false_iff_ne]
            intro h
            exact hdc (UInt8.toNat_inj.1 (by exact_mod_cast h))
          clear hdc hsl
          go_wp2_with fail
          go_roundg (l.length + 1 - (k + 1))
          case measure => omega
          case rel => exact ⟨k + 1, f, g, cp, D, by omega, by omega, rfl, rfl, by go_num, by omega, HN.out, HO.out, HB.out⟩
    · have hke : k = l.length + 1 := by omega
      have HE : Hid (D = splitC c l) := by
        rcases HCI.out with h | h
        · omega
        · exact h.2
      clear hke
      go_wp2_with fail
      go_ret
      exact ⟨g, cp, by rw [← HE.out]; rfl, by rw [← HE.out]; exact HO.out, HB.out⟩
end CutS
end Go.Proofs.YtbdnhcfebgkpdaaDoor
