/- RenameType of both sides: the replacer's Replace. Conditions: those typed. -/
import Derived.Test.YtomfppiinhhiaaaRenS
import Derived.Laws.IdiomStrings
import Derived.Lib.SliceRun
set_option linter.unusedVariables false
set_option linter.unusedSimpArgs false
set_option maxRecDepth 100000
namespace Go.Proofs.Ytomfppiinhhiaaa
open Go.RowKit Ty ListS RenP
namespace Ren
theorem lt_of_cellR {w : World} {a : Addr} {v : Value} (h : w.cell? a = some v) : a.block < w.heap.size := by
  rcases Nat.lt_or_ge a.block w.heap.size with hlt | hge
  · exact hlt
  · have : w.heap[a.block]? = none := Array.getElem?_eq_none_iff.2 hge
    simp [World.cell?, this] at h
theorem cap_nat (c : UInt8) : (cap c).toNat = capN 3 c.toNat := by
  by_cases h1 : c = 120
  · subst h1; decide
  by_cases h2 : c = 121
  · subst h2; decide
  by_cases h3 : c = 122
  · subst h3; decide
  rw [cap_id h1 h2 h3]
  have e : ∀ d : UInt8, c ≠ d → c.toNat ≠ d.toNat := fun d h h' => h (UInt8.toNat_inj.1 h')
  have q1 := e 120 h1
  have q2 := e 121 h2
  have q3 := e 122 h3
  have r1 : (120 : UInt8).toNat = 120 := rfl
  have r2 : (121 : UInt8).toNat = 121 := rfl
  have r3 : (122 : UInt8).toNat = 122 := rfl
  unfold capN
  rw [if_neg (by omega), if_neg (by omega), if_neg (by omega)]
/-- block B holds the text, its first k letters changed -/
def BufS (w : World) (B : Nat) (l : List UInt8) (k : Nat) : Prop := ∃ (bs : Array Value) (n : Nat), w.heap[B]? = some (.cells bs 5 (n, n + 1)) ∧ bs.size = n ∧ l.length ≤ n ∧ ∀ (j : Nat) (c : UInt8), l[j]? = some c → bs[j]? = some (.int .u8 ((if j < k then cap c else c).toNat : Nat))
theorem free_at {w : World} {B n j : Nat} {bs : Array Value} {e : TypeId} (h : w.heap[B]? = some (.cells bs e (n, n + 1))) (hj : j < n) : w.frozen? ⟨B, j, none⟩ = false := by
  unfold World.frozen?
  rw [h]
  simp
  omega
theorem BufS.same {w : World} {B k : Nat} {l : List UInt8} {c : UInt8} (h : BufS w B l k) (hc : l[k]? = some c) (he : cap c = c) : BufS w B l (k + 1) := by
  obtain ⟨bs, n, h1, h2, h3, h4⟩ := h
  refine ⟨bs, n, h1, h2, h3, fun j d hd => ?_⟩
  rw [h4 j d hd]
  by_cases e : j = k
  · subst e
    rw [hc] at hd
    cases hd
    rw [if_neg (by omega), if_pos (by omega), he]
  · by_cases e2 : j < k
    · rw [if_pos e2, if_pos (by omega)]
    · rw [if_neg e2, if_neg (by omega)]
theorem BufS.put {w : World} {B k : Nat} {l : List UInt8} {c : UInt8} (h : BufS w B l k) (hc : l[k]? = some c) : BufS (w.setCell ⟨B, k, none⟩ (.int .u8 ((cap c).toNat : Nat))) B l (k + 1) := by
  obtain ⟨bs, n, h1, h2, h3, h4⟩ := h
  have hk := (List.getElem?_eq_some_iff.1 hc).1
  refine ⟨_, n, heap_set h1 k _, by simp [h2], h3, fun j d hd => ?_⟩
  by_cases e : j = k
  · subst e
    rw [hc] at hd
    cases hd
    rw [Array.getElem?_setIfInBounds_self_of_lt (by omega), if_pos (by omega)]
  · rw [Array.getElem?_setIfInBounds_ne (by omega), h4 j d hd]
    by_cases e2 : j < k
    · rw [if_pos e2, if_pos (by omega)]
    · rw [if_neg e2, if_neg (by omega)]
theorem BufS.made {w : World} {l : List UInt8} {k m : Nat} (hf : (l.take k).map cap = l.take k) : BufS (w.drew.alloc (.cells (bytesRow ⟨l.toArray⟩ m) 5 ((bytesRow ⟨l.toArray⟩ m).size, (bytesRow ⟨l.toArray⟩ m).size + 1))) w.heap.size l k := by
  refine ⟨_, _, heap_alloc_new w.drew _, rfl, by simp [bytesRow], fun j d hd => ?_⟩
  have hj := (List.getElem?_eq_some_iff.1 hd).1
  have h1 : (bytesRow ⟨l.toArray⟩ m)[j]? = some (.int .u8 (d.toNat : Int)) := by
    unfold bytesRow
    rw [Array.getElem?_append_left (by simpa using hj)]
    simp [hd]
  rw [h1]
  by_cases e : j < k
  · rw [if_pos e]
    have h2 : (l.take k)[j]? = some d := by rw [List.getElem?_take_of_lt e]; exact hd
    have h3 : ((l.take k).map cap)[j]? = some (cap d) := by rw [List.getElem?_map, h2]; rfl
    rw [hf, h2] at h3
    have h5 : d = cap d := Option.some.inj h3
    rw [← h5]
  · rw [if_neg e]
set_option maxHeartbeats 8000000 in
theorem breplace_any (T : Nat) (l : List UInt8) (w : World) (hl : l.length ≤ 1048576) (ht : Tab w T) :
    Calls Try.prog 94 #[.pointer (some ⟨T, 0, none⟩), .string ⟨l.toArray⟩] w fun e w' => e = .returned (.string ⟨(l.map cap).toArray⟩) ∧ Below w.heap.size w w' := by
  have HT := hid ht
  have hsz : (ByteArray.mk l.toArray).size = l.length := by simp [ByteArray.size]
  have qT : ∀ (w : World) (a : Option Addr) (n c n' c' : Nat), (binOp .eql 25 (.slice a n c) (.slice none n' c')).run Try.prog w = .ok (.bool a.isNone) w := fun w a n c n' c' => Lib.run_eql_slice_nil w _ _ a n c n' c' Try.underlying25
  clear ht
  go_enter Try.func94, Try.ntmps94
  go_wp2_with fail
  go_loopg [5, 6] l.length (fun q bf i wr => ∃ k : Nat, k ≤ l.length ∧ l.length - k ≤ q ∧ i = .int .i64 k ∧ Below w.heap.size w wr ∧ ((bf = .slice none 0 0 ∧ Hid ((l.take k).map cap = l.take k)) ∨ ∃ B cp, bf = .slice (some ⟨B, 0, none⟩) l.length cp ∧ w.heap.size ≤ B ∧ Hid (BufS wr B l k)))
  case atStart => exact ⟨0, Nat.zero_le _, by simp, rfl, Below.refl _ _, .inl ⟨rfl, rfl⟩⟩
  case round =>
    obtain ⟨k, hk, hq, rfl, hb, hbf⟩ := hrel
    have HB := hid hb
    by_cases hlt : k < l.length
    · obtain ⟨c, hc⟩ : ∃ c, l[k]? = some c := ⟨_, List.getElem?_eq_getElem hlt⟩
      obtain ⟨tb, t1, t2, t3⟩ := (HT.out.below hb)
      have t4 := t3 c.toNat c.toNat_lt
      obtain ⟨cn, hcn⟩ : ∃ n, n = c.toNat := ⟨_, rfl⟩
      obtain ⟨cv, hcv⟩ : ∃ n, n = capN 3 c.toNat := ⟨_, rfl⟩
      have hcl := c.toNat_lt
      rw [← hcv, ← hcn] at t4
      have kt : wr.cell? ⟨T, cn, none⟩ = some (.int .u8 (cv : Nat)) := (heap_cell t1 cn).trans t4
      have hi2 : ((ByteArray.mk l.toArray)[k]'(by rw [hsz]; exact hlt)).toNat = cn := by
        rw [hcn]
        have := (List.getElem?_eq_some_iff.1 hc).2
        rw [← this]
        rfl
      have hi1 : (l[k]'hlt).toNat = cn := hi2
      have hcn2 : cn < 256 := by omega
      have HC := hid hc
      have HCN := hid hcn
      have HCV := hid hcv
      clear hb hc hcn hcv t1 t2 t3 t4 tb hcl
      have HCC : Hid (cap c = c ↔ cv = cn) := by
        show _ ↔ _
        rw [HCV.out, HCN.out, ← cap_nat]
        exact UInt8.toNat_inj.symm
      have HCT : Hid ((cap c).toNat = cv) := by show _ = _; rw [HCV.out]; exact cap_nat c
      by_cases he : cv = cn
      · have hne : (((cv : Nat) : Int) != ((cn : Nat) : Int)) = false := by rw [he]; simp
        have HE := hid (HCC.out.2 he)
        clear he
        have HBF := hid hbf
        clear hbf
        go_wp2_with fail
        go_roundg (l.length - (k + 1))
        case measure => omega
        case rel =>
          refine ⟨k + 1, by omega, by omega, by go_num, HB.out, ?_⟩
          rcases HBF.out with ⟨e1, hf⟩ | ⟨B, cp, e1, hB, hf⟩
          · refine .inl ⟨e1, ?_⟩
            show _ = _
            rw [List.take_add_one, HC.out, List.map_append, hf.out]
            simp [HE.out]
          · exact .inr ⟨B, cp, e1, hB, hf.out.same HC.out HE.out⟩
      · have hne : (((cv : Nat) : Int) != ((cn : Nat) : Int)) = true := by simp; omega
        clear he
        rcases hbf with ⟨rfl, hf⟩ | ⟨B, cp, rfl, hB, hf⟩
        · have HF := hid hf.out
          clear hf
          go_wp2_with fail
          rw [run_bytes_of_string wr 9 25 5 ⟨l.toArray⟩ Try.underlying9 Try.underlying25 Try.underlying5]
          obtain ⟨m, hm⟩ : ∃ m, m = grownCap wr (ByteArray.mk l.toArray).size 0 5 := ⟨_, rfl⟩
          rw [← hm]
          clear hm
          have hBel : Below wr.heap.size wr (wr.drew.alloc (.cells (bytesRow ⟨l.toArray⟩ m) 5 ((bytesRow ⟨l.toArray⟩ m).size, (bytesRow ⟨l.toArray⟩ m).size + 1))) := ((Below.refl _ _).drew).alloc (Nat.le_refl _) _
          have hBuf := BufS.made (w := wr) (m := m) HF.out
          have hzB := HB.out.size
          have kt2 := (hBel.cell (lt_of_cellR kt)).trans kt
          have HB2 : Hid (Below w.heap.size w _) := HB.out.trans (hBel.mono hzB)
          obtain ⟨B, hBe⟩ : ∃ B, B = wr.heap.size := ⟨_, rfl⟩
          rw [← hBe] at hBuf hzB
          rw [← hBe]
          have HF2 := hid hBuf
          clear hBel hBuf kt
          generalize wr.drew.alloc (.cells (bytesRow ⟨l.toArray⟩ m) 5 ((bytesRow ⟨l.toArray⟩ m).size, (bytesRow ⟨l.toArray⟩ m).size + 1)) = w2 at *
          clear hBe
          obtain ⟨bs, n, b1, b2, b3, b4⟩ := HF2.out
          have kb : w2.cell? ⟨B, k, none⟩ = some (.int .u8 (c.toNat : Nat)) := by
            rw [heap_cell b1, b4 k c HC.out, if_neg (by omega)]
          have fb := free_at b1 (show k < n by omega)
          rw [hsz]
          clear b1 b2 b3 b4
          go_wp2_with fail
          go_roundg (l.length - (k + 1))
          case measure => omega
          case rel => exact ⟨k + 1, by omega, by omega, by go_num, HB2.out.setCell hzB _, .inr ⟨B, m, rfl, hzB, (by show BufS _ _ _ _; rw [← HCT.out]; exact HF2.out.put HC.out)⟩⟩
        · have HF := hid hf.out
          obtain ⟨bs, n, b1, b2, b3, b4⟩ := hf.out
          have kb : wr.cell? ⟨B, k, none⟩ = some (.int .u8 (c.toNat : Nat)) := by
            rw [heap_cell b1, b4 k c HC.out, if_neg (by omega)]
          have fb := free_at b1 (show k < n by omega)
          clear hf b1 b2 b3 b4
          go_wp2_with fail
          go_roundg (l.length - (k + 1))
          case measure => omega
          case rel => exact ⟨k + 1, by omega, by omega, by go_num, HB.out.setCell hB _, .inr ⟨B, cp, rfl, hB, (by show BufS _ _ _ _; rw [← HCT.out]; exact HF.out.put HC.out)⟩⟩
    · have hke : k = l.length := by omega
      subst hke
      clear hlt hq hk
      rcases hbf with ⟨rfl, hf⟩ | ⟨B, cp, rfl, hB, hf⟩
      · have hm : l.map cap = l := by have := hf.out; rwa [List.take_length] at this
        have HM := hid hm
        clear hf hm
        go_wp2
        go_ret
        exact ⟨by rw [HM.out]; rfl, HB.out⟩
      · obtain ⟨bs, n, b1, b2, b3, b4⟩ := hf.out
        have hml : (l.map cap).length = l.length := List.length_map _
        have hcb := run_convert_bytes_back (P := Try.prog) wr 25 9 5 ⟨B, 0, none⟩ cp (l.map cap) Try.underlying25 Try.underlying5 Try.underlying9 (fun j hj => by
          have hadd : (⟨B, 0, none⟩ : Addr).add j = ⟨B, j, none⟩ := by unfold Addr.add; split <;> simp_all
          have hjl : j < l.length := by rw [← hml]; exact hj
          rw [hadd, heap_cell b1, b4 j l[j] (List.getElem?_eq_getElem hjl), if_pos hjl]
          simp)
        rw [hml] at hcb
        have HCB := hid hcb
        clear hf b1 b2 b3 b4 hml hcb
        have hcb := HCB.out
        go_wp2
        go_ret
        exact ⟨rfl, HB.out⟩
theorem app_many_r {P : Program} {w : World} (t e : TypeId) (z : Value) (size bytes : Nat) (T : P.underlying t = some (.slice e)) (I : (P.info? e).map (fun i => (i.zero, i.size, i.bytes)) = some (some z, size, bytes)) (Z : z.cells.size = size) (S : 0 < size)
    {ops : Array Oper} {rest : List Oper} {o : Oper} {a : Act} {Q : Exit → Act → World → Prop} (hgd : o.guard = none) (s x : Operand)
    (ho : o.op = .call { callee := .builtin .append, args := #[s, x], argTypes := #[t, t] })
    (base : Nat) (v : Value) (n : Nat) (xs : List Value) (hs : a.eval s = v) (hown : w.ownsRow base e size v n xs)
    (g c m : Nat) (news : List Value) (hx : a.eval x = .slice (some ⟨g, 0, none⟩) m c) (hl : news.length = m * size) (hnews : ∀ j u, news[j]? = some u → w.cell? ⟨g, j, none⟩ = some u) (h1 : ∀ u ∈ news, u.oneCell' = true)
    (hn : n + m ≤ maxLen) (hb : (n + m) * bytes ≤ 140737488355328) (hbase : base ≤ w.heap.size)
    (h : ∀ v' w', w'.ownsRow base e size v' (n + m) (xs ++ news) → w.grownBy w' v.ownBlock → wpList P ops Q rest (a.put o.dst v') w') : wpList P ops Q (o :: rest) a w := by
  obtain ⟨i, hi, hz0, hz1, hz2⟩ := info_parts I
  refine wpList_append_own w hgd s x t ho base e i z size bytes T hi hz0 hz1 hz2 Z S v n xs hs hown ⟨g, 0, none⟩ m c news hx hl ?_ h1 hn hb hbase fun v' w' h2 h3 _ => h v' w' h2 h3
  intro j u hj
  have hadd : (⟨g, 0, none⟩ : Addr).add j = ⟨g, j, none⟩ := by unfold Addr.add; split <;> simp_all
  rw [hadd]
  exact hnews j u hj
theorem infoStrR : (Try.prog.info? 9).map (fun i => (i.zero, i.size, i.bytes)) = some (some (.string ⟨#[]⟩), 1, 16) := by kernel_rfl
set_option maxHeartbeats 4000000 in
theorem new_any (g : Nat) (w : World) (hg : w.heap[g]? = some (.cells six 9 (0, 0))) :
    Calls Try.prog 9 #[.slice (some ⟨g, 0, none⟩) 6 6] w fun e w' => ∃ b g2 c2 : Nat, e = .returned (.pointer (some ⟨b, 0, none⟩)) ∧ w'.heap[b]? = some (.cells #[.int .u32 0, .int .i32 0, .int .u32 0, .nilIface, .slice (some ⟨g2, 0, none⟩) 6 c2] 52 (0, 0)) ∧ Six w' g2 ∧ w.heap.size ≤ b ∧ Below w.heap.size w w' := by
  have HG := hid hg
  have hgl := lt_of_heap hg
  clear hg
  go_enter Try.func9, Try.ntmps9
  go_wp2_with (first
    | (at_builtin; refine app_many_r 36 9 (.string ⟨#[]⟩) 1 16 Try.underlying36 infoStrR rfl (by decide) rfl _ _ rfl w.heap.size (.slice none 0 0) 0 [] rfl ⟨by simp, .inl ⟨rfl, rfl⟩⟩ g 6 6 six.toList (by simp [go_sem]) (by decide) (fun j u hu => by rw [heap_cell HG.out]; simpa using hu) (by decide) (by unfold maxLen; omega) (by omega) (Nat.le_refl _) ?_))
  intro v' w1 hown hgr
  have hown2 : w1.ownsRow w.heap.size 9 1 v' 6 six.toList := by simpa using hown
  obtain ⟨g2, c2, e1, hg2, hg2l, cs, hc1, hc2⟩ := row_at hown2 (by decide)
  subst e1
  have HS : Hid (Six w1 g2) := ⟨cs, hc1, fun j u hu => hc2 j u (by simpa using hu)⟩
  have HB : Hid (Below w.heap.size w w1) := (Below.refl _ _).grown hgr (Nat.le_refl _) (fun g hg => by simp [Value.ownBlock] at hg)
  clear hown hgr hown2 hc1 hc2
  go_wp2
  go_ret
  exact ⟨w1.heap.size, g2, c2, rfl, heap_alloc_new _ _, HS.out.below ((Below.refl _ _).alloc (Nat.le_refl _) _), HB.out.size, HB.out.alloc HB.out.size _⟩
set_option maxHeartbeats 4000000 in
theorem replace_any (b g c : Nat) (l : List UInt8) (w : World) (hl : l.length ≤ 1048576) (hb : w.heap[b]? = some (.cells #[.int .u32 0, .int .i32 0, .int .u32 0, .nilIface, .slice (some ⟨g, 0, none⟩) 6 c] 52 (0, 0))) (hg : Six w g) :
    Calls Try.prog 10 #[.pointer (some ⟨b, 0, none⟩), .string ⟨l.toArray⟩] w fun e w' => e = .returned (.string ⟨(l.map cap).toArray⟩) ∧ w.grownBy w' (some b) := by
  have HB := hid hb
  have HG := hid hg
  clear hb hg
  have hmf : ∀ (fn : Fn) (first cap : Array Value) (w : World), (Instr.makeFunc fn first cap).run Try.prog w = .ok (.func fn first cap) w := fun _ _ _ _ => rfl
  go_enter Try.func10, Try.ntmps10
  go_wp2_with fail
  refine (do_first b g c (.int .u32 0) .nilIface w HB.out HG.out).mono ?_
  rintro e w1 ⟨rfl, T, ht, hne, hh, hgr⟩
  have k3 := heap_cell hh 3
  have HT := hid ht
  have HGR := hid hgr
  clear ht hh hgr
  have hm : ∀ w, (method 272 80 (.pointer (some ⟨T, 0, none⟩)) "Replace").run Try.prog w = .ok (94, .pointer (some ⟨T, 0, none⟩)) w := fun _ => by kernel_rfl
  go_wp2_with fail
  refine (breplace_any T l w1 hl HT.out).mono ?_
  rintro e w2 ⟨rfl, hb⟩
  have HG2 := hid (grown_trans HGR.out (gbR hb _))
  clear hb hm
  go_wp2
  go_ret
  exact ⟨rfl, HG2.out⟩
end Ren
end Go.Proofs.Ytomfppiinhhiaaa
