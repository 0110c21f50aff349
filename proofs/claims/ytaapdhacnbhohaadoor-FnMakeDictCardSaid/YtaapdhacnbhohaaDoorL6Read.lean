/- The reference's l6Read, DictValid, InstanceOf, SizeOfDict and DepthOfDict at every text. Conditions: the text is at most 2^31 bytes long. -/
import Derived.Test.YtaapdhacnbhohaaDoorL6Node
set_option linter.unusedVariables false
set_option linter.unusedSimpArgs false
set_option maxRecDepth 100000
namespace Go.Proofs.YtaapdhacnbhohaaDoor
open Go.RowKit Dt
namespace L6
theorem node_all (l : List UInt8) (hl : l.length ≤ 1200) (n : Nat) : ∀ i, l.length - i ≤ n → i ≤ l.length → ∀ w b, RD w b l i false → Calls Tryd.prog 100 #[.pointer (some ⟨b, 0, none⟩)] w (NPost w b l i) := by
  induction n with
  | zero =>
    intro i hn hi w b h
    have e : l.drop i = [] := by simp; omega
    exact (atEnd l i (by omega) hi (by omega) w b h).mono fun e' w' hp => NPost.none (by rw [e]; exact rD_nil) hp
  | succ n ih =>
    intro i hn hi w b h
    cases hx : l[i]? with
    | none =>
      have hle : l.length ≤ i := List.getElem?_eq_none_iff.1 hx
      have e : l.drop i = [] := by simp; omega
      exact (atEnd l i (by omega) hi hle w b h).mono fun e' w' hp => NPost.none (by rw [e]; exact rD_nil) hp
    | some c =>
      by_cases hd : dig c
      · exact digit l i c hl hx hd (fun i' h1 h2 w b h => ih i' (by omega) h2 w b h) w b h
      · exact (noDig l i c (by omega) hx hd w b h).mono fun e' w' hp => NPost.none (by rw [cons_drop hx]; exact rD_no hd _) hp

def LRok (w : World) (c : UInt8) (k : F) (e : Ending) (w' : World) : Prop := ∃ s, e = .returned (.tuple #[.agg #[.int .i64 (dv c), s], .bool true]) ∧ SD (fun k => w.heap.size ≤ k) w' c k (.int .i64 (dv c)) s ∧ Below w.heap.size w w'
def LRno (w : World) (e : Ending) (w' : World) : Prop := e = .returned (.tuple #[.agg #[.int .i64 0, .slice none 0 0], .bool false]) ∧ Below w.heap.size w w'
theorem dt_rD {l : List UInt8} {c : UInt8} {k : F} (h : dt l = some (c, k)) : rD l = some (c, k, []) := by
  obtain ⟨rfl, h1, h2, h3, hl⟩ := dt_some h
  have := pD_text h1 h2 h3 (dtext c k).length [] (Nat.le_refl _) (by simp)
  simpa [rD] using this
set_option maxHeartbeats 2000000 in
theorem l6Read_some (l : List UInt8) (c : UInt8) (k : F) (w : World) (h : dt l = some (c, k)) : Calls Tryd.prog 63 #[.string ⟨l.toArray⟩] w (LRok w c k) := by
  have hr := dt_rD h
  obtain ⟨-, -, -, -, hl⟩ := dt_some h
  have ho : ∀ w b, RD w b l 0 false → Calls Tryd.prog 100 #[.pointer (some ⟨b, 0, none⟩)] w (NOk w b l c k l.length) := fun w b hrd => (node_all l hl l.length 0 (by omega) (Nat.zero_le _) w b hrd).mono fun e w' hp => by
    obtain ⟨j, hj, hjd, hok⟩ := hp.1 c k [] (by simpa using hr)
    have : j = l.length := by simp at hjd; omega
    rw [← this]; exact hok
  clear h hr
  go_enter Tryd.func63, Tryd.ntmps63
  go_wp2_with fail
  refine (ho _ (w.heap.size + 1) (heap_alloc2_new w _ _)).mono ?_
  rintro e w1 ⟨hd, sl, rfl, hn, hr, hg⟩
  have k1 : w1.cell? ⟨w.heap.size + 1, 1, none⟩ = some (.int .i64 l.length) := heap_cell hr 1
  have k2 : w1.cell? ⟨w.heap.size + 1, 2, none⟩ = some (.bool false) := heap_cell hr 2
  have hb := grown_keep (k := w.heap.size) hg (hb_alloc (heap_alloc_new w _) _) (by simp)
  have f0 : w1.frozen? ⟨w.heap.size, 0, none⟩ = false := heap_free hb 0
  have f1 : w1.frozen? ⟨w.heap.size, 1, none⟩ = false := heap_free hb 1
  have kr0 : w1.cell? ⟨w.heap.size, 0, none⟩ = some (.int .i64 0) := heap_cell hb 0
  have kr1 : w1.cell? ⟨w.heap.size, 1, none⟩ = some (.slice none 0 0) := heap_cell hb 1
  have hsz := hg.size
  simp only [World.size_alloc] at hsz
  have hlt : w.heap.size < w1.heap.size := by omega
  have hlt2 : w.heap.size + 1 < w1.heap.size := by omega
  have HG := hid hg
  have HB := hid hb
  simp only [World.size_alloc] at hn
  obtain ⟨rfl, sa, sn, sc, rfl⟩ := hn.form
  have HN := hid hn
  clear hn hg hb hr
  go_wp2
  refine bodyPost_ret (results_row_tmp rfl _ _ w.heap.size 85 #[.int .i64 (dv c), .slice sa sn sc] (0, 0) _ rfl (hb_alloc (heap_set (heap_set HB.out 0 _) 1 _) _) Tryd.underlying85 rfl (by kernel_rfl)) rfl ?_
  refine ⟨.slice sa sn sc, rfl, ?_, ?_⟩
  · refine SD.mono (P := fun k => w.heap.size < k) (fun k _ h => Nat.le_of_lt h) (KeepsP.sd ?_ (HN.out.mono (fun k _ h => by show w.heap.size < k; omega)))
    exact ((keepsP_set _ _ _ (by show ¬ (w.heap.size < w.heap.size); omega)).trans (keepsP_set _ _ _ (by show ¬ (w.heap.size < w.heap.size); omega)) (by simp)).trans (keepsP_alloc _ _) (by simp)
  · refine Below.alloc (((?_ : Below w.heap.size w w1).setCell (Nat.le_refl _) _).setCell (Nat.le_refl _) _) (by simp; omega) _
    exact (((Below.refl _ _).alloc (Nat.le_refl _) _).alloc (by simp) _).grown HG.out (by simp; omega) (by simp)

set_option maxHeartbeats 2000000 in
theorem l6Read_none (l : List UInt8) (w : World) (hm : l.length ≤ 2147483648) (h : dt l = none) : Calls Tryd.prog 63 #[.string ⟨l.toArray⟩] w (LRno w) := by
  by_cases hlen : 1200 < l.length
  · clear h
    go_enter Tryd.func63, Tryd.ntmps63
    go_wp2_with fail
    refine bodyPost_ret (results_row_tmp rfl _ _ w.heap.size 85 #[.int .i64 0, .slice none 0 0] (0, 0) _ rfl (heap_alloc_new w _) Tryd.underlying85 rfl (by kernel_rfl)) rfl ?_
    exact ⟨rfl, (Below.refl _ _).alloc (Nat.le_refl _) _⟩
  · have hl : l.length ≤ 1200 := by omega
    clear hlen
    cases hp : rD l with
    | none =>
      have ho : ∀ w b, RD w b l 0 false → Calls Tryd.prog 100 #[.pointer (some ⟨b, 0, none⟩)] w (NNo w b l) := fun w b hrd => (node_all l hl l.length 0 (by omega) (Nat.zero_le _) w b hrd).mono fun e w' hp' => hp'.2 (by simpa using hp)
      clear hp h
      go_enter Tryd.func63, Tryd.ntmps63
      go_wp2_with fail
      refine (ho _ (w.heap.size + 1) (heap_alloc2_new w _ _)).mono ?_
      rintro e w1 ⟨hh, sa, sn, sc, i, rfl, hi, hr, hg⟩
      have k1 : w1.cell? ⟨w.heap.size + 1, 1, none⟩ = some (.int .i64 i) := heap_cell hr 1
      have k2 : w1.cell? ⟨w.heap.size + 1, 2, none⟩ = some (.bool true) := heap_cell hr 2
      have hb := grown_keep (k := w.heap.size) hg (hb_alloc (heap_alloc_new w _) _) (by simp)
      have f0 : w1.frozen? ⟨w.heap.size, 0, none⟩ = false := heap_free hb 0
      have f1 : w1.frozen? ⟨w.heap.size, 1, none⟩ = false := heap_free hb 1
      have kr0 : w1.cell? ⟨w.heap.size, 0, none⟩ = some (.int .i64 0) := heap_cell hb 0
      have kr1 : w1.cell? ⟨w.heap.size, 1, none⟩ = some (.slice none 0 0) := heap_cell hb 1
      have hsz := hg.size
      simp only [World.size_alloc] at hsz
      have hlt : w.heap.size < w1.heap.size := by omega
      have hlt2 : w.heap.size + 1 < w1.heap.size := by omega
      have HG := hid hg
      have HB := hid hb
      clear hg hb hr
      go_wp2
      refine bodyPost_ret (results_row_tmp rfl _ _ w.heap.size 85 #[.int .i64 0, .slice none 0 0] (0, 0) _ rfl (hb_alloc (heap_set (heap_set HB.out 0 _) 1 _) _) Tryd.underlying85 rfl (by kernel_rfl)) rfl ?_
      refine ⟨rfl, ?_⟩
      refine Below.alloc (((?_ : Below w.heap.size w w1).setCell (Nat.le_refl _) _).setCell (Nat.le_refl _) _) (by simp; omega) _
      exact (((Below.refl _ _).alloc (Nat.le_refl _) _).alloc (by simp) _).grown HG.out (by simp; omega) (by simp)
    | some x =>
      obtain ⟨c, k, r⟩ := x
      have hne : r ≠ [] := by
        rintro rfl
        rw [dt_pD_some hp hl] at h; simp at h
      obtain ⟨j, hjl, ho⟩ : ∃ j, j < l.length ∧ True := ⟨l.length - r.length, by have := rD_len hp; have := List.length_pos_iff.2 hne; omega, trivial⟩
      have ho : ∀ w b, RD w b l 0 false → Calls Tryd.prog 100 #[.pointer (some ⟨b, 0, none⟩)] w (fun e w' => ∃ j, j < l.length ∧ NOk w b l c k j e w') := fun w b hrd => (node_all l hl l.length 0 (by omega) (Nat.zero_le _) w b hrd).mono fun e w' hp' => by
        obtain ⟨j, hj, hjd, hok⟩ := hp'.1 c k r (by simpa using hp)
        refine ⟨j, ?_, hok⟩
        rcases Nat.lt_or_ge j l.length with h1 | h1
        · exact h1
        · exact absurd (by rw [← hjd]; simp; omega) hne
      clear hp h hne hjl j
      go_enter Tryd.func63, Tryd.ntmps63
      go_wp2_with fail
      refine (ho _ (w.heap.size + 1) (heap_alloc2_new w _ _)).mono ?_
      rintro e w1 ⟨j, hj, hd, sl, rfl, hn, hr, hg⟩
      obtain ⟨rfl, sa, sn, sc, rfl⟩ := hn.form
      have e1 : ((j : Int) == (l.length : Int)) = false := by rw [beq_eq_false_iff_ne]; omega
      have e2 : ((j : Int) != (l.length : Int)) = true := by rw [bne, e1]; rfl
      have k1 : w1.cell? ⟨w.heap.size + 1, 1, none⟩ = some (.int .i64 j) := heap_cell hr 1
      have k2 : w1.cell? ⟨w.heap.size + 1, 2, none⟩ = some (.bool false) := heap_cell hr 2
      have hb := grown_keep (k := w.heap.size) hg (hb_alloc (heap_alloc_new w _) _) (by simp)
      have f0 : w1.frozen? ⟨w.heap.size, 0, none⟩ = false := heap_free hb 0
      have f1 : w1.frozen? ⟨w.heap.size, 1, none⟩ = false := heap_free hb 1
      have kr0 : w1.cell? ⟨w.heap.size, 0, none⟩ = some (.int .i64 0) := heap_cell hb 0
      have kr1 : w1.cell? ⟨w.heap.size, 1, none⟩ = some (.slice none 0 0) := heap_cell hb 1
      have hsz := hg.size
      simp only [World.size_alloc] at hsz
      have hlt : w.heap.size < w1.heap.size := by omega
      have hlt2 : w.heap.size + 1 < w1.heap.size := by omega
      have HG := hid hg
      have HB := hid hb
      clear hg hb hr hn
      go_wp2
      refine bodyPost_ret (results_row_tmp rfl _ _ w.heap.size 85 #[.int .i64 0, .slice none 0 0] (0, 0) _ rfl (hb_alloc (heap_set (heap_set HB.out 0 _) 1 _) _) Tryd.underlying85 rfl (by kernel_rfl)) rfl ?_
      refine ⟨rfl, ?_⟩
      refine Below.alloc (((?_ : Below w.heap.size w w1).setCell (Nat.le_refl _) _).setCell (Nat.le_refl _) _) (by simp; omega) _
      exact (((Below.refl _ _).alloc (Nat.le_refl _) _).alloc (by simp) _).grown HG.out (by simp; omega) (by simp)

set_option maxHeartbeats 1000000 in
theorem DictValid_spec (l : List UInt8) (w : World) (hl : l.length ≤ 2147483648) : Calls Tryd.prog 22 #[.string ⟨l.toArray⟩] w fun e w' => e = .returned (.bool (dt l).isSome) ∧ Below w.heap.size w w' := by
  skip
  cases h : dt l with
  | none =>
    have ho := l6Read_none l w hl h
    clear h
    go_enter Tryd.func22, Tryd.ntmps22
    go_wp2_with (first
      | (go_at_call 63; refine ho.mono ?_; rintro e w1 ⟨rfl, hb⟩; have HB := hid hb; have hsz := hb.size; clear hb))
    go_ret
    exact ⟨rfl, HB.out.alloc (by omega) _⟩
  | some t =>
    obtain ⟨c, k⟩ := t
    have ho := l6Read_some l c k w h
    clear h
    go_enter Tryd.func22, Tryd.ntmps22
    go_wp2_with (first
      | (go_at_call 63; refine ho.mono ?_; rintro e w1 ⟨sl, rfl, hn, hb⟩; obtain ⟨_, sa, sn, sc, rfl⟩ := hn.form; have HB := hid hb; have hsz := hb.size; clear hb hn))
    go_ret
    exact ⟨rfl, HB.out.alloc (by omega) _⟩
def instS (l : List UInt8) : Int := match dt l with | some (c, _) => dv c | none => -1
set_option maxHeartbeats 1000000 in
theorem InstanceOf_spec (l : List UInt8) (w : World) (hl : l.length ≤ 2147483648) : Calls Tryd.prog 20 #[.string ⟨l.toArray⟩] w fun e w' => e = .returned (.int .i64 (instS l)) ∧ Below w.heap.size w w' := by
  unfold instS
  cases h : dt l with
  | none =>
    have ho := l6Read_none l w hl h
    clear h
    go_enter Tryd.func20, Tryd.ntmps20
    go_wp2_with (first
      | (go_at_call 63; refine ho.mono ?_; rintro e w1 ⟨rfl, hb⟩; have HB := hid hb; have hsz := hb.size; clear hb))
    go_ret
    exact ⟨rfl, HB.out.alloc (by omega) _⟩
  | some t =>
    obtain ⟨c, k⟩ := t
    have ho := l6Read_some l c k w h
    clear h
    go_enter Tryd.func20, Tryd.ntmps20
    go_wp2_with (first
      | (go_at_call 63; refine ho.mono ?_; rintro e w1 ⟨sl, rfl, hn, hb⟩; obtain ⟨_, sa, sn, sc, rfl⟩ := hn.form; have HB := hid hb; have hsz := hb.size; clear hb hn))
    go_ret
    exact ⟨rfl, HB.out.alloc (by omega) _⟩
theorem F.len_le (f : F) : f.len ≤ f.size := by induction f with | nil => simp [F.len, F.size] | cons c k r _ ih => simp [F.len, F.size]; omega
theorem F.depth_le (f : F) : f.depth ≤ f.size := by induction f with | nil => simp [F.depth, F.size] | cons c k r _ ih => simp [F.depth, F.size]; omega
theorem F.size_ct (f : F) : f.size ≤ f.ct.length := by
  induction f with
  | nil => simp [F.size]
  | cons c k r ih1 ih2 =>
    have : k.ct.length ≤ (wrap k.ct).length + 0 := by cases k.ct <;> simp [wrap]
    simp [F.size, F.ct]; omega
theorem F.size_text (c : UInt8) (k : F) : k.size ≤ (dtext c k).length := by
  have h1 := F.size_ct k
  have : k.ct.length ≤ (wrap k.ct).length := by cases k.ct <;> simp [wrap]
  simp [dtext]; omega
theorem row_some {w : World} {base : Nat} {e : TypeId} {size : Nat} {v : Value} {n : Nat} {xs : List Value} (h : w.ownsRow base e size v n xs) (hn : 0 < n) :
    ∃ g cap, v = .slice (some ⟨g, 0, none⟩) n cap ∧ base ≤ g ∧ g < w.heap.size ∧ ∀ j u, xs[j]? = some u → w.cell? ⟨g, j, none⟩ = some u := by
  rcases h.2 with ⟨_, h0⟩ | ⟨g, cap, cur, hv, hb, hg, _⟩
  · omega
  · subst hv
    exact ⟨g, cap, rfl, hb, lt_of_heap hg, fun j u hu => row_cell h j hu⟩



end L6
end Go.Proofs.YtaapdhacnbhohaaDoor
