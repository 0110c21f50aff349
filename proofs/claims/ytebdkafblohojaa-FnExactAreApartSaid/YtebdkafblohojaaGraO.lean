/- What share keeps while it makes nodes. Conditions: none. -/
import Derived.Test.YtebdkafblohojaaGraW
import Derived.Test.YtebdkafblohojaaAptP
import Derived.Test.YtebdkafblohojaaParts
set_option linter.unusedVariables false
set_option linter.unusedSimpArgs false
set_option maxRecDepth 100000
namespace Go.Proofs.Ytebdkafblohojaa
open Go.RowKit Ty
namespace GraO
open GraP PtrM ListS AptP GraW
theorem KC.inode {w w' : World} (h : KC w w') : ∀ {t : Ty} {lo b : Nat}, INode lo w t b → INode lo w' t b := by
  intro t
  induction t with
  | leaf c => intro lo b ⟨hl, v, h1, h2⟩; exact ⟨hl, v, h _ _ _ _ h1, h.row h2⟩
  | one c t ih => intro lo b ⟨hl, v, p, h1, h2, h3⟩; exact ⟨hl, v, p, h _ _ _ _ h1, h.row h2, ih h3⟩
  | two c t u ih1 ih2 => intro lo b ⟨hl, v, p, q, h1, h2, h3, h4⟩; exact ⟨hl, v, p, q, h _ _ _ _ h1, h.row h2, ih1 h3, ih2 h4⟩
theorem cellG {w w' : World} {mb g o : Nat} {v : Value} (h : w.grownBy w' (some mb)) (hg : g < w.heap.size) (hne : g ≠ mb) (hc : w.cell? ⟨g, o, none⟩ = some v) : w'.cell? ⟨g, o, none⟩ = some v := by
  have e := h.block g hg (fun e => hne (by cases e; rfl))
  rw [← hc]
  simp [World.cell?, e]
/-- what share keeps: the names, the nodes; those from z0 on stand for types -/
structure ST (w : World) (mb n : Nat) (sc : Sco) (N : Nds) (z0 : Nat) : Prop where
  wh : Wh N
  pm : PM w mb n sc
  sce : ∀ c b, sc c = some b → N b = some (c, []) ∧ z0 ≤ b
  news : ∀ k v, N k = some v → z0 ≤ k → ∃ t, Rep N sc k t
  lt : ∀ k v, N k = some v → k < w.heap.size
  scv : ∀ c b, sc c = some b → isV c = true
structure SS (w0 w : World) (mb n : Nat) (sc : Sco) (N N0 : Nds) (sc0 : Sco) (z0 : Nat) (B : Nat → Prop) : Prop where
  st : ST w mb n sc N z0
  gh : GH w N L0 B
  sub : ∀ k v, N0 k = some v → N k = some v
  scs : ∀ c b, sc0 c = some b → sc c = some b
  gr : w0.grownBy w (some mb)
  new : ∀ k v, N k = some v → N0 k = some v ∨ w0.heap.size ≤ k
/-- a node is open in block O -/
structure OS (w0 w : World) (mb n : Nat) (sc : Sco) (N N0 : Nds) (sc0 : Sco) (z0 : Nat) (B : Nat → Prop) (O : Nat) (c : UInt8) (bs : List Nat) (a : Option Addr) (cap : Nat) : Prop where
  st : ST w mb n sc N z0
  gh : GH w N L0 (fun k => B k ∨ (Value.slice a bs.length cap).ownBlock = some k)
  sub : ∀ k v, N0 k = some v → N k = some v
  scs : ∀ c b, sc0 c = some b → sc c = some b
  gr : w0.grownBy w (some mb)
  new : ∀ k v, N k = some v → N0 k = some v ∨ w0.heap.size ≤ k
  no : N O = none
  ob : w.heap[O]? = some (.cells #[.string ⟨#[c]⟩, .slice a bs.length cap, .pointer none] 54 (0, 0))
  row : w.ownsRow (O + 1) 33 1 (.slice a bs.length cap) bs.length (bs.map ptr)
  le : w0.heap.size ≤ O
  mbl : mb < w0.heap.size
  hB : ∀ k, B k → k < w0.heap.size
theorem PM.below {w w' : World} {mb n : Nat} {sc : Sco} (h : PM w mb n sc) (hb : Below w.heap.size w w') : PM w' mb n sc := h.heap (hb.block _ h.lt)
theorem ST.below {w w' : World} {mb n z0 : Nat} {sc : Sco} {N : Nds} (h : ST w mb n sc N z0) (hb : Below w.heap.size w w') : ST w' mb n sc N z0 := ⟨h.wh, PM.below h.pm hb, h.sce, h.news, fun k v hk => Nat.lt_of_lt_of_le (h.lt k v hk) hb.size, h.scv⟩
theorem gb' {w w' : World} (h : Below w.heap.size w w') (row : Option Nat) : w.grownBy w' row := ⟨h.os, h.tape, h.output, h.size, fun k hk _ => h.block k hk⟩
theorem below_drw {B : Nat} {w w' : World} (h : Below B w w') : Below B w w'.drew := ⟨h.os, h.tape, h.output, h.size, h.block⟩
variable {w0 w w' : World} {mb n n' z0 : Nat} {sc sc' sc0 : Sco} {N N' N0 : Nds} {B : Nat → Prop} {O : Nat} {c : UInt8} {bs : List Nat} {a : Option Addr} {cap : Nat}
theorem SS.start (h : ST w mb n sc N z0) (hg : GH w N L0 B) : SS w w mb n sc N N sc z0 B := ⟨h, hg, fun _ _ h => h, fun _ _ h => h, gb' (Below.refl _ _) _, fun _ _ h => .inl h⟩
theorem SS.below (h : SS w0 w mb n sc N N0 sc0 z0 B) (hb : Below w.heap.size w w') : SS w0 w' mb n sc N N0 sc0 z0 B := ⟨h.st.below hb, h.gh.kc (KC.below hb), h.sub, h.scs, grown_trans h.gr (gb' hb _), h.new⟩
theorem SS.mono (h : SS w0 w mb n sc N N0 sc0 z0 B) (hn : n ≤ n') : SS w0 w mb n' sc N N0 sc0 z0 B := ⟨⟨h.st.wh, h.st.pm.mono hn, h.st.sce, h.st.news, h.st.lt, h.st.scv⟩, h.gh, h.sub, h.scs, h.gr, h.new⟩
theorem OS.init (h : ST w mb n sc N z0) (hg : GH w N L0 B) (hB : ∀ k, B k → k < w.heap.size) (c : UInt8) : OS w (w.alloc (.cells #[.string ⟨#[c]⟩, .slice none 0 0, .pointer none] 54 (0, 0))) mb n sc N N sc z0 B w.heap.size c [] none 0 where
  st := h.below ((Below.refl _ _).alloc (Nat.le_refl _) _)
  gh := (hg.kc (KC.below ((Below.refl _ _).alloc (Nat.le_refl _) _))).mono (fun k hk => by rcases hk with hk | hk; exact hk; simp [Value.ownBlock] at hk)
  sub := fun _ _ h => h
  scs := fun _ _ h => h
  gr := gb' ((Below.refl _ _).alloc (Nat.le_refl _) _) _
  new := fun _ _ h => .inl h
  no := by
    cases e : N w.heap.size with
    | none => rfl
    | some v => have := h.lt _ _ e; omega
  ob := heap_alloc_new _ _
  row := World.ownsRow_nil _ _ _ _
  le := Nat.le_refl _
  mbl := h.pm.lt
  hB := hB
theorem OS.drew (h : OS w0 w mb n sc N N0 sc0 z0 B O c bs a cap) : OS w0 w.drew mb n sc N N0 sc0 z0 B O c bs a cap where
  st := h.st.below (below_drw (Below.refl _ _))
  gh := h.gh.kc (KC.below (below_drw (Below.refl _ _)))
  sub := h.sub
  scs := h.scs
  gr := grown_trans h.gr (gb' (below_drw (Below.refl _ _)) _)
  new := h.new
  no := h.no
  ob := h.ob
  row := KC.row (KC.below (below_drw (Below.refl _ _))) h.row
  le := h.le
  mbl := h.mbl
  hB := h.hB
theorem OS.bnd (h : OS w0 w mb n sc N N0 sc0 z0 B O c bs a cap) : ∀ k, (B k ∨ (Value.slice a bs.length cap).ownBlock = some k) → k < w.heap.size := by
  rintro k (hk | hk)
  · exact Nat.lt_of_lt_of_le (h.hB k hk) h.gr.size
  · rcases h.row.2 with ⟨e, _⟩ | ⟨g, cap', cur, e, _, hg, _⟩
    · rw [e] at hk; simp [Value.ownBlock] at hk
    · rw [e] at hk; simp [Value.ownBlock] at hk; subst hk; exact lt_of_heap hg
/-- a part was shared -/
theorem OS.after (h : OS w0 w mb n sc N N0 sc0 z0 B O c bs a cap) (k : SS w w' mb n' sc' N' N sc z0 (fun k => B k ∨ (Value.slice a bs.length cap).ownBlock = some k)) : OS w0 w' mb n' sc' N' N0 sc0 z0 B O c bs a cap where
  st := k.st
  gh := k.gh
  sub := fun i v hi => k.sub i v (h.sub i v hi)
  scs := fun i v hi => k.scs i v (h.scs i v hi)
  gr := grown_trans h.gr k.gr
  new := fun i v hi => by
    rcases k.new i v hi with h1 | h1
    · exact h.new i v h1
    · exact .inr (Nat.le_trans h.gr.size h1)
  no := by
    cases e : N' O with
    | none => rfl
    | some v =>
      rcases k.new O v e with h1 | h1
      · rw [h.no] at h1; simp at h1
      · have := lt_of_heap h.ob; omega
  ob := KC.map k.gr h.st.pm.isMap _ _ _ _ h.ob
  row := KC.row (KC.map k.gr h.st.pm.isMap) h.row
  le := h.le
  mbl := h.mbl
  hB := h.hB
theorem own_ne {v : Value} {base m size : Nat} {e : TypeId} {xs : List Value} (h : w.ownsRow base e size v m xs) {k : Nat} (hk : v.ownBlock = some k) : ∃ cur, w.heap[k]? = some (.cells cur e (0, 0)) := by
  rcases h.2 with ⟨rfl, _⟩ | ⟨g, cap, cur, rfl, _, hg, _⟩
  · simp [Value.ownBlock] at hk
  · simp [Value.ownBlock] at hk; subst hk; exact ⟨_, hg⟩
theorem OS.ob8 (h : OS w0 w mb n sc N N0 sc0 z0 B O c bs a cap) {news : Obj} {w8 : World} (hgr : (w.alloc news).grownBy w8 (Value.slice a bs.length cap).ownBlock) : w8.heap[O]? = some (.cells #[.string ⟨#[c]⟩, .slice a bs.length cap, .pointer none] 54 (0, 0)) := by
  refine ((hgr.block O (by have := lt_of_heap h.ob; simp; omega) (fun e => ?_)).trans (Below.heap_alloc _ _ _ (lt_of_heap h.ob))).trans h.ob
  obtain ⟨cur, hc⟩ := own_ne h.row e.symm
  have := h.ob
  rw [hc] at this
  simp at this
/-- a part is pushed -/
theorem OS.push (h : OS w0 w mb n sc N N0 sc0 z0 B O c bs a cap) {news : Obj} {w8 : World} {g1 cap1 b : Nat} (hgr : (w.alloc news).grownBy w8 (Value.slice a bs.length cap).ownBlock)
    (hown : w8.ownsRow (O + 1) 33 1 (.slice (some ⟨g1, 0, none⟩) (bs.length + 1) cap1) (bs.length + 1) (bs.map ptr ++ [ptr b])) (hlie : (Value.slice a bs.length cap).ownBlock = some g1 ∨ g1 = (w.alloc news).heap.size) :
    OS w0 (w8.setCell ⟨O, 1, none⟩ (.slice (some ⟨g1, 0, none⟩) (bs.length + 1) cap1)) mb n sc N N0 sc0 z0 B O c (bs ++ [b]) (some ⟨g1, 0, none⟩) cap1 := by
  -- blocks that stay
  have hkeep : ∀ k, k < w.heap.size → (Value.slice a bs.length cap).ownBlock ≠ some k → w8.heap[k]? = w.heap[k]? := fun k hk hne => (hgr.block k (by simp; omega) (fun e => hne e.symm)).trans (Below.heap_alloc _ _ _ hk)
  have hstay : ∀ (k : Nat) (cs : Array Value) (e : TypeId), w.heap[k]? = some (.cells cs e (0, 0)) → e ≠ 33 → w8.heap[k]? = some (.cells cs e (0, 0)) := fun k cs e hk hne => (hkeep k (lt_of_heap hk) (fun hb => by
    obtain ⟨cur, hc⟩ := own_ne h.row hb
    rw [hc] at hk
    simp at hk
    exact hne hk.2.symm)).trans hk
  have hsz : w.heap.size ≤ w8.heap.size := Nat.le_trans (by simp) hgr.size
  have hOB : w8.heap[O]? = some (.cells #[.string ⟨#[c]⟩, .slice a bs.length cap, .pointer none] 54 (0, 0)) := hstay _ _ _ h.ob (by decide)
  have hmb : w8.heap[mb]? = w.heap[mb]? := hkeep mb h.st.pm.lt (fun hb => by
    obtain ⟨cur, hc⟩ := own_ne h.row hb
    obtain ⟨es, k, hm⟩ := h.st.pm.isMap
    rw [hc] at hm
    simp at hm)
  have hmO : mb ≠ O := fun e => by have := h.mbl; have := h.le; omega
  refine ⟨⟨h.st.wh, (h.st.pm.heap hmb).heap (Below.heap_setCell _ _ _ _ hmO), h.st.sce, h.st.news, fun k v hk => by simp; exact Nat.lt_of_lt_of_le (h.st.lt k v hk) hsz, h.st.scv⟩, ?_, h.sub, h.scs, ?_, h.new, h.no, ?_, ?_, h.le, h.mbl, h.hB⟩
  · intro k ck ps hk
    obtain ⟨v, q1, q2, q3⟩ := h.gh k ck ps hk
    have hkO : k ≠ O := fun e => by subst e; rw [h.no] at hk; simp at hk
    refine ⟨v, (Below.heap_setCell _ _ _ _ hkO).trans (hstay _ _ _ q1 (by decide)), ⟨q2.1, ?_⟩, ?_⟩
    · rcases q2.2 with q4 | ⟨g, cap', cur, q4, q5, q6, r⟩
      · exact .inl q4
      · refine .inr ⟨g, cap', cur, q4, q5, (Below.heap_setCell _ _ _ _ (by show g ≠ O; exact (heap_ne q6 h.ob (by decide)))).trans ((hkeep g (lt_of_heap q6) (fun hb => q3 g (by rw [q4]; rfl) (.inr hb))).trans q6), r⟩
    · intro g hg hgb
      rcases hgb with hgb | hgb
      · exact q3 g hg (.inl hgb)
      · simp [Value.ownBlock] at hgb
        subst hgb
        rcases hlie with h1 | h1
        · exact q3 g1 hg (.inr h1)
        · obtain ⟨cur, hc⟩ := own_ne q2 hg
          have := lt_of_heap hc
          simp at h1
          omega
  · refine ⟨hgr.os.trans h.gr.os, hgr.tape.trans h.gr.tape, hgr.output.trans h.gr.output, by simp; exact Nat.le_trans h.gr.size hsz, fun k hk hne => ?_⟩
    have hkO : k ≠ O := fun e => by have := h.le; omega
    rw [Below.heap_setCell _ _ _ _ hkO, hkeep k (Nat.lt_of_lt_of_le hk h.gr.size) ?_]
    · exact h.gr.block k hk hne
    · intro hb
      rcases h.row.2 with ⟨e, _⟩ | ⟨g, cap', cur, e, hl, hg, _⟩
      · rw [e] at hb; simp [Value.ownBlock] at hb
      · rw [e] at hb; simp [Value.ownBlock] at hb; subst hb; have := h.le; omega
  · have := heap_set hOB 1 (.slice (some ⟨g1, 0, none⟩) (bs.length + 1) cap1)
    rw [this]
    simp
  · have e1 : (bs ++ [b]).length = bs.length + 1 := by simp
    have e2 : (bs ++ [b]).map ptr = bs.map ptr ++ [ptr b] := by simp
    rw [e1, e2]
    refine ⟨hown.1, ?_⟩
    rcases hown.2 with q4 | ⟨g, cap', cur, q4, q5, q6, r⟩
    · exact .inl q4
    · exact .inr ⟨g, cap', cur, q4, q5, (Below.heap_setCell _ _ _ _ (by show g ≠ O; omega)).trans q6, r⟩
def nput (N : Nds) (O : Nat) (v : UInt8 × List Nat) : Nds := fun k => if k = O then some v else N k
theorem nput_same (N : Nds) (O : Nat) (v : UInt8 × List Nat) : nput N O v O = some v := by simp [nput]
theorem nput_ne {O k : Nat} {v : UInt8 × List Nat} (h : k ≠ O) : nput N O v k = N k := by simp [nput, h]
theorem nput_sub {O : Nat} {v : UInt8 × List Nat} (h : N O = none) : ∀ k u, N k = some u → nput N O v k = some u := fun k u hk => by
  rw [nput_ne (fun e => by subst e; rw [h] at hk; simp at hk)]; exact hk
theorem wh_put {v : UInt8 × List Nat} (h : Wh N) (hO : N O = none) (hl : ar v.1 = some v.2.length) (hp : ∀ p ∈ v.2, ∃ x, N p = some x) : Wh (nput N O v) := by
  refine ⟨fun k c ps hk p hpp => ?_, fun k c ps hk => ?_⟩
  · have hx : ∃ x, N p = some x := by
      by_cases e : k = O
      · subst e; rw [nput_same] at hk; cases hk; exact hp p hpp
      · rw [nput_ne e] at hk; exact h.parts k c ps hk p hpp
    obtain ⟨x, hx⟩ := hx
    exact ⟨x, nput_sub hO _ _ hx⟩
  · by_cases e : k = O
    · subst e; rw [nput_same] at hk; cases hk; exact hl
    · rw [nput_ne e] at hk; exact h.len k c ps hk
/-- the node is made -/
theorem OS.close (h : OS w0 w mb n sc N N0 sc0 z0 B O c bs a cap) (hz : z0 ≤ w0.heap.size) (hl : ar c = some bs.length) {t : Ty} (hr : Rep (nput N O (c, bs)) sc O t) (hp : ∀ p ∈ bs, ∃ x, N p = some x) : SS w0 w mb n sc (nput N O (c, bs)) N0 sc0 z0 B where
  st := ⟨wh_put h.st.wh h.no hl hp, h.st.pm, fun d b hd => ⟨nput_sub h.no _ _ (h.st.sce d b hd).1, (h.st.sce d b hd).2⟩, fun k v hk hzk => by
    by_cases e : k = O
    · subst e; exact ⟨t, hr⟩
    · rw [nput_ne e] at hk
      obtain ⟨u, hu⟩ := h.st.news k v hk hzk
      exact ⟨u, hu.mono (nput_sub h.no) (fun _ _ h => h)⟩, fun k v hk => by
    by_cases e : k = O
    · subst e; exact lt_of_heap h.ob
    · rw [nput_ne e] at hk; exact h.st.lt k v hk, h.st.scv⟩
  gh := fun k ck ps hk => by
    by_cases e : k = O
    · subst e
      rw [nput_same] at hk
      cases hk
      refine ⟨_, h.ob, row_mono h.row (Nat.zero_le _), fun g hg hB => ?_⟩
      rcases h.row.2 with ⟨e, _⟩ | ⟨g', cap', cur, e, hl, hgg, _⟩
      · rw [e] at hg; simp [Value.ownBlock] at hg
      · rw [e] at hg; simp [Value.ownBlock] at hg; subst hg; have := h.hB _ hB; have := h.le; omega
    · rw [nput_ne e] at hk
      obtain ⟨v, q1, q2, q3⟩ := h.gh k ck ps hk
      exact ⟨v, q1, q2, fun g hg hb => q3 g hg (.inl hb)⟩
  sub := fun k v hk => nput_sub h.no _ _ (h.sub k v hk)
  scs := h.scs
  gr := h.gr
  new := fun k v hk => by
    by_cases e : k = O
    · subst e; exact .inr h.le
    · rw [nput_ne e] at hk; exact h.new k v hk
/-- a variable's node is made and named -/
theorem SS.name (h : ST w mb n sc N z0) (hg : GH w N L0 B) (hB : ∀ k, B k → k < w.heap.size) (hz : z0 ≤ w.heap.size) {c : UInt8} (hc : sc c = none) (hv : isV c = true) (ha : ar c = some 0) {w3 : World}
    (hp : PM w3 mb (n + 1) (sput sc c w.heap.size)) (hgr : (w.alloc (.cells #[.string ⟨#[c]⟩, .slice none 0 0, .pointer none] 54 (0, 0))).grownBy w3 (some mb)) : SS w w3 mb (n + 1) (sput sc c w.heap.size) (nput N w.heap.size (c, [])) N sc z0 B := by
  have hno : N w.heap.size = none := by
    cases e : N w.heap.size with
    | none => rfl
    | some v => have := h.lt _ _ e; omega
  have hsub := nput_sub (v := (c, [])) hno
  have hscs : ∀ d b, sc d = some b → sput sc c w.heap.size d = some b := fun d b hd => by
    unfold sput
    rw [if_neg (fun e => by subst e; rw [hc] at hd; simp at hd)]
    exact hd
  have hkc : KC (w.alloc (.cells #[.string ⟨#[c]⟩, .slice none 0 0, .pointer none] 54 (0, 0))) w3 := KC.map hgr (PM.below h.pm ((Below.refl _ _).alloc (Nat.le_refl _) _)).isMap
  have hkc0 : KC w w3 := KC.trans (KC.below ((Below.refl _ _).alloc (Nat.le_refl _) _)) hkc
  have hz3 := hgr.size
  simp only [World.size_alloc] at hz3
  refine ⟨⟨wh_put h.wh hno ha (by simp), hp, ?_, ?_, ?_, ?_⟩, ?_, hsub, hscs, grown_trans (gb' ((Below.refl _ _).alloc (Nat.le_refl _) _) _) hgr, ?_⟩
  · intro d b hd
    unfold sput at hd
    split at hd
    · rename_i e; cases hd; subst e; exact ⟨nput_same _ _ _, hz⟩
    · exact ⟨hsub _ _ (h.sce d b hd).1, (h.sce d b hd).2⟩
  · intro k v hk hzk
    by_cases e : k = w.heap.size
    · subst e
      exact ⟨_, .var (nput_same _ _ _) hv (by simp [sput])⟩
    · rw [nput_ne e] at hk
      obtain ⟨u, hu⟩ := h.news k v hk hzk
      exact ⟨u, hu.mono hsub hscs⟩
  · intro k v hk
    by_cases e : k = w.heap.size
    · omega
    · rw [nput_ne e] at hk; have := h.lt k v hk; omega
  · intro d b hd
    unfold sput at hd
    split at hd
    · rename_i e; rw [e]; exact hv
    · exact h.scv d b hd
  · intro k ck ps hk
    by_cases e : k = w.heap.size
    · subst e
      rw [nput_same] at hk
      cases hk
      exact ⟨_, hkc _ _ _ _ (heap_alloc_new _ _), World.ownsRow_nil _ _ _ _, fun g hg => by simp [Value.ownBlock] at hg⟩
    · rw [nput_ne e] at hk
      exact hg.kc hkc0 k ck ps hk
  · intro k v hk
    by_cases e : k = w.heap.size
    · exact .inr (by omega)
    · rw [nput_ne e] at hk; exact .inl hk
end GraO
end Go.Proofs.Ytebdkafblohojaa
