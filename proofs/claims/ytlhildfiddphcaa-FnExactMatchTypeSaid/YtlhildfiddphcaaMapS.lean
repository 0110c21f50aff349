/- A map from letters to texts of types that the program makes: what it holds, looked up and stored into. Conditions: those typed. -/
import Derived.Test.YtlhildfiddphcaaMatP
import Derived.Test.YtlhildfiddphcaaText
import Derived.Maps.OwnSet
import Derived.Maps.StringElems
import Derived.Sort.KeysCollected
set_option linter.unusedVariables false
set_option linter.unusedSimpArgs false
set_option maxRecDepth 100000
namespace Go.Proofs.Ytlhildfiddphcaa
open Go.RowKit Go.Maps Ty ListS Parts
namespace MatP
/-- two types with one text are one -/
theorem text_inj {t u : Ty} (ht : t.WF) (hu : u.WF) (h : t.text = u.text) : t = u := by
  have h1 := parse_text t ht t.text.length [] (Nat.le_refl _)
  have h2 := parse_text u hu t.text.length [] (by rw [h]; exact Nat.le_refl _)
  rw [← h] at h2
  rw [h1] at h2
  simpa using h2
theorem text_beq {t u : Ty} (ht : t.WF) (hu : u.WF) : (t.text == u.text) = decide (t = u) := by
  by_cases e : t = u
  · subst e; simp
  · rw [decide_eq_false e, beq_eq_false_iff_ne]
    exact fun h => e (text_inj ht hu h)
/-- what is bound is a type of so many bytes, at a variable -/
def GS (n : Nat) (s : Sg) : Prop := ∀ c u, s c = some u → isV c = true ∧ u.WF ∧ u.text.length ≤ n
/-- parts against parts -/
def mtl : List Ty → List Ty → Sg → Option Sg
  | p :: ps, t :: ts, s => (mt p t s).bind (mtl ps ts)
  | _, _, s => some s
theorem mt_var {p t : Ty} (hp : p.WF) (s : Sg) (hv : isV p.head = true) : mt p t s = match s p.head with | some u => if u = t then some s else none | none => some (upd s p.head t) := by
  match p, hp, hv with
  | .leaf c, hp, hv =>
    have hv' : isV c = true := hv
    show (if isV c = true then _ else _) = _
    rw [if_pos hv']
    show _ = match s c with | some u => if u = t then some s else none | none => some (upd s c t)
    cases s c <;> rfl
  | .one c q, hp, hv => exact absurd hp.1 (by have : ar c = some 0 := isV_ar0 hv; rw [this]; simp)
  | .two c q r, hp, hv => exact absurd hp.1 (by have : ar c = some 0 := isV_ar0 hv; rw [this]; simp)
where
  isV_ar0 {c : UInt8} (h : isV c = true) : ar c = some 0 := by
    simp [isV] at h
    rcases h with rfl | rfl | rfl | rfl | rfl | rfl <;> rfl
theorem mt_con {p t : Ty} (hp : p.WF) (ht : t.WF) (s : Sg) (hv : isV p.head = false) : mt p t s = if t.head = p.head then mtl p.parts t.parts s else none := by
  match p, t, hp, ht, hv with
  | .leaf c, t, hp, ht, hv =>
    have hv' : isV c = false := hv
    show mt (.leaf c) t s = if t.head = c then mtl [] t.parts s else none
    simp [mt, hv', mtl]
  | .one c q, .one d u, hp, ht, hv =>
    simp only [Ty.head, Ty.parts, mt, mtl]
    cases mt q u s <;> rfl
  | .one c q, .leaf d, hp, ht, hv =>
    have : d ≠ c := fun e => by have h1 := hp.1; have h2 : ar d = some 0 := ht; rw [e, h1] at h2; simp at h2
    simp [Ty.head, mt, this]
  | .one c q, .two d u v, hp, ht, hv =>
    have : d ≠ c := fun e => by have h1 := hp.1; have h2 := ht.1; rw [e, h1] at h2; simp at h2
    simp [Ty.head, mt, this]
  | .two c q r, .two d u v, hp, ht, hv =>
    simp only [Ty.head, Ty.parts, mt, mtl]
    cases h : mt q u s with
    | none => by_cases e : d = c <;> simp [e]
    | some s1 => by_cases e : d = c <;> simp [e]
  | .two c q r, .leaf d, hp, ht, hv =>
    have : d ≠ c := fun e => by have h1 := hp.1; have h2 : ar d = some 0 := ht; rw [e, h1] at h2; simp at h2
    simp [Ty.head, mt, this]
  | .two c q r, .one d u, hp, ht, hv =>
    have : d ≠ c := fun e => by have h1 := hp.1; have h2 := ht.1; rw [e, h1] at h2; simp at h2
    simp [Ty.head, mt, this]
theorem wf_len {p t : Ty} (hp : p.WF) (ht : t.WF) (h : t.head = p.head) : t.parts.length = p.parts.length := by
  match p, t, hp, ht, h with
  | .leaf c, .leaf d, _, _, _ => rfl
  | .one c q, .one d u, _, _, _ => rfl
  | .two c q r, .two d u v, _, _, _ => rfl
  | .leaf c, .one d u, hp, ht, h => simp only [Ty.head] at h; have h1 : ar c = some 0 := hp; have h2 := ht.1; rw [h, h1] at h2; simp at h2
  | .leaf c, .two d u v, hp, ht, h => simp only [Ty.head] at h; have h1 : ar c = some 0 := hp; have h2 := ht.1; rw [h, h1] at h2; simp at h2
  | .one c q, .leaf d, hp, ht, h => simp only [Ty.head] at h; have h1 := hp.1; have h2 : ar d = some 0 := ht; rw [h, h1] at h2; simp at h2
  | .one c q, .two d u v, hp, ht, h => simp only [Ty.head] at h; have h1 := hp.1; have h2 := ht.1; rw [h, h1] at h2; simp at h2
  | .two c q r, .leaf d, hp, ht, h => simp only [Ty.head] at h; have h1 := hp.1; have h2 : ar d = some 0 := ht; rw [h, h1] at h2; simp at h2
  | .two c q r, .one d u, hp, ht, h => simp only [Ty.head] at h; have h1 := hp.1; have h2 := ht.1; rw [h, h1] at h2; simp at h2
theorem wf_parts {t u : Ty} (ht : t.WF) (h : u ∈ t.parts) : u.WF ∧ u.text.length ≤ t.text.length ∧ u.size < t.size := by
  match t, ht, h with
  | .leaf c, _, h => simp [Ty.parts] at h
  | .one c q, ht, h => simp [Ty.parts] at h; subst h; exact ⟨ht.2, by simp [Ty.text]; omega, by simp [Ty.size]⟩
  | .two c q r, ht, h => simp [Ty.parts] at h; rcases h with rfl | rfl; exact ⟨ht.2.1, by simp [Ty.text]; omega, by simp [Ty.size]; omega⟩; exact ⟨ht.2.2, by simp [Ty.text]; omega, by simp [Ty.size]; omega⟩
theorem gs_upd {n : Nat} {s : Sg} (h : GS n s) {c : UInt8} {t : Ty} (hc : isV c = true) (ht : t.WF) (hl : t.text.length ≤ n) : GS n (upd s c t) := by
  intro d u hu
  unfold upd at hu
  split at hu
  · rename_i e; cases hu; subst e; exact ⟨hc, ht, hl⟩
  · exact h d u hu
theorem upd_self {s : Sg} {c : UInt8} {t : Ty} (h : s c = some t) : upd s c t = s := by
  funext d
  unfold upd
  split
  · rename_i e; subst e; exact h.symm
  · rfl
mutual
theorem mt_gs : ∀ (p t : Ty) (s s' : Sg) (n : Nat), p.WF → t.WF → t.text.length ≤ n → GS n s → mt p t s = some s' → GS n s'
  | .leaf c, t, s, s', n, hp, ht, hn, hs, h => by
    unfold mt at h
    split at h
    · rename_i hv
      split at h
      · split at h
        · cases h; exact hs
        · simp at h
      · cases h; exact gs_upd hs hv ht hn
    · split at h
      · cases h; exact hs
      · simp at h
  | .one c p, t, s, s', n, hp, ht, hn, hs, h => by
    match t, ht, hn, h with
    | .one d u, ht, hn, h =>
      unfold mt at h
      split at h
      · exact mt_gs p u s s' n hp.2 ht.2 (by simp [Ty.text] at hn; omega) hs h
      · simp at h
    | .leaf d, ht, hn, h => simp [mt] at h
    | .two d u v, ht, hn, h => simp [mt] at h
  | .two c p q, t, s, s', n, hp, ht, hn, hs, h => by
    match t, ht, hn, h with
    | .two d u v, ht, hn, h =>
      unfold mt at h
      split at h
      · simp only at h
        cases h1 : mt p u s with
        | none => rw [h1] at h; simp at h
        | some s1 =>
          rw [h1] at h
          have q1 := mt_gs p u s s1 n hp.2.1 ht.2.1 (by simp [Ty.text] at hn; omega) hs h1
          exact mt_gs q v s1 s' n hp.2.2 ht.2.2 (by simp [Ty.text] at hn; omega) q1 h
      · simp at h
    | .leaf d, ht, hn, h => simp [mt] at h
    | .one d u, ht, hn, h => simp [mt] at h
end
/-- how many letters parts have -/
def szs (l : List Ty) : Nat := (l.map Ty.size).sum
theorem size_szs (t : Ty) : t.size = 1 + szs t.parts := by cases t <;> simp [Ty.size, szs, Ty.parts]; omega
end MatP
namespace MapS
open MatP
theorem law : Keyed Try.prog 9 := string_keyed Try.underlying9
theorem zeroE (w : World) : (zeroValue 9).run Try.prog w = .ok (.string ⟨#[]⟩) w := by kernel_rfl
def kl (c : UInt8) : Lit := .string [c]
theorem hkey (c : UInt8) : keyOf Try.prog 9 (.string ⟨#[c]⟩) = some (kl c) := Go.WideMaps.keyOf_string_mk Try.underlying9 (by simp [ByteArray.size, maxLen])
theorem kl_inj {c d : UInt8} (h : kl c = kl d) : c = d := by simpa [kl] using h
def tx (s : Sg) (c : UInt8) : List UInt8 := match s c with | some u => u.text | none => []
noncomputable abbrev R : Value → Option (DataW Unit × List MemPlace) := plainElem Try.prog 9
/-- the datum holds just what is bound -/
structure Reads (D : DataW Unit) (s : Sg) : Prop where
  has : ∀ c, Maps.has D (kl c) = (s c).isSome
  at' : ∀ c t, s c = some t → ∀ zd, D.atKey (kl c) zd = .lit (.string t.text)
  keys : ∀ k, Maps.has D k = true → ∃ c, k = kl c
/-- block b is a map that holds just what is bound -/
def OM (w : World) (b n : Nat) (s : Sg) : Prop := ∃ D : DataW Unit, w.ownsMap Try.prog 9 R b n D ∧ Reads D s
theorem OM.mono {w : World} {b n m : Nat} {s : Sg} (h : OM w b n s) (hm : n ≤ m) : OM w b m s := by obtain ⟨D, h1, h2⟩ := h; exact ⟨D, h1.mono hm, h2⟩
theorem OM.kept {w w' : World} {b n : Nat} {s : Sg} {row : Option Nat} (h : OM w b n s) (hg : w.grownBy w' row) (hne : some b ≠ row) : OM w' b n s := by obtain ⟨D, h1, h2⟩ := h; exact ⟨D, h1.kept hg hne, h2⟩
theorem OM.below {w w' : World} {b n : Nat} {s : Sg} (h : OM w b n s) (hb : Below w.heap.size w w') : OM w' b n s := h.kept (row := none) ⟨hb.os, hb.tape, hb.output, hb.size, fun k hk _ => hb.block k hk⟩ (by simp)
theorem OM.lt {w : World} {b n : Nat} {s : Sg} (h : OM w b n s) : b < w.heap.size := by obtain ⟨D, h1, h2⟩ := h; exact h1.lt
theorem OM.isMap {w : World} {b n : Nat} {s : Sg} (h : OM w b n s) : ∃ es k, w.heap[b]? = some (.map es k) := by obtain ⟨D, ⟨es, k, h1, _⟩, h2⟩ := h; exact ⟨es, k, h1⟩
theorem OM.made (w : World) : OM (w.alloc (.map #[] 0)) w.heap.size 0 (fun _ => none) := by
  refine ⟨.map [], World.ownsMap_made w _ _ _, ⟨fun c => rfl, fun c t h => by simp at h, fun k h => ?_⟩⟩
  simp [Maps.has] at h
section
variable {w : World} {ops : Array Oper} {rest : List Oper} {o : Oper} {a : Act} {Q : Exit → Act → World → Prop}
/-- 'v, ok := m[k]' -/
theorem look_ok (hg : o.guard = none) (m x : Operand) (hop : o.op = Op.lookup 40 m x true) {mb n : Nat} {s : Sg} (h : OM w mb n s) {c : UInt8} (vs : List UInt8) (ok : Bool) (hv : tx s c = vs) (hok : (s c).isSome = ok)
    (hm : a.eval m = .map (some mb)) (hx : a.eval x = .string ⟨#[c]⟩) (hK : wpList Try.prog ops Q rest (a.put o.dst (.tuple #[.string ⟨vs.toArray⟩, .bool ok])) w) : wpList Try.prog ops Q (o :: rest) a w := by
  obtain ⟨D, h1, h2⟩ := h
  refine wpList_lookup_own_ok w hg m x _ hop 9 9 law Try.underlying40 R (zeroE w) (.lit (.string [])) [] (plainElem_string Try.underlying9 (by simp [ByteArray.size, maxLen])) mb n D hm h1 _ (kl c) hx (hkey c) fun v ps hvp => ?_
  rw [h2.has, hok]
  obtain ⟨y, rfl, hy, _⟩ := plainElem_string_inv Try.underlying9 hvp
  have hy1 := congrArg Prod.fst hy
  simp only at hy1
  have e : y = ⟨vs.toArray⟩ := by
    cases hs : s c with
    | none =>
      have : Maps.has D (kl c) = false := by rw [h2.has, hs]; rfl
      rw [Maps.atKey_of_not_has this] at hy1
      simp [tx, hs] at hv
      subst hv
      simp at hy1
      apply ByteArray.ext
      rw [hy1]
    | some u =>
      rw [h2.at' c u hs] at hy1
      simp [tx, hs] at hv
      subst hv
      simp at hy1
      apply ByteArray.ext
      simp [hy1]
  rw [e]
  exact hK
/-- 'm[k]' -/
theorem look (hg : o.guard = none) (m x : Operand) (hop : o.op = Op.lookup 40 m x false) {mb n : Nat} {s : Sg} (h : OM w mb n s) {c : UInt8} (vs : List UInt8) (hv : tx s c = vs)
    (hm : a.eval m = .map (some mb)) (hx : a.eval x = .string ⟨#[c]⟩) (hK : wpList Try.prog ops Q rest (a.put o.dst (.string ⟨vs.toArray⟩)) w) : wpList Try.prog ops Q (o :: rest) a w := by
  obtain ⟨D, h1, h2⟩ := h
  refine wpList_plain hg fun K' hK' => ?_
  obtain ⟨v, ps, hrun, hvp⟩ := h1.lookup law Try.underlying40 (zeroE w) (zd := .lit (.string [])) (zp := []) (plainElem_string Try.underlying9 (by simp [ByteArray.size, maxLen])) (hkey c)
  obtain ⟨y, rfl, hy, _⟩ := plainElem_string_inv Try.underlying9 hvp
  have hy1 := congrArg Prod.fst hy
  simp only at hy1
  have e : y = ⟨vs.toArray⟩ := by
    cases hs : s c with
    | none =>
      have : Maps.has D (kl c) = false := by rw [h2.has, hs]; rfl
      rw [Maps.atKey_of_not_has this] at hy1
      simp [tx, hs] at hv
      subst hv
      simp at hy1
      apply ByteArray.ext
      rw [hy1]
    | some u =>
      rw [h2.at' c u hs] at hy1
      simp [tx, hs] at hv
      subst hv
      simp at hy1
      apply ByteArray.ext
      simp [hy1]
  rw [e] at hrun
  unfold Oper.wp
  simp [execOp, hop, hm, hx, hrun, Result.andThen]
  exact hK' _ _ hK
/-- 'm[k] = v' -/
theorem stS (hg : o.guard = none) (m x v : Operand) (hop : o.op = Op.mapUpdate 40 m x v) {mb n : Nat} {s : Sg} (h : OM w mb n s) {c : UInt8} {t : Ty} (hl : t.text.length ≤ 1000) (hn : n < maxLen)
    (hm : a.eval m = .map (some mb)) (hx : a.eval x = .string ⟨#[c]⟩) (hv : a.eval v = .string ⟨t.text.toArray⟩) (hK : ∀ w', OM w' mb (n + 1) (upd s c t) → w.grownBy w' (some mb) → wpList Try.prog ops Q rest (a.put o.dst undef) w') : wpList Try.prog ops Q (o :: rest) a w := by
  obtain ⟨D, h1, h2⟩ := h
  refine wpList_mapUpdate_own w hg m x v _ hop 9 9 law Try.underlying40 R mb n D hm h1 hn _ _ (kl c) hx hv (hkey c) (.lit (.string t.text)) [] ?_ fun w' h3 h4 => hK w' ⟨_, h3, ?_⟩ h4
  · have := plainElem_string (H := Unit) Try.underlying9 (s := ⟨t.text.toArray⟩) (by simp [ByteArray.size, maxLen]; omega)
    simpa using this
  · have hM := h1.isMap
    have hK : WideAt.IsKeyLit (kl c) := trivial
    refine ⟨fun d => ?_, fun d u hd zd => ?_, fun k hk => ?_⟩
    · by_cases e : d = c
      · subst e; rw [Maps.has_put_same hM hK]; simp [upd]
      · rw [Maps.has_put_other (fun h => e (kl_inj h)), h2.has]; simp [upd, e]
    · by_cases e : d = c
      · subst e
        rw [Maps.atKey_put_same hM hK]
        simp [upd] at hd
        rw [hd]
      · rw [Maps.atKey_put_other (fun h => e (kl_inj h))]
        simp [upd, e] at hd
        exact h2.at' d u hd zd
    · by_cases e : k = kl c
      · exact ⟨c, e⟩
      · rw [Maps.has_put_other e] at hk
        exact h2.keys k hk
end
end MapS
end Go.Proofs.Ytlhildfiddphcaa
