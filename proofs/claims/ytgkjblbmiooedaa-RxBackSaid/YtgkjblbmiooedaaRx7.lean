/- Rx7: trees themselves, in plain Lean. -/
import Derived.Test.YtgkjblbmiooedaaRx4
namespace Go.Sx

inductive Tr where
  | t0 (n : Nd)
  | t1 (n : Nd) (a : Tr)
  | t2 (n : Nd) (a b : Tr)
namespace Tr
def flat : Tr → List Nd
  | t0 n => [n]
  | t1 n a => a.flat ++ [n]
  | t2 n a b => a.flat ++ (b.flat ++ [n])
def ok : Tr → Prop
  | t0 n => n.may = true ∧ ar n = 0
  | t1 n a => n.may = true ∧ ar n = 1 ∧ a.ok
  | t2 n a b => n.may = true ∧ ar n = 2 ∧ a.ok ∧ b.ok
def root : Tr → Nd
  | t0 n => n
  | t1 n _ => n
  | t2 n _ _ => n
def kids : Tr → List Tr
  | t0 _ => []
  | t1 _ a => [a]
  | t2 _ a b => [a, b]
def fold {α : Type} (mk : Nd → List α → α) : Tr → α
  | t0 n => mk n []
  | t1 n a => mk n [a.fold mk]
  | t2 n a b => mk n [a.fold mk, b.fold mk]
theorem flat_pos (T : Tr) : 0 < T.flat.length := by cases T <;> simp [flat] <;> omega
theorem flat_kids (T : Tr) : T.flat = T.kids.flatMap flat ++ [T.root] := by cases T <;> simp [flat, kids, root]
theorem kids_ok {T : Tr} (h : T.ok) : ∀ S ∈ T.kids, S.ok := by
  cases T with
  | t0 n => intro S hS; cases hS
  | t1 n a => intro S hS; simp only [kids, List.mem_singleton] at hS; rw [hS]; exact h.2.2
  | t2 n a b =>
    intro S hS
    simp only [kids, List.mem_cons, List.not_mem_nil, or_false] at hS
    rcases hS with rfl | rfl
    · exact h.2.2.1
    · exact h.2.2.2
theorem root_ok {T : Tr} (h : T.ok) : T.root.may = true ∧ ar T.root = T.kids.length := by
  cases T with
  | t0 n => exact h
  | t1 n a => exact ⟨h.1, h.2.1⟩
  | t2 n a b => exact ⟨h.1, h.2.1⟩
end Tr

theorem arity_ar {n : Nd} (h : n.may = true) : arity n.kind = (ar n : Int) := by rw [arity_of_may h, ar_kar]
theorem chk_cons {n : Nd} {l : List Nd} {t : Nat} {i : Nat} (hm : n.may = true) (ht : ar n ≤ t) : chk (n :: l) t i = chk l ((t - ar n + 1 : Nat) : Int) (i + 1) := by
  rw [chk, if_pos ⟨hm, by rw [arity_ar hm]; omega⟩, arity_ar hm]
  congr 1
  omega
/-- A tree counts for one. -/
theorem chk_flat : ∀ (T : Tr), T.ok → ∀ (l : List Nd) (t i : Nat), chk (T.flat ++ l) t i = chk l ((t + 1 : Nat) : Int) (i + T.flat.length)
  | .t0 n, h, l, t, i => by
    simp only [Tr.flat, List.singleton_append, List.length_singleton]
    rw [chk_cons h.1 (by rw [h.2]; omega), h.2, Nat.sub_zero]
  | .t1 n a, h, l, t, i => by
    simp only [Tr.flat, List.append_assoc, List.singleton_append, List.length_append, List.length_singleton]
    rw [chk_flat a h.2.2, chk_cons h.1 (by rw [h.2.1]; omega), h.2.1]
    congr 1
  | .t2 n a b, h, l, t, i => by
    simp only [Tr.flat, List.append_assoc, List.singleton_append, List.length_append, List.length_singleton]
    rw [chk_flat a h.2.2.1, chk_flat b h.2.2.2, chk_cons h.1 (by rw [h.2.1]; omega), h.2.1]
    congr 1
    omega
theorem chk_tree {T : Tr} (h : T.ok) : chk T.flat 0 0 = none := by
  have := chk_flat T h [] 0 0
  rw [List.append_nil] at this
  have h0 : chk T.flat 0 0 = chk T.flat ((0 : Nat) : Int) 0 := rfl
  rw [h0, this, chk]
  rfl
theorem snoc_of {α : Type} {l : List α} (h : 0 < l.length) : ∃ l' a, l = l' ++ [a] := by
  induction l with
  | nil => cases h
  | cons x l ih =>
    cases l with
    | nil => exact ⟨[], x, rfl⟩
    | cons y l =>
      obtain ⟨l', a, h⟩ := ih (by simp)
      exact ⟨x :: l', a, by rw [h]; rfl⟩
/-- A row that is told to be a tree is one. -/
theorem chk_parse : ∀ (l : List Nd) (ts : List Tr) (i : Nat), (∀ T ∈ ts, T.ok) → chk l (ts.length : Int) i = none → ∃ T : Tr, T.ok ∧ ts.flatMap Tr.flat ++ l = T.flat
  | [], ts, i, hts, h => by
    rw [chk] at h
    split at h
    · rename_i h1
      obtain ⟨ts', T, rfl⟩ := snoc_of (l := ts) (by omega)
      have : ts' = [] := by
        cases ts' with
        | nil => rfl
        | cons x l => simp at h1; omega
      subst this
      exact ⟨T, hts T (by simp), by simp⟩
    · cases h
  | n :: l, ts, i, hts, h => by
    rw [chk] at h
    split at h
    · rename_i hn
      obtain ⟨hm, ha⟩ := hn
      rw [arity_ar hm] at ha h
      have h2 := ar_le n
      have hcase : ar n = 0 ∨ ar n = 1 ∨ ar n = 2 := by omega
      rcases hcase with h0 | h0 | h0
      · obtain ⟨T, hT, he⟩ := chk_parse l (ts ++ [.t0 n]) (i + 1) (by
          intro T hT
          rcases List.mem_append.1 hT with hT | hT
          · exact hts T hT
          · simp only [List.mem_singleton] at hT; rw [hT]; exact ⟨hm, h0⟩) (by
          rw [← h]; congr 1; simp only [List.length_append, List.length_singleton]; omega)
        exact ⟨T, hT, by rw [← he]; simp [Tr.flat]⟩
      · obtain ⟨ts', a, rfl⟩ := snoc_of (l := ts) (by omega)
        obtain ⟨T, hT, he⟩ := chk_parse l (ts' ++ [.t1 n a]) (i + 1) (by
          intro T hT
          rcases List.mem_append.1 hT with hT | hT
          · exact hts T (by simp [hT])
          · simp only [List.mem_singleton] at hT; rw [hT]; exact ⟨hm, h0, hts a (by simp)⟩) (by
          rw [← h]; congr 1; simp only [List.length_append, List.length_singleton]; omega)
        exact ⟨T, hT, by rw [← he]; simp [Tr.flat]⟩
      · obtain ⟨ts1, b, rfl⟩ := snoc_of (l := ts) (by omega)
        obtain ⟨ts', a, rfl⟩ := snoc_of (l := ts1) (by simp at ha; omega)
        obtain ⟨T, hT, he⟩ := chk_parse l (ts' ++ [.t2 n a b]) (i + 1) (by
          intro T hT
          rcases List.mem_append.1 hT with hT | hT
          · exact hts T (by simp [hT])
          · simp only [List.mem_singleton] at hT; rw [hT]; exact ⟨hm, h0, hts a (by simp), hts b (by simp)⟩) (by
          rw [← h]; congr 1; simp only [List.length_append, List.length_singleton]; omega)
        exact ⟨T, hT, by rw [← he]; simp [Tr.flat]⟩
    · cases h
theorem tree_of {nds : List Nd} (h : chk nds 0 0 = none) : ∃ T : Tr, T.ok ∧ T.flat = nds := by
  obtain ⟨T, hT, he⟩ := chk_parse nds [] 0 (fun T h => by cases h) h
  exact ⟨T, hT, by rw [← he]; rfl⟩

theorem take_pre {α : Type} (a b : List α) {n : Nat} (h : n = a.length) : (a ++ b).take n = a := by rw [h]; exact List.take_left' rfl
theorem drop_pre {α : Type} (a b : List α) {n : Nat} (h : n = a.length) : (a ++ b).drop n = b := by rw [h]; exact List.drop_left' rfl
/-- A tree comes to one thing, on the pile. -/
theorem foldS_flat {α : Type} (mk : Nd → List α → α) : ∀ (T : Tr), T.ok → ∀ (l : List Nd) (st : List α), foldS mk (T.flat ++ l) st = foldS mk l (st ++ [T.fold mk])
  | .t0 n, h, l, st => by
    simp only [Tr.flat, List.singleton_append, foldS, h.2, Nat.sub_zero, List.take_length, List.drop_length, Tr.fold]
  | .t1 n a, h, l, st => by
    simp only [Tr.flat, List.append_assoc, List.singleton_append]
    rw [foldS_flat mk a h.2.2, foldS, h.2.1, take_pre st _ (by simp), drop_pre st _ (by simp)]
    rfl
  | .t2 n a b, h, l, st => by
    simp only [Tr.flat, List.append_assoc, List.singleton_append]
    rw [foldS_flat mk a h.2.2.1, foldS_flat mk b h.2.2.2, foldS, h.2.1, List.append_assoc, take_pre st _ (by simp), drop_pre st _ (by simp)]
    rfl
theorem foldR_flat {α : Type} [Inhabited α] (mk : Nd → List α → α) {T : Tr} (h : T.ok) : foldR mk T.flat = T.fold mk := by
  have := foldS_flat mk T h [] []
  rw [List.append_nil] at this
  rw [foldR, this]
  rfl

/- the norm -/
def isN (n : Nd) : Prop := n.kind = 9 ∧ n.mx = 0
instance (n : Nd) : Decidable (isN n) := inferInstanceAs (Decidable (_ ∧ _))
namespace Tr
def norm : Tr → Tr
  | t0 n => t0 n
  | t1 n a => if isN n then t0 emptyN else t1 n a.norm
  | t2 n a b => t2 n a.norm b.norm
end Tr
theorem ar9 {n : Nd} (h : n.kind = 9) : ar n = 1 := by unfold ar kar; rw [h]; rfl
theorem empty_ok : (Tr.t0 emptyN).ok := ⟨by decide, by decide⟩
theorem tn_flat : ∀ (T : Tr), T.ok → T.fold nrmk = T.norm.flat
  | .t0 n, h => by
    simp only [Tr.fold, Tr.norm, Tr.flat, nrmk]
    rw [if_neg (fun h9 => by have := ar9 h9.1; have := h.2; omega)]
    rfl
  | .t1 n a, h => by
    simp only [Tr.fold, Tr.norm, nrmk]
    by_cases hn : isN n
    · rw [if_pos (show n.kind = 9 ∧ n.mx = 0 from hn), if_pos hn]; rfl
    · rw [if_neg (show ¬ (n.kind = 9 ∧ n.mx = 0) from hn), if_neg hn, tn_flat a h.2.2]; simp [Tr.flat]
  | .t2 n a b, h => by
    simp only [Tr.fold, Tr.norm, nrmk]
    rw [if_neg (fun h9 => by have := ar9 h9.1; have := h.2.1; omega), tn_flat a h.2.2.1, tn_flat b h.2.2.2]
    simp [Tr.flat]
theorem tn_ok : ∀ (T : Tr), T.ok → T.norm.ok
  | .t0 _, h => h
  | .t1 n a, h => by
    simp only [Tr.norm]
    split
    · exact empty_ok
    · exact ⟨h.1, h.2.1, tn_ok a h.2.2⟩
  | .t2 n a b, h => ⟨h.1, h.2.1, tn_ok a h.2.2.1, tn_ok b h.2.2.2⟩
theorem tn_tn : ∀ (T : Tr), T.norm.norm = T.norm
  | .t0 _ => rfl
  | .t1 n a => by
    by_cases hn : isN n
    · simp only [Tr.norm, if_pos hn]
    · simp only [Tr.norm, if_neg hn, tn_tn a]
  | .t2 n a b => by simp only [Tr.norm, tn_tn a, tn_tn b]
theorem tn_len : ∀ (T : Tr), T.norm.flat.length ≤ T.flat.length
  | .t0 _ => Nat.le_refl _
  | .t1 n a => by
    have := tn_len a
    have := a.flat_pos
    simp only [Tr.norm]
    split <;> simp [Tr.flat] <;> omega
  | .t2 n a b => by
    have := tn_len a
    have := tn_len b
    simp [Tr.norm, Tr.flat]; omega
theorem dep_pos : ∀ (T : Tr), 1 ≤ T.fold dmk
  | .t0 _ => by simp [Tr.fold, dmk, most]
  | .t1 n a => by have := dep_pos a; simp [Tr.fold, dmk, most]; omega
  | .t2 n a b => by have := dep_pos a; simp [Tr.fold, dmk, most]; omega
theorem tn_dep : ∀ (T : Tr), T.norm.fold dmk ≤ T.fold dmk
  | .t0 _ => Int.le_refl _
  | .t1 n a => by
    have h1 := tn_dep a
    have h2 := dep_pos a
    simp only [Tr.norm]
    split <;> simp [Tr.fold, dmk, most] <;> omega
  | .t2 n a b => by
    have h1 := tn_dep a
    have h2 := tn_dep b
    simp [Tr.norm, Tr.fold, dmk, most]
    omega
theorem may9 {n : Nd} (h : n.may = true) (hn : isN n) : n.mn = 0 := by
  unfold Nd.may at h
  rw [if_pos hn.1, hn.2] at h
  simp at h
  omega
theorem tn_nul : ∀ (T : Tr), T.ok → T.norm.fold nmk = T.fold nmk
  | .t0 _, _ => rfl
  | .t1 n a, h => by
    have h1 := tn_nul a h.2.2
    simp only [Tr.norm]
    split
    · rename_i hn
      have h2 := may9 h.1 hn
      simp [Tr.fold, nmk, hn.1, h2, emptyN]
    · simp only [Tr.fold, h1]
  | .t2 n a b, h => by simp only [Tr.norm, Tr.fold, tn_nul a h.2.2.1, tn_nul b h.2.2.2]
theorem tn_no : ∀ (T : Tr), T.ok → ∀ m ∈ T.norm.flat, ¬ isN m
  | .t0 n, h => by
    intro m hm
    simp only [Tr.norm, Tr.flat, List.mem_singleton] at hm
    subst hm
    exact fun h9 => by have := ar9 h9.1; have := h.2; omega
  | .t1 n a, h => by
    intro m hm
    simp only [Tr.norm] at hm
    split at hm
    · simp only [Tr.flat, List.mem_singleton] at hm
      subst hm
      exact fun h9 => by have := h9.1; simp [emptyN] at this
    · rename_i hn
      simp only [Tr.flat, List.mem_append, List.mem_singleton] at hm
      rcases hm with hm | rfl
      · exact tn_no a h.2.2 m hm
      · exact hn
  | .t2 n a b, h => by
    intro m hm
    simp only [Tr.norm, Tr.flat, List.mem_append, List.mem_singleton] at hm
    rcases hm with hm | hm | rfl
    · exact tn_no a h.2.2.1 m hm
    · exact tn_no b h.2.2.2 m hm
    · exact fun h9 => by have := ar9 h9.1; have := h.2.1; omega
theorem tn_same : ∀ (T : Tr), (∀ m ∈ T.flat, ¬ isN m) → T.norm = T
  | .t0 _, _ => rfl
  | .t1 n a, h => by
    simp only [Tr.norm]
    rw [if_neg (h n (by simp [Tr.flat])), tn_same a fun m hm => h m (by simp [Tr.flat, hm])]
  | .t2 n a b, h => by
    simp only [Tr.norm]
    rw [tn_same a fun m hm => h m (by simp [Tr.flat, hm]), tn_same b fun m hm => h m (by simp [Tr.flat, hm])]
end Go.Sx
