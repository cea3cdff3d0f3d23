/- Rx9: the tree below each node, in plain Lean. -/
import Derived.Test.YtgkjblbmiooedaaRx7
namespace Go.Sx
namespace Tr
/-- At each place: where the tree begins that ends there, and which it is. -/
def all : Tr → Nat → List (Nat × Tr)
  | t0 n, i => [(i, t0 n)]
  | t1 n a, i => a.all i ++ [(i, t1 n a)]
  | t2 n a b, i => a.all i ++ (b.all (i + a.flat.length) ++ [(i, t2 n a b)])
end Tr
theorem all_len : ∀ (T : Tr) (i : Nat), (T.all i).length = T.flat.length
  | .t0 _, _ => rfl
  | .t1 n a, i => by simp [Tr.all, Tr.flat, all_len a]
  | .t2 n a b, i => by simp [Tr.all, Tr.flat, all_len a, all_len b]
theorem last_get {α : Type} (l : List α) (x : α) {n : Nat} (h : n = l.length) : (l ++ [x])[n]? = some x := by
  rw [h, List.getElem?_append_right (Nat.le_refl _), Nat.sub_self]; rfl
theorem pre_get {α : Type} (a b : List α) {n : Nat} (h : n < a.length) : (a ++ b)[n]? = a[n]? := List.getElem?_append_left h
theorem post_get {α : Type} (a b : List α) {n m : Nat} (h : n = a.length + m) : (a ++ b)[n]? = b[m]? := by
  rw [h, List.getElem?_append_right (by omega)]; congr 1; omega
theorem all_last (T : Tr) (i : Nat) : (T.all i)[T.flat.length - 1]? = some (i, T) := by
  cases T with
  | t0 n => rfl
  | t1 n a => exact last_get _ _ (by simp [Tr.flat, all_len])
  | t2 n a b =>
    simp only [Tr.all, ← List.append_assoc]
    exact last_get _ _ (by simp [Tr.flat, all_len])
theorem root_last (T : Tr) : T.flat[T.flat.length - 1]? = some T.root := by
  have h := T.flat_kids
  rw [h]
  exact last_get _ _ (by simp)
theorem bgs_flat : ∀ (T : Tr), T.ok → ∀ (l : List Nd) (i : Nat) (st : List Int), bgs (T.flat ++ l) i st = (T.all i).map (fun x => (x.1 : Int)) ++ bgs l (i + T.flat.length) (st ++ [(i : Int)])
  | .t0 n, h, l, i, st => by
    simp [Tr.flat, Tr.all, bgs, h.2]
  | .t1 n a, h, l, i, st => by
    simp only [Tr.flat, List.append_assoc, List.singleton_append]
    rw [bgs_flat a h.2.2, bgs, h.2.1]
    simp [Tr.all, Nat.add_assoc]
  | .t2 n a b, h, l, i, st => by
    simp only [Tr.flat, List.append_assoc, List.singleton_append]
    rw [bgs_flat a h.2.2.1, bgs_flat b h.2.2.2, bgs, h.2.1]
    have h1 : (st ++ [(i : Int)] ++ [((i + a.flat.length : Nat) : Int)]).length - 2 = st.length := by simp
    rw [h1]
    simp [Tr.all, Nat.add_assoc]
theorem bg_all {T : Tr} (h : T.ok) {j b : Nat} {S : Tr} (hj : (T.all 0)[j]? = some (b, S)) : bgN T.flat j = b := by
  have h1 := bgs_flat T h [] 0 []
  rw [List.append_nil] at h1
  have h2 : (bgs T.flat 0 [])[j]? = some (b : Int) := by
    rw [h1, pre_get _ _ (by rw [List.length_map]; exact lt_get hj), List.getElem?_map, hj]; rfl
  unfold bgN bg
  rw [getD_get h2]
  simp
theorem all_spec : ∀ (T : Tr), T.ok → ∀ (i j b : Nat) (S : Tr), (T.all i)[j]? = some (b, S) → S.ok ∧ ∃ pre post, T.flat = pre ++ (S.flat ++ post) ∧ b = i + pre.length ∧ j + 1 = pre.length + S.flat.length
  | .t0 n, h, i, j, b, S, hj => by
    have h0 : j = 0 := by have := lt_get hj; simp [Tr.all] at this; omega
    subst h0
    simp [Tr.all] at hj
    obtain ⟨rfl, rfl⟩ := hj
    exact ⟨h, [], [], by simp [Tr.flat], by simp, by simp [Tr.flat]⟩
  | .t1 n a, h, i, j, b, S, hj => by
    simp only [Tr.all] at hj
    by_cases hlt : j < (a.all i).length
    · rw [pre_get _ _ hlt] at hj
      obtain ⟨h1, pre, post, h2, h3, h4⟩ := all_spec a h.2.2 i j b S hj
      exact ⟨h1, pre, post ++ [n], by simp [Tr.flat, h2], h3, h4⟩
    · have he : j = (a.all i).length := by have := lt_get hj; simp at this; omega
      rw [last_get _ _ he] at hj
      cases hj
      exact ⟨h, [], [], by simp, by simp, by rw [all_len] at he; simp [Tr.flat]; omega⟩
  | .t2 n a b', h, i, j, b, S, hj => by
    simp only [Tr.all] at hj
    by_cases hlt : j < (a.all i).length
    · rw [pre_get _ _ hlt] at hj
      obtain ⟨h1, pre, post, h2, h3, h4⟩ := all_spec a h.2.2.1 i j b S hj
      exact ⟨h1, pre, post ++ (b'.flat ++ [n]), by simp [Tr.flat, h2], h3, h4⟩
    · obtain ⟨m, hm⟩ : ∃ m, j = (a.all i).length + m := ⟨j - (a.all i).length, by omega⟩
      rw [post_get _ _ hm] at hj
      rw [all_len] at hm
      by_cases hlt2 : m < (b'.all (i + a.flat.length)).length
      · rw [pre_get _ _ hlt2] at hj
        obtain ⟨h1, pre, post, h2, h3, h4⟩ := all_spec b' h.2.2.2 _ m b S hj
        exact ⟨h1, a.flat ++ pre, post ++ [n], by simp [Tr.flat, h2], by simp; omega, by simp; omega⟩
      · have he : m = (b'.all (i + a.flat.length)).length := by have := lt_get hj; simp at this; omega
        rw [last_get _ _ he] at hj
        cases hj
        exact ⟨h, [], [], by simp, by simp, by rw [all_len] at he; simp [Tr.flat]; omega⟩
theorem sub_mid {pre x post : List Nd} {a b : Nat} (ha : a = pre.length) (hb : b = pre.length + x.length) : sub (pre ++ (x ++ post)) a b = x := by
  unfold sub
  rw [ha, drop_pre _ _ rfl, take_pre _ _ (by omega)]
/-- The tree below a place. -/
theorem below_tree {T : Tr} (h : T.ok) {i : Nat} {e : Nd} (he : T.flat[i]? = some e) : ∃ S : Tr, S.ok ∧ sub T.flat (bgN T.flat i) (i + 1) = S.flat ∧ S.root = e ∧ bgN T.flat i + S.flat.length = i + 1 := by
  have hi : i < (T.all 0).length := by rw [all_len]; exact lt_get he
  obtain ⟨⟨b, S⟩, hS⟩ := get_some hi
  obtain ⟨h1, pre, post, h2, h3, h4⟩ := all_spec T h 0 i b S hS
  have hb := bg_all h hS
  have hp := S.flat_pos
  refine ⟨S, h1, ?_, ?_, ?_⟩
  · rw [hb, h2]; exact sub_mid (by omega) (by omega)
  · have : T.flat[i]? = some S.root := by
      rw [h2, post_get pre _ (m := S.flat.length - 1) (by omega), pre_get _ _ (by omega)]
      exact root_last S
    rw [he] at this
    exact (Option.some.inj this).symm
  · rw [hb]; omega
theorem whole_tree {T : Tr} (h : T.ok) : bgN T.flat (T.flat.length - 1) = 0 := bg_all h (all_last T 0)
theorem rootK_flat (T : Tr) : rootK T.flat = ar T.root := rootK_eq (root_last T)
/-- Its parts. -/
theorem parts_tree {T : Tr} (h : T.ok) : (∀ m, m < ar T.root → 1 ≤ pen T.flat (T.flat.length - 1) m) ∧ (prt T.flat (T.flat.length - 1) (rootK T.flat)).reverse = T.kids.map Tr.flat := by
  rw [rootK_flat]
  cases T with
  | t0 n =>
    refine ⟨fun m hm => ?_, ?_⟩
    · have := h.2; simp only [Tr.root] at hm; omega
    · simp only [Tr.root, Tr.kids]; rw [h.2]; rfl
  | t1 n a =>
    have hp := a.flat_pos
    have hl : (Tr.t1 n a).flat.length - 1 = a.flat.length := by simp [Tr.flat]
    have h1 : bgN (Tr.t1 n a).flat (a.flat.length - 1) = 0 := bg_all h (S := a) (by
      simp only [Tr.all]; rw [pre_get _ _ (by rw [all_len]; omega)]; exact all_last a 0)
    rw [hl]
    simp only [Tr.root, Tr.kids]
    rw [h.2.1]
    refine ⟨fun m hm => ?_, ?_⟩
    · have : m = 0 := by omega
      subst this; exact hp
    · have hs : sub (Tr.t1 n a).flat 0 a.flat.length = a.flat := sub_mid (pre := []) (post := [n]) rfl (by simp)
      simp [prt, pen, List.range_succ, h1, hs]
  | t2 n a b =>
    have hp := a.flat_pos
    have hq := b.flat_pos
    have hl : (Tr.t2 n a b).flat.length - 1 = a.flat.length + b.flat.length := by simp [Tr.flat]
    have h1 : bgN (Tr.t2 n a b).flat (a.flat.length + b.flat.length - 1) = a.flat.length := bg_all h (S := b) (by
      simp only [Tr.all]
      rw [post_get _ _ (m := b.flat.length - 1) (by rw [all_len]; omega), pre_get _ _ (by rw [all_len]; omega)]
      have := all_last b (0 + a.flat.length)
      rw [this]; simp)
    have h2 : bgN (Tr.t2 n a b).flat (a.flat.length - 1) = 0 := bg_all h (S := a) (by
      simp only [Tr.all]; rw [pre_get _ _ (by rw [all_len]; omega)]; exact all_last a 0)
    rw [hl]
    simp only [Tr.root, Tr.kids]
    rw [h.2.1]
    refine ⟨fun m hm => ?_, ?_⟩
    · have : m = 0 ∨ m = 1 := by omega
      rcases this with rfl | rfl
      · simp only [pen]; omega
      · simp only [pen, h1]; exact hp
    · have hs1 : sub (Tr.t2 n a b).flat 0 a.flat.length = a.flat := sub_mid (pre := []) (post := b.flat ++ [n]) rfl (by simp)
      have hs2 : sub (Tr.t2 n a b).flat a.flat.length (a.flat.length + b.flat.length) = b.flat := sub_mid (pre := a.flat) (post := [n]) rfl rfl
      simp [prt, pen, List.range_succ, h1, h2, hs1, hs2]
/-- All that is told of the tree below a node. -/
theorem blaw {r : List Nd} (h : chk r 0 0 = none) {i : Nat} {e : Nd} (he : r[i]? = some e) {t : List Nd} (ht : t = sub r (bgN r i) (i + 1)) :
    chk t 0 0 = none ∧ t[t.length - 1]? = some e ∧ (∀ x, t[t.length - 1]? = some x → ∀ m, m < ar x → 1 ≤ pen t (t.length - 1) m) ∧
    (∀ p ∈ (prt t (t.length - 1) (rootK t)).reverse, chk p 0 0 = none) ∧ (prt t (t.length - 1) (rootK t)).reverse.length = ar e ∧ (prt t (t.length - 1) (rootK t)).reverse.flatten ++ [e] = t ∧ bgN r i + t.length = i + 1 ∧ e.may = true := by
  obtain ⟨T, hT, rfl⟩ := tree_of h
  obtain ⟨S, hS, h1, rfl, h2⟩ := below_tree hT he
  rw [h1] at ht
  subst ht
  obtain ⟨h3, h4⟩ := parts_tree hS
  have hr := Tr.root_ok hS
  refine ⟨chk_tree hS, root_last S, ?_, ?_, ?_, ?_, h2, hr.1⟩
  · intro x hx
    rw [root_last S] at hx
    cases hx
    exact h3
  · rw [h4]
    intro p hp
    obtain ⟨K, hK, rfl⟩ := List.mem_map.1 hp
    exact chk_tree (Tr.kids_ok hS K hK)
  · rw [h4, List.length_map]; exact hr.2.symm
  · rw [h4]
    conv => rhs; rw [S.flat_kids]
    rw [List.flatMap_def]
theorem wlaw {r : List Nd} (h : chk r 0 0 = none) : bgN r (r.length - 1) = 0 := by
  obtain ⟨T, hT, rfl⟩ := tree_of h
  exact whole_tree hT
end Go.Sx
