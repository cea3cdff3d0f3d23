/- Rx2: what a tree comes to from its leaves on, in plain Lean. -/
import Derived.Test.YtgkjblbmiooedaaRx1
namespace Go.Sx

/-- How many parts a node has. -/
def ar (n : Nd) : Nat := (kar n.kind).toNat
theorem ar_kar (n : Nd) : kar n.kind = (ar n : Int) := by have := kar_bd n.kind; unfold ar; omega
theorem ar_le (n : Nd) : ar n ≤ 2 := by have := kar_bd n.kind; unfold ar; omega

theorem chk_none {nds : List Nd} {i : Nat} {e : Nd} {t : Nat} (he : nds[i]? = some e) (h : chk (nds.drop i) t i = none) : e.may = true ∧ ar e ≤ t ∧ chk (nds.drop (i + 1)) ((t - ar e + 1 : Nat) : Int) (i + 1) = none := by
  by_cases hm : e.may = true
  · by_cases ht : kar e.kind > t
    · rw [chk_bad he (.inr ht)] at h; cases h
    · rw [chk_step he hm ht] at h
      have := ar_kar e
      refine ⟨hm, by omega, ?_⟩
      rw [← h]
      congr 1
      omega
  · rw [chk_bad he (.inl (by simpa using hm))] at h; cases h
theorem chk_none_end {nds : List Nd} {i : Nat} {t : Nat} (hi : nds.length ≤ i) (h : chk (nds.drop i) t i = none) : t = 1 := by
  rw [chk_end hi] at h
  split at h
  · omega
  · cases h

/-- From the leaves on, on a pile. -/
def foldS {α : Type} (mk : Nd → List α → α) : List Nd → List α → List α
  | [], st => st
  | n :: l, st => foldS mk l (st.take (st.length - ar n) ++ [mk n (st.drop (st.length - ar n))])
theorem foldS_step {α : Type} {mk : Nd → List α → α} {nds : List Nd} {i : Nat} {e : Nd} {st : List α} (he : nds[i]? = some e) : foldS mk (nds.drop i) st = foldS mk (nds.drop (i + 1)) (st.take (st.length - ar e) ++ [mk e (st.drop (st.length - ar e))]) := by
  rw [drop_of_get he, foldS]
theorem foldS_end {α : Type} {mk : Nd → List α → α} {nds : List Nd} {i : Nat} {st : List α} (hi : nds.length ≤ i) : foldS mk (nds.drop i) st = st := by
  rw [List.drop_of_length_le hi, foldS]

def encI (v : Int) : List Value := [.int .i64 v]
def encB (v : Bool) : List Value := [.bool v]
theorem enc1 {α : Type} {f : α → Value} (xs : List α) : xs.flatMap (fun x => [f x]) = xs.map f := by
  induction xs with
  | nil => rfl
  | cons x xs ih => simp [ih]
theorem encI_one (xs : List Int) : ∀ u ∈ xs.flatMap encI, u.oneCell' = true := by
  intro u hu
  obtain ⟨n, _, hn⟩ := List.mem_flatMap.1 hu
  exact one_lits (encI n) rfl u hn
theorem encB_one (xs : List Bool) : ∀ u ∈ xs.flatMap encB, u.oneCell' = true := by
  intro u hu
  obtain ⟨n, _, hn⟩ := List.mem_flatMap.1 hu
  exact one_lits (encB n) rfl u hn

/-- The greatest of some, and 0. -/
def most (l : List Int) : Int := l.foldl max 0
def dmk (_ : Nd) (l : List Int) : Int := most l + 1
theorem foldl_max_bd (l : List Int) (a b : Int) (ha : a ≤ b) (h : ∀ v ∈ l, v ≤ b) : a ≤ l.foldl max a ∧ l.foldl max a ≤ b := by
  induction l generalizing a with
  | nil => exact ⟨by simp, by simpa using ha⟩
  | cons x l ih =>
    have hx := h x (by simp)
    have := ih (max a x) (by omega) fun v hv => h v (by simp [hv])
    simp only [List.foldl_cons]
    omega
theorem most_bd {l : List Int} {b : Int} (hb : 0 ≤ b) (h : ∀ v ∈ l, v ≤ b) : 0 ≤ most l ∧ most l ≤ b := foldl_max_bd l 0 b hb h
theorem most_take {l : List Int} {i : Nat} {e : Int} (h : l[i]? = some e) : most (l.take (i + 1)) = max (most (l.take i)) e := by
  rw [take_succ_get h]; unfold most; rw [List.foldl_append]; rfl

/-- The part of a row behind a place. -/
theorem row_drop {Φ : Phi} {A A' : Option Addr} {α : Type} {enc : α → List Value} {sz : Nat} (hsz : ∀ x, (enc x).length = sz) {xs : List α} {left c : Nat} (hc : xs.length ≤ c) (hA : left < c → A' = A.map fun a => a.add (left * sz)) (h : RdC Φ A (xs.flatMap enc)) : RdC Φ A' ((xs.drop left).flatMap enc) := by
  by_cases hl : left < xs.length
  · have : (xs.drop left).flatMap enc = (xs.flatMap enc).drop (left * sz) := by
      have h1 : xs = xs.take left ++ xs.drop left := (List.take_append_drop left xs).symm
      have h2 : (xs.flatMap enc) = (xs.take left).flatMap enc ++ (xs.drop left).flatMap enc := by rw [← List.flatMap_append, ← h1]
      rw [h2, List.drop_left' (by rw [flat_len hsz]; simp; rw [Nat.min_eq_left (by omega)])]
    rw [this]
    exact h.drop (left * sz) (hA (by omega))
  · rw [List.drop_of_length_le (by omega)]
    exact RdC.nil

theorem dmk_inv {st : List Int} {i : Nat} {e : Nd} {L : Nat} (h : ∀ v ∈ st, v ≤ (i : Int)) : ∀ v ∈ st.take L ++ [dmk e (st.drop L)], v ≤ ((i + 1 : Nat) : Int) := by
  intro v hv
  rcases List.mem_append.1 hv with hv | hv
  · have := h v (List.mem_of_mem_take hv); omega
  · simp only [List.mem_singleton] at hv
    have := most_bd (l := st.drop L) (b := (i : Int)) (by omega) fun v hv => h v (List.mem_of_mem_drop hv)
    rw [hv, dmk]
    omega
/-- What a tree comes to. -/
def foldR {α : Type} [Inhabited α] (mk : Nd → List α → α) (nds : List Nd) : α := (foldS mk nds []).headD default
theorem headD_get {α : Type} [Inhabited α] {l : List α} {e : α} (h : l[0]? = some e) : l.headD default = e := by
  cases l with
  | nil => cases h
  | cons x l => cases h; rfl


/-- What is told of a row that may be a tree. -/
def treeR {α : Type} (z v : α) (nds : List Nd) : α × Int := match chk nds 0 0 with
  | none => (v, 0)
  | some _ => (z, 140)
theorem treeR_ok {α : Type} {z v : α} {nds : List Nd} (h : chk nds 0 0 = none) : treeR z v nds = (v, 0) := by rw [treeR, h]
theorem treeR_no {α : Type} {z v : α} {nds : List Nd} (h : ¬ chk nds 0 0 = none) : treeR z v nds = (z, 140) := by
  rw [treeR]
  split
  · rename_i h'; exact absurd h' h
  · rfl


/-- Whether a node is nullable, where this is known of its parts. -/
def nmk (n : Nd) (vs : List Bool) : Bool :=
  if n.kind = 1 then false else if n.kind = 2 then true else if n.kind = 3 then false else if n.kind = 4 then (vs.getD 0 false && vs.getD 1 false) else if n.kind = 5 then (vs.getD 0 false || vs.getD 1 false)
  else if n.kind = 6 then true else if n.kind = 7 then vs.getD 0 false else if n.kind = 8 then true else if n.kind = 9 then (n.mn == 0 || vs.getD 0 false) else false
theorem getD_get {α : Type} {l : List α} {i : Nat} {e : α} (h : l[i]? = some e) (d : α) : l.getD i d = e := by
  rw [List.getD, h]; rfl

end Go.Sx
