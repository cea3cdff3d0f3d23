/- Rx5: the law of joins, in plain Lean. -/
import Derived.Test.YtgkjblbmiooedaaRxU
namespace Go.Sx

theorem chkZ_lt {nds : List Nd} : decide (chkZ nds < 0) = decide (chk nds 0 0 = none) := by
  unfold chkZ
  split
  · rename_i h; simp [h]
  · rename_i i h; simp [h]
/-- The first so many of each of the first four. -/
def own4 (xs : List Pt) (i : Nat) : List (List Nd) := (xs.take (min i 4)).map fun p => p.nds.take 60
theorem own4_len {xs : List Pt} {i : Nat} {ps : List Pt} (hi : i ≤ xs.length) (h : ps.map Pt.nds = own4 xs i) : ps.length = min i 4 := by
  have := congrArg List.length h
  rw [List.length_map, own4, List.length_map, List.length_take] at this
  omega
theorem own4_snoc {xs ps : List Pt} {i : Nat} {e : Pt} {A : Option Addr} {c : Nat} (he : xs[i]? = some e) (hi : i < 4) (h : ps.map Pt.nds = own4 xs i) : (ps ++ [(⟨A, e.nds.take 60, c⟩ : Pt)]).map Pt.nds = own4 xs (i + 1) := by
  rw [List.map_append, h, own4, own4, Nat.min_eq_left (by omega), Nat.min_eq_left (by omega), take_succ_get he, List.map_append]
  rfl
theorem own4_same {xs ps : List Pt} {i : Nat} (hi : ¬ i < 4) (h : ps.map Pt.nds = own4 xs i) : ps.map Pt.nds = own4 xs (i + 1) := by
  rw [h, own4, own4, Nat.min_eq_right (by omega), Nat.min_eq_right (by omega)]
theorem own4_le {xs ps : List Pt} {i : Nat} (h : ps.map Pt.nds = own4 xs i) : ∀ p ∈ ps, p.nds.length ≤ 60 := by
  intro p hp
  have : p.nds ∈ own4 xs i := h ▸ List.mem_map.2 ⟨p, hp, rfl⟩
  obtain ⟨q, _, hq⟩ := List.mem_map.1 this
  rw [← hq, List.length_take]; omega
theorem own4_wf {xs ps : List Pt} {i : Nat} (h : ps.map Pt.nds = own4 xs i) (hw : ∀ p ∈ xs, ∀ n ∈ p.nds, n.wf) : ∀ p ∈ ps, ∀ n ∈ p.nds, n.wf := by
  intro p hp n hn
  have : p.nds ∈ own4 xs i := h ▸ List.mem_map.2 ⟨p, hp, rfl⟩
  obtain ⟨q, hq, hqe⟩ := List.mem_map.1 this
  exact hw q (List.mem_of_mem_take hq) n (List.mem_of_mem_take (hqe ▸ hn))
theorem own4_get {xs ps : List Pt} {i j : Nat} {e f : Pt} (h : ps.map Pt.nds = own4 xs i) (he : ps[j]? = some e) (hf : xs[j]? = some f) : e.nds = f.nds.take 60 := by
  have hj : j < ps.length := by
    rcases Nat.lt_or_ge j ps.length with h | h
    · exact h
    · rw [List.getElem?_eq_none h] at he; cases he
  have h1 : (ps.map Pt.nds)[j]? = some e.nds := by rw [List.getElem?_map, he]; rfl
  rw [h, own4, List.getElem?_map, List.getElem?_take] at h1
  split at h1
  · rw [hf] at h1; exact (Option.some.inj h1).symm
  · cases h1
theorem right_snoc {ps : List Pt} {A : Option Addr} {c : Nat} {ys : List Nd} (h : ∀ p ∈ ps, chk p.nds 0 0 = none) : (decide (chkZ ys < 0) = true) ↔ ∀ p ∈ ps ++ [(⟨A, ys, c⟩ : Pt)], chk p.nds 0 0 = none := by
  rw [chkZ_lt, decide_eq_true_eq]
  constructor
  · intro hy p hp
    rcases List.mem_append.1 hp with hp | hp
    · exact h p hp
    · simp only [List.mem_singleton] at hp; rw [hp]; exact hy
  · intro hp
    exact hp _ (List.mem_append.2 (.inr (List.mem_singleton.2 rfl)))
theorem right_no {ps : List Pt} {A : Option Addr} {c : Nat} {ys : List Nd} (h : ¬ ∀ p ∈ ps, chk p.nds 0 0 = none) : (false = true) ↔ ∀ p ∈ ps ++ [(⟨A, ys, c⟩ : Pt)], chk p.nds 0 0 = none :=
  ⟨fun h => (by cases h), fun hp => (h fun p hq => hp p (List.mem_append.2 (.inl hq))).elim⟩
theorem enc_snoc (ps : List Pt) (p : Pt) : (ps ++ [p]).flatMap Pt.enc = ps.flatMap Pt.enc ++ [.slice p.A p.nds.length p.c] := by rw [List.flatMap_append]; rfl
theorem set_len {xs : List Value} {off : Nat} {v : Value} (h : off + 1 ≤ xs.length) : (xs.take off ++ [v] ++ xs.drop (off + 1)).length = xs.length := by
  simp only [List.length_append, List.length_take, List.length_drop, List.length_singleton]; omega
theorem ndsAt_nil {Φ : Phi} {A : Option Addr} : NdsAt Φ A [] := RdC.nil
end Go.Sx
