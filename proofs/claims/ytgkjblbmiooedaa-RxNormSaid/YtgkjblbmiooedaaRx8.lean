/- Rx8: the law of norms, in plain Lean. -/
import Derived.Test.YtgkjblbmiooedaaRx7
namespace Go.Sx
theorem nlaw {r : List Nd} (h : chk r 0 0 = none) : chk (foldR nrmk r) 0 0 = none ∧ foldR nrmk (foldR nrmk r) = foldR nrmk r ∧ (foldR nrmk r).length ≤ r.length ∧ foldR dmk (foldR nrmk r) ≤ foldR dmk r ∧ foldR nmk (foldR nrmk r) = foldR nmk r ∧
    (∀ m ∈ foldR nrmk r, ¬ isN m) ∧ ((∀ m ∈ r, ¬ isN m) → foldR nrmk r = r) := by
  obtain ⟨T, hT, rfl⟩ := tree_of h
  have h1 : foldR nrmk T.flat = T.norm.flat := by rw [foldR_flat nrmk hT, tn_flat T hT]
  have hN := tn_ok T hT
  rw [h1]
  refine ⟨chk_tree hN, ?_, tn_len T, ?_, ?_, tn_no T hT, fun hs => by rw [tn_same T hs]⟩
  · rw [foldR_flat nrmk hN, tn_flat _ hN, tn_tn]
  · rw [foldR_flat dmk hN, foldR_flat dmk hT]; exact tn_dep T
  · rw [foldR_flat nmk hN, foldR_flat nmk hT]; exact tn_nul T hT
theorem isn_step {r : List Nd} {i : Nat} {e : Nd} {s s' : Bool} (hs : s = true → ∀ m ∈ r.take i, ¬ isN m) (he : r[i]? = some e) (h : s' = true → s = true ∧ ¬ isN e) : s' = true → ∀ m ∈ r.take (i + 1), ¬ isN m := by
  intro ht m hm
  rw [take_succ_get he] at hm
  rcases List.mem_append.1 hm with hm | hm
  · exact hs (h ht).1 m hm
  · simp only [List.mem_singleton] at hm; rw [hm]; exact (h ht).2
end Go.Sx
