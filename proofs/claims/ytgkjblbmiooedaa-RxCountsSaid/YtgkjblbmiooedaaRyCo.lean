/- RyCo: the row of RxCounts, for every input: it returns true, and the input reads as it did. -/
import Derived.Test.YtgkjblbmiooedaaRows
import Derived.Test.YtgkjblbmiooedaaCoW
import Derived.Test.YtgkjblbmiooedaaCoZ
namespace Go.Proofs.Ytgkjblbmiooedaa
open Go.ChangeShapes Go.WideShapes Go.ChangeAt Go.RowKit Go.Sx

theorem Try.own : ownKnob Try.prog.godebug = none := by kernel_rfl
theorem Try.laidOut : laidOutB Try.prog = true := by kernel_rfl
theorem ndT : NdTypes Try.prog 3 22 24 26 :=
  ⟨Try.underlying3, Try.underlying22, Try.underlying24, ⟨_, Try.underlying26, rfl, ⟨_, rfl, rfl, rfl⟩, ⟨_, rfl, rfl, rfl⟩, ⟨_, rfl, rfl, rfl⟩, ⟨_, rfl, rfl, rfl⟩⟩, by kernel_rfl, by kernel_rfl, by kernel_rfl, by kernel_rfl⟩

set_option maxRecDepth 100000 in
theorem lcounts_lifted (os : Os) (started : os.Started) (H : Type) (enc : TypeId × Value → H) :
    ReturnsInHanded {} Try.checked os 8 .any (Rows.rxCountsSpec.pre6 enc Try.prog Try.f8 Rows.rxCountsRow.domain false) (Rows.rxCountsSpec.post enc Try.prog Try.f8 false true false false) := by
  refine returnsInHanded_of_change (C := Try.checked) Try.own started (by kernel_rfl) Try.func8
    (ChangeSpec.witness6 (enc := enc) (C := Try.checked) false ⟨#[], #[.slice none 0 0], []⟩ 8 (by kernel_rfl) (by kernel_rfl) (by kernel_rfl) (by kernel_rfl)) ?_
  intro W base args ds gs before hval0 hW _ _
  have hval : ∀ (j : Nat) t v, Try.f8.params[j]? = some t → args[j]? = some v → Value.okWide Try.prog W .any base t v := hval0
  obtain ⟨p, q, hA0, _⟩ := id hW
  have hA : DataW.TrodAll enc Try.prog W 0 (fun _ => true) true Try.f8.params.toList args.toList ds p := hA0
  rw [Try.params8] at hA hval
  obtain ⟨v0, d0, hargs, rfl, h0⟩ := trodAll_one hA
  have hargs2 : args = #[v0] := by first | exact hargs | exact Array.ext' hargs
  subst hargs2
  obtain ⟨fuel0, h0⟩ := h0
  obtain ⟨A0, x0, c0, hc0, hR0, hw0⟩ := open_tree ndT Try.underlying30 h0
  obtain rfl := cells_slice Try.underlying30 (hval 0 30 v0 rfl rfl) hc0
  refine said_of_call (P := Try.prog) (tb := 4) (T := Unit) (F := fun _ Φ => Reps Φ []) Try.laidOut rfl (by kernel_rfl) Try.underlying4 ?_ hW rfl rfl (law04_RxCounts_c 100 (phiOf W) x0 A0 c0 hR0 true (counts_law hw0))
  rw [Try.params8]
  intro t ht
  simp only [List.mem_cons, List.not_mem_nil, or_false] at ht
  subst ht
  exact ⟨by kernel_rfl, of_decide_eq_true (by kernel_rfl)⟩

theorem lcounts_holds : Rows.RxCountsSaid :=
  OpenClaim.holds_of_wide 8 Try.f8 rfl rfl rfl rfl rfl rfl rfl ⟨rfl, rfl, rfl, rfl, rfl⟩ rfl rfl rfl rfl rfl (by kernel_rfl) Try.func8 (by kernel_rfl)
    (of_decide_eq_true (by kernel_rfl)) (by unfold Func.isWrapper; rw [if_neg (of_decide_eq_false (by kernel_rfl))]; exact ⟨rfl, rfl⟩)
    (fun os started H enc _ => lcounts_lifted os started H enc)
end Go.Proofs.Ytgkjblbmiooedaa
