/- RyTl: the row of RxTells, for every input: it returns true, and the input reads as it did. -/
import Derived.Test.YtgkjblbmiooedaaRows
import Derived.Test.YtgkjblbmiooedaaTlW
import Derived.Test.YtgkjblbmiooedaaTlZ
namespace Go.Proofs.Ytgkjblbmiooedaa
open Go.ChangeShapes Go.WideShapes Go.ChangeAt Go.RowKit Go.Sx

theorem Try.own : ownKnob Try.prog.godebug = none := by kernel_rfl
theorem Try.laidOut : laidOutB Try.prog = true := by kernel_rfl
theorem ndT : NdTypes Try.prog 3 22 24 26 :=
  ⟨Try.underlying3, Try.underlying22, Try.underlying24, ⟨_, Try.underlying26, rfl, ⟨_, rfl, rfl, rfl⟩, ⟨_, rfl, rfl, rfl⟩, ⟨_, rfl, rfl, rfl⟩, ⟨_, rfl, rfl, rfl⟩⟩, by kernel_rfl, by kernel_rfl, by kernel_rfl, by kernel_rfl⟩

set_option maxRecDepth 100000 in
theorem ltells_lifted (os : Os) (started : os.Started) (H : Type) (enc : TypeId × Value → H) :
    ReturnsInHanded {} Try.checked os 7 .any (Rows.rxTellsSpec.pre6 enc Try.prog Try.f7 Rows.rxTellsRow.domain false) (Rows.rxTellsSpec.post enc Try.prog Try.f7 false true false false) := by
  refine returnsInHanded_of_change (C := Try.checked) Try.own started (by kernel_rfl) Try.func7
    (ChangeSpec.witness6 (enc := enc) (C := Try.checked) false ⟨#[], #[.slice none 0 0, .slice none 0 0], []⟩ 8 (by kernel_rfl) (by kernel_rfl) (by kernel_rfl) (by kernel_rfl)) ?_
  intro W base args ds gs before hval0 hW _ _
  have hval : ∀ (j : Nat) t v, Try.f7.params[j]? = some t → args[j]? = some v → Value.okWide Try.prog W .any base t v := hval0
  obtain ⟨p, q, hA0, _⟩ := id hW
  have hA : DataW.TrodAll enc Try.prog W 0 (fun _ => true) true Try.f7.params.toList args.toList ds p := hA0
  rw [Try.params7] at hA hval
  obtain ⟨v0, v1, d0, d1, p0, p1, hargs, rfl, rfl, h0, h1⟩ := trodAll_two hA
  have hargs2 : args = #[v0, v1] := by first | exact hargs | exact Array.ext' hargs
  subst hargs2
  obtain ⟨fuel0, h0⟩ := h0
  obtain ⟨fuel1, h1⟩ := h1
  obtain ⟨A0, x0, c0, hc0, hR0, hw0⟩ := open_tree ndT Try.underlying30 h0
  obtain rfl := cells_slice Try.underlying30 (hval 0 30 v0 rfl rfl) hc0
  obtain ⟨A1, x1, c1, hc1, hR1⟩ := open_ints Try.underlying3 (by kernel_rfl) Try.underlying52 h1
  obtain rfl := cells_slice Try.underlying52 (hval 1 52 v1 rfl rfl) hc1
  refine said_of_call (P := Try.prog) (tb := 4) (T := Unit) (F := fun _ Φ => Reps Φ []) Try.laidOut rfl (by kernel_rfl) Try.underlying4 ?_ hW rfl rfl (law04_RxTells_c 100 (phiOf W) x0 x1 A0 c0 A1 c1 ⟨hR1.1, hR0.1, trivial⟩ true (tells_law hw0))
  rw [Try.params7]
  intro t ht
  simp only [List.mem_cons, List.not_mem_nil, or_false] at ht
  rcases ht with rfl | rfl
  · exact ⟨by kernel_rfl, of_decide_eq_true (by kernel_rfl)⟩
  · exact ⟨by kernel_rfl, of_decide_eq_true (by kernel_rfl)⟩

theorem ltells_holds : Rows.RxTellsSaid :=
  OpenClaim.holds_of_wide 7 Try.f7 rfl rfl rfl rfl rfl rfl rfl ⟨rfl, rfl, rfl, rfl, rfl⟩ rfl rfl rfl rfl rfl (by kernel_rfl) Try.func7 (by kernel_rfl)
    (of_decide_eq_true (by kernel_rfl)) (by unfold Func.isWrapper; rw [if_neg (of_decide_eq_false (by kernel_rfl))]; exact ⟨rfl, rfl⟩)
    (fun os started H enc _ => ltells_lifted os started H enc)
end Go.Proofs.Ytgkjblbmiooedaa
