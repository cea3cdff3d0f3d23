/- RxW: what the rows of the law of joins say. -/
import Derived.Test.YtgkjblbmiooedaaRows
import Derived.Test.YtgkjblbmiooedaaRxV
import Derived.Test.YtgkjblbmiooedaaRx6
namespace Go.Proofs.Ytgkjblbmiooedaa
open Go.ChangeShapes Go.WideShapes Go.ChangeAt Go.RowKit Go.Sx

theorem Try.own : ownKnob Try.prog.godebug = none := by kernel_rfl
theorem Try.laidOut : laidOutB Try.prog = true := by kernel_rfl
theorem ndT : NdTypes Try.prog 3 22 24 26 :=
  ⟨Try.underlying3, Try.underlying22, Try.underlying24, ⟨_, Try.underlying26, rfl, ⟨_, rfl, rfl, rfl⟩, ⟨_, rfl, rfl, rfl⟩, ⟨_, rfl, rfl, rfl⟩, ⟨_, rfl, rfl, rfl⟩⟩, by kernel_rfl, by kernel_rfl, by kernel_rfl, by kernel_rfl⟩

set_option maxRecDepth 100000 in
theorem joins_lifted (os : Os) (started : os.Started) (H : Type) (enc : TypeId × Value → H) :
    ReturnsInHanded {} Try.checked os 3 .any (Rows.rxJoinsSpec.pre6 enc Try.prog Try.f3 Rows.rxJoinsRow.domain false) (Rows.rxJoinsSpec.post enc Try.prog Try.f3 false true false false) := by
  refine returnsInHanded_of_change (C := Try.checked) Try.own started (by kernel_rfl) Try.func3
    (ChangeSpec.witness6 (enc := enc) (C := Try.checked) false ⟨#[], #[.agg #[.int .i64 0, .int .u64 0, .int .u64 0, .int .u64 0, .int .u64 0, .int .i64 0, .int .i64 0], .slice none 0 0], []⟩ 8 (by kernel_rfl) (by kernel_rfl) (by kernel_rfl) (by kernel_rfl)) ?_
  intro W base args ds gs before hval0 hW hcnd _
  have hval : ∀ (j : Nat) t v, Try.f3.params[j]? = some t → args[j]? = some v → Value.okWide Try.prog W .any base t v := hval0
  obtain ⟨p, q, hA0, _⟩ := id hW
  have hA : DataW.TrodAll enc Try.prog W 0 (fun _ => true) true Try.f3.params.toList args.toList ds p := hA0
  rw [Try.params3] at hA hval
  obtain ⟨v0, v1, d0, d1, p0, p1, hargs, rfl, rfl, h0, h1⟩ := trodAll_two hA
  have hargs' : args = #[v0, v1] := by first | exact hargs | exact Array.ext' hargs
  subst hargs'
  obtain ⟨n, rfl, nw⟩ := open_node ndT (hval 0 26 v0 rfl rfl) h0
  obtain ⟨fuel, h1⟩ := h1
  obtain ⟨X, xs, c, hc, hR, hxc, hcm, hX, hcap, hw⟩ := open_trees ndT Try.underlying30 Try.underlying27 (by kernel_rfl) h1
  obtain rfl := cells_slice Try.underlying27 (hval 1 27 v1 rfl rfl) hc
  refine said_of_call (P := Try.prog) (tb := 4) Try.laidOut rfl (by kernel_rfl) Try.underlying4 ?_ hW rfl rfl (joins_c (phiOf W) n nw xs X c hR hX (fun p hp => (hcap p hp).1) hw (Nat.le_trans hxc hcm))
  rw [Try.params3]
  intro t ht
  simp only [List.mem_cons, List.not_mem_nil, or_false] at ht
  rcases ht with rfl | rfl
  · exact ⟨by kernel_rfl, of_decide_eq_true (by kernel_rfl)⟩
  · exact ⟨by kernel_rfl, of_decide_eq_true (by kernel_rfl)⟩

theorem joins_holds : Rows.RxJoinsSaid :=
  OpenClaim.holds_of_wide 3 Try.f3 rfl rfl rfl rfl rfl rfl rfl ⟨rfl, rfl, rfl, rfl, rfl⟩ rfl rfl rfl rfl rfl (by kernel_rfl) Try.func3 (by kernel_rfl)
    (of_decide_eq_true (by kernel_rfl)) (by unfold Func.isWrapper; rw [if_neg (of_decide_eq_false (by kernel_rfl))]; exact ⟨rfl, rfl⟩)
    (fun os started H enc _ => joins_lifted os started H enc)
end Go.Proofs.Ytgkjblbmiooedaa
