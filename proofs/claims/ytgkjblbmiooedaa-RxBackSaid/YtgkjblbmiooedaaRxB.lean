/- RxB: printed by wip/gen/lib04.py. Walks over functions of the program. -/
import Derived.Test.YtgkjblbmiooedaaRxA
import Derived.Test.YtgkjblbmiooedaaRx1
namespace Go.Sx
open Go.Proofs Go.RowKit
theorem cnt_c (Φ : Phi) (a0 a1 a2 a3 : Int) (h0 : u64ok a0) (h1 : u64ok a1) (h2 : u64ok a2) (h3 : u64ok a3)  : CallR Try.prog 38 [.agg (uV a0 a1 a2 a3)] [] Φ Int (fun t => (vI t)) (fun _ => []) (fun t _ => t = setC a0 a1 a2 a3 4) := by
  refine CallG.enterk Try.func38 rfl [1, 2, 3, 4, 5, 6, 7, 8, 9, 10, 11, 12, 13, 14, 15] ⟨fr 16 [(0, .agg (uV a0 a1 a2 a3))], []⟩ (by kernel_rfl) (by kernel_rfl) ?_
  intro E G β0
  have g0 := ocI_spec a0 h0
  have g1 := ocI_spec a1 h1
  have g2 := ocI_spec a2 h2
  have g3 := ocI_spec a3 h3
  refine At.seq ?_
  refine At.region ?_
  refine At.runk 2 [0, 2] [] ⟨fr 16 [(1, .p 0 0)], [.c (uV a0 a1 a2 a3) 24]⟩ (by kernel_rfl) ?_
  refine At.nil ?_
  refine At.then_normal ?_
  refine At.seq ?_
  refine At.region ?_
  refine At.runk 1 [] [] ⟨fr 16 [(1, .p 0 0), (3, (vI 0))], [.c (uV a0 a1 a2 a3) 24]⟩ (by kernel_rfl) ?_
  refine At.nil ?_
  refine At.then_normal ?_
  refine At.seq ?_
  refine At.seq ?_
  refine At.region ?_
  refine At.runk 2 [1] [0] ⟨fr 16 [(3, (vI 0)), (6, .agg (uV a0 a1 a2 a3)), (7, (vI 0))], [.dead]⟩ (by kernel_rfl) ?_
  refine At.nil ?_
  refine At.then_normal ?_
  refine At.block ?_
  refine At.forget [] 0 [] ⟨fr 16 [(3, (vI 0)), (6, .agg (uV a0 a1 a2 a3)), (7, (vI 0))], []⟩ (by kernel_rfl) (by kernel_rfl) (bleT rfl) ?_
  refine At.loop (T := Nat) (fun x => ⟨fr 16 [(3, (vI (setC a0 a1 a2 a3 x))), (6, .agg (uV a0 a1 a2 a3)), (7, (vI (x : Int)))], []⟩) (fun x Φ => x ≤ 4) (fun x => 4 - x) 0 (by kernel_rfl) (Nat.zero_le _) ?_
  rintro i Φ1 hle2 hF
  refine At.cast (S' := ⟨fr 16 [(3, (vI (setC a0 a1 a2 a3 i))), (6, .agg (uV a0 a1 a2 a3)), (7, (vI (i : Int)))], []⟩) (by kernel_rfl) ?_
  obtain rfl | rfl | rfl | rfl | rfl : i = 0 ∨ i = 1 ∨ i = 2 ∨ i = 3 ∨ i = 4 := by omega
  · refine At.cast (S' := ⟨fr 16 [(3, (vI (setC a0 a1 a2 a3 0))), (6, .agg (uV a0 a1 a2 a3)), (7, (vI 0))], []⟩) (by kernel_rfl) ?_
    refine At.seq ?_
    refine At.region ?_
    refine At.runk 1 [] [] ⟨fr 16 [(3, (vI (setC a0 a1 a2 a3 0))), (6, .agg (uV a0 a1 a2 a3)), (7, (vI 0)), (8, (vB true))], []⟩ (by kernel_rfl) ?_
    refine At.nil ?_
    refine At.then_normal ?_
    refine At.seq ?_
    refine At.cond_t (by kernel_rfl) ?_
    refine At.skip ?_
    refine At.then_normal ?_
    refine At.seq ?_
    refine At.block ?_
    refine At.seq ?_
    refine At.region ?_
    refine At.runk 2 [8, 9] [] ⟨fr 16 [(3, (vI (setC a0 a1 a2 a3 0))), (5, (vU a0)), (6, .agg (uV a0 a1 a2 a3)), (7, (vI 0))], []⟩ (by kernel_rfl) ?_
    refine At.nil ?_
    refine At.then_normal ?_
    refine At.region ?_
    refine At.runk 2 [3, 5] [] ⟨fr 16 [(6, .agg (uV a0 a1 a2 a3)), (7, (vI 0)), (10, (vI (setC a0 a1 a2 a3 0))), (11, (vU a0))], []⟩ (by kernel_rfl) ?_
    refine At.callV rfl (by kernel_rfl) 71 [] [] (by kernel_rfl) Try.func71 (by kernel_rfl) (by kernel_rfl) [(vU a0)] (by kernel_rfl) (by kernel_rfl) (oc_c Φ1 a0) ?_
    rintro Φ3 _ hle4 rfl
    refine ⟨⟨fr 16 [(6, .agg (uV a0 a1 a2 a3)), (7, (vI 0)), (10, (vI (setC a0 a1 a2 a3 0))), (11, (vU a0)), (12, (vI (ocI a0)))], []⟩, by kernel_rfl, by kernel_rfl, ?_⟩
    refine At.runk 1 [10, 11, 12] [] ⟨fr 16 [(6, .agg (uV a0 a1 a2 a3)), (7, (vI 0)), (13, (vI (IntKind.i64.wrap ((setC a0 a1 a2 a3 0) + (ocI a0)))))], []⟩ (by kernel_rfl) ?_
    refine At.cast (S' := ⟨fr 16 [(6, .agg (uV a0 a1 a2 a3)), (7, (vI 0)), (13, (vI ((setC a0 a1 a2 a3 0) + (ocI a0))))], []⟩) (by rw [wrapI (z := (setC a0 a1 a2 a3 0) + (ocI a0)) (by simp only [setC]; omega) (by simp only [setC]; omega)]) ?_
    refine At.runk 1 [13] [] ⟨fr 16 [(3, (vI ((setC a0 a1 a2 a3 0) + (ocI a0)))), (6, .agg (uV a0 a1 a2 a3)), (7, (vI 0))], []⟩ (by kernel_rfl) ?_
    refine At.nil ?_
    refine At.in_normal ?_
    refine At.then_normal ?_
    refine At.region ?_
    refine At.runk 2 [14] [] ⟨fr 16 [(3, (vI ((setC a0 a1 a2 a3 0) + (ocI a0)))), (6, .agg (uV a0 a1 a2 a3)), (7, (vI 1))], []⟩ (by kernel_rfl) ?_
    refine At.nil ?_
    refine At.round (0 + 1) (by kernel_rfl) hle4 (by omega) (by omega)
  · refine At.cast (S' := ⟨fr 16 [(3, (vI (setC a0 a1 a2 a3 1))), (6, .agg (uV a0 a1 a2 a3)), (7, (vI 1))], []⟩) (by kernel_rfl) ?_
    refine At.seq ?_
    refine At.region ?_
    refine At.runk 1 [] [] ⟨fr 16 [(3, (vI (setC a0 a1 a2 a3 1))), (6, .agg (uV a0 a1 a2 a3)), (7, (vI 1)), (8, (vB true))], []⟩ (by kernel_rfl) ?_
    refine At.nil ?_
    refine At.then_normal ?_
    refine At.seq ?_
    refine At.cond_t (by kernel_rfl) ?_
    refine At.skip ?_
    refine At.then_normal ?_
    refine At.seq ?_
    refine At.block ?_
    refine At.seq ?_
    refine At.region ?_
    refine At.runk 2 [8, 9] [] ⟨fr 16 [(3, (vI (setC a0 a1 a2 a3 1))), (5, (vU a1)), (6, .agg (uV a0 a1 a2 a3)), (7, (vI 1))], []⟩ (by kernel_rfl) ?_
    refine At.nil ?_
    refine At.then_normal ?_
    refine At.region ?_
    refine At.runk 2 [3, 5] [] ⟨fr 16 [(6, .agg (uV a0 a1 a2 a3)), (7, (vI 1)), (10, (vI (setC a0 a1 a2 a3 1))), (11, (vU a1))], []⟩ (by kernel_rfl) ?_
    refine At.callV rfl (by kernel_rfl) 71 [] [] (by kernel_rfl) Try.func71 (by kernel_rfl) (by kernel_rfl) [(vU a1)] (by kernel_rfl) (by kernel_rfl) (oc_c Φ1 a1) ?_
    rintro Φ5 _ hle6 rfl
    refine ⟨⟨fr 16 [(6, .agg (uV a0 a1 a2 a3)), (7, (vI 1)), (10, (vI (setC a0 a1 a2 a3 1))), (11, (vU a1)), (12, (vI (ocI a1)))], []⟩, by kernel_rfl, by kernel_rfl, ?_⟩
    refine At.runk 1 [10, 11, 12] [] ⟨fr 16 [(6, .agg (uV a0 a1 a2 a3)), (7, (vI 1)), (13, (vI (IntKind.i64.wrap ((setC a0 a1 a2 a3 1) + (ocI a1)))))], []⟩ (by kernel_rfl) ?_
    refine At.cast (S' := ⟨fr 16 [(6, .agg (uV a0 a1 a2 a3)), (7, (vI 1)), (13, (vI ((setC a0 a1 a2 a3 1) + (ocI a1))))], []⟩) (by rw [wrapI (z := (setC a0 a1 a2 a3 1) + (ocI a1)) (by simp only [setC]; omega) (by simp only [setC]; omega)]) ?_
    refine At.runk 1 [13] [] ⟨fr 16 [(3, (vI ((setC a0 a1 a2 a3 1) + (ocI a1)))), (6, .agg (uV a0 a1 a2 a3)), (7, (vI 1))], []⟩ (by kernel_rfl) ?_
    refine At.nil ?_
    refine At.in_normal ?_
    refine At.then_normal ?_
    refine At.region ?_
    refine At.runk 2 [14] [] ⟨fr 16 [(3, (vI ((setC a0 a1 a2 a3 1) + (ocI a1)))), (6, .agg (uV a0 a1 a2 a3)), (7, (vI 2))], []⟩ (by kernel_rfl) ?_
    refine At.nil ?_
    refine At.round (1 + 1) (by kernel_rfl) hle6 (by omega) (by omega)
  · refine At.cast (S' := ⟨fr 16 [(3, (vI (setC a0 a1 a2 a3 2))), (6, .agg (uV a0 a1 a2 a3)), (7, (vI 2))], []⟩) (by kernel_rfl) ?_
    refine At.seq ?_
    refine At.region ?_
    refine At.runk 1 [] [] ⟨fr 16 [(3, (vI (setC a0 a1 a2 a3 2))), (6, .agg (uV a0 a1 a2 a3)), (7, (vI 2)), (8, (vB true))], []⟩ (by kernel_rfl) ?_
    refine At.nil ?_
    refine At.then_normal ?_
    refine At.seq ?_
    refine At.cond_t (by kernel_rfl) ?_
    refine At.skip ?_
    refine At.then_normal ?_
    refine At.seq ?_
    refine At.block ?_
    refine At.seq ?_
    refine At.region ?_
    refine At.runk 2 [8, 9] [] ⟨fr 16 [(3, (vI (setC a0 a1 a2 a3 2))), (5, (vU a2)), (6, .agg (uV a0 a1 a2 a3)), (7, (vI 2))], []⟩ (by kernel_rfl) ?_
    refine At.nil ?_
    refine At.then_normal ?_
    refine At.region ?_
    refine At.runk 2 [3, 5] [] ⟨fr 16 [(6, .agg (uV a0 a1 a2 a3)), (7, (vI 2)), (10, (vI (setC a0 a1 a2 a3 2))), (11, (vU a2))], []⟩ (by kernel_rfl) ?_
    refine At.callV rfl (by kernel_rfl) 71 [] [] (by kernel_rfl) Try.func71 (by kernel_rfl) (by kernel_rfl) [(vU a2)] (by kernel_rfl) (by kernel_rfl) (oc_c Φ1 a2) ?_
    rintro Φ7 _ hle8 rfl
    refine ⟨⟨fr 16 [(6, .agg (uV a0 a1 a2 a3)), (7, (vI 2)), (10, (vI (setC a0 a1 a2 a3 2))), (11, (vU a2)), (12, (vI (ocI a2)))], []⟩, by kernel_rfl, by kernel_rfl, ?_⟩
    refine At.runk 1 [10, 11, 12] [] ⟨fr 16 [(6, .agg (uV a0 a1 a2 a3)), (7, (vI 2)), (13, (vI (IntKind.i64.wrap ((setC a0 a1 a2 a3 2) + (ocI a2)))))], []⟩ (by kernel_rfl) ?_
    refine At.cast (S' := ⟨fr 16 [(6, .agg (uV a0 a1 a2 a3)), (7, (vI 2)), (13, (vI ((setC a0 a1 a2 a3 2) + (ocI a2))))], []⟩) (by rw [wrapI (z := (setC a0 a1 a2 a3 2) + (ocI a2)) (by simp only [setC]; omega) (by simp only [setC]; omega)]) ?_
    refine At.runk 1 [13] [] ⟨fr 16 [(3, (vI ((setC a0 a1 a2 a3 2) + (ocI a2)))), (6, .agg (uV a0 a1 a2 a3)), (7, (vI 2))], []⟩ (by kernel_rfl) ?_
    refine At.nil ?_
    refine At.in_normal ?_
    refine At.then_normal ?_
    refine At.region ?_
    refine At.runk 2 [14] [] ⟨fr 16 [(3, (vI ((setC a0 a1 a2 a3 2) + (ocI a2)))), (6, .agg (uV a0 a1 a2 a3)), (7, (vI 3))], []⟩ (by kernel_rfl) ?_
    refine At.nil ?_
    refine At.round (2 + 1) (by kernel_rfl) hle8 (by omega) (by omega)
  · refine At.cast (S' := ⟨fr 16 [(3, (vI (setC a0 a1 a2 a3 3))), (6, .agg (uV a0 a1 a2 a3)), (7, (vI 3))], []⟩) (by kernel_rfl) ?_
    refine At.seq ?_
    refine At.region ?_
    refine At.runk 1 [] [] ⟨fr 16 [(3, (vI (setC a0 a1 a2 a3 3))), (6, .agg (uV a0 a1 a2 a3)), (7, (vI 3)), (8, (vB true))], []⟩ (by kernel_rfl) ?_
    refine At.nil ?_
    refine At.then_normal ?_
    refine At.seq ?_
    refine At.cond_t (by kernel_rfl) ?_
    refine At.skip ?_
    refine At.then_normal ?_
    refine At.seq ?_
    refine At.block ?_
    refine At.seq ?_
    refine At.region ?_
    refine At.runk 2 [8, 9] [] ⟨fr 16 [(3, (vI (setC a0 a1 a2 a3 3))), (5, (vU a3)), (6, .agg (uV a0 a1 a2 a3)), (7, (vI 3))], []⟩ (by kernel_rfl) ?_
    refine At.nil ?_
    refine At.then_normal ?_
    refine At.region ?_
    refine At.runk 2 [3, 5] [] ⟨fr 16 [(6, .agg (uV a0 a1 a2 a3)), (7, (vI 3)), (10, (vI (setC a0 a1 a2 a3 3))), (11, (vU a3))], []⟩ (by kernel_rfl) ?_
    refine At.callV rfl (by kernel_rfl) 71 [] [] (by kernel_rfl) Try.func71 (by kernel_rfl) (by kernel_rfl) [(vU a3)] (by kernel_rfl) (by kernel_rfl) (oc_c Φ1 a3) ?_
    rintro Φ9 _ hle10 rfl
    refine ⟨⟨fr 16 [(6, .agg (uV a0 a1 a2 a3)), (7, (vI 3)), (10, (vI (setC a0 a1 a2 a3 3))), (11, (vU a3)), (12, (vI (ocI a3)))], []⟩, by kernel_rfl, by kernel_rfl, ?_⟩
    refine At.runk 1 [10, 11, 12] [] ⟨fr 16 [(6, .agg (uV a0 a1 a2 a3)), (7, (vI 3)), (13, (vI (IntKind.i64.wrap ((setC a0 a1 a2 a3 3) + (ocI a3)))))], []⟩ (by kernel_rfl) ?_
    refine At.cast (S' := ⟨fr 16 [(6, .agg (uV a0 a1 a2 a3)), (7, (vI 3)), (13, (vI ((setC a0 a1 a2 a3 3) + (ocI a3))))], []⟩) (by rw [wrapI (z := (setC a0 a1 a2 a3 3) + (ocI a3)) (by simp only [setC]; omega) (by simp only [setC]; omega)]) ?_
    refine At.runk 1 [13] [] ⟨fr 16 [(3, (vI ((setC a0 a1 a2 a3 3) + (ocI a3)))), (6, .agg (uV a0 a1 a2 a3)), (7, (vI 3))], []⟩ (by kernel_rfl) ?_
    refine At.nil ?_
    refine At.in_normal ?_
    refine At.then_normal ?_
    refine At.region ?_
    refine At.runk 2 [14] [] ⟨fr 16 [(3, (vI ((setC a0 a1 a2 a3 3) + (ocI a3)))), (6, .agg (uV a0 a1 a2 a3)), (7, (vI 4))], []⟩ (by kernel_rfl) ?_
    refine At.nil ?_
    refine At.round (3 + 1) (by kernel_rfl) hle10 (by omega) (by omega)
  · refine At.cast (S' := ⟨fr 16 [(3, (vI (setC a0 a1 a2 a3 4))), (6, .agg (uV a0 a1 a2 a3)), (7, (vI 4))], []⟩) (by kernel_rfl) ?_
    refine At.seq ?_
    refine At.region ?_
    refine At.runk 1 [] [] ⟨fr 16 [(3, (vI (setC a0 a1 a2 a3 4))), (6, .agg (uV a0 a1 a2 a3)), (7, (vI 4)), (8, (vB false))], []⟩ (by kernel_rfl) ?_
    refine At.nil ?_
    refine At.then_normal ?_
    refine At.seq ?_
    refine At.cond_f (by kernel_rfl) ?_
    refine At.exit_ ?_
    refine At.then_exit ?_
    refine At.then_exit ?_
    refine At.in_here ?_
    refine At.then_normal ?_
    refine At.seq ?_
    refine At.region ?_
    refine At.runk 2 [3, 6, 7, 8, 15] [] ⟨fr 16 [(2, (vI (setC a0 a1 a2 a3 4)))], []⟩ (by kernel_rfl) ?_
    refine At.nil ?_
    refine At.then_normal ?_
    refine At.ret_ ?_
    refine At.leaveR rfl (setC a0 a1 a2 a3 4) (by kernel_rfl) (by kernel_rfl) (by kernel_rfl) ?_
    rfl

end Go.Sx
