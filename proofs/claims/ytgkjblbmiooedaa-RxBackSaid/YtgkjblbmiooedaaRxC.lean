/- RxC: printed by wip/gen/lib04.py. Walks over functions of the program. -/
import Derived.Test.YtgkjblbmiooedaaRxB
namespace Go.Sx
open Go.Proofs Go.RowKit
theorem plain_c (Φ : Phi) (n : Nd)  : CallR Try.prog 81 [.agg n.sv] [] Φ Bool (fun t => (vB t)) (fun _ => []) (fun t _ => t = n.plain) := by
  refine CallG.enterk Try.func81 rfl [1, 2, 3, 4, 5, 6, 7] ⟨fr 8 [(0, .agg n.sv)], []⟩ (by kernel_rfl) (by kernel_rfl) ?_
  intro E G β0
  refine At.seq ?_
  refine At.region ?_
  refine At.runk 2 [0, 2] [] ⟨fr 8 [(1, .p 0 0)], [.c n.sv 26]⟩ (by kernel_rfl) ?_
  refine At.nil ?_
  refine At.then_normal ?_
  refine At.seq ?_
  refine At.region ?_
  refine At.runk 4 [1, 4, 5] [0] ⟨fr 8 [(3, .agg n.sv), (6, .agg (nV n.kind 0 0 0 0 0 0))], [.dead]⟩ (by kernel_rfl) ?_
  refine At.vals (S' := ⟨fr 8 [(3, .agg n.sv), (6, .agg (nV n.kind 0 0 0 0 0 0)), (7, (vB n.plain))], [.dead]⟩) (by kernel_rfl) ((vB n.plain)) (by kernel_rfl) (Val.eqv rfl (xs := n.sv) (ys := (nV n.kind 0 0 0 0 0 0)) (by kernel_rfl) (by kernel_rfl) (b := ((n.kind == n.kind) && (((n.s0 == 0) && ((n.s1 == 0) && ((n.s2 == 0) && ((n.s3 == 0) && true)))) && ((n.mn == 0) && ((n.mx == 0) && true))))) (by kernel_rfl) (by kernel_rfl) n.plain (.inl ⟨rfl, (by simp [Nd.plain, Nd.noset, Bool.and_assoc])⟩)) ?_
  refine At.runk 1 [3, 6, 7] [] ⟨fr 8 [(2, (vB n.plain))], [.dead]⟩ (by kernel_rfl) ?_
  refine At.nil ?_
  refine At.then_normal ?_
  refine At.ret_ ?_
  refine At.forget [] 0 [] ⟨fr 8 [(2, (vB n.plain))], []⟩ (by kernel_rfl) (by kernel_rfl) (bleT rfl) ?_
  refine At.leaveR rfl n.plain (by kernel_rfl) (by kernel_rfl) (by kernel_rfl) ?_
  rfl

theorem reps_c (Φ : Phi) (n : Nd)  : CallR Try.prog 85 [.agg n.sv] [] Φ Bool (fun t => (vB t)) (fun _ => []) (fun t _ => t = n.reps) := by
  refine CallG.enterk Try.func85 rfl [1, 2, 3, 4, 5, 6, 7, 8, 9, 10, 11, 12, 13, 14, 15, 16, 17, 18, 19, 20, 21, 22, 23, 24, 25, 26, 27, 28, 29, 30, 31, 32, 33, 34, 35, 36, 37, 38, 39, 40] ⟨fr 41 [(0, .agg n.sv)], []⟩ (by kernel_rfl) (by kernel_rfl) ?_
  intro E G β0
  refine At.seq ?_
  refine At.region ?_
  refine At.runk 2 [0, 2] [] ⟨fr 41 [(1, .p 0 0)], [.c n.sv 26]⟩ (by kernel_rfl) ?_
  refine At.nil ?_
  refine At.then_normal ?_
  refine At.seq ?_
  refine At.region ?_
  refine At.runk 8 [5, 6, 7, 8, 9, 10] [] ⟨fr 41 [(1, .p 0 0), (4, .agg n.sv), (11, .agg (nV n.kind 0 0 0 0 n.mn n.mx))], [.c n.sv 26]⟩ (by kernel_rfl) ?_
  refine At.vals (S' := ⟨fr 41 [(1, .p 0 0), (4, .agg n.sv), (11, .agg (nV n.kind 0 0 0 0 n.mn n.mx)), (12, (vB n.noset))], [.c n.sv 26]⟩) (by kernel_rfl) ((vB n.noset)) (by kernel_rfl) (Val.eqv rfl (xs := n.sv) (ys := (nV n.kind 0 0 0 0 n.mn n.mx)) (by kernel_rfl) (by kernel_rfl) (b := ((n.kind == n.kind) && (((n.s0 == 0) && ((n.s1 == 0) && ((n.s2 == 0) && ((n.s3 == 0) && true)))) && ((n.mn == n.mn) && ((n.mx == n.mx) && true))))) (by kernel_rfl) (by kernel_rfl) n.noset (.inl ⟨rfl, (by simp [Nd.noset, Bool.and_assoc])⟩)) ?_
  refine At.runk 1 [4, 11, 12] [] ⟨fr 41 [(1, .p 0 0), (3, (vB n.noset))], [.c n.sv 26]⟩ (by kernel_rfl) ?_
  refine At.nil ?_
  refine At.then_normal ?_
  refine At.seq ?_
  refine At.region ?_
  refine At.runk 2 [3, 13] [] ⟨fr 41 [(1, .p 0 0), (14, (vB n.noset))], [.c n.sv 26]⟩ (by kernel_rfl) ?_
  refine At.bcase n.noset (fun hb1 => ?_) (fun hb1 => ?_)
  · refine At.cast (S' := ⟨fr 41 [(1, .p 0 0), (14, (vB true))], [.c n.sv 26]⟩) (by rw [hb1] <;> rfl) ?_
    refine At.runk 5 [14, 15, 16, 17, 18] [] ⟨fr 41 [(1, .p 0 0), (19, (vB (decide (n.mn ≥ 0))))], [.c n.sv 26]⟩ (by kernel_rfl) ?_
    refine At.bcase (decide (n.mn ≥ 0)) (fun hb2 => ?_) (fun hb2 => ?_)
    · have hb2p : (n.mn ≥ 0) := of_decide_eq_true hb2
      refine At.cast (S' := ⟨fr 41 [(1, .p 0 0), (19, (vB true))], [.c n.sv 26]⟩) (by rw [hb2] <;> rfl) ?_
      refine At.runk 5 [19, 20, 21, 22, 23] [] ⟨fr 41 [(1, .p 0 0), (24, (vB (decide (n.mn ≤ 255))))], [.c n.sv 26]⟩ (by kernel_rfl) ?_
      refine At.bcase (decide (n.mn ≤ 255)) (fun hb3 => ?_) (fun hb3 => ?_)
      · have hb3p : (n.mn ≤ 255) := of_decide_eq_true hb3
        refine At.cast (S' := ⟨fr 41 [(1, .p 0 0), (24, (vB true))], [.c n.sv 26]⟩) (by rw [hb3] <;> rfl) ?_
        refine At.runk 4 [25, 26, 27] [] ⟨fr 41 [(1, .p 0 0), (24, (vB true)), (28, (vB (n.mx == (-1))))], [.c n.sv 26]⟩ (by kernel_rfl) ?_
        refine At.bcase (n.mx == (-1)) (fun hb4 => ?_) (fun hb4 => ?_)
        · have hb4p : (n.mx = (-1)) := eq_of_beq hb4
          refine At.cast (S' := ⟨fr 41 [(1, .p 0 0), (24, (vB true)), (28, (vB true))], [.c n.sv 26]⟩) (by rw [hb4] <;> rfl) ?_
          refine At.runk 13 [1, 24, 28, 29, 30, 31, 32, 33, 34, 35, 36, 37, 38, 39, 40] [0] ⟨fr 41 [(2, (vB true))], [.dead]⟩ (by kernel_rfl) ?_
          refine At.nil ?_
          refine At.then_normal ?_
          refine At.ret_ ?_
          refine At.forget [] 0 [] ⟨fr 41 [(2, (vB true))], []⟩ (by kernel_rfl) (by kernel_rfl) (bleT rfl) ?_
          refine At.leaveR rfl true (by kernel_rfl) (by kernel_rfl) (by kernel_rfl) ?_
          grind [Nd.reps]
        have hb4p : ¬ (n.mx = (-1)) := beq_eq_false_iff_ne.1 hb4
        refine At.cast (S' := ⟨fr 41 [(1, .p 0 0), (24, (vB true)), (28, (vB false))], [.c n.sv 26]⟩) (by rw [hb4] <;> rfl) ?_
        refine At.runk 6 [29, 30, 31, 32, 33] [] ⟨fr 41 [(1, .p 0 0), (24, (vB true)), (28, (vB false)), (34, (vB (decide (n.mx ≥ n.mn))))], [.c n.sv 26]⟩ (by kernel_rfl) ?_
        refine At.bcase (decide (n.mx ≥ n.mn)) (fun hb5 => ?_) (fun hb5 => ?_)
        · have hb5p : (n.mx ≥ n.mn) := of_decide_eq_true hb5
          refine At.cast (S' := ⟨fr 41 [(1, .p 0 0), (24, (vB true)), (28, (vB false)), (34, (vB true))], [.c n.sv 26]⟩) (by rw [hb5] <;> rfl) ?_
          refine At.runk 7 [1, 24, 28, 34, 35, 36, 37, 38, 39, 40] [0] ⟨fr 41 [(2, (vB (decide (n.mx ≤ 255))))], [.dead]⟩ (by kernel_rfl) ?_
          refine At.nil ?_
          refine At.then_normal ?_
          refine At.ret_ ?_
          refine At.forget [] 0 [] ⟨fr 41 [(2, (vB (decide (n.mx ≤ 255))))], []⟩ (by kernel_rfl) (by kernel_rfl) (bleT rfl) ?_
          refine At.leaveR rfl (decide (n.mx ≤ 255)) (by kernel_rfl) (by kernel_rfl) (by kernel_rfl) ?_
          grind [Nd.reps]
        have hb5p : ¬ (n.mx ≥ n.mn) := of_decide_eq_false hb5
        refine At.cast (S' := ⟨fr 41 [(1, .p 0 0), (24, (vB true)), (28, (vB false)), (34, (vB false))], [.c n.sv 26]⟩) (by rw [hb5] <;> rfl) ?_
        refine At.runk 7 [1, 24, 28, 34, 35, 36, 37, 38, 39, 40] [0] ⟨fr 41 [(2, (vB false))], [.dead]⟩ (by kernel_rfl) ?_
        refine At.nil ?_
        refine At.then_normal ?_
        refine At.ret_ ?_
        refine At.forget [] 0 [] ⟨fr 41 [(2, (vB false))], []⟩ (by kernel_rfl) (by kernel_rfl) (bleT rfl) ?_
        refine At.leaveR rfl false (by kernel_rfl) (by kernel_rfl) (by kernel_rfl) ?_
        grind [Nd.reps]
      have hb3p : ¬ (n.mn ≤ 255) := of_decide_eq_false hb3
      refine At.cast (S' := ⟨fr 41 [(1, .p 0 0), (24, (vB false))], [.c n.sv 26]⟩) (by rw [hb3] <;> rfl) ?_
      refine At.runk 17 [1, 24, 25, 26, 27, 28, 29, 30, 31, 32, 33, 34, 35, 36, 37, 38, 39, 40] [0] ⟨fr 41 [(2, (vB false))], [.dead]⟩ (by kernel_rfl) ?_
      refine At.nil ?_
      refine At.then_normal ?_
      refine At.ret_ ?_
      refine At.forget [] 0 [] ⟨fr 41 [(2, (vB false))], []⟩ (by kernel_rfl) (by kernel_rfl) (bleT rfl) ?_
      refine At.leaveR rfl false (by kernel_rfl) (by kernel_rfl) (by kernel_rfl) ?_
      grind [Nd.reps]
    have hb2p : ¬ (n.mn ≥ 0) := of_decide_eq_false hb2
    refine At.cast (S' := ⟨fr 41 [(1, .p 0 0), (19, (vB false))], [.c n.sv 26]⟩) (by rw [hb2] <;> rfl) ?_
    refine At.runk 22 [1, 19, 20, 21, 22, 23, 24, 25, 26, 27, 28, 29, 30, 31, 32, 33, 34, 35, 36, 37, 38, 39, 40] [0] ⟨fr 41 [(2, (vB false))], [.dead]⟩ (by kernel_rfl) ?_
    refine At.nil ?_
    refine At.then_normal ?_
    refine At.ret_ ?_
    refine At.forget [] 0 [] ⟨fr 41 [(2, (vB false))], []⟩ (by kernel_rfl) (by kernel_rfl) (bleT rfl) ?_
    refine At.leaveR rfl false (by kernel_rfl) (by kernel_rfl) (by kernel_rfl) ?_
    grind [Nd.reps]
  refine At.cast (S' := ⟨fr 41 [(1, .p 0 0), (14, (vB false))], [.c n.sv 26]⟩) (by rw [hb1] <;> rfl) ?_
  refine At.runk 27 [1, 14, 15, 16, 17, 18, 19, 20, 21, 22, 23, 24, 25, 26, 27, 28, 29, 30, 31, 32, 33, 34, 35, 36, 37, 38, 39, 40] [0] ⟨fr 41 [(2, (vB false))], [.dead]⟩ (by kernel_rfl) ?_
  refine At.nil ?_
  refine At.then_normal ?_
  refine At.ret_ ?_
  refine At.forget [] 0 [] ⟨fr 41 [(2, (vB false))], []⟩ (by kernel_rfl) (by kernel_rfl) (bleT rfl) ?_
  refine At.leaveR rfl false (by kernel_rfl) (by kernel_rfl) (by kernel_rfl) ?_
  grind [Nd.reps]

theorem isset_c (Φ : Phi) (n : Nd) (nw : n.wf)  : CallR Try.prog 82 [.agg n.sv] [] Φ Bool (fun t => (vB t)) (fun _ => []) (fun t _ => t = n.isset) := by
  refine CallG.enterk Try.func82 rfl [1, 2, 3, 4, 5, 6, 7, 8, 9, 10, 11, 12, 13, 14, 15] ⟨fr 16 [(0, .agg n.sv)], []⟩ (by kernel_rfl) (by kernel_rfl) ?_
  intro E G β0
  refine At.seq ?_
  refine At.region ?_
  refine At.runk 2 [0, 2] [] ⟨fr 16 [(1, .p 0 0)], [.c n.sv 26]⟩ (by kernel_rfl) ?_
  refine At.nil ?_
  refine At.then_normal ?_
  refine At.seq ?_
  refine At.region ?_
  refine At.runk 6 [4, 5, 6, 7] [] ⟨fr 16 [(1, .p 0 0), (3, .agg n.sv), (8, .agg (nV n.kind n.s0 n.s1 n.s2 n.s3 0 0))], [.c n.sv 26]⟩ (by kernel_rfl) ?_
  refine At.vals (S' := ⟨fr 16 [(1, .p 0 0), (3, .agg n.sv), (8, .agg (nV n.kind n.s0 n.s1 n.s2 n.s3 0 0)), (9, (vB (n.mn == 0 && n.mx == 0)))], [.c n.sv 26]⟩) (by kernel_rfl) ((vB (n.mn == 0 && n.mx == 0))) (by kernel_rfl) (Val.eqv rfl (xs := n.sv) (ys := (nV n.kind n.s0 n.s1 n.s2 n.s3 0 0)) (by kernel_rfl) (by kernel_rfl) (b := ((n.kind == n.kind) && (((n.s0 == n.s0) && ((n.s1 == n.s1) && ((n.s2 == n.s2) && ((n.s3 == n.s3) && true)))) && ((n.mn == 0) && ((n.mx == 0) && true))))) (by kernel_rfl) (by kernel_rfl) (n.mn == 0 && n.mx == 0) (.inl ⟨rfl, (by simp)⟩)) ?_
  refine At.runk 1 [3, 8, 9] [] ⟨fr 16 [(1, .p 0 0), (10, (vB (n.mn == 0 && n.mx == 0)))], [.c n.sv 26]⟩ (by kernel_rfl) ?_
  refine At.bcase (n.mn == 0 && n.mx == 0) (fun hb1 => ?_) (fun hb1 => ?_)
  · refine At.cast (S' := ⟨fr 16 [(1, .p 0 0), (10, (vB true))], [.c n.sv 26]⟩) (by rw [hb1] <;> rfl) ?_
    refine At.runk 2 [1, 11] [0] ⟨fr 16 [(10, (vB true)), (12, .agg n.su)], [.dead]⟩ (by kernel_rfl) ?_
    refine At.callV rfl (by kernel_rfl) 38 [] [] (by kernel_rfl) Try.func38 (by kernel_rfl) (by kernel_rfl) [.agg n.su] (by kernel_rfl) (by kernel_rfl) (cnt_c Φ n.s0 n.s1 n.s2 n.s3 nw.s0 nw.s1 nw.s2 nw.s3) ?_
    rintro Φ2 _ hle3 rfl
    refine ⟨⟨fr 16 [(10, (vB true)), (12, .agg n.su), (13, (vI (setC n.s0 n.s1 n.s2 n.s3 4)))], [.dead]⟩, by kernel_rfl, by kernel_rfl, ?_⟩
    refine At.runk 3 [10, 12, 13, 14, 15] [] ⟨fr 16 [(2, (vB (decide ((setC n.s0 n.s1 n.s2 n.s3 4) > 0))))], [.dead]⟩ (by kernel_rfl) ?_
    refine At.nil ?_
    refine At.then_normal ?_
    refine At.ret_ ?_
    refine At.forget [] 0 [] ⟨fr 16 [(2, (vB (decide ((setC n.s0 n.s1 n.s2 n.s3 4) > 0))))], []⟩ (by kernel_rfl) (by kernel_rfl) (bleT rfl) ?_
    refine At.leaveR rfl (decide ((setC n.s0 n.s1 n.s2 n.s3 4) > 0)) (by kernel_rfl) (by kernel_rfl) (by kernel_rfl) ?_
    have hz := setC_pos n nw
    grind [Nd.isset]
  refine At.cast (S' := ⟨fr 16 [(1, .p 0 0), (10, (vB false))], [.c n.sv 26]⟩) (by rw [hb1] <;> rfl) ?_
  refine At.runk 6 [1, 10, 11, 12, 13, 14, 15] [0] ⟨fr 16 [(2, (vB false))], [.dead]⟩ (by kernel_rfl) ?_
  refine At.nil ?_
  refine At.then_normal ?_
  refine At.ret_ ?_
  refine At.forget [] 0 [] ⟨fr 16 [(2, (vB false))], []⟩ (by kernel_rfl) (by kernel_rfl) (bleT rfl) ?_
  refine At.leaveR rfl false (by kernel_rfl) (by kernel_rfl) (by kernel_rfl) ?_
  have hz := setC_pos n nw
  grind [Nd.isset]

def mayN (k : Int) : Nat := if k = 1 then 81 else if k = 2 then 81 else if k = 3 then 82 else if k = 4 then 81 else if k = 5 then 81 else if k = 6 then 81 else if k = 7 then 81 else if k = 8 then 81 else if k = 9 then 85 else 0
def nulN (k : Int) : Nat := if k = 1 then 79 else if k = 2 then 78 else if k = 3 then 79 else if k = 4 then 83 else if k = 5 then 84 else if k = 6 then 78 else if k = 7 then 80 else if k = 8 then 78 else if k = 9 then 86 else 0
def kindsV : SV := .agg [(vI 0), .v (.nilFunc), .v (.nilFunc), (vI 0), (vF 81), (vF 79), (vI 0), (vF 81), (vF 78), (vI 0), (vF 82), (vF 79), (vI 2), (vF 81), (vF 83), (vI 2), (vF 81), (vF 84), (vI 1), (vF 81), (vF 78), (vI 1), (vF 81), (vF 80), (vI 1), (vF 81), (vF 78), (vI 1), (vF 85), (vF 86)]
theorem kinds_c (Φ : Phi)  : CallR Try.prog 53 [] [] Φ Unit (fun _ => kindsV) (fun _ => []) (fun _ _ => True) := by
  refine CallG.enterk Try.func53 rfl [0, 1, 2, 3, 4, 5, 6, 7, 8, 9, 10, 11, 12, 13, 14, 15, 16, 17, 18, 19] ⟨fr 20 [], []⟩ (by kernel_rfl) (by kernel_rfl) ?_
  intro E G β0
  refine At.seq ?_
  refine At.region ?_
  refine At.runk 1 [] [] ⟨fr 20 [(0, .p 0 0)], [.c [(vI 0), .v (.nilFunc), .v (.nilFunc), (vI 0), .v (.nilFunc), .v (.nilFunc), (vI 0), .v (.nilFunc), .v (.nilFunc), (vI 0), .v (.nilFunc), .v (.nilFunc), (vI 0), .v (.nilFunc), .v (.nilFunc), (vI 0), .v (.nilFunc), .v (.nilFunc), (vI 0), .v (.nilFunc), .v (.nilFunc), (vI 0), .v (.nilFunc), .v (.nilFunc), (vI 0), .v (.nilFunc), .v (.nilFunc), (vI 0), .v (.nilFunc), .v (.nilFunc)] 86]⟩ (by kernel_rfl) ?_
  refine At.nil ?_
  refine At.then_normal ?_
  refine At.seq ?_
  refine At.region ?_
  refine At.runk 1 [] [] ⟨fr 20 [(0, .p 0 0), (1, (vF 78))], [.c [(vI 0), .v (.nilFunc), .v (.nilFunc), (vI 0), .v (.nilFunc), .v (.nilFunc), (vI 0), .v (.nilFunc), .v (.nilFunc), (vI 0), .v (.nilFunc), .v (.nilFunc), (vI 0), .v (.nilFunc), .v (.nilFunc), (vI 0), .v (.nilFunc), .v (.nilFunc), (vI 0), .v (.nilFunc), .v (.nilFunc), (vI 0), .v (.nilFunc), .v (.nilFunc), (vI 0), .v (.nilFunc), .v (.nilFunc), (vI 0), .v (.nilFunc), .v (.nilFunc)] 86]⟩ (by kernel_rfl) ?_
  refine At.nil ?_
  refine At.then_normal ?_
  refine At.seq ?_
  refine At.region ?_
  refine At.runk 1 [] [] ⟨fr 20 [(0, .p 0 0), (1, (vF 78)), (2, (vF 79))], [.c [(vI 0), .v (.nilFunc), .v (.nilFunc), (vI 0), .v (.nilFunc), .v (.nilFunc), (vI 0), .v (.nilFunc), .v (.nilFunc), (vI 0), .v (.nilFunc), .v (.nilFunc), (vI 0), .v (.nilFunc), .v (.nilFunc), (vI 0), .v (.nilFunc), .v (.nilFunc), (vI 0), .v (.nilFunc), .v (.nilFunc), (vI 0), .v (.nilFunc), .v (.nilFunc), (vI 0), .v (.nilFunc), .v (.nilFunc), (vI 0), .v (.nilFunc), .v (.nilFunc)] 86]⟩ (by kernel_rfl) ?_
  refine At.nil ?_
  refine At.then_normal ?_
  refine At.seq ?_
  refine At.region ?_
  refine At.runk 1 [] [] ⟨fr 20 [(0, .p 0 0), (1, (vF 78)), (2, (vF 79)), (3, (vF 80))], [.c [(vI 0), .v (.nilFunc), .v (.nilFunc), (vI 0), .v (.nilFunc), .v (.nilFunc), (vI 0), .v (.nilFunc), .v (.nilFunc), (vI 0), .v (.nilFunc), .v (.nilFunc), (vI 0), .v (.nilFunc), .v (.nilFunc), (vI 0), .v (.nilFunc), .v (.nilFunc), (vI 0), .v (.nilFunc), .v (.nilFunc), (vI 0), .v (.nilFunc), .v (.nilFunc), (vI 0), .v (.nilFunc), .v (.nilFunc), (vI 0), .v (.nilFunc), .v (.nilFunc)] 86]⟩ (by kernel_rfl) ?_
  refine At.nil ?_
  refine At.then_normal ?_
  refine At.seq ?_
  refine At.region ?_
  refine At.runk 17 [1, 2, 3, 4, 5, 6, 7, 8, 9, 10, 11, 12, 13, 14, 15, 16, 17, 18, 19] [] ⟨fr 20 [(0, .p 0 0)], [.c [(vI 0), .v (.nilFunc), .v (.nilFunc), (vI 0), (vF 81), (vF 79), (vI 0), (vF 81), (vF 78), (vI 0), (vF 82), (vF 79), (vI 2), (vF 81), (vF 83), (vI 2), (vF 81), (vF 84), (vI 1), (vF 81), (vF 78), (vI 1), (vF 81), (vF 80), (vI 1), (vF 81), (vF 78), (vI 1), (vF 85), (vF 86)] 86]⟩ (by kernel_rfl) ?_
  refine At.nil ?_
  refine At.then_normal ?_
  refine At.ret_ ?_
  refine At.leaveX rfl [0] 0 [] ⟨fr 20 [], []⟩ () (by kernel_rfl) (by kernel_rfl) (by kernel_rfl) (by kernel_rfl) (bleT rfl) (by kernel_rfl) (by kernel_rfl) ?_
  trivial

theorem known_c (Φ : Phi) (k s0 s1 s2 s3 mn mx : Int) (nw : Nd.wf ⟨k, s0, s1, s2, s3, mn, mx⟩) (hk : 1 ≤ k ∧ k ≤ 9)  : CallR Try.prog 44 [.agg (nV k s0 s1 s2 s3 mn mx)] [] Φ (Int × Nat × Nat × Bool) (fun t => .tup [.agg [(vI t.1), .v (.func (.func t.2.1) #[] #[]), .v (.func (.func t.2.2.1) #[] #[])], (vB t.2.2.2)]) (fun _ => []) (fun t _ => t = (kar k, mayN k, nulN k, (⟨k, s0, s1, s2, s3, mn, mx⟩ : Nd).may)) := by
  refine CallG.enterk Try.func44 rfl [1, 2, 3, 4, 5, 6, 7, 8, 9, 10, 11, 12, 13, 14, 15, 16, 17, 18, 19, 20, 21, 22] ⟨fr 23 [(0, .agg (nV k s0 s1 s2 s3 mn mx))], []⟩ (by kernel_rfl) (by kernel_rfl) ?_
  intro E G β0
  refine At.seq ?_
  refine At.region ?_
  refine At.runk 3 [0, 3] [] ⟨fr 23 [(1, .p 0 0), (2, .p 1 0)], [.c (nV k s0 s1 s2 s3 mn mx) 26, .c [(vI 0), .v (.nilFunc), .v (.nilFunc)] 76]⟩ (by kernel_rfl) ?_
  refine At.nil ?_
  refine At.then_normal ?_
  refine At.seq ?_
  refine At.seq ?_
  refine At.freezeC 0 [.int .i64 k, .int .u64 s0, .int .u64 s1, .int .u64 s2, .int .u64 s3, .int .i64 mn, .int .i64 mx] rfl rfl (bleT rfl) (bleT rfl) (fun _ => by kernel_rfl) (fun _ => by kernel_rfl) ?_
  intro g1 Φ2 hle3 hB4
  refine ⟨⟨fr 23 [(1, (vP g1 0)), (2, .p 1 0)], [.dead, .c [(vI 0), .v (.nilFunc), .v (.nilFunc)] 76]⟩, by kernel_rfl, ?_⟩
  refine At.region ?_
  refine At.runk 1 [] [] ⟨fr 23 [(1, (vP g1 0)), (2, .p 1 0), (5, (vP g1 0))], [.dead, .c [(vI 0), .v (.nilFunc), .v (.nilFunc)] 76]⟩ (by kernel_rfl) ?_
  refine At.vals (S' := ⟨fr 23 [(1, (vP g1 0)), (2, .p 1 0), (5, (vP g1 0)), (6, (vI k))], [.dead, .c [(vI 0), .v (.nilFunc), .v (.nilFunc)] 76]⟩) (by kernel_rfl) ((vI k)) (by kernel_rfl) (Val.ldB rfl hB4 (Nat.zero_lt_succ _) 0 0 (by omega) (by kernel_rfl) ((vI k)) (by kernel_rfl)) ?_
  refine At.runk 2 [5, 6, 7] [] ⟨fr 23 [(1, (vP g1 0)), (2, .p 1 0), (8, (vB (decide (k < 1))))], [.dead, .c [(vI 0), .v (.nilFunc), .v (.nilFunc)] 76]⟩ (by kernel_rfl) ?_
  refine At.bcase (decide (k < 1)) (fun hb5 => ?_) (fun hb5 => ?_)
  · have hb5p : (k < 1) := of_decide_eq_true hb5
    exfalso; omega
  have hb5p : ¬ (k < 1) := of_decide_eq_false hb5
  refine At.cast (S' := ⟨fr 23 [(1, (vP g1 0)), (2, .p 1 0), (8, (vB false))], [.dead, .c [(vI 0), .v (.nilFunc), .v (.nilFunc)] 76]⟩) (by rw [hb5] <;> rfl) ?_
  refine At.runk 1 [] [] ⟨fr 23 [(1, (vP g1 0)), (2, .p 1 0), (8, (vB false)), (9, (vP g1 0))], [.dead, .c [(vI 0), .v (.nilFunc), .v (.nilFunc)] 76]⟩ (by kernel_rfl) ?_
  refine At.vals (S' := ⟨fr 23 [(1, (vP g1 0)), (2, .p 1 0), (8, (vB false)), (9, (vP g1 0)), (10, (vI k))], [.dead, .c [(vI 0), .v (.nilFunc), .v (.nilFunc)] 76]⟩) (by kernel_rfl) ((vI k)) (by kernel_rfl) (Val.ldB rfl hB4 (Nat.zero_lt_succ _) 0 0 (by omega) (by kernel_rfl) ((vI k)) (by kernel_rfl)) ?_
  refine At.runk 2 [8, 9, 10, 11] [] ⟨fr 23 [(1, (vP g1 0)), (2, .p 1 0), (12, (vB (decide (k > 9))))], [.dead, .c [(vI 0), .v (.nilFunc), .v (.nilFunc)] 76]⟩ (by kernel_rfl) ?_
  refine At.nil ?_
  refine At.then_normal ?_
  refine At.bcase (decide (k > 9)) (fun hb6 => ?_) (fun hb6 => ?_)
  · have hb6p : (k > 9) := of_decide_eq_true hb6
    exfalso; omega
  have hb6p : ¬ (k > 9) := of_decide_eq_false hb6
  refine At.cast (S' := ⟨fr 23 [(1, (vP g1 0)), (2, .p 1 0), (12, (vB false))], [.dead, .c [(vI 0), .v (.nilFunc), .v (.nilFunc)] 76]⟩) (by rw [hb6] <;> rfl) ?_
  refine At.cond_f (by kernel_rfl) ?_
  refine At.skip ?_
  refine At.then_normal ?_
  refine At.seq ?_
  obtain rfl | rfl | rfl | rfl | rfl | rfl | rfl | rfl | rfl : k = 1 ∨ k = 2 ∨ k = 3 ∨ k = 4 ∨ k = 5 ∨ k = 6 ∨ k = 7 ∨ k = 8 ∨ k = 9 := by omega
  · refine At.forget [12] 2 [] ⟨fr 23 [(1, (vP g1 0)), (2, .p 1 0)], [.dead, .c [(vI 0), .v (.nilFunc), .v (.nilFunc)] 76]⟩ (by kernel_rfl) (by kernel_rfl) (bleT rfl) ?_
    refine At.region_draw (by kernel_rfl) 6 (by kernel_rfl) #[false, false, false, false, false, false] (by kernel_rfl) ?_
    have hB4d := hB4
    refine At.take (S' := ⟨fr 23 [(1, (vP g1 0)), (2, .p 1 0), (15, (vP g1 0))], [.dead, .c [(vI 0), .v (.nilFunc), .v (.nilFunc)] 76]⟩) (PhiLe.refl 0 _) (PanOk.then PanOk.body) 1 rfl (by kernel_rfl) (by kernel_rfl) (by kernel_rfl) (by kernel_rfl) ((vP g1 0)) (by kernel_rfl) (fun _ _ => Val.ev rfl (by kernel_rfl) (by kernel_rfl)) (by kernel_rfl) #[false, true, false, false, false, false] (by kernel_rfl) ?_
    refine At.take (S' := ⟨fr 23 [(1, (vP g1 0)), (2, .p 1 0), (15, (vP g1 0)), (16, (vI 1))], [.dead, .c [(vI 0), .v (.nilFunc), .v (.nilFunc)] 76]⟩) (PhiLe.refl 0 _) (PanOk.then PanOk.body) 2 rfl (by kernel_rfl) (by kernel_rfl) (by kernel_rfl) (by kernel_rfl) ((vI 1)) (by kernel_rfl) (fun _ _ => Val.ldB rfl hB4d (Nat.zero_lt_succ _) 0 0 (by omega) (by kernel_rfl) ((vI 1)) (by kernel_rfl)) (by kernel_rfl) #[false, true, true, false, false, false] (by kernel_rfl) ?_
    refine At.any2 0 4 (by kernel_rfl) rfl rfl #[true, true, true, false, false, false] #[false, true, true, false, true, false] (by kernel_rfl) (by kernel_rfl) ?_ ?_
    · refine At.callV rfl (by kernel_rfl) 53 [] [] (by kernel_rfl) Try.func53 (by kernel_rfl) (by kernel_rfl) [] (by kernel_rfl) (by kernel_rfl) (kinds_c Φ2) ?_
      rintro Φ7 ⟨⟩ hle8 -
      have hB4 := hB4.mono hle8
      refine ⟨⟨fr 23 [(1, (vP g1 0)), (2, .p 1 0), (14, kindsV), (15, (vP g1 0)), (16, (vI 1))], [.dead, .c [(vI 0), .v (.nilFunc), .v (.nilFunc)] 76]⟩, by kernel_rfl, by kernel_rfl, ?_⟩
      refine At.nil ?_
      refine At.then_normal ?_
      refine At.held hle8 ?_
      refine At.take (S' := ⟨fr 23 [(1, (vP g1 0)), (2, .p 1 0), (14, kindsV), (15, (vP g1 0)), (16, (vI 1)), (17, .agg [(vI 0), (vF 81), (vF 79)])], [.dead, .c [(vI 0), .v (.nilFunc), .v (.nilFunc)] 76]⟩) hle8 (PanOk.then PanOk.body) 3 rfl (by kernel_rfl) (by kernel_rfl) (by kernel_rfl) (by kernel_rfl) (.agg [(vI 0), (vF 81), (vF 79)]) (by kernel_rfl) (fun _ _ => Val.ev rfl (by kernel_rfl) (by kernel_rfl)) (by kernel_rfl) #[true, true, true, true, false, false] (by kernel_rfl) ?_
      refine At.any1 4 (by kernel_rfl) rfl #[true, true, true, true, true, false] (by kernel_rfl) ?_
      refine At.runk 1 [] [] ⟨fr 23 [(1, (vP g1 0)), (2, .p 1 0), (4, .p 2 0), (14, kindsV), (15, (vP g1 0)), (16, (vI 1)), (17, .agg [(vI 0), (vF 81), (vF 79)])], [.dead, .c [(vI 0), .v (.nilFunc), .v (.nilFunc)] 76, .c [(vI 0), .v (.nilFunc), .v (.nilFunc)] 76]⟩ (by kernel_rfl) ?_
      refine At.nil ?_
      refine At.then_normal ?_
      refine At.held hle8 ?_
      refine At.any1 5 (by kernel_rfl) rfl #[true, true, true, true, true, true] (by kernel_rfl) ?_
      refine At.runk 1 [] [] ⟨fr 23 [(1, (vP g1 0)), (2, .p 1 0), (4, .p 2 0), (14, kindsV), (15, (vP g1 0)), (16, (vI 1)), (17, .agg [(vI 0), (vF 81), (vF 79)])], [.dead, .c [(vI 0), .v (.nilFunc), .v (.nilFunc)] 76, .c [(vI 0), (vF 81), (vF 79)] 76]⟩ (by kernel_rfl) ?_
      refine At.nil ?_
      refine At.then_normal ?_
      refine At.held hle8 ?_
      refine At.drawn_done (by kernel_rfl) ?_
      refine At.then_normal ?_
      refine At.seq ?_
      refine At.freezeC 2 [.int .i64 0, .func (.func 81) #[] #[], .func (.func 79) #[] #[]] rfl rfl (bleT rfl) (bleT rfl) (fun _ => by kernel_rfl) (fun _ => by kernel_rfl) ?_
      intro g9 Φ10 hle11 hB12
      have hB4 := hB4.mono hle11
      refine ⟨⟨fr 23 [(1, (vP g1 0)), (2, .p 1 0), (4, (vP g9 0)), (14, kindsV), (15, (vP g1 0)), (16, (vI 1)), (17, .agg [(vI 0), (vF 81), (vF 79)])], [.dead, .c [(vI 0), .v (.nilFunc), .v (.nilFunc)] 76, .dead]⟩, by kernel_rfl, ?_⟩
      refine At.forget [14, 15, 16, 17] 2 [] ⟨fr 23 [(1, (vP g1 0)), (2, .p 1 0), (4, (vP g9 0))], [.dead, .c [(vI 0), .v (.nilFunc), .v (.nilFunc)] 76]⟩ (by kernel_rfl) (by kernel_rfl) (bleT rfl) ?_
      refine At.region_draw (by kernel_rfl) 7 (by kernel_rfl) #[false, false, false, false, false, false, false] (by kernel_rfl) ?_
      have hB4d := hB4
      have hB12d := hB12
      refine At.take (S' := ⟨fr 23 [(1, (vP g1 0)), (2, .p 1 0), (4, (vP g9 0)), (18, .agg [(vI 0), (vF 81), (vF 79)])], [.dead, .c [(vI 0), .v (.nilFunc), .v (.nilFunc)] 76]⟩) (PhiLe.refl 0 _) (PanOk.then PanOk.body) 0 rfl (by kernel_rfl) (by kernel_rfl) (by kernel_rfl) (by kernel_rfl) (.agg [(vI 0), (vF 81), (vF 79)]) (by kernel_rfl) (fun _ _ => Val.ldB rfl hB12d (Nat.zero_lt_succ _) 0 0 (by omega) (by kernel_rfl) (.agg [(vI 0), (vF 81), (vF 79)]) (by kernel_rfl)) (by kernel_rfl) #[true, false, false, false, false, false, false] (by kernel_rfl) ?_
      refine At.take (S' := ⟨fr 23 [(1, (vP g1 0)), (2, .p 1 0), (4, (vP g9 0)), (18, .agg [(vI 0), (vF 81), (vF 79)]), (19, (vP g9 1))], [.dead, .c [(vI 0), .v (.nilFunc), .v (.nilFunc)] 76]⟩) (PhiLe.refl 0 _) (PanOk.then PanOk.body) 1 rfl (by kernel_rfl) (by kernel_rfl) (by kernel_rfl) (by kernel_rfl) ((vP g9 1)) (by kernel_rfl) (fun _ _ => Val.ev rfl (by kernel_rfl) (by kernel_rfl)) (by kernel_rfl) #[true, true, false, false, false, false, false] (by kernel_rfl) ?_
      refine At.take (S' := ⟨fr 23 [(1, (vP g1 0)), (2, .p 1 0), (4, (vP g9 0)), (18, .agg [(vI 0), (vF 81), (vF 79)]), (19, (vP g9 1)), (20, (vF 81))], [.dead, .c [(vI 0), .v (.nilFunc), .v (.nilFunc)] 76]⟩) (PhiLe.refl 0 _) (PanOk.then PanOk.body) 2 rfl (by kernel_rfl) (by kernel_rfl) (by kernel_rfl) (by kernel_rfl) ((vF 81)) (by kernel_rfl) (fun _ _ => Val.ldB rfl hB12d (Nat.zero_lt_succ _) 1 1 (by omega) (by kernel_rfl) ((vF 81)) (by kernel_rfl)) (by kernel_rfl) #[true, true, true, false, false, false, false] (by kernel_rfl) ?_
      refine At.take (S' := ⟨fr 23 [(1, (vP g1 0)), (2, .p 1 0), (4, (vP g9 0)), (18, .agg [(vI 0), (vF 81), (vF 79)]), (19, (vP g9 1)), (20, (vF 81)), (21, .agg (nV 1 s0 s1 s2 s3 mn mx))], [.dead, .c [(vI 0), .v (.nilFunc), .v (.nilFunc)] 76]⟩) (PhiLe.refl 0 _) (PanOk.then PanOk.body) 3 rfl (by kernel_rfl) (by kernel_rfl) (by kernel_rfl) (by kernel_rfl) (.agg (nV 1 s0 s1 s2 s3 mn mx)) (by kernel_rfl) (fun _ _ => Val.ldB rfl hB4d (Nat.zero_lt_succ _) 0 0 (by omega) (by kernel_rfl) (.agg (nV 1 s0 s1 s2 s3 mn mx)) (by kernel_rfl)) (by kernel_rfl) #[true, true, true, true, false, false, false] (by kernel_rfl) ?_
      refine At.any1 4 (by kernel_rfl) rfl #[true, true, true, true, true, false, false] (by kernel_rfl) ?_
      refine At.callV rfl (by kernel_rfl) 81 [] [] (by kernel_rfl) Try.func81 (by kernel_rfl) (by kernel_rfl) [.agg (nV 1 s0 s1 s2 s3 mn mx)] (by kernel_rfl) (by kernel_rfl) (plain_c Φ10 (⟨1, s0, s1, s2, s3, mn, mx⟩ : Nd)) ?_
      rintro Φ13 _ hle14 rfl
      have hB4 := hB4.mono hle14
      have hB12 := hB12.mono hle14
      refine ⟨⟨fr 23 [(1, (vP g1 0)), (2, .p 1 0), (4, (vP g9 0)), (18, .agg [(vI 0), (vF 81), (vF 79)]), (19, (vP g9 1)), (20, (vF 81)), (21, .agg (nV 1 s0 s1 s2 s3 mn mx)), (22, (vB (Nd.plain (⟨1, s0, s1, s2, s3, mn, mx⟩ : Nd))))], [.dead, .c [(vI 0), .v (.nilFunc), .v (.nilFunc)] 76]⟩, by kernel_rfl, by kernel_rfl, ?_⟩
      refine At.nil ?_
      refine At.then_normal ?_
      refine At.held hle14 ?_
      refine At.any1 5 (by kernel_rfl) rfl #[true, true, true, true, true, true, false] (by kernel_rfl) ?_
      refine At.runk 1 [] [] ⟨fr 23 [(1, (vP g1 0)), (2, .p 1 0), (4, (vP g9 0)), (18, .agg [(vI 0), (vF 81), (vF 79)]), (19, (vP g9 1)), (20, (vF 81)), (21, .agg (nV 1 s0 s1 s2 s3 mn mx)), (22, (vB (Nd.plain (⟨1, s0, s1, s2, s3, mn, mx⟩ : Nd))))], [.dead, .c [(vI 0), (vF 81), (vF 79)] 76]⟩ (by kernel_rfl) ?_
      refine At.nil ?_
      refine At.then_normal ?_
      refine At.held hle14 ?_
      refine At.take (S' := ⟨fr 23 [(1, (vP g1 0)), (2, .p 1 0), (3, (vB (Nd.plain (⟨1, s0, s1, s2, s3, mn, mx⟩ : Nd)))), (4, (vP g9 0)), (18, .agg [(vI 0), (vF 81), (vF 79)]), (19, (vP g9 1)), (20, (vF 81)), (21, .agg (nV 1 s0 s1 s2 s3 mn mx)), (22, (vB (Nd.plain (⟨1, s0, s1, s2, s3, mn, mx⟩ : Nd))))], [.dead, .c [(vI 0), (vF 81), (vF 79)] 76]⟩) hle14 (PanOk.then PanOk.body) 6 rfl (by kernel_rfl) (by kernel_rfl) (by kernel_rfl) (by kernel_rfl) ((vB (Nd.plain (⟨1, s0, s1, s2, s3, mn, mx⟩ : Nd)))) (by kernel_rfl) (fun _ _ => Val.ev rfl (by kernel_rfl) (by kernel_rfl)) (by kernel_rfl) #[true, true, true, true, true, true, true] (by kernel_rfl) ?_
      refine At.drawn_done (by kernel_rfl) ?_
      refine At.then_normal ?_
      refine At.ret_ ?_
      refine At.forget [1, 4, 18, 19, 20, 21, 22] 2 [] ⟨fr 23 [(2, .p 1 0), (3, (vB (Nd.plain (⟨1, s0, s1, s2, s3, mn, mx⟩ : Nd))))], [.dead, .c [(vI 0), (vF 81), (vF 79)] 76]⟩ (by kernel_rfl) (by kernel_rfl) (bleT rfl) ?_
      refine At.leaveX rfl [2, 3] 0 [] ⟨fr 23 [], []⟩ (0, 81, 79, (Nd.plain (⟨1, s0, s1, s2, s3, mn, mx⟩ : Nd))) (by kernel_rfl) (by kernel_rfl) (by kernel_rfl) (by kernel_rfl) (bleT rfl) (by kernel_rfl) (by kernel_rfl) ?_
      simp [kar, mayN, nulN, Nd.may_of]
    refine At.runk 1 [] [] ⟨fr 23 [(1, (vP g1 0)), (2, .p 1 0), (4, .p 2 0), (15, (vP g1 0)), (16, (vI 1))], [.dead, .c [(vI 0), .v (.nilFunc), .v (.nilFunc)] 76, .c [(vI 0), .v (.nilFunc), .v (.nilFunc)] 76]⟩ (by kernel_rfl) ?_
    refine At.nil ?_
    refine At.then_normal ?_
    refine At.held (PhiLe.refl 0 _) ?_
    refine At.any1 0 (by kernel_rfl) rfl #[true, true, true, false, true, false] (by kernel_rfl) ?_
    refine At.callV rfl (by kernel_rfl) 53 [] [] (by kernel_rfl) Try.func53 (by kernel_rfl) (by kernel_rfl) [] (by kernel_rfl) (by kernel_rfl) (kinds_c Φ2) ?_
    rintro Φ15 ⟨⟩ hle16 -
    have hB4 := hB4.mono hle16
    refine ⟨⟨fr 23 [(1, (vP g1 0)), (2, .p 1 0), (4, .p 2 0), (14, kindsV), (15, (vP g1 0)), (16, (vI 1))], [.dead, .c [(vI 0), .v (.nilFunc), .v (.nilFunc)] 76, .c [(vI 0), .v (.nilFunc), .v (.nilFunc)] 76]⟩, by kernel_rfl, by kernel_rfl, ?_⟩
    refine At.nil ?_
    refine At.then_normal ?_
    refine At.held hle16 ?_
    refine At.take (S' := ⟨fr 23 [(1, (vP g1 0)), (2, .p 1 0), (4, .p 2 0), (14, kindsV), (15, (vP g1 0)), (16, (vI 1)), (17, .agg [(vI 0), (vF 81), (vF 79)])], [.dead, .c [(vI 0), .v (.nilFunc), .v (.nilFunc)] 76, .c [(vI 0), .v (.nilFunc), .v (.nilFunc)] 76]⟩) hle16 (PanOk.then PanOk.body) 3 rfl (by kernel_rfl) (by kernel_rfl) (by kernel_rfl) (by kernel_rfl) (.agg [(vI 0), (vF 81), (vF 79)]) (by kernel_rfl) (fun _ _ => Val.ev rfl (by kernel_rfl) (by kernel_rfl)) (by kernel_rfl) #[true, true, true, true, true, false] (by kernel_rfl) ?_
    refine At.any1 5 (by kernel_rfl) rfl #[true, true, true, true, true, true] (by kernel_rfl) ?_
    refine At.runk 1 [] [] ⟨fr 23 [(1, (vP g1 0)), (2, .p 1 0), (4, .p 2 0), (14, kindsV), (15, (vP g1 0)), (16, (vI 1)), (17, .agg [(vI 0), (vF 81), (vF 79)])], [.dead, .c [(vI 0), .v (.nilFunc), .v (.nilFunc)] 76, .c [(vI 0), (vF 81), (vF 79)] 76]⟩ (by kernel_rfl) ?_
    refine At.nil ?_
    refine At.then_normal ?_
    refine At.held hle16 ?_
    refine At.drawn_done (by kernel_rfl) ?_
    refine At.then_normal ?_
    refine At.seq ?_
    refine At.freezeC 2 [.int .i64 0, .func (.func 81) #[] #[], .func (.func 79) #[] #[]] rfl rfl (bleT rfl) (bleT rfl) (fun _ => by kernel_rfl) (fun _ => by kernel_rfl) ?_
    intro g17 Φ18 hle19 hB20
    have hB4 := hB4.mono hle19
    refine ⟨⟨fr 23 [(1, (vP g1 0)), (2, .p 1 0), (4, (vP g17 0)), (14, kindsV), (15, (vP g1 0)), (16, (vI 1)), (17, .agg [(vI 0), (vF 81), (vF 79)])], [.dead, .c [(vI 0), .v (.nilFunc), .v (.nilFunc)] 76, .dead]⟩, by kernel_rfl, ?_⟩
    refine At.forget [14, 15, 16, 17] 2 [] ⟨fr 23 [(1, (vP g1 0)), (2, .p 1 0), (4, (vP g17 0))], [.dead, .c [(vI 0), .v (.nilFunc), .v (.nilFunc)] 76]⟩ (by kernel_rfl) (by kernel_rfl) (bleT rfl) ?_
    refine At.region_draw (by kernel_rfl) 7 (by kernel_rfl) #[false, false, false, false, false, false, false] (by kernel_rfl) ?_
    have hB4d := hB4
    have hB20d := hB20
    refine At.take (S' := ⟨fr 23 [(1, (vP g1 0)), (2, .p 1 0), (4, (vP g17 0)), (18, .agg [(vI 0), (vF 81), (vF 79)])], [.dead, .c [(vI 0), .v (.nilFunc), .v (.nilFunc)] 76]⟩) (PhiLe.refl 0 _) (PanOk.then PanOk.body) 0 rfl (by kernel_rfl) (by kernel_rfl) (by kernel_rfl) (by kernel_rfl) (.agg [(vI 0), (vF 81), (vF 79)]) (by kernel_rfl) (fun _ _ => Val.ldB rfl hB20d (Nat.zero_lt_succ _) 0 0 (by omega) (by kernel_rfl) (.agg [(vI 0), (vF 81), (vF 79)]) (by kernel_rfl)) (by kernel_rfl) #[true, false, false, false, false, false, false] (by kernel_rfl) ?_
    refine At.take (S' := ⟨fr 23 [(1, (vP g1 0)), (2, .p 1 0), (4, (vP g17 0)), (18, .agg [(vI 0), (vF 81), (vF 79)]), (19, (vP g17 1))], [.dead, .c [(vI 0), .v (.nilFunc), .v (.nilFunc)] 76]⟩) (PhiLe.refl 0 _) (PanOk.then PanOk.body) 1 rfl (by kernel_rfl) (by kernel_rfl) (by kernel_rfl) (by kernel_rfl) ((vP g17 1)) (by kernel_rfl) (fun _ _ => Val.ev rfl (by kernel_rfl) (by kernel_rfl)) (by kernel_rfl) #[true, true, false, false, false, false, false] (by kernel_rfl) ?_
    refine At.take (S' := ⟨fr 23 [(1, (vP g1 0)), (2, .p 1 0), (4, (vP g17 0)), (18, .agg [(vI 0), (vF 81), (vF 79)]), (19, (vP g17 1)), (20, (vF 81))], [.dead, .c [(vI 0), .v (.nilFunc), .v (.nilFunc)] 76]⟩) (PhiLe.refl 0 _) (PanOk.then PanOk.body) 2 rfl (by kernel_rfl) (by kernel_rfl) (by kernel_rfl) (by kernel_rfl) ((vF 81)) (by kernel_rfl) (fun _ _ => Val.ldB rfl hB20d (Nat.zero_lt_succ _) 1 1 (by omega) (by kernel_rfl) ((vF 81)) (by kernel_rfl)) (by kernel_rfl) #[true, true, true, false, false, false, false] (by kernel_rfl) ?_
    refine At.take (S' := ⟨fr 23 [(1, (vP g1 0)), (2, .p 1 0), (4, (vP g17 0)), (18, .agg [(vI 0), (vF 81), (vF 79)]), (19, (vP g17 1)), (20, (vF 81)), (21, .agg (nV 1 s0 s1 s2 s3 mn mx))], [.dead, .c [(vI 0), .v (.nilFunc), .v (.nilFunc)] 76]⟩) (PhiLe.refl 0 _) (PanOk.then PanOk.body) 3 rfl (by kernel_rfl) (by kernel_rfl) (by kernel_rfl) (by kernel_rfl) (.agg (nV 1 s0 s1 s2 s3 mn mx)) (by kernel_rfl) (fun _ _ => Val.ldB rfl hB4d (Nat.zero_lt_succ _) 0 0 (by omega) (by kernel_rfl) (.agg (nV 1 s0 s1 s2 s3 mn mx)) (by kernel_rfl)) (by kernel_rfl) #[true, true, true, true, false, false, false] (by kernel_rfl) ?_
    refine At.any1 4 (by kernel_rfl) rfl #[true, true, true, true, true, false, false] (by kernel_rfl) ?_
    refine At.callV rfl (by kernel_rfl) 81 [] [] (by kernel_rfl) Try.func81 (by kernel_rfl) (by kernel_rfl) [.agg (nV 1 s0 s1 s2 s3 mn mx)] (by kernel_rfl) (by kernel_rfl) (plain_c Φ18 (⟨1, s0, s1, s2, s3, mn, mx⟩ : Nd)) ?_
    rintro Φ21 _ hle22 rfl
    have hB4 := hB4.mono hle22
    have hB20 := hB20.mono hle22
    refine ⟨⟨fr 23 [(1, (vP g1 0)), (2, .p 1 0), (4, (vP g17 0)), (18, .agg [(vI 0), (vF 81), (vF 79)]), (19, (vP g17 1)), (20, (vF 81)), (21, .agg (nV 1 s0 s1 s2 s3 mn mx)), (22, (vB (Nd.plain (⟨1, s0, s1, s2, s3, mn, mx⟩ : Nd))))], [.dead, .c [(vI 0), .v (.nilFunc), .v (.nilFunc)] 76]⟩, by kernel_rfl, by kernel_rfl, ?_⟩
    refine At.nil ?_
    refine At.then_normal ?_
    refine At.held hle22 ?_
    refine At.any1 5 (by kernel_rfl) rfl #[true, true, true, true, true, true, false] (by kernel_rfl) ?_
    refine At.runk 1 [] [] ⟨fr 23 [(1, (vP g1 0)), (2, .p 1 0), (4, (vP g17 0)), (18, .agg [(vI 0), (vF 81), (vF 79)]), (19, (vP g17 1)), (20, (vF 81)), (21, .agg (nV 1 s0 s1 s2 s3 mn mx)), (22, (vB (Nd.plain (⟨1, s0, s1, s2, s3, mn, mx⟩ : Nd))))], [.dead, .c [(vI 0), (vF 81), (vF 79)] 76]⟩ (by kernel_rfl) ?_
    refine At.nil ?_
    refine At.then_normal ?_
    refine At.held hle22 ?_
    refine At.take (S' := ⟨fr 23 [(1, (vP g1 0)), (2, .p 1 0), (3, (vB (Nd.plain (⟨1, s0, s1, s2, s3, mn, mx⟩ : Nd)))), (4, (vP g17 0)), (18, .agg [(vI 0), (vF 81), (vF 79)]), (19, (vP g17 1)), (20, (vF 81)), (21, .agg (nV 1 s0 s1 s2 s3 mn mx)), (22, (vB (Nd.plain (⟨1, s0, s1, s2, s3, mn, mx⟩ : Nd))))], [.dead, .c [(vI 0), (vF 81), (vF 79)] 76]⟩) hle22 (PanOk.then PanOk.body) 6 rfl (by kernel_rfl) (by kernel_rfl) (by kernel_rfl) (by kernel_rfl) ((vB (Nd.plain (⟨1, s0, s1, s2, s3, mn, mx⟩ : Nd)))) (by kernel_rfl) (fun _ _ => Val.ev rfl (by kernel_rfl) (by kernel_rfl)) (by kernel_rfl) #[true, true, true, true, true, true, true] (by kernel_rfl) ?_
    refine At.drawn_done (by kernel_rfl) ?_
    refine At.then_normal ?_
    refine At.ret_ ?_
    refine At.forget [1, 4, 18, 19, 20, 21, 22] 2 [] ⟨fr 23 [(2, .p 1 0), (3, (vB (Nd.plain (⟨1, s0, s1, s2, s3, mn, mx⟩ : Nd))))], [.dead, .c [(vI 0), (vF 81), (vF 79)] 76]⟩ (by kernel_rfl) (by kernel_rfl) (bleT rfl) ?_
    refine At.leaveX rfl [2, 3] 0 [] ⟨fr 23 [], []⟩ (0, 81, 79, (Nd.plain (⟨1, s0, s1, s2, s3, mn, mx⟩ : Nd))) (by kernel_rfl) (by kernel_rfl) (by kernel_rfl) (by kernel_rfl) (bleT rfl) (by kernel_rfl) (by kernel_rfl) ?_
    simp [kar, mayN, nulN, Nd.may_of]
  · refine At.forget [12] 2 [] ⟨fr 23 [(1, (vP g1 0)), (2, .p 1 0)], [.dead, .c [(vI 0), .v (.nilFunc), .v (.nilFunc)] 76]⟩ (by kernel_rfl) (by kernel_rfl) (bleT rfl) ?_
    refine At.region_draw (by kernel_rfl) 6 (by kernel_rfl) #[false, false, false, false, false, false] (by kernel_rfl) ?_
    have hB4d := hB4
    refine At.take (S' := ⟨fr 23 [(1, (vP g1 0)), (2, .p 1 0), (15, (vP g1 0))], [.dead, .c [(vI 0), .v (.nilFunc), .v (.nilFunc)] 76]⟩) (PhiLe.refl 0 _) (PanOk.then PanOk.body) 1 rfl (by kernel_rfl) (by kernel_rfl) (by kernel_rfl) (by kernel_rfl) ((vP g1 0)) (by kernel_rfl) (fun _ _ => Val.ev rfl (by kernel_rfl) (by kernel_rfl)) (by kernel_rfl) #[false, true, false, false, false, false] (by kernel_rfl) ?_
    refine At.take (S' := ⟨fr 23 [(1, (vP g1 0)), (2, .p 1 0), (15, (vP g1 0)), (16, (vI 2))], [.dead, .c [(vI 0), .v (.nilFunc), .v (.nilFunc)] 76]⟩) (PhiLe.refl 0 _) (PanOk.then PanOk.body) 2 rfl (by kernel_rfl) (by kernel_rfl) (by kernel_rfl) (by kernel_rfl) ((vI 2)) (by kernel_rfl) (fun _ _ => Val.ldB rfl hB4d (Nat.zero_lt_succ _) 0 0 (by omega) (by kernel_rfl) ((vI 2)) (by kernel_rfl)) (by kernel_rfl) #[false, true, true, false, false, false] (by kernel_rfl) ?_
    refine At.any2 0 4 (by kernel_rfl) rfl rfl #[true, true, true, false, false, false] #[false, true, true, false, true, false] (by kernel_rfl) (by kernel_rfl) ?_ ?_
    · refine At.callV rfl (by kernel_rfl) 53 [] [] (by kernel_rfl) Try.func53 (by kernel_rfl) (by kernel_rfl) [] (by kernel_rfl) (by kernel_rfl) (kinds_c Φ2) ?_
      rintro Φ23 ⟨⟩ hle24 -
      have hB4 := hB4.mono hle24
      refine ⟨⟨fr 23 [(1, (vP g1 0)), (2, .p 1 0), (14, kindsV), (15, (vP g1 0)), (16, (vI 2))], [.dead, .c [(vI 0), .v (.nilFunc), .v (.nilFunc)] 76]⟩, by kernel_rfl, by kernel_rfl, ?_⟩
      refine At.nil ?_
      refine At.then_normal ?_
      refine At.held hle24 ?_
      refine At.take (S' := ⟨fr 23 [(1, (vP g1 0)), (2, .p 1 0), (14, kindsV), (15, (vP g1 0)), (16, (vI 2)), (17, .agg [(vI 0), (vF 81), (vF 78)])], [.dead, .c [(vI 0), .v (.nilFunc), .v (.nilFunc)] 76]⟩) hle24 (PanOk.then PanOk.body) 3 rfl (by kernel_rfl) (by kernel_rfl) (by kernel_rfl) (by kernel_rfl) (.agg [(vI 0), (vF 81), (vF 78)]) (by kernel_rfl) (fun _ _ => Val.ev rfl (by kernel_rfl) (by kernel_rfl)) (by kernel_rfl) #[true, true, true, true, false, false] (by kernel_rfl) ?_
      refine At.any1 4 (by kernel_rfl) rfl #[true, true, true, true, true, false] (by kernel_rfl) ?_
      refine At.runk 1 [] [] ⟨fr 23 [(1, (vP g1 0)), (2, .p 1 0), (4, .p 2 0), (14, kindsV), (15, (vP g1 0)), (16, (vI 2)), (17, .agg [(vI 0), (vF 81), (vF 78)])], [.dead, .c [(vI 0), .v (.nilFunc), .v (.nilFunc)] 76, .c [(vI 0), .v (.nilFunc), .v (.nilFunc)] 76]⟩ (by kernel_rfl) ?_
      refine At.nil ?_
      refine At.then_normal ?_
      refine At.held hle24 ?_
      refine At.any1 5 (by kernel_rfl) rfl #[true, true, true, true, true, true] (by kernel_rfl) ?_
      refine At.runk 1 [] [] ⟨fr 23 [(1, (vP g1 0)), (2, .p 1 0), (4, .p 2 0), (14, kindsV), (15, (vP g1 0)), (16, (vI 2)), (17, .agg [(vI 0), (vF 81), (vF 78)])], [.dead, .c [(vI 0), .v (.nilFunc), .v (.nilFunc)] 76, .c [(vI 0), (vF 81), (vF 78)] 76]⟩ (by kernel_rfl) ?_
      refine At.nil ?_
      refine At.then_normal ?_
      refine At.held hle24 ?_
      refine At.drawn_done (by kernel_rfl) ?_
      refine At.then_normal ?_
      refine At.seq ?_
      refine At.freezeC 2 [.int .i64 0, .func (.func 81) #[] #[], .func (.func 78) #[] #[]] rfl rfl (bleT rfl) (bleT rfl) (fun _ => by kernel_rfl) (fun _ => by kernel_rfl) ?_
      intro g25 Φ26 hle27 hB28
      have hB4 := hB4.mono hle27
      refine ⟨⟨fr 23 [(1, (vP g1 0)), (2, .p 1 0), (4, (vP g25 0)), (14, kindsV), (15, (vP g1 0)), (16, (vI 2)), (17, .agg [(vI 0), (vF 81), (vF 78)])], [.dead, .c [(vI 0), .v (.nilFunc), .v (.nilFunc)] 76, .dead]⟩, by kernel_rfl, ?_⟩
      refine At.forget [14, 15, 16, 17] 2 [] ⟨fr 23 [(1, (vP g1 0)), (2, .p 1 0), (4, (vP g25 0))], [.dead, .c [(vI 0), .v (.nilFunc), .v (.nilFunc)] 76]⟩ (by kernel_rfl) (by kernel_rfl) (bleT rfl) ?_
      refine At.region_draw (by kernel_rfl) 7 (by kernel_rfl) #[false, false, false, false, false, false, false] (by kernel_rfl) ?_
      have hB4d := hB4
      have hB28d := hB28
      refine At.take (S' := ⟨fr 23 [(1, (vP g1 0)), (2, .p 1 0), (4, (vP g25 0)), (18, .agg [(vI 0), (vF 81), (vF 78)])], [.dead, .c [(vI 0), .v (.nilFunc), .v (.nilFunc)] 76]⟩) (PhiLe.refl 0 _) (PanOk.then PanOk.body) 0 rfl (by kernel_rfl) (by kernel_rfl) (by kernel_rfl) (by kernel_rfl) (.agg [(vI 0), (vF 81), (vF 78)]) (by kernel_rfl) (fun _ _ => Val.ldB rfl hB28d (Nat.zero_lt_succ _) 0 0 (by omega) (by kernel_rfl) (.agg [(vI 0), (vF 81), (vF 78)]) (by kernel_rfl)) (by kernel_rfl) #[true, false, false, false, false, false, false] (by kernel_rfl) ?_
      refine At.take (S' := ⟨fr 23 [(1, (vP g1 0)), (2, .p 1 0), (4, (vP g25 0)), (18, .agg [(vI 0), (vF 81), (vF 78)]), (19, (vP g25 1))], [.dead, .c [(vI 0), .v (.nilFunc), .v (.nilFunc)] 76]⟩) (PhiLe.refl 0 _) (PanOk.then PanOk.body) 1 rfl (by kernel_rfl) (by kernel_rfl) (by kernel_rfl) (by kernel_rfl) ((vP g25 1)) (by kernel_rfl) (fun _ _ => Val.ev rfl (by kernel_rfl) (by kernel_rfl)) (by kernel_rfl) #[true, true, false, false, false, false, false] (by kernel_rfl) ?_
      refine At.take (S' := ⟨fr 23 [(1, (vP g1 0)), (2, .p 1 0), (4, (vP g25 0)), (18, .agg [(vI 0), (vF 81), (vF 78)]), (19, (vP g25 1)), (20, (vF 81))], [.dead, .c [(vI 0), .v (.nilFunc), .v (.nilFunc)] 76]⟩) (PhiLe.refl 0 _) (PanOk.then PanOk.body) 2 rfl (by kernel_rfl) (by kernel_rfl) (by kernel_rfl) (by kernel_rfl) ((vF 81)) (by kernel_rfl) (fun _ _ => Val.ldB rfl hB28d (Nat.zero_lt_succ _) 1 1 (by omega) (by kernel_rfl) ((vF 81)) (by kernel_rfl)) (by kernel_rfl) #[true, true, true, false, false, false, false] (by kernel_rfl) ?_
      refine At.take (S' := ⟨fr 23 [(1, (vP g1 0)), (2, .p 1 0), (4, (vP g25 0)), (18, .agg [(vI 0), (vF 81), (vF 78)]), (19, (vP g25 1)), (20, (vF 81)), (21, .agg (nV 2 s0 s1 s2 s3 mn mx))], [.dead, .c [(vI 0), .v (.nilFunc), .v (.nilFunc)] 76]⟩) (PhiLe.refl 0 _) (PanOk.then PanOk.body) 3 rfl (by kernel_rfl) (by kernel_rfl) (by kernel_rfl) (by kernel_rfl) (.agg (nV 2 s0 s1 s2 s3 mn mx)) (by kernel_rfl) (fun _ _ => Val.ldB rfl hB4d (Nat.zero_lt_succ _) 0 0 (by omega) (by kernel_rfl) (.agg (nV 2 s0 s1 s2 s3 mn mx)) (by kernel_rfl)) (by kernel_rfl) #[true, true, true, true, false, false, false] (by kernel_rfl) ?_
      refine At.any1 4 (by kernel_rfl) rfl #[true, true, true, true, true, false, false] (by kernel_rfl) ?_
      refine At.callV rfl (by kernel_rfl) 81 [] [] (by kernel_rfl) Try.func81 (by kernel_rfl) (by kernel_rfl) [.agg (nV 2 s0 s1 s2 s3 mn mx)] (by kernel_rfl) (by kernel_rfl) (plain_c Φ26 (⟨2, s0, s1, s2, s3, mn, mx⟩ : Nd)) ?_
      rintro Φ29 _ hle30 rfl
      have hB4 := hB4.mono hle30
      have hB28 := hB28.mono hle30
      refine ⟨⟨fr 23 [(1, (vP g1 0)), (2, .p 1 0), (4, (vP g25 0)), (18, .agg [(vI 0), (vF 81), (vF 78)]), (19, (vP g25 1)), (20, (vF 81)), (21, .agg (nV 2 s0 s1 s2 s3 mn mx)), (22, (vB (Nd.plain (⟨2, s0, s1, s2, s3, mn, mx⟩ : Nd))))], [.dead, .c [(vI 0), .v (.nilFunc), .v (.nilFunc)] 76]⟩, by kernel_rfl, by kernel_rfl, ?_⟩
      refine At.nil ?_
      refine At.then_normal ?_
      refine At.held hle30 ?_
      refine At.any1 5 (by kernel_rfl) rfl #[true, true, true, true, true, true, false] (by kernel_rfl) ?_
      refine At.runk 1 [] [] ⟨fr 23 [(1, (vP g1 0)), (2, .p 1 0), (4, (vP g25 0)), (18, .agg [(vI 0), (vF 81), (vF 78)]), (19, (vP g25 1)), (20, (vF 81)), (21, .agg (nV 2 s0 s1 s2 s3 mn mx)), (22, (vB (Nd.plain (⟨2, s0, s1, s2, s3, mn, mx⟩ : Nd))))], [.dead, .c [(vI 0), (vF 81), (vF 78)] 76]⟩ (by kernel_rfl) ?_
      refine At.nil ?_
      refine At.then_normal ?_
      refine At.held hle30 ?_
      refine At.take (S' := ⟨fr 23 [(1, (vP g1 0)), (2, .p 1 0), (3, (vB (Nd.plain (⟨2, s0, s1, s2, s3, mn, mx⟩ : Nd)))), (4, (vP g25 0)), (18, .agg [(vI 0), (vF 81), (vF 78)]), (19, (vP g25 1)), (20, (vF 81)), (21, .agg (nV 2 s0 s1 s2 s3 mn mx)), (22, (vB (Nd.plain (⟨2, s0, s1, s2, s3, mn, mx⟩ : Nd))))], [.dead, .c [(vI 0), (vF 81), (vF 78)] 76]⟩) hle30 (PanOk.then PanOk.body) 6 rfl (by kernel_rfl) (by kernel_rfl) (by kernel_rfl) (by kernel_rfl) ((vB (Nd.plain (⟨2, s0, s1, s2, s3, mn, mx⟩ : Nd)))) (by kernel_rfl) (fun _ _ => Val.ev rfl (by kernel_rfl) (by kernel_rfl)) (by kernel_rfl) #[true, true, true, true, true, true, true] (by kernel_rfl) ?_
      refine At.drawn_done (by kernel_rfl) ?_
      refine At.then_normal ?_
      refine At.ret_ ?_
      refine At.forget [1, 4, 18, 19, 20, 21, 22] 2 [] ⟨fr 23 [(2, .p 1 0), (3, (vB (Nd.plain (⟨2, s0, s1, s2, s3, mn, mx⟩ : Nd))))], [.dead, .c [(vI 0), (vF 81), (vF 78)] 76]⟩ (by kernel_rfl) (by kernel_rfl) (bleT rfl) ?_
      refine At.leaveX rfl [2, 3] 0 [] ⟨fr 23 [], []⟩ (0, 81, 78, (Nd.plain (⟨2, s0, s1, s2, s3, mn, mx⟩ : Nd))) (by kernel_rfl) (by kernel_rfl) (by kernel_rfl) (by kernel_rfl) (bleT rfl) (by kernel_rfl) (by kernel_rfl) ?_
      simp [kar, mayN, nulN, Nd.may_of]
    refine At.runk 1 [] [] ⟨fr 23 [(1, (vP g1 0)), (2, .p 1 0), (4, .p 2 0), (15, (vP g1 0)), (16, (vI 2))], [.dead, .c [(vI 0), .v (.nilFunc), .v (.nilFunc)] 76, .c [(vI 0), .v (.nilFunc), .v (.nilFunc)] 76]⟩ (by kernel_rfl) ?_
    refine At.nil ?_
    refine At.then_normal ?_
    refine At.held (PhiLe.refl 0 _) ?_
    refine At.any1 0 (by kernel_rfl) rfl #[true, true, true, false, true, false] (by kernel_rfl) ?_
    refine At.callV rfl (by kernel_rfl) 53 [] [] (by kernel_rfl) Try.func53 (by kernel_rfl) (by kernel_rfl) [] (by kernel_rfl) (by kernel_rfl) (kinds_c Φ2) ?_
    rintro Φ31 ⟨⟩ hle32 -
    have hB4 := hB4.mono hle32
    refine ⟨⟨fr 23 [(1, (vP g1 0)), (2, .p 1 0), (4, .p 2 0), (14, kindsV), (15, (vP g1 0)), (16, (vI 2))], [.dead, .c [(vI 0), .v (.nilFunc), .v (.nilFunc)] 76, .c [(vI 0), .v (.nilFunc), .v (.nilFunc)] 76]⟩, by kernel_rfl, by kernel_rfl, ?_⟩
    refine At.nil ?_
    refine At.then_normal ?_
    refine At.held hle32 ?_
    refine At.take (S' := ⟨fr 23 [(1, (vP g1 0)), (2, .p 1 0), (4, .p 2 0), (14, kindsV), (15, (vP g1 0)), (16, (vI 2)), (17, .agg [(vI 0), (vF 81), (vF 78)])], [.dead, .c [(vI 0), .v (.nilFunc), .v (.nilFunc)] 76, .c [(vI 0), .v (.nilFunc), .v (.nilFunc)] 76]⟩) hle32 (PanOk.then PanOk.body) 3 rfl (by kernel_rfl) (by kernel_rfl) (by kernel_rfl) (by kernel_rfl) (.agg [(vI 0), (vF 81), (vF 78)]) (by kernel_rfl) (fun _ _ => Val.ev rfl (by kernel_rfl) (by kernel_rfl)) (by kernel_rfl) #[true, true, true, true, true, false] (by kernel_rfl) ?_
    refine At.any1 5 (by kernel_rfl) rfl #[true, true, true, true, true, true] (by kernel_rfl) ?_
    refine At.runk 1 [] [] ⟨fr 23 [(1, (vP g1 0)), (2, .p 1 0), (4, .p 2 0), (14, kindsV), (15, (vP g1 0)), (16, (vI 2)), (17, .agg [(vI 0), (vF 81), (vF 78)])], [.dead, .c [(vI 0), .v (.nilFunc), .v (.nilFunc)] 76, .c [(vI 0), (vF 81), (vF 78)] 76]⟩ (by kernel_rfl) ?_
    refine At.nil ?_
    refine At.then_normal ?_
    refine At.held hle32 ?_
    refine At.drawn_done (by kernel_rfl) ?_
    refine At.then_normal ?_
    refine At.seq ?_
    refine At.freezeC 2 [.int .i64 0, .func (.func 81) #[] #[], .func (.func 78) #[] #[]] rfl rfl (bleT rfl) (bleT rfl) (fun _ => by kernel_rfl) (fun _ => by kernel_rfl) ?_
    intro g33 Φ34 hle35 hB36
    have hB4 := hB4.mono hle35
    refine ⟨⟨fr 23 [(1, (vP g1 0)), (2, .p 1 0), (4, (vP g33 0)), (14, kindsV), (15, (vP g1 0)), (16, (vI 2)), (17, .agg [(vI 0), (vF 81), (vF 78)])], [.dead, .c [(vI 0), .v (.nilFunc), .v (.nilFunc)] 76, .dead]⟩, by kernel_rfl, ?_⟩
    refine At.forget [14, 15, 16, 17] 2 [] ⟨fr 23 [(1, (vP g1 0)), (2, .p 1 0), (4, (vP g33 0))], [.dead, .c [(vI 0), .v (.nilFunc), .v (.nilFunc)] 76]⟩ (by kernel_rfl) (by kernel_rfl) (bleT rfl) ?_
    refine At.region_draw (by kernel_rfl) 7 (by kernel_rfl) #[false, false, false, false, false, false, false] (by kernel_rfl) ?_
    have hB4d := hB4
    have hB36d := hB36
    refine At.take (S' := ⟨fr 23 [(1, (vP g1 0)), (2, .p 1 0), (4, (vP g33 0)), (18, .agg [(vI 0), (vF 81), (vF 78)])], [.dead, .c [(vI 0), .v (.nilFunc), .v (.nilFunc)] 76]⟩) (PhiLe.refl 0 _) (PanOk.then PanOk.body) 0 rfl (by kernel_rfl) (by kernel_rfl) (by kernel_rfl) (by kernel_rfl) (.agg [(vI 0), (vF 81), (vF 78)]) (by kernel_rfl) (fun _ _ => Val.ldB rfl hB36d (Nat.zero_lt_succ _) 0 0 (by omega) (by kernel_rfl) (.agg [(vI 0), (vF 81), (vF 78)]) (by kernel_rfl)) (by kernel_rfl) #[true, false, false, false, false, false, false] (by kernel_rfl) ?_
    refine At.take (S' := ⟨fr 23 [(1, (vP g1 0)), (2, .p 1 0), (4, (vP g33 0)), (18, .agg [(vI 0), (vF 81), (vF 78)]), (19, (vP g33 1))], [.dead, .c [(vI 0), .v (.nilFunc), .v (.nilFunc)] 76]⟩) (PhiLe.refl 0 _) (PanOk.then PanOk.body) 1 rfl (by kernel_rfl) (by kernel_rfl) (by kernel_rfl) (by kernel_rfl) ((vP g33 1)) (by kernel_rfl) (fun _ _ => Val.ev rfl (by kernel_rfl) (by kernel_rfl)) (by kernel_rfl) #[true, true, false, false, false, false, false] (by kernel_rfl) ?_
    refine At.take (S' := ⟨fr 23 [(1, (vP g1 0)), (2, .p 1 0), (4, (vP g33 0)), (18, .agg [(vI 0), (vF 81), (vF 78)]), (19, (vP g33 1)), (20, (vF 81))], [.dead, .c [(vI 0), .v (.nilFunc), .v (.nilFunc)] 76]⟩) (PhiLe.refl 0 _) (PanOk.then PanOk.body) 2 rfl (by kernel_rfl) (by kernel_rfl) (by kernel_rfl) (by kernel_rfl) ((vF 81)) (by kernel_rfl) (fun _ _ => Val.ldB rfl hB36d (Nat.zero_lt_succ _) 1 1 (by omega) (by kernel_rfl) ((vF 81)) (by kernel_rfl)) (by kernel_rfl) #[true, true, true, false, false, false, false] (by kernel_rfl) ?_
    refine At.take (S' := ⟨fr 23 [(1, (vP g1 0)), (2, .p 1 0), (4, (vP g33 0)), (18, .agg [(vI 0), (vF 81), (vF 78)]), (19, (vP g33 1)), (20, (vF 81)), (21, .agg (nV 2 s0 s1 s2 s3 mn mx))], [.dead, .c [(vI 0), .v (.nilFunc), .v (.nilFunc)] 76]⟩) (PhiLe.refl 0 _) (PanOk.then PanOk.body) 3 rfl (by kernel_rfl) (by kernel_rfl) (by kernel_rfl) (by kernel_rfl) (.agg (nV 2 s0 s1 s2 s3 mn mx)) (by kernel_rfl) (fun _ _ => Val.ldB rfl hB4d (Nat.zero_lt_succ _) 0 0 (by omega) (by kernel_rfl) (.agg (nV 2 s0 s1 s2 s3 mn mx)) (by kernel_rfl)) (by kernel_rfl) #[true, true, true, true, false, false, false] (by kernel_rfl) ?_
    refine At.any1 4 (by kernel_rfl) rfl #[true, true, true, true, true, false, false] (by kernel_rfl) ?_
    refine At.callV rfl (by kernel_rfl) 81 [] [] (by kernel_rfl) Try.func81 (by kernel_rfl) (by kernel_rfl) [.agg (nV 2 s0 s1 s2 s3 mn mx)] (by kernel_rfl) (by kernel_rfl) (plain_c Φ34 (⟨2, s0, s1, s2, s3, mn, mx⟩ : Nd)) ?_
    rintro Φ37 _ hle38 rfl
    have hB4 := hB4.mono hle38
    have hB36 := hB36.mono hle38
    refine ⟨⟨fr 23 [(1, (vP g1 0)), (2, .p 1 0), (4, (vP g33 0)), (18, .agg [(vI 0), (vF 81), (vF 78)]), (19, (vP g33 1)), (20, (vF 81)), (21, .agg (nV 2 s0 s1 s2 s3 mn mx)), (22, (vB (Nd.plain (⟨2, s0, s1, s2, s3, mn, mx⟩ : Nd))))], [.dead, .c [(vI 0), .v (.nilFunc), .v (.nilFunc)] 76]⟩, by kernel_rfl, by kernel_rfl, ?_⟩
    refine At.nil ?_
    refine At.then_normal ?_
    refine At.held hle38 ?_
    refine At.any1 5 (by kernel_rfl) rfl #[true, true, true, true, true, true, false] (by kernel_rfl) ?_
    refine At.runk 1 [] [] ⟨fr 23 [(1, (vP g1 0)), (2, .p 1 0), (4, (vP g33 0)), (18, .agg [(vI 0), (vF 81), (vF 78)]), (19, (vP g33 1)), (20, (vF 81)), (21, .agg (nV 2 s0 s1 s2 s3 mn mx)), (22, (vB (Nd.plain (⟨2, s0, s1, s2, s3, mn, mx⟩ : Nd))))], [.dead, .c [(vI 0), (vF 81), (vF 78)] 76]⟩ (by kernel_rfl) ?_
    refine At.nil ?_
    refine At.then_normal ?_
    refine At.held hle38 ?_
    refine At.take (S' := ⟨fr 23 [(1, (vP g1 0)), (2, .p 1 0), (3, (vB (Nd.plain (⟨2, s0, s1, s2, s3, mn, mx⟩ : Nd)))), (4, (vP g33 0)), (18, .agg [(vI 0), (vF 81), (vF 78)]), (19, (vP g33 1)), (20, (vF 81)), (21, .agg (nV 2 s0 s1 s2 s3 mn mx)), (22, (vB (Nd.plain (⟨2, s0, s1, s2, s3, mn, mx⟩ : Nd))))], [.dead, .c [(vI 0), (vF 81), (vF 78)] 76]⟩) hle38 (PanOk.then PanOk.body) 6 rfl (by kernel_rfl) (by kernel_rfl) (by kernel_rfl) (by kernel_rfl) ((vB (Nd.plain (⟨2, s0, s1, s2, s3, mn, mx⟩ : Nd)))) (by kernel_rfl) (fun _ _ => Val.ev rfl (by kernel_rfl) (by kernel_rfl)) (by kernel_rfl) #[true, true, true, true, true, true, true] (by kernel_rfl) ?_
    refine At.drawn_done (by kernel_rfl) ?_
    refine At.then_normal ?_
    refine At.ret_ ?_
    refine At.forget [1, 4, 18, 19, 20, 21, 22] 2 [] ⟨fr 23 [(2, .p 1 0), (3, (vB (Nd.plain (⟨2, s0, s1, s2, s3, mn, mx⟩ : Nd))))], [.dead, .c [(vI 0), (vF 81), (vF 78)] 76]⟩ (by kernel_rfl) (by kernel_rfl) (bleT rfl) ?_
    refine At.leaveX rfl [2, 3] 0 [] ⟨fr 23 [], []⟩ (0, 81, 78, (Nd.plain (⟨2, s0, s1, s2, s3, mn, mx⟩ : Nd))) (by kernel_rfl) (by kernel_rfl) (by kernel_rfl) (by kernel_rfl) (bleT rfl) (by kernel_rfl) (by kernel_rfl) ?_
    simp [kar, mayN, nulN, Nd.may_of]
  · refine At.forget [12] 2 [] ⟨fr 23 [(1, (vP g1 0)), (2, .p 1 0)], [.dead, .c [(vI 0), .v (.nilFunc), .v (.nilFunc)] 76]⟩ (by kernel_rfl) (by kernel_rfl) (bleT rfl) ?_
    refine At.region_draw (by kernel_rfl) 6 (by kernel_rfl) #[false, false, false, false, false, false] (by kernel_rfl) ?_
    have hB4d := hB4
    refine At.take (S' := ⟨fr 23 [(1, (vP g1 0)), (2, .p 1 0), (15, (vP g1 0))], [.dead, .c [(vI 0), .v (.nilFunc), .v (.nilFunc)] 76]⟩) (PhiLe.refl 0 _) (PanOk.then PanOk.body) 1 rfl (by kernel_rfl) (by kernel_rfl) (by kernel_rfl) (by kernel_rfl) ((vP g1 0)) (by kernel_rfl) (fun _ _ => Val.ev rfl (by kernel_rfl) (by kernel_rfl)) (by kernel_rfl) #[false, true, false, false, false, false] (by kernel_rfl) ?_
    refine At.take (S' := ⟨fr 23 [(1, (vP g1 0)), (2, .p 1 0), (15, (vP g1 0)), (16, (vI 3))], [.dead, .c [(vI 0), .v (.nilFunc), .v (.nilFunc)] 76]⟩) (PhiLe.refl 0 _) (PanOk.then PanOk.body) 2 rfl (by kernel_rfl) (by kernel_rfl) (by kernel_rfl) (by kernel_rfl) ((vI 3)) (by kernel_rfl) (fun _ _ => Val.ldB rfl hB4d (Nat.zero_lt_succ _) 0 0 (by omega) (by kernel_rfl) ((vI 3)) (by kernel_rfl)) (by kernel_rfl) #[false, true, true, false, false, false] (by kernel_rfl) ?_
    refine At.any2 0 4 (by kernel_rfl) rfl rfl #[true, true, true, false, false, false] #[false, true, true, false, true, false] (by kernel_rfl) (by kernel_rfl) ?_ ?_
    · refine At.callV rfl (by kernel_rfl) 53 [] [] (by kernel_rfl) Try.func53 (by kernel_rfl) (by kernel_rfl) [] (by kernel_rfl) (by kernel_rfl) (kinds_c Φ2) ?_
      rintro Φ39 ⟨⟩ hle40 -
      have hB4 := hB4.mono hle40
      refine ⟨⟨fr 23 [(1, (vP g1 0)), (2, .p 1 0), (14, kindsV), (15, (vP g1 0)), (16, (vI 3))], [.dead, .c [(vI 0), .v (.nilFunc), .v (.nilFunc)] 76]⟩, by kernel_rfl, by kernel_rfl, ?_⟩
      refine At.nil ?_
      refine At.then_normal ?_
      refine At.held hle40 ?_
      refine At.take (S' := ⟨fr 23 [(1, (vP g1 0)), (2, .p 1 0), (14, kindsV), (15, (vP g1 0)), (16, (vI 3)), (17, .agg [(vI 0), (vF 82), (vF 79)])], [.dead, .c [(vI 0), .v (.nilFunc), .v (.nilFunc)] 76]⟩) hle40 (PanOk.then PanOk.body) 3 rfl (by kernel_rfl) (by kernel_rfl) (by kernel_rfl) (by kernel_rfl) (.agg [(vI 0), (vF 82), (vF 79)]) (by kernel_rfl) (fun _ _ => Val.ev rfl (by kernel_rfl) (by kernel_rfl)) (by kernel_rfl) #[true, true, true, true, false, false] (by kernel_rfl) ?_
      refine At.any1 4 (by kernel_rfl) rfl #[true, true, true, true, true, false] (by kernel_rfl) ?_
      refine At.runk 1 [] [] ⟨fr 23 [(1, (vP g1 0)), (2, .p 1 0), (4, .p 2 0), (14, kindsV), (15, (vP g1 0)), (16, (vI 3)), (17, .agg [(vI 0), (vF 82), (vF 79)])], [.dead, .c [(vI 0), .v (.nilFunc), .v (.nilFunc)] 76, .c [(vI 0), .v (.nilFunc), .v (.nilFunc)] 76]⟩ (by kernel_rfl) ?_
      refine At.nil ?_
      refine At.then_normal ?_
      refine At.held hle40 ?_
      refine At.any1 5 (by kernel_rfl) rfl #[true, true, true, true, true, true] (by kernel_rfl) ?_
      refine At.runk 1 [] [] ⟨fr 23 [(1, (vP g1 0)), (2, .p 1 0), (4, .p 2 0), (14, kindsV), (15, (vP g1 0)), (16, (vI 3)), (17, .agg [(vI 0), (vF 82), (vF 79)])], [.dead, .c [(vI 0), .v (.nilFunc), .v (.nilFunc)] 76, .c [(vI 0), (vF 82), (vF 79)] 76]⟩ (by kernel_rfl) ?_
      refine At.nil ?_
      refine At.then_normal ?_
      refine At.held hle40 ?_
      refine At.drawn_done (by kernel_rfl) ?_
      refine At.then_normal ?_
      refine At.seq ?_
      refine At.freezeC 2 [.int .i64 0, .func (.func 82) #[] #[], .func (.func 79) #[] #[]] rfl rfl (bleT rfl) (bleT rfl) (fun _ => by kernel_rfl) (fun _ => by kernel_rfl) ?_
      intro g41 Φ42 hle43 hB44
      have hB4 := hB4.mono hle43
      refine ⟨⟨fr 23 [(1, (vP g1 0)), (2, .p 1 0), (4, (vP g41 0)), (14, kindsV), (15, (vP g1 0)), (16, (vI 3)), (17, .agg [(vI 0), (vF 82), (vF 79)])], [.dead, .c [(vI 0), .v (.nilFunc), .v (.nilFunc)] 76, .dead]⟩, by kernel_rfl, ?_⟩
      refine At.forget [14, 15, 16, 17] 2 [] ⟨fr 23 [(1, (vP g1 0)), (2, .p 1 0), (4, (vP g41 0))], [.dead, .c [(vI 0), .v (.nilFunc), .v (.nilFunc)] 76]⟩ (by kernel_rfl) (by kernel_rfl) (bleT rfl) ?_
      refine At.region_draw (by kernel_rfl) 7 (by kernel_rfl) #[false, false, false, false, false, false, false] (by kernel_rfl) ?_
      have hB4d := hB4
      have hB44d := hB44
      refine At.take (S' := ⟨fr 23 [(1, (vP g1 0)), (2, .p 1 0), (4, (vP g41 0)), (18, .agg [(vI 0), (vF 82), (vF 79)])], [.dead, .c [(vI 0), .v (.nilFunc), .v (.nilFunc)] 76]⟩) (PhiLe.refl 0 _) (PanOk.then PanOk.body) 0 rfl (by kernel_rfl) (by kernel_rfl) (by kernel_rfl) (by kernel_rfl) (.agg [(vI 0), (vF 82), (vF 79)]) (by kernel_rfl) (fun _ _ => Val.ldB rfl hB44d (Nat.zero_lt_succ _) 0 0 (by omega) (by kernel_rfl) (.agg [(vI 0), (vF 82), (vF 79)]) (by kernel_rfl)) (by kernel_rfl) #[true, false, false, false, false, false, false] (by kernel_rfl) ?_
      refine At.take (S' := ⟨fr 23 [(1, (vP g1 0)), (2, .p 1 0), (4, (vP g41 0)), (18, .agg [(vI 0), (vF 82), (vF 79)]), (19, (vP g41 1))], [.dead, .c [(vI 0), .v (.nilFunc), .v (.nilFunc)] 76]⟩) (PhiLe.refl 0 _) (PanOk.then PanOk.body) 1 rfl (by kernel_rfl) (by kernel_rfl) (by kernel_rfl) (by kernel_rfl) ((vP g41 1)) (by kernel_rfl) (fun _ _ => Val.ev rfl (by kernel_rfl) (by kernel_rfl)) (by kernel_rfl) #[true, true, false, false, false, false, false] (by kernel_rfl) ?_
      refine At.take (S' := ⟨fr 23 [(1, (vP g1 0)), (2, .p 1 0), (4, (vP g41 0)), (18, .agg [(vI 0), (vF 82), (vF 79)]), (19, (vP g41 1)), (20, (vF 82))], [.dead, .c [(vI 0), .v (.nilFunc), .v (.nilFunc)] 76]⟩) (PhiLe.refl 0 _) (PanOk.then PanOk.body) 2 rfl (by kernel_rfl) (by kernel_rfl) (by kernel_rfl) (by kernel_rfl) ((vF 82)) (by kernel_rfl) (fun _ _ => Val.ldB rfl hB44d (Nat.zero_lt_succ _) 1 1 (by omega) (by kernel_rfl) ((vF 82)) (by kernel_rfl)) (by kernel_rfl) #[true, true, true, false, false, false, false] (by kernel_rfl) ?_
      refine At.take (S' := ⟨fr 23 [(1, (vP g1 0)), (2, .p 1 0), (4, (vP g41 0)), (18, .agg [(vI 0), (vF 82), (vF 79)]), (19, (vP g41 1)), (20, (vF 82)), (21, .agg (nV 3 s0 s1 s2 s3 mn mx))], [.dead, .c [(vI 0), .v (.nilFunc), .v (.nilFunc)] 76]⟩) (PhiLe.refl 0 _) (PanOk.then PanOk.body) 3 rfl (by kernel_rfl) (by kernel_rfl) (by kernel_rfl) (by kernel_rfl) (.agg (nV 3 s0 s1 s2 s3 mn mx)) (by kernel_rfl) (fun _ _ => Val.ldB rfl hB4d (Nat.zero_lt_succ _) 0 0 (by omega) (by kernel_rfl) (.agg (nV 3 s0 s1 s2 s3 mn mx)) (by kernel_rfl)) (by kernel_rfl) #[true, true, true, true, false, false, false] (by kernel_rfl) ?_
      refine At.any1 4 (by kernel_rfl) rfl #[true, true, true, true, true, false, false] (by kernel_rfl) ?_
      refine At.callV rfl (by kernel_rfl) 82 [] [] (by kernel_rfl) Try.func82 (by kernel_rfl) (by kernel_rfl) [.agg (nV 3 s0 s1 s2 s3 mn mx)] (by kernel_rfl) (by kernel_rfl) (isset_c Φ42 (⟨3, s0, s1, s2, s3, mn, mx⟩ : Nd) nw) ?_
      rintro Φ45 _ hle46 rfl
      have hB4 := hB4.mono hle46
      have hB44 := hB44.mono hle46
      refine ⟨⟨fr 23 [(1, (vP g1 0)), (2, .p 1 0), (4, (vP g41 0)), (18, .agg [(vI 0), (vF 82), (vF 79)]), (19, (vP g41 1)), (20, (vF 82)), (21, .agg (nV 3 s0 s1 s2 s3 mn mx)), (22, (vB (Nd.isset (⟨3, s0, s1, s2, s3, mn, mx⟩ : Nd))))], [.dead, .c [(vI 0), .v (.nilFunc), .v (.nilFunc)] 76]⟩, by kernel_rfl, by kernel_rfl, ?_⟩
      refine At.nil ?_
      refine At.then_normal ?_
      refine At.held hle46 ?_
      refine At.any1 5 (by kernel_rfl) rfl #[true, true, true, true, true, true, false] (by kernel_rfl) ?_
      refine At.runk 1 [] [] ⟨fr 23 [(1, (vP g1 0)), (2, .p 1 0), (4, (vP g41 0)), (18, .agg [(vI 0), (vF 82), (vF 79)]), (19, (vP g41 1)), (20, (vF 82)), (21, .agg (nV 3 s0 s1 s2 s3 mn mx)), (22, (vB (Nd.isset (⟨3, s0, s1, s2, s3, mn, mx⟩ : Nd))))], [.dead, .c [(vI 0), (vF 82), (vF 79)] 76]⟩ (by kernel_rfl) ?_
      refine At.nil ?_
      refine At.then_normal ?_
      refine At.held hle46 ?_
      refine At.take (S' := ⟨fr 23 [(1, (vP g1 0)), (2, .p 1 0), (3, (vB (Nd.isset (⟨3, s0, s1, s2, s3, mn, mx⟩ : Nd)))), (4, (vP g41 0)), (18, .agg [(vI 0), (vF 82), (vF 79)]), (19, (vP g41 1)), (20, (vF 82)), (21, .agg (nV 3 s0 s1 s2 s3 mn mx)), (22, (vB (Nd.isset (⟨3, s0, s1, s2, s3, mn, mx⟩ : Nd))))], [.dead, .c [(vI 0), (vF 82), (vF 79)] 76]⟩) hle46 (PanOk.then PanOk.body) 6 rfl (by kernel_rfl) (by kernel_rfl) (by kernel_rfl) (by kernel_rfl) ((vB (Nd.isset (⟨3, s0, s1, s2, s3, mn, mx⟩ : Nd)))) (by kernel_rfl) (fun _ _ => Val.ev rfl (by kernel_rfl) (by kernel_rfl)) (by kernel_rfl) #[true, true, true, true, true, true, true] (by kernel_rfl) ?_
      refine At.drawn_done (by kernel_rfl) ?_
      refine At.then_normal ?_
      refine At.ret_ ?_
      refine At.forget [1, 4, 18, 19, 20, 21, 22] 2 [] ⟨fr 23 [(2, .p 1 0), (3, (vB (Nd.isset (⟨3, s0, s1, s2, s3, mn, mx⟩ : Nd))))], [.dead, .c [(vI 0), (vF 82), (vF 79)] 76]⟩ (by kernel_rfl) (by kernel_rfl) (bleT rfl) ?_
      refine At.leaveX rfl [2, 3] 0 [] ⟨fr 23 [], []⟩ (0, 82, 79, (Nd.isset (⟨3, s0, s1, s2, s3, mn, mx⟩ : Nd))) (by kernel_rfl) (by kernel_rfl) (by kernel_rfl) (by kernel_rfl) (bleT rfl) (by kernel_rfl) (by kernel_rfl) ?_
      simp [kar, mayN, nulN, Nd.may_of]
    refine At.runk 1 [] [] ⟨fr 23 [(1, (vP g1 0)), (2, .p 1 0), (4, .p 2 0), (15, (vP g1 0)), (16, (vI 3))], [.dead, .c [(vI 0), .v (.nilFunc), .v (.nilFunc)] 76, .c [(vI 0), .v (.nilFunc), .v (.nilFunc)] 76]⟩ (by kernel_rfl) ?_
    refine At.nil ?_
    refine At.then_normal ?_
    refine At.held (PhiLe.refl 0 _) ?_
    refine At.any1 0 (by kernel_rfl) rfl #[true, true, true, false, true, false] (by kernel_rfl) ?_
    refine At.callV rfl (by kernel_rfl) 53 [] [] (by kernel_rfl) Try.func53 (by kernel_rfl) (by kernel_rfl) [] (by kernel_rfl) (by kernel_rfl) (kinds_c Φ2) ?_
    rintro Φ47 ⟨⟩ hle48 -
    have hB4 := hB4.mono hle48
    refine ⟨⟨fr 23 [(1, (vP g1 0)), (2, .p 1 0), (4, .p 2 0), (14, kindsV), (15, (vP g1 0)), (16, (vI 3))], [.dead, .c [(vI 0), .v (.nilFunc), .v (.nilFunc)] 76, .c [(vI 0), .v (.nilFunc), .v (.nilFunc)] 76]⟩, by kernel_rfl, by kernel_rfl, ?_⟩
    refine At.nil ?_
    refine At.then_normal ?_
    refine At.held hle48 ?_
    refine At.take (S' := ⟨fr 23 [(1, (vP g1 0)), (2, .p 1 0), (4, .p 2 0), (14, kindsV), (15, (vP g1 0)), (16, (vI 3)), (17, .agg [(vI 0), (vF 82), (vF 79)])], [.dead, .c [(vI 0), .v (.nilFunc), .v (.nilFunc)] 76, .c [(vI 0), .v (.nilFunc), .v (.nilFunc)] 76]⟩) hle48 (PanOk.then PanOk.body) 3 rfl (by kernel_rfl) (by kernel_rfl) (by kernel_rfl) (by kernel_rfl) (.agg [(vI 0), (vF 82), (vF 79)]) (by kernel_rfl) (fun _ _ => Val.ev rfl (by kernel_rfl) (by kernel_rfl)) (by kernel_rfl) #[true, true, true, true, true, false] (by kernel_rfl) ?_
    refine At.any1 5 (by kernel_rfl) rfl #[true, true, true, true, true, true] (by kernel_rfl) ?_
    refine At.runk 1 [] [] ⟨fr 23 [(1, (vP g1 0)), (2, .p 1 0), (4, .p 2 0), (14, kindsV), (15, (vP g1 0)), (16, (vI 3)), (17, .agg [(vI 0), (vF 82), (vF 79)])], [.dead, .c [(vI 0), .v (.nilFunc), .v (.nilFunc)] 76, .c [(vI 0), (vF 82), (vF 79)] 76]⟩ (by kernel_rfl) ?_
    refine At.nil ?_
    refine At.then_normal ?_
    refine At.held hle48 ?_
    refine At.drawn_done (by kernel_rfl) ?_
    refine At.then_normal ?_
    refine At.seq ?_
    refine At.freezeC 2 [.int .i64 0, .func (.func 82) #[] #[], .func (.func 79) #[] #[]] rfl rfl (bleT rfl) (bleT rfl) (fun _ => by kernel_rfl) (fun _ => by kernel_rfl) ?_
    intro g49 Φ50 hle51 hB52
    have hB4 := hB4.mono hle51
    refine ⟨⟨fr 23 [(1, (vP g1 0)), (2, .p 1 0), (4, (vP g49 0)), (14, kindsV), (15, (vP g1 0)), (16, (vI 3)), (17, .agg [(vI 0), (vF 82), (vF 79)])], [.dead, .c [(vI 0), .v (.nilFunc), .v (.nilFunc)] 76, .dead]⟩, by kernel_rfl, ?_⟩
    refine At.forget [14, 15, 16, 17] 2 [] ⟨fr 23 [(1, (vP g1 0)), (2, .p 1 0), (4, (vP g49 0))], [.dead, .c [(vI 0), .v (.nilFunc), .v (.nilFunc)] 76]⟩ (by kernel_rfl) (by kernel_rfl) (bleT rfl) ?_
    refine At.region_draw (by kernel_rfl) 7 (by kernel_rfl) #[false, false, false, false, false, false, false] (by kernel_rfl) ?_
    have hB4d := hB4
    have hB52d := hB52
    refine At.take (S' := ⟨fr 23 [(1, (vP g1 0)), (2, .p 1 0), (4, (vP g49 0)), (18, .agg [(vI 0), (vF 82), (vF 79)])], [.dead, .c [(vI 0), .v (.nilFunc), .v (.nilFunc)] 76]⟩) (PhiLe.refl 0 _) (PanOk.then PanOk.body) 0 rfl (by kernel_rfl) (by kernel_rfl) (by kernel_rfl) (by kernel_rfl) (.agg [(vI 0), (vF 82), (vF 79)]) (by kernel_rfl) (fun _ _ => Val.ldB rfl hB52d (Nat.zero_lt_succ _) 0 0 (by omega) (by kernel_rfl) (.agg [(vI 0), (vF 82), (vF 79)]) (by kernel_rfl)) (by kernel_rfl) #[true, false, false, false, false, false, false] (by kernel_rfl) ?_
    refine At.take (S' := ⟨fr 23 [(1, (vP g1 0)), (2, .p 1 0), (4, (vP g49 0)), (18, .agg [(vI 0), (vF 82), (vF 79)]), (19, (vP g49 1))], [.dead, .c [(vI 0), .v (.nilFunc), .v (.nilFunc)] 76]⟩) (PhiLe.refl 0 _) (PanOk.then PanOk.body) 1 rfl (by kernel_rfl) (by kernel_rfl) (by kernel_rfl) (by kernel_rfl) ((vP g49 1)) (by kernel_rfl) (fun _ _ => Val.ev rfl (by kernel_rfl) (by kernel_rfl)) (by kernel_rfl) #[true, true, false, false, false, false, false] (by kernel_rfl) ?_
    refine At.take (S' := ⟨fr 23 [(1, (vP g1 0)), (2, .p 1 0), (4, (vP g49 0)), (18, .agg [(vI 0), (vF 82), (vF 79)]), (19, (vP g49 1)), (20, (vF 82))], [.dead, .c [(vI 0), .v (.nilFunc), .v (.nilFunc)] 76]⟩) (PhiLe.refl 0 _) (PanOk.then PanOk.body) 2 rfl (by kernel_rfl) (by kernel_rfl) (by kernel_rfl) (by kernel_rfl) ((vF 82)) (by kernel_rfl) (fun _ _ => Val.ldB rfl hB52d (Nat.zero_lt_succ _) 1 1 (by omega) (by kernel_rfl) ((vF 82)) (by kernel_rfl)) (by kernel_rfl) #[true, true, true, false, false, false, false] (by kernel_rfl) ?_
    refine At.take (S' := ⟨fr 23 [(1, (vP g1 0)), (2, .p 1 0), (4, (vP g49 0)), (18, .agg [(vI 0), (vF 82), (vF 79)]), (19, (vP g49 1)), (20, (vF 82)), (21, .agg (nV 3 s0 s1 s2 s3 mn mx))], [.dead, .c [(vI 0), .v (.nilFunc), .v (.nilFunc)] 76]⟩) (PhiLe.refl 0 _) (PanOk.then PanOk.body) 3 rfl (by kernel_rfl) (by kernel_rfl) (by kernel_rfl) (by kernel_rfl) (.agg (nV 3 s0 s1 s2 s3 mn mx)) (by kernel_rfl) (fun _ _ => Val.ldB rfl hB4d (Nat.zero_lt_succ _) 0 0 (by omega) (by kernel_rfl) (.agg (nV 3 s0 s1 s2 s3 mn mx)) (by kernel_rfl)) (by kernel_rfl) #[true, true, true, true, false, false, false] (by kernel_rfl) ?_
    refine At.any1 4 (by kernel_rfl) rfl #[true, true, true, true, true, false, false] (by kernel_rfl) ?_
    refine At.callV rfl (by kernel_rfl) 82 [] [] (by kernel_rfl) Try.func82 (by kernel_rfl) (by kernel_rfl) [.agg (nV 3 s0 s1 s2 s3 mn mx)] (by kernel_rfl) (by kernel_rfl) (isset_c Φ50 (⟨3, s0, s1, s2, s3, mn, mx⟩ : Nd) nw) ?_
    rintro Φ53 _ hle54 rfl
    have hB4 := hB4.mono hle54
    have hB52 := hB52.mono hle54
    refine ⟨⟨fr 23 [(1, (vP g1 0)), (2, .p 1 0), (4, (vP g49 0)), (18, .agg [(vI 0), (vF 82), (vF 79)]), (19, (vP g49 1)), (20, (vF 82)), (21, .agg (nV 3 s0 s1 s2 s3 mn mx)), (22, (vB (Nd.isset (⟨3, s0, s1, s2, s3, mn, mx⟩ : Nd))))], [.dead, .c [(vI 0), .v (.nilFunc), .v (.nilFunc)] 76]⟩, by kernel_rfl, by kernel_rfl, ?_⟩
    refine At.nil ?_
    refine At.then_normal ?_
    refine At.held hle54 ?_
    refine At.any1 5 (by kernel_rfl) rfl #[true, true, true, true, true, true, false] (by kernel_rfl) ?_
    refine At.runk 1 [] [] ⟨fr 23 [(1, (vP g1 0)), (2, .p 1 0), (4, (vP g49 0)), (18, .agg [(vI 0), (vF 82), (vF 79)]), (19, (vP g49 1)), (20, (vF 82)), (21, .agg (nV 3 s0 s1 s2 s3 mn mx)), (22, (vB (Nd.isset (⟨3, s0, s1, s2, s3, mn, mx⟩ : Nd))))], [.dead, .c [(vI 0), (vF 82), (vF 79)] 76]⟩ (by kernel_rfl) ?_
    refine At.nil ?_
    refine At.then_normal ?_
    refine At.held hle54 ?_
    refine At.take (S' := ⟨fr 23 [(1, (vP g1 0)), (2, .p 1 0), (3, (vB (Nd.isset (⟨3, s0, s1, s2, s3, mn, mx⟩ : Nd)))), (4, (vP g49 0)), (18, .agg [(vI 0), (vF 82), (vF 79)]), (19, (vP g49 1)), (20, (vF 82)), (21, .agg (nV 3 s0 s1 s2 s3 mn mx)), (22, (vB (Nd.isset (⟨3, s0, s1, s2, s3, mn, mx⟩ : Nd))))], [.dead, .c [(vI 0), (vF 82), (vF 79)] 76]⟩) hle54 (PanOk.then PanOk.body) 6 rfl (by kernel_rfl) (by kernel_rfl) (by kernel_rfl) (by kernel_rfl) ((vB (Nd.isset (⟨3, s0, s1, s2, s3, mn, mx⟩ : Nd)))) (by kernel_rfl) (fun _ _ => Val.ev rfl (by kernel_rfl) (by kernel_rfl)) (by kernel_rfl) #[true, true, true, true, true, true, true] (by kernel_rfl) ?_
    refine At.drawn_done (by kernel_rfl) ?_
    refine At.then_normal ?_
    refine At.ret_ ?_
    refine At.forget [1, 4, 18, 19, 20, 21, 22] 2 [] ⟨fr 23 [(2, .p 1 0), (3, (vB (Nd.isset (⟨3, s0, s1, s2, s3, mn, mx⟩ : Nd))))], [.dead, .c [(vI 0), (vF 82), (vF 79)] 76]⟩ (by kernel_rfl) (by kernel_rfl) (bleT rfl) ?_
    refine At.leaveX rfl [2, 3] 0 [] ⟨fr 23 [], []⟩ (0, 82, 79, (Nd.isset (⟨3, s0, s1, s2, s3, mn, mx⟩ : Nd))) (by kernel_rfl) (by kernel_rfl) (by kernel_rfl) (by kernel_rfl) (bleT rfl) (by kernel_rfl) (by kernel_rfl) ?_
    simp [kar, mayN, nulN, Nd.may_of]
  · refine At.forget [12] 2 [] ⟨fr 23 [(1, (vP g1 0)), (2, .p 1 0)], [.dead, .c [(vI 0), .v (.nilFunc), .v (.nilFunc)] 76]⟩ (by kernel_rfl) (by kernel_rfl) (bleT rfl) ?_
    refine At.region_draw (by kernel_rfl) 6 (by kernel_rfl) #[false, false, false, false, false, false] (by kernel_rfl) ?_
    have hB4d := hB4
    refine At.take (S' := ⟨fr 23 [(1, (vP g1 0)), (2, .p 1 0), (15, (vP g1 0))], [.dead, .c [(vI 0), .v (.nilFunc), .v (.nilFunc)] 76]⟩) (PhiLe.refl 0 _) (PanOk.then PanOk.body) 1 rfl (by kernel_rfl) (by kernel_rfl) (by kernel_rfl) (by kernel_rfl) ((vP g1 0)) (by kernel_rfl) (fun _ _ => Val.ev rfl (by kernel_rfl) (by kernel_rfl)) (by kernel_rfl) #[false, true, false, false, false, false] (by kernel_rfl) ?_
    refine At.take (S' := ⟨fr 23 [(1, (vP g1 0)), (2, .p 1 0), (15, (vP g1 0)), (16, (vI 4))], [.dead, .c [(vI 0), .v (.nilFunc), .v (.nilFunc)] 76]⟩) (PhiLe.refl 0 _) (PanOk.then PanOk.body) 2 rfl (by kernel_rfl) (by kernel_rfl) (by kernel_rfl) (by kernel_rfl) ((vI 4)) (by kernel_rfl) (fun _ _ => Val.ldB rfl hB4d (Nat.zero_lt_succ _) 0 0 (by omega) (by kernel_rfl) ((vI 4)) (by kernel_rfl)) (by kernel_rfl) #[false, true, true, false, false, false] (by kernel_rfl) ?_
    refine At.any2 0 4 (by kernel_rfl) rfl rfl #[true, true, true, false, false, false] #[false, true, true, false, true, false] (by kernel_rfl) (by kernel_rfl) ?_ ?_
    · refine At.callV rfl (by kernel_rfl) 53 [] [] (by kernel_rfl) Try.func53 (by kernel_rfl) (by kernel_rfl) [] (by kernel_rfl) (by kernel_rfl) (kinds_c Φ2) ?_
      rintro Φ55 ⟨⟩ hle56 -
      have hB4 := hB4.mono hle56
      refine ⟨⟨fr 23 [(1, (vP g1 0)), (2, .p 1 0), (14, kindsV), (15, (vP g1 0)), (16, (vI 4))], [.dead, .c [(vI 0), .v (.nilFunc), .v (.nilFunc)] 76]⟩, by kernel_rfl, by kernel_rfl, ?_⟩
      refine At.nil ?_
      refine At.then_normal ?_
      refine At.held hle56 ?_
      refine At.take (S' := ⟨fr 23 [(1, (vP g1 0)), (2, .p 1 0), (14, kindsV), (15, (vP g1 0)), (16, (vI 4)), (17, .agg [(vI 2), (vF 81), (vF 83)])], [.dead, .c [(vI 0), .v (.nilFunc), .v (.nilFunc)] 76]⟩) hle56 (PanOk.then PanOk.body) 3 rfl (by kernel_rfl) (by kernel_rfl) (by kernel_rfl) (by kernel_rfl) (.agg [(vI 2), (vF 81), (vF 83)]) (by kernel_rfl) (fun _ _ => Val.ev rfl (by kernel_rfl) (by kernel_rfl)) (by kernel_rfl) #[true, true, true, true, false, false] (by kernel_rfl) ?_
      refine At.any1 4 (by kernel_rfl) rfl #[true, true, true, true, true, false] (by kernel_rfl) ?_
      refine At.runk 1 [] [] ⟨fr 23 [(1, (vP g1 0)), (2, .p 1 0), (4, .p 2 0), (14, kindsV), (15, (vP g1 0)), (16, (vI 4)), (17, .agg [(vI 2), (vF 81), (vF 83)])], [.dead, .c [(vI 0), .v (.nilFunc), .v (.nilFunc)] 76, .c [(vI 0), .v (.nilFunc), .v (.nilFunc)] 76]⟩ (by kernel_rfl) ?_
      refine At.nil ?_
      refine At.then_normal ?_
      refine At.held hle56 ?_
      refine At.any1 5 (by kernel_rfl) rfl #[true, true, true, true, true, true] (by kernel_rfl) ?_
      refine At.runk 1 [] [] ⟨fr 23 [(1, (vP g1 0)), (2, .p 1 0), (4, .p 2 0), (14, kindsV), (15, (vP g1 0)), (16, (vI 4)), (17, .agg [(vI 2), (vF 81), (vF 83)])], [.dead, .c [(vI 0), .v (.nilFunc), .v (.nilFunc)] 76, .c [(vI 2), (vF 81), (vF 83)] 76]⟩ (by kernel_rfl) ?_
      refine At.nil ?_
      refine At.then_normal ?_
      refine At.held hle56 ?_
      refine At.drawn_done (by kernel_rfl) ?_
      refine At.then_normal ?_
      refine At.seq ?_
      refine At.freezeC 2 [.int .i64 2, .func (.func 81) #[] #[], .func (.func 83) #[] #[]] rfl rfl (bleT rfl) (bleT rfl) (fun _ => by kernel_rfl) (fun _ => by kernel_rfl) ?_
      intro g57 Φ58 hle59 hB60
      have hB4 := hB4.mono hle59
      refine ⟨⟨fr 23 [(1, (vP g1 0)), (2, .p 1 0), (4, (vP g57 0)), (14, kindsV), (15, (vP g1 0)), (16, (vI 4)), (17, .agg [(vI 2), (vF 81), (vF 83)])], [.dead, .c [(vI 0), .v (.nilFunc), .v (.nilFunc)] 76, .dead]⟩, by kernel_rfl, ?_⟩
      refine At.forget [14, 15, 16, 17] 2 [] ⟨fr 23 [(1, (vP g1 0)), (2, .p 1 0), (4, (vP g57 0))], [.dead, .c [(vI 0), .v (.nilFunc), .v (.nilFunc)] 76]⟩ (by kernel_rfl) (by kernel_rfl) (bleT rfl) ?_
      refine At.region_draw (by kernel_rfl) 7 (by kernel_rfl) #[false, false, false, false, false, false, false] (by kernel_rfl) ?_
      have hB4d := hB4
      have hB60d := hB60
      refine At.take (S' := ⟨fr 23 [(1, (vP g1 0)), (2, .p 1 0), (4, (vP g57 0)), (18, .agg [(vI 2), (vF 81), (vF 83)])], [.dead, .c [(vI 0), .v (.nilFunc), .v (.nilFunc)] 76]⟩) (PhiLe.refl 0 _) (PanOk.then PanOk.body) 0 rfl (by kernel_rfl) (by kernel_rfl) (by kernel_rfl) (by kernel_rfl) (.agg [(vI 2), (vF 81), (vF 83)]) (by kernel_rfl) (fun _ _ => Val.ldB rfl hB60d (Nat.zero_lt_succ _) 0 0 (by omega) (by kernel_rfl) (.agg [(vI 2), (vF 81), (vF 83)]) (by kernel_rfl)) (by kernel_rfl) #[true, false, false, false, false, false, false] (by kernel_rfl) ?_
      refine At.take (S' := ⟨fr 23 [(1, (vP g1 0)), (2, .p 1 0), (4, (vP g57 0)), (18, .agg [(vI 2), (vF 81), (vF 83)]), (19, (vP g57 1))], [.dead, .c [(vI 0), .v (.nilFunc), .v (.nilFunc)] 76]⟩) (PhiLe.refl 0 _) (PanOk.then PanOk.body) 1 rfl (by kernel_rfl) (by kernel_rfl) (by kernel_rfl) (by kernel_rfl) ((vP g57 1)) (by kernel_rfl) (fun _ _ => Val.ev rfl (by kernel_rfl) (by kernel_rfl)) (by kernel_rfl) #[true, true, false, false, false, false, false] (by kernel_rfl) ?_
      refine At.take (S' := ⟨fr 23 [(1, (vP g1 0)), (2, .p 1 0), (4, (vP g57 0)), (18, .agg [(vI 2), (vF 81), (vF 83)]), (19, (vP g57 1)), (20, (vF 81))], [.dead, .c [(vI 0), .v (.nilFunc), .v (.nilFunc)] 76]⟩) (PhiLe.refl 0 _) (PanOk.then PanOk.body) 2 rfl (by kernel_rfl) (by kernel_rfl) (by kernel_rfl) (by kernel_rfl) ((vF 81)) (by kernel_rfl) (fun _ _ => Val.ldB rfl hB60d (Nat.zero_lt_succ _) 1 1 (by omega) (by kernel_rfl) ((vF 81)) (by kernel_rfl)) (by kernel_rfl) #[true, true, true, false, false, false, false] (by kernel_rfl) ?_
      refine At.take (S' := ⟨fr 23 [(1, (vP g1 0)), (2, .p 1 0), (4, (vP g57 0)), (18, .agg [(vI 2), (vF 81), (vF 83)]), (19, (vP g57 1)), (20, (vF 81)), (21, .agg (nV 4 s0 s1 s2 s3 mn mx))], [.dead, .c [(vI 0), .v (.nilFunc), .v (.nilFunc)] 76]⟩) (PhiLe.refl 0 _) (PanOk.then PanOk.body) 3 rfl (by kernel_rfl) (by kernel_rfl) (by kernel_rfl) (by kernel_rfl) (.agg (nV 4 s0 s1 s2 s3 mn mx)) (by kernel_rfl) (fun _ _ => Val.ldB rfl hB4d (Nat.zero_lt_succ _) 0 0 (by omega) (by kernel_rfl) (.agg (nV 4 s0 s1 s2 s3 mn mx)) (by kernel_rfl)) (by kernel_rfl) #[true, true, true, true, false, false, false] (by kernel_rfl) ?_
      refine At.any1 4 (by kernel_rfl) rfl #[true, true, true, true, true, false, false] (by kernel_rfl) ?_
      refine At.callV rfl (by kernel_rfl) 81 [] [] (by kernel_rfl) Try.func81 (by kernel_rfl) (by kernel_rfl) [.agg (nV 4 s0 s1 s2 s3 mn mx)] (by kernel_rfl) (by kernel_rfl) (plain_c Φ58 (⟨4, s0, s1, s2, s3, mn, mx⟩ : Nd)) ?_
      rintro Φ61 _ hle62 rfl
      have hB4 := hB4.mono hle62
      have hB60 := hB60.mono hle62
      refine ⟨⟨fr 23 [(1, (vP g1 0)), (2, .p 1 0), (4, (vP g57 0)), (18, .agg [(vI 2), (vF 81), (vF 83)]), (19, (vP g57 1)), (20, (vF 81)), (21, .agg (nV 4 s0 s1 s2 s3 mn mx)), (22, (vB (Nd.plain (⟨4, s0, s1, s2, s3, mn, mx⟩ : Nd))))], [.dead, .c [(vI 0), .v (.nilFunc), .v (.nilFunc)] 76]⟩, by kernel_rfl, by kernel_rfl, ?_⟩
      refine At.nil ?_
      refine At.then_normal ?_
      refine At.held hle62 ?_
      refine At.any1 5 (by kernel_rfl) rfl #[true, true, true, true, true, true, false] (by kernel_rfl) ?_
      refine At.runk 1 [] [] ⟨fr 23 [(1, (vP g1 0)), (2, .p 1 0), (4, (vP g57 0)), (18, .agg [(vI 2), (vF 81), (vF 83)]), (19, (vP g57 1)), (20, (vF 81)), (21, .agg (nV 4 s0 s1 s2 s3 mn mx)), (22, (vB (Nd.plain (⟨4, s0, s1, s2, s3, mn, mx⟩ : Nd))))], [.dead, .c [(vI 2), (vF 81), (vF 83)] 76]⟩ (by kernel_rfl) ?_
      refine At.nil ?_
      refine At.then_normal ?_
      refine At.held hle62 ?_
      refine At.take (S' := ⟨fr 23 [(1, (vP g1 0)), (2, .p 1 0), (3, (vB (Nd.plain (⟨4, s0, s1, s2, s3, mn, mx⟩ : Nd)))), (4, (vP g57 0)), (18, .agg [(vI 2), (vF 81), (vF 83)]), (19, (vP g57 1)), (20, (vF 81)), (21, .agg (nV 4 s0 s1 s2 s3 mn mx)), (22, (vB (Nd.plain (⟨4, s0, s1, s2, s3, mn, mx⟩ : Nd))))], [.dead, .c [(vI 2), (vF 81), (vF 83)] 76]⟩) hle62 (PanOk.then PanOk.body) 6 rfl (by kernel_rfl) (by kernel_rfl) (by kernel_rfl) (by kernel_rfl) ((vB (Nd.plain (⟨4, s0, s1, s2, s3, mn, mx⟩ : Nd)))) (by kernel_rfl) (fun _ _ => Val.ev rfl (by kernel_rfl) (by kernel_rfl)) (by kernel_rfl) #[true, true, true, true, true, true, true] (by kernel_rfl) ?_
      refine At.drawn_done (by kernel_rfl) ?_
      refine At.then_normal ?_
      refine At.ret_ ?_
      refine At.forget [1, 4, 18, 19, 20, 21, 22] 2 [] ⟨fr 23 [(2, .p 1 0), (3, (vB (Nd.plain (⟨4, s0, s1, s2, s3, mn, mx⟩ : Nd))))], [.dead, .c [(vI 2), (vF 81), (vF 83)] 76]⟩ (by kernel_rfl) (by kernel_rfl) (bleT rfl) ?_
      refine At.leaveX rfl [2, 3] 0 [] ⟨fr 23 [], []⟩ (2, 81, 83, (Nd.plain (⟨4, s0, s1, s2, s3, mn, mx⟩ : Nd))) (by kernel_rfl) (by kernel_rfl) (by kernel_rfl) (by kernel_rfl) (bleT rfl) (by kernel_rfl) (by kernel_rfl) ?_
      simp [kar, mayN, nulN, Nd.may_of]
    refine At.runk 1 [] [] ⟨fr 23 [(1, (vP g1 0)), (2, .p 1 0), (4, .p 2 0), (15, (vP g1 0)), (16, (vI 4))], [.dead, .c [(vI 0), .v (.nilFunc), .v (.nilFunc)] 76, .c [(vI 0), .v (.nilFunc), .v (.nilFunc)] 76]⟩ (by kernel_rfl) ?_
    refine At.nil ?_
    refine At.then_normal ?_
    refine At.held (PhiLe.refl 0 _) ?_
    refine At.any1 0 (by kernel_rfl) rfl #[true, true, true, false, true, false] (by kernel_rfl) ?_
    refine At.callV rfl (by kernel_rfl) 53 [] [] (by kernel_rfl) Try.func53 (by kernel_rfl) (by kernel_rfl) [] (by kernel_rfl) (by kernel_rfl) (kinds_c Φ2) ?_
    rintro Φ63 ⟨⟩ hle64 -
    have hB4 := hB4.mono hle64
    refine ⟨⟨fr 23 [(1, (vP g1 0)), (2, .p 1 0), (4, .p 2 0), (14, kindsV), (15, (vP g1 0)), (16, (vI 4))], [.dead, .c [(vI 0), .v (.nilFunc), .v (.nilFunc)] 76, .c [(vI 0), .v (.nilFunc), .v (.nilFunc)] 76]⟩, by kernel_rfl, by kernel_rfl, ?_⟩
    refine At.nil ?_
    refine At.then_normal ?_
    refine At.held hle64 ?_
    refine At.take (S' := ⟨fr 23 [(1, (vP g1 0)), (2, .p 1 0), (4, .p 2 0), (14, kindsV), (15, (vP g1 0)), (16, (vI 4)), (17, .agg [(vI 2), (vF 81), (vF 83)])], [.dead, .c [(vI 0), .v (.nilFunc), .v (.nilFunc)] 76, .c [(vI 0), .v (.nilFunc), .v (.nilFunc)] 76]⟩) hle64 (PanOk.then PanOk.body) 3 rfl (by kernel_rfl) (by kernel_rfl) (by kernel_rfl) (by kernel_rfl) (.agg [(vI 2), (vF 81), (vF 83)]) (by kernel_rfl) (fun _ _ => Val.ev rfl (by kernel_rfl) (by kernel_rfl)) (by kernel_rfl) #[true, true, true, true, true, false] (by kernel_rfl) ?_
    refine At.any1 5 (by kernel_rfl) rfl #[true, true, true, true, true, true] (by kernel_rfl) ?_
    refine At.runk 1 [] [] ⟨fr 23 [(1, (vP g1 0)), (2, .p 1 0), (4, .p 2 0), (14, kindsV), (15, (vP g1 0)), (16, (vI 4)), (17, .agg [(vI 2), (vF 81), (vF 83)])], [.dead, .c [(vI 0), .v (.nilFunc), .v (.nilFunc)] 76, .c [(vI 2), (vF 81), (vF 83)] 76]⟩ (by kernel_rfl) ?_
    refine At.nil ?_
    refine At.then_normal ?_
    refine At.held hle64 ?_
    refine At.drawn_done (by kernel_rfl) ?_
    refine At.then_normal ?_
    refine At.seq ?_
    refine At.freezeC 2 [.int .i64 2, .func (.func 81) #[] #[], .func (.func 83) #[] #[]] rfl rfl (bleT rfl) (bleT rfl) (fun _ => by kernel_rfl) (fun _ => by kernel_rfl) ?_
    intro g65 Φ66 hle67 hB68
    have hB4 := hB4.mono hle67
    refine ⟨⟨fr 23 [(1, (vP g1 0)), (2, .p 1 0), (4, (vP g65 0)), (14, kindsV), (15, (vP g1 0)), (16, (vI 4)), (17, .agg [(vI 2), (vF 81), (vF 83)])], [.dead, .c [(vI 0), .v (.nilFunc), .v (.nilFunc)] 76, .dead]⟩, by kernel_rfl, ?_⟩
    refine At.forget [14, 15, 16, 17] 2 [] ⟨fr 23 [(1, (vP g1 0)), (2, .p 1 0), (4, (vP g65 0))], [.dead, .c [(vI 0), .v (.nilFunc), .v (.nilFunc)] 76]⟩ (by kernel_rfl) (by kernel_rfl) (bleT rfl) ?_
    refine At.region_draw (by kernel_rfl) 7 (by kernel_rfl) #[false, false, false, false, false, false, false] (by kernel_rfl) ?_
    have hB4d := hB4
    have hB68d := hB68
    refine At.take (S' := ⟨fr 23 [(1, (vP g1 0)), (2, .p 1 0), (4, (vP g65 0)), (18, .agg [(vI 2), (vF 81), (vF 83)])], [.dead, .c [(vI 0), .v (.nilFunc), .v (.nilFunc)] 76]⟩) (PhiLe.refl 0 _) (PanOk.then PanOk.body) 0 rfl (by kernel_rfl) (by kernel_rfl) (by kernel_rfl) (by kernel_rfl) (.agg [(vI 2), (vF 81), (vF 83)]) (by kernel_rfl) (fun _ _ => Val.ldB rfl hB68d (Nat.zero_lt_succ _) 0 0 (by omega) (by kernel_rfl) (.agg [(vI 2), (vF 81), (vF 83)]) (by kernel_rfl)) (by kernel_rfl) #[true, false, false, false, false, false, false] (by kernel_rfl) ?_
    refine At.take (S' := ⟨fr 23 [(1, (vP g1 0)), (2, .p 1 0), (4, (vP g65 0)), (18, .agg [(vI 2), (vF 81), (vF 83)]), (19, (vP g65 1))], [.dead, .c [(vI 0), .v (.nilFunc), .v (.nilFunc)] 76]⟩) (PhiLe.refl 0 _) (PanOk.then PanOk.body) 1 rfl (by kernel_rfl) (by kernel_rfl) (by kernel_rfl) (by kernel_rfl) ((vP g65 1)) (by kernel_rfl) (fun _ _ => Val.ev rfl (by kernel_rfl) (by kernel_rfl)) (by kernel_rfl) #[true, true, false, false, false, false, false] (by kernel_rfl) ?_
    refine At.take (S' := ⟨fr 23 [(1, (vP g1 0)), (2, .p 1 0), (4, (vP g65 0)), (18, .agg [(vI 2), (vF 81), (vF 83)]), (19, (vP g65 1)), (20, (vF 81))], [.dead, .c [(vI 0), .v (.nilFunc), .v (.nilFunc)] 76]⟩) (PhiLe.refl 0 _) (PanOk.then PanOk.body) 2 rfl (by kernel_rfl) (by kernel_rfl) (by kernel_rfl) (by kernel_rfl) ((vF 81)) (by kernel_rfl) (fun _ _ => Val.ldB rfl hB68d (Nat.zero_lt_succ _) 1 1 (by omega) (by kernel_rfl) ((vF 81)) (by kernel_rfl)) (by kernel_rfl) #[true, true, true, false, false, false, false] (by kernel_rfl) ?_
    refine At.take (S' := ⟨fr 23 [(1, (vP g1 0)), (2, .p 1 0), (4, (vP g65 0)), (18, .agg [(vI 2), (vF 81), (vF 83)]), (19, (vP g65 1)), (20, (vF 81)), (21, .agg (nV 4 s0 s1 s2 s3 mn mx))], [.dead, .c [(vI 0), .v (.nilFunc), .v (.nilFunc)] 76]⟩) (PhiLe.refl 0 _) (PanOk.then PanOk.body) 3 rfl (by kernel_rfl) (by kernel_rfl) (by kernel_rfl) (by kernel_rfl) (.agg (nV 4 s0 s1 s2 s3 mn mx)) (by kernel_rfl) (fun _ _ => Val.ldB rfl hB4d (Nat.zero_lt_succ _) 0 0 (by omega) (by kernel_rfl) (.agg (nV 4 s0 s1 s2 s3 mn mx)) (by kernel_rfl)) (by kernel_rfl) #[true, true, true, true, false, false, false] (by kernel_rfl) ?_
    refine At.any1 4 (by kernel_rfl) rfl #[true, true, true, true, true, false, false] (by kernel_rfl) ?_
    refine At.callV rfl (by kernel_rfl) 81 [] [] (by kernel_rfl) Try.func81 (by kernel_rfl) (by kernel_rfl) [.agg (nV 4 s0 s1 s2 s3 mn mx)] (by kernel_rfl) (by kernel_rfl) (plain_c Φ66 (⟨4, s0, s1, s2, s3, mn, mx⟩ : Nd)) ?_
    rintro Φ69 _ hle70 rfl
    have hB4 := hB4.mono hle70
    have hB68 := hB68.mono hle70
    refine ⟨⟨fr 23 [(1, (vP g1 0)), (2, .p 1 0), (4, (vP g65 0)), (18, .agg [(vI 2), (vF 81), (vF 83)]), (19, (vP g65 1)), (20, (vF 81)), (21, .agg (nV 4 s0 s1 s2 s3 mn mx)), (22, (vB (Nd.plain (⟨4, s0, s1, s2, s3, mn, mx⟩ : Nd))))], [.dead, .c [(vI 0), .v (.nilFunc), .v (.nilFunc)] 76]⟩, by kernel_rfl, by kernel_rfl, ?_⟩
    refine At.nil ?_
    refine At.then_normal ?_
    refine At.held hle70 ?_
    refine At.any1 5 (by kernel_rfl) rfl #[true, true, true, true, true, true, false] (by kernel_rfl) ?_
    refine At.runk 1 [] [] ⟨fr 23 [(1, (vP g1 0)), (2, .p 1 0), (4, (vP g65 0)), (18, .agg [(vI 2), (vF 81), (vF 83)]), (19, (vP g65 1)), (20, (vF 81)), (21, .agg (nV 4 s0 s1 s2 s3 mn mx)), (22, (vB (Nd.plain (⟨4, s0, s1, s2, s3, mn, mx⟩ : Nd))))], [.dead, .c [(vI 2), (vF 81), (vF 83)] 76]⟩ (by kernel_rfl) ?_
    refine At.nil ?_
    refine At.then_normal ?_
    refine At.held hle70 ?_
    refine At.take (S' := ⟨fr 23 [(1, (vP g1 0)), (2, .p 1 0), (3, (vB (Nd.plain (⟨4, s0, s1, s2, s3, mn, mx⟩ : Nd)))), (4, (vP g65 0)), (18, .agg [(vI 2), (vF 81), (vF 83)]), (19, (vP g65 1)), (20, (vF 81)), (21, .agg (nV 4 s0 s1 s2 s3 mn mx)), (22, (vB (Nd.plain (⟨4, s0, s1, s2, s3, mn, mx⟩ : Nd))))], [.dead, .c [(vI 2), (vF 81), (vF 83)] 76]⟩) hle70 (PanOk.then PanOk.body) 6 rfl (by kernel_rfl) (by kernel_rfl) (by kernel_rfl) (by kernel_rfl) ((vB (Nd.plain (⟨4, s0, s1, s2, s3, mn, mx⟩ : Nd)))) (by kernel_rfl) (fun _ _ => Val.ev rfl (by kernel_rfl) (by kernel_rfl)) (by kernel_rfl) #[true, true, true, true, true, true, true] (by kernel_rfl) ?_
    refine At.drawn_done (by kernel_rfl) ?_
    refine At.then_normal ?_
    refine At.ret_ ?_
    refine At.forget [1, 4, 18, 19, 20, 21, 22] 2 [] ⟨fr 23 [(2, .p 1 0), (3, (vB (Nd.plain (⟨4, s0, s1, s2, s3, mn, mx⟩ : Nd))))], [.dead, .c [(vI 2), (vF 81), (vF 83)] 76]⟩ (by kernel_rfl) (by kernel_rfl) (bleT rfl) ?_
    refine At.leaveX rfl [2, 3] 0 [] ⟨fr 23 [], []⟩ (2, 81, 83, (Nd.plain (⟨4, s0, s1, s2, s3, mn, mx⟩ : Nd))) (by kernel_rfl) (by kernel_rfl) (by kernel_rfl) (by kernel_rfl) (bleT rfl) (by kernel_rfl) (by kernel_rfl) ?_
    simp [kar, mayN, nulN, Nd.may_of]
  · refine At.forget [12] 2 [] ⟨fr 23 [(1, (vP g1 0)), (2, .p 1 0)], [.dead, .c [(vI 0), .v (.nilFunc), .v (.nilFunc)] 76]⟩ (by kernel_rfl) (by kernel_rfl) (bleT rfl) ?_
    refine At.region_draw (by kernel_rfl) 6 (by kernel_rfl) #[false, false, false, false, false, false] (by kernel_rfl) ?_
    have hB4d := hB4
    refine At.take (S' := ⟨fr 23 [(1, (vP g1 0)), (2, .p 1 0), (15, (vP g1 0))], [.dead, .c [(vI 0), .v (.nilFunc), .v (.nilFunc)] 76]⟩) (PhiLe.refl 0 _) (PanOk.then PanOk.body) 1 rfl (by kernel_rfl) (by kernel_rfl) (by kernel_rfl) (by kernel_rfl) ((vP g1 0)) (by kernel_rfl) (fun _ _ => Val.ev rfl (by kernel_rfl) (by kernel_rfl)) (by kernel_rfl) #[false, true, false, false, false, false] (by kernel_rfl) ?_
    refine At.take (S' := ⟨fr 23 [(1, (vP g1 0)), (2, .p 1 0), (15, (vP g1 0)), (16, (vI 5))], [.dead, .c [(vI 0), .v (.nilFunc), .v (.nilFunc)] 76]⟩) (PhiLe.refl 0 _) (PanOk.then PanOk.body) 2 rfl (by kernel_rfl) (by kernel_rfl) (by kernel_rfl) (by kernel_rfl) ((vI 5)) (by kernel_rfl) (fun _ _ => Val.ldB rfl hB4d (Nat.zero_lt_succ _) 0 0 (by omega) (by kernel_rfl) ((vI 5)) (by kernel_rfl)) (by kernel_rfl) #[false, true, true, false, false, false] (by kernel_rfl) ?_
    refine At.any2 0 4 (by kernel_rfl) rfl rfl #[true, true, true, false, false, false] #[false, true, true, false, true, false] (by kernel_rfl) (by kernel_rfl) ?_ ?_
    · refine At.callV rfl (by kernel_rfl) 53 [] [] (by kernel_rfl) Try.func53 (by kernel_rfl) (by kernel_rfl) [] (by kernel_rfl) (by kernel_rfl) (kinds_c Φ2) ?_
      rintro Φ71 ⟨⟩ hle72 -
      have hB4 := hB4.mono hle72
      refine ⟨⟨fr 23 [(1, (vP g1 0)), (2, .p 1 0), (14, kindsV), (15, (vP g1 0)), (16, (vI 5))], [.dead, .c [(vI 0), .v (.nilFunc), .v (.nilFunc)] 76]⟩, by kernel_rfl, by kernel_rfl, ?_⟩
      refine At.nil ?_
      refine At.then_normal ?_
      refine At.held hle72 ?_
      refine At.take (S' := ⟨fr 23 [(1, (vP g1 0)), (2, .p 1 0), (14, kindsV), (15, (vP g1 0)), (16, (vI 5)), (17, .agg [(vI 2), (vF 81), (vF 84)])], [.dead, .c [(vI 0), .v (.nilFunc), .v (.nilFunc)] 76]⟩) hle72 (PanOk.then PanOk.body) 3 rfl (by kernel_rfl) (by kernel_rfl) (by kernel_rfl) (by kernel_rfl) (.agg [(vI 2), (vF 81), (vF 84)]) (by kernel_rfl) (fun _ _ => Val.ev rfl (by kernel_rfl) (by kernel_rfl)) (by kernel_rfl) #[true, true, true, true, false, false] (by kernel_rfl) ?_
      refine At.any1 4 (by kernel_rfl) rfl #[true, true, true, true, true, false] (by kernel_rfl) ?_
      refine At.runk 1 [] [] ⟨fr 23 [(1, (vP g1 0)), (2, .p 1 0), (4, .p 2 0), (14, kindsV), (15, (vP g1 0)), (16, (vI 5)), (17, .agg [(vI 2), (vF 81), (vF 84)])], [.dead, .c [(vI 0), .v (.nilFunc), .v (.nilFunc)] 76, .c [(vI 0), .v (.nilFunc), .v (.nilFunc)] 76]⟩ (by kernel_rfl) ?_
      refine At.nil ?_
      refine At.then_normal ?_
      refine At.held hle72 ?_
      refine At.any1 5 (by kernel_rfl) rfl #[true, true, true, true, true, true] (by kernel_rfl) ?_
      refine At.runk 1 [] [] ⟨fr 23 [(1, (vP g1 0)), (2, .p 1 0), (4, .p 2 0), (14, kindsV), (15, (vP g1 0)), (16, (vI 5)), (17, .agg [(vI 2), (vF 81), (vF 84)])], [.dead, .c [(vI 0), .v (.nilFunc), .v (.nilFunc)] 76, .c [(vI 2), (vF 81), (vF 84)] 76]⟩ (by kernel_rfl) ?_
      refine At.nil ?_
      refine At.then_normal ?_
      refine At.held hle72 ?_
      refine At.drawn_done (by kernel_rfl) ?_
      refine At.then_normal ?_
      refine At.seq ?_
      refine At.freezeC 2 [.int .i64 2, .func (.func 81) #[] #[], .func (.func 84) #[] #[]] rfl rfl (bleT rfl) (bleT rfl) (fun _ => by kernel_rfl) (fun _ => by kernel_rfl) ?_
      intro g73 Φ74 hle75 hB76
      have hB4 := hB4.mono hle75
      refine ⟨⟨fr 23 [(1, (vP g1 0)), (2, .p 1 0), (4, (vP g73 0)), (14, kindsV), (15, (vP g1 0)), (16, (vI 5)), (17, .agg [(vI 2), (vF 81), (vF 84)])], [.dead, .c [(vI 0), .v (.nilFunc), .v (.nilFunc)] 76, .dead]⟩, by kernel_rfl, ?_⟩
      refine At.forget [14, 15, 16, 17] 2 [] ⟨fr 23 [(1, (vP g1 0)), (2, .p 1 0), (4, (vP g73 0))], [.dead, .c [(vI 0), .v (.nilFunc), .v (.nilFunc)] 76]⟩ (by kernel_rfl) (by kernel_rfl) (bleT rfl) ?_
      refine At.region_draw (by kernel_rfl) 7 (by kernel_rfl) #[false, false, false, false, false, false, false] (by kernel_rfl) ?_
      have hB4d := hB4
      have hB76d := hB76
      refine At.take (S' := ⟨fr 23 [(1, (vP g1 0)), (2, .p 1 0), (4, (vP g73 0)), (18, .agg [(vI 2), (vF 81), (vF 84)])], [.dead, .c [(vI 0), .v (.nilFunc), .v (.nilFunc)] 76]⟩) (PhiLe.refl 0 _) (PanOk.then PanOk.body) 0 rfl (by kernel_rfl) (by kernel_rfl) (by kernel_rfl) (by kernel_rfl) (.agg [(vI 2), (vF 81), (vF 84)]) (by kernel_rfl) (fun _ _ => Val.ldB rfl hB76d (Nat.zero_lt_succ _) 0 0 (by omega) (by kernel_rfl) (.agg [(vI 2), (vF 81), (vF 84)]) (by kernel_rfl)) (by kernel_rfl) #[true, false, false, false, false, false, false] (by kernel_rfl) ?_
      refine At.take (S' := ⟨fr 23 [(1, (vP g1 0)), (2, .p 1 0), (4, (vP g73 0)), (18, .agg [(vI 2), (vF 81), (vF 84)]), (19, (vP g73 1))], [.dead, .c [(vI 0), .v (.nilFunc), .v (.nilFunc)] 76]⟩) (PhiLe.refl 0 _) (PanOk.then PanOk.body) 1 rfl (by kernel_rfl) (by kernel_rfl) (by kernel_rfl) (by kernel_rfl) ((vP g73 1)) (by kernel_rfl) (fun _ _ => Val.ev rfl (by kernel_rfl) (by kernel_rfl)) (by kernel_rfl) #[true, true, false, false, false, false, false] (by kernel_rfl) ?_
      refine At.take (S' := ⟨fr 23 [(1, (vP g1 0)), (2, .p 1 0), (4, (vP g73 0)), (18, .agg [(vI 2), (vF 81), (vF 84)]), (19, (vP g73 1)), (20, (vF 81))], [.dead, .c [(vI 0), .v (.nilFunc), .v (.nilFunc)] 76]⟩) (PhiLe.refl 0 _) (PanOk.then PanOk.body) 2 rfl (by kernel_rfl) (by kernel_rfl) (by kernel_rfl) (by kernel_rfl) ((vF 81)) (by kernel_rfl) (fun _ _ => Val.ldB rfl hB76d (Nat.zero_lt_succ _) 1 1 (by omega) (by kernel_rfl) ((vF 81)) (by kernel_rfl)) (by kernel_rfl) #[true, true, true, false, false, false, false] (by kernel_rfl) ?_
      refine At.take (S' := ⟨fr 23 [(1, (vP g1 0)), (2, .p 1 0), (4, (vP g73 0)), (18, .agg [(vI 2), (vF 81), (vF 84)]), (19, (vP g73 1)), (20, (vF 81)), (21, .agg (nV 5 s0 s1 s2 s3 mn mx))], [.dead, .c [(vI 0), .v (.nilFunc), .v (.nilFunc)] 76]⟩) (PhiLe.refl 0 _) (PanOk.then PanOk.body) 3 rfl (by kernel_rfl) (by kernel_rfl) (by kernel_rfl) (by kernel_rfl) (.agg (nV 5 s0 s1 s2 s3 mn mx)) (by kernel_rfl) (fun _ _ => Val.ldB rfl hB4d (Nat.zero_lt_succ _) 0 0 (by omega) (by kernel_rfl) (.agg (nV 5 s0 s1 s2 s3 mn mx)) (by kernel_rfl)) (by kernel_rfl) #[true, true, true, true, false, false, false] (by kernel_rfl) ?_
      refine At.any1 4 (by kernel_rfl) rfl #[true, true, true, true, true, false, false] (by kernel_rfl) ?_
      refine At.callV rfl (by kernel_rfl) 81 [] [] (by kernel_rfl) Try.func81 (by kernel_rfl) (by kernel_rfl) [.agg (nV 5 s0 s1 s2 s3 mn mx)] (by kernel_rfl) (by kernel_rfl) (plain_c Φ74 (⟨5, s0, s1, s2, s3, mn, mx⟩ : Nd)) ?_
      rintro Φ77 _ hle78 rfl
      have hB4 := hB4.mono hle78
      have hB76 := hB76.mono hle78
      refine ⟨⟨fr 23 [(1, (vP g1 0)), (2, .p 1 0), (4, (vP g73 0)), (18, .agg [(vI 2), (vF 81), (vF 84)]), (19, (vP g73 1)), (20, (vF 81)), (21, .agg (nV 5 s0 s1 s2 s3 mn mx)), (22, (vB (Nd.plain (⟨5, s0, s1, s2, s3, mn, mx⟩ : Nd))))], [.dead, .c [(vI 0), .v (.nilFunc), .v (.nilFunc)] 76]⟩, by kernel_rfl, by kernel_rfl, ?_⟩
      refine At.nil ?_
      refine At.then_normal ?_
      refine At.held hle78 ?_
      refine At.any1 5 (by kernel_rfl) rfl #[true, true, true, true, true, true, false] (by kernel_rfl) ?_
      refine At.runk 1 [] [] ⟨fr 23 [(1, (vP g1 0)), (2, .p 1 0), (4, (vP g73 0)), (18, .agg [(vI 2), (vF 81), (vF 84)]), (19, (vP g73 1)), (20, (vF 81)), (21, .agg (nV 5 s0 s1 s2 s3 mn mx)), (22, (vB (Nd.plain (⟨5, s0, s1, s2, s3, mn, mx⟩ : Nd))))], [.dead, .c [(vI 2), (vF 81), (vF 84)] 76]⟩ (by kernel_rfl) ?_
      refine At.nil ?_
      refine At.then_normal ?_
      refine At.held hle78 ?_
      refine At.take (S' := ⟨fr 23 [(1, (vP g1 0)), (2, .p 1 0), (3, (vB (Nd.plain (⟨5, s0, s1, s2, s3, mn, mx⟩ : Nd)))), (4, (vP g73 0)), (18, .agg [(vI 2), (vF 81), (vF 84)]), (19, (vP g73 1)), (20, (vF 81)), (21, .agg (nV 5 s0 s1 s2 s3 mn mx)), (22, (vB (Nd.plain (⟨5, s0, s1, s2, s3, mn, mx⟩ : Nd))))], [.dead, .c [(vI 2), (vF 81), (vF 84)] 76]⟩) hle78 (PanOk.then PanOk.body) 6 rfl (by kernel_rfl) (by kernel_rfl) (by kernel_rfl) (by kernel_rfl) ((vB (Nd.plain (⟨5, s0, s1, s2, s3, mn, mx⟩ : Nd)))) (by kernel_rfl) (fun _ _ => Val.ev rfl (by kernel_rfl) (by kernel_rfl)) (by kernel_rfl) #[true, true, true, true, true, true, true] (by kernel_rfl) ?_
      refine At.drawn_done (by kernel_rfl) ?_
      refine At.then_normal ?_
      refine At.ret_ ?_
      refine At.forget [1, 4, 18, 19, 20, 21, 22] 2 [] ⟨fr 23 [(2, .p 1 0), (3, (vB (Nd.plain (⟨5, s0, s1, s2, s3, mn, mx⟩ : Nd))))], [.dead, .c [(vI 2), (vF 81), (vF 84)] 76]⟩ (by kernel_rfl) (by kernel_rfl) (bleT rfl) ?_
      refine At.leaveX rfl [2, 3] 0 [] ⟨fr 23 [], []⟩ (2, 81, 84, (Nd.plain (⟨5, s0, s1, s2, s3, mn, mx⟩ : Nd))) (by kernel_rfl) (by kernel_rfl) (by kernel_rfl) (by kernel_rfl) (bleT rfl) (by kernel_rfl) (by kernel_rfl) ?_
      simp [kar, mayN, nulN, Nd.may_of]
    refine At.runk 1 [] [] ⟨fr 23 [(1, (vP g1 0)), (2, .p 1 0), (4, .p 2 0), (15, (vP g1 0)), (16, (vI 5))], [.dead, .c [(vI 0), .v (.nilFunc), .v (.nilFunc)] 76, .c [(vI 0), .v (.nilFunc), .v (.nilFunc)] 76]⟩ (by kernel_rfl) ?_
    refine At.nil ?_
    refine At.then_normal ?_
    refine At.held (PhiLe.refl 0 _) ?_
    refine At.any1 0 (by kernel_rfl) rfl #[true, true, true, false, true, false] (by kernel_rfl) ?_
    refine At.callV rfl (by kernel_rfl) 53 [] [] (by kernel_rfl) Try.func53 (by kernel_rfl) (by kernel_rfl) [] (by kernel_rfl) (by kernel_rfl) (kinds_c Φ2) ?_
    rintro Φ79 ⟨⟩ hle80 -
    have hB4 := hB4.mono hle80
    refine ⟨⟨fr 23 [(1, (vP g1 0)), (2, .p 1 0), (4, .p 2 0), (14, kindsV), (15, (vP g1 0)), (16, (vI 5))], [.dead, .c [(vI 0), .v (.nilFunc), .v (.nilFunc)] 76, .c [(vI 0), .v (.nilFunc), .v (.nilFunc)] 76]⟩, by kernel_rfl, by kernel_rfl, ?_⟩
    refine At.nil ?_
    refine At.then_normal ?_
    refine At.held hle80 ?_
    refine At.take (S' := ⟨fr 23 [(1, (vP g1 0)), (2, .p 1 0), (4, .p 2 0), (14, kindsV), (15, (vP g1 0)), (16, (vI 5)), (17, .agg [(vI 2), (vF 81), (vF 84)])], [.dead, .c [(vI 0), .v (.nilFunc), .v (.nilFunc)] 76, .c [(vI 0), .v (.nilFunc), .v (.nilFunc)] 76]⟩) hle80 (PanOk.then PanOk.body) 3 rfl (by kernel_rfl) (by kernel_rfl) (by kernel_rfl) (by kernel_rfl) (.agg [(vI 2), (vF 81), (vF 84)]) (by kernel_rfl) (fun _ _ => Val.ev rfl (by kernel_rfl) (by kernel_rfl)) (by kernel_rfl) #[true, true, true, true, true, false] (by kernel_rfl) ?_
    refine At.any1 5 (by kernel_rfl) rfl #[true, true, true, true, true, true] (by kernel_rfl) ?_
    refine At.runk 1 [] [] ⟨fr 23 [(1, (vP g1 0)), (2, .p 1 0), (4, .p 2 0), (14, kindsV), (15, (vP g1 0)), (16, (vI 5)), (17, .agg [(vI 2), (vF 81), (vF 84)])], [.dead, .c [(vI 0), .v (.nilFunc), .v (.nilFunc)] 76, .c [(vI 2), (vF 81), (vF 84)] 76]⟩ (by kernel_rfl) ?_
    refine At.nil ?_
    refine At.then_normal ?_
    refine At.held hle80 ?_
    refine At.drawn_done (by kernel_rfl) ?_
    refine At.then_normal ?_
    refine At.seq ?_
    refine At.freezeC 2 [.int .i64 2, .func (.func 81) #[] #[], .func (.func 84) #[] #[]] rfl rfl (bleT rfl) (bleT rfl) (fun _ => by kernel_rfl) (fun _ => by kernel_rfl) ?_
    intro g81 Φ82 hle83 hB84
    have hB4 := hB4.mono hle83
    refine ⟨⟨fr 23 [(1, (vP g1 0)), (2, .p 1 0), (4, (vP g81 0)), (14, kindsV), (15, (vP g1 0)), (16, (vI 5)), (17, .agg [(vI 2), (vF 81), (vF 84)])], [.dead, .c [(vI 0), .v (.nilFunc), .v (.nilFunc)] 76, .dead]⟩, by kernel_rfl, ?_⟩
    refine At.forget [14, 15, 16, 17] 2 [] ⟨fr 23 [(1, (vP g1 0)), (2, .p 1 0), (4, (vP g81 0))], [.dead, .c [(vI 0), .v (.nilFunc), .v (.nilFunc)] 76]⟩ (by kernel_rfl) (by kernel_rfl) (bleT rfl) ?_
    refine At.region_draw (by kernel_rfl) 7 (by kernel_rfl) #[false, false, false, false, false, false, false] (by kernel_rfl) ?_
    have hB4d := hB4
    have hB84d := hB84
    refine At.take (S' := ⟨fr 23 [(1, (vP g1 0)), (2, .p 1 0), (4, (vP g81 0)), (18, .agg [(vI 2), (vF 81), (vF 84)])], [.dead, .c [(vI 0), .v (.nilFunc), .v (.nilFunc)] 76]⟩) (PhiLe.refl 0 _) (PanOk.then PanOk.body) 0 rfl (by kernel_rfl) (by kernel_rfl) (by kernel_rfl) (by kernel_rfl) (.agg [(vI 2), (vF 81), (vF 84)]) (by kernel_rfl) (fun _ _ => Val.ldB rfl hB84d (Nat.zero_lt_succ _) 0 0 (by omega) (by kernel_rfl) (.agg [(vI 2), (vF 81), (vF 84)]) (by kernel_rfl)) (by kernel_rfl) #[true, false, false, false, false, false, false] (by kernel_rfl) ?_
    refine At.take (S' := ⟨fr 23 [(1, (vP g1 0)), (2, .p 1 0), (4, (vP g81 0)), (18, .agg [(vI 2), (vF 81), (vF 84)]), (19, (vP g81 1))], [.dead, .c [(vI 0), .v (.nilFunc), .v (.nilFunc)] 76]⟩) (PhiLe.refl 0 _) (PanOk.then PanOk.body) 1 rfl (by kernel_rfl) (by kernel_rfl) (by kernel_rfl) (by kernel_rfl) ((vP g81 1)) (by kernel_rfl) (fun _ _ => Val.ev rfl (by kernel_rfl) (by kernel_rfl)) (by kernel_rfl) #[true, true, false, false, false, false, false] (by kernel_rfl) ?_
    refine At.take (S' := ⟨fr 23 [(1, (vP g1 0)), (2, .p 1 0), (4, (vP g81 0)), (18, .agg [(vI 2), (vF 81), (vF 84)]), (19, (vP g81 1)), (20, (vF 81))], [.dead, .c [(vI 0), .v (.nilFunc), .v (.nilFunc)] 76]⟩) (PhiLe.refl 0 _) (PanOk.then PanOk.body) 2 rfl (by kernel_rfl) (by kernel_rfl) (by kernel_rfl) (by kernel_rfl) ((vF 81)) (by kernel_rfl) (fun _ _ => Val.ldB rfl hB84d (Nat.zero_lt_succ _) 1 1 (by omega) (by kernel_rfl) ((vF 81)) (by kernel_rfl)) (by kernel_rfl) #[true, true, true, false, false, false, false] (by kernel_rfl) ?_
    refine At.take (S' := ⟨fr 23 [(1, (vP g1 0)), (2, .p 1 0), (4, (vP g81 0)), (18, .agg [(vI 2), (vF 81), (vF 84)]), (19, (vP g81 1)), (20, (vF 81)), (21, .agg (nV 5 s0 s1 s2 s3 mn mx))], [.dead, .c [(vI 0), .v (.nilFunc), .v (.nilFunc)] 76]⟩) (PhiLe.refl 0 _) (PanOk.then PanOk.body) 3 rfl (by kernel_rfl) (by kernel_rfl) (by kernel_rfl) (by kernel_rfl) (.agg (nV 5 s0 s1 s2 s3 mn mx)) (by kernel_rfl) (fun _ _ => Val.ldB rfl hB4d (Nat.zero_lt_succ _) 0 0 (by omega) (by kernel_rfl) (.agg (nV 5 s0 s1 s2 s3 mn mx)) (by kernel_rfl)) (by kernel_rfl) #[true, true, true, true, false, false, false] (by kernel_rfl) ?_
    refine At.any1 4 (by kernel_rfl) rfl #[true, true, true, true, true, false, false] (by kernel_rfl) ?_
    refine At.callV rfl (by kernel_rfl) 81 [] [] (by kernel_rfl) Try.func81 (by kernel_rfl) (by kernel_rfl) [.agg (nV 5 s0 s1 s2 s3 mn mx)] (by kernel_rfl) (by kernel_rfl) (plain_c Φ82 (⟨5, s0, s1, s2, s3, mn, mx⟩ : Nd)) ?_
    rintro Φ85 _ hle86 rfl
    have hB4 := hB4.mono hle86
    have hB84 := hB84.mono hle86
    refine ⟨⟨fr 23 [(1, (vP g1 0)), (2, .p 1 0), (4, (vP g81 0)), (18, .agg [(vI 2), (vF 81), (vF 84)]), (19, (vP g81 1)), (20, (vF 81)), (21, .agg (nV 5 s0 s1 s2 s3 mn mx)), (22, (vB (Nd.plain (⟨5, s0, s1, s2, s3, mn, mx⟩ : Nd))))], [.dead, .c [(vI 0), .v (.nilFunc), .v (.nilFunc)] 76]⟩, by kernel_rfl, by kernel_rfl, ?_⟩
    refine At.nil ?_
    refine At.then_normal ?_
    refine At.held hle86 ?_
    refine At.any1 5 (by kernel_rfl) rfl #[true, true, true, true, true, true, false] (by kernel_rfl) ?_
    refine At.runk 1 [] [] ⟨fr 23 [(1, (vP g1 0)), (2, .p 1 0), (4, (vP g81 0)), (18, .agg [(vI 2), (vF 81), (vF 84)]), (19, (vP g81 1)), (20, (vF 81)), (21, .agg (nV 5 s0 s1 s2 s3 mn mx)), (22, (vB (Nd.plain (⟨5, s0, s1, s2, s3, mn, mx⟩ : Nd))))], [.dead, .c [(vI 2), (vF 81), (vF 84)] 76]⟩ (by kernel_rfl) ?_
    refine At.nil ?_
    refine At.then_normal ?_
    refine At.held hle86 ?_
    refine At.take (S' := ⟨fr 23 [(1, (vP g1 0)), (2, .p 1 0), (3, (vB (Nd.plain (⟨5, s0, s1, s2, s3, mn, mx⟩ : Nd)))), (4, (vP g81 0)), (18, .agg [(vI 2), (vF 81), (vF 84)]), (19, (vP g81 1)), (20, (vF 81)), (21, .agg (nV 5 s0 s1 s2 s3 mn mx)), (22, (vB (Nd.plain (⟨5, s0, s1, s2, s3, mn, mx⟩ : Nd))))], [.dead, .c [(vI 2), (vF 81), (vF 84)] 76]⟩) hle86 (PanOk.then PanOk.body) 6 rfl (by kernel_rfl) (by kernel_rfl) (by kernel_rfl) (by kernel_rfl) ((vB (Nd.plain (⟨5, s0, s1, s2, s3, mn, mx⟩ : Nd)))) (by kernel_rfl) (fun _ _ => Val.ev rfl (by kernel_rfl) (by kernel_rfl)) (by kernel_rfl) #[true, true, true, true, true, true, true] (by kernel_rfl) ?_
    refine At.drawn_done (by kernel_rfl) ?_
    refine At.then_normal ?_
    refine At.ret_ ?_
    refine At.forget [1, 4, 18, 19, 20, 21, 22] 2 [] ⟨fr 23 [(2, .p 1 0), (3, (vB (Nd.plain (⟨5, s0, s1, s2, s3, mn, mx⟩ : Nd))))], [.dead, .c [(vI 2), (vF 81), (vF 84)] 76]⟩ (by kernel_rfl) (by kernel_rfl) (bleT rfl) ?_
    refine At.leaveX rfl [2, 3] 0 [] ⟨fr 23 [], []⟩ (2, 81, 84, (Nd.plain (⟨5, s0, s1, s2, s3, mn, mx⟩ : Nd))) (by kernel_rfl) (by kernel_rfl) (by kernel_rfl) (by kernel_rfl) (bleT rfl) (by kernel_rfl) (by kernel_rfl) ?_
    simp [kar, mayN, nulN, Nd.may_of]
  · refine At.forget [12] 2 [] ⟨fr 23 [(1, (vP g1 0)), (2, .p 1 0)], [.dead, .c [(vI 0), .v (.nilFunc), .v (.nilFunc)] 76]⟩ (by kernel_rfl) (by kernel_rfl) (bleT rfl) ?_
    refine At.region_draw (by kernel_rfl) 6 (by kernel_rfl) #[false, false, false, false, false, false] (by kernel_rfl) ?_
    have hB4d := hB4
    refine At.take (S' := ⟨fr 23 [(1, (vP g1 0)), (2, .p 1 0), (15, (vP g1 0))], [.dead, .c [(vI 0), .v (.nilFunc), .v (.nilFunc)] 76]⟩) (PhiLe.refl 0 _) (PanOk.then PanOk.body) 1 rfl (by kernel_rfl) (by kernel_rfl) (by kernel_rfl) (by kernel_rfl) ((vP g1 0)) (by kernel_rfl) (fun _ _ => Val.ev rfl (by kernel_rfl) (by kernel_rfl)) (by kernel_rfl) #[false, true, false, false, false, false] (by kernel_rfl) ?_
    refine At.take (S' := ⟨fr 23 [(1, (vP g1 0)), (2, .p 1 0), (15, (vP g1 0)), (16, (vI 6))], [.dead, .c [(vI 0), .v (.nilFunc), .v (.nilFunc)] 76]⟩) (PhiLe.refl 0 _) (PanOk.then PanOk.body) 2 rfl (by kernel_rfl) (by kernel_rfl) (by kernel_rfl) (by kernel_rfl) ((vI 6)) (by kernel_rfl) (fun _ _ => Val.ldB rfl hB4d (Nat.zero_lt_succ _) 0 0 (by omega) (by kernel_rfl) ((vI 6)) (by kernel_rfl)) (by kernel_rfl) #[false, true, true, false, false, false] (by kernel_rfl) ?_
    refine At.any2 0 4 (by kernel_rfl) rfl rfl #[true, true, true, false, false, false] #[false, true, true, false, true, false] (by kernel_rfl) (by kernel_rfl) ?_ ?_
    · refine At.callV rfl (by kernel_rfl) 53 [] [] (by kernel_rfl) Try.func53 (by kernel_rfl) (by kernel_rfl) [] (by kernel_rfl) (by kernel_rfl) (kinds_c Φ2) ?_
      rintro Φ87 ⟨⟩ hle88 -
      have hB4 := hB4.mono hle88
      refine ⟨⟨fr 23 [(1, (vP g1 0)), (2, .p 1 0), (14, kindsV), (15, (vP g1 0)), (16, (vI 6))], [.dead, .c [(vI 0), .v (.nilFunc), .v (.nilFunc)] 76]⟩, by kernel_rfl, by kernel_rfl, ?_⟩
      refine At.nil ?_
      refine At.then_normal ?_
      refine At.held hle88 ?_
      refine At.take (S' := ⟨fr 23 [(1, (vP g1 0)), (2, .p 1 0), (14, kindsV), (15, (vP g1 0)), (16, (vI 6)), (17, .agg [(vI 1), (vF 81), (vF 78)])], [.dead, .c [(vI 0), .v (.nilFunc), .v (.nilFunc)] 76]⟩) hle88 (PanOk.then PanOk.body) 3 rfl (by kernel_rfl) (by kernel_rfl) (by kernel_rfl) (by kernel_rfl) (.agg [(vI 1), (vF 81), (vF 78)]) (by kernel_rfl) (fun _ _ => Val.ev rfl (by kernel_rfl) (by kernel_rfl)) (by kernel_rfl) #[true, true, true, true, false, false] (by kernel_rfl) ?_
      refine At.any1 4 (by kernel_rfl) rfl #[true, true, true, true, true, false] (by kernel_rfl) ?_
      refine At.runk 1 [] [] ⟨fr 23 [(1, (vP g1 0)), (2, .p 1 0), (4, .p 2 0), (14, kindsV), (15, (vP g1 0)), (16, (vI 6)), (17, .agg [(vI 1), (vF 81), (vF 78)])], [.dead, .c [(vI 0), .v (.nilFunc), .v (.nilFunc)] 76, .c [(vI 0), .v (.nilFunc), .v (.nilFunc)] 76]⟩ (by kernel_rfl) ?_
      refine At.nil ?_
      refine At.then_normal ?_
      refine At.held hle88 ?_
      refine At.any1 5 (by kernel_rfl) rfl #[true, true, true, true, true, true] (by kernel_rfl) ?_
      refine At.runk 1 [] [] ⟨fr 23 [(1, (vP g1 0)), (2, .p 1 0), (4, .p 2 0), (14, kindsV), (15, (vP g1 0)), (16, (vI 6)), (17, .agg [(vI 1), (vF 81), (vF 78)])], [.dead, .c [(vI 0), .v (.nilFunc), .v (.nilFunc)] 76, .c [(vI 1), (vF 81), (vF 78)] 76]⟩ (by kernel_rfl) ?_
      refine At.nil ?_
      refine At.then_normal ?_
      refine At.held hle88 ?_
      refine At.drawn_done (by kernel_rfl) ?_
      refine At.then_normal ?_
      refine At.seq ?_
      refine At.freezeC 2 [.int .i64 1, .func (.func 81) #[] #[], .func (.func 78) #[] #[]] rfl rfl (bleT rfl) (bleT rfl) (fun _ => by kernel_rfl) (fun _ => by kernel_rfl) ?_
      intro g89 Φ90 hle91 hB92
      have hB4 := hB4.mono hle91
      refine ⟨⟨fr 23 [(1, (vP g1 0)), (2, .p 1 0), (4, (vP g89 0)), (14, kindsV), (15, (vP g1 0)), (16, (vI 6)), (17, .agg [(vI 1), (vF 81), (vF 78)])], [.dead, .c [(vI 0), .v (.nilFunc), .v (.nilFunc)] 76, .dead]⟩, by kernel_rfl, ?_⟩
      refine At.forget [14, 15, 16, 17] 2 [] ⟨fr 23 [(1, (vP g1 0)), (2, .p 1 0), (4, (vP g89 0))], [.dead, .c [(vI 0), .v (.nilFunc), .v (.nilFunc)] 76]⟩ (by kernel_rfl) (by kernel_rfl) (bleT rfl) ?_
      refine At.region_draw (by kernel_rfl) 7 (by kernel_rfl) #[false, false, false, false, false, false, false] (by kernel_rfl) ?_
      have hB4d := hB4
      have hB92d := hB92
      refine At.take (S' := ⟨fr 23 [(1, (vP g1 0)), (2, .p 1 0), (4, (vP g89 0)), (18, .agg [(vI 1), (vF 81), (vF 78)])], [.dead, .c [(vI 0), .v (.nilFunc), .v (.nilFunc)] 76]⟩) (PhiLe.refl 0 _) (PanOk.then PanOk.body) 0 rfl (by kernel_rfl) (by kernel_rfl) (by kernel_rfl) (by kernel_rfl) (.agg [(vI 1), (vF 81), (vF 78)]) (by kernel_rfl) (fun _ _ => Val.ldB rfl hB92d (Nat.zero_lt_succ _) 0 0 (by omega) (by kernel_rfl) (.agg [(vI 1), (vF 81), (vF 78)]) (by kernel_rfl)) (by kernel_rfl) #[true, false, false, false, false, false, false] (by kernel_rfl) ?_
      refine At.take (S' := ⟨fr 23 [(1, (vP g1 0)), (2, .p 1 0), (4, (vP g89 0)), (18, .agg [(vI 1), (vF 81), (vF 78)]), (19, (vP g89 1))], [.dead, .c [(vI 0), .v (.nilFunc), .v (.nilFunc)] 76]⟩) (PhiLe.refl 0 _) (PanOk.then PanOk.body) 1 rfl (by kernel_rfl) (by kernel_rfl) (by kernel_rfl) (by kernel_rfl) ((vP g89 1)) (by kernel_rfl) (fun _ _ => Val.ev rfl (by kernel_rfl) (by kernel_rfl)) (by kernel_rfl) #[true, true, false, false, false, false, false] (by kernel_rfl) ?_
      refine At.take (S' := ⟨fr 23 [(1, (vP g1 0)), (2, .p 1 0), (4, (vP g89 0)), (18, .agg [(vI 1), (vF 81), (vF 78)]), (19, (vP g89 1)), (20, (vF 81))], [.dead, .c [(vI 0), .v (.nilFunc), .v (.nilFunc)] 76]⟩) (PhiLe.refl 0 _) (PanOk.then PanOk.body) 2 rfl (by kernel_rfl) (by kernel_rfl) (by kernel_rfl) (by kernel_rfl) ((vF 81)) (by kernel_rfl) (fun _ _ => Val.ldB rfl hB92d (Nat.zero_lt_succ _) 1 1 (by omega) (by kernel_rfl) ((vF 81)) (by kernel_rfl)) (by kernel_rfl) #[true, true, true, false, false, false, false] (by kernel_rfl) ?_
      refine At.take (S' := ⟨fr 23 [(1, (vP g1 0)), (2, .p 1 0), (4, (vP g89 0)), (18, .agg [(vI 1), (vF 81), (vF 78)]), (19, (vP g89 1)), (20, (vF 81)), (21, .agg (nV 6 s0 s1 s2 s3 mn mx))], [.dead, .c [(vI 0), .v (.nilFunc), .v (.nilFunc)] 76]⟩) (PhiLe.refl 0 _) (PanOk.then PanOk.body) 3 rfl (by kernel_rfl) (by kernel_rfl) (by kernel_rfl) (by kernel_rfl) (.agg (nV 6 s0 s1 s2 s3 mn mx)) (by kernel_rfl) (fun _ _ => Val.ldB rfl hB4d (Nat.zero_lt_succ _) 0 0 (by omega) (by kernel_rfl) (.agg (nV 6 s0 s1 s2 s3 mn mx)) (by kernel_rfl)) (by kernel_rfl) #[true, true, true, true, false, false, false] (by kernel_rfl) ?_
      refine At.any1 4 (by kernel_rfl) rfl #[true, true, true, true, true, false, false] (by kernel_rfl) ?_
      refine At.callV rfl (by kernel_rfl) 81 [] [] (by kernel_rfl) Try.func81 (by kernel_rfl) (by kernel_rfl) [.agg (nV 6 s0 s1 s2 s3 mn mx)] (by kernel_rfl) (by kernel_rfl) (plain_c Φ90 (⟨6, s0, s1, s2, s3, mn, mx⟩ : Nd)) ?_
      rintro Φ93 _ hle94 rfl
      have hB4 := hB4.mono hle94
      have hB92 := hB92.mono hle94
      refine ⟨⟨fr 23 [(1, (vP g1 0)), (2, .p 1 0), (4, (vP g89 0)), (18, .agg [(vI 1), (vF 81), (vF 78)]), (19, (vP g89 1)), (20, (vF 81)), (21, .agg (nV 6 s0 s1 s2 s3 mn mx)), (22, (vB (Nd.plain (⟨6, s0, s1, s2, s3, mn, mx⟩ : Nd))))], [.dead, .c [(vI 0), .v (.nilFunc), .v (.nilFunc)] 76]⟩, by kernel_rfl, by kernel_rfl, ?_⟩
      refine At.nil ?_
      refine At.then_normal ?_
      refine At.held hle94 ?_
      refine At.any1 5 (by kernel_rfl) rfl #[true, true, true, true, true, true, false] (by kernel_rfl) ?_
      refine At.runk 1 [] [] ⟨fr 23 [(1, (vP g1 0)), (2, .p 1 0), (4, (vP g89 0)), (18, .agg [(vI 1), (vF 81), (vF 78)]), (19, (vP g89 1)), (20, (vF 81)), (21, .agg (nV 6 s0 s1 s2 s3 mn mx)), (22, (vB (Nd.plain (⟨6, s0, s1, s2, s3, mn, mx⟩ : Nd))))], [.dead, .c [(vI 1), (vF 81), (vF 78)] 76]⟩ (by kernel_rfl) ?_
      refine At.nil ?_
      refine At.then_normal ?_
      refine At.held hle94 ?_
      refine At.take (S' := ⟨fr 23 [(1, (vP g1 0)), (2, .p 1 0), (3, (vB (Nd.plain (⟨6, s0, s1, s2, s3, mn, mx⟩ : Nd)))), (4, (vP g89 0)), (18, .agg [(vI 1), (vF 81), (vF 78)]), (19, (vP g89 1)), (20, (vF 81)), (21, .agg (nV 6 s0 s1 s2 s3 mn mx)), (22, (vB (Nd.plain (⟨6, s0, s1, s2, s3, mn, mx⟩ : Nd))))], [.dead, .c [(vI 1), (vF 81), (vF 78)] 76]⟩) hle94 (PanOk.then PanOk.body) 6 rfl (by kernel_rfl) (by kernel_rfl) (by kernel_rfl) (by kernel_rfl) ((vB (Nd.plain (⟨6, s0, s1, s2, s3, mn, mx⟩ : Nd)))) (by kernel_rfl) (fun _ _ => Val.ev rfl (by kernel_rfl) (by kernel_rfl)) (by kernel_rfl) #[true, true, true, true, true, true, true] (by kernel_rfl) ?_
      refine At.drawn_done (by kernel_rfl) ?_
      refine At.then_normal ?_
      refine At.ret_ ?_
      refine At.forget [1, 4, 18, 19, 20, 21, 22] 2 [] ⟨fr 23 [(2, .p 1 0), (3, (vB (Nd.plain (⟨6, s0, s1, s2, s3, mn, mx⟩ : Nd))))], [.dead, .c [(vI 1), (vF 81), (vF 78)] 76]⟩ (by kernel_rfl) (by kernel_rfl) (bleT rfl) ?_
      refine At.leaveX rfl [2, 3] 0 [] ⟨fr 23 [], []⟩ (1, 81, 78, (Nd.plain (⟨6, s0, s1, s2, s3, mn, mx⟩ : Nd))) (by kernel_rfl) (by kernel_rfl) (by kernel_rfl) (by kernel_rfl) (bleT rfl) (by kernel_rfl) (by kernel_rfl) ?_
      simp [kar, mayN, nulN, Nd.may_of]
    refine At.runk 1 [] [] ⟨fr 23 [(1, (vP g1 0)), (2, .p 1 0), (4, .p 2 0), (15, (vP g1 0)), (16, (vI 6))], [.dead, .c [(vI 0), .v (.nilFunc), .v (.nilFunc)] 76, .c [(vI 0), .v (.nilFunc), .v (.nilFunc)] 76]⟩ (by kernel_rfl) ?_
    refine At.nil ?_
    refine At.then_normal ?_
    refine At.held (PhiLe.refl 0 _) ?_
    refine At.any1 0 (by kernel_rfl) rfl #[true, true, true, false, true, false] (by kernel_rfl) ?_
    refine At.callV rfl (by kernel_rfl) 53 [] [] (by kernel_rfl) Try.func53 (by kernel_rfl) (by kernel_rfl) [] (by kernel_rfl) (by kernel_rfl) (kinds_c Φ2) ?_
    rintro Φ95 ⟨⟩ hle96 -
    have hB4 := hB4.mono hle96
    refine ⟨⟨fr 23 [(1, (vP g1 0)), (2, .p 1 0), (4, .p 2 0), (14, kindsV), (15, (vP g1 0)), (16, (vI 6))], [.dead, .c [(vI 0), .v (.nilFunc), .v (.nilFunc)] 76, .c [(vI 0), .v (.nilFunc), .v (.nilFunc)] 76]⟩, by kernel_rfl, by kernel_rfl, ?_⟩
    refine At.nil ?_
    refine At.then_normal ?_
    refine At.held hle96 ?_
    refine At.take (S' := ⟨fr 23 [(1, (vP g1 0)), (2, .p 1 0), (4, .p 2 0), (14, kindsV), (15, (vP g1 0)), (16, (vI 6)), (17, .agg [(vI 1), (vF 81), (vF 78)])], [.dead, .c [(vI 0), .v (.nilFunc), .v (.nilFunc)] 76, .c [(vI 0), .v (.nilFunc), .v (.nilFunc)] 76]⟩) hle96 (PanOk.then PanOk.body) 3 rfl (by kernel_rfl) (by kernel_rfl) (by kernel_rfl) (by kernel_rfl) (.agg [(vI 1), (vF 81), (vF 78)]) (by kernel_rfl) (fun _ _ => Val.ev rfl (by kernel_rfl) (by kernel_rfl)) (by kernel_rfl) #[true, true, true, true, true, false] (by kernel_rfl) ?_
    refine At.any1 5 (by kernel_rfl) rfl #[true, true, true, true, true, true] (by kernel_rfl) ?_
    refine At.runk 1 [] [] ⟨fr 23 [(1, (vP g1 0)), (2, .p 1 0), (4, .p 2 0), (14, kindsV), (15, (vP g1 0)), (16, (vI 6)), (17, .agg [(vI 1), (vF 81), (vF 78)])], [.dead, .c [(vI 0), .v (.nilFunc), .v (.nilFunc)] 76, .c [(vI 1), (vF 81), (vF 78)] 76]⟩ (by kernel_rfl) ?_
    refine At.nil ?_
    refine At.then_normal ?_
    refine At.held hle96 ?_
    refine At.drawn_done (by kernel_rfl) ?_
    refine At.then_normal ?_
    refine At.seq ?_
    refine At.freezeC 2 [.int .i64 1, .func (.func 81) #[] #[], .func (.func 78) #[] #[]] rfl rfl (bleT rfl) (bleT rfl) (fun _ => by kernel_rfl) (fun _ => by kernel_rfl) ?_
    intro g97 Φ98 hle99 hB100
    have hB4 := hB4.mono hle99
    refine ⟨⟨fr 23 [(1, (vP g1 0)), (2, .p 1 0), (4, (vP g97 0)), (14, kindsV), (15, (vP g1 0)), (16, (vI 6)), (17, .agg [(vI 1), (vF 81), (vF 78)])], [.dead, .c [(vI 0), .v (.nilFunc), .v (.nilFunc)] 76, .dead]⟩, by kernel_rfl, ?_⟩
    refine At.forget [14, 15, 16, 17] 2 [] ⟨fr 23 [(1, (vP g1 0)), (2, .p 1 0), (4, (vP g97 0))], [.dead, .c [(vI 0), .v (.nilFunc), .v (.nilFunc)] 76]⟩ (by kernel_rfl) (by kernel_rfl) (bleT rfl) ?_
    refine At.region_draw (by kernel_rfl) 7 (by kernel_rfl) #[false, false, false, false, false, false, false] (by kernel_rfl) ?_
    have hB4d := hB4
    have hB100d := hB100
    refine At.take (S' := ⟨fr 23 [(1, (vP g1 0)), (2, .p 1 0), (4, (vP g97 0)), (18, .agg [(vI 1), (vF 81), (vF 78)])], [.dead, .c [(vI 0), .v (.nilFunc), .v (.nilFunc)] 76]⟩) (PhiLe.refl 0 _) (PanOk.then PanOk.body) 0 rfl (by kernel_rfl) (by kernel_rfl) (by kernel_rfl) (by kernel_rfl) (.agg [(vI 1), (vF 81), (vF 78)]) (by kernel_rfl) (fun _ _ => Val.ldB rfl hB100d (Nat.zero_lt_succ _) 0 0 (by omega) (by kernel_rfl) (.agg [(vI 1), (vF 81), (vF 78)]) (by kernel_rfl)) (by kernel_rfl) #[true, false, false, false, false, false, false] (by kernel_rfl) ?_
    refine At.take (S' := ⟨fr 23 [(1, (vP g1 0)), (2, .p 1 0), (4, (vP g97 0)), (18, .agg [(vI 1), (vF 81), (vF 78)]), (19, (vP g97 1))], [.dead, .c [(vI 0), .v (.nilFunc), .v (.nilFunc)] 76]⟩) (PhiLe.refl 0 _) (PanOk.then PanOk.body) 1 rfl (by kernel_rfl) (by kernel_rfl) (by kernel_rfl) (by kernel_rfl) ((vP g97 1)) (by kernel_rfl) (fun _ _ => Val.ev rfl (by kernel_rfl) (by kernel_rfl)) (by kernel_rfl) #[true, true, false, false, false, false, false] (by kernel_rfl) ?_
    refine At.take (S' := ⟨fr 23 [(1, (vP g1 0)), (2, .p 1 0), (4, (vP g97 0)), (18, .agg [(vI 1), (vF 81), (vF 78)]), (19, (vP g97 1)), (20, (vF 81))], [.dead, .c [(vI 0), .v (.nilFunc), .v (.nilFunc)] 76]⟩) (PhiLe.refl 0 _) (PanOk.then PanOk.body) 2 rfl (by kernel_rfl) (by kernel_rfl) (by kernel_rfl) (by kernel_rfl) ((vF 81)) (by kernel_rfl) (fun _ _ => Val.ldB rfl hB100d (Nat.zero_lt_succ _) 1 1 (by omega) (by kernel_rfl) ((vF 81)) (by kernel_rfl)) (by kernel_rfl) #[true, true, true, false, false, false, false] (by kernel_rfl) ?_
    refine At.take (S' := ⟨fr 23 [(1, (vP g1 0)), (2, .p 1 0), (4, (vP g97 0)), (18, .agg [(vI 1), (vF 81), (vF 78)]), (19, (vP g97 1)), (20, (vF 81)), (21, .agg (nV 6 s0 s1 s2 s3 mn mx))], [.dead, .c [(vI 0), .v (.nilFunc), .v (.nilFunc)] 76]⟩) (PhiLe.refl 0 _) (PanOk.then PanOk.body) 3 rfl (by kernel_rfl) (by kernel_rfl) (by kernel_rfl) (by kernel_rfl) (.agg (nV 6 s0 s1 s2 s3 mn mx)) (by kernel_rfl) (fun _ _ => Val.ldB rfl hB4d (Nat.zero_lt_succ _) 0 0 (by omega) (by kernel_rfl) (.agg (nV 6 s0 s1 s2 s3 mn mx)) (by kernel_rfl)) (by kernel_rfl) #[true, true, true, true, false, false, false] (by kernel_rfl) ?_
    refine At.any1 4 (by kernel_rfl) rfl #[true, true, true, true, true, false, false] (by kernel_rfl) ?_
    refine At.callV rfl (by kernel_rfl) 81 [] [] (by kernel_rfl) Try.func81 (by kernel_rfl) (by kernel_rfl) [.agg (nV 6 s0 s1 s2 s3 mn mx)] (by kernel_rfl) (by kernel_rfl) (plain_c Φ98 (⟨6, s0, s1, s2, s3, mn, mx⟩ : Nd)) ?_
    rintro Φ101 _ hle102 rfl
    have hB4 := hB4.mono hle102
    have hB100 := hB100.mono hle102
    refine ⟨⟨fr 23 [(1, (vP g1 0)), (2, .p 1 0), (4, (vP g97 0)), (18, .agg [(vI 1), (vF 81), (vF 78)]), (19, (vP g97 1)), (20, (vF 81)), (21, .agg (nV 6 s0 s1 s2 s3 mn mx)), (22, (vB (Nd.plain (⟨6, s0, s1, s2, s3, mn, mx⟩ : Nd))))], [.dead, .c [(vI 0), .v (.nilFunc), .v (.nilFunc)] 76]⟩, by kernel_rfl, by kernel_rfl, ?_⟩
    refine At.nil ?_
    refine At.then_normal ?_
    refine At.held hle102 ?_
    refine At.any1 5 (by kernel_rfl) rfl #[true, true, true, true, true, true, false] (by kernel_rfl) ?_
    refine At.runk 1 [] [] ⟨fr 23 [(1, (vP g1 0)), (2, .p 1 0), (4, (vP g97 0)), (18, .agg [(vI 1), (vF 81), (vF 78)]), (19, (vP g97 1)), (20, (vF 81)), (21, .agg (nV 6 s0 s1 s2 s3 mn mx)), (22, (vB (Nd.plain (⟨6, s0, s1, s2, s3, mn, mx⟩ : Nd))))], [.dead, .c [(vI 1), (vF 81), (vF 78)] 76]⟩ (by kernel_rfl) ?_
    refine At.nil ?_
    refine At.then_normal ?_
    refine At.held hle102 ?_
    refine At.take (S' := ⟨fr 23 [(1, (vP g1 0)), (2, .p 1 0), (3, (vB (Nd.plain (⟨6, s0, s1, s2, s3, mn, mx⟩ : Nd)))), (4, (vP g97 0)), (18, .agg [(vI 1), (vF 81), (vF 78)]), (19, (vP g97 1)), (20, (vF 81)), (21, .agg (nV 6 s0 s1 s2 s3 mn mx)), (22, (vB (Nd.plain (⟨6, s0, s1, s2, s3, mn, mx⟩ : Nd))))], [.dead, .c [(vI 1), (vF 81), (vF 78)] 76]⟩) hle102 (PanOk.then PanOk.body) 6 rfl (by kernel_rfl) (by kernel_rfl) (by kernel_rfl) (by kernel_rfl) ((vB (Nd.plain (⟨6, s0, s1, s2, s3, mn, mx⟩ : Nd)))) (by kernel_rfl) (fun _ _ => Val.ev rfl (by kernel_rfl) (by kernel_rfl)) (by kernel_rfl) #[true, true, true, true, true, true, true] (by kernel_rfl) ?_
    refine At.drawn_done (by kernel_rfl) ?_
    refine At.then_normal ?_
    refine At.ret_ ?_
    refine At.forget [1, 4, 18, 19, 20, 21, 22] 2 [] ⟨fr 23 [(2, .p 1 0), (3, (vB (Nd.plain (⟨6, s0, s1, s2, s3, mn, mx⟩ : Nd))))], [.dead, .c [(vI 1), (vF 81), (vF 78)] 76]⟩ (by kernel_rfl) (by kernel_rfl) (bleT rfl) ?_
    refine At.leaveX rfl [2, 3] 0 [] ⟨fr 23 [], []⟩ (1, 81, 78, (Nd.plain (⟨6, s0, s1, s2, s3, mn, mx⟩ : Nd))) (by kernel_rfl) (by kernel_rfl) (by kernel_rfl) (by kernel_rfl) (bleT rfl) (by kernel_rfl) (by kernel_rfl) ?_
    simp [kar, mayN, nulN, Nd.may_of]
  · refine At.forget [12] 2 [] ⟨fr 23 [(1, (vP g1 0)), (2, .p 1 0)], [.dead, .c [(vI 0), .v (.nilFunc), .v (.nilFunc)] 76]⟩ (by kernel_rfl) (by kernel_rfl) (bleT rfl) ?_
    refine At.region_draw (by kernel_rfl) 6 (by kernel_rfl) #[false, false, false, false, false, false] (by kernel_rfl) ?_
    have hB4d := hB4
    refine At.take (S' := ⟨fr 23 [(1, (vP g1 0)), (2, .p 1 0), (15, (vP g1 0))], [.dead, .c [(vI 0), .v (.nilFunc), .v (.nilFunc)] 76]⟩) (PhiLe.refl 0 _) (PanOk.then PanOk.body) 1 rfl (by kernel_rfl) (by kernel_rfl) (by kernel_rfl) (by kernel_rfl) ((vP g1 0)) (by kernel_rfl) (fun _ _ => Val.ev rfl (by kernel_rfl) (by kernel_rfl)) (by kernel_rfl) #[false, true, false, false, false, false] (by kernel_rfl) ?_
    refine At.take (S' := ⟨fr 23 [(1, (vP g1 0)), (2, .p 1 0), (15, (vP g1 0)), (16, (vI 7))], [.dead, .c [(vI 0), .v (.nilFunc), .v (.nilFunc)] 76]⟩) (PhiLe.refl 0 _) (PanOk.then PanOk.body) 2 rfl (by kernel_rfl) (by kernel_rfl) (by kernel_rfl) (by kernel_rfl) ((vI 7)) (by kernel_rfl) (fun _ _ => Val.ldB rfl hB4d (Nat.zero_lt_succ _) 0 0 (by omega) (by kernel_rfl) ((vI 7)) (by kernel_rfl)) (by kernel_rfl) #[false, true, true, false, false, false] (by kernel_rfl) ?_
    refine At.any2 0 4 (by kernel_rfl) rfl rfl #[true, true, true, false, false, false] #[false, true, true, false, true, false] (by kernel_rfl) (by kernel_rfl) ?_ ?_
    · refine At.callV rfl (by kernel_rfl) 53 [] [] (by kernel_rfl) Try.func53 (by kernel_rfl) (by kernel_rfl) [] (by kernel_rfl) (by kernel_rfl) (kinds_c Φ2) ?_
      rintro Φ103 ⟨⟩ hle104 -
      have hB4 := hB4.mono hle104
      refine ⟨⟨fr 23 [(1, (vP g1 0)), (2, .p 1 0), (14, kindsV), (15, (vP g1 0)), (16, (vI 7))], [.dead, .c [(vI 0), .v (.nilFunc), .v (.nilFunc)] 76]⟩, by kernel_rfl, by kernel_rfl, ?_⟩
      refine At.nil ?_
      refine At.then_normal ?_
      refine At.held hle104 ?_
      refine At.take (S' := ⟨fr 23 [(1, (vP g1 0)), (2, .p 1 0), (14, kindsV), (15, (vP g1 0)), (16, (vI 7)), (17, .agg [(vI 1), (vF 81), (vF 80)])], [.dead, .c [(vI 0), .v (.nilFunc), .v (.nilFunc)] 76]⟩) hle104 (PanOk.then PanOk.body) 3 rfl (by kernel_rfl) (by kernel_rfl) (by kernel_rfl) (by kernel_rfl) (.agg [(vI 1), (vF 81), (vF 80)]) (by kernel_rfl) (fun _ _ => Val.ev rfl (by kernel_rfl) (by kernel_rfl)) (by kernel_rfl) #[true, true, true, true, false, false] (by kernel_rfl) ?_
      refine At.any1 4 (by kernel_rfl) rfl #[true, true, true, true, true, false] (by kernel_rfl) ?_
      refine At.runk 1 [] [] ⟨fr 23 [(1, (vP g1 0)), (2, .p 1 0), (4, .p 2 0), (14, kindsV), (15, (vP g1 0)), (16, (vI 7)), (17, .agg [(vI 1), (vF 81), (vF 80)])], [.dead, .c [(vI 0), .v (.nilFunc), .v (.nilFunc)] 76, .c [(vI 0), .v (.nilFunc), .v (.nilFunc)] 76]⟩ (by kernel_rfl) ?_
      refine At.nil ?_
      refine At.then_normal ?_
      refine At.held hle104 ?_
      refine At.any1 5 (by kernel_rfl) rfl #[true, true, true, true, true, true] (by kernel_rfl) ?_
      refine At.runk 1 [] [] ⟨fr 23 [(1, (vP g1 0)), (2, .p 1 0), (4, .p 2 0), (14, kindsV), (15, (vP g1 0)), (16, (vI 7)), (17, .agg [(vI 1), (vF 81), (vF 80)])], [.dead, .c [(vI 0), .v (.nilFunc), .v (.nilFunc)] 76, .c [(vI 1), (vF 81), (vF 80)] 76]⟩ (by kernel_rfl) ?_
      refine At.nil ?_
      refine At.then_normal ?_
      refine At.held hle104 ?_
      refine At.drawn_done (by kernel_rfl) ?_
      refine At.then_normal ?_
      refine At.seq ?_
      refine At.freezeC 2 [.int .i64 1, .func (.func 81) #[] #[], .func (.func 80) #[] #[]] rfl rfl (bleT rfl) (bleT rfl) (fun _ => by kernel_rfl) (fun _ => by kernel_rfl) ?_
      intro g105 Φ106 hle107 hB108
      have hB4 := hB4.mono hle107
      refine ⟨⟨fr 23 [(1, (vP g1 0)), (2, .p 1 0), (4, (vP g105 0)), (14, kindsV), (15, (vP g1 0)), (16, (vI 7)), (17, .agg [(vI 1), (vF 81), (vF 80)])], [.dead, .c [(vI 0), .v (.nilFunc), .v (.nilFunc)] 76, .dead]⟩, by kernel_rfl, ?_⟩
      refine At.forget [14, 15, 16, 17] 2 [] ⟨fr 23 [(1, (vP g1 0)), (2, .p 1 0), (4, (vP g105 0))], [.dead, .c [(vI 0), .v (.nilFunc), .v (.nilFunc)] 76]⟩ (by kernel_rfl) (by kernel_rfl) (bleT rfl) ?_
      refine At.region_draw (by kernel_rfl) 7 (by kernel_rfl) #[false, false, false, false, false, false, false] (by kernel_rfl) ?_
      have hB4d := hB4
      have hB108d := hB108
      refine At.take (S' := ⟨fr 23 [(1, (vP g1 0)), (2, .p 1 0), (4, (vP g105 0)), (18, .agg [(vI 1), (vF 81), (vF 80)])], [.dead, .c [(vI 0), .v (.nilFunc), .v (.nilFunc)] 76]⟩) (PhiLe.refl 0 _) (PanOk.then PanOk.body) 0 rfl (by kernel_rfl) (by kernel_rfl) (by kernel_rfl) (by kernel_rfl) (.agg [(vI 1), (vF 81), (vF 80)]) (by kernel_rfl) (fun _ _ => Val.ldB rfl hB108d (Nat.zero_lt_succ _) 0 0 (by omega) (by kernel_rfl) (.agg [(vI 1), (vF 81), (vF 80)]) (by kernel_rfl)) (by kernel_rfl) #[true, false, false, false, false, false, false] (by kernel_rfl) ?_
      refine At.take (S' := ⟨fr 23 [(1, (vP g1 0)), (2, .p 1 0), (4, (vP g105 0)), (18, .agg [(vI 1), (vF 81), (vF 80)]), (19, (vP g105 1))], [.dead, .c [(vI 0), .v (.nilFunc), .v (.nilFunc)] 76]⟩) (PhiLe.refl 0 _) (PanOk.then PanOk.body) 1 rfl (by kernel_rfl) (by kernel_rfl) (by kernel_rfl) (by kernel_rfl) ((vP g105 1)) (by kernel_rfl) (fun _ _ => Val.ev rfl (by kernel_rfl) (by kernel_rfl)) (by kernel_rfl) #[true, true, false, false, false, false, false] (by kernel_rfl) ?_
      refine At.take (S' := ⟨fr 23 [(1, (vP g1 0)), (2, .p 1 0), (4, (vP g105 0)), (18, .agg [(vI 1), (vF 81), (vF 80)]), (19, (vP g105 1)), (20, (vF 81))], [.dead, .c [(vI 0), .v (.nilFunc), .v (.nilFunc)] 76]⟩) (PhiLe.refl 0 _) (PanOk.then PanOk.body) 2 rfl (by kernel_rfl) (by kernel_rfl) (by kernel_rfl) (by kernel_rfl) ((vF 81)) (by kernel_rfl) (fun _ _ => Val.ldB rfl hB108d (Nat.zero_lt_succ _) 1 1 (by omega) (by kernel_rfl) ((vF 81)) (by kernel_rfl)) (by kernel_rfl) #[true, true, true, false, false, false, false] (by kernel_rfl) ?_
      refine At.take (S' := ⟨fr 23 [(1, (vP g1 0)), (2, .p 1 0), (4, (vP g105 0)), (18, .agg [(vI 1), (vF 81), (vF 80)]), (19, (vP g105 1)), (20, (vF 81)), (21, .agg (nV 7 s0 s1 s2 s3 mn mx))], [.dead, .c [(vI 0), .v (.nilFunc), .v (.nilFunc)] 76]⟩) (PhiLe.refl 0 _) (PanOk.then PanOk.body) 3 rfl (by kernel_rfl) (by kernel_rfl) (by kernel_rfl) (by kernel_rfl) (.agg (nV 7 s0 s1 s2 s3 mn mx)) (by kernel_rfl) (fun _ _ => Val.ldB rfl hB4d (Nat.zero_lt_succ _) 0 0 (by omega) (by kernel_rfl) (.agg (nV 7 s0 s1 s2 s3 mn mx)) (by kernel_rfl)) (by kernel_rfl) #[true, true, true, true, false, false, false] (by kernel_rfl) ?_
      refine At.any1 4 (by kernel_rfl) rfl #[true, true, true, true, true, false, false] (by kernel_rfl) ?_
      refine At.callV rfl (by kernel_rfl) 81 [] [] (by kernel_rfl) Try.func81 (by kernel_rfl) (by kernel_rfl) [.agg (nV 7 s0 s1 s2 s3 mn mx)] (by kernel_rfl) (by kernel_rfl) (plain_c Φ106 (⟨7, s0, s1, s2, s3, mn, mx⟩ : Nd)) ?_
      rintro Φ109 _ hle110 rfl
      have hB4 := hB4.mono hle110
      have hB108 := hB108.mono hle110
      refine ⟨⟨fr 23 [(1, (vP g1 0)), (2, .p 1 0), (4, (vP g105 0)), (18, .agg [(vI 1), (vF 81), (vF 80)]), (19, (vP g105 1)), (20, (vF 81)), (21, .agg (nV 7 s0 s1 s2 s3 mn mx)), (22, (vB (Nd.plain (⟨7, s0, s1, s2, s3, mn, mx⟩ : Nd))))], [.dead, .c [(vI 0), .v (.nilFunc), .v (.nilFunc)] 76]⟩, by kernel_rfl, by kernel_rfl, ?_⟩
      refine At.nil ?_
      refine At.then_normal ?_
      refine At.held hle110 ?_
      refine At.any1 5 (by kernel_rfl) rfl #[true, true, true, true, true, true, false] (by kernel_rfl) ?_
      refine At.runk 1 [] [] ⟨fr 23 [(1, (vP g1 0)), (2, .p 1 0), (4, (vP g105 0)), (18, .agg [(vI 1), (vF 81), (vF 80)]), (19, (vP g105 1)), (20, (vF 81)), (21, .agg (nV 7 s0 s1 s2 s3 mn mx)), (22, (vB (Nd.plain (⟨7, s0, s1, s2, s3, mn, mx⟩ : Nd))))], [.dead, .c [(vI 1), (vF 81), (vF 80)] 76]⟩ (by kernel_rfl) ?_
      refine At.nil ?_
      refine At.then_normal ?_
      refine At.held hle110 ?_
      refine At.take (S' := ⟨fr 23 [(1, (vP g1 0)), (2, .p 1 0), (3, (vB (Nd.plain (⟨7, s0, s1, s2, s3, mn, mx⟩ : Nd)))), (4, (vP g105 0)), (18, .agg [(vI 1), (vF 81), (vF 80)]), (19, (vP g105 1)), (20, (vF 81)), (21, .agg (nV 7 s0 s1 s2 s3 mn mx)), (22, (vB (Nd.plain (⟨7, s0, s1, s2, s3, mn, mx⟩ : Nd))))], [.dead, .c [(vI 1), (vF 81), (vF 80)] 76]⟩) hle110 (PanOk.then PanOk.body) 6 rfl (by kernel_rfl) (by kernel_rfl) (by kernel_rfl) (by kernel_rfl) ((vB (Nd.plain (⟨7, s0, s1, s2, s3, mn, mx⟩ : Nd)))) (by kernel_rfl) (fun _ _ => Val.ev rfl (by kernel_rfl) (by kernel_rfl)) (by kernel_rfl) #[true, true, true, true, true, true, true] (by kernel_rfl) ?_
      refine At.drawn_done (by kernel_rfl) ?_
      refine At.then_normal ?_
      refine At.ret_ ?_
      refine At.forget [1, 4, 18, 19, 20, 21, 22] 2 [] ⟨fr 23 [(2, .p 1 0), (3, (vB (Nd.plain (⟨7, s0, s1, s2, s3, mn, mx⟩ : Nd))))], [.dead, .c [(vI 1), (vF 81), (vF 80)] 76]⟩ (by kernel_rfl) (by kernel_rfl) (bleT rfl) ?_
      refine At.leaveX rfl [2, 3] 0 [] ⟨fr 23 [], []⟩ (1, 81, 80, (Nd.plain (⟨7, s0, s1, s2, s3, mn, mx⟩ : Nd))) (by kernel_rfl) (by kernel_rfl) (by kernel_rfl) (by kernel_rfl) (bleT rfl) (by kernel_rfl) (by kernel_rfl) ?_
      simp [kar, mayN, nulN, Nd.may_of]
    refine At.runk 1 [] [] ⟨fr 23 [(1, (vP g1 0)), (2, .p 1 0), (4, .p 2 0), (15, (vP g1 0)), (16, (vI 7))], [.dead, .c [(vI 0), .v (.nilFunc), .v (.nilFunc)] 76, .c [(vI 0), .v (.nilFunc), .v (.nilFunc)] 76]⟩ (by kernel_rfl) ?_
    refine At.nil ?_
    refine At.then_normal ?_
    refine At.held (PhiLe.refl 0 _) ?_
    refine At.any1 0 (by kernel_rfl) rfl #[true, true, true, false, true, false] (by kernel_rfl) ?_
    refine At.callV rfl (by kernel_rfl) 53 [] [] (by kernel_rfl) Try.func53 (by kernel_rfl) (by kernel_rfl) [] (by kernel_rfl) (by kernel_rfl) (kinds_c Φ2) ?_
    rintro Φ111 ⟨⟩ hle112 -
    have hB4 := hB4.mono hle112
    refine ⟨⟨fr 23 [(1, (vP g1 0)), (2, .p 1 0), (4, .p 2 0), (14, kindsV), (15, (vP g1 0)), (16, (vI 7))], [.dead, .c [(vI 0), .v (.nilFunc), .v (.nilFunc)] 76, .c [(vI 0), .v (.nilFunc), .v (.nilFunc)] 76]⟩, by kernel_rfl, by kernel_rfl, ?_⟩
    refine At.nil ?_
    refine At.then_normal ?_
    refine At.held hle112 ?_
    refine At.take (S' := ⟨fr 23 [(1, (vP g1 0)), (2, .p 1 0), (4, .p 2 0), (14, kindsV), (15, (vP g1 0)), (16, (vI 7)), (17, .agg [(vI 1), (vF 81), (vF 80)])], [.dead, .c [(vI 0), .v (.nilFunc), .v (.nilFunc)] 76, .c [(vI 0), .v (.nilFunc), .v (.nilFunc)] 76]⟩) hle112 (PanOk.then PanOk.body) 3 rfl (by kernel_rfl) (by kernel_rfl) (by kernel_rfl) (by kernel_rfl) (.agg [(vI 1), (vF 81), (vF 80)]) (by kernel_rfl) (fun _ _ => Val.ev rfl (by kernel_rfl) (by kernel_rfl)) (by kernel_rfl) #[true, true, true, true, true, false] (by kernel_rfl) ?_
    refine At.any1 5 (by kernel_rfl) rfl #[true, true, true, true, true, true] (by kernel_rfl) ?_
    refine At.runk 1 [] [] ⟨fr 23 [(1, (vP g1 0)), (2, .p 1 0), (4, .p 2 0), (14, kindsV), (15, (vP g1 0)), (16, (vI 7)), (17, .agg [(vI 1), (vF 81), (vF 80)])], [.dead, .c [(vI 0), .v (.nilFunc), .v (.nilFunc)] 76, .c [(vI 1), (vF 81), (vF 80)] 76]⟩ (by kernel_rfl) ?_
    refine At.nil ?_
    refine At.then_normal ?_
    refine At.held hle112 ?_
    refine At.drawn_done (by kernel_rfl) ?_
    refine At.then_normal ?_
    refine At.seq ?_
    refine At.freezeC 2 [.int .i64 1, .func (.func 81) #[] #[], .func (.func 80) #[] #[]] rfl rfl (bleT rfl) (bleT rfl) (fun _ => by kernel_rfl) (fun _ => by kernel_rfl) ?_
    intro g113 Φ114 hle115 hB116
    have hB4 := hB4.mono hle115
    refine ⟨⟨fr 23 [(1, (vP g1 0)), (2, .p 1 0), (4, (vP g113 0)), (14, kindsV), (15, (vP g1 0)), (16, (vI 7)), (17, .agg [(vI 1), (vF 81), (vF 80)])], [.dead, .c [(vI 0), .v (.nilFunc), .v (.nilFunc)] 76, .dead]⟩, by kernel_rfl, ?_⟩
    refine At.forget [14, 15, 16, 17] 2 [] ⟨fr 23 [(1, (vP g1 0)), (2, .p 1 0), (4, (vP g113 0))], [.dead, .c [(vI 0), .v (.nilFunc), .v (.nilFunc)] 76]⟩ (by kernel_rfl) (by kernel_rfl) (bleT rfl) ?_
    refine At.region_draw (by kernel_rfl) 7 (by kernel_rfl) #[false, false, false, false, false, false, false] (by kernel_rfl) ?_
    have hB4d := hB4
    have hB116d := hB116
    refine At.take (S' := ⟨fr 23 [(1, (vP g1 0)), (2, .p 1 0), (4, (vP g113 0)), (18, .agg [(vI 1), (vF 81), (vF 80)])], [.dead, .c [(vI 0), .v (.nilFunc), .v (.nilFunc)] 76]⟩) (PhiLe.refl 0 _) (PanOk.then PanOk.body) 0 rfl (by kernel_rfl) (by kernel_rfl) (by kernel_rfl) (by kernel_rfl) (.agg [(vI 1), (vF 81), (vF 80)]) (by kernel_rfl) (fun _ _ => Val.ldB rfl hB116d (Nat.zero_lt_succ _) 0 0 (by omega) (by kernel_rfl) (.agg [(vI 1), (vF 81), (vF 80)]) (by kernel_rfl)) (by kernel_rfl) #[true, false, false, false, false, false, false] (by kernel_rfl) ?_
    refine At.take (S' := ⟨fr 23 [(1, (vP g1 0)), (2, .p 1 0), (4, (vP g113 0)), (18, .agg [(vI 1), (vF 81), (vF 80)]), (19, (vP g113 1))], [.dead, .c [(vI 0), .v (.nilFunc), .v (.nilFunc)] 76]⟩) (PhiLe.refl 0 _) (PanOk.then PanOk.body) 1 rfl (by kernel_rfl) (by kernel_rfl) (by kernel_rfl) (by kernel_rfl) ((vP g113 1)) (by kernel_rfl) (fun _ _ => Val.ev rfl (by kernel_rfl) (by kernel_rfl)) (by kernel_rfl) #[true, true, false, false, false, false, false] (by kernel_rfl) ?_
    refine At.take (S' := ⟨fr 23 [(1, (vP g1 0)), (2, .p 1 0), (4, (vP g113 0)), (18, .agg [(vI 1), (vF 81), (vF 80)]), (19, (vP g113 1)), (20, (vF 81))], [.dead, .c [(vI 0), .v (.nilFunc), .v (.nilFunc)] 76]⟩) (PhiLe.refl 0 _) (PanOk.then PanOk.body) 2 rfl (by kernel_rfl) (by kernel_rfl) (by kernel_rfl) (by kernel_rfl) ((vF 81)) (by kernel_rfl) (fun _ _ => Val.ldB rfl hB116d (Nat.zero_lt_succ _) 1 1 (by omega) (by kernel_rfl) ((vF 81)) (by kernel_rfl)) (by kernel_rfl) #[true, true, true, false, false, false, false] (by kernel_rfl) ?_
    refine At.take (S' := ⟨fr 23 [(1, (vP g1 0)), (2, .p 1 0), (4, (vP g113 0)), (18, .agg [(vI 1), (vF 81), (vF 80)]), (19, (vP g113 1)), (20, (vF 81)), (21, .agg (nV 7 s0 s1 s2 s3 mn mx))], [.dead, .c [(vI 0), .v (.nilFunc), .v (.nilFunc)] 76]⟩) (PhiLe.refl 0 _) (PanOk.then PanOk.body) 3 rfl (by kernel_rfl) (by kernel_rfl) (by kernel_rfl) (by kernel_rfl) (.agg (nV 7 s0 s1 s2 s3 mn mx)) (by kernel_rfl) (fun _ _ => Val.ldB rfl hB4d (Nat.zero_lt_succ _) 0 0 (by omega) (by kernel_rfl) (.agg (nV 7 s0 s1 s2 s3 mn mx)) (by kernel_rfl)) (by kernel_rfl) #[true, true, true, true, false, false, false] (by kernel_rfl) ?_
    refine At.any1 4 (by kernel_rfl) rfl #[true, true, true, true, true, false, false] (by kernel_rfl) ?_
    refine At.callV rfl (by kernel_rfl) 81 [] [] (by kernel_rfl) Try.func81 (by kernel_rfl) (by kernel_rfl) [.agg (nV 7 s0 s1 s2 s3 mn mx)] (by kernel_rfl) (by kernel_rfl) (plain_c Φ114 (⟨7, s0, s1, s2, s3, mn, mx⟩ : Nd)) ?_
    rintro Φ117 _ hle118 rfl
    have hB4 := hB4.mono hle118
    have hB116 := hB116.mono hle118
    refine ⟨⟨fr 23 [(1, (vP g1 0)), (2, .p 1 0), (4, (vP g113 0)), (18, .agg [(vI 1), (vF 81), (vF 80)]), (19, (vP g113 1)), (20, (vF 81)), (21, .agg (nV 7 s0 s1 s2 s3 mn mx)), (22, (vB (Nd.plain (⟨7, s0, s1, s2, s3, mn, mx⟩ : Nd))))], [.dead, .c [(vI 0), .v (.nilFunc), .v (.nilFunc)] 76]⟩, by kernel_rfl, by kernel_rfl, ?_⟩
    refine At.nil ?_
    refine At.then_normal ?_
    refine At.held hle118 ?_
    refine At.any1 5 (by kernel_rfl) rfl #[true, true, true, true, true, true, false] (by kernel_rfl) ?_
    refine At.runk 1 [] [] ⟨fr 23 [(1, (vP g1 0)), (2, .p 1 0), (4, (vP g113 0)), (18, .agg [(vI 1), (vF 81), (vF 80)]), (19, (vP g113 1)), (20, (vF 81)), (21, .agg (nV 7 s0 s1 s2 s3 mn mx)), (22, (vB (Nd.plain (⟨7, s0, s1, s2, s3, mn, mx⟩ : Nd))))], [.dead, .c [(vI 1), (vF 81), (vF 80)] 76]⟩ (by kernel_rfl) ?_
    refine At.nil ?_
    refine At.then_normal ?_
    refine At.held hle118 ?_
    refine At.take (S' := ⟨fr 23 [(1, (vP g1 0)), (2, .p 1 0), (3, (vB (Nd.plain (⟨7, s0, s1, s2, s3, mn, mx⟩ : Nd)))), (4, (vP g113 0)), (18, .agg [(vI 1), (vF 81), (vF 80)]), (19, (vP g113 1)), (20, (vF 81)), (21, .agg (nV 7 s0 s1 s2 s3 mn mx)), (22, (vB (Nd.plain (⟨7, s0, s1, s2, s3, mn, mx⟩ : Nd))))], [.dead, .c [(vI 1), (vF 81), (vF 80)] 76]⟩) hle118 (PanOk.then PanOk.body) 6 rfl (by kernel_rfl) (by kernel_rfl) (by kernel_rfl) (by kernel_rfl) ((vB (Nd.plain (⟨7, s0, s1, s2, s3, mn, mx⟩ : Nd)))) (by kernel_rfl) (fun _ _ => Val.ev rfl (by kernel_rfl) (by kernel_rfl)) (by kernel_rfl) #[true, true, true, true, true, true, true] (by kernel_rfl) ?_
    refine At.drawn_done (by kernel_rfl) ?_
    refine At.then_normal ?_
    refine At.ret_ ?_
    refine At.forget [1, 4, 18, 19, 20, 21, 22] 2 [] ⟨fr 23 [(2, .p 1 0), (3, (vB (Nd.plain (⟨7, s0, s1, s2, s3, mn, mx⟩ : Nd))))], [.dead, .c [(vI 1), (vF 81), (vF 80)] 76]⟩ (by kernel_rfl) (by kernel_rfl) (bleT rfl) ?_
    refine At.leaveX rfl [2, 3] 0 [] ⟨fr 23 [], []⟩ (1, 81, 80, (Nd.plain (⟨7, s0, s1, s2, s3, mn, mx⟩ : Nd))) (by kernel_rfl) (by kernel_rfl) (by kernel_rfl) (by kernel_rfl) (bleT rfl) (by kernel_rfl) (by kernel_rfl) ?_
    simp [kar, mayN, nulN, Nd.may_of]
  · refine At.forget [12] 2 [] ⟨fr 23 [(1, (vP g1 0)), (2, .p 1 0)], [.dead, .c [(vI 0), .v (.nilFunc), .v (.nilFunc)] 76]⟩ (by kernel_rfl) (by kernel_rfl) (bleT rfl) ?_
    refine At.region_draw (by kernel_rfl) 6 (by kernel_rfl) #[false, false, false, false, false, false] (by kernel_rfl) ?_
    have hB4d := hB4
    refine At.take (S' := ⟨fr 23 [(1, (vP g1 0)), (2, .p 1 0), (15, (vP g1 0))], [.dead, .c [(vI 0), .v (.nilFunc), .v (.nilFunc)] 76]⟩) (PhiLe.refl 0 _) (PanOk.then PanOk.body) 1 rfl (by kernel_rfl) (by kernel_rfl) (by kernel_rfl) (by kernel_rfl) ((vP g1 0)) (by kernel_rfl) (fun _ _ => Val.ev rfl (by kernel_rfl) (by kernel_rfl)) (by kernel_rfl) #[false, true, false, false, false, false] (by kernel_rfl) ?_
    refine At.take (S' := ⟨fr 23 [(1, (vP g1 0)), (2, .p 1 0), (15, (vP g1 0)), (16, (vI 8))], [.dead, .c [(vI 0), .v (.nilFunc), .v (.nilFunc)] 76]⟩) (PhiLe.refl 0 _) (PanOk.then PanOk.body) 2 rfl (by kernel_rfl) (by kernel_rfl) (by kernel_rfl) (by kernel_rfl) ((vI 8)) (by kernel_rfl) (fun _ _ => Val.ldB rfl hB4d (Nat.zero_lt_succ _) 0 0 (by omega) (by kernel_rfl) ((vI 8)) (by kernel_rfl)) (by kernel_rfl) #[false, true, true, false, false, false] (by kernel_rfl) ?_
    refine At.any2 0 4 (by kernel_rfl) rfl rfl #[true, true, true, false, false, false] #[false, true, true, false, true, false] (by kernel_rfl) (by kernel_rfl) ?_ ?_
    · refine At.callV rfl (by kernel_rfl) 53 [] [] (by kernel_rfl) Try.func53 (by kernel_rfl) (by kernel_rfl) [] (by kernel_rfl) (by kernel_rfl) (kinds_c Φ2) ?_
      rintro Φ119 ⟨⟩ hle120 -
      have hB4 := hB4.mono hle120
      refine ⟨⟨fr 23 [(1, (vP g1 0)), (2, .p 1 0), (14, kindsV), (15, (vP g1 0)), (16, (vI 8))], [.dead, .c [(vI 0), .v (.nilFunc), .v (.nilFunc)] 76]⟩, by kernel_rfl, by kernel_rfl, ?_⟩
      refine At.nil ?_
      refine At.then_normal ?_
      refine At.held hle120 ?_
      refine At.take (S' := ⟨fr 23 [(1, (vP g1 0)), (2, .p 1 0), (14, kindsV), (15, (vP g1 0)), (16, (vI 8)), (17, .agg [(vI 1), (vF 81), (vF 78)])], [.dead, .c [(vI 0), .v (.nilFunc), .v (.nilFunc)] 76]⟩) hle120 (PanOk.then PanOk.body) 3 rfl (by kernel_rfl) (by kernel_rfl) (by kernel_rfl) (by kernel_rfl) (.agg [(vI 1), (vF 81), (vF 78)]) (by kernel_rfl) (fun _ _ => Val.ev rfl (by kernel_rfl) (by kernel_rfl)) (by kernel_rfl) #[true, true, true, true, false, false] (by kernel_rfl) ?_
      refine At.any1 4 (by kernel_rfl) rfl #[true, true, true, true, true, false] (by kernel_rfl) ?_
      refine At.runk 1 [] [] ⟨fr 23 [(1, (vP g1 0)), (2, .p 1 0), (4, .p 2 0), (14, kindsV), (15, (vP g1 0)), (16, (vI 8)), (17, .agg [(vI 1), (vF 81), (vF 78)])], [.dead, .c [(vI 0), .v (.nilFunc), .v (.nilFunc)] 76, .c [(vI 0), .v (.nilFunc), .v (.nilFunc)] 76]⟩ (by kernel_rfl) ?_
      refine At.nil ?_
      refine At.then_normal ?_
      refine At.held hle120 ?_
      refine At.any1 5 (by kernel_rfl) rfl #[true, true, true, true, true, true] (by kernel_rfl) ?_
      refine At.runk 1 [] [] ⟨fr 23 [(1, (vP g1 0)), (2, .p 1 0), (4, .p 2 0), (14, kindsV), (15, (vP g1 0)), (16, (vI 8)), (17, .agg [(vI 1), (vF 81), (vF 78)])], [.dead, .c [(vI 0), .v (.nilFunc), .v (.nilFunc)] 76, .c [(vI 1), (vF 81), (vF 78)] 76]⟩ (by kernel_rfl) ?_
      refine At.nil ?_
      refine At.then_normal ?_
      refine At.held hle120 ?_
      refine At.drawn_done (by kernel_rfl) ?_
      refine At.then_normal ?_
      refine At.seq ?_
      refine At.freezeC 2 [.int .i64 1, .func (.func 81) #[] #[], .func (.func 78) #[] #[]] rfl rfl (bleT rfl) (bleT rfl) (fun _ => by kernel_rfl) (fun _ => by kernel_rfl) ?_
      intro g121 Φ122 hle123 hB124
      have hB4 := hB4.mono hle123
      refine ⟨⟨fr 23 [(1, (vP g1 0)), (2, .p 1 0), (4, (vP g121 0)), (14, kindsV), (15, (vP g1 0)), (16, (vI 8)), (17, .agg [(vI 1), (vF 81), (vF 78)])], [.dead, .c [(vI 0), .v (.nilFunc), .v (.nilFunc)] 76, .dead]⟩, by kernel_rfl, ?_⟩
      refine At.forget [14, 15, 16, 17] 2 [] ⟨fr 23 [(1, (vP g1 0)), (2, .p 1 0), (4, (vP g121 0))], [.dead, .c [(vI 0), .v (.nilFunc), .v (.nilFunc)] 76]⟩ (by kernel_rfl) (by kernel_rfl) (bleT rfl) ?_
      refine At.region_draw (by kernel_rfl) 7 (by kernel_rfl) #[false, false, false, false, false, false, false] (by kernel_rfl) ?_
      have hB4d := hB4
      have hB124d := hB124
      refine At.take (S' := ⟨fr 23 [(1, (vP g1 0)), (2, .p 1 0), (4, (vP g121 0)), (18, .agg [(vI 1), (vF 81), (vF 78)])], [.dead, .c [(vI 0), .v (.nilFunc), .v (.nilFunc)] 76]⟩) (PhiLe.refl 0 _) (PanOk.then PanOk.body) 0 rfl (by kernel_rfl) (by kernel_rfl) (by kernel_rfl) (by kernel_rfl) (.agg [(vI 1), (vF 81), (vF 78)]) (by kernel_rfl) (fun _ _ => Val.ldB rfl hB124d (Nat.zero_lt_succ _) 0 0 (by omega) (by kernel_rfl) (.agg [(vI 1), (vF 81), (vF 78)]) (by kernel_rfl)) (by kernel_rfl) #[true, false, false, false, false, false, false] (by kernel_rfl) ?_
      refine At.take (S' := ⟨fr 23 [(1, (vP g1 0)), (2, .p 1 0), (4, (vP g121 0)), (18, .agg [(vI 1), (vF 81), (vF 78)]), (19, (vP g121 1))], [.dead, .c [(vI 0), .v (.nilFunc), .v (.nilFunc)] 76]⟩) (PhiLe.refl 0 _) (PanOk.then PanOk.body) 1 rfl (by kernel_rfl) (by kernel_rfl) (by kernel_rfl) (by kernel_rfl) ((vP g121 1)) (by kernel_rfl) (fun _ _ => Val.ev rfl (by kernel_rfl) (by kernel_rfl)) (by kernel_rfl) #[true, true, false, false, false, false, false] (by kernel_rfl) ?_
      refine At.take (S' := ⟨fr 23 [(1, (vP g1 0)), (2, .p 1 0), (4, (vP g121 0)), (18, .agg [(vI 1), (vF 81), (vF 78)]), (19, (vP g121 1)), (20, (vF 81))], [.dead, .c [(vI 0), .v (.nilFunc), .v (.nilFunc)] 76]⟩) (PhiLe.refl 0 _) (PanOk.then PanOk.body) 2 rfl (by kernel_rfl) (by kernel_rfl) (by kernel_rfl) (by kernel_rfl) ((vF 81)) (by kernel_rfl) (fun _ _ => Val.ldB rfl hB124d (Nat.zero_lt_succ _) 1 1 (by omega) (by kernel_rfl) ((vF 81)) (by kernel_rfl)) (by kernel_rfl) #[true, true, true, false, false, false, false] (by kernel_rfl) ?_
      refine At.take (S' := ⟨fr 23 [(1, (vP g1 0)), (2, .p 1 0), (4, (vP g121 0)), (18, .agg [(vI 1), (vF 81), (vF 78)]), (19, (vP g121 1)), (20, (vF 81)), (21, .agg (nV 8 s0 s1 s2 s3 mn mx))], [.dead, .c [(vI 0), .v (.nilFunc), .v (.nilFunc)] 76]⟩) (PhiLe.refl 0 _) (PanOk.then PanOk.body) 3 rfl (by kernel_rfl) (by kernel_rfl) (by kernel_rfl) (by kernel_rfl) (.agg (nV 8 s0 s1 s2 s3 mn mx)) (by kernel_rfl) (fun _ _ => Val.ldB rfl hB4d (Nat.zero_lt_succ _) 0 0 (by omega) (by kernel_rfl) (.agg (nV 8 s0 s1 s2 s3 mn mx)) (by kernel_rfl)) (by kernel_rfl) #[true, true, true, true, false, false, false] (by kernel_rfl) ?_
      refine At.any1 4 (by kernel_rfl) rfl #[true, true, true, true, true, false, false] (by kernel_rfl) ?_
      refine At.callV rfl (by kernel_rfl) 81 [] [] (by kernel_rfl) Try.func81 (by kernel_rfl) (by kernel_rfl) [.agg (nV 8 s0 s1 s2 s3 mn mx)] (by kernel_rfl) (by kernel_rfl) (plain_c Φ122 (⟨8, s0, s1, s2, s3, mn, mx⟩ : Nd)) ?_
      rintro Φ125 _ hle126 rfl
      have hB4 := hB4.mono hle126
      have hB124 := hB124.mono hle126
      refine ⟨⟨fr 23 [(1, (vP g1 0)), (2, .p 1 0), (4, (vP g121 0)), (18, .agg [(vI 1), (vF 81), (vF 78)]), (19, (vP g121 1)), (20, (vF 81)), (21, .agg (nV 8 s0 s1 s2 s3 mn mx)), (22, (vB (Nd.plain (⟨8, s0, s1, s2, s3, mn, mx⟩ : Nd))))], [.dead, .c [(vI 0), .v (.nilFunc), .v (.nilFunc)] 76]⟩, by kernel_rfl, by kernel_rfl, ?_⟩
      refine At.nil ?_
      refine At.then_normal ?_
      refine At.held hle126 ?_
      refine At.any1 5 (by kernel_rfl) rfl #[true, true, true, true, true, true, false] (by kernel_rfl) ?_
      refine At.runk 1 [] [] ⟨fr 23 [(1, (vP g1 0)), (2, .p 1 0), (4, (vP g121 0)), (18, .agg [(vI 1), (vF 81), (vF 78)]), (19, (vP g121 1)), (20, (vF 81)), (21, .agg (nV 8 s0 s1 s2 s3 mn mx)), (22, (vB (Nd.plain (⟨8, s0, s1, s2, s3, mn, mx⟩ : Nd))))], [.dead, .c [(vI 1), (vF 81), (vF 78)] 76]⟩ (by kernel_rfl) ?_
      refine At.nil ?_
      refine At.then_normal ?_
      refine At.held hle126 ?_
      refine At.take (S' := ⟨fr 23 [(1, (vP g1 0)), (2, .p 1 0), (3, (vB (Nd.plain (⟨8, s0, s1, s2, s3, mn, mx⟩ : Nd)))), (4, (vP g121 0)), (18, .agg [(vI 1), (vF 81), (vF 78)]), (19, (vP g121 1)), (20, (vF 81)), (21, .agg (nV 8 s0 s1 s2 s3 mn mx)), (22, (vB (Nd.plain (⟨8, s0, s1, s2, s3, mn, mx⟩ : Nd))))], [.dead, .c [(vI 1), (vF 81), (vF 78)] 76]⟩) hle126 (PanOk.then PanOk.body) 6 rfl (by kernel_rfl) (by kernel_rfl) (by kernel_rfl) (by kernel_rfl) ((vB (Nd.plain (⟨8, s0, s1, s2, s3, mn, mx⟩ : Nd)))) (by kernel_rfl) (fun _ _ => Val.ev rfl (by kernel_rfl) (by kernel_rfl)) (by kernel_rfl) #[true, true, true, true, true, true, true] (by kernel_rfl) ?_
      refine At.drawn_done (by kernel_rfl) ?_
      refine At.then_normal ?_
      refine At.ret_ ?_
      refine At.forget [1, 4, 18, 19, 20, 21, 22] 2 [] ⟨fr 23 [(2, .p 1 0), (3, (vB (Nd.plain (⟨8, s0, s1, s2, s3, mn, mx⟩ : Nd))))], [.dead, .c [(vI 1), (vF 81), (vF 78)] 76]⟩ (by kernel_rfl) (by kernel_rfl) (bleT rfl) ?_
      refine At.leaveX rfl [2, 3] 0 [] ⟨fr 23 [], []⟩ (1, 81, 78, (Nd.plain (⟨8, s0, s1, s2, s3, mn, mx⟩ : Nd))) (by kernel_rfl) (by kernel_rfl) (by kernel_rfl) (by kernel_rfl) (bleT rfl) (by kernel_rfl) (by kernel_rfl) ?_
      simp [kar, mayN, nulN, Nd.may_of]
    refine At.runk 1 [] [] ⟨fr 23 [(1, (vP g1 0)), (2, .p 1 0), (4, .p 2 0), (15, (vP g1 0)), (16, (vI 8))], [.dead, .c [(vI 0), .v (.nilFunc), .v (.nilFunc)] 76, .c [(vI 0), .v (.nilFunc), .v (.nilFunc)] 76]⟩ (by kernel_rfl) ?_
    refine At.nil ?_
    refine At.then_normal ?_
    refine At.held (PhiLe.refl 0 _) ?_
    refine At.any1 0 (by kernel_rfl) rfl #[true, true, true, false, true, false] (by kernel_rfl) ?_
    refine At.callV rfl (by kernel_rfl) 53 [] [] (by kernel_rfl) Try.func53 (by kernel_rfl) (by kernel_rfl) [] (by kernel_rfl) (by kernel_rfl) (kinds_c Φ2) ?_
    rintro Φ127 ⟨⟩ hle128 -
    have hB4 := hB4.mono hle128
    refine ⟨⟨fr 23 [(1, (vP g1 0)), (2, .p 1 0), (4, .p 2 0), (14, kindsV), (15, (vP g1 0)), (16, (vI 8))], [.dead, .c [(vI 0), .v (.nilFunc), .v (.nilFunc)] 76, .c [(vI 0), .v (.nilFunc), .v (.nilFunc)] 76]⟩, by kernel_rfl, by kernel_rfl, ?_⟩
    refine At.nil ?_
    refine At.then_normal ?_
    refine At.held hle128 ?_
    refine At.take (S' := ⟨fr 23 [(1, (vP g1 0)), (2, .p 1 0), (4, .p 2 0), (14, kindsV), (15, (vP g1 0)), (16, (vI 8)), (17, .agg [(vI 1), (vF 81), (vF 78)])], [.dead, .c [(vI 0), .v (.nilFunc), .v (.nilFunc)] 76, .c [(vI 0), .v (.nilFunc), .v (.nilFunc)] 76]⟩) hle128 (PanOk.then PanOk.body) 3 rfl (by kernel_rfl) (by kernel_rfl) (by kernel_rfl) (by kernel_rfl) (.agg [(vI 1), (vF 81), (vF 78)]) (by kernel_rfl) (fun _ _ => Val.ev rfl (by kernel_rfl) (by kernel_rfl)) (by kernel_rfl) #[true, true, true, true, true, false] (by kernel_rfl) ?_
    refine At.any1 5 (by kernel_rfl) rfl #[true, true, true, true, true, true] (by kernel_rfl) ?_
    refine At.runk 1 [] [] ⟨fr 23 [(1, (vP g1 0)), (2, .p 1 0), (4, .p 2 0), (14, kindsV), (15, (vP g1 0)), (16, (vI 8)), (17, .agg [(vI 1), (vF 81), (vF 78)])], [.dead, .c [(vI 0), .v (.nilFunc), .v (.nilFunc)] 76, .c [(vI 1), (vF 81), (vF 78)] 76]⟩ (by kernel_rfl) ?_
    refine At.nil ?_
    refine At.then_normal ?_
    refine At.held hle128 ?_
    refine At.drawn_done (by kernel_rfl) ?_
    refine At.then_normal ?_
    refine At.seq ?_
    refine At.freezeC 2 [.int .i64 1, .func (.func 81) #[] #[], .func (.func 78) #[] #[]] rfl rfl (bleT rfl) (bleT rfl) (fun _ => by kernel_rfl) (fun _ => by kernel_rfl) ?_
    intro g129 Φ130 hle131 hB132
    have hB4 := hB4.mono hle131
    refine ⟨⟨fr 23 [(1, (vP g1 0)), (2, .p 1 0), (4, (vP g129 0)), (14, kindsV), (15, (vP g1 0)), (16, (vI 8)), (17, .agg [(vI 1), (vF 81), (vF 78)])], [.dead, .c [(vI 0), .v (.nilFunc), .v (.nilFunc)] 76, .dead]⟩, by kernel_rfl, ?_⟩
    refine At.forget [14, 15, 16, 17] 2 [] ⟨fr 23 [(1, (vP g1 0)), (2, .p 1 0), (4, (vP g129 0))], [.dead, .c [(vI 0), .v (.nilFunc), .v (.nilFunc)] 76]⟩ (by kernel_rfl) (by kernel_rfl) (bleT rfl) ?_
    refine At.region_draw (by kernel_rfl) 7 (by kernel_rfl) #[false, false, false, false, false, false, false] (by kernel_rfl) ?_
    have hB4d := hB4
    have hB132d := hB132
    refine At.take (S' := ⟨fr 23 [(1, (vP g1 0)), (2, .p 1 0), (4, (vP g129 0)), (18, .agg [(vI 1), (vF 81), (vF 78)])], [.dead, .c [(vI 0), .v (.nilFunc), .v (.nilFunc)] 76]⟩) (PhiLe.refl 0 _) (PanOk.then PanOk.body) 0 rfl (by kernel_rfl) (by kernel_rfl) (by kernel_rfl) (by kernel_rfl) (.agg [(vI 1), (vF 81), (vF 78)]) (by kernel_rfl) (fun _ _ => Val.ldB rfl hB132d (Nat.zero_lt_succ _) 0 0 (by omega) (by kernel_rfl) (.agg [(vI 1), (vF 81), (vF 78)]) (by kernel_rfl)) (by kernel_rfl) #[true, false, false, false, false, false, false] (by kernel_rfl) ?_
    refine At.take (S' := ⟨fr 23 [(1, (vP g1 0)), (2, .p 1 0), (4, (vP g129 0)), (18, .agg [(vI 1), (vF 81), (vF 78)]), (19, (vP g129 1))], [.dead, .c [(vI 0), .v (.nilFunc), .v (.nilFunc)] 76]⟩) (PhiLe.refl 0 _) (PanOk.then PanOk.body) 1 rfl (by kernel_rfl) (by kernel_rfl) (by kernel_rfl) (by kernel_rfl) ((vP g129 1)) (by kernel_rfl) (fun _ _ => Val.ev rfl (by kernel_rfl) (by kernel_rfl)) (by kernel_rfl) #[true, true, false, false, false, false, false] (by kernel_rfl) ?_
    refine At.take (S' := ⟨fr 23 [(1, (vP g1 0)), (2, .p 1 0), (4, (vP g129 0)), (18, .agg [(vI 1), (vF 81), (vF 78)]), (19, (vP g129 1)), (20, (vF 81))], [.dead, .c [(vI 0), .v (.nilFunc), .v (.nilFunc)] 76]⟩) (PhiLe.refl 0 _) (PanOk.then PanOk.body) 2 rfl (by kernel_rfl) (by kernel_rfl) (by kernel_rfl) (by kernel_rfl) ((vF 81)) (by kernel_rfl) (fun _ _ => Val.ldB rfl hB132d (Nat.zero_lt_succ _) 1 1 (by omega) (by kernel_rfl) ((vF 81)) (by kernel_rfl)) (by kernel_rfl) #[true, true, true, false, false, false, false] (by kernel_rfl) ?_
    refine At.take (S' := ⟨fr 23 [(1, (vP g1 0)), (2, .p 1 0), (4, (vP g129 0)), (18, .agg [(vI 1), (vF 81), (vF 78)]), (19, (vP g129 1)), (20, (vF 81)), (21, .agg (nV 8 s0 s1 s2 s3 mn mx))], [.dead, .c [(vI 0), .v (.nilFunc), .v (.nilFunc)] 76]⟩) (PhiLe.refl 0 _) (PanOk.then PanOk.body) 3 rfl (by kernel_rfl) (by kernel_rfl) (by kernel_rfl) (by kernel_rfl) (.agg (nV 8 s0 s1 s2 s3 mn mx)) (by kernel_rfl) (fun _ _ => Val.ldB rfl hB4d (Nat.zero_lt_succ _) 0 0 (by omega) (by kernel_rfl) (.agg (nV 8 s0 s1 s2 s3 mn mx)) (by kernel_rfl)) (by kernel_rfl) #[true, true, true, true, false, false, false] (by kernel_rfl) ?_
    refine At.any1 4 (by kernel_rfl) rfl #[true, true, true, true, true, false, false] (by kernel_rfl) ?_
    refine At.callV rfl (by kernel_rfl) 81 [] [] (by kernel_rfl) Try.func81 (by kernel_rfl) (by kernel_rfl) [.agg (nV 8 s0 s1 s2 s3 mn mx)] (by kernel_rfl) (by kernel_rfl) (plain_c Φ130 (⟨8, s0, s1, s2, s3, mn, mx⟩ : Nd)) ?_
    rintro Φ133 _ hle134 rfl
    have hB4 := hB4.mono hle134
    have hB132 := hB132.mono hle134
    refine ⟨⟨fr 23 [(1, (vP g1 0)), (2, .p 1 0), (4, (vP g129 0)), (18, .agg [(vI 1), (vF 81), (vF 78)]), (19, (vP g129 1)), (20, (vF 81)), (21, .agg (nV 8 s0 s1 s2 s3 mn mx)), (22, (vB (Nd.plain (⟨8, s0, s1, s2, s3, mn, mx⟩ : Nd))))], [.dead, .c [(vI 0), .v (.nilFunc), .v (.nilFunc)] 76]⟩, by kernel_rfl, by kernel_rfl, ?_⟩
    refine At.nil ?_
    refine At.then_normal ?_
    refine At.held hle134 ?_
    refine At.any1 5 (by kernel_rfl) rfl #[true, true, true, true, true, true, false] (by kernel_rfl) ?_
    refine At.runk 1 [] [] ⟨fr 23 [(1, (vP g1 0)), (2, .p 1 0), (4, (vP g129 0)), (18, .agg [(vI 1), (vF 81), (vF 78)]), (19, (vP g129 1)), (20, (vF 81)), (21, .agg (nV 8 s0 s1 s2 s3 mn mx)), (22, (vB (Nd.plain (⟨8, s0, s1, s2, s3, mn, mx⟩ : Nd))))], [.dead, .c [(vI 1), (vF 81), (vF 78)] 76]⟩ (by kernel_rfl) ?_
    refine At.nil ?_
    refine At.then_normal ?_
    refine At.held hle134 ?_
    refine At.take (S' := ⟨fr 23 [(1, (vP g1 0)), (2, .p 1 0), (3, (vB (Nd.plain (⟨8, s0, s1, s2, s3, mn, mx⟩ : Nd)))), (4, (vP g129 0)), (18, .agg [(vI 1), (vF 81), (vF 78)]), (19, (vP g129 1)), (20, (vF 81)), (21, .agg (nV 8 s0 s1 s2 s3 mn mx)), (22, (vB (Nd.plain (⟨8, s0, s1, s2, s3, mn, mx⟩ : Nd))))], [.dead, .c [(vI 1), (vF 81), (vF 78)] 76]⟩) hle134 (PanOk.then PanOk.body) 6 rfl (by kernel_rfl) (by kernel_rfl) (by kernel_rfl) (by kernel_rfl) ((vB (Nd.plain (⟨8, s0, s1, s2, s3, mn, mx⟩ : Nd)))) (by kernel_rfl) (fun _ _ => Val.ev rfl (by kernel_rfl) (by kernel_rfl)) (by kernel_rfl) #[true, true, true, true, true, true, true] (by kernel_rfl) ?_
    refine At.drawn_done (by kernel_rfl) ?_
    refine At.then_normal ?_
    refine At.ret_ ?_
    refine At.forget [1, 4, 18, 19, 20, 21, 22] 2 [] ⟨fr 23 [(2, .p 1 0), (3, (vB (Nd.plain (⟨8, s0, s1, s2, s3, mn, mx⟩ : Nd))))], [.dead, .c [(vI 1), (vF 81), (vF 78)] 76]⟩ (by kernel_rfl) (by kernel_rfl) (bleT rfl) ?_
    refine At.leaveX rfl [2, 3] 0 [] ⟨fr 23 [], []⟩ (1, 81, 78, (Nd.plain (⟨8, s0, s1, s2, s3, mn, mx⟩ : Nd))) (by kernel_rfl) (by kernel_rfl) (by kernel_rfl) (by kernel_rfl) (bleT rfl) (by kernel_rfl) (by kernel_rfl) ?_
    simp [kar, mayN, nulN, Nd.may_of]
  · refine At.forget [12] 2 [] ⟨fr 23 [(1, (vP g1 0)), (2, .p 1 0)], [.dead, .c [(vI 0), .v (.nilFunc), .v (.nilFunc)] 76]⟩ (by kernel_rfl) (by kernel_rfl) (bleT rfl) ?_
    refine At.region_draw (by kernel_rfl) 6 (by kernel_rfl) #[false, false, false, false, false, false] (by kernel_rfl) ?_
    have hB4d := hB4
    refine At.take (S' := ⟨fr 23 [(1, (vP g1 0)), (2, .p 1 0), (15, (vP g1 0))], [.dead, .c [(vI 0), .v (.nilFunc), .v (.nilFunc)] 76]⟩) (PhiLe.refl 0 _) (PanOk.then PanOk.body) 1 rfl (by kernel_rfl) (by kernel_rfl) (by kernel_rfl) (by kernel_rfl) ((vP g1 0)) (by kernel_rfl) (fun _ _ => Val.ev rfl (by kernel_rfl) (by kernel_rfl)) (by kernel_rfl) #[false, true, false, false, false, false] (by kernel_rfl) ?_
    refine At.take (S' := ⟨fr 23 [(1, (vP g1 0)), (2, .p 1 0), (15, (vP g1 0)), (16, (vI 9))], [.dead, .c [(vI 0), .v (.nilFunc), .v (.nilFunc)] 76]⟩) (PhiLe.refl 0 _) (PanOk.then PanOk.body) 2 rfl (by kernel_rfl) (by kernel_rfl) (by kernel_rfl) (by kernel_rfl) ((vI 9)) (by kernel_rfl) (fun _ _ => Val.ldB rfl hB4d (Nat.zero_lt_succ _) 0 0 (by omega) (by kernel_rfl) ((vI 9)) (by kernel_rfl)) (by kernel_rfl) #[false, true, true, false, false, false] (by kernel_rfl) ?_
    refine At.any2 0 4 (by kernel_rfl) rfl rfl #[true, true, true, false, false, false] #[false, true, true, false, true, false] (by kernel_rfl) (by kernel_rfl) ?_ ?_
    · refine At.callV rfl (by kernel_rfl) 53 [] [] (by kernel_rfl) Try.func53 (by kernel_rfl) (by kernel_rfl) [] (by kernel_rfl) (by kernel_rfl) (kinds_c Φ2) ?_
      rintro Φ135 ⟨⟩ hle136 -
      have hB4 := hB4.mono hle136
      refine ⟨⟨fr 23 [(1, (vP g1 0)), (2, .p 1 0), (14, kindsV), (15, (vP g1 0)), (16, (vI 9))], [.dead, .c [(vI 0), .v (.nilFunc), .v (.nilFunc)] 76]⟩, by kernel_rfl, by kernel_rfl, ?_⟩
      refine At.nil ?_
      refine At.then_normal ?_
      refine At.held hle136 ?_
      refine At.take (S' := ⟨fr 23 [(1, (vP g1 0)), (2, .p 1 0), (14, kindsV), (15, (vP g1 0)), (16, (vI 9)), (17, .agg [(vI 1), (vF 85), (vF 86)])], [.dead, .c [(vI 0), .v (.nilFunc), .v (.nilFunc)] 76]⟩) hle136 (PanOk.then PanOk.body) 3 rfl (by kernel_rfl) (by kernel_rfl) (by kernel_rfl) (by kernel_rfl) (.agg [(vI 1), (vF 85), (vF 86)]) (by kernel_rfl) (fun _ _ => Val.ev rfl (by kernel_rfl) (by kernel_rfl)) (by kernel_rfl) #[true, true, true, true, false, false] (by kernel_rfl) ?_
      refine At.any1 4 (by kernel_rfl) rfl #[true, true, true, true, true, false] (by kernel_rfl) ?_
      refine At.runk 1 [] [] ⟨fr 23 [(1, (vP g1 0)), (2, .p 1 0), (4, .p 2 0), (14, kindsV), (15, (vP g1 0)), (16, (vI 9)), (17, .agg [(vI 1), (vF 85), (vF 86)])], [.dead, .c [(vI 0), .v (.nilFunc), .v (.nilFunc)] 76, .c [(vI 0), .v (.nilFunc), .v (.nilFunc)] 76]⟩ (by kernel_rfl) ?_
      refine At.nil ?_
      refine At.then_normal ?_
      refine At.held hle136 ?_
      refine At.any1 5 (by kernel_rfl) rfl #[true, true, true, true, true, true] (by kernel_rfl) ?_
      refine At.runk 1 [] [] ⟨fr 23 [(1, (vP g1 0)), (2, .p 1 0), (4, .p 2 0), (14, kindsV), (15, (vP g1 0)), (16, (vI 9)), (17, .agg [(vI 1), (vF 85), (vF 86)])], [.dead, .c [(vI 0), .v (.nilFunc), .v (.nilFunc)] 76, .c [(vI 1), (vF 85), (vF 86)] 76]⟩ (by kernel_rfl) ?_
      refine At.nil ?_
      refine At.then_normal ?_
      refine At.held hle136 ?_
      refine At.drawn_done (by kernel_rfl) ?_
      refine At.then_normal ?_
      refine At.seq ?_
      refine At.freezeC 2 [.int .i64 1, .func (.func 85) #[] #[], .func (.func 86) #[] #[]] rfl rfl (bleT rfl) (bleT rfl) (fun _ => by kernel_rfl) (fun _ => by kernel_rfl) ?_
      intro g137 Φ138 hle139 hB140
      have hB4 := hB4.mono hle139
      refine ⟨⟨fr 23 [(1, (vP g1 0)), (2, .p 1 0), (4, (vP g137 0)), (14, kindsV), (15, (vP g1 0)), (16, (vI 9)), (17, .agg [(vI 1), (vF 85), (vF 86)])], [.dead, .c [(vI 0), .v (.nilFunc), .v (.nilFunc)] 76, .dead]⟩, by kernel_rfl, ?_⟩
      refine At.forget [14, 15, 16, 17] 2 [] ⟨fr 23 [(1, (vP g1 0)), (2, .p 1 0), (4, (vP g137 0))], [.dead, .c [(vI 0), .v (.nilFunc), .v (.nilFunc)] 76]⟩ (by kernel_rfl) (by kernel_rfl) (bleT rfl) ?_
      refine At.region_draw (by kernel_rfl) 7 (by kernel_rfl) #[false, false, false, false, false, false, false] (by kernel_rfl) ?_
      have hB4d := hB4
      have hB140d := hB140
      refine At.take (S' := ⟨fr 23 [(1, (vP g1 0)), (2, .p 1 0), (4, (vP g137 0)), (18, .agg [(vI 1), (vF 85), (vF 86)])], [.dead, .c [(vI 0), .v (.nilFunc), .v (.nilFunc)] 76]⟩) (PhiLe.refl 0 _) (PanOk.then PanOk.body) 0 rfl (by kernel_rfl) (by kernel_rfl) (by kernel_rfl) (by kernel_rfl) (.agg [(vI 1), (vF 85), (vF 86)]) (by kernel_rfl) (fun _ _ => Val.ldB rfl hB140d (Nat.zero_lt_succ _) 0 0 (by omega) (by kernel_rfl) (.agg [(vI 1), (vF 85), (vF 86)]) (by kernel_rfl)) (by kernel_rfl) #[true, false, false, false, false, false, false] (by kernel_rfl) ?_
      refine At.take (S' := ⟨fr 23 [(1, (vP g1 0)), (2, .p 1 0), (4, (vP g137 0)), (18, .agg [(vI 1), (vF 85), (vF 86)]), (19, (vP g137 1))], [.dead, .c [(vI 0), .v (.nilFunc), .v (.nilFunc)] 76]⟩) (PhiLe.refl 0 _) (PanOk.then PanOk.body) 1 rfl (by kernel_rfl) (by kernel_rfl) (by kernel_rfl) (by kernel_rfl) ((vP g137 1)) (by kernel_rfl) (fun _ _ => Val.ev rfl (by kernel_rfl) (by kernel_rfl)) (by kernel_rfl) #[true, true, false, false, false, false, false] (by kernel_rfl) ?_
      refine At.take (S' := ⟨fr 23 [(1, (vP g1 0)), (2, .p 1 0), (4, (vP g137 0)), (18, .agg [(vI 1), (vF 85), (vF 86)]), (19, (vP g137 1)), (20, (vF 85))], [.dead, .c [(vI 0), .v (.nilFunc), .v (.nilFunc)] 76]⟩) (PhiLe.refl 0 _) (PanOk.then PanOk.body) 2 rfl (by kernel_rfl) (by kernel_rfl) (by kernel_rfl) (by kernel_rfl) ((vF 85)) (by kernel_rfl) (fun _ _ => Val.ldB rfl hB140d (Nat.zero_lt_succ _) 1 1 (by omega) (by kernel_rfl) ((vF 85)) (by kernel_rfl)) (by kernel_rfl) #[true, true, true, false, false, false, false] (by kernel_rfl) ?_
      refine At.take (S' := ⟨fr 23 [(1, (vP g1 0)), (2, .p 1 0), (4, (vP g137 0)), (18, .agg [(vI 1), (vF 85), (vF 86)]), (19, (vP g137 1)), (20, (vF 85)), (21, .agg (nV 9 s0 s1 s2 s3 mn mx))], [.dead, .c [(vI 0), .v (.nilFunc), .v (.nilFunc)] 76]⟩) (PhiLe.refl 0 _) (PanOk.then PanOk.body) 3 rfl (by kernel_rfl) (by kernel_rfl) (by kernel_rfl) (by kernel_rfl) (.agg (nV 9 s0 s1 s2 s3 mn mx)) (by kernel_rfl) (fun _ _ => Val.ldB rfl hB4d (Nat.zero_lt_succ _) 0 0 (by omega) (by kernel_rfl) (.agg (nV 9 s0 s1 s2 s3 mn mx)) (by kernel_rfl)) (by kernel_rfl) #[true, true, true, true, false, false, false] (by kernel_rfl) ?_
      refine At.any1 4 (by kernel_rfl) rfl #[true, true, true, true, true, false, false] (by kernel_rfl) ?_
      refine At.callV rfl (by kernel_rfl) 85 [] [] (by kernel_rfl) Try.func85 (by kernel_rfl) (by kernel_rfl) [.agg (nV 9 s0 s1 s2 s3 mn mx)] (by kernel_rfl) (by kernel_rfl) (reps_c Φ138 (⟨9, s0, s1, s2, s3, mn, mx⟩ : Nd)) ?_
      rintro Φ141 _ hle142 rfl
      have hB4 := hB4.mono hle142
      have hB140 := hB140.mono hle142
      refine ⟨⟨fr 23 [(1, (vP g1 0)), (2, .p 1 0), (4, (vP g137 0)), (18, .agg [(vI 1), (vF 85), (vF 86)]), (19, (vP g137 1)), (20, (vF 85)), (21, .agg (nV 9 s0 s1 s2 s3 mn mx)), (22, (vB (Nd.reps (⟨9, s0, s1, s2, s3, mn, mx⟩ : Nd))))], [.dead, .c [(vI 0), .v (.nilFunc), .v (.nilFunc)] 76]⟩, by kernel_rfl, by kernel_rfl, ?_⟩
      refine At.nil ?_
      refine At.then_normal ?_
      refine At.held hle142 ?_
      refine At.any1 5 (by kernel_rfl) rfl #[true, true, true, true, true, true, false] (by kernel_rfl) ?_
      refine At.runk 1 [] [] ⟨fr 23 [(1, (vP g1 0)), (2, .p 1 0), (4, (vP g137 0)), (18, .agg [(vI 1), (vF 85), (vF 86)]), (19, (vP g137 1)), (20, (vF 85)), (21, .agg (nV 9 s0 s1 s2 s3 mn mx)), (22, (vB (Nd.reps (⟨9, s0, s1, s2, s3, mn, mx⟩ : Nd))))], [.dead, .c [(vI 1), (vF 85), (vF 86)] 76]⟩ (by kernel_rfl) ?_
      refine At.nil ?_
      refine At.then_normal ?_
      refine At.held hle142 ?_
      refine At.take (S' := ⟨fr 23 [(1, (vP g1 0)), (2, .p 1 0), (3, (vB (Nd.reps (⟨9, s0, s1, s2, s3, mn, mx⟩ : Nd)))), (4, (vP g137 0)), (18, .agg [(vI 1), (vF 85), (vF 86)]), (19, (vP g137 1)), (20, (vF 85)), (21, .agg (nV 9 s0 s1 s2 s3 mn mx)), (22, (vB (Nd.reps (⟨9, s0, s1, s2, s3, mn, mx⟩ : Nd))))], [.dead, .c [(vI 1), (vF 85), (vF 86)] 76]⟩) hle142 (PanOk.then PanOk.body) 6 rfl (by kernel_rfl) (by kernel_rfl) (by kernel_rfl) (by kernel_rfl) ((vB (Nd.reps (⟨9, s0, s1, s2, s3, mn, mx⟩ : Nd)))) (by kernel_rfl) (fun _ _ => Val.ev rfl (by kernel_rfl) (by kernel_rfl)) (by kernel_rfl) #[true, true, true, true, true, true, true] (by kernel_rfl) ?_
      refine At.drawn_done (by kernel_rfl) ?_
      refine At.then_normal ?_
      refine At.ret_ ?_
      refine At.forget [1, 4, 18, 19, 20, 21, 22] 2 [] ⟨fr 23 [(2, .p 1 0), (3, (vB (Nd.reps (⟨9, s0, s1, s2, s3, mn, mx⟩ : Nd))))], [.dead, .c [(vI 1), (vF 85), (vF 86)] 76]⟩ (by kernel_rfl) (by kernel_rfl) (bleT rfl) ?_
      refine At.leaveX rfl [2, 3] 0 [] ⟨fr 23 [], []⟩ (1, 85, 86, (Nd.reps (⟨9, s0, s1, s2, s3, mn, mx⟩ : Nd))) (by kernel_rfl) (by kernel_rfl) (by kernel_rfl) (by kernel_rfl) (bleT rfl) (by kernel_rfl) (by kernel_rfl) ?_
      simp [kar, mayN, nulN, Nd.may_of]
    refine At.runk 1 [] [] ⟨fr 23 [(1, (vP g1 0)), (2, .p 1 0), (4, .p 2 0), (15, (vP g1 0)), (16, (vI 9))], [.dead, .c [(vI 0), .v (.nilFunc), .v (.nilFunc)] 76, .c [(vI 0), .v (.nilFunc), .v (.nilFunc)] 76]⟩ (by kernel_rfl) ?_
    refine At.nil ?_
    refine At.then_normal ?_
    refine At.held (PhiLe.refl 0 _) ?_
    refine At.any1 0 (by kernel_rfl) rfl #[true, true, true, false, true, false] (by kernel_rfl) ?_
    refine At.callV rfl (by kernel_rfl) 53 [] [] (by kernel_rfl) Try.func53 (by kernel_rfl) (by kernel_rfl) [] (by kernel_rfl) (by kernel_rfl) (kinds_c Φ2) ?_
    rintro Φ143 ⟨⟩ hle144 -
    have hB4 := hB4.mono hle144
    refine ⟨⟨fr 23 [(1, (vP g1 0)), (2, .p 1 0), (4, .p 2 0), (14, kindsV), (15, (vP g1 0)), (16, (vI 9))], [.dead, .c [(vI 0), .v (.nilFunc), .v (.nilFunc)] 76, .c [(vI 0), .v (.nilFunc), .v (.nilFunc)] 76]⟩, by kernel_rfl, by kernel_rfl, ?_⟩
    refine At.nil ?_
    refine At.then_normal ?_
    refine At.held hle144 ?_
    refine At.take (S' := ⟨fr 23 [(1, (vP g1 0)), (2, .p 1 0), (4, .p 2 0), (14, kindsV), (15, (vP g1 0)), (16, (vI 9)), (17, .agg [(vI 1), (vF 85), (vF 86)])], [.dead, .c [(vI 0), .v (.nilFunc), .v (.nilFunc)] 76, .c [(vI 0), .v (.nilFunc), .v (.nilFunc)] 76]⟩) hle144 (PanOk.then PanOk.body) 3 rfl (by kernel_rfl) (by kernel_rfl) (by kernel_rfl) (by kernel_rfl) (.agg [(vI 1), (vF 85), (vF 86)]) (by kernel_rfl) (fun _ _ => Val.ev rfl (by kernel_rfl) (by kernel_rfl)) (by kernel_rfl) #[true, true, true, true, true, false] (by kernel_rfl) ?_
    refine At.any1 5 (by kernel_rfl) rfl #[true, true, true, true, true, true] (by kernel_rfl) ?_
    refine At.runk 1 [] [] ⟨fr 23 [(1, (vP g1 0)), (2, .p 1 0), (4, .p 2 0), (14, kindsV), (15, (vP g1 0)), (16, (vI 9)), (17, .agg [(vI 1), (vF 85), (vF 86)])], [.dead, .c [(vI 0), .v (.nilFunc), .v (.nilFunc)] 76, .c [(vI 1), (vF 85), (vF 86)] 76]⟩ (by kernel_rfl) ?_
    refine At.nil ?_
    refine At.then_normal ?_
    refine At.held hle144 ?_
    refine At.drawn_done (by kernel_rfl) ?_
    refine At.then_normal ?_
    refine At.seq ?_
    refine At.freezeC 2 [.int .i64 1, .func (.func 85) #[] #[], .func (.func 86) #[] #[]] rfl rfl (bleT rfl) (bleT rfl) (fun _ => by kernel_rfl) (fun _ => by kernel_rfl) ?_
    intro g145 Φ146 hle147 hB148
    have hB4 := hB4.mono hle147
    refine ⟨⟨fr 23 [(1, (vP g1 0)), (2, .p 1 0), (4, (vP g145 0)), (14, kindsV), (15, (vP g1 0)), (16, (vI 9)), (17, .agg [(vI 1), (vF 85), (vF 86)])], [.dead, .c [(vI 0), .v (.nilFunc), .v (.nilFunc)] 76, .dead]⟩, by kernel_rfl, ?_⟩
    refine At.forget [14, 15, 16, 17] 2 [] ⟨fr 23 [(1, (vP g1 0)), (2, .p 1 0), (4, (vP g145 0))], [.dead, .c [(vI 0), .v (.nilFunc), .v (.nilFunc)] 76]⟩ (by kernel_rfl) (by kernel_rfl) (bleT rfl) ?_
    refine At.region_draw (by kernel_rfl) 7 (by kernel_rfl) #[false, false, false, false, false, false, false] (by kernel_rfl) ?_
    have hB4d := hB4
    have hB148d := hB148
    refine At.take (S' := ⟨fr 23 [(1, (vP g1 0)), (2, .p 1 0), (4, (vP g145 0)), (18, .agg [(vI 1), (vF 85), (vF 86)])], [.dead, .c [(vI 0), .v (.nilFunc), .v (.nilFunc)] 76]⟩) (PhiLe.refl 0 _) (PanOk.then PanOk.body) 0 rfl (by kernel_rfl) (by kernel_rfl) (by kernel_rfl) (by kernel_rfl) (.agg [(vI 1), (vF 85), (vF 86)]) (by kernel_rfl) (fun _ _ => Val.ldB rfl hB148d (Nat.zero_lt_succ _) 0 0 (by omega) (by kernel_rfl) (.agg [(vI 1), (vF 85), (vF 86)]) (by kernel_rfl)) (by kernel_rfl) #[true, false, false, false, false, false, false] (by kernel_rfl) ?_
    refine At.take (S' := ⟨fr 23 [(1, (vP g1 0)), (2, .p 1 0), (4, (vP g145 0)), (18, .agg [(vI 1), (vF 85), (vF 86)]), (19, (vP g145 1))], [.dead, .c [(vI 0), .v (.nilFunc), .v (.nilFunc)] 76]⟩) (PhiLe.refl 0 _) (PanOk.then PanOk.body) 1 rfl (by kernel_rfl) (by kernel_rfl) (by kernel_rfl) (by kernel_rfl) ((vP g145 1)) (by kernel_rfl) (fun _ _ => Val.ev rfl (by kernel_rfl) (by kernel_rfl)) (by kernel_rfl) #[true, true, false, false, false, false, false] (by kernel_rfl) ?_
    refine At.take (S' := ⟨fr 23 [(1, (vP g1 0)), (2, .p 1 0), (4, (vP g145 0)), (18, .agg [(vI 1), (vF 85), (vF 86)]), (19, (vP g145 1)), (20, (vF 85))], [.dead, .c [(vI 0), .v (.nilFunc), .v (.nilFunc)] 76]⟩) (PhiLe.refl 0 _) (PanOk.then PanOk.body) 2 rfl (by kernel_rfl) (by kernel_rfl) (by kernel_rfl) (by kernel_rfl) ((vF 85)) (by kernel_rfl) (fun _ _ => Val.ldB rfl hB148d (Nat.zero_lt_succ _) 1 1 (by omega) (by kernel_rfl) ((vF 85)) (by kernel_rfl)) (by kernel_rfl) #[true, true, true, false, false, false, false] (by kernel_rfl) ?_
    refine At.take (S' := ⟨fr 23 [(1, (vP g1 0)), (2, .p 1 0), (4, (vP g145 0)), (18, .agg [(vI 1), (vF 85), (vF 86)]), (19, (vP g145 1)), (20, (vF 85)), (21, .agg (nV 9 s0 s1 s2 s3 mn mx))], [.dead, .c [(vI 0), .v (.nilFunc), .v (.nilFunc)] 76]⟩) (PhiLe.refl 0 _) (PanOk.then PanOk.body) 3 rfl (by kernel_rfl) (by kernel_rfl) (by kernel_rfl) (by kernel_rfl) (.agg (nV 9 s0 s1 s2 s3 mn mx)) (by kernel_rfl) (fun _ _ => Val.ldB rfl hB4d (Nat.zero_lt_succ _) 0 0 (by omega) (by kernel_rfl) (.agg (nV 9 s0 s1 s2 s3 mn mx)) (by kernel_rfl)) (by kernel_rfl) #[true, true, true, true, false, false, false] (by kernel_rfl) ?_
    refine At.any1 4 (by kernel_rfl) rfl #[true, true, true, true, true, false, false] (by kernel_rfl) ?_
    refine At.callV rfl (by kernel_rfl) 85 [] [] (by kernel_rfl) Try.func85 (by kernel_rfl) (by kernel_rfl) [.agg (nV 9 s0 s1 s2 s3 mn mx)] (by kernel_rfl) (by kernel_rfl) (reps_c Φ146 (⟨9, s0, s1, s2, s3, mn, mx⟩ : Nd)) ?_
    rintro Φ149 _ hle150 rfl
    have hB4 := hB4.mono hle150
    have hB148 := hB148.mono hle150
    refine ⟨⟨fr 23 [(1, (vP g1 0)), (2, .p 1 0), (4, (vP g145 0)), (18, .agg [(vI 1), (vF 85), (vF 86)]), (19, (vP g145 1)), (20, (vF 85)), (21, .agg (nV 9 s0 s1 s2 s3 mn mx)), (22, (vB (Nd.reps (⟨9, s0, s1, s2, s3, mn, mx⟩ : Nd))))], [.dead, .c [(vI 0), .v (.nilFunc), .v (.nilFunc)] 76]⟩, by kernel_rfl, by kernel_rfl, ?_⟩
    refine At.nil ?_
    refine At.then_normal ?_
    refine At.held hle150 ?_
    refine At.any1 5 (by kernel_rfl) rfl #[true, true, true, true, true, true, false] (by kernel_rfl) ?_
    refine At.runk 1 [] [] ⟨fr 23 [(1, (vP g1 0)), (2, .p 1 0), (4, (vP g145 0)), (18, .agg [(vI 1), (vF 85), (vF 86)]), (19, (vP g145 1)), (20, (vF 85)), (21, .agg (nV 9 s0 s1 s2 s3 mn mx)), (22, (vB (Nd.reps (⟨9, s0, s1, s2, s3, mn, mx⟩ : Nd))))], [.dead, .c [(vI 1), (vF 85), (vF 86)] 76]⟩ (by kernel_rfl) ?_
    refine At.nil ?_
    refine At.then_normal ?_
    refine At.held hle150 ?_
    refine At.take (S' := ⟨fr 23 [(1, (vP g1 0)), (2, .p 1 0), (3, (vB (Nd.reps (⟨9, s0, s1, s2, s3, mn, mx⟩ : Nd)))), (4, (vP g145 0)), (18, .agg [(vI 1), (vF 85), (vF 86)]), (19, (vP g145 1)), (20, (vF 85)), (21, .agg (nV 9 s0 s1 s2 s3 mn mx)), (22, (vB (Nd.reps (⟨9, s0, s1, s2, s3, mn, mx⟩ : Nd))))], [.dead, .c [(vI 1), (vF 85), (vF 86)] 76]⟩) hle150 (PanOk.then PanOk.body) 6 rfl (by kernel_rfl) (by kernel_rfl) (by kernel_rfl) (by kernel_rfl) ((vB (Nd.reps (⟨9, s0, s1, s2, s3, mn, mx⟩ : Nd)))) (by kernel_rfl) (fun _ _ => Val.ev rfl (by kernel_rfl) (by kernel_rfl)) (by kernel_rfl) #[true, true, true, true, true, true, true] (by kernel_rfl) ?_
    refine At.drawn_done (by kernel_rfl) ?_
    refine At.then_normal ?_
    refine At.ret_ ?_
    refine At.forget [1, 4, 18, 19, 20, 21, 22] 2 [] ⟨fr 23 [(2, .p 1 0), (3, (vB (Nd.reps (⟨9, s0, s1, s2, s3, mn, mx⟩ : Nd))))], [.dead, .c [(vI 1), (vF 85), (vF 86)] 76]⟩ (by kernel_rfl) (by kernel_rfl) (bleT rfl) ?_
    refine At.leaveX rfl [2, 3] 0 [] ⟨fr 23 [], []⟩ (1, 85, 86, (Nd.reps (⟨9, s0, s1, s2, s3, mn, mx⟩ : Nd))) (by kernel_rfl) (by kernel_rfl) (by kernel_rfl) (by kernel_rfl) (bleT rfl) (by kernel_rfl) (by kernel_rfl) ?_
    simp [kar, mayN, nulN, Nd.may_of]

theorem known_no (Φ : Phi) (k s0 s1 s2 s3 mn mx : Int) (nw : Nd.wf ⟨k, s0, s1, s2, s3, mn, mx⟩) (hk : ¬ (1 ≤ k ∧ k ≤ 9))  : CallR Try.prog 44 [.agg (nV k s0 s1 s2 s3 mn mx)] [] Φ Unit (fun _ => .tup [.agg [(vI 0), .v .nilFunc, .v .nilFunc], (vB false)]) (fun _ => []) (fun _ _ => True) := by
  refine CallG.enterk Try.func44 rfl [1, 2, 3, 4, 5, 6, 7, 8, 9, 10, 11, 12, 13, 14, 15, 16, 17, 18, 19, 20, 21, 22] ⟨fr 23 [(0, .agg (nV k s0 s1 s2 s3 mn mx))], []⟩ (by kernel_rfl) (by kernel_rfl) ?_
  intro E G β0
  refine At.seq ?_
  refine At.region ?_
  refine At.runk 3 [0, 3] [] ⟨fr 23 [(1, .p 0 0), (2, .p 1 0)], [.c (nV k s0 s1 s2 s3 mn mx) 26, .c [(vI 0), .v (.nilFunc), .v (.nilFunc)] 76]⟩ (by kernel_rfl) ?_
  refine At.nil ?_
  refine At.then_normal ?_
  refine At.seq ?_
  refine At.seq ?_
  refine At.freezeC 0 [.int .i64 k, .int .u64 s0, .int .u64 s1, .int .u64 s2, .int .u64 s3, .int .i64 mn, .int .i64 mx] rfl rfl (bleT rfl) (bleT rfl) (fun _ => by kernel_rfl) (fun _ => by kernel_rfl) ?_
  intro g1 Φ2 hle3 hB4
  refine ⟨⟨fr 23 [(1, (vP g1 0)), (2, .p 1 0)], [.dead, .c [(vI 0), .v (.nilFunc), .v (.nilFunc)] 76]⟩, by kernel_rfl, ?_⟩
  refine At.region ?_
  refine At.runk 1 [] [] ⟨fr 23 [(1, (vP g1 0)), (2, .p 1 0), (5, (vP g1 0))], [.dead, .c [(vI 0), .v (.nilFunc), .v (.nilFunc)] 76]⟩ (by kernel_rfl) ?_
  refine At.vals (S' := ⟨fr 23 [(1, (vP g1 0)), (2, .p 1 0), (5, (vP g1 0)), (6, (vI k))], [.dead, .c [(vI 0), .v (.nilFunc), .v (.nilFunc)] 76]⟩) (by kernel_rfl) ((vI k)) (by kernel_rfl) (Val.ldB rfl hB4 (Nat.zero_lt_succ _) 0 0 (by omega) (by kernel_rfl) ((vI k)) (by kernel_rfl)) ?_
  refine At.runk 2 [5, 6, 7] [] ⟨fr 23 [(1, (vP g1 0)), (2, .p 1 0), (8, (vB (decide (k < 1))))], [.dead, .c [(vI 0), .v (.nilFunc), .v (.nilFunc)] 76]⟩ (by kernel_rfl) ?_
  refine At.bcase (decide (k < 1)) (fun hb5 => ?_) (fun hb5 => ?_)
  · have hb5p : (k < 1) := of_decide_eq_true hb5
    refine At.cast (S' := ⟨fr 23 [(1, (vP g1 0)), (2, .p 1 0), (8, (vB true))], [.dead, .c [(vI 0), .v (.nilFunc), .v (.nilFunc)] 76]⟩) (by rw [hb5] <;> rfl) ?_
    refine At.runk 4 [8, 9, 10, 11] [] ⟨fr 23 [(1, (vP g1 0)), (2, .p 1 0), (12, (vB true))], [.dead, .c [(vI 0), .v (.nilFunc), .v (.nilFunc)] 76]⟩ (by kernel_rfl) ?_
    refine At.nil ?_
    refine At.then_normal ?_
    refine At.cond_t (by kernel_rfl) ?_
    refine At.seq ?_
    refine At.region ?_
    refine At.runk 3 [1, 12, 13] [] ⟨fr 23 [(2, .p 1 0), (3, (vB false))], [.dead, .c [(vI 0), .v (.nilFunc), .v (.nilFunc)] 76]⟩ (by kernel_rfl) ?_
    refine At.nil ?_
    refine At.then_normal ?_
    refine At.ret_ ?_
    refine At.then_ret ?_
    refine At.leaveX rfl [2, 3] 0 [] ⟨fr 23 [], []⟩ () (by kernel_rfl) (by kernel_rfl) (by kernel_rfl) (by kernel_rfl) (bleT rfl) (by kernel_rfl) (by kernel_rfl) ?_
    trivial
  have hb5p : ¬ (k < 1) := of_decide_eq_false hb5
  refine At.cast (S' := ⟨fr 23 [(1, (vP g1 0)), (2, .p 1 0), (8, (vB false))], [.dead, .c [(vI 0), .v (.nilFunc), .v (.nilFunc)] 76]⟩) (by rw [hb5] <;> rfl) ?_
  refine At.runk 1 [] [] ⟨fr 23 [(1, (vP g1 0)), (2, .p 1 0), (8, (vB false)), (9, (vP g1 0))], [.dead, .c [(vI 0), .v (.nilFunc), .v (.nilFunc)] 76]⟩ (by kernel_rfl) ?_
  refine At.vals (S' := ⟨fr 23 [(1, (vP g1 0)), (2, .p 1 0), (8, (vB false)), (9, (vP g1 0)), (10, (vI k))], [.dead, .c [(vI 0), .v (.nilFunc), .v (.nilFunc)] 76]⟩) (by kernel_rfl) ((vI k)) (by kernel_rfl) (Val.ldB rfl hB4 (Nat.zero_lt_succ _) 0 0 (by omega) (by kernel_rfl) ((vI k)) (by kernel_rfl)) ?_
  refine At.runk 2 [8, 9, 10, 11] [] ⟨fr 23 [(1, (vP g1 0)), (2, .p 1 0), (12, (vB (decide (k > 9))))], [.dead, .c [(vI 0), .v (.nilFunc), .v (.nilFunc)] 76]⟩ (by kernel_rfl) ?_
  refine At.nil ?_
  refine At.then_normal ?_
  refine At.bcase (decide (k > 9)) (fun hb6 => ?_) (fun hb6 => ?_)
  · have hb6p : (k > 9) := of_decide_eq_true hb6
    refine At.cast (S' := ⟨fr 23 [(1, (vP g1 0)), (2, .p 1 0), (12, (vB true))], [.dead, .c [(vI 0), .v (.nilFunc), .v (.nilFunc)] 76]⟩) (by rw [hb6] <;> rfl) ?_
    refine At.cond_t (by kernel_rfl) ?_
    refine At.seq ?_
    refine At.region ?_
    refine At.runk 3 [1, 12, 13] [] ⟨fr 23 [(2, .p 1 0), (3, (vB false))], [.dead, .c [(vI 0), .v (.nilFunc), .v (.nilFunc)] 76]⟩ (by kernel_rfl) ?_
    refine At.nil ?_
    refine At.then_normal ?_
    refine At.ret_ ?_
    refine At.then_ret ?_
    refine At.leaveX rfl [2, 3] 0 [] ⟨fr 23 [], []⟩ () (by kernel_rfl) (by kernel_rfl) (by kernel_rfl) (by kernel_rfl) (bleT rfl) (by kernel_rfl) (by kernel_rfl) ?_
    trivial
  have hb6p : ¬ (k > 9) := of_decide_eq_false hb6
  refine At.cast (S' := ⟨fr 23 [(1, (vP g1 0)), (2, .p 1 0), (12, (vB false))], [.dead, .c [(vI 0), .v (.nilFunc), .v (.nilFunc)] 76]⟩) (by rw [hb6] <;> rfl) ?_
  refine At.cond_f (by kernel_rfl) ?_
  refine At.skip ?_
  refine At.then_normal ?_
  refine At.seq ?_
  exfalso; omega

end Go.Sx
