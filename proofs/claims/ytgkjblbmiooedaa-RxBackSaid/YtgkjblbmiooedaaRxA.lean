/- RxA: printed by wip/gen/lib04.py. Walks over functions of the program. -/
import Derived.Test.YtgkjblbmiooedaaRx0
import Derived.Test.YtgkjblbmiooedaaProg
namespace Go.Sx
open Go.Proofs Go.RowKit
theorem arity_c (Φ : Phi) (k : Int)  : CallR Try.prog 14 [(vI k)] [] Φ Int (fun t => (vI t)) (fun _ => []) (fun t _ => t = arity k) := by
  refine CallG.enterk Try.func14 rfl [1, 2, 3, 4, 5, 6, 7, 8, 9, 10, 11, 12, 13, 14, 15] ⟨fr 16 [(0, (vI k))], []⟩ (by kernel_rfl) (by kernel_rfl) ?_
  intro E G β0
  refine At.seq ?_
  refine At.region ?_
  refine At.runk 1 [2] [] ⟨fr 16 [(0, (vI k))], []⟩ (by kernel_rfl) ?_
  refine At.nil ?_
  refine At.then_normal ?_
  refine At.seq ?_
  refine At.seq ?_
  refine At.region ?_
  refine At.runk 1 [0] [] ⟨fr 16 [(3, (vI k))], []⟩ (by kernel_rfl) ?_
  refine At.nil ?_
  refine At.then_normal ?_
  refine At.block ?_
  refine At.seq ?_
  refine At.seq ?_
  refine At.region ?_
  refine At.runk 2 [5] [] ⟨fr 16 [(3, (vI k)), (4, (vB (k == 1)))], []⟩ (by kernel_rfl) ?_
  refine At.nil ?_
  refine At.then_normal ?_
  refine At.bcase (k == 1) (fun hb1 => ?_) (fun hb1 => ?_)
  · have hb1p : (k = 1) := eq_of_beq hb1
    refine At.cast (S' := ⟨fr 16 [(3, (vI k)), (4, (vB true))], []⟩) (by rw [hb1] <;> rfl) ?_
    refine At.cond_t (by kernel_rfl) ?_
    refine At.skip ?_
    refine At.then_normal ?_
    refine At.cond_t (by kernel_rfl) ?_
    refine At.seq ?_
    refine At.region ?_
    refine At.runk 1 [3, 4] [] ⟨fr 16 [(2, (vI 0))], []⟩ (by kernel_rfl) ?_
    refine At.nil ?_
    refine At.then_normal ?_
    refine At.ret_ ?_
    refine At.in_ret ?_
    refine At.then_ret ?_
    refine At.leaveR rfl 0 (by kernel_rfl) (by kernel_rfl) (by kernel_rfl) ?_
    simp_all [arity]
  have hb1p : ¬ (k = 1) := beq_eq_false_iff_ne.1 hb1
  refine At.cast (S' := ⟨fr 16 [(3, (vI k)), (4, (vB false))], []⟩) (by rw [hb1] <;> rfl) ?_
  refine At.cond_f (by kernel_rfl) ?_
  refine At.seq ?_
  refine At.region ?_
  refine At.runk 2 [6] [] ⟨fr 16 [(3, (vI k)), (4, (vB (k == 2)))], []⟩ (by kernel_rfl) ?_
  refine At.nil ?_
  refine At.then_normal ?_
  refine At.bcase (k == 2) (fun hb2 => ?_) (fun hb2 => ?_)
  · have hb2p : (k = 2) := eq_of_beq hb2
    refine At.cast (S' := ⟨fr 16 [(3, (vI k)), (4, (vB true))], []⟩) (by rw [hb2] <;> rfl) ?_
    refine At.cond_t (by kernel_rfl) ?_
    refine At.skip ?_
    refine At.then_normal ?_
    refine At.cond_t (by kernel_rfl) ?_
    refine At.seq ?_
    refine At.region ?_
    refine At.runk 1 [3, 4] [] ⟨fr 16 [(2, (vI 0))], []⟩ (by kernel_rfl) ?_
    refine At.nil ?_
    refine At.then_normal ?_
    refine At.ret_ ?_
    refine At.in_ret ?_
    refine At.then_ret ?_
    refine At.leaveR rfl 0 (by kernel_rfl) (by kernel_rfl) (by kernel_rfl) ?_
    simp_all [arity]
  have hb2p : ¬ (k = 2) := beq_eq_false_iff_ne.1 hb2
  refine At.cast (S' := ⟨fr 16 [(3, (vI k)), (4, (vB false))], []⟩) (by rw [hb2] <;> rfl) ?_
  refine At.cond_f (by kernel_rfl) ?_
  refine At.region ?_
  refine At.runk 2 [7] [] ⟨fr 16 [(3, (vI k)), (4, (vB (k == 3)))], []⟩ (by kernel_rfl) ?_
  refine At.nil ?_
  refine At.then_normal ?_
  refine At.bcase (k == 3) (fun hb3 => ?_) (fun hb3 => ?_)
  · have hb3p : (k = 3) := eq_of_beq hb3
    refine At.cast (S' := ⟨fr 16 [(3, (vI k)), (4, (vB true))], []⟩) (by rw [hb3] <;> rfl) ?_
    refine At.cond_t (by kernel_rfl) ?_
    refine At.seq ?_
    refine At.region ?_
    refine At.runk 1 [3, 4] [] ⟨fr 16 [(2, (vI 0))], []⟩ (by kernel_rfl) ?_
    refine At.nil ?_
    refine At.then_normal ?_
    refine At.ret_ ?_
    refine At.in_ret ?_
    refine At.then_ret ?_
    refine At.leaveR rfl 0 (by kernel_rfl) (by kernel_rfl) (by kernel_rfl) ?_
    simp_all [arity]
  have hb3p : ¬ (k = 3) := beq_eq_false_iff_ne.1 hb3
  refine At.cast (S' := ⟨fr 16 [(3, (vI k)), (4, (vB false))], []⟩) (by rw [hb3] <;> rfl) ?_
  refine At.cond_f (by kernel_rfl) ?_
  refine At.seq ?_
  refine At.seq ?_
  refine At.region ?_
  refine At.runk 2 [4, 9] [] ⟨fr 16 [(3, (vI k)), (8, (vB (k == 4)))], []⟩ (by kernel_rfl) ?_
  refine At.nil ?_
  refine At.then_normal ?_
  refine At.bcase (k == 4) (fun hb4 => ?_) (fun hb4 => ?_)
  · have hb4p : (k = 4) := eq_of_beq hb4
    refine At.cast (S' := ⟨fr 16 [(3, (vI k)), (8, (vB true))], []⟩) (by rw [hb4] <;> rfl) ?_
    refine At.cond_t (by kernel_rfl) ?_
    refine At.skip ?_
    refine At.then_normal ?_
    refine At.cond_t (by kernel_rfl) ?_
    refine At.seq ?_
    refine At.region ?_
    refine At.runk 1 [3, 8] [] ⟨fr 16 [(2, (vI 2))], []⟩ (by kernel_rfl) ?_
    refine At.nil ?_
    refine At.then_normal ?_
    refine At.ret_ ?_
    refine At.in_ret ?_
    refine At.then_ret ?_
    refine At.leaveR rfl 2 (by kernel_rfl) (by kernel_rfl) (by kernel_rfl) ?_
    simp_all [arity]
  have hb4p : ¬ (k = 4) := beq_eq_false_iff_ne.1 hb4
  refine At.cast (S' := ⟨fr 16 [(3, (vI k)), (8, (vB false))], []⟩) (by rw [hb4] <;> rfl) ?_
  refine At.cond_f (by kernel_rfl) ?_
  refine At.region ?_
  refine At.runk 2 [10] [] ⟨fr 16 [(3, (vI k)), (8, (vB (k == 5)))], []⟩ (by kernel_rfl) ?_
  refine At.nil ?_
  refine At.then_normal ?_
  refine At.bcase (k == 5) (fun hb5 => ?_) (fun hb5 => ?_)
  · have hb5p : (k = 5) := eq_of_beq hb5
    refine At.cast (S' := ⟨fr 16 [(3, (vI k)), (8, (vB true))], []⟩) (by rw [hb5] <;> rfl) ?_
    refine At.cond_t (by kernel_rfl) ?_
    refine At.seq ?_
    refine At.region ?_
    refine At.runk 1 [3, 8] [] ⟨fr 16 [(2, (vI 2))], []⟩ (by kernel_rfl) ?_
    refine At.nil ?_
    refine At.then_normal ?_
    refine At.ret_ ?_
    refine At.in_ret ?_
    refine At.then_ret ?_
    refine At.leaveR rfl 2 (by kernel_rfl) (by kernel_rfl) (by kernel_rfl) ?_
    simp_all [arity]
  have hb5p : ¬ (k = 5) := beq_eq_false_iff_ne.1 hb5
  refine At.cast (S' := ⟨fr 16 [(3, (vI k)), (8, (vB false))], []⟩) (by rw [hb5] <;> rfl) ?_
  refine At.cond_f (by kernel_rfl) ?_
  refine At.seq ?_
  refine At.seq ?_
  refine At.region ?_
  refine At.runk 2 [8, 12] [] ⟨fr 16 [(3, (vI k)), (11, (vB (k == 6)))], []⟩ (by kernel_rfl) ?_
  refine At.nil ?_
  refine At.then_normal ?_
  refine At.bcase (k == 6) (fun hb6 => ?_) (fun hb6 => ?_)
  · have hb6p : (k = 6) := eq_of_beq hb6
    refine At.cast (S' := ⟨fr 16 [(3, (vI k)), (11, (vB true))], []⟩) (by rw [hb6] <;> rfl) ?_
    refine At.cond_t (by kernel_rfl) ?_
    refine At.skip ?_
    refine At.then_normal ?_
    refine At.cond_t (by kernel_rfl) ?_
    refine At.seq ?_
    refine At.region ?_
    refine At.runk 1 [3, 11] [] ⟨fr 16 [(2, (vI 1))], []⟩ (by kernel_rfl) ?_
    refine At.nil ?_
    refine At.then_normal ?_
    refine At.ret_ ?_
    refine At.in_ret ?_
    refine At.then_ret ?_
    refine At.leaveR rfl 1 (by kernel_rfl) (by kernel_rfl) (by kernel_rfl) ?_
    simp_all [arity]
  have hb6p : ¬ (k = 6) := beq_eq_false_iff_ne.1 hb6
  refine At.cast (S' := ⟨fr 16 [(3, (vI k)), (11, (vB false))], []⟩) (by rw [hb6] <;> rfl) ?_
  refine At.cond_f (by kernel_rfl) ?_
  refine At.seq ?_
  refine At.region ?_
  refine At.runk 2 [13] [] ⟨fr 16 [(3, (vI k)), (11, (vB (k == 7)))], []⟩ (by kernel_rfl) ?_
  refine At.nil ?_
  refine At.then_normal ?_
  refine At.bcase (k == 7) (fun hb7 => ?_) (fun hb7 => ?_)
  · have hb7p : (k = 7) := eq_of_beq hb7
    refine At.cast (S' := ⟨fr 16 [(3, (vI k)), (11, (vB true))], []⟩) (by rw [hb7] <;> rfl) ?_
    refine At.cond_t (by kernel_rfl) ?_
    refine At.skip ?_
    refine At.then_normal ?_
    refine At.cond_t (by kernel_rfl) ?_
    refine At.seq ?_
    refine At.region ?_
    refine At.runk 1 [3, 11] [] ⟨fr 16 [(2, (vI 1))], []⟩ (by kernel_rfl) ?_
    refine At.nil ?_
    refine At.then_normal ?_
    refine At.ret_ ?_
    refine At.in_ret ?_
    refine At.then_ret ?_
    refine At.leaveR rfl 1 (by kernel_rfl) (by kernel_rfl) (by kernel_rfl) ?_
    simp_all [arity]
  have hb7p : ¬ (k = 7) := beq_eq_false_iff_ne.1 hb7
  refine At.cast (S' := ⟨fr 16 [(3, (vI k)), (11, (vB false))], []⟩) (by rw [hb7] <;> rfl) ?_
  refine At.cond_f (by kernel_rfl) ?_
  refine At.seq ?_
  refine At.region ?_
  refine At.runk 2 [14] [] ⟨fr 16 [(3, (vI k)), (11, (vB (k == 8)))], []⟩ (by kernel_rfl) ?_
  refine At.nil ?_
  refine At.then_normal ?_
  refine At.bcase (k == 8) (fun hb8 => ?_) (fun hb8 => ?_)
  · have hb8p : (k = 8) := eq_of_beq hb8
    refine At.cast (S' := ⟨fr 16 [(3, (vI k)), (11, (vB true))], []⟩) (by rw [hb8] <;> rfl) ?_
    refine At.cond_t (by kernel_rfl) ?_
    refine At.skip ?_
    refine At.then_normal ?_
    refine At.cond_t (by kernel_rfl) ?_
    refine At.seq ?_
    refine At.region ?_
    refine At.runk 1 [3, 11] [] ⟨fr 16 [(2, (vI 1))], []⟩ (by kernel_rfl) ?_
    refine At.nil ?_
    refine At.then_normal ?_
    refine At.ret_ ?_
    refine At.in_ret ?_
    refine At.then_ret ?_
    refine At.leaveR rfl 1 (by kernel_rfl) (by kernel_rfl) (by kernel_rfl) ?_
    simp_all [arity]
  have hb8p : ¬ (k = 8) := beq_eq_false_iff_ne.1 hb8
  refine At.cast (S' := ⟨fr 16 [(3, (vI k)), (11, (vB false))], []⟩) (by rw [hb8] <;> rfl) ?_
  refine At.cond_f (by kernel_rfl) ?_
  refine At.region ?_
  refine At.runk 2 [3, 15] [] ⟨fr 16 [(11, (vB (k == 9)))], []⟩ (by kernel_rfl) ?_
  refine At.nil ?_
  refine At.then_normal ?_
  refine At.bcase (k == 9) (fun hb9 => ?_) (fun hb9 => ?_)
  · have hb9p : (k = 9) := eq_of_beq hb9
    refine At.cast (S' := ⟨fr 16 [(11, (vB true))], []⟩) (by rw [hb9] <;> rfl) ?_
    refine At.cond_t (by kernel_rfl) ?_
    refine At.seq ?_
    refine At.region ?_
    refine At.runk 1 [11] [] ⟨fr 16 [(2, (vI 1))], []⟩ (by kernel_rfl) ?_
    refine At.nil ?_
    refine At.then_normal ?_
    refine At.ret_ ?_
    refine At.in_ret ?_
    refine At.then_ret ?_
    refine At.leaveR rfl 1 (by kernel_rfl) (by kernel_rfl) (by kernel_rfl) ?_
    simp_all [arity]
  have hb9p : ¬ (k = 9) := beq_eq_false_iff_ne.1 hb9
  refine At.cast (S' := ⟨fr 16 [(11, (vB false))], []⟩) (by rw [hb9] <;> rfl) ?_
  refine At.cond_f (by kernel_rfl) ?_
  refine At.skip ?_
  refine At.in_normal ?_
  refine At.then_normal ?_
  refine At.seq ?_
  refine At.region ?_
  refine At.runk 1 [11] [] ⟨fr 16 [(2, (vI (-1)))], []⟩ (by kernel_rfl) ?_
  refine At.nil ?_
  refine At.then_normal ?_
  refine At.ret_ ?_
  refine At.leaveR rfl (-1) (by kernel_rfl) (by kernel_rfl) (by kernel_rfl) ?_
  simp_all [arity]

theorem rnode_c (Φ : Phi) (n : Nd)  : CallR Try.prog 13 [.agg n.sv] [] Φ Bool (fun t => (vB t)) (fun _ => []) (fun t _ => t = n.may) := by
  refine CallG.enterk Try.func13 rfl [1, 2, 3, 4, 5, 6, 7, 8, 9, 10, 11, 12, 13, 14, 15, 16, 17, 18, 19, 20, 21, 22, 23, 24, 25, 26, 27, 28, 29, 30, 31, 32, 33, 34, 35, 36, 37, 38, 39, 40, 41, 42, 43, 44, 45, 46, 47, 48, 49, 50, 51, 52] ⟨fr 53 [(0, .agg n.sv)], []⟩ (by kernel_rfl) (by kernel_rfl) ?_
  intro E G β0
  refine At.seq ?_
  refine At.region ?_
  refine At.runk 2 [0, 2] [] ⟨fr 53 [(1, .p 0 0)], [.c n.sv 26]⟩ (by kernel_rfl) ?_
  refine At.nil ?_
  refine At.then_normal ?_
  refine At.seq ?_
  refine At.seq ?_
  refine At.freezeC 0 [.int .i64 n.kind, .int .u64 n.s0, .int .u64 n.s1, .int .u64 n.s2, .int .u64 n.s3, .int .i64 n.mn, .int .i64 n.mx] rfl rfl (bleT rfl) (bleT rfl) (fun _ => by kernel_rfl) (fun _ => by kernel_rfl) ?_
  intro g1 Φ2 hle3 hB4
  refine ⟨⟨fr 53 [(1, (vP g1 0))], [.dead]⟩, by kernel_rfl, ?_⟩
  refine At.forget [] 0 [] ⟨fr 53 [(1, (vP g1 0))], []⟩ (by kernel_rfl) (by kernel_rfl) (bleT rfl) ?_
  refine At.region_draw (by kernel_rfl) 14 (by kernel_rfl) #[false, false, false, false, false, false, false, false, false, false, false, false, false, false] (by kernel_rfl) ?_
  have hB4d := hB4
  refine At.take (S' := ⟨fr 53 [(1, (vP g1 0)), (3, (vP g1 0))], []⟩) (PhiLe.refl 0 _) (PanOk.then (PanOk.then PanOk.body)) 0 rfl (by kernel_rfl) (by kernel_rfl) (by kernel_rfl) (by kernel_rfl) ((vP g1 0)) (by kernel_rfl) (fun _ _ => Val.ev rfl (by kernel_rfl) (by kernel_rfl)) (by kernel_rfl) #[true, false, false, false, false, false, false, false, false, false, false, false, false, false] (by kernel_rfl) ?_
  refine At.take (S' := ⟨fr 53 [(1, (vP g1 0)), (3, (vP g1 0)), (4, (vI n.kind))], []⟩) (PhiLe.refl 0 _) (PanOk.then (PanOk.then PanOk.body)) 1 rfl (by kernel_rfl) (by kernel_rfl) (by kernel_rfl) (by kernel_rfl) ((vI n.kind)) (by kernel_rfl) (fun _ _ => Val.ldB rfl hB4d (Nat.zero_lt_succ _) 0 0 (by omega) (by kernel_rfl) ((vI n.kind)) (by kernel_rfl)) (by kernel_rfl) #[true, true, false, false, false, false, false, false, false, false, false, false, false, false] (by kernel_rfl) ?_
  refine At.any1 2 (by kernel_rfl) rfl #[true, true, true, false, false, false, false, false, false, false, false, false, false, false] (by kernel_rfl) ?_
  refine At.callV rfl (by kernel_rfl) 14 [] [] (by kernel_rfl) Try.func14 (by kernel_rfl) (by kernel_rfl) [(vI n.kind)] (by kernel_rfl) (by kernel_rfl) (arity_c Φ2 n.kind) ?_
  rintro Φ5 _ hle6 rfl
  have hB4 := hB4.mono hle6
  refine ⟨⟨fr 53 [(1, (vP g1 0)), (3, (vP g1 0)), (4, (vI n.kind)), (5, (vI (arity n.kind)))], []⟩, by kernel_rfl, by kernel_rfl, ?_⟩
  refine At.nil ?_
  refine At.then_normal ?_
  refine At.held hle6 ?_
  refine At.take (S' := ⟨fr 53 [(1, (vP g1 0)), (3, (vP g1 0)), (4, (vI n.kind)), (5, (vI (arity n.kind))), (6, (vB (decide ((arity n.kind) < 0))))], []⟩) hle6 (PanOk.then (PanOk.then PanOk.body)) 3 rfl (by kernel_rfl) (by kernel_rfl) (by kernel_rfl) (by kernel_rfl) ((vB (decide ((arity n.kind) < 0)))) (by kernel_rfl) (fun _ _ => Val.ev rfl (by kernel_rfl) (by kernel_rfl)) (by kernel_rfl) #[true, true, true, true, false, false, false, false, false, false, false, false, false, false] (by kernel_rfl) ?_
  refine At.take (S' := ⟨fr 53 [(1, (vP g1 0)), (3, (vP g1 0)), (4, (vI n.kind)), (5, (vI (arity n.kind))), (6, (vB (decide ((arity n.kind) < 0)))), (7, (vB (decide ((arity n.kind) < 0))))], []⟩) hle6 (PanOk.then (PanOk.then PanOk.body)) 4 rfl (by kernel_rfl) (by kernel_rfl) (by kernel_rfl) (by kernel_rfl) ((vB (decide ((arity n.kind) < 0)))) (by kernel_rfl) (fun _ _ => Val.ev rfl (by kernel_rfl) (by kernel_rfl)) (by kernel_rfl) #[true, true, true, true, true, false, false, false, false, false, false, false, false, false] (by kernel_rfl) ?_
  refine At.bcase (decide ((arity n.kind) < 0)) (fun hb7 => ?_) (fun hb7 => ?_)
  · have hb7p : ((arity n.kind) < 0) := of_decide_eq_true hb7
    refine At.cast (S' := ⟨fr 53 [(1, (vP g1 0)), (3, (vP g1 0)), (4, (vI n.kind)), (5, (vI (arity n.kind))), (6, (vB true)), (7, (vB true))], []⟩) (by rw [hb7] <;> rfl) ?_
    refine At.takeN (S' := ⟨fr 53 [(1, (vP g1 0)), (3, (vP g1 0)), (4, (vI n.kind)), (5, (vI (arity n.kind))), (6, (vB true)), (7, (vB true)), (8, U)], []⟩) hle6 (PanOk.then (PanOk.then PanOk.body)) 5 rfl (by kernel_rfl) (by kernel_rfl) (by kernel_rfl) (by kernel_rfl) (by kernel_rfl) #[true, true, true, true, true, true, false, false, false, false, false, false, false, false] (by kernel_rfl) ?_
    refine At.takeN (S' := ⟨fr 53 [(1, (vP g1 0)), (3, (vP g1 0)), (4, (vI n.kind)), (5, (vI (arity n.kind))), (6, (vB true)), (7, (vB true)), (8, U), (9, U)], []⟩) hle6 (PanOk.then (PanOk.then PanOk.body)) 6 rfl (by kernel_rfl) (by kernel_rfl) (by kernel_rfl) (by kernel_rfl) (by kernel_rfl) #[true, true, true, true, true, true, true, false, false, false, false, false, false, false] (by kernel_rfl) ?_
    refine At.takeN (S' := ⟨fr 53 [(1, (vP g1 0)), (3, (vP g1 0)), (4, (vI n.kind)), (5, (vI (arity n.kind))), (6, (vB true)), (7, (vB true)), (8, U), (9, U), (10, U)], []⟩) hle6 (PanOk.then (PanOk.then PanOk.body)) 7 rfl (by kernel_rfl) (by kernel_rfl) (by kernel_rfl) (by kernel_rfl) (by kernel_rfl) #[true, true, true, true, true, true, true, true, false, false, false, false, false, false] (by kernel_rfl) ?_
    refine At.takeN (S' := ⟨fr 53 [(1, (vP g1 0)), (3, (vP g1 0)), (4, (vI n.kind)), (5, (vI (arity n.kind))), (6, (vB true)), (7, (vB true)), (8, U), (9, U), (10, U), (11, U)], []⟩) hle6 (PanOk.then (PanOk.then PanOk.body)) 8 rfl (by kernel_rfl) (by kernel_rfl) (by kernel_rfl) (by kernel_rfl) (by kernel_rfl) #[true, true, true, true, true, true, true, true, true, false, false, false, false, false] (by kernel_rfl) ?_
    refine At.takeN (S' := ⟨fr 53 [(1, (vP g1 0)), (3, (vP g1 0)), (4, (vI n.kind)), (5, (vI (arity n.kind))), (6, (vB true)), (7, (vB true)), (8, U), (9, U), (10, U), (11, U), (12, U)], []⟩) hle6 (PanOk.then (PanOk.then PanOk.body)) 9 rfl (by kernel_rfl) (by kernel_rfl) (by kernel_rfl) (by kernel_rfl) (by kernel_rfl) #[true, true, true, true, true, true, true, true, true, true, false, false, false, false] (by kernel_rfl) ?_
    refine At.takeN (S' := ⟨fr 53 [(1, (vP g1 0)), (3, (vP g1 0)), (4, (vI n.kind)), (5, (vI (arity n.kind))), (6, (vB true)), (7, (vB true)), (8, U), (9, U), (10, U), (11, U), (12, U), (13, U)], []⟩) hle6 (PanOk.then (PanOk.then PanOk.body)) 10 rfl (by kernel_rfl) (by kernel_rfl) (by kernel_rfl) (by kernel_rfl) (by kernel_rfl) #[true, true, true, true, true, true, true, true, true, true, true, false, false, false] (by kernel_rfl) ?_
    refine At.takeN (S' := ⟨fr 53 [(1, (vP g1 0)), (3, (vP g1 0)), (4, (vI n.kind)), (5, (vI (arity n.kind))), (6, (vB true)), (7, (vB true)), (8, U), (9, U), (10, U), (11, U), (12, U), (13, U), (14, U)], []⟩) hle6 (PanOk.then (PanOk.then PanOk.body)) 11 rfl (by kernel_rfl) (by kernel_rfl) (by kernel_rfl) (by kernel_rfl) (by kernel_rfl) #[true, true, true, true, true, true, true, true, true, true, true, true, false, false] (by kernel_rfl) ?_
    refine At.takeN (S' := ⟨fr 53 [(1, (vP g1 0)), (3, (vP g1 0)), (4, (vI n.kind)), (5, (vI (arity n.kind))), (6, (vB true)), (7, (vB true)), (8, U), (9, U), (10, U), (11, U), (12, U), (13, U), (14, U), (15, U)], []⟩) hle6 (PanOk.then (PanOk.then PanOk.body)) 12 rfl (by kernel_rfl) (by kernel_rfl) (by kernel_rfl) (by kernel_rfl) (by kernel_rfl) #[true, true, true, true, true, true, true, true, true, true, true, true, true, false] (by kernel_rfl) ?_
    refine At.take (S' := ⟨fr 53 [(1, (vP g1 0)), (3, (vP g1 0)), (4, (vI n.kind)), (5, (vI (arity n.kind))), (6, (vB true)), (7, (vB true)), (8, U), (9, U), (10, U), (11, U), (12, U), (13, U), (14, U), (15, U), (16, (vB true))], []⟩) hle6 (PanOk.then (PanOk.then PanOk.body)) 13 rfl (by kernel_rfl) (by kernel_rfl) (by kernel_rfl) (by kernel_rfl) ((vB true)) (by kernel_rfl) (fun _ _ => Val.ev rfl (by kernel_rfl) (by kernel_rfl)) (by kernel_rfl) #[true, true, true, true, true, true, true, true, true, true, true, true, true, true] (by kernel_rfl) ?_
    refine At.drawn_done (by kernel_rfl) ?_
    refine At.then_normal ?_
    refine At.cond_t (by kernel_rfl) ?_
    refine At.seq ?_
    refine At.region ?_
    refine At.runk 1 [1, 3, 4, 5, 6, 7, 8, 9, 10, 11, 12, 13, 14, 15, 16] [] ⟨fr 53 [(2, (vB false))], []⟩ (by kernel_rfl) ?_
    refine At.nil ?_
    refine At.then_normal ?_
    refine At.ret_ ?_
    refine At.then_ret ?_
    refine At.leaveR rfl false (by kernel_rfl) (by kernel_rfl) (by kernel_rfl) ?_
    grind [Nd.may, Nd.noset]
  have hb7p : ¬ ((arity n.kind) < 0) := of_decide_eq_false hb7
  refine At.cast (S' := ⟨fr 53 [(1, (vP g1 0)), (3, (vP g1 0)), (4, (vI n.kind)), (5, (vI (arity n.kind))), (6, (vB false)), (7, (vB false))], []⟩) (by rw [hb7] <;> rfl) ?_
  refine At.take (S' := ⟨fr 53 [(1, (vP g1 0)), (3, (vP g1 0)), (4, (vI n.kind)), (5, (vI (arity n.kind))), (6, (vB false)), (7, (vB false)), (8, (vP g1 0))], []⟩) hle6 (PanOk.then (PanOk.then PanOk.body)) 5 rfl (by kernel_rfl) (by kernel_rfl) (by kernel_rfl) (by kernel_rfl) ((vP g1 0)) (by kernel_rfl) (fun _ _ => Val.ev rfl (by kernel_rfl) (by kernel_rfl)) (by kernel_rfl) #[true, true, true, true, true, true, false, false, false, false, false, false, false, false] (by kernel_rfl) ?_
  refine At.take (S' := ⟨fr 53 [(1, (vP g1 0)), (3, (vP g1 0)), (4, (vI n.kind)), (5, (vI (arity n.kind))), (6, (vB false)), (7, (vB false)), (8, (vP g1 0)), (9, (vI n.kind))], []⟩) hle6 (PanOk.then (PanOk.then PanOk.body)) 6 rfl (by kernel_rfl) (by kernel_rfl) (by kernel_rfl) (by kernel_rfl) ((vI n.kind)) (by kernel_rfl) (fun _ _ => Val.ldB rfl hB4d (Nat.zero_lt_succ _) 0 0 (by omega) (by kernel_rfl) ((vI n.kind)) (by kernel_rfl)) (by kernel_rfl) #[true, true, true, true, true, true, true, false, false, false, false, false, false, false] (by kernel_rfl) ?_
  refine At.take (S' := ⟨fr 53 [(1, (vP g1 0)), (3, (vP g1 0)), (4, (vI n.kind)), (5, (vI (arity n.kind))), (6, (vB false)), (7, (vB false)), (8, (vP g1 0)), (9, (vI n.kind)), (10, (vB (n.kind == 3)))], []⟩) hle6 (PanOk.then (PanOk.then PanOk.body)) 7 rfl (by kernel_rfl) (by kernel_rfl) (by kernel_rfl) (by kernel_rfl) ((vB (n.kind == 3))) (by kernel_rfl) (fun _ _ => Val.ev rfl (by kernel_rfl) (by kernel_rfl)) (by kernel_rfl) #[true, true, true, true, true, true, true, true, false, false, false, false, false, false] (by kernel_rfl) ?_
  refine At.take (S' := ⟨fr 53 [(1, (vP g1 0)), (3, (vP g1 0)), (4, (vI n.kind)), (5, (vI (arity n.kind))), (6, (vB false)), (7, (vB false)), (8, (vP g1 0)), (9, (vI n.kind)), (10, (vB (n.kind == 3))), (11, (vP g1 1))], []⟩) hle6 (PanOk.then (PanOk.then PanOk.body)) 8 rfl (by kernel_rfl) (by kernel_rfl) (by kernel_rfl) (by kernel_rfl) ((vP g1 1)) (by kernel_rfl) (fun _ _ => Val.ev rfl (by kernel_rfl) (by kernel_rfl)) (by kernel_rfl) #[true, true, true, true, true, true, true, true, true, false, false, false, false, false] (by kernel_rfl) ?_
  refine At.take (S' := ⟨fr 53 [(1, (vP g1 0)), (3, (vP g1 0)), (4, (vI n.kind)), (5, (vI (arity n.kind))), (6, (vB false)), (7, (vB false)), (8, (vP g1 0)), (9, (vI n.kind)), (10, (vB (n.kind == 3))), (11, (vP g1 1)), (12, .agg n.su)], []⟩) hle6 (PanOk.then (PanOk.then PanOk.body)) 9 rfl (by kernel_rfl) (by kernel_rfl) (by kernel_rfl) (by kernel_rfl) (.agg n.su) (by kernel_rfl) (fun _ _ => Val.ldB rfl hB4d (Nat.zero_lt_succ _) 1 1 (by omega) (by kernel_rfl) (.agg n.su) (by kernel_rfl)) (by kernel_rfl) #[true, true, true, true, true, true, true, true, true, true, false, false, false, false] (by kernel_rfl) ?_
  refine At.take (S' := ⟨fr 53 [(1, (vP g1 0)), (3, (vP g1 0)), (4, (vI n.kind)), (5, (vI (arity n.kind))), (6, (vB false)), (7, (vB false)), (8, (vP g1 0)), (9, (vI n.kind)), (10, (vB (n.kind == 3))), (11, (vP g1 1)), (12, .agg n.su), (13, .agg (uV 0 0 0 0))], []⟩) hle6 (PanOk.then (PanOk.then PanOk.body)) 10 rfl (by kernel_rfl) (by kernel_rfl) (by kernel_rfl) (by kernel_rfl) (.agg (uV 0 0 0 0)) (by kernel_rfl) (fun _ _ => Val.ev rfl (by kernel_rfl) (by kernel_rfl)) (by kernel_rfl) #[true, true, true, true, true, true, true, true, true, true, true, false, false, false] (by kernel_rfl) ?_
  refine At.take (S' := ⟨fr 53 [(1, (vP g1 0)), (3, (vP g1 0)), (4, (vI n.kind)), (5, (vI (arity n.kind))), (6, (vB false)), (7, (vB false)), (8, (vP g1 0)), (9, (vI n.kind)), (10, (vB (n.kind == 3))), (11, (vP g1 1)), (12, .agg n.su), (13, .agg (uV 0 0 0 0)), (14, (vB (!((n.s0 == 0) && ((n.s1 == 0) && ((n.s2 == 0) && ((n.s3 == 0) && true)))))))], []⟩) hle6 (PanOk.then (PanOk.then PanOk.body)) 11 rfl (by kernel_rfl) (by kernel_rfl) (by kernel_rfl) (by kernel_rfl) ((vB (!((n.s0 == 0) && ((n.s1 == 0) && ((n.s2 == 0) && ((n.s3 == 0) && true))))))) (by kernel_rfl) (fun _ _ => Val.eqv rfl (xs := n.su) (ys := (uV 0 0 0 0)) (by kernel_rfl) (by kernel_rfl) (b := ((n.s0 == 0) && ((n.s1 == 0) && ((n.s2 == 0) && ((n.s3 == 0) && true))))) (by kernel_rfl) (by kernel_rfl) (!((n.s0 == 0) && ((n.s1 == 0) && ((n.s2 == 0) && ((n.s3 == 0) && true))))) (.inr ⟨rfl, rfl⟩)) (by kernel_rfl) #[true, true, true, true, true, true, true, true, true, true, true, true, false, false] (by kernel_rfl) ?_
  refine At.bcase (n.kind == 3) (fun hb8 => ?_) (fun hb8 => ?_)
  · have hb8p : (n.kind = 3) := eq_of_beq hb8
    refine At.cast (S' := ⟨fr 53 [(1, (vP g1 0)), (3, (vP g1 0)), (4, (vI n.kind)), (5, (vI (arity n.kind))), (6, (vB false)), (7, (vB false)), (8, (vP g1 0)), (9, (vI n.kind)), (10, (vB true)), (11, (vP g1 1)), (12, .agg n.su), (13, .agg (uV 0 0 0 0)), (14, (vB (!((n.s0 == 0) && ((n.s1 == 0) && ((n.s2 == 0) && ((n.s3 == 0) && true)))))))], []⟩) (by rw [hb8] <;> rfl) ?_
    refine At.bcase (!((n.s0 == 0) && ((n.s1 == 0) && ((n.s2 == 0) && ((n.s3 == 0) && true))))) (fun hb9 => ?_) (fun hb9 => ?_)
    · refine At.cast (S' := ⟨fr 53 [(1, (vP g1 0)), (3, (vP g1 0)), (4, (vI n.kind)), (5, (vI (arity n.kind))), (6, (vB false)), (7, (vB false)), (8, (vP g1 0)), (9, (vI n.kind)), (10, (vB true)), (11, (vP g1 1)), (12, .agg n.su), (13, .agg (uV 0 0 0 0)), (14, (vB true))], []⟩) (by rw [hb9] <;> rfl) ?_
      refine At.take (S' := ⟨fr 53 [(1, (vP g1 0)), (3, (vP g1 0)), (4, (vI n.kind)), (5, (vI (arity n.kind))), (6, (vB false)), (7, (vB false)), (8, (vP g1 0)), (9, (vI n.kind)), (10, (vB true)), (11, (vP g1 1)), (12, .agg n.su), (13, .agg (uV 0 0 0 0)), (14, (vB true)), (15, (vB false))], []⟩) hle6 (PanOk.then (PanOk.then PanOk.body)) 12 rfl (by kernel_rfl) (by kernel_rfl) (by kernel_rfl) (by kernel_rfl) ((vB false)) (by kernel_rfl) (fun _ _ => Val.ev rfl (by kernel_rfl) (by kernel_rfl)) (by kernel_rfl) #[true, true, true, true, true, true, true, true, true, true, true, true, true, false] (by kernel_rfl) ?_
      refine At.take (S' := ⟨fr 53 [(1, (vP g1 0)), (3, (vP g1 0)), (4, (vI n.kind)), (5, (vI (arity n.kind))), (6, (vB false)), (7, (vB false)), (8, (vP g1 0)), (9, (vI n.kind)), (10, (vB true)), (11, (vP g1 1)), (12, .agg n.su), (13, .agg (uV 0 0 0 0)), (14, (vB true)), (15, (vB false)), (16, (vB false))], []⟩) hle6 (PanOk.then (PanOk.then PanOk.body)) 13 rfl (by kernel_rfl) (by kernel_rfl) (by kernel_rfl) (by kernel_rfl) ((vB false)) (by kernel_rfl) (fun _ _ => Val.ev rfl (by kernel_rfl) (by kernel_rfl)) (by kernel_rfl) #[true, true, true, true, true, true, true, true, true, true, true, true, true, true] (by kernel_rfl) ?_
      refine At.drawn_done (by kernel_rfl) ?_
      refine At.then_normal ?_
      refine At.cond_f (by kernel_rfl) ?_
      refine At.skip ?_
      refine At.then_normal ?_
      refine At.seq ?_
      refine At.seq ?_
      refine At.region ?_
      refine At.runk 1 [3, 4, 5, 6, 7, 8, 9, 10, 11, 12, 13, 14, 15, 16] [] ⟨fr 53 [(1, (vP g1 0)), (17, (vP g1 0))], []⟩ (by kernel_rfl) ?_
      refine At.vals (S' := ⟨fr 53 [(1, (vP g1 0)), (17, (vP g1 0)), (18, (vI n.kind))], []⟩) (by kernel_rfl) ((vI n.kind)) (by kernel_rfl) (Val.ldB rfl hB4 (Nat.zero_lt_succ _) 0 0 (by omega) (by kernel_rfl) ((vI n.kind)) (by kernel_rfl)) ?_
      refine At.runk 1 [17, 18] [] ⟨fr 53 [(1, (vP g1 0)), (19, (vB (n.kind != 9)))], []⟩ (by kernel_rfl) ?_
      refine At.nil ?_
      refine At.then_normal ?_
      refine At.bcase (n.kind != 9) (fun hb10 => ?_) (fun hb10 => ?_)
      · have hb10p : ¬ (n.kind = 9) := by simpa using hb10
        refine At.cast (S' := ⟨fr 53 [(1, (vP g1 0)), (19, (vB true))], []⟩) (by rw [hb10] <;> rfl) ?_
        refine At.cond_t (by kernel_rfl) ?_
        refine At.seq ?_
        refine At.region ?_
        refine At.runk 1 [19] [] ⟨fr 53 [(1, (vP g1 0)), (20, (vP g1 5))], []⟩ (by kernel_rfl) ?_
        refine At.vals (S' := ⟨fr 53 [(1, (vP g1 0)), (20, (vP g1 5)), (21, (vI n.mn))], []⟩) (by kernel_rfl) ((vI n.mn)) (by kernel_rfl) (Val.ldB rfl hB4 (Nat.zero_lt_succ _) 5 5 (by omega) (by kernel_rfl) ((vI n.mn)) (by kernel_rfl)) ?_
        refine At.runk 2 [20, 21, 22] [] ⟨fr 53 [(1, (vP g1 0)), (23, (vB (n.mn == 0)))], []⟩ (by kernel_rfl) ?_
        refine At.bcase (n.mn == 0) (fun hb11 => ?_) (fun hb11 => ?_)
        · have hb11p : (n.mn = 0) := eq_of_beq hb11
          refine At.cast (S' := ⟨fr 53 [(1, (vP g1 0)), (23, (vB true))], []⟩) (by rw [hb11] <;> rfl) ?_
          refine At.runk 1 [1] [] ⟨fr 53 [(23, (vB true)), (24, (vP g1 6))], []⟩ (by kernel_rfl) ?_
          refine At.vals (S' := ⟨fr 53 [(23, (vB true)), (24, (vP g1 6)), (25, (vI n.mx))], []⟩) (by kernel_rfl) ((vI n.mx)) (by kernel_rfl) (Val.ldB rfl hB4 (Nat.zero_lt_succ _) 6 6 (by omega) (by kernel_rfl) ((vI n.mx)) (by kernel_rfl)) ?_
          refine At.runk 3 [23, 24, 25, 26, 27] [] ⟨fr 53 [(2, (vB (n.mx == 0)))], []⟩ (by kernel_rfl) ?_
          refine At.nil ?_
          refine At.then_normal ?_
          refine At.ret_ ?_
          refine At.then_ret ?_
          refine At.leaveR rfl (n.mx == 0) (by kernel_rfl) (by kernel_rfl) (by kernel_rfl) ?_
          grind [Nd.may, Nd.noset]
        have hb11p : ¬ (n.mn = 0) := beq_eq_false_iff_ne.1 hb11
        refine At.cast (S' := ⟨fr 53 [(1, (vP g1 0)), (23, (vB false))], []⟩) (by rw [hb11] <;> rfl) ?_
        refine At.runk 5 [1, 23, 24, 25, 26, 27] [] ⟨fr 53 [(2, (vB false))], []⟩ (by kernel_rfl) ?_
        refine At.nil ?_
        refine At.then_normal ?_
        refine At.ret_ ?_
        refine At.then_ret ?_
        refine At.leaveR rfl false (by kernel_rfl) (by kernel_rfl) (by kernel_rfl) ?_
        grind [Nd.may, Nd.noset]
      have hb10p : (n.kind = 9) := by simpa using hb10
      refine At.cast (S' := ⟨fr 53 [(1, (vP g1 0)), (19, (vB false))], []⟩) (by rw [hb10] <;> rfl) ?_
      refine At.cond_f (by kernel_rfl) ?_
      refine At.skip ?_
      refine At.then_normal ?_
      refine At.seq ?_
      refine At.region ?_
      refine At.runk 1 [19] [] ⟨fr 53 [(1, (vP g1 0)), (28, (vP g1 5))], []⟩ (by kernel_rfl) ?_
      refine At.vals (S' := ⟨fr 53 [(1, (vP g1 0)), (28, (vP g1 5)), (29, (vI n.mn))], []⟩) (by kernel_rfl) ((vI n.mn)) (by kernel_rfl) (Val.ldB rfl hB4 (Nat.zero_lt_succ _) 5 5 (by omega) (by kernel_rfl) ((vI n.mn)) (by kernel_rfl)) ?_
      refine At.runk 2 [28, 29, 30] [] ⟨fr 53 [(1, (vP g1 0)), (31, (vB (decide (n.mn ≥ 0))))], []⟩ (by kernel_rfl) ?_
      refine At.bcase (decide (n.mn ≥ 0)) (fun hb12 => ?_) (fun hb12 => ?_)
      · have hb12p : (n.mn ≥ 0) := of_decide_eq_true hb12
        refine At.cast (S' := ⟨fr 53 [(1, (vP g1 0)), (31, (vB true))], []⟩) (by rw [hb12] <;> rfl) ?_
        refine At.runk 1 [] [] ⟨fr 53 [(1, (vP g1 0)), (31, (vB true)), (32, (vP g1 5))], []⟩ (by kernel_rfl) ?_
        refine At.vals (S' := ⟨fr 53 [(1, (vP g1 0)), (31, (vB true)), (32, (vP g1 5)), (33, (vI n.mn))], []⟩) (by kernel_rfl) ((vI n.mn)) (by kernel_rfl) (Val.ldB rfl hB4 (Nat.zero_lt_succ _) 5 5 (by omega) (by kernel_rfl) ((vI n.mn)) (by kernel_rfl)) ?_
        refine At.runk 3 [31, 32, 33, 34, 35] [] ⟨fr 53 [(1, (vP g1 0)), (36, (vB (decide (n.mn ≤ 255))))], []⟩ (by kernel_rfl) ?_
        refine At.bcase (decide (n.mn ≤ 255)) (fun hb13 => ?_) (fun hb13 => ?_)
        · have hb13p : (n.mn ≤ 255) := of_decide_eq_true hb13
          refine At.cast (S' := ⟨fr 53 [(1, (vP g1 0)), (36, (vB true))], []⟩) (by rw [hb13] <;> rfl) ?_
          refine At.runk 1 [] [] ⟨fr 53 [(1, (vP g1 0)), (36, (vB true)), (37, (vP g1 6))], []⟩ (by kernel_rfl) ?_
          refine At.vals (S' := ⟨fr 53 [(1, (vP g1 0)), (36, (vB true)), (37, (vP g1 6)), (38, (vI n.mx))], []⟩) (by kernel_rfl) ((vI n.mx)) (by kernel_rfl) (Val.ldB rfl hB4 (Nat.zero_lt_succ _) 6 6 (by omega) (by kernel_rfl) ((vI n.mx)) (by kernel_rfl)) ?_
          refine At.runk 2 [37, 38, 39] [] ⟨fr 53 [(1, (vP g1 0)), (36, (vB true)), (40, (vB (n.mx == (-1))))], []⟩ (by kernel_rfl) ?_
          refine At.bcase (n.mx == (-1)) (fun hb14 => ?_) (fun hb14 => ?_)
          · have hb14p : (n.mx = (-1)) := eq_of_beq hb14
            refine At.cast (S' := ⟨fr 53 [(1, (vP g1 0)), (36, (vB true)), (40, (vB true))], []⟩) (by rw [hb14] <;> rfl) ?_
            refine At.runk 13 [1, 36, 40, 41, 42, 43, 44, 45, 46, 47, 48, 49, 50, 51, 52] [] ⟨fr 53 [(2, (vB true))], []⟩ (by kernel_rfl) ?_
            refine At.nil ?_
            refine At.then_normal ?_
            refine At.ret_ ?_
            refine At.leaveR rfl true (by kernel_rfl) (by kernel_rfl) (by kernel_rfl) ?_
            grind [Nd.may, Nd.noset]
          have hb14p : ¬ (n.mx = (-1)) := beq_eq_false_iff_ne.1 hb14
          refine At.cast (S' := ⟨fr 53 [(1, (vP g1 0)), (36, (vB true)), (40, (vB false))], []⟩) (by rw [hb14] <;> rfl) ?_
          refine At.runk 1 [] [] ⟨fr 53 [(1, (vP g1 0)), (36, (vB true)), (40, (vB false)), (41, (vP g1 6))], []⟩ (by kernel_rfl) ?_
          refine At.vals (S' := ⟨fr 53 [(1, (vP g1 0)), (36, (vB true)), (40, (vB false)), (41, (vP g1 6)), (42, (vI n.mx))], []⟩) (by kernel_rfl) ((vI n.mx)) (by kernel_rfl) (Val.ldB rfl hB4 (Nat.zero_lt_succ _) 6 6 (by omega) (by kernel_rfl) ((vI n.mx)) (by kernel_rfl)) ?_
          refine At.runk 1 [41] [] ⟨fr 53 [(1, (vP g1 0)), (36, (vB true)), (40, (vB false)), (42, (vI n.mx)), (43, (vP g1 5))], []⟩ (by kernel_rfl) ?_
          refine At.vals (S' := ⟨fr 53 [(1, (vP g1 0)), (36, (vB true)), (40, (vB false)), (42, (vI n.mx)), (43, (vP g1 5)), (44, (vI n.mn))], []⟩) (by kernel_rfl) ((vI n.mn)) (by kernel_rfl) (Val.ldB rfl hB4 (Nat.zero_lt_succ _) 5 5 (by omega) (by kernel_rfl) ((vI n.mn)) (by kernel_rfl)) ?_
          refine At.runk 2 [42, 43, 44, 45] [] ⟨fr 53 [(1, (vP g1 0)), (36, (vB true)), (40, (vB false)), (46, (vB (decide (n.mx ≥ n.mn))))], []⟩ (by kernel_rfl) ?_
          refine At.bcase (decide (n.mx ≥ n.mn)) (fun hb15 => ?_) (fun hb15 => ?_)
          · have hb15p : (n.mx ≥ n.mn) := of_decide_eq_true hb15
            refine At.cast (S' := ⟨fr 53 [(1, (vP g1 0)), (36, (vB true)), (40, (vB false)), (46, (vB true))], []⟩) (by rw [hb15] <;> rfl) ?_
            refine At.runk 1 [1] [] ⟨fr 53 [(36, (vB true)), (40, (vB false)), (46, (vB true)), (47, (vP g1 6))], []⟩ (by kernel_rfl) ?_
            refine At.vals (S' := ⟨fr 53 [(36, (vB true)), (40, (vB false)), (46, (vB true)), (47, (vP g1 6)), (48, (vI n.mx))], []⟩) (by kernel_rfl) ((vI n.mx)) (by kernel_rfl) (Val.ldB rfl hB4 (Nat.zero_lt_succ _) 6 6 (by omega) (by kernel_rfl) ((vI n.mx)) (by kernel_rfl)) ?_
            refine At.runk 5 [36, 40, 46, 47, 48, 49, 50, 51, 52] [] ⟨fr 53 [(2, (vB (decide (n.mx ≤ 255))))], []⟩ (by kernel_rfl) ?_
            refine At.nil ?_
            refine At.then_normal ?_
            refine At.ret_ ?_
            refine At.leaveR rfl (decide (n.mx ≤ 255)) (by kernel_rfl) (by kernel_rfl) (by kernel_rfl) ?_
            grind [Nd.may, Nd.noset]
          have hb15p : ¬ (n.mx ≥ n.mn) := of_decide_eq_false hb15
          refine At.cast (S' := ⟨fr 53 [(1, (vP g1 0)), (36, (vB true)), (40, (vB false)), (46, (vB false))], []⟩) (by rw [hb15] <;> rfl) ?_
          refine At.runk 7 [1, 36, 40, 46, 47, 48, 49, 50, 51, 52] [] ⟨fr 53 [(2, (vB false))], []⟩ (by kernel_rfl) ?_
          refine At.nil ?_
          refine At.then_normal ?_
          refine At.ret_ ?_
          refine At.leaveR rfl false (by kernel_rfl) (by kernel_rfl) (by kernel_rfl) ?_
          grind [Nd.may, Nd.noset]
        have hb13p : ¬ (n.mn ≤ 255) := of_decide_eq_false hb13
        refine At.cast (S' := ⟨fr 53 [(1, (vP g1 0)), (36, (vB false))], []⟩) (by rw [hb13] <;> rfl) ?_
        refine At.runk 17 [1, 36, 37, 38, 39, 40, 41, 42, 43, 44, 45, 46, 47, 48, 49, 50, 51, 52] [] ⟨fr 53 [(2, (vB false))], []⟩ (by kernel_rfl) ?_
        refine At.nil ?_
        refine At.then_normal ?_
        refine At.ret_ ?_
        refine At.leaveR rfl false (by kernel_rfl) (by kernel_rfl) (by kernel_rfl) ?_
        grind [Nd.may, Nd.noset]
      have hb12p : ¬ (n.mn ≥ 0) := of_decide_eq_false hb12
      refine At.cast (S' := ⟨fr 53 [(1, (vP g1 0)), (31, (vB false))], []⟩) (by rw [hb12] <;> rfl) ?_
      refine At.runk 22 [1, 31, 32, 33, 34, 35, 36, 37, 38, 39, 40, 41, 42, 43, 44, 45, 46, 47, 48, 49, 50, 51, 52] [] ⟨fr 53 [(2, (vB false))], []⟩ (by kernel_rfl) ?_
      refine At.nil ?_
      refine At.then_normal ?_
      refine At.ret_ ?_
      refine At.leaveR rfl false (by kernel_rfl) (by kernel_rfl) (by kernel_rfl) ?_
      grind [Nd.may, Nd.noset]
    refine At.cast (S' := ⟨fr 53 [(1, (vP g1 0)), (3, (vP g1 0)), (4, (vI n.kind)), (5, (vI (arity n.kind))), (6, (vB false)), (7, (vB false)), (8, (vP g1 0)), (9, (vI n.kind)), (10, (vB true)), (11, (vP g1 1)), (12, .agg n.su), (13, .agg (uV 0 0 0 0)), (14, (vB false))], []⟩) (by rw [hb9] <;> rfl) ?_
    refine At.take (S' := ⟨fr 53 [(1, (vP g1 0)), (3, (vP g1 0)), (4, (vI n.kind)), (5, (vI (arity n.kind))), (6, (vB false)), (7, (vB false)), (8, (vP g1 0)), (9, (vI n.kind)), (10, (vB true)), (11, (vP g1 1)), (12, .agg n.su), (13, .agg (uV 0 0 0 0)), (14, (vB false)), (15, (vB true))], []⟩) hle6 (PanOk.then (PanOk.then PanOk.body)) 12 rfl (by kernel_rfl) (by kernel_rfl) (by kernel_rfl) (by kernel_rfl) ((vB true)) (by kernel_rfl) (fun _ _ => Val.ev rfl (by kernel_rfl) (by kernel_rfl)) (by kernel_rfl) #[true, true, true, true, true, true, true, true, true, true, true, true, true, false] (by kernel_rfl) ?_
    refine At.take (S' := ⟨fr 53 [(1, (vP g1 0)), (3, (vP g1 0)), (4, (vI n.kind)), (5, (vI (arity n.kind))), (6, (vB false)), (7, (vB false)), (8, (vP g1 0)), (9, (vI n.kind)), (10, (vB true)), (11, (vP g1 1)), (12, .agg n.su), (13, .agg (uV 0 0 0 0)), (14, (vB false)), (15, (vB true)), (16, (vB true))], []⟩) hle6 (PanOk.then (PanOk.then PanOk.body)) 13 rfl (by kernel_rfl) (by kernel_rfl) (by kernel_rfl) (by kernel_rfl) ((vB true)) (by kernel_rfl) (fun _ _ => Val.ev rfl (by kernel_rfl) (by kernel_rfl)) (by kernel_rfl) #[true, true, true, true, true, true, true, true, true, true, true, true, true, true] (by kernel_rfl) ?_
    refine At.drawn_done (by kernel_rfl) ?_
    refine At.then_normal ?_
    refine At.cond_t (by kernel_rfl) ?_
    refine At.seq ?_
    refine At.region ?_
    refine At.runk 1 [1, 3, 4, 5, 6, 7, 8, 9, 10, 11, 12, 13, 14, 15, 16] [] ⟨fr 53 [(2, (vB false))], []⟩ (by kernel_rfl) ?_
    refine At.nil ?_
    refine At.then_normal ?_
    refine At.ret_ ?_
    refine At.then_ret ?_
    refine At.leaveR rfl false (by kernel_rfl) (by kernel_rfl) (by kernel_rfl) ?_
    grind [Nd.may, Nd.noset]
  have hb8p : ¬ (n.kind = 3) := beq_eq_false_iff_ne.1 hb8
  refine At.cast (S' := ⟨fr 53 [(1, (vP g1 0)), (3, (vP g1 0)), (4, (vI n.kind)), (5, (vI (arity n.kind))), (6, (vB false)), (7, (vB false)), (8, (vP g1 0)), (9, (vI n.kind)), (10, (vB false)), (11, (vP g1 1)), (12, .agg n.su), (13, .agg (uV 0 0 0 0)), (14, (vB (!((n.s0 == 0) && ((n.s1 == 0) && ((n.s2 == 0) && ((n.s3 == 0) && true)))))))], []⟩) (by rw [hb8] <;> rfl) ?_
  refine At.bcase (!((n.s0 == 0) && ((n.s1 == 0) && ((n.s2 == 0) && ((n.s3 == 0) && true))))) (fun hb16 => ?_) (fun hb16 => ?_)
  · refine At.cast (S' := ⟨fr 53 [(1, (vP g1 0)), (3, (vP g1 0)), (4, (vI n.kind)), (5, (vI (arity n.kind))), (6, (vB false)), (7, (vB false)), (8, (vP g1 0)), (9, (vI n.kind)), (10, (vB false)), (11, (vP g1 1)), (12, .agg n.su), (13, .agg (uV 0 0 0 0)), (14, (vB true))], []⟩) (by rw [hb16] <;> rfl) ?_
    refine At.take (S' := ⟨fr 53 [(1, (vP g1 0)), (3, (vP g1 0)), (4, (vI n.kind)), (5, (vI (arity n.kind))), (6, (vB false)), (7, (vB false)), (8, (vP g1 0)), (9, (vI n.kind)), (10, (vB false)), (11, (vP g1 1)), (12, .agg n.su), (13, .agg (uV 0 0 0 0)), (14, (vB true)), (15, (vB true))], []⟩) hle6 (PanOk.then (PanOk.then PanOk.body)) 12 rfl (by kernel_rfl) (by kernel_rfl) (by kernel_rfl) (by kernel_rfl) ((vB true)) (by kernel_rfl) (fun _ _ => Val.ev rfl (by kernel_rfl) (by kernel_rfl)) (by kernel_rfl) #[true, true, true, true, true, true, true, true, true, true, true, true, true, false] (by kernel_rfl) ?_
    refine At.take (S' := ⟨fr 53 [(1, (vP g1 0)), (3, (vP g1 0)), (4, (vI n.kind)), (5, (vI (arity n.kind))), (6, (vB false)), (7, (vB false)), (8, (vP g1 0)), (9, (vI n.kind)), (10, (vB false)), (11, (vP g1 1)), (12, .agg n.su), (13, .agg (uV 0 0 0 0)), (14, (vB true)), (15, (vB true)), (16, (vB true))], []⟩) hle6 (PanOk.then (PanOk.then PanOk.body)) 13 rfl (by kernel_rfl) (by kernel_rfl) (by kernel_rfl) (by kernel_rfl) ((vB true)) (by kernel_rfl) (fun _ _ => Val.ev rfl (by kernel_rfl) (by kernel_rfl)) (by kernel_rfl) #[true, true, true, true, true, true, true, true, true, true, true, true, true, true] (by kernel_rfl) ?_
    refine At.drawn_done (by kernel_rfl) ?_
    refine At.then_normal ?_
    refine At.cond_t (by kernel_rfl) ?_
    refine At.seq ?_
    refine At.region ?_
    refine At.runk 1 [1, 3, 4, 5, 6, 7, 8, 9, 10, 11, 12, 13, 14, 15, 16] [] ⟨fr 53 [(2, (vB false))], []⟩ (by kernel_rfl) ?_
    refine At.nil ?_
    refine At.then_normal ?_
    refine At.ret_ ?_
    refine At.then_ret ?_
    refine At.leaveR rfl false (by kernel_rfl) (by kernel_rfl) (by kernel_rfl) ?_
    grind [Nd.may, Nd.noset]
  refine At.cast (S' := ⟨fr 53 [(1, (vP g1 0)), (3, (vP g1 0)), (4, (vI n.kind)), (5, (vI (arity n.kind))), (6, (vB false)), (7, (vB false)), (8, (vP g1 0)), (9, (vI n.kind)), (10, (vB false)), (11, (vP g1 1)), (12, .agg n.su), (13, .agg (uV 0 0 0 0)), (14, (vB false))], []⟩) (by rw [hb16] <;> rfl) ?_
  refine At.take (S' := ⟨fr 53 [(1, (vP g1 0)), (3, (vP g1 0)), (4, (vI n.kind)), (5, (vI (arity n.kind))), (6, (vB false)), (7, (vB false)), (8, (vP g1 0)), (9, (vI n.kind)), (10, (vB false)), (11, (vP g1 1)), (12, .agg n.su), (13, .agg (uV 0 0 0 0)), (14, (vB false)), (15, (vB false))], []⟩) hle6 (PanOk.then (PanOk.then PanOk.body)) 12 rfl (by kernel_rfl) (by kernel_rfl) (by kernel_rfl) (by kernel_rfl) ((vB false)) (by kernel_rfl) (fun _ _ => Val.ev rfl (by kernel_rfl) (by kernel_rfl)) (by kernel_rfl) #[true, true, true, true, true, true, true, true, true, true, true, true, true, false] (by kernel_rfl) ?_
  refine At.take (S' := ⟨fr 53 [(1, (vP g1 0)), (3, (vP g1 0)), (4, (vI n.kind)), (5, (vI (arity n.kind))), (6, (vB false)), (7, (vB false)), (8, (vP g1 0)), (9, (vI n.kind)), (10, (vB false)), (11, (vP g1 1)), (12, .agg n.su), (13, .agg (uV 0 0 0 0)), (14, (vB false)), (15, (vB false)), (16, (vB false))], []⟩) hle6 (PanOk.then (PanOk.then PanOk.body)) 13 rfl (by kernel_rfl) (by kernel_rfl) (by kernel_rfl) (by kernel_rfl) ((vB false)) (by kernel_rfl) (fun _ _ => Val.ev rfl (by kernel_rfl) (by kernel_rfl)) (by kernel_rfl) #[true, true, true, true, true, true, true, true, true, true, true, true, true, true] (by kernel_rfl) ?_
  refine At.drawn_done (by kernel_rfl) ?_
  refine At.then_normal ?_
  refine At.cond_f (by kernel_rfl) ?_
  refine At.skip ?_
  refine At.then_normal ?_
  refine At.seq ?_
  refine At.seq ?_
  refine At.region ?_
  refine At.runk 1 [3, 4, 5, 6, 7, 8, 9, 10, 11, 12, 13, 14, 15, 16] [] ⟨fr 53 [(1, (vP g1 0)), (17, (vP g1 0))], []⟩ (by kernel_rfl) ?_
  refine At.vals (S' := ⟨fr 53 [(1, (vP g1 0)), (17, (vP g1 0)), (18, (vI n.kind))], []⟩) (by kernel_rfl) ((vI n.kind)) (by kernel_rfl) (Val.ldB rfl hB4 (Nat.zero_lt_succ _) 0 0 (by omega) (by kernel_rfl) ((vI n.kind)) (by kernel_rfl)) ?_
  refine At.runk 1 [17, 18] [] ⟨fr 53 [(1, (vP g1 0)), (19, (vB (n.kind != 9)))], []⟩ (by kernel_rfl) ?_
  refine At.nil ?_
  refine At.then_normal ?_
  refine At.bcase (n.kind != 9) (fun hb17 => ?_) (fun hb17 => ?_)
  · have hb17p : ¬ (n.kind = 9) := by simpa using hb17
    refine At.cast (S' := ⟨fr 53 [(1, (vP g1 0)), (19, (vB true))], []⟩) (by rw [hb17] <;> rfl) ?_
    refine At.cond_t (by kernel_rfl) ?_
    refine At.seq ?_
    refine At.region ?_
    refine At.runk 1 [19] [] ⟨fr 53 [(1, (vP g1 0)), (20, (vP g1 5))], []⟩ (by kernel_rfl) ?_
    refine At.vals (S' := ⟨fr 53 [(1, (vP g1 0)), (20, (vP g1 5)), (21, (vI n.mn))], []⟩) (by kernel_rfl) ((vI n.mn)) (by kernel_rfl) (Val.ldB rfl hB4 (Nat.zero_lt_succ _) 5 5 (by omega) (by kernel_rfl) ((vI n.mn)) (by kernel_rfl)) ?_
    refine At.runk 2 [20, 21, 22] [] ⟨fr 53 [(1, (vP g1 0)), (23, (vB (n.mn == 0)))], []⟩ (by kernel_rfl) ?_
    refine At.bcase (n.mn == 0) (fun hb18 => ?_) (fun hb18 => ?_)
    · have hb18p : (n.mn = 0) := eq_of_beq hb18
      refine At.cast (S' := ⟨fr 53 [(1, (vP g1 0)), (23, (vB true))], []⟩) (by rw [hb18] <;> rfl) ?_
      refine At.runk 1 [1] [] ⟨fr 53 [(23, (vB true)), (24, (vP g1 6))], []⟩ (by kernel_rfl) ?_
      refine At.vals (S' := ⟨fr 53 [(23, (vB true)), (24, (vP g1 6)), (25, (vI n.mx))], []⟩) (by kernel_rfl) ((vI n.mx)) (by kernel_rfl) (Val.ldB rfl hB4 (Nat.zero_lt_succ _) 6 6 (by omega) (by kernel_rfl) ((vI n.mx)) (by kernel_rfl)) ?_
      refine At.runk 3 [23, 24, 25, 26, 27] [] ⟨fr 53 [(2, (vB (n.mx == 0)))], []⟩ (by kernel_rfl) ?_
      refine At.nil ?_
      refine At.then_normal ?_
      refine At.ret_ ?_
      refine At.then_ret ?_
      refine At.leaveR rfl (n.mx == 0) (by kernel_rfl) (by kernel_rfl) (by kernel_rfl) ?_
      grind [Nd.may, Nd.noset]
    have hb18p : ¬ (n.mn = 0) := beq_eq_false_iff_ne.1 hb18
    refine At.cast (S' := ⟨fr 53 [(1, (vP g1 0)), (23, (vB false))], []⟩) (by rw [hb18] <;> rfl) ?_
    refine At.runk 5 [1, 23, 24, 25, 26, 27] [] ⟨fr 53 [(2, (vB false))], []⟩ (by kernel_rfl) ?_
    refine At.nil ?_
    refine At.then_normal ?_
    refine At.ret_ ?_
    refine At.then_ret ?_
    refine At.leaveR rfl false (by kernel_rfl) (by kernel_rfl) (by kernel_rfl) ?_
    grind [Nd.may, Nd.noset]
  have hb17p : (n.kind = 9) := by simpa using hb17
  refine At.cast (S' := ⟨fr 53 [(1, (vP g1 0)), (19, (vB false))], []⟩) (by rw [hb17] <;> rfl) ?_
  refine At.cond_f (by kernel_rfl) ?_
  refine At.skip ?_
  refine At.then_normal ?_
  refine At.seq ?_
  refine At.region ?_
  refine At.runk 1 [19] [] ⟨fr 53 [(1, (vP g1 0)), (28, (vP g1 5))], []⟩ (by kernel_rfl) ?_
  refine At.vals (S' := ⟨fr 53 [(1, (vP g1 0)), (28, (vP g1 5)), (29, (vI n.mn))], []⟩) (by kernel_rfl) ((vI n.mn)) (by kernel_rfl) (Val.ldB rfl hB4 (Nat.zero_lt_succ _) 5 5 (by omega) (by kernel_rfl) ((vI n.mn)) (by kernel_rfl)) ?_
  refine At.runk 2 [28, 29, 30] [] ⟨fr 53 [(1, (vP g1 0)), (31, (vB (decide (n.mn ≥ 0))))], []⟩ (by kernel_rfl) ?_
  refine At.bcase (decide (n.mn ≥ 0)) (fun hb19 => ?_) (fun hb19 => ?_)
  · have hb19p : (n.mn ≥ 0) := of_decide_eq_true hb19
    refine At.cast (S' := ⟨fr 53 [(1, (vP g1 0)), (31, (vB true))], []⟩) (by rw [hb19] <;> rfl) ?_
    refine At.runk 1 [] [] ⟨fr 53 [(1, (vP g1 0)), (31, (vB true)), (32, (vP g1 5))], []⟩ (by kernel_rfl) ?_
    refine At.vals (S' := ⟨fr 53 [(1, (vP g1 0)), (31, (vB true)), (32, (vP g1 5)), (33, (vI n.mn))], []⟩) (by kernel_rfl) ((vI n.mn)) (by kernel_rfl) (Val.ldB rfl hB4 (Nat.zero_lt_succ _) 5 5 (by omega) (by kernel_rfl) ((vI n.mn)) (by kernel_rfl)) ?_
    refine At.runk 3 [31, 32, 33, 34, 35] [] ⟨fr 53 [(1, (vP g1 0)), (36, (vB (decide (n.mn ≤ 255))))], []⟩ (by kernel_rfl) ?_
    refine At.bcase (decide (n.mn ≤ 255)) (fun hb20 => ?_) (fun hb20 => ?_)
    · have hb20p : (n.mn ≤ 255) := of_decide_eq_true hb20
      refine At.cast (S' := ⟨fr 53 [(1, (vP g1 0)), (36, (vB true))], []⟩) (by rw [hb20] <;> rfl) ?_
      refine At.runk 1 [] [] ⟨fr 53 [(1, (vP g1 0)), (36, (vB true)), (37, (vP g1 6))], []⟩ (by kernel_rfl) ?_
      refine At.vals (S' := ⟨fr 53 [(1, (vP g1 0)), (36, (vB true)), (37, (vP g1 6)), (38, (vI n.mx))], []⟩) (by kernel_rfl) ((vI n.mx)) (by kernel_rfl) (Val.ldB rfl hB4 (Nat.zero_lt_succ _) 6 6 (by omega) (by kernel_rfl) ((vI n.mx)) (by kernel_rfl)) ?_
      refine At.runk 2 [37, 38, 39] [] ⟨fr 53 [(1, (vP g1 0)), (36, (vB true)), (40, (vB (n.mx == (-1))))], []⟩ (by kernel_rfl) ?_
      refine At.bcase (n.mx == (-1)) (fun hb21 => ?_) (fun hb21 => ?_)
      · have hb21p : (n.mx = (-1)) := eq_of_beq hb21
        refine At.cast (S' := ⟨fr 53 [(1, (vP g1 0)), (36, (vB true)), (40, (vB true))], []⟩) (by rw [hb21] <;> rfl) ?_
        refine At.runk 13 [1, 36, 40, 41, 42, 43, 44, 45, 46, 47, 48, 49, 50, 51, 52] [] ⟨fr 53 [(2, (vB true))], []⟩ (by kernel_rfl) ?_
        refine At.nil ?_
        refine At.then_normal ?_
        refine At.ret_ ?_
        refine At.leaveR rfl true (by kernel_rfl) (by kernel_rfl) (by kernel_rfl) ?_
        grind [Nd.may, Nd.noset]
      have hb21p : ¬ (n.mx = (-1)) := beq_eq_false_iff_ne.1 hb21
      refine At.cast (S' := ⟨fr 53 [(1, (vP g1 0)), (36, (vB true)), (40, (vB false))], []⟩) (by rw [hb21] <;> rfl) ?_
      refine At.runk 1 [] [] ⟨fr 53 [(1, (vP g1 0)), (36, (vB true)), (40, (vB false)), (41, (vP g1 6))], []⟩ (by kernel_rfl) ?_
      refine At.vals (S' := ⟨fr 53 [(1, (vP g1 0)), (36, (vB true)), (40, (vB false)), (41, (vP g1 6)), (42, (vI n.mx))], []⟩) (by kernel_rfl) ((vI n.mx)) (by kernel_rfl) (Val.ldB rfl hB4 (Nat.zero_lt_succ _) 6 6 (by omega) (by kernel_rfl) ((vI n.mx)) (by kernel_rfl)) ?_
      refine At.runk 1 [41] [] ⟨fr 53 [(1, (vP g1 0)), (36, (vB true)), (40, (vB false)), (42, (vI n.mx)), (43, (vP g1 5))], []⟩ (by kernel_rfl) ?_
      refine At.vals (S' := ⟨fr 53 [(1, (vP g1 0)), (36, (vB true)), (40, (vB false)), (42, (vI n.mx)), (43, (vP g1 5)), (44, (vI n.mn))], []⟩) (by kernel_rfl) ((vI n.mn)) (by kernel_rfl) (Val.ldB rfl hB4 (Nat.zero_lt_succ _) 5 5 (by omega) (by kernel_rfl) ((vI n.mn)) (by kernel_rfl)) ?_
      refine At.runk 2 [42, 43, 44, 45] [] ⟨fr 53 [(1, (vP g1 0)), (36, (vB true)), (40, (vB false)), (46, (vB (decide (n.mx ≥ n.mn))))], []⟩ (by kernel_rfl) ?_
      refine At.bcase (decide (n.mx ≥ n.mn)) (fun hb22 => ?_) (fun hb22 => ?_)
      · have hb22p : (n.mx ≥ n.mn) := of_decide_eq_true hb22
        refine At.cast (S' := ⟨fr 53 [(1, (vP g1 0)), (36, (vB true)), (40, (vB false)), (46, (vB true))], []⟩) (by rw [hb22] <;> rfl) ?_
        refine At.runk 1 [1] [] ⟨fr 53 [(36, (vB true)), (40, (vB false)), (46, (vB true)), (47, (vP g1 6))], []⟩ (by kernel_rfl) ?_
        refine At.vals (S' := ⟨fr 53 [(36, (vB true)), (40, (vB false)), (46, (vB true)), (47, (vP g1 6)), (48, (vI n.mx))], []⟩) (by kernel_rfl) ((vI n.mx)) (by kernel_rfl) (Val.ldB rfl hB4 (Nat.zero_lt_succ _) 6 6 (by omega) (by kernel_rfl) ((vI n.mx)) (by kernel_rfl)) ?_
        refine At.runk 5 [36, 40, 46, 47, 48, 49, 50, 51, 52] [] ⟨fr 53 [(2, (vB (decide (n.mx ≤ 255))))], []⟩ (by kernel_rfl) ?_
        refine At.nil ?_
        refine At.then_normal ?_
        refine At.ret_ ?_
        refine At.leaveR rfl (decide (n.mx ≤ 255)) (by kernel_rfl) (by kernel_rfl) (by kernel_rfl) ?_
        grind [Nd.may, Nd.noset]
      have hb22p : ¬ (n.mx ≥ n.mn) := of_decide_eq_false hb22
      refine At.cast (S' := ⟨fr 53 [(1, (vP g1 0)), (36, (vB true)), (40, (vB false)), (46, (vB false))], []⟩) (by rw [hb22] <;> rfl) ?_
      refine At.runk 7 [1, 36, 40, 46, 47, 48, 49, 50, 51, 52] [] ⟨fr 53 [(2, (vB false))], []⟩ (by kernel_rfl) ?_
      refine At.nil ?_
      refine At.then_normal ?_
      refine At.ret_ ?_
      refine At.leaveR rfl false (by kernel_rfl) (by kernel_rfl) (by kernel_rfl) ?_
      grind [Nd.may, Nd.noset]
    have hb20p : ¬ (n.mn ≤ 255) := of_decide_eq_false hb20
    refine At.cast (S' := ⟨fr 53 [(1, (vP g1 0)), (36, (vB false))], []⟩) (by rw [hb20] <;> rfl) ?_
    refine At.runk 17 [1, 36, 37, 38, 39, 40, 41, 42, 43, 44, 45, 46, 47, 48, 49, 50, 51, 52] [] ⟨fr 53 [(2, (vB false))], []⟩ (by kernel_rfl) ?_
    refine At.nil ?_
    refine At.then_normal ?_
    refine At.ret_ ?_
    refine At.leaveR rfl false (by kernel_rfl) (by kernel_rfl) (by kernel_rfl) ?_
    grind [Nd.may, Nd.noset]
  have hb19p : ¬ (n.mn ≥ 0) := of_decide_eq_false hb19
  refine At.cast (S' := ⟨fr 53 [(1, (vP g1 0)), (31, (vB false))], []⟩) (by rw [hb19] <;> rfl) ?_
  refine At.runk 22 [1, 31, 32, 33, 34, 35, 36, 37, 38, 39, 40, 41, 42, 43, 44, 45, 46, 47, 48, 49, 50, 51, 52] [] ⟨fr 53 [(2, (vB false))], []⟩ (by kernel_rfl) ?_
  refine At.nil ?_
  refine At.then_normal ?_
  refine At.ret_ ?_
  refine At.leaveR rfl false (by kernel_rfl) (by kernel_rfl) (by kernel_rfl) ?_
  grind [Nd.may, Nd.noset]

theorem oc_c (Φ : Phi) (x : Int)  : CallR Try.prog 71 [(vU x)] [] Φ Int (fun t => (vI t)) (fun _ => []) (fun t _ => t = ocI x) := by
  refine CallG.enterk Try.func71 rfl [1, 2, 3, 4, 5, 6, 7, 8, 9, 10, 11, 12, 13, 14, 15, 16, 17, 18, 19, 20, 21, 22, 23, 24, 25, 26, 27, 28, 29, 30, 31, 32, 33, 34] ⟨fr 35 [(0, (vU x))], []⟩ (by kernel_rfl) (by kernel_rfl) ?_
  intro E G β0
  refine At.seq ?_
  refine At.region ?_
  refine At.runk 1 [2] [] ⟨fr 35 [(0, (vU x))], []⟩ (by kernel_rfl) ?_
  refine At.nil ?_
  refine At.then_normal ?_
  refine At.seq ?_
  refine At.region ?_
  refine At.runk 7 [3, 4, 5, 6, 7, 8] [] ⟨fr 35 [(0, (vU (bAdd .u64 (bAnd .u64 (bShr .u64 x 1) 6148914691236517205) (bAnd .u64 x 6148914691236517205))))], []⟩ (by kernel_rfl) ?_
  refine At.nil ?_
  refine At.then_normal ?_
  refine At.seq ?_
  refine At.region ?_
  refine At.runk 7 [9, 10, 11, 12, 13, 14] [] ⟨fr 35 [(0, (vU (bAdd .u64 (bAnd .u64 (bShr .u64 (bAdd .u64 (bAnd .u64 (bShr .u64 x 1) 6148914691236517205) (bAnd .u64 x 6148914691236517205)) 2) 3689348814741910323) (bAnd .u64 (bAdd .u64 (bAnd .u64 (bShr .u64 x 1) 6148914691236517205) (bAnd .u64 x 6148914691236517205)) 3689348814741910323))))], []⟩ (by kernel_rfl) ?_
  refine At.nil ?_
  refine At.then_normal ?_
  refine At.seq ?_
  refine At.region ?_
  refine At.runk 6 [15, 16, 17, 18, 19] [] ⟨fr 35 [(0, (vU (bAnd .u64 (bAdd .u64 (bShr .u64 (bAdd .u64 (bAnd .u64 (bShr .u64 (bAdd .u64 (bAnd .u64 (bShr .u64 x 1) 6148914691236517205) (bAnd .u64 x 6148914691236517205)) 2) 3689348814741910323) (bAnd .u64 (bAdd .u64 (bAnd .u64 (bShr .u64 x 1) 6148914691236517205) (bAnd .u64 x 6148914691236517205)) 3689348814741910323)) 4) (bAdd .u64 (bAnd .u64 (bShr .u64 (bAdd .u64 (bAnd .u64 (bShr .u64 x 1) 6148914691236517205) (bAnd .u64 x 6148914691236517205)) 2) 3689348814741910323) (bAnd .u64 (bAdd .u64 (bAnd .u64 (bShr .u64 x 1) 6148914691236517205) (bAnd .u64 x 6148914691236517205)) 3689348814741910323))) 1085102592571150095)))], []⟩ (by kernel_rfl) ?_
  refine At.nil ?_
  refine At.then_normal ?_
  refine At.seq ?_
  refine At.region ?_
  refine At.runk 5 [20, 21, 22, 23] [] ⟨fr 35 [(0, (vU (bAdd .u64 (bAnd .u64 (bAdd .u64 (bShr .u64 (bAdd .u64 (bAnd .u64 (bShr .u64 (bAdd .u64 (bAnd .u64 (bShr .u64 x 1) 6148914691236517205) (bAnd .u64 x 6148914691236517205)) 2) 3689348814741910323) (bAnd .u64 (bAdd .u64 (bAnd .u64 (bShr .u64 x 1) 6148914691236517205) (bAnd .u64 x 6148914691236517205)) 3689348814741910323)) 4) (bAdd .u64 (bAnd .u64 (bShr .u64 (bAdd .u64 (bAnd .u64 (bShr .u64 x 1) 6148914691236517205) (bAnd .u64 x 6148914691236517205)) 2) 3689348814741910323) (bAnd .u64 (bAdd .u64 (bAnd .u64 (bShr .u64 x 1) 6148914691236517205) (bAnd .u64 x 6148914691236517205)) 3689348814741910323))) 1085102592571150095) (bShr .u64 (bAnd .u64 (bAdd .u64 (bShr .u64 (bAdd .u64 (bAnd .u64 (bShr .u64 (bAdd .u64 (bAnd .u64 (bShr .u64 x 1) 6148914691236517205) (bAnd .u64 x 6148914691236517205)) 2) 3689348814741910323) (bAnd .u64 (bAdd .u64 (bAnd .u64 (bShr .u64 x 1) 6148914691236517205) (bAnd .u64 x 6148914691236517205)) 3689348814741910323)) 4) (bAdd .u64 (bAnd .u64 (bShr .u64 (bAdd .u64 (bAnd .u64 (bShr .u64 x 1) 6148914691236517205) (bAnd .u64 x 6148914691236517205)) 2) 3689348814741910323) (bAnd .u64 (bAdd .u64 (bAnd .u64 (bShr .u64 x 1) 6148914691236517205) (bAnd .u64 x 6148914691236517205)) 3689348814741910323))) 1085102592571150095) 8))))], []⟩ (by kernel_rfl) ?_
  refine At.nil ?_
  refine At.then_normal ?_
  refine At.seq ?_
  refine At.region ?_
  refine At.runk 5 [24, 25, 26, 27] [] ⟨fr 35 [(0, (vU (bAdd .u64 (bAdd .u64 (bAnd .u64 (bAdd .u64 (bShr .u64 (bAdd .u64 (bAnd .u64 (bShr .u64 (bAdd .u64 (bAnd .u64 (bShr .u64 x 1) 6148914691236517205) (bAnd .u64 x 6148914691236517205)) 2) 3689348814741910323) (bAnd .u64 (bAdd .u64 (bAnd .u64 (bShr .u64 x 1) 6148914691236517205) (bAnd .u64 x 6148914691236517205)) 3689348814741910323)) 4) (bAdd .u64 (bAnd .u64 (bShr .u64 (bAdd .u64 (bAnd .u64 (bShr .u64 x 1) 6148914691236517205) (bAnd .u64 x 6148914691236517205)) 2) 3689348814741910323) (bAnd .u64 (bAdd .u64 (bAnd .u64 (bShr .u64 x 1) 6148914691236517205) (bAnd .u64 x 6148914691236517205)) 3689348814741910323))) 1085102592571150095) (bShr .u64 (bAnd .u64 (bAdd .u64 (bShr .u64 (bAdd .u64 (bAnd .u64 (bShr .u64 (bAdd .u64 (bAnd .u64 (bShr .u64 x 1) 6148914691236517205) (bAnd .u64 x 6148914691236517205)) 2) 3689348814741910323) (bAnd .u64 (bAdd .u64 (bAnd .u64 (bShr .u64 x 1) 6148914691236517205) (bAnd .u64 x 6148914691236517205)) 3689348814741910323)) 4) (bAdd .u64 (bAnd .u64 (bShr .u64 (bAdd .u64 (bAnd .u64 (bShr .u64 x 1) 6148914691236517205) (bAnd .u64 x 6148914691236517205)) 2) 3689348814741910323) (bAnd .u64 (bAdd .u64 (bAnd .u64 (bShr .u64 x 1) 6148914691236517205) (bAnd .u64 x 6148914691236517205)) 3689348814741910323))) 1085102592571150095) 8)) (bShr .u64 (bAdd .u64 (bAnd .u64 (bAdd .u64 (bShr .u64 (bAdd .u64 (bAnd .u64 (bShr .u64 (bAdd .u64 (bAnd .u64 (bShr .u64 x 1) 6148914691236517205) (bAnd .u64 x 6148914691236517205)) 2) 3689348814741910323) (bAnd .u64 (bAdd .u64 (bAnd .u64 (bShr .u64 x 1) 6148914691236517205) (bAnd .u64 x 6148914691236517205)) 3689348814741910323)) 4) (bAdd .u64 (bAnd .u64 (bShr .u64 (bAdd .u64 (bAnd .u64 (bShr .u64 x 1) 6148914691236517205) (bAnd .u64 x 6148914691236517205)) 2) 3689348814741910323) (bAnd .u64 (bAdd .u64 (bAnd .u64 (bShr .u64 x 1) 6148914691236517205) (bAnd .u64 x 6148914691236517205)) 3689348814741910323))) 1085102592571150095) (bShr .u64 (bAnd .u64 (bAdd .u64 (bShr .u64 (bAdd .u64 (bAnd .u64 (bShr .u64 (bAdd .u64 (bAnd .u64 (bShr .u64 x 1) 6148914691236517205) (bAnd .u64 x 6148914691236517205)) 2) 3689348814741910323) (bAnd .u64 (bAdd .u64 (bAnd .u64 (bShr .u64 x 1) 6148914691236517205) (bAnd .u64 x 6148914691236517205)) 3689348814741910323)) 4) (bAdd .u64 (bAnd .u64 (bShr .u64 (bAdd .u64 (bAnd .u64 (bShr .u64 x 1) 6148914691236517205) (bAnd .u64 x 6148914691236517205)) 2) 3689348814741910323) (bAnd .u64 (bAdd .u64 (bAnd .u64 (bShr .u64 x 1) 6148914691236517205) (bAnd .u64 x 6148914691236517205)) 3689348814741910323))) 1085102592571150095) 8)) 16))))], []⟩ (by kernel_rfl) ?_
  refine At.nil ?_
  refine At.then_normal ?_
  refine At.seq ?_
  refine At.region ?_
  refine At.runk 5 [28, 29, 30, 31] [] ⟨fr 35 [(0, (vU (bAdd .u64 (bAdd .u64 (bAdd .u64 (bAnd .u64 (bAdd .u64 (bShr .u64 (bAdd .u64 (bAnd .u64 (bShr .u64 (bAdd .u64 (bAnd .u64 (bShr .u64 x 1) 6148914691236517205) (bAnd .u64 x 6148914691236517205)) 2) 3689348814741910323) (bAnd .u64 (bAdd .u64 (bAnd .u64 (bShr .u64 x 1) 6148914691236517205) (bAnd .u64 x 6148914691236517205)) 3689348814741910323)) 4) (bAdd .u64 (bAnd .u64 (bShr .u64 (bAdd .u64 (bAnd .u64 (bShr .u64 x 1) 6148914691236517205) (bAnd .u64 x 6148914691236517205)) 2) 3689348814741910323) (bAnd .u64 (bAdd .u64 (bAnd .u64 (bShr .u64 x 1) 6148914691236517205) (bAnd .u64 x 6148914691236517205)) 3689348814741910323))) 1085102592571150095) (bShr .u64 (bAnd .u64 (bAdd .u64 (bShr .u64 (bAdd .u64 (bAnd .u64 (bShr .u64 (bAdd .u64 (bAnd .u64 (bShr .u64 x 1) 6148914691236517205) (bAnd .u64 x 6148914691236517205)) 2) 3689348814741910323) (bAnd .u64 (bAdd .u64 (bAnd .u64 (bShr .u64 x 1) 6148914691236517205) (bAnd .u64 x 6148914691236517205)) 3689348814741910323)) 4) (bAdd .u64 (bAnd .u64 (bShr .u64 (bAdd .u64 (bAnd .u64 (bShr .u64 x 1) 6148914691236517205) (bAnd .u64 x 6148914691236517205)) 2) 3689348814741910323) (bAnd .u64 (bAdd .u64 (bAnd .u64 (bShr .u64 x 1) 6148914691236517205) (bAnd .u64 x 6148914691236517205)) 3689348814741910323))) 1085102592571150095) 8)) (bShr .u64 (bAdd .u64 (bAnd .u64 (bAdd .u64 (bShr .u64 (bAdd .u64 (bAnd .u64 (bShr .u64 (bAdd .u64 (bAnd .u64 (bShr .u64 x 1) 6148914691236517205) (bAnd .u64 x 6148914691236517205)) 2) 3689348814741910323) (bAnd .u64 (bAdd .u64 (bAnd .u64 (bShr .u64 x 1) 6148914691236517205) (bAnd .u64 x 6148914691236517205)) 3689348814741910323)) 4) (bAdd .u64 (bAnd .u64 (bShr .u64 (bAdd .u64 (bAnd .u64 (bShr .u64 x 1) 6148914691236517205) (bAnd .u64 x 6148914691236517205)) 2) 3689348814741910323) (bAnd .u64 (bAdd .u64 (bAnd .u64 (bShr .u64 x 1) 6148914691236517205) (bAnd .u64 x 6148914691236517205)) 3689348814741910323))) 1085102592571150095) (bShr .u64 (bAnd .u64 (bAdd .u64 (bShr .u64 (bAdd .u64 (bAnd .u64 (bShr .u64 (bAdd .u64 (bAnd .u64 (bShr .u64 x 1) 6148914691236517205) (bAnd .u64 x 6148914691236517205)) 2) 3689348814741910323) (bAnd .u64 (bAdd .u64 (bAnd .u64 (bShr .u64 x 1) 6148914691236517205) (bAnd .u64 x 6148914691236517205)) 3689348814741910323)) 4) (bAdd .u64 (bAnd .u64 (bShr .u64 (bAdd .u64 (bAnd .u64 (bShr .u64 x 1) 6148914691236517205) (bAnd .u64 x 6148914691236517205)) 2) 3689348814741910323) (bAnd .u64 (bAdd .u64 (bAnd .u64 (bShr .u64 x 1) 6148914691236517205) (bAnd .u64 x 6148914691236517205)) 3689348814741910323))) 1085102592571150095) 8)) 16)) (bShr .u64 (bAdd .u64 (bAdd .u64 (bAnd .u64 (bAdd .u64 (bShr .u64 (bAdd .u64 (bAnd .u64 (bShr .u64 (bAdd .u64 (bAnd .u64 (bShr .u64 x 1) 6148914691236517205) (bAnd .u64 x 6148914691236517205)) 2) 3689348814741910323) (bAnd .u64 (bAdd .u64 (bAnd .u64 (bShr .u64 x 1) 6148914691236517205) (bAnd .u64 x 6148914691236517205)) 3689348814741910323)) 4) (bAdd .u64 (bAnd .u64 (bShr .u64 (bAdd .u64 (bAnd .u64 (bShr .u64 x 1) 6148914691236517205) (bAnd .u64 x 6148914691236517205)) 2) 3689348814741910323) (bAnd .u64 (bAdd .u64 (bAnd .u64 (bShr .u64 x 1) 6148914691236517205) (bAnd .u64 x 6148914691236517205)) 3689348814741910323))) 1085102592571150095) (bShr .u64 (bAnd .u64 (bAdd .u64 (bShr .u64 (bAdd .u64 (bAnd .u64 (bShr .u64 (bAdd .u64 (bAnd .u64 (bShr .u64 x 1) 6148914691236517205) (bAnd .u64 x 6148914691236517205)) 2) 3689348814741910323) (bAnd .u64 (bAdd .u64 (bAnd .u64 (bShr .u64 x 1) 6148914691236517205) (bAnd .u64 x 6148914691236517205)) 3689348814741910323)) 4) (bAdd .u64 (bAnd .u64 (bShr .u64 (bAdd .u64 (bAnd .u64 (bShr .u64 x 1) 6148914691236517205) (bAnd .u64 x 6148914691236517205)) 2) 3689348814741910323) (bAnd .u64 (bAdd .u64 (bAnd .u64 (bShr .u64 x 1) 6148914691236517205) (bAnd .u64 x 6148914691236517205)) 3689348814741910323))) 1085102592571150095) 8)) (bShr .u64 (bAdd .u64 (bAnd .u64 (bAdd .u64 (bShr .u64 (bAdd .u64 (bAnd .u64 (bShr .u64 (bAdd .u64 (bAnd .u64 (bShr .u64 x 1) 6148914691236517205) (bAnd .u64 x 6148914691236517205)) 2) 3689348814741910323) (bAnd .u64 (bAdd .u64 (bAnd .u64 (bShr .u64 x 1) 6148914691236517205) (bAnd .u64 x 6148914691236517205)) 3689348814741910323)) 4) (bAdd .u64 (bAnd .u64 (bShr .u64 (bAdd .u64 (bAnd .u64 (bShr .u64 x 1) 6148914691236517205) (bAnd .u64 x 6148914691236517205)) 2) 3689348814741910323) (bAnd .u64 (bAdd .u64 (bAnd .u64 (bShr .u64 x 1) 6148914691236517205) (bAnd .u64 x 6148914691236517205)) 3689348814741910323))) 1085102592571150095) (bShr .u64 (bAnd .u64 (bAdd .u64 (bShr .u64 (bAdd .u64 (bAnd .u64 (bShr .u64 (bAdd .u64 (bAnd .u64 (bShr .u64 x 1) 6148914691236517205) (bAnd .u64 x 6148914691236517205)) 2) 3689348814741910323) (bAnd .u64 (bAdd .u64 (bAnd .u64 (bShr .u64 x 1) 6148914691236517205) (bAnd .u64 x 6148914691236517205)) 3689348814741910323)) 4) (bAdd .u64 (bAnd .u64 (bShr .u64 (bAdd .u64 (bAnd .u64 (bShr .u64 x 1) 6148914691236517205) (bAnd .u64 x 6148914691236517205)) 2) 3689348814741910323) (bAnd .u64 (bAdd .u64 (bAnd .u64 (bShr .u64 x 1) 6148914691236517205) (bAnd .u64 x 6148914691236517205)) 3689348814741910323))) 1085102592571150095) 8)) 16)) 32))))], []⟩ (by kernel_rfl) ?_
  refine At.nil ?_
  refine At.then_normal ?_
  refine At.seq ?_
  refine At.region ?_
  refine At.runk 4 [0, 32, 33, 34] [] ⟨fr 35 [(2, (vI (bAnd .i64 (bCv .i64 (bAdd .u64 (bAdd .u64 (bAdd .u64 (bAnd .u64 (bAdd .u64 (bShr .u64 (bAdd .u64 (bAnd .u64 (bShr .u64 (bAdd .u64 (bAnd .u64 (bShr .u64 x 1) 6148914691236517205) (bAnd .u64 x 6148914691236517205)) 2) 3689348814741910323) (bAnd .u64 (bAdd .u64 (bAnd .u64 (bShr .u64 x 1) 6148914691236517205) (bAnd .u64 x 6148914691236517205)) 3689348814741910323)) 4) (bAdd .u64 (bAnd .u64 (bShr .u64 (bAdd .u64 (bAnd .u64 (bShr .u64 x 1) 6148914691236517205) (bAnd .u64 x 6148914691236517205)) 2) 3689348814741910323) (bAnd .u64 (bAdd .u64 (bAnd .u64 (bShr .u64 x 1) 6148914691236517205) (bAnd .u64 x 6148914691236517205)) 3689348814741910323))) 1085102592571150095) (bShr .u64 (bAnd .u64 (bAdd .u64 (bShr .u64 (bAdd .u64 (bAnd .u64 (bShr .u64 (bAdd .u64 (bAnd .u64 (bShr .u64 x 1) 6148914691236517205) (bAnd .u64 x 6148914691236517205)) 2) 3689348814741910323) (bAnd .u64 (bAdd .u64 (bAnd .u64 (bShr .u64 x 1) 6148914691236517205) (bAnd .u64 x 6148914691236517205)) 3689348814741910323)) 4) (bAdd .u64 (bAnd .u64 (bShr .u64 (bAdd .u64 (bAnd .u64 (bShr .u64 x 1) 6148914691236517205) (bAnd .u64 x 6148914691236517205)) 2) 3689348814741910323) (bAnd .u64 (bAdd .u64 (bAnd .u64 (bShr .u64 x 1) 6148914691236517205) (bAnd .u64 x 6148914691236517205)) 3689348814741910323))) 1085102592571150095) 8)) (bShr .u64 (bAdd .u64 (bAnd .u64 (bAdd .u64 (bShr .u64 (bAdd .u64 (bAnd .u64 (bShr .u64 (bAdd .u64 (bAnd .u64 (bShr .u64 x 1) 6148914691236517205) (bAnd .u64 x 6148914691236517205)) 2) 3689348814741910323) (bAnd .u64 (bAdd .u64 (bAnd .u64 (bShr .u64 x 1) 6148914691236517205) (bAnd .u64 x 6148914691236517205)) 3689348814741910323)) 4) (bAdd .u64 (bAnd .u64 (bShr .u64 (bAdd .u64 (bAnd .u64 (bShr .u64 x 1) 6148914691236517205) (bAnd .u64 x 6148914691236517205)) 2) 3689348814741910323) (bAnd .u64 (bAdd .u64 (bAnd .u64 (bShr .u64 x 1) 6148914691236517205) (bAnd .u64 x 6148914691236517205)) 3689348814741910323))) 1085102592571150095) (bShr .u64 (bAnd .u64 (bAdd .u64 (bShr .u64 (bAdd .u64 (bAnd .u64 (bShr .u64 (bAdd .u64 (bAnd .u64 (bShr .u64 x 1) 6148914691236517205) (bAnd .u64 x 6148914691236517205)) 2) 3689348814741910323) (bAnd .u64 (bAdd .u64 (bAnd .u64 (bShr .u64 x 1) 6148914691236517205) (bAnd .u64 x 6148914691236517205)) 3689348814741910323)) 4) (bAdd .u64 (bAnd .u64 (bShr .u64 (bAdd .u64 (bAnd .u64 (bShr .u64 x 1) 6148914691236517205) (bAnd .u64 x 6148914691236517205)) 2) 3689348814741910323) (bAnd .u64 (bAdd .u64 (bAnd .u64 (bShr .u64 x 1) 6148914691236517205) (bAnd .u64 x 6148914691236517205)) 3689348814741910323))) 1085102592571150095) 8)) 16)) (bShr .u64 (bAdd .u64 (bAdd .u64 (bAnd .u64 (bAdd .u64 (bShr .u64 (bAdd .u64 (bAnd .u64 (bShr .u64 (bAdd .u64 (bAnd .u64 (bShr .u64 x 1) 6148914691236517205) (bAnd .u64 x 6148914691236517205)) 2) 3689348814741910323) (bAnd .u64 (bAdd .u64 (bAnd .u64 (bShr .u64 x 1) 6148914691236517205) (bAnd .u64 x 6148914691236517205)) 3689348814741910323)) 4) (bAdd .u64 (bAnd .u64 (bShr .u64 (bAdd .u64 (bAnd .u64 (bShr .u64 x 1) 6148914691236517205) (bAnd .u64 x 6148914691236517205)) 2) 3689348814741910323) (bAnd .u64 (bAdd .u64 (bAnd .u64 (bShr .u64 x 1) 6148914691236517205) (bAnd .u64 x 6148914691236517205)) 3689348814741910323))) 1085102592571150095) (bShr .u64 (bAnd .u64 (bAdd .u64 (bShr .u64 (bAdd .u64 (bAnd .u64 (bShr .u64 (bAdd .u64 (bAnd .u64 (bShr .u64 x 1) 6148914691236517205) (bAnd .u64 x 6148914691236517205)) 2) 3689348814741910323) (bAnd .u64 (bAdd .u64 (bAnd .u64 (bShr .u64 x 1) 6148914691236517205) (bAnd .u64 x 6148914691236517205)) 3689348814741910323)) 4) (bAdd .u64 (bAnd .u64 (bShr .u64 (bAdd .u64 (bAnd .u64 (bShr .u64 x 1) 6148914691236517205) (bAnd .u64 x 6148914691236517205)) 2) 3689348814741910323) (bAnd .u64 (bAdd .u64 (bAnd .u64 (bShr .u64 x 1) 6148914691236517205) (bAnd .u64 x 6148914691236517205)) 3689348814741910323))) 1085102592571150095) 8)) (bShr .u64 (bAdd .u64 (bAnd .u64 (bAdd .u64 (bShr .u64 (bAdd .u64 (bAnd .u64 (bShr .u64 (bAdd .u64 (bAnd .u64 (bShr .u64 x 1) 6148914691236517205) (bAnd .u64 x 6148914691236517205)) 2) 3689348814741910323) (bAnd .u64 (bAdd .u64 (bAnd .u64 (bShr .u64 x 1) 6148914691236517205) (bAnd .u64 x 6148914691236517205)) 3689348814741910323)) 4) (bAdd .u64 (bAnd .u64 (bShr .u64 (bAdd .u64 (bAnd .u64 (bShr .u64 x 1) 6148914691236517205) (bAnd .u64 x 6148914691236517205)) 2) 3689348814741910323) (bAnd .u64 (bAdd .u64 (bAnd .u64 (bShr .u64 x 1) 6148914691236517205) (bAnd .u64 x 6148914691236517205)) 3689348814741910323))) 1085102592571150095) (bShr .u64 (bAnd .u64 (bAdd .u64 (bShr .u64 (bAdd .u64 (bAnd .u64 (bShr .u64 (bAdd .u64 (bAnd .u64 (bShr .u64 x 1) 6148914691236517205) (bAnd .u64 x 6148914691236517205)) 2) 3689348814741910323) (bAnd .u64 (bAdd .u64 (bAnd .u64 (bShr .u64 x 1) 6148914691236517205) (bAnd .u64 x 6148914691236517205)) 3689348814741910323)) 4) (bAdd .u64 (bAnd .u64 (bShr .u64 (bAdd .u64 (bAnd .u64 (bShr .u64 x 1) 6148914691236517205) (bAnd .u64 x 6148914691236517205)) 2) 3689348814741910323) (bAnd .u64 (bAdd .u64 (bAnd .u64 (bShr .u64 x 1) 6148914691236517205) (bAnd .u64 x 6148914691236517205)) 3689348814741910323))) 1085102592571150095) 8)) 16)) 32))) 127)))], []⟩ (by kernel_rfl) ?_
  refine At.nil ?_
  refine At.then_normal ?_
  refine At.ret_ ?_
  refine At.leaveR rfl (bAnd .i64 (bCv .i64 (bAdd .u64 (bAdd .u64 (bAdd .u64 (bAnd .u64 (bAdd .u64 (bShr .u64 (bAdd .u64 (bAnd .u64 (bShr .u64 (bAdd .u64 (bAnd .u64 (bShr .u64 x 1) 6148914691236517205) (bAnd .u64 x 6148914691236517205)) 2) 3689348814741910323) (bAnd .u64 (bAdd .u64 (bAnd .u64 (bShr .u64 x 1) 6148914691236517205) (bAnd .u64 x 6148914691236517205)) 3689348814741910323)) 4) (bAdd .u64 (bAnd .u64 (bShr .u64 (bAdd .u64 (bAnd .u64 (bShr .u64 x 1) 6148914691236517205) (bAnd .u64 x 6148914691236517205)) 2) 3689348814741910323) (bAnd .u64 (bAdd .u64 (bAnd .u64 (bShr .u64 x 1) 6148914691236517205) (bAnd .u64 x 6148914691236517205)) 3689348814741910323))) 1085102592571150095) (bShr .u64 (bAnd .u64 (bAdd .u64 (bShr .u64 (bAdd .u64 (bAnd .u64 (bShr .u64 (bAdd .u64 (bAnd .u64 (bShr .u64 x 1) 6148914691236517205) (bAnd .u64 x 6148914691236517205)) 2) 3689348814741910323) (bAnd .u64 (bAdd .u64 (bAnd .u64 (bShr .u64 x 1) 6148914691236517205) (bAnd .u64 x 6148914691236517205)) 3689348814741910323)) 4) (bAdd .u64 (bAnd .u64 (bShr .u64 (bAdd .u64 (bAnd .u64 (bShr .u64 x 1) 6148914691236517205) (bAnd .u64 x 6148914691236517205)) 2) 3689348814741910323) (bAnd .u64 (bAdd .u64 (bAnd .u64 (bShr .u64 x 1) 6148914691236517205) (bAnd .u64 x 6148914691236517205)) 3689348814741910323))) 1085102592571150095) 8)) (bShr .u64 (bAdd .u64 (bAnd .u64 (bAdd .u64 (bShr .u64 (bAdd .u64 (bAnd .u64 (bShr .u64 (bAdd .u64 (bAnd .u64 (bShr .u64 x 1) 6148914691236517205) (bAnd .u64 x 6148914691236517205)) 2) 3689348814741910323) (bAnd .u64 (bAdd .u64 (bAnd .u64 (bShr .u64 x 1) 6148914691236517205) (bAnd .u64 x 6148914691236517205)) 3689348814741910323)) 4) (bAdd .u64 (bAnd .u64 (bShr .u64 (bAdd .u64 (bAnd .u64 (bShr .u64 x 1) 6148914691236517205) (bAnd .u64 x 6148914691236517205)) 2) 3689348814741910323) (bAnd .u64 (bAdd .u64 (bAnd .u64 (bShr .u64 x 1) 6148914691236517205) (bAnd .u64 x 6148914691236517205)) 3689348814741910323))) 1085102592571150095) (bShr .u64 (bAnd .u64 (bAdd .u64 (bShr .u64 (bAdd .u64 (bAnd .u64 (bShr .u64 (bAdd .u64 (bAnd .u64 (bShr .u64 x 1) 6148914691236517205) (bAnd .u64 x 6148914691236517205)) 2) 3689348814741910323) (bAnd .u64 (bAdd .u64 (bAnd .u64 (bShr .u64 x 1) 6148914691236517205) (bAnd .u64 x 6148914691236517205)) 3689348814741910323)) 4) (bAdd .u64 (bAnd .u64 (bShr .u64 (bAdd .u64 (bAnd .u64 (bShr .u64 x 1) 6148914691236517205) (bAnd .u64 x 6148914691236517205)) 2) 3689348814741910323) (bAnd .u64 (bAdd .u64 (bAnd .u64 (bShr .u64 x 1) 6148914691236517205) (bAnd .u64 x 6148914691236517205)) 3689348814741910323))) 1085102592571150095) 8)) 16)) (bShr .u64 (bAdd .u64 (bAdd .u64 (bAnd .u64 (bAdd .u64 (bShr .u64 (bAdd .u64 (bAnd .u64 (bShr .u64 (bAdd .u64 (bAnd .u64 (bShr .u64 x 1) 6148914691236517205) (bAnd .u64 x 6148914691236517205)) 2) 3689348814741910323) (bAnd .u64 (bAdd .u64 (bAnd .u64 (bShr .u64 x 1) 6148914691236517205) (bAnd .u64 x 6148914691236517205)) 3689348814741910323)) 4) (bAdd .u64 (bAnd .u64 (bShr .u64 (bAdd .u64 (bAnd .u64 (bShr .u64 x 1) 6148914691236517205) (bAnd .u64 x 6148914691236517205)) 2) 3689348814741910323) (bAnd .u64 (bAdd .u64 (bAnd .u64 (bShr .u64 x 1) 6148914691236517205) (bAnd .u64 x 6148914691236517205)) 3689348814741910323))) 1085102592571150095) (bShr .u64 (bAnd .u64 (bAdd .u64 (bShr .u64 (bAdd .u64 (bAnd .u64 (bShr .u64 (bAdd .u64 (bAnd .u64 (bShr .u64 x 1) 6148914691236517205) (bAnd .u64 x 6148914691236517205)) 2) 3689348814741910323) (bAnd .u64 (bAdd .u64 (bAnd .u64 (bShr .u64 x 1) 6148914691236517205) (bAnd .u64 x 6148914691236517205)) 3689348814741910323)) 4) (bAdd .u64 (bAnd .u64 (bShr .u64 (bAdd .u64 (bAnd .u64 (bShr .u64 x 1) 6148914691236517205) (bAnd .u64 x 6148914691236517205)) 2) 3689348814741910323) (bAnd .u64 (bAdd .u64 (bAnd .u64 (bShr .u64 x 1) 6148914691236517205) (bAnd .u64 x 6148914691236517205)) 3689348814741910323))) 1085102592571150095) 8)) (bShr .u64 (bAdd .u64 (bAnd .u64 (bAdd .u64 (bShr .u64 (bAdd .u64 (bAnd .u64 (bShr .u64 (bAdd .u64 (bAnd .u64 (bShr .u64 x 1) 6148914691236517205) (bAnd .u64 x 6148914691236517205)) 2) 3689348814741910323) (bAnd .u64 (bAdd .u64 (bAnd .u64 (bShr .u64 x 1) 6148914691236517205) (bAnd .u64 x 6148914691236517205)) 3689348814741910323)) 4) (bAdd .u64 (bAnd .u64 (bShr .u64 (bAdd .u64 (bAnd .u64 (bShr .u64 x 1) 6148914691236517205) (bAnd .u64 x 6148914691236517205)) 2) 3689348814741910323) (bAnd .u64 (bAdd .u64 (bAnd .u64 (bShr .u64 x 1) 6148914691236517205) (bAnd .u64 x 6148914691236517205)) 3689348814741910323))) 1085102592571150095) (bShr .u64 (bAnd .u64 (bAdd .u64 (bShr .u64 (bAdd .u64 (bAnd .u64 (bShr .u64 (bAdd .u64 (bAnd .u64 (bShr .u64 x 1) 6148914691236517205) (bAnd .u64 x 6148914691236517205)) 2) 3689348814741910323) (bAnd .u64 (bAdd .u64 (bAnd .u64 (bShr .u64 x 1) 6148914691236517205) (bAnd .u64 x 6148914691236517205)) 3689348814741910323)) 4) (bAdd .u64 (bAnd .u64 (bShr .u64 (bAdd .u64 (bAnd .u64 (bShr .u64 x 1) 6148914691236517205) (bAnd .u64 x 6148914691236517205)) 2) 3689348814741910323) (bAnd .u64 (bAdd .u64 (bAnd .u64 (bShr .u64 x 1) 6148914691236517205) (bAnd .u64 x 6148914691236517205)) 3689348814741910323))) 1085102592571150095) 8)) 16)) 32))) 127) (by kernel_rfl) (by kernel_rfl) (by kernel_rfl) ?_
  rfl

end Go.Sx
