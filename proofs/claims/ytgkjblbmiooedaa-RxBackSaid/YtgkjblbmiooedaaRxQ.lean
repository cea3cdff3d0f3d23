/- RxQ: printed by wip/gen/lib04.py. Walks over functions of the program. -/
import Derived.Test.YtgkjblbmiooedaaRxP
namespace Go.Sx
open Go.Proofs Go.RowKit
theorem rev0_c (Φ : Phi) (A : Option Addr) (c : Nat)  : CallR Try.prog 62 [(vS A 0 c)] [.o (.slice A 0 c) 0 [] 30 1] Φ Unit (fun _ => .tup []) (fun _ => [.o (.slice A 0 c) 0 [] 30 1]) (fun _ _ => True) := by
  refine CallG.enterk Try.func62 rfl [1, 2, 3, 4, 5, 6, 7, 8, 9, 10, 11, 12, 13, 14, 15, 16, 17, 18, 19, 20, 21, 22, 23, 24, 25, 26, 27] ⟨fr 28 [(0, (vS A 0 c))], [.o (.slice A 0 c) 0 [] 30 1]⟩ (by kernel_rfl) (by kernel_rfl) ?_
  intro E G β0
  refine At.seq ?_
  refine At.region ?_
  refine At.runk 5 [4, 5, 6] [] ⟨fr 28 [(0, (vS A 0 c)), (2, (vI 0)), (3, (vI (-1)))], [.o (.slice A 0 c) 0 [] 30 1]⟩ (by kernel_rfl) ?_
  refine At.nil ?_
  refine At.then_normal ?_
  refine At.block ?_
  refine At.loop (T := Nat) (fun x => ⟨fr 28 [(0, (vS A 0 c)), (2, (vI 0)), (3, (vI (-1)))], [.o (.slice A 0 c) 0 [] 30 1]⟩) (fun x Φ => True) (fun x => x) 0 (by kernel_rfl) trivial ?_
  rintro i Φ1 hle2 hF
  refine At.cast (S' := ⟨fr 28 [(0, (vS A 0 c)), (2, (vI 0)), (3, (vI (-1)))], [.o (.slice A 0 c) 0 [] 30 1]⟩) (by kernel_rfl) ?_
  refine At.seq ?_
  refine At.seq ?_
  refine At.region ?_
  refine At.runk 3 [7, 8] [] ⟨fr 28 [(0, (vS A 0 c)), (2, (vI 0)), (3, (vI (-1))), (9, (vB false))], [.o (.slice A 0 c) 0 [] 30 1]⟩ (by kernel_rfl) ?_
  refine At.nil ?_
  refine At.then_normal ?_
  refine At.cond_f (by kernel_rfl) ?_
  refine At.exit_ ?_
  refine At.then_exit ?_
  refine At.then_exit ?_
  refine At.in_here ?_
  refine At.forget [0, 2, 3, 9] 1 [] ⟨fr 28 [], [.o (.slice A 0 c) 0 [] 30 1]⟩ (by kernel_rfl) (by kernel_rfl) (bleT rfl) ?_
  refine At.leaveR_end rfl () (by kernel_rfl) (by kernel_rfl) (by kernel_rfl) ?_
  trivial

theorem rev1_c (Φ : Phi) (a : Pt) (A : Option Addr) (c : Nat)  : CallR Try.prog 62 [(vS A 1 c)] [.o (.slice A 1 c) 1 [.slice a.A a.nds.length a.c] 30 1] Φ Unit (fun _ => .tup []) (fun _ => [.o (.slice A 1 c) 1 [.slice a.A a.nds.length a.c] 30 1]) (fun _ _ => True) := by
  refine CallG.enterk Try.func62 rfl [1, 2, 3, 4, 5, 6, 7, 8, 9, 10, 11, 12, 13, 14, 15, 16, 17, 18, 19, 20, 21, 22, 23, 24, 25, 26, 27] ⟨fr 28 [(0, (vS A 1 c))], [.o (.slice A 1 c) 1 [.slice a.A a.nds.length a.c] 30 1]⟩ (by kernel_rfl) (by kernel_rfl) ?_
  intro E G β0
  refine At.seq ?_
  refine At.region ?_
  refine At.runk 5 [4, 5, 6] [] ⟨fr 28 [(0, (vS A 1 c)), (2, (vI 0)), (3, (vI 0))], [.o (.slice A 1 c) 1 [.slice a.A a.nds.length a.c] 30 1]⟩ (by kernel_rfl) ?_
  refine At.nil ?_
  refine At.then_normal ?_
  refine At.block ?_
  refine At.loop (T := Nat) (fun x => ⟨fr 28 [(0, (vS A 1 c)), (2, (vI 0)), (3, (vI 0))], [.o (.slice A 1 c) 1 [.slice a.A a.nds.length a.c] 30 1]⟩) (fun x Φ => True) (fun x => x) 0 (by kernel_rfl) trivial ?_
  rintro i Φ1 hle2 hF
  refine At.cast (S' := ⟨fr 28 [(0, (vS A 1 c)), (2, (vI 0)), (3, (vI 0))], [.o (.slice A 1 c) 1 [.slice a.A a.nds.length a.c] 30 1]⟩) (by kernel_rfl) ?_
  refine At.seq ?_
  refine At.seq ?_
  refine At.region ?_
  refine At.runk 3 [7, 8] [] ⟨fr 28 [(0, (vS A 1 c)), (2, (vI 0)), (3, (vI 0)), (9, (vB false))], [.o (.slice A 1 c) 1 [.slice a.A a.nds.length a.c] 30 1]⟩ (by kernel_rfl) ?_
  refine At.nil ?_
  refine At.then_normal ?_
  refine At.cond_f (by kernel_rfl) ?_
  refine At.exit_ ?_
  refine At.then_exit ?_
  refine At.then_exit ?_
  refine At.in_here ?_
  refine At.forget [0, 2, 3, 9] 1 [] ⟨fr 28 [], [.o (.slice A 1 c) 1 [.slice a.A a.nds.length a.c] 30 1]⟩ (by kernel_rfl) (by kernel_rfl) (bleT rfl) ?_
  refine At.leaveR_end rfl () (by kernel_rfl) (by kernel_rfl) (by kernel_rfl) ?_
  trivial

theorem rev2_c (Φ : Phi) (a b : Pt) (A : Option Addr) (c : Nat)  : CallR Try.prog 62 [(vS A 2 c)] [.o (.slice A 2 c) 2 [.slice a.A a.nds.length a.c, .slice b.A b.nds.length b.c] 30 1] Φ Unit (fun _ => .tup []) (fun _ => [.o (.slice A 2 c) 2 [.slice b.A b.nds.length b.c, .slice a.A a.nds.length a.c] 30 1]) (fun _ _ => True) := by
  refine CallG.enterk Try.func62 rfl [1, 2, 3, 4, 5, 6, 7, 8, 9, 10, 11, 12, 13, 14, 15, 16, 17, 18, 19, 20, 21, 22, 23, 24, 25, 26, 27] ⟨fr 28 [(0, (vS A 2 c))], [.o (.slice A 2 c) 2 [.slice a.A a.nds.length a.c, .slice b.A b.nds.length b.c] 30 1]⟩ (by kernel_rfl) (by kernel_rfl) ?_
  intro E G β0
  refine At.seq ?_
  refine At.region ?_
  refine At.runk 5 [4, 5, 6] [] ⟨fr 28 [(0, (vS A 2 c)), (2, (vI 0)), (3, (vI 1))], [.o (.slice A 2 c) 2 [.slice a.A a.nds.length a.c, .slice b.A b.nds.length b.c] 30 1]⟩ (by kernel_rfl) ?_
  refine At.row_some 0 (A := A) (n := 2) (c := c) (xs := [.slice a.A a.nds.length a.c, .slice b.A b.nds.length b.c]) (e := 30) (sz := 1) (by kernel_rfl) (by omega) ?_
  intro g1 hg2
  subst hg2
  refine At.nil ?_
  refine At.then_normal ?_
  refine At.block ?_
  refine At.loop (T := Nat) (fun x => ⟨fr 28 [(0, (vS (aS g1 0) 2 c)), (2, (vI (x : Int))), (3, (vI ((1 - x : Nat) : Int)))], [.o (.slice (aS g1 0) 2 c) 2 (if x = 0 then [.slice a.A a.nds.length a.c, .slice b.A b.nds.length b.c] else [.slice b.A b.nds.length b.c, .slice a.A a.nds.length a.c]) 30 1]⟩) (fun x Φ => x ≤ 1) (fun x => 1 - x) 0 (by kernel_rfl) (Nat.zero_le _) ?_
  rintro i Φ3 hle4 hF
  refine At.cast (S' := ⟨fr 28 [(0, (vS (aS g1 0) 2 c)), (2, (vI (i : Int))), (3, (vI ((1 - i : Nat) : Int)))], [.o (.slice (aS g1 0) 2 c) 2 (if i = 0 then [.slice a.A a.nds.length a.c, .slice b.A b.nds.length b.c] else [.slice b.A b.nds.length b.c, .slice a.A a.nds.length a.c]) 30 1]⟩) (by kernel_rfl) ?_
  obtain rfl | rfl : i = 0 ∨ i = 1 := by omega
  · refine At.cast (S' := ⟨fr 28 [(0, (vS (aS g1 0) 2 c)), (2, (vI 0)), (3, (vI 1))], [.o (.slice (aS g1 0) 2 c) 2 [.slice a.A a.nds.length a.c, .slice b.A b.nds.length b.c] 30 1]⟩) (by kernel_rfl) ?_
    refine At.seq ?_
    refine At.seq ?_
    refine At.region ?_
    refine At.runk 3 [7, 8] [] ⟨fr 28 [(0, (vS (aS g1 0) 2 c)), (2, (vI 0)), (3, (vI 1)), (9, (vB true))], [.o (.slice (aS g1 0) 2 c) 2 [.slice a.A a.nds.length a.c, .slice b.A b.nds.length b.c] 30 1]⟩ (by kernel_rfl) ?_
    refine At.nil ?_
    refine At.then_normal ?_
    refine At.cond_t (by kernel_rfl) ?_
    refine At.skip ?_
    refine At.then_normal ?_
    refine At.seq ?_
    refine At.block ?_
    refine At.forget [9] 1 [] ⟨fr 28 [(0, (vS (aS g1 0) 2 c)), (2, (vI 0)), (3, (vI 1))], [.o (.slice (aS g1 0) 2 c) 2 [.slice a.A a.nds.length a.c, .slice b.A b.nds.length b.c] 30 1]⟩ (by kernel_rfl) (by kernel_rfl) (bleT rfl) ?_
    refine At.region_draw (by kernel_rfl) 16 (by kernel_rfl) #[false, false, false, false, false, false, false, false, false, false, false, false, false, false, false, false] (by kernel_rfl) ?_
    refine At.take (S' := ⟨fr 28 [(0, (vS (aS g1 0) 2 c)), (2, (vI 0)), (3, (vI 1)), (14, (vS (aS g1 0) 2 c))], [.o (.slice (aS g1 0) 2 c) 2 [.slice a.A a.nds.length a.c, .slice b.A b.nds.length b.c] 30 1]⟩) (PhiLe.refl 0 _) (PanOk.inBlock (PanOk.then (PanOk.then (PanOk.inBlock PanOk.body)))) 0 rfl (by kernel_rfl) (by kernel_rfl) (by kernel_rfl) (by kernel_rfl) ((vS (aS g1 0) 2 c)) (by kernel_rfl) (fun _ _ => Val.ev rfl (by kernel_rfl) (by kernel_rfl)) (by kernel_rfl) #[true, false, false, false, false, false, false, false, false, false, false, false, false, false, false, false] (by kernel_rfl) ?_
    refine At.take (S' := ⟨fr 28 [(0, (vS (aS g1 0) 2 c)), (2, (vI 0)), (3, (vI 1)), (14, (vS (aS g1 0) 2 c)), (15, (vI 0))], [.o (.slice (aS g1 0) 2 c) 2 [.slice a.A a.nds.length a.c, .slice b.A b.nds.length b.c] 30 1]⟩) (PhiLe.refl 0 _) (PanOk.inBlock (PanOk.then (PanOk.then (PanOk.inBlock PanOk.body)))) 1 rfl (by kernel_rfl) (by kernel_rfl) (by kernel_rfl) (by kernel_rfl) ((vI 0)) (by kernel_rfl) (fun _ _ => Val.ev rfl (by kernel_rfl) (by kernel_rfl)) (by kernel_rfl) #[true, true, false, false, false, false, false, false, false, false, false, false, false, false, false, false] (by kernel_rfl) ?_
    refine At.take (S' := ⟨fr 28 [(0, (vS (aS g1 0) 2 c)), (2, (vI 0)), (3, (vI 1)), (14, (vS (aS g1 0) 2 c)), (15, (vI 0)), (16, (vS (aS g1 0) 2 c))], [.o (.slice (aS g1 0) 2 c) 2 [.slice a.A a.nds.length a.c, .slice b.A b.nds.length b.c] 30 1]⟩) (PhiLe.refl 0 _) (PanOk.inBlock (PanOk.then (PanOk.then (PanOk.inBlock PanOk.body)))) 2 rfl (by kernel_rfl) (by kernel_rfl) (by kernel_rfl) (by kernel_rfl) ((vS (aS g1 0) 2 c)) (by kernel_rfl) (fun _ _ => Val.ev rfl (by kernel_rfl) (by kernel_rfl)) (by kernel_rfl) #[true, true, true, false, false, false, false, false, false, false, false, false, false, false, false, false] (by kernel_rfl) ?_
    refine At.take (S' := ⟨fr 28 [(0, (vS (aS g1 0) 2 c)), (2, (vI 0)), (3, (vI 1)), (14, (vS (aS g1 0) 2 c)), (15, (vI 0)), (16, (vS (aS g1 0) 2 c)), (17, (vI 1))], [.o (.slice (aS g1 0) 2 c) 2 [.slice a.A a.nds.length a.c, .slice b.A b.nds.length b.c] 30 1]⟩) (PhiLe.refl 0 _) (PanOk.inBlock (PanOk.then (PanOk.then (PanOk.inBlock PanOk.body)))) 3 rfl (by kernel_rfl) (by kernel_rfl) (by kernel_rfl) (by kernel_rfl) ((vI 1)) (by kernel_rfl) (fun _ _ => Val.ev rfl (by kernel_rfl) (by kernel_rfl)) (by kernel_rfl) #[true, true, true, true, false, false, false, false, false, false, false, false, false, false, false, false] (by kernel_rfl) ?_
    refine At.take (S' := ⟨fr 28 [(0, (vS (aS g1 0) 2 c)), (2, (vI 0)), (3, (vI 1)), (14, (vS (aS g1 0) 2 c)), (15, (vI 0)), (16, (vS (aS g1 0) 2 c)), (17, (vI 1)), (18, (vS (aS g1 0) 2 c))], [.o (.slice (aS g1 0) 2 c) 2 [.slice a.A a.nds.length a.c, .slice b.A b.nds.length b.c] 30 1]⟩) (PhiLe.refl 0 _) (PanOk.inBlock (PanOk.then (PanOk.then (PanOk.inBlock PanOk.body)))) 4 rfl (by kernel_rfl) (by kernel_rfl) (by kernel_rfl) (by kernel_rfl) ((vS (aS g1 0) 2 c)) (by kernel_rfl) (fun _ _ => Val.ev rfl (by kernel_rfl) (by kernel_rfl)) (by kernel_rfl) #[true, true, true, true, true, false, false, false, false, false, false, false, false, false, false, false] (by kernel_rfl) ?_
    refine At.take (S' := ⟨fr 28 [(0, (vS (aS g1 0) 2 c)), (2, (vI 0)), (3, (vI 1)), (14, (vS (aS g1 0) 2 c)), (15, (vI 0)), (16, (vS (aS g1 0) 2 c)), (17, (vI 1)), (18, (vS (aS g1 0) 2 c)), (19, (vI 1))], [.o (.slice (aS g1 0) 2 c) 2 [.slice a.A a.nds.length a.c, .slice b.A b.nds.length b.c] 30 1]⟩) (PhiLe.refl 0 _) (PanOk.inBlock (PanOk.then (PanOk.then (PanOk.inBlock PanOk.body)))) 5 rfl (by kernel_rfl) (by kernel_rfl) (by kernel_rfl) (by kernel_rfl) ((vI 1)) (by kernel_rfl) (fun _ _ => Val.ev rfl (by kernel_rfl) (by kernel_rfl)) (by kernel_rfl) #[true, true, true, true, true, true, false, false, false, false, false, false, false, false, false, false] (by kernel_rfl) ?_
    refine At.take (S' := ⟨fr 28 [(0, (vS (aS g1 0) 2 c)), (2, (vI 0)), (3, (vI 1)), (14, (vS (aS g1 0) 2 c)), (15, (vI 0)), (16, (vS (aS g1 0) 2 c)), (17, (vI 1)), (18, (vS (aS g1 0) 2 c)), (19, (vI 1)), (20, (vP g1 1))], [.o (.slice (aS g1 0) 2 c) 2 [.slice a.A a.nds.length a.c, .slice b.A b.nds.length b.c] 30 1]⟩) (PhiLe.refl 0 _) (PanOk.inBlock (PanOk.then (PanOk.then (PanOk.inBlock PanOk.body)))) 6 rfl (by kernel_rfl) (by kernel_rfl) (by kernel_rfl) (by kernel_rfl) ((vP g1 1)) (by kernel_rfl) (fun _ _ => Val.idx rfl (sz := 1) (e := 30) (by kernel_rfl) (by kernel_rfl) (by kernel_rfl) (b := g1) (off := 0) (n := 2) (cap := c) (kd := .i64) (i := 1) (by kernel_rfl) (by omega) (by omega)) (by kernel_rfl) #[true, true, true, true, true, true, true, false, false, false, false, false, false, false, false, false] (by kernel_rfl) ?_
    refine At.take (S' := ⟨fr 28 [(0, (vS (aS g1 0) 2 c)), (2, (vI 0)), (3, (vI 1)), (14, (vS (aS g1 0) 2 c)), (15, (vI 0)), (16, (vS (aS g1 0) 2 c)), (17, (vI 1)), (18, (vS (aS g1 0) 2 c)), (19, (vI 1)), (20, (vP g1 1)), (22, (vS (aS g1 0) 2 c))], [.o (.slice (aS g1 0) 2 c) 2 [.slice a.A a.nds.length a.c, .slice b.A b.nds.length b.c] 30 1]⟩) (PhiLe.refl 0 _) (PanOk.inBlock (PanOk.then (PanOk.then (PanOk.inBlock PanOk.body)))) 8 rfl (by kernel_rfl) (by kernel_rfl) (by kernel_rfl) (by kernel_rfl) ((vS (aS g1 0) 2 c)) (by kernel_rfl) (fun _ _ => Val.ev rfl (by kernel_rfl) (by kernel_rfl)) (by kernel_rfl) #[true, true, true, true, true, true, true, false, true, false, false, false, false, false, false, false] (by kernel_rfl) ?_
    refine At.take (S' := ⟨fr 28 [(0, (vS (aS g1 0) 2 c)), (2, (vI 0)), (3, (vI 1)), (14, (vS (aS g1 0) 2 c)), (15, (vI 0)), (16, (vS (aS g1 0) 2 c)), (17, (vI 1)), (18, (vS (aS g1 0) 2 c)), (19, (vI 1)), (20, (vP g1 1)), (22, (vS (aS g1 0) 2 c)), (23, (vI 0))], [.o (.slice (aS g1 0) 2 c) 2 [.slice a.A a.nds.length a.c, .slice b.A b.nds.length b.c] 30 1]⟩) (PhiLe.refl 0 _) (PanOk.inBlock (PanOk.then (PanOk.then (PanOk.inBlock PanOk.body)))) 9 rfl (by kernel_rfl) (by kernel_rfl) (by kernel_rfl) (by kernel_rfl) ((vI 0)) (by kernel_rfl) (fun _ _ => Val.ev rfl (by kernel_rfl) (by kernel_rfl)) (by kernel_rfl) #[true, true, true, true, true, true, true, false, true, true, false, false, false, false, false, false] (by kernel_rfl) ?_
    refine At.take (S' := ⟨fr 28 [(0, (vS (aS g1 0) 2 c)), (2, (vI 0)), (3, (vI 1)), (14, (vS (aS g1 0) 2 c)), (15, (vI 0)), (16, (vS (aS g1 0) 2 c)), (17, (vI 1)), (18, (vS (aS g1 0) 2 c)), (19, (vI 1)), (20, (vP g1 1)), (22, (vS (aS g1 0) 2 c)), (23, (vI 0)), (24, (vP g1 0))], [.o (.slice (aS g1 0) 2 c) 2 [.slice a.A a.nds.length a.c, .slice b.A b.nds.length b.c] 30 1]⟩) (PhiLe.refl 0 _) (PanOk.inBlock (PanOk.then (PanOk.then (PanOk.inBlock PanOk.body)))) 10 rfl (by kernel_rfl) (by kernel_rfl) (by kernel_rfl) (by kernel_rfl) ((vP g1 0)) (by kernel_rfl) (fun _ _ => Val.idx rfl (sz := 1) (e := 30) (by kernel_rfl) (by kernel_rfl) (by kernel_rfl) (b := g1) (off := 0) (n := 2) (cap := c) (kd := .i64) (i := 0) (by kernel_rfl) (by omega) (by omega)) (by kernel_rfl) #[true, true, true, true, true, true, true, false, true, true, true, false, false, false, false, false] (by kernel_rfl) ?_
    refine At.any2 7 11 (by kernel_rfl) rfl rfl #[true, true, true, true, true, true, true, true, true, true, true, false, false, false, false, false] #[true, true, true, true, true, true, true, false, true, true, true, true, false, false, false, false] (by kernel_rfl) (by kernel_rfl) ?_ ?_
    · refine At.ldrow (S' := ⟨fr 28 [(0, (vS (aS g1 0) 2 c)), (2, (vI 0)), (3, (vI 1)), (14, (vS (aS g1 0) 2 c)), (15, (vI 0)), (16, (vS (aS g1 0) 2 c)), (17, (vI 1)), (18, (vS (aS g1 0) 2 c)), (19, (vI 1)), (20, (vP g1 1)), (21, (vS b.A b.nds.length b.c)), (22, (vS (aS g1 0) 2 c)), (23, (vI 0)), (24, (vP g1 0))], [.o (.slice (aS g1 0) 2 c) 2 [.slice a.A a.nds.length a.c, .slice b.A b.nds.length b.c] 30 1]⟩) rfl (by kernel_rfl) (g := g1) (off := 1) (by kernel_rfl) 0 (n := 2) (cap := c) (xs := [.slice a.A a.nds.length a.c, .slice b.A b.nds.length b.c]) (e := 30) (sz := 1) (by kernel_rfl) [.slice b.A b.nds.length b.c] ((vS b.A b.nds.length b.c)) (by kernel_rfl) (lit_get _ _ (by kernel_rfl)) (by kernel_rfl) ?_
      refine At.nil ?_
      refine At.then_normal ?_
      refine At.held (PhiLe.refl 0 _) ?_
      refine At.any1 11 (by kernel_rfl) rfl #[true, true, true, true, true, true, true, true, true, true, true, true, false, false, false, false] (by kernel_rfl) ?_
      refine At.ldrow (S' := ⟨fr 28 [(0, (vS (aS g1 0) 2 c)), (2, (vI 0)), (3, (vI 1)), (14, (vS (aS g1 0) 2 c)), (15, (vI 0)), (16, (vS (aS g1 0) 2 c)), (17, (vI 1)), (18, (vS (aS g1 0) 2 c)), (19, (vI 1)), (20, (vP g1 1)), (21, (vS b.A b.nds.length b.c)), (22, (vS (aS g1 0) 2 c)), (23, (vI 0)), (24, (vP g1 0)), (25, (vS a.A a.nds.length a.c))], [.o (.slice (aS g1 0) 2 c) 2 [.slice a.A a.nds.length a.c, .slice b.A b.nds.length b.c] 30 1]⟩) rfl (by kernel_rfl) (g := g1) (off := 0) (by kernel_rfl) 0 (n := 2) (cap := c) (xs := [.slice a.A a.nds.length a.c, .slice b.A b.nds.length b.c]) (e := 30) (sz := 1) (by kernel_rfl) [.slice a.A a.nds.length a.c] ((vS a.A a.nds.length a.c)) (by kernel_rfl) (lit_get _ _ (by kernel_rfl)) (by kernel_rfl) ?_
      refine At.nil ?_
      refine At.then_normal ?_
      refine At.held (PhiLe.refl 0 _) ?_
      refine At.take (S' := ⟨fr 28 [(0, (vS (aS g1 0) 2 c)), (2, (vI 0)), (3, (vI 1)), (14, (vS (aS g1 0) 2 c)), (15, (vI 0)), (16, (vS (aS g1 0) 2 c)), (17, (vI 1)), (18, (vS (aS g1 0) 2 c)), (19, (vI 1)), (20, (vP g1 1)), (21, (vS b.A b.nds.length b.c)), (22, (vS (aS g1 0) 2 c)), (23, (vI 0)), (24, (vP g1 0)), (25, (vS a.A a.nds.length a.c)), (26, (vP g1 0))], [.o (.slice (aS g1 0) 2 c) 2 [.slice a.A a.nds.length a.c, .slice b.A b.nds.length b.c] 30 1]⟩) (PhiLe.refl 0 _) (PanOk.inBlock (PanOk.then (PanOk.then (PanOk.inBlock PanOk.body)))) 12 rfl (by kernel_rfl) (by kernel_rfl) (by kernel_rfl) (by kernel_rfl) ((vP g1 0)) (by kernel_rfl) (fun _ _ => Val.idx rfl (sz := 1) (e := 30) (by kernel_rfl) (by kernel_rfl) (by kernel_rfl) (b := g1) (off := 0) (n := 2) (cap := c) (kd := .i64) (i := 0) (by kernel_rfl) (by omega) (by omega)) (by kernel_rfl) #[true, true, true, true, true, true, true, true, true, true, true, true, true, false, false, false] (by kernel_rfl) ?_
      refine At.any1 13 (by kernel_rfl) rfl #[true, true, true, true, true, true, true, true, true, true, true, true, true, true, false, false] (by kernel_rfl) ?_
      refine At.strow (S' := ⟨fr 28 [(0, (vS (aS g1 0) 2 c)), (2, (vI 0)), (3, (vI 1)), (14, (vS (aS g1 0) 2 c)), (15, (vI 0)), (16, (vS (aS g1 0) 2 c)), (17, (vI 1)), (18, (vS (aS g1 0) 2 c)), (19, (vI 1)), (20, (vP g1 1)), (21, (vS b.A b.nds.length b.c)), (22, (vS (aS g1 0) 2 c)), (23, (vI 0)), (24, (vP g1 0)), (25, (vS a.A a.nds.length a.c)), (26, (vP g1 0))], [.o (.slice (aS g1 0) 2 c) 2 [.slice b.A b.nds.length b.c, .slice b.A b.nds.length b.c] 30 1]⟩) rfl (by kernel_rfl) (g := g1) (off := 0) (by kernel_rfl) 0 (n := 2) (cap := c) (xs := [.slice a.A a.nds.length a.c, .slice b.A b.nds.length b.c]) (e := 30) (sz := 1) (by kernel_rfl) [.slice b.A b.nds.length b.c] (by kernel_rfl) (one_lits _ (by kernel_rfl)) (by kernel_rfl) (bleT rfl) (by kernel_rfl) ?_
      refine At.nil ?_
      refine At.then_normal ?_
      refine At.held (PhiLe.refl 0 _) ?_
      refine At.take (S' := ⟨fr 28 [(0, (vS (aS g1 0) 2 c)), (2, (vI 0)), (3, (vI 1)), (14, (vS (aS g1 0) 2 c)), (15, (vI 0)), (16, (vS (aS g1 0) 2 c)), (17, (vI 1)), (18, (vS (aS g1 0) 2 c)), (19, (vI 1)), (20, (vP g1 1)), (21, (vS b.A b.nds.length b.c)), (22, (vS (aS g1 0) 2 c)), (23, (vI 0)), (24, (vP g1 0)), (25, (vS a.A a.nds.length a.c)), (26, (vP g1 0)), (27, (vP g1 1))], [.o (.slice (aS g1 0) 2 c) 2 [.slice b.A b.nds.length b.c, .slice b.A b.nds.length b.c] 30 1]⟩) (PhiLe.refl 0 _) (PanOk.inBlock (PanOk.then (PanOk.then (PanOk.inBlock PanOk.body)))) 14 rfl (by kernel_rfl) (by kernel_rfl) (by kernel_rfl) (by kernel_rfl) ((vP g1 1)) (by kernel_rfl) (fun _ _ => Val.idx rfl (sz := 1) (e := 30) (by kernel_rfl) (by kernel_rfl) (by kernel_rfl) (b := g1) (off := 0) (n := 2) (cap := c) (kd := .i64) (i := 1) (by kernel_rfl) (by omega) (by omega)) (by kernel_rfl) #[true, true, true, true, true, true, true, true, true, true, true, true, true, true, true, false] (by kernel_rfl) ?_
      refine At.any1 15 (by kernel_rfl) rfl #[true, true, true, true, true, true, true, true, true, true, true, true, true, true, true, true] (by kernel_rfl) ?_
      refine At.strow (S' := ⟨fr 28 [(0, (vS (aS g1 0) 2 c)), (2, (vI 0)), (3, (vI 1)), (14, (vS (aS g1 0) 2 c)), (15, (vI 0)), (16, (vS (aS g1 0) 2 c)), (17, (vI 1)), (18, (vS (aS g1 0) 2 c)), (19, (vI 1)), (20, (vP g1 1)), (21, (vS b.A b.nds.length b.c)), (22, (vS (aS g1 0) 2 c)), (23, (vI 0)), (24, (vP g1 0)), (25, (vS a.A a.nds.length a.c)), (26, (vP g1 0)), (27, (vP g1 1))], [.o (.slice (aS g1 0) 2 c) 2 [.slice b.A b.nds.length b.c, .slice a.A a.nds.length a.c] 30 1]⟩) rfl (by kernel_rfl) (g := g1) (off := 1) (by kernel_rfl) 0 (n := 2) (cap := c) (xs := [.slice b.A b.nds.length b.c, .slice b.A b.nds.length b.c]) (e := 30) (sz := 1) (by kernel_rfl) [.slice a.A a.nds.length a.c] (by kernel_rfl) (one_lits _ (by kernel_rfl)) (by kernel_rfl) (bleT rfl) (by kernel_rfl) ?_
      refine At.nil ?_
      refine At.then_normal ?_
      refine At.held (PhiLe.refl 0 _) ?_
      refine At.drawn_done (by kernel_rfl) ?_
      refine At.in_normal ?_
      refine At.then_normal ?_
      refine At.region ?_
      refine At.runk 6 [10, 11, 12, 13, 14, 15, 16, 17, 18, 19, 20, 21, 22, 23, 24, 25, 26, 27] [] ⟨fr 28 [(0, (vS (aS g1 0) 2 c)), (2, (vI 1)), (3, (vI 0))], [.o (.slice (aS g1 0) 2 c) 2 [.slice b.A b.nds.length b.c, .slice a.A a.nds.length a.c] 30 1]⟩ (by kernel_rfl) ?_
      refine At.nil ?_
      refine At.round 1 (by kernel_rfl) (PhiLe.refl 0 _) (Nat.le_refl _) (Nat.zero_lt_one)
    refine At.ldrow (S' := ⟨fr 28 [(0, (vS (aS g1 0) 2 c)), (2, (vI 0)), (3, (vI 1)), (14, (vS (aS g1 0) 2 c)), (15, (vI 0)), (16, (vS (aS g1 0) 2 c)), (17, (vI 1)), (18, (vS (aS g1 0) 2 c)), (19, (vI 1)), (20, (vP g1 1)), (22, (vS (aS g1 0) 2 c)), (23, (vI 0)), (24, (vP g1 0)), (25, (vS a.A a.nds.length a.c))], [.o (.slice (aS g1 0) 2 c) 2 [.slice a.A a.nds.length a.c, .slice b.A b.nds.length b.c] 30 1]⟩) rfl (by kernel_rfl) (g := g1) (off := 0) (by kernel_rfl) 0 (n := 2) (cap := c) (xs := [.slice a.A a.nds.length a.c, .slice b.A b.nds.length b.c]) (e := 30) (sz := 1) (by kernel_rfl) [.slice a.A a.nds.length a.c] ((vS a.A a.nds.length a.c)) (by kernel_rfl) (lit_get _ _ (by kernel_rfl)) (by kernel_rfl) ?_
    refine At.nil ?_
    refine At.then_normal ?_
    refine At.held (PhiLe.refl 0 _) ?_
    refine At.any1 7 (by kernel_rfl) rfl #[true, true, true, true, true, true, true, true, true, true, true, true, false, false, false, false] (by kernel_rfl) ?_
    refine At.ldrow (S' := ⟨fr 28 [(0, (vS (aS g1 0) 2 c)), (2, (vI 0)), (3, (vI 1)), (14, (vS (aS g1 0) 2 c)), (15, (vI 0)), (16, (vS (aS g1 0) 2 c)), (17, (vI 1)), (18, (vS (aS g1 0) 2 c)), (19, (vI 1)), (20, (vP g1 1)), (21, (vS b.A b.nds.length b.c)), (22, (vS (aS g1 0) 2 c)), (23, (vI 0)), (24, (vP g1 0)), (25, (vS a.A a.nds.length a.c))], [.o (.slice (aS g1 0) 2 c) 2 [.slice a.A a.nds.length a.c, .slice b.A b.nds.length b.c] 30 1]⟩) rfl (by kernel_rfl) (g := g1) (off := 1) (by kernel_rfl) 0 (n := 2) (cap := c) (xs := [.slice a.A a.nds.length a.c, .slice b.A b.nds.length b.c]) (e := 30) (sz := 1) (by kernel_rfl) [.slice b.A b.nds.length b.c] ((vS b.A b.nds.length b.c)) (by kernel_rfl) (lit_get _ _ (by kernel_rfl)) (by kernel_rfl) ?_
    refine At.nil ?_
    refine At.then_normal ?_
    refine At.held (PhiLe.refl 0 _) ?_
    refine At.take (S' := ⟨fr 28 [(0, (vS (aS g1 0) 2 c)), (2, (vI 0)), (3, (vI 1)), (14, (vS (aS g1 0) 2 c)), (15, (vI 0)), (16, (vS (aS g1 0) 2 c)), (17, (vI 1)), (18, (vS (aS g1 0) 2 c)), (19, (vI 1)), (20, (vP g1 1)), (21, (vS b.A b.nds.length b.c)), (22, (vS (aS g1 0) 2 c)), (23, (vI 0)), (24, (vP g1 0)), (25, (vS a.A a.nds.length a.c)), (26, (vP g1 0))], [.o (.slice (aS g1 0) 2 c) 2 [.slice a.A a.nds.length a.c, .slice b.A b.nds.length b.c] 30 1]⟩) (PhiLe.refl 0 _) (PanOk.inBlock (PanOk.then (PanOk.then (PanOk.inBlock PanOk.body)))) 12 rfl (by kernel_rfl) (by kernel_rfl) (by kernel_rfl) (by kernel_rfl) ((vP g1 0)) (by kernel_rfl) (fun _ _ => Val.idx rfl (sz := 1) (e := 30) (by kernel_rfl) (by kernel_rfl) (by kernel_rfl) (b := g1) (off := 0) (n := 2) (cap := c) (kd := .i64) (i := 0) (by kernel_rfl) (by omega) (by omega)) (by kernel_rfl) #[true, true, true, true, true, true, true, true, true, true, true, true, true, false, false, false] (by kernel_rfl) ?_
    refine At.any1 13 (by kernel_rfl) rfl #[true, true, true, true, true, true, true, true, true, true, true, true, true, true, false, false] (by kernel_rfl) ?_
    refine At.strow (S' := ⟨fr 28 [(0, (vS (aS g1 0) 2 c)), (2, (vI 0)), (3, (vI 1)), (14, (vS (aS g1 0) 2 c)), (15, (vI 0)), (16, (vS (aS g1 0) 2 c)), (17, (vI 1)), (18, (vS (aS g1 0) 2 c)), (19, (vI 1)), (20, (vP g1 1)), (21, (vS b.A b.nds.length b.c)), (22, (vS (aS g1 0) 2 c)), (23, (vI 0)), (24, (vP g1 0)), (25, (vS a.A a.nds.length a.c)), (26, (vP g1 0))], [.o (.slice (aS g1 0) 2 c) 2 [.slice b.A b.nds.length b.c, .slice b.A b.nds.length b.c] 30 1]⟩) rfl (by kernel_rfl) (g := g1) (off := 0) (by kernel_rfl) 0 (n := 2) (cap := c) (xs := [.slice a.A a.nds.length a.c, .slice b.A b.nds.length b.c]) (e := 30) (sz := 1) (by kernel_rfl) [.slice b.A b.nds.length b.c] (by kernel_rfl) (one_lits _ (by kernel_rfl)) (by kernel_rfl) (bleT rfl) (by kernel_rfl) ?_
    refine At.nil ?_
    refine At.then_normal ?_
    refine At.held (PhiLe.refl 0 _) ?_
    refine At.take (S' := ⟨fr 28 [(0, (vS (aS g1 0) 2 c)), (2, (vI 0)), (3, (vI 1)), (14, (vS (aS g1 0) 2 c)), (15, (vI 0)), (16, (vS (aS g1 0) 2 c)), (17, (vI 1)), (18, (vS (aS g1 0) 2 c)), (19, (vI 1)), (20, (vP g1 1)), (21, (vS b.A b.nds.length b.c)), (22, (vS (aS g1 0) 2 c)), (23, (vI 0)), (24, (vP g1 0)), (25, (vS a.A a.nds.length a.c)), (26, (vP g1 0)), (27, (vP g1 1))], [.o (.slice (aS g1 0) 2 c) 2 [.slice b.A b.nds.length b.c, .slice b.A b.nds.length b.c] 30 1]⟩) (PhiLe.refl 0 _) (PanOk.inBlock (PanOk.then (PanOk.then (PanOk.inBlock PanOk.body)))) 14 rfl (by kernel_rfl) (by kernel_rfl) (by kernel_rfl) (by kernel_rfl) ((vP g1 1)) (by kernel_rfl) (fun _ _ => Val.idx rfl (sz := 1) (e := 30) (by kernel_rfl) (by kernel_rfl) (by kernel_rfl) (b := g1) (off := 0) (n := 2) (cap := c) (kd := .i64) (i := 1) (by kernel_rfl) (by omega) (by omega)) (by kernel_rfl) #[true, true, true, true, true, true, true, true, true, true, true, true, true, true, true, false] (by kernel_rfl) ?_
    refine At.any1 15 (by kernel_rfl) rfl #[true, true, true, true, true, true, true, true, true, true, true, true, true, true, true, true] (by kernel_rfl) ?_
    refine At.strow (S' := ⟨fr 28 [(0, (vS (aS g1 0) 2 c)), (2, (vI 0)), (3, (vI 1)), (14, (vS (aS g1 0) 2 c)), (15, (vI 0)), (16, (vS (aS g1 0) 2 c)), (17, (vI 1)), (18, (vS (aS g1 0) 2 c)), (19, (vI 1)), (20, (vP g1 1)), (21, (vS b.A b.nds.length b.c)), (22, (vS (aS g1 0) 2 c)), (23, (vI 0)), (24, (vP g1 0)), (25, (vS a.A a.nds.length a.c)), (26, (vP g1 0)), (27, (vP g1 1))], [.o (.slice (aS g1 0) 2 c) 2 [.slice b.A b.nds.length b.c, .slice a.A a.nds.length a.c] 30 1]⟩) rfl (by kernel_rfl) (g := g1) (off := 1) (by kernel_rfl) 0 (n := 2) (cap := c) (xs := [.slice b.A b.nds.length b.c, .slice b.A b.nds.length b.c]) (e := 30) (sz := 1) (by kernel_rfl) [.slice a.A a.nds.length a.c] (by kernel_rfl) (one_lits _ (by kernel_rfl)) (by kernel_rfl) (bleT rfl) (by kernel_rfl) ?_
    refine At.nil ?_
    refine At.then_normal ?_
    refine At.held (PhiLe.refl 0 _) ?_
    refine At.drawn_done (by kernel_rfl) ?_
    refine At.in_normal ?_
    refine At.then_normal ?_
    refine At.region ?_
    refine At.runk 6 [10, 11, 12, 13, 14, 15, 16, 17, 18, 19, 20, 21, 22, 23, 24, 25, 26, 27] [] ⟨fr 28 [(0, (vS (aS g1 0) 2 c)), (2, (vI 1)), (3, (vI 0))], [.o (.slice (aS g1 0) 2 c) 2 [.slice b.A b.nds.length b.c, .slice a.A a.nds.length a.c] 30 1]⟩ (by kernel_rfl) ?_
    refine At.nil ?_
    refine At.round 1 (by kernel_rfl) (PhiLe.refl 0 _) (Nat.le_refl _) (Nat.zero_lt_one)
  · refine At.cast (S' := ⟨fr 28 [(0, (vS (aS g1 0) 2 c)), (2, (vI 1)), (3, (vI 0))], [.o (.slice (aS g1 0) 2 c) 2 [.slice b.A b.nds.length b.c, .slice a.A a.nds.length a.c] 30 1]⟩) (by kernel_rfl) ?_
    refine At.seq ?_
    refine At.seq ?_
    refine At.region ?_
    refine At.runk 3 [7, 8] [] ⟨fr 28 [(0, (vS (aS g1 0) 2 c)), (2, (vI 1)), (3, (vI 0)), (9, (vB false))], [.o (.slice (aS g1 0) 2 c) 2 [.slice b.A b.nds.length b.c, .slice a.A a.nds.length a.c] 30 1]⟩ (by kernel_rfl) ?_
    refine At.nil ?_
    refine At.then_normal ?_
    refine At.cond_f (by kernel_rfl) ?_
    refine At.exit_ ?_
    refine At.then_exit ?_
    refine At.then_exit ?_
    refine At.in_here ?_
    refine At.forget [0, 2, 3, 9] 1 [] ⟨fr 28 [], [.o (.slice (aS g1 0) 2 c) 2 [.slice b.A b.nds.length b.c, .slice a.A a.nds.length a.c] 30 1]⟩ (by kernel_rfl) (by kernel_rfl) (bleT rfl) ?_
    refine At.leaveR_end rfl () (by kernel_rfl) (by kernel_rfl) (by kernel_rfl) ?_
    trivial

theorem rev_c (Φ : Phi) (ps : List Pt) (A : Option Addr) (c : Nat) (h : ps.length ≤ 2) : CallR Try.prog 62 [(vS A ps.length c)] [.o (.slice A ps.length c) ps.length (ps.flatMap Pt.enc) 30 1] Φ Unit (fun _ => .tup []) (fun _ => [.o (.slice A ps.length c) ps.length (ps.reverse.flatMap Pt.enc) 30 1]) (fun _ _ => True) := by
  match ps, h with
  | [], _ => exact rev0_c Φ A c
  | [a], _ => exact rev1_c Φ a A c
  | [a, b], _ => exact rev2_c Φ a b A c
  | _ :: _ :: _ :: _, h => simp at h

end Go.Sx
