/- RxY: printed by wip/gen/lib04.py. Walks over functions of the program. -/
import Derived.Test.YtgkjblbmiooedaaRxU
namespace Go.Sx
open Go.Proofs Go.RowKit
theorem cl_nd_ret0 (Φ : Phi) (g0 g1 : Nat) (xs0 xs1 : List Value) : CallDG Try.prog 87 [(vP g0 0), (vP g1 0)] [.o (.slice (aS g0 0) 1 1) 1 xs0 26 7, .o (.slice (aS g1 0) 1 1) 1 xs1 33 1] Φ .returning .returning (fun _ es hp' => es = .ret (.tup []) ∧ hp' = [.o (.slice (aS g0 0) 1 1) 1 xs0 26 7, .o (.slice (aS g1 0) 1 1) 1 xs1 33 1]) := by
  refine CallDG.enter Try.func87 rfl rfl rfl rfl rfl rfl rfl (bleT rfl) .returning .returning (.nilIface) rec_ret [3, 4, 5, 6, 7, 8, 9, 10, 11, 12, 13, 14, 15, 16, 17, 18] ⟨fr 19 [(0, (vP g0 0)), (1, (vP g1 0)), (2, .v (.nilIface))], [.o (.slice (aS g0 0) 1 1) 1 xs0 26 7, .o (.slice (aS g1 0) 1 1) 1 xs1 33 1]⟩ (by kernel_rfl) (by kernel_rfl) ?_
  intro E G β0
  refine At.seq ?_
  refine At.region ?_
  refine At.runk 1 [] [] ⟨fr 19 [(0, (vP g0 0)), (1, (vP g1 0)), (2, .v (.nilIface)), (7, .v (.nilIface))], [.o (.slice (aS g0 0) 1 1) 1 xs0 26 7, .o (.slice (aS g1 0) 1 1) 1 xs1 33 1]⟩ (by kernel_rfl) ?_
  refine At.vals (S' := ⟨fr 19 [(0, (vP g0 0)), (1, (vP g1 0)), (2, .v (.nilIface)), (7, .v (.nilIface)), (8, (vB false))], [.o (.slice (aS g0 0) 1 1) 1 xs0 26 7, .o (.slice (aS g1 0) 1 1) 1 xs1 33 1]⟩) (by kernel_rfl) ((vB false)) (by kernel_rfl) (Val.nilnil rfl (ms := #[]) (by kernel_rfl) (by kernel_rfl) false (.inr ⟨rfl, rfl⟩)) ?_
  refine At.nil ?_
  refine At.then_normal ?_
  refine At.cond_f (by kernel_rfl) ?_
  refine At.skip ?_
  refine At.forget [0, 1, 2, 7, 8] 2 [] ⟨fr 19 [], [.o (.slice (aS g0 0) 1 1) 1 xs0 26 7, .o (.slice (aS g1 0) 1 1) 1 xs1 33 1]⟩ (by kernel_rfl) (by kernel_rfl) (bleT rfl) ?_
  exact At.leave_end rfl (.tup []) (by kernel_rfl) (by kernel_rfl) ⟨rfl, by kernel_rfl⟩

theorem cl_nd_pan (Φ : Phi) (g0 g1 : Nat) (e : Int) : CallDG Try.prog 87 [(vP g0 0), (vP g1 0)] [.o (.slice (aS g0 0) 1 1) 1 [.int .i64 0, .int .u64 0, .int .u64 0, .int .u64 0, .int .u64 0, .int .i64 0, .int .i64 0] 26 7, .o (.slice (aS g1 0) 1 1) 1 [.int .i64 0] 33 1] Φ (.panicking [{ v := (.iface 33 (.int .i64 e)), recovered := false }]) (.panicking [{ v := (.iface 33 (.int .i64 e)), recovered := true }]) (fun _ es hp' => es = .ret (.tup []) ∧ hp' = [.o (.slice (aS g0 0) 1 1) 1 [.int .i64 0, .int .u64 0, .int .u64 0, .int .u64 0, .int .u64 0, .int .i64 0, .int .i64 0] 26 7, .o (.slice (aS g1 0) 1 1) 1 [.int .i64 e] 33 1]) := by
  refine CallDG.enter Try.func87 rfl rfl rfl rfl rfl rfl rfl (bleT rfl) (.panicking [{ v := (.iface 33 (.int .i64 e)), recovered := false }]) (.panicking [{ v := (.iface 33 (.int .i64 e)), recovered := true }]) (.iface 33 (.int .i64 e)) (rec_pan (.iface 33 (.int .i64 e))) [3, 4, 5, 6, 7, 8, 9, 10, 11, 12, 13, 14, 15, 16, 17, 18] ⟨fr 19 [(0, (vP g0 0)), (1, (vP g1 0)), (2, .v (.iface 33 (.int .i64 e)))], [.o (.slice (aS g0 0) 1 1) 1 [.int .i64 0, .int .u64 0, .int .u64 0, .int .u64 0, .int .u64 0, .int .i64 0, .int .i64 0] 26 7, .o (.slice (aS g1 0) 1 1) 1 [.int .i64 0] 33 1]⟩ (by kernel_rfl) (by kernel_rfl) ?_
  intro E G β0
  refine At.seq ?_
  refine At.region ?_
  refine At.runk 2 [7] [] ⟨fr 19 [(0, (vP g0 0)), (1, (vP g1 0)), (2, .v (.iface 33 (.int .i64 e))), (8, (vB true))], [.o (.slice (aS g0 0) 1 1) 1 [.int .i64 0, .int .u64 0, .int .u64 0, .int .u64 0, .int .u64 0, .int .i64 0, .int .i64 0] 26 7, .o (.slice (aS g1 0) 1 1) 1 [.int .i64 0] 33 1]⟩ (by kernel_rfl) ?_
  refine At.nil ?_
  refine At.then_normal ?_
  refine At.cond_t (by kernel_rfl) ?_
  refine At.seq ?_
  refine At.region ?_
  refine At.runk 1 [8] [] ⟨fr 19 [(0, (vP g0 0)), (1, (vP g1 0)), (2, .v (.iface 33 (.int .i64 e))), (10, .v (.iface 33 (.int .i64 e)))], [.o (.slice (aS g0 0) 1 1) 1 [.int .i64 0, .int .u64 0, .int .u64 0, .int .u64 0, .int .u64 0, .int .i64 0, .int .i64 0] 26 7, .o (.slice (aS g1 0) 1 1) 1 [.int .i64 0] 33 1]⟩ (by kernel_rfl) ?_
  refine At.vals (S' := ⟨fr 19 [(0, (vP g0 0)), (1, (vP g1 0)), (2, .v (.iface 33 (.int .i64 e))), (10, .v (.iface 33 (.int .i64 e))), (11, .tup [(vI e), (vB true)])], [.o (.slice (aS g0 0) 1 1) 1 [.int .i64 0, .int .u64 0, .int .u64 0, .int .u64 0, .int .u64 0, .int .i64 0, .int .i64 0] 26 7, .o (.slice (aS g1 0) 1 1) 1 [.int .i64 0] 33 1]⟩) (by kernel_rfl) (.tup [(vI e), (vB true)]) (by kernel_rfl) (Val.assert rfl (t := 33) (d := .int .i64) (by kernel_rfl) (by intro ms h; cases h) (v := .int .i64 e) (by kernel_rfl)) ?_
  refine At.runk 5 [9, 10, 11, 12, 13] [] ⟨fr 19 [(0, (vP g0 0)), (1, (vP g1 0)), (2, .v (.iface 33 (.int .i64 e))), (3, (vI e)), (4, (vB true))], [.o (.slice (aS g0 0) 1 1) 1 [.int .i64 0, .int .u64 0, .int .u64 0, .int .u64 0, .int .u64 0, .int .i64 0, .int .i64 0] 26 7, .o (.slice (aS g1 0) 1 1) 1 [.int .i64 0] 33 1]⟩ (by kernel_rfl) ?_
  refine At.nil ?_
  refine At.then_normal ?_
  refine At.seq ?_
  refine At.seq ?_
  refine At.region ?_
  refine At.runk 2 [4, 14] [] ⟨fr 19 [(0, (vP g0 0)), (1, (vP g1 0)), (2, .v (.iface 33 (.int .i64 e))), (3, (vI e)), (15, (vB false))], [.o (.slice (aS g0 0) 1 1) 1 [.int .i64 0, .int .u64 0, .int .u64 0, .int .u64 0, .int .u64 0, .int .i64 0, .int .i64 0] 26 7, .o (.slice (aS g1 0) 1 1) 1 [.int .i64 0] 33 1]⟩ (by kernel_rfl) ?_
  refine At.nil ?_
  refine At.then_normal ?_
  refine At.cond_f (by kernel_rfl) ?_
  refine At.skip ?_
  refine At.then_normal ?_
  refine At.seq ?_
  refine At.region ?_
  refine At.runk 1 [2, 15] [] ⟨fr 19 [(0, (vP g0 0)), (1, (vP g1 0)), (3, (vI e)), (5, .p 2 0)], [.o (.slice (aS g0 0) 1 1) 1 [.int .i64 0, .int .u64 0, .int .u64 0, .int .u64 0, .int .u64 0, .int .i64 0, .int .i64 0] 26 7, .o (.slice (aS g1 0) 1 1) 1 [.int .i64 0] 33 1, .c (nV 0 0 0 0 0 0 0) 26]⟩ (by kernel_rfl) ?_
  refine At.nil ?_
  refine At.then_normal ?_
  refine At.region ?_
  refine At.runk 2 [3, 5] [2] ⟨fr 19 [(0, (vP g0 0)), (1, (vP g1 0)), (17, .agg (nV 0 0 0 0 0 0 0)), (18, (vI e))], [.o (.slice (aS g0 0) 1 1) 1 [.int .i64 0, .int .u64 0, .int .u64 0, .int .u64 0, .int .u64 0, .int .i64 0, .int .i64 0] 26 7, .o (.slice (aS g1 0) 1 1) 1 [.int .i64 0] 33 1, .dead]⟩ (by kernel_rfl) ?_
  refine At.strow (S' := ⟨fr 19 [(0, (vP g0 0)), (1, (vP g1 0)), (17, .agg (nV 0 0 0 0 0 0 0)), (18, (vI e))], [.o (.slice (aS g0 0) 1 1) 1 [.int .i64 0, .int .u64 0, .int .u64 0, .int .u64 0, .int .u64 0, .int .i64 0, .int .i64 0] 26 7, .o (.slice (aS g1 0) 1 1) 1 [.int .i64 0] 33 1, .dead]⟩) rfl (by kernel_rfl) (g := g0) (off := 0) (by kernel_rfl) 0 (n := 1) (cap := 1) (xs := [.int .i64 0, .int .u64 0, .int .u64 0, .int .u64 0, .int .u64 0, .int .i64 0, .int .i64 0]) (e := 26) (sz := 7) (by kernel_rfl) [.int .i64 0, .int .u64 0, .int .u64 0, .int .u64 0, .int .u64 0, .int .i64 0, .int .i64 0] (by kernel_rfl) (one_lits _ (by kernel_rfl)) (by kernel_rfl) (bleT rfl) (by kernel_rfl) ?_
  refine At.strow (S' := ⟨fr 19 [(0, (vP g0 0)), (1, (vP g1 0)), (17, .agg (nV 0 0 0 0 0 0 0)), (18, (vI e))], [.o (.slice (aS g0 0) 1 1) 1 [.int .i64 0, .int .u64 0, .int .u64 0, .int .u64 0, .int .u64 0, .int .i64 0, .int .i64 0] 26 7, .o (.slice (aS g1 0) 1 1) 1 [.int .i64 e] 33 1, .dead]⟩) rfl (by kernel_rfl) (g := g1) (off := 0) (by kernel_rfl) 1 (n := 1) (cap := 1) (xs := [.int .i64 0]) (e := 33) (sz := 1) (by kernel_rfl) [.int .i64 e] (by kernel_rfl) (one_lits _ (by kernel_rfl)) (by kernel_rfl) (bleT rfl) (by kernel_rfl) ?_
  refine At.nil ?_
  refine At.forget [0, 1, 17, 18] 2 [] ⟨fr 19 [], [.o (.slice (aS g0 0) 1 1) 1 [.int .i64 0, .int .u64 0, .int .u64 0, .int .u64 0, .int .u64 0, .int .i64 0, .int .i64 0] 26 7, .o (.slice (aS g1 0) 1 1) 1 [.int .i64 e] 33 1]⟩ (by kernel_rfl) (by kernel_rfl) (bleT rfl) ?_
  exact At.leave_end rfl (.tup []) (by kernel_rfl) (by kernel_rfl) ⟨rfl, by kernel_rfl⟩

theorem tries_nd (Φ : Phi) (f : Nat) (caps : Array Value) (fn : Func) (hf : Try.prog.funcs[f]? = some fn) (hb : fn.body.isSome = true) (hn : (fn.name == "runtime.NumGoroutine") = false) (T : Type) (nv : T → Nd) (F : T → Phi → Prop) (hF0 : ∀ t Φ Φ', PhiLe 0 Φ Φ' → F t Φ → F t Φ') (hC : CallR Try.prog f (caps.toList.map .v) [] Φ T (fun t => .agg [(vI (nv t).kind), (vU (nv t).s0), (vU (nv t).s1), (vU (nv t).s2), (vU (nv t).s3), (vI (nv t).mn), (vI (nv t).mx)]) (fun t => []) F) : CallR Try.prog 55 [.v (.func (.func f) #[] caps)] [] Φ T (fun t => .tup [.agg [(vI (nv t).kind), (vU (nv t).s0), (vU (nv t).s1), (vU (nv t).s2), (vU (nv t).s3), (vI (nv t).mn), (vI (nv t).mx)], (vI 0)]) (fun t => []) F := by
  refine CallG.enterD Try.func55 rfl [1, 2, 3, 4, 5, 6] ⟨fr 7 [(0, .v (.func (.func f) #[] caps))], []⟩ (by kernel_rfl) (by kernel_rfl) ?_
  intro E G β0
  refine At.seq ?_
  refine At.region ?_
  refine At.runk 2 [] [] ⟨fr 7 [(0, .v (.func (.func f) #[] caps)), (2, .p 0 0), (3, .p 1 0)], [.c (nV 0 0 0 0 0 0 0) 26, .c [(vI 0)] 33]⟩ (by kernel_rfl) ?_
  refine At.toRow 0 1 [.int .i64 0, .int .u64 0, .int .u64 0, .int .u64 0, .int .u64 0, .int .i64 0, .int .i64 0] 7 rfl rfl rfl (bleT rfl) ?_
  intro g1
  refine ⟨⟨fr 7 [(0, .v (.func (.func f) #[] caps)), (2, (vP g1 0)), (3, .p 1 0)], [.o (.slice (aS g1 0) 1 1) 1 [.int .i64 0, .int .u64 0, .int .u64 0, .int .u64 0, .int .u64 0, .int .i64 0, .int .i64 0] 26 7, .c [(vI 0)] 33]⟩, by kernel_rfl, by kernel_rfl, ?_⟩
  refine At.toRow 1 1 [.int .i64 0] 1 rfl rfl rfl (bleT rfl) ?_
  intro g2
  refine ⟨⟨fr 7 [(0, .v (.func (.func f) #[] caps)), (2, (vP g1 0)), (3, (vP g2 0))], [.o (.slice (aS g1 0) 1 1) 1 [.int .i64 0, .int .u64 0, .int .u64 0, .int .u64 0, .int .u64 0, .int .i64 0, .int .i64 0] 26 7, .o (.slice (aS g2 0) 1 1) 1 [.int .i64 0] 33 1]⟩, by kernel_rfl, by kernel_rfl, ?_⟩
  refine At.nil ?_
  refine At.then_normal ?_
  refine At.seq ?_
  refine At.region ?_
  refine At.runk 1 [] [] ⟨fr 7 [(0, .v (.func (.func f) #[] caps)), (2, (vP g1 0)), (3, (vP g2 0)), (4, .fn (.func 87) [(vP g1 0), (vP g2 0)])], [.o (.slice (aS g1 0) 1 1) 1 [.int .i64 0, .int .u64 0, .int .u64 0, .int .u64 0, .int .u64 0, .int .i64 0, .int .i64 0] 26 7, .o (.slice (aS g2 0) 1 1) 1 [.int .i64 0] 33 1]⟩ (by kernel_rfl) ?_
  refine At.defer rfl rfl (by kernel_rfl) (cl := 87) (caps := #[.pointer (aS g1 0), .pointer (aS g2 0)]) (by kernel_rfl) ?_
  refine At.nil ?_
  refine At.then_normal ?_
  refine At.seq ?_
  refine At.region ?_
  refine At.runk 1 [0, 4] [] ⟨fr 7 [(2, (vP g1 0)), (3, (vP g2 0)), (5, .v (.func (.func f) #[] caps))], [.o (.slice (aS g1 0) 1 1) 1 [.int .i64 0, .int .u64 0, .int .u64 0, .int .u64 0, .int .u64 0, .int .i64 0, .int .i64 0] 26 7, .o (.slice (aS g2 0) 1 1) 1 [.int .i64 0] 33 1]⟩ (by kernel_rfl) ?_
  refine At.callV rfl (by kernel_rfl) f [] (caps.toList.map .v) (by kernel_rfl) hf hb hn (caps.toList.map .v) (caps_av caps) (caps_u caps) hC ?_
  intro Φ1 t hle hF
  refine ⟨⟨fr 7 [(2, (vP g1 0)), (3, (vP g2 0)), (5, .v (.func (.func f) #[] caps)), (6, .agg [(vI (nv t).kind), (vU (nv t).s0), (vU (nv t).s1), (vU (nv t).s2), (vU (nv t).s3), (vI (nv t).mn), (vI (nv t).mx)])], [.o (.slice (aS g1 0) 1 1) 1 [.int .i64 0, .int .u64 0, .int .u64 0, .int .u64 0, .int .u64 0, .int .i64 0, .int .i64 0] 26 7, .o (.slice (aS g2 0) 1 1) 1 [.int .i64 0] 33 1]⟩, by kernel_rfl, by kernel_rfl, ?_⟩
  refine At.strow (S' := ⟨fr 7 [(2, (vP g1 0)), (3, (vP g2 0)), (5, .v (.func (.func f) #[] caps)), (6, .agg [(vI (nv t).kind), (vU (nv t).s0), (vU (nv t).s1), (vU (nv t).s2), (vU (nv t).s3), (vI (nv t).mn), (vI (nv t).mx)])], [.o (.slice (aS g1 0) 1 1) 1 [.int .i64 (nv t).kind, .int .u64 (nv t).s0, .int .u64 (nv t).s1, .int .u64 (nv t).s2, .int .u64 (nv t).s3, .int .i64 (nv t).mn, .int .i64 (nv t).mx] 26 7, .o (.slice (aS g2 0) 1 1) 1 [.int .i64 0] 33 1]⟩) rfl (by kernel_rfl) (g := g1) (off := 0) (by kernel_rfl) 0 (n := 1) (cap := 1) (xs := [.int .i64 0, .int .u64 0, .int .u64 0, .int .u64 0, .int .u64 0, .int .i64 0, .int .i64 0]) (e := 26) (sz := 7) (by kernel_rfl) [.int .i64 (nv t).kind, .int .u64 (nv t).s0, .int .u64 (nv t).s1, .int .u64 (nv t).s2, .int .u64 (nv t).s3, .int .i64 (nv t).mn, .int .i64 (nv t).mx] (by kernel_rfl) (one_lits _ (by kernel_rfl)) (by kernel_rfl) (bleT rfl) (by kernel_rfl) ?_
  refine At.strow (S' := ⟨fr 7 [(2, (vP g1 0)), (3, (vP g2 0)), (5, .v (.func (.func f) #[] caps)), (6, .agg [(vI (nv t).kind), (vU (nv t).s0), (vU (nv t).s1), (vU (nv t).s2), (vU (nv t).s3), (vI (nv t).mn), (vI (nv t).mx)])], [.o (.slice (aS g1 0) 1 1) 1 [.int .i64 (nv t).kind, .int .u64 (nv t).s0, .int .u64 (nv t).s1, .int .u64 (nv t).s2, .int .u64 (nv t).s3, .int .i64 (nv t).mn, .int .i64 (nv t).mx] 26 7, .o (.slice (aS g2 0) 1 1) 1 [.int .i64 0] 33 1]⟩) rfl (by kernel_rfl) (g := g2) (off := 0) (by kernel_rfl) 1 (n := 1) (cap := 1) (xs := [.int .i64 0]) (e := 33) (sz := 1) (by kernel_rfl) [.int .i64 0] (by kernel_rfl) (one_lits _ (by kernel_rfl)) (by kernel_rfl) (bleT rfl) (by kernel_rfl) ?_
  refine At.nil ?_
  refine At.then_normal ?_
  refine At.ret_ ?_
  refine At.ret_D ?_
  refine At.leaveD (cl := 87) (caps := #[.pointer (aS g1 0), .pointer (aS g2 0)]) rfl Try.func87 (by kernel_rfl) (by kernel_rfl) [.o (.slice (aS g1 0) 1 1) 1 [.int .i64 (nv t).kind, .int .u64 (nv t).s0, .int .u64 (nv t).s1, .int .u64 (nv t).s2, .int .u64 (nv t).s3, .int .i64 (nv t).mn, .int .i64 (nv t).mx] 26 7, .o (.slice (aS g2 0) 1 1) 1 [.int .i64 0] 33 1] (by kernel_rfl) (by intro b hb; simp only [List.mem_cons, List.not_mem_nil, or_false] at hb; rcases hb with rfl | rfl <;> exact .inr ⟨_, _, _, _, _, rfl⟩) .returning .returning (by intro h; cases h) (cl_nd_ret0 Φ1 g1 g2 [.int .i64 (nv t).kind, .int .u64 (nv t).s0, .int .u64 (nv t).s1, .int .u64 (nv t).s2, .int .u64 (nv t).s3, .int .i64 (nv t).mn, .int .i64 (nv t).mx] [.int .i64 0]) (fun _ _ _ h => by cases h.1) rfl (by intro Φ' x hp' hq; obtain ⟨_, rfl⟩ := hq; refine ⟨rfl, ?_⟩; intro b hb; simp only [List.mem_cons, List.not_mem_nil, or_false] at hb; rcases hb with rfl | rfl <;> exact .inr ⟨_, _, _, _, _, rfl⟩) ?_
  rintro Φ2 x hp2 hle2 ⟨_, rfl⟩
  refine At.cast (S' := ⟨fr 7 [(2, (vP g1 0)), (3, (vP g2 0)), (5, .v (.func (.func f) #[] caps)), (6, .agg [(vI (nv t).kind), (vU (nv t).s0), (vU (nv t).s1), (vU (nv t).s2), (vU (nv t).s3), (vI (nv t).mn), (vI (nv t).mx)])], [.o (.slice (aS g1 0) 1 1) 1 [.int .i64 (nv t).kind, .int .u64 (nv t).s0, .int .u64 (nv t).s1, .int .u64 (nv t).s2, .int .u64 (nv t).s3, .int .i64 (nv t).mn, .int .i64 (nv t).mx] 26 7, .o (.slice (aS g2 0) 1 1) 1 [.int .i64 0] 33 1]⟩) (by kernel_rfl) ?_
  refine At.resD rfl [2, 3, 5, 6] 0 [] ⟨fr 7 [], []⟩ t (.tuple #[.agg #[.int .i64 (nv t).kind, .int .u64 (nv t).s0, .int .u64 (nv t).s1, .int .u64 (nv t).s2, .int .u64 (nv t).s3, .int .i64 (nv t).mn, .int .i64 (nv t).mx], .int .i64 0]) (fun _ => rfl) (res_rows2 rfl (g0 := g1) (g1 := g2) (by kernel_rfl) (by kernel_rfl) 0 1 (n0 := 1) (c0 := 1) (t0 := 26) (s0 := 7) (n1 := 1) (c1 := 1) (t1 := 33) (s1 := 1) (xs0 := [.int .i64 (nv t).kind, .int .u64 (nv t).s0, .int .u64 (nv t).s1, .int .u64 (nv t).s2, .int .u64 (nv t).s3, .int .i64 (nv t).mn, .int .i64 (nv t).mx]) (xs1 := [.int .i64 0]) (by kernel_rfl) (by kernel_rfl) (.agg [(vI (nv t).kind), (vU (nv t).s0), (vU (nv t).s1), (vU (nv t).s2), (vU (nv t).s3), (vI (nv t).mn), (vI (nv t).mx)]) ((vI 0)) (by kernel_rfl) (by kernel_rfl) (by kernel_rfl) (by kernel_rfl) (fun _ => rfl)) (by kernel_rfl) (by kernel_rfl) (bleT rfl) (by kernel_rfl) (by kernel_rfl) (hF0 _ _ _ hle2 hF)

theorem tries_nd_no (Φ : Phi) (f : Nat) (caps : Array Value) (fn : Func) (hf : Try.prog.funcs[f]? = some fn) (hb : fn.body.isSome = true) (hn : (fn.name == "runtime.NumGoroutine") = false) (e : Int) (hC : CallP Try.prog f (caps.toList.map .v) [] Φ [{ v := .iface 33 (.int .i64 e), recovered := false }]) : CallR Try.prog 55 [.v (.func (.func f) #[] caps)] [] Φ Unit (fun _ => .tup [.agg (nV 0 0 0 0 0 0 0), (vI e)]) (fun _ => []) (fun _ _ => True) := by
  refine CallG.enterD Try.func55 rfl [1, 2, 3, 4, 5, 6] ⟨fr 7 [(0, .v (.func (.func f) #[] caps))], []⟩ (by kernel_rfl) (by kernel_rfl) ?_
  intro E G β0
  refine At.seq ?_
  refine At.region ?_
  refine At.runk 2 [] [] ⟨fr 7 [(0, .v (.func (.func f) #[] caps)), (2, .p 0 0), (3, .p 1 0)], [.c (nV 0 0 0 0 0 0 0) 26, .c [(vI 0)] 33]⟩ (by kernel_rfl) ?_
  refine At.toRow 0 1 [.int .i64 0, .int .u64 0, .int .u64 0, .int .u64 0, .int .u64 0, .int .i64 0, .int .i64 0] 7 rfl rfl rfl (bleT rfl) ?_
  intro g1
  refine ⟨⟨fr 7 [(0, .v (.func (.func f) #[] caps)), (2, (vP g1 0)), (3, .p 1 0)], [.o (.slice (aS g1 0) 1 1) 1 [.int .i64 0, .int .u64 0, .int .u64 0, .int .u64 0, .int .u64 0, .int .i64 0, .int .i64 0] 26 7, .c [(vI 0)] 33]⟩, by kernel_rfl, by kernel_rfl, ?_⟩
  refine At.toRow 1 1 [.int .i64 0] 1 rfl rfl rfl (bleT rfl) ?_
  intro g2
  refine ⟨⟨fr 7 [(0, .v (.func (.func f) #[] caps)), (2, (vP g1 0)), (3, (vP g2 0))], [.o (.slice (aS g1 0) 1 1) 1 [.int .i64 0, .int .u64 0, .int .u64 0, .int .u64 0, .int .u64 0, .int .i64 0, .int .i64 0] 26 7, .o (.slice (aS g2 0) 1 1) 1 [.int .i64 0] 33 1]⟩, by kernel_rfl, by kernel_rfl, ?_⟩
  refine At.nil ?_
  refine At.then_normal ?_
  refine At.seq ?_
  refine At.region ?_
  refine At.runk 1 [] [] ⟨fr 7 [(0, .v (.func (.func f) #[] caps)), (2, (vP g1 0)), (3, (vP g2 0)), (4, .fn (.func 87) [(vP g1 0), (vP g2 0)])], [.o (.slice (aS g1 0) 1 1) 1 [.int .i64 0, .int .u64 0, .int .u64 0, .int .u64 0, .int .u64 0, .int .i64 0, .int .i64 0] 26 7, .o (.slice (aS g2 0) 1 1) 1 [.int .i64 0] 33 1]⟩ (by kernel_rfl) ?_
  refine At.defer rfl rfl (by kernel_rfl) (cl := 87) (caps := #[.pointer (aS g1 0), .pointer (aS g2 0)]) (by kernel_rfl) ?_
  refine At.nil ?_
  refine At.then_normal ?_
  refine At.seq ?_
  refine At.region ?_
  refine At.runk 1 [0, 4] [] ⟨fr 7 [(2, (vP g1 0)), (3, (vP g2 0)), (5, .v (.func (.func f) #[] caps))], [.o (.slice (aS g1 0) 1 1) 1 [.int .i64 0, .int .u64 0, .int .u64 0, .int .u64 0, .int .u64 0, .int .i64 0, .int .i64 0] 26 7, .o (.slice (aS g2 0) 1 1) 1 [.int .i64 0] 33 1]⟩ (by kernel_rfl) ?_
  refine At.callP rfl (by kernel_rfl) f [] (caps.toList.map .v) (by kernel_rfl) hf hb hn (caps.toList.map .v) (caps_av caps) (caps_u caps) hC ?_
  intro Φ1 hle
  refine ⟨⟨fr 7 [(2, (vP g1 0)), (3, (vP g2 0)), (5, .v (.func (.func f) #[] caps))], [.o (.slice (aS g1 0) 1 1) 1 [.int .i64 0, .int .u64 0, .int .u64 0, .int .u64 0, .int .u64 0, .int .i64 0, .int .i64 0] 26 7, .o (.slice (aS g2 0) 1 1) 1 [.int .i64 0] 33 1]⟩, by kernel_rfl, by kernel_rfl, ?_⟩
  refine At.then_panic ?_
  refine At.panic_D ?_
  refine At.leaveD (cl := 87) (caps := #[.pointer (aS g1 0), .pointer (aS g2 0)]) rfl Try.func87 (by kernel_rfl) (by kernel_rfl) [.o (.slice (aS g1 0) 1 1) 1 [.int .i64 0, .int .u64 0, .int .u64 0, .int .u64 0, .int .u64 0, .int .i64 0, .int .i64 0] 26 7, .o (.slice (aS g2 0) 1 1) 1 [.int .i64 0] 33 1] (by kernel_rfl) (by intro b hb; simp only [List.mem_cons, List.not_mem_nil, or_false] at hb; rcases hb with rfl | rfl <;> exact .inr ⟨_, _, _, _, _, rfl⟩) (.panicking [{ v := (.iface 33 (.int .i64 e)), recovered := false }]) (.panicking [{ v := (.iface 33 (.int .i64 e)), recovered := true }]) (by intro h; cases h) (cl_nd_pan Φ1 g1 g2 e) (fun _ _ _ h => by cases h.1) rfl (by intro Φ' x hp' hq; obtain ⟨_, rfl⟩ := hq; refine ⟨rfl, ?_⟩; intro b hb; simp only [List.mem_cons, List.not_mem_nil, or_false] at hb; rcases hb with rfl | rfl <;> exact .inr ⟨_, _, _, _, _, rfl⟩) ?_
  rintro Φ2 x hp2 hle2 ⟨_, rfl⟩
  refine At.cast (S' := ⟨fr 7 [(2, (vP g1 0)), (3, (vP g2 0)), (5, .v (.func (.func f) #[] caps))], [.o (.slice (aS g1 0) 1 1) 1 [.int .i64 0, .int .u64 0, .int .u64 0, .int .u64 0, .int .u64 0, .int .i64 0, .int .i64 0] 26 7, .o (.slice (aS g2 0) 1 1) 1 [.int .i64 e] 33 1]⟩) (by kernel_rfl) ?_
  refine At.resD rfl [2, 3, 5] 0 [] ⟨fr 7 [], []⟩ () (.tuple #[.agg #[.int .i64 0, .int .u64 0, .int .u64 0, .int .u64 0, .int .u64 0, .int .i64 0, .int .i64 0], .int .i64 e]) (fun _ => rfl) (res_rows2 rfl (g0 := g1) (g1 := g2) (by kernel_rfl) (by kernel_rfl) 0 1 (n0 := 1) (c0 := 1) (t0 := 26) (s0 := 7) (n1 := 1) (c1 := 1) (t1 := 33) (s1 := 1) (xs0 := [.int .i64 0, .int .u64 0, .int .u64 0, .int .u64 0, .int .u64 0, .int .i64 0, .int .i64 0]) (xs1 := [.int .i64 e]) (by kernel_rfl) (by kernel_rfl) (.agg (nV 0 0 0 0 0 0 0)) ((vI e)) (by kernel_rfl) (by kernel_rfl) (by kernel_rfl) (by kernel_rfl) (fun _ => rfl)) (by kernel_rfl) (by kernel_rfl) (bleT rfl) (by kernel_rfl) (by kernel_rfl) trivial

theorem root1_ok (Φ : Phi) (g0 : Nat) (nds : List Nd) (A : Option Addr) (c : Nat) (hR : NdsAt Φ A nds) (hl : nds.length ≤ 1000000) (ndsw : ∀ n ∈ nds, n.wf) (hok : chk nds 0 0 = none) (hB0 : RdC Φ (aS g0 0) [.slice A nds.length c])  : CallR Try.prog 56 [(vP g0 0)] [] Φ Nd (fun t => .agg t.sv) (fun _ => []) (fun t _ => nds[(nds.length - 1 : Nat)]? = some t) := by
  refine CallG.enterk Try.func56 rfl [1, 2, 3, 4, 5, 6, 7, 8, 9, 10, 11] ⟨fr 12 [(0, (vP g0 0))], []⟩ (by kernel_rfl) (by kernel_rfl) ?_
  intro E G β0
  refine At.seq ?_
  refine At.region ?_
  refine At.runk 1 [] [] ⟨fr 12 [(0, (vP g0 0)), (1, .p 0 0)], [.c (nV 0 0 0 0 0 0 0) 26]⟩ (by kernel_rfl) ?_
  refine At.nil ?_
  refine At.then_normal ?_
  refine At.seq ?_
  refine At.region_draw (by kernel_rfl) 11 (by kernel_rfl) #[false, false, false, false, false, false, false, false, false, false, false] (by kernel_rfl) ?_
  have hRd := hR
  have hB0d := hB0
  refine At.take (S' := ⟨fr 12 [(0, (vP g0 0)), (1, .p 0 0), (2, (vS A nds.length c))], [.c (nV 0 0 0 0 0 0 0) 26]⟩) (PhiLe.refl 0 _) (PanOk.then PanOk.body) 0 rfl (by kernel_rfl) (by kernel_rfl) (by kernel_rfl) (by kernel_rfl) ((vS A nds.length c)) (by kernel_rfl) (fun _ _ => Val.ldB rfl hB0d (Nat.zero_lt_succ _) 0 0 (by omega) (by kernel_rfl) ((vS A nds.length c)) (by kernel_rfl)) (by kernel_rfl) #[true, false, false, false, false, false, false, false, false, false, false] (by kernel_rfl) ?_
  refine At.take (S' := ⟨fr 12 [(0, (vP g0 0)), (1, .p 0 0), (2, (vS A nds.length c)), (7, (vS A nds.length c))], [.c (nV 0 0 0 0 0 0 0) 26]⟩) (PhiLe.refl 0 _) (PanOk.then PanOk.body) 5 rfl (by kernel_rfl) (by kernel_rfl) (by kernel_rfl) (by kernel_rfl) ((vS A nds.length c)) (by kernel_rfl) (fun _ _ => Val.ldB rfl hB0d (Nat.zero_lt_succ _) 0 0 (by omega) (by kernel_rfl) ((vS A nds.length c)) (by kernel_rfl)) (by kernel_rfl) #[true, false, false, false, false, true, false, false, false, false, false] (by kernel_rfl) ?_
  refine At.take (S' := ⟨fr 12 [(0, (vP g0 0)), (1, .p 0 0), (2, (vS A nds.length c)), (7, (vS A nds.length c)), (8, (vI (nds.length : Int)))], [.c (nV 0 0 0 0 0 0 0) 26]⟩) (PhiLe.refl 0 _) (PanOk.then PanOk.body) 6 rfl (by kernel_rfl) (by kernel_rfl) (by kernel_rfl) (by kernel_rfl) ((vI (nds.length : Int))) (by kernel_rfl) (fun _ _ => Val.ev rfl (by kernel_rfl) (by kernel_rfl)) (by kernel_rfl) #[true, false, false, false, false, true, true, false, false, false, false] (by kernel_rfl) ?_
  refine At.any2 1 7 (by kernel_rfl) rfl rfl #[true, true, false, false, false, true, true, false, false, false, false] #[true, false, false, false, false, true, true, true, false, false, false] (by kernel_rfl) (by kernel_rfl) ?_ ?_
  · refine At.callV rfl (by kernel_rfl) 43 [] [] (by kernel_rfl) Try.func43 (by kernel_rfl) (by kernel_rfl) [(vS A nds.length c)] (by kernel_rfl) (by kernel_rfl) (of_ok Φ nds A c hR hl ndsw hok) ?_
    rintro Φ3 gT1 hle4 hT2
    have hR := hR.mono hle4
    have hB0 := hB0.mono hle4
    refine ⟨⟨fr 12 [(0, (vP g0 0)), (1, .p 0 0), (2, (vS A nds.length c)), (3, (vP gT1 0)), (7, (vS A nds.length c)), (8, (vI (nds.length : Int)))], [.c (nV 0 0 0 0 0 0 0) 26]⟩, by kernel_rfl, by kernel_rfl, ?_⟩
    refine At.nil ?_
    refine At.then_normal ?_
    refine At.held hle4 ?_
    refine At.take (S' := ⟨fr 12 [(0, (vP g0 0)), (1, .p 0 0), (2, (vS A nds.length c)), (3, (vP gT1 0)), (4, (vP gT1 0)), (7, (vS A nds.length c)), (8, (vI (nds.length : Int)))], [.c (nV 0 0 0 0 0 0 0) 26]⟩) hle4 (PanOk.then PanOk.body) 2 rfl (by kernel_rfl) (by kernel_rfl) (by kernel_rfl) (by kernel_rfl) ((vP gT1 0)) (by kernel_rfl) (fun _ _ => Val.ev rfl (by kernel_rfl) (by kernel_rfl)) (by kernel_rfl) #[true, true, true, false, false, true, true, false, false, false, false] (by kernel_rfl) ?_
    refine At.take (S' := ⟨fr 12 [(0, (vP g0 0)), (1, .p 0 0), (2, (vS A nds.length c)), (3, (vP gT1 0)), (4, (vP gT1 0)), (5, (vP gT1 0)), (7, (vS A nds.length c)), (8, (vI (nds.length : Int)))], [.c (nV 0 0 0 0 0 0 0) 26]⟩) hle4 (PanOk.then PanOk.body) 3 rfl (by kernel_rfl) (by kernel_rfl) (by kernel_rfl) (by kernel_rfl) ((vP gT1 0)) (by kernel_rfl) (fun _ _ => Val.ev rfl (by kernel_rfl) (by kernel_rfl)) (by kernel_rfl) #[true, true, true, true, false, true, true, false, false, false, false] (by kernel_rfl) ?_
    refine At.any2 4 7 (by kernel_rfl) rfl rfl #[true, true, true, true, true, true, true, false, false, false, false] #[true, true, true, true, false, true, true, true, false, false, false] (by kernel_rfl) (by kernel_rfl) ?_ ?_
    · refine At.vals (S' := ⟨fr 12 [(0, (vP g0 0)), (1, .p 0 0), (2, (vS A nds.length c)), (3, (vP gT1 0)), (4, (vP gT1 0)), (5, (vP gT1 0)), (6, (vS A nds.length c)), (7, (vS A nds.length c)), (8, (vI (nds.length : Int)))], [.c (nV 0 0 0 0 0 0 0) 26]⟩) (by kernel_rfl) ((vS A nds.length c)) (by kernel_rfl) (Val.ldB rfl hT2 (Nat.zero_lt_succ _) 0 0 (by omega) (by kernel_rfl) ((vS A nds.length c)) (by kernel_rfl)) ?_
      refine At.nil ?_
      refine At.then_normal ?_
      refine At.held hle4 ?_
      refine At.any1 7 (by kernel_rfl) rfl #[true, true, true, true, true, true, true, true, false, false, false] (by kernel_rfl) ?_
      refine At.runk 1 [] [] ⟨fr 12 [(0, (vP g0 0)), (1, .p 0 0), (2, (vS A nds.length c)), (3, (vP gT1 0)), (4, (vP gT1 0)), (5, (vP gT1 0)), (6, (vS A nds.length c)), (7, (vS A nds.length c)), (8, (vI (nds.length : Int))), (9, (vI (IntKind.i64.wrap ((nds.length : Int) - 1))))], [.c (nV 0 0 0 0 0 0 0) 26]⟩ (by kernel_rfl) ?_
      refine At.cast (S' := ⟨fr 12 [(0, (vP g0 0)), (1, .p 0 0), (2, (vS A nds.length c)), (3, (vP gT1 0)), (4, (vP gT1 0)), (5, (vP gT1 0)), (6, (vS A nds.length c)), (7, (vS A nds.length c)), (8, (vI (nds.length : Int))), (9, (vI ((nds.length : Int) - 1)))], [.c (nV 0 0 0 0 0 0 0) 26]⟩) (by rw [wrapI (z := (nds.length : Int) - 1) (by omega) (by omega)]) ?_
      refine At.cast (S' := ⟨fr 12 [(0, (vP g0 0)), (1, .p 0 0), (2, (vS A nds.length c)), (3, (vP gT1 0)), (4, (vP gT1 0)), (5, (vP gT1 0)), (6, (vS A nds.length c)), (7, (vS A nds.length c)), (8, (vI (nds.length : Int))), (9, (vI ((nds.length - 1 : Nat) : Int)))], [.c (nV 0 0 0 0 0 0 0) 26]⟩) (by rw [show ((nds.length : Int) - 1) = (((nds.length - 1 : Nat) : Nat) : Int) from by have := chk_pos hok; omega]) ?_
      refine At.nil ?_
      refine At.then_normal ?_
      refine At.held hle4 ?_
      obtain ⟨b5, off6, hAeq⟩ : ∃ b off, A = some ⟨b, off, none⟩ := hR.addr (by exact nds_pos (chk_pos hok))
      subst hAeq
      refine At.take (S' := ⟨fr 12 [(0, (vP g0 0)), (1, .p 0 0), (2, (vS (aS b5 off6) nds.length c)), (3, (vP gT1 0)), (4, (vP gT1 0)), (5, (vP gT1 0)), (6, (vS (aS b5 off6) nds.length c)), (7, (vS (aS b5 off6) nds.length c)), (8, (vI (nds.length : Int))), (9, (vI ((nds.length - 1 : Nat) : Int))), (10, .v (.pointer (some ⟨b5, off6 + (nds.length - 1 : Nat) * 7, none⟩)))], [.c (nV 0 0 0 0 0 0 0) 26]⟩) hle4 (PanOk.then PanOk.body) 8 rfl (by kernel_rfl) (by kernel_rfl) (by kernel_rfl) (by kernel_rfl) (.v (.pointer (some ⟨b5, off6 + (nds.length - 1 : Nat) * 7, none⟩))) (by kernel_rfl) (fun _ _ => Val.idx rfl (sz := 7) (e := 26) (by kernel_rfl) (by kernel_rfl) (by kernel_rfl) (b := b5) (off := off6) (n := nds.length) (cap := c) (kd := .i64) (i := ((nds.length - 1 : Nat) : Int)) (by kernel_rfl) (by have := chk_pos hok; omega) (by have := chk_pos hok; omega)) (by kernel_rfl) #[true, true, true, true, true, true, true, true, true, false, false] (by kernel_rfl) ?_
      obtain ⟨e7, he8⟩ := get_some (l := nds) (i := (nds.length - 1 : Nat)) (by have := chk_pos hok; omega)
      refine At.take (S' := ⟨fr 12 [(0, (vP g0 0)), (1, .p 0 0), (2, (vS (aS b5 off6) nds.length c)), (3, (vP gT1 0)), (4, (vP gT1 0)), (5, (vP gT1 0)), (6, (vS (aS b5 off6) nds.length c)), (7, (vS (aS b5 off6) nds.length c)), (8, (vI (nds.length : Int))), (9, (vI ((nds.length - 1 : Nat) : Int))), (10, .v (.pointer (some ⟨b5, off6 + (nds.length - 1 : Nat) * 7, none⟩))), (11, .agg e7.sv)], [.c (nV 0 0 0 0 0 0 0) 26]⟩) hle4 (PanOk.then PanOk.body) 9 rfl (by kernel_rfl) (by kernel_rfl) (by kernel_rfl) (by kernel_rfl) (.agg e7.sv) (by kernel_rfl) (fun _ _ => Val.ldE rfl (enc := Nd.cells) (xs := nds) (b := b5) (off := off6) hRd (sz := 7) (fun _ => rfl) (Nat.zero_lt_succ _) (nds.length - 1 : Nat) e7 he8 0 (off6 + (nds.length - 1 : Nat) * 7) (by omega) (by kernel_rfl) (.agg e7.sv) (by kernel_rfl)) (by kernel_rfl) #[true, true, true, true, true, true, true, true, true, true, false] (by kernel_rfl) ?_
      refine At.any1 10 (by kernel_rfl) rfl #[true, true, true, true, true, true, true, true, true, true, true] (by kernel_rfl) ?_
      refine At.runk 1 [] [] ⟨fr 12 [(0, (vP g0 0)), (1, .p 0 0), (2, (vS (aS b5 off6) nds.length c)), (3, (vP gT1 0)), (4, (vP gT1 0)), (5, (vP gT1 0)), (6, (vS (aS b5 off6) nds.length c)), (7, (vS (aS b5 off6) nds.length c)), (8, (vI (nds.length : Int))), (9, (vI ((nds.length - 1 : Nat) : Int))), (10, .v (.pointer (some ⟨b5, off6 + (nds.length - 1 : Nat) * 7, none⟩))), (11, .agg e7.sv)], [.c e7.sv 26]⟩ (by kernel_rfl) ?_
      refine At.nil ?_
      refine At.then_normal ?_
      refine At.held hle4 ?_
      refine At.drawn_done (by kernel_rfl) ?_
      refine At.then_normal ?_
      refine At.ret_ ?_
      refine At.forget [0, 2, 3, 4, 5, 6, 7, 8, 9, 10, 11] 1 [] ⟨fr 12 [(1, .p 0 0)], [.c e7.sv 26]⟩ (by kernel_rfl) (by kernel_rfl) (bleT rfl) ?_
      refine At.leaveX rfl [1] 0 [] ⟨fr 12 [], []⟩ e7 (by kernel_rfl) (by kernel_rfl) (by kernel_rfl) (by kernel_rfl) (bleT rfl) (by kernel_rfl) (by kernel_rfl) ?_
      exact he8
    refine At.runk 1 [] [] ⟨fr 12 [(0, (vP g0 0)), (1, .p 0 0), (2, (vS A nds.length c)), (3, (vP gT1 0)), (4, (vP gT1 0)), (5, (vP gT1 0)), (7, (vS A nds.length c)), (8, (vI (nds.length : Int))), (9, (vI (IntKind.i64.wrap ((nds.length : Int) - 1))))], [.c (nV 0 0 0 0 0 0 0) 26]⟩ (by kernel_rfl) ?_
    refine At.cast (S' := ⟨fr 12 [(0, (vP g0 0)), (1, .p 0 0), (2, (vS A nds.length c)), (3, (vP gT1 0)), (4, (vP gT1 0)), (5, (vP gT1 0)), (7, (vS A nds.length c)), (8, (vI (nds.length : Int))), (9, (vI ((nds.length : Int) - 1)))], [.c (nV 0 0 0 0 0 0 0) 26]⟩) (by rw [wrapI (z := (nds.length : Int) - 1) (by omega) (by omega)]) ?_
    refine At.cast (S' := ⟨fr 12 [(0, (vP g0 0)), (1, .p 0 0), (2, (vS A nds.length c)), (3, (vP gT1 0)), (4, (vP gT1 0)), (5, (vP gT1 0)), (7, (vS A nds.length c)), (8, (vI (nds.length : Int))), (9, (vI ((nds.length - 1 : Nat) : Int)))], [.c (nV 0 0 0 0 0 0 0) 26]⟩) (by rw [show ((nds.length : Int) - 1) = (((nds.length - 1 : Nat) : Nat) : Int) from by have := chk_pos hok; omega]) ?_
    refine At.nil ?_
    refine At.then_normal ?_
    refine At.held hle4 ?_
    refine At.any1 4 (by kernel_rfl) rfl #[true, true, true, true, true, true, true, true, false, false, false] (by kernel_rfl) ?_
    refine At.vals (S' := ⟨fr 12 [(0, (vP g0 0)), (1, .p 0 0), (2, (vS A nds.length c)), (3, (vP gT1 0)), (4, (vP gT1 0)), (5, (vP gT1 0)), (6, (vS A nds.length c)), (7, (vS A nds.length c)), (8, (vI (nds.length : Int))), (9, (vI ((nds.length - 1 : Nat) : Int)))], [.c (nV 0 0 0 0 0 0 0) 26]⟩) (by kernel_rfl) ((vS A nds.length c)) (by kernel_rfl) (Val.ldB rfl hT2 (Nat.zero_lt_succ _) 0 0 (by omega) (by kernel_rfl) ((vS A nds.length c)) (by kernel_rfl)) ?_
    refine At.nil ?_
    refine At.then_normal ?_
    refine At.held hle4 ?_
    obtain ⟨b9, off10, hAeq⟩ : ∃ b off, A = some ⟨b, off, none⟩ := hR.addr (by exact nds_pos (chk_pos hok))
    subst hAeq
    refine At.take (S' := ⟨fr 12 [(0, (vP g0 0)), (1, .p 0 0), (2, (vS (aS b9 off10) nds.length c)), (3, (vP gT1 0)), (4, (vP gT1 0)), (5, (vP gT1 0)), (6, (vS (aS b9 off10) nds.length c)), (7, (vS (aS b9 off10) nds.length c)), (8, (vI (nds.length : Int))), (9, (vI ((nds.length - 1 : Nat) : Int))), (10, .v (.pointer (some ⟨b9, off10 + (nds.length - 1 : Nat) * 7, none⟩)))], [.c (nV 0 0 0 0 0 0 0) 26]⟩) hle4 (PanOk.then PanOk.body) 8 rfl (by kernel_rfl) (by kernel_rfl) (by kernel_rfl) (by kernel_rfl) (.v (.pointer (some ⟨b9, off10 + (nds.length - 1 : Nat) * 7, none⟩))) (by kernel_rfl) (fun _ _ => Val.idx rfl (sz := 7) (e := 26) (by kernel_rfl) (by kernel_rfl) (by kernel_rfl) (b := b9) (off := off10) (n := nds.length) (cap := c) (kd := .i64) (i := ((nds.length - 1 : Nat) : Int)) (by kernel_rfl) (by have := chk_pos hok; omega) (by have := chk_pos hok; omega)) (by kernel_rfl) #[true, true, true, true, true, true, true, true, true, false, false] (by kernel_rfl) ?_
    obtain ⟨e11, he12⟩ := get_some (l := nds) (i := (nds.length - 1 : Nat)) (by have := chk_pos hok; omega)
    refine At.take (S' := ⟨fr 12 [(0, (vP g0 0)), (1, .p 0 0), (2, (vS (aS b9 off10) nds.length c)), (3, (vP gT1 0)), (4, (vP gT1 0)), (5, (vP gT1 0)), (6, (vS (aS b9 off10) nds.length c)), (7, (vS (aS b9 off10) nds.length c)), (8, (vI (nds.length : Int))), (9, (vI ((nds.length - 1 : Nat) : Int))), (10, .v (.pointer (some ⟨b9, off10 + (nds.length - 1 : Nat) * 7, none⟩))), (11, .agg e11.sv)], [.c (nV 0 0 0 0 0 0 0) 26]⟩) hle4 (PanOk.then PanOk.body) 9 rfl (by kernel_rfl) (by kernel_rfl) (by kernel_rfl) (by kernel_rfl) (.agg e11.sv) (by kernel_rfl) (fun _ _ => Val.ldE rfl (enc := Nd.cells) (xs := nds) (b := b9) (off := off10) hRd (sz := 7) (fun _ => rfl) (Nat.zero_lt_succ _) (nds.length - 1 : Nat) e11 he12 0 (off10 + (nds.length - 1 : Nat) * 7) (by omega) (by kernel_rfl) (.agg e11.sv) (by kernel_rfl)) (by kernel_rfl) #[true, true, true, true, true, true, true, true, true, true, false] (by kernel_rfl) ?_
    refine At.any1 10 (by kernel_rfl) rfl #[true, true, true, true, true, true, true, true, true, true, true] (by kernel_rfl) ?_
    refine At.runk 1 [] [] ⟨fr 12 [(0, (vP g0 0)), (1, .p 0 0), (2, (vS (aS b9 off10) nds.length c)), (3, (vP gT1 0)), (4, (vP gT1 0)), (5, (vP gT1 0)), (6, (vS (aS b9 off10) nds.length c)), (7, (vS (aS b9 off10) nds.length c)), (8, (vI (nds.length : Int))), (9, (vI ((nds.length - 1 : Nat) : Int))), (10, .v (.pointer (some ⟨b9, off10 + (nds.length - 1 : Nat) * 7, none⟩))), (11, .agg e11.sv)], [.c e11.sv 26]⟩ (by kernel_rfl) ?_
    refine At.nil ?_
    refine At.then_normal ?_
    refine At.held hle4 ?_
    refine At.drawn_done (by kernel_rfl) ?_
    refine At.then_normal ?_
    refine At.ret_ ?_
    refine At.forget [0, 2, 3, 4, 5, 6, 7, 8, 9, 10, 11] 1 [] ⟨fr 12 [(1, .p 0 0)], [.c e11.sv 26]⟩ (by kernel_rfl) (by kernel_rfl) (bleT rfl) ?_
    refine At.leaveX rfl [1] 0 [] ⟨fr 12 [], []⟩ e11 (by kernel_rfl) (by kernel_rfl) (by kernel_rfl) (by kernel_rfl) (bleT rfl) (by kernel_rfl) (by kernel_rfl) ?_
    exact he12
  refine At.runk 1 [] [] ⟨fr 12 [(0, (vP g0 0)), (1, .p 0 0), (2, (vS A nds.length c)), (7, (vS A nds.length c)), (8, (vI (nds.length : Int))), (9, (vI (IntKind.i64.wrap ((nds.length : Int) - 1))))], [.c (nV 0 0 0 0 0 0 0) 26]⟩ (by kernel_rfl) ?_
  refine At.cast (S' := ⟨fr 12 [(0, (vP g0 0)), (1, .p 0 0), (2, (vS A nds.length c)), (7, (vS A nds.length c)), (8, (vI (nds.length : Int))), (9, (vI ((nds.length : Int) - 1)))], [.c (nV 0 0 0 0 0 0 0) 26]⟩) (by rw [wrapI (z := (nds.length : Int) - 1) (by omega) (by omega)]) ?_
  refine At.cast (S' := ⟨fr 12 [(0, (vP g0 0)), (1, .p 0 0), (2, (vS A nds.length c)), (7, (vS A nds.length c)), (8, (vI (nds.length : Int))), (9, (vI ((nds.length - 1 : Nat) : Int)))], [.c (nV 0 0 0 0 0 0 0) 26]⟩) (by rw [show ((nds.length : Int) - 1) = (((nds.length - 1 : Nat) : Nat) : Int) from by have := chk_pos hok; omega]) ?_
  refine At.nil ?_
  refine At.then_normal ?_
  refine At.held (PhiLe.refl 0 _) ?_
  refine At.any1 1 (by kernel_rfl) rfl #[true, true, false, false, false, true, true, true, false, false, false] (by kernel_rfl) ?_
  refine At.callV rfl (by kernel_rfl) 43 [] [] (by kernel_rfl) Try.func43 (by kernel_rfl) (by kernel_rfl) [(vS A nds.length c)] (by kernel_rfl) (by kernel_rfl) (of_ok Φ nds A c hR hl ndsw hok) ?_
  rintro Φ15 gT13 hle16 hT14
  have hR := hR.mono hle16
  have hB0 := hB0.mono hle16
  refine ⟨⟨fr 12 [(0, (vP g0 0)), (1, .p 0 0), (2, (vS A nds.length c)), (3, (vP gT13 0)), (7, (vS A nds.length c)), (8, (vI (nds.length : Int))), (9, (vI ((nds.length - 1 : Nat) : Int)))], [.c (nV 0 0 0 0 0 0 0) 26]⟩, by kernel_rfl, by kernel_rfl, ?_⟩
  refine At.nil ?_
  refine At.then_normal ?_
  refine At.held hle16 ?_
  refine At.take (S' := ⟨fr 12 [(0, (vP g0 0)), (1, .p 0 0), (2, (vS A nds.length c)), (3, (vP gT13 0)), (4, (vP gT13 0)), (7, (vS A nds.length c)), (8, (vI (nds.length : Int))), (9, (vI ((nds.length - 1 : Nat) : Int)))], [.c (nV 0 0 0 0 0 0 0) 26]⟩) hle16 (PanOk.then PanOk.body) 2 rfl (by kernel_rfl) (by kernel_rfl) (by kernel_rfl) (by kernel_rfl) ((vP gT13 0)) (by kernel_rfl) (fun _ _ => Val.ev rfl (by kernel_rfl) (by kernel_rfl)) (by kernel_rfl) #[true, true, true, false, false, true, true, true, false, false, false] (by kernel_rfl) ?_
  refine At.take (S' := ⟨fr 12 [(0, (vP g0 0)), (1, .p 0 0), (2, (vS A nds.length c)), (3, (vP gT13 0)), (4, (vP gT13 0)), (5, (vP gT13 0)), (7, (vS A nds.length c)), (8, (vI (nds.length : Int))), (9, (vI ((nds.length - 1 : Nat) : Int)))], [.c (nV 0 0 0 0 0 0 0) 26]⟩) hle16 (PanOk.then PanOk.body) 3 rfl (by kernel_rfl) (by kernel_rfl) (by kernel_rfl) (by kernel_rfl) ((vP gT13 0)) (by kernel_rfl) (fun _ _ => Val.ev rfl (by kernel_rfl) (by kernel_rfl)) (by kernel_rfl) #[true, true, true, true, false, true, true, true, false, false, false] (by kernel_rfl) ?_
  refine At.any1 4 (by kernel_rfl) rfl #[true, true, true, true, true, true, true, true, false, false, false] (by kernel_rfl) ?_
  refine At.vals (S' := ⟨fr 12 [(0, (vP g0 0)), (1, .p 0 0), (2, (vS A nds.length c)), (3, (vP gT13 0)), (4, (vP gT13 0)), (5, (vP gT13 0)), (6, (vS A nds.length c)), (7, (vS A nds.length c)), (8, (vI (nds.length : Int))), (9, (vI ((nds.length - 1 : Nat) : Int)))], [.c (nV 0 0 0 0 0 0 0) 26]⟩) (by kernel_rfl) ((vS A nds.length c)) (by kernel_rfl) (Val.ldB rfl hT14 (Nat.zero_lt_succ _) 0 0 (by omega) (by kernel_rfl) ((vS A nds.length c)) (by kernel_rfl)) ?_
  refine At.nil ?_
  refine At.then_normal ?_
  refine At.held hle16 ?_
  obtain ⟨b17, off18, hAeq⟩ : ∃ b off, A = some ⟨b, off, none⟩ := hR.addr (by exact nds_pos (chk_pos hok))
  subst hAeq
  refine At.take (S' := ⟨fr 12 [(0, (vP g0 0)), (1, .p 0 0), (2, (vS (aS b17 off18) nds.length c)), (3, (vP gT13 0)), (4, (vP gT13 0)), (5, (vP gT13 0)), (6, (vS (aS b17 off18) nds.length c)), (7, (vS (aS b17 off18) nds.length c)), (8, (vI (nds.length : Int))), (9, (vI ((nds.length - 1 : Nat) : Int))), (10, .v (.pointer (some ⟨b17, off18 + (nds.length - 1 : Nat) * 7, none⟩)))], [.c (nV 0 0 0 0 0 0 0) 26]⟩) hle16 (PanOk.then PanOk.body) 8 rfl (by kernel_rfl) (by kernel_rfl) (by kernel_rfl) (by kernel_rfl) (.v (.pointer (some ⟨b17, off18 + (nds.length - 1 : Nat) * 7, none⟩))) (by kernel_rfl) (fun _ _ => Val.idx rfl (sz := 7) (e := 26) (by kernel_rfl) (by kernel_rfl) (by kernel_rfl) (b := b17) (off := off18) (n := nds.length) (cap := c) (kd := .i64) (i := ((nds.length - 1 : Nat) : Int)) (by kernel_rfl) (by have := chk_pos hok; omega) (by have := chk_pos hok; omega)) (by kernel_rfl) #[true, true, true, true, true, true, true, true, true, false, false] (by kernel_rfl) ?_
  obtain ⟨e19, he20⟩ := get_some (l := nds) (i := (nds.length - 1 : Nat)) (by have := chk_pos hok; omega)
  refine At.take (S' := ⟨fr 12 [(0, (vP g0 0)), (1, .p 0 0), (2, (vS (aS b17 off18) nds.length c)), (3, (vP gT13 0)), (4, (vP gT13 0)), (5, (vP gT13 0)), (6, (vS (aS b17 off18) nds.length c)), (7, (vS (aS b17 off18) nds.length c)), (8, (vI (nds.length : Int))), (9, (vI ((nds.length - 1 : Nat) : Int))), (10, .v (.pointer (some ⟨b17, off18 + (nds.length - 1 : Nat) * 7, none⟩))), (11, .agg e19.sv)], [.c (nV 0 0 0 0 0 0 0) 26]⟩) hle16 (PanOk.then PanOk.body) 9 rfl (by kernel_rfl) (by kernel_rfl) (by kernel_rfl) (by kernel_rfl) (.agg e19.sv) (by kernel_rfl) (fun _ _ => Val.ldE rfl (enc := Nd.cells) (xs := nds) (b := b17) (off := off18) hRd (sz := 7) (fun _ => rfl) (Nat.zero_lt_succ _) (nds.length - 1 : Nat) e19 he20 0 (off18 + (nds.length - 1 : Nat) * 7) (by omega) (by kernel_rfl) (.agg e19.sv) (by kernel_rfl)) (by kernel_rfl) #[true, true, true, true, true, true, true, true, true, true, false] (by kernel_rfl) ?_
  refine At.any1 10 (by kernel_rfl) rfl #[true, true, true, true, true, true, true, true, true, true, true] (by kernel_rfl) ?_
  refine At.runk 1 [] [] ⟨fr 12 [(0, (vP g0 0)), (1, .p 0 0), (2, (vS (aS b17 off18) nds.length c)), (3, (vP gT13 0)), (4, (vP gT13 0)), (5, (vP gT13 0)), (6, (vS (aS b17 off18) nds.length c)), (7, (vS (aS b17 off18) nds.length c)), (8, (vI (nds.length : Int))), (9, (vI ((nds.length - 1 : Nat) : Int))), (10, .v (.pointer (some ⟨b17, off18 + (nds.length - 1 : Nat) * 7, none⟩))), (11, .agg e19.sv)], [.c e19.sv 26]⟩ (by kernel_rfl) ?_
  refine At.nil ?_
  refine At.then_normal ?_
  refine At.held hle16 ?_
  refine At.drawn_done (by kernel_rfl) ?_
  refine At.then_normal ?_
  refine At.ret_ ?_
  refine At.forget [0, 2, 3, 4, 5, 6, 7, 8, 9, 10, 11] 1 [] ⟨fr 12 [(1, .p 0 0)], [.c e19.sv 26]⟩ (by kernel_rfl) (by kernel_rfl) (bleT rfl) ?_
  refine At.leaveX rfl [1] 0 [] ⟨fr 12 [], []⟩ e19 (by kernel_rfl) (by kernel_rfl) (by kernel_rfl) (by kernel_rfl) (bleT rfl) (by kernel_rfl) (by kernel_rfl) ?_
  exact he20

theorem root1_no (Φ : Phi) (g0 : Nat) (nds : List Nd) (A : Option Addr) (c : Nat) (hR : NdsAt Φ A nds) (hl : nds.length ≤ 1000000) (ndsw : ∀ n ∈ nds, n.wf) (i : Nat) (hno : chk nds 0 0 = some i) (hB0 : RdC Φ (aS g0 0) [.slice A nds.length c])  : CallP Try.prog 56 [(vP g0 0)] [] Φ [{ v := .iface 33 (.int .i64 140), recovered := false }] := by
  refine CallG.enterk Try.func56 rfl [1, 2, 3, 4, 5, 6, 7, 8, 9, 10, 11] ⟨fr 12 [(0, (vP g0 0))], []⟩ (by kernel_rfl) (by kernel_rfl) ?_
  intro E G β0
  refine At.seq ?_
  refine At.region ?_
  refine At.runk 1 [] [] ⟨fr 12 [(0, (vP g0 0)), (1, .p 0 0)], [.c (nV 0 0 0 0 0 0 0) 26]⟩ (by kernel_rfl) ?_
  refine At.nil ?_
  refine At.then_normal ?_
  refine At.seq ?_
  refine At.region_draw (by kernel_rfl) 11 (by kernel_rfl) #[false, false, false, false, false, false, false, false, false, false, false] (by kernel_rfl) ?_
  have hRd := hR
  have hB0d := hB0
  refine At.take (S' := ⟨fr 12 [(0, (vP g0 0)), (1, .p 0 0), (2, (vS A nds.length c))], [.c (nV 0 0 0 0 0 0 0) 26]⟩) (PhiLe.refl 0 _) (PanOk.then PanOk.body) 0 rfl (by kernel_rfl) (by kernel_rfl) (by kernel_rfl) (by kernel_rfl) ((vS A nds.length c)) (by kernel_rfl) (fun _ _ => Val.ldB rfl hB0d (Nat.zero_lt_succ _) 0 0 (by omega) (by kernel_rfl) ((vS A nds.length c)) (by kernel_rfl)) (by kernel_rfl) #[true, false, false, false, false, false, false, false, false, false, false] (by kernel_rfl) ?_
  refine At.take (S' := ⟨fr 12 [(0, (vP g0 0)), (1, .p 0 0), (2, (vS A nds.length c)), (7, (vS A nds.length c))], [.c (nV 0 0 0 0 0 0 0) 26]⟩) (PhiLe.refl 0 _) (PanOk.then PanOk.body) 5 rfl (by kernel_rfl) (by kernel_rfl) (by kernel_rfl) (by kernel_rfl) ((vS A nds.length c)) (by kernel_rfl) (fun _ _ => Val.ldB rfl hB0d (Nat.zero_lt_succ _) 0 0 (by omega) (by kernel_rfl) ((vS A nds.length c)) (by kernel_rfl)) (by kernel_rfl) #[true, false, false, false, false, true, false, false, false, false, false] (by kernel_rfl) ?_
  refine At.take (S' := ⟨fr 12 [(0, (vP g0 0)), (1, .p 0 0), (2, (vS A nds.length c)), (7, (vS A nds.length c)), (8, (vI (nds.length : Int)))], [.c (nV 0 0 0 0 0 0 0) 26]⟩) (PhiLe.refl 0 _) (PanOk.then PanOk.body) 6 rfl (by kernel_rfl) (by kernel_rfl) (by kernel_rfl) (by kernel_rfl) ((vI (nds.length : Int))) (by kernel_rfl) (fun _ _ => Val.ev rfl (by kernel_rfl) (by kernel_rfl)) (by kernel_rfl) #[true, false, false, false, false, true, true, false, false, false, false] (by kernel_rfl) ?_
  refine At.any2 1 7 (by kernel_rfl) rfl rfl #[true, true, false, false, false, true, true, false, false, false, false] #[true, false, false, false, false, true, true, true, false, false, false] (by kernel_rfl) (by kernel_rfl) ?_ ?_
  · refine At.callP rfl (by kernel_rfl) 43 [] [] (by kernel_rfl) Try.func43 (by kernel_rfl) (by kernel_rfl) [(vS A nds.length c)] (by kernel_rfl) (by kernel_rfl) (of_no Φ nds A c hR hl ndsw i hno) ?_
    intro Φ1 hle2
    have hR := hR.mono hle2
    have hB0 := hB0.mono hle2
    refine ⟨⟨fr 12 [(0, (vP g0 0)), (1, .p 0 0), (2, (vS A nds.length c)), (7, (vS A nds.length c)), (8, (vI (nds.length : Int)))], [.c (nV 0 0 0 0 0 0 0) 26]⟩, by kernel_rfl, by kernel_rfl, ?_⟩
    refine At.then_panic ?_
    refine At.then_panic ?_
    refine At.forget [0, 1, 2, 7, 8] 0 [] ⟨fr 12 [], []⟩ (by kernel_rfl) (by kernel_rfl) (bleT rfl) ?_
    exact At.leaveP rfl (by kernel_rfl)
  refine At.runk 1 [] [] ⟨fr 12 [(0, (vP g0 0)), (1, .p 0 0), (2, (vS A nds.length c)), (7, (vS A nds.length c)), (8, (vI (nds.length : Int))), (9, (vI (IntKind.i64.wrap ((nds.length : Int) - 1))))], [.c (nV 0 0 0 0 0 0 0) 26]⟩ (by kernel_rfl) ?_
  refine At.cast (S' := ⟨fr 12 [(0, (vP g0 0)), (1, .p 0 0), (2, (vS A nds.length c)), (7, (vS A nds.length c)), (8, (vI (nds.length : Int))), (9, (vI ((nds.length : Int) - 1)))], [.c (nV 0 0 0 0 0 0 0) 26]⟩) (by rw [wrapI (z := (nds.length : Int) - 1) (by omega) (by omega)]) ?_
  refine At.nil ?_
  refine At.then_normal ?_
  refine At.held (PhiLe.refl 0 _) ?_
  refine At.any1 1 (by kernel_rfl) rfl #[true, true, false, false, false, true, true, true, false, false, false] (by kernel_rfl) ?_
  refine At.callP rfl (by kernel_rfl) 43 [] [] (by kernel_rfl) Try.func43 (by kernel_rfl) (by kernel_rfl) [(vS A nds.length c)] (by kernel_rfl) (by kernel_rfl) (of_no Φ nds A c hR hl ndsw i hno) ?_
  intro Φ3 hle4
  have hR := hR.mono hle4
  have hB0 := hB0.mono hle4
  refine ⟨⟨fr 12 [(0, (vP g0 0)), (1, .p 0 0), (2, (vS A nds.length c)), (7, (vS A nds.length c)), (8, (vI (nds.length : Int))), (9, (vI ((nds.length : Int) - 1)))], [.c (nV 0 0 0 0 0 0 0) 26]⟩, by kernel_rfl, by kernel_rfl, ?_⟩
  refine At.then_panic ?_
  refine At.then_panic ?_
  refine At.forget [0, 1, 2, 7, 8, 9] 0 [] ⟨fr 12 [], []⟩ (by kernel_rfl) (by kernel_rfl) (bleT rfl) ?_
  exact At.leaveP rfl (by kernel_rfl)

theorem root_ok (Φ : Phi) (nds : List Nd) (A : Option Addr) (c : Nat) (hR : NdsAt Φ A nds) (hl : nds.length ≤ 1000000) (ndsw : ∀ n ∈ nds, n.wf) (hok : chk nds 0 0 = none)  : CallR Try.prog 22 [(vS A nds.length c)] [] Φ Nd (fun t => .tup [.agg t.sv, (vI 0)]) (fun _ => []) (fun t _ => nds[(nds.length - 1 : Nat)]? = some t) := by
  refine CallG.enterk Try.func22 rfl [1, 2, 3, 4, 5, 6, 7] ⟨fr 8 [(0, (vS A nds.length c))], []⟩ (by kernel_rfl) (by kernel_rfl) ?_
  intro E G β0
  refine At.seq ?_
  refine At.region ?_
  refine At.runk 3 [0, 3] [] ⟨fr 8 [(1, .p 0 0), (2, .p 1 0)], [.c [(vS A nds.length c)] 30, .c (nV 0 0 0 0 0 0 0) 26]⟩ (by kernel_rfl) ?_
  refine At.nil ?_
  refine At.then_normal ?_
  refine At.seq ?_
  refine At.freezeC 0 [.slice A nds.length c] rfl rfl (bleT rfl) (bleT rfl) (fun _ => by kernel_rfl) (fun _ => by kernel_rfl) ?_
  intro g2 Φ3 hle4 hBr1
  have hR := hR.mono hle4
  refine ⟨⟨fr 8 [(1, (vP g2 0)), (2, .p 1 0)], [.dead, .c (nV 0 0 0 0 0 0 0) 26]⟩, by kernel_rfl, ?_⟩
  refine At.region ?_
  refine At.runk 1 [1] [] ⟨fr 8 [(2, .p 1 0), (4, .fn (.func 56) [(vP g2 0)])], [.dead, .c (nV 0 0 0 0 0 0 0) 26]⟩ (by kernel_rfl) ?_
  refine At.reval 4 (.fn (.func 56) [(vP g2 0)]) (.v (.func (.func 56) #[] #[.pointer (aS g2 0)])) (by kernel_rfl) (by kernel_rfl) (fun _ => by kernel_rfl) ⟨fr 8 [(2, .p 1 0), (4, .v (.func (.func 56) #[] #[.pointer (aS g2 0)]))], [.dead, .c (nV 0 0 0 0 0 0 0) 26]⟩ (by kernel_rfl) (by kernel_rfl) ?_
  refine At.callV rfl (by kernel_rfl) 55 [] [] (by kernel_rfl) Try.func55 (by kernel_rfl) (by kernel_rfl) [.v (.func (.func 56) #[] #[.pointer (aS g2 0)])] (by kernel_rfl) (by kernel_rfl) (tries_nd Φ3 56 #[.pointer (aS g2 0)] Try.f56 Try.func56 rfl rfl Nd (fun t => t) (fun t _ => nds[(nds.length - 1 : Nat)]? = some t) (fun _ _ _ _ h => h) (root1_ok Φ3 g2 nds A c hR hl ndsw hok hBr1)) ?_
  rintro Φ5 nr hle6 hnr
  have hR := hR.mono hle6
  have hBr1 := hBr1.mono hle6
  refine ⟨⟨fr 8 [(2, .p 1 0), (4, .v (.func (.func 56) #[] #[.pointer (aS g2 0)])), (5, .tup [.agg nr.sv, (vI 0)])], [.dead, .c (nV 0 0 0 0 0 0 0) 26]⟩, by kernel_rfl, by kernel_rfl, ?_⟩
  refine At.runk 4 [4, 5, 6, 7] [] ⟨fr 8 [(2, .p 1 0), (3, (vI 0))], [.dead, .c nr.sv 26]⟩ (by kernel_rfl) ?_
  refine At.nil ?_
  refine At.then_normal ?_
  refine At.ret_ ?_
  refine At.leaveX rfl [2, 3] 0 [] ⟨fr 8 [], []⟩ nr (by kernel_rfl) (by kernel_rfl) (by kernel_rfl) (by kernel_rfl) (bleT rfl) (by kernel_rfl) (by kernel_rfl) ?_
  exact hnr

theorem root_no (Φ : Phi) (nds : List Nd) (A : Option Addr) (c : Nat) (hR : NdsAt Φ A nds) (hl : nds.length ≤ 1000000) (ndsw : ∀ n ∈ nds, n.wf) (i : Nat) (hno : chk nds 0 0 = some i)  : CallR Try.prog 22 [(vS A nds.length c)] [] Φ Unit (fun _ => .tup [.agg (nV 0 0 0 0 0 0 0), (vI 140)]) (fun _ => []) (fun _ _ => True) := by
  refine CallG.enterk Try.func22 rfl [1, 2, 3, 4, 5, 6, 7] ⟨fr 8 [(0, (vS A nds.length c))], []⟩ (by kernel_rfl) (by kernel_rfl) ?_
  intro E G β0
  refine At.seq ?_
  refine At.region ?_
  refine At.runk 3 [0, 3] [] ⟨fr 8 [(1, .p 0 0), (2, .p 1 0)], [.c [(vS A nds.length c)] 30, .c (nV 0 0 0 0 0 0 0) 26]⟩ (by kernel_rfl) ?_
  refine At.nil ?_
  refine At.then_normal ?_
  refine At.seq ?_
  refine At.freezeC 0 [.slice A nds.length c] rfl rfl (bleT rfl) (bleT rfl) (fun _ => by kernel_rfl) (fun _ => by kernel_rfl) ?_
  intro g2 Φ3 hle4 hBr1
  have hR := hR.mono hle4
  refine ⟨⟨fr 8 [(1, (vP g2 0)), (2, .p 1 0)], [.dead, .c (nV 0 0 0 0 0 0 0) 26]⟩, by kernel_rfl, ?_⟩
  refine At.region ?_
  refine At.runk 1 [1] [] ⟨fr 8 [(2, .p 1 0), (4, .fn (.func 56) [(vP g2 0)])], [.dead, .c (nV 0 0 0 0 0 0 0) 26]⟩ (by kernel_rfl) ?_
  refine At.reval 4 (.fn (.func 56) [(vP g2 0)]) (.v (.func (.func 56) #[] #[.pointer (aS g2 0)])) (by kernel_rfl) (by kernel_rfl) (fun _ => by kernel_rfl) ⟨fr 8 [(2, .p 1 0), (4, .v (.func (.func 56) #[] #[.pointer (aS g2 0)]))], [.dead, .c (nV 0 0 0 0 0 0 0) 26]⟩ (by kernel_rfl) (by kernel_rfl) ?_
  refine At.callV rfl (by kernel_rfl) 55 [] [] (by kernel_rfl) Try.func55 (by kernel_rfl) (by kernel_rfl) [.v (.func (.func 56) #[] #[.pointer (aS g2 0)])] (by kernel_rfl) (by kernel_rfl) (tries_nd_no Φ3 56 #[.pointer (aS g2 0)] Try.f56 Try.func56 rfl rfl 140 (root1_no Φ3 g2 nds A c hR hl ndsw i hno hBr1)) ?_
  rintro Φ5 ⟨⟩ hle6 -
  have hR := hR.mono hle6
  have hBr1 := hBr1.mono hle6
  refine ⟨⟨fr 8 [(2, .p 1 0), (4, .v (.func (.func 56) #[] #[.pointer (aS g2 0)])), (5, .tup [.agg (nV 0 0 0 0 0 0 0), (vI 140)])], [.dead, .c (nV 0 0 0 0 0 0 0) 26]⟩, by kernel_rfl, by kernel_rfl, ?_⟩
  refine At.runk 4 [4, 5, 6, 7] [] ⟨fr 8 [(2, .p 1 0), (3, (vI 140))], [.dead, .c (nV 0 0 0 0 0 0 0) 26]⟩ (by kernel_rfl) ?_
  refine At.nil ?_
  refine At.then_normal ?_
  refine At.ret_ ?_
  refine At.leaveX rfl [2, 3] 0 [] ⟨fr 8 [], []⟩ () (by kernel_rfl) (by kernel_rfl) (by kernel_rfl) (by kernel_rfl) (bleT rfl) (by kernel_rfl) (by kernel_rfl) ?_
  trivial

end Go.Sx
