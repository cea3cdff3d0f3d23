/- RxL: printed by wip/gen/lib04.py. Walks over functions of the program. -/
import Derived.Test.YtgkjblbmiooedaaRxK
namespace Go.Sx
open Go.Proofs Go.RowKit
theorem cl_rx0_ret0 (Φ : Phi) (g0 g1 : Nat) (xs0 xs1 : List Value) : CallDG Try.prog 72 [(vP g0 0), (vP g1 0)] [.o (.slice (aS g0 0) 1 1) 1 xs0 30 1, .o (.slice (aS g1 0) 1 1) 1 xs1 33 1] Φ .returning .returning (fun _ es hp' => es = .ret (.tup []) ∧ hp' = [.o (.slice (aS g0 0) 1 1) 1 xs0 30 1, .o (.slice (aS g1 0) 1 1) 1 xs1 33 1]) := by
  refine CallDG.enter Try.func72 rfl rfl rfl rfl rfl rfl rfl (bleT rfl) .returning .returning (.nilIface) rec_ret [3, 4, 5, 6, 7, 8, 9, 10, 11, 12, 13, 14, 15, 16, 17, 18] ⟨fr 19 [(0, (vP g0 0)), (1, (vP g1 0)), (2, .v (.nilIface))], [.o (.slice (aS g0 0) 1 1) 1 xs0 30 1, .o (.slice (aS g1 0) 1 1) 1 xs1 33 1]⟩ (by kernel_rfl) (by kernel_rfl) ?_
  intro E G β0
  refine At.seq ?_
  refine At.region ?_
  refine At.runk 1 [] [] ⟨fr 19 [(0, (vP g0 0)), (1, (vP g1 0)), (2, .v (.nilIface)), (7, .v (.nilIface))], [.o (.slice (aS g0 0) 1 1) 1 xs0 30 1, .o (.slice (aS g1 0) 1 1) 1 xs1 33 1]⟩ (by kernel_rfl) ?_
  refine At.vals (S' := ⟨fr 19 [(0, (vP g0 0)), (1, (vP g1 0)), (2, .v (.nilIface)), (7, .v (.nilIface)), (8, (vB false))], [.o (.slice (aS g0 0) 1 1) 1 xs0 30 1, .o (.slice (aS g1 0) 1 1) 1 xs1 33 1]⟩) (by kernel_rfl) ((vB false)) (by kernel_rfl) (Val.nilnil rfl (ms := #[]) (by kernel_rfl) (by kernel_rfl) false (.inr ⟨rfl, rfl⟩)) ?_
  refine At.nil ?_
  refine At.then_normal ?_
  refine At.cond_f (by kernel_rfl) ?_
  refine At.skip ?_
  refine At.forget [0, 1, 2, 7, 8] 2 [] ⟨fr 19 [], [.o (.slice (aS g0 0) 1 1) 1 xs0 30 1, .o (.slice (aS g1 0) 1 1) 1 xs1 33 1]⟩ (by kernel_rfl) (by kernel_rfl) (bleT rfl) ?_
  exact At.leave_end rfl (.tup []) (by kernel_rfl) (by kernel_rfl) ⟨rfl, by kernel_rfl⟩

theorem cl_rx0_pan (Φ : Phi) (g0 g1 : Nat) (e : Int) : CallDG Try.prog 72 [(vP g0 0), (vP g1 0)] [.o (.slice (aS g0 0) 1 1) 1 [.slice none 0 0] 30 1, .o (.slice (aS g1 0) 1 1) 1 [.int .i64 0] 33 1] Φ (.panicking [{ v := (.iface 33 (.int .i64 e)), recovered := false }]) (.panicking [{ v := (.iface 33 (.int .i64 e)), recovered := true }]) (fun _ es hp' => es = .ret (.tup []) ∧ hp' = [.o (.slice (aS g0 0) 1 1) 1 [.slice none 0 0] 30 1, .o (.slice (aS g1 0) 1 1) 1 [.int .i64 e] 33 1]) := by
  refine CallDG.enter Try.func72 rfl rfl rfl rfl rfl rfl rfl (bleT rfl) (.panicking [{ v := (.iface 33 (.int .i64 e)), recovered := false }]) (.panicking [{ v := (.iface 33 (.int .i64 e)), recovered := true }]) (.iface 33 (.int .i64 e)) (rec_pan (.iface 33 (.int .i64 e))) [3, 4, 5, 6, 7, 8, 9, 10, 11, 12, 13, 14, 15, 16, 17, 18] ⟨fr 19 [(0, (vP g0 0)), (1, (vP g1 0)), (2, .v (.iface 33 (.int .i64 e)))], [.o (.slice (aS g0 0) 1 1) 1 [.slice none 0 0] 30 1, .o (.slice (aS g1 0) 1 1) 1 [.int .i64 0] 33 1]⟩ (by kernel_rfl) (by kernel_rfl) ?_
  intro E G β0
  refine At.seq ?_
  refine At.region ?_
  refine At.runk 2 [7] [] ⟨fr 19 [(0, (vP g0 0)), (1, (vP g1 0)), (2, .v (.iface 33 (.int .i64 e))), (8, (vB true))], [.o (.slice (aS g0 0) 1 1) 1 [.slice none 0 0] 30 1, .o (.slice (aS g1 0) 1 1) 1 [.int .i64 0] 33 1]⟩ (by kernel_rfl) ?_
  refine At.nil ?_
  refine At.then_normal ?_
  refine At.cond_t (by kernel_rfl) ?_
  refine At.seq ?_
  refine At.region ?_
  refine At.runk 1 [8] [] ⟨fr 19 [(0, (vP g0 0)), (1, (vP g1 0)), (2, .v (.iface 33 (.int .i64 e))), (10, .v (.iface 33 (.int .i64 e)))], [.o (.slice (aS g0 0) 1 1) 1 [.slice none 0 0] 30 1, .o (.slice (aS g1 0) 1 1) 1 [.int .i64 0] 33 1]⟩ (by kernel_rfl) ?_
  refine At.vals (S' := ⟨fr 19 [(0, (vP g0 0)), (1, (vP g1 0)), (2, .v (.iface 33 (.int .i64 e))), (10, .v (.iface 33 (.int .i64 e))), (11, .tup [(vI e), (vB true)])], [.o (.slice (aS g0 0) 1 1) 1 [.slice none 0 0] 30 1, .o (.slice (aS g1 0) 1 1) 1 [.int .i64 0] 33 1]⟩) (by kernel_rfl) (.tup [(vI e), (vB true)]) (by kernel_rfl) (Val.assert rfl (t := 33) (d := .int .i64) (by kernel_rfl) (by intro ms h; cases h) (v := .int .i64 e) (by kernel_rfl)) ?_
  refine At.runk 5 [9, 10, 11, 12, 13] [] ⟨fr 19 [(0, (vP g0 0)), (1, (vP g1 0)), (2, .v (.iface 33 (.int .i64 e))), (3, (vI e)), (4, (vB true))], [.o (.slice (aS g0 0) 1 1) 1 [.slice none 0 0] 30 1, .o (.slice (aS g1 0) 1 1) 1 [.int .i64 0] 33 1]⟩ (by kernel_rfl) ?_
  refine At.nil ?_
  refine At.then_normal ?_
  refine At.seq ?_
  refine At.seq ?_
  refine At.region ?_
  refine At.runk 2 [4, 14] [] ⟨fr 19 [(0, (vP g0 0)), (1, (vP g1 0)), (2, .v (.iface 33 (.int .i64 e))), (3, (vI e)), (15, (vB false))], [.o (.slice (aS g0 0) 1 1) 1 [.slice none 0 0] 30 1, .o (.slice (aS g1 0) 1 1) 1 [.int .i64 0] 33 1]⟩ (by kernel_rfl) ?_
  refine At.nil ?_
  refine At.then_normal ?_
  refine At.cond_f (by kernel_rfl) ?_
  refine At.skip ?_
  refine At.then_normal ?_
  refine At.seq ?_
  refine At.region ?_
  refine At.runk 1 [2, 15] [] ⟨fr 19 [(0, (vP g0 0)), (1, (vP g1 0)), (3, (vI e)), (5, (vS none 0 0))], [.o (.slice (aS g0 0) 1 1) 1 [.slice none 0 0] 30 1, .o (.slice (aS g1 0) 1 1) 1 [.int .i64 0] 33 1]⟩ (by kernel_rfl) ?_
  refine At.nil ?_
  refine At.then_normal ?_
  refine At.region ?_
  refine At.runk 2 [3, 5] [] ⟨fr 19 [(0, (vP g0 0)), (1, (vP g1 0)), (17, (vS none 0 0)), (18, (vI e))], [.o (.slice (aS g0 0) 1 1) 1 [.slice none 0 0] 30 1, .o (.slice (aS g1 0) 1 1) 1 [.int .i64 0] 33 1]⟩ (by kernel_rfl) ?_
  refine At.strow (S' := ⟨fr 19 [(0, (vP g0 0)), (1, (vP g1 0)), (17, (vS none 0 0)), (18, (vI e))], [.o (.slice (aS g0 0) 1 1) 1 [.slice none 0 0] 30 1, .o (.slice (aS g1 0) 1 1) 1 [.int .i64 0] 33 1]⟩) rfl (by kernel_rfl) (g := g0) (off := 0) (by kernel_rfl) 0 (n := 1) (cap := 1) (xs := [.slice none 0 0]) (e := 30) (sz := 1) (by kernel_rfl) [.slice none 0 0] (by kernel_rfl) (one_lits _ (by kernel_rfl)) (by kernel_rfl) (bleT rfl) (by kernel_rfl) ?_
  refine At.strow (S' := ⟨fr 19 [(0, (vP g0 0)), (1, (vP g1 0)), (17, (vS none 0 0)), (18, (vI e))], [.o (.slice (aS g0 0) 1 1) 1 [.slice none 0 0] 30 1, .o (.slice (aS g1 0) 1 1) 1 [.int .i64 e] 33 1]⟩) rfl (by kernel_rfl) (g := g1) (off := 0) (by kernel_rfl) 1 (n := 1) (cap := 1) (xs := [.int .i64 0]) (e := 33) (sz := 1) (by kernel_rfl) [.int .i64 e] (by kernel_rfl) (one_lits _ (by kernel_rfl)) (by kernel_rfl) (bleT rfl) (by kernel_rfl) ?_
  refine At.nil ?_
  refine At.forget [0, 1, 17, 18] 2 [] ⟨fr 19 [], [.o (.slice (aS g0 0) 1 1) 1 [.slice none 0 0] 30 1, .o (.slice (aS g1 0) 1 1) 1 [.int .i64 e] 33 1]⟩ (by kernel_rfl) (by kernel_rfl) (bleT rfl) ?_
  exact At.leave_end rfl (.tup []) (by kernel_rfl) (by kernel_rfl) ⟨rfl, by kernel_rfl⟩

theorem tries_rx0 (Φ : Phi) (f : Nat) (caps : Array Value) (fn : Func) (hf : Try.prog.funcs[f]? = some fn) (hb : fn.body.isSome = true) (hn : (fn.name == "runtime.NumGoroutine") = false) (T : Type) (sl : T → Option Addr × Nat × Nat) (F : T → Phi → Prop) (hF0 : ∀ t Φ Φ', PhiLe 0 Φ Φ' → F t Φ → F t Φ') (hC : CallR Try.prog f (caps.toList.map .v) [] Φ T (fun t => (vS ((sl t).1) ((sl t).2.1) ((sl t).2.2))) (fun t => []) F) : CallR Try.prog 41 [.v (.func (.func f) #[] caps)] [] Φ T (fun t => .tup [(vS ((sl t).1) ((sl t).2.1) ((sl t).2.2)), (vI 0)]) (fun t => []) F := by
  refine CallG.enterD Try.func41 rfl [1, 2, 3, 4, 5, 6] ⟨fr 7 [(0, .v (.func (.func f) #[] caps))], []⟩ (by kernel_rfl) (by kernel_rfl) ?_
  intro E G β0
  refine At.seq ?_
  refine At.region ?_
  refine At.runk 2 [] [] ⟨fr 7 [(0, .v (.func (.func f) #[] caps)), (2, .p 0 0), (3, .p 1 0)], [.c [(vS none 0 0)] 30, .c [(vI 0)] 33]⟩ (by kernel_rfl) ?_
  refine At.toRow 0 1 [.slice none 0 0] 1 rfl rfl rfl (bleT rfl) ?_
  intro g1
  refine ⟨⟨fr 7 [(0, .v (.func (.func f) #[] caps)), (2, (vP g1 0)), (3, .p 1 0)], [.o (.slice (aS g1 0) 1 1) 1 [.slice none 0 0] 30 1, .c [(vI 0)] 33]⟩, by kernel_rfl, by kernel_rfl, ?_⟩
  refine At.toRow 1 1 [.int .i64 0] 1 rfl rfl rfl (bleT rfl) ?_
  intro g2
  refine ⟨⟨fr 7 [(0, .v (.func (.func f) #[] caps)), (2, (vP g1 0)), (3, (vP g2 0))], [.o (.slice (aS g1 0) 1 1) 1 [.slice none 0 0] 30 1, .o (.slice (aS g2 0) 1 1) 1 [.int .i64 0] 33 1]⟩, by kernel_rfl, by kernel_rfl, ?_⟩
  refine At.nil ?_
  refine At.then_normal ?_
  refine At.seq ?_
  refine At.region ?_
  refine At.runk 1 [] [] ⟨fr 7 [(0, .v (.func (.func f) #[] caps)), (2, (vP g1 0)), (3, (vP g2 0)), (4, .fn (.func 72) [(vP g1 0), (vP g2 0)])], [.o (.slice (aS g1 0) 1 1) 1 [.slice none 0 0] 30 1, .o (.slice (aS g2 0) 1 1) 1 [.int .i64 0] 33 1]⟩ (by kernel_rfl) ?_
  refine At.defer rfl rfl (by kernel_rfl) (cl := 72) (caps := #[.pointer (aS g1 0), .pointer (aS g2 0)]) (by kernel_rfl) ?_
  refine At.nil ?_
  refine At.then_normal ?_
  refine At.seq ?_
  refine At.region ?_
  refine At.runk 1 [0, 4] [] ⟨fr 7 [(2, (vP g1 0)), (3, (vP g2 0)), (5, .v (.func (.func f) #[] caps))], [.o (.slice (aS g1 0) 1 1) 1 [.slice none 0 0] 30 1, .o (.slice (aS g2 0) 1 1) 1 [.int .i64 0] 33 1]⟩ (by kernel_rfl) ?_
  refine At.callV rfl (by kernel_rfl) f [] (caps.toList.map .v) (by kernel_rfl) hf hb hn (caps.toList.map .v) (caps_av caps) (caps_u caps) hC ?_
  intro Φ1 t hle hF
  refine ⟨⟨fr 7 [(2, (vP g1 0)), (3, (vP g2 0)), (5, .v (.func (.func f) #[] caps)), (6, (vS ((sl t).1) ((sl t).2.1) ((sl t).2.2)))], [.o (.slice (aS g1 0) 1 1) 1 [.slice none 0 0] 30 1, .o (.slice (aS g2 0) 1 1) 1 [.int .i64 0] 33 1]⟩, by kernel_rfl, by kernel_rfl, ?_⟩
  refine At.strow (S' := ⟨fr 7 [(2, (vP g1 0)), (3, (vP g2 0)), (5, .v (.func (.func f) #[] caps)), (6, (vS ((sl t).1) ((sl t).2.1) ((sl t).2.2)))], [.o (.slice (aS g1 0) 1 1) 1 [.slice ((sl t).1) ((sl t).2.1) ((sl t).2.2)] 30 1, .o (.slice (aS g2 0) 1 1) 1 [.int .i64 0] 33 1]⟩) rfl (by kernel_rfl) (g := g1) (off := 0) (by kernel_rfl) 0 (n := 1) (cap := 1) (xs := [.slice none 0 0]) (e := 30) (sz := 1) (by kernel_rfl) [.slice ((sl t).1) ((sl t).2.1) ((sl t).2.2)] (by kernel_rfl) (one_lits _ (by kernel_rfl)) (by kernel_rfl) (bleT rfl) (by kernel_rfl) ?_
  refine At.strow (S' := ⟨fr 7 [(2, (vP g1 0)), (3, (vP g2 0)), (5, .v (.func (.func f) #[] caps)), (6, (vS ((sl t).1) ((sl t).2.1) ((sl t).2.2)))], [.o (.slice (aS g1 0) 1 1) 1 [.slice ((sl t).1) ((sl t).2.1) ((sl t).2.2)] 30 1, .o (.slice (aS g2 0) 1 1) 1 [.int .i64 0] 33 1]⟩) rfl (by kernel_rfl) (g := g2) (off := 0) (by kernel_rfl) 1 (n := 1) (cap := 1) (xs := [.int .i64 0]) (e := 33) (sz := 1) (by kernel_rfl) [.int .i64 0] (by kernel_rfl) (one_lits _ (by kernel_rfl)) (by kernel_rfl) (bleT rfl) (by kernel_rfl) ?_
  refine At.nil ?_
  refine At.then_normal ?_
  refine At.ret_ ?_
  refine At.ret_D ?_
  refine At.leaveD (cl := 72) (caps := #[.pointer (aS g1 0), .pointer (aS g2 0)]) rfl Try.func72 (by kernel_rfl) (by kernel_rfl) [.o (.slice (aS g1 0) 1 1) 1 [.slice ((sl t).1) ((sl t).2.1) ((sl t).2.2)] 30 1, .o (.slice (aS g2 0) 1 1) 1 [.int .i64 0] 33 1] (by kernel_rfl) (by intro b hb; simp only [List.mem_cons, List.not_mem_nil, or_false] at hb; rcases hb with rfl | rfl <;> exact .inr ⟨_, _, _, _, _, rfl⟩) .returning .returning (by intro h; cases h) (cl_rx0_ret0 Φ1 g1 g2 [.slice ((sl t).1) ((sl t).2.1) ((sl t).2.2)] [.int .i64 0]) (fun _ _ _ h => by cases h.1) rfl (by intro Φ' x hp' hq; obtain ⟨_, rfl⟩ := hq; refine ⟨rfl, ?_⟩; intro b hb; simp only [List.mem_cons, List.not_mem_nil, or_false] at hb; rcases hb with rfl | rfl <;> exact .inr ⟨_, _, _, _, _, rfl⟩) ?_
  rintro Φ2 x hp2 hle2 ⟨_, rfl⟩
  refine At.cast (S' := ⟨fr 7 [(2, (vP g1 0)), (3, (vP g2 0)), (5, .v (.func (.func f) #[] caps)), (6, (vS ((sl t).1) ((sl t).2.1) ((sl t).2.2)))], [.o (.slice (aS g1 0) 1 1) 1 [.slice ((sl t).1) ((sl t).2.1) ((sl t).2.2)] 30 1, .o (.slice (aS g2 0) 1 1) 1 [.int .i64 0] 33 1]⟩) (by kernel_rfl) ?_
  refine At.resD rfl [2, 3, 5, 6] 0 [] ⟨fr 7 [], []⟩ t (.tuple #[.slice ((sl t).1) ((sl t).2.1) ((sl t).2.2), .int .i64 0]) (fun _ => rfl) (res_rows2 rfl (g0 := g1) (g1 := g2) (by kernel_rfl) (by kernel_rfl) 0 1 (n0 := 1) (c0 := 1) (t0 := 30) (s0 := 1) (n1 := 1) (c1 := 1) (t1 := 33) (s1 := 1) (xs0 := [.slice ((sl t).1) ((sl t).2.1) ((sl t).2.2)]) (xs1 := [.int .i64 0]) (by kernel_rfl) (by kernel_rfl) ((vS ((sl t).1) ((sl t).2.1) ((sl t).2.2))) ((vI 0)) (by kernel_rfl) (by kernel_rfl) (by kernel_rfl) (by kernel_rfl) (fun _ => rfl)) (by kernel_rfl) (by kernel_rfl) (bleT rfl) (by kernel_rfl) (by kernel_rfl) (hF0 _ _ _ hle2 hF)

theorem tries_rx0_no (Φ : Phi) (f : Nat) (caps : Array Value) (fn : Func) (hf : Try.prog.funcs[f]? = some fn) (hb : fn.body.isSome = true) (hn : (fn.name == "runtime.NumGoroutine") = false) (e : Int) (hC : CallP Try.prog f (caps.toList.map .v) [] Φ [{ v := .iface 33 (.int .i64 e), recovered := false }]) : CallR Try.prog 41 [.v (.func (.func f) #[] caps)] [] Φ Unit (fun _ => .tup [(vS none 0 0), (vI e)]) (fun _ => []) (fun _ _ => True) := by
  refine CallG.enterD Try.func41 rfl [1, 2, 3, 4, 5, 6] ⟨fr 7 [(0, .v (.func (.func f) #[] caps))], []⟩ (by kernel_rfl) (by kernel_rfl) ?_
  intro E G β0
  refine At.seq ?_
  refine At.region ?_
  refine At.runk 2 [] [] ⟨fr 7 [(0, .v (.func (.func f) #[] caps)), (2, .p 0 0), (3, .p 1 0)], [.c [(vS none 0 0)] 30, .c [(vI 0)] 33]⟩ (by kernel_rfl) ?_
  refine At.toRow 0 1 [.slice none 0 0] 1 rfl rfl rfl (bleT rfl) ?_
  intro g1
  refine ⟨⟨fr 7 [(0, .v (.func (.func f) #[] caps)), (2, (vP g1 0)), (3, .p 1 0)], [.o (.slice (aS g1 0) 1 1) 1 [.slice none 0 0] 30 1, .c [(vI 0)] 33]⟩, by kernel_rfl, by kernel_rfl, ?_⟩
  refine At.toRow 1 1 [.int .i64 0] 1 rfl rfl rfl (bleT rfl) ?_
  intro g2
  refine ⟨⟨fr 7 [(0, .v (.func (.func f) #[] caps)), (2, (vP g1 0)), (3, (vP g2 0))], [.o (.slice (aS g1 0) 1 1) 1 [.slice none 0 0] 30 1, .o (.slice (aS g2 0) 1 1) 1 [.int .i64 0] 33 1]⟩, by kernel_rfl, by kernel_rfl, ?_⟩
  refine At.nil ?_
  refine At.then_normal ?_
  refine At.seq ?_
  refine At.region ?_
  refine At.runk 1 [] [] ⟨fr 7 [(0, .v (.func (.func f) #[] caps)), (2, (vP g1 0)), (3, (vP g2 0)), (4, .fn (.func 72) [(vP g1 0), (vP g2 0)])], [.o (.slice (aS g1 0) 1 1) 1 [.slice none 0 0] 30 1, .o (.slice (aS g2 0) 1 1) 1 [.int .i64 0] 33 1]⟩ (by kernel_rfl) ?_
  refine At.defer rfl rfl (by kernel_rfl) (cl := 72) (caps := #[.pointer (aS g1 0), .pointer (aS g2 0)]) (by kernel_rfl) ?_
  refine At.nil ?_
  refine At.then_normal ?_
  refine At.seq ?_
  refine At.region ?_
  refine At.runk 1 [0, 4] [] ⟨fr 7 [(2, (vP g1 0)), (3, (vP g2 0)), (5, .v (.func (.func f) #[] caps))], [.o (.slice (aS g1 0) 1 1) 1 [.slice none 0 0] 30 1, .o (.slice (aS g2 0) 1 1) 1 [.int .i64 0] 33 1]⟩ (by kernel_rfl) ?_
  refine At.callP rfl (by kernel_rfl) f [] (caps.toList.map .v) (by kernel_rfl) hf hb hn (caps.toList.map .v) (caps_av caps) (caps_u caps) hC ?_
  intro Φ1 hle
  refine ⟨⟨fr 7 [(2, (vP g1 0)), (3, (vP g2 0)), (5, .v (.func (.func f) #[] caps))], [.o (.slice (aS g1 0) 1 1) 1 [.slice none 0 0] 30 1, .o (.slice (aS g2 0) 1 1) 1 [.int .i64 0] 33 1]⟩, by kernel_rfl, by kernel_rfl, ?_⟩
  refine At.then_panic ?_
  refine At.panic_D ?_
  refine At.leaveD (cl := 72) (caps := #[.pointer (aS g1 0), .pointer (aS g2 0)]) rfl Try.func72 (by kernel_rfl) (by kernel_rfl) [.o (.slice (aS g1 0) 1 1) 1 [.slice none 0 0] 30 1, .o (.slice (aS g2 0) 1 1) 1 [.int .i64 0] 33 1] (by kernel_rfl) (by intro b hb; simp only [List.mem_cons, List.not_mem_nil, or_false] at hb; rcases hb with rfl | rfl <;> exact .inr ⟨_, _, _, _, _, rfl⟩) (.panicking [{ v := (.iface 33 (.int .i64 e)), recovered := false }]) (.panicking [{ v := (.iface 33 (.int .i64 e)), recovered := true }]) (by intro h; cases h) (cl_rx0_pan Φ1 g1 g2 e) (fun _ _ _ h => by cases h.1) rfl (by intro Φ' x hp' hq; obtain ⟨_, rfl⟩ := hq; refine ⟨rfl, ?_⟩; intro b hb; simp only [List.mem_cons, List.not_mem_nil, or_false] at hb; rcases hb with rfl | rfl <;> exact .inr ⟨_, _, _, _, _, rfl⟩) ?_
  rintro Φ2 x hp2 hle2 ⟨_, rfl⟩
  refine At.cast (S' := ⟨fr 7 [(2, (vP g1 0)), (3, (vP g2 0)), (5, .v (.func (.func f) #[] caps))], [.o (.slice (aS g1 0) 1 1) 1 [.slice none 0 0] 30 1, .o (.slice (aS g2 0) 1 1) 1 [.int .i64 e] 33 1]⟩) (by kernel_rfl) ?_
  refine At.resD rfl [2, 3, 5] 0 [] ⟨fr 7 [], []⟩ () (.tuple #[.slice none 0 0, .int .i64 e]) (fun _ => rfl) (res_rows2 rfl (g0 := g1) (g1 := g2) (by kernel_rfl) (by kernel_rfl) 0 1 (n0 := 1) (c0 := 1) (t0 := 30) (s0 := 1) (n1 := 1) (c1 := 1) (t1 := 33) (s1 := 1) (xs0 := [.slice none 0 0]) (xs1 := [.int .i64 e]) (by kernel_rfl) (by kernel_rfl) ((vS none 0 0)) ((vI e)) (by kernel_rfl) (by kernel_rfl) (by kernel_rfl) (by kernel_rfl) (fun _ => rfl)) (by kernel_rfl) (by kernel_rfl) (bleT rfl) (by kernel_rfl) (by kernel_rfl) trivial

theorem norm1_c (Φ : Phi) (n : Nd) (ps : List Pt) (B : Option Addr) (d : Nat) (hP : RdC Φ B (ps.flatMap Pt.enc)) (hG : Pts Φ ps) (hk : ∀ p ∈ ps, p.nds.length ≤ 1000) (hw : ∀ p ∈ ps, ∀ n ∈ p.nds, n.wf) (hpl : ps.length ≤ 1000)  : CallR Try.prog 47 [.agg n.sv, (vS B ps.length d)] [] Φ (Option Addr × Nat) (fun t => (vS t.1 (nrm n ps).length t.2)) (fun t => [.o (.slice t.1 (nrm n ps).length t.2) (nrm n ps).length ((nrm n ps).flatMap Nd.cells) 26 7]) (fun t _ => (nrm n ps).length ≤ t.2) := by
  refine CallG.enterk Try.func47 rfl [2, 3, 4, 5, 6, 7, 8, 9, 10, 11, 12, 13, 14, 15, 16, 17, 18, 19] ⟨fr 20 [(0, .agg n.sv), (1, (vS B ps.length d))], []⟩ (by kernel_rfl) (by kernel_rfl) ?_
  intro E G β0
  refine At.seq ?_
  refine At.region ?_
  refine At.runk 2 [0, 4] [] ⟨fr 20 [(1, (vS B ps.length d)), (2, .p 0 0)], [.c n.sv 26]⟩ (by kernel_rfl) ?_
  refine At.nil ?_
  refine At.then_normal ?_
  refine At.seq ?_
  refine At.seq ?_
  refine At.region ?_
  refine At.runk 4 [5, 6, 7] [] ⟨fr 20 [(1, (vS B ps.length d)), (2, .p 0 0), (8, (vB (n.kind == 9)))], [.c n.sv 26]⟩ (by kernel_rfl) ?_
  refine At.bcase (n.kind == 9) (fun hb1 => ?_) (fun hb1 => ?_)
  · have hb1p : (n.kind = 9) := eq_of_beq hb1
    refine At.cast (S' := ⟨fr 20 [(1, (vS B ps.length d)), (2, .p 0 0), (8, (vB true))], [.c n.sv 26]⟩) (by rw [hb1] <;> rfl) ?_
    refine At.runk 4 [8, 9, 10, 11] [] ⟨fr 20 [(1, (vS B ps.length d)), (2, .p 0 0), (12, (vB (n.mx == 0)))], [.c n.sv 26]⟩ (by kernel_rfl) ?_
    refine At.nil ?_
    refine At.then_normal ?_
    refine At.bcase (n.mx == 0) (fun hb2 => ?_) (fun hb2 => ?_)
    · have hb2p : (n.mx = 0) := eq_of_beq hb2
      refine At.cast (S' := ⟨fr 20 [(1, (vS B ps.length d)), (2, .p 0 0), (12, (vB true))], [.c n.sv 26]⟩) (by rw [hb2] <;> rfl) ?_
      refine At.cond_t (by kernel_rfl) ?_
      refine At.seq ?_
      refine At.region ?_
      refine At.runk 3 [1, 2, 12, 13, 14] [0] ⟨fr 20 [(4, .s 1 0 1 1)], [.dead, .c (nV 2 0 0 0 0 0 0) 26]⟩ (by kernel_rfl) ?_
      refine At.nil ?_
      refine At.then_normal ?_
      refine At.toRow 1 1 [.int .i64 2, .int .u64 0, .int .u64 0, .int .u64 0, .int .u64 0, .int .i64 0, .int .i64 0] 7 rfl rfl rfl (bleT rfl) ?_
      intro g3
      refine ⟨⟨fr 20 [(4, (vS (aS g3 0) 1 1))], [.dead, .o (.slice (aS g3 0) 1 1) 1 [.int .i64 2, .int .u64 0, .int .u64 0, .int .u64 0, .int .u64 0, .int .i64 0, .int .i64 0] 26 7]⟩, by kernel_rfl, by kernel_rfl, ?_⟩
      have hnr : nrm n ps = [emptyN] := nrm_t ⟨by assumption, by assumption⟩
      refine At.cast (S' := ⟨fr 20 [(4, (vS (aS g3 0) ((nrm n ps).length) 1))], [.dead, .o (.slice (aS g3 0) ((nrm n ps).length) 1) ((nrm n ps).length) ((nrm n ps).flatMap Nd.cells) 26 7]⟩) (by rw [hnr]; rfl) ?_
      refine At.ret_ ?_
      refine At.then_ret ?_
      refine At.reorder [1] ⟨fr 20 [(4, (vS (aS g3 0) ((nrm n ps).length) 1))], [.o (.slice (aS g3 0) ((nrm n ps).length) 1) ((nrm n ps).length) ((nrm n ps).flatMap Nd.cells) 26 7]⟩ rfl (by kernel_rfl) (by kernel_rfl) (by kernel_rfl) (by decide) (by kernel_rfl) ?_
      refine At.leaveR rfl ((aS g3 0), 1) (by kernel_rfl) (by kernel_rfl) (by kernel_rfl) ?_
      rw [hnr]; exact Nat.le_refl _
    have hb2p : ¬ (n.mx = 0) := beq_eq_false_iff_ne.1 hb2
    refine At.cast (S' := ⟨fr 20 [(1, (vS B ps.length d)), (2, .p 0 0), (12, (vB false))], [.c n.sv 26]⟩) (by rw [hb2] <;> rfl) ?_
    refine At.cond_f (by kernel_rfl) ?_
    refine At.skip ?_
    refine At.then_normal ?_
    refine At.seq ?_
    refine At.freezeC 0 [.int .i64 n.kind, .int .u64 n.s0, .int .u64 n.s1, .int .u64 n.s2, .int .u64 n.s3, .int .i64 n.mn, .int .i64 n.mx] rfl rfl (bleT rfl) (bleT rfl) (fun _ => by kernel_rfl) (fun _ => by kernel_rfl) ?_
    intro g4 Φ5 hle6 hB7
    have hP := hP.mono hle6
    have hG := hG.mono hle6
    refine ⟨⟨fr 20 [(1, (vS B ps.length d)), (2, (vP g4 0)), (12, (vB false))], [.dead]⟩, by kernel_rfl, ?_⟩
    refine At.forget [12] 0 [] ⟨fr 20 [(1, (vS B ps.length d)), (2, (vP g4 0))], []⟩ (by kernel_rfl) (by kernel_rfl) (bleT rfl) ?_
    refine At.region_draw (by kernel_rfl) 6 (by kernel_rfl) #[false, false, false, false, false, false] (by kernel_rfl) ?_
    have hPd := hP
    have hGd := hG
    have hB7d := hB7
    refine At.take (S' := ⟨fr 20 [(1, (vS B ps.length d)), (2, (vP g4 0)), (15, (vS B ps.length d))], []⟩) (PhiLe.refl 0 _) (PanOk.then PanOk.body) 0 rfl (by kernel_rfl) (by kernel_rfl) (by kernel_rfl) (by kernel_rfl) ((vS B ps.length d)) (by kernel_rfl) (fun _ _ => Val.ev rfl (by kernel_rfl) (by kernel_rfl)) (by kernel_rfl) #[true, false, false, false, false, false] (by kernel_rfl) ?_
    refine At.take (S' := ⟨fr 20 [(1, (vS B ps.length d)), (2, (vP g4 0)), (15, (vS B ps.length d)), (17, .agg n.sv)], []⟩) (PhiLe.refl 0 _) (PanOk.then PanOk.body) 2 rfl (by kernel_rfl) (by kernel_rfl) (by kernel_rfl) (by kernel_rfl) (.agg n.sv) (by kernel_rfl) (fun _ _ => Val.ldB rfl hB7d (Nat.zero_lt_succ _) 0 0 (by omega) (by kernel_rfl) (.agg n.sv) (by kernel_rfl)) (by kernel_rfl) #[true, false, true, false, false, false] (by kernel_rfl) ?_
    refine At.any2 1 3 (by kernel_rfl) rfl rfl #[true, true, true, false, false, false] #[true, false, true, true, false, false] (by kernel_rfl) (by kernel_rfl) ?_ ?_
    · refine At.callV rfl (by kernel_rfl) 48 [] [] (by kernel_rfl) Try.func48 (by kernel_rfl) (by kernel_rfl) [(vS B ps.length d)] (by kernel_rfl) (by kernel_rfl) (concat_c Φ5 ps B d hP hG hk hw hpl) ?_
      rintro Φ8 ⟨Ac, cc⟩ hle9 hcc
      have hP := hP.mono hle9
      have hG := hG.mono hle9
      have hB7 := hB7.mono hle9
      dsimp only at hcc
      have hjl := jn_len hk ps.length
      rw [jn_end (Nat.le_refl _)] at hjl
      refine ⟨⟨fr 20 [(1, (vS B ps.length d)), (2, (vP g4 0)), (15, (vS B ps.length d)), (16, (vS Ac ((jn ps).length) cc)), (17, .agg n.sv)], [.o (.slice Ac ((jn ps).length) cc) ((jn ps).length) ((jn ps).flatMap Nd.cells) 26 7]⟩, by kernel_rfl, by kernel_rfl, ?_⟩
      refine At.nil ?_
      refine At.then_normal ?_
      refine At.held hle9 ?_
      refine At.any1 3 (by kernel_rfl) rfl #[true, true, true, true, false, false] (by kernel_rfl) ?_
      refine At.runk 1 [] [] ⟨fr 20 [(1, (vS B ps.length d)), (2, (vP g4 0)), (15, (vS B ps.length d)), (16, (vS Ac ((jn ps).length) cc)), (17, .agg n.sv), (18, .s 1 0 1 1)], [.o (.slice Ac ((jn ps).length) cc) ((jn ps).length) ((jn ps).flatMap Nd.cells) 26 7, .c n.sv 26]⟩ (by kernel_rfl) ?_
      refine At.nil ?_
      refine At.then_normal ?_
      refine At.held hle9 ?_
      refine At.any1 4 (by kernel_rfl) rfl #[true, true, true, true, true, false] (by kernel_rfl) ?_
      refine At.append rfl (by kernel_rfl) (e := 26) (inf := Try.t26) (sz := 7) (by kernel_rfl) (by kernel_rfl) rfl rfl rfl (Nat.zero_lt_succ _) 0 (V := .slice Ac ((jn ps).length) cc) (n := (jn ps).length) (xs := ((jn ps).flatMap Nd.cells)) (by kernel_rfl) (by kernel_rfl) 1 [.int .i64 n.kind, .int .u64 n.s0, .int .u64 n.s1, .int .u64 n.s2, .int .u64 n.s3, .int .i64 n.mn, .int .i64 n.mx] (Src.cells (i := 1) (off := 0) (m := 1) (c := 1) (cs := n.sv) (e := 26) (by kernel_rfl) (by kernel_rfl) (src_lits _ _ (by kernel_rfl))) (rfl) (one_lits _ (by kernel_rfl)) (by unfold maxLen; omega) (by show ((jn ps).length + 1) * 56 ≤ _; omega) ?_
      intro A10 c11 h12 h13 h14
      refine ⟨⟨fr 20 [(1, (vS B ps.length d)), (2, (vP g4 0)), (15, (vS B ps.length d)), (16, (vS Ac ((jn ps).length) cc)), (17, .agg n.sv), (18, .s 1 0 1 1), (19, (vS A10 ((jn ps).length + 1) c11))], [.o (.slice A10 ((jn ps).length + 1) c11) ((jn ps).length + 1) (((jn ps).flatMap Nd.cells) ++ [.int .i64 n.kind, .int .u64 n.s0, .int .u64 n.s1, .int .u64 n.s2, .int .u64 n.s3, .int .i64 n.mn, .int .i64 n.mx]) 26 7, .c n.sv 26]⟩, by kernel_rfl, ?_⟩
      have hnr : nrm n ps = jn ps ++ [n] := nrm_f (by omega)
      have hj1 : (nrm n ps).length = ((jn ps).length + 1) := by rw [hnr, List.length_append]; rfl
      have hj2 : (nrm n ps).flatMap Nd.cells = (((jn ps).flatMap Nd.cells) ++ [.int .i64 n.kind, .int .u64 n.s0, .int .u64 n.s1, .int .u64 n.s2, .int .u64 n.s3, .int .i64 n.mn, .int .i64 n.mx]) := by rw [hnr, nds_append]; rfl
      refine At.cast (S' := ⟨fr 20 [(1, (vS B ps.length d)), (2, (vP g4 0)), (15, (vS B ps.length d)), (16, (vS Ac ((jn ps).length) cc)), (17, .agg n.sv), (18, .s 1 0 1 1), (19, (vS A10 ((nrm n ps).length) c11))], [.o (.slice A10 ((nrm n ps).length) c11) ((nrm n ps).length) ((nrm n ps).flatMap Nd.cells) 26 7, .c n.sv 26]⟩) (by rw [hj1, hj2]) ?_
      refine At.nil ?_
      refine At.then_normal ?_
      refine At.held hle9 ?_
      refine At.take (S' := ⟨fr 20 [(1, (vS B ps.length d)), (2, (vP g4 0)), (4, (vS A10 ((nrm n ps).length) c11)), (15, (vS B ps.length d)), (16, (vS Ac ((jn ps).length) cc)), (17, .agg n.sv), (18, .s 1 0 1 1), (19, (vS A10 ((nrm n ps).length) c11))], [.o (.slice A10 ((nrm n ps).length) c11) ((nrm n ps).length) ((nrm n ps).flatMap Nd.cells) 26 7, .c n.sv 26]⟩) hle9 (PanOk.then PanOk.body) 5 rfl (by kernel_rfl) (by kernel_rfl) (by kernel_rfl) (by kernel_rfl) ((vS A10 ((nrm n ps).length) c11)) (by kernel_rfl) (fun _ _ => Val.ev rfl (by kernel_rfl) (by kernel_rfl)) (by kernel_rfl) #[true, true, true, true, true, true] (by kernel_rfl) ?_
      refine At.drawn_done (by kernel_rfl) ?_
      refine At.then_normal ?_
      refine At.ret_ ?_
      refine At.forget [1, 2, 15, 16, 17, 18, 19] 1 [] ⟨fr 20 [(4, (vS A10 ((nrm n ps).length) c11))], [.o (.slice A10 ((nrm n ps).length) c11) ((nrm n ps).length) ((nrm n ps).flatMap Nd.cells) 26 7]⟩ (by kernel_rfl) (by kernel_rfl) (bleT rfl) ?_
      refine At.leaveR rfl (A10, c11) (by kernel_rfl) (by kernel_rfl) (by kernel_rfl) ?_
      rw [hj1]; exact h12
    refine At.runk 1 [] [] ⟨fr 20 [(1, (vS B ps.length d)), (2, (vP g4 0)), (15, (vS B ps.length d)), (17, .agg n.sv), (18, .s 0 0 1 1)], [.c n.sv 26]⟩ (by kernel_rfl) ?_
    refine At.nil ?_
    refine At.then_normal ?_
    refine At.held (PhiLe.refl 0 _) ?_
    refine At.any1 1 (by kernel_rfl) rfl #[true, true, true, true, false, false] (by kernel_rfl) ?_
    refine At.callV rfl (by kernel_rfl) 48 [] [] (by kernel_rfl) Try.func48 (by kernel_rfl) (by kernel_rfl) [(vS B ps.length d)] (by kernel_rfl) (by kernel_rfl) (concat_c Φ5 ps B d hP hG hk hw hpl) ?_
    rintro Φ15 ⟨Ac, cc⟩ hle16 hcc
    have hP := hP.mono hle16
    have hG := hG.mono hle16
    have hB7 := hB7.mono hle16
    dsimp only at hcc
    have hjl := jn_len hk ps.length
    rw [jn_end (Nat.le_refl _)] at hjl
    refine ⟨⟨fr 20 [(1, (vS B ps.length d)), (2, (vP g4 0)), (15, (vS B ps.length d)), (16, (vS Ac ((jn ps).length) cc)), (17, .agg n.sv), (18, .s 0 0 1 1)], [.c n.sv 26, .o (.slice Ac ((jn ps).length) cc) ((jn ps).length) ((jn ps).flatMap Nd.cells) 26 7]⟩, by kernel_rfl, by kernel_rfl, ?_⟩
    refine At.nil ?_
    refine At.then_normal ?_
    refine At.held hle16 ?_
    refine At.any1 4 (by kernel_rfl) rfl #[true, true, true, true, true, false] (by kernel_rfl) ?_
    refine At.append rfl (by kernel_rfl) (e := 26) (inf := Try.t26) (sz := 7) (by kernel_rfl) (by kernel_rfl) rfl rfl rfl (Nat.zero_lt_succ _) 1 (V := .slice Ac ((jn ps).length) cc) (n := (jn ps).length) (xs := ((jn ps).flatMap Nd.cells)) (by kernel_rfl) (by kernel_rfl) 1 [.int .i64 n.kind, .int .u64 n.s0, .int .u64 n.s1, .int .u64 n.s2, .int .u64 n.s3, .int .i64 n.mn, .int .i64 n.mx] (Src.cells (i := 0) (off := 0) (m := 1) (c := 1) (cs := n.sv) (e := 26) (by kernel_rfl) (by kernel_rfl) (src_lits _ _ (by kernel_rfl))) (rfl) (one_lits _ (by kernel_rfl)) (by unfold maxLen; omega) (by show ((jn ps).length + 1) * 56 ≤ _; omega) ?_
    intro A17 c18 h19 h20 h21
    refine ⟨⟨fr 20 [(1, (vS B ps.length d)), (2, (vP g4 0)), (15, (vS B ps.length d)), (16, (vS Ac ((jn ps).length) cc)), (17, .agg n.sv), (18, .s 0 0 1 1), (19, (vS A17 ((jn ps).length + 1) c18))], [.c n.sv 26, .o (.slice A17 ((jn ps).length + 1) c18) ((jn ps).length + 1) (((jn ps).flatMap Nd.cells) ++ [.int .i64 n.kind, .int .u64 n.s0, .int .u64 n.s1, .int .u64 n.s2, .int .u64 n.s3, .int .i64 n.mn, .int .i64 n.mx]) 26 7]⟩, by kernel_rfl, ?_⟩
    have hnr : nrm n ps = jn ps ++ [n] := nrm_f (by omega)
    have hj1 : (nrm n ps).length = ((jn ps).length + 1) := by rw [hnr, List.length_append]; rfl
    have hj2 : (nrm n ps).flatMap Nd.cells = (((jn ps).flatMap Nd.cells) ++ [.int .i64 n.kind, .int .u64 n.s0, .int .u64 n.s1, .int .u64 n.s2, .int .u64 n.s3, .int .i64 n.mn, .int .i64 n.mx]) := by rw [hnr, nds_append]; rfl
    refine At.cast (S' := ⟨fr 20 [(1, (vS B ps.length d)), (2, (vP g4 0)), (15, (vS B ps.length d)), (16, (vS Ac ((jn ps).length) cc)), (17, .agg n.sv), (18, .s 0 0 1 1), (19, (vS A17 ((nrm n ps).length) c18))], [.c n.sv 26, .o (.slice A17 ((nrm n ps).length) c18) ((nrm n ps).length) ((nrm n ps).flatMap Nd.cells) 26 7]⟩) (by rw [hj1, hj2]) ?_
    refine At.nil ?_
    refine At.then_normal ?_
    refine At.held hle16 ?_
    refine At.take (S' := ⟨fr 20 [(1, (vS B ps.length d)), (2, (vP g4 0)), (4, (vS A17 ((nrm n ps).length) c18)), (15, (vS B ps.length d)), (16, (vS Ac ((jn ps).length) cc)), (17, .agg n.sv), (18, .s 0 0 1 1), (19, (vS A17 ((nrm n ps).length) c18))], [.c n.sv 26, .o (.slice A17 ((nrm n ps).length) c18) ((nrm n ps).length) ((nrm n ps).flatMap Nd.cells) 26 7]⟩) hle16 (PanOk.then PanOk.body) 5 rfl (by kernel_rfl) (by kernel_rfl) (by kernel_rfl) (by kernel_rfl) ((vS A17 ((nrm n ps).length) c18)) (by kernel_rfl) (fun _ _ => Val.ev rfl (by kernel_rfl) (by kernel_rfl)) (by kernel_rfl) #[true, true, true, true, true, true] (by kernel_rfl) ?_
    refine At.drawn_done (by kernel_rfl) ?_
    refine At.then_normal ?_
    refine At.ret_ ?_
    refine At.forget [1, 2, 15, 16, 17, 18, 19] 2 [0] ⟨fr 20 [(4, (vS A17 ((nrm n ps).length) c18))], [.dead, .o (.slice A17 ((nrm n ps).length) c18) ((nrm n ps).length) ((nrm n ps).flatMap Nd.cells) 26 7]⟩ (by kernel_rfl) (by kernel_rfl) (bleT rfl) ?_
    refine At.reorder [1] ⟨fr 20 [(4, (vS A17 ((nrm n ps).length) c18))], [.o (.slice A17 ((nrm n ps).length) c18) ((nrm n ps).length) ((nrm n ps).flatMap Nd.cells) 26 7]⟩ rfl (by kernel_rfl) (by kernel_rfl) (by kernel_rfl) (by decide) (by kernel_rfl) ?_
    refine At.leaveR rfl (A17, c18) (by kernel_rfl) (by kernel_rfl) (by kernel_rfl) ?_
    rw [hj1]; exact h19
  have hb1p : ¬ (n.kind = 9) := beq_eq_false_iff_ne.1 hb1
  refine At.cast (S' := ⟨fr 20 [(1, (vS B ps.length d)), (2, .p 0 0), (8, (vB false))], [.c n.sv 26]⟩) (by rw [hb1] <;> rfl) ?_
  refine At.runk 4 [8, 9, 10, 11] [] ⟨fr 20 [(1, (vS B ps.length d)), (2, .p 0 0), (12, (vB false))], [.c n.sv 26]⟩ (by kernel_rfl) ?_
  refine At.nil ?_
  refine At.then_normal ?_
  refine At.cond_f (by kernel_rfl) ?_
  refine At.skip ?_
  refine At.then_normal ?_
  refine At.seq ?_
  refine At.freezeC 0 [.int .i64 n.kind, .int .u64 n.s0, .int .u64 n.s1, .int .u64 n.s2, .int .u64 n.s3, .int .i64 n.mn, .int .i64 n.mx] rfl rfl (bleT rfl) (bleT rfl) (fun _ => by kernel_rfl) (fun _ => by kernel_rfl) ?_
  intro g22 Φ23 hle24 hB25
  have hP := hP.mono hle24
  have hG := hG.mono hle24
  refine ⟨⟨fr 20 [(1, (vS B ps.length d)), (2, (vP g22 0)), (12, (vB false))], [.dead]⟩, by kernel_rfl, ?_⟩
  refine At.forget [12] 0 [] ⟨fr 20 [(1, (vS B ps.length d)), (2, (vP g22 0))], []⟩ (by kernel_rfl) (by kernel_rfl) (bleT rfl) ?_
  refine At.region_draw (by kernel_rfl) 6 (by kernel_rfl) #[false, false, false, false, false, false] (by kernel_rfl) ?_
  have hPd := hP
  have hGd := hG
  have hB25d := hB25
  refine At.take (S' := ⟨fr 20 [(1, (vS B ps.length d)), (2, (vP g22 0)), (15, (vS B ps.length d))], []⟩) (PhiLe.refl 0 _) (PanOk.then PanOk.body) 0 rfl (by kernel_rfl) (by kernel_rfl) (by kernel_rfl) (by kernel_rfl) ((vS B ps.length d)) (by kernel_rfl) (fun _ _ => Val.ev rfl (by kernel_rfl) (by kernel_rfl)) (by kernel_rfl) #[true, false, false, false, false, false] (by kernel_rfl) ?_
  refine At.take (S' := ⟨fr 20 [(1, (vS B ps.length d)), (2, (vP g22 0)), (15, (vS B ps.length d)), (17, .agg n.sv)], []⟩) (PhiLe.refl 0 _) (PanOk.then PanOk.body) 2 rfl (by kernel_rfl) (by kernel_rfl) (by kernel_rfl) (by kernel_rfl) (.agg n.sv) (by kernel_rfl) (fun _ _ => Val.ldB rfl hB25d (Nat.zero_lt_succ _) 0 0 (by omega) (by kernel_rfl) (.agg n.sv) (by kernel_rfl)) (by kernel_rfl) #[true, false, true, false, false, false] (by kernel_rfl) ?_
  refine At.any2 1 3 (by kernel_rfl) rfl rfl #[true, true, true, false, false, false] #[true, false, true, true, false, false] (by kernel_rfl) (by kernel_rfl) ?_ ?_
  · refine At.callV rfl (by kernel_rfl) 48 [] [] (by kernel_rfl) Try.func48 (by kernel_rfl) (by kernel_rfl) [(vS B ps.length d)] (by kernel_rfl) (by kernel_rfl) (concat_c Φ23 ps B d hP hG hk hw hpl) ?_
    rintro Φ26 ⟨Ac, cc⟩ hle27 hcc
    have hP := hP.mono hle27
    have hG := hG.mono hle27
    have hB25 := hB25.mono hle27
    dsimp only at hcc
    have hjl := jn_len hk ps.length
    rw [jn_end (Nat.le_refl _)] at hjl
    refine ⟨⟨fr 20 [(1, (vS B ps.length d)), (2, (vP g22 0)), (15, (vS B ps.length d)), (16, (vS Ac ((jn ps).length) cc)), (17, .agg n.sv)], [.o (.slice Ac ((jn ps).length) cc) ((jn ps).length) ((jn ps).flatMap Nd.cells) 26 7]⟩, by kernel_rfl, by kernel_rfl, ?_⟩
    refine At.nil ?_
    refine At.then_normal ?_
    refine At.held hle27 ?_
    refine At.any1 3 (by kernel_rfl) rfl #[true, true, true, true, false, false] (by kernel_rfl) ?_
    refine At.runk 1 [] [] ⟨fr 20 [(1, (vS B ps.length d)), (2, (vP g22 0)), (15, (vS B ps.length d)), (16, (vS Ac ((jn ps).length) cc)), (17, .agg n.sv), (18, .s 1 0 1 1)], [.o (.slice Ac ((jn ps).length) cc) ((jn ps).length) ((jn ps).flatMap Nd.cells) 26 7, .c n.sv 26]⟩ (by kernel_rfl) ?_
    refine At.nil ?_
    refine At.then_normal ?_
    refine At.held hle27 ?_
    refine At.any1 4 (by kernel_rfl) rfl #[true, true, true, true, true, false] (by kernel_rfl) ?_
    refine At.append rfl (by kernel_rfl) (e := 26) (inf := Try.t26) (sz := 7) (by kernel_rfl) (by kernel_rfl) rfl rfl rfl (Nat.zero_lt_succ _) 0 (V := .slice Ac ((jn ps).length) cc) (n := (jn ps).length) (xs := ((jn ps).flatMap Nd.cells)) (by kernel_rfl) (by kernel_rfl) 1 [.int .i64 n.kind, .int .u64 n.s0, .int .u64 n.s1, .int .u64 n.s2, .int .u64 n.s3, .int .i64 n.mn, .int .i64 n.mx] (Src.cells (i := 1) (off := 0) (m := 1) (c := 1) (cs := n.sv) (e := 26) (by kernel_rfl) (by kernel_rfl) (src_lits _ _ (by kernel_rfl))) (rfl) (one_lits _ (by kernel_rfl)) (by unfold maxLen; omega) (by show ((jn ps).length + 1) * 56 ≤ _; omega) ?_
    intro A28 c29 h30 h31 h32
    refine ⟨⟨fr 20 [(1, (vS B ps.length d)), (2, (vP g22 0)), (15, (vS B ps.length d)), (16, (vS Ac ((jn ps).length) cc)), (17, .agg n.sv), (18, .s 1 0 1 1), (19, (vS A28 ((jn ps).length + 1) c29))], [.o (.slice A28 ((jn ps).length + 1) c29) ((jn ps).length + 1) (((jn ps).flatMap Nd.cells) ++ [.int .i64 n.kind, .int .u64 n.s0, .int .u64 n.s1, .int .u64 n.s2, .int .u64 n.s3, .int .i64 n.mn, .int .i64 n.mx]) 26 7, .c n.sv 26]⟩, by kernel_rfl, ?_⟩
    have hnr : nrm n ps = jn ps ++ [n] := nrm_f (by omega)
    have hj1 : (nrm n ps).length = ((jn ps).length + 1) := by rw [hnr, List.length_append]; rfl
    have hj2 : (nrm n ps).flatMap Nd.cells = (((jn ps).flatMap Nd.cells) ++ [.int .i64 n.kind, .int .u64 n.s0, .int .u64 n.s1, .int .u64 n.s2, .int .u64 n.s3, .int .i64 n.mn, .int .i64 n.mx]) := by rw [hnr, nds_append]; rfl
    refine At.cast (S' := ⟨fr 20 [(1, (vS B ps.length d)), (2, (vP g22 0)), (15, (vS B ps.length d)), (16, (vS Ac ((jn ps).length) cc)), (17, .agg n.sv), (18, .s 1 0 1 1), (19, (vS A28 ((nrm n ps).length) c29))], [.o (.slice A28 ((nrm n ps).length) c29) ((nrm n ps).length) ((nrm n ps).flatMap Nd.cells) 26 7, .c n.sv 26]⟩) (by rw [hj1, hj2]) ?_
    refine At.nil ?_
    refine At.then_normal ?_
    refine At.held hle27 ?_
    refine At.take (S' := ⟨fr 20 [(1, (vS B ps.length d)), (2, (vP g22 0)), (4, (vS A28 ((nrm n ps).length) c29)), (15, (vS B ps.length d)), (16, (vS Ac ((jn ps).length) cc)), (17, .agg n.sv), (18, .s 1 0 1 1), (19, (vS A28 ((nrm n ps).length) c29))], [.o (.slice A28 ((nrm n ps).length) c29) ((nrm n ps).length) ((nrm n ps).flatMap Nd.cells) 26 7, .c n.sv 26]⟩) hle27 (PanOk.then PanOk.body) 5 rfl (by kernel_rfl) (by kernel_rfl) (by kernel_rfl) (by kernel_rfl) ((vS A28 ((nrm n ps).length) c29)) (by kernel_rfl) (fun _ _ => Val.ev rfl (by kernel_rfl) (by kernel_rfl)) (by kernel_rfl) #[true, true, true, true, true, true] (by kernel_rfl) ?_
    refine At.drawn_done (by kernel_rfl) ?_
    refine At.then_normal ?_
    refine At.ret_ ?_
    refine At.forget [1, 2, 15, 16, 17, 18, 19] 1 [] ⟨fr 20 [(4, (vS A28 ((nrm n ps).length) c29))], [.o (.slice A28 ((nrm n ps).length) c29) ((nrm n ps).length) ((nrm n ps).flatMap Nd.cells) 26 7]⟩ (by kernel_rfl) (by kernel_rfl) (bleT rfl) ?_
    refine At.leaveR rfl (A28, c29) (by kernel_rfl) (by kernel_rfl) (by kernel_rfl) ?_
    rw [hj1]; exact h30
  refine At.runk 1 [] [] ⟨fr 20 [(1, (vS B ps.length d)), (2, (vP g22 0)), (15, (vS B ps.length d)), (17, .agg n.sv), (18, .s 0 0 1 1)], [.c n.sv 26]⟩ (by kernel_rfl) ?_
  refine At.nil ?_
  refine At.then_normal ?_
  refine At.held (PhiLe.refl 0 _) ?_
  refine At.any1 1 (by kernel_rfl) rfl #[true, true, true, true, false, false] (by kernel_rfl) ?_
  refine At.callV rfl (by kernel_rfl) 48 [] [] (by kernel_rfl) Try.func48 (by kernel_rfl) (by kernel_rfl) [(vS B ps.length d)] (by kernel_rfl) (by kernel_rfl) (concat_c Φ23 ps B d hP hG hk hw hpl) ?_
  rintro Φ33 ⟨Ac, cc⟩ hle34 hcc
  have hP := hP.mono hle34
  have hG := hG.mono hle34
  have hB25 := hB25.mono hle34
  dsimp only at hcc
  have hjl := jn_len hk ps.length
  rw [jn_end (Nat.le_refl _)] at hjl
  refine ⟨⟨fr 20 [(1, (vS B ps.length d)), (2, (vP g22 0)), (15, (vS B ps.length d)), (16, (vS Ac ((jn ps).length) cc)), (17, .agg n.sv), (18, .s 0 0 1 1)], [.c n.sv 26, .o (.slice Ac ((jn ps).length) cc) ((jn ps).length) ((jn ps).flatMap Nd.cells) 26 7]⟩, by kernel_rfl, by kernel_rfl, ?_⟩
  refine At.nil ?_
  refine At.then_normal ?_
  refine At.held hle34 ?_
  refine At.any1 4 (by kernel_rfl) rfl #[true, true, true, true, true, false] (by kernel_rfl) ?_
  refine At.append rfl (by kernel_rfl) (e := 26) (inf := Try.t26) (sz := 7) (by kernel_rfl) (by kernel_rfl) rfl rfl rfl (Nat.zero_lt_succ _) 1 (V := .slice Ac ((jn ps).length) cc) (n := (jn ps).length) (xs := ((jn ps).flatMap Nd.cells)) (by kernel_rfl) (by kernel_rfl) 1 [.int .i64 n.kind, .int .u64 n.s0, .int .u64 n.s1, .int .u64 n.s2, .int .u64 n.s3, .int .i64 n.mn, .int .i64 n.mx] (Src.cells (i := 0) (off := 0) (m := 1) (c := 1) (cs := n.sv) (e := 26) (by kernel_rfl) (by kernel_rfl) (src_lits _ _ (by kernel_rfl))) (rfl) (one_lits _ (by kernel_rfl)) (by unfold maxLen; omega) (by show ((jn ps).length + 1) * 56 ≤ _; omega) ?_
  intro A35 c36 h37 h38 h39
  refine ⟨⟨fr 20 [(1, (vS B ps.length d)), (2, (vP g22 0)), (15, (vS B ps.length d)), (16, (vS Ac ((jn ps).length) cc)), (17, .agg n.sv), (18, .s 0 0 1 1), (19, (vS A35 ((jn ps).length + 1) c36))], [.c n.sv 26, .o (.slice A35 ((jn ps).length + 1) c36) ((jn ps).length + 1) (((jn ps).flatMap Nd.cells) ++ [.int .i64 n.kind, .int .u64 n.s0, .int .u64 n.s1, .int .u64 n.s2, .int .u64 n.s3, .int .i64 n.mn, .int .i64 n.mx]) 26 7]⟩, by kernel_rfl, ?_⟩
  have hnr : nrm n ps = jn ps ++ [n] := nrm_f (by omega)
  have hj1 : (nrm n ps).length = ((jn ps).length + 1) := by rw [hnr, List.length_append]; rfl
  have hj2 : (nrm n ps).flatMap Nd.cells = (((jn ps).flatMap Nd.cells) ++ [.int .i64 n.kind, .int .u64 n.s0, .int .u64 n.s1, .int .u64 n.s2, .int .u64 n.s3, .int .i64 n.mn, .int .i64 n.mx]) := by rw [hnr, nds_append]; rfl
  refine At.cast (S' := ⟨fr 20 [(1, (vS B ps.length d)), (2, (vP g22 0)), (15, (vS B ps.length d)), (16, (vS Ac ((jn ps).length) cc)), (17, .agg n.sv), (18, .s 0 0 1 1), (19, (vS A35 ((nrm n ps).length) c36))], [.c n.sv 26, .o (.slice A35 ((nrm n ps).length) c36) ((nrm n ps).length) ((nrm n ps).flatMap Nd.cells) 26 7]⟩) (by rw [hj1, hj2]) ?_
  refine At.nil ?_
  refine At.then_normal ?_
  refine At.held hle34 ?_
  refine At.take (S' := ⟨fr 20 [(1, (vS B ps.length d)), (2, (vP g22 0)), (4, (vS A35 ((nrm n ps).length) c36)), (15, (vS B ps.length d)), (16, (vS Ac ((jn ps).length) cc)), (17, .agg n.sv), (18, .s 0 0 1 1), (19, (vS A35 ((nrm n ps).length) c36))], [.c n.sv 26, .o (.slice A35 ((nrm n ps).length) c36) ((nrm n ps).length) ((nrm n ps).flatMap Nd.cells) 26 7]⟩) hle34 (PanOk.then PanOk.body) 5 rfl (by kernel_rfl) (by kernel_rfl) (by kernel_rfl) (by kernel_rfl) ((vS A35 ((nrm n ps).length) c36)) (by kernel_rfl) (fun _ _ => Val.ev rfl (by kernel_rfl) (by kernel_rfl)) (by kernel_rfl) #[true, true, true, true, true, true] (by kernel_rfl) ?_
  refine At.drawn_done (by kernel_rfl) ?_
  refine At.then_normal ?_
  refine At.ret_ ?_
  refine At.forget [1, 2, 15, 16, 17, 18, 19] 2 [0] ⟨fr 20 [(4, (vS A35 ((nrm n ps).length) c36))], [.dead, .o (.slice A35 ((nrm n ps).length) c36) ((nrm n ps).length) ((nrm n ps).flatMap Nd.cells) 26 7]⟩ (by kernel_rfl) (by kernel_rfl) (bleT rfl) ?_
  refine At.reorder [1] ⟨fr 20 [(4, (vS A35 ((nrm n ps).length) c36))], [.o (.slice A35 ((nrm n ps).length) c36) ((nrm n ps).length) ((nrm n ps).flatMap Nd.cells) 26 7]⟩ rfl (by kernel_rfl) (by kernel_rfl) (by kernel_rfl) (by decide) (by kernel_rfl) ?_
  refine At.leaveR rfl (A35, c36) (by kernel_rfl) (by kernel_rfl) (by kernel_rfl) ?_
  rw [hj1]; exact h37

theorem fold_rx_c (Φ : Phi) (g0 g1 : Nat) (nds : List Nd) (A : Option Addr) (c : Nat) (hR : NdsAt Φ A nds) (hl : nds.length ≤ 1000000) (ndsw : ∀ n ∈ nds, n.wf) (hl1 : nds.length ≤ 1000) (hok : chk nds 0 0 = none) (hB0 : RdC Φ (aS g0 0) [.slice A nds.length c]) (hB1 : RdC Φ (aS g1 0) [.func (.func 47) #[] #[]])  : CallR Try.prog 73 [(vP g0 0), (vP g1 0)] [] Φ (Option Addr × Nat) (fun t => (vS t.1 (foldR nrmk nds).length t.2)) (fun _ => []) (fun t Φ => NdsAt Φ t.1 (foldR nrmk nds) ∧ (foldR nrmk nds).length ≤ 1000 ∧ ∀ m ∈ (foldR nrmk nds), m.wf) := by
  refine CallG.enterk Try.func73 rfl [2, 3, 4, 5, 6, 7, 8, 9, 10, 11, 12, 13, 14, 15, 16, 17, 18, 19, 20, 21, 22, 23, 24, 25, 26, 27, 28, 29, 30, 31, 32, 33, 34, 35, 36, 37, 38, 39, 40, 41, 42, 43, 44, 45] ⟨fr 46 [(0, (vP g0 0)), (1, (vP g1 0))], []⟩ (by kernel_rfl) (by kernel_rfl) ?_
  intro E G β0
  refine At.seq ?_
  refine At.region ?_
  refine At.runk 1 [2] [] ⟨fr 46 [(0, (vP g0 0)), (1, (vP g1 0))], []⟩ (by kernel_rfl) ?_
  refine At.nil ?_
  refine At.then_normal ?_
  refine At.seq ?_
  refine At.region ?_
  refine At.runk 1 [] [] ⟨fr 46 [(0, (vP g0 0)), (1, (vP g1 0)), (3, (vS none 0 0))], []⟩ (by kernel_rfl) ?_
  refine At.nilrow 30 1 ⟨fr 46 [(0, (vP g0 0)), (1, (vP g1 0)), (3, (vS none 0 0))], [.o (.slice none 0 0) 0 [] 30 1]⟩ (by kernel_rfl) (by kernel_rfl) ?_
  refine At.nil ?_
  refine At.then_normal ?_
  refine At.seq ?_
  refine At.seq ?_
  refine At.region ?_
  refine At.vals (S' := ⟨fr 46 [(0, (vP g0 0)), (1, (vP g1 0)), (3, (vS none 0 0)), (10, (vS A nds.length c))], [.o (.slice none 0 0) 0 [] 30 1]⟩) (by kernel_rfl) ((vS A nds.length c)) (by kernel_rfl) (Val.ldB rfl hB0 (Nat.zero_lt_succ _) 0 0 (by omega) (by kernel_rfl) ((vS A nds.length c)) (by kernel_rfl)) ?_
  refine At.callV rfl (by kernel_rfl) 43 [] [] (by kernel_rfl) Try.func43 (by kernel_rfl) (by kernel_rfl) [(vS A nds.length c)] (by kernel_rfl) (by kernel_rfl) (of_ok Φ nds A c hR hl ndsw hok) ?_
  rintro Φ3 gT1 hle4 hT2
  have hR := hR.mono hle4
  have hB0 := hB0.mono hle4
  have hB1 := hB1.mono hle4
  refine ⟨⟨fr 46 [(0, (vP g0 0)), (1, (vP g1 0)), (3, (vS none 0 0)), (10, (vS A nds.length c)), (11, (vP gT1 0))], [.o (.slice none 0 0) 0 [] 30 1]⟩, by kernel_rfl, by kernel_rfl, ?_⟩
  refine At.runk 2 [0, 10, 11, 12] [] ⟨fr 46 [(1, (vP g1 0)), (3, (vS none 0 0)), (13, (vP gT1 0))], [.o (.slice none 0 0) 0 [] 30 1]⟩ (by kernel_rfl) ?_
  refine At.vals (S' := ⟨fr 46 [(1, (vP g1 0)), (3, (vS none 0 0)), (13, (vP gT1 0)), (14, (vS A nds.length c))], [.o (.slice none 0 0) 0 [] 30 1]⟩) (by kernel_rfl) ((vS A nds.length c)) (by kernel_rfl) (Val.ldB rfl hT2 (Nat.zero_lt_succ _) 0 0 (by omega) (by kernel_rfl) ((vS A nds.length c)) (by kernel_rfl)) ?_
  refine At.runk 2 [13] [] ⟨fr 46 [(1, (vP g1 0)), (3, (vS none 0 0)), (14, (vS A nds.length c)), (15, (vI (nds.length : Int))), (16, (vI 0))], [.o (.slice none 0 0) 0 [] 30 1]⟩ (by kernel_rfl) ?_
  refine At.nil ?_
  refine At.then_normal ?_
  refine At.block ?_
  refine At.loop (T := Nat × List Pt × Option Addr × Nat) (fun x => ⟨fr 46 [(1, (vP g1 0)), (3, (vS x.2.2.1 x.2.1.length x.2.2.2)), (14, (vS A nds.length c)), (15, (vI (nds.length : Int))), (16, (vI (x.1 : Int)))], [.o (.slice x.2.2.1 x.2.1.length x.2.2.2) x.2.1.length (x.2.1.flatMap Pt.enc) 30 1]⟩) (fun x Φ => x.1 ≤ nds.length ∧ x.2.1.length ≤ x.1 ∧ chk (nds.drop x.1) (x.2.1.length : Int) x.1 = none ∧ foldS nrmk (nds.drop x.1) (x.2.1.map Pt.nds) = foldS nrmk nds [] ∧ (Pts Φ x.2.1 ∧ (jn x.2.1).length ≤ x.1 ∧ ∀ p ∈ x.2.1, ∀ m ∈ p.nds, m.wf) ∧ x.2.1.length ≤ x.2.2.2) (fun x => nds.length - x.1) (0, [], none, 0) (by kernel_rfl) ⟨Nat.zero_le _, Nat.le_refl _, hok, rfl, ⟨(fun p h => by cases h), Nat.le_refl _, (fun p h => by cases h)⟩, Nat.le_refl _⟩ ?_
  rintro ⟨i, st, As, cs⟩ Φ5 hle6 hF
  have hR := hR.mono hle6
  have hB0 := hB0.mono hle6
  have hB1 := hB1.mono hle6
  have hT2 := hT2.mono hle6
  refine At.cast (S' := ⟨fr 46 [(1, (vP g1 0)), (3, (vS As st.length cs)), (14, (vS A nds.length c)), (15, (vI (nds.length : Int))), (16, (vI (i : Int)))], [.o (.slice As st.length cs) st.length (st.flatMap Pt.enc) 30 1]⟩) (by kernel_rfl) ?_
  dsimp only at hF
  have hF1 := hF.1
  have hF2 := hF.2.1
  have hF6 := hF.2.2.2.2.2
  have hPs := hF.2.2.2.2.1.1
  have hJ := hF.2.2.2.2.1.2.1
  have hW := hF.2.2.2.2.1.2.2
  refine At.seq ?_
  refine At.region ?_
  refine At.runk 1 [] [] ⟨fr 46 [(1, (vP g1 0)), (3, (vS As st.length cs)), (14, (vS A nds.length c)), (15, (vI (nds.length : Int))), (16, (vI (i : Int))), (17, (vB (decide ((i : Int) < (nds.length : Int)))))], [.o (.slice As st.length cs) st.length (st.flatMap Pt.enc) 30 1]⟩ (by kernel_rfl) ?_
  refine At.nil ?_
  refine At.then_normal ?_
  refine At.seq ?_
  refine At.bcase (decide ((i : Int) < (nds.length : Int))) (fun hb7 => ?_) (fun hb7 => ?_)
  · have hb7p : ((i : Int) < (nds.length : Int)) := of_decide_eq_true hb7
    refine At.cast (S' := ⟨fr 46 [(1, (vP g1 0)), (3, (vS As st.length cs)), (14, (vS A nds.length c)), (15, (vI (nds.length : Int))), (16, (vI (i : Int))), (17, (vB true))], [.o (.slice As st.length cs) st.length (st.flatMap Pt.enc) 30 1]⟩) (by rw [hb7] <;> rfl) ?_
    refine At.cond_t (by kernel_rfl) ?_
    refine At.skip ?_
    refine At.then_normal ?_
    refine At.seq ?_
    refine At.block ?_
    refine At.seq ?_
    refine At.region ?_
    obtain ⟨b8, off9, hAeq⟩ : ∃ b off, A = some ⟨b, off, none⟩ := hR.addr (by exact nds_pos (by omega))
    subst hAeq
    refine At.idx (S' := ⟨fr 46 [(1, (vP g1 0)), (3, (vS As st.length cs)), (14, (vS (aS b8 off9) nds.length c)), (15, (vI (nds.length : Int))), (16, (vI (i : Int))), (17, (vB true)), (18, .v (.pointer (some ⟨b8, off9 + i * 7, none⟩)))], [.o (.slice As st.length cs) st.length (st.flatMap Pt.enc) 30 1]⟩) rfl (by kernel_rfl) (sz := 7) (e := 26) (by kernel_rfl) (by kernel_rfl) (by kernel_rfl) (b := b8) (off := off9) (n := nds.length) (cap := c) (kd := .i64) (i := (i : Int)) (by kernel_rfl) (by omega) (by omega) (by kernel_rfl) ?_
    obtain ⟨e10, he11⟩ := get_some (l := nds) (i := i) (by omega)
    have e10w := ndsw e10 (List.mem_of_getElem? he11)
    obtain ⟨e10m, e10a, e10c⟩ := chk_none he11 hF.2.2.1
    refine At.vals (S' := ⟨fr 46 [(1, (vP g1 0)), (3, (vS As st.length cs)), (14, (vS (aS b8 off9) nds.length c)), (15, (vI (nds.length : Int))), (16, (vI (i : Int))), (17, (vB true)), (18, .v (.pointer (some ⟨b8, off9 + i * 7, none⟩))), (19, .agg e10.sv)], [.o (.slice As st.length cs) st.length (st.flatMap Pt.enc) 30 1]⟩) (by kernel_rfl) (.agg e10.sv) (by kernel_rfl) (Val.ldE rfl (enc := Nd.cells) (xs := nds) (b := b8) (off := off9) hR (sz := 7) (fun _ => rfl) (Nat.zero_lt_succ _) i e10 he11 0 (off9 + i * 7) (by omega) (by kernel_rfl) (.agg e10.sv) (by kernel_rfl)) ?_
    refine At.runk 2 [17, 18, 19] [] ⟨fr 46 [(1, (vP g1 0)), (3, (vS As st.length cs)), (5, .p 1 0), (14, (vS (aS b8 off9) nds.length c)), (15, (vI (nds.length : Int))), (16, (vI (i : Int)))], [.o (.slice As st.length cs) st.length (st.flatMap Pt.enc) 30 1, .c e10.sv 26]⟩ (by kernel_rfl) ?_
    refine At.nil ?_
    refine At.then_normal ?_
    refine At.seq ?_
    refine At.region ?_
    refine At.runk 1 [] [] ⟨fr 46 [(1, (vP g1 0)), (3, (vS As st.length cs)), (5, .p 1 0), (14, (vS (aS b8 off9) nds.length c)), (15, (vI (nds.length : Int))), (16, (vI (i : Int))), (21, .agg e10.sv)], [.o (.slice As st.length cs) st.length (st.flatMap Pt.enc) 30 1, .c e10.sv 26]⟩ (by kernel_rfl) ?_
    refine At.callV rfl (by kernel_rfl) 44 [] [] (by kernel_rfl) Try.func44 (by kernel_rfl) (by kernel_rfl) [.agg e10.sv] (by kernel_rfl) (by kernel_rfl) (known_t Φ5 e10 e10w e10m) ?_
    rintro Φ12 _ hle13 rfl
    have hR := hR.mono hle13
    have hB0 := hB0.mono hle13
    have hB1 := hB1.mono hle13
    have hT2 := hT2.mono hle13
    have hPs := hPs.mono hle13
    have hal := ar_le e10
    refine ⟨⟨fr 46 [(1, (vP g1 0)), (3, (vS As st.length cs)), (5, .p 1 0), (14, (vS (aS b8 off9) nds.length c)), (15, (vI (nds.length : Int))), (16, (vI (i : Int))), (21, .agg e10.sv), (22, .tup [.agg [(vI (ar e10 : Int)), .v (.func (.func (mayN e10.kind)) #[] #[]), .v (.func (.func (nulN e10.kind)) #[] #[])], (vB true)])], [.o (.slice As st.length cs) st.length (st.flatMap Pt.enc) 30 1, .c e10.sv 26]⟩, by kernel_rfl, by kernel_rfl, ?_⟩
    refine At.runk 6 [7, 20, 21, 22, 23, 24] [] ⟨fr 46 [(1, (vP g1 0)), (3, (vS As st.length cs)), (5, .p 1 0), (6, .p 2 0), (14, (vS (aS b8 off9) nds.length c)), (15, (vI (nds.length : Int))), (16, (vI (i : Int)))], [.o (.slice As st.length cs) st.length (st.flatMap Pt.enc) 30 1, .c e10.sv 26, .c [(vI (ar e10 : Int)), .v (.func (.func (mayN e10.kind)) #[] #[]), .v (.func (.func (nulN e10.kind)) #[] #[])] 76]⟩ (by kernel_rfl) ?_
    refine At.nil ?_
    refine At.then_normal ?_
    refine At.seq ?_
    refine At.region ?_
    refine At.runk 5 [6, 25, 26, 27, 28] [2] ⟨fr 46 [(1, (vP g1 0)), (3, (vS As st.length cs)), (5, .p 1 0), (14, (vS (aS b8 off9) nds.length c)), (15, (vI (nds.length : Int))), (16, (vI (i : Int))), (29, (vI (IntKind.i64.wrap ((st.length : Int) - (ar e10 : Int)))))], [.o (.slice As st.length cs) st.length (st.flatMap Pt.enc) 30 1, .c e10.sv 26, .dead]⟩ (by kernel_rfl) ?_
    refine At.cast (S' := ⟨fr 46 [(1, (vP g1 0)), (3, (vS As st.length cs)), (5, .p 1 0), (14, (vS (aS b8 off9) nds.length c)), (15, (vI (nds.length : Int))), (16, (vI (i : Int))), (29, (vI ((st.length : Int) - (ar e10 : Int))))], [.o (.slice As st.length cs) st.length (st.flatMap Pt.enc) 30 1, .c e10.sv 26, .dead]⟩) (by rw [wrapI (z := (st.length : Int) - (ar e10 : Int)) (by omega) (by omega)]) ?_
    refine At.runk 1 [29] [] ⟨fr 46 [(1, (vP g1 0)), (3, (vS As st.length cs)), (5, .p 1 0), (8, (vI ((st.length : Int) - (ar e10 : Int)))), (14, (vS (aS b8 off9) nds.length c)), (15, (vI (nds.length : Int))), (16, (vI (i : Int)))], [.o (.slice As st.length cs) st.length (st.flatMap Pt.enc) 30 1, .c e10.sv 26, .dead]⟩ (by kernel_rfl) ?_
    refine At.cast (S' := ⟨fr 46 [(1, (vP g1 0)), (3, (vS As st.length cs)), (5, .p 1 0), (8, (vI ((st.length - ar e10 : Nat) : Int))), (14, (vS (aS b8 off9) nds.length c)), (15, (vI (nds.length : Int))), (16, (vI (i : Int)))], [.o (.slice As st.length cs) st.length (st.flatMap Pt.enc) 30 1, .c e10.sv 26, .dead]⟩) (by rw [show ((st.length : Int) - (ar e10 : Int)) = (((st.length - ar e10 : Nat) : Nat) : Int) from by omega]) ?_
    refine At.nil ?_
    refine At.then_normal ?_
    refine At.seq ?_
    refine At.freezeC 1 [.int .i64 e10.kind, .int .u64 e10.s0, .int .u64 e10.s1, .int .u64 e10.s2, .int .u64 e10.s3, .int .i64 e10.mn, .int .i64 e10.mx] rfl rfl (bleT rfl) (bleT rfl) (fun _ => by kernel_rfl) (fun _ => by kernel_rfl) ?_
    intro g14 Φ15 hle16 hB17
    have hR := hR.mono hle16
    have hB0 := hB0.mono hle16
    have hB1 := hB1.mono hle16
    have hT2 := hT2.mono hle16
    have hPs := hPs.mono hle16
    refine ⟨⟨fr 46 [(1, (vP g1 0)), (3, (vS As st.length cs)), (5, (vP g14 0)), (8, (vI ((st.length - ar e10 : Nat) : Int))), (14, (vS (aS b8 off9) nds.length c)), (15, (vI (nds.length : Int))), (16, (vI (i : Int)))], [.o (.slice As st.length cs) st.length (st.flatMap Pt.enc) 30 1, .dead, .dead]⟩, by kernel_rfl, ?_⟩
    refine At.forget [] 1 [] ⟨fr 46 [(1, (vP g1 0)), (3, (vS As st.length cs)), (5, (vP g14 0)), (8, (vI ((st.length - ar e10 : Nat) : Int))), (14, (vS (aS b8 off9) nds.length c)), (15, (vI (nds.length : Int))), (16, (vI (i : Int)))], [.o (.slice As st.length cs) st.length (st.flatMap Pt.enc) 30 1]⟩ (by kernel_rfl) (by kernel_rfl) (bleT rfl) ?_
    refine At.region_draw (by kernel_rfl) 7 (by kernel_rfl) #[false, false, false, false, false, false, false] (by kernel_rfl) ?_
    have hRd := hR
    have hB0d := hB0
    have hB1d := hB1
    have hT2d := hT2
    have hPsd := hPs
    have hB17d := hB17
    refine At.take (S' := ⟨fr 46 [(1, (vP g1 0)), (3, (vS As st.length cs)), (5, (vP g14 0)), (8, (vI ((st.length - ar e10 : Nat) : Int))), (14, (vS (aS b8 off9) nds.length c)), (15, (vI (nds.length : Int))), (16, (vI (i : Int))), (30, (vF 47))], [.o (.slice As st.length cs) st.length (st.flatMap Pt.enc) 30 1]⟩) (PhiLe.refl 0 _) (PanOk.then (PanOk.inBlock (PanOk.then (PanOk.then (PanOk.inBlock (PanOk.then PanOk.body)))))) 0 rfl (by kernel_rfl) (by kernel_rfl) (by kernel_rfl) (by kernel_rfl) ((vF 47)) (by kernel_rfl) (fun _ _ => Val.ldB rfl hB1d (Nat.zero_lt_succ _) 0 0 (by omega) (by kernel_rfl) ((vF 47)) (by kernel_rfl)) (by kernel_rfl) #[true, false, false, false, false, false, false] (by kernel_rfl) ?_
    refine At.take (S' := ⟨fr 46 [(1, (vP g1 0)), (3, (vS As st.length cs)), (5, (vP g14 0)), (8, (vI ((st.length - ar e10 : Nat) : Int))), (14, (vS (aS b8 off9) nds.length c)), (15, (vI (nds.length : Int))), (16, (vI (i : Int))), (30, (vF 47)), (31, .agg e10.sv)], [.o (.slice As st.length cs) st.length (st.flatMap Pt.enc) 30 1]⟩) (PhiLe.refl 0 _) (PanOk.then (PanOk.inBlock (PanOk.then (PanOk.then (PanOk.inBlock (PanOk.then PanOk.body)))))) 1 rfl (by kernel_rfl) (by kernel_rfl) (by kernel_rfl) (by kernel_rfl) (.agg e10.sv) (by kernel_rfl) (fun _ _ => Val.ldB rfl hB17d (Nat.zero_lt_succ _) 0 0 (by omega) (by kernel_rfl) (.agg e10.sv) (by kernel_rfl)) (by kernel_rfl) #[true, true, false, false, false, false, false] (by kernel_rfl) ?_
    refine At.take (S' := ⟨fr 46 [(1, (vP g1 0)), (3, (vS As st.length cs)), (5, (vP g14 0)), (8, (vI ((st.length - ar e10 : Nat) : Int))), (14, (vS (aS b8 off9) nds.length c)), (15, (vI (nds.length : Int))), (16, (vI (i : Int))), (30, (vF 47)), (31, .agg e10.sv), (32, (vS As st.length cs))], [.o (.slice As st.length cs) st.length (st.flatMap Pt.enc) 30 1]⟩) (PhiLe.refl 0 _) (PanOk.then (PanOk.inBlock (PanOk.then (PanOk.then (PanOk.inBlock (PanOk.then PanOk.body)))))) 2 rfl (by kernel_rfl) (by kernel_rfl) (by kernel_rfl) (by kernel_rfl) ((vS As st.length cs)) (by kernel_rfl) (fun _ _ => Val.ev rfl (by kernel_rfl) (by kernel_rfl)) (by kernel_rfl) #[true, true, true, false, false, false, false] (by kernel_rfl) ?_
    refine At.take (S' := ⟨fr 46 [(1, (vP g1 0)), (3, (vS As st.length cs)), (5, (vP g14 0)), (8, (vI ((st.length - ar e10 : Nat) : Int))), (14, (vS (aS b8 off9) nds.length c)), (15, (vI (nds.length : Int))), (16, (vI (i : Int))), (30, (vF 47)), (31, .agg e10.sv), (32, (vS As st.length cs)), (33, (vI ((st.length - ar e10 : Nat) : Int)))], [.o (.slice As st.length cs) st.length (st.flatMap Pt.enc) 30 1]⟩) (PhiLe.refl 0 _) (PanOk.then (PanOk.inBlock (PanOk.then (PanOk.then (PanOk.inBlock (PanOk.then PanOk.body)))))) 3 rfl (by kernel_rfl) (by kernel_rfl) (by kernel_rfl) (by kernel_rfl) ((vI ((st.length - ar e10 : Nat) : Int))) (by kernel_rfl) (fun _ _ => Val.ev rfl (by kernel_rfl) (by kernel_rfl)) (by kernel_rfl) #[true, true, true, true, false, false, false] (by kernel_rfl) ?_
    refine At.any1 4 (by kernel_rfl) rfl #[true, true, true, true, true, false, false] (by kernel_rfl) ?_
    refine At.slice rfl (by kernel_rfl) (e := 30) (by kernel_rfl) (sz := 1) (by kernel_rfl) (A := As) (n := st.length) (c := cs) (by kernel_rfl) (st.length - ar e10 : Nat) st.length cs ⟨.i64, by kernel_rfl⟩ ⟨rfl, rfl⟩ rfl (by omega) hF6 (Nat.le_refl _) ?_
    intro A18 hA19 hA20
    refine ⟨⟨fr 46 [(1, (vP g1 0)), (3, (vS As st.length cs)), (5, (vP g14 0)), (8, (vI ((st.length - ar e10 : Nat) : Int))), (14, (vS (aS b8 off9) nds.length c)), (15, (vI (nds.length : Int))), (16, (vI (i : Int))), (30, (vF 47)), (31, .agg e10.sv), (32, (vS As st.length cs)), (33, (vI ((st.length - ar e10 : Nat) : Int))), (34, (vS A18 (st.length - (st.length - ar e10 : Nat)) (cs - (st.length - ar e10 : Nat))))], [.o (.slice As st.length cs) st.length (st.flatMap Pt.enc) 30 1]⟩, by kernel_rfl, ?_⟩
    refine At.cast (S' := ⟨fr 46 [(1, (vP g1 0)), (3, (vS As st.length cs)), (5, (vP g14 0)), (8, (vI ((st.length - ar e10 : Nat) : Int))), (14, (vS (aS b8 off9) nds.length c)), (15, (vI (nds.length : Int))), (16, (vI (i : Int))), (30, (vF 47)), (31, .agg e10.sv), (32, (vS As st.length cs)), (33, (vI ((st.length - ar e10 : Nat) : Int))), (34, (vS A18 ((st.drop (st.length - ar e10 : Nat)).length) (cs - (st.length - ar e10 : Nat))))], [.o (.slice As st.length cs) st.length (st.flatMap Pt.enc) 30 1]⟩) (by rw [List.length_drop]) ?_
    refine At.nil ?_
    refine At.then_normal ?_
    refine At.held (PhiLe.refl 0 _) ?_
    refine At.any1 5 (by kernel_rfl) rfl #[true, true, true, true, true, true, false] (by kernel_rfl) ?_
    refine At.callT rfl (by kernel_rfl) 47 [] [] (by kernel_rfl) Try.func47 (by kernel_rfl) (by kernel_rfl) [.agg e10.sv, (vS A18 ((st.drop (st.length - ar e10 : Nat)).length) (cs - (st.length - ar e10 : Nat)))] (by kernel_rfl) (by kernel_rfl) (fun Φp hlp hrp => norm1_c Φp e10 (st.drop (st.length - ar e10 : Nat)) A18 (cs - (st.length - ar e10 : Nat)) (row_drop (enc := Pt.enc) (sz := 1) (fun _ => rfl) hF6 hA20 (hrp 0 As st.length cs (st.flatMap Pt.enc) 30 1 (by kernel_rfl))) (fun p hp => (hPs p (List.mem_of_mem_drop hp)).mono hlp) (fun p hp => by have := jn_mem_le (List.mem_of_mem_drop hp); omega) (fun p hp => hW p (List.mem_of_mem_drop hp)) (by rw [List.length_drop]; omega)) ?_
    rintro ⟨An, cn⟩ hcn
    refine ⟨⟨fr 46 [(1, (vP g1 0)), (3, (vS As st.length cs)), (5, (vP g14 0)), (8, (vI ((st.length - ar e10 : Nat) : Int))), (14, (vS (aS b8 off9) nds.length c)), (15, (vI (nds.length : Int))), (16, (vI (i : Int))), (30, (vF 47)), (31, .agg e10.sv), (32, (vS As st.length cs)), (33, (vI ((st.length - ar e10 : Nat) : Int))), (34, (vS A18 ((st.drop (st.length - ar e10 : Nat)).length) (cs - (st.length - ar e10 : Nat)))), (35, (vS An ((nrm e10 (st.drop (st.length - ar e10 : Nat))).length) cn))], [.o (.slice As st.length cs) st.length (st.flatMap Pt.enc) 30 1, .o (.slice An ((nrm e10 (st.drop (st.length - ar e10 : Nat))).length) cn) ((nrm e10 (st.drop (st.length - ar e10 : Nat))).length) ((nrm e10 (st.drop (st.length - ar e10 : Nat))).flatMap Nd.cells) 26 7]⟩, by kernel_rfl, by kernel_rfl, ?_⟩
    refine At.nil ?_
    refine At.then_normal ?_
    refine At.held (PhiLe.refl 0 _) ?_
    refine At.take (S' := ⟨fr 46 [(1, (vP g1 0)), (3, (vS As st.length cs)), (5, (vP g14 0)), (8, (vI ((st.length - ar e10 : Nat) : Int))), (9, (vS An ((nrm e10 (st.drop (st.length - ar e10 : Nat))).length) cn)), (14, (vS (aS b8 off9) nds.length c)), (15, (vI (nds.length : Int))), (16, (vI (i : Int))), (30, (vF 47)), (31, .agg e10.sv), (32, (vS As st.length cs)), (33, (vI ((st.length - ar e10 : Nat) : Int))), (34, (vS A18 ((st.drop (st.length - ar e10 : Nat)).length) (cs - (st.length - ar e10 : Nat)))), (35, (vS An ((nrm e10 (st.drop (st.length - ar e10 : Nat))).length) cn))], [.o (.slice As st.length cs) st.length (st.flatMap Pt.enc) 30 1, .o (.slice An ((nrm e10 (st.drop (st.length - ar e10 : Nat))).length) cn) ((nrm e10 (st.drop (st.length - ar e10 : Nat))).length) ((nrm e10 (st.drop (st.length - ar e10 : Nat))).flatMap Nd.cells) 26 7]⟩) (PhiLe.refl 0 _) (PanOk.then (PanOk.inBlock (PanOk.then (PanOk.then (PanOk.inBlock (PanOk.then PanOk.body)))))) 6 rfl (by kernel_rfl) (by kernel_rfl) (by kernel_rfl) (by kernel_rfl) ((vS An ((nrm e10 (st.drop (st.length - ar e10 : Nat))).length) cn)) (by kernel_rfl) (fun _ _ => Val.ev rfl (by kernel_rfl) (by kernel_rfl)) (by kernel_rfl) #[true, true, true, true, true, true, true] (by kernel_rfl) ?_
    refine At.drawn_done (by kernel_rfl) ?_
    refine At.then_normal ?_
    refine At.freeze (S' := ⟨fr 46 [(1, (vP g1 0)), (3, (vS As st.length cs)), (5, (vP g14 0)), (8, (vI ((st.length - ar e10 : Nat) : Int))), (9, (vS An ((nrm e10 (st.drop (st.length - ar e10 : Nat))).length) cn)), (14, (vS (aS b8 off9) nds.length c)), (15, (vI (nds.length : Int))), (16, (vI (i : Int))), (30, (vF 47)), (31, .agg e10.sv), (32, (vS As st.length cs)), (33, (vI ((st.length - ar e10 : Nat) : Int))), (34, (vS A18 ((st.drop (st.length - ar e10 : Nat)).length) (cs - (st.length - ar e10 : Nat)))), (35, (vS An ((nrm e10 (st.drop (st.length - ar e10 : Nat))).length) cn))], [.o (.slice As st.length cs) st.length (st.flatMap Pt.enc) 30 1, .dead]⟩) 1 (A := An) (n := (nrm e10 (st.drop (st.length - ar e10 : Nat))).length) (c := cn) (xs := ((nrm e10 (st.drop (st.length - ar e10 : Nat))).flatMap Nd.cells)) (e := 26) (sz := 7) (by kernel_rfl) (bleT rfl) (by kernel_rfl) ?_
    intro Φ21 hle22 hRn
    have hR := hR.mono hle22
    have hB0 := hB0.mono hle22
    have hB1 := hB1.mono hle22
    have hT2 := hT2.mono hle22
    have hPs := hPs.mono hle22
    have hB17 := hB17.mono hle22
    refine At.region ?_
    refine At.runk 2 [3, 5, 8, 30, 31, 32, 33, 34, 35] [] ⟨fr 46 [(1, (vP g1 0)), (9, (vS An ((nrm e10 (st.drop (st.length - ar e10 : Nat))).length) cn)), (14, (vS (aS b8 off9) nds.length c)), (15, (vI (nds.length : Int))), (16, (vI (i : Int))), (36, (vS As st.length cs)), (37, (vI ((st.length - ar e10 : Nat) : Int)))], [.o (.slice As st.length cs) st.length (st.flatMap Pt.enc) 30 1, .dead]⟩ (by kernel_rfl) ?_
    refine At.slice rfl (by kernel_rfl) (e := 30) (by kernel_rfl) (sz := 1) (by kernel_rfl) (A := As) (n := st.length) (c := cs) (by kernel_rfl) 0 (st.length - ar e10 : Nat) cs rfl ⟨.i64, by kernel_rfl⟩ rfl (by omega) (by omega) (Nat.le_refl _) ?_
    intro A23 hA24 hA25
    obtain rfl := (hA24 rfl).symm
    refine ⟨⟨fr 46 [(1, (vP g1 0)), (9, (vS An ((nrm e10 (st.drop (st.length - ar e10 : Nat))).length) cn)), (14, (vS (aS b8 off9) nds.length c)), (15, (vI (nds.length : Int))), (16, (vI (i : Int))), (36, (vS As st.length cs)), (37, (vI ((st.length - ar e10 : Nat) : Int))), (38, (vS As (st.length - ar e10 : Nat) cs))], [.o (.slice As st.length cs) st.length (st.flatMap Pt.enc) 30 1, .dead]⟩, by kernel_rfl, ?_⟩
    refine At.trunc (S' := ⟨fr 46 [(1, (vP g1 0)), (9, (vS An ((nrm e10 (st.drop (st.length - ar e10 : Nat))).length) cn)), (14, (vS (aS b8 off9) nds.length c)), (15, (vI (nds.length : Int))), (16, (vI (i : Int))), (36, (vS As st.length cs)), (37, (vI ((st.length - ar e10 : Nat) : Int))), (38, (vS As (st.length - ar e10 : Nat) cs))], [.o (.slice As (st.length - ar e10 : Nat) cs) (st.length - ar e10 : Nat) ((st.flatMap Pt.enc).take ((st.length - ar e10 : Nat) * 1)) 30 1, .dead]⟩) 0 (st.length - ar e10 : Nat) (A := As) (n := st.length) (cap := cs) (xs := (st.flatMap Pt.enc)) (e := 30) (sz := 1) (by kernel_rfl) (by omega) (by kernel_rfl) ?_
    refine At.cast (S' := ⟨fr 46 [(1, (vP g1 0)), (9, (vS An ((nrm e10 (st.drop (st.length - ar e10 : Nat))).length) cn)), (14, (vS (aS b8 off9) nds.length c)), (15, (vI (nds.length : Int))), (16, (vI (i : Int))), (36, (vS As st.length cs)), (37, (vI ((st.length - ar e10 : Nat) : Int))), (38, (vS As (st.length - ar e10 : Nat) cs))], [.o (.slice As (st.length - ar e10 : Nat) cs) (st.length - ar e10 : Nat) ((st.take (st.length - ar e10 : Nat)).flatMap Pt.enc) 30 1, .dead]⟩) (by rw [flat_take (enc := Pt.enc) (sz := 1) (fun _ => rfl)]) ?_
    refine At.runk 2 [9, 36, 37, 39] [] ⟨fr 46 [(1, (vP g1 0)), (14, (vS (aS b8 off9) nds.length c)), (15, (vI (nds.length : Int))), (16, (vI (i : Int))), (38, (vS As (st.length - ar e10 : Nat) cs)), (40, .s 2 0 1 1)], [.o (.slice As (st.length - ar e10 : Nat) cs) (st.length - ar e10 : Nat) ((st.take (st.length - ar e10 : Nat)).flatMap Pt.enc) 30 1, .dead, .c [(vS An ((nrm e10 (st.drop (st.length - ar e10 : Nat))).length) cn)] 30]⟩ (by kernel_rfl) ?_
    refine At.append rfl (by kernel_rfl) (e := 30) (inf := Try.t30) (sz := 1) (by kernel_rfl) (by kernel_rfl) rfl rfl rfl (Nat.zero_lt_succ _) 0 (V := .slice As (st.length - ar e10 : Nat) cs) (n := (st.length - ar e10 : Nat)) (xs := ((st.take (st.length - ar e10 : Nat)).flatMap Pt.enc)) (by kernel_rfl) (by kernel_rfl) 1 [.slice An ((nrm e10 (st.drop (st.length - ar e10 : Nat))).length) cn] (Src.cells (i := 2) (off := 0) (m := 1) (c := 1) (cs := [(vS An ((nrm e10 (st.drop (st.length - ar e10 : Nat))).length) cn)]) (e := 30) (by kernel_rfl) (by kernel_rfl) (src_lits _ _ (by kernel_rfl))) (rfl) (one_lits _ (by kernel_rfl)) (by unfold maxLen; omega) (by show ((st.length - ar e10 : Nat) + 1) * 24 ≤ _; omega) ?_
    intro A26 c27 h28 h29 h30
    refine ⟨⟨fr 46 [(1, (vP g1 0)), (14, (vS (aS b8 off9) nds.length c)), (15, (vI (nds.length : Int))), (16, (vI (i : Int))), (38, (vS As (st.length - ar e10 : Nat) cs)), (40, .s 2 0 1 1), (41, (vS A26 ((st.length - ar e10 : Nat) + 1) c27))], [.o (.slice A26 ((st.length - ar e10 : Nat) + 1) c27) ((st.length - ar e10 : Nat) + 1) (((st.take (st.length - ar e10 : Nat)).flatMap Pt.enc) ++ [.slice An ((nrm e10 (st.drop (st.length - ar e10 : Nat))).length) cn]) 30 1, .dead, .c [(vS An ((nrm e10 (st.drop (st.length - ar e10 : Nat))).length) cn)] 30]⟩, by kernel_rfl, ?_⟩
    have hst1 : (st.take (st.length - ar e10 : Nat) ++ [(⟨An, nrm e10 (st.drop (st.length - ar e10 : Nat)), cn⟩ : Pt)]).length = (st.length - ar e10 : Nat) + 1 := by simp only [List.length_append, List.length_take, List.length_cons, List.length_nil]; omega
    have hst2 : (st.take (st.length - ar e10 : Nat) ++ [(⟨An, nrm e10 (st.drop (st.length - ar e10 : Nat)), cn⟩ : Pt)]).flatMap Pt.enc = (((st.take (st.length - ar e10 : Nat)).flatMap Pt.enc) ++ [.slice An ((nrm e10 (st.drop (st.length - ar e10 : Nat))).length) cn]) := by rw [List.flatMap_append]; rfl
    refine At.cast (S' := ⟨fr 46 [(1, (vP g1 0)), (14, (vS (aS b8 off9) nds.length c)), (15, (vI (nds.length : Int))), (16, (vI (i : Int))), (38, (vS As (st.length - ar e10 : Nat) cs)), (40, .s 2 0 1 1), (41, (vS A26 ((st.take (st.length - ar e10 : Nat) ++ [(⟨An, nrm e10 (st.drop (st.length - ar e10 : Nat)), cn⟩ : Pt)]).length) c27))], [.o (.slice A26 ((st.take (st.length - ar e10 : Nat) ++ [(⟨An, nrm e10 (st.drop (st.length - ar e10 : Nat)), cn⟩ : Pt)]).length) c27) ((st.take (st.length - ar e10 : Nat) ++ [(⟨An, nrm e10 (st.drop (st.length - ar e10 : Nat)), cn⟩ : Pt)]).length) ((st.take (st.length - ar e10 : Nat) ++ [(⟨An, nrm e10 (st.drop (st.length - ar e10 : Nat)), cn⟩ : Pt)]).flatMap Pt.enc) 30 1, .dead, .c [(vS An ((nrm e10 (st.drop (st.length - ar e10 : Nat))).length) cn)] 30]⟩) (by rw [hst1, hst2]) ?_
    refine At.runk 1 [38, 40, 41] [2] ⟨fr 46 [(1, (vP g1 0)), (3, (vS A26 ((st.take (st.length - ar e10 : Nat) ++ [(⟨An, nrm e10 (st.drop (st.length - ar e10 : Nat)), cn⟩ : Pt)]).length) c27)), (14, (vS (aS b8 off9) nds.length c)), (15, (vI (nds.length : Int))), (16, (vI (i : Int)))], [.o (.slice A26 ((st.take (st.length - ar e10 : Nat) ++ [(⟨An, nrm e10 (st.drop (st.length - ar e10 : Nat)), cn⟩ : Pt)]).length) c27) ((st.take (st.length - ar e10 : Nat) ++ [(⟨An, nrm e10 (st.drop (st.length - ar e10 : Nat)), cn⟩ : Pt)]).length) ((st.take (st.length - ar e10 : Nat) ++ [(⟨An, nrm e10 (st.drop (st.length - ar e10 : Nat)), cn⟩ : Pt)]).flatMap Pt.enc) 30 1, .dead, .dead]⟩ (by kernel_rfl) ?_
    refine At.nil ?_
    refine At.in_normal ?_
    refine At.then_normal ?_
    refine At.region ?_
    refine At.runk 1 [16] [] ⟨fr 46 [(1, (vP g1 0)), (3, (vS A26 ((st.take (st.length - ar e10 : Nat) ++ [(⟨An, nrm e10 (st.drop (st.length - ar e10 : Nat)), cn⟩ : Pt)]).length) c27)), (14, (vS (aS b8 off9) nds.length c)), (15, (vI (nds.length : Int))), (42, (vI (IntKind.i64.wrap ((i : Int) + 1))))], [.o (.slice A26 ((st.take (st.length - ar e10 : Nat) ++ [(⟨An, nrm e10 (st.drop (st.length - ar e10 : Nat)), cn⟩ : Pt)]).length) c27) ((st.take (st.length - ar e10 : Nat) ++ [(⟨An, nrm e10 (st.drop (st.length - ar e10 : Nat)), cn⟩ : Pt)]).length) ((st.take (st.length - ar e10 : Nat) ++ [(⟨An, nrm e10 (st.drop (st.length - ar e10 : Nat)), cn⟩ : Pt)]).flatMap Pt.enc) 30 1, .dead, .dead]⟩ (by kernel_rfl) ?_
    refine At.cast (S' := ⟨fr 46 [(1, (vP g1 0)), (3, (vS A26 ((st.take (st.length - ar e10 : Nat) ++ [(⟨An, nrm e10 (st.drop (st.length - ar e10 : Nat)), cn⟩ : Pt)]).length) c27)), (14, (vS (aS b8 off9) nds.length c)), (15, (vI (nds.length : Int))), (42, (vI ((i : Int) + 1)))], [.o (.slice A26 ((st.take (st.length - ar e10 : Nat) ++ [(⟨An, nrm e10 (st.drop (st.length - ar e10 : Nat)), cn⟩ : Pt)]).length) c27) ((st.take (st.length - ar e10 : Nat) ++ [(⟨An, nrm e10 (st.drop (st.length - ar e10 : Nat)), cn⟩ : Pt)]).length) ((st.take (st.length - ar e10 : Nat) ++ [(⟨An, nrm e10 (st.drop (st.length - ar e10 : Nat)), cn⟩ : Pt)]).flatMap Pt.enc) 30 1, .dead, .dead]⟩) (by rw [wrapI (z := (i : Int) + 1) (by omega) (by omega)]) ?_
    refine At.runk 1 [42] [] ⟨fr 46 [(1, (vP g1 0)), (3, (vS A26 ((st.take (st.length - ar e10 : Nat) ++ [(⟨An, nrm e10 (st.drop (st.length - ar e10 : Nat)), cn⟩ : Pt)]).length) c27)), (14, (vS (aS b8 off9) nds.length c)), (15, (vI (nds.length : Int))), (16, (vI ((i : Int) + 1)))], [.o (.slice A26 ((st.take (st.length - ar e10 : Nat) ++ [(⟨An, nrm e10 (st.drop (st.length - ar e10 : Nat)), cn⟩ : Pt)]).length) c27) ((st.take (st.length - ar e10 : Nat) ++ [(⟨An, nrm e10 (st.drop (st.length - ar e10 : Nat)), cn⟩ : Pt)]).length) ((st.take (st.length - ar e10 : Nat) ++ [(⟨An, nrm e10 (st.drop (st.length - ar e10 : Nat)), cn⟩ : Pt)]).flatMap Pt.enc) 30 1, .dead, .dead]⟩ (by kernel_rfl) ?_
    refine At.nil ?_
    refine At.forget [] 1 [] ⟨fr 46 [(1, (vP g1 0)), (3, (vS A26 ((st.take (st.length - ar e10 : Nat) ++ [(⟨An, nrm e10 (st.drop (st.length - ar e10 : Nat)), cn⟩ : Pt)]).length) c27)), (14, (vS (aS b8 off9) nds.length c)), (15, (vI (nds.length : Int))), (16, (vI ((i : Int) + 1)))], [.o (.slice A26 ((st.take (st.length - ar e10 : Nat) ++ [(⟨An, nrm e10 (st.drop (st.length - ar e10 : Nat)), cn⟩ : Pt)]).length) c27) ((st.take (st.length - ar e10 : Nat) ++ [(⟨An, nrm e10 (st.drop (st.length - ar e10 : Nat)), cn⟩ : Pt)]).length) ((st.take (st.length - ar e10 : Nat) ++ [(⟨An, nrm e10 (st.drop (st.length - ar e10 : Nat)), cn⟩ : Pt)]).flatMap Pt.enc) 30 1]⟩ (by kernel_rfl) (by kernel_rfl) (bleT rfl) ?_
    refine At.round (i + 1, (st.take (st.length - ar e10 : Nat) ++ [(⟨An, nrm e10 (st.drop (st.length - ar e10 : Nat)), cn⟩ : Pt)]), A26, c27) (by kernel_rfl) ((hle13.trans hle16).trans hle22) ⟨by omega, by rw [hst1]; omega, by rw [hst1]; exact e10c, norm_step he11 hF.2.2.2.1, ⟨pts_step hPs hRn, jn_step hJ, wf_step e10w hW⟩, by rw [hst1]; exact h28⟩ (by omega)
  have hb7p : ¬ ((i : Int) < (nds.length : Int)) := of_decide_eq_false hb7
  refine At.cast (S' := ⟨fr 46 [(1, (vP g1 0)), (3, (vS As st.length cs)), (14, (vS A nds.length c)), (15, (vI (nds.length : Int))), (16, (vI (i : Int))), (17, (vB false))], [.o (.slice As st.length cs) st.length (st.flatMap Pt.enc) 30 1]⟩) (by rw [hb7] <;> rfl) ?_
  refine At.cond_f (by kernel_rfl) ?_
  refine At.exit_ ?_
  refine At.then_exit ?_
  refine At.then_exit ?_
  refine At.in_here ?_
  refine At.then_normal ?_
  refine At.seq ?_
  have hst1 : st.length = 1 := chk_none_end (by omega) hF.2.2.1
  refine At.region ?_
  refine At.runk 1 [1, 3, 14, 15, 16, 17] [] ⟨fr 46 [(43, (vS As st.length cs))], [.o (.slice As st.length cs) st.length (st.flatMap Pt.enc) 30 1]⟩ (by kernel_rfl) ?_
  refine At.row_some 0 (A := As) (n := st.length) (c := cs) (xs := (st.flatMap Pt.enc)) (e := 30) (sz := 1) (by kernel_rfl) (by omega) ?_
  intro g31 hg32
  subst hg32
  refine At.idx (S' := ⟨fr 46 [(43, (vS (aS g31 0) st.length cs)), (44, (vP g31 0))], [.o (.slice (aS g31 0) st.length cs) st.length (st.flatMap Pt.enc) 30 1]⟩) rfl (by kernel_rfl) (sz := 1) (e := 30) (by kernel_rfl) (by kernel_rfl) (by kernel_rfl) (b := g31) (off := 0) (n := st.length) (cap := cs) (kd := .i64) (i := 0) (by kernel_rfl) (by omega) (by omega) (by kernel_rfl) ?_
  obtain ⟨e33, he34⟩ := get_some (l := st) (i := 0) (by omega)
  refine At.ldrow (S' := ⟨fr 46 [(43, (vS (aS g31 0) st.length cs)), (44, (vP g31 0)), (45, (vS e33.A e33.nds.length e33.c))], [.o (.slice (aS g31 0) st.length cs) st.length (st.flatMap Pt.enc) 30 1]⟩) rfl (by kernel_rfl) (g := g31) (off := 0) (by kernel_rfl) 0 (n := st.length) (cap := cs) (xs := (st.flatMap Pt.enc)) (e := 30) (sz := 1) (by kernel_rfl) (Pt.enc e33) ((vS e33.A e33.nds.length e33.c)) (by kernel_rfl) (fun j u hj => by have hq := flat_get (enc := Pt.enc) (sz := 1) (fun _ => rfl) _ 0 e33 j u he34 hj; simpa using hq) (by kernel_rfl) ?_
  refine At.runk 1 [43, 44, 45] [0] ⟨fr 46 [(2, (vS e33.A e33.nds.length e33.c))], [.dead]⟩ (by kernel_rfl) ?_
  refine At.nil ?_
  refine At.then_normal ?_
  have hN := norm_end (by omega) hF.2.2.2.1 he34
  refine At.killc [0, 1, 3, 4, 5, 6, 7, 8, 9, 10, 11, 12, 13, 14, 15, 16, 17, 18, 19, 20, 21, 22, 23, 24, 25, 26, 27, 28, 29, 30, 31, 32, 33, 34, 35, 36, 37, 38, 39, 40, 41, 42, 43, 44, 45] [0] ⟨fr 46 [(2, (vS e33.A e33.nds.length e33.c))], [.dead]⟩ (by kernel_rfl) ?_
  refine At.cast (S' := ⟨fr 46 [(2, (vS e33.A ((foldR nrmk nds).length) e33.c))], [.dead]⟩) (by rw [← hN]) ?_
  refine At.ret_ ?_
  refine At.forget [] 0 [] ⟨fr 46 [(2, (vS e33.A ((foldR nrmk nds).length) e33.c))], []⟩ (by kernel_rfl) (by kernel_rfl) (bleT rfl) ?_
  refine At.leaveR rfl (e33.A, e33.c) (by kernel_rfl) (by kernel_rfl) (by kernel_rfl) ?_
  dsimp only
  rw [← hN]
  exact ⟨hPs e33 (List.mem_of_getElem? he34), by have := jn_mem_le (List.mem_of_getElem? he34); omega, hW e33 (List.mem_of_getElem? he34)⟩

end Go.Sx
