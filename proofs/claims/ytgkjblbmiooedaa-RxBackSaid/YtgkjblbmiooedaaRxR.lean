/- RxR: printed by wip/gen/lib04.py. Walks over functions of the program. -/
import Derived.Test.YtgkjblbmiooedaaRxQ
namespace Go.Sx
open Go.Proofs Go.RowKit
theorem cl_rxs_ret0 (Φ : Phi) (g0 g1 : Nat) (xs0 xs1 : List Value) : CallDG Try.prog 89 [(vP g0 0), (vP g1 0)] [.o (.slice (aS g0 0) 1 1) 1 xs0 27 1, .o (.slice (aS g1 0) 1 1) 1 xs1 33 1] Φ .returning .returning (fun _ es hp' => es = .ret (.tup []) ∧ hp' = [.o (.slice (aS g0 0) 1 1) 1 xs0 27 1, .o (.slice (aS g1 0) 1 1) 1 xs1 33 1]) := by
  refine CallDG.enter Try.func89 rfl rfl rfl rfl rfl rfl rfl (bleT rfl) .returning .returning (.nilIface) rec_ret [3, 4, 5, 6, 7, 8, 9, 10, 11, 12, 13, 14, 15, 16, 17, 18] ⟨fr 19 [(0, (vP g0 0)), (1, (vP g1 0)), (2, .v (.nilIface))], [.o (.slice (aS g0 0) 1 1) 1 xs0 27 1, .o (.slice (aS g1 0) 1 1) 1 xs1 33 1]⟩ (by kernel_rfl) (by kernel_rfl) ?_
  intro E G β0
  refine At.seq ?_
  refine At.region ?_
  refine At.runk 1 [] [] ⟨fr 19 [(0, (vP g0 0)), (1, (vP g1 0)), (2, .v (.nilIface)), (7, .v (.nilIface))], [.o (.slice (aS g0 0) 1 1) 1 xs0 27 1, .o (.slice (aS g1 0) 1 1) 1 xs1 33 1]⟩ (by kernel_rfl) ?_
  refine At.vals (S' := ⟨fr 19 [(0, (vP g0 0)), (1, (vP g1 0)), (2, .v (.nilIface)), (7, .v (.nilIface)), (8, (vB false))], [.o (.slice (aS g0 0) 1 1) 1 xs0 27 1, .o (.slice (aS g1 0) 1 1) 1 xs1 33 1]⟩) (by kernel_rfl) ((vB false)) (by kernel_rfl) (Val.nilnil rfl (ms := #[]) (by kernel_rfl) (by kernel_rfl) false (.inr ⟨rfl, rfl⟩)) ?_
  refine At.nil ?_
  refine At.then_normal ?_
  refine At.cond_f (by kernel_rfl) ?_
  refine At.skip ?_
  refine At.forget [0, 1, 2, 7, 8] 2 [] ⟨fr 19 [], [.o (.slice (aS g0 0) 1 1) 1 xs0 27 1, .o (.slice (aS g1 0) 1 1) 1 xs1 33 1]⟩ (by kernel_rfl) (by kernel_rfl) (bleT rfl) ?_
  exact At.leave_end rfl (.tup []) (by kernel_rfl) (by kernel_rfl) ⟨rfl, by kernel_rfl⟩

theorem cl_rxs_ret1 (Φ : Phi) (g0 g1 : Nat) (xs0 xs1 : List Value) (V : Value) (n : Nat) (xs : List Value) (t sz : Nat) : CallDG Try.prog 89 [(vP g0 0), (vP g1 0)] [.o (.slice (aS g0 0) 1 1) 1 xs0 27 1, .o (.slice (aS g1 0) 1 1) 1 xs1 33 1, .o (V) n xs t sz] Φ .returning .returning (fun _ es hp' => es = .ret (.tup []) ∧ hp' = [.o (.slice (aS g0 0) 1 1) 1 xs0 27 1, .o (.slice (aS g1 0) 1 1) 1 xs1 33 1, .o (V) n xs t sz]) := by
  refine CallDG.enter Try.func89 rfl rfl rfl rfl rfl rfl rfl (bleT rfl) .returning .returning (.nilIface) rec_ret [3, 4, 5, 6, 7, 8, 9, 10, 11, 12, 13, 14, 15, 16, 17, 18] ⟨fr 19 [(0, (vP g0 0)), (1, (vP g1 0)), (2, .v (.nilIface))], [.o (.slice (aS g0 0) 1 1) 1 xs0 27 1, .o (.slice (aS g1 0) 1 1) 1 xs1 33 1, .o (V) n xs t sz]⟩ (by kernel_rfl) (by kernel_rfl) ?_
  intro E G β0
  refine At.seq ?_
  refine At.region ?_
  refine At.runk 1 [] [] ⟨fr 19 [(0, (vP g0 0)), (1, (vP g1 0)), (2, .v (.nilIface)), (7, .v (.nilIface))], [.o (.slice (aS g0 0) 1 1) 1 xs0 27 1, .o (.slice (aS g1 0) 1 1) 1 xs1 33 1, .o (V) n xs t sz]⟩ (by kernel_rfl) ?_
  refine At.vals (S' := ⟨fr 19 [(0, (vP g0 0)), (1, (vP g1 0)), (2, .v (.nilIface)), (7, .v (.nilIface)), (8, (vB false))], [.o (.slice (aS g0 0) 1 1) 1 xs0 27 1, .o (.slice (aS g1 0) 1 1) 1 xs1 33 1, .o (V) n xs t sz]⟩) (by kernel_rfl) ((vB false)) (by kernel_rfl) (Val.nilnil rfl (ms := #[]) (by kernel_rfl) (by kernel_rfl) false (.inr ⟨rfl, rfl⟩)) ?_
  refine At.nil ?_
  refine At.then_normal ?_
  refine At.cond_f (by kernel_rfl) ?_
  refine At.skip ?_
  refine At.forget [0, 1, 2, 7, 8] 3 [] ⟨fr 19 [], [.o (.slice (aS g0 0) 1 1) 1 xs0 27 1, .o (.slice (aS g1 0) 1 1) 1 xs1 33 1, .o (V) n xs t sz]⟩ (by kernel_rfl) (by kernel_rfl) (bleT rfl) ?_
  exact At.leave_end rfl (.tup []) (by kernel_rfl) (by kernel_rfl) ⟨rfl, by kernel_rfl⟩

theorem cl_rxs_pan (Φ : Phi) (g0 g1 : Nat) (e : Int) : CallDG Try.prog 89 [(vP g0 0), (vP g1 0)] [.o (.slice (aS g0 0) 1 1) 1 [.slice none 0 0] 27 1, .o (.slice (aS g1 0) 1 1) 1 [.int .i64 0] 33 1] Φ (.panicking [{ v := (.iface 33 (.int .i64 e)), recovered := false }]) (.panicking [{ v := (.iface 33 (.int .i64 e)), recovered := true }]) (fun _ es hp' => es = .ret (.tup []) ∧ hp' = [.o (.slice (aS g0 0) 1 1) 1 [.slice none 0 0] 27 1, .o (.slice (aS g1 0) 1 1) 1 [.int .i64 e] 33 1]) := by
  refine CallDG.enter Try.func89 rfl rfl rfl rfl rfl rfl rfl (bleT rfl) (.panicking [{ v := (.iface 33 (.int .i64 e)), recovered := false }]) (.panicking [{ v := (.iface 33 (.int .i64 e)), recovered := true }]) (.iface 33 (.int .i64 e)) (rec_pan (.iface 33 (.int .i64 e))) [3, 4, 5, 6, 7, 8, 9, 10, 11, 12, 13, 14, 15, 16, 17, 18] ⟨fr 19 [(0, (vP g0 0)), (1, (vP g1 0)), (2, .v (.iface 33 (.int .i64 e)))], [.o (.slice (aS g0 0) 1 1) 1 [.slice none 0 0] 27 1, .o (.slice (aS g1 0) 1 1) 1 [.int .i64 0] 33 1]⟩ (by kernel_rfl) (by kernel_rfl) ?_
  intro E G β0
  refine At.seq ?_
  refine At.region ?_
  refine At.runk 2 [7] [] ⟨fr 19 [(0, (vP g0 0)), (1, (vP g1 0)), (2, .v (.iface 33 (.int .i64 e))), (8, (vB true))], [.o (.slice (aS g0 0) 1 1) 1 [.slice none 0 0] 27 1, .o (.slice (aS g1 0) 1 1) 1 [.int .i64 0] 33 1]⟩ (by kernel_rfl) ?_
  refine At.nil ?_
  refine At.then_normal ?_
  refine At.cond_t (by kernel_rfl) ?_
  refine At.seq ?_
  refine At.region ?_
  refine At.runk 1 [8] [] ⟨fr 19 [(0, (vP g0 0)), (1, (vP g1 0)), (2, .v (.iface 33 (.int .i64 e))), (10, .v (.iface 33 (.int .i64 e)))], [.o (.slice (aS g0 0) 1 1) 1 [.slice none 0 0] 27 1, .o (.slice (aS g1 0) 1 1) 1 [.int .i64 0] 33 1]⟩ (by kernel_rfl) ?_
  refine At.vals (S' := ⟨fr 19 [(0, (vP g0 0)), (1, (vP g1 0)), (2, .v (.iface 33 (.int .i64 e))), (10, .v (.iface 33 (.int .i64 e))), (11, .tup [(vI e), (vB true)])], [.o (.slice (aS g0 0) 1 1) 1 [.slice none 0 0] 27 1, .o (.slice (aS g1 0) 1 1) 1 [.int .i64 0] 33 1]⟩) (by kernel_rfl) (.tup [(vI e), (vB true)]) (by kernel_rfl) (Val.assert rfl (t := 33) (d := .int .i64) (by kernel_rfl) (by intro ms h; cases h) (v := .int .i64 e) (by kernel_rfl)) ?_
  refine At.runk 5 [9, 10, 11, 12, 13] [] ⟨fr 19 [(0, (vP g0 0)), (1, (vP g1 0)), (2, .v (.iface 33 (.int .i64 e))), (3, (vI e)), (4, (vB true))], [.o (.slice (aS g0 0) 1 1) 1 [.slice none 0 0] 27 1, .o (.slice (aS g1 0) 1 1) 1 [.int .i64 0] 33 1]⟩ (by kernel_rfl) ?_
  refine At.nil ?_
  refine At.then_normal ?_
  refine At.seq ?_
  refine At.seq ?_
  refine At.region ?_
  refine At.runk 2 [4, 14] [] ⟨fr 19 [(0, (vP g0 0)), (1, (vP g1 0)), (2, .v (.iface 33 (.int .i64 e))), (3, (vI e)), (15, (vB false))], [.o (.slice (aS g0 0) 1 1) 1 [.slice none 0 0] 27 1, .o (.slice (aS g1 0) 1 1) 1 [.int .i64 0] 33 1]⟩ (by kernel_rfl) ?_
  refine At.nil ?_
  refine At.then_normal ?_
  refine At.cond_f (by kernel_rfl) ?_
  refine At.skip ?_
  refine At.then_normal ?_
  refine At.seq ?_
  refine At.region ?_
  refine At.runk 1 [2, 15] [] ⟨fr 19 [(0, (vP g0 0)), (1, (vP g1 0)), (3, (vI e)), (5, (vS none 0 0))], [.o (.slice (aS g0 0) 1 1) 1 [.slice none 0 0] 27 1, .o (.slice (aS g1 0) 1 1) 1 [.int .i64 0] 33 1]⟩ (by kernel_rfl) ?_
  refine At.nil ?_
  refine At.then_normal ?_
  refine At.region ?_
  refine At.runk 2 [3, 5] [] ⟨fr 19 [(0, (vP g0 0)), (1, (vP g1 0)), (17, (vS none 0 0)), (18, (vI e))], [.o (.slice (aS g0 0) 1 1) 1 [.slice none 0 0] 27 1, .o (.slice (aS g1 0) 1 1) 1 [.int .i64 0] 33 1]⟩ (by kernel_rfl) ?_
  refine At.strow (S' := ⟨fr 19 [(0, (vP g0 0)), (1, (vP g1 0)), (17, (vS none 0 0)), (18, (vI e))], [.o (.slice (aS g0 0) 1 1) 1 [.slice none 0 0] 27 1, .o (.slice (aS g1 0) 1 1) 1 [.int .i64 0] 33 1]⟩) rfl (by kernel_rfl) (g := g0) (off := 0) (by kernel_rfl) 0 (n := 1) (cap := 1) (xs := [.slice none 0 0]) (e := 27) (sz := 1) (by kernel_rfl) [.slice none 0 0] (by kernel_rfl) (one_lits _ (by kernel_rfl)) (by kernel_rfl) (bleT rfl) (by kernel_rfl) ?_
  refine At.strow (S' := ⟨fr 19 [(0, (vP g0 0)), (1, (vP g1 0)), (17, (vS none 0 0)), (18, (vI e))], [.o (.slice (aS g0 0) 1 1) 1 [.slice none 0 0] 27 1, .o (.slice (aS g1 0) 1 1) 1 [.int .i64 e] 33 1]⟩) rfl (by kernel_rfl) (g := g1) (off := 0) (by kernel_rfl) 1 (n := 1) (cap := 1) (xs := [.int .i64 0]) (e := 33) (sz := 1) (by kernel_rfl) [.int .i64 e] (by kernel_rfl) (one_lits _ (by kernel_rfl)) (by kernel_rfl) (bleT rfl) (by kernel_rfl) ?_
  refine At.nil ?_
  refine At.forget [0, 1, 17, 18] 2 [] ⟨fr 19 [], [.o (.slice (aS g0 0) 1 1) 1 [.slice none 0 0] 27 1, .o (.slice (aS g1 0) 1 1) 1 [.int .i64 e] 33 1]⟩ (by kernel_rfl) (by kernel_rfl) (bleT rfl) ?_
  exact At.leave_end rfl (.tup []) (by kernel_rfl) (by kernel_rfl) ⟨rfl, by kernel_rfl⟩

theorem tries_rxs (Φ : Phi) (f : Nat) (caps : Array Value) (fn : Func) (hf : Try.prog.funcs[f]? = some fn) (hb : fn.body.isSome = true) (hn : (fn.name == "runtime.NumGoroutine") = false) (T : Type) (sl : T → Option Addr × Nat × Nat) (ys : T → List Value) (F : T → Phi → Prop) (hF0 : ∀ t Φ Φ', PhiLe 0 Φ Φ' → F t Φ → F t Φ') (hC : CallR Try.prog f (caps.toList.map .v) [] Φ T (fun t => (vS ((sl t).1) ((sl t).2.1) ((sl t).2.2))) (fun t => [.o (.slice ((sl t).1) ((sl t).2.1) ((sl t).2.2)) ((sl t).2.1) (ys t) 30 1]) F) : CallR Try.prog 60 [.v (.func (.func f) #[] caps)] [] Φ T (fun t => .tup [(vS ((sl t).1) ((sl t).2.1) ((sl t).2.2)), (vI 0)]) (fun t => [.o (.slice ((sl t).1) ((sl t).2.1) ((sl t).2.2)) ((sl t).2.1) (ys t) 30 1]) F := by
  refine CallG.enterD Try.func60 rfl [1, 2, 3, 4, 5, 6] ⟨fr 7 [(0, .v (.func (.func f) #[] caps))], []⟩ (by kernel_rfl) (by kernel_rfl) ?_
  intro E G β0
  refine At.seq ?_
  refine At.region ?_
  refine At.runk 2 [] [] ⟨fr 7 [(0, .v (.func (.func f) #[] caps)), (2, .p 0 0), (3, .p 1 0)], [.c [(vS none 0 0)] 27, .c [(vI 0)] 33]⟩ (by kernel_rfl) ?_
  refine At.toRow 0 1 [.slice none 0 0] 1 rfl rfl rfl (bleT rfl) ?_
  intro g1
  refine ⟨⟨fr 7 [(0, .v (.func (.func f) #[] caps)), (2, (vP g1 0)), (3, .p 1 0)], [.o (.slice (aS g1 0) 1 1) 1 [.slice none 0 0] 27 1, .c [(vI 0)] 33]⟩, by kernel_rfl, by kernel_rfl, ?_⟩
  refine At.toRow 1 1 [.int .i64 0] 1 rfl rfl rfl (bleT rfl) ?_
  intro g2
  refine ⟨⟨fr 7 [(0, .v (.func (.func f) #[] caps)), (2, (vP g1 0)), (3, (vP g2 0))], [.o (.slice (aS g1 0) 1 1) 1 [.slice none 0 0] 27 1, .o (.slice (aS g2 0) 1 1) 1 [.int .i64 0] 33 1]⟩, by kernel_rfl, by kernel_rfl, ?_⟩
  refine At.nil ?_
  refine At.then_normal ?_
  refine At.seq ?_
  refine At.region ?_
  refine At.runk 1 [] [] ⟨fr 7 [(0, .v (.func (.func f) #[] caps)), (2, (vP g1 0)), (3, (vP g2 0)), (4, .fn (.func 89) [(vP g1 0), (vP g2 0)])], [.o (.slice (aS g1 0) 1 1) 1 [.slice none 0 0] 27 1, .o (.slice (aS g2 0) 1 1) 1 [.int .i64 0] 33 1]⟩ (by kernel_rfl) ?_
  refine At.defer rfl rfl (by kernel_rfl) (cl := 89) (caps := #[.pointer (aS g1 0), .pointer (aS g2 0)]) (by kernel_rfl) ?_
  refine At.nil ?_
  refine At.then_normal ?_
  refine At.seq ?_
  refine At.region ?_
  refine At.runk 1 [0, 4] [] ⟨fr 7 [(2, (vP g1 0)), (3, (vP g2 0)), (5, .v (.func (.func f) #[] caps))], [.o (.slice (aS g1 0) 1 1) 1 [.slice none 0 0] 27 1, .o (.slice (aS g2 0) 1 1) 1 [.int .i64 0] 33 1]⟩ (by kernel_rfl) ?_
  refine At.callV rfl (by kernel_rfl) f [] (caps.toList.map .v) (by kernel_rfl) hf hb hn (caps.toList.map .v) (caps_av caps) (caps_u caps) hC ?_
  intro Φ1 t hle hF
  refine ⟨⟨fr 7 [(2, (vP g1 0)), (3, (vP g2 0)), (5, .v (.func (.func f) #[] caps)), (6, (vS ((sl t).1) ((sl t).2.1) ((sl t).2.2)))], [.o (.slice (aS g1 0) 1 1) 1 [.slice none 0 0] 27 1, .o (.slice (aS g2 0) 1 1) 1 [.int .i64 0] 33 1, .o (.slice ((sl t).1) ((sl t).2.1) ((sl t).2.2)) ((sl t).2.1) (ys t) 30 1]⟩, by kernel_rfl, by kernel_rfl, ?_⟩
  refine At.strow (S' := ⟨fr 7 [(2, (vP g1 0)), (3, (vP g2 0)), (5, .v (.func (.func f) #[] caps)), (6, (vS ((sl t).1) ((sl t).2.1) ((sl t).2.2)))], [.o (.slice (aS g1 0) 1 1) 1 [.slice ((sl t).1) ((sl t).2.1) ((sl t).2.2)] 27 1, .o (.slice (aS g2 0) 1 1) 1 [.int .i64 0] 33 1, .o (.slice ((sl t).1) ((sl t).2.1) ((sl t).2.2)) ((sl t).2.1) (ys t) 30 1]⟩) rfl (by kernel_rfl) (g := g1) (off := 0) (by kernel_rfl) 0 (n := 1) (cap := 1) (xs := [.slice none 0 0]) (e := 27) (sz := 1) (by kernel_rfl) [.slice ((sl t).1) ((sl t).2.1) ((sl t).2.2)] (by kernel_rfl) (one_lits _ (by kernel_rfl)) (by kernel_rfl) (bleT rfl) (by kernel_rfl) ?_
  refine At.strow (S' := ⟨fr 7 [(2, (vP g1 0)), (3, (vP g2 0)), (5, .v (.func (.func f) #[] caps)), (6, (vS ((sl t).1) ((sl t).2.1) ((sl t).2.2)))], [.o (.slice (aS g1 0) 1 1) 1 [.slice ((sl t).1) ((sl t).2.1) ((sl t).2.2)] 27 1, .o (.slice (aS g2 0) 1 1) 1 [.int .i64 0] 33 1, .o (.slice ((sl t).1) ((sl t).2.1) ((sl t).2.2)) ((sl t).2.1) (ys t) 30 1]⟩) rfl (by kernel_rfl) (g := g2) (off := 0) (by kernel_rfl) 1 (n := 1) (cap := 1) (xs := [.int .i64 0]) (e := 33) (sz := 1) (by kernel_rfl) [.int .i64 0] (by kernel_rfl) (one_lits _ (by kernel_rfl)) (by kernel_rfl) (bleT rfl) (by kernel_rfl) ?_
  refine At.nil ?_
  refine At.then_normal ?_
  refine At.ret_ ?_
  refine At.ret_D ?_
  refine At.leaveD (cl := 89) (caps := #[.pointer (aS g1 0), .pointer (aS g2 0)]) rfl Try.func89 (by kernel_rfl) (by kernel_rfl) [.o (.slice (aS g1 0) 1 1) 1 [.slice ((sl t).1) ((sl t).2.1) ((sl t).2.2)] 27 1, .o (.slice (aS g2 0) 1 1) 1 [.int .i64 0] 33 1, .o (.slice ((sl t).1) ((sl t).2.1) ((sl t).2.2)) ((sl t).2.1) (ys t) 30 1] (by kernel_rfl) (by intro b hb; simp only [List.mem_cons, List.not_mem_nil, or_false] at hb; rcases hb with rfl | rfl | rfl <;> exact .inr ⟨_, _, _, _, _, rfl⟩) .returning .returning (by intro h; cases h) (cl_rxs_ret1 Φ1 g1 g2 [.slice ((sl t).1) ((sl t).2.1) ((sl t).2.2)] [.int .i64 0] (.slice ((sl t).1) ((sl t).2.1) ((sl t).2.2)) ((sl t).2.1) (ys t) 30 1) (fun _ _ _ h => by cases h.1) rfl (by intro Φ' x hp' hq; obtain ⟨_, rfl⟩ := hq; refine ⟨rfl, ?_⟩; intro b hb; simp only [List.mem_cons, List.not_mem_nil, or_false] at hb; rcases hb with rfl | rfl | rfl <;> exact .inr ⟨_, _, _, _, _, rfl⟩) ?_
  rintro Φ2 x hp2 hle2 ⟨_, rfl⟩
  refine At.cast (S' := ⟨fr 7 [(2, (vP g1 0)), (3, (vP g2 0)), (5, .v (.func (.func f) #[] caps)), (6, (vS ((sl t).1) ((sl t).2.1) ((sl t).2.2)))], [.o (.slice (aS g1 0) 1 1) 1 [.slice ((sl t).1) ((sl t).2.1) ((sl t).2.2)] 27 1, .o (.slice (aS g2 0) 1 1) 1 [.int .i64 0] 33 1, .o (.slice ((sl t).1) ((sl t).2.1) ((sl t).2.2)) ((sl t).2.1) (ys t) 30 1]⟩) (by kernel_rfl) ?_
  refine At.rotate2 rfl ?_
  refine At.cast (S' := ⟨fr 7 [(2, (vP g1 0)), (3, (vP g2 0)), (5, .v (.func (.func f) #[] caps)), (6, (vS ((sl t).1) ((sl t).2.1) ((sl t).2.2)))], [.o (.slice ((sl t).1) ((sl t).2.1) ((sl t).2.2)) ((sl t).2.1) (ys t) 30 1, .o (.slice (aS g1 0) 1 1) 1 [.slice ((sl t).1) ((sl t).2.1) ((sl t).2.2)] 27 1, .o (.slice (aS g2 0) 1 1) 1 [.int .i64 0] 33 1]⟩) (by kernel_rfl) ?_
  refine At.resD rfl [2, 3, 5, 6] 1 [] ⟨fr 7 [], [.o (.slice ((sl t).1) ((sl t).2.1) ((sl t).2.2)) ((sl t).2.1) (ys t) 30 1]⟩ t (.tuple #[.slice ((sl t).1) ((sl t).2.1) ((sl t).2.2), .int .i64 0]) (fun _ => rfl) (res_rows2 rfl (g0 := g1) (g1 := g2) (by kernel_rfl) (by kernel_rfl) 1 2 (n0 := 1) (c0 := 1) (t0 := 27) (s0 := 1) (n1 := 1) (c1 := 1) (t1 := 33) (s1 := 1) (xs0 := [.slice ((sl t).1) ((sl t).2.1) ((sl t).2.2)]) (xs1 := [.int .i64 0]) (by kernel_rfl) (by kernel_rfl) ((vS ((sl t).1) ((sl t).2.1) ((sl t).2.2))) ((vI 0)) (by kernel_rfl) (by kernel_rfl) (by kernel_rfl) (by kernel_rfl) (fun _ => rfl)) (by kernel_rfl) (by kernel_rfl) (bleT rfl) (by kernel_rfl) (by kernel_rfl) (hF0 _ _ _ hle2 hF)

theorem tries_rxs_no (Φ : Phi) (f : Nat) (caps : Array Value) (fn : Func) (hf : Try.prog.funcs[f]? = some fn) (hb : fn.body.isSome = true) (hn : (fn.name == "runtime.NumGoroutine") = false) (e : Int) (hC : CallP Try.prog f (caps.toList.map .v) [] Φ [{ v := .iface 33 (.int .i64 e), recovered := false }]) : CallR Try.prog 60 [.v (.func (.func f) #[] caps)] [] Φ Unit (fun _ => .tup [(vS none 0 0), (vI e)]) (fun _ => []) (fun _ _ => True) := by
  refine CallG.enterD Try.func60 rfl [1, 2, 3, 4, 5, 6] ⟨fr 7 [(0, .v (.func (.func f) #[] caps))], []⟩ (by kernel_rfl) (by kernel_rfl) ?_
  intro E G β0
  refine At.seq ?_
  refine At.region ?_
  refine At.runk 2 [] [] ⟨fr 7 [(0, .v (.func (.func f) #[] caps)), (2, .p 0 0), (3, .p 1 0)], [.c [(vS none 0 0)] 27, .c [(vI 0)] 33]⟩ (by kernel_rfl) ?_
  refine At.toRow 0 1 [.slice none 0 0] 1 rfl rfl rfl (bleT rfl) ?_
  intro g1
  refine ⟨⟨fr 7 [(0, .v (.func (.func f) #[] caps)), (2, (vP g1 0)), (3, .p 1 0)], [.o (.slice (aS g1 0) 1 1) 1 [.slice none 0 0] 27 1, .c [(vI 0)] 33]⟩, by kernel_rfl, by kernel_rfl, ?_⟩
  refine At.toRow 1 1 [.int .i64 0] 1 rfl rfl rfl (bleT rfl) ?_
  intro g2
  refine ⟨⟨fr 7 [(0, .v (.func (.func f) #[] caps)), (2, (vP g1 0)), (3, (vP g2 0))], [.o (.slice (aS g1 0) 1 1) 1 [.slice none 0 0] 27 1, .o (.slice (aS g2 0) 1 1) 1 [.int .i64 0] 33 1]⟩, by kernel_rfl, by kernel_rfl, ?_⟩
  refine At.nil ?_
  refine At.then_normal ?_
  refine At.seq ?_
  refine At.region ?_
  refine At.runk 1 [] [] ⟨fr 7 [(0, .v (.func (.func f) #[] caps)), (2, (vP g1 0)), (3, (vP g2 0)), (4, .fn (.func 89) [(vP g1 0), (vP g2 0)])], [.o (.slice (aS g1 0) 1 1) 1 [.slice none 0 0] 27 1, .o (.slice (aS g2 0) 1 1) 1 [.int .i64 0] 33 1]⟩ (by kernel_rfl) ?_
  refine At.defer rfl rfl (by kernel_rfl) (cl := 89) (caps := #[.pointer (aS g1 0), .pointer (aS g2 0)]) (by kernel_rfl) ?_
  refine At.nil ?_
  refine At.then_normal ?_
  refine At.seq ?_
  refine At.region ?_
  refine At.runk 1 [0, 4] [] ⟨fr 7 [(2, (vP g1 0)), (3, (vP g2 0)), (5, .v (.func (.func f) #[] caps))], [.o (.slice (aS g1 0) 1 1) 1 [.slice none 0 0] 27 1, .o (.slice (aS g2 0) 1 1) 1 [.int .i64 0] 33 1]⟩ (by kernel_rfl) ?_
  refine At.callP rfl (by kernel_rfl) f [] (caps.toList.map .v) (by kernel_rfl) hf hb hn (caps.toList.map .v) (caps_av caps) (caps_u caps) hC ?_
  intro Φ1 hle
  refine ⟨⟨fr 7 [(2, (vP g1 0)), (3, (vP g2 0)), (5, .v (.func (.func f) #[] caps))], [.o (.slice (aS g1 0) 1 1) 1 [.slice none 0 0] 27 1, .o (.slice (aS g2 0) 1 1) 1 [.int .i64 0] 33 1]⟩, by kernel_rfl, by kernel_rfl, ?_⟩
  refine At.then_panic ?_
  refine At.panic_D ?_
  refine At.leaveD (cl := 89) (caps := #[.pointer (aS g1 0), .pointer (aS g2 0)]) rfl Try.func89 (by kernel_rfl) (by kernel_rfl) [.o (.slice (aS g1 0) 1 1) 1 [.slice none 0 0] 27 1, .o (.slice (aS g2 0) 1 1) 1 [.int .i64 0] 33 1] (by kernel_rfl) (by intro b hb; simp only [List.mem_cons, List.not_mem_nil, or_false] at hb; rcases hb with rfl | rfl <;> exact .inr ⟨_, _, _, _, _, rfl⟩) (.panicking [{ v := (.iface 33 (.int .i64 e)), recovered := false }]) (.panicking [{ v := (.iface 33 (.int .i64 e)), recovered := true }]) (by intro h; cases h) (cl_rxs_pan Φ1 g1 g2 e) (fun _ _ _ h => by cases h.1) rfl (by intro Φ' x hp' hq; obtain ⟨_, rfl⟩ := hq; refine ⟨rfl, ?_⟩; intro b hb; simp only [List.mem_cons, List.not_mem_nil, or_false] at hb; rcases hb with rfl | rfl <;> exact .inr ⟨_, _, _, _, _, rfl⟩) ?_
  rintro Φ2 x hp2 hle2 ⟨_, rfl⟩
  refine At.cast (S' := ⟨fr 7 [(2, (vP g1 0)), (3, (vP g2 0)), (5, .v (.func (.func f) #[] caps))], [.o (.slice (aS g1 0) 1 1) 1 [.slice none 0 0] 27 1, .o (.slice (aS g2 0) 1 1) 1 [.int .i64 e] 33 1]⟩) (by kernel_rfl) ?_
  refine At.resD rfl [2, 3, 5] 0 [] ⟨fr 7 [], []⟩ () (.tuple #[.slice none 0 0, .int .i64 e]) (fun _ => rfl) (res_rows2 rfl (g0 := g1) (g1 := g2) (by kernel_rfl) (by kernel_rfl) 0 1 (n0 := 1) (c0 := 1) (t0 := 27) (s0 := 1) (n1 := 1) (c1 := 1) (t1 := 33) (s1 := 1) (xs0 := [.slice none 0 0]) (xs1 := [.int .i64 e]) (by kernel_rfl) (by kernel_rfl) ((vS none 0 0)) ((vI e)) (by kernel_rfl) (by kernel_rfl) (by kernel_rfl) (by kernel_rfl) (fun _ => rfl)) (by kernel_rfl) (by kernel_rfl) (bleT rfl) (by kernel_rfl) (by kernel_rfl) trivial

theorem parts1_ok (Φ : Phi) (g0 : Nat) (nds : List Nd) (A : Option Addr) (c : Nat) (hR : NdsAt Φ A nds) (hl : nds.length ≤ 1000000) (ndsw : ∀ n ∈ nds, n.wf) (hc : nds.length ≤ c) (hok : chk nds 0 0 = none) (hpe : ∀ e, nds[(nds.length - 1 : Nat)]? = some e → ∀ m, m < ar e → 1 ≤ pen nds (nds.length - 1) m) (hB0 : RdC Φ (aS g0 0) [.slice A nds.length c])  : CallR Try.prog 61 [(vP g0 0)] [] Φ ((Option Addr × Nat) × List Pt) (fun t => (vS t.1.1 t.2.length t.1.2)) (fun t => [.o (.slice t.1.1 t.2.length t.1.2) t.2.length (t.2.flatMap Pt.enc) 30 1]) (fun t Φ => Pts Φ t.2 ∧ t.2.map Pt.nds = (prt nds (nds.length - 1) (rootK nds)).reverse) := by
  refine CallG.enterk Try.func61 rfl [1, 2, 3, 4, 5, 6, 7, 8, 9, 10, 11, 12, 13, 14, 15, 16, 17, 18, 19, 20, 21, 22, 23, 24, 25, 26, 27, 28, 29, 30, 31, 32, 33, 34, 35, 36, 37, 38, 39, 40, 41, 42, 43, 44, 45, 46, 47, 48] ⟨fr 49 [(0, (vP g0 0))], []⟩ (by kernel_rfl) (by kernel_rfl) ?_
  intro E G β0
  refine At.seq ?_
  refine At.region ?_
  refine At.runk 1 [1] [] ⟨fr 49 [(0, (vP g0 0))], []⟩ (by kernel_rfl) ?_
  refine At.nil ?_
  refine At.then_normal ?_
  refine At.seq ?_
  refine At.region ?_
  refine At.vals (S' := ⟨fr 49 [(0, (vP g0 0)), (11, (vS A nds.length c))], []⟩) (by kernel_rfl) ((vS A nds.length c)) (by kernel_rfl) (Val.ldB rfl hB0 (Nat.zero_lt_succ _) 0 0 (by omega) (by kernel_rfl) ((vS A nds.length c)) (by kernel_rfl)) ?_
  refine At.callV rfl (by kernel_rfl) 43 [] [] (by kernel_rfl) Try.func43 (by kernel_rfl) (by kernel_rfl) [(vS A nds.length c)] (by kernel_rfl) (by kernel_rfl) (of_ok Φ nds A c hR hl ndsw hok) ?_
  rintro Φ3 gT1 hle4 hT2
  have hR := hR.mono hle4
  have hB0 := hB0.mono hle4
  refine ⟨⟨fr 49 [(0, (vP g0 0)), (11, (vS A nds.length c)), (12, (vP gT1 0))], []⟩, by kernel_rfl, by kernel_rfl, ?_⟩
  refine At.runk 1 [11, 12] [] ⟨fr 49 [(0, (vP g0 0)), (2, (vP gT1 0))], []⟩ (by kernel_rfl) ?_
  refine At.nil ?_
  refine At.then_normal ?_
  refine At.seq ?_
  refine At.region ?_
  refine At.vals (S' := ⟨fr 49 [(0, (vP g0 0)), (2, (vP gT1 0)), (13, (vS A nds.length c))], []⟩) (by kernel_rfl) ((vS A nds.length c)) (by kernel_rfl) (Val.ldB rfl hB0 (Nat.zero_lt_succ _) 0 0 (by omega) (by kernel_rfl) ((vS A nds.length c)) (by kernel_rfl)) ?_
  refine At.runk 2 [13, 14] [] ⟨fr 49 [(0, (vP g0 0)), (2, (vP gT1 0)), (15, (vI (IntKind.i64.wrap ((nds.length : Int) - 1))))], []⟩ (by kernel_rfl) ?_
  refine At.cast (S' := ⟨fr 49 [(0, (vP g0 0)), (2, (vP gT1 0)), (15, (vI ((nds.length : Int) - 1)))], []⟩) (by rw [wrapI (z := (nds.length : Int) - 1) (by omega) (by omega)]) ?_
  refine At.runk 1 [15] [] ⟨fr 49 [(0, (vP g0 0)), (2, (vP gT1 0)), (3, (vI ((nds.length : Int) - 1)))], []⟩ (by kernel_rfl) ?_
  refine At.cast (S' := ⟨fr 49 [(0, (vP g0 0)), (2, (vP gT1 0)), (3, (vI ((nds.length - 1 : Nat) : Int)))], []⟩) (by rw [show ((nds.length : Int) - 1) = (((nds.length - 1 : Nat) : Nat) : Int) from by have := chk_pos hok; omega]) ?_
  refine At.nil ?_
  refine At.then_normal ?_
  refine At.seq ?_
  refine At.region ?_
  refine At.vals (S' := ⟨fr 49 [(0, (vP g0 0)), (2, (vP gT1 0)), (3, (vI ((nds.length - 1 : Nat) : Int))), (17, (vS A nds.length c))], []⟩) (by kernel_rfl) ((vS A nds.length c)) (by kernel_rfl) (Val.ldB rfl hB0 (Nat.zero_lt_succ _) 0 0 (by omega) (by kernel_rfl) ((vS A nds.length c)) (by kernel_rfl)) ?_
  refine At.runk 1 [0] [] ⟨fr 49 [(2, (vP gT1 0)), (3, (vI ((nds.length - 1 : Nat) : Int))), (17, (vS A nds.length c)), (18, (vI ((nds.length - 1 : Nat) : Int)))], []⟩ (by kernel_rfl) ?_
  obtain ⟨b5, off6, hAeq⟩ : ∃ b off, A = some ⟨b, off, none⟩ := hR.addr (by exact nds_pos (chk_pos hok))
  subst hAeq
  refine At.idx (S' := ⟨fr 49 [(2, (vP gT1 0)), (3, (vI ((nds.length - 1 : Nat) : Int))), (17, (vS (aS b5 off6) nds.length c)), (18, (vI ((nds.length - 1 : Nat) : Int))), (19, .v (.pointer (some ⟨b5, off6 + (nds.length - 1 : Nat) * 7, none⟩)))], []⟩) rfl (by kernel_rfl) (sz := 7) (e := 26) (by kernel_rfl) (by kernel_rfl) (by kernel_rfl) (b := b5) (off := off6) (n := nds.length) (cap := c) (kd := .i64) (i := ((nds.length - 1 : Nat) : Int)) (by kernel_rfl) (by have := chk_pos hok; omega) (by have := chk_pos hok; omega) (by kernel_rfl) ?_
  obtain ⟨e7, he8⟩ := get_some (l := nds) (i := (nds.length - 1 : Nat)) (by have := chk_pos hok; omega)
  have e7w := ndsw e7 (List.mem_of_getElem? he8)
  have e7m := root_may hok he8
  refine At.vals (S' := ⟨fr 49 [(2, (vP gT1 0)), (3, (vI ((nds.length - 1 : Nat) : Int))), (17, (vS (aS b5 off6) nds.length c)), (18, (vI ((nds.length - 1 : Nat) : Int))), (19, .v (.pointer (some ⟨b5, off6 + (nds.length - 1 : Nat) * 7, none⟩))), (20, .agg e7.sv)], []⟩) (by kernel_rfl) (.agg e7.sv) (by kernel_rfl) (Val.ldE rfl (enc := Nd.cells) (xs := nds) (b := b5) (off := off6) hR (sz := 7) (fun _ => rfl) (Nat.zero_lt_succ _) (nds.length - 1 : Nat) e7 he8 0 (off6 + (nds.length - 1 : Nat) * 7) (by omega) (by kernel_rfl) (.agg e7.sv) (by kernel_rfl)) ?_
  refine At.callV rfl (by kernel_rfl) 44 [] [] (by kernel_rfl) Try.func44 (by kernel_rfl) (by kernel_rfl) [.agg e7.sv] (by kernel_rfl) (by kernel_rfl) (known_t Φ3 e7 e7w e7m) ?_
  rintro Φ9 _ hle10 rfl
  have hR := hR.mono hle10
  have hB0 := hB0.mono hle10
  have hT2 := hT2.mono hle10
  have hal := ar_le e7
  refine ⟨⟨fr 49 [(2, (vP gT1 0)), (3, (vI ((nds.length - 1 : Nat) : Int))), (17, (vS (aS b5 off6) nds.length c)), (18, (vI ((nds.length - 1 : Nat) : Int))), (19, .v (.pointer (some ⟨b5, off6 + (nds.length - 1 : Nat) * 7, none⟩))), (20, .agg e7.sv), (21, .tup [.agg [(vI (ar e7 : Int)), .v (.func (.func (mayN e7.kind)) #[] #[]), .v (.func (.func (nulN e7.kind)) #[] #[])], (vB true)])], []⟩, by kernel_rfl, by kernel_rfl, ?_⟩
  refine At.runk 6 [5, 16, 17, 18, 19, 20, 21, 22, 23] [] ⟨fr 49 [(2, (vP gT1 0)), (3, (vI ((nds.length - 1 : Nat) : Int))), (4, .p 0 0)], [.c [(vI (ar e7 : Int)), .v (.func (.func (mayN e7.kind)) #[] #[]), .v (.func (.func (nulN e7.kind)) #[] #[])] 76]⟩ (by kernel_rfl) ?_
  refine At.nil ?_
  refine At.then_normal ?_
  refine At.seq ?_
  refine At.region ?_
  refine At.runk 1 [] [] ⟨fr 49 [(2, (vP gT1 0)), (3, (vI ((nds.length - 1 : Nat) : Int))), (4, .p 0 0), (6, (vS none 0 0))], [.c [(vI (ar e7 : Int)), .v (.func (.func (mayN e7.kind)) #[] #[]), .v (.func (.func (nulN e7.kind)) #[] #[])] 76]⟩ (by kernel_rfl) ?_
  refine At.nilrow 30 1 ⟨fr 49 [(2, (vP gT1 0)), (3, (vI ((nds.length - 1 : Nat) : Int))), (4, .p 0 0), (6, (vS none 0 0))], [.c [(vI (ar e7 : Int)), .v (.func (.func (mayN e7.kind)) #[] #[]), .v (.func (.func (nulN e7.kind)) #[] #[])] 76, .o (.slice none 0 0) 0 [] 30 1]⟩ (by kernel_rfl) (by kernel_rfl) ?_
  refine At.nil ?_
  refine At.then_normal ?_
  refine At.seq ?_
  refine At.region ?_
  refine At.runk 1 [] [] ⟨fr 49 [(2, (vP gT1 0)), (3, (vI ((nds.length - 1 : Nat) : Int))), (4, .p 0 0), (6, (vS none 0 0)), (24, (vP gT1 0))], [.c [(vI (ar e7 : Int)), .v (.func (.func (mayN e7.kind)) #[] #[]), .v (.func (.func (nulN e7.kind)) #[] #[])] 76, .o (.slice none 0 0) 0 [] 30 1]⟩ (by kernel_rfl) ?_
  refine At.vals (S' := ⟨fr 49 [(2, (vP gT1 0)), (3, (vI ((nds.length - 1 : Nat) : Int))), (4, .p 0 0), (6, (vS none 0 0)), (24, (vP gT1 0)), (25, .v (.func (.func 59) #[.pointer (aS gT1 0)] #[]))], [.c [(vI (ar e7 : Int)), .v (.func (.func (mayN e7.kind)) #[] #[]), .v (.func (.func (nulN e7.kind)) #[] #[])] 76, .o (.slice none 0 0) 0 [] 30 1]⟩) (by kernel_rfl) (.v (.func (.func 59) #[.pointer (aS gT1 0)] #[])) (by kernel_rfl) (Val.bound rfl (v := .pointer (aS gT1 0)) (by kernel_rfl)) ?_
  refine At.runk 1 [2, 24] [] ⟨fr 49 [(3, (vI ((nds.length - 1 : Nat) : Int))), (4, .p 0 0), (6, (vS none 0 0)), (25, .v (.func (.func 59) #[.pointer (aS gT1 0)] #[])), (26, (vP gT1 0))], [.c [(vI (ar e7 : Int)), .v (.func (.func (mayN e7.kind)) #[] #[]), .v (.func (.func (nulN e7.kind)) #[] #[])] 76, .o (.slice none 0 0) 0 [] 30 1]⟩ (by kernel_rfl) ?_
  refine At.vals (S' := ⟨fr 49 [(3, (vI ((nds.length - 1 : Nat) : Int))), (4, .p 0 0), (6, (vS none 0 0)), (25, .v (.func (.func 59) #[.pointer (aS gT1 0)] #[])), (26, (vP gT1 0)), (27, .v (.func (.func 58) #[.pointer (aS gT1 0)] #[]))], [.c [(vI (ar e7 : Int)), .v (.func (.func (mayN e7.kind)) #[] #[]), .v (.func (.func (nulN e7.kind)) #[] #[])] 76, .o (.slice none 0 0) 0 [] 30 1]⟩) (by kernel_rfl) (.v (.func (.func 58) #[.pointer (aS gT1 0)] #[])) (by kernel_rfl) (Val.bound rfl (v := .pointer (aS gT1 0)) (by kernel_rfl)) ?_
  refine At.runk 2 [25, 26, 27] [] ⟨fr 49 [(3, (vI ((nds.length - 1 : Nat) : Int))), (4, .p 0 0), (6, (vS none 0 0)), (7, .v (.func (.func 59) #[.pointer (aS gT1 0)] #[])), (8, .v (.func (.func 58) #[.pointer (aS gT1 0)] #[]))], [.c [(vI (ar e7 : Int)), .v (.func (.func (mayN e7.kind)) #[] #[]), .v (.func (.func (nulN e7.kind)) #[] #[])] 76, .o (.slice none 0 0) 0 [] 30 1]⟩ (by kernel_rfl) ?_
  refine At.nil ?_
  refine At.then_normal ?_
  refine At.seq ?_
  refine At.seq ?_
  refine At.region ?_
  refine At.runk 2 [3, 28] [] ⟨fr 49 [(4, .p 0 0), (6, (vS none 0 0)), (7, .v (.func (.func 59) #[.pointer (aS gT1 0)] #[])), (8, .v (.func (.func 58) #[.pointer (aS gT1 0)] #[])), (9, (vI ((nds.length - 1 : Nat) : Int)))], [.c [(vI (ar e7 : Int)), .v (.func (.func (mayN e7.kind)) #[] #[]), .v (.func (.func (nulN e7.kind)) #[] #[])] 76, .o (.slice none 0 0) 0 [] 30 1]⟩ (by kernel_rfl) ?_
  refine At.nil ?_
  refine At.then_normal ?_
  refine At.block ?_
  refine At.loop (T := List Pt × Option Addr × Nat) (fun x => ⟨fr 49 [(4, .p 0 0), (6, (vS x.2.1 x.1.length x.2.2)), (7, .v (.func (.func 59) #[.pointer (aS gT1 0)] #[])), (8, .v (.func (.func 58) #[.pointer (aS gT1 0)] #[])), (9, (vI ((pen nds (nds.length - 1 : Nat) x.1.length) : Int)))], [.c [(vI (ar e7 : Int)), .v (.func (.func (mayN e7.kind)) #[] #[]), .v (.func (.func (nulN e7.kind)) #[] #[])] 76, .o (.slice x.2.1 x.1.length x.2.2) x.1.length (x.1.flatMap Pt.enc) 30 1]⟩) (fun x Φ => x.1.length ≤ ar e7 ∧ Pts Φ x.1 ∧ x.1.map Pt.nds = prt nds (nds.length - 1 : Nat) x.1.length ∧ x.1.length ≤ x.2.2) (fun x => ar e7 - x.1.length) ([], none, 0) (by kernel_rfl) ⟨Nat.zero_le _, (fun p h => by cases h), rfl, Nat.le_refl _⟩ ?_
  rintro ⟨ps, Ao, cs⟩ Φ11 hle12 hF
  have hR := hR.mono hle12
  have hB0 := hB0.mono hle12
  have hT2 := hT2.mono hle12
  refine At.cast (S' := ⟨fr 49 [(4, .p 0 0), (6, (vS Ao ps.length cs)), (7, .v (.func (.func 59) #[.pointer (aS gT1 0)] #[])), (8, .v (.func (.func 58) #[.pointer (aS gT1 0)] #[])), (9, (vI ((pen nds (nds.length - 1 : Nat) ps.length) : Int)))], [.c [(vI (ar e7 : Int)), .v (.func (.func (mayN e7.kind)) #[] #[]), .v (.func (.func (nulN e7.kind)) #[] #[])] 76, .o (.slice Ao ps.length cs) ps.length (ps.flatMap Pt.enc) 30 1]⟩) (by kernel_rfl) ?_
  dsimp only at hF
  have hF1 := hF.1
  have hPs := hF.2.1
  refine At.seq ?_
  refine At.seq ?_
  refine At.region ?_
  refine At.runk 5 [29, 30, 31, 32] [] ⟨fr 49 [(4, .p 0 0), (6, (vS Ao ps.length cs)), (7, .v (.func (.func 59) #[.pointer (aS gT1 0)] #[])), (8, .v (.func (.func 58) #[.pointer (aS gT1 0)] #[])), (9, (vI ((pen nds (nds.length - 1 : Nat) ps.length) : Int))), (33, (vB (decide ((ps.length : Int) < (ar e7 : Int)))))], [.c [(vI (ar e7 : Int)), .v (.func (.func (mayN e7.kind)) #[] #[]), .v (.func (.func (nulN e7.kind)) #[] #[])] 76, .o (.slice Ao ps.length cs) ps.length (ps.flatMap Pt.enc) 30 1]⟩ (by kernel_rfl) ?_
  refine At.nil ?_
  refine At.then_normal ?_
  refine At.bcase (decide ((ps.length : Int) < (ar e7 : Int))) (fun hb13 => ?_) (fun hb13 => ?_)
  · have hb13p : ((ps.length : Int) < (ar e7 : Int)) := of_decide_eq_true hb13
    refine At.cast (S' := ⟨fr 49 [(4, .p 0 0), (6, (vS Ao ps.length cs)), (7, .v (.func (.func 59) #[.pointer (aS gT1 0)] #[])), (8, .v (.func (.func 58) #[.pointer (aS gT1 0)] #[])), (9, (vI ((pen nds (nds.length - 1 : Nat) ps.length) : Int))), (33, (vB true))], [.c [(vI (ar e7 : Int)), .v (.func (.func (mayN e7.kind)) #[] #[]), .v (.func (.func (nulN e7.kind)) #[] #[])] 76, .o (.slice Ao ps.length cs) ps.length (ps.flatMap Pt.enc) 30 1]⟩) (by rw [hb13] <;> rfl) ?_
    refine At.cond_t (by kernel_rfl) ?_
    refine At.skip ?_
    refine At.then_normal ?_
    refine At.block ?_
    refine At.seq ?_
    have hpe1 := hpe e7 he8 ps.length (by omega)
    have hpl := pen_le nds (nds.length - 1 : Nat) ps.length
    have hn0 := chk_pos hok
    refine At.region ?_
    refine At.runk 3 [33, 35] [] ⟨fr 49 [(4, .p 0 0), (6, (vS Ao ps.length cs)), (7, .v (.func (.func 59) #[.pointer (aS gT1 0)] #[])), (8, .v (.func (.func 58) #[.pointer (aS gT1 0)] #[])), (9, (vI ((pen nds (nds.length - 1 : Nat) ps.length) : Int))), (34, .v (.func (.func 59) #[.pointer (aS gT1 0)] #[])), (36, (vI (IntKind.i64.wrap (((pen nds (nds.length - 1 : Nat) ps.length) : Int) - 1))))], [.c [(vI (ar e7 : Int)), .v (.func (.func (mayN e7.kind)) #[] #[]), .v (.func (.func (nulN e7.kind)) #[] #[])] 76, .o (.slice Ao ps.length cs) ps.length (ps.flatMap Pt.enc) 30 1]⟩ (by kernel_rfl) ?_
    refine At.cast (S' := ⟨fr 49 [(4, .p 0 0), (6, (vS Ao ps.length cs)), (7, .v (.func (.func 59) #[.pointer (aS gT1 0)] #[])), (8, .v (.func (.func 58) #[.pointer (aS gT1 0)] #[])), (9, (vI ((pen nds (nds.length - 1 : Nat) ps.length) : Int))), (34, .v (.func (.func 59) #[.pointer (aS gT1 0)] #[])), (36, (vI (((pen nds (nds.length - 1 : Nat) ps.length) : Int) - 1)))], [.c [(vI (ar e7 : Int)), .v (.func (.func (mayN e7.kind)) #[] #[]), .v (.func (.func (nulN e7.kind)) #[] #[])] 76, .o (.slice Ao ps.length cs) ps.length (ps.flatMap Pt.enc) 30 1]⟩) (by rw [wrapI (z := ((pen nds (nds.length - 1 : Nat) ps.length) : Int) - 1) (by omega) (by omega)]) ?_
    refine At.cast (S' := ⟨fr 49 [(4, .p 0 0), (6, (vS Ao ps.length cs)), (7, .v (.func (.func 59) #[.pointer (aS gT1 0)] #[])), (8, .v (.func (.func 58) #[.pointer (aS gT1 0)] #[])), (9, (vI ((pen nds (nds.length - 1 : Nat) ps.length) : Int))), (34, .v (.func (.func 59) #[.pointer (aS gT1 0)] #[])), (36, (vI (((pen nds (nds.length - 1 : Nat) ps.length) - 1 : Nat) : Int)))], [.c [(vI (ar e7 : Int)), .v (.func (.func (mayN e7.kind)) #[] #[]), .v (.func (.func (nulN e7.kind)) #[] #[])] 76, .o (.slice Ao ps.length cs) ps.length (ps.flatMap Pt.enc) 30 1]⟩) (by rw [show (((pen nds (nds.length - 1 : Nat) ps.length) : Int) - 1) = (((pen nds (nds.length - 1 : Nat) ps.length) - 1 : Nat) : Int) from by omega]) ?_
    refine At.callV rfl (by kernel_rfl) 59 [(vP gT1 0)] [] (by kernel_rfl) Try.func59 (by kernel_rfl) (by kernel_rfl) [(vP gT1 0), (vI (((pen nds (nds.length - 1 : Nat) ps.length) - 1 : Nat) : Int))] (by kernel_rfl) (by kernel_rfl) (begin_c Φ11 gT1 ((pen nds (nds.length - 1 : Nat) ps.length) - 1 : Nat) nds (aS b5 off6) c hR hl ndsw hT2 hok (by omega)) ?_
    rintro Φ14 _ hle15 rfl
    have hR := hR.mono hle15
    have hB0 := hB0.mono hle15
    have hT2 := hT2.mono hle15
    have hPs := hPs.mono hle15
    have hbn : pen nds (nds.length - 1 : Nat) (ps.length + 1) ≤ ((pen nds (nds.length - 1 : Nat) ps.length) - 1 : Nat) := (bg_nat nds ((pen nds (nds.length - 1 : Nat) ps.length) - 1 : Nat)).2
    refine ⟨⟨fr 49 [(4, .p 0 0), (6, (vS Ao ps.length cs)), (7, .v (.func (.func 59) #[.pointer (aS gT1 0)] #[])), (8, .v (.func (.func 58) #[.pointer (aS gT1 0)] #[])), (9, (vI ((pen nds (nds.length - 1 : Nat) ps.length) : Int))), (34, .v (.func (.func 59) #[.pointer (aS gT1 0)] #[])), (36, (vI (((pen nds (nds.length - 1 : Nat) ps.length) - 1 : Nat) : Int))), (37, (vI (pen nds (nds.length - 1 : Nat) (ps.length + 1) : Int)))], [.c [(vI (ar e7 : Int)), .v (.func (.func (mayN e7.kind)) #[] #[]), .v (.func (.func (nulN e7.kind)) #[] #[])] 76, .o (.slice Ao ps.length cs) ps.length (ps.flatMap Pt.enc) 30 1]⟩, by kernel_rfl, by kernel_rfl, ?_⟩
    refine At.runk 1 [34, 36, 37] [] ⟨fr 49 [(4, .p 0 0), (6, (vS Ao ps.length cs)), (7, .v (.func (.func 59) #[.pointer (aS gT1 0)] #[])), (8, .v (.func (.func 58) #[.pointer (aS gT1 0)] #[])), (9, (vI ((pen nds (nds.length - 1 : Nat) ps.length) : Int))), (10, (vI (pen nds (nds.length - 1 : Nat) (ps.length + 1) : Int)))], [.c [(vI (ar e7 : Int)), .v (.func (.func (mayN e7.kind)) #[] #[]), .v (.func (.func (nulN e7.kind)) #[] #[])] 76, .o (.slice Ao ps.length cs) ps.length (ps.flatMap Pt.enc) 30 1]⟩ (by kernel_rfl) ?_
    refine At.nil ?_
    refine At.then_normal ?_
    refine At.seq ?_
    refine At.region ?_
    refine At.runk 4 [6, 9] [] ⟨fr 49 [(4, .p 0 0), (7, .v (.func (.func 59) #[.pointer (aS gT1 0)] #[])), (8, .v (.func (.func 58) #[.pointer (aS gT1 0)] #[])), (10, (vI (pen nds (nds.length - 1 : Nat) (ps.length + 1) : Int))), (38, (vS Ao ps.length cs)), (39, .v (.func (.func 58) #[.pointer (aS gT1 0)] #[])), (40, (vI (pen nds (nds.length - 1 : Nat) (ps.length + 1) : Int))), (41, (vI ((pen nds (nds.length - 1 : Nat) ps.length) : Int)))], [.c [(vI (ar e7 : Int)), .v (.func (.func (mayN e7.kind)) #[] #[]), .v (.func (.func (nulN e7.kind)) #[] #[])] 76, .o (.slice Ao ps.length cs) ps.length (ps.flatMap Pt.enc) 30 1]⟩ (by kernel_rfl) ?_
    refine At.callV rfl (by kernel_rfl) 58 [(vP gT1 0)] [] (by kernel_rfl) Try.func58 (by kernel_rfl) (by kernel_rfl) [(vP gT1 0), (vI (pen nds (nds.length - 1 : Nat) (ps.length + 1) : Int)), (vI ((pen nds (nds.length - 1 : Nat) ps.length) : Int))] (by kernel_rfl) (by kernel_rfl) (cut_c Φ14 gT1 (pen nds (nds.length - 1 : Nat) (ps.length + 1)) (pen nds (nds.length - 1 : Nat) ps.length) nds (aS b5 off6) c hR hl ndsw hT2 hc (by omega) (by omega)) ?_
    rintro Φ16 ⟨Ax, cx⟩ hle17 hcx
    have hR := hR.mono hle17
    have hB0 := hB0.mono hle17
    have hT2 := hT2.mono hle17
    have hPs := hPs.mono hle17
    refine ⟨⟨fr 49 [(4, .p 0 0), (7, .v (.func (.func 59) #[.pointer (aS gT1 0)] #[])), (8, .v (.func (.func 58) #[.pointer (aS gT1 0)] #[])), (10, (vI (pen nds (nds.length - 1 : Nat) (ps.length + 1) : Int))), (38, (vS Ao ps.length cs)), (39, .v (.func (.func 58) #[.pointer (aS gT1 0)] #[])), (40, (vI (pen nds (nds.length - 1 : Nat) (ps.length + 1) : Int))), (41, (vI ((pen nds (nds.length - 1 : Nat) ps.length) : Int))), (42, (vS Ax ((sub nds (pen nds (nds.length - 1 : Nat) (ps.length + 1)) (pen nds (nds.length - 1 : Nat) ps.length)).length) cx))], [.c [(vI (ar e7 : Int)), .v (.func (.func (mayN e7.kind)) #[] #[]), .v (.func (.func (nulN e7.kind)) #[] #[])] 76, .o (.slice Ao ps.length cs) ps.length (ps.flatMap Pt.enc) 30 1, .o (.slice Ax ((sub nds (pen nds (nds.length - 1 : Nat) (ps.length + 1)) (pen nds (nds.length - 1 : Nat) ps.length)).length) cx) ((sub nds (pen nds (nds.length - 1 : Nat) (ps.length + 1)) (pen nds (nds.length - 1 : Nat) ps.length)).length) ((sub nds (pen nds (nds.length - 1 : Nat) (ps.length + 1)) (pen nds (nds.length - 1 : Nat) ps.length)).flatMap Nd.cells) 26 7]⟩, by kernel_rfl, by kernel_rfl, ?_⟩
    refine At.runk 1 [39, 40, 41, 42] [] ⟨fr 49 [(4, .p 0 0), (7, .v (.func (.func 59) #[.pointer (aS gT1 0)] #[])), (8, .v (.func (.func 58) #[.pointer (aS gT1 0)] #[])), (10, (vI (pen nds (nds.length - 1 : Nat) (ps.length + 1) : Int))), (38, (vS Ao ps.length cs)), (43, .s 3 0 1 1)], [.c [(vI (ar e7 : Int)), .v (.func (.func (mayN e7.kind)) #[] #[]), .v (.func (.func (nulN e7.kind)) #[] #[])] 76, .o (.slice Ao ps.length cs) ps.length (ps.flatMap Pt.enc) 30 1, .o (.slice Ax ((sub nds (pen nds (nds.length - 1 : Nat) (ps.length + 1)) (pen nds (nds.length - 1 : Nat) ps.length)).length) cx) ((sub nds (pen nds (nds.length - 1 : Nat) (ps.length + 1)) (pen nds (nds.length - 1 : Nat) ps.length)).length) ((sub nds (pen nds (nds.length - 1 : Nat) (ps.length + 1)) (pen nds (nds.length - 1 : Nat) ps.length)).flatMap Nd.cells) 26 7, .c [(vS Ax ((sub nds (pen nds (nds.length - 1 : Nat) (ps.length + 1)) (pen nds (nds.length - 1 : Nat) ps.length)).length) cx)] 30]⟩ (by kernel_rfl) ?_
    refine At.append rfl (by kernel_rfl) (e := 30) (inf := Try.t30) (sz := 1) (by kernel_rfl) (by kernel_rfl) rfl rfl rfl (Nat.zero_lt_succ _) 1 (V := .slice Ao ps.length cs) (n := ps.length) (xs := (ps.flatMap Pt.enc)) (by kernel_rfl) (by kernel_rfl) 1 [.slice Ax ((sub nds (pen nds (nds.length - 1 : Nat) (ps.length + 1)) (pen nds (nds.length - 1 : Nat) ps.length)).length) cx] (Src.cells (i := 3) (off := 0) (m := 1) (c := 1) (cs := [(vS Ax ((sub nds (pen nds (nds.length - 1 : Nat) (ps.length + 1)) (pen nds (nds.length - 1 : Nat) ps.length)).length) cx)]) (e := 30) (by kernel_rfl) (by kernel_rfl) (src_lits _ _ (by kernel_rfl))) (rfl) (one_lits _ (by kernel_rfl)) (by unfold maxLen; omega) (by show (ps.length + 1) * 24 ≤ _; omega) ?_
    intro A18 c19 h20 h21 h22
    refine ⟨⟨fr 49 [(4, .p 0 0), (7, .v (.func (.func 59) #[.pointer (aS gT1 0)] #[])), (8, .v (.func (.func 58) #[.pointer (aS gT1 0)] #[])), (10, (vI (pen nds (nds.length - 1 : Nat) (ps.length + 1) : Int))), (38, (vS Ao ps.length cs)), (43, .s 3 0 1 1), (44, (vS A18 (ps.length + 1) c19))], [.c [(vI (ar e7 : Int)), .v (.func (.func (mayN e7.kind)) #[] #[]), .v (.func (.func (nulN e7.kind)) #[] #[])] 76, .o (.slice A18 (ps.length + 1) c19) (ps.length + 1) ((ps.flatMap Pt.enc) ++ [.slice Ax ((sub nds (pen nds (nds.length - 1 : Nat) (ps.length + 1)) (pen nds (nds.length - 1 : Nat) ps.length)).length) cx]) 30 1, .o (.slice Ax ((sub nds (pen nds (nds.length - 1 : Nat) (ps.length + 1)) (pen nds (nds.length - 1 : Nat) ps.length)).length) cx) ((sub nds (pen nds (nds.length - 1 : Nat) (ps.length + 1)) (pen nds (nds.length - 1 : Nat) ps.length)).length) ((sub nds (pen nds (nds.length - 1 : Nat) (ps.length + 1)) (pen nds (nds.length - 1 : Nat) ps.length)).flatMap Nd.cells) 26 7, .c [(vS Ax ((sub nds (pen nds (nds.length - 1 : Nat) (ps.length + 1)) (pen nds (nds.length - 1 : Nat) ps.length)).length) cx)] 30]⟩, by kernel_rfl, ?_⟩
    have hst1 : (ps ++ [(⟨Ax, (sub nds (pen nds (nds.length - 1 : Nat) (ps.length + 1)) (pen nds (nds.length - 1 : Nat) ps.length)), cx⟩ : Pt)]).length = ps.length + 1 := by rw [List.length_append]; rfl
    have hst2 : (ps ++ [(⟨Ax, (sub nds (pen nds (nds.length - 1 : Nat) (ps.length + 1)) (pen nds (nds.length - 1 : Nat) ps.length)), cx⟩ : Pt)]).flatMap Pt.enc = ((ps.flatMap Pt.enc) ++ [.slice Ax ((sub nds (pen nds (nds.length - 1 : Nat) (ps.length + 1)) (pen nds (nds.length - 1 : Nat) ps.length)).length) cx]) := by rw [List.flatMap_append]; rfl
    refine At.cast (S' := ⟨fr 49 [(4, .p 0 0), (7, .v (.func (.func 59) #[.pointer (aS gT1 0)] #[])), (8, .v (.func (.func 58) #[.pointer (aS gT1 0)] #[])), (10, (vI (pen nds (nds.length - 1 : Nat) (ps.length + 1) : Int))), (38, (vS Ao ps.length cs)), (43, .s 3 0 1 1), (44, (vS A18 ((ps ++ [(⟨Ax, (sub nds (pen nds (nds.length - 1 : Nat) (ps.length + 1)) (pen nds (nds.length - 1 : Nat) ps.length)), cx⟩ : Pt)]).length) c19))], [.c [(vI (ar e7 : Int)), .v (.func (.func (mayN e7.kind)) #[] #[]), .v (.func (.func (nulN e7.kind)) #[] #[])] 76, .o (.slice A18 ((ps ++ [(⟨Ax, (sub nds (pen nds (nds.length - 1 : Nat) (ps.length + 1)) (pen nds (nds.length - 1 : Nat) ps.length)), cx⟩ : Pt)]).length) c19) ((ps ++ [(⟨Ax, (sub nds (pen nds (nds.length - 1 : Nat) (ps.length + 1)) (pen nds (nds.length - 1 : Nat) ps.length)), cx⟩ : Pt)]).length) ((ps ++ [(⟨Ax, (sub nds (pen nds (nds.length - 1 : Nat) (ps.length + 1)) (pen nds (nds.length - 1 : Nat) ps.length)), cx⟩ : Pt)]).flatMap Pt.enc) 30 1, .o (.slice Ax ((sub nds (pen nds (nds.length - 1 : Nat) (ps.length + 1)) (pen nds (nds.length - 1 : Nat) ps.length)).length) cx) ((sub nds (pen nds (nds.length - 1 : Nat) (ps.length + 1)) (pen nds (nds.length - 1 : Nat) ps.length)).length) ((sub nds (pen nds (nds.length - 1 : Nat) (ps.length + 1)) (pen nds (nds.length - 1 : Nat) ps.length)).flatMap Nd.cells) 26 7, .c [(vS Ax ((sub nds (pen nds (nds.length - 1 : Nat) (ps.length + 1)) (pen nds (nds.length - 1 : Nat) ps.length)).length) cx)] 30]⟩) (by rw [hst1, hst2]) ?_
    refine At.runk 1 [38, 43, 44] [3] ⟨fr 49 [(4, .p 0 0), (6, (vS A18 ((ps ++ [(⟨Ax, (sub nds (pen nds (nds.length - 1 : Nat) (ps.length + 1)) (pen nds (nds.length - 1 : Nat) ps.length)), cx⟩ : Pt)]).length) c19)), (7, .v (.func (.func 59) #[.pointer (aS gT1 0)] #[])), (8, .v (.func (.func 58) #[.pointer (aS gT1 0)] #[])), (10, (vI (pen nds (nds.length - 1 : Nat) (ps.length + 1) : Int)))], [.c [(vI (ar e7 : Int)), .v (.func (.func (mayN e7.kind)) #[] #[]), .v (.func (.func (nulN e7.kind)) #[] #[])] 76, .o (.slice A18 ((ps ++ [(⟨Ax, (sub nds (pen nds (nds.length - 1 : Nat) (ps.length + 1)) (pen nds (nds.length - 1 : Nat) ps.length)), cx⟩ : Pt)]).length) c19) ((ps ++ [(⟨Ax, (sub nds (pen nds (nds.length - 1 : Nat) (ps.length + 1)) (pen nds (nds.length - 1 : Nat) ps.length)), cx⟩ : Pt)]).length) ((ps ++ [(⟨Ax, (sub nds (pen nds (nds.length - 1 : Nat) (ps.length + 1)) (pen nds (nds.length - 1 : Nat) ps.length)), cx⟩ : Pt)]).flatMap Pt.enc) 30 1, .o (.slice Ax ((sub nds (pen nds (nds.length - 1 : Nat) (ps.length + 1)) (pen nds (nds.length - 1 : Nat) ps.length)).length) cx) ((sub nds (pen nds (nds.length - 1 : Nat) (ps.length + 1)) (pen nds (nds.length - 1 : Nat) ps.length)).length) ((sub nds (pen nds (nds.length - 1 : Nat) (ps.length + 1)) (pen nds (nds.length - 1 : Nat) ps.length)).flatMap Nd.cells) 26 7, .dead]⟩ (by kernel_rfl) ?_
    refine At.nil ?_
    refine At.then_normal ?_
    refine At.freeze (S' := ⟨fr 49 [(4, .p 0 0), (6, (vS A18 ((ps ++ [(⟨Ax, (sub nds (pen nds (nds.length - 1 : Nat) (ps.length + 1)) (pen nds (nds.length - 1 : Nat) ps.length)), cx⟩ : Pt)]).length) c19)), (7, .v (.func (.func 59) #[.pointer (aS gT1 0)] #[])), (8, .v (.func (.func 58) #[.pointer (aS gT1 0)] #[])), (10, (vI (pen nds (nds.length - 1 : Nat) (ps.length + 1) : Int)))], [.c [(vI (ar e7 : Int)), .v (.func (.func (mayN e7.kind)) #[] #[]), .v (.func (.func (nulN e7.kind)) #[] #[])] 76, .o (.slice A18 ((ps ++ [(⟨Ax, (sub nds (pen nds (nds.length - 1 : Nat) (ps.length + 1)) (pen nds (nds.length - 1 : Nat) ps.length)), cx⟩ : Pt)]).length) c19) ((ps ++ [(⟨Ax, (sub nds (pen nds (nds.length - 1 : Nat) (ps.length + 1)) (pen nds (nds.length - 1 : Nat) ps.length)), cx⟩ : Pt)]).length) ((ps ++ [(⟨Ax, (sub nds (pen nds (nds.length - 1 : Nat) (ps.length + 1)) (pen nds (nds.length - 1 : Nat) ps.length)), cx⟩ : Pt)]).flatMap Pt.enc) 30 1, .dead, .dead]⟩) 2 (A := Ax) (n := (sub nds (pen nds (nds.length - 1 : Nat) (ps.length + 1)) (pen nds (nds.length - 1 : Nat) ps.length)).length) (c := cx) (xs := ((sub nds (pen nds (nds.length - 1 : Nat) (ps.length + 1)) (pen nds (nds.length - 1 : Nat) ps.length)).flatMap Nd.cells)) (e := 26) (sz := 7) (by kernel_rfl) (bleT rfl) (by kernel_rfl) ?_
    intro Φ23 hle24 hRx
    have hR := hR.mono hle24
    have hB0 := hB0.mono hle24
    have hT2 := hT2.mono hle24
    have hPs := hPs.mono hle24
    refine At.region ?_
    refine At.runk 2 [10, 45] [] ⟨fr 49 [(4, .p 0 0), (6, (vS A18 ((ps ++ [(⟨Ax, (sub nds (pen nds (nds.length - 1 : Nat) (ps.length + 1)) (pen nds (nds.length - 1 : Nat) ps.length)), cx⟩ : Pt)]).length) c19)), (7, .v (.func (.func 59) #[.pointer (aS gT1 0)] #[])), (8, .v (.func (.func 58) #[.pointer (aS gT1 0)] #[])), (9, (vI (pen nds (nds.length - 1 : Nat) (ps.length + 1) : Int)))], [.c [(vI (ar e7 : Int)), .v (.func (.func (mayN e7.kind)) #[] #[]), .v (.func (.func (nulN e7.kind)) #[] #[])] 76, .o (.slice A18 ((ps ++ [(⟨Ax, (sub nds (pen nds (nds.length - 1 : Nat) (ps.length + 1)) (pen nds (nds.length - 1 : Nat) ps.length)), cx⟩ : Pt)]).length) c19) ((ps ++ [(⟨Ax, (sub nds (pen nds (nds.length - 1 : Nat) (ps.length + 1)) (pen nds (nds.length - 1 : Nat) ps.length)), cx⟩ : Pt)]).length) ((ps ++ [(⟨Ax, (sub nds (pen nds (nds.length - 1 : Nat) (ps.length + 1)) (pen nds (nds.length - 1 : Nat) ps.length)), cx⟩ : Pt)]).flatMap Pt.enc) 30 1, .dead, .dead]⟩ (by kernel_rfl) ?_
    refine At.nil ?_
    refine At.in_normal ?_
    refine At.forget [] 2 [] ⟨fr 49 [(4, .p 0 0), (6, (vS A18 ((ps ++ [(⟨Ax, (sub nds (pen nds (nds.length - 1 : Nat) (ps.length + 1)) (pen nds (nds.length - 1 : Nat) ps.length)), cx⟩ : Pt)]).length) c19)), (7, .v (.func (.func 59) #[.pointer (aS gT1 0)] #[])), (8, .v (.func (.func 58) #[.pointer (aS gT1 0)] #[])), (9, (vI (pen nds (nds.length - 1 : Nat) (ps.length + 1) : Int)))], [.c [(vI (ar e7 : Int)), .v (.func (.func (mayN e7.kind)) #[] #[]), .v (.func (.func (nulN e7.kind)) #[] #[])] 76, .o (.slice A18 ((ps ++ [(⟨Ax, (sub nds (pen nds (nds.length - 1 : Nat) (ps.length + 1)) (pen nds (nds.length - 1 : Nat) ps.length)), cx⟩ : Pt)]).length) c19) ((ps ++ [(⟨Ax, (sub nds (pen nds (nds.length - 1 : Nat) (ps.length + 1)) (pen nds (nds.length - 1 : Nat) ps.length)), cx⟩ : Pt)]).length) ((ps ++ [(⟨Ax, (sub nds (pen nds (nds.length - 1 : Nat) (ps.length + 1)) (pen nds (nds.length - 1 : Nat) ps.length)), cx⟩ : Pt)]).flatMap Pt.enc) 30 1]⟩ (by kernel_rfl) (by kernel_rfl) (bleT rfl) ?_
    refine At.cast (S' := ⟨fr 49 [(4, .p 0 0), (6, (vS A18 ((ps ++ [(⟨Ax, (sub nds (pen nds (nds.length - 1 : Nat) (ps.length + 1)) (pen nds (nds.length - 1 : Nat) ps.length)), cx⟩ : Pt)]).length) c19)), (7, .v (.func (.func 59) #[.pointer (aS gT1 0)] #[])), (8, .v (.func (.func 58) #[.pointer (aS gT1 0)] #[])), (9, (vI (pen nds (nds.length - 1 : Nat) (ps ++ [(⟨Ax, (sub nds (pen nds (nds.length - 1 : Nat) (ps.length + 1)) (pen nds (nds.length - 1 : Nat) ps.length)), cx⟩ : Pt)]).length : Int)))], [.c [(vI (ar e7 : Int)), .v (.func (.func (mayN e7.kind)) #[] #[]), .v (.func (.func (nulN e7.kind)) #[] #[])] 76, .o (.slice A18 ((ps ++ [(⟨Ax, (sub nds (pen nds (nds.length - 1 : Nat) (ps.length + 1)) (pen nds (nds.length - 1 : Nat) ps.length)), cx⟩ : Pt)]).length) c19) ((ps ++ [(⟨Ax, (sub nds (pen nds (nds.length - 1 : Nat) (ps.length + 1)) (pen nds (nds.length - 1 : Nat) ps.length)), cx⟩ : Pt)]).length) ((ps ++ [(⟨Ax, (sub nds (pen nds (nds.length - 1 : Nat) (ps.length + 1)) (pen nds (nds.length - 1 : Nat) ps.length)), cx⟩ : Pt)]).flatMap Pt.enc) 30 1]⟩) (by rw [hst1]) ?_
    refine At.round ((ps ++ [(⟨Ax, (sub nds (pen nds (nds.length - 1 : Nat) (ps.length + 1)) (pen nds (nds.length - 1 : Nat) ps.length)), cx⟩ : Pt)]), A18, c19) (by kernel_rfl) ((hle15.trans hle17).trans hle24) ⟨by rw [hst1]; omega, pts_snoc hPs hRx, pt_step hF.2.2.1, by rw [hst1]; exact h20⟩ (by dsimp only; rw [hst1]; omega)
  have hb13p : ¬ ((ps.length : Int) < (ar e7 : Int)) := of_decide_eq_false hb13
  refine At.cast (S' := ⟨fr 49 [(4, .p 0 0), (6, (vS Ao ps.length cs)), (7, .v (.func (.func 59) #[.pointer (aS gT1 0)] #[])), (8, .v (.func (.func 58) #[.pointer (aS gT1 0)] #[])), (9, (vI ((pen nds (nds.length - 1 : Nat) ps.length) : Int))), (33, (vB false))], [.c [(vI (ar e7 : Int)), .v (.func (.func (mayN e7.kind)) #[] #[]), .v (.func (.func (nulN e7.kind)) #[] #[])] 76, .o (.slice Ao ps.length cs) ps.length (ps.flatMap Pt.enc) 30 1]⟩) (by rw [hb13] <;> rfl) ?_
  refine At.cond_f (by kernel_rfl) ?_
  refine At.exit_ ?_
  refine At.then_exit ?_
  refine At.then_exit ?_
  refine At.in_here ?_
  refine At.then_normal ?_
  refine At.seq ?_
  refine At.region ?_
  refine At.runk 1 [4, 7, 8, 9, 33] [0] ⟨fr 49 [(6, (vS Ao ps.length cs)), (46, (vS Ao ps.length cs))], [.dead, .o (.slice Ao ps.length cs) ps.length (ps.flatMap Pt.enc) 30 1]⟩ (by kernel_rfl) ?_
  refine At.callR rfl (by kernel_rfl) 62 [] [] (by kernel_rfl) Try.func62 (by kernel_rfl) (by kernel_rfl) [1] [(vS Ao ps.length cs)] [.o (.slice Ao ps.length cs) ps.length (ps.flatMap Pt.enc) 30 1] (by kernel_rfl) (by kernel_rfl) (by decide) rfl (by intro j i hj; match j, hj with | 0, hj => cases hj; exact ⟨_, rfl, rfl⟩ | j + 1, hj => simp at hj) (rev_c Φ11 ps Ao cs (by have := ar_le e7; omega)) ?_
  rintro Φ25 ⟨⟩ hle26 -
  have hR := hR.mono hle26
  have hB0 := hB0.mono hle26
  have hT2 := hT2.mono hle26
  have hPs := hPs.mono hle26
  refine ⟨⟨fr 49 [(6, (vS Ao ps.length cs)), (46, (vS Ao ps.length cs)), (47, .tup [])], [.dead, .o (.slice Ao ps.length cs) ps.length (ps.reverse.flatMap Pt.enc) 30 1]⟩, by kernel_rfl, by kernel_rfl, ?_⟩
  refine At.cast (S' := ⟨fr 49 [(6, (vS Ao ps.reverse.length cs)), (46, (vS Ao ps.reverse.length cs)), (47, .tup [])], [.dead, .o (.slice Ao ps.reverse.length cs) ps.reverse.length (ps.reverse.flatMap Pt.enc) 30 1]⟩) (by rw [List.length_reverse]) ?_
  refine At.nil ?_
  refine At.then_normal ?_
  refine At.seq ?_
  refine At.region ?_
  refine At.runk 2 [6, 46, 47, 48] [] ⟨fr 49 [(1, (vS Ao ps.reverse.length cs))], [.dead, .o (.slice Ao ps.reverse.length cs) ps.reverse.length (ps.reverse.flatMap Pt.enc) 30 1]⟩ (by kernel_rfl) ?_
  refine At.nil ?_
  refine At.then_normal ?_
  refine At.ret_ ?_
  refine At.reorder [1] ⟨fr 49 [(1, (vS Ao ps.reverse.length cs))], [.o (.slice Ao ps.reverse.length cs) ps.reverse.length (ps.reverse.flatMap Pt.enc) 30 1]⟩ rfl (by kernel_rfl) (by kernel_rfl) (by kernel_rfl) (by decide) (by kernel_rfl) ?_
  refine At.leaveR rfl ((Ao, cs), ps.reverse) (by kernel_rfl) (by kernel_rfl) (by kernel_rfl) ?_
  refine ⟨pts_rev hPs, ?_⟩
  rw [List.map_reverse, hF.2.2.1, show ps.length = rootK nds from by rw [rootK_eq he8]; omega]

end Go.Sx
