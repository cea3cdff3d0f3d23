/- RxG: printed by wip/gen/lib04.py. Walks over functions of the program. -/
import Derived.Test.YtgkjblbmiooedaaRxF
namespace Go.Sx
open Go.Proofs Go.RowKit
theorem cl_rx_ret0 (Φ : Phi) (g0 g1 : Nat) (xs0 xs1 : List Value) : CallDG Try.prog 72 [(vP g0 0), (vP g1 0)] [.o (.slice (aS g0 0) 1 1) 1 xs0 30 1, .o (.slice (aS g1 0) 1 1) 1 xs1 33 1] Φ .returning .returning (fun _ es hp' => es = .ret (.tup []) ∧ hp' = [.o (.slice (aS g0 0) 1 1) 1 xs0 30 1, .o (.slice (aS g1 0) 1 1) 1 xs1 33 1]) := by
  refine CallDG.enter Try.func72 rfl rfl rfl rfl rfl rfl rfl (bleT rfl) .returning .returning (.nilIface) rec_ret [3, 4, 5, 6, 7, 8, 9, 10, 11, 12, 13, 14, 15, 16, 17, 18] ⟨fr 19 [(0, (vP g0 0)), (1, (vP g1 0)), (2, .v (.nilIface))], [.o (.slice (aS g0 0) 1 1) 1 xs0 30 1, .o (.slice (aS g1 0) 1 1) 1 xs1 33 1]⟩ (by kernel_rfl) (by kernel_rfl) ?_
  intro E G β0
  refine At.seq ?_
  refine At.region ?_
  refine At.runk 1 [] [] ⟨fr 19 [(0, (vP g0 0)), (1, (vP g1 0)), (2, .v (.nilIface)), (7, .v (.nilIface))], [.o (.slice (aS g0 0) 1 1) 1 xs0 30 1, .o (.slice (aS g1 0) 1 1) 1 xs1 33 1]⟩ (by kernel_rfl) ?_
  refine At.vals (S' := ⟨fr 19 [(0, (vP g0 0)), (1, (vP g1 0)), (2, .v (.nilIface)), (7, .v (.nilIface)), (8, (vB false))], [.o (.slice (aS g0 0) 1 1) 1 xs0 30 1, .o (.slice (aS g1 0) 1 1) 1 xs1 33 1]⟩) (by kernel_rfl) ((vB false)) (by kernel_rfl) (Val.nilnil rfl (ms := #[]) (by kernel_rfl) (by kernel_rfl) false (.inr ⟨rfl, rfl⟩)) ?_
  refine At.nil ?_
  refine At.then_normal ?_
  refine At.cond_f (by kernel_rfl) ?_
  refine At.skip ?_
  refine At.forget [0, 1, 2, 7, 8] 2 [] ⟨fr 19 [], [.o (.slice (aS g0 0) 1 1) 1 xs0 30 1, .o (.slice (aS g1 0) 1 1) 1 xs1 33 1]⟩ (by kernel_rfl) (by kernel_rfl) (bleT rfl) ?_
  exact At.leave_end rfl (.tup []) (by kernel_rfl) (by kernel_rfl) ⟨rfl, by kernel_rfl⟩

theorem cl_rx_ret1 (Φ : Phi) (g0 g1 : Nat) (xs0 xs1 : List Value) (V : Value) (n : Nat) (xs : List Value) (t sz : Nat) : CallDG Try.prog 72 [(vP g0 0), (vP g1 0)] [.o (.slice (aS g0 0) 1 1) 1 xs0 30 1, .o (.slice (aS g1 0) 1 1) 1 xs1 33 1, .o (V) n xs t sz] Φ .returning .returning (fun _ es hp' => es = .ret (.tup []) ∧ hp' = [.o (.slice (aS g0 0) 1 1) 1 xs0 30 1, .o (.slice (aS g1 0) 1 1) 1 xs1 33 1, .o (V) n xs t sz]) := by
  refine CallDG.enter Try.func72 rfl rfl rfl rfl rfl rfl rfl (bleT rfl) .returning .returning (.nilIface) rec_ret [3, 4, 5, 6, 7, 8, 9, 10, 11, 12, 13, 14, 15, 16, 17, 18] ⟨fr 19 [(0, (vP g0 0)), (1, (vP g1 0)), (2, .v (.nilIface))], [.o (.slice (aS g0 0) 1 1) 1 xs0 30 1, .o (.slice (aS g1 0) 1 1) 1 xs1 33 1, .o (V) n xs t sz]⟩ (by kernel_rfl) (by kernel_rfl) ?_
  intro E G β0
  refine At.seq ?_
  refine At.region ?_
  refine At.runk 1 [] [] ⟨fr 19 [(0, (vP g0 0)), (1, (vP g1 0)), (2, .v (.nilIface)), (7, .v (.nilIface))], [.o (.slice (aS g0 0) 1 1) 1 xs0 30 1, .o (.slice (aS g1 0) 1 1) 1 xs1 33 1, .o (V) n xs t sz]⟩ (by kernel_rfl) ?_
  refine At.vals (S' := ⟨fr 19 [(0, (vP g0 0)), (1, (vP g1 0)), (2, .v (.nilIface)), (7, .v (.nilIface)), (8, (vB false))], [.o (.slice (aS g0 0) 1 1) 1 xs0 30 1, .o (.slice (aS g1 0) 1 1) 1 xs1 33 1, .o (V) n xs t sz]⟩) (by kernel_rfl) ((vB false)) (by kernel_rfl) (Val.nilnil rfl (ms := #[]) (by kernel_rfl) (by kernel_rfl) false (.inr ⟨rfl, rfl⟩)) ?_
  refine At.nil ?_
  refine At.then_normal ?_
  refine At.cond_f (by kernel_rfl) ?_
  refine At.skip ?_
  refine At.forget [0, 1, 2, 7, 8] 3 [] ⟨fr 19 [], [.o (.slice (aS g0 0) 1 1) 1 xs0 30 1, .o (.slice (aS g1 0) 1 1) 1 xs1 33 1, .o (V) n xs t sz]⟩ (by kernel_rfl) (by kernel_rfl) (bleT rfl) ?_
  exact At.leave_end rfl (.tup []) (by kernel_rfl) (by kernel_rfl) ⟨rfl, by kernel_rfl⟩

theorem cl_rx_pan (Φ : Phi) (g0 g1 : Nat) (e : Int) : CallDG Try.prog 72 [(vP g0 0), (vP g1 0)] [.o (.slice (aS g0 0) 1 1) 1 [.slice none 0 0] 30 1, .o (.slice (aS g1 0) 1 1) 1 [.int .i64 0] 33 1] Φ (.panicking [{ v := (.iface 33 (.int .i64 e)), recovered := false }]) (.panicking [{ v := (.iface 33 (.int .i64 e)), recovered := true }]) (fun _ es hp' => es = .ret (.tup []) ∧ hp' = [.o (.slice (aS g0 0) 1 1) 1 [.slice none 0 0] 30 1, .o (.slice (aS g1 0) 1 1) 1 [.int .i64 e] 33 1]) := by
  refine CallDG.enter Try.func72 rfl rfl rfl rfl rfl rfl rfl (bleT rfl) (.panicking [{ v := (.iface 33 (.int .i64 e)), recovered := false }]) (.panicking [{ v := (.iface 33 (.int .i64 e)), recovered := true }]) (.iface 33 (.int .i64 e)) (rec_pan (.iface 33 (.int .i64 e))) [3, 4, 5, 6, 7, 8, 9, 10, 11, 12, 13, 14, 15, 16, 17, 18] ⟨fr 19 [(0, (vP g0 0)), (1, (vP g1 0)), (2, .v (.iface 33 (.int .i64 e)))], [.o (.slice (aS g0 0) 1 1) 1 [.slice none 0 0] 30 1, .o (.slice (aS g1 0) 1 1) 1 [.int .i64 0] 33 1]⟩ (by kernel_rfl) (by kernel_rfl) ?_
  intro E G β0
  refine At.seq ?_
  refine At.region ?_
  refine At.runk 2 [7] [] ⟨fr 19 [(0, (vP g0 0)), (1, (vP g1 0)), (2, .v (.iface 33 (.int .i64 e))), (8, (vB true))], [.o (.slice (aS g0 0) 1 1) 1 [.slice none 0 0] 30 1, .o (.slice (aS g1 0) 1 1) 1 [.int .i64 0] 33 1]⟩ (by kernel_rfl) ?_
  refine At.nil ?_
  refine At.then_normal ?_
  refine At.cond_t (by kernel_rfl) ?_
  refine At.seq ?_
  refine At.region ?_
  refine At.runk 1 [8] [] ⟨fr 19 [(0, (vP g0 0)), (1, (vP g1 0)), (2, .v (.iface 33 (.int .i64 e))), (10, .v (.iface 33 (.int .i64 e)))], [.o (.slice (aS g0 0) 1 1) 1 [.slice none 0 0] 30 1, .o (.slice (aS g1 0) 1 1) 1 [.int .i64 0] 33 1]⟩ (by kernel_rfl) ?_
  refine At.vals (S' := ⟨fr 19 [(0, (vP g0 0)), (1, (vP g1 0)), (2, .v (.iface 33 (.int .i64 e))), (10, .v (.iface 33 (.int .i64 e))), (11, .tup [(vI e), (vB true)])], [.o (.slice (aS g0 0) 1 1) 1 [.slice none 0 0] 30 1, .o (.slice (aS g1 0) 1 1) 1 [.int .i64 0] 33 1]⟩) (by kernel_rfl) (.tup [(vI e), (vB true)]) (by kernel_rfl) (Val.assert rfl (t := 33) (d := .int .i64) (by kernel_rfl) (by intro ms h; cases h) (v := .int .i64 e) (by kernel_rfl)) ?_
  refine At.runk 5 [9, 10, 11, 12, 13] [] ⟨fr 19 [(0, (vP g0 0)), (1, (vP g1 0)), (2, .v (.iface 33 (.int .i64 e))), (3, (vI e)), (4, (vB true))], [.o (.slice (aS g0 0) 1 1) 1 [.slice none 0 0] 30 1, .o (.slice (aS g1 0) 1 1) 1 [.int .i64 0] 33 1]⟩ (by kernel_rfl) ?_
  refine At.nil ?_
  refine At.then_normal ?_
  refine At.seq ?_
  refine At.seq ?_
  refine At.region ?_
  refine At.runk 2 [4, 14] [] ⟨fr 19 [(0, (vP g0 0)), (1, (vP g1 0)), (2, .v (.iface 33 (.int .i64 e))), (3, (vI e)), (15, (vB false))], [.o (.slice (aS g0 0) 1 1) 1 [.slice none 0 0] 30 1, .o (.slice (aS g1 0) 1 1) 1 [.int .i64 0] 33 1]⟩ (by kernel_rfl) ?_
  refine At.nil ?_
  refine At.then_normal ?_
  refine At.cond_f (by kernel_rfl) ?_
  refine At.skip ?_
  refine At.then_normal ?_
  refine At.seq ?_
  refine At.region ?_
  refine At.runk 1 [2, 15] [] ⟨fr 19 [(0, (vP g0 0)), (1, (vP g1 0)), (3, (vI e)), (5, (vS none 0 0))], [.o (.slice (aS g0 0) 1 1) 1 [.slice none 0 0] 30 1, .o (.slice (aS g1 0) 1 1) 1 [.int .i64 0] 33 1]⟩ (by kernel_rfl) ?_
  refine At.nil ?_
  refine At.then_normal ?_
  refine At.region ?_
  refine At.runk 2 [3, 5] [] ⟨fr 19 [(0, (vP g0 0)), (1, (vP g1 0)), (17, (vS none 0 0)), (18, (vI e))], [.o (.slice (aS g0 0) 1 1) 1 [.slice none 0 0] 30 1, .o (.slice (aS g1 0) 1 1) 1 [.int .i64 0] 33 1]⟩ (by kernel_rfl) ?_
  refine At.strow (S' := ⟨fr 19 [(0, (vP g0 0)), (1, (vP g1 0)), (17, (vS none 0 0)), (18, (vI e))], [.o (.slice (aS g0 0) 1 1) 1 [.slice none 0 0] 30 1, .o (.slice (aS g1 0) 1 1) 1 [.int .i64 0] 33 1]⟩) rfl (by kernel_rfl) (g := g0) (off := 0) (by kernel_rfl) 0 (n := 1) (cap := 1) (xs := [.slice none 0 0]) (e := 30) (sz := 1) (by kernel_rfl) [.slice none 0 0] (by kernel_rfl) (one_lits _ (by kernel_rfl)) (by kernel_rfl) (bleT rfl) (by kernel_rfl) ?_
  refine At.strow (S' := ⟨fr 19 [(0, (vP g0 0)), (1, (vP g1 0)), (17, (vS none 0 0)), (18, (vI e))], [.o (.slice (aS g0 0) 1 1) 1 [.slice none 0 0] 30 1, .o (.slice (aS g1 0) 1 1) 1 [.int .i64 e] 33 1]⟩) rfl (by kernel_rfl) (g := g1) (off := 0) (by kernel_rfl) 1 (n := 1) (cap := 1) (xs := [.int .i64 0]) (e := 33) (sz := 1) (by kernel_rfl) [.int .i64 e] (by kernel_rfl) (one_lits _ (by kernel_rfl)) (by kernel_rfl) (bleT rfl) (by kernel_rfl) ?_
  refine At.nil ?_
  refine At.forget [0, 1, 17, 18] 2 [] ⟨fr 19 [], [.o (.slice (aS g0 0) 1 1) 1 [.slice none 0 0] 30 1, .o (.slice (aS g1 0) 1 1) 1 [.int .i64 e] 33 1]⟩ (by kernel_rfl) (by kernel_rfl) (bleT rfl) ?_
  exact At.leave_end rfl (.tup []) (by kernel_rfl) (by kernel_rfl) ⟨rfl, by kernel_rfl⟩

theorem tries_rx (Φ : Phi) (f : Nat) (caps : Array Value) (fn : Func) (hf : Try.prog.funcs[f]? = some fn) (hb : fn.body.isSome = true) (hn : (fn.name == "runtime.NumGoroutine") = false) (T : Type) (sl : T → Option Addr × Nat × Nat) (ys : T → List Value) (F : T → Phi → Prop) (hF0 : ∀ t Φ Φ', PhiLe 0 Φ Φ' → F t Φ → F t Φ') (hC : CallR Try.prog f (caps.toList.map .v) [] Φ T (fun t => (vS ((sl t).1) ((sl t).2.1) ((sl t).2.2))) (fun t => [.o (.slice ((sl t).1) ((sl t).2.1) ((sl t).2.2)) ((sl t).2.1) (ys t) 26 7]) F) : CallR Try.prog 41 [.v (.func (.func f) #[] caps)] [] Φ T (fun t => .tup [(vS ((sl t).1) ((sl t).2.1) ((sl t).2.2)), (vI 0)]) (fun t => [.o (.slice ((sl t).1) ((sl t).2.1) ((sl t).2.2)) ((sl t).2.1) (ys t) 26 7]) F := by
  refine CallG.enterD Try.func41 rfl [1, 2, 3, 4, 5, 6] ⟨fr 7 [(0, .v (.func (.func f) #[] caps))], []⟩ (by kernel_rfl) (by kernel_rfl) ?_
  intro E G β0
  refine At.seq ?_
  refine At.region ?_
  refine At.runk 2 [] [] ⟨fr 7 [(0, .v (.func (.func f) #[] caps)), (2, .p 0 0), (3, .p 1 0)], [.c [(vS none 0 0)] 30, .c [(vI 0)] 33]⟩ (by kernel_rfl) ?_
  refine At.toRow 0 1 [.slice none 0 0] 1 rfl rfl rfl (bleT rfl) ?_
  intro g1
  refine ⟨⟨fr 7 [(0, .v (.func (.func f) #[] caps)), (2, (vP g1 0)), (3, .p 1 0)], [.o (.slice (aS g1 0) 1 1) 1 [.slice none 0 0] 30 1, .c [(vI 0)] 33]⟩, by kernel_rfl, by kernel_rfl, ?_⟩
  refine At.toRow 1 1 [.int .i64 0] 1 rfl rfl rfl (bleT rfl) ?_
  intro g2
  refine ⟨⟨fr 7 [(0, .v (.func (.func f) #[] caps)), (2, (vP g1 0)), (3, (vP g2 0))], [.o (.slice (aS g1 0) 1 1) 1 [.slice none 0 0] 30 1, .o (.slice (aS g2 0) 1 1) 1 [.int .i64 0] 33 1]⟩, by kernel_rfl, by kernel_rfl, ?_⟩
  refine At.nil ?_
  refine At.then_normal ?_
  refine At.seq ?_
  refine At.region ?_
  refine At.runk 1 [] [] ⟨fr 7 [(0, .v (.func (.func f) #[] caps)), (2, (vP g1 0)), (3, (vP g2 0)), (4, .fn (.func 72) [(vP g1 0), (vP g2 0)])], [.o (.slice (aS g1 0) 1 1) 1 [.slice none 0 0] 30 1, .o (.slice (aS g2 0) 1 1) 1 [.int .i64 0] 33 1]⟩ (by kernel_rfl) ?_
  refine At.defer rfl rfl (by kernel_rfl) (cl := 72) (caps := #[.pointer (aS g1 0), .pointer (aS g2 0)]) (by kernel_rfl) ?_
  refine At.nil ?_
  refine At.then_normal ?_
  refine At.seq ?_
  refine At.region ?_
  refine At.runk 1 [0, 4] [] ⟨fr 7 [(2, (vP g1 0)), (3, (vP g2 0)), (5, .v (.func (.func f) #[] caps))], [.o (.slice (aS g1 0) 1 1) 1 [.slice none 0 0] 30 1, .o (.slice (aS g2 0) 1 1) 1 [.int .i64 0] 33 1]⟩ (by kernel_rfl) ?_
  refine At.callV rfl (by kernel_rfl) f [] (caps.toList.map .v) (by kernel_rfl) hf hb hn (caps.toList.map .v) (caps_av caps) (caps_u caps) hC ?_
  intro Φ1 t hle hF
  refine ⟨⟨fr 7 [(2, (vP g1 0)), (3, (vP g2 0)), (5, .v (.func (.func f) #[] caps)), (6, (vS ((sl t).1) ((sl t).2.1) ((sl t).2.2)))], [.o (.slice (aS g1 0) 1 1) 1 [.slice none 0 0] 30 1, .o (.slice (aS g2 0) 1 1) 1 [.int .i64 0] 33 1, .o (.slice ((sl t).1) ((sl t).2.1) ((sl t).2.2)) ((sl t).2.1) (ys t) 26 7]⟩, by kernel_rfl, by kernel_rfl, ?_⟩
  refine At.strow (S' := ⟨fr 7 [(2, (vP g1 0)), (3, (vP g2 0)), (5, .v (.func (.func f) #[] caps)), (6, (vS ((sl t).1) ((sl t).2.1) ((sl t).2.2)))], [.o (.slice (aS g1 0) 1 1) 1 [.slice ((sl t).1) ((sl t).2.1) ((sl t).2.2)] 30 1, .o (.slice (aS g2 0) 1 1) 1 [.int .i64 0] 33 1, .o (.slice ((sl t).1) ((sl t).2.1) ((sl t).2.2)) ((sl t).2.1) (ys t) 26 7]⟩) rfl (by kernel_rfl) (g := g1) (off := 0) (by kernel_rfl) 0 (n := 1) (cap := 1) (xs := [.slice none 0 0]) (e := 30) (sz := 1) (by kernel_rfl) [.slice ((sl t).1) ((sl t).2.1) ((sl t).2.2)] (by kernel_rfl) (one_lits _ (by kernel_rfl)) (by kernel_rfl) (bleT rfl) (by kernel_rfl) ?_
  refine At.strow (S' := ⟨fr 7 [(2, (vP g1 0)), (3, (vP g2 0)), (5, .v (.func (.func f) #[] caps)), (6, (vS ((sl t).1) ((sl t).2.1) ((sl t).2.2)))], [.o (.slice (aS g1 0) 1 1) 1 [.slice ((sl t).1) ((sl t).2.1) ((sl t).2.2)] 30 1, .o (.slice (aS g2 0) 1 1) 1 [.int .i64 0] 33 1, .o (.slice ((sl t).1) ((sl t).2.1) ((sl t).2.2)) ((sl t).2.1) (ys t) 26 7]⟩) rfl (by kernel_rfl) (g := g2) (off := 0) (by kernel_rfl) 1 (n := 1) (cap := 1) (xs := [.int .i64 0]) (e := 33) (sz := 1) (by kernel_rfl) [.int .i64 0] (by kernel_rfl) (one_lits _ (by kernel_rfl)) (by kernel_rfl) (bleT rfl) (by kernel_rfl) ?_
  refine At.nil ?_
  refine At.then_normal ?_
  refine At.ret_ ?_
  refine At.ret_D ?_
  refine At.leaveD (cl := 72) (caps := #[.pointer (aS g1 0), .pointer (aS g2 0)]) rfl Try.func72 (by kernel_rfl) (by kernel_rfl) [.o (.slice (aS g1 0) 1 1) 1 [.slice ((sl t).1) ((sl t).2.1) ((sl t).2.2)] 30 1, .o (.slice (aS g2 0) 1 1) 1 [.int .i64 0] 33 1, .o (.slice ((sl t).1) ((sl t).2.1) ((sl t).2.2)) ((sl t).2.1) (ys t) 26 7] (by kernel_rfl) (by intro b hb; simp only [List.mem_cons, List.not_mem_nil, or_false] at hb; rcases hb with rfl | rfl | rfl <;> exact .inr ⟨_, _, _, _, _, rfl⟩) .returning .returning (by intro h; cases h) (cl_rx_ret1 Φ1 g1 g2 [.slice ((sl t).1) ((sl t).2.1) ((sl t).2.2)] [.int .i64 0] (.slice ((sl t).1) ((sl t).2.1) ((sl t).2.2)) ((sl t).2.1) (ys t) 26 7) (fun _ _ _ h => by cases h.1) rfl (by intro Φ' x hp' hq; obtain ⟨_, rfl⟩ := hq; refine ⟨rfl, ?_⟩; intro b hb; simp only [List.mem_cons, List.not_mem_nil, or_false] at hb; rcases hb with rfl | rfl | rfl <;> exact .inr ⟨_, _, _, _, _, rfl⟩) ?_
  rintro Φ2 x hp2 hle2 ⟨_, rfl⟩
  refine At.cast (S' := ⟨fr 7 [(2, (vP g1 0)), (3, (vP g2 0)), (5, .v (.func (.func f) #[] caps)), (6, (vS ((sl t).1) ((sl t).2.1) ((sl t).2.2)))], [.o (.slice (aS g1 0) 1 1) 1 [.slice ((sl t).1) ((sl t).2.1) ((sl t).2.2)] 30 1, .o (.slice (aS g2 0) 1 1) 1 [.int .i64 0] 33 1, .o (.slice ((sl t).1) ((sl t).2.1) ((sl t).2.2)) ((sl t).2.1) (ys t) 26 7]⟩) (by kernel_rfl) ?_
  refine At.rotate2 rfl ?_
  refine At.cast (S' := ⟨fr 7 [(2, (vP g1 0)), (3, (vP g2 0)), (5, .v (.func (.func f) #[] caps)), (6, (vS ((sl t).1) ((sl t).2.1) ((sl t).2.2)))], [.o (.slice ((sl t).1) ((sl t).2.1) ((sl t).2.2)) ((sl t).2.1) (ys t) 26 7, .o (.slice (aS g1 0) 1 1) 1 [.slice ((sl t).1) ((sl t).2.1) ((sl t).2.2)] 30 1, .o (.slice (aS g2 0) 1 1) 1 [.int .i64 0] 33 1]⟩) (by kernel_rfl) ?_
  refine At.resD rfl [2, 3, 5, 6] 1 [] ⟨fr 7 [], [.o (.slice ((sl t).1) ((sl t).2.1) ((sl t).2.2)) ((sl t).2.1) (ys t) 26 7]⟩ t (.tuple #[.slice ((sl t).1) ((sl t).2.1) ((sl t).2.2), .int .i64 0]) (fun _ => rfl) (res_rows2 rfl (g0 := g1) (g1 := g2) (by kernel_rfl) (by kernel_rfl) 1 2 (n0 := 1) (c0 := 1) (t0 := 30) (s0 := 1) (n1 := 1) (c1 := 1) (t1 := 33) (s1 := 1) (xs0 := [.slice ((sl t).1) ((sl t).2.1) ((sl t).2.2)]) (xs1 := [.int .i64 0]) (by kernel_rfl) (by kernel_rfl) ((vS ((sl t).1) ((sl t).2.1) ((sl t).2.2))) ((vI 0)) (by kernel_rfl) (by kernel_rfl) (by kernel_rfl) (by kernel_rfl) (fun _ => rfl)) (by kernel_rfl) (by kernel_rfl) (bleT rfl) (by kernel_rfl) (by kernel_rfl) (hF0 _ _ _ hle2 hF)

theorem tries_rx_no (Φ : Phi) (f : Nat) (caps : Array Value) (fn : Func) (hf : Try.prog.funcs[f]? = some fn) (hb : fn.body.isSome = true) (hn : (fn.name == "runtime.NumGoroutine") = false) (e : Int) (hC : CallP Try.prog f (caps.toList.map .v) [] Φ [{ v := .iface 33 (.int .i64 e), recovered := false }]) : CallR Try.prog 41 [.v (.func (.func f) #[] caps)] [] Φ Unit (fun _ => .tup [(vS none 0 0), (vI e)]) (fun _ => []) (fun _ _ => True) := by
  refine CallG.enterD Try.func41 rfl [1, 2, 3, 4, 5, 6] ⟨fr 7 [(0, .v (.func (.func f) #[] caps))], []⟩ (by kernel_rfl) (by kernel_rfl) ?_
  intro E G β0
  refine At.seq ?_
  refine At.region ?_
  refine At.runk 2 [] [] ⟨fr 7 [(0, .v (.func (.func f) #[] caps)), (2, .p 0 0), (3, .p 1 0)], [.c [(vS none 0 0)] 30, .c [(vI 0)] 33]⟩ (by kernel_rfl) ?_
  refine At.toRow 0 1 [.slice none 0 0] 1 rfl rfl rfl (bleT rfl) ?_
  intro g1
  refine ⟨⟨fr 7 [(0, .v (.func (.func f) #[] caps)), (2, (vP g1 0)), (3, .p 1 0)], [.o (.slice (aS g1 0) 1 1) 1 [.slice none 0 0] 30 1, .c [(vI 0)] 33]⟩, by kernel_rfl, by kernel_rfl, ?_⟩
  refine At.toRow 1 1 [.int .i64 0] 1 rfl rfl rfl (bleT rfl) ?_
  intro g2
  refine ⟨⟨fr 7 [(0, .v (.func (.func f) #[] caps)), (2, (vP g1 0)), (3, (vP g2 0))], [.o (.slice (aS g1 0) 1 1) 1 [.slice none 0 0] 30 1, .o (.slice (aS g2 0) 1 1) 1 [.int .i64 0] 33 1]⟩, by kernel_rfl, by kernel_rfl, ?_⟩
  refine At.nil ?_
  refine At.then_normal ?_
  refine At.seq ?_
  refine At.region ?_
  refine At.runk 1 [] [] ⟨fr 7 [(0, .v (.func (.func f) #[] caps)), (2, (vP g1 0)), (3, (vP g2 0)), (4, .fn (.func 72) [(vP g1 0), (vP g2 0)])], [.o (.slice (aS g1 0) 1 1) 1 [.slice none 0 0] 30 1, .o (.slice (aS g2 0) 1 1) 1 [.int .i64 0] 33 1]⟩ (by kernel_rfl) ?_
  refine At.defer rfl rfl (by kernel_rfl) (cl := 72) (caps := #[.pointer (aS g1 0), .pointer (aS g2 0)]) (by kernel_rfl) ?_
  refine At.nil ?_
  refine At.then_normal ?_
  refine At.seq ?_
  refine At.region ?_
  refine At.runk 1 [0, 4] [] ⟨fr 7 [(2, (vP g1 0)), (3, (vP g2 0)), (5, .v (.func (.func f) #[] caps))], [.o (.slice (aS g1 0) 1 1) 1 [.slice none 0 0] 30 1, .o (.slice (aS g2 0) 1 1) 1 [.int .i64 0] 33 1]⟩ (by kernel_rfl) ?_
  refine At.callP rfl (by kernel_rfl) f [] (caps.toList.map .v) (by kernel_rfl) hf hb hn (caps.toList.map .v) (caps_av caps) (caps_u caps) hC ?_
  intro Φ1 hle
  refine ⟨⟨fr 7 [(2, (vP g1 0)), (3, (vP g2 0)), (5, .v (.func (.func f) #[] caps))], [.o (.slice (aS g1 0) 1 1) 1 [.slice none 0 0] 30 1, .o (.slice (aS g2 0) 1 1) 1 [.int .i64 0] 33 1]⟩, by kernel_rfl, by kernel_rfl, ?_⟩
  refine At.then_panic ?_
  refine At.panic_D ?_
  refine At.leaveD (cl := 72) (caps := #[.pointer (aS g1 0), .pointer (aS g2 0)]) rfl Try.func72 (by kernel_rfl) (by kernel_rfl) [.o (.slice (aS g1 0) 1 1) 1 [.slice none 0 0] 30 1, .o (.slice (aS g2 0) 1 1) 1 [.int .i64 0] 33 1] (by kernel_rfl) (by intro b hb; simp only [List.mem_cons, List.not_mem_nil, or_false] at hb; rcases hb with rfl | rfl <;> exact .inr ⟨_, _, _, _, _, rfl⟩) (.panicking [{ v := (.iface 33 (.int .i64 e)), recovered := false }]) (.panicking [{ v := (.iface 33 (.int .i64 e)), recovered := true }]) (by intro h; cases h) (cl_rx_pan Φ1 g1 g2 e) (fun _ _ _ h => by cases h.1) rfl (by intro Φ' x hp' hq; obtain ⟨_, rfl⟩ := hq; refine ⟨rfl, ?_⟩; intro b hb; simp only [List.mem_cons, List.not_mem_nil, or_false] at hb; rcases hb with rfl | rfl <;> exact .inr ⟨_, _, _, _, _, rfl⟩) ?_
  rintro Φ2 x hp2 hle2 ⟨_, rfl⟩
  refine At.cast (S' := ⟨fr 7 [(2, (vP g1 0)), (3, (vP g2 0)), (5, .v (.func (.func f) #[] caps))], [.o (.slice (aS g1 0) 1 1) 1 [.slice none 0 0] 30 1, .o (.slice (aS g2 0) 1 1) 1 [.int .i64 e] 33 1]⟩) (by kernel_rfl) ?_
  refine At.resD rfl [2, 3, 5] 0 [] ⟨fr 7 [], []⟩ () (.tuple #[.slice none 0 0, .int .i64 e]) (fun _ => rfl) (res_rows2 rfl (g0 := g1) (g1 := g2) (by kernel_rfl) (by kernel_rfl) 0 1 (n0 := 1) (c0 := 1) (t0 := 30) (s0 := 1) (n1 := 1) (c1 := 1) (t1 := 33) (s1 := 1) (xs0 := [.slice none 0 0]) (xs1 := [.int .i64 e]) (by kernel_rfl) (by kernel_rfl) ((vS none 0 0)) ((vI e)) (by kernel_rfl) (by kernel_rfl) (by kernel_rfl) (by kernel_rfl) (fun _ => rfl)) (by kernel_rfl) (by kernel_rfl) (bleT rfl) (by kernel_rfl) (by kernel_rfl) trivial

theorem cl_int_ret0 (Φ : Phi) (g0 g1 : Nat) (xs0 xs1 : List Value) : CallDG Try.prog 90 [(vP g0 0), (vP g1 0)] [.o (.slice (aS g0 0) 1 1) 1 xs0 3 1, .o (.slice (aS g1 0) 1 1) 1 xs1 33 1] Φ .returning .returning (fun _ es hp' => es = .ret (.tup []) ∧ hp' = [.o (.slice (aS g0 0) 1 1) 1 xs0 3 1, .o (.slice (aS g1 0) 1 1) 1 xs1 33 1]) := by
  refine CallDG.enter Try.func90 rfl rfl rfl rfl rfl rfl rfl (bleT rfl) .returning .returning (.nilIface) rec_ret [3, 4, 5, 6, 7, 8, 9, 10, 11, 12, 13, 14, 15, 16, 17, 18] ⟨fr 19 [(0, (vP g0 0)), (1, (vP g1 0)), (2, .v (.nilIface))], [.o (.slice (aS g0 0) 1 1) 1 xs0 3 1, .o (.slice (aS g1 0) 1 1) 1 xs1 33 1]⟩ (by kernel_rfl) (by kernel_rfl) ?_
  intro E G β0
  refine At.seq ?_
  refine At.region ?_
  refine At.runk 1 [] [] ⟨fr 19 [(0, (vP g0 0)), (1, (vP g1 0)), (2, .v (.nilIface)), (7, .v (.nilIface))], [.o (.slice (aS g0 0) 1 1) 1 xs0 3 1, .o (.slice (aS g1 0) 1 1) 1 xs1 33 1]⟩ (by kernel_rfl) ?_
  refine At.vals (S' := ⟨fr 19 [(0, (vP g0 0)), (1, (vP g1 0)), (2, .v (.nilIface)), (7, .v (.nilIface)), (8, (vB false))], [.o (.slice (aS g0 0) 1 1) 1 xs0 3 1, .o (.slice (aS g1 0) 1 1) 1 xs1 33 1]⟩) (by kernel_rfl) ((vB false)) (by kernel_rfl) (Val.nilnil rfl (ms := #[]) (by kernel_rfl) (by kernel_rfl) false (.inr ⟨rfl, rfl⟩)) ?_
  refine At.nil ?_
  refine At.then_normal ?_
  refine At.cond_f (by kernel_rfl) ?_
  refine At.skip ?_
  refine At.forget [0, 1, 2, 7, 8] 2 [] ⟨fr 19 [], [.o (.slice (aS g0 0) 1 1) 1 xs0 3 1, .o (.slice (aS g1 0) 1 1) 1 xs1 33 1]⟩ (by kernel_rfl) (by kernel_rfl) (bleT rfl) ?_
  exact At.leave_end rfl (.tup []) (by kernel_rfl) (by kernel_rfl) ⟨rfl, by kernel_rfl⟩

theorem cl_int_pan (Φ : Phi) (g0 g1 : Nat) (e : Int) : CallDG Try.prog 90 [(vP g0 0), (vP g1 0)] [.o (.slice (aS g0 0) 1 1) 1 [.int .i64 0] 3 1, .o (.slice (aS g1 0) 1 1) 1 [.int .i64 0] 33 1] Φ (.panicking [{ v := (.iface 33 (.int .i64 e)), recovered := false }]) (.panicking [{ v := (.iface 33 (.int .i64 e)), recovered := true }]) (fun _ es hp' => es = .ret (.tup []) ∧ hp' = [.o (.slice (aS g0 0) 1 1) 1 [.int .i64 0] 3 1, .o (.slice (aS g1 0) 1 1) 1 [.int .i64 e] 33 1]) := by
  refine CallDG.enter Try.func90 rfl rfl rfl rfl rfl rfl rfl (bleT rfl) (.panicking [{ v := (.iface 33 (.int .i64 e)), recovered := false }]) (.panicking [{ v := (.iface 33 (.int .i64 e)), recovered := true }]) (.iface 33 (.int .i64 e)) (rec_pan (.iface 33 (.int .i64 e))) [3, 4, 5, 6, 7, 8, 9, 10, 11, 12, 13, 14, 15, 16, 17, 18] ⟨fr 19 [(0, (vP g0 0)), (1, (vP g1 0)), (2, .v (.iface 33 (.int .i64 e)))], [.o (.slice (aS g0 0) 1 1) 1 [.int .i64 0] 3 1, .o (.slice (aS g1 0) 1 1) 1 [.int .i64 0] 33 1]⟩ (by kernel_rfl) (by kernel_rfl) ?_
  intro E G β0
  refine At.seq ?_
  refine At.region ?_
  refine At.runk 2 [7] [] ⟨fr 19 [(0, (vP g0 0)), (1, (vP g1 0)), (2, .v (.iface 33 (.int .i64 e))), (8, (vB true))], [.o (.slice (aS g0 0) 1 1) 1 [.int .i64 0] 3 1, .o (.slice (aS g1 0) 1 1) 1 [.int .i64 0] 33 1]⟩ (by kernel_rfl) ?_
  refine At.nil ?_
  refine At.then_normal ?_
  refine At.cond_t (by kernel_rfl) ?_
  refine At.seq ?_
  refine At.region ?_
  refine At.runk 1 [8] [] ⟨fr 19 [(0, (vP g0 0)), (1, (vP g1 0)), (2, .v (.iface 33 (.int .i64 e))), (10, .v (.iface 33 (.int .i64 e)))], [.o (.slice (aS g0 0) 1 1) 1 [.int .i64 0] 3 1, .o (.slice (aS g1 0) 1 1) 1 [.int .i64 0] 33 1]⟩ (by kernel_rfl) ?_
  refine At.vals (S' := ⟨fr 19 [(0, (vP g0 0)), (1, (vP g1 0)), (2, .v (.iface 33 (.int .i64 e))), (10, .v (.iface 33 (.int .i64 e))), (11, .tup [(vI e), (vB true)])], [.o (.slice (aS g0 0) 1 1) 1 [.int .i64 0] 3 1, .o (.slice (aS g1 0) 1 1) 1 [.int .i64 0] 33 1]⟩) (by kernel_rfl) (.tup [(vI e), (vB true)]) (by kernel_rfl) (Val.assert rfl (t := 33) (d := .int .i64) (by kernel_rfl) (by intro ms h; cases h) (v := .int .i64 e) (by kernel_rfl)) ?_
  refine At.runk 5 [9, 10, 11, 12, 13] [] ⟨fr 19 [(0, (vP g0 0)), (1, (vP g1 0)), (2, .v (.iface 33 (.int .i64 e))), (3, (vI e)), (4, (vB true))], [.o (.slice (aS g0 0) 1 1) 1 [.int .i64 0] 3 1, .o (.slice (aS g1 0) 1 1) 1 [.int .i64 0] 33 1]⟩ (by kernel_rfl) ?_
  refine At.nil ?_
  refine At.then_normal ?_
  refine At.seq ?_
  refine At.seq ?_
  refine At.region ?_
  refine At.runk 2 [4, 14] [] ⟨fr 19 [(0, (vP g0 0)), (1, (vP g1 0)), (2, .v (.iface 33 (.int .i64 e))), (3, (vI e)), (15, (vB false))], [.o (.slice (aS g0 0) 1 1) 1 [.int .i64 0] 3 1, .o (.slice (aS g1 0) 1 1) 1 [.int .i64 0] 33 1]⟩ (by kernel_rfl) ?_
  refine At.nil ?_
  refine At.then_normal ?_
  refine At.cond_f (by kernel_rfl) ?_
  refine At.skip ?_
  refine At.then_normal ?_
  refine At.seq ?_
  refine At.region ?_
  refine At.runk 1 [2, 15] [] ⟨fr 19 [(0, (vP g0 0)), (1, (vP g1 0)), (3, (vI e)), (5, (vI 0))], [.o (.slice (aS g0 0) 1 1) 1 [.int .i64 0] 3 1, .o (.slice (aS g1 0) 1 1) 1 [.int .i64 0] 33 1]⟩ (by kernel_rfl) ?_
  refine At.nil ?_
  refine At.then_normal ?_
  refine At.region ?_
  refine At.runk 2 [3, 5] [] ⟨fr 19 [(0, (vP g0 0)), (1, (vP g1 0)), (17, (vI 0)), (18, (vI e))], [.o (.slice (aS g0 0) 1 1) 1 [.int .i64 0] 3 1, .o (.slice (aS g1 0) 1 1) 1 [.int .i64 0] 33 1]⟩ (by kernel_rfl) ?_
  refine At.strow (S' := ⟨fr 19 [(0, (vP g0 0)), (1, (vP g1 0)), (17, (vI 0)), (18, (vI e))], [.o (.slice (aS g0 0) 1 1) 1 [.int .i64 0] 3 1, .o (.slice (aS g1 0) 1 1) 1 [.int .i64 0] 33 1]⟩) rfl (by kernel_rfl) (g := g0) (off := 0) (by kernel_rfl) 0 (n := 1) (cap := 1) (xs := [.int .i64 0]) (e := 3) (sz := 1) (by kernel_rfl) [.int .i64 0] (by kernel_rfl) (one_lits _ (by kernel_rfl)) (by kernel_rfl) (bleT rfl) (by kernel_rfl) ?_
  refine At.strow (S' := ⟨fr 19 [(0, (vP g0 0)), (1, (vP g1 0)), (17, (vI 0)), (18, (vI e))], [.o (.slice (aS g0 0) 1 1) 1 [.int .i64 0] 3 1, .o (.slice (aS g1 0) 1 1) 1 [.int .i64 e] 33 1]⟩) rfl (by kernel_rfl) (g := g1) (off := 0) (by kernel_rfl) 1 (n := 1) (cap := 1) (xs := [.int .i64 0]) (e := 33) (sz := 1) (by kernel_rfl) [.int .i64 e] (by kernel_rfl) (one_lits _ (by kernel_rfl)) (by kernel_rfl) (bleT rfl) (by kernel_rfl) ?_
  refine At.nil ?_
  refine At.forget [0, 1, 17, 18] 2 [] ⟨fr 19 [], [.o (.slice (aS g0 0) 1 1) 1 [.int .i64 0] 3 1, .o (.slice (aS g1 0) 1 1) 1 [.int .i64 e] 33 1]⟩ (by kernel_rfl) (by kernel_rfl) (bleT rfl) ?_
  exact At.leave_end rfl (.tup []) (by kernel_rfl) (by kernel_rfl) ⟨rfl, by kernel_rfl⟩

theorem tries_int (Φ : Phi) (f : Nat) (caps : Array Value) (fn : Func) (hf : Try.prog.funcs[f]? = some fn) (hb : fn.body.isSome = true) (hn : (fn.name == "runtime.NumGoroutine") = false) (T : Type) (iv : T → Int) (F : T → Phi → Prop) (hF0 : ∀ t Φ Φ', PhiLe 0 Φ Φ' → F t Φ → F t Φ') (hC : CallR Try.prog f (caps.toList.map .v) [] Φ T (fun t => (vI (iv t))) (fun t => []) F) : CallR Try.prog 66 [.v (.func (.func f) #[] caps)] [] Φ T (fun t => .tup [(vI (iv t)), (vI 0)]) (fun t => []) F := by
  refine CallG.enterD Try.func66 rfl [1, 2, 3, 4, 5, 6] ⟨fr 7 [(0, .v (.func (.func f) #[] caps))], []⟩ (by kernel_rfl) (by kernel_rfl) ?_
  intro E G β0
  refine At.seq ?_
  refine At.region ?_
  refine At.runk 2 [] [] ⟨fr 7 [(0, .v (.func (.func f) #[] caps)), (2, .p 0 0), (3, .p 1 0)], [.c [(vI 0)] 3, .c [(vI 0)] 33]⟩ (by kernel_rfl) ?_
  refine At.toRow 0 1 [.int .i64 0] 1 rfl rfl rfl (bleT rfl) ?_
  intro g1
  refine ⟨⟨fr 7 [(0, .v (.func (.func f) #[] caps)), (2, (vP g1 0)), (3, .p 1 0)], [.o (.slice (aS g1 0) 1 1) 1 [.int .i64 0] 3 1, .c [(vI 0)] 33]⟩, by kernel_rfl, by kernel_rfl, ?_⟩
  refine At.toRow 1 1 [.int .i64 0] 1 rfl rfl rfl (bleT rfl) ?_
  intro g2
  refine ⟨⟨fr 7 [(0, .v (.func (.func f) #[] caps)), (2, (vP g1 0)), (3, (vP g2 0))], [.o (.slice (aS g1 0) 1 1) 1 [.int .i64 0] 3 1, .o (.slice (aS g2 0) 1 1) 1 [.int .i64 0] 33 1]⟩, by kernel_rfl, by kernel_rfl, ?_⟩
  refine At.nil ?_
  refine At.then_normal ?_
  refine At.seq ?_
  refine At.region ?_
  refine At.runk 1 [] [] ⟨fr 7 [(0, .v (.func (.func f) #[] caps)), (2, (vP g1 0)), (3, (vP g2 0)), (4, .fn (.func 90) [(vP g1 0), (vP g2 0)])], [.o (.slice (aS g1 0) 1 1) 1 [.int .i64 0] 3 1, .o (.slice (aS g2 0) 1 1) 1 [.int .i64 0] 33 1]⟩ (by kernel_rfl) ?_
  refine At.defer rfl rfl (by kernel_rfl) (cl := 90) (caps := #[.pointer (aS g1 0), .pointer (aS g2 0)]) (by kernel_rfl) ?_
  refine At.nil ?_
  refine At.then_normal ?_
  refine At.seq ?_
  refine At.region ?_
  refine At.runk 1 [0, 4] [] ⟨fr 7 [(2, (vP g1 0)), (3, (vP g2 0)), (5, .v (.func (.func f) #[] caps))], [.o (.slice (aS g1 0) 1 1) 1 [.int .i64 0] 3 1, .o (.slice (aS g2 0) 1 1) 1 [.int .i64 0] 33 1]⟩ (by kernel_rfl) ?_
  refine At.callV rfl (by kernel_rfl) f [] (caps.toList.map .v) (by kernel_rfl) hf hb hn (caps.toList.map .v) (caps_av caps) (caps_u caps) hC ?_
  intro Φ1 t hle hF
  refine ⟨⟨fr 7 [(2, (vP g1 0)), (3, (vP g2 0)), (5, .v (.func (.func f) #[] caps)), (6, (vI (iv t)))], [.o (.slice (aS g1 0) 1 1) 1 [.int .i64 0] 3 1, .o (.slice (aS g2 0) 1 1) 1 [.int .i64 0] 33 1]⟩, by kernel_rfl, by kernel_rfl, ?_⟩
  refine At.strow (S' := ⟨fr 7 [(2, (vP g1 0)), (3, (vP g2 0)), (5, .v (.func (.func f) #[] caps)), (6, (vI (iv t)))], [.o (.slice (aS g1 0) 1 1) 1 [.int .i64 (iv t)] 3 1, .o (.slice (aS g2 0) 1 1) 1 [.int .i64 0] 33 1]⟩) rfl (by kernel_rfl) (g := g1) (off := 0) (by kernel_rfl) 0 (n := 1) (cap := 1) (xs := [.int .i64 0]) (e := 3) (sz := 1) (by kernel_rfl) [.int .i64 (iv t)] (by kernel_rfl) (one_lits _ (by kernel_rfl)) (by kernel_rfl) (bleT rfl) (by kernel_rfl) ?_
  refine At.strow (S' := ⟨fr 7 [(2, (vP g1 0)), (3, (vP g2 0)), (5, .v (.func (.func f) #[] caps)), (6, (vI (iv t)))], [.o (.slice (aS g1 0) 1 1) 1 [.int .i64 (iv t)] 3 1, .o (.slice (aS g2 0) 1 1) 1 [.int .i64 0] 33 1]⟩) rfl (by kernel_rfl) (g := g2) (off := 0) (by kernel_rfl) 1 (n := 1) (cap := 1) (xs := [.int .i64 0]) (e := 33) (sz := 1) (by kernel_rfl) [.int .i64 0] (by kernel_rfl) (one_lits _ (by kernel_rfl)) (by kernel_rfl) (bleT rfl) (by kernel_rfl) ?_
  refine At.nil ?_
  refine At.then_normal ?_
  refine At.ret_ ?_
  refine At.ret_D ?_
  refine At.leaveD (cl := 90) (caps := #[.pointer (aS g1 0), .pointer (aS g2 0)]) rfl Try.func90 (by kernel_rfl) (by kernel_rfl) [.o (.slice (aS g1 0) 1 1) 1 [.int .i64 (iv t)] 3 1, .o (.slice (aS g2 0) 1 1) 1 [.int .i64 0] 33 1] (by kernel_rfl) (by intro b hb; simp only [List.mem_cons, List.not_mem_nil, or_false] at hb; rcases hb with rfl | rfl <;> exact .inr ⟨_, _, _, _, _, rfl⟩) .returning .returning (by intro h; cases h) (cl_int_ret0 Φ1 g1 g2 [.int .i64 (iv t)] [.int .i64 0]) (fun _ _ _ h => by cases h.1) rfl (by intro Φ' x hp' hq; obtain ⟨_, rfl⟩ := hq; refine ⟨rfl, ?_⟩; intro b hb; simp only [List.mem_cons, List.not_mem_nil, or_false] at hb; rcases hb with rfl | rfl <;> exact .inr ⟨_, _, _, _, _, rfl⟩) ?_
  rintro Φ2 x hp2 hle2 ⟨_, rfl⟩
  refine At.cast (S' := ⟨fr 7 [(2, (vP g1 0)), (3, (vP g2 0)), (5, .v (.func (.func f) #[] caps)), (6, (vI (iv t)))], [.o (.slice (aS g1 0) 1 1) 1 [.int .i64 (iv t)] 3 1, .o (.slice (aS g2 0) 1 1) 1 [.int .i64 0] 33 1]⟩) (by kernel_rfl) ?_
  refine At.resD rfl [2, 3, 5, 6] 0 [] ⟨fr 7 [], []⟩ t (.tuple #[.int .i64 (iv t), .int .i64 0]) (fun _ => rfl) (res_rows2 rfl (g0 := g1) (g1 := g2) (by kernel_rfl) (by kernel_rfl) 0 1 (n0 := 1) (c0 := 1) (t0 := 3) (s0 := 1) (n1 := 1) (c1 := 1) (t1 := 33) (s1 := 1) (xs0 := [.int .i64 (iv t)]) (xs1 := [.int .i64 0]) (by kernel_rfl) (by kernel_rfl) ((vI (iv t))) ((vI 0)) (by kernel_rfl) (by kernel_rfl) (by kernel_rfl) (by kernel_rfl) (fun _ => rfl)) (by kernel_rfl) (by kernel_rfl) (bleT rfl) (by kernel_rfl) (by kernel_rfl) (hF0 _ _ _ hle2 hF)

theorem tries_int_no (Φ : Phi) (f : Nat) (caps : Array Value) (fn : Func) (hf : Try.prog.funcs[f]? = some fn) (hb : fn.body.isSome = true) (hn : (fn.name == "runtime.NumGoroutine") = false) (e : Int) (hC : CallP Try.prog f (caps.toList.map .v) [] Φ [{ v := .iface 33 (.int .i64 e), recovered := false }]) : CallR Try.prog 66 [.v (.func (.func f) #[] caps)] [] Φ Unit (fun _ => .tup [(vI 0), (vI e)]) (fun _ => []) (fun _ _ => True) := by
  refine CallG.enterD Try.func66 rfl [1, 2, 3, 4, 5, 6] ⟨fr 7 [(0, .v (.func (.func f) #[] caps))], []⟩ (by kernel_rfl) (by kernel_rfl) ?_
  intro E G β0
  refine At.seq ?_
  refine At.region ?_
  refine At.runk 2 [] [] ⟨fr 7 [(0, .v (.func (.func f) #[] caps)), (2, .p 0 0), (3, .p 1 0)], [.c [(vI 0)] 3, .c [(vI 0)] 33]⟩ (by kernel_rfl) ?_
  refine At.toRow 0 1 [.int .i64 0] 1 rfl rfl rfl (bleT rfl) ?_
  intro g1
  refine ⟨⟨fr 7 [(0, .v (.func (.func f) #[] caps)), (2, (vP g1 0)), (3, .p 1 0)], [.o (.slice (aS g1 0) 1 1) 1 [.int .i64 0] 3 1, .c [(vI 0)] 33]⟩, by kernel_rfl, by kernel_rfl, ?_⟩
  refine At.toRow 1 1 [.int .i64 0] 1 rfl rfl rfl (bleT rfl) ?_
  intro g2
  refine ⟨⟨fr 7 [(0, .v (.func (.func f) #[] caps)), (2, (vP g1 0)), (3, (vP g2 0))], [.o (.slice (aS g1 0) 1 1) 1 [.int .i64 0] 3 1, .o (.slice (aS g2 0) 1 1) 1 [.int .i64 0] 33 1]⟩, by kernel_rfl, by kernel_rfl, ?_⟩
  refine At.nil ?_
  refine At.then_normal ?_
  refine At.seq ?_
  refine At.region ?_
  refine At.runk 1 [] [] ⟨fr 7 [(0, .v (.func (.func f) #[] caps)), (2, (vP g1 0)), (3, (vP g2 0)), (4, .fn (.func 90) [(vP g1 0), (vP g2 0)])], [.o (.slice (aS g1 0) 1 1) 1 [.int .i64 0] 3 1, .o (.slice (aS g2 0) 1 1) 1 [.int .i64 0] 33 1]⟩ (by kernel_rfl) ?_
  refine At.defer rfl rfl (by kernel_rfl) (cl := 90) (caps := #[.pointer (aS g1 0), .pointer (aS g2 0)]) (by kernel_rfl) ?_
  refine At.nil ?_
  refine At.then_normal ?_
  refine At.seq ?_
  refine At.region ?_
  refine At.runk 1 [0, 4] [] ⟨fr 7 [(2, (vP g1 0)), (3, (vP g2 0)), (5, .v (.func (.func f) #[] caps))], [.o (.slice (aS g1 0) 1 1) 1 [.int .i64 0] 3 1, .o (.slice (aS g2 0) 1 1) 1 [.int .i64 0] 33 1]⟩ (by kernel_rfl) ?_
  refine At.callP rfl (by kernel_rfl) f [] (caps.toList.map .v) (by kernel_rfl) hf hb hn (caps.toList.map .v) (caps_av caps) (caps_u caps) hC ?_
  intro Φ1 hle
  refine ⟨⟨fr 7 [(2, (vP g1 0)), (3, (vP g2 0)), (5, .v (.func (.func f) #[] caps))], [.o (.slice (aS g1 0) 1 1) 1 [.int .i64 0] 3 1, .o (.slice (aS g2 0) 1 1) 1 [.int .i64 0] 33 1]⟩, by kernel_rfl, by kernel_rfl, ?_⟩
  refine At.then_panic ?_
  refine At.panic_D ?_
  refine At.leaveD (cl := 90) (caps := #[.pointer (aS g1 0), .pointer (aS g2 0)]) rfl Try.func90 (by kernel_rfl) (by kernel_rfl) [.o (.slice (aS g1 0) 1 1) 1 [.int .i64 0] 3 1, .o (.slice (aS g2 0) 1 1) 1 [.int .i64 0] 33 1] (by kernel_rfl) (by intro b hb; simp only [List.mem_cons, List.not_mem_nil, or_false] at hb; rcases hb with rfl | rfl <;> exact .inr ⟨_, _, _, _, _, rfl⟩) (.panicking [{ v := (.iface 33 (.int .i64 e)), recovered := false }]) (.panicking [{ v := (.iface 33 (.int .i64 e)), recovered := true }]) (by intro h; cases h) (cl_int_pan Φ1 g1 g2 e) (fun _ _ _ h => by cases h.1) rfl (by intro Φ' x hp' hq; obtain ⟨_, rfl⟩ := hq; refine ⟨rfl, ?_⟩; intro b hb; simp only [List.mem_cons, List.not_mem_nil, or_false] at hb; rcases hb with rfl | rfl <;> exact .inr ⟨_, _, _, _, _, rfl⟩) ?_
  rintro Φ2 x hp2 hle2 ⟨_, rfl⟩
  refine At.cast (S' := ⟨fr 7 [(2, (vP g1 0)), (3, (vP g2 0)), (5, .v (.func (.func f) #[] caps))], [.o (.slice (aS g1 0) 1 1) 1 [.int .i64 0] 3 1, .o (.slice (aS g2 0) 1 1) 1 [.int .i64 e] 33 1]⟩) (by kernel_rfl) ?_
  refine At.resD rfl [2, 3, 5] 0 [] ⟨fr 7 [], []⟩ () (.tuple #[.int .i64 0, .int .i64 e]) (fun _ => rfl) (res_rows2 rfl (g0 := g1) (g1 := g2) (by kernel_rfl) (by kernel_rfl) 0 1 (n0 := 1) (c0 := 1) (t0 := 3) (s0 := 1) (n1 := 1) (c1 := 1) (t1 := 33) (s1 := 1) (xs0 := [.int .i64 0]) (xs1 := [.int .i64 e]) (by kernel_rfl) (by kernel_rfl) ((vI 0)) ((vI e)) (by kernel_rfl) (by kernel_rfl) (by kernel_rfl) (by kernel_rfl) (fun _ => rfl)) (by kernel_rfl) (by kernel_rfl) (bleT rfl) (by kernel_rfl) (by kernel_rfl) trivial

theorem cl_bool_ret0 (Φ : Phi) (g0 g1 : Nat) (xs0 xs1 : List Value) : CallDG Try.prog 93 [(vP g0 0), (vP g1 0)] [.o (.slice (aS g0 0) 1 1) 1 xs0 4 1, .o (.slice (aS g1 0) 1 1) 1 xs1 33 1] Φ .returning .returning (fun _ es hp' => es = .ret (.tup []) ∧ hp' = [.o (.slice (aS g0 0) 1 1) 1 xs0 4 1, .o (.slice (aS g1 0) 1 1) 1 xs1 33 1]) := by
  refine CallDG.enter Try.func93 rfl rfl rfl rfl rfl rfl rfl (bleT rfl) .returning .returning (.nilIface) rec_ret [3, 4, 5, 6, 7, 8, 9, 10, 11, 12, 13, 14, 15, 16, 17, 18] ⟨fr 19 [(0, (vP g0 0)), (1, (vP g1 0)), (2, .v (.nilIface))], [.o (.slice (aS g0 0) 1 1) 1 xs0 4 1, .o (.slice (aS g1 0) 1 1) 1 xs1 33 1]⟩ (by kernel_rfl) (by kernel_rfl) ?_
  intro E G β0
  refine At.seq ?_
  refine At.region ?_
  refine At.runk 1 [] [] ⟨fr 19 [(0, (vP g0 0)), (1, (vP g1 0)), (2, .v (.nilIface)), (7, .v (.nilIface))], [.o (.slice (aS g0 0) 1 1) 1 xs0 4 1, .o (.slice (aS g1 0) 1 1) 1 xs1 33 1]⟩ (by kernel_rfl) ?_
  refine At.vals (S' := ⟨fr 19 [(0, (vP g0 0)), (1, (vP g1 0)), (2, .v (.nilIface)), (7, .v (.nilIface)), (8, (vB false))], [.o (.slice (aS g0 0) 1 1) 1 xs0 4 1, .o (.slice (aS g1 0) 1 1) 1 xs1 33 1]⟩) (by kernel_rfl) ((vB false)) (by kernel_rfl) (Val.nilnil rfl (ms := #[]) (by kernel_rfl) (by kernel_rfl) false (.inr ⟨rfl, rfl⟩)) ?_
  refine At.nil ?_
  refine At.then_normal ?_
  refine At.cond_f (by kernel_rfl) ?_
  refine At.skip ?_
  refine At.forget [0, 1, 2, 7, 8] 2 [] ⟨fr 19 [], [.o (.slice (aS g0 0) 1 1) 1 xs0 4 1, .o (.slice (aS g1 0) 1 1) 1 xs1 33 1]⟩ (by kernel_rfl) (by kernel_rfl) (bleT rfl) ?_
  exact At.leave_end rfl (.tup []) (by kernel_rfl) (by kernel_rfl) ⟨rfl, by kernel_rfl⟩

theorem cl_bool_pan (Φ : Phi) (g0 g1 : Nat) (e : Int) : CallDG Try.prog 93 [(vP g0 0), (vP g1 0)] [.o (.slice (aS g0 0) 1 1) 1 [.bool false] 4 1, .o (.slice (aS g1 0) 1 1) 1 [.int .i64 0] 33 1] Φ (.panicking [{ v := (.iface 33 (.int .i64 e)), recovered := false }]) (.panicking [{ v := (.iface 33 (.int .i64 e)), recovered := true }]) (fun _ es hp' => es = .ret (.tup []) ∧ hp' = [.o (.slice (aS g0 0) 1 1) 1 [.bool false] 4 1, .o (.slice (aS g1 0) 1 1) 1 [.int .i64 e] 33 1]) := by
  refine CallDG.enter Try.func93 rfl rfl rfl rfl rfl rfl rfl (bleT rfl) (.panicking [{ v := (.iface 33 (.int .i64 e)), recovered := false }]) (.panicking [{ v := (.iface 33 (.int .i64 e)), recovered := true }]) (.iface 33 (.int .i64 e)) (rec_pan (.iface 33 (.int .i64 e))) [3, 4, 5, 6, 7, 8, 9, 10, 11, 12, 13, 14, 15, 16, 17, 18] ⟨fr 19 [(0, (vP g0 0)), (1, (vP g1 0)), (2, .v (.iface 33 (.int .i64 e)))], [.o (.slice (aS g0 0) 1 1) 1 [.bool false] 4 1, .o (.slice (aS g1 0) 1 1) 1 [.int .i64 0] 33 1]⟩ (by kernel_rfl) (by kernel_rfl) ?_
  intro E G β0
  refine At.seq ?_
  refine At.region ?_
  refine At.runk 2 [7] [] ⟨fr 19 [(0, (vP g0 0)), (1, (vP g1 0)), (2, .v (.iface 33 (.int .i64 e))), (8, (vB true))], [.o (.slice (aS g0 0) 1 1) 1 [.bool false] 4 1, .o (.slice (aS g1 0) 1 1) 1 [.int .i64 0] 33 1]⟩ (by kernel_rfl) ?_
  refine At.nil ?_
  refine At.then_normal ?_
  refine At.cond_t (by kernel_rfl) ?_
  refine At.seq ?_
  refine At.region ?_
  refine At.runk 1 [8] [] ⟨fr 19 [(0, (vP g0 0)), (1, (vP g1 0)), (2, .v (.iface 33 (.int .i64 e))), (10, .v (.iface 33 (.int .i64 e)))], [.o (.slice (aS g0 0) 1 1) 1 [.bool false] 4 1, .o (.slice (aS g1 0) 1 1) 1 [.int .i64 0] 33 1]⟩ (by kernel_rfl) ?_
  refine At.vals (S' := ⟨fr 19 [(0, (vP g0 0)), (1, (vP g1 0)), (2, .v (.iface 33 (.int .i64 e))), (10, .v (.iface 33 (.int .i64 e))), (11, .tup [(vI e), (vB true)])], [.o (.slice (aS g0 0) 1 1) 1 [.bool false] 4 1, .o (.slice (aS g1 0) 1 1) 1 [.int .i64 0] 33 1]⟩) (by kernel_rfl) (.tup [(vI e), (vB true)]) (by kernel_rfl) (Val.assert rfl (t := 33) (d := .int .i64) (by kernel_rfl) (by intro ms h; cases h) (v := .int .i64 e) (by kernel_rfl)) ?_
  refine At.runk 5 [9, 10, 11, 12, 13] [] ⟨fr 19 [(0, (vP g0 0)), (1, (vP g1 0)), (2, .v (.iface 33 (.int .i64 e))), (3, (vI e)), (4, (vB true))], [.o (.slice (aS g0 0) 1 1) 1 [.bool false] 4 1, .o (.slice (aS g1 0) 1 1) 1 [.int .i64 0] 33 1]⟩ (by kernel_rfl) ?_
  refine At.nil ?_
  refine At.then_normal ?_
  refine At.seq ?_
  refine At.seq ?_
  refine At.region ?_
  refine At.runk 2 [4, 14] [] ⟨fr 19 [(0, (vP g0 0)), (1, (vP g1 0)), (2, .v (.iface 33 (.int .i64 e))), (3, (vI e)), (15, (vB false))], [.o (.slice (aS g0 0) 1 1) 1 [.bool false] 4 1, .o (.slice (aS g1 0) 1 1) 1 [.int .i64 0] 33 1]⟩ (by kernel_rfl) ?_
  refine At.nil ?_
  refine At.then_normal ?_
  refine At.cond_f (by kernel_rfl) ?_
  refine At.skip ?_
  refine At.then_normal ?_
  refine At.seq ?_
  refine At.region ?_
  refine At.runk 1 [2, 15] [] ⟨fr 19 [(0, (vP g0 0)), (1, (vP g1 0)), (3, (vI e)), (5, (vB false))], [.o (.slice (aS g0 0) 1 1) 1 [.bool false] 4 1, .o (.slice (aS g1 0) 1 1) 1 [.int .i64 0] 33 1]⟩ (by kernel_rfl) ?_
  refine At.nil ?_
  refine At.then_normal ?_
  refine At.region ?_
  refine At.runk 2 [3, 5] [] ⟨fr 19 [(0, (vP g0 0)), (1, (vP g1 0)), (17, (vB false)), (18, (vI e))], [.o (.slice (aS g0 0) 1 1) 1 [.bool false] 4 1, .o (.slice (aS g1 0) 1 1) 1 [.int .i64 0] 33 1]⟩ (by kernel_rfl) ?_
  refine At.strow (S' := ⟨fr 19 [(0, (vP g0 0)), (1, (vP g1 0)), (17, (vB false)), (18, (vI e))], [.o (.slice (aS g0 0) 1 1) 1 [.bool false] 4 1, .o (.slice (aS g1 0) 1 1) 1 [.int .i64 0] 33 1]⟩) rfl (by kernel_rfl) (g := g0) (off := 0) (by kernel_rfl) 0 (n := 1) (cap := 1) (xs := [.bool false]) (e := 4) (sz := 1) (by kernel_rfl) [.bool false] (by kernel_rfl) (one_lits _ (by kernel_rfl)) (by kernel_rfl) (bleT rfl) (by kernel_rfl) ?_
  refine At.strow (S' := ⟨fr 19 [(0, (vP g0 0)), (1, (vP g1 0)), (17, (vB false)), (18, (vI e))], [.o (.slice (aS g0 0) 1 1) 1 [.bool false] 4 1, .o (.slice (aS g1 0) 1 1) 1 [.int .i64 e] 33 1]⟩) rfl (by kernel_rfl) (g := g1) (off := 0) (by kernel_rfl) 1 (n := 1) (cap := 1) (xs := [.int .i64 0]) (e := 33) (sz := 1) (by kernel_rfl) [.int .i64 e] (by kernel_rfl) (one_lits _ (by kernel_rfl)) (by kernel_rfl) (bleT rfl) (by kernel_rfl) ?_
  refine At.nil ?_
  refine At.forget [0, 1, 17, 18] 2 [] ⟨fr 19 [], [.o (.slice (aS g0 0) 1 1) 1 [.bool false] 4 1, .o (.slice (aS g1 0) 1 1) 1 [.int .i64 e] 33 1]⟩ (by kernel_rfl) (by kernel_rfl) (bleT rfl) ?_
  exact At.leave_end rfl (.tup []) (by kernel_rfl) (by kernel_rfl) ⟨rfl, by kernel_rfl⟩

theorem tries_bool (Φ : Phi) (f : Nat) (caps : Array Value) (fn : Func) (hf : Try.prog.funcs[f]? = some fn) (hb : fn.body.isSome = true) (hn : (fn.name == "runtime.NumGoroutine") = false) (T : Type) (bv : T → Bool) (F : T → Phi → Prop) (hF0 : ∀ t Φ Φ', PhiLe 0 Φ Φ' → F t Φ → F t Φ') (hC : CallR Try.prog f (caps.toList.map .v) [] Φ T (fun t => (vB (bv t))) (fun t => []) F) : CallR Try.prog 76 [.v (.func (.func f) #[] caps)] [] Φ T (fun t => .tup [(vB (bv t)), (vI 0)]) (fun t => []) F := by
  refine CallG.enterD Try.func76 rfl [1, 2, 3, 4, 5, 6] ⟨fr 7 [(0, .v (.func (.func f) #[] caps))], []⟩ (by kernel_rfl) (by kernel_rfl) ?_
  intro E G β0
  refine At.seq ?_
  refine At.region ?_
  refine At.runk 2 [] [] ⟨fr 7 [(0, .v (.func (.func f) #[] caps)), (2, .p 0 0), (3, .p 1 0)], [.c [(vB false)] 4, .c [(vI 0)] 33]⟩ (by kernel_rfl) ?_
  refine At.toRow 0 1 [.bool false] 1 rfl rfl rfl (bleT rfl) ?_
  intro g1
  refine ⟨⟨fr 7 [(0, .v (.func (.func f) #[] caps)), (2, (vP g1 0)), (3, .p 1 0)], [.o (.slice (aS g1 0) 1 1) 1 [.bool false] 4 1, .c [(vI 0)] 33]⟩, by kernel_rfl, by kernel_rfl, ?_⟩
  refine At.toRow 1 1 [.int .i64 0] 1 rfl rfl rfl (bleT rfl) ?_
  intro g2
  refine ⟨⟨fr 7 [(0, .v (.func (.func f) #[] caps)), (2, (vP g1 0)), (3, (vP g2 0))], [.o (.slice (aS g1 0) 1 1) 1 [.bool false] 4 1, .o (.slice (aS g2 0) 1 1) 1 [.int .i64 0] 33 1]⟩, by kernel_rfl, by kernel_rfl, ?_⟩
  refine At.nil ?_
  refine At.then_normal ?_
  refine At.seq ?_
  refine At.region ?_
  refine At.runk 1 [] [] ⟨fr 7 [(0, .v (.func (.func f) #[] caps)), (2, (vP g1 0)), (3, (vP g2 0)), (4, .fn (.func 93) [(vP g1 0), (vP g2 0)])], [.o (.slice (aS g1 0) 1 1) 1 [.bool false] 4 1, .o (.slice (aS g2 0) 1 1) 1 [.int .i64 0] 33 1]⟩ (by kernel_rfl) ?_
  refine At.defer rfl rfl (by kernel_rfl) (cl := 93) (caps := #[.pointer (aS g1 0), .pointer (aS g2 0)]) (by kernel_rfl) ?_
  refine At.nil ?_
  refine At.then_normal ?_
  refine At.seq ?_
  refine At.region ?_
  refine At.runk 1 [0, 4] [] ⟨fr 7 [(2, (vP g1 0)), (3, (vP g2 0)), (5, .v (.func (.func f) #[] caps))], [.o (.slice (aS g1 0) 1 1) 1 [.bool false] 4 1, .o (.slice (aS g2 0) 1 1) 1 [.int .i64 0] 33 1]⟩ (by kernel_rfl) ?_
  refine At.callV rfl (by kernel_rfl) f [] (caps.toList.map .v) (by kernel_rfl) hf hb hn (caps.toList.map .v) (caps_av caps) (caps_u caps) hC ?_
  intro Φ1 t hle hF
  refine ⟨⟨fr 7 [(2, (vP g1 0)), (3, (vP g2 0)), (5, .v (.func (.func f) #[] caps)), (6, (vB (bv t)))], [.o (.slice (aS g1 0) 1 1) 1 [.bool false] 4 1, .o (.slice (aS g2 0) 1 1) 1 [.int .i64 0] 33 1]⟩, by kernel_rfl, by kernel_rfl, ?_⟩
  refine At.strow (S' := ⟨fr 7 [(2, (vP g1 0)), (3, (vP g2 0)), (5, .v (.func (.func f) #[] caps)), (6, (vB (bv t)))], [.o (.slice (aS g1 0) 1 1) 1 [.bool (bv t)] 4 1, .o (.slice (aS g2 0) 1 1) 1 [.int .i64 0] 33 1]⟩) rfl (by kernel_rfl) (g := g1) (off := 0) (by kernel_rfl) 0 (n := 1) (cap := 1) (xs := [.bool false]) (e := 4) (sz := 1) (by kernel_rfl) [.bool (bv t)] (by kernel_rfl) (one_lits _ (by kernel_rfl)) (by kernel_rfl) (bleT rfl) (by kernel_rfl) ?_
  refine At.strow (S' := ⟨fr 7 [(2, (vP g1 0)), (3, (vP g2 0)), (5, .v (.func (.func f) #[] caps)), (6, (vB (bv t)))], [.o (.slice (aS g1 0) 1 1) 1 [.bool (bv t)] 4 1, .o (.slice (aS g2 0) 1 1) 1 [.int .i64 0] 33 1]⟩) rfl (by kernel_rfl) (g := g2) (off := 0) (by kernel_rfl) 1 (n := 1) (cap := 1) (xs := [.int .i64 0]) (e := 33) (sz := 1) (by kernel_rfl) [.int .i64 0] (by kernel_rfl) (one_lits _ (by kernel_rfl)) (by kernel_rfl) (bleT rfl) (by kernel_rfl) ?_
  refine At.nil ?_
  refine At.then_normal ?_
  refine At.ret_ ?_
  refine At.ret_D ?_
  refine At.leaveD (cl := 93) (caps := #[.pointer (aS g1 0), .pointer (aS g2 0)]) rfl Try.func93 (by kernel_rfl) (by kernel_rfl) [.o (.slice (aS g1 0) 1 1) 1 [.bool (bv t)] 4 1, .o (.slice (aS g2 0) 1 1) 1 [.int .i64 0] 33 1] (by kernel_rfl) (by intro b hb; simp only [List.mem_cons, List.not_mem_nil, or_false] at hb; rcases hb with rfl | rfl <;> exact .inr ⟨_, _, _, _, _, rfl⟩) .returning .returning (by intro h; cases h) (cl_bool_ret0 Φ1 g1 g2 [.bool (bv t)] [.int .i64 0]) (fun _ _ _ h => by cases h.1) rfl (by intro Φ' x hp' hq; obtain ⟨_, rfl⟩ := hq; refine ⟨rfl, ?_⟩; intro b hb; simp only [List.mem_cons, List.not_mem_nil, or_false] at hb; rcases hb with rfl | rfl <;> exact .inr ⟨_, _, _, _, _, rfl⟩) ?_
  rintro Φ2 x hp2 hle2 ⟨_, rfl⟩
  refine At.cast (S' := ⟨fr 7 [(2, (vP g1 0)), (3, (vP g2 0)), (5, .v (.func (.func f) #[] caps)), (6, (vB (bv t)))], [.o (.slice (aS g1 0) 1 1) 1 [.bool (bv t)] 4 1, .o (.slice (aS g2 0) 1 1) 1 [.int .i64 0] 33 1]⟩) (by kernel_rfl) ?_
  refine At.resD rfl [2, 3, 5, 6] 0 [] ⟨fr 7 [], []⟩ t (.tuple #[.bool (bv t), .int .i64 0]) (fun _ => rfl) (res_rows2 rfl (g0 := g1) (g1 := g2) (by kernel_rfl) (by kernel_rfl) 0 1 (n0 := 1) (c0 := 1) (t0 := 4) (s0 := 1) (n1 := 1) (c1 := 1) (t1 := 33) (s1 := 1) (xs0 := [.bool (bv t)]) (xs1 := [.int .i64 0]) (by kernel_rfl) (by kernel_rfl) ((vB (bv t))) ((vI 0)) (by kernel_rfl) (by kernel_rfl) (by kernel_rfl) (by kernel_rfl) (fun _ => rfl)) (by kernel_rfl) (by kernel_rfl) (bleT rfl) (by kernel_rfl) (by kernel_rfl) (hF0 _ _ _ hle2 hF)

theorem tries_bool_no (Φ : Phi) (f : Nat) (caps : Array Value) (fn : Func) (hf : Try.prog.funcs[f]? = some fn) (hb : fn.body.isSome = true) (hn : (fn.name == "runtime.NumGoroutine") = false) (e : Int) (hC : CallP Try.prog f (caps.toList.map .v) [] Φ [{ v := .iface 33 (.int .i64 e), recovered := false }]) : CallR Try.prog 76 [.v (.func (.func f) #[] caps)] [] Φ Unit (fun _ => .tup [(vB false), (vI e)]) (fun _ => []) (fun _ _ => True) := by
  refine CallG.enterD Try.func76 rfl [1, 2, 3, 4, 5, 6] ⟨fr 7 [(0, .v (.func (.func f) #[] caps))], []⟩ (by kernel_rfl) (by kernel_rfl) ?_
  intro E G β0
  refine At.seq ?_
  refine At.region ?_
  refine At.runk 2 [] [] ⟨fr 7 [(0, .v (.func (.func f) #[] caps)), (2, .p 0 0), (3, .p 1 0)], [.c [(vB false)] 4, .c [(vI 0)] 33]⟩ (by kernel_rfl) ?_
  refine At.toRow 0 1 [.bool false] 1 rfl rfl rfl (bleT rfl) ?_
  intro g1
  refine ⟨⟨fr 7 [(0, .v (.func (.func f) #[] caps)), (2, (vP g1 0)), (3, .p 1 0)], [.o (.slice (aS g1 0) 1 1) 1 [.bool false] 4 1, .c [(vI 0)] 33]⟩, by kernel_rfl, by kernel_rfl, ?_⟩
  refine At.toRow 1 1 [.int .i64 0] 1 rfl rfl rfl (bleT rfl) ?_
  intro g2
  refine ⟨⟨fr 7 [(0, .v (.func (.func f) #[] caps)), (2, (vP g1 0)), (3, (vP g2 0))], [.o (.slice (aS g1 0) 1 1) 1 [.bool false] 4 1, .o (.slice (aS g2 0) 1 1) 1 [.int .i64 0] 33 1]⟩, by kernel_rfl, by kernel_rfl, ?_⟩
  refine At.nil ?_
  refine At.then_normal ?_
  refine At.seq ?_
  refine At.region ?_
  refine At.runk 1 [] [] ⟨fr 7 [(0, .v (.func (.func f) #[] caps)), (2, (vP g1 0)), (3, (vP g2 0)), (4, .fn (.func 93) [(vP g1 0), (vP g2 0)])], [.o (.slice (aS g1 0) 1 1) 1 [.bool false] 4 1, .o (.slice (aS g2 0) 1 1) 1 [.int .i64 0] 33 1]⟩ (by kernel_rfl) ?_
  refine At.defer rfl rfl (by kernel_rfl) (cl := 93) (caps := #[.pointer (aS g1 0), .pointer (aS g2 0)]) (by kernel_rfl) ?_
  refine At.nil ?_
  refine At.then_normal ?_
  refine At.seq ?_
  refine At.region ?_
  refine At.runk 1 [0, 4] [] ⟨fr 7 [(2, (vP g1 0)), (3, (vP g2 0)), (5, .v (.func (.func f) #[] caps))], [.o (.slice (aS g1 0) 1 1) 1 [.bool false] 4 1, .o (.slice (aS g2 0) 1 1) 1 [.int .i64 0] 33 1]⟩ (by kernel_rfl) ?_
  refine At.callP rfl (by kernel_rfl) f [] (caps.toList.map .v) (by kernel_rfl) hf hb hn (caps.toList.map .v) (caps_av caps) (caps_u caps) hC ?_
  intro Φ1 hle
  refine ⟨⟨fr 7 [(2, (vP g1 0)), (3, (vP g2 0)), (5, .v (.func (.func f) #[] caps))], [.o (.slice (aS g1 0) 1 1) 1 [.bool false] 4 1, .o (.slice (aS g2 0) 1 1) 1 [.int .i64 0] 33 1]⟩, by kernel_rfl, by kernel_rfl, ?_⟩
  refine At.then_panic ?_
  refine At.panic_D ?_
  refine At.leaveD (cl := 93) (caps := #[.pointer (aS g1 0), .pointer (aS g2 0)]) rfl Try.func93 (by kernel_rfl) (by kernel_rfl) [.o (.slice (aS g1 0) 1 1) 1 [.bool false] 4 1, .o (.slice (aS g2 0) 1 1) 1 [.int .i64 0] 33 1] (by kernel_rfl) (by intro b hb; simp only [List.mem_cons, List.not_mem_nil, or_false] at hb; rcases hb with rfl | rfl <;> exact .inr ⟨_, _, _, _, _, rfl⟩) (.panicking [{ v := (.iface 33 (.int .i64 e)), recovered := false }]) (.panicking [{ v := (.iface 33 (.int .i64 e)), recovered := true }]) (by intro h; cases h) (cl_bool_pan Φ1 g1 g2 e) (fun _ _ _ h => by cases h.1) rfl (by intro Φ' x hp' hq; obtain ⟨_, rfl⟩ := hq; refine ⟨rfl, ?_⟩; intro b hb; simp only [List.mem_cons, List.not_mem_nil, or_false] at hb; rcases hb with rfl | rfl <;> exact .inr ⟨_, _, _, _, _, rfl⟩) ?_
  rintro Φ2 x hp2 hle2 ⟨_, rfl⟩
  refine At.cast (S' := ⟨fr 7 [(2, (vP g1 0)), (3, (vP g2 0)), (5, .v (.func (.func f) #[] caps))], [.o (.slice (aS g1 0) 1 1) 1 [.bool false] 4 1, .o (.slice (aS g2 0) 1 1) 1 [.int .i64 e] 33 1]⟩) (by kernel_rfl) ?_
  refine At.resD rfl [2, 3, 5] 0 [] ⟨fr 7 [], []⟩ () (.tuple #[.bool false, .int .i64 e]) (fun _ => rfl) (res_rows2 rfl (g0 := g1) (g1 := g2) (by kernel_rfl) (by kernel_rfl) 0 1 (n0 := 1) (c0 := 1) (t0 := 4) (s0 := 1) (n1 := 1) (c1 := 1) (t1 := 33) (s1 := 1) (xs0 := [.bool false]) (xs1 := [.int .i64 e]) (by kernel_rfl) (by kernel_rfl) ((vB false)) ((vI e)) (by kernel_rfl) (by kernel_rfl) (by kernel_rfl) (by kernel_rfl) (fun _ => rfl)) (by kernel_rfl) (by kernel_rfl) (bleT rfl) (by kernel_rfl) (by kernel_rfl) trivial

end Go.Sx
