/- RxE: printed by wip/gen/lib04.py. Walks over functions of the program. -/
import Derived.Test.YtgkjblbmiooedaaRxD
namespace Go.Sx
open Go.Proofs Go.RowKit
theorem rcheck_c (Φ : Phi) (nds : List Nd) (A : Option Addr) (c : Nat) (hR : NdsAt Φ A nds) (hl : nds.length ≤ 1000000)  : CallR Try.prog 11 [(vS A nds.length c)] [] Φ Int (fun t => (vI t)) (fun _ => []) (fun t _ => t = chkZ nds) := by
  refine CallG.enterk Try.func11 rfl [1, 2, 3, 4, 5, 6, 7, 8, 9, 10, 11, 12, 13, 14, 15, 16, 17, 18, 19, 20, 21, 22, 23, 24, 25, 26, 27, 28, 29, 30, 31, 32, 33, 34] ⟨fr 35 [(0, (vS A nds.length c))], []⟩ (by kernel_rfl) (by kernel_rfl) ?_
  intro E G β0
  refine At.seq ?_
  refine At.region ?_
  refine At.runk 1 [2] [] ⟨fr 35 [(0, (vS A nds.length c))], []⟩ (by kernel_rfl) ?_
  refine At.nil ?_
  refine At.then_normal ?_
  refine At.seq ?_
  refine At.region ?_
  refine At.runk 1 [] [] ⟨fr 35 [(0, (vS A nds.length c)), (3, (vI 0))], []⟩ (by kernel_rfl) ?_
  refine At.nil ?_
  refine At.then_normal ?_
  refine At.seq ?_
  refine At.seq ?_
  refine At.region ?_
  refine At.runk 3 [] [] ⟨fr 35 [(0, (vS A nds.length c)), (3, (vI 0)), (6, (vS A nds.length c)), (7, (vI (nds.length : Int))), (8, (vI 0))], []⟩ (by kernel_rfl) ?_
  refine At.nil ?_
  refine At.then_normal ?_
  refine At.block ?_
  refine At.loop (T := Nat × Int) (fun x => ⟨fr 35 [(0, (vS A nds.length c)), (3, (vI x.2)), (6, (vS A nds.length c)), (7, (vI (nds.length : Int))), (8, (vI (x.1 : Int)))], []⟩) (fun x Φ => x.1 ≤ nds.length ∧ 0 ≤ x.2 ∧ x.2 ≤ x.1 ∧ chk nds 0 0 = chk (nds.drop x.1) x.2 x.1) (fun x => nds.length - x.1) (0, 0) (by kernel_rfl) ⟨Nat.zero_le _, by omega, by omega, rfl⟩ ?_
  rintro ⟨i, tr⟩ Φ1 hle2 hF
  have hR := hR.mono hle2
  refine At.cast (S' := ⟨fr 35 [(0, (vS A nds.length c)), (3, (vI tr)), (6, (vS A nds.length c)), (7, (vI (nds.length : Int))), (8, (vI (i : Int)))], []⟩) (by kernel_rfl) ?_
  dsimp only at hF
  have hF1 := hF.1
  have hF2 := hF.2.1
  have hF3 := hF.2.2.1
  refine At.seq ?_
  refine At.region ?_
  refine At.runk 1 [] [] ⟨fr 35 [(0, (vS A nds.length c)), (3, (vI tr)), (6, (vS A nds.length c)), (7, (vI (nds.length : Int))), (8, (vI (i : Int))), (9, (vB (decide ((i : Int) < (nds.length : Int)))))], []⟩ (by kernel_rfl) ?_
  refine At.nil ?_
  refine At.then_normal ?_
  refine At.seq ?_
  refine At.bcase (decide ((i : Int) < (nds.length : Int))) (fun hb3 => ?_) (fun hb3 => ?_)
  · have hb3p : ((i : Int) < (nds.length : Int)) := of_decide_eq_true hb3
    refine At.cast (S' := ⟨fr 35 [(0, (vS A nds.length c)), (3, (vI tr)), (6, (vS A nds.length c)), (7, (vI (nds.length : Int))), (8, (vI (i : Int))), (9, (vB true))], []⟩) (by rw [hb3] <;> rfl) ?_
    refine At.cond_t (by kernel_rfl) ?_
    refine At.skip ?_
    refine At.then_normal ?_
    refine At.seq ?_
    refine At.block ?_
    refine At.seq ?_
    refine At.region ?_
    refine At.runk 1 [9] [] ⟨fr 35 [(0, (vS A nds.length c)), (3, (vI tr)), (6, (vS A nds.length c)), (7, (vI (nds.length : Int))), (8, (vI (i : Int))), (10, (vI (i : Int)))], []⟩ (by kernel_rfl) ?_
    obtain ⟨b4, off5, hAeq⟩ : ∃ b off, A = some ⟨b, off, none⟩ := hR.addr (by exact nds_pos (by omega))
    subst hAeq
    refine At.idx (S' := ⟨fr 35 [(0, (vS (aS b4 off5) nds.length c)), (3, (vI tr)), (6, (vS (aS b4 off5) nds.length c)), (7, (vI (nds.length : Int))), (8, (vI (i : Int))), (10, (vI (i : Int))), (11, .v (.pointer (some ⟨b4, off5 + i * 7, none⟩)))], []⟩) rfl (by kernel_rfl) (sz := 7) (e := 26) (by kernel_rfl) (by kernel_rfl) (by kernel_rfl) (b := b4) (off := off5) (n := nds.length) (cap := c) (kd := .i64) (i := (i : Int)) (by kernel_rfl) (by omega) (by omega) (by kernel_rfl) ?_
    obtain ⟨e6, he7⟩ := get_some (l := nds) (i := i) (by omega)
    refine At.vals (S' := ⟨fr 35 [(0, (vS (aS b4 off5) nds.length c)), (3, (vI tr)), (6, (vS (aS b4 off5) nds.length c)), (7, (vI (nds.length : Int))), (8, (vI (i : Int))), (10, (vI (i : Int))), (11, .v (.pointer (some ⟨b4, off5 + i * 7, none⟩))), (12, .agg e6.sv)], []⟩) (by kernel_rfl) (.agg e6.sv) (by kernel_rfl) (Val.ldE rfl (enc := Nd.cells) (xs := nds) (b := b4) (off := off5) hR (sz := 7) (fun _ => rfl) (Nat.zero_lt_succ _) i e6 he7 0 (off5 + i * 7) (by omega) (by kernel_rfl) (.agg e6.sv) (by kernel_rfl)) ?_
    refine At.runk 3 [10, 11, 12] [] ⟨fr 35 [(0, (vS (aS b4 off5) nds.length c)), (3, (vI tr)), (4, (vI (i : Int))), (5, .p 0 0), (6, (vS (aS b4 off5) nds.length c)), (7, (vI (nds.length : Int))), (8, (vI (i : Int)))], [.c e6.sv 26]⟩ (by kernel_rfl) ?_
    refine At.nil ?_
    refine At.then_normal ?_
    refine At.seq ?_
    refine At.seq ?_
    refine At.region ?_
    refine At.runk 1 [] [] ⟨fr 35 [(0, (vS (aS b4 off5) nds.length c)), (3, (vI tr)), (4, (vI (i : Int))), (5, .p 0 0), (6, (vS (aS b4 off5) nds.length c)), (7, (vI (nds.length : Int))), (8, (vI (i : Int))), (13, .agg e6.sv)], [.c e6.sv 26]⟩ (by kernel_rfl) ?_
    refine At.callV rfl (by kernel_rfl) 13 [] [] (by kernel_rfl) Try.func13 (by kernel_rfl) (by kernel_rfl) [.agg e6.sv] (by kernel_rfl) (by kernel_rfl) (rnode_c Φ1 e6) ?_
    rintro Φ8 _ hle9 rfl
    have hR := hR.mono hle9
    refine ⟨⟨fr 35 [(0, (vS (aS b4 off5) nds.length c)), (3, (vI tr)), (4, (vI (i : Int))), (5, .p 0 0), (6, (vS (aS b4 off5) nds.length c)), (7, (vI (nds.length : Int))), (8, (vI (i : Int))), (13, .agg e6.sv), (14, (vB e6.may))], [.c e6.sv 26]⟩, by kernel_rfl, by kernel_rfl, ?_⟩
    refine At.runk 2 [13, 14, 15] [] ⟨fr 35 [(0, (vS (aS b4 off5) nds.length c)), (3, (vI tr)), (4, (vI (i : Int))), (5, .p 0 0), (6, (vS (aS b4 off5) nds.length c)), (7, (vI (nds.length : Int))), (8, (vI (i : Int))), (16, (vB (!e6.may)))], [.c e6.sv 26]⟩ (by kernel_rfl) ?_
    refine At.bcase e6.may (fun hb10 => ?_) (fun hb10 => ?_)
    · refine At.cast (S' := ⟨fr 35 [(0, (vS (aS b4 off5) nds.length c)), (3, (vI tr)), (4, (vI (i : Int))), (5, .p 0 0), (6, (vS (aS b4 off5) nds.length c)), (7, (vI (nds.length : Int))), (8, (vI (i : Int))), (16, (vB false))], [.c e6.sv 26]⟩) (by rw [hb10] <;> rfl) ?_
      refine At.runk 2 [17] [] ⟨fr 35 [(0, (vS (aS b4 off5) nds.length c)), (3, (vI tr)), (4, (vI (i : Int))), (5, .p 0 0), (6, (vS (aS b4 off5) nds.length c)), (7, (vI (nds.length : Int))), (8, (vI (i : Int))), (16, (vB false)), (18, (vI e6.kind))], [.c e6.sv 26]⟩ (by kernel_rfl) ?_
      refine At.callV rfl (by kernel_rfl) 14 [] [] (by kernel_rfl) Try.func14 (by kernel_rfl) (by kernel_rfl) [(vI e6.kind)] (by kernel_rfl) (by kernel_rfl) (arity_c Φ8 e6.kind) ?_
      rintro Φ11 _ hle12 rfl
      have hR := hR.mono hle12
      have hab : -1 ≤ arity e6.kind ∧ arity e6.kind ≤ 2 := arity_bd _
      have har0 : 0 ≤ arity e6.kind := by rw [arity_of_may (n := e6) (by assumption)]; exact (kar_bd _).1
      refine ⟨⟨fr 35 [(0, (vS (aS b4 off5) nds.length c)), (3, (vI tr)), (4, (vI (i : Int))), (5, .p 0 0), (6, (vS (aS b4 off5) nds.length c)), (7, (vI (nds.length : Int))), (8, (vI (i : Int))), (16, (vB false)), (18, (vI e6.kind)), (19, (vI (arity e6.kind)))], [.c e6.sv 26]⟩, by kernel_rfl, by kernel_rfl, ?_⟩
      refine At.runk 3 [16, 18, 19, 20, 21] [] ⟨fr 35 [(0, (vS (aS b4 off5) nds.length c)), (3, (vI tr)), (4, (vI (i : Int))), (5, .p 0 0), (6, (vS (aS b4 off5) nds.length c)), (7, (vI (nds.length : Int))), (8, (vI (i : Int))), (22, (vB (decide ((arity e6.kind) > tr))))], [.c e6.sv 26]⟩ (by kernel_rfl) ?_
      refine At.nil ?_
      refine At.then_normal ?_
      refine At.bcase (decide ((arity e6.kind) > tr)) (fun hb13 => ?_) (fun hb13 => ?_)
      · have hb13p : ((arity e6.kind) > tr) := of_decide_eq_true hb13
        refine At.cast (S' := ⟨fr 35 [(0, (vS (aS b4 off5) nds.length c)), (3, (vI tr)), (4, (vI (i : Int))), (5, .p 0 0), (6, (vS (aS b4 off5) nds.length c)), (7, (vI (nds.length : Int))), (8, (vI (i : Int))), (22, (vB true))], [.c e6.sv 26]⟩) (by rw [hb13] <;> rfl) ?_
        refine At.cond_t (by kernel_rfl) ?_
        refine At.seq ?_
        refine At.region ?_
        refine At.runk 2 [0, 3, 4, 5, 6, 7, 8, 22, 23] [0] ⟨fr 35 [(2, (vI (i : Int)))], [.dead]⟩ (by kernel_rfl) ?_
        refine At.nil ?_
        refine At.then_normal ?_
        refine At.ret_ ?_
        refine At.then_ret ?_
        refine At.in_ret ?_
        refine At.then_ret ?_
        refine At.then_ret ?_
        refine At.in_ret ?_
        refine At.then_ret ?_
        refine At.forget [] 0 [] ⟨fr 35 [(2, (vI (i : Int)))], []⟩ (by kernel_rfl) (by kernel_rfl) (bleT rfl) ?_
        refine At.leaveR rfl i (by kernel_rfl) (by kernel_rfl) (by kernel_rfl) ?_
        rw [chkZ, hF.2.2.2, chk_bad he7 (by first | (left; assumption) | (right; rw [← arity_of_may (by assumption)]; omega))]
      have hb13p : ¬ ((arity e6.kind) > tr) := of_decide_eq_false hb13
      refine At.cast (S' := ⟨fr 35 [(0, (vS (aS b4 off5) nds.length c)), (3, (vI tr)), (4, (vI (i : Int))), (5, .p 0 0), (6, (vS (aS b4 off5) nds.length c)), (7, (vI (nds.length : Int))), (8, (vI (i : Int))), (22, (vB false))], [.c e6.sv 26]⟩) (by rw [hb13] <;> rfl) ?_
      refine At.cond_f (by kernel_rfl) ?_
      refine At.skip ?_
      refine At.then_normal ?_
      refine At.region ?_
      refine At.runk 3 [3, 4, 5, 22, 25] [0] ⟨fr 35 [(0, (vS (aS b4 off5) nds.length c)), (6, (vS (aS b4 off5) nds.length c)), (7, (vI (nds.length : Int))), (8, (vI (i : Int))), (24, (vI tr)), (26, (vI e6.kind))], [.dead]⟩ (by kernel_rfl) ?_
      refine At.callV rfl (by kernel_rfl) 14 [] [] (by kernel_rfl) Try.func14 (by kernel_rfl) (by kernel_rfl) [(vI e6.kind)] (by kernel_rfl) (by kernel_rfl) (arity_c Φ11 e6.kind) ?_
      rintro Φ14 _ hle15 rfl
      have hR := hR.mono hle15
      have hab : -1 ≤ arity e6.kind ∧ arity e6.kind ≤ 2 := arity_bd _
      have har0 : 0 ≤ arity e6.kind := by rw [arity_of_may (n := e6) (by assumption)]; exact (kar_bd _).1
      refine ⟨⟨fr 35 [(0, (vS (aS b4 off5) nds.length c)), (6, (vS (aS b4 off5) nds.length c)), (7, (vI (nds.length : Int))), (8, (vI (i : Int))), (24, (vI tr)), (26, (vI e6.kind)), (27, (vI (arity e6.kind)))], [.dead]⟩, by kernel_rfl, by kernel_rfl, ?_⟩
      refine At.runk 1 [24, 26, 27] [] ⟨fr 35 [(0, (vS (aS b4 off5) nds.length c)), (6, (vS (aS b4 off5) nds.length c)), (7, (vI (nds.length : Int))), (8, (vI (i : Int))), (28, (vI (IntKind.i64.wrap (tr - (arity e6.kind)))))], [.dead]⟩ (by kernel_rfl) ?_
      refine At.cast (S' := ⟨fr 35 [(0, (vS (aS b4 off5) nds.length c)), (6, (vS (aS b4 off5) nds.length c)), (7, (vI (nds.length : Int))), (8, (vI (i : Int))), (28, (vI (tr - (arity e6.kind))))], [.dead]⟩) (by rw [wrapI (z := tr - (arity e6.kind)) (by omega) (by omega)]) ?_
      refine At.runk 1 [28] [] ⟨fr 35 [(0, (vS (aS b4 off5) nds.length c)), (6, (vS (aS b4 off5) nds.length c)), (7, (vI (nds.length : Int))), (8, (vI (i : Int))), (29, (vI (IntKind.i64.wrap ((tr - (arity e6.kind)) + 1))))], [.dead]⟩ (by kernel_rfl) ?_
      refine At.cast (S' := ⟨fr 35 [(0, (vS (aS b4 off5) nds.length c)), (6, (vS (aS b4 off5) nds.length c)), (7, (vI (nds.length : Int))), (8, (vI (i : Int))), (29, (vI ((tr - (arity e6.kind)) + 1)))], [.dead]⟩) (by rw [wrapI (z := (tr - (arity e6.kind)) + 1) (by omega) (by omega)]) ?_
      refine At.runk 1 [29] [] ⟨fr 35 [(0, (vS (aS b4 off5) nds.length c)), (3, (vI ((tr - (arity e6.kind)) + 1))), (6, (vS (aS b4 off5) nds.length c)), (7, (vI (nds.length : Int))), (8, (vI (i : Int)))], [.dead]⟩ (by kernel_rfl) ?_
      refine At.nil ?_
      refine At.in_normal ?_
      refine At.then_normal ?_
      refine At.region ?_
      refine At.runk 1 [8] [] ⟨fr 35 [(0, (vS (aS b4 off5) nds.length c)), (3, (vI ((tr - (arity e6.kind)) + 1))), (6, (vS (aS b4 off5) nds.length c)), (7, (vI (nds.length : Int))), (30, (vI (IntKind.i64.wrap ((i : Int) + 1))))], [.dead]⟩ (by kernel_rfl) ?_
      refine At.cast (S' := ⟨fr 35 [(0, (vS (aS b4 off5) nds.length c)), (3, (vI ((tr - (arity e6.kind)) + 1))), (6, (vS (aS b4 off5) nds.length c)), (7, (vI (nds.length : Int))), (30, (vI ((i : Int) + 1)))], [.dead]⟩) (by rw [wrapI (z := (i : Int) + 1) (by omega) (by omega)]) ?_
      refine At.runk 1 [30] [] ⟨fr 35 [(0, (vS (aS b4 off5) nds.length c)), (3, (vI ((tr - (arity e6.kind)) + 1))), (6, (vS (aS b4 off5) nds.length c)), (7, (vI (nds.length : Int))), (8, (vI ((i : Int) + 1)))], [.dead]⟩ (by kernel_rfl) ?_
      refine At.nil ?_
      refine At.forget [] 0 [] ⟨fr 35 [(0, (vS (aS b4 off5) nds.length c)), (3, (vI ((tr - (arity e6.kind)) + 1))), (6, (vS (aS b4 off5) nds.length c)), (7, (vI (nds.length : Int))), (8, (vI ((i : Int) + 1)))], []⟩ (by kernel_rfl) (by kernel_rfl) (bleT rfl) ?_
      refine At.round (i + 1, ((tr - (arity e6.kind)) + 1)) (by kernel_rfl) ((hle9.trans hle12).trans hle15) ⟨by omega, by omega, by omega, by rw [hF.2.2.2, chk_step he7 (by assumption) (by rw [← arity_of_may (by assumption)]; omega)]; congr 1; rw [← arity_of_may (by assumption)]; omega⟩ (by omega)
    refine At.cast (S' := ⟨fr 35 [(0, (vS (aS b4 off5) nds.length c)), (3, (vI tr)), (4, (vI (i : Int))), (5, .p 0 0), (6, (vS (aS b4 off5) nds.length c)), (7, (vI (nds.length : Int))), (8, (vI (i : Int))), (16, (vB true))], [.c e6.sv 26]⟩) (by rw [hb10] <;> rfl) ?_
    refine At.runk 6 [16, 17, 18, 19, 20, 21] [] ⟨fr 35 [(0, (vS (aS b4 off5) nds.length c)), (3, (vI tr)), (4, (vI (i : Int))), (5, .p 0 0), (6, (vS (aS b4 off5) nds.length c)), (7, (vI (nds.length : Int))), (8, (vI (i : Int))), (22, (vB true))], [.c e6.sv 26]⟩ (by kernel_rfl) ?_
    refine At.nil ?_
    refine At.then_normal ?_
    refine At.cond_t (by kernel_rfl) ?_
    refine At.seq ?_
    refine At.region ?_
    refine At.runk 2 [0, 3, 4, 5, 6, 7, 8, 22, 23] [0] ⟨fr 35 [(2, (vI (i : Int)))], [.dead]⟩ (by kernel_rfl) ?_
    refine At.nil ?_
    refine At.then_normal ?_
    refine At.ret_ ?_
    refine At.then_ret ?_
    refine At.in_ret ?_
    refine At.then_ret ?_
    refine At.then_ret ?_
    refine At.in_ret ?_
    refine At.then_ret ?_
    refine At.forget [] 0 [] ⟨fr 35 [(2, (vI (i : Int)))], []⟩ (by kernel_rfl) (by kernel_rfl) (bleT rfl) ?_
    refine At.leaveR rfl i (by kernel_rfl) (by kernel_rfl) (by kernel_rfl) ?_
    rw [chkZ, hF.2.2.2, chk_bad he7 (by first | (left; assumption) | (right; rw [← arity_of_may (by assumption)]; omega))]
  have hb3p : ¬ ((i : Int) < (nds.length : Int)) := of_decide_eq_false hb3
  refine At.cast (S' := ⟨fr 35 [(0, (vS A nds.length c)), (3, (vI tr)), (6, (vS A nds.length c)), (7, (vI (nds.length : Int))), (8, (vI (i : Int))), (9, (vB false))], []⟩) (by rw [hb3] <;> rfl) ?_
  refine At.cond_f (by kernel_rfl) ?_
  refine At.exit_ ?_
  refine At.then_exit ?_
  refine At.then_exit ?_
  refine At.in_here ?_
  refine At.then_normal ?_
  refine At.seq ?_
  refine At.seq ?_
  refine At.region ?_
  refine At.runk 2 [3, 6, 7, 8, 9, 31] [] ⟨fr 35 [(0, (vS A nds.length c)), (32, (vB (tr != 1)))], []⟩ (by kernel_rfl) ?_
  refine At.nil ?_
  refine At.then_normal ?_
  refine At.bcase (tr != 1) (fun hb16 => ?_) (fun hb16 => ?_)
  · have hb16p : ¬ (tr = 1) := by simpa using hb16
    refine At.cast (S' := ⟨fr 35 [(0, (vS A nds.length c)), (32, (vB true))], []⟩) (by rw [hb16] <;> rfl) ?_
    refine At.cond_t (by kernel_rfl) ?_
    refine At.seq ?_
    refine At.region ?_
    refine At.runk 3 [0, 32, 33, 34] [] ⟨fr 35 [(2, (vI (nds.length : Int)))], []⟩ (by kernel_rfl) ?_
    refine At.nil ?_
    refine At.then_normal ?_
    refine At.ret_ ?_
    refine At.then_ret ?_
    refine At.leaveR rfl (nds.length : Int) (by kernel_rfl) (by kernel_rfl) (by kernel_rfl) ?_
    have hd := chk_end (nds := nds) (i := i) (t := tr) (by omega)
    rw [chkZ, hF.2.2.2, hd, if_neg (by omega)]
    simp only
    omega
  have hb16p : (tr = 1) := by simpa using hb16
  refine At.cast (S' := ⟨fr 35 [(0, (vS A nds.length c)), (32, (vB false))], []⟩) (by rw [hb16] <;> rfl) ?_
  refine At.cond_f (by kernel_rfl) ?_
  refine At.skip ?_
  refine At.then_normal ?_
  refine At.seq ?_
  refine At.region ?_
  refine At.runk 1 [0, 32] [] ⟨fr 35 [(2, (vI (-1)))], []⟩ (by kernel_rfl) ?_
  refine At.nil ?_
  refine At.then_normal ?_
  refine At.ret_ ?_
  refine At.leaveR rfl (-1) (by kernel_rfl) (by kernel_rfl) (by kernel_rfl) ?_
  have hd := chk_end (nds := nds) (i := i) (t := tr) (by omega)
  rw [chkZ, hF.2.2.2, hd, if_pos (by omega)]

theorem rsame_c (Φ : Phi) (xs ys : List Nd) (A B : Option Addr) (c d : Nat) (hR : NdsAt Φ A xs) (hR2 : NdsAt Φ B ys) (hl : xs.length ≤ 1000000) (hl2 : ys.length ≤ 1000000)  : CallR Try.prog 16 [(vS A xs.length c), (vS B ys.length d)] [] Φ Bool (fun t => (vB t)) (fun _ => []) (fun t _ => t = decide (xs = ys)) := by
  refine CallG.enterk Try.func16 rfl [2, 3, 4, 5, 6, 7, 8, 9, 10, 11, 12, 13, 14, 15, 16, 17, 18, 19, 20, 21, 22, 23, 24, 25] ⟨fr 26 [(0, (vS A xs.length c)), (1, (vS B ys.length d))], []⟩ (by kernel_rfl) (by kernel_rfl) ?_
  intro E G β0
  refine At.seq ?_
  refine At.region ?_
  refine At.runk 1 [4] [] ⟨fr 26 [(0, (vS A xs.length c)), (1, (vS B ys.length d))], []⟩ (by kernel_rfl) ?_
  refine At.nil ?_
  refine At.then_normal ?_
  refine At.seq ?_
  refine At.seq ?_
  refine At.region ?_
  refine At.runk 5 [7, 8, 9, 10] [] ⟨fr 26 [(0, (vS A xs.length c)), (1, (vS B ys.length d)), (11, (vB ((xs.length : Int) != (ys.length : Int))))], []⟩ (by kernel_rfl) ?_
  refine At.nil ?_
  refine At.then_normal ?_
  refine At.bcase ((xs.length : Int) != (ys.length : Int)) (fun hb1 => ?_) (fun hb1 => ?_)
  · have hb1p : ¬ ((xs.length : Int) = (ys.length : Int)) := by simpa using hb1
    refine At.cast (S' := ⟨fr 26 [(0, (vS A xs.length c)), (1, (vS B ys.length d)), (11, (vB true))], []⟩) (by rw [hb1] <;> rfl) ?_
    refine At.cond_t (by kernel_rfl) ?_
    refine At.seq ?_
    refine At.region ?_
    refine At.runk 1 [0, 1, 11] [] ⟨fr 26 [(4, (vB false))], []⟩ (by kernel_rfl) ?_
    refine At.nil ?_
    refine At.then_normal ?_
    refine At.ret_ ?_
    refine At.then_ret ?_
    refine At.leaveR rfl false (by kernel_rfl) (by kernel_rfl) (by kernel_rfl) ?_
    rw [eq_comm, decide_eq_false_iff_not]
    rintro rfl
    omega
  have hb1p : ((xs.length : Int) = (ys.length : Int)) := by simpa using hb1
  refine At.cast (S' := ⟨fr 26 [(0, (vS A xs.length c)), (1, (vS B ys.length d)), (11, (vB false))], []⟩) (by rw [hb1] <;> rfl) ?_
  refine At.cond_f (by kernel_rfl) ?_
  refine At.skip ?_
  refine At.then_normal ?_
  refine At.seq ?_
  refine At.seq ?_
  refine At.region ?_
  refine At.runk 3 [0, 11] [] ⟨fr 26 [(1, (vS B ys.length d)), (12, (vS A xs.length c)), (13, (vI (xs.length : Int))), (14, (vI 0))], []⟩ (by kernel_rfl) ?_
  refine At.nil ?_
  refine At.then_normal ?_
  refine At.block ?_
  refine At.loop (T := Nat) (fun x => ⟨fr 26 [(1, (vS B ys.length d)), (12, (vS A xs.length c)), (13, (vI (xs.length : Int))), (14, (vI (x : Int)))], []⟩) (fun x Φ => x ≤ xs.length ∧ xs.take x = ys.take x) (fun x => xs.length - x) 0 (by kernel_rfl) ⟨Nat.zero_le _, rfl⟩ ?_
  rintro i Φ2 hle3 hF
  have hR := hR.mono hle3
  have hR2 := hR2.mono hle3
  refine At.cast (S' := ⟨fr 26 [(1, (vS B ys.length d)), (12, (vS A xs.length c)), (13, (vI (xs.length : Int))), (14, (vI (i : Int)))], []⟩) (by kernel_rfl) ?_
  have hF1 := hF.1
  refine At.seq ?_
  refine At.region ?_
  refine At.runk 1 [] [] ⟨fr 26 [(1, (vS B ys.length d)), (12, (vS A xs.length c)), (13, (vI (xs.length : Int))), (14, (vI (i : Int))), (15, (vB (decide ((i : Int) < (xs.length : Int)))))], []⟩ (by kernel_rfl) ?_
  refine At.nil ?_
  refine At.then_normal ?_
  refine At.seq ?_
  refine At.bcase (decide ((i : Int) < (xs.length : Int))) (fun hb4 => ?_) (fun hb4 => ?_)
  · have hb4p : ((i : Int) < (xs.length : Int)) := of_decide_eq_true hb4
    refine At.cast (S' := ⟨fr 26 [(1, (vS B ys.length d)), (12, (vS A xs.length c)), (13, (vI (xs.length : Int))), (14, (vI (i : Int))), (15, (vB true))], []⟩) (by rw [hb4] <;> rfl) ?_
    refine At.cond_t (by kernel_rfl) ?_
    refine At.skip ?_
    refine At.then_normal ?_
    refine At.seq ?_
    refine At.block ?_
    refine At.seq ?_
    refine At.region ?_
    refine At.runk 1 [15] [] ⟨fr 26 [(1, (vS B ys.length d)), (12, (vS A xs.length c)), (13, (vI (xs.length : Int))), (14, (vI (i : Int))), (16, (vI (i : Int)))], []⟩ (by kernel_rfl) ?_
    obtain ⟨b5, off6, hAeq⟩ : ∃ b off, A = some ⟨b, off, none⟩ := hR.addr (by exact nds_pos (by omega))
    subst hAeq
    refine At.idx (S' := ⟨fr 26 [(1, (vS B ys.length d)), (12, (vS (aS b5 off6) xs.length c)), (13, (vI (xs.length : Int))), (14, (vI (i : Int))), (16, (vI (i : Int))), (17, .v (.pointer (some ⟨b5, off6 + i * 7, none⟩)))], []⟩) rfl (by kernel_rfl) (sz := 7) (e := 26) (by kernel_rfl) (by kernel_rfl) (by kernel_rfl) (b := b5) (off := off6) (n := xs.length) (cap := c) (kd := .i64) (i := (i : Int)) (by kernel_rfl) (by omega) (by omega) (by kernel_rfl) ?_
    obtain ⟨e7, he8⟩ := get_some (l := xs) (i := i) (by omega)
    refine At.vals (S' := ⟨fr 26 [(1, (vS B ys.length d)), (12, (vS (aS b5 off6) xs.length c)), (13, (vI (xs.length : Int))), (14, (vI (i : Int))), (16, (vI (i : Int))), (17, .v (.pointer (some ⟨b5, off6 + i * 7, none⟩))), (18, .agg e7.sv)], []⟩) (by kernel_rfl) (.agg e7.sv) (by kernel_rfl) (Val.ldE rfl (enc := Nd.cells) (xs := xs) (b := b5) (off := off6) hR (sz := 7) (fun _ => rfl) (Nat.zero_lt_succ _) i e7 he8 0 (off6 + i * 7) (by omega) (by kernel_rfl) (.agg e7.sv) (by kernel_rfl)) ?_
    refine At.runk 3 [16, 17, 18] [] ⟨fr 26 [(1, (vS B ys.length d)), (5, (vI (i : Int))), (6, .p 0 0), (12, (vS (aS b5 off6) xs.length c)), (13, (vI (xs.length : Int))), (14, (vI (i : Int)))], [.c e7.sv 26]⟩ (by kernel_rfl) ?_
    refine At.nil ?_
    refine At.then_normal ?_
    refine At.seq ?_
    refine At.freezeC 0 [.int .i64 e7.kind, .int .u64 e7.s0, .int .u64 e7.s1, .int .u64 e7.s2, .int .u64 e7.s3, .int .i64 e7.mn, .int .i64 e7.mx] rfl rfl (bleT rfl) (bleT rfl) (fun _ => by kernel_rfl) (fun _ => by kernel_rfl) ?_
    intro g9 Φ10 hle11 hB12
    have hR := hR.mono hle11
    have hR2 := hR2.mono hle11
    refine ⟨⟨fr 26 [(1, (vS B ys.length d)), (5, (vI (i : Int))), (6, (vP g9 0)), (12, (vS (aS b5 off6) xs.length c)), (13, (vI (xs.length : Int))), (14, (vI (i : Int)))], [.dead]⟩, by kernel_rfl, ?_⟩
    refine At.forget [] 0 [] ⟨fr 26 [(1, (vS B ys.length d)), (5, (vI (i : Int))), (6, (vP g9 0)), (12, (vS (aS b5 off6) xs.length c)), (13, (vI (xs.length : Int))), (14, (vI (i : Int)))], []⟩ (by kernel_rfl) (by kernel_rfl) (bleT rfl) ?_
    refine At.region_draw (by kernel_rfl) 6 (by kernel_rfl) #[false, false, false, false, false, false] (by kernel_rfl) ?_
    have hRd := hR
    have hR2d := hR2
    have hB12d := hB12
    refine At.take (S' := ⟨fr 26 [(1, (vS B ys.length d)), (5, (vI (i : Int))), (6, (vP g9 0)), (12, (vS (aS b5 off6) xs.length c)), (13, (vI (xs.length : Int))), (14, (vI (i : Int))), (19, .agg e7.sv)], []⟩) (PhiLe.refl 0 _) (PanOk.then (PanOk.inBlock (PanOk.then (PanOk.then (PanOk.inBlock (PanOk.then PanOk.body)))))) 0 rfl (by kernel_rfl) (by kernel_rfl) (by kernel_rfl) (by kernel_rfl) (.agg e7.sv) (by kernel_rfl) (fun _ _ => Val.ldB rfl hB12d (Nat.zero_lt_succ _) 0 0 (by omega) (by kernel_rfl) (.agg e7.sv) (by kernel_rfl)) (by kernel_rfl) #[true, false, false, false, false, false] (by kernel_rfl) ?_
    refine At.take (S' := ⟨fr 26 [(1, (vS B ys.length d)), (5, (vI (i : Int))), (6, (vP g9 0)), (12, (vS (aS b5 off6) xs.length c)), (13, (vI (xs.length : Int))), (14, (vI (i : Int))), (19, .agg e7.sv), (20, (vS B ys.length d))], []⟩) (PhiLe.refl 0 _) (PanOk.then (PanOk.inBlock (PanOk.then (PanOk.then (PanOk.inBlock (PanOk.then PanOk.body)))))) 1 rfl (by kernel_rfl) (by kernel_rfl) (by kernel_rfl) (by kernel_rfl) ((vS B ys.length d)) (by kernel_rfl) (fun _ _ => Val.ev rfl (by kernel_rfl) (by kernel_rfl)) (by kernel_rfl) #[true, true, false, false, false, false] (by kernel_rfl) ?_
    refine At.take (S' := ⟨fr 26 [(1, (vS B ys.length d)), (5, (vI (i : Int))), (6, (vP g9 0)), (12, (vS (aS b5 off6) xs.length c)), (13, (vI (xs.length : Int))), (14, (vI (i : Int))), (19, .agg e7.sv), (20, (vS B ys.length d)), (21, (vI (i : Int)))], []⟩) (PhiLe.refl 0 _) (PanOk.then (PanOk.inBlock (PanOk.then (PanOk.then (PanOk.inBlock (PanOk.then PanOk.body)))))) 2 rfl (by kernel_rfl) (by kernel_rfl) (by kernel_rfl) (by kernel_rfl) ((vI (i : Int))) (by kernel_rfl) (fun _ _ => Val.ev rfl (by kernel_rfl) (by kernel_rfl)) (by kernel_rfl) #[true, true, true, false, false, false] (by kernel_rfl) ?_
    obtain ⟨b13, off14, hBeq⟩ : ∃ b off, B = some ⟨b, off, none⟩ := hR2.addr (by exact nds_pos (by omega))
    subst hBeq
    refine At.take (S' := ⟨fr 26 [(1, (vS (aS b13 off14) ys.length d)), (5, (vI (i : Int))), (6, (vP g9 0)), (12, (vS (aS b5 off6) xs.length c)), (13, (vI (xs.length : Int))), (14, (vI (i : Int))), (19, .agg e7.sv), (20, (vS (aS b13 off14) ys.length d)), (21, (vI (i : Int))), (22, .v (.pointer (some ⟨b13, off14 + i * 7, none⟩)))], []⟩) (PhiLe.refl 0 _) (PanOk.then (PanOk.inBlock (PanOk.then (PanOk.then (PanOk.inBlock (PanOk.then PanOk.body)))))) 3 rfl (by kernel_rfl) (by kernel_rfl) (by kernel_rfl) (by kernel_rfl) (.v (.pointer (some ⟨b13, off14 + i * 7, none⟩))) (by kernel_rfl) (fun _ _ => Val.idx rfl (sz := 7) (e := 26) (by kernel_rfl) (by kernel_rfl) (by kernel_rfl) (b := b13) (off := off14) (n := ys.length) (cap := d) (kd := .i64) (i := (i : Int)) (by kernel_rfl) (by omega) (by omega)) (by kernel_rfl) #[true, true, true, true, false, false] (by kernel_rfl) ?_
    obtain ⟨e15, he16⟩ := get_some (l := ys) (i := i) (by omega)
    refine At.take (S' := ⟨fr 26 [(1, (vS (aS b13 off14) ys.length d)), (5, (vI (i : Int))), (6, (vP g9 0)), (12, (vS (aS b5 off6) xs.length c)), (13, (vI (xs.length : Int))), (14, (vI (i : Int))), (19, .agg e7.sv), (20, (vS (aS b13 off14) ys.length d)), (21, (vI (i : Int))), (22, .v (.pointer (some ⟨b13, off14 + i * 7, none⟩))), (23, .agg e15.sv)], []⟩) (PhiLe.refl 0 _) (PanOk.then (PanOk.inBlock (PanOk.then (PanOk.then (PanOk.inBlock (PanOk.then PanOk.body)))))) 4 rfl (by kernel_rfl) (by kernel_rfl) (by kernel_rfl) (by kernel_rfl) (.agg e15.sv) (by kernel_rfl) (fun _ _ => Val.ldE rfl (enc := Nd.cells) (xs := ys) (b := b13) (off := off14) hR2d (sz := 7) (fun _ => rfl) (Nat.zero_lt_succ _) i e15 he16 0 (off14 + i * 7) (by omega) (by kernel_rfl) (.agg e15.sv) (by kernel_rfl)) (by kernel_rfl) #[true, true, true, true, true, false] (by kernel_rfl) ?_
    refine At.take (S' := ⟨fr 26 [(1, (vS (aS b13 off14) ys.length d)), (5, (vI (i : Int))), (6, (vP g9 0)), (12, (vS (aS b5 off6) xs.length c)), (13, (vI (xs.length : Int))), (14, (vI (i : Int))), (19, .agg e7.sv), (20, (vS (aS b13 off14) ys.length d)), (21, (vI (i : Int))), (22, .v (.pointer (some ⟨b13, off14 + i * 7, none⟩))), (23, .agg e15.sv), (24, (vB (decide (e7 ≠ e15))))], []⟩) (PhiLe.refl 0 _) (PanOk.then (PanOk.inBlock (PanOk.then (PanOk.then (PanOk.inBlock (PanOk.then PanOk.body)))))) 5 rfl (by kernel_rfl) (by kernel_rfl) (by kernel_rfl) (by kernel_rfl) ((vB (decide (e7 ≠ e15)))) (by kernel_rfl) (fun _ _ => Val.eqv rfl (xs := e7.sv) (ys := e15.sv) (by kernel_rfl) (by kernel_rfl) (b := ((e7.kind == e15.kind) && (((e7.s0 == e15.s0) && ((e7.s1 == e15.s1) && ((e7.s2 == e15.s2) && ((e7.s3 == e15.s3) && true)))) && ((e7.mn == e15.mn) && ((e7.mx == e15.mx) && true))))) (by kernel_rfl) (by kernel_rfl) (decide (e7 ≠ e15)) (.inr ⟨rfl, (nd_neq _ _)⟩)) (by kernel_rfl) #[true, true, true, true, true, true] (by kernel_rfl) ?_
    refine At.drawn_done (by kernel_rfl) ?_
    refine At.then_normal ?_
    refine At.bcase (decide (e7 ≠ e15)) (fun hb17 => ?_) (fun hb17 => ?_)
    · refine At.cast (S' := ⟨fr 26 [(1, (vS (aS b13 off14) ys.length d)), (5, (vI (i : Int))), (6, (vP g9 0)), (12, (vS (aS b5 off6) xs.length c)), (13, (vI (xs.length : Int))), (14, (vI (i : Int))), (19, .agg e7.sv), (20, (vS (aS b13 off14) ys.length d)), (21, (vI (i : Int))), (22, .v (.pointer (some ⟨b13, off14 + i * 7, none⟩))), (23, .agg e15.sv), (24, (vB true))], []⟩) (by rw [hb17] <;> rfl) ?_
      refine At.cond_t (by kernel_rfl) ?_
      refine At.seq ?_
      refine At.region ?_
      refine At.runk 1 [1, 5, 6, 12, 13, 14, 19, 20, 21, 22, 23, 24] [] ⟨fr 26 [(4, (vB false))], []⟩ (by kernel_rfl) ?_
      refine At.nil ?_
      refine At.then_normal ?_
      refine At.ret_ ?_
      refine At.in_ret ?_
      refine At.then_ret ?_
      refine At.then_ret ?_
      refine At.in_ret ?_
      refine At.then_ret ?_
      refine At.leaveR rfl false (by kernel_rfl) (by kernel_rfl) (by kernel_rfl) ?_
      rw [eq_comm, decide_eq_false_iff_not]
      exact same_bad he8 he16 (by simp_all)
    refine At.cast (S' := ⟨fr 26 [(1, (vS (aS b13 off14) ys.length d)), (5, (vI (i : Int))), (6, (vP g9 0)), (12, (vS (aS b5 off6) xs.length c)), (13, (vI (xs.length : Int))), (14, (vI (i : Int))), (19, .agg e7.sv), (20, (vS (aS b13 off14) ys.length d)), (21, (vI (i : Int))), (22, .v (.pointer (some ⟨b13, off14 + i * 7, none⟩))), (23, .agg e15.sv), (24, (vB false))], []⟩) (by rw [hb17] <;> rfl) ?_
    refine At.cond_f (by kernel_rfl) ?_
    refine At.skip ?_
    refine At.in_normal ?_
    refine At.then_normal ?_
    refine At.region ?_
    refine At.runk 1 [5, 6, 14, 19, 20, 21, 22, 23, 24] [] ⟨fr 26 [(1, (vS (aS b13 off14) ys.length d)), (12, (vS (aS b5 off6) xs.length c)), (13, (vI (xs.length : Int))), (25, (vI (IntKind.i64.wrap ((i : Int) + 1))))], []⟩ (by kernel_rfl) ?_
    refine At.cast (S' := ⟨fr 26 [(1, (vS (aS b13 off14) ys.length d)), (12, (vS (aS b5 off6) xs.length c)), (13, (vI (xs.length : Int))), (25, (vI ((i : Int) + 1)))], []⟩) (by rw [wrapI (z := (i : Int) + 1) (by omega) (by omega)]) ?_
    refine At.runk 1 [25] [] ⟨fr 26 [(1, (vS (aS b13 off14) ys.length d)), (12, (vS (aS b5 off6) xs.length c)), (13, (vI (xs.length : Int))), (14, (vI ((i : Int) + 1)))], []⟩ (by kernel_rfl) ?_
    refine At.nil ?_
    refine At.round (i + 1) (by kernel_rfl) hle11 ⟨by omega, same_step hF.2 he8 he16 (by simpa using hb17)⟩ (by omega)
  have hb4p : ¬ ((i : Int) < (xs.length : Int)) := of_decide_eq_false hb4
  refine At.cast (S' := ⟨fr 26 [(1, (vS B ys.length d)), (12, (vS A xs.length c)), (13, (vI (xs.length : Int))), (14, (vI (i : Int))), (15, (vB false))], []⟩) (by rw [hb4] <;> rfl) ?_
  refine At.cond_f (by kernel_rfl) ?_
  refine At.exit_ ?_
  refine At.then_exit ?_
  refine At.then_exit ?_
  refine At.in_here ?_
  refine At.then_normal ?_
  refine At.seq ?_
  refine At.region ?_
  refine At.runk 1 [1, 12, 13, 14, 15] [] ⟨fr 26 [(4, (vB true))], []⟩ (by kernel_rfl) ?_
  refine At.nil ?_
  refine At.then_normal ?_
  refine At.ret_ ?_
  refine At.leaveR rfl true (by kernel_rfl) (by kernel_rfl) (by kernel_rfl) ?_
  rw [eq_comm, decide_eq_true_eq]
  exact same_end hF.1 (by omega) (by omega) hF.2

theorem equal_c (Φ : Phi) (xs ys : List Nd) (A B : Option Addr) (c d : Nat) (hR : NdsAt Φ A xs) (hR2 : NdsAt Φ B ys) (hl : xs.length ≤ 1000000) (hl2 : ys.length ≤ 1000000)  : CallR Try.prog 54 [(vS A xs.length c), (vS B ys.length d)] [] Φ Bool (fun t => (vB t)) (fun _ => []) (fun t _ => t = decide (xs = ys)) := by
  refine CallG.enterk Try.func54 rfl [2, 3, 4, 5, 6, 7, 8, 9, 10, 11, 12, 13, 14, 15, 16, 17, 18, 19, 20, 21, 22, 23, 24, 25] ⟨fr 26 [(0, (vS A xs.length c)), (1, (vS B ys.length d))], []⟩ (by kernel_rfl) (by kernel_rfl) ?_
  intro E G β0
  refine At.seq ?_
  refine At.region ?_
  refine At.runk 1 [4] [] ⟨fr 26 [(0, (vS A xs.length c)), (1, (vS B ys.length d))], []⟩ (by kernel_rfl) ?_
  refine At.nil ?_
  refine At.then_normal ?_
  refine At.seq ?_
  refine At.seq ?_
  refine At.region ?_
  refine At.runk 5 [6, 7, 8, 9] [] ⟨fr 26 [(0, (vS A xs.length c)), (1, (vS B ys.length d)), (10, (vB ((xs.length : Int) != (ys.length : Int))))], []⟩ (by kernel_rfl) ?_
  refine At.nil ?_
  refine At.then_normal ?_
  refine At.bcase ((xs.length : Int) != (ys.length : Int)) (fun hb1 => ?_) (fun hb1 => ?_)
  · have hb1p : ¬ ((xs.length : Int) = (ys.length : Int)) := by simpa using hb1
    refine At.cast (S' := ⟨fr 26 [(0, (vS A xs.length c)), (1, (vS B ys.length d)), (10, (vB true))], []⟩) (by rw [hb1] <;> rfl) ?_
    refine At.cond_t (by kernel_rfl) ?_
    refine At.seq ?_
    refine At.region ?_
    refine At.runk 1 [0, 1, 10] [] ⟨fr 26 [(4, (vB false))], []⟩ (by kernel_rfl) ?_
    refine At.nil ?_
    refine At.then_normal ?_
    refine At.ret_ ?_
    refine At.then_ret ?_
    refine At.leaveR rfl false (by kernel_rfl) (by kernel_rfl) (by kernel_rfl) ?_
    rw [eq_comm, decide_eq_false_iff_not]
    rintro rfl
    omega
  have hb1p : ((xs.length : Int) = (ys.length : Int)) := by simpa using hb1
  refine At.cast (S' := ⟨fr 26 [(0, (vS A xs.length c)), (1, (vS B ys.length d)), (10, (vB false))], []⟩) (by rw [hb1] <;> rfl) ?_
  refine At.cond_f (by kernel_rfl) ?_
  refine At.skip ?_
  refine At.then_normal ?_
  refine At.seq ?_
  refine At.seq ?_
  refine At.region ?_
  refine At.runk 3 [10, 11] [] ⟨fr 26 [(0, (vS A xs.length c)), (1, (vS B ys.length d)), (12, (vI (xs.length : Int))), (13, (vI 0))], []⟩ (by kernel_rfl) ?_
  refine At.nil ?_
  refine At.then_normal ?_
  refine At.block ?_
  refine At.loop (T := Nat) (fun x => ⟨fr 26 [(0, (vS A xs.length c)), (1, (vS B ys.length d)), (12, (vI (xs.length : Int))), (13, (vI (x : Int)))], []⟩) (fun x Φ => x ≤ xs.length ∧ xs.take x = ys.take x) (fun x => xs.length - x) 0 (by kernel_rfl) ⟨Nat.zero_le _, rfl⟩ ?_
  rintro i Φ2 hle3 hF
  have hR := hR.mono hle3
  have hR2 := hR2.mono hle3
  refine At.cast (S' := ⟨fr 26 [(0, (vS A xs.length c)), (1, (vS B ys.length d)), (12, (vI (xs.length : Int))), (13, (vI (i : Int)))], []⟩) (by kernel_rfl) ?_
  have hF1 := hF.1
  refine At.seq ?_
  refine At.region ?_
  refine At.runk 1 [] [] ⟨fr 26 [(0, (vS A xs.length c)), (1, (vS B ys.length d)), (12, (vI (xs.length : Int))), (13, (vI (i : Int))), (14, (vB (decide ((i : Int) < (xs.length : Int)))))], []⟩ (by kernel_rfl) ?_
  refine At.nil ?_
  refine At.then_normal ?_
  refine At.seq ?_
  refine At.bcase (decide ((i : Int) < (xs.length : Int))) (fun hb4 => ?_) (fun hb4 => ?_)
  · have hb4p : ((i : Int) < (xs.length : Int)) := of_decide_eq_true hb4
    refine At.cast (S' := ⟨fr 26 [(0, (vS A xs.length c)), (1, (vS B ys.length d)), (12, (vI (xs.length : Int))), (13, (vI (i : Int))), (14, (vB true))], []⟩) (by rw [hb4] <;> rfl) ?_
    refine At.cond_t (by kernel_rfl) ?_
    refine At.skip ?_
    refine At.then_normal ?_
    refine At.seq ?_
    refine At.block ?_
    refine At.seq ?_
    refine At.region ?_
    refine At.runk 2 [14, 15] [] ⟨fr 26 [(0, (vS A xs.length c)), (1, (vS B ys.length d)), (5, (vI (i : Int))), (12, (vI (xs.length : Int))), (13, (vI (i : Int)))], []⟩ (by kernel_rfl) ?_
    refine At.nil ?_
    refine At.then_normal ?_
    refine At.seq ?_
    refine At.region_draw (by kernel_rfl) 9 (by kernel_rfl) #[false, false, false, false, false, false, false, false, false] (by kernel_rfl) ?_
    have hRd := hR
    have hR2d := hR2
    refine At.take (S' := ⟨fr 26 [(0, (vS A xs.length c)), (1, (vS B ys.length d)), (5, (vI (i : Int))), (12, (vI (xs.length : Int))), (13, (vI (i : Int))), (16, (vS A xs.length c))], []⟩) (PhiLe.refl 0 _) (PanOk.then (PanOk.inBlock (PanOk.then (PanOk.then (PanOk.inBlock (PanOk.then PanOk.body)))))) 0 rfl (by kernel_rfl) (by kernel_rfl) (by kernel_rfl) (by kernel_rfl) ((vS A xs.length c)) (by kernel_rfl) (fun _ _ => Val.ev rfl (by kernel_rfl) (by kernel_rfl)) (by kernel_rfl) #[true, false, false, false, false, false, false, false, false] (by kernel_rfl) ?_
    refine At.take (S' := ⟨fr 26 [(0, (vS A xs.length c)), (1, (vS B ys.length d)), (5, (vI (i : Int))), (12, (vI (xs.length : Int))), (13, (vI (i : Int))), (16, (vS A xs.length c)), (17, (vI (i : Int)))], []⟩) (PhiLe.refl 0 _) (PanOk.then (PanOk.inBlock (PanOk.then (PanOk.then (PanOk.inBlock (PanOk.then PanOk.body)))))) 1 rfl (by kernel_rfl) (by kernel_rfl) (by kernel_rfl) (by kernel_rfl) ((vI (i : Int))) (by kernel_rfl) (fun _ _ => Val.ev rfl (by kernel_rfl) (by kernel_rfl)) (by kernel_rfl) #[true, true, false, false, false, false, false, false, false] (by kernel_rfl) ?_
    obtain ⟨b5, off6, hAeq⟩ : ∃ b off, A = some ⟨b, off, none⟩ := hR.addr (by exact nds_pos (by omega))
    subst hAeq
    refine At.take (S' := ⟨fr 26 [(0, (vS (aS b5 off6) xs.length c)), (1, (vS B ys.length d)), (5, (vI (i : Int))), (12, (vI (xs.length : Int))), (13, (vI (i : Int))), (16, (vS (aS b5 off6) xs.length c)), (17, (vI (i : Int))), (18, .v (.pointer (some ⟨b5, off6 + i * 7, none⟩)))], []⟩) (PhiLe.refl 0 _) (PanOk.then (PanOk.inBlock (PanOk.then (PanOk.then (PanOk.inBlock (PanOk.then PanOk.body)))))) 2 rfl (by kernel_rfl) (by kernel_rfl) (by kernel_rfl) (by kernel_rfl) (.v (.pointer (some ⟨b5, off6 + i * 7, none⟩))) (by kernel_rfl) (fun _ _ => Val.idx rfl (sz := 7) (e := 26) (by kernel_rfl) (by kernel_rfl) (by kernel_rfl) (b := b5) (off := off6) (n := xs.length) (cap := c) (kd := .i64) (i := (i : Int)) (by kernel_rfl) (by omega) (by omega)) (by kernel_rfl) #[true, true, true, false, false, false, false, false, false] (by kernel_rfl) ?_
    obtain ⟨e7, he8⟩ := get_some (l := xs) (i := i) (by omega)
    refine At.take (S' := ⟨fr 26 [(0, (vS (aS b5 off6) xs.length c)), (1, (vS B ys.length d)), (5, (vI (i : Int))), (12, (vI (xs.length : Int))), (13, (vI (i : Int))), (16, (vS (aS b5 off6) xs.length c)), (17, (vI (i : Int))), (18, .v (.pointer (some ⟨b5, off6 + i * 7, none⟩))), (19, .agg e7.sv)], []⟩) (PhiLe.refl 0 _) (PanOk.then (PanOk.inBlock (PanOk.then (PanOk.then (PanOk.inBlock (PanOk.then PanOk.body)))))) 3 rfl (by kernel_rfl) (by kernel_rfl) (by kernel_rfl) (by kernel_rfl) (.agg e7.sv) (by kernel_rfl) (fun _ _ => Val.ldE rfl (enc := Nd.cells) (xs := xs) (b := b5) (off := off6) hRd (sz := 7) (fun _ => rfl) (Nat.zero_lt_succ _) i e7 he8 0 (off6 + i * 7) (by omega) (by kernel_rfl) (.agg e7.sv) (by kernel_rfl)) (by kernel_rfl) #[true, true, true, true, false, false, false, false, false] (by kernel_rfl) ?_
    refine At.take (S' := ⟨fr 26 [(0, (vS (aS b5 off6) xs.length c)), (1, (vS B ys.length d)), (5, (vI (i : Int))), (12, (vI (xs.length : Int))), (13, (vI (i : Int))), (16, (vS (aS b5 off6) xs.length c)), (17, (vI (i : Int))), (18, .v (.pointer (some ⟨b5, off6 + i * 7, none⟩))), (19, .agg e7.sv), (20, (vS B ys.length d))], []⟩) (PhiLe.refl 0 _) (PanOk.then (PanOk.inBlock (PanOk.then (PanOk.then (PanOk.inBlock (PanOk.then PanOk.body)))))) 4 rfl (by kernel_rfl) (by kernel_rfl) (by kernel_rfl) (by kernel_rfl) ((vS B ys.length d)) (by kernel_rfl) (fun _ _ => Val.ev rfl (by kernel_rfl) (by kernel_rfl)) (by kernel_rfl) #[true, true, true, true, true, false, false, false, false] (by kernel_rfl) ?_
    refine At.take (S' := ⟨fr 26 [(0, (vS (aS b5 off6) xs.length c)), (1, (vS B ys.length d)), (5, (vI (i : Int))), (12, (vI (xs.length : Int))), (13, (vI (i : Int))), (16, (vS (aS b5 off6) xs.length c)), (17, (vI (i : Int))), (18, .v (.pointer (some ⟨b5, off6 + i * 7, none⟩))), (19, .agg e7.sv), (20, (vS B ys.length d)), (21, (vI (i : Int)))], []⟩) (PhiLe.refl 0 _) (PanOk.then (PanOk.inBlock (PanOk.then (PanOk.then (PanOk.inBlock (PanOk.then PanOk.body)))))) 5 rfl (by kernel_rfl) (by kernel_rfl) (by kernel_rfl) (by kernel_rfl) ((vI (i : Int))) (by kernel_rfl) (fun _ _ => Val.ev rfl (by kernel_rfl) (by kernel_rfl)) (by kernel_rfl) #[true, true, true, true, true, true, false, false, false] (by kernel_rfl) ?_
    obtain ⟨b9, off10, hBeq⟩ : ∃ b off, B = some ⟨b, off, none⟩ := hR2.addr (by exact nds_pos (by omega))
    subst hBeq
    refine At.take (S' := ⟨fr 26 [(0, (vS (aS b5 off6) xs.length c)), (1, (vS (aS b9 off10) ys.length d)), (5, (vI (i : Int))), (12, (vI (xs.length : Int))), (13, (vI (i : Int))), (16, (vS (aS b5 off6) xs.length c)), (17, (vI (i : Int))), (18, .v (.pointer (some ⟨b5, off6 + i * 7, none⟩))), (19, .agg e7.sv), (20, (vS (aS b9 off10) ys.length d)), (21, (vI (i : Int))), (22, .v (.pointer (some ⟨b9, off10 + i * 7, none⟩)))], []⟩) (PhiLe.refl 0 _) (PanOk.then (PanOk.inBlock (PanOk.then (PanOk.then (PanOk.inBlock (PanOk.then PanOk.body)))))) 6 rfl (by kernel_rfl) (by kernel_rfl) (by kernel_rfl) (by kernel_rfl) (.v (.pointer (some ⟨b9, off10 + i * 7, none⟩))) (by kernel_rfl) (fun _ _ => Val.idx rfl (sz := 7) (e := 26) (by kernel_rfl) (by kernel_rfl) (by kernel_rfl) (b := b9) (off := off10) (n := ys.length) (cap := d) (kd := .i64) (i := (i : Int)) (by kernel_rfl) (by omega) (by omega)) (by kernel_rfl) #[true, true, true, true, true, true, true, false, false] (by kernel_rfl) ?_
    obtain ⟨e11, he12⟩ := get_some (l := ys) (i := i) (by omega)
    refine At.take (S' := ⟨fr 26 [(0, (vS (aS b5 off6) xs.length c)), (1, (vS (aS b9 off10) ys.length d)), (5, (vI (i : Int))), (12, (vI (xs.length : Int))), (13, (vI (i : Int))), (16, (vS (aS b5 off6) xs.length c)), (17, (vI (i : Int))), (18, .v (.pointer (some ⟨b5, off6 + i * 7, none⟩))), (19, .agg e7.sv), (20, (vS (aS b9 off10) ys.length d)), (21, (vI (i : Int))), (22, .v (.pointer (some ⟨b9, off10 + i * 7, none⟩))), (23, .agg e11.sv)], []⟩) (PhiLe.refl 0 _) (PanOk.then (PanOk.inBlock (PanOk.then (PanOk.then (PanOk.inBlock (PanOk.then PanOk.body)))))) 7 rfl (by kernel_rfl) (by kernel_rfl) (by kernel_rfl) (by kernel_rfl) (.agg e11.sv) (by kernel_rfl) (fun _ _ => Val.ldE rfl (enc := Nd.cells) (xs := ys) (b := b9) (off := off10) hR2d (sz := 7) (fun _ => rfl) (Nat.zero_lt_succ _) i e11 he12 0 (off10 + i * 7) (by omega) (by kernel_rfl) (.agg e11.sv) (by kernel_rfl)) (by kernel_rfl) #[true, true, true, true, true, true, true, true, false] (by kernel_rfl) ?_
    refine At.take (S' := ⟨fr 26 [(0, (vS (aS b5 off6) xs.length c)), (1, (vS (aS b9 off10) ys.length d)), (5, (vI (i : Int))), (12, (vI (xs.length : Int))), (13, (vI (i : Int))), (16, (vS (aS b5 off6) xs.length c)), (17, (vI (i : Int))), (18, .v (.pointer (some ⟨b5, off6 + i * 7, none⟩))), (19, .agg e7.sv), (20, (vS (aS b9 off10) ys.length d)), (21, (vI (i : Int))), (22, .v (.pointer (some ⟨b9, off10 + i * 7, none⟩))), (23, .agg e11.sv), (24, (vB (decide (e7 ≠ e11))))], []⟩) (PhiLe.refl 0 _) (PanOk.then (PanOk.inBlock (PanOk.then (PanOk.then (PanOk.inBlock (PanOk.then PanOk.body)))))) 8 rfl (by kernel_rfl) (by kernel_rfl) (by kernel_rfl) (by kernel_rfl) ((vB (decide (e7 ≠ e11)))) (by kernel_rfl) (fun _ _ => Val.eqv rfl (xs := e7.sv) (ys := e11.sv) (by kernel_rfl) (by kernel_rfl) (b := ((e7.kind == e11.kind) && (((e7.s0 == e11.s0) && ((e7.s1 == e11.s1) && ((e7.s2 == e11.s2) && ((e7.s3 == e11.s3) && true)))) && ((e7.mn == e11.mn) && ((e7.mx == e11.mx) && true))))) (by kernel_rfl) (by kernel_rfl) (decide (e7 ≠ e11)) (.inr ⟨rfl, (nd_neq _ _)⟩)) (by kernel_rfl) #[true, true, true, true, true, true, true, true, true] (by kernel_rfl) ?_
    refine At.drawn_done (by kernel_rfl) ?_
    refine At.then_normal ?_
    refine At.bcase (decide (e7 ≠ e11)) (fun hb13 => ?_) (fun hb13 => ?_)
    · refine At.cast (S' := ⟨fr 26 [(0, (vS (aS b5 off6) xs.length c)), (1, (vS (aS b9 off10) ys.length d)), (5, (vI (i : Int))), (12, (vI (xs.length : Int))), (13, (vI (i : Int))), (16, (vS (aS b5 off6) xs.length c)), (17, (vI (i : Int))), (18, .v (.pointer (some ⟨b5, off6 + i * 7, none⟩))), (19, .agg e7.sv), (20, (vS (aS b9 off10) ys.length d)), (21, (vI (i : Int))), (22, .v (.pointer (some ⟨b9, off10 + i * 7, none⟩))), (23, .agg e11.sv), (24, (vB true))], []⟩) (by rw [hb13] <;> rfl) ?_
      refine At.cond_t (by kernel_rfl) ?_
      refine At.seq ?_
      refine At.region ?_
      refine At.runk 1 [0, 1, 5, 12, 13, 16, 17, 18, 19, 20, 21, 22, 23, 24] [] ⟨fr 26 [(4, (vB false))], []⟩ (by kernel_rfl) ?_
      refine At.nil ?_
      refine At.then_normal ?_
      refine At.ret_ ?_
      refine At.in_ret ?_
      refine At.then_ret ?_
      refine At.then_ret ?_
      refine At.in_ret ?_
      refine At.then_ret ?_
      refine At.leaveR rfl false (by kernel_rfl) (by kernel_rfl) (by kernel_rfl) ?_
      rw [eq_comm, decide_eq_false_iff_not]
      exact same_bad he8 he12 (by simp_all)
    refine At.cast (S' := ⟨fr 26 [(0, (vS (aS b5 off6) xs.length c)), (1, (vS (aS b9 off10) ys.length d)), (5, (vI (i : Int))), (12, (vI (xs.length : Int))), (13, (vI (i : Int))), (16, (vS (aS b5 off6) xs.length c)), (17, (vI (i : Int))), (18, .v (.pointer (some ⟨b5, off6 + i * 7, none⟩))), (19, .agg e7.sv), (20, (vS (aS b9 off10) ys.length d)), (21, (vI (i : Int))), (22, .v (.pointer (some ⟨b9, off10 + i * 7, none⟩))), (23, .agg e11.sv), (24, (vB false))], []⟩) (by rw [hb13] <;> rfl) ?_
    refine At.cond_f (by kernel_rfl) ?_
    refine At.skip ?_
    refine At.in_normal ?_
    refine At.then_normal ?_
    refine At.region ?_
    refine At.runk 1 [5, 13, 16, 17, 18, 19, 20, 21, 22, 23, 24] [] ⟨fr 26 [(0, (vS (aS b5 off6) xs.length c)), (1, (vS (aS b9 off10) ys.length d)), (12, (vI (xs.length : Int))), (25, (vI (IntKind.i64.wrap ((i : Int) + 1))))], []⟩ (by kernel_rfl) ?_
    refine At.cast (S' := ⟨fr 26 [(0, (vS (aS b5 off6) xs.length c)), (1, (vS (aS b9 off10) ys.length d)), (12, (vI (xs.length : Int))), (25, (vI ((i : Int) + 1)))], []⟩) (by rw [wrapI (z := (i : Int) + 1) (by omega) (by omega)]) ?_
    refine At.runk 1 [25] [] ⟨fr 26 [(0, (vS (aS b5 off6) xs.length c)), (1, (vS (aS b9 off10) ys.length d)), (12, (vI (xs.length : Int))), (13, (vI ((i : Int) + 1)))], []⟩ (by kernel_rfl) ?_
    refine At.nil ?_
    refine At.round (i + 1) (by kernel_rfl) (PhiLe.refl 0 _) ⟨by omega, same_step hF.2 he8 he12 (by simpa using hb13)⟩ (by omega)
  have hb4p : ¬ ((i : Int) < (xs.length : Int)) := of_decide_eq_false hb4
  refine At.cast (S' := ⟨fr 26 [(0, (vS A xs.length c)), (1, (vS B ys.length d)), (12, (vI (xs.length : Int))), (13, (vI (i : Int))), (14, (vB false))], []⟩) (by rw [hb4] <;> rfl) ?_
  refine At.cond_f (by kernel_rfl) ?_
  refine At.exit_ ?_
  refine At.then_exit ?_
  refine At.then_exit ?_
  refine At.in_here ?_
  refine At.then_normal ?_
  refine At.seq ?_
  refine At.region ?_
  refine At.runk 1 [0, 1, 12, 13, 14] [] ⟨fr 26 [(4, (vB true))], []⟩ (by kernel_rfl) ?_
  refine At.nil ?_
  refine At.then_normal ?_
  refine At.ret_ ?_
  refine At.leaveR rfl true (by kernel_rfl) (by kernel_rfl) (by kernel_rfl) ?_
  rw [eq_comm, decide_eq_true_eq]
  exact same_end hF.1 (by omega) (by omega) hF.2

theorem same_c (Φ : Phi) (xs ys : List Nd) (A B : Option Addr) (c d : Nat) (hR : NdsAt Φ A xs) (hR2 : NdsAt Φ B ys) (hl : xs.length ≤ 1000000) (hl2 : ys.length ≤ 1000000)  : CallR Try.prog 20 [(vS A xs.length c), (vS B ys.length d)] [] Φ Bool (fun t => (vB t)) (fun _ => []) (fun t _ => t = decide (xs = ys)) := by
  refine CallG.enterk Try.func20 rfl [2, 3, 4, 5, 6, 7] ⟨fr 8 [(0, (vS A xs.length c)), (1, (vS B ys.length d))], []⟩ (by kernel_rfl) (by kernel_rfl) ?_
  intro E G β0
  refine At.seq ?_
  refine At.region ?_
  refine At.runk 1 [4] [] ⟨fr 8 [(0, (vS A xs.length c)), (1, (vS B ys.length d))], []⟩ (by kernel_rfl) ?_
  refine At.nil ?_
  refine At.then_normal ?_
  refine At.seq ?_
  refine At.region ?_
  refine At.runk 2 [0, 1] [] ⟨fr 8 [(5, (vS A xs.length c)), (6, (vS B ys.length d))], []⟩ (by kernel_rfl) ?_
  refine At.callV rfl (by kernel_rfl) 54 [] [] (by kernel_rfl) Try.func54 (by kernel_rfl) (by kernel_rfl) [(vS A xs.length c), (vS B ys.length d)] (by kernel_rfl) (by kernel_rfl) (equal_c Φ xs ys A B c d hR hR2 hl hl2) ?_
  rintro Φ1 _ hle2 rfl
  have hR := hR.mono hle2
  have hR2 := hR2.mono hle2
  refine ⟨⟨fr 8 [(5, (vS A xs.length c)), (6, (vS B ys.length d)), (7, (vB (decide (xs = ys))))], []⟩, by kernel_rfl, by kernel_rfl, ?_⟩
  refine At.runk 1 [5, 6, 7] [] ⟨fr 8 [(4, (vB (decide (xs = ys))))], []⟩ (by kernel_rfl) ?_
  refine At.nil ?_
  refine At.then_normal ?_
  refine At.ret_ ?_
  refine At.leaveR rfl (decide (xs = ys)) (by kernel_rfl) (by kernel_rfl) (by kernel_rfl) ?_
  rfl

end Go.Sx
