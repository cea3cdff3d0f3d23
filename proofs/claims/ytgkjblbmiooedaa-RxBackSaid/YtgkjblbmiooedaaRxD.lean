/- RxD: printed by wip/gen/lib04.py. Walks over functions of the program. -/
import Derived.Test.YtgkjblbmiooedaaRxC
namespace Go.Sx
open Go.Proofs Go.RowKit
theorem check_c (Φ : Phi) (nds : List Nd) (A : Option Addr) (c : Nat) (hR : NdsAt Φ A nds) (hl : nds.length ≤ 1000000) (ndsw : ∀ n ∈ nds, n.wf)  : CallR Try.prog 21 [(vS A nds.length c)] [] Φ (Int × Int) (fun t => .tup [(vI t.1), (vI t.2)]) (fun _ => []) (fun t _ => t = chkR nds) := by
  refine CallG.enterk Try.func21 rfl [1, 2, 3, 4, 5, 6, 7, 8, 9, 10, 11, 12, 13, 14, 15, 16, 17, 18, 19, 20, 21, 22, 23, 24, 25, 26, 27, 28, 29, 30, 31, 32, 33, 34, 35, 36, 37, 38, 39] ⟨fr 40 [(0, (vS A nds.length c))], []⟩ (by kernel_rfl) (by kernel_rfl) ?_
  intro E G β0
  refine At.seq ?_
  refine At.region ?_
  refine At.runk 2 [2, 3] [] ⟨fr 40 [(0, (vS A nds.length c))], []⟩ (by kernel_rfl) ?_
  refine At.nil ?_
  refine At.then_normal ?_
  refine At.seq ?_
  refine At.region ?_
  refine At.runk 1 [] [] ⟨fr 40 [(0, (vS A nds.length c)), (4, (vI 0))], []⟩ (by kernel_rfl) ?_
  refine At.nil ?_
  refine At.then_normal ?_
  refine At.seq ?_
  refine At.seq ?_
  refine At.region ?_
  refine At.runk 3 [] [] ⟨fr 40 [(0, (vS A nds.length c)), (4, (vI 0)), (9, (vS A nds.length c)), (10, (vI (nds.length : Int))), (11, (vI 0))], []⟩ (by kernel_rfl) ?_
  refine At.nil ?_
  refine At.then_normal ?_
  refine At.block ?_
  refine At.loop (T := Nat × Int) (fun x => ⟨fr 40 [(0, (vS A nds.length c)), (4, (vI x.2)), (9, (vS A nds.length c)), (10, (vI (nds.length : Int))), (11, (vI (x.1 : Int)))], []⟩) (fun x Φ => x.1 ≤ nds.length ∧ 0 ≤ x.2 ∧ x.2 ≤ x.1 ∧ chk nds 0 0 = chk (nds.drop x.1) x.2 x.1) (fun x => nds.length - x.1) (0, 0) (by kernel_rfl) ⟨Nat.zero_le _, by omega, by omega, rfl⟩ ?_
  rintro ⟨i, tr⟩ Φ1 hle2 hF
  have hR := hR.mono hle2
  refine At.cast (S' := ⟨fr 40 [(0, (vS A nds.length c)), (4, (vI tr)), (9, (vS A nds.length c)), (10, (vI (nds.length : Int))), (11, (vI (i : Int)))], []⟩) (by kernel_rfl) ?_
  dsimp only at hF
  have hF1 := hF.1
  have hF2 := hF.2.1
  have hF3 := hF.2.2.1
  refine At.seq ?_
  refine At.region ?_
  refine At.runk 1 [] [] ⟨fr 40 [(0, (vS A nds.length c)), (4, (vI tr)), (9, (vS A nds.length c)), (10, (vI (nds.length : Int))), (11, (vI (i : Int))), (12, (vB (decide ((i : Int) < (nds.length : Int)))))], []⟩ (by kernel_rfl) ?_
  refine At.nil ?_
  refine At.then_normal ?_
  refine At.seq ?_
  refine At.bcase (decide ((i : Int) < (nds.length : Int))) (fun hb3 => ?_) (fun hb3 => ?_)
  · have hb3p : ((i : Int) < (nds.length : Int)) := of_decide_eq_true hb3
    refine At.cast (S' := ⟨fr 40 [(0, (vS A nds.length c)), (4, (vI tr)), (9, (vS A nds.length c)), (10, (vI (nds.length : Int))), (11, (vI (i : Int))), (12, (vB true))], []⟩) (by rw [hb3] <;> rfl) ?_
    refine At.cond_t (by kernel_rfl) ?_
    refine At.skip ?_
    refine At.then_normal ?_
    refine At.seq ?_
    refine At.block ?_
    refine At.seq ?_
    refine At.region ?_
    refine At.runk 1 [12] [] ⟨fr 40 [(0, (vS A nds.length c)), (4, (vI tr)), (9, (vS A nds.length c)), (10, (vI (nds.length : Int))), (11, (vI (i : Int))), (13, (vI (i : Int)))], []⟩ (by kernel_rfl) ?_
    obtain ⟨b4, off5, hAeq⟩ : ∃ b off, A = some ⟨b, off, none⟩ := hR.addr (by exact nds_pos (by omega))
    subst hAeq
    refine At.idx (S' := ⟨fr 40 [(0, (vS (aS b4 off5) nds.length c)), (4, (vI tr)), (9, (vS (aS b4 off5) nds.length c)), (10, (vI (nds.length : Int))), (11, (vI (i : Int))), (13, (vI (i : Int))), (14, .v (.pointer (some ⟨b4, off5 + i * 7, none⟩)))], []⟩) rfl (by kernel_rfl) (sz := 7) (e := 26) (by kernel_rfl) (by kernel_rfl) (by kernel_rfl) (b := b4) (off := off5) (n := nds.length) (cap := c) (kd := .i64) (i := (i : Int)) (by kernel_rfl) (by omega) (by omega) (by kernel_rfl) ?_
    obtain ⟨e6, he7⟩ := get_some (l := nds) (i := i) (by omega)
    have e6w := ndsw e6 (List.mem_of_getElem? he7)
    refine At.vals (S' := ⟨fr 40 [(0, (vS (aS b4 off5) nds.length c)), (4, (vI tr)), (9, (vS (aS b4 off5) nds.length c)), (10, (vI (nds.length : Int))), (11, (vI (i : Int))), (13, (vI (i : Int))), (14, .v (.pointer (some ⟨b4, off5 + i * 7, none⟩))), (15, .agg e6.sv)], []⟩) (by kernel_rfl) (.agg e6.sv) (by kernel_rfl) (Val.ldE rfl (enc := Nd.cells) (xs := nds) (b := b4) (off := off5) hR (sz := 7) (fun _ => rfl) (Nat.zero_lt_succ _) i e6 he7 0 (off5 + i * 7) (by omega) (by kernel_rfl) (.agg e6.sv) (by kernel_rfl)) ?_
    refine At.runk 3 [13, 14, 15] [] ⟨fr 40 [(0, (vS (aS b4 off5) nds.length c)), (4, (vI tr)), (5, (vI (i : Int))), (6, .p 0 0), (9, (vS (aS b4 off5) nds.length c)), (10, (vI (nds.length : Int))), (11, (vI (i : Int)))], [.c e6.sv 26]⟩ (by kernel_rfl) ?_
    refine At.nil ?_
    refine At.then_normal ?_
    refine At.seq ?_
    refine At.region ?_
    refine At.runk 1 [6] [0] ⟨fr 40 [(0, (vS (aS b4 off5) nds.length c)), (4, (vI tr)), (5, (vI (i : Int))), (9, (vS (aS b4 off5) nds.length c)), (10, (vI (nds.length : Int))), (11, (vI (i : Int))), (17, .agg e6.sv)], [.dead]⟩ (by kernel_rfl) ?_
    by_cases hc8 : 1 ≤ e6.kind ∧ e6.kind ≤ 9
    · refine At.callV rfl (by kernel_rfl) 44 [] [] (by kernel_rfl) Try.func44 (by kernel_rfl) (by kernel_rfl) [.agg e6.sv] (by kernel_rfl) (by kernel_rfl) (known_c Φ1 e6.kind e6.s0 e6.s1 e6.s2 e6.s3 e6.mn e6.mx e6w hc8) ?_
      rintro Φ9 _ hle10 rfl
      have hR := hR.mono hle10
      have hkb := kar_bd e6.kind
      refine ⟨⟨fr 40 [(0, (vS (aS b4 off5) nds.length c)), (4, (vI tr)), (5, (vI (i : Int))), (9, (vS (aS b4 off5) nds.length c)), (10, (vI (nds.length : Int))), (11, (vI (i : Int))), (17, .agg e6.sv), (18, .tup [.agg [(vI (kar e6.kind)), .v (.func (.func (mayN e6.kind)) #[] #[]), .v (.func (.func (nulN e6.kind)) #[] #[])], (vB e6.may)])], [.dead]⟩, by kernel_rfl, by kernel_rfl, ?_⟩
      refine At.runk 6 [16, 17, 18, 19, 20] [] ⟨fr 40 [(0, (vS (aS b4 off5) nds.length c)), (4, (vI tr)), (5, (vI (i : Int))), (7, .p 1 0), (8, (vB e6.may)), (9, (vS (aS b4 off5) nds.length c)), (10, (vI (nds.length : Int))), (11, (vI (i : Int)))], [.dead, .c [(vI (kar e6.kind)), .v (.func (.func (mayN e6.kind)) #[] #[]), .v (.func (.func (nulN e6.kind)) #[] #[])] 76]⟩ (by kernel_rfl) ?_
      refine At.nil ?_
      refine At.then_normal ?_
      refine At.seq ?_
      refine At.seq ?_
      refine At.region ?_
      refine At.runk 3 [8, 21, 22] [] ⟨fr 40 [(0, (vS (aS b4 off5) nds.length c)), (4, (vI tr)), (5, (vI (i : Int))), (7, .p 1 0), (9, (vS (aS b4 off5) nds.length c)), (10, (vI (nds.length : Int))), (11, (vI (i : Int))), (23, (vB (!e6.may)))], [.dead, .c [(vI (kar e6.kind)), .v (.func (.func (mayN e6.kind)) #[] #[]), .v (.func (.func (nulN e6.kind)) #[] #[])] 76]⟩ (by kernel_rfl) ?_
      refine At.bcase e6.may (fun hb11 => ?_) (fun hb11 => ?_)
      · refine At.cast (S' := ⟨fr 40 [(0, (vS (aS b4 off5) nds.length c)), (4, (vI tr)), (5, (vI (i : Int))), (7, .p 1 0), (9, (vS (aS b4 off5) nds.length c)), (10, (vI (nds.length : Int))), (11, (vI (i : Int))), (23, (vB false))], [.dead, .c [(vI (kar e6.kind)), .v (.func (.func (mayN e6.kind)) #[] #[]), .v (.func (.func (nulN e6.kind)) #[] #[])] 76]⟩) (by rw [hb11] <;> rfl) ?_
        refine At.runk 5 [23, 24, 25, 26, 27] [] ⟨fr 40 [(0, (vS (aS b4 off5) nds.length c)), (4, (vI tr)), (5, (vI (i : Int))), (7, .p 1 0), (9, (vS (aS b4 off5) nds.length c)), (10, (vI (nds.length : Int))), (11, (vI (i : Int))), (28, (vB (decide ((kar e6.kind) > tr))))], [.dead, .c [(vI (kar e6.kind)), .v (.func (.func (mayN e6.kind)) #[] #[]), .v (.func (.func (nulN e6.kind)) #[] #[])] 76]⟩ (by kernel_rfl) ?_
        refine At.nil ?_
        refine At.then_normal ?_
        refine At.bcase (decide ((kar e6.kind) > tr)) (fun hb12 => ?_) (fun hb12 => ?_)
        · have hb12p : ((kar e6.kind) > tr) := of_decide_eq_true hb12
          refine At.cast (S' := ⟨fr 40 [(0, (vS (aS b4 off5) nds.length c)), (4, (vI tr)), (5, (vI (i : Int))), (7, .p 1 0), (9, (vS (aS b4 off5) nds.length c)), (10, (vI (nds.length : Int))), (11, (vI (i : Int))), (28, (vB true))], [.dead, .c [(vI (kar e6.kind)), .v (.func (.func (mayN e6.kind)) #[] #[]), .v (.func (.func (nulN e6.kind)) #[] #[])] 76]⟩) (by rw [hb12] <;> rfl) ?_
          refine At.cond_t (by kernel_rfl) ?_
          refine At.seq ?_
          refine At.region ?_
          refine At.runk 3 [0, 4, 5, 7, 9, 10, 11, 28, 29] [1] ⟨fr 40 [(2, (vI (i : Int))), (3, (vI 140))], [.dead, .dead]⟩ (by kernel_rfl) ?_
          refine At.nil ?_
          refine At.then_normal ?_
          refine At.ret_ ?_
          refine At.then_ret ?_
          refine At.in_ret ?_
          refine At.then_ret ?_
          refine At.then_ret ?_
          refine At.in_ret ?_
          refine At.then_ret ?_
          refine At.forget [] 0 [] ⟨fr 40 [(2, (vI (i : Int))), (3, (vI 140))], []⟩ (by kernel_rfl) (by kernel_rfl) (bleT rfl) ?_
          refine At.leaveR rfl ((i : Int), 140) (by kernel_rfl) (by kernel_rfl) (by kernel_rfl) ?_
          rw [chkR, hF.2.2.2, chk_bad he7 (by first | (left; assumption) | (right; omega))]
        have hb12p : ¬ ((kar e6.kind) > tr) := of_decide_eq_false hb12
        refine At.cast (S' := ⟨fr 40 [(0, (vS (aS b4 off5) nds.length c)), (4, (vI tr)), (5, (vI (i : Int))), (7, .p 1 0), (9, (vS (aS b4 off5) nds.length c)), (10, (vI (nds.length : Int))), (11, (vI (i : Int))), (28, (vB false))], [.dead, .c [(vI (kar e6.kind)), .v (.func (.func (mayN e6.kind)) #[] #[]), .v (.func (.func (nulN e6.kind)) #[] #[])] 76]⟩) (by rw [hb12] <;> rfl) ?_
        refine At.cond_f (by kernel_rfl) ?_
        refine At.skip ?_
        refine At.then_normal ?_
        refine At.region ?_
        refine At.runk 4 [4, 5, 7, 28, 31, 32] [1] ⟨fr 40 [(0, (vS (aS b4 off5) nds.length c)), (9, (vS (aS b4 off5) nds.length c)), (10, (vI (nds.length : Int))), (11, (vI (i : Int))), (30, (vI tr)), (33, (vI (IntKind.i64.wrap ((kar e6.kind) - 1))))], [.dead, .dead]⟩ (by kernel_rfl) ?_
        refine At.cast (S' := ⟨fr 40 [(0, (vS (aS b4 off5) nds.length c)), (9, (vS (aS b4 off5) nds.length c)), (10, (vI (nds.length : Int))), (11, (vI (i : Int))), (30, (vI tr)), (33, (vI ((kar e6.kind) - 1)))], [.dead, .dead]⟩) (by rw [wrapI (z := (kar e6.kind) - 1) (by omega) (by omega)]) ?_
        refine At.runk 1 [30, 33] [] ⟨fr 40 [(0, (vS (aS b4 off5) nds.length c)), (9, (vS (aS b4 off5) nds.length c)), (10, (vI (nds.length : Int))), (11, (vI (i : Int))), (34, (vI (IntKind.i64.wrap (tr - ((kar e6.kind) - 1)))))], [.dead, .dead]⟩ (by kernel_rfl) ?_
        refine At.cast (S' := ⟨fr 40 [(0, (vS (aS b4 off5) nds.length c)), (9, (vS (aS b4 off5) nds.length c)), (10, (vI (nds.length : Int))), (11, (vI (i : Int))), (34, (vI (tr - ((kar e6.kind) - 1))))], [.dead, .dead]⟩) (by rw [wrapI (z := tr - ((kar e6.kind) - 1)) (by omega) (by omega)]) ?_
        refine At.runk 1 [34] [] ⟨fr 40 [(0, (vS (aS b4 off5) nds.length c)), (4, (vI (tr - ((kar e6.kind) - 1)))), (9, (vS (aS b4 off5) nds.length c)), (10, (vI (nds.length : Int))), (11, (vI (i : Int)))], [.dead, .dead]⟩ (by kernel_rfl) ?_
        refine At.nil ?_
        refine At.in_normal ?_
        refine At.then_normal ?_
        refine At.region ?_
        refine At.runk 1 [11] [] ⟨fr 40 [(0, (vS (aS b4 off5) nds.length c)), (4, (vI (tr - ((kar e6.kind) - 1)))), (9, (vS (aS b4 off5) nds.length c)), (10, (vI (nds.length : Int))), (35, (vI (IntKind.i64.wrap ((i : Int) + 1))))], [.dead, .dead]⟩ (by kernel_rfl) ?_
        refine At.cast (S' := ⟨fr 40 [(0, (vS (aS b4 off5) nds.length c)), (4, (vI (tr - ((kar e6.kind) - 1)))), (9, (vS (aS b4 off5) nds.length c)), (10, (vI (nds.length : Int))), (35, (vI ((i : Int) + 1)))], [.dead, .dead]⟩) (by rw [wrapI (z := (i : Int) + 1) (by omega) (by omega)]) ?_
        refine At.runk 1 [35] [] ⟨fr 40 [(0, (vS (aS b4 off5) nds.length c)), (4, (vI (tr - ((kar e6.kind) - 1)))), (9, (vS (aS b4 off5) nds.length c)), (10, (vI (nds.length : Int))), (11, (vI ((i : Int) + 1)))], [.dead, .dead]⟩ (by kernel_rfl) ?_
        refine At.nil ?_
        refine At.forget [] 0 [] ⟨fr 40 [(0, (vS (aS b4 off5) nds.length c)), (4, (vI (tr - ((kar e6.kind) - 1)))), (9, (vS (aS b4 off5) nds.length c)), (10, (vI (nds.length : Int))), (11, (vI ((i : Int) + 1)))], []⟩ (by kernel_rfl) (by kernel_rfl) (bleT rfl) ?_
        refine At.round (i + 1, (tr - ((kar e6.kind) - 1))) (by kernel_rfl) hle10 ⟨by omega, by omega, by omega, by rw [hF.2.2.2]; exact chk_step he7 (by assumption) (by omega)⟩ (by omega)
      refine At.cast (S' := ⟨fr 40 [(0, (vS (aS b4 off5) nds.length c)), (4, (vI tr)), (5, (vI (i : Int))), (7, .p 1 0), (9, (vS (aS b4 off5) nds.length c)), (10, (vI (nds.length : Int))), (11, (vI (i : Int))), (23, (vB true))], [.dead, .c [(vI (kar e6.kind)), .v (.func (.func (mayN e6.kind)) #[] #[]), .v (.func (.func (nulN e6.kind)) #[] #[])] 76]⟩) (by rw [hb11] <;> rfl) ?_
      refine At.runk 5 [23, 24, 25, 26, 27] [] ⟨fr 40 [(0, (vS (aS b4 off5) nds.length c)), (4, (vI tr)), (5, (vI (i : Int))), (7, .p 1 0), (9, (vS (aS b4 off5) nds.length c)), (10, (vI (nds.length : Int))), (11, (vI (i : Int))), (28, (vB true))], [.dead, .c [(vI (kar e6.kind)), .v (.func (.func (mayN e6.kind)) #[] #[]), .v (.func (.func (nulN e6.kind)) #[] #[])] 76]⟩ (by kernel_rfl) ?_
      refine At.nil ?_
      refine At.then_normal ?_
      refine At.cond_t (by kernel_rfl) ?_
      refine At.seq ?_
      refine At.region ?_
      refine At.runk 3 [0, 4, 5, 7, 9, 10, 11, 28, 29] [1] ⟨fr 40 [(2, (vI (i : Int))), (3, (vI 140))], [.dead, .dead]⟩ (by kernel_rfl) ?_
      refine At.nil ?_
      refine At.then_normal ?_
      refine At.ret_ ?_
      refine At.then_ret ?_
      refine At.in_ret ?_
      refine At.then_ret ?_
      refine At.then_ret ?_
      refine At.in_ret ?_
      refine At.then_ret ?_
      refine At.forget [] 0 [] ⟨fr 40 [(2, (vI (i : Int))), (3, (vI 140))], []⟩ (by kernel_rfl) (by kernel_rfl) (bleT rfl) ?_
      refine At.leaveR rfl ((i : Int), 140) (by kernel_rfl) (by kernel_rfl) (by kernel_rfl) ?_
      rw [chkR, hF.2.2.2, chk_bad he7 (by first | (left; assumption) | (right; omega))]
    refine At.callV rfl (by kernel_rfl) 44 [] [] (by kernel_rfl) Try.func44 (by kernel_rfl) (by kernel_rfl) [.agg e6.sv] (by kernel_rfl) (by kernel_rfl) (known_no Φ1 e6.kind e6.s0 e6.s1 e6.s2 e6.s3 e6.mn e6.mx e6w hc8) ?_
    rintro Φ13 ⟨⟩ hle14 -
    have hR := hR.mono hle14
    have hmay := Nd.may_no hc8
    refine ⟨⟨fr 40 [(0, (vS (aS b4 off5) nds.length c)), (4, (vI tr)), (5, (vI (i : Int))), (9, (vS (aS b4 off5) nds.length c)), (10, (vI (nds.length : Int))), (11, (vI (i : Int))), (17, .agg e6.sv), (18, .tup [.agg [(vI 0), .v (.nilFunc), .v (.nilFunc)], (vB false)])], [.dead]⟩, by kernel_rfl, by kernel_rfl, ?_⟩
    refine At.runk 6 [16, 17, 18, 19, 20] [] ⟨fr 40 [(0, (vS (aS b4 off5) nds.length c)), (4, (vI tr)), (5, (vI (i : Int))), (7, .p 1 0), (8, (vB false)), (9, (vS (aS b4 off5) nds.length c)), (10, (vI (nds.length : Int))), (11, (vI (i : Int)))], [.dead, .c [(vI 0), .v (.nilFunc), .v (.nilFunc)] 76]⟩ (by kernel_rfl) ?_
    refine At.nil ?_
    refine At.then_normal ?_
    refine At.seq ?_
    refine At.seq ?_
    refine At.region ?_
    refine At.runk 8 [8, 21, 22, 23, 24, 25, 26, 27] [] ⟨fr 40 [(0, (vS (aS b4 off5) nds.length c)), (4, (vI tr)), (5, (vI (i : Int))), (7, .p 1 0), (9, (vS (aS b4 off5) nds.length c)), (10, (vI (nds.length : Int))), (11, (vI (i : Int))), (28, (vB true))], [.dead, .c [(vI 0), .v (.nilFunc), .v (.nilFunc)] 76]⟩ (by kernel_rfl) ?_
    refine At.nil ?_
    refine At.then_normal ?_
    refine At.cond_t (by kernel_rfl) ?_
    refine At.seq ?_
    refine At.region ?_
    refine At.runk 3 [0, 4, 5, 7, 9, 10, 11, 28, 29] [1] ⟨fr 40 [(2, (vI (i : Int))), (3, (vI 140))], [.dead, .dead]⟩ (by kernel_rfl) ?_
    refine At.nil ?_
    refine At.then_normal ?_
    refine At.ret_ ?_
    refine At.then_ret ?_
    refine At.in_ret ?_
    refine At.then_ret ?_
    refine At.then_ret ?_
    refine At.in_ret ?_
    refine At.then_ret ?_
    refine At.forget [] 0 [] ⟨fr 40 [(2, (vI (i : Int))), (3, (vI 140))], []⟩ (by kernel_rfl) (by kernel_rfl) (bleT rfl) ?_
    refine At.leaveR rfl ((i : Int), 140) (by kernel_rfl) (by kernel_rfl) (by kernel_rfl) ?_
    rw [chkR, hF.2.2.2, chk_bad he7 (by first | (left; assumption) | (right; omega))]
  have hb3p : ¬ ((i : Int) < (nds.length : Int)) := of_decide_eq_false hb3
  refine At.cast (S' := ⟨fr 40 [(0, (vS A nds.length c)), (4, (vI tr)), (9, (vS A nds.length c)), (10, (vI (nds.length : Int))), (11, (vI (i : Int))), (12, (vB false))], []⟩) (by rw [hb3] <;> rfl) ?_
  refine At.cond_f (by kernel_rfl) ?_
  refine At.exit_ ?_
  refine At.then_exit ?_
  refine At.then_exit ?_
  refine At.in_here ?_
  refine At.then_normal ?_
  refine At.seq ?_
  refine At.seq ?_
  refine At.region ?_
  refine At.runk 2 [4, 9, 10, 11, 12, 36] [] ⟨fr 40 [(0, (vS A nds.length c)), (37, (vB (tr != 1)))], []⟩ (by kernel_rfl) ?_
  refine At.nil ?_
  refine At.then_normal ?_
  refine At.bcase (tr != 1) (fun hb15 => ?_) (fun hb15 => ?_)
  · have hb15p : ¬ (tr = 1) := by simpa using hb15
    refine At.cast (S' := ⟨fr 40 [(0, (vS A nds.length c)), (37, (vB true))], []⟩) (by rw [hb15] <;> rfl) ?_
    refine At.cond_t (by kernel_rfl) ?_
    refine At.seq ?_
    refine At.region ?_
    refine At.runk 4 [0, 37, 38, 39] [] ⟨fr 40 [(2, (vI (nds.length : Int))), (3, (vI 140))], []⟩ (by kernel_rfl) ?_
    refine At.nil ?_
    refine At.then_normal ?_
    refine At.ret_ ?_
    refine At.then_ret ?_
    refine At.leaveR rfl ((nds.length : Int), 140) (by kernel_rfl) (by kernel_rfl) (by kernel_rfl) ?_
    have hd := chk_end (nds := nds) (i := i) (t := tr) (by omega)
    rw [chkR, hF.2.2.2, hd, if_neg (by omega)]
    simp only [Prod.mk.injEq, and_true]
    omega
  have hb15p : (tr = 1) := by simpa using hb15
  refine At.cast (S' := ⟨fr 40 [(0, (vS A nds.length c)), (37, (vB false))], []⟩) (by rw [hb15] <;> rfl) ?_
  refine At.cond_f (by kernel_rfl) ?_
  refine At.skip ?_
  refine At.then_normal ?_
  refine At.seq ?_
  refine At.region ?_
  refine At.runk 2 [0, 37] [] ⟨fr 40 [(2, (vI 0)), (3, (vI 0))], []⟩ (by kernel_rfl) ?_
  refine At.nil ?_
  refine At.then_normal ?_
  refine At.ret_ ?_
  refine At.leaveR rfl (0, 0) (by kernel_rfl) (by kernel_rfl) (by kernel_rfl) ?_
  have hd := chk_end (nds := nds) (i := i) (t := tr) (by omega)
  rw [chkR, hF.2.2.2, hd, if_pos (by omega)]

end Go.Sx
