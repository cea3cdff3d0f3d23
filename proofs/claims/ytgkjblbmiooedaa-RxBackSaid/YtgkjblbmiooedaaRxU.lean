/- RxU: printed by wip/gen/lib04.py. Walks over functions of the program. -/
import Derived.Test.YtgkjblbmiooedaaRxT
namespace Go.Sx
open Go.Proofs Go.RowKit
theorem rjoin_c (Φ : Phi) (n : Nd) (ps : List Pt) (B : Option Addr) (d : Nat) (hP : RdC Φ B (ps.flatMap Pt.enc)) (hG : Pts Φ ps) (hk : ∀ p ∈ ps, p.nds.length ≤ 1000) (hw : ∀ p ∈ ps, ∀ n ∈ p.nds, n.wf) (hpl : ps.length ≤ 1000)  : CallR Try.prog 15 [.agg n.sv, (vS B ps.length d)] [] Φ (Option Addr × Nat) (fun t => (vS t.1 (jn ps ++ [n]).length t.2)) (fun t => [.o (.slice t.1 (jn ps ++ [n]).length t.2) (jn ps ++ [n]).length ((jn ps ++ [n]).flatMap Nd.cells) 26 7]) (fun t _ => (jn ps ++ [n]).length ≤ t.2) := by
  refine CallG.enterk Try.func15 rfl [2, 3, 4, 5, 6, 7, 8, 9, 10, 11, 12, 13, 14, 15, 16, 17, 18, 19, 20, 21] ⟨fr 22 [(0, .agg n.sv), (1, (vS B ps.length d))], []⟩ (by kernel_rfl) (by kernel_rfl) ?_
  intro E G β0
  refine At.seq ?_
  refine At.region ?_
  refine At.runk 2 [0, 4] [] ⟨fr 22 [(1, (vS B ps.length d)), (2, .p 0 0)], [.c n.sv 26]⟩ (by kernel_rfl) ?_
  refine At.nil ?_
  refine At.then_normal ?_
  refine At.seq ?_
  refine At.region ?_
  refine At.runk 1 [] [] ⟨fr 22 [(1, (vS B ps.length d)), (2, .p 0 0), (5, (vS none 0 0))], [.c n.sv 26]⟩ (by kernel_rfl) ?_
  refine At.nilrow 26 7 ⟨fr 22 [(1, (vS B ps.length d)), (2, .p 0 0), (5, (vS none 0 0))], [.c n.sv 26, .o (.slice none 0 0) 0 [] 26 7]⟩ (by kernel_rfl) (by kernel_rfl) ?_
  refine At.nil ?_
  refine At.then_normal ?_
  refine At.seq ?_
  refine At.seq ?_
  refine At.region ?_
  refine At.runk 3 [1] [] ⟨fr 22 [(2, .p 0 0), (5, (vS none 0 0)), (8, (vS B ps.length d)), (9, (vI (ps.length : Int))), (10, (vI 0))], [.c n.sv 26, .o (.slice none 0 0) 0 [] 26 7]⟩ (by kernel_rfl) ?_
  refine At.nil ?_
  refine At.then_normal ?_
  refine At.block ?_
  refine At.loop (T := Nat × Option Addr × Nat) (fun x => ⟨fr 22 [(2, .p 0 0), (5, (vS x.2.1 ((jn (ps.take x.1)).length) x.2.2)), (8, (vS B ps.length d)), (9, (vI (ps.length : Int))), (10, (vI (x.1 : Int)))], [.c n.sv 26, .o (.slice x.2.1 ((jn (ps.take x.1)).length) x.2.2) ((jn (ps.take x.1)).length) ((jn (ps.take x.1)).flatMap Nd.cells) 26 7]⟩) (fun x Φ => x.1 ≤ ps.length ∧ (jn (ps.take x.1)).length ≤ x.2.2) (fun x => ps.length - x.1) (0, none, 0) (by kernel_rfl) ⟨Nat.zero_le _, Nat.le_refl _⟩ ?_
  rintro ⟨i, Ao, cs⟩ Φ1 hle2 hF
  have hP := hP.mono hle2
  have hG := hG.mono hle2
  refine At.cast (S' := ⟨fr 22 [(2, .p 0 0), (5, (vS Ao ((jn (ps.take i)).length) cs)), (8, (vS B ps.length d)), (9, (vI (ps.length : Int))), (10, (vI (i : Int)))], [.c n.sv 26, .o (.slice Ao ((jn (ps.take i)).length) cs) ((jn (ps.take i)).length) ((jn (ps.take i)).flatMap Nd.cells) 26 7]⟩) (by kernel_rfl) ?_
  dsimp only at hF
  have hF1 := hF.1
  have hjl := jn_len hk i
  refine At.seq ?_
  refine At.region ?_
  refine At.runk 1 [] [] ⟨fr 22 [(2, .p 0 0), (5, (vS Ao ((jn (ps.take i)).length) cs)), (8, (vS B ps.length d)), (9, (vI (ps.length : Int))), (10, (vI (i : Int))), (11, (vB (decide ((i : Int) < (ps.length : Int)))))], [.c n.sv 26, .o (.slice Ao ((jn (ps.take i)).length) cs) ((jn (ps.take i)).length) ((jn (ps.take i)).flatMap Nd.cells) 26 7]⟩ (by kernel_rfl) ?_
  refine At.nil ?_
  refine At.then_normal ?_
  refine At.seq ?_
  refine At.bcase (decide ((i : Int) < (ps.length : Int))) (fun hb3 => ?_) (fun hb3 => ?_)
  · have hb3p : ((i : Int) < (ps.length : Int)) := of_decide_eq_true hb3
    refine At.cast (S' := ⟨fr 22 [(2, .p 0 0), (5, (vS Ao ((jn (ps.take i)).length) cs)), (8, (vS B ps.length d)), (9, (vI (ps.length : Int))), (10, (vI (i : Int))), (11, (vB true))], [.c n.sv 26, .o (.slice Ao ((jn (ps.take i)).length) cs) ((jn (ps.take i)).length) ((jn (ps.take i)).flatMap Nd.cells) 26 7]⟩) (by rw [hb3] <;> rfl) ?_
    refine At.cond_t (by kernel_rfl) ?_
    refine At.skip ?_
    refine At.then_normal ?_
    refine At.seq ?_
    refine At.block ?_
    refine At.seq ?_
    refine At.region ?_
    obtain ⟨b4, off5, hBeq⟩ : ∃ b off, B = some ⟨b, off, none⟩ := hP.addr (by rw [flat_len (sz := 1) (fun _ => rfl)]; omega)
    subst hBeq
    refine At.idx (S' := ⟨fr 22 [(2, .p 0 0), (5, (vS Ao ((jn (ps.take i)).length) cs)), (8, (vS (aS b4 off5) ps.length d)), (9, (vI (ps.length : Int))), (10, (vI (i : Int))), (11, (vB true)), (12, .v (.pointer (some ⟨b4, off5 + i * 1, none⟩)))], [.c n.sv 26, .o (.slice Ao ((jn (ps.take i)).length) cs) ((jn (ps.take i)).length) ((jn (ps.take i)).flatMap Nd.cells) 26 7]⟩) rfl (by kernel_rfl) (sz := 1) (e := 30) (by kernel_rfl) (by kernel_rfl) (by kernel_rfl) (b := b4) (off := off5) (n := ps.length) (cap := d) (kd := .i64) (i := (i : Int)) (by kernel_rfl) (by omega) (by omega) (by kernel_rfl) ?_
    obtain ⟨e6, he7⟩ := get_some (l := ps) (i := i) (by omega)
    have e6R := hG e6 (List.mem_of_getElem? he7)
    have e6k := hk e6 (List.mem_of_getElem? he7)
    have e6l : e6.nds.length ≤ 1000000 := by omega
    have e6w := hw e6 (List.mem_of_getElem? he7)
    refine At.vals (S' := ⟨fr 22 [(2, .p 0 0), (5, (vS Ao ((jn (ps.take i)).length) cs)), (8, (vS (aS b4 off5) ps.length d)), (9, (vI (ps.length : Int))), (10, (vI (i : Int))), (11, (vB true)), (12, .v (.pointer (some ⟨b4, off5 + i * 1, none⟩))), (13, (vS e6.A e6.nds.length e6.c))], [.c n.sv 26, .o (.slice Ao ((jn (ps.take i)).length) cs) ((jn (ps.take i)).length) ((jn (ps.take i)).flatMap Nd.cells) 26 7]⟩) (by kernel_rfl) ((vS e6.A e6.nds.length e6.c)) (by kernel_rfl) (Val.ldE rfl (enc := Pt.enc) (xs := ps) (b := b4) (off := off5) hP (sz := 1) (fun _ => rfl) (Nat.zero_lt_succ _) i e6 he7 0 (off5 + i * 1) (by omega) (by kernel_rfl) ((vS e6.A e6.nds.length e6.c)) (by kernel_rfl)) ?_
    refine At.runk 1 [11, 12, 13] [] ⟨fr 22 [(2, .p 0 0), (5, (vS Ao ((jn (ps.take i)).length) cs)), (7, (vS e6.A e6.nds.length e6.c)), (8, (vS (aS b4 off5) ps.length d)), (9, (vI (ps.length : Int))), (10, (vI (i : Int)))], [.c n.sv 26, .o (.slice Ao ((jn (ps.take i)).length) cs) ((jn (ps.take i)).length) ((jn (ps.take i)).flatMap Nd.cells) 26 7]⟩ (by kernel_rfl) ?_
    refine At.nil ?_
    refine At.then_normal ?_
    refine At.region ?_
    refine At.runk 2 [5, 7] [] ⟨fr 22 [(2, .p 0 0), (8, (vS (aS b4 off5) ps.length d)), (9, (vI (ps.length : Int))), (10, (vI (i : Int))), (14, (vS Ao ((jn (ps.take i)).length) cs)), (15, (vS e6.A e6.nds.length e6.c))], [.c n.sv 26, .o (.slice Ao ((jn (ps.take i)).length) cs) ((jn (ps.take i)).length) ((jn (ps.take i)).flatMap Nd.cells) 26 7]⟩ (by kernel_rfl) ?_
    refine At.append rfl (by kernel_rfl) (e := 26) (inf := Try.t26) (sz := 7) (by kernel_rfl) (by kernel_rfl) rfl rfl rfl (Nat.zero_lt_succ _) 1 (V := .slice Ao ((jn (ps.take i)).length) cs) (n := (jn (ps.take i)).length) (xs := ((jn (ps.take i)).flatMap Nd.cells)) (by kernel_rfl) (by kernel_rfl) e6.nds.length (e6.nds.flatMap Nd.cells) (Src.phi (A := e6.A) (m := e6.nds.length) (c := e6.c) (by kernel_rfl) e6R) (flat_len (enc := Nd.cells) (sz := 7) (fun _ => rfl) _) (nds_one _) (by unfold maxLen; omega) (by show ((jn (ps.take i)).length + e6.nds.length) * 56 ≤ _; omega) ?_
    intro A8 c9 h10 h11 h12
    refine ⟨⟨fr 22 [(2, .p 0 0), (8, (vS (aS b4 off5) ps.length d)), (9, (vI (ps.length : Int))), (10, (vI (i : Int))), (14, (vS Ao ((jn (ps.take i)).length) cs)), (15, (vS e6.A e6.nds.length e6.c)), (16, (vS A8 ((jn (ps.take i)).length + e6.nds.length) c9))], [.c n.sv 26, .o (.slice A8 ((jn (ps.take i)).length + e6.nds.length) c9) ((jn (ps.take i)).length + e6.nds.length) (((jn (ps.take i)).flatMap Nd.cells) ++ (e6.nds.flatMap Nd.cells)) 26 7]⟩, by kernel_rfl, ?_⟩
    have hj1 : (jn (ps.take (i + 1))).length = ((jn (ps.take i)).length + e6.nds.length) := by rw [jn_take he7, List.length_append]
    have hj2 : (jn (ps.take (i + 1))).flatMap Nd.cells = (((jn (ps.take i)).flatMap Nd.cells) ++ (e6.nds.flatMap Nd.cells)) := by rw [jn_take he7, nds_append]
    refine At.cast (S' := ⟨fr 22 [(2, .p 0 0), (8, (vS (aS b4 off5) ps.length d)), (9, (vI (ps.length : Int))), (10, (vI (i : Int))), (14, (vS Ao ((jn (ps.take i)).length) cs)), (15, (vS e6.A e6.nds.length e6.c)), (16, (vS A8 ((jn (ps.take (i + 1))).length) c9))], [.c n.sv 26, .o (.slice A8 ((jn (ps.take (i + 1))).length) c9) ((jn (ps.take (i + 1))).length) ((jn (ps.take (i + 1))).flatMap Nd.cells) 26 7]⟩) (by rw [hj1, hj2]) ?_
    refine At.runk 1 [14, 15, 16] [] ⟨fr 22 [(2, .p 0 0), (5, (vS A8 ((jn (ps.take (i + 1))).length) c9)), (8, (vS (aS b4 off5) ps.length d)), (9, (vI (ps.length : Int))), (10, (vI (i : Int)))], [.c n.sv 26, .o (.slice A8 ((jn (ps.take (i + 1))).length) c9) ((jn (ps.take (i + 1))).length) ((jn (ps.take (i + 1))).flatMap Nd.cells) 26 7]⟩ (by kernel_rfl) ?_
    refine At.nil ?_
    refine At.in_normal ?_
    refine At.then_normal ?_
    refine At.region ?_
    refine At.runk 1 [10] [] ⟨fr 22 [(2, .p 0 0), (5, (vS A8 ((jn (ps.take (i + 1))).length) c9)), (8, (vS (aS b4 off5) ps.length d)), (9, (vI (ps.length : Int))), (17, (vI (IntKind.i64.wrap ((i : Int) + 1))))], [.c n.sv 26, .o (.slice A8 ((jn (ps.take (i + 1))).length) c9) ((jn (ps.take (i + 1))).length) ((jn (ps.take (i + 1))).flatMap Nd.cells) 26 7]⟩ (by kernel_rfl) ?_
    refine At.cast (S' := ⟨fr 22 [(2, .p 0 0), (5, (vS A8 ((jn (ps.take (i + 1))).length) c9)), (8, (vS (aS b4 off5) ps.length d)), (9, (vI (ps.length : Int))), (17, (vI ((i : Int) + 1)))], [.c n.sv 26, .o (.slice A8 ((jn (ps.take (i + 1))).length) c9) ((jn (ps.take (i + 1))).length) ((jn (ps.take (i + 1))).flatMap Nd.cells) 26 7]⟩) (by rw [wrapI (z := (i : Int) + 1) (by omega) (by omega)]) ?_
    refine At.runk 1 [17] [] ⟨fr 22 [(2, .p 0 0), (5, (vS A8 ((jn (ps.take (i + 1))).length) c9)), (8, (vS (aS b4 off5) ps.length d)), (9, (vI (ps.length : Int))), (10, (vI ((i : Int) + 1)))], [.c n.sv 26, .o (.slice A8 ((jn (ps.take (i + 1))).length) c9) ((jn (ps.take (i + 1))).length) ((jn (ps.take (i + 1))).flatMap Nd.cells) 26 7]⟩ (by kernel_rfl) ?_
    refine At.nil ?_
    refine At.round (i + 1, A8, c9) (by kernel_rfl) (PhiLe.refl 0 _) ⟨by omega, by rw [hj1]; exact h10⟩ (by omega)
  have hb3p : ¬ ((i : Int) < (ps.length : Int)) := of_decide_eq_false hb3
  refine At.cast (S' := ⟨fr 22 [(2, .p 0 0), (5, (vS Ao ((jn (ps.take i)).length) cs)), (8, (vS B ps.length d)), (9, (vI (ps.length : Int))), (10, (vI (i : Int))), (11, (vB false))], [.c n.sv 26, .o (.slice Ao ((jn (ps.take i)).length) cs) ((jn (ps.take i)).length) ((jn (ps.take i)).flatMap Nd.cells) 26 7]⟩) (by rw [hb3] <;> rfl) ?_
  refine At.cond_f (by kernel_rfl) ?_
  refine At.exit_ ?_
  refine At.then_exit ?_
  refine At.then_exit ?_
  refine At.in_here ?_
  refine At.then_normal ?_
  refine At.seq ?_
  refine At.region ?_
  refine At.runk 3 [2, 5, 8, 9, 10, 11, 19] [0] ⟨fr 22 [(18, (vS Ao ((jn (ps.take i)).length) cs)), (20, .s 2 0 1 1)], [.dead, .o (.slice Ao ((jn (ps.take i)).length) cs) ((jn (ps.take i)).length) ((jn (ps.take i)).flatMap Nd.cells) 26 7, .c n.sv 26]⟩ (by kernel_rfl) ?_
  refine At.append rfl (by kernel_rfl) (e := 26) (inf := Try.t26) (sz := 7) (by kernel_rfl) (by kernel_rfl) rfl rfl rfl (Nat.zero_lt_succ _) 1 (V := .slice Ao ((jn (ps.take i)).length) cs) (n := (jn (ps.take i)).length) (xs := ((jn (ps.take i)).flatMap Nd.cells)) (by kernel_rfl) (by kernel_rfl) 1 [.int .i64 n.kind, .int .u64 n.s0, .int .u64 n.s1, .int .u64 n.s2, .int .u64 n.s3, .int .i64 n.mn, .int .i64 n.mx] (Src.cells (i := 2) (off := 0) (m := 1) (c := 1) (cs := n.sv) (e := 26) (by kernel_rfl) (by kernel_rfl) (src_lits _ _ (by kernel_rfl))) (rfl) (one_lits _ (by kernel_rfl)) (by unfold maxLen; omega) (by show ((jn (ps.take i)).length + 1) * 56 ≤ _; omega) ?_
  intro A13 c14 h15 h16 h17
  refine ⟨⟨fr 22 [(18, (vS Ao ((jn (ps.take i)).length) cs)), (20, .s 2 0 1 1), (21, (vS A13 ((jn (ps.take i)).length + 1) c14))], [.dead, .o (.slice A13 ((jn (ps.take i)).length + 1) c14) ((jn (ps.take i)).length + 1) (((jn (ps.take i)).flatMap Nd.cells) ++ [.int .i64 n.kind, .int .u64 n.s0, .int .u64 n.s1, .int .u64 n.s2, .int .u64 n.s3, .int .i64 n.mn, .int .i64 n.mx]) 26 7, .c n.sv 26]⟩, by kernel_rfl, ?_⟩
  have hie : i = ps.length := by omega
  subst hie
  have hj1 : (jn ps ++ [n]).length = ((jn (ps.take ps.length)).length + 1) := by rw [jn_end (Nat.le_refl _), List.length_append]; rfl
  have hj2 : (jn ps ++ [n]).flatMap Nd.cells = (((jn (ps.take ps.length)).flatMap Nd.cells) ++ [.int .i64 n.kind, .int .u64 n.s0, .int .u64 n.s1, .int .u64 n.s2, .int .u64 n.s3, .int .i64 n.mn, .int .i64 n.mx]) := by rw [jn_end (Nat.le_refl _), nds_append]; rfl
  refine At.cast (S' := ⟨fr 22 [(18, (vS Ao ((jn (ps.take ps.length)).length) cs)), (20, .s 2 0 1 1), (21, (vS A13 ((jn ps ++ [n]).length) c14))], [.dead, .o (.slice A13 ((jn ps ++ [n]).length) c14) ((jn ps ++ [n]).length) ((jn ps ++ [n]).flatMap Nd.cells) 26 7, .c n.sv 26]⟩) (by rw [hj1, hj2]) ?_
  refine At.runk 1 [18, 20, 21] [2] ⟨fr 22 [(4, (vS A13 ((jn ps ++ [n]).length) c14))], [.dead, .o (.slice A13 ((jn ps ++ [n]).length) c14) ((jn ps ++ [n]).length) ((jn ps ++ [n]).flatMap Nd.cells) 26 7, .dead]⟩ (by kernel_rfl) ?_
  refine At.nil ?_
  refine At.then_normal ?_
  refine At.ret_ ?_
  refine At.forget [] 2 [] ⟨fr 22 [(4, (vS A13 ((jn ps ++ [n]).length) c14))], [.dead, .o (.slice A13 ((jn ps ++ [n]).length) c14) ((jn ps ++ [n]).length) ((jn ps ++ [n]).flatMap Nd.cells) 26 7]⟩ (by kernel_rfl) (by kernel_rfl) (bleT rfl) ?_
  refine At.reorder [1] ⟨fr 22 [(4, (vS A13 ((jn ps ++ [n]).length) c14))], [.o (.slice A13 ((jn ps ++ [n]).length) c14) ((jn ps ++ [n]).length) ((jn ps ++ [n]).flatMap Nd.cells) 26 7]⟩ rfl (by kernel_rfl) (by kernel_rfl) (by kernel_rfl) (by decide) (by kernel_rfl) ?_
  refine At.leaveR rfl (A13, c14) (by kernel_rfl) (by kernel_rfl) (by kernel_rfl) ?_
  dsimp only; omega

end Go.Sx
