/- RxJ: printed by wip/gen/lib04.py. Walks over functions of the program. -/
import Derived.Test.YtgkjblbmiooedaaRxI
import Derived.Test.YtgkjblbmiooedaaRx3
namespace Go.Sx
open Go.Proofs Go.RowKit
theorem join1_ok (Φ : Phi) (g0 g1 : Nat) (ps : List Pt) (B : Option Addr) (d : Nat) (hP : RdC Φ B (ps.flatMap Pt.enc)) (hG : Pts Φ ps) (hk : ∀ p ∈ ps, p.nds.length ≤ 1000) (hw : ∀ p ∈ ps, ∀ n ∈ p.nds, n.wf) (hpl : ps.length ≤ 1000) (n : Nd) (nw : n.wf) (hB0 : RdC Φ (aS g0 0) [.slice B ps.length d]) (hB1 : RdC Φ (aS g1 0) n.cells) (ht : ∀ p ∈ ps, chk p.nds 0 0 = none) (hm : n.may = true) (ha : ar n = ps.length)  : CallR Try.prog 42 [(vP g0 0), (vP g1 0)] [] Φ (Option Addr × Nat) (fun t => (vS t.1 (jn ps ++ [n]).length t.2)) (fun t => [.o (.slice t.1 (jn ps ++ [n]).length t.2) (jn ps ++ [n]).length ((jn ps ++ [n]).flatMap Nd.cells) 26 7]) (fun t _ => (jn ps ++ [n]).length ≤ t.2) := by
  refine CallG.enterk Try.func42 rfl [2, 3, 4, 5, 6, 7, 8, 9, 10, 11, 12, 13, 14, 15, 16, 17, 18, 19, 20, 21, 22, 23, 24, 25, 26, 27, 28, 29, 30, 31, 32, 33, 34, 35, 36, 37, 38, 39] ⟨fr 40 [(0, (vP g0 0)), (1, (vP g1 0))], []⟩ (by kernel_rfl) (by kernel_rfl) ?_
  intro E G β0
  refine At.seq ?_
  refine At.region ?_
  refine At.runk 1 [2] [] ⟨fr 40 [(0, (vP g0 0)), (1, (vP g1 0))], []⟩ (by kernel_rfl) ?_
  refine At.nil ?_
  refine At.then_normal ?_
  refine At.seq ?_
  refine At.region ?_
  refine At.runk 1 [] [] ⟨fr 40 [(0, (vP g0 0)), (1, (vP g1 0)), (3, (vS none 0 0))], []⟩ (by kernel_rfl) ?_
  refine At.nilrow 26 7 ⟨fr 40 [(0, (vP g0 0)), (1, (vP g1 0)), (3, (vS none 0 0))], [.o (.slice none 0 0) 0 [] 26 7]⟩ (by kernel_rfl) (by kernel_rfl) ?_
  refine At.nil ?_
  refine At.then_normal ?_
  refine At.seq ?_
  refine At.seq ?_
  refine At.region ?_
  refine At.vals (S' := ⟨fr 40 [(0, (vP g0 0)), (1, (vP g1 0)), (3, (vS none 0 0)), (8, (vS B ps.length d))], [.o (.slice none 0 0) 0 [] 26 7]⟩) (by kernel_rfl) ((vS B ps.length d)) (by kernel_rfl) (Val.ldB rfl hB0 (Nat.zero_lt_succ _) 0 0 (by omega) (by kernel_rfl) ((vS B ps.length d)) (by kernel_rfl)) ?_
  refine At.runk 2 [] [] ⟨fr 40 [(0, (vP g0 0)), (1, (vP g1 0)), (3, (vS none 0 0)), (8, (vS B ps.length d)), (9, (vI (ps.length : Int))), (10, (vI 0))], [.o (.slice none 0 0) 0 [] 26 7]⟩ (by kernel_rfl) ?_
  refine At.nil ?_
  refine At.then_normal ?_
  refine At.block ?_
  refine At.loop (T := Nat × Option Addr × Nat) (fun x => ⟨fr 40 [(0, (vP g0 0)), (1, (vP g1 0)), (3, (vS x.2.1 ((jn (ps.take x.1)).length) x.2.2)), (8, (vS B ps.length d)), (9, (vI (ps.length : Int))), (10, (vI (x.1 : Int)))], [.o (.slice x.2.1 ((jn (ps.take x.1)).length) x.2.2) ((jn (ps.take x.1)).length) ((jn (ps.take x.1)).flatMap Nd.cells) 26 7]⟩) (fun x Φ => x.1 ≤ ps.length ∧ (jn (ps.take x.1)).length ≤ x.2.2) (fun x => ps.length - x.1) (0, none, 0) (by kernel_rfl) ⟨Nat.zero_le _, Nat.le_refl _⟩ ?_
  rintro ⟨i, Ao, cs⟩ Φ1 hle2 hF
  have hP := hP.mono hle2
  have hG := hG.mono hle2
  have hB0 := hB0.mono hle2
  have hB1 := hB1.mono hle2
  refine At.cast (S' := ⟨fr 40 [(0, (vP g0 0)), (1, (vP g1 0)), (3, (vS Ao ((jn (ps.take i)).length) cs)), (8, (vS B ps.length d)), (9, (vI (ps.length : Int))), (10, (vI (i : Int)))], [.o (.slice Ao ((jn (ps.take i)).length) cs) ((jn (ps.take i)).length) ((jn (ps.take i)).flatMap Nd.cells) 26 7]⟩) (by kernel_rfl) ?_
  dsimp only at hF
  have hF1 := hF.1
  have hjl := jn_len hk i
  refine At.seq ?_
  refine At.region ?_
  refine At.runk 1 [] [] ⟨fr 40 [(0, (vP g0 0)), (1, (vP g1 0)), (3, (vS Ao ((jn (ps.take i)).length) cs)), (8, (vS B ps.length d)), (9, (vI (ps.length : Int))), (10, (vI (i : Int))), (11, (vB (decide ((i : Int) < (ps.length : Int)))))], [.o (.slice Ao ((jn (ps.take i)).length) cs) ((jn (ps.take i)).length) ((jn (ps.take i)).flatMap Nd.cells) 26 7]⟩ (by kernel_rfl) ?_
  refine At.nil ?_
  refine At.then_normal ?_
  refine At.seq ?_
  refine At.bcase (decide ((i : Int) < (ps.length : Int))) (fun hb3 => ?_) (fun hb3 => ?_)
  · have hb3p : ((i : Int) < (ps.length : Int)) := of_decide_eq_true hb3
    refine At.cast (S' := ⟨fr 40 [(0, (vP g0 0)), (1, (vP g1 0)), (3, (vS Ao ((jn (ps.take i)).length) cs)), (8, (vS B ps.length d)), (9, (vI (ps.length : Int))), (10, (vI (i : Int))), (11, (vB true))], [.o (.slice Ao ((jn (ps.take i)).length) cs) ((jn (ps.take i)).length) ((jn (ps.take i)).flatMap Nd.cells) 26 7]⟩) (by rw [hb3] <;> rfl) ?_
    refine At.cond_t (by kernel_rfl) ?_
    refine At.skip ?_
    refine At.then_normal ?_
    refine At.seq ?_
    refine At.block ?_
    refine At.seq ?_
    refine At.region ?_
    obtain ⟨b4, off5, hBeq⟩ : ∃ b off, B = some ⟨b, off, none⟩ := hP.addr (by rw [flat_len (sz := 1) (fun _ => rfl)]; omega)
    subst hBeq
    refine At.idx (S' := ⟨fr 40 [(0, (vP g0 0)), (1, (vP g1 0)), (3, (vS Ao ((jn (ps.take i)).length) cs)), (8, (vS (aS b4 off5) ps.length d)), (9, (vI (ps.length : Int))), (10, (vI (i : Int))), (11, (vB true)), (12, .v (.pointer (some ⟨b4, off5 + i * 1, none⟩)))], [.o (.slice Ao ((jn (ps.take i)).length) cs) ((jn (ps.take i)).length) ((jn (ps.take i)).flatMap Nd.cells) 26 7]⟩) rfl (by kernel_rfl) (sz := 1) (e := 30) (by kernel_rfl) (by kernel_rfl) (by kernel_rfl) (b := b4) (off := off5) (n := ps.length) (cap := d) (kd := .i64) (i := (i : Int)) (by kernel_rfl) (by omega) (by omega) (by kernel_rfl) ?_
    obtain ⟨e6, he7⟩ := get_some (l := ps) (i := i) (by omega)
    have e6R := hG e6 (List.mem_of_getElem? he7)
    have e6k := hk e6 (List.mem_of_getElem? he7)
    have e6l : e6.nds.length ≤ 1000000 := by omega
    have e6w := hw e6 (List.mem_of_getElem? he7)
    refine At.vals (S' := ⟨fr 40 [(0, (vP g0 0)), (1, (vP g1 0)), (3, (vS Ao ((jn (ps.take i)).length) cs)), (8, (vS (aS b4 off5) ps.length d)), (9, (vI (ps.length : Int))), (10, (vI (i : Int))), (11, (vB true)), (12, .v (.pointer (some ⟨b4, off5 + i * 1, none⟩))), (13, (vS e6.A e6.nds.length e6.c))], [.o (.slice Ao ((jn (ps.take i)).length) cs) ((jn (ps.take i)).length) ((jn (ps.take i)).flatMap Nd.cells) 26 7]⟩) (by kernel_rfl) ((vS e6.A e6.nds.length e6.c)) (by kernel_rfl) (Val.ldE rfl (enc := Pt.enc) (xs := ps) (b := b4) (off := off5) hP (sz := 1) (fun _ => rfl) (Nat.zero_lt_succ _) i e6 he7 0 (off5 + i * 1) (by omega) (by kernel_rfl) ((vS e6.A e6.nds.length e6.c)) (by kernel_rfl)) ?_
    refine At.runk 1 [11, 12, 13] [] ⟨fr 40 [(0, (vP g0 0)), (1, (vP g1 0)), (3, (vS Ao ((jn (ps.take i)).length) cs)), (5, (vS e6.A e6.nds.length e6.c)), (8, (vS (aS b4 off5) ps.length d)), (9, (vI (ps.length : Int))), (10, (vI (i : Int)))], [.o (.slice Ao ((jn (ps.take i)).length) cs) ((jn (ps.take i)).length) ((jn (ps.take i)).flatMap Nd.cells) 26 7]⟩ (by kernel_rfl) ?_
    refine At.nil ?_
    refine At.then_normal ?_
    refine At.region ?_
    refine At.runk 2 [3, 5] [] ⟨fr 40 [(0, (vP g0 0)), (1, (vP g1 0)), (8, (vS (aS b4 off5) ps.length d)), (9, (vI (ps.length : Int))), (10, (vI (i : Int))), (14, (vS Ao ((jn (ps.take i)).length) cs)), (15, (vS e6.A e6.nds.length e6.c))], [.o (.slice Ao ((jn (ps.take i)).length) cs) ((jn (ps.take i)).length) ((jn (ps.take i)).flatMap Nd.cells) 26 7]⟩ (by kernel_rfl) ?_
    refine At.callV rfl (by kernel_rfl) 43 [] [] (by kernel_rfl) Try.func43 (by kernel_rfl) (by kernel_rfl) [(vS e6.A e6.nds.length e6.c)] (by kernel_rfl) (by kernel_rfl) (of_ok Φ1 e6.nds e6.A e6.c e6R e6l e6w (ht e6 (List.mem_of_getElem? he7))) ?_
    rintro Φ10 gT8 hle11 hT9
    have hP := hP.mono hle11
    have hG := hG.mono hle11
    have hB0 := hB0.mono hle11
    have hB1 := hB1.mono hle11
    have e6R := e6R.mono hle11
    refine ⟨⟨fr 40 [(0, (vP g0 0)), (1, (vP g1 0)), (8, (vS (aS b4 off5) ps.length d)), (9, (vI (ps.length : Int))), (10, (vI (i : Int))), (14, (vS Ao ((jn (ps.take i)).length) cs)), (15, (vS e6.A e6.nds.length e6.c)), (16, (vP gT8 0))], [.o (.slice Ao ((jn (ps.take i)).length) cs) ((jn (ps.take i)).length) ((jn (ps.take i)).flatMap Nd.cells) 26 7]⟩, by kernel_rfl, by kernel_rfl, ?_⟩
    refine At.runk 2 [15, 16, 17] [] ⟨fr 40 [(0, (vP g0 0)), (1, (vP g1 0)), (8, (vS (aS b4 off5) ps.length d)), (9, (vI (ps.length : Int))), (10, (vI (i : Int))), (14, (vS Ao ((jn (ps.take i)).length) cs)), (18, (vP gT8 0))], [.o (.slice Ao ((jn (ps.take i)).length) cs) ((jn (ps.take i)).length) ((jn (ps.take i)).flatMap Nd.cells) 26 7]⟩ (by kernel_rfl) ?_
    refine At.vals (S' := ⟨fr 40 [(0, (vP g0 0)), (1, (vP g1 0)), (8, (vS (aS b4 off5) ps.length d)), (9, (vI (ps.length : Int))), (10, (vI (i : Int))), (14, (vS Ao ((jn (ps.take i)).length) cs)), (18, (vP gT8 0)), (19, (vS e6.A e6.nds.length e6.c))], [.o (.slice Ao ((jn (ps.take i)).length) cs) ((jn (ps.take i)).length) ((jn (ps.take i)).flatMap Nd.cells) 26 7]⟩) (by kernel_rfl) ((vS e6.A e6.nds.length e6.c)) (by kernel_rfl) (Val.ldB rfl hT9 (Nat.zero_lt_succ _) 0 0 (by omega) (by kernel_rfl) ((vS e6.A e6.nds.length e6.c)) (by kernel_rfl)) ?_
    refine At.append rfl (by kernel_rfl) (e := 26) (inf := Try.t26) (sz := 7) (by kernel_rfl) (by kernel_rfl) rfl rfl rfl (Nat.zero_lt_succ _) 0 (V := .slice Ao ((jn (ps.take i)).length) cs) (n := (jn (ps.take i)).length) (xs := ((jn (ps.take i)).flatMap Nd.cells)) (by kernel_rfl) (by kernel_rfl) e6.nds.length (e6.nds.flatMap Nd.cells) (Src.phi (A := e6.A) (m := e6.nds.length) (c := e6.c) (by kernel_rfl) e6R) (flat_len (enc := Nd.cells) (sz := 7) (fun _ => rfl) _) (nds_one _) (by unfold maxLen; omega) (by show ((jn (ps.take i)).length + e6.nds.length) * 56 ≤ _; omega) ?_
    intro A12 c13 h14 h15 h16
    refine ⟨⟨fr 40 [(0, (vP g0 0)), (1, (vP g1 0)), (8, (vS (aS b4 off5) ps.length d)), (9, (vI (ps.length : Int))), (10, (vI (i : Int))), (14, (vS Ao ((jn (ps.take i)).length) cs)), (18, (vP gT8 0)), (19, (vS e6.A e6.nds.length e6.c)), (20, (vS A12 ((jn (ps.take i)).length + e6.nds.length) c13))], [.o (.slice A12 ((jn (ps.take i)).length + e6.nds.length) c13) ((jn (ps.take i)).length + e6.nds.length) (((jn (ps.take i)).flatMap Nd.cells) ++ (e6.nds.flatMap Nd.cells)) 26 7]⟩, by kernel_rfl, ?_⟩
    have hj1 : (jn (ps.take (i + 1))).length = ((jn (ps.take i)).length + e6.nds.length) := by rw [jn_take he7, List.length_append]
    have hj2 : (jn (ps.take (i + 1))).flatMap Nd.cells = (((jn (ps.take i)).flatMap Nd.cells) ++ (e6.nds.flatMap Nd.cells)) := by rw [jn_take he7, nds_append]
    refine At.cast (S' := ⟨fr 40 [(0, (vP g0 0)), (1, (vP g1 0)), (8, (vS (aS b4 off5) ps.length d)), (9, (vI (ps.length : Int))), (10, (vI (i : Int))), (14, (vS Ao ((jn (ps.take i)).length) cs)), (18, (vP gT8 0)), (19, (vS e6.A e6.nds.length e6.c)), (20, (vS A12 ((jn (ps.take (i + 1))).length) c13))], [.o (.slice A12 ((jn (ps.take (i + 1))).length) c13) ((jn (ps.take (i + 1))).length) ((jn (ps.take (i + 1))).flatMap Nd.cells) 26 7]⟩) (by rw [hj1, hj2]) ?_
    refine At.runk 1 [14, 18, 19, 20] [] ⟨fr 40 [(0, (vP g0 0)), (1, (vP g1 0)), (3, (vS A12 ((jn (ps.take (i + 1))).length) c13)), (8, (vS (aS b4 off5) ps.length d)), (9, (vI (ps.length : Int))), (10, (vI (i : Int)))], [.o (.slice A12 ((jn (ps.take (i + 1))).length) c13) ((jn (ps.take (i + 1))).length) ((jn (ps.take (i + 1))).flatMap Nd.cells) 26 7]⟩ (by kernel_rfl) ?_
    refine At.nil ?_
    refine At.in_normal ?_
    refine At.then_normal ?_
    refine At.region ?_
    refine At.runk 1 [10] [] ⟨fr 40 [(0, (vP g0 0)), (1, (vP g1 0)), (3, (vS A12 ((jn (ps.take (i + 1))).length) c13)), (8, (vS (aS b4 off5) ps.length d)), (9, (vI (ps.length : Int))), (21, (vI (IntKind.i64.wrap ((i : Int) + 1))))], [.o (.slice A12 ((jn (ps.take (i + 1))).length) c13) ((jn (ps.take (i + 1))).length) ((jn (ps.take (i + 1))).flatMap Nd.cells) 26 7]⟩ (by kernel_rfl) ?_
    refine At.cast (S' := ⟨fr 40 [(0, (vP g0 0)), (1, (vP g1 0)), (3, (vS A12 ((jn (ps.take (i + 1))).length) c13)), (8, (vS (aS b4 off5) ps.length d)), (9, (vI (ps.length : Int))), (21, (vI ((i : Int) + 1)))], [.o (.slice A12 ((jn (ps.take (i + 1))).length) c13) ((jn (ps.take (i + 1))).length) ((jn (ps.take (i + 1))).flatMap Nd.cells) 26 7]⟩) (by rw [wrapI (z := (i : Int) + 1) (by omega) (by omega)]) ?_
    refine At.runk 1 [21] [] ⟨fr 40 [(0, (vP g0 0)), (1, (vP g1 0)), (3, (vS A12 ((jn (ps.take (i + 1))).length) c13)), (8, (vS (aS b4 off5) ps.length d)), (9, (vI (ps.length : Int))), (10, (vI ((i : Int) + 1)))], [.o (.slice A12 ((jn (ps.take (i + 1))).length) c13) ((jn (ps.take (i + 1))).length) ((jn (ps.take (i + 1))).flatMap Nd.cells) 26 7]⟩ (by kernel_rfl) ?_
    refine At.nil ?_
    refine At.round (i + 1, A12, c13) (by kernel_rfl) hle11 ⟨by omega, by rw [hj1]; exact h14⟩ (by omega)
  have hb3p : ¬ ((i : Int) < (ps.length : Int)) := of_decide_eq_false hb3
  refine At.cast (S' := ⟨fr 40 [(0, (vP g0 0)), (1, (vP g1 0)), (3, (vS Ao ((jn (ps.take i)).length) cs)), (8, (vS B ps.length d)), (9, (vI (ps.length : Int))), (10, (vI (i : Int))), (11, (vB false))], [.o (.slice Ao ((jn (ps.take i)).length) cs) ((jn (ps.take i)).length) ((jn (ps.take i)).flatMap Nd.cells) 26 7]⟩) (by rw [hb3] <;> rfl) ?_
  refine At.cond_f (by kernel_rfl) ?_
  refine At.exit_ ?_
  refine At.then_exit ?_
  refine At.then_exit ?_
  refine At.in_here ?_
  refine At.then_normal ?_
  refine At.seq ?_
  refine At.region ?_
  refine At.vals (S' := ⟨fr 40 [(0, (vP g0 0)), (1, (vP g1 0)), (3, (vS Ao ((jn (ps.take i)).length) cs)), (8, (vS B ps.length d)), (9, (vI (ps.length : Int))), (10, (vI (i : Int))), (11, (vB false)), (23, .agg n.sv)], [.o (.slice Ao ((jn (ps.take i)).length) cs) ((jn (ps.take i)).length) ((jn (ps.take i)).flatMap Nd.cells) 26 7]⟩) (by kernel_rfl) (.agg n.sv) (by kernel_rfl) (Val.ldB rfl hB1 (Nat.zero_lt_succ _) 0 0 (by omega) (by kernel_rfl) (.agg n.sv) (by kernel_rfl)) ?_
  refine At.callV rfl (by kernel_rfl) 44 [] [] (by kernel_rfl) Try.func44 (by kernel_rfl) (by kernel_rfl) [.agg n.sv] (by kernel_rfl) (by kernel_rfl) (known_t Φ1 n nw hm) ?_
  rintro Φ17 _ hle18 rfl
  have hP := hP.mono hle18
  have hG := hG.mono hle18
  have hB0 := hB0.mono hle18
  have hB1 := hB1.mono hle18
  have hal := ar_le n
  refine ⟨⟨fr 40 [(0, (vP g0 0)), (1, (vP g1 0)), (3, (vS Ao ((jn (ps.take i)).length) cs)), (8, (vS B ps.length d)), (9, (vI (ps.length : Int))), (10, (vI (i : Int))), (11, (vB false)), (23, .agg n.sv), (24, .tup [.agg [(vI (ar n : Int)), .v (.func (.func (mayN n.kind)) #[] #[]), .v (.func (.func (nulN n.kind)) #[] #[])], (vB true)])], [.o (.slice Ao ((jn (ps.take i)).length) cs) ((jn (ps.take i)).length) ((jn (ps.take i)).flatMap Nd.cells) 26 7]⟩, by kernel_rfl, by kernel_rfl, ?_⟩
  refine At.runk 6 [8, 9, 10, 11, 22, 23, 24, 25, 26] [] ⟨fr 40 [(0, (vP g0 0)), (1, (vP g1 0)), (3, (vS Ao ((jn (ps.take i)).length) cs)), (6, .p 1 0), (7, (vB true))], [.o (.slice Ao ((jn (ps.take i)).length) cs) ((jn (ps.take i)).length) ((jn (ps.take i)).flatMap Nd.cells) 26 7, .c [(vI (ar n : Int)), .v (.func (.func (mayN n.kind)) #[] #[]), .v (.func (.func (nulN n.kind)) #[] #[])] 76]⟩ (by kernel_rfl) ?_
  refine At.nil ?_
  refine At.then_normal ?_
  refine At.seq ?_
  refine At.region ?_
  refine At.runk 4 [6, 7, 27, 29] [1] ⟨fr 40 [(0, (vP g0 0)), (1, (vP g1 0)), (3, (vS Ao ((jn (ps.take i)).length) cs)), (28, (vB true)), (30, (vI (ar n : Int)))], [.o (.slice Ao ((jn (ps.take i)).length) cs) ((jn (ps.take i)).length) ((jn (ps.take i)).flatMap Nd.cells) 26 7, .dead]⟩ (by kernel_rfl) ?_
  refine At.vals (S' := ⟨fr 40 [(0, (vP g0 0)), (1, (vP g1 0)), (3, (vS Ao ((jn (ps.take i)).length) cs)), (28, (vB true)), (30, (vI (ar n : Int))), (31, (vS B ps.length d))], [.o (.slice Ao ((jn (ps.take i)).length) cs) ((jn (ps.take i)).length) ((jn (ps.take i)).flatMap Nd.cells) 26 7, .dead]⟩) (by kernel_rfl) ((vS B ps.length d)) (by kernel_rfl) (Val.ldB rfl hB0 (Nat.zero_lt_succ _) 0 0 (by omega) (by kernel_rfl) ((vS B ps.length d)) (by kernel_rfl)) ?_
  refine At.runk 3 [0, 28, 30, 31, 32, 33] [] ⟨fr 40 [(1, (vP g1 0)), (3, (vS Ao ((jn (ps.take i)).length) cs)), (34, (vB ((ar n : Int) == (ps.length : Int))))], [.o (.slice Ao ((jn (ps.take i)).length) cs) ((jn (ps.take i)).length) ((jn (ps.take i)).flatMap Nd.cells) 26 7, .dead]⟩ (by kernel_rfl) ?_
  refine At.bcase ((ar n : Int) == (ps.length : Int)) (fun hb19 => ?_) (fun hb19 => ?_)
  · have hb19p : ((ar n : Int) = (ps.length : Int)) := eq_of_beq hb19
    refine At.cast (S' := ⟨fr 40 [(1, (vP g1 0)), (3, (vS Ao ((jn (ps.take i)).length) cs)), (34, (vB true))], [.o (.slice Ao ((jn (ps.take i)).length) cs) ((jn (ps.take i)).length) ((jn (ps.take i)).flatMap Nd.cells) 26 7, .dead]⟩) (by rw [hb19] <;> rfl) ?_
    refine At.callV rfl (by kernel_rfl) 45 [] [] (by kernel_rfl) Try.func45 (by kernel_rfl) (by kernel_rfl) [(vB true), (vI 2)] (by kernel_rfl) (by kernel_rfl) (need_ok Φ17 2) ?_
    rintro Φ20 ⟨⟩ hle21 -
    have hP := hP.mono hle21
    have hG := hG.mono hle21
    have hB0 := hB0.mono hle21
    have hB1 := hB1.mono hle21
    refine ⟨⟨fr 40 [(1, (vP g1 0)), (3, (vS Ao ((jn (ps.take i)).length) cs)), (34, (vB true)), (35, .tup [])], [.o (.slice Ao ((jn (ps.take i)).length) cs) ((jn (ps.take i)).length) ((jn (ps.take i)).flatMap Nd.cells) 26 7, .dead]⟩, by kernel_rfl, by kernel_rfl, ?_⟩
    refine At.nil ?_
    refine At.then_normal ?_
    refine At.seq ?_
    refine At.region ?_
    refine At.runk 1 [3, 34, 35] [] ⟨fr 40 [(1, (vP g1 0)), (36, (vS Ao ((jn (ps.take i)).length) cs))], [.o (.slice Ao ((jn (ps.take i)).length) cs) ((jn (ps.take i)).length) ((jn (ps.take i)).flatMap Nd.cells) 26 7, .dead]⟩ (by kernel_rfl) ?_
    refine At.vals (S' := ⟨fr 40 [(1, (vP g1 0)), (36, (vS Ao ((jn (ps.take i)).length) cs)), (37, .agg n.sv)], [.o (.slice Ao ((jn (ps.take i)).length) cs) ((jn (ps.take i)).length) ((jn (ps.take i)).flatMap Nd.cells) 26 7, .dead]⟩) (by kernel_rfl) (.agg n.sv) (by kernel_rfl) (Val.ldB rfl hB1 (Nat.zero_lt_succ _) 0 0 (by omega) (by kernel_rfl) (.agg n.sv) (by kernel_rfl)) ?_
    refine At.runk 1 [1, 37] [] ⟨fr 40 [(36, (vS Ao ((jn (ps.take i)).length) cs)), (38, .s 2 0 1 1)], [.o (.slice Ao ((jn (ps.take i)).length) cs) ((jn (ps.take i)).length) ((jn (ps.take i)).flatMap Nd.cells) 26 7, .dead, .c n.sv 26]⟩ (by kernel_rfl) ?_
    refine At.append rfl (by kernel_rfl) (e := 26) (inf := Try.t26) (sz := 7) (by kernel_rfl) (by kernel_rfl) rfl rfl rfl (Nat.zero_lt_succ _) 0 (V := .slice Ao ((jn (ps.take i)).length) cs) (n := (jn (ps.take i)).length) (xs := ((jn (ps.take i)).flatMap Nd.cells)) (by kernel_rfl) (by kernel_rfl) 1 [.int .i64 n.kind, .int .u64 n.s0, .int .u64 n.s1, .int .u64 n.s2, .int .u64 n.s3, .int .i64 n.mn, .int .i64 n.mx] (Src.cells (i := 2) (off := 0) (m := 1) (c := 1) (cs := n.sv) (e := 26) (by kernel_rfl) (by kernel_rfl) (src_lits _ _ (by kernel_rfl))) (rfl) (one_lits _ (by kernel_rfl)) (by unfold maxLen; omega) (by show ((jn (ps.take i)).length + 1) * 56 ≤ _; omega) ?_
    intro A22 c23 h24 h25 h26
    refine ⟨⟨fr 40 [(36, (vS Ao ((jn (ps.take i)).length) cs)), (38, .s 2 0 1 1), (39, (vS A22 ((jn (ps.take i)).length + 1) c23))], [.o (.slice A22 ((jn (ps.take i)).length + 1) c23) ((jn (ps.take i)).length + 1) (((jn (ps.take i)).flatMap Nd.cells) ++ [.int .i64 n.kind, .int .u64 n.s0, .int .u64 n.s1, .int .u64 n.s2, .int .u64 n.s3, .int .i64 n.mn, .int .i64 n.mx]) 26 7, .dead, .c n.sv 26]⟩, by kernel_rfl, ?_⟩
    have hie : i = ps.length := by omega
    subst hie
    have hj1 : (jn ps ++ [n]).length = ((jn (ps.take ps.length)).length + 1) := by rw [jn_end (Nat.le_refl _), List.length_append]; rfl
    have hj2 : (jn ps ++ [n]).flatMap Nd.cells = (((jn (ps.take ps.length)).flatMap Nd.cells) ++ [.int .i64 n.kind, .int .u64 n.s0, .int .u64 n.s1, .int .u64 n.s2, .int .u64 n.s3, .int .i64 n.mn, .int .i64 n.mx]) := by rw [jn_end (Nat.le_refl _), nds_append]; rfl
    refine At.cast (S' := ⟨fr 40 [(36, (vS Ao ((jn (ps.take ps.length)).length) cs)), (38, .s 2 0 1 1), (39, (vS A22 ((jn ps ++ [n]).length) c23))], [.o (.slice A22 ((jn ps ++ [n]).length) c23) ((jn ps ++ [n]).length) ((jn ps ++ [n]).flatMap Nd.cells) 26 7, .dead, .c n.sv 26]⟩) (by rw [hj1, hj2]) ?_
    refine At.runk 1 [36, 38, 39] [2] ⟨fr 40 [(2, (vS A22 ((jn ps ++ [n]).length) c23))], [.o (.slice A22 ((jn ps ++ [n]).length) c23) ((jn ps ++ [n]).length) ((jn ps ++ [n]).flatMap Nd.cells) 26 7, .dead, .dead]⟩ (by kernel_rfl) ?_
    refine At.nil ?_
    refine At.then_normal ?_
    refine At.ret_ ?_
    refine At.forget [] 1 [] ⟨fr 40 [(2, (vS A22 ((jn ps ++ [n]).length) c23))], [.o (.slice A22 ((jn ps ++ [n]).length) c23) ((jn ps ++ [n]).length) ((jn ps ++ [n]).flatMap Nd.cells) 26 7]⟩ (by kernel_rfl) (by kernel_rfl) (bleT rfl) ?_
    refine At.leaveR rfl (A22, c23) (by kernel_rfl) (by kernel_rfl) (by kernel_rfl) ?_
    dsimp only; omega
  have hb19p : ¬ ((ar n : Int) = (ps.length : Int)) := beq_eq_false_iff_ne.1 hb19
  exfalso; omega

theorem join1_part (Φ : Phi) (g0 g1 : Nat) (ps : List Pt) (B : Option Addr) (d : Nat) (hP : RdC Φ B (ps.flatMap Pt.enc)) (hG : Pts Φ ps) (hk : ∀ p ∈ ps, p.nds.length ≤ 1000) (hw : ∀ p ∈ ps, ∀ n ∈ p.nds, n.wf) (hpl : ps.length ≤ 1000) (n : Nd) (nw : n.wf) (hB0 : RdC Φ (aS g0 0) [.slice B ps.length d]) (hB1 : RdC Φ (aS g1 0) n.cells) (ht : ¬ ∀ p ∈ ps, chk p.nds 0 0 = none)  : CallP Try.prog 42 [(vP g0 0), (vP g1 0)] [] Φ [{ v := .iface 33 (.int .i64 140), recovered := false }] := by
  refine CallG.enterk Try.func42 rfl [2, 3, 4, 5, 6, 7, 8, 9, 10, 11, 12, 13, 14, 15, 16, 17, 18, 19, 20, 21, 22, 23, 24, 25, 26, 27, 28, 29, 30, 31, 32, 33, 34, 35, 36, 37, 38, 39] ⟨fr 40 [(0, (vP g0 0)), (1, (vP g1 0))], []⟩ (by kernel_rfl) (by kernel_rfl) ?_
  intro E G β0
  refine At.seq ?_
  refine At.region ?_
  refine At.runk 1 [2] [] ⟨fr 40 [(0, (vP g0 0)), (1, (vP g1 0))], []⟩ (by kernel_rfl) ?_
  refine At.nil ?_
  refine At.then_normal ?_
  refine At.seq ?_
  refine At.region ?_
  refine At.runk 1 [] [] ⟨fr 40 [(0, (vP g0 0)), (1, (vP g1 0)), (3, (vS none 0 0))], []⟩ (by kernel_rfl) ?_
  refine At.nilrow 26 7 ⟨fr 40 [(0, (vP g0 0)), (1, (vP g1 0)), (3, (vS none 0 0))], [.o (.slice none 0 0) 0 [] 26 7]⟩ (by kernel_rfl) (by kernel_rfl) ?_
  refine At.nil ?_
  refine At.then_normal ?_
  refine At.seq ?_
  refine At.seq ?_
  refine At.region ?_
  refine At.vals (S' := ⟨fr 40 [(0, (vP g0 0)), (1, (vP g1 0)), (3, (vS none 0 0)), (8, (vS B ps.length d))], [.o (.slice none 0 0) 0 [] 26 7]⟩) (by kernel_rfl) ((vS B ps.length d)) (by kernel_rfl) (Val.ldB rfl hB0 (Nat.zero_lt_succ _) 0 0 (by omega) (by kernel_rfl) ((vS B ps.length d)) (by kernel_rfl)) ?_
  refine At.runk 2 [] [] ⟨fr 40 [(0, (vP g0 0)), (1, (vP g1 0)), (3, (vS none 0 0)), (8, (vS B ps.length d)), (9, (vI (ps.length : Int))), (10, (vI 0))], [.o (.slice none 0 0) 0 [] 26 7]⟩ (by kernel_rfl) ?_
  refine At.nil ?_
  refine At.then_normal ?_
  refine At.block ?_
  refine At.loop (T := Nat × Option Addr × Nat) (fun x => ⟨fr 40 [(0, (vP g0 0)), (1, (vP g1 0)), (3, (vS x.2.1 ((jn (ps.take x.1)).length) x.2.2)), (8, (vS B ps.length d)), (9, (vI (ps.length : Int))), (10, (vI (x.1 : Int)))], [.o (.slice x.2.1 ((jn (ps.take x.1)).length) x.2.2) ((jn (ps.take x.1)).length) ((jn (ps.take x.1)).flatMap Nd.cells) 26 7]⟩) (fun x Φ => x.1 ≤ ps.length ∧ (jn (ps.take x.1)).length ≤ x.2.2 ∧ (∀ p ∈ ps.take x.1, chk p.nds 0 0 = none)) (fun x => ps.length - x.1) (0, none, 0) (by kernel_rfl) ⟨Nat.zero_le _, Nat.le_refl _, (fun p h => by simp at h)⟩ ?_
  rintro ⟨i, Ao, cs⟩ Φ1 hle2 hF
  have hP := hP.mono hle2
  have hG := hG.mono hle2
  have hB0 := hB0.mono hle2
  have hB1 := hB1.mono hle2
  refine At.cast (S' := ⟨fr 40 [(0, (vP g0 0)), (1, (vP g1 0)), (3, (vS Ao ((jn (ps.take i)).length) cs)), (8, (vS B ps.length d)), (9, (vI (ps.length : Int))), (10, (vI (i : Int)))], [.o (.slice Ao ((jn (ps.take i)).length) cs) ((jn (ps.take i)).length) ((jn (ps.take i)).flatMap Nd.cells) 26 7]⟩) (by kernel_rfl) ?_
  dsimp only at hF
  have hF1 := hF.1
  have hjl := jn_len hk i
  refine At.seq ?_
  refine At.region ?_
  refine At.runk 1 [] [] ⟨fr 40 [(0, (vP g0 0)), (1, (vP g1 0)), (3, (vS Ao ((jn (ps.take i)).length) cs)), (8, (vS B ps.length d)), (9, (vI (ps.length : Int))), (10, (vI (i : Int))), (11, (vB (decide ((i : Int) < (ps.length : Int)))))], [.o (.slice Ao ((jn (ps.take i)).length) cs) ((jn (ps.take i)).length) ((jn (ps.take i)).flatMap Nd.cells) 26 7]⟩ (by kernel_rfl) ?_
  refine At.nil ?_
  refine At.then_normal ?_
  refine At.seq ?_
  refine At.bcase (decide ((i : Int) < (ps.length : Int))) (fun hb3 => ?_) (fun hb3 => ?_)
  · have hb3p : ((i : Int) < (ps.length : Int)) := of_decide_eq_true hb3
    refine At.cast (S' := ⟨fr 40 [(0, (vP g0 0)), (1, (vP g1 0)), (3, (vS Ao ((jn (ps.take i)).length) cs)), (8, (vS B ps.length d)), (9, (vI (ps.length : Int))), (10, (vI (i : Int))), (11, (vB true))], [.o (.slice Ao ((jn (ps.take i)).length) cs) ((jn (ps.take i)).length) ((jn (ps.take i)).flatMap Nd.cells) 26 7]⟩) (by rw [hb3] <;> rfl) ?_
    refine At.cond_t (by kernel_rfl) ?_
    refine At.skip ?_
    refine At.then_normal ?_
    refine At.seq ?_
    refine At.block ?_
    refine At.seq ?_
    refine At.region ?_
    obtain ⟨b4, off5, hBeq⟩ : ∃ b off, B = some ⟨b, off, none⟩ := hP.addr (by rw [flat_len (sz := 1) (fun _ => rfl)]; omega)
    subst hBeq
    refine At.idx (S' := ⟨fr 40 [(0, (vP g0 0)), (1, (vP g1 0)), (3, (vS Ao ((jn (ps.take i)).length) cs)), (8, (vS (aS b4 off5) ps.length d)), (9, (vI (ps.length : Int))), (10, (vI (i : Int))), (11, (vB true)), (12, .v (.pointer (some ⟨b4, off5 + i * 1, none⟩)))], [.o (.slice Ao ((jn (ps.take i)).length) cs) ((jn (ps.take i)).length) ((jn (ps.take i)).flatMap Nd.cells) 26 7]⟩) rfl (by kernel_rfl) (sz := 1) (e := 30) (by kernel_rfl) (by kernel_rfl) (by kernel_rfl) (b := b4) (off := off5) (n := ps.length) (cap := d) (kd := .i64) (i := (i : Int)) (by kernel_rfl) (by omega) (by omega) (by kernel_rfl) ?_
    obtain ⟨e6, he7⟩ := get_some (l := ps) (i := i) (by omega)
    have e6R := hG e6 (List.mem_of_getElem? he7)
    have e6k := hk e6 (List.mem_of_getElem? he7)
    have e6l : e6.nds.length ≤ 1000000 := by omega
    have e6w := hw e6 (List.mem_of_getElem? he7)
    refine At.vals (S' := ⟨fr 40 [(0, (vP g0 0)), (1, (vP g1 0)), (3, (vS Ao ((jn (ps.take i)).length) cs)), (8, (vS (aS b4 off5) ps.length d)), (9, (vI (ps.length : Int))), (10, (vI (i : Int))), (11, (vB true)), (12, .v (.pointer (some ⟨b4, off5 + i * 1, none⟩))), (13, (vS e6.A e6.nds.length e6.c))], [.o (.slice Ao ((jn (ps.take i)).length) cs) ((jn (ps.take i)).length) ((jn (ps.take i)).flatMap Nd.cells) 26 7]⟩) (by kernel_rfl) ((vS e6.A e6.nds.length e6.c)) (by kernel_rfl) (Val.ldE rfl (enc := Pt.enc) (xs := ps) (b := b4) (off := off5) hP (sz := 1) (fun _ => rfl) (Nat.zero_lt_succ _) i e6 he7 0 (off5 + i * 1) (by omega) (by kernel_rfl) ((vS e6.A e6.nds.length e6.c)) (by kernel_rfl)) ?_
    refine At.runk 1 [11, 12, 13] [] ⟨fr 40 [(0, (vP g0 0)), (1, (vP g1 0)), (3, (vS Ao ((jn (ps.take i)).length) cs)), (5, (vS e6.A e6.nds.length e6.c)), (8, (vS (aS b4 off5) ps.length d)), (9, (vI (ps.length : Int))), (10, (vI (i : Int)))], [.o (.slice Ao ((jn (ps.take i)).length) cs) ((jn (ps.take i)).length) ((jn (ps.take i)).flatMap Nd.cells) 26 7]⟩ (by kernel_rfl) ?_
    refine At.nil ?_
    refine At.then_normal ?_
    refine At.region ?_
    refine At.runk 2 [3, 5] [] ⟨fr 40 [(0, (vP g0 0)), (1, (vP g1 0)), (8, (vS (aS b4 off5) ps.length d)), (9, (vI (ps.length : Int))), (10, (vI (i : Int))), (14, (vS Ao ((jn (ps.take i)).length) cs)), (15, (vS e6.A e6.nds.length e6.c))], [.o (.slice Ao ((jn (ps.take i)).length) cs) ((jn (ps.take i)).length) ((jn (ps.take i)).flatMap Nd.cells) 26 7]⟩ (by kernel_rfl) ?_
    by_cases hc10 : chk e6.nds 0 0 = none
    · refine At.callV rfl (by kernel_rfl) 43 [] [] (by kernel_rfl) Try.func43 (by kernel_rfl) (by kernel_rfl) [(vS e6.A e6.nds.length e6.c)] (by kernel_rfl) (by kernel_rfl) (of_ok Φ1 e6.nds e6.A e6.c e6R e6l e6w hc10) ?_
      rintro Φ11 gT8 hle12 hT9
      have hP := hP.mono hle12
      have hG := hG.mono hle12
      have hB0 := hB0.mono hle12
      have hB1 := hB1.mono hle12
      have e6R := e6R.mono hle12
      refine ⟨⟨fr 40 [(0, (vP g0 0)), (1, (vP g1 0)), (8, (vS (aS b4 off5) ps.length d)), (9, (vI (ps.length : Int))), (10, (vI (i : Int))), (14, (vS Ao ((jn (ps.take i)).length) cs)), (15, (vS e6.A e6.nds.length e6.c)), (16, (vP gT8 0))], [.o (.slice Ao ((jn (ps.take i)).length) cs) ((jn (ps.take i)).length) ((jn (ps.take i)).flatMap Nd.cells) 26 7]⟩, by kernel_rfl, by kernel_rfl, ?_⟩
      refine At.runk 2 [15, 16, 17] [] ⟨fr 40 [(0, (vP g0 0)), (1, (vP g1 0)), (8, (vS (aS b4 off5) ps.length d)), (9, (vI (ps.length : Int))), (10, (vI (i : Int))), (14, (vS Ao ((jn (ps.take i)).length) cs)), (18, (vP gT8 0))], [.o (.slice Ao ((jn (ps.take i)).length) cs) ((jn (ps.take i)).length) ((jn (ps.take i)).flatMap Nd.cells) 26 7]⟩ (by kernel_rfl) ?_
      refine At.vals (S' := ⟨fr 40 [(0, (vP g0 0)), (1, (vP g1 0)), (8, (vS (aS b4 off5) ps.length d)), (9, (vI (ps.length : Int))), (10, (vI (i : Int))), (14, (vS Ao ((jn (ps.take i)).length) cs)), (18, (vP gT8 0)), (19, (vS e6.A e6.nds.length e6.c))], [.o (.slice Ao ((jn (ps.take i)).length) cs) ((jn (ps.take i)).length) ((jn (ps.take i)).flatMap Nd.cells) 26 7]⟩) (by kernel_rfl) ((vS e6.A e6.nds.length e6.c)) (by kernel_rfl) (Val.ldB rfl hT9 (Nat.zero_lt_succ _) 0 0 (by omega) (by kernel_rfl) ((vS e6.A e6.nds.length e6.c)) (by kernel_rfl)) ?_
      refine At.append rfl (by kernel_rfl) (e := 26) (inf := Try.t26) (sz := 7) (by kernel_rfl) (by kernel_rfl) rfl rfl rfl (Nat.zero_lt_succ _) 0 (V := .slice Ao ((jn (ps.take i)).length) cs) (n := (jn (ps.take i)).length) (xs := ((jn (ps.take i)).flatMap Nd.cells)) (by kernel_rfl) (by kernel_rfl) e6.nds.length (e6.nds.flatMap Nd.cells) (Src.phi (A := e6.A) (m := e6.nds.length) (c := e6.c) (by kernel_rfl) e6R) (flat_len (enc := Nd.cells) (sz := 7) (fun _ => rfl) _) (nds_one _) (by unfold maxLen; omega) (by show ((jn (ps.take i)).length + e6.nds.length) * 56 ≤ _; omega) ?_
      intro A13 c14 h15 h16 h17
      refine ⟨⟨fr 40 [(0, (vP g0 0)), (1, (vP g1 0)), (8, (vS (aS b4 off5) ps.length d)), (9, (vI (ps.length : Int))), (10, (vI (i : Int))), (14, (vS Ao ((jn (ps.take i)).length) cs)), (18, (vP gT8 0)), (19, (vS e6.A e6.nds.length e6.c)), (20, (vS A13 ((jn (ps.take i)).length + e6.nds.length) c14))], [.o (.slice A13 ((jn (ps.take i)).length + e6.nds.length) c14) ((jn (ps.take i)).length + e6.nds.length) (((jn (ps.take i)).flatMap Nd.cells) ++ (e6.nds.flatMap Nd.cells)) 26 7]⟩, by kernel_rfl, ?_⟩
      have hj1 : (jn (ps.take (i + 1))).length = ((jn (ps.take i)).length + e6.nds.length) := by rw [jn_take he7, List.length_append]
      have hj2 : (jn (ps.take (i + 1))).flatMap Nd.cells = (((jn (ps.take i)).flatMap Nd.cells) ++ (e6.nds.flatMap Nd.cells)) := by rw [jn_take he7, nds_append]
      refine At.cast (S' := ⟨fr 40 [(0, (vP g0 0)), (1, (vP g1 0)), (8, (vS (aS b4 off5) ps.length d)), (9, (vI (ps.length : Int))), (10, (vI (i : Int))), (14, (vS Ao ((jn (ps.take i)).length) cs)), (18, (vP gT8 0)), (19, (vS e6.A e6.nds.length e6.c)), (20, (vS A13 ((jn (ps.take (i + 1))).length) c14))], [.o (.slice A13 ((jn (ps.take (i + 1))).length) c14) ((jn (ps.take (i + 1))).length) ((jn (ps.take (i + 1))).flatMap Nd.cells) 26 7]⟩) (by rw [hj1, hj2]) ?_
      refine At.runk 1 [14, 18, 19, 20] [] ⟨fr 40 [(0, (vP g0 0)), (1, (vP g1 0)), (3, (vS A13 ((jn (ps.take (i + 1))).length) c14)), (8, (vS (aS b4 off5) ps.length d)), (9, (vI (ps.length : Int))), (10, (vI (i : Int)))], [.o (.slice A13 ((jn (ps.take (i + 1))).length) c14) ((jn (ps.take (i + 1))).length) ((jn (ps.take (i + 1))).flatMap Nd.cells) 26 7]⟩ (by kernel_rfl) ?_
      refine At.nil ?_
      refine At.in_normal ?_
      refine At.then_normal ?_
      refine At.region ?_
      refine At.runk 1 [10] [] ⟨fr 40 [(0, (vP g0 0)), (1, (vP g1 0)), (3, (vS A13 ((jn (ps.take (i + 1))).length) c14)), (8, (vS (aS b4 off5) ps.length d)), (9, (vI (ps.length : Int))), (21, (vI (IntKind.i64.wrap ((i : Int) + 1))))], [.o (.slice A13 ((jn (ps.take (i + 1))).length) c14) ((jn (ps.take (i + 1))).length) ((jn (ps.take (i + 1))).flatMap Nd.cells) 26 7]⟩ (by kernel_rfl) ?_
      refine At.cast (S' := ⟨fr 40 [(0, (vP g0 0)), (1, (vP g1 0)), (3, (vS A13 ((jn (ps.take (i + 1))).length) c14)), (8, (vS (aS b4 off5) ps.length d)), (9, (vI (ps.length : Int))), (21, (vI ((i : Int) + 1)))], [.o (.slice A13 ((jn (ps.take (i + 1))).length) c14) ((jn (ps.take (i + 1))).length) ((jn (ps.take (i + 1))).flatMap Nd.cells) 26 7]⟩) (by rw [wrapI (z := (i : Int) + 1) (by omega) (by omega)]) ?_
      refine At.runk 1 [21] [] ⟨fr 40 [(0, (vP g0 0)), (1, (vP g1 0)), (3, (vS A13 ((jn (ps.take (i + 1))).length) c14)), (8, (vS (aS b4 off5) ps.length d)), (9, (vI (ps.length : Int))), (10, (vI ((i : Int) + 1)))], [.o (.slice A13 ((jn (ps.take (i + 1))).length) c14) ((jn (ps.take (i + 1))).length) ((jn (ps.take (i + 1))).flatMap Nd.cells) 26 7]⟩ (by kernel_rfl) ?_
      refine At.nil ?_
      refine At.round (i + 1, A13, c14) (by kernel_rfl) hle12 ⟨by omega, by rw [hj1]; exact h15, all_take_step he7 hF.2.2 hc10⟩ (by omega)
    obtain ⟨ihc10, hc10s⟩ := Option.ne_none_iff_exists.1 hc10
    refine At.callP rfl (by kernel_rfl) 43 [] [] (by kernel_rfl) Try.func43 (by kernel_rfl) (by kernel_rfl) [(vS e6.A e6.nds.length e6.c)] (by kernel_rfl) (by kernel_rfl) (of_no Φ1 e6.nds e6.A e6.c e6R e6l e6w ihc10 hc10s.symm) ?_
    intro Φ18 hle19
    have hP := hP.mono hle19
    have hG := hG.mono hle19
    have hB0 := hB0.mono hle19
    have hB1 := hB1.mono hle19
    have e6R := e6R.mono hle19
    refine ⟨⟨fr 40 [(0, (vP g0 0)), (1, (vP g1 0)), (8, (vS (aS b4 off5) ps.length d)), (9, (vI (ps.length : Int))), (10, (vI (i : Int))), (14, (vS Ao ((jn (ps.take i)).length) cs)), (15, (vS e6.A e6.nds.length e6.c))], [.o (.slice Ao ((jn (ps.take i)).length) cs) ((jn (ps.take i)).length) ((jn (ps.take i)).flatMap Nd.cells) 26 7]⟩, by kernel_rfl, by kernel_rfl, ?_⟩
    refine At.in_panic ?_
    refine At.then_panic ?_
    refine At.then_panic ?_
    refine At.in_panic ?_
    refine At.then_panic ?_
    refine At.forget [0, 1, 8, 9, 10, 14, 15] 0 [] ⟨fr 40 [], []⟩ (by kernel_rfl) (by kernel_rfl) (bleT rfl) ?_
    exact At.leaveP rfl (by kernel_rfl)
  have hb3p : ¬ ((i : Int) < (ps.length : Int)) := of_decide_eq_false hb3
  refine At.cast (S' := ⟨fr 40 [(0, (vP g0 0)), (1, (vP g1 0)), (3, (vS Ao ((jn (ps.take i)).length) cs)), (8, (vS B ps.length d)), (9, (vI (ps.length : Int))), (10, (vI (i : Int))), (11, (vB false))], [.o (.slice Ao ((jn (ps.take i)).length) cs) ((jn (ps.take i)).length) ((jn (ps.take i)).flatMap Nd.cells) 26 7]⟩) (by rw [hb3] <;> rfl) ?_
  refine At.cond_f (by kernel_rfl) ?_
  refine At.exit_ ?_
  refine At.then_exit ?_
  refine At.then_exit ?_
  refine At.in_here ?_
  refine At.then_normal ?_
  refine At.seq ?_
  exact absurd (fun p hp => hF.2.2 p (by rw [List.take_of_length_le (by omega)]; exact hp)) ht

theorem join1_node (Φ : Phi) (g0 g1 : Nat) (ps : List Pt) (B : Option Addr) (d : Nat) (hP : RdC Φ B (ps.flatMap Pt.enc)) (hG : Pts Φ ps) (hk : ∀ p ∈ ps, p.nds.length ≤ 1000) (hw : ∀ p ∈ ps, ∀ n ∈ p.nds, n.wf) (hpl : ps.length ≤ 1000) (n : Nd) (nw : n.wf) (hB0 : RdC Φ (aS g0 0) [.slice B ps.length d]) (hB1 : RdC Φ (aS g1 0) n.cells) (ht : ∀ p ∈ ps, chk p.nds 0 0 = none) (hm : ¬ (n.may = true ∧ ar n = ps.length))  : CallP Try.prog 42 [(vP g0 0), (vP g1 0)] [] Φ [{ v := .iface 33 (.int .i64 2), recovered := false }] := by
  refine CallG.enterk Try.func42 rfl [2, 3, 4, 5, 6, 7, 8, 9, 10, 11, 12, 13, 14, 15, 16, 17, 18, 19, 20, 21, 22, 23, 24, 25, 26, 27, 28, 29, 30, 31, 32, 33, 34, 35, 36, 37, 38, 39] ⟨fr 40 [(0, (vP g0 0)), (1, (vP g1 0))], []⟩ (by kernel_rfl) (by kernel_rfl) ?_
  intro E G β0
  refine At.seq ?_
  refine At.region ?_
  refine At.runk 1 [2] [] ⟨fr 40 [(0, (vP g0 0)), (1, (vP g1 0))], []⟩ (by kernel_rfl) ?_
  refine At.nil ?_
  refine At.then_normal ?_
  refine At.seq ?_
  refine At.region ?_
  refine At.runk 1 [] [] ⟨fr 40 [(0, (vP g0 0)), (1, (vP g1 0)), (3, (vS none 0 0))], []⟩ (by kernel_rfl) ?_
  refine At.nilrow 26 7 ⟨fr 40 [(0, (vP g0 0)), (1, (vP g1 0)), (3, (vS none 0 0))], [.o (.slice none 0 0) 0 [] 26 7]⟩ (by kernel_rfl) (by kernel_rfl) ?_
  refine At.nil ?_
  refine At.then_normal ?_
  refine At.seq ?_
  refine At.seq ?_
  refine At.region ?_
  refine At.vals (S' := ⟨fr 40 [(0, (vP g0 0)), (1, (vP g1 0)), (3, (vS none 0 0)), (8, (vS B ps.length d))], [.o (.slice none 0 0) 0 [] 26 7]⟩) (by kernel_rfl) ((vS B ps.length d)) (by kernel_rfl) (Val.ldB rfl hB0 (Nat.zero_lt_succ _) 0 0 (by omega) (by kernel_rfl) ((vS B ps.length d)) (by kernel_rfl)) ?_
  refine At.runk 2 [] [] ⟨fr 40 [(0, (vP g0 0)), (1, (vP g1 0)), (3, (vS none 0 0)), (8, (vS B ps.length d)), (9, (vI (ps.length : Int))), (10, (vI 0))], [.o (.slice none 0 0) 0 [] 26 7]⟩ (by kernel_rfl) ?_
  refine At.nil ?_
  refine At.then_normal ?_
  refine At.block ?_
  refine At.loop (T := Nat × Option Addr × Nat) (fun x => ⟨fr 40 [(0, (vP g0 0)), (1, (vP g1 0)), (3, (vS x.2.1 ((jn (ps.take x.1)).length) x.2.2)), (8, (vS B ps.length d)), (9, (vI (ps.length : Int))), (10, (vI (x.1 : Int)))], [.o (.slice x.2.1 ((jn (ps.take x.1)).length) x.2.2) ((jn (ps.take x.1)).length) ((jn (ps.take x.1)).flatMap Nd.cells) 26 7]⟩) (fun x Φ => x.1 ≤ ps.length ∧ (jn (ps.take x.1)).length ≤ x.2.2) (fun x => ps.length - x.1) (0, none, 0) (by kernel_rfl) ⟨Nat.zero_le _, Nat.le_refl _⟩ ?_
  rintro ⟨i, Ao, cs⟩ Φ1 hle2 hF
  have hP := hP.mono hle2
  have hG := hG.mono hle2
  have hB0 := hB0.mono hle2
  have hB1 := hB1.mono hle2
  refine At.cast (S' := ⟨fr 40 [(0, (vP g0 0)), (1, (vP g1 0)), (3, (vS Ao ((jn (ps.take i)).length) cs)), (8, (vS B ps.length d)), (9, (vI (ps.length : Int))), (10, (vI (i : Int)))], [.o (.slice Ao ((jn (ps.take i)).length) cs) ((jn (ps.take i)).length) ((jn (ps.take i)).flatMap Nd.cells) 26 7]⟩) (by kernel_rfl) ?_
  dsimp only at hF
  have hF1 := hF.1
  have hjl := jn_len hk i
  refine At.seq ?_
  refine At.region ?_
  refine At.runk 1 [] [] ⟨fr 40 [(0, (vP g0 0)), (1, (vP g1 0)), (3, (vS Ao ((jn (ps.take i)).length) cs)), (8, (vS B ps.length d)), (9, (vI (ps.length : Int))), (10, (vI (i : Int))), (11, (vB (decide ((i : Int) < (ps.length : Int)))))], [.o (.slice Ao ((jn (ps.take i)).length) cs) ((jn (ps.take i)).length) ((jn (ps.take i)).flatMap Nd.cells) 26 7]⟩ (by kernel_rfl) ?_
  refine At.nil ?_
  refine At.then_normal ?_
  refine At.seq ?_
  refine At.bcase (decide ((i : Int) < (ps.length : Int))) (fun hb3 => ?_) (fun hb3 => ?_)
  · have hb3p : ((i : Int) < (ps.length : Int)) := of_decide_eq_true hb3
    refine At.cast (S' := ⟨fr 40 [(0, (vP g0 0)), (1, (vP g1 0)), (3, (vS Ao ((jn (ps.take i)).length) cs)), (8, (vS B ps.length d)), (9, (vI (ps.length : Int))), (10, (vI (i : Int))), (11, (vB true))], [.o (.slice Ao ((jn (ps.take i)).length) cs) ((jn (ps.take i)).length) ((jn (ps.take i)).flatMap Nd.cells) 26 7]⟩) (by rw [hb3] <;> rfl) ?_
    refine At.cond_t (by kernel_rfl) ?_
    refine At.skip ?_
    refine At.then_normal ?_
    refine At.seq ?_
    refine At.block ?_
    refine At.seq ?_
    refine At.region ?_
    obtain ⟨b4, off5, hBeq⟩ : ∃ b off, B = some ⟨b, off, none⟩ := hP.addr (by rw [flat_len (sz := 1) (fun _ => rfl)]; omega)
    subst hBeq
    refine At.idx (S' := ⟨fr 40 [(0, (vP g0 0)), (1, (vP g1 0)), (3, (vS Ao ((jn (ps.take i)).length) cs)), (8, (vS (aS b4 off5) ps.length d)), (9, (vI (ps.length : Int))), (10, (vI (i : Int))), (11, (vB true)), (12, .v (.pointer (some ⟨b4, off5 + i * 1, none⟩)))], [.o (.slice Ao ((jn (ps.take i)).length) cs) ((jn (ps.take i)).length) ((jn (ps.take i)).flatMap Nd.cells) 26 7]⟩) rfl (by kernel_rfl) (sz := 1) (e := 30) (by kernel_rfl) (by kernel_rfl) (by kernel_rfl) (b := b4) (off := off5) (n := ps.length) (cap := d) (kd := .i64) (i := (i : Int)) (by kernel_rfl) (by omega) (by omega) (by kernel_rfl) ?_
    obtain ⟨e6, he7⟩ := get_some (l := ps) (i := i) (by omega)
    have e6R := hG e6 (List.mem_of_getElem? he7)
    have e6k := hk e6 (List.mem_of_getElem? he7)
    have e6l : e6.nds.length ≤ 1000000 := by omega
    have e6w := hw e6 (List.mem_of_getElem? he7)
    refine At.vals (S' := ⟨fr 40 [(0, (vP g0 0)), (1, (vP g1 0)), (3, (vS Ao ((jn (ps.take i)).length) cs)), (8, (vS (aS b4 off5) ps.length d)), (9, (vI (ps.length : Int))), (10, (vI (i : Int))), (11, (vB true)), (12, .v (.pointer (some ⟨b4, off5 + i * 1, none⟩))), (13, (vS e6.A e6.nds.length e6.c))], [.o (.slice Ao ((jn (ps.take i)).length) cs) ((jn (ps.take i)).length) ((jn (ps.take i)).flatMap Nd.cells) 26 7]⟩) (by kernel_rfl) ((vS e6.A e6.nds.length e6.c)) (by kernel_rfl) (Val.ldE rfl (enc := Pt.enc) (xs := ps) (b := b4) (off := off5) hP (sz := 1) (fun _ => rfl) (Nat.zero_lt_succ _) i e6 he7 0 (off5 + i * 1) (by omega) (by kernel_rfl) ((vS e6.A e6.nds.length e6.c)) (by kernel_rfl)) ?_
    refine At.runk 1 [11, 12, 13] [] ⟨fr 40 [(0, (vP g0 0)), (1, (vP g1 0)), (3, (vS Ao ((jn (ps.take i)).length) cs)), (5, (vS e6.A e6.nds.length e6.c)), (8, (vS (aS b4 off5) ps.length d)), (9, (vI (ps.length : Int))), (10, (vI (i : Int)))], [.o (.slice Ao ((jn (ps.take i)).length) cs) ((jn (ps.take i)).length) ((jn (ps.take i)).flatMap Nd.cells) 26 7]⟩ (by kernel_rfl) ?_
    refine At.nil ?_
    refine At.then_normal ?_
    refine At.region ?_
    refine At.runk 2 [3, 5] [] ⟨fr 40 [(0, (vP g0 0)), (1, (vP g1 0)), (8, (vS (aS b4 off5) ps.length d)), (9, (vI (ps.length : Int))), (10, (vI (i : Int))), (14, (vS Ao ((jn (ps.take i)).length) cs)), (15, (vS e6.A e6.nds.length e6.c))], [.o (.slice Ao ((jn (ps.take i)).length) cs) ((jn (ps.take i)).length) ((jn (ps.take i)).flatMap Nd.cells) 26 7]⟩ (by kernel_rfl) ?_
    refine At.callV rfl (by kernel_rfl) 43 [] [] (by kernel_rfl) Try.func43 (by kernel_rfl) (by kernel_rfl) [(vS e6.A e6.nds.length e6.c)] (by kernel_rfl) (by kernel_rfl) (of_ok Φ1 e6.nds e6.A e6.c e6R e6l e6w (ht e6 (List.mem_of_getElem? he7))) ?_
    rintro Φ10 gT8 hle11 hT9
    have hP := hP.mono hle11
    have hG := hG.mono hle11
    have hB0 := hB0.mono hle11
    have hB1 := hB1.mono hle11
    have e6R := e6R.mono hle11
    refine ⟨⟨fr 40 [(0, (vP g0 0)), (1, (vP g1 0)), (8, (vS (aS b4 off5) ps.length d)), (9, (vI (ps.length : Int))), (10, (vI (i : Int))), (14, (vS Ao ((jn (ps.take i)).length) cs)), (15, (vS e6.A e6.nds.length e6.c)), (16, (vP gT8 0))], [.o (.slice Ao ((jn (ps.take i)).length) cs) ((jn (ps.take i)).length) ((jn (ps.take i)).flatMap Nd.cells) 26 7]⟩, by kernel_rfl, by kernel_rfl, ?_⟩
    refine At.runk 2 [15, 16, 17] [] ⟨fr 40 [(0, (vP g0 0)), (1, (vP g1 0)), (8, (vS (aS b4 off5) ps.length d)), (9, (vI (ps.length : Int))), (10, (vI (i : Int))), (14, (vS Ao ((jn (ps.take i)).length) cs)), (18, (vP gT8 0))], [.o (.slice Ao ((jn (ps.take i)).length) cs) ((jn (ps.take i)).length) ((jn (ps.take i)).flatMap Nd.cells) 26 7]⟩ (by kernel_rfl) ?_
    refine At.vals (S' := ⟨fr 40 [(0, (vP g0 0)), (1, (vP g1 0)), (8, (vS (aS b4 off5) ps.length d)), (9, (vI (ps.length : Int))), (10, (vI (i : Int))), (14, (vS Ao ((jn (ps.take i)).length) cs)), (18, (vP gT8 0)), (19, (vS e6.A e6.nds.length e6.c))], [.o (.slice Ao ((jn (ps.take i)).length) cs) ((jn (ps.take i)).length) ((jn (ps.take i)).flatMap Nd.cells) 26 7]⟩) (by kernel_rfl) ((vS e6.A e6.nds.length e6.c)) (by kernel_rfl) (Val.ldB rfl hT9 (Nat.zero_lt_succ _) 0 0 (by omega) (by kernel_rfl) ((vS e6.A e6.nds.length e6.c)) (by kernel_rfl)) ?_
    refine At.append rfl (by kernel_rfl) (e := 26) (inf := Try.t26) (sz := 7) (by kernel_rfl) (by kernel_rfl) rfl rfl rfl (Nat.zero_lt_succ _) 0 (V := .slice Ao ((jn (ps.take i)).length) cs) (n := (jn (ps.take i)).length) (xs := ((jn (ps.take i)).flatMap Nd.cells)) (by kernel_rfl) (by kernel_rfl) e6.nds.length (e6.nds.flatMap Nd.cells) (Src.phi (A := e6.A) (m := e6.nds.length) (c := e6.c) (by kernel_rfl) e6R) (flat_len (enc := Nd.cells) (sz := 7) (fun _ => rfl) _) (nds_one _) (by unfold maxLen; omega) (by show ((jn (ps.take i)).length + e6.nds.length) * 56 ≤ _; omega) ?_
    intro A12 c13 h14 h15 h16
    refine ⟨⟨fr 40 [(0, (vP g0 0)), (1, (vP g1 0)), (8, (vS (aS b4 off5) ps.length d)), (9, (vI (ps.length : Int))), (10, (vI (i : Int))), (14, (vS Ao ((jn (ps.take i)).length) cs)), (18, (vP gT8 0)), (19, (vS e6.A e6.nds.length e6.c)), (20, (vS A12 ((jn (ps.take i)).length + e6.nds.length) c13))], [.o (.slice A12 ((jn (ps.take i)).length + e6.nds.length) c13) ((jn (ps.take i)).length + e6.nds.length) (((jn (ps.take i)).flatMap Nd.cells) ++ (e6.nds.flatMap Nd.cells)) 26 7]⟩, by kernel_rfl, ?_⟩
    have hj1 : (jn (ps.take (i + 1))).length = ((jn (ps.take i)).length + e6.nds.length) := by rw [jn_take he7, List.length_append]
    have hj2 : (jn (ps.take (i + 1))).flatMap Nd.cells = (((jn (ps.take i)).flatMap Nd.cells) ++ (e6.nds.flatMap Nd.cells)) := by rw [jn_take he7, nds_append]
    refine At.cast (S' := ⟨fr 40 [(0, (vP g0 0)), (1, (vP g1 0)), (8, (vS (aS b4 off5) ps.length d)), (9, (vI (ps.length : Int))), (10, (vI (i : Int))), (14, (vS Ao ((jn (ps.take i)).length) cs)), (18, (vP gT8 0)), (19, (vS e6.A e6.nds.length e6.c)), (20, (vS A12 ((jn (ps.take (i + 1))).length) c13))], [.o (.slice A12 ((jn (ps.take (i + 1))).length) c13) ((jn (ps.take (i + 1))).length) ((jn (ps.take (i + 1))).flatMap Nd.cells) 26 7]⟩) (by rw [hj1, hj2]) ?_
    refine At.runk 1 [14, 18, 19, 20] [] ⟨fr 40 [(0, (vP g0 0)), (1, (vP g1 0)), (3, (vS A12 ((jn (ps.take (i + 1))).length) c13)), (8, (vS (aS b4 off5) ps.length d)), (9, (vI (ps.length : Int))), (10, (vI (i : Int)))], [.o (.slice A12 ((jn (ps.take (i + 1))).length) c13) ((jn (ps.take (i + 1))).length) ((jn (ps.take (i + 1))).flatMap Nd.cells) 26 7]⟩ (by kernel_rfl) ?_
    refine At.nil ?_
    refine At.in_normal ?_
    refine At.then_normal ?_
    refine At.region ?_
    refine At.runk 1 [10] [] ⟨fr 40 [(0, (vP g0 0)), (1, (vP g1 0)), (3, (vS A12 ((jn (ps.take (i + 1))).length) c13)), (8, (vS (aS b4 off5) ps.length d)), (9, (vI (ps.length : Int))), (21, (vI (IntKind.i64.wrap ((i : Int) + 1))))], [.o (.slice A12 ((jn (ps.take (i + 1))).length) c13) ((jn (ps.take (i + 1))).length) ((jn (ps.take (i + 1))).flatMap Nd.cells) 26 7]⟩ (by kernel_rfl) ?_
    refine At.cast (S' := ⟨fr 40 [(0, (vP g0 0)), (1, (vP g1 0)), (3, (vS A12 ((jn (ps.take (i + 1))).length) c13)), (8, (vS (aS b4 off5) ps.length d)), (9, (vI (ps.length : Int))), (21, (vI ((i : Int) + 1)))], [.o (.slice A12 ((jn (ps.take (i + 1))).length) c13) ((jn (ps.take (i + 1))).length) ((jn (ps.take (i + 1))).flatMap Nd.cells) 26 7]⟩) (by rw [wrapI (z := (i : Int) + 1) (by omega) (by omega)]) ?_
    refine At.runk 1 [21] [] ⟨fr 40 [(0, (vP g0 0)), (1, (vP g1 0)), (3, (vS A12 ((jn (ps.take (i + 1))).length) c13)), (8, (vS (aS b4 off5) ps.length d)), (9, (vI (ps.length : Int))), (10, (vI ((i : Int) + 1)))], [.o (.slice A12 ((jn (ps.take (i + 1))).length) c13) ((jn (ps.take (i + 1))).length) ((jn (ps.take (i + 1))).flatMap Nd.cells) 26 7]⟩ (by kernel_rfl) ?_
    refine At.nil ?_
    refine At.round (i + 1, A12, c13) (by kernel_rfl) hle11 ⟨by omega, by rw [hj1]; exact h14⟩ (by omega)
  have hb3p : ¬ ((i : Int) < (ps.length : Int)) := of_decide_eq_false hb3
  refine At.cast (S' := ⟨fr 40 [(0, (vP g0 0)), (1, (vP g1 0)), (3, (vS Ao ((jn (ps.take i)).length) cs)), (8, (vS B ps.length d)), (9, (vI (ps.length : Int))), (10, (vI (i : Int))), (11, (vB false))], [.o (.slice Ao ((jn (ps.take i)).length) cs) ((jn (ps.take i)).length) ((jn (ps.take i)).flatMap Nd.cells) 26 7]⟩) (by rw [hb3] <;> rfl) ?_
  refine At.cond_f (by kernel_rfl) ?_
  refine At.exit_ ?_
  refine At.then_exit ?_
  refine At.then_exit ?_
  refine At.in_here ?_
  refine At.then_normal ?_
  refine At.seq ?_
  refine At.region ?_
  refine At.vals (S' := ⟨fr 40 [(0, (vP g0 0)), (1, (vP g1 0)), (3, (vS Ao ((jn (ps.take i)).length) cs)), (8, (vS B ps.length d)), (9, (vI (ps.length : Int))), (10, (vI (i : Int))), (11, (vB false)), (23, .agg n.sv)], [.o (.slice Ao ((jn (ps.take i)).length) cs) ((jn (ps.take i)).length) ((jn (ps.take i)).flatMap Nd.cells) 26 7]⟩) (by kernel_rfl) (.agg n.sv) (by kernel_rfl) (Val.ldB rfl hB1 (Nat.zero_lt_succ _) 0 0 (by omega) (by kernel_rfl) (.agg n.sv) (by kernel_rfl)) ?_
  by_cases hc17 : 1 ≤ n.kind ∧ n.kind ≤ 9
  · refine At.callV rfl (by kernel_rfl) 44 [] [] (by kernel_rfl) Try.func44 (by kernel_rfl) (by kernel_rfl) [.agg n.sv] (by kernel_rfl) (by kernel_rfl) (known_c Φ1 n.kind n.s0 n.s1 n.s2 n.s3 n.mn n.mx nw hc17) ?_
    rintro Φ18 _ hle19 rfl
    have hP := hP.mono hle19
    have hG := hG.mono hle19
    have hB0 := hB0.mono hle19
    have hB1 := hB1.mono hle19
    have hkb := kar_bd n.kind
    refine ⟨⟨fr 40 [(0, (vP g0 0)), (1, (vP g1 0)), (3, (vS Ao ((jn (ps.take i)).length) cs)), (8, (vS B ps.length d)), (9, (vI (ps.length : Int))), (10, (vI (i : Int))), (11, (vB false)), (23, .agg n.sv), (24, .tup [.agg [(vI (kar n.kind)), .v (.func (.func (mayN n.kind)) #[] #[]), .v (.func (.func (nulN n.kind)) #[] #[])], (vB n.may)])], [.o (.slice Ao ((jn (ps.take i)).length) cs) ((jn (ps.take i)).length) ((jn (ps.take i)).flatMap Nd.cells) 26 7]⟩, by kernel_rfl, by kernel_rfl, ?_⟩
    refine At.runk 6 [8, 9, 10, 11, 22, 23, 24, 25, 26] [] ⟨fr 40 [(0, (vP g0 0)), (1, (vP g1 0)), (3, (vS Ao ((jn (ps.take i)).length) cs)), (6, .p 1 0), (7, (vB n.may))], [.o (.slice Ao ((jn (ps.take i)).length) cs) ((jn (ps.take i)).length) ((jn (ps.take i)).flatMap Nd.cells) 26 7, .c [(vI (kar n.kind)), .v (.func (.func (mayN n.kind)) #[] #[]), .v (.func (.func (nulN n.kind)) #[] #[])] 76]⟩ (by kernel_rfl) ?_
    refine At.nil ?_
    refine At.then_normal ?_
    refine At.seq ?_
    refine At.region ?_
    refine At.runk 2 [7, 27] [] ⟨fr 40 [(0, (vP g0 0)), (1, (vP g1 0)), (3, (vS Ao ((jn (ps.take i)).length) cs)), (6, .p 1 0), (28, (vB n.may))], [.o (.slice Ao ((jn (ps.take i)).length) cs) ((jn (ps.take i)).length) ((jn (ps.take i)).flatMap Nd.cells) 26 7, .c [(vI (kar n.kind)), .v (.func (.func (mayN n.kind)) #[] #[]), .v (.func (.func (nulN n.kind)) #[] #[])] 76]⟩ (by kernel_rfl) ?_
    refine At.bcase n.may (fun hb20 => ?_) (fun hb20 => ?_)
    · refine At.cast (S' := ⟨fr 40 [(0, (vP g0 0)), (1, (vP g1 0)), (3, (vS Ao ((jn (ps.take i)).length) cs)), (6, .p 1 0), (28, (vB true))], [.o (.slice Ao ((jn (ps.take i)).length) cs) ((jn (ps.take i)).length) ((jn (ps.take i)).flatMap Nd.cells) 26 7, .c [(vI (kar n.kind)), .v (.func (.func (mayN n.kind)) #[] #[]), .v (.func (.func (nulN n.kind)) #[] #[])] 76]⟩) (by rw [hb20] <;> rfl) ?_
      refine At.runk 2 [6, 29] [1] ⟨fr 40 [(0, (vP g0 0)), (1, (vP g1 0)), (3, (vS Ao ((jn (ps.take i)).length) cs)), (28, (vB true)), (30, (vI (kar n.kind)))], [.o (.slice Ao ((jn (ps.take i)).length) cs) ((jn (ps.take i)).length) ((jn (ps.take i)).flatMap Nd.cells) 26 7, .dead]⟩ (by kernel_rfl) ?_
      refine At.vals (S' := ⟨fr 40 [(0, (vP g0 0)), (1, (vP g1 0)), (3, (vS Ao ((jn (ps.take i)).length) cs)), (28, (vB true)), (30, (vI (kar n.kind))), (31, (vS B ps.length d))], [.o (.slice Ao ((jn (ps.take i)).length) cs) ((jn (ps.take i)).length) ((jn (ps.take i)).flatMap Nd.cells) 26 7, .dead]⟩) (by kernel_rfl) ((vS B ps.length d)) (by kernel_rfl) (Val.ldB rfl hB0 (Nat.zero_lt_succ _) 0 0 (by omega) (by kernel_rfl) ((vS B ps.length d)) (by kernel_rfl)) ?_
      refine At.runk 3 [0, 28, 30, 31, 32, 33] [] ⟨fr 40 [(1, (vP g1 0)), (3, (vS Ao ((jn (ps.take i)).length) cs)), (34, (vB ((kar n.kind) == (ps.length : Int))))], [.o (.slice Ao ((jn (ps.take i)).length) cs) ((jn (ps.take i)).length) ((jn (ps.take i)).flatMap Nd.cells) 26 7, .dead]⟩ (by kernel_rfl) ?_
      refine At.bcase ((kar n.kind) == (ps.length : Int)) (fun hb21 => ?_) (fun hb21 => ?_)
      · have hb21p : ((kar n.kind) = (ps.length : Int)) := eq_of_beq hb21
        exfalso; exact hm ⟨by assumption, by have := ar_kar n; omega⟩
      have hb21p : ¬ ((kar n.kind) = (ps.length : Int)) := beq_eq_false_iff_ne.1 hb21
      refine At.cast (S' := ⟨fr 40 [(1, (vP g1 0)), (3, (vS Ao ((jn (ps.take i)).length) cs)), (34, (vB false))], [.o (.slice Ao ((jn (ps.take i)).length) cs) ((jn (ps.take i)).length) ((jn (ps.take i)).flatMap Nd.cells) 26 7, .dead]⟩) (by rw [hb21] <;> rfl) ?_
      refine At.callP rfl (by kernel_rfl) 45 [] [] (by kernel_rfl) Try.func45 (by kernel_rfl) (by kernel_rfl) [(vB false), (vI 2)] (by kernel_rfl) (by kernel_rfl) (need_no Φ18 2) ?_
      intro Φ22 hle23
      have hP := hP.mono hle23
      have hG := hG.mono hle23
      have hB0 := hB0.mono hle23
      have hB1 := hB1.mono hle23
      refine ⟨⟨fr 40 [(1, (vP g1 0)), (3, (vS Ao ((jn (ps.take i)).length) cs)), (34, (vB false))], [.o (.slice Ao ((jn (ps.take i)).length) cs) ((jn (ps.take i)).length) ((jn (ps.take i)).flatMap Nd.cells) 26 7, .dead]⟩, by kernel_rfl, by kernel_rfl, ?_⟩
      refine At.then_panic ?_
      refine At.forget [1, 3, 34] 0 [] ⟨fr 40 [], []⟩ (by kernel_rfl) (by kernel_rfl) (bleT rfl) ?_
      exact At.leaveP rfl (by kernel_rfl)
    refine At.cast (S' := ⟨fr 40 [(0, (vP g0 0)), (1, (vP g1 0)), (3, (vS Ao ((jn (ps.take i)).length) cs)), (6, .p 1 0), (28, (vB false))], [.o (.slice Ao ((jn (ps.take i)).length) cs) ((jn (ps.take i)).length) ((jn (ps.take i)).flatMap Nd.cells) 26 7, .c [(vI (kar n.kind)), .v (.func (.func (mayN n.kind)) #[] #[]), .v (.func (.func (nulN n.kind)) #[] #[])] 76]⟩) (by rw [hb20] <;> rfl) ?_
    refine At.runk 6 [0, 6, 28, 29, 30, 31, 32, 33] [1] ⟨fr 40 [(1, (vP g1 0)), (3, (vS Ao ((jn (ps.take i)).length) cs)), (34, (vB false))], [.o (.slice Ao ((jn (ps.take i)).length) cs) ((jn (ps.take i)).length) ((jn (ps.take i)).flatMap Nd.cells) 26 7, .dead]⟩ (by kernel_rfl) ?_
    refine At.callP rfl (by kernel_rfl) 45 [] [] (by kernel_rfl) Try.func45 (by kernel_rfl) (by kernel_rfl) [(vB false), (vI 2)] (by kernel_rfl) (by kernel_rfl) (need_no Φ18 2) ?_
    intro Φ24 hle25
    have hP := hP.mono hle25
    have hG := hG.mono hle25
    have hB0 := hB0.mono hle25
    have hB1 := hB1.mono hle25
    refine ⟨⟨fr 40 [(1, (vP g1 0)), (3, (vS Ao ((jn (ps.take i)).length) cs)), (34, (vB false))], [.o (.slice Ao ((jn (ps.take i)).length) cs) ((jn (ps.take i)).length) ((jn (ps.take i)).flatMap Nd.cells) 26 7, .dead]⟩, by kernel_rfl, by kernel_rfl, ?_⟩
    refine At.then_panic ?_
    refine At.forget [1, 3, 34] 0 [] ⟨fr 40 [], []⟩ (by kernel_rfl) (by kernel_rfl) (bleT rfl) ?_
    exact At.leaveP rfl (by kernel_rfl)
  refine At.callV rfl (by kernel_rfl) 44 [] [] (by kernel_rfl) Try.func44 (by kernel_rfl) (by kernel_rfl) [.agg n.sv] (by kernel_rfl) (by kernel_rfl) (known_no Φ1 n.kind n.s0 n.s1 n.s2 n.s3 n.mn n.mx nw hc17) ?_
  rintro Φ26 ⟨⟩ hle27 -
  have hP := hP.mono hle27
  have hG := hG.mono hle27
  have hB0 := hB0.mono hle27
  have hB1 := hB1.mono hle27
  have hmay := Nd.may_no hc17
  refine ⟨⟨fr 40 [(0, (vP g0 0)), (1, (vP g1 0)), (3, (vS Ao ((jn (ps.take i)).length) cs)), (8, (vS B ps.length d)), (9, (vI (ps.length : Int))), (10, (vI (i : Int))), (11, (vB false)), (23, .agg n.sv), (24, .tup [.agg [(vI 0), .v (.nilFunc), .v (.nilFunc)], (vB false)])], [.o (.slice Ao ((jn (ps.take i)).length) cs) ((jn (ps.take i)).length) ((jn (ps.take i)).flatMap Nd.cells) 26 7]⟩, by kernel_rfl, by kernel_rfl, ?_⟩
  refine At.runk 6 [8, 9, 10, 11, 22, 23, 24, 25, 26] [] ⟨fr 40 [(0, (vP g0 0)), (1, (vP g1 0)), (3, (vS Ao ((jn (ps.take i)).length) cs)), (6, .p 1 0), (7, (vB false))], [.o (.slice Ao ((jn (ps.take i)).length) cs) ((jn (ps.take i)).length) ((jn (ps.take i)).flatMap Nd.cells) 26 7, .c [(vI 0), .v (.nilFunc), .v (.nilFunc)] 76]⟩ (by kernel_rfl) ?_
  refine At.nil ?_
  refine At.then_normal ?_
  refine At.seq ?_
  refine At.region ?_
  refine At.runk 8 [0, 6, 7, 27, 28, 29, 30, 31, 32, 33] [1] ⟨fr 40 [(1, (vP g1 0)), (3, (vS Ao ((jn (ps.take i)).length) cs)), (34, (vB false))], [.o (.slice Ao ((jn (ps.take i)).length) cs) ((jn (ps.take i)).length) ((jn (ps.take i)).flatMap Nd.cells) 26 7, .dead]⟩ (by kernel_rfl) ?_
  refine At.callP rfl (by kernel_rfl) 45 [] [] (by kernel_rfl) Try.func45 (by kernel_rfl) (by kernel_rfl) [(vB false), (vI 2)] (by kernel_rfl) (by kernel_rfl) (need_no Φ26 2) ?_
  intro Φ28 hle29
  have hP := hP.mono hle29
  have hG := hG.mono hle29
  have hB0 := hB0.mono hle29
  have hB1 := hB1.mono hle29
  refine ⟨⟨fr 40 [(1, (vP g1 0)), (3, (vS Ao ((jn (ps.take i)).length) cs)), (34, (vB false))], [.o (.slice Ao ((jn (ps.take i)).length) cs) ((jn (ps.take i)).length) ((jn (ps.take i)).flatMap Nd.cells) 26 7, .dead]⟩, by kernel_rfl, by kernel_rfl, ?_⟩
  refine At.then_panic ?_
  refine At.forget [1, 3, 34] 0 [] ⟨fr 40 [], []⟩ (by kernel_rfl) (by kernel_rfl) (bleT rfl) ?_
  exact At.leaveP rfl (by kernel_rfl)

theorem join_ok (Φ : Phi) (n : Nd) (nw : n.wf) (ps : List Pt) (B : Option Addr) (d : Nat) (hP : RdC Φ B (ps.flatMap Pt.enc)) (hG : Pts Φ ps) (hk : ∀ p ∈ ps, p.nds.length ≤ 1000) (hw : ∀ p ∈ ps, ∀ n ∈ p.nds, n.wf) (hpl : ps.length ≤ 1000) (ht : ∀ p ∈ ps, chk p.nds 0 0 = none) (hm : n.may = true) (ha : ar n = ps.length)  : CallR Try.prog 12 [.agg n.sv, (vS B ps.length d)] [] Φ (Option Addr × Nat) (fun t => .tup [(vS t.1 (jn ps ++ [n]).length t.2), (vI 0)]) (fun t => [.o (.slice t.1 (jn ps ++ [n]).length t.2) (jn ps ++ [n]).length ((jn ps ++ [n]).flatMap Nd.cells) 26 7]) (fun t _ => (jn ps ++ [n]).length ≤ t.2) := by
  refine CallG.enterk Try.func12 rfl [2, 3, 4, 5, 6, 7, 8, 9] ⟨fr 10 [(0, .agg n.sv), (1, (vS B ps.length d))], []⟩ (by kernel_rfl) (by kernel_rfl) ?_
  intro E G β0
  refine At.seq ?_
  refine At.region ?_
  refine At.runk 4 [0, 1, 4, 5] [] ⟨fr 10 [(2, .p 0 0), (3, .p 1 0)], [.c n.sv 26, .c [(vS B ps.length d)] 27]⟩ (by kernel_rfl) ?_
  refine At.nil ?_
  refine At.then_normal ?_
  refine At.seq ?_
  refine At.freezeC 1 [.slice B ps.length d] rfl rfl (bleT rfl) (bleT rfl) (fun _ => by kernel_rfl) (fun _ => by kernel_rfl) ?_
  intro g2 Φ3 hle4 hBp1
  have hP := hP.mono hle4
  have hG := hG.mono hle4
  refine ⟨⟨fr 10 [(2, .p 0 0), (3, (vP g2 0))], [.c n.sv 26, .dead]⟩, by kernel_rfl, ?_⟩
  refine At.freezeC 0 [.int .i64 n.kind, .int .u64 n.s0, .int .u64 n.s1, .int .u64 n.s2, .int .u64 n.s3, .int .i64 n.mn, .int .i64 n.mx] rfl rfl (bleT rfl) (bleT rfl) (fun _ => by kernel_rfl) (fun _ => by kernel_rfl) ?_
  intro g6 Φ7 hle8 hBn5
  have hP := hP.mono hle8
  have hG := hG.mono hle8
  have hBp1 := hBp1.mono hle8
  refine ⟨⟨fr 10 [(2, (vP g6 0)), (3, (vP g2 0))], [.dead, .dead]⟩, by kernel_rfl, ?_⟩
  refine At.region ?_
  refine At.runk 1 [2, 3] [] ⟨fr 10 [(6, .fn (.func 42) [(vP g2 0), (vP g6 0)])], [.dead, .dead]⟩ (by kernel_rfl) ?_
  refine At.reval 6 (.fn (.func 42) [(vP g2 0), (vP g6 0)]) (.v (.func (.func 42) #[] #[.pointer (aS g2 0), .pointer (aS g6 0)])) (by kernel_rfl) (by kernel_rfl) (fun _ => by kernel_rfl) ⟨fr 10 [(6, .v (.func (.func 42) #[] #[.pointer (aS g2 0), .pointer (aS g6 0)]))], [.dead, .dead]⟩ (by kernel_rfl) (by kernel_rfl) ?_
  refine At.callV rfl (by kernel_rfl) 41 [] [] (by kernel_rfl) Try.func41 (by kernel_rfl) (by kernel_rfl) [.v (.func (.func 42) #[] #[.pointer (aS g2 0), .pointer (aS g6 0)])] (by kernel_rfl) (by kernel_rfl) (tries_rx Φ7 42 #[.pointer (aS g2 0), .pointer (aS g6 0)] Try.f42 Try.func42 rfl rfl (Option Addr × Nat) (fun t => (t.1, (jn ps ++ [n]).length, t.2)) (fun _ => (jn ps ++ [n]).flatMap Nd.cells) (fun t _ => (jn ps ++ [n]).length ≤ t.2) (fun _ _ _ _ h => h) (join1_ok Φ7 g2 g6 ps B d hP hG hk hw hpl n nw hBp1 hBn5 ht hm ha)) ?_
  rintro Φ9 ⟨Aj, cj⟩ hle10 hcj
  have hP := hP.mono hle10
  have hG := hG.mono hle10
  have hBp1 := hBp1.mono hle10
  have hBn5 := hBn5.mono hle10
  dsimp only at hcj
  refine ⟨⟨fr 10 [(6, .v (.func (.func 42) #[] #[.pointer (aS g2 0), .pointer (aS g6 0)])), (7, .tup [(vS Aj ((jn ps ++ [n]).length) cj), (vI 0)])], [.dead, .dead, .o (.slice Aj ((jn ps ++ [n]).length) cj) ((jn ps ++ [n]).length) ((jn ps ++ [n]).flatMap Nd.cells) 26 7]⟩, by kernel_rfl, by kernel_rfl, ?_⟩
  refine At.runk 4 [6, 7, 8, 9] [] ⟨fr 10 [(4, (vS Aj ((jn ps ++ [n]).length) cj)), (5, (vI 0))], [.dead, .dead, .o (.slice Aj ((jn ps ++ [n]).length) cj) ((jn ps ++ [n]).length) ((jn ps ++ [n]).flatMap Nd.cells) 26 7]⟩ (by kernel_rfl) ?_
  refine At.nil ?_
  refine At.then_normal ?_
  refine At.ret_ ?_
  refine At.reorder [2] ⟨fr 10 [(4, (vS Aj ((jn ps ++ [n]).length) cj)), (5, (vI 0))], [.o (.slice Aj ((jn ps ++ [n]).length) cj) ((jn ps ++ [n]).length) ((jn ps ++ [n]).flatMap Nd.cells) 26 7]⟩ rfl (by kernel_rfl) (by kernel_rfl) (by kernel_rfl) (by decide) (by kernel_rfl) ?_
  refine At.leaveR rfl (Aj, cj) (by kernel_rfl) (by kernel_rfl) (by kernel_rfl) ?_
  dsimp only; omega

theorem join_part (Φ : Phi) (n : Nd) (nw : n.wf) (ps : List Pt) (B : Option Addr) (d : Nat) (hP : RdC Φ B (ps.flatMap Pt.enc)) (hG : Pts Φ ps) (hk : ∀ p ∈ ps, p.nds.length ≤ 1000) (hw : ∀ p ∈ ps, ∀ n ∈ p.nds, n.wf) (hpl : ps.length ≤ 1000) (ht : ¬ ∀ p ∈ ps, chk p.nds 0 0 = none)  : CallR Try.prog 12 [.agg n.sv, (vS B ps.length d)] [] Φ Unit (fun _ => .tup [(vS none 0 0), (vI 140)]) (fun _ => []) (fun _ _ => True) := by
  refine CallG.enterk Try.func12 rfl [2, 3, 4, 5, 6, 7, 8, 9] ⟨fr 10 [(0, .agg n.sv), (1, (vS B ps.length d))], []⟩ (by kernel_rfl) (by kernel_rfl) ?_
  intro E G β0
  refine At.seq ?_
  refine At.region ?_
  refine At.runk 4 [0, 1, 4, 5] [] ⟨fr 10 [(2, .p 0 0), (3, .p 1 0)], [.c n.sv 26, .c [(vS B ps.length d)] 27]⟩ (by kernel_rfl) ?_
  refine At.nil ?_
  refine At.then_normal ?_
  refine At.seq ?_
  refine At.freezeC 1 [.slice B ps.length d] rfl rfl (bleT rfl) (bleT rfl) (fun _ => by kernel_rfl) (fun _ => by kernel_rfl) ?_
  intro g2 Φ3 hle4 hBp1
  have hP := hP.mono hle4
  have hG := hG.mono hle4
  refine ⟨⟨fr 10 [(2, .p 0 0), (3, (vP g2 0))], [.c n.sv 26, .dead]⟩, by kernel_rfl, ?_⟩
  refine At.freezeC 0 [.int .i64 n.kind, .int .u64 n.s0, .int .u64 n.s1, .int .u64 n.s2, .int .u64 n.s3, .int .i64 n.mn, .int .i64 n.mx] rfl rfl (bleT rfl) (bleT rfl) (fun _ => by kernel_rfl) (fun _ => by kernel_rfl) ?_
  intro g6 Φ7 hle8 hBn5
  have hP := hP.mono hle8
  have hG := hG.mono hle8
  have hBp1 := hBp1.mono hle8
  refine ⟨⟨fr 10 [(2, (vP g6 0)), (3, (vP g2 0))], [.dead, .dead]⟩, by kernel_rfl, ?_⟩
  refine At.region ?_
  refine At.runk 1 [2, 3] [] ⟨fr 10 [(6, .fn (.func 42) [(vP g2 0), (vP g6 0)])], [.dead, .dead]⟩ (by kernel_rfl) ?_
  refine At.reval 6 (.fn (.func 42) [(vP g2 0), (vP g6 0)]) (.v (.func (.func 42) #[] #[.pointer (aS g2 0), .pointer (aS g6 0)])) (by kernel_rfl) (by kernel_rfl) (fun _ => by kernel_rfl) ⟨fr 10 [(6, .v (.func (.func 42) #[] #[.pointer (aS g2 0), .pointer (aS g6 0)]))], [.dead, .dead]⟩ (by kernel_rfl) (by kernel_rfl) ?_
  refine At.callV rfl (by kernel_rfl) 41 [] [] (by kernel_rfl) Try.func41 (by kernel_rfl) (by kernel_rfl) [.v (.func (.func 42) #[] #[.pointer (aS g2 0), .pointer (aS g6 0)])] (by kernel_rfl) (by kernel_rfl) (tries_rx_no Φ7 42 #[.pointer (aS g2 0), .pointer (aS g6 0)] Try.f42 Try.func42 rfl rfl 140 (join1_part Φ7 g2 g6 ps B d hP hG hk hw hpl n nw hBp1 hBn5 ht)) ?_
  rintro Φ9 ⟨⟩ hle10 -
  have hP := hP.mono hle10
  have hG := hG.mono hle10
  have hBp1 := hBp1.mono hle10
  have hBn5 := hBn5.mono hle10
  refine ⟨⟨fr 10 [(6, .v (.func (.func 42) #[] #[.pointer (aS g2 0), .pointer (aS g6 0)])), (7, .tup [(vS none 0 0), (vI 140)])], [.dead, .dead]⟩, by kernel_rfl, by kernel_rfl, ?_⟩
  refine At.runk 4 [6, 7, 8, 9] [] ⟨fr 10 [(4, (vS none 0 0)), (5, (vI 140))], [.dead, .dead]⟩ (by kernel_rfl) ?_
  refine At.nil ?_
  refine At.then_normal ?_
  refine At.ret_ ?_
  refine At.forget [] 0 [] ⟨fr 10 [(4, (vS none 0 0)), (5, (vI 140))], []⟩ (by kernel_rfl) (by kernel_rfl) (bleT rfl) ?_
  refine At.leaveR rfl () (by kernel_rfl) (by kernel_rfl) (by kernel_rfl) ?_
  trivial

theorem join_node (Φ : Phi) (n : Nd) (nw : n.wf) (ps : List Pt) (B : Option Addr) (d : Nat) (hP : RdC Φ B (ps.flatMap Pt.enc)) (hG : Pts Φ ps) (hk : ∀ p ∈ ps, p.nds.length ≤ 1000) (hw : ∀ p ∈ ps, ∀ n ∈ p.nds, n.wf) (hpl : ps.length ≤ 1000) (ht : ∀ p ∈ ps, chk p.nds 0 0 = none) (hm : ¬ (n.may = true ∧ ar n = ps.length))  : CallR Try.prog 12 [.agg n.sv, (vS B ps.length d)] [] Φ Unit (fun _ => .tup [(vS none 0 0), (vI 2)]) (fun _ => []) (fun _ _ => True) := by
  refine CallG.enterk Try.func12 rfl [2, 3, 4, 5, 6, 7, 8, 9] ⟨fr 10 [(0, .agg n.sv), (1, (vS B ps.length d))], []⟩ (by kernel_rfl) (by kernel_rfl) ?_
  intro E G β0
  refine At.seq ?_
  refine At.region ?_
  refine At.runk 4 [0, 1, 4, 5] [] ⟨fr 10 [(2, .p 0 0), (3, .p 1 0)], [.c n.sv 26, .c [(vS B ps.length d)] 27]⟩ (by kernel_rfl) ?_
  refine At.nil ?_
  refine At.then_normal ?_
  refine At.seq ?_
  refine At.freezeC 1 [.slice B ps.length d] rfl rfl (bleT rfl) (bleT rfl) (fun _ => by kernel_rfl) (fun _ => by kernel_rfl) ?_
  intro g2 Φ3 hle4 hBp1
  have hP := hP.mono hle4
  have hG := hG.mono hle4
  refine ⟨⟨fr 10 [(2, .p 0 0), (3, (vP g2 0))], [.c n.sv 26, .dead]⟩, by kernel_rfl, ?_⟩
  refine At.freezeC 0 [.int .i64 n.kind, .int .u64 n.s0, .int .u64 n.s1, .int .u64 n.s2, .int .u64 n.s3, .int .i64 n.mn, .int .i64 n.mx] rfl rfl (bleT rfl) (bleT rfl) (fun _ => by kernel_rfl) (fun _ => by kernel_rfl) ?_
  intro g6 Φ7 hle8 hBn5
  have hP := hP.mono hle8
  have hG := hG.mono hle8
  have hBp1 := hBp1.mono hle8
  refine ⟨⟨fr 10 [(2, (vP g6 0)), (3, (vP g2 0))], [.dead, .dead]⟩, by kernel_rfl, ?_⟩
  refine At.region ?_
  refine At.runk 1 [2, 3] [] ⟨fr 10 [(6, .fn (.func 42) [(vP g2 0), (vP g6 0)])], [.dead, .dead]⟩ (by kernel_rfl) ?_
  refine At.reval 6 (.fn (.func 42) [(vP g2 0), (vP g6 0)]) (.v (.func (.func 42) #[] #[.pointer (aS g2 0), .pointer (aS g6 0)])) (by kernel_rfl) (by kernel_rfl) (fun _ => by kernel_rfl) ⟨fr 10 [(6, .v (.func (.func 42) #[] #[.pointer (aS g2 0), .pointer (aS g6 0)]))], [.dead, .dead]⟩ (by kernel_rfl) (by kernel_rfl) ?_
  refine At.callV rfl (by kernel_rfl) 41 [] [] (by kernel_rfl) Try.func41 (by kernel_rfl) (by kernel_rfl) [.v (.func (.func 42) #[] #[.pointer (aS g2 0), .pointer (aS g6 0)])] (by kernel_rfl) (by kernel_rfl) (tries_rx_no Φ7 42 #[.pointer (aS g2 0), .pointer (aS g6 0)] Try.f42 Try.func42 rfl rfl 2 (join1_node Φ7 g2 g6 ps B d hP hG hk hw hpl n nw hBp1 hBn5 ht hm)) ?_
  rintro Φ9 ⟨⟩ hle10 -
  have hP := hP.mono hle10
  have hG := hG.mono hle10
  have hBp1 := hBp1.mono hle10
  have hBn5 := hBn5.mono hle10
  refine ⟨⟨fr 10 [(6, .v (.func (.func 42) #[] #[.pointer (aS g2 0), .pointer (aS g6 0)])), (7, .tup [(vS none 0 0), (vI 2)])], [.dead, .dead]⟩, by kernel_rfl, by kernel_rfl, ?_⟩
  refine At.runk 4 [6, 7, 8, 9] [] ⟨fr 10 [(4, (vS none 0 0)), (5, (vI 2))], [.dead, .dead]⟩ (by kernel_rfl) ?_
  refine At.nil ?_
  refine At.then_normal ?_
  refine At.ret_ ?_
  refine At.forget [] 0 [] ⟨fr 10 [(4, (vS none 0 0)), (5, (vI 2))], []⟩ (by kernel_rfl) (by kernel_rfl) (bleT rfl) ?_
  refine At.leaveR rfl () (by kernel_rfl) (by kernel_rfl) (by kernel_rfl) ?_
  trivial

end Go.Sx
