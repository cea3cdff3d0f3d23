/- RxV: printed by wip/gen/lib04.py. Walks over functions of the program. -/
import Derived.Test.YtgkjblbmiooedaaRxU
import Derived.Test.YtgkjblbmiooedaaRx5
namespace Go.Sx
open Go.Proofs Go.RowKit
theorem joins_c (Φ : Phi) (n : Nd) (nw : n.wf) (xs : List Pt) (X : Option Addr) (c : Nat) (hR : RdC Φ X (xs.flatMap Pt.enc)) (hX : Pts Φ xs) (hcap : ∀ p ∈ xs, p.nds.length ≤ p.c) (hw : ∀ p ∈ xs, ∀ n ∈ p.nds, n.wf) (hxl : xs.length ≤ maxLen)  : CallR Try.prog 3 [.agg n.sv, (vS X xs.length c)] [] Φ Unit (fun _ => (vB true)) (fun _ => []) (fun _ _ => True) := by
  refine CallG.enterk Try.func3 rfl [2, 3, 4, 5, 6, 7, 8, 9, 10, 11, 12, 13, 14, 15, 16, 17, 18, 19, 20, 21, 22, 23, 24, 25, 26, 27, 28, 29, 30, 31, 32, 33, 34, 35, 36, 37, 38, 39, 40, 41, 42, 43, 44, 45, 46, 47, 48, 49, 50, 51, 52, 53, 54, 55, 56, 57, 58, 59, 60, 61, 62, 63, 64, 65, 66, 67, 68, 69, 70, 71, 72, 73, 74, 75, 76, 77, 78, 79, 80, 81, 82, 83, 84, 85, 86, 87, 88, 89, 90, 91, 92, 93, 94] ⟨fr 95 [(0, .agg n.sv), (1, (vS X xs.length c))], []⟩ (by kernel_rfl) (by kernel_rfl) ?_
  intro E G β0
  unfold maxLen at hxl
  refine At.seq ?_
  refine At.region ?_
  refine At.runk 2 [0, 4] [] ⟨fr 95 [(1, (vS X xs.length c)), (2, .p 0 0)], [.c n.sv 26]⟩ (by kernel_rfl) ?_
  refine At.nil ?_
  refine At.then_normal ?_
  refine At.seq ?_
  refine At.seq ?_
  refine At.region ?_
  refine At.callV rfl (by kernel_rfl) 9 [] [] (by kernel_rfl) Try.func9 (by kernel_rfl) (by kernel_rfl) [] (by kernel_rfl) (by kernel_rfl) (wakes_c Φ) ?_
  rintro Φ1 ⟨⟩ hle2 -
  have hR := hR.mono hle2
  have hX := hX.mono hle2
  refine ⟨⟨fr 95 [(1, (vS X xs.length c)), (2, .p 0 0), (16, (vB true))], [.c n.sv 26]⟩, by kernel_rfl, by kernel_rfl, ?_⟩
  refine At.runk 1 [16] [] ⟨fr 95 [(1, (vS X xs.length c)), (2, .p 0 0), (17, (vB false))], [.c n.sv 26]⟩ (by kernel_rfl) ?_
  refine At.nil ?_
  refine At.then_normal ?_
  refine At.cond_f (by kernel_rfl) ?_
  refine At.skip ?_
  refine At.then_normal ?_
  refine At.seq ?_
  refine At.region ?_
  refine At.runk 1 [17] [] ⟨fr 95 [(1, (vS X xs.length c)), (2, .p 0 0), (5, (vS none 0 0))], [.c n.sv 26]⟩ (by kernel_rfl) ?_
  refine At.nilrow 30 1 ⟨fr 95 [(1, (vS X xs.length c)), (2, .p 0 0), (5, (vS none 0 0))], [.c n.sv 26, .o (.slice none 0 0) 0 [] 30 1]⟩ (by kernel_rfl) (by kernel_rfl) ?_
  refine At.nil ?_
  refine At.then_normal ?_
  refine At.seq ?_
  refine At.region ?_
  refine At.runk 1 [] [] ⟨fr 95 [(1, (vS X xs.length c)), (2, .p 0 0), (5, (vS none 0 0)), (6, (vB true))], [.c n.sv 26, .o (.slice none 0 0) 0 [] 30 1]⟩ (by kernel_rfl) ?_
  refine At.nil ?_
  refine At.then_normal ?_
  refine At.seq ?_
  refine At.seq ?_
  refine At.region ?_
  refine At.runk 3 [] [] ⟨fr 95 [(1, (vS X xs.length c)), (2, .p 0 0), (5, (vS none 0 0)), (6, (vB true)), (18, (vS X xs.length c)), (19, (vI (xs.length : Int))), (20, (vI 0))], [.c n.sv 26, .o (.slice none 0 0) 0 [] 30 1]⟩ (by kernel_rfl) ?_
  refine At.nil ?_
  refine At.then_normal ?_
  refine At.block ?_
  refine At.loop (T := Nat × List Pt × Option Addr × Nat × Bool) (fun x => ⟨fr 95 [(1, (vS X xs.length c)), (2, .p 0 0), (5, (vS x.2.2.1 x.2.1.length x.2.2.2.1)), (6, (vB x.2.2.2.2)), (18, (vS X xs.length c)), (19, (vI (xs.length : Int))), (20, (vI (x.1 : Int)))], [.c n.sv 26, .o (.slice x.2.2.1 x.2.1.length x.2.2.2.1) x.2.1.length (x.2.1.flatMap Pt.enc) 30 1]⟩) (fun x Φ => x.1 ≤ xs.length ∧ x.2.1.map Pt.nds = own4 xs x.1 ∧ Pts Φ x.2.1 ∧ x.2.1.length ≤ x.2.2.2.1 ∧ (x.2.2.2.2 = true ↔ ∀ p ∈ x.2.1, chk p.nds 0 0 = none)) (fun x => xs.length - x.1) (0, [], none, 0, true) (by kernel_rfl) ⟨Nat.zero_le _, rfl, (fun p h => by cases h), Nat.le_refl _, ⟨fun _ p h => (List.not_mem_nil h).elim, fun _ => rfl⟩⟩ ?_
  rintro ⟨i, ps, Ao, cs, r⟩ Φ3 hle4 hF
  have hR := hR.mono hle4
  have hX := hX.mono hle4
  refine At.cast (S' := ⟨fr 95 [(1, (vS X xs.length c)), (2, .p 0 0), (5, (vS Ao ps.length cs)), (6, (vB r)), (18, (vS X xs.length c)), (19, (vI (xs.length : Int))), (20, (vI (i : Int)))], [.c n.sv 26, .o (.slice Ao ps.length cs) ps.length (ps.flatMap Pt.enc) 30 1]⟩) (by kernel_rfl) ?_
  dsimp only at hF
  have hF1 := hF.1
  have hPs := hF.2.2.1
  have hpl := own4_len hF.1 hF.2.1
  refine At.seq ?_
  refine At.region ?_
  refine At.runk 1 [] [] ⟨fr 95 [(1, (vS X xs.length c)), (2, .p 0 0), (5, (vS Ao ps.length cs)), (6, (vB r)), (18, (vS X xs.length c)), (19, (vI (xs.length : Int))), (20, (vI (i : Int))), (21, (vB (decide ((i : Int) < (xs.length : Int)))))], [.c n.sv 26, .o (.slice Ao ps.length cs) ps.length (ps.flatMap Pt.enc) 30 1]⟩ (by kernel_rfl) ?_
  refine At.nil ?_
  refine At.then_normal ?_
  refine At.seq ?_
  refine At.bcase (decide ((i : Int) < (xs.length : Int))) (fun hb5 => ?_) (fun hb5 => ?_)
  · have hb5p : ((i : Int) < (xs.length : Int)) := of_decide_eq_true hb5
    refine At.cast (S' := ⟨fr 95 [(1, (vS X xs.length c)), (2, .p 0 0), (5, (vS Ao ps.length cs)), (6, (vB r)), (18, (vS X xs.length c)), (19, (vI (xs.length : Int))), (20, (vI (i : Int))), (21, (vB true))], [.c n.sv 26, .o (.slice Ao ps.length cs) ps.length (ps.flatMap Pt.enc) 30 1]⟩) (by rw [hb5] <;> rfl) ?_
    refine At.cond_t (by kernel_rfl) ?_
    refine At.skip ?_
    refine At.then_normal ?_
    refine At.seq ?_
    refine At.block ?_
    refine At.seq ?_
    refine At.region ?_
    refine At.runk 1 [21] [] ⟨fr 95 [(1, (vS X xs.length c)), (2, .p 0 0), (5, (vS Ao ps.length cs)), (6, (vB r)), (18, (vS X xs.length c)), (19, (vI (xs.length : Int))), (20, (vI (i : Int))), (22, (vI (i : Int)))], [.c n.sv 26, .o (.slice Ao ps.length cs) ps.length (ps.flatMap Pt.enc) 30 1]⟩ (by kernel_rfl) ?_
    obtain ⟨b6, off7, hXeq⟩ : ∃ b off, X = some ⟨b, off, none⟩ := hR.addr (by rw [flat_len (sz := 1) (fun _ => rfl)]; omega)
    subst hXeq
    refine At.idx (S' := ⟨fr 95 [(1, (vS (aS b6 off7) xs.length c)), (2, .p 0 0), (5, (vS Ao ps.length cs)), (6, (vB r)), (18, (vS (aS b6 off7) xs.length c)), (19, (vI (xs.length : Int))), (20, (vI (i : Int))), (22, (vI (i : Int))), (23, .v (.pointer (some ⟨b6, off7 + i * 1, none⟩)))], [.c n.sv 26, .o (.slice Ao ps.length cs) ps.length (ps.flatMap Pt.enc) 30 1]⟩) rfl (by kernel_rfl) (sz := 1) (e := 30) (by kernel_rfl) (by kernel_rfl) (by kernel_rfl) (b := b6) (off := off7) (n := xs.length) (cap := c) (kd := .i64) (i := (i : Int)) (by kernel_rfl) (by omega) (by omega) (by kernel_rfl) ?_
    obtain ⟨e8, he9⟩ := get_some (l := xs) (i := i) (by omega)
    have e8R := hX e8 (List.mem_of_getElem? he9)
    have e8c := hcap e8 (List.mem_of_getElem? he9)
    refine At.vals (S' := ⟨fr 95 [(1, (vS (aS b6 off7) xs.length c)), (2, .p 0 0), (5, (vS Ao ps.length cs)), (6, (vB r)), (18, (vS (aS b6 off7) xs.length c)), (19, (vI (xs.length : Int))), (20, (vI (i : Int))), (22, (vI (i : Int))), (23, .v (.pointer (some ⟨b6, off7 + i * 1, none⟩))), (24, (vS e8.A e8.nds.length e8.c))], [.c n.sv 26, .o (.slice Ao ps.length cs) ps.length (ps.flatMap Pt.enc) 30 1]⟩) (by kernel_rfl) ((vS e8.A e8.nds.length e8.c)) (by kernel_rfl) (Val.ldE rfl (enc := Pt.enc) (xs := xs) (b := b6) (off := off7) hR (sz := 1) (fun _ => rfl) (Nat.zero_lt_succ _) i e8 he9 0 (off7 + i * 1) (by omega) (by kernel_rfl) ((vS e8.A e8.nds.length e8.c)) (by kernel_rfl)) ?_
    refine At.runk 2 [22, 23, 24] [] ⟨fr 95 [(1, (vS (aS b6 off7) xs.length c)), (2, .p 0 0), (5, (vS Ao ps.length cs)), (6, (vB r)), (7, (vI (i : Int))), (8, (vS e8.A e8.nds.length e8.c)), (18, (vS (aS b6 off7) xs.length c)), (19, (vI (xs.length : Int))), (20, (vI (i : Int)))], [.c n.sv 26, .o (.slice Ao ps.length cs) ps.length (ps.flatMap Pt.enc) 30 1]⟩ (by kernel_rfl) ?_
    refine At.nil ?_
    refine At.then_normal ?_
    refine At.seq ?_
    refine At.region ?_
    refine At.runk 2 [7, 25] [] ⟨fr 95 [(1, (vS (aS b6 off7) xs.length c)), (2, .p 0 0), (5, (vS Ao ps.length cs)), (6, (vB r)), (8, (vS e8.A e8.nds.length e8.c)), (18, (vS (aS b6 off7) xs.length c)), (19, (vI (xs.length : Int))), (20, (vI (i : Int))), (26, (vB (decide ((i : Int) < 4))))], [.c n.sv 26, .o (.slice Ao ps.length cs) ps.length (ps.flatMap Pt.enc) 30 1]⟩ (by kernel_rfl) ?_
    refine At.nil ?_
    refine At.then_normal ?_
    refine At.bcase (decide ((i : Int) < 4)) (fun hb10 => ?_) (fun hb10 => ?_)
    · have hb10p : ((i : Int) < 4) := of_decide_eq_true hb10
      refine At.cast (S' := ⟨fr 95 [(1, (vS (aS b6 off7) xs.length c)), (2, .p 0 0), (5, (vS Ao ps.length cs)), (6, (vB r)), (8, (vS e8.A e8.nds.length e8.c)), (18, (vS (aS b6 off7) xs.length c)), (19, (vI (xs.length : Int))), (20, (vI (i : Int))), (26, (vB true))], [.c n.sv 26, .o (.slice Ao ps.length cs) ps.length (ps.flatMap Pt.enc) 30 1]⟩) (by rw [hb10] <;> rfl) ?_
      refine At.cond_t (by kernel_rfl) ?_
      refine At.region ?_
      refine At.runk 2 [5, 26] [] ⟨fr 95 [(1, (vS (aS b6 off7) xs.length c)), (2, .p 0 0), (6, (vB r)), (8, (vS e8.A e8.nds.length e8.c)), (18, (vS (aS b6 off7) xs.length c)), (19, (vI (xs.length : Int))), (20, (vI (i : Int))), (27, (vS Ao ps.length cs)), (28, (vS e8.A e8.nds.length e8.c))], [.c n.sv 26, .o (.slice Ao ps.length cs) ps.length (ps.flatMap Pt.enc) 30 1]⟩ (by kernel_rfl) ?_
      refine At.callV rfl (by kernel_rfl) 10 [] [] (by kernel_rfl) Try.func10 (by kernel_rfl) (by kernel_rfl) [(vS e8.A e8.nds.length e8.c)] (by kernel_rfl) (by kernel_rfl) (own_c Φ3 e8.nds e8.A e8.c e8R e8c) ?_
      rintro Φ14 ⟨A11, c12⟩ hle15 h13
      have hR := hR.mono hle15
      have hX := hX.mono hle15
      have hPs := hPs.mono hle15
      have e8R := e8R.mono hle15
      dsimp only at h13
      refine ⟨⟨fr 95 [(1, (vS (aS b6 off7) xs.length c)), (2, .p 0 0), (6, (vB r)), (8, (vS e8.A e8.nds.length e8.c)), (18, (vS (aS b6 off7) xs.length c)), (19, (vI (xs.length : Int))), (20, (vI (i : Int))), (27, (vS Ao ps.length cs)), (28, (vS e8.A e8.nds.length e8.c)), (29, (vS A11 ((e8.nds.take 60).length) c12))], [.c n.sv 26, .o (.slice Ao ps.length cs) ps.length (ps.flatMap Pt.enc) 30 1, .o (.slice A11 ((e8.nds.take 60).length) c12) ((e8.nds.take 60).length) ((e8.nds.take 60).flatMap Nd.cells) 26 7]⟩, by kernel_rfl, by kernel_rfl, ?_⟩
      refine At.runk 1 [28, 29] [] ⟨fr 95 [(1, (vS (aS b6 off7) xs.length c)), (2, .p 0 0), (6, (vB r)), (8, (vS e8.A e8.nds.length e8.c)), (18, (vS (aS b6 off7) xs.length c)), (19, (vI (xs.length : Int))), (20, (vI (i : Int))), (27, (vS Ao ps.length cs)), (30, .s 3 0 1 1)], [.c n.sv 26, .o (.slice Ao ps.length cs) ps.length (ps.flatMap Pt.enc) 30 1, .o (.slice A11 ((e8.nds.take 60).length) c12) ((e8.nds.take 60).length) ((e8.nds.take 60).flatMap Nd.cells) 26 7, .c [(vS A11 ((e8.nds.take 60).length) c12)] 30]⟩ (by kernel_rfl) ?_
      refine At.append rfl (by kernel_rfl) (e := 30) (inf := Try.t30) (sz := 1) (by kernel_rfl) (by kernel_rfl) rfl rfl rfl (Nat.zero_lt_succ _) 1 (V := .slice Ao ps.length cs) (n := ps.length) (xs := (ps.flatMap Pt.enc)) (by kernel_rfl) (by kernel_rfl) 1 [.slice A11 ((e8.nds.take 60).length) c12] (Src.cells (i := 3) (off := 0) (m := 1) (c := 1) (cs := [(vS A11 ((e8.nds.take 60).length) c12)]) (e := 30) (by kernel_rfl) (by kernel_rfl) (src_lits _ _ (by kernel_rfl))) (rfl) (one_lits _ (by kernel_rfl)) (by unfold maxLen; omega) (by show (ps.length + 1) * 24 ≤ _; omega) ?_
      intro A16 c17 h18 h19 h20
      refine ⟨⟨fr 95 [(1, (vS (aS b6 off7) xs.length c)), (2, .p 0 0), (6, (vB r)), (8, (vS e8.A e8.nds.length e8.c)), (18, (vS (aS b6 off7) xs.length c)), (19, (vI (xs.length : Int))), (20, (vI (i : Int))), (27, (vS Ao ps.length cs)), (30, .s 3 0 1 1), (31, (vS A16 (ps.length + 1) c17))], [.c n.sv 26, .o (.slice A16 (ps.length + 1) c17) (ps.length + 1) ((ps.flatMap Pt.enc) ++ [.slice A11 ((e8.nds.take 60).length) c12]) 30 1, .o (.slice A11 ((e8.nds.take 60).length) c12) ((e8.nds.take 60).length) ((e8.nds.take 60).flatMap Nd.cells) 26 7, .c [(vS A11 ((e8.nds.take 60).length) c12)] 30]⟩, by kernel_rfl, ?_⟩
      refine At.freeze (S' := ⟨fr 95 [(1, (vS (aS b6 off7) xs.length c)), (2, .p 0 0), (6, (vB r)), (8, (vS e8.A e8.nds.length e8.c)), (18, (vS (aS b6 off7) xs.length c)), (19, (vI (xs.length : Int))), (20, (vI (i : Int))), (27, (vS Ao ps.length cs)), (30, .s 3 0 1 1), (31, (vS A16 (ps.length + 1) c17))], [.c n.sv 26, .o (.slice A16 (ps.length + 1) c17) (ps.length + 1) ((ps.flatMap Pt.enc) ++ [.slice A11 ((e8.nds.take 60).length) c12]) 30 1, .dead, .c [(vS A11 ((e8.nds.take 60).length) c12)] 30]⟩) 2 (A := A11) (n := (e8.nds.take 60).length) (c := c12) (xs := ((e8.nds.take 60).flatMap Nd.cells)) (e := 26) (sz := 7) (by kernel_rfl) (bleT rfl) (by kernel_rfl) ?_
      intro Φ21 hle22 hq
      have hR := hR.mono hle22
      have hX := hX.mono hle22
      have hPs := hPs.mono hle22
      have e8R := e8R.mono hle22
      have hj1 : (ps ++ [(⟨A11, e8.nds.take 60, c12⟩ : Pt)]).length = (ps.length + 1) := by rw [List.length_append]; rfl
      have hj2 : (ps ++ [(⟨A11, e8.nds.take 60, c12⟩ : Pt)]).flatMap Pt.enc = ((ps.flatMap Pt.enc) ++ [.slice A11 ((e8.nds.take 60).length) c12]) := enc_snoc _ _
      refine At.cast (S' := ⟨fr 95 [(1, (vS (aS b6 off7) xs.length c)), (2, .p 0 0), (6, (vB r)), (8, (vS e8.A e8.nds.length e8.c)), (18, (vS (aS b6 off7) xs.length c)), (19, (vI (xs.length : Int))), (20, (vI (i : Int))), (27, (vS Ao ps.length cs)), (30, .s 3 0 1 1), (31, (vS A16 ((ps ++ [(⟨A11, e8.nds.take 60, c12⟩ : Pt)]).length) c17))], [.c n.sv 26, .o (.slice A16 ((ps ++ [(⟨A11, e8.nds.take 60, c12⟩ : Pt)]).length) c17) ((ps ++ [(⟨A11, e8.nds.take 60, c12⟩ : Pt)]).length) ((ps ++ [(⟨A11, e8.nds.take 60, c12⟩ : Pt)]).flatMap Pt.enc) 30 1, .dead, .c [(vS A11 ((e8.nds.take 60).length) c12)] 30]⟩) (by rw [hj1, hj2]) ?_
      refine At.runk 2 [6, 27, 30, 32] [3] ⟨fr 95 [(1, (vS (aS b6 off7) xs.length c)), (2, .p 0 0), (8, (vS e8.A e8.nds.length e8.c)), (18, (vS (aS b6 off7) xs.length c)), (19, (vI (xs.length : Int))), (20, (vI (i : Int))), (31, (vS A16 ((ps ++ [(⟨A11, e8.nds.take 60, c12⟩ : Pt)]).length) c17)), (33, (vB r))], [.c n.sv 26, .o (.slice A16 ((ps ++ [(⟨A11, e8.nds.take 60, c12⟩ : Pt)]).length) c17) ((ps ++ [(⟨A11, e8.nds.take 60, c12⟩ : Pt)]).length) ((ps ++ [(⟨A11, e8.nds.take 60, c12⟩ : Pt)]).flatMap Pt.enc) 30 1, .dead, .dead]⟩ (by kernel_rfl) ?_
      refine At.bcase r (fun hb23 => ?_) (fun hb23 => ?_)
      · refine At.cast (S' := ⟨fr 95 [(1, (vS (aS b6 off7) xs.length c)), (2, .p 0 0), (8, (vS e8.A e8.nds.length e8.c)), (18, (vS (aS b6 off7) xs.length c)), (19, (vI (xs.length : Int))), (20, (vI (i : Int))), (31, (vS A16 ((ps ++ [(⟨A11, e8.nds.take 60, c12⟩ : Pt)]).length) c17)), (33, (vB true))], [.c n.sv 26, .o (.slice A16 ((ps ++ [(⟨A11, e8.nds.take 60, c12⟩ : Pt)]).length) c17) ((ps ++ [(⟨A11, e8.nds.take 60, c12⟩ : Pt)]).length) ((ps ++ [(⟨A11, e8.nds.take 60, c12⟩ : Pt)]).flatMap Pt.enc) 30 1, .dead, .dead]⟩) (by rw [hb23] <;> rfl) ?_
        refine At.runk 1 [8] [] ⟨fr 95 [(1, (vS (aS b6 off7) xs.length c)), (2, .p 0 0), (18, (vS (aS b6 off7) xs.length c)), (19, (vI (xs.length : Int))), (20, (vI (i : Int))), (31, (vS A16 ((ps ++ [(⟨A11, e8.nds.take 60, c12⟩ : Pt)]).length) c17)), (33, (vB true)), (34, (vS e8.A e8.nds.length e8.c))], [.c n.sv 26, .o (.slice A16 ((ps ++ [(⟨A11, e8.nds.take 60, c12⟩ : Pt)]).length) c17) ((ps ++ [(⟨A11, e8.nds.take 60, c12⟩ : Pt)]).length) ((ps ++ [(⟨A11, e8.nds.take 60, c12⟩ : Pt)]).flatMap Pt.enc) 30 1, .dead, .dead]⟩ (by kernel_rfl) ?_
        refine At.callV rfl (by kernel_rfl) 10 [] [] (by kernel_rfl) Try.func10 (by kernel_rfl) (by kernel_rfl) [(vS e8.A e8.nds.length e8.c)] (by kernel_rfl) (by kernel_rfl) (own_c Φ21 e8.nds e8.A e8.c e8R e8c) ?_
        rintro Φ27 ⟨A24, c25⟩ hle28 h26
        have hR := hR.mono hle28
        have hX := hX.mono hle28
        have hPs := hPs.mono hle28
        have e8R := e8R.mono hle28
        have hq := hq.mono hle28
        dsimp only at h26
        refine ⟨⟨fr 95 [(1, (vS (aS b6 off7) xs.length c)), (2, .p 0 0), (18, (vS (aS b6 off7) xs.length c)), (19, (vI (xs.length : Int))), (20, (vI (i : Int))), (31, (vS A16 ((ps ++ [(⟨A11, e8.nds.take 60, c12⟩ : Pt)]).length) c17)), (33, (vB true)), (34, (vS e8.A e8.nds.length e8.c)), (35, (vS A24 ((e8.nds.take 60).length) c25))], [.c n.sv 26, .o (.slice A16 ((ps ++ [(⟨A11, e8.nds.take 60, c12⟩ : Pt)]).length) c17) ((ps ++ [(⟨A11, e8.nds.take 60, c12⟩ : Pt)]).length) ((ps ++ [(⟨A11, e8.nds.take 60, c12⟩ : Pt)]).flatMap Pt.enc) 30 1, .dead, .dead, .o (.slice A24 ((e8.nds.take 60).length) c25) ((e8.nds.take 60).length) ((e8.nds.take 60).flatMap Nd.cells) 26 7]⟩, by kernel_rfl, by kernel_rfl, ?_⟩
        refine At.freeze (S' := ⟨fr 95 [(1, (vS (aS b6 off7) xs.length c)), (2, .p 0 0), (18, (vS (aS b6 off7) xs.length c)), (19, (vI (xs.length : Int))), (20, (vI (i : Int))), (31, (vS A16 ((ps ++ [(⟨A11, e8.nds.take 60, c12⟩ : Pt)]).length) c17)), (33, (vB true)), (34, (vS e8.A e8.nds.length e8.c)), (35, (vS A24 ((e8.nds.take 60).length) c25))], [.c n.sv 26, .o (.slice A16 ((ps ++ [(⟨A11, e8.nds.take 60, c12⟩ : Pt)]).length) c17) ((ps ++ [(⟨A11, e8.nds.take 60, c12⟩ : Pt)]).length) ((ps ++ [(⟨A11, e8.nds.take 60, c12⟩ : Pt)]).flatMap Pt.enc) 30 1, .dead, .dead, .dead]⟩) 4 (A := A24) (n := (e8.nds.take 60).length) (c := c25) (xs := ((e8.nds.take 60).flatMap Nd.cells)) (e := 26) (sz := 7) (by kernel_rfl) (bleT rfl) (by kernel_rfl) ?_
        intro Φ29 hle30 hq2
        have hR := hR.mono hle30
        have hX := hX.mono hle30
        have hPs := hPs.mono hle30
        have e8R := e8R.mono hle30
        have hq := hq.mono hle30
        refine At.callV rfl (by kernel_rfl) 11 [] [] (by kernel_rfl) Try.func11 (by kernel_rfl) (by kernel_rfl) [(vS A24 ((e8.nds.take 60).length) c25)] (by kernel_rfl) (by kernel_rfl) (rcheck_c Φ29 (e8.nds.take 60) A24 c25 hq2 (by simp only [List.length_take]; omega)) ?_
        rintro Φ31 _ hle32 rfl
        have hR := hR.mono hle32
        have hX := hX.mono hle32
        have hPs := hPs.mono hle32
        have e8R := e8R.mono hle32
        have hq := hq.mono hle32
        have hq2 := hq2.mono hle32
        refine ⟨⟨fr 95 [(1, (vS (aS b6 off7) xs.length c)), (2, .p 0 0), (18, (vS (aS b6 off7) xs.length c)), (19, (vI (xs.length : Int))), (20, (vI (i : Int))), (31, (vS A16 ((ps ++ [(⟨A11, e8.nds.take 60, c12⟩ : Pt)]).length) c17)), (33, (vB true)), (34, (vS e8.A e8.nds.length e8.c)), (35, (vS A24 ((e8.nds.take 60).length) c25)), (36, (vI (chkZ (e8.nds.take 60))))], [.c n.sv 26, .o (.slice A16 ((ps ++ [(⟨A11, e8.nds.take 60, c12⟩ : Pt)]).length) c17) ((ps ++ [(⟨A11, e8.nds.take 60, c12⟩ : Pt)]).length) ((ps ++ [(⟨A11, e8.nds.take 60, c12⟩ : Pt)]).flatMap Pt.enc) 30 1, .dead, .dead, .dead]⟩, by kernel_rfl, by kernel_rfl, ?_⟩
        refine At.runk 4 [31, 33, 34, 35, 36, 37, 38] [] ⟨fr 95 [(1, (vS (aS b6 off7) xs.length c)), (2, .p 0 0), (5, (vS A16 ((ps ++ [(⟨A11, e8.nds.take 60, c12⟩ : Pt)]).length) c17)), (6, (vB (decide ((chkZ (e8.nds.take 60)) < 0)))), (18, (vS (aS b6 off7) xs.length c)), (19, (vI (xs.length : Int))), (20, (vI (i : Int)))], [.c n.sv 26, .o (.slice A16 ((ps ++ [(⟨A11, e8.nds.take 60, c12⟩ : Pt)]).length) c17) ((ps ++ [(⟨A11, e8.nds.take 60, c12⟩ : Pt)]).length) ((ps ++ [(⟨A11, e8.nds.take 60, c12⟩ : Pt)]).flatMap Pt.enc) 30 1, .dead, .dead, .dead]⟩ (by kernel_rfl) ?_
        refine At.nil ?_
        refine At.in_normal ?_
        refine At.then_normal ?_
        refine At.region ?_
        refine At.runk 1 [20] [] ⟨fr 95 [(1, (vS (aS b6 off7) xs.length c)), (2, .p 0 0), (5, (vS A16 ((ps ++ [(⟨A11, e8.nds.take 60, c12⟩ : Pt)]).length) c17)), (6, (vB (decide ((chkZ (e8.nds.take 60)) < 0)))), (18, (vS (aS b6 off7) xs.length c)), (19, (vI (xs.length : Int))), (39, (vI (IntKind.i64.wrap ((i : Int) + 1))))], [.c n.sv 26, .o (.slice A16 ((ps ++ [(⟨A11, e8.nds.take 60, c12⟩ : Pt)]).length) c17) ((ps ++ [(⟨A11, e8.nds.take 60, c12⟩ : Pt)]).length) ((ps ++ [(⟨A11, e8.nds.take 60, c12⟩ : Pt)]).flatMap Pt.enc) 30 1, .dead, .dead, .dead]⟩ (by kernel_rfl) ?_
        refine At.cast (S' := ⟨fr 95 [(1, (vS (aS b6 off7) xs.length c)), (2, .p 0 0), (5, (vS A16 ((ps ++ [(⟨A11, e8.nds.take 60, c12⟩ : Pt)]).length) c17)), (6, (vB (decide ((chkZ (e8.nds.take 60)) < 0)))), (18, (vS (aS b6 off7) xs.length c)), (19, (vI (xs.length : Int))), (39, (vI ((i : Int) + 1)))], [.c n.sv 26, .o (.slice A16 ((ps ++ [(⟨A11, e8.nds.take 60, c12⟩ : Pt)]).length) c17) ((ps ++ [(⟨A11, e8.nds.take 60, c12⟩ : Pt)]).length) ((ps ++ [(⟨A11, e8.nds.take 60, c12⟩ : Pt)]).flatMap Pt.enc) 30 1, .dead, .dead, .dead]⟩) (by rw [wrapI (z := (i : Int) + 1) (by omega) (by omega)]) ?_
        refine At.runk 1 [39] [] ⟨fr 95 [(1, (vS (aS b6 off7) xs.length c)), (2, .p 0 0), (5, (vS A16 ((ps ++ [(⟨A11, e8.nds.take 60, c12⟩ : Pt)]).length) c17)), (6, (vB (decide ((chkZ (e8.nds.take 60)) < 0)))), (18, (vS (aS b6 off7) xs.length c)), (19, (vI (xs.length : Int))), (20, (vI ((i : Int) + 1)))], [.c n.sv 26, .o (.slice A16 ((ps ++ [(⟨A11, e8.nds.take 60, c12⟩ : Pt)]).length) c17) ((ps ++ [(⟨A11, e8.nds.take 60, c12⟩ : Pt)]).length) ((ps ++ [(⟨A11, e8.nds.take 60, c12⟩ : Pt)]).flatMap Pt.enc) 30 1, .dead, .dead, .dead]⟩ (by kernel_rfl) ?_
        refine At.nil ?_
        refine At.forget [] 2 [] ⟨fr 95 [(1, (vS (aS b6 off7) xs.length c)), (2, .p 0 0), (5, (vS A16 ((ps ++ [(⟨A11, e8.nds.take 60, c12⟩ : Pt)]).length) c17)), (6, (vB (decide ((chkZ (e8.nds.take 60)) < 0)))), (18, (vS (aS b6 off7) xs.length c)), (19, (vI (xs.length : Int))), (20, (vI ((i : Int) + 1)))], [.c n.sv 26, .o (.slice A16 ((ps ++ [(⟨A11, e8.nds.take 60, c12⟩ : Pt)]).length) c17) ((ps ++ [(⟨A11, e8.nds.take 60, c12⟩ : Pt)]).length) ((ps ++ [(⟨A11, e8.nds.take 60, c12⟩ : Pt)]).flatMap Pt.enc) 30 1]⟩ (by kernel_rfl) (by kernel_rfl) (bleT rfl) ?_
        refine At.round (i + 1, (ps ++ [(⟨A11, e8.nds.take 60, c12⟩ : Pt)]), A16, c17, (decide ((chkZ (e8.nds.take 60)) < 0))) (by kernel_rfl) ((((hle15.trans hle22).trans hle28).trans hle30).trans hle32) ⟨by omega, own4_snoc he9 (by omega) hF.2.1, pts_snoc hPs hq, by rw [hj1]; exact h18, right_snoc (hF.2.2.2.2.1 (by assumption))⟩ (by omega)
      refine At.cast (S' := ⟨fr 95 [(1, (vS (aS b6 off7) xs.length c)), (2, .p 0 0), (8, (vS e8.A e8.nds.length e8.c)), (18, (vS (aS b6 off7) xs.length c)), (19, (vI (xs.length : Int))), (20, (vI (i : Int))), (31, (vS A16 ((ps ++ [(⟨A11, e8.nds.take 60, c12⟩ : Pt)]).length) c17)), (33, (vB false))], [.c n.sv 26, .o (.slice A16 ((ps ++ [(⟨A11, e8.nds.take 60, c12⟩ : Pt)]).length) c17) ((ps ++ [(⟨A11, e8.nds.take 60, c12⟩ : Pt)]).length) ((ps ++ [(⟨A11, e8.nds.take 60, c12⟩ : Pt)]).flatMap Pt.enc) 30 1, .dead, .dead]⟩) (by rw [hb23] <;> rfl) ?_
      refine At.runk 7 [8, 31, 33, 34, 35, 36, 37, 38] [] ⟨fr 95 [(1, (vS (aS b6 off7) xs.length c)), (2, .p 0 0), (5, (vS A16 ((ps ++ [(⟨A11, e8.nds.take 60, c12⟩ : Pt)]).length) c17)), (6, (vB false)), (18, (vS (aS b6 off7) xs.length c)), (19, (vI (xs.length : Int))), (20, (vI (i : Int)))], [.c n.sv 26, .o (.slice A16 ((ps ++ [(⟨A11, e8.nds.take 60, c12⟩ : Pt)]).length) c17) ((ps ++ [(⟨A11, e8.nds.take 60, c12⟩ : Pt)]).length) ((ps ++ [(⟨A11, e8.nds.take 60, c12⟩ : Pt)]).flatMap Pt.enc) 30 1, .dead, .dead]⟩ (by kernel_rfl) ?_
      refine At.nil ?_
      refine At.in_normal ?_
      refine At.then_normal ?_
      refine At.region ?_
      refine At.runk 1 [20] [] ⟨fr 95 [(1, (vS (aS b6 off7) xs.length c)), (2, .p 0 0), (5, (vS A16 ((ps ++ [(⟨A11, e8.nds.take 60, c12⟩ : Pt)]).length) c17)), (6, (vB false)), (18, (vS (aS b6 off7) xs.length c)), (19, (vI (xs.length : Int))), (39, (vI (IntKind.i64.wrap ((i : Int) + 1))))], [.c n.sv 26, .o (.slice A16 ((ps ++ [(⟨A11, e8.nds.take 60, c12⟩ : Pt)]).length) c17) ((ps ++ [(⟨A11, e8.nds.take 60, c12⟩ : Pt)]).length) ((ps ++ [(⟨A11, e8.nds.take 60, c12⟩ : Pt)]).flatMap Pt.enc) 30 1, .dead, .dead]⟩ (by kernel_rfl) ?_
      refine At.cast (S' := ⟨fr 95 [(1, (vS (aS b6 off7) xs.length c)), (2, .p 0 0), (5, (vS A16 ((ps ++ [(⟨A11, e8.nds.take 60, c12⟩ : Pt)]).length) c17)), (6, (vB false)), (18, (vS (aS b6 off7) xs.length c)), (19, (vI (xs.length : Int))), (39, (vI ((i : Int) + 1)))], [.c n.sv 26, .o (.slice A16 ((ps ++ [(⟨A11, e8.nds.take 60, c12⟩ : Pt)]).length) c17) ((ps ++ [(⟨A11, e8.nds.take 60, c12⟩ : Pt)]).length) ((ps ++ [(⟨A11, e8.nds.take 60, c12⟩ : Pt)]).flatMap Pt.enc) 30 1, .dead, .dead]⟩) (by rw [wrapI (z := (i : Int) + 1) (by omega) (by omega)]) ?_
      refine At.runk 1 [39] [] ⟨fr 95 [(1, (vS (aS b6 off7) xs.length c)), (2, .p 0 0), (5, (vS A16 ((ps ++ [(⟨A11, e8.nds.take 60, c12⟩ : Pt)]).length) c17)), (6, (vB false)), (18, (vS (aS b6 off7) xs.length c)), (19, (vI (xs.length : Int))), (20, (vI ((i : Int) + 1)))], [.c n.sv 26, .o (.slice A16 ((ps ++ [(⟨A11, e8.nds.take 60, c12⟩ : Pt)]).length) c17) ((ps ++ [(⟨A11, e8.nds.take 60, c12⟩ : Pt)]).length) ((ps ++ [(⟨A11, e8.nds.take 60, c12⟩ : Pt)]).flatMap Pt.enc) 30 1, .dead, .dead]⟩ (by kernel_rfl) ?_
      refine At.nil ?_
      refine At.forget [] 2 [] ⟨fr 95 [(1, (vS (aS b6 off7) xs.length c)), (2, .p 0 0), (5, (vS A16 ((ps ++ [(⟨A11, e8.nds.take 60, c12⟩ : Pt)]).length) c17)), (6, (vB false)), (18, (vS (aS b6 off7) xs.length c)), (19, (vI (xs.length : Int))), (20, (vI ((i : Int) + 1)))], [.c n.sv 26, .o (.slice A16 ((ps ++ [(⟨A11, e8.nds.take 60, c12⟩ : Pt)]).length) c17) ((ps ++ [(⟨A11, e8.nds.take 60, c12⟩ : Pt)]).length) ((ps ++ [(⟨A11, e8.nds.take 60, c12⟩ : Pt)]).flatMap Pt.enc) 30 1]⟩ (by kernel_rfl) (by kernel_rfl) (bleT rfl) ?_
      refine At.round (i + 1, (ps ++ [(⟨A11, e8.nds.take 60, c12⟩ : Pt)]), A16, c17, false) (by kernel_rfl) (hle15.trans hle22) ⟨by omega, own4_snoc he9 (by omega) hF.2.1, pts_snoc hPs hq, by rw [hj1]; exact h18, right_no (fun h => by have := hF.2.2.2.2.2 h; simp_all)⟩ (by omega)
    have hb10p : ¬ ((i : Int) < 4) := of_decide_eq_false hb10
    refine At.cast (S' := ⟨fr 95 [(1, (vS (aS b6 off7) xs.length c)), (2, .p 0 0), (5, (vS Ao ps.length cs)), (6, (vB r)), (8, (vS e8.A e8.nds.length e8.c)), (18, (vS (aS b6 off7) xs.length c)), (19, (vI (xs.length : Int))), (20, (vI (i : Int))), (26, (vB false))], [.c n.sv 26, .o (.slice Ao ps.length cs) ps.length (ps.flatMap Pt.enc) 30 1]⟩) (by rw [hb10] <;> rfl) ?_
    refine At.cond_f (by kernel_rfl) ?_
    refine At.skip ?_
    refine At.in_normal ?_
    refine At.then_normal ?_
    refine At.region ?_
    refine At.runk 1 [8, 20, 26] [] ⟨fr 95 [(1, (vS (aS b6 off7) xs.length c)), (2, .p 0 0), (5, (vS Ao ps.length cs)), (6, (vB r)), (18, (vS (aS b6 off7) xs.length c)), (19, (vI (xs.length : Int))), (39, (vI (IntKind.i64.wrap ((i : Int) + 1))))], [.c n.sv 26, .o (.slice Ao ps.length cs) ps.length (ps.flatMap Pt.enc) 30 1]⟩ (by kernel_rfl) ?_
    refine At.cast (S' := ⟨fr 95 [(1, (vS (aS b6 off7) xs.length c)), (2, .p 0 0), (5, (vS Ao ps.length cs)), (6, (vB r)), (18, (vS (aS b6 off7) xs.length c)), (19, (vI (xs.length : Int))), (39, (vI ((i : Int) + 1)))], [.c n.sv 26, .o (.slice Ao ps.length cs) ps.length (ps.flatMap Pt.enc) 30 1]⟩) (by rw [wrapI (z := (i : Int) + 1) (by omega) (by omega)]) ?_
    refine At.runk 1 [39] [] ⟨fr 95 [(1, (vS (aS b6 off7) xs.length c)), (2, .p 0 0), (5, (vS Ao ps.length cs)), (6, (vB r)), (18, (vS (aS b6 off7) xs.length c)), (19, (vI (xs.length : Int))), (20, (vI ((i : Int) + 1)))], [.c n.sv 26, .o (.slice Ao ps.length cs) ps.length (ps.flatMap Pt.enc) 30 1]⟩ (by kernel_rfl) ?_
    refine At.nil ?_
    refine At.round (i + 1, ps, Ao, cs, r) (by kernel_rfl) (PhiLe.refl 0 _) ⟨by omega, own4_same (by omega) hF.2.1, hF.2.2.1, hF.2.2.2.1, hF.2.2.2.2⟩ (by omega)
  have hb5p : ¬ ((i : Int) < (xs.length : Int)) := of_decide_eq_false hb5
  refine At.cast (S' := ⟨fr 95 [(1, (vS X xs.length c)), (2, .p 0 0), (5, (vS Ao ps.length cs)), (6, (vB r)), (18, (vS X xs.length c)), (19, (vI (xs.length : Int))), (20, (vI (i : Int))), (21, (vB false))], [.c n.sv 26, .o (.slice Ao ps.length cs) ps.length (ps.flatMap Pt.enc) 30 1]⟩) (by rw [hb5] <;> rfl) ?_
  refine At.cond_f (by kernel_rfl) ?_
  refine At.exit_ ?_
  refine At.then_exit ?_
  refine At.then_exit ?_
  refine At.in_here ?_
  refine At.then_normal ?_
  refine At.seq ?_
  refine At.freeze (S' := ⟨fr 95 [(1, (vS X xs.length c)), (2, .p 0 0), (5, (vS Ao ps.length cs)), (6, (vB r)), (18, (vS X xs.length c)), (19, (vI (xs.length : Int))), (20, (vI (i : Int))), (21, (vB false))], [.c n.sv 26, .dead]⟩) 1 (A := Ao) (n := ps.length) (c := cs) (xs := (ps.flatMap Pt.enc)) (e := 30) (sz := 1) (by kernel_rfl) (bleT rfl) (by kernel_rfl) ?_
  intro Φ33 hle34 hP
  have hR := hR.mono hle34
  have hX := hX.mono hle34
  have hPs := hPs.mono hle34
  have hpk := own4_le hF.2.1
  have hpw := own4_wf hF.2.1 hw
  have hr := hF.2.2.2.2
  have hpm := hF.2.1
  refine At.region ?_
  refine At.runk 2 [18, 19, 20, 21] [] ⟨fr 95 [(1, (vS X xs.length c)), (2, .p 0 0), (5, (vS Ao ps.length cs)), (6, (vB r)), (41, .agg n.sv), (42, (vS Ao ps.length cs))], [.c n.sv 26, .dead]⟩ (by kernel_rfl) ?_
  refine At.bcase r (fun hb35 => ?_) (fun hb35 => ?_)
  · refine At.cast (S' := ⟨fr 95 [(1, (vS X xs.length c)), (2, .p 0 0), (5, (vS Ao ps.length cs)), (6, (vB true)), (41, .agg n.sv), (42, (vS Ao ps.length cs))], [.c n.sv 26, .dead]⟩) (by rw [hb35] <;> rfl) ?_
    by_cases hc36 : n.may = true ∧ ar n = ps.length
    · refine At.callV rfl (by kernel_rfl) 12 [] [] (by kernel_rfl) Try.func12 (by kernel_rfl) (by kernel_rfl) [.agg n.sv, (vS Ao ps.length cs)] (by kernel_rfl) (by kernel_rfl) (join_ok Φ33 n nw ps Ao cs hP hPs (fun p hp => by have := hpk p hp; omega) hpw (by omega) (hr.1 (by assumption)) hc36.1 hc36.2) ?_
      rintro Φ37 ⟨Aj, cj⟩ hle38 hcj
      have hR := hR.mono hle38
      have hX := hX.mono hle38
      have hPs := hPs.mono hle38
      have hP := hP.mono hle38
      replace hcj : (jn ps ++ [n]).length ≤ cj := hcj
      have hjl : (jn ps).length ≤ 4000 := by have := jn_len (i := ps.length) (ps := ps) (fun p hp => by have := hpk p hp; omega); rw [jn_end (Nat.le_refl _)] at this; omega
      have hjl2 : (jn ps ++ [n]).length = (jn ps).length + 1 := by rw [List.length_append]; rfl
      have hm1 := hc36.1
      have hm2 := hc36.2
      refine ⟨⟨fr 95 [(1, (vS X xs.length c)), (2, .p 0 0), (5, (vS Ao ps.length cs)), (6, (vB true)), (41, .agg n.sv), (42, (vS Ao ps.length cs)), (43, .tup [(vS Aj ((jn ps ++ [n]).length) cj), (vI 0)])], [.c n.sv 26, .dead, .o (.slice Aj ((jn ps ++ [n]).length) cj) ((jn ps ++ [n]).length) ((jn ps ++ [n]).flatMap Nd.cells) 26 7]⟩, by kernel_rfl, by kernel_rfl, ?_⟩
      refine At.runk 5 [40, 41, 42, 43, 44, 45] [] ⟨fr 95 [(1, (vS X xs.length c)), (2, .p 0 0), (5, (vS Ao ps.length cs)), (6, (vB true)), (9, (vS Aj ((jn ps ++ [n]).length) cj)), (10, (vI 0))], [.c n.sv 26, .dead, .o (.slice Aj ((jn ps ++ [n]).length) cj) ((jn ps ++ [n]).length) ((jn ps ++ [n]).flatMap Nd.cells) 26 7]⟩ (by kernel_rfl) ?_
      refine At.nil ?_
      refine At.then_normal ?_
      refine At.seq ?_
      refine At.region ?_
      refine At.runk 1 [] [] ⟨fr 95 [(1, (vS X xs.length c)), (2, .p 0 0), (5, (vS Ao ps.length cs)), (6, (vB true)), (9, (vS Aj ((jn ps ++ [n]).length) cj)), (10, (vI 0)), (11, (vS none 0 0))], [.c n.sv 26, .dead, .o (.slice Aj ((jn ps ++ [n]).length) cj) ((jn ps ++ [n]).length) ((jn ps ++ [n]).flatMap Nd.cells) 26 7]⟩ (by kernel_rfl) ?_
      refine At.nil ?_
      refine At.then_normal ?_
      refine At.seq ?_
      refine At.region ?_
      refine At.runk 1 [] [] ⟨fr 95 [(1, (vS X xs.length c)), (2, .p 0 0), (5, (vS Ao ps.length cs)), (6, (vB true)), (9, (vS Aj ((jn ps ++ [n]).length) cj)), (10, (vI 0)), (11, (vS none 0 0)), (12, (vI 140))], [.c n.sv 26, .dead, .o (.slice Aj ((jn ps ++ [n]).length) cj) ((jn ps ++ [n]).length) ((jn ps ++ [n]).flatMap Nd.cells) 26 7]⟩ (by kernel_rfl) ?_
      refine At.nil ?_
      refine At.then_normal ?_
      refine At.seq ?_
      refine At.seq ?_
      refine At.region ?_
      refine At.runk 1 [6] [] ⟨fr 95 [(1, (vS X xs.length c)), (2, .p 0 0), (5, (vS Ao ps.length cs)), (9, (vS Aj ((jn ps ++ [n]).length) cj)), (10, (vI 0)), (11, (vS none 0 0)), (12, (vI 140)), (46, (vB true))], [.c n.sv 26, .dead, .o (.slice Aj ((jn ps ++ [n]).length) cj) ((jn ps ++ [n]).length) ((jn ps ++ [n]).flatMap Nd.cells) 26 7]⟩ (by kernel_rfl) ?_
      refine At.nil ?_
      refine At.then_normal ?_
      refine At.cond_t (by kernel_rfl) ?_
      refine At.seq ?_
      refine At.region ?_
      refine At.runk 1 [46] [] ⟨fr 95 [(1, (vS X xs.length c)), (2, .p 0 0), (5, (vS Ao ps.length cs)), (9, (vS Aj ((jn ps ++ [n]).length) cj)), (10, (vI 0)), (11, (vS none 0 0)), (12, (vI 2))], [.c n.sv 26, .dead, .o (.slice Aj ((jn ps ++ [n]).length) cj) ((jn ps ++ [n]).length) ((jn ps ++ [n]).flatMap Nd.cells) 26 7]⟩ (by kernel_rfl) ?_
      refine At.nil ?_
      refine At.then_normal ?_
      refine At.seq ?_
      refine At.region ?_
      refine At.runk 1 [] [] ⟨fr 95 [(1, (vS X xs.length c)), (2, .p 0 0), (5, (vS Ao ps.length cs)), (9, (vS Aj ((jn ps ++ [n]).length) cj)), (10, (vI 0)), (11, (vS none 0 0)), (12, (vI 2)), (47, .agg n.sv)], [.c n.sv 26, .dead, .o (.slice Aj ((jn ps ++ [n]).length) cj) ((jn ps ++ [n]).length) ((jn ps ++ [n]).flatMap Nd.cells) 26 7]⟩ (by kernel_rfl) ?_
      refine At.callV rfl (by kernel_rfl) 13 [] [] (by kernel_rfl) Try.func13 (by kernel_rfl) (by kernel_rfl) [.agg n.sv] (by kernel_rfl) (by kernel_rfl) (rnode_c Φ37 n) ?_
      rintro Φ39 tn hle40 htn
      have hR := hR.mono hle40
      have hX := hX.mono hle40
      have hPs := hPs.mono hle40
      have hP := hP.mono hle40
      rw [hm1] at htn
      subst htn
      refine ⟨⟨fr 95 [(1, (vS X xs.length c)), (2, .p 0 0), (5, (vS Ao ps.length cs)), (9, (vS Aj ((jn ps ++ [n]).length) cj)), (10, (vI 0)), (11, (vS none 0 0)), (12, (vI 2)), (47, .agg n.sv), (48, (vB true))], [.c n.sv 26, .dead, .o (.slice Aj ((jn ps ++ [n]).length) cj) ((jn ps ++ [n]).length) ((jn ps ++ [n]).flatMap Nd.cells) 26 7]⟩, by kernel_rfl, by kernel_rfl, ?_⟩
      refine At.runk 3 [47, 48, 50] [] ⟨fr 95 [(1, (vS X xs.length c)), (2, .p 0 0), (5, (vS Ao ps.length cs)), (9, (vS Aj ((jn ps ++ [n]).length) cj)), (10, (vI 0)), (11, (vS none 0 0)), (12, (vI 2)), (49, (vB true)), (51, (vI n.kind))], [.c n.sv 26, .dead, .o (.slice Aj ((jn ps ++ [n]).length) cj) ((jn ps ++ [n]).length) ((jn ps ++ [n]).flatMap Nd.cells) 26 7]⟩ (by kernel_rfl) ?_
      refine At.callV rfl (by kernel_rfl) 14 [] [] (by kernel_rfl) Try.func14 (by kernel_rfl) (by kernel_rfl) [(vI n.kind)] (by kernel_rfl) (by kernel_rfl) (arity_c Φ39 n.kind) ?_
      rintro Φ41 ta hle42 hta
      have hR := hR.mono hle42
      have hX := hX.mono hle42
      have hPs := hPs.mono hle42
      have hP := hP.mono hle42
      rw [arity_of_may hm1, ar_kar, hm2] at hta
      subst hta
      refine ⟨⟨fr 95 [(1, (vS X xs.length c)), (2, .p 0 0), (5, (vS Ao ps.length cs)), (9, (vS Aj ((jn ps ++ [n]).length) cj)), (10, (vI 0)), (11, (vS none 0 0)), (12, (vI 2)), (49, (vB true)), (51, (vI n.kind)), (52, (vI (ps.length : Int)))], [.c n.sv 26, .dead, .o (.slice Aj ((jn ps ++ [n]).length) cj) ((jn ps ++ [n]).length) ((jn ps ++ [n]).flatMap Nd.cells) 26 7]⟩, by kernel_rfl, by kernel_rfl, ?_⟩
      refine At.runk 4 [49, 51, 52, 53, 54, 55] [] ⟨fr 95 [(1, (vS X xs.length c)), (2, .p 0 0), (5, (vS Ao ps.length cs)), (9, (vS Aj ((jn ps ++ [n]).length) cj)), (10, (vI 0)), (11, (vS none 0 0)), (12, (vI 2)), (56, (vB ((ps.length : Int) == (ps.length : Int))))], [.c n.sv 26, .dead, .o (.slice Aj ((jn ps ++ [n]).length) cj) ((jn ps ++ [n]).length) ((jn ps ++ [n]).flatMap Nd.cells) 26 7]⟩ (by kernel_rfl) ?_
      refine At.nil ?_
      refine At.then_normal ?_
      refine At.bcase ((ps.length : Int) == (ps.length : Int)) (fun hb43 => ?_) (fun hb43 => ?_)
      · have hb43p : ((ps.length : Int) = (ps.length : Int)) := eq_of_beq hb43
        refine At.cast (S' := ⟨fr 95 [(1, (vS X xs.length c)), (2, .p 0 0), (5, (vS Ao ps.length cs)), (9, (vS Aj ((jn ps ++ [n]).length) cj)), (10, (vI 0)), (11, (vS none 0 0)), (12, (vI 2)), (56, (vB true))], [.c n.sv 26, .dead, .o (.slice Aj ((jn ps ++ [n]).length) cj) ((jn ps ++ [n]).length) ((jn ps ++ [n]).flatMap Nd.cells) 26 7]⟩) (by rw [hb43] <;> rfl) ?_
        refine At.cond_t (by kernel_rfl) ?_
        refine At.region ?_
        refine At.runk 2 [2, 11, 12, 56] [0] ⟨fr 95 [(1, (vS X xs.length c)), (5, (vS Ao ps.length cs)), (9, (vS Aj ((jn ps ++ [n]).length) cj)), (10, (vI 0)), (57, .agg n.sv), (58, (vS Ao ps.length cs))], [.dead, .dead, .o (.slice Aj ((jn ps ++ [n]).length) cj) ((jn ps ++ [n]).length) ((jn ps ++ [n]).flatMap Nd.cells) 26 7]⟩ (by kernel_rfl) ?_
        refine At.callV rfl (by kernel_rfl) 15 [] [] (by kernel_rfl) Try.func15 (by kernel_rfl) (by kernel_rfl) [.agg n.sv, (vS Ao ps.length cs)] (by kernel_rfl) (by kernel_rfl) (rjoin_c Φ41 n ps Ao cs hP hPs (fun p hp => by have := hpk p hp; omega) hpw (by omega)) ?_
        rintro Φ44 ⟨Aw, cw⟩ hle45 hcw
        have hR := hR.mono hle45
        have hX := hX.mono hle45
        have hPs := hPs.mono hle45
        have hP := hP.mono hle45
        refine ⟨⟨fr 95 [(1, (vS X xs.length c)), (5, (vS Ao ps.length cs)), (9, (vS Aj ((jn ps ++ [n]).length) cj)), (10, (vI 0)), (57, .agg n.sv), (58, (vS Ao ps.length cs)), (59, (vS Aw ((jn ps ++ [n]).length) cw))], [.dead, .dead, .o (.slice Aj ((jn ps ++ [n]).length) cj) ((jn ps ++ [n]).length) ((jn ps ++ [n]).flatMap Nd.cells) 26 7, .o (.slice Aw ((jn ps ++ [n]).length) cw) ((jn ps ++ [n]).length) ((jn ps ++ [n]).flatMap Nd.cells) 26 7]⟩, by kernel_rfl, by kernel_rfl, ?_⟩
        refine At.runk 2 [57, 58, 59] [] ⟨fr 95 [(1, (vS X xs.length c)), (5, (vS Ao ps.length cs)), (9, (vS Aj ((jn ps ++ [n]).length) cj)), (10, (vI 0)), (11, (vS Aw ((jn ps ++ [n]).length) cw)), (12, (vI 0))], [.dead, .dead, .o (.slice Aj ((jn ps ++ [n]).length) cj) ((jn ps ++ [n]).length) ((jn ps ++ [n]).flatMap Nd.cells) 26 7, .o (.slice Aw ((jn ps ++ [n]).length) cw) ((jn ps ++ [n]).length) ((jn ps ++ [n]).flatMap Nd.cells) 26 7]⟩ (by kernel_rfl) ?_
        refine At.nil ?_
        refine At.then_normal ?_
        refine At.seq ?_
        refine At.seq ?_
        refine At.region ?_
        refine At.runk 6 [10, 11, 12, 60, 61, 62] [] ⟨fr 95 [(1, (vS X xs.length c)), (5, (vS Ao ps.length cs)), (9, (vS Aj ((jn ps ++ [n]).length) cj)), (63, (vB false)), (64, (vS Aj ((jn ps ++ [n]).length) cj)), (65, (vS Aw ((jn ps ++ [n]).length) cw))], [.dead, .dead, .o (.slice Aj ((jn ps ++ [n]).length) cj) ((jn ps ++ [n]).length) ((jn ps ++ [n]).flatMap Nd.cells) 26 7, .o (.slice Aw ((jn ps ++ [n]).length) cw) ((jn ps ++ [n]).length) ((jn ps ++ [n]).flatMap Nd.cells) 26 7]⟩ (by kernel_rfl) ?_
        refine At.callT rfl (by kernel_rfl) 16 [] [] (by kernel_rfl) Try.func16 (by kernel_rfl) (by kernel_rfl) [(vS Aj ((jn ps ++ [n]).length) cj), (vS Aw ((jn ps ++ [n]).length) cw)] (by kernel_rfl) (by kernel_rfl) (fun Φp hlp hrp => rsame_c Φp (jn ps ++ [n]) (jn ps ++ [n]) Aj Aw cj cw (hrp 2 Aj ((jn ps ++ [n]).length) cj ((jn ps ++ [n]).flatMap Nd.cells) 26 7 (by kernel_rfl)) (hrp 3 Aw ((jn ps ++ [n]).length) cw ((jn ps ++ [n]).flatMap Nd.cells) 26 7 (by kernel_rfl)) (by omega) (by omega)) ?_
        rintro ts hts
        replace hts : ts = true := by rw [hts]; exact decide_eq_true rfl
        subst hts
        refine ⟨⟨fr 95 [(1, (vS X xs.length c)), (5, (vS Ao ps.length cs)), (9, (vS Aj ((jn ps ++ [n]).length) cj)), (63, (vB false)), (64, (vS Aj ((jn ps ++ [n]).length) cj)), (65, (vS Aw ((jn ps ++ [n]).length) cw)), (66, (vB true))], [.dead, .dead, .o (.slice Aj ((jn ps ++ [n]).length) cj) ((jn ps ++ [n]).length) ((jn ps ++ [n]).flatMap Nd.cells) 26 7, .o (.slice Aw ((jn ps ++ [n]).length) cw) ((jn ps ++ [n]).length) ((jn ps ++ [n]).flatMap Nd.cells) 26 7]⟩, by kernel_rfl, by kernel_rfl, ?_⟩
        refine At.runk 2 [63, 64, 65, 66, 67] [3] ⟨fr 95 [(1, (vS X xs.length c)), (5, (vS Ao ps.length cs)), (9, (vS Aj ((jn ps ++ [n]).length) cj)), (68, (vB false))], [.dead, .dead, .o (.slice Aj ((jn ps ++ [n]).length) cj) ((jn ps ++ [n]).length) ((jn ps ++ [n]).flatMap Nd.cells) 26 7, .dead]⟩ (by kernel_rfl) ?_
        refine At.nil ?_
        refine At.then_normal ?_
        refine At.cond_f (by kernel_rfl) ?_
        refine At.skip ?_
        refine At.then_normal ?_
        refine At.seq ?_
        refine At.seq ?_
        refine At.region ?_
        refine At.runk 3 [68, 69] [] ⟨fr 95 [(1, (vS X xs.length c)), (5, (vS Ao ps.length cs)), (9, (vS Aj ((jn ps ++ [n]).length) cj)), (70, (vI ((jn ps ++ [n]).length : Int))), (71, (vI 0))], [.dead, .dead, .o (.slice Aj ((jn ps ++ [n]).length) cj) ((jn ps ++ [n]).length) ((jn ps ++ [n]).flatMap Nd.cells) 26 7, .dead]⟩ (by kernel_rfl) ?_
        refine At.nil ?_
        refine At.then_normal ?_
        refine At.block ?_
        refine At.forget [] 3 [] ⟨fr 95 [(1, (vS X xs.length c)), (5, (vS Ao ps.length cs)), (9, (vS Aj ((jn ps ++ [n]).length) cj)), (70, (vI ((jn ps ++ [n]).length : Int))), (71, (vI 0))], [.dead, .dead, .o (.slice Aj ((jn ps ++ [n]).length) cj) ((jn ps ++ [n]).length) ((jn ps ++ [n]).flatMap Nd.cells) 26 7]⟩ (by kernel_rfl) (by kernel_rfl) (bleT rfl) ?_
        refine At.loop (T := Nat × List Value) (fun x => ⟨fr 95 [(1, (vS X xs.length c)), (5, (vS Ao ps.length cs)), (9, (vS Aj ((jn ps ++ [n]).length) cj)), (70, (vI ((jn ps ++ [n]).length : Int))), (71, (vI (x.1 : Int)))], [.dead, .dead, .o (.slice Aj ((jn ps ++ [n]).length) cj) ((jn ps ++ [n]).length) x.2 26 7]⟩) (fun x Φ => x.1 ≤ (jn ps ++ [n]).length ∧ x.2.length = (jn ps ++ [n]).length * 7) (fun x => (jn ps ++ [n]).length - x.1) (0, ((jn ps ++ [n]).flatMap Nd.cells)) (by kernel_rfl) ⟨Nat.zero_le _, flat_len (sz := 7) (fun _ => rfl) _⟩ ?_
        rintro ⟨k, ys⟩ Φ46 hle47 hF
        have hR := hR.mono hle47
        have hX := hX.mono hle47
        have hPs := hPs.mono hle47
        have hP := hP.mono hle47
        refine At.cast (S' := ⟨fr 95 [(1, (vS X xs.length c)), (5, (vS Ao ps.length cs)), (9, (vS Aj ((jn ps ++ [n]).length) cj)), (70, (vI ((jn ps ++ [n]).length : Int))), (71, (vI (k : Int)))], [.dead, .dead, .o (.slice Aj ((jn ps ++ [n]).length) cj) ((jn ps ++ [n]).length) ys 26 7]⟩) (by kernel_rfl) ?_
        dsimp only at hF
        have hF1 := hF.1
        have hF2 := hF.2
        refine At.seq ?_
        refine At.region ?_
        refine At.runk 1 [] [] ⟨fr 95 [(1, (vS X xs.length c)), (5, (vS Ao ps.length cs)), (9, (vS Aj ((jn ps ++ [n]).length) cj)), (70, (vI ((jn ps ++ [n]).length : Int))), (71, (vI (k : Int))), (72, (vB (decide ((k : Int) < ((jn ps ++ [n]).length : Int)))))], [.dead, .dead, .o (.slice Aj ((jn ps ++ [n]).length) cj) ((jn ps ++ [n]).length) ys 26 7]⟩ (by kernel_rfl) ?_
        refine At.nil ?_
        refine At.then_normal ?_
        refine At.seq ?_
        refine At.bcase (decide ((k : Int) < ((jn ps ++ [n]).length : Int))) (fun hb48 => ?_) (fun hb48 => ?_)
        · have hb48p : ((k : Int) < ((jn ps ++ [n]).length : Int)) := of_decide_eq_true hb48
          refine At.cast (S' := ⟨fr 95 [(1, (vS X xs.length c)), (5, (vS Ao ps.length cs)), (9, (vS Aj ((jn ps ++ [n]).length) cj)), (70, (vI ((jn ps ++ [n]).length : Int))), (71, (vI (k : Int))), (72, (vB true))], [.dead, .dead, .o (.slice Aj ((jn ps ++ [n]).length) cj) ((jn ps ++ [n]).length) ys 26 7]⟩) (by rw [hb48] <;> rfl) ?_
          refine At.cond_t (by kernel_rfl) ?_
          refine At.skip ?_
          refine At.then_normal ?_
          refine At.seq ?_
          refine At.block ?_
          refine At.seq ?_
          refine At.region ?_
          refine At.runk 2 [72, 73] [] ⟨fr 95 [(1, (vS X xs.length c)), (5, (vS Ao ps.length cs)), (9, (vS Aj ((jn ps ++ [n]).length) cj)), (13, (vI (k : Int))), (70, (vI ((jn ps ++ [n]).length : Int))), (71, (vI (k : Int)))], [.dead, .dead, .o (.slice Aj ((jn ps ++ [n]).length) cj) ((jn ps ++ [n]).length) ys 26 7]⟩ (by kernel_rfl) ?_
          refine At.nil ?_
          refine At.then_normal ?_
          refine At.region ?_
          refine At.runk 2 [13] [] ⟨fr 95 [(1, (vS X xs.length c)), (5, (vS Ao ps.length cs)), (9, (vS Aj ((jn ps ++ [n]).length) cj)), (70, (vI ((jn ps ++ [n]).length : Int))), (71, (vI (k : Int))), (74, (vS Aj ((jn ps ++ [n]).length) cj)), (75, (vI (k : Int)))], [.dead, .dead, .o (.slice Aj ((jn ps ++ [n]).length) cj) ((jn ps ++ [n]).length) ys 26 7]⟩ (by kernel_rfl) ?_
          refine At.row_some 2 (A := Aj) (n := (jn ps ++ [n]).length) (c := cj) (xs := ys) (e := 26) (sz := 7) (by kernel_rfl) (by omega) ?_
          intro g49 hg50
          subst hg50
          refine At.idx (S' := ⟨fr 95 [(1, (vS X xs.length c)), (5, (vS Ao ps.length cs)), (9, (vS (aS g49 0) ((jn ps ++ [n]).length) cj)), (70, (vI ((jn ps ++ [n]).length : Int))), (71, (vI (k : Int))), (74, (vS (aS g49 0) ((jn ps ++ [n]).length) cj)), (75, (vI (k : Int))), (76, .v (.pointer (some ⟨g49, 0 + k * 7, none⟩)))], [.dead, .dead, .o (.slice (aS g49 0) ((jn ps ++ [n]).length) cj) ((jn ps ++ [n]).length) ys 26 7]⟩) rfl (by kernel_rfl) (sz := 7) (e := 26) (by kernel_rfl) (by kernel_rfl) (by kernel_rfl) (b := g49) (off := 0) (n := (jn ps ++ [n]).length) (cap := cj) (kd := .i64) (i := (k : Int)) (by kernel_rfl) (by omega) (by omega) (by kernel_rfl) ?_
          refine At.runk 1 [74, 75, 76] [] ⟨fr 95 [(1, (vS X xs.length c)), (5, (vS Ao ps.length cs)), (9, (vS (aS g49 0) ((jn ps ++ [n]).length) cj)), (70, (vI ((jn ps ++ [n]).length : Int))), (71, (vI (k : Int))), (77, .v (.pointer (some ⟨g49, 0 + k * 7 + 0, none⟩)))], [.dead, .dead, .o (.slice (aS g49 0) ((jn ps ++ [n]).length) cj) ((jn ps ++ [n]).length) ys 26 7]⟩ (by kernel_rfl) ?_
          refine At.strow (S' := ⟨fr 95 [(1, (vS X xs.length c)), (5, (vS Ao ps.length cs)), (9, (vS (aS g49 0) ((jn ps ++ [n]).length) cj)), (70, (vI ((jn ps ++ [n]).length : Int))), (71, (vI (k : Int))), (77, .v (.pointer (some ⟨g49, 0 + k * 7 + 0, none⟩)))], [.dead, .dead, .o (.slice (aS g49 0) ((jn ps ++ [n]).length) cj) ((jn ps ++ [n]).length) (ys.take (0 + k * 7 + 0) ++ [.int .i64 0] ++ ys.drop (0 + k * 7 + 0 + 1)) 26 7]⟩) rfl (by kernel_rfl) (g := g49) (off := 0 + k * 7 + 0) (by kernel_rfl) 2 (n := (jn ps ++ [n]).length) (cap := cj) (xs := ys) (e := 26) (sz := 7) (by kernel_rfl) [.int .i64 0] (by kernel_rfl) (one_lits _ (by kernel_rfl)) (by kernel_rfl) (by rw [hF2]; simp only [List.length_singleton]; omega) (by kernel_rfl) ?_
          refine At.nil ?_
          refine At.in_normal ?_
          refine At.then_normal ?_
          refine At.region ?_
          refine At.runk 1 [71, 77] [] ⟨fr 95 [(1, (vS X xs.length c)), (5, (vS Ao ps.length cs)), (9, (vS (aS g49 0) ((jn ps ++ [n]).length) cj)), (70, (vI ((jn ps ++ [n]).length : Int))), (78, (vI (IntKind.i64.wrap ((k : Int) + 1))))], [.dead, .dead, .o (.slice (aS g49 0) ((jn ps ++ [n]).length) cj) ((jn ps ++ [n]).length) (ys.take (0 + k * 7 + 0) ++ [.int .i64 0] ++ ys.drop (0 + k * 7 + 0 + 1)) 26 7]⟩ (by kernel_rfl) ?_
          refine At.cast (S' := ⟨fr 95 [(1, (vS X xs.length c)), (5, (vS Ao ps.length cs)), (9, (vS (aS g49 0) ((jn ps ++ [n]).length) cj)), (70, (vI ((jn ps ++ [n]).length : Int))), (78, (vI ((k : Int) + 1)))], [.dead, .dead, .o (.slice (aS g49 0) ((jn ps ++ [n]).length) cj) ((jn ps ++ [n]).length) (ys.take (0 + k * 7 + 0) ++ [.int .i64 0] ++ ys.drop (0 + k * 7 + 0 + 1)) 26 7]⟩) (by rw [wrapI (z := (k : Int) + 1) (by omega) (by omega)]) ?_
          refine At.runk 1 [78] [] ⟨fr 95 [(1, (vS X xs.length c)), (5, (vS Ao ps.length cs)), (9, (vS (aS g49 0) ((jn ps ++ [n]).length) cj)), (70, (vI ((jn ps ++ [n]).length : Int))), (71, (vI ((k : Int) + 1)))], [.dead, .dead, .o (.slice (aS g49 0) ((jn ps ++ [n]).length) cj) ((jn ps ++ [n]).length) (ys.take (0 + k * 7 + 0) ++ [.int .i64 0] ++ ys.drop (0 + k * 7 + 0 + 1)) 26 7]⟩ (by kernel_rfl) ?_
          refine At.nil ?_
          refine At.round (k + 1, (ys.take (0 + k * 7 + 0) ++ [.int .i64 0] ++ ys.drop (0 + k * 7 + 0 + 1))) (by kernel_rfl) (PhiLe.refl 0 _) ⟨by omega, by rw [set_len (by omega)]; exact hF.2⟩ (by omega)
        have hb48p : ¬ ((k : Int) < ((jn ps ++ [n]).length : Int)) := of_decide_eq_false hb48
        refine At.cast (S' := ⟨fr 95 [(1, (vS X xs.length c)), (5, (vS Ao ps.length cs)), (9, (vS Aj ((jn ps ++ [n]).length) cj)), (70, (vI ((jn ps ++ [n]).length : Int))), (71, (vI (k : Int))), (72, (vB false))], [.dead, .dead, .o (.slice Aj ((jn ps ++ [n]).length) cj) ((jn ps ++ [n]).length) ys 26 7]⟩) (by rw [hb48] <;> rfl) ?_
        refine At.cond_f (by kernel_rfl) ?_
        refine At.exit_ ?_
        refine At.then_exit ?_
        refine At.then_exit ?_
        refine At.in_here ?_
        refine At.then_normal ?_
        refine At.seq ?_
        refine At.seq ?_
        refine At.region ?_
        refine At.runk 3 [5, 9, 70, 71, 72] [2] ⟨fr 95 [(1, (vS X xs.length c)), (79, (vS Ao ps.length cs)), (80, (vI (ps.length : Int))), (81, (vI 0))], [.dead, .dead, .dead]⟩ (by kernel_rfl) ?_
        refine At.nil ?_
        refine At.then_normal ?_
        refine At.block ?_
        refine At.forget [] 0 [] ⟨fr 95 [(1, (vS X xs.length c)), (79, (vS Ao ps.length cs)), (80, (vI (ps.length : Int))), (81, (vI 0))], []⟩ (by kernel_rfl) (by kernel_rfl) (bleT rfl) ?_
        refine At.loop (T := Nat) (fun x => ⟨fr 95 [(1, (vS X xs.length c)), (79, (vS Ao ps.length cs)), (80, (vI (ps.length : Int))), (81, (vI (x : Int)))], []⟩) (fun x Φ => x ≤ ps.length) (fun x => ps.length - x) 0 (by kernel_rfl) (Nat.zero_le _) ?_
        rintro m Φ51 hle52 hF
        have hR := hR.mono hle52
        have hX := hX.mono hle52
        have hPs := hPs.mono hle52
        have hP := hP.mono hle52
        refine At.cast (S' := ⟨fr 95 [(1, (vS X xs.length c)), (79, (vS Ao ps.length cs)), (80, (vI (ps.length : Int))), (81, (vI (m : Int)))], []⟩) (by kernel_rfl) ?_
        refine At.seq ?_
        refine At.region ?_
        refine At.runk 1 [] [] ⟨fr 95 [(1, (vS X xs.length c)), (79, (vS Ao ps.length cs)), (80, (vI (ps.length : Int))), (81, (vI (m : Int))), (82, (vB (decide ((m : Int) < (ps.length : Int)))))], []⟩ (by kernel_rfl) ?_
        refine At.nil ?_
        refine At.then_normal ?_
        refine At.seq ?_
        refine At.bcase (decide ((m : Int) < (ps.length : Int))) (fun hb53 => ?_) (fun hb53 => ?_)
        · have hb53p : ((m : Int) < (ps.length : Int)) := of_decide_eq_true hb53
          refine At.cast (S' := ⟨fr 95 [(1, (vS X xs.length c)), (79, (vS Ao ps.length cs)), (80, (vI (ps.length : Int))), (81, (vI (m : Int))), (82, (vB true))], []⟩) (by rw [hb53] <;> rfl) ?_
          refine At.cond_t (by kernel_rfl) ?_
          refine At.skip ?_
          refine At.then_normal ?_
          refine At.seq ?_
          refine At.block ?_
          refine At.seq ?_
          refine At.region ?_
          refine At.runk 1 [82] [] ⟨fr 95 [(1, (vS X xs.length c)), (79, (vS Ao ps.length cs)), (80, (vI (ps.length : Int))), (81, (vI (m : Int))), (83, (vI (m : Int)))], []⟩ (by kernel_rfl) ?_
          obtain ⟨b54, off55, hAoeq⟩ : ∃ b off, Ao = some ⟨b, off, none⟩ := hP.addr (by rw [flat_len (sz := 1) (fun _ => rfl)]; omega)
          subst hAoeq
          refine At.idx (S' := ⟨fr 95 [(1, (vS X xs.length c)), (79, (vS (aS b54 off55) ps.length cs)), (80, (vI (ps.length : Int))), (81, (vI (m : Int))), (83, (vI (m : Int))), (84, .v (.pointer (some ⟨b54, off55 + m * 1, none⟩)))], []⟩) rfl (by kernel_rfl) (sz := 1) (e := 30) (by kernel_rfl) (by kernel_rfl) (by kernel_rfl) (b := b54) (off := off55) (n := ps.length) (cap := cs) (kd := .i64) (i := (m : Int)) (by kernel_rfl) (by omega) (by omega) (by kernel_rfl) ?_
          obtain ⟨e56, he57⟩ := get_some (l := ps) (i := m) (by omega)
          have e56R := hPs e56 (List.mem_of_getElem? he57)
          have e56l : e56.nds.length ≤ 1000000 := by have := hpk e56 (List.mem_of_getElem? he57); omega
          refine At.vals (S' := ⟨fr 95 [(1, (vS X xs.length c)), (79, (vS (aS b54 off55) ps.length cs)), (80, (vI (ps.length : Int))), (81, (vI (m : Int))), (83, (vI (m : Int))), (84, .v (.pointer (some ⟨b54, off55 + m * 1, none⟩))), (85, (vS e56.A e56.nds.length e56.c))], []⟩) (by kernel_rfl) ((vS e56.A e56.nds.length e56.c)) (by kernel_rfl) (Val.ldE rfl (enc := Pt.enc) (xs := ps) (b := b54) (off := off55) hP (sz := 1) (fun _ => rfl) (Nat.zero_lt_succ _) m e56 he57 0 (off55 + m * 1) (by omega) (by kernel_rfl) ((vS e56.A e56.nds.length e56.c)) (by kernel_rfl)) ?_
          refine At.runk 2 [83, 84, 85] [] ⟨fr 95 [(1, (vS X xs.length c)), (14, (vI (m : Int))), (15, (vS e56.A e56.nds.length e56.c)), (79, (vS (aS b54 off55) ps.length cs)), (80, (vI (ps.length : Int))), (81, (vI (m : Int)))], []⟩ (by kernel_rfl) ?_
          refine At.nil ?_
          refine At.then_normal ?_
          refine At.seq ?_
          refine At.region ?_
          refine At.runk 3 [14, 15] [] ⟨fr 95 [(1, (vS X xs.length c)), (79, (vS (aS b54 off55) ps.length cs)), (80, (vI (ps.length : Int))), (81, (vI (m : Int))), (86, (vS e56.A e56.nds.length e56.c)), (87, (vS X xs.length c)), (88, (vI (m : Int)))], []⟩ (by kernel_rfl) ?_
          obtain ⟨b58, off59, hXeq⟩ : ∃ b off, X = some ⟨b, off, none⟩ := hR.addr (by rw [flat_len (sz := 1) (fun _ => rfl)]; omega)
          subst hXeq
          refine At.idx (S' := ⟨fr 95 [(1, (vS (aS b58 off59) xs.length c)), (79, (vS (aS b54 off55) ps.length cs)), (80, (vI (ps.length : Int))), (81, (vI (m : Int))), (86, (vS e56.A e56.nds.length e56.c)), (87, (vS (aS b58 off59) xs.length c)), (88, (vI (m : Int))), (89, .v (.pointer (some ⟨b58, off59 + m * 1, none⟩)))], []⟩) rfl (by kernel_rfl) (sz := 1) (e := 30) (by kernel_rfl) (by kernel_rfl) (by kernel_rfl) (b := b58) (off := off59) (n := xs.length) (cap := c) (kd := .i64) (i := (m : Int)) (by kernel_rfl) (by omega) (by omega) (by kernel_rfl) ?_
          obtain ⟨e60, he61⟩ := get_some (l := xs) (i := m) (by omega)
          have e60R := hX e60 (List.mem_of_getElem? he61)
          have e60c := hcap e60 (List.mem_of_getElem? he61)
          refine At.vals (S' := ⟨fr 95 [(1, (vS (aS b58 off59) xs.length c)), (79, (vS (aS b54 off55) ps.length cs)), (80, (vI (ps.length : Int))), (81, (vI (m : Int))), (86, (vS e56.A e56.nds.length e56.c)), (87, (vS (aS b58 off59) xs.length c)), (88, (vI (m : Int))), (89, .v (.pointer (some ⟨b58, off59 + m * 1, none⟩))), (90, (vS e60.A e60.nds.length e60.c))], []⟩) (by kernel_rfl) ((vS e60.A e60.nds.length e60.c)) (by kernel_rfl) (Val.ldE rfl (enc := Pt.enc) (xs := xs) (b := b58) (off := off59) hR (sz := 1) (fun _ => rfl) (Nat.zero_lt_succ _) m e60 he61 0 (off59 + m * 1) (by omega) (by kernel_rfl) ((vS e60.A e60.nds.length e60.c)) (by kernel_rfl)) ?_
          refine At.callV rfl (by kernel_rfl) 10 [] [] (by kernel_rfl) Try.func10 (by kernel_rfl) (by kernel_rfl) [(vS e60.A e60.nds.length e60.c)] (by kernel_rfl) (by kernel_rfl) (own_c Φ51 e60.nds e60.A e60.c e60R e60c) ?_
          rintro Φ65 ⟨A62, c63⟩ hle66 h64
          have hR := hR.mono hle66
          have hX := hX.mono hle66
          have hPs := hPs.mono hle66
          have hP := hP.mono hle66
          have e56R := e56R.mono hle66
          have e60R := e60R.mono hle66
          dsimp only at h64
          have hsm : e56.nds = e60.nds.take 60 := own4_get hpm he57 he61
          refine ⟨⟨fr 95 [(1, (vS (aS b58 off59) xs.length c)), (79, (vS (aS b54 off55) ps.length cs)), (80, (vI (ps.length : Int))), (81, (vI (m : Int))), (86, (vS e56.A e56.nds.length e56.c)), (87, (vS (aS b58 off59) xs.length c)), (88, (vI (m : Int))), (89, .v (.pointer (some ⟨b58, off59 + m * 1, none⟩))), (90, (vS e60.A e60.nds.length e60.c)), (91, (vS A62 ((e60.nds.take 60).length) c63))], [.o (.slice A62 ((e60.nds.take 60).length) c63) ((e60.nds.take 60).length) ((e60.nds.take 60).flatMap Nd.cells) 26 7]⟩, by kernel_rfl, by kernel_rfl, ?_⟩
          refine At.freeze (S' := ⟨fr 95 [(1, (vS (aS b58 off59) xs.length c)), (79, (vS (aS b54 off55) ps.length cs)), (80, (vI (ps.length : Int))), (81, (vI (m : Int))), (86, (vS e56.A e56.nds.length e56.c)), (87, (vS (aS b58 off59) xs.length c)), (88, (vI (m : Int))), (89, .v (.pointer (some ⟨b58, off59 + m * 1, none⟩))), (90, (vS e60.A e60.nds.length e60.c)), (91, (vS A62 ((e60.nds.take 60).length) c63))], [.dead]⟩) 0 (A := A62) (n := (e60.nds.take 60).length) (c := c63) (xs := ((e60.nds.take 60).flatMap Nd.cells)) (e := 26) (sz := 7) (by kernel_rfl) (bleT rfl) (by kernel_rfl) ?_
          intro Φ67 hle68 hq3
          have hR := hR.mono hle68
          have hX := hX.mono hle68
          have hPs := hPs.mono hle68
          have hP := hP.mono hle68
          have e56R := e56R.mono hle68
          have e60R := e60R.mono hle68
          refine At.callV rfl (by kernel_rfl) 16 [] [] (by kernel_rfl) Try.func16 (by kernel_rfl) (by kernel_rfl) [(vS e56.A e56.nds.length e56.c), (vS A62 ((e60.nds.take 60).length) c63)] (by kernel_rfl) (by kernel_rfl) (rsame_c Φ67 e56.nds (e60.nds.take 60) e56.A A62 e56.c c63 e56R hq3 e56l (by simp only [List.length_take]; omega)) ?_
          rintro Φ69 ts hle70 hts
          have hR := hR.mono hle70
          have hX := hX.mono hle70
          have hPs := hPs.mono hle70
          have hP := hP.mono hle70
          have e56R := e56R.mono hle70
          have e60R := e60R.mono hle70
          have hq3 := hq3.mono hle70
          replace hts : ts = true := by rw [hts]; exact decide_eq_true hsm
          subst hts
          refine ⟨⟨fr 95 [(1, (vS (aS b58 off59) xs.length c)), (79, (vS (aS b54 off55) ps.length cs)), (80, (vI (ps.length : Int))), (81, (vI (m : Int))), (86, (vS e56.A e56.nds.length e56.c)), (87, (vS (aS b58 off59) xs.length c)), (88, (vI (m : Int))), (89, .v (.pointer (some ⟨b58, off59 + m * 1, none⟩))), (90, (vS e60.A e60.nds.length e60.c)), (91, (vS A62 ((e60.nds.take 60).length) c63)), (92, (vB true))], [.dead]⟩, by kernel_rfl, by kernel_rfl, ?_⟩
          refine At.runk 1 [86, 87, 88, 89, 90, 91, 92] [] ⟨fr 95 [(1, (vS (aS b58 off59) xs.length c)), (79, (vS (aS b54 off55) ps.length cs)), (80, (vI (ps.length : Int))), (81, (vI (m : Int))), (93, (vB false))], [.dead]⟩ (by kernel_rfl) ?_
          refine At.nil ?_
          refine At.then_normal ?_
          refine At.cond_f (by kernel_rfl) ?_
          refine At.skip ?_
          refine At.in_normal ?_
          refine At.then_normal ?_
          refine At.region ?_
          refine At.runk 1 [81, 93] [] ⟨fr 95 [(1, (vS (aS b58 off59) xs.length c)), (79, (vS (aS b54 off55) ps.length cs)), (80, (vI (ps.length : Int))), (94, (vI (IntKind.i64.wrap ((m : Int) + 1))))], [.dead]⟩ (by kernel_rfl) ?_
          refine At.cast (S' := ⟨fr 95 [(1, (vS (aS b58 off59) xs.length c)), (79, (vS (aS b54 off55) ps.length cs)), (80, (vI (ps.length : Int))), (94, (vI ((m : Int) + 1)))], [.dead]⟩) (by rw [wrapI (z := (m : Int) + 1) (by omega) (by omega)]) ?_
          refine At.runk 1 [94] [] ⟨fr 95 [(1, (vS (aS b58 off59) xs.length c)), (79, (vS (aS b54 off55) ps.length cs)), (80, (vI (ps.length : Int))), (81, (vI ((m : Int) + 1)))], [.dead]⟩ (by kernel_rfl) ?_
          refine At.nil ?_
          refine At.forget [] 0 [] ⟨fr 95 [(1, (vS (aS b58 off59) xs.length c)), (79, (vS (aS b54 off55) ps.length cs)), (80, (vI (ps.length : Int))), (81, (vI ((m : Int) + 1)))], []⟩ (by kernel_rfl) (by kernel_rfl) (bleT rfl) ?_
          refine At.round (m + 1) (by kernel_rfl) ((hle66.trans hle68).trans hle70) (by omega) (by omega)
        have hb53p : ¬ ((m : Int) < (ps.length : Int)) := of_decide_eq_false hb53
        refine At.cast (S' := ⟨fr 95 [(1, (vS X xs.length c)), (79, (vS Ao ps.length cs)), (80, (vI (ps.length : Int))), (81, (vI (m : Int))), (82, (vB false))], []⟩) (by rw [hb53] <;> rfl) ?_
        refine At.cond_f (by kernel_rfl) ?_
        refine At.exit_ ?_
        refine At.then_exit ?_
        refine At.then_exit ?_
        refine At.in_here ?_
        refine At.then_normal ?_
        refine At.seq ?_
        refine At.region ?_
        refine At.runk 1 [1, 79, 80, 81, 82] [] ⟨fr 95 [(4, (vB true))], []⟩ (by kernel_rfl) ?_
        refine At.nil ?_
        refine At.then_normal ?_
        refine At.ret_ ?_
        refine At.leaveR rfl () (by kernel_rfl) (by kernel_rfl) (by kernel_rfl) ?_
        trivial
      have hb43p : ¬ ((ps.length : Int) = (ps.length : Int)) := beq_eq_false_iff_ne.1 hb43
      exfalso; simp_all
    refine At.callV rfl (by kernel_rfl) 12 [] [] (by kernel_rfl) Try.func12 (by kernel_rfl) (by kernel_rfl) [.agg n.sv, (vS Ao ps.length cs)] (by kernel_rfl) (by kernel_rfl) (join_node Φ33 n nw ps Ao cs hP hPs (fun p hp => by have := hpk p hp; omega) hpw (by omega) (hr.1 (by assumption)) hc36) ?_
    rintro Φ71 ⟨⟩ hle72 -
    have hR := hR.mono hle72
    have hX := hX.mono hle72
    have hPs := hPs.mono hle72
    have hP := hP.mono hle72
    have hno := hc36
    refine ⟨⟨fr 95 [(1, (vS X xs.length c)), (2, .p 0 0), (5, (vS Ao ps.length cs)), (6, (vB true)), (41, .agg n.sv), (42, (vS Ao ps.length cs)), (43, .tup [(vS none 0 0), (vI 2)])], [.c n.sv 26, .dead]⟩, by kernel_rfl, by kernel_rfl, ?_⟩
    refine At.runk 5 [40, 41, 42, 43, 44, 45] [] ⟨fr 95 [(1, (vS X xs.length c)), (2, .p 0 0), (5, (vS Ao ps.length cs)), (6, (vB true)), (9, (vS none 0 0)), (10, (vI 2))], [.c n.sv 26, .dead]⟩ (by kernel_rfl) ?_
    refine At.nil ?_
    refine At.then_normal ?_
    refine At.seq ?_
    refine At.region ?_
    refine At.runk 1 [] [] ⟨fr 95 [(1, (vS X xs.length c)), (2, .p 0 0), (5, (vS Ao ps.length cs)), (6, (vB true)), (9, (vS none 0 0)), (10, (vI 2)), (11, (vS none 0 0))], [.c n.sv 26, .dead]⟩ (by kernel_rfl) ?_
    refine At.nil ?_
    refine At.then_normal ?_
    refine At.seq ?_
    refine At.region ?_
    refine At.runk 1 [] [] ⟨fr 95 [(1, (vS X xs.length c)), (2, .p 0 0), (5, (vS Ao ps.length cs)), (6, (vB true)), (9, (vS none 0 0)), (10, (vI 2)), (11, (vS none 0 0)), (12, (vI 140))], [.c n.sv 26, .dead]⟩ (by kernel_rfl) ?_
    refine At.nil ?_
    refine At.then_normal ?_
    refine At.seq ?_
    refine At.seq ?_
    refine At.region ?_
    refine At.runk 1 [6] [] ⟨fr 95 [(1, (vS X xs.length c)), (2, .p 0 0), (5, (vS Ao ps.length cs)), (9, (vS none 0 0)), (10, (vI 2)), (11, (vS none 0 0)), (12, (vI 140)), (46, (vB true))], [.c n.sv 26, .dead]⟩ (by kernel_rfl) ?_
    refine At.nil ?_
    refine At.then_normal ?_
    refine At.cond_t (by kernel_rfl) ?_
    refine At.seq ?_
    refine At.region ?_
    refine At.runk 1 [46] [] ⟨fr 95 [(1, (vS X xs.length c)), (2, .p 0 0), (5, (vS Ao ps.length cs)), (9, (vS none 0 0)), (10, (vI 2)), (11, (vS none 0 0)), (12, (vI 2))], [.c n.sv 26, .dead]⟩ (by kernel_rfl) ?_
    refine At.nil ?_
    refine At.then_normal ?_
    refine At.seq ?_
    refine At.region ?_
    refine At.runk 1 [] [] ⟨fr 95 [(1, (vS X xs.length c)), (2, .p 0 0), (5, (vS Ao ps.length cs)), (9, (vS none 0 0)), (10, (vI 2)), (11, (vS none 0 0)), (12, (vI 2)), (47, .agg n.sv)], [.c n.sv 26, .dead]⟩ (by kernel_rfl) ?_
    refine At.callV rfl (by kernel_rfl) 13 [] [] (by kernel_rfl) Try.func13 (by kernel_rfl) (by kernel_rfl) [.agg n.sv] (by kernel_rfl) (by kernel_rfl) (rnode_c Φ71 n) ?_
    rintro Φ73 _ hle74 rfl
    have hR := hR.mono hle74
    have hX := hX.mono hle74
    have hPs := hPs.mono hle74
    have hP := hP.mono hle74
    refine ⟨⟨fr 95 [(1, (vS X xs.length c)), (2, .p 0 0), (5, (vS Ao ps.length cs)), (9, (vS none 0 0)), (10, (vI 2)), (11, (vS none 0 0)), (12, (vI 2)), (47, .agg n.sv), (48, (vB n.may))], [.c n.sv 26, .dead]⟩, by kernel_rfl, by kernel_rfl, ?_⟩
    refine At.runk 1 [47, 48] [] ⟨fr 95 [(1, (vS X xs.length c)), (2, .p 0 0), (5, (vS Ao ps.length cs)), (9, (vS none 0 0)), (10, (vI 2)), (11, (vS none 0 0)), (12, (vI 2)), (49, (vB n.may))], [.c n.sv 26, .dead]⟩ (by kernel_rfl) ?_
    refine At.bcase n.may (fun hb75 => ?_) (fun hb75 => ?_)
    · refine At.cast (S' := ⟨fr 95 [(1, (vS X xs.length c)), (2, .p 0 0), (5, (vS Ao ps.length cs)), (9, (vS none 0 0)), (10, (vI 2)), (11, (vS none 0 0)), (12, (vI 2)), (49, (vB true))], [.c n.sv 26, .dead]⟩) (by rw [hb75] <;> rfl) ?_
      refine At.runk 2 [50] [] ⟨fr 95 [(1, (vS X xs.length c)), (2, .p 0 0), (5, (vS Ao ps.length cs)), (9, (vS none 0 0)), (10, (vI 2)), (11, (vS none 0 0)), (12, (vI 2)), (49, (vB true)), (51, (vI n.kind))], [.c n.sv 26, .dead]⟩ (by kernel_rfl) ?_
      refine At.callV rfl (by kernel_rfl) 14 [] [] (by kernel_rfl) Try.func14 (by kernel_rfl) (by kernel_rfl) [(vI n.kind)] (by kernel_rfl) (by kernel_rfl) (arity_c Φ73 n.kind) ?_
      rintro Φ76 _ hle77 rfl
      have hR := hR.mono hle77
      have hX := hX.mono hle77
      have hPs := hPs.mono hle77
      have hP := hP.mono hle77
      refine ⟨⟨fr 95 [(1, (vS X xs.length c)), (2, .p 0 0), (5, (vS Ao ps.length cs)), (9, (vS none 0 0)), (10, (vI 2)), (11, (vS none 0 0)), (12, (vI 2)), (49, (vB true)), (51, (vI n.kind)), (52, (vI (arity n.kind)))], [.c n.sv 26, .dead]⟩, by kernel_rfl, by kernel_rfl, ?_⟩
      refine At.runk 4 [49, 51, 52, 53, 54, 55] [] ⟨fr 95 [(1, (vS X xs.length c)), (2, .p 0 0), (5, (vS Ao ps.length cs)), (9, (vS none 0 0)), (10, (vI 2)), (11, (vS none 0 0)), (12, (vI 2)), (56, (vB ((arity n.kind) == (ps.length : Int))))], [.c n.sv 26, .dead]⟩ (by kernel_rfl) ?_
      refine At.nil ?_
      refine At.then_normal ?_
      refine At.bcase ((arity n.kind) == (ps.length : Int)) (fun hb78 => ?_) (fun hb78 => ?_)
      · have hb78p : ((arity n.kind) = (ps.length : Int)) := eq_of_beq hb78
        exfalso; exact hno ⟨by assumption, by rename_i hmy _ _; first | (have := arity_of_may hmy; have := ar_kar n; omega) | (have := arity_of_may (n := n) (by assumption); have := ar_kar n; omega)⟩
      have hb78p : ¬ ((arity n.kind) = (ps.length : Int)) := beq_eq_false_iff_ne.1 hb78
      refine At.cast (S' := ⟨fr 95 [(1, (vS X xs.length c)), (2, .p 0 0), (5, (vS Ao ps.length cs)), (9, (vS none 0 0)), (10, (vI 2)), (11, (vS none 0 0)), (12, (vI 2)), (56, (vB false))], [.c n.sv 26, .dead]⟩) (by rw [hb78] <;> rfl) ?_
      refine At.cond_f (by kernel_rfl) ?_
      refine At.skip ?_
      refine At.then_normal ?_
      refine At.seq ?_
      refine At.seq ?_
      refine At.region ?_
      refine At.runk 6 [2, 10, 11, 12, 56, 60, 61, 62] [0] ⟨fr 95 [(1, (vS X xs.length c)), (5, (vS Ao ps.length cs)), (9, (vS none 0 0)), (63, (vB false)), (64, (vS none 0 0)), (65, (vS none 0 0))], [.dead, .dead]⟩ (by kernel_rfl) ?_
      refine At.callV rfl (by kernel_rfl) 16 [] [] (by kernel_rfl) Try.func16 (by kernel_rfl) (by kernel_rfl) [(vS none 0 0), (vS none 0 0)] (by kernel_rfl) (by kernel_rfl) (rsame_c Φ76 [] [] none none 0 0 ndsAt_nil ndsAt_nil (Nat.zero_le _) (Nat.zero_le _)) ?_
      rintro Φ79 ts hle80 hts
      have hR := hR.mono hle80
      have hX := hX.mono hle80
      have hPs := hPs.mono hle80
      have hP := hP.mono hle80
      replace hts : ts = true := hts
      subst hts
      refine ⟨⟨fr 95 [(1, (vS X xs.length c)), (5, (vS Ao ps.length cs)), (9, (vS none 0 0)), (63, (vB false)), (64, (vS none 0 0)), (65, (vS none 0 0)), (66, (vB true))], [.dead, .dead]⟩, by kernel_rfl, by kernel_rfl, ?_⟩
      refine At.runk 2 [63, 64, 65, 66, 67] [] ⟨fr 95 [(1, (vS X xs.length c)), (5, (vS Ao ps.length cs)), (9, (vS none 0 0)), (68, (vB false))], [.dead, .dead]⟩ (by kernel_rfl) ?_
      refine At.nil ?_
      refine At.then_normal ?_
      refine At.cond_f (by kernel_rfl) ?_
      refine At.skip ?_
      refine At.then_normal ?_
      refine At.seq ?_
      refine At.seq ?_
      refine At.region ?_
      refine At.runk 3 [68, 69] [] ⟨fr 95 [(1, (vS X xs.length c)), (5, (vS Ao ps.length cs)), (9, (vS none 0 0)), (70, (vI 0)), (71, (vI 0))], [.dead, .dead]⟩ (by kernel_rfl) ?_
      refine At.nil ?_
      refine At.then_normal ?_
      refine At.block ?_
      refine At.forget [] 0 [] ⟨fr 95 [(1, (vS X xs.length c)), (5, (vS Ao ps.length cs)), (9, (vS none 0 0)), (70, (vI 0)), (71, (vI 0))], []⟩ (by kernel_rfl) (by kernel_rfl) (bleT rfl) ?_
      refine At.loop (T := Unit) (fun x => ⟨fr 95 [(1, (vS X xs.length c)), (5, (vS Ao ps.length cs)), (9, (vS none 0 0)), (70, (vI 0)), (71, (vI 0))], []⟩) (fun x Φ => True) (fun x => 0) () (by kernel_rfl) trivial ?_
      rintro x Φ81 hle82 -
      have hR := hR.mono hle82
      have hX := hX.mono hle82
      have hPs := hPs.mono hle82
      have hP := hP.mono hle82
      refine At.cast (S' := ⟨fr 95 [(1, (vS X xs.length c)), (5, (vS Ao ps.length cs)), (9, (vS none 0 0)), (70, (vI 0)), (71, (vI 0))], []⟩) (by kernel_rfl) ?_
      refine At.seq ?_
      refine At.region ?_
      refine At.runk 1 [] [] ⟨fr 95 [(1, (vS X xs.length c)), (5, (vS Ao ps.length cs)), (9, (vS none 0 0)), (70, (vI 0)), (71, (vI 0)), (72, (vB false))], []⟩ (by kernel_rfl) ?_
      refine At.nil ?_
      refine At.then_normal ?_
      refine At.seq ?_
      refine At.cond_f (by kernel_rfl) ?_
      refine At.exit_ ?_
      refine At.then_exit ?_
      refine At.then_exit ?_
      refine At.in_here ?_
      refine At.then_normal ?_
      refine At.seq ?_
      refine At.seq ?_
      refine At.region ?_
      refine At.runk 3 [5, 9, 70, 71, 72] [] ⟨fr 95 [(1, (vS X xs.length c)), (79, (vS Ao ps.length cs)), (80, (vI (ps.length : Int))), (81, (vI 0))], []⟩ (by kernel_rfl) ?_
      refine At.nil ?_
      refine At.then_normal ?_
      refine At.block ?_
      refine At.loop (T := Nat) (fun x => ⟨fr 95 [(1, (vS X xs.length c)), (79, (vS Ao ps.length cs)), (80, (vI (ps.length : Int))), (81, (vI (x : Int)))], []⟩) (fun x Φ => x ≤ ps.length) (fun x => ps.length - x) 0 (by kernel_rfl) (Nat.zero_le _) ?_
      rintro m Φ83 hle84 hF
      have hR := hR.mono hle84
      have hX := hX.mono hle84
      have hPs := hPs.mono hle84
      have hP := hP.mono hle84
      refine At.cast (S' := ⟨fr 95 [(1, (vS X xs.length c)), (79, (vS Ao ps.length cs)), (80, (vI (ps.length : Int))), (81, (vI (m : Int)))], []⟩) (by kernel_rfl) ?_
      refine At.seq ?_
      refine At.region ?_
      refine At.runk 1 [] [] ⟨fr 95 [(1, (vS X xs.length c)), (79, (vS Ao ps.length cs)), (80, (vI (ps.length : Int))), (81, (vI (m : Int))), (82, (vB (decide ((m : Int) < (ps.length : Int)))))], []⟩ (by kernel_rfl) ?_
      refine At.nil ?_
      refine At.then_normal ?_
      refine At.seq ?_
      refine At.bcase (decide ((m : Int) < (ps.length : Int))) (fun hb85 => ?_) (fun hb85 => ?_)
      · have hb85p : ((m : Int) < (ps.length : Int)) := of_decide_eq_true hb85
        refine At.cast (S' := ⟨fr 95 [(1, (vS X xs.length c)), (79, (vS Ao ps.length cs)), (80, (vI (ps.length : Int))), (81, (vI (m : Int))), (82, (vB true))], []⟩) (by rw [hb85] <;> rfl) ?_
        refine At.cond_t (by kernel_rfl) ?_
        refine At.skip ?_
        refine At.then_normal ?_
        refine At.seq ?_
        refine At.block ?_
        refine At.seq ?_
        refine At.region ?_
        refine At.runk 1 [82] [] ⟨fr 95 [(1, (vS X xs.length c)), (79, (vS Ao ps.length cs)), (80, (vI (ps.length : Int))), (81, (vI (m : Int))), (83, (vI (m : Int)))], []⟩ (by kernel_rfl) ?_
        obtain ⟨b86, off87, hAoeq⟩ : ∃ b off, Ao = some ⟨b, off, none⟩ := hP.addr (by rw [flat_len (sz := 1) (fun _ => rfl)]; omega)
        subst hAoeq
        refine At.idx (S' := ⟨fr 95 [(1, (vS X xs.length c)), (79, (vS (aS b86 off87) ps.length cs)), (80, (vI (ps.length : Int))), (81, (vI (m : Int))), (83, (vI (m : Int))), (84, .v (.pointer (some ⟨b86, off87 + m * 1, none⟩)))], []⟩) rfl (by kernel_rfl) (sz := 1) (e := 30) (by kernel_rfl) (by kernel_rfl) (by kernel_rfl) (b := b86) (off := off87) (n := ps.length) (cap := cs) (kd := .i64) (i := (m : Int)) (by kernel_rfl) (by omega) (by omega) (by kernel_rfl) ?_
        obtain ⟨e88, he89⟩ := get_some (l := ps) (i := m) (by omega)
        have e88R := hPs e88 (List.mem_of_getElem? he89)
        have e88l : e88.nds.length ≤ 1000000 := by have := hpk e88 (List.mem_of_getElem? he89); omega
        refine At.vals (S' := ⟨fr 95 [(1, (vS X xs.length c)), (79, (vS (aS b86 off87) ps.length cs)), (80, (vI (ps.length : Int))), (81, (vI (m : Int))), (83, (vI (m : Int))), (84, .v (.pointer (some ⟨b86, off87 + m * 1, none⟩))), (85, (vS e88.A e88.nds.length e88.c))], []⟩) (by kernel_rfl) ((vS e88.A e88.nds.length e88.c)) (by kernel_rfl) (Val.ldE rfl (enc := Pt.enc) (xs := ps) (b := b86) (off := off87) hP (sz := 1) (fun _ => rfl) (Nat.zero_lt_succ _) m e88 he89 0 (off87 + m * 1) (by omega) (by kernel_rfl) ((vS e88.A e88.nds.length e88.c)) (by kernel_rfl)) ?_
        refine At.runk 2 [83, 84, 85] [] ⟨fr 95 [(1, (vS X xs.length c)), (14, (vI (m : Int))), (15, (vS e88.A e88.nds.length e88.c)), (79, (vS (aS b86 off87) ps.length cs)), (80, (vI (ps.length : Int))), (81, (vI (m : Int)))], []⟩ (by kernel_rfl) ?_
        refine At.nil ?_
        refine At.then_normal ?_
        refine At.seq ?_
        refine At.region ?_
        refine At.runk 3 [14, 15] [] ⟨fr 95 [(1, (vS X xs.length c)), (79, (vS (aS b86 off87) ps.length cs)), (80, (vI (ps.length : Int))), (81, (vI (m : Int))), (86, (vS e88.A e88.nds.length e88.c)), (87, (vS X xs.length c)), (88, (vI (m : Int)))], []⟩ (by kernel_rfl) ?_
        obtain ⟨b90, off91, hXeq⟩ : ∃ b off, X = some ⟨b, off, none⟩ := hR.addr (by rw [flat_len (sz := 1) (fun _ => rfl)]; omega)
        subst hXeq
        refine At.idx (S' := ⟨fr 95 [(1, (vS (aS b90 off91) xs.length c)), (79, (vS (aS b86 off87) ps.length cs)), (80, (vI (ps.length : Int))), (81, (vI (m : Int))), (86, (vS e88.A e88.nds.length e88.c)), (87, (vS (aS b90 off91) xs.length c)), (88, (vI (m : Int))), (89, .v (.pointer (some ⟨b90, off91 + m * 1, none⟩)))], []⟩) rfl (by kernel_rfl) (sz := 1) (e := 30) (by kernel_rfl) (by kernel_rfl) (by kernel_rfl) (b := b90) (off := off91) (n := xs.length) (cap := c) (kd := .i64) (i := (m : Int)) (by kernel_rfl) (by omega) (by omega) (by kernel_rfl) ?_
        obtain ⟨e92, he93⟩ := get_some (l := xs) (i := m) (by omega)
        have e92R := hX e92 (List.mem_of_getElem? he93)
        have e92c := hcap e92 (List.mem_of_getElem? he93)
        refine At.vals (S' := ⟨fr 95 [(1, (vS (aS b90 off91) xs.length c)), (79, (vS (aS b86 off87) ps.length cs)), (80, (vI (ps.length : Int))), (81, (vI (m : Int))), (86, (vS e88.A e88.nds.length e88.c)), (87, (vS (aS b90 off91) xs.length c)), (88, (vI (m : Int))), (89, .v (.pointer (some ⟨b90, off91 + m * 1, none⟩))), (90, (vS e92.A e92.nds.length e92.c))], []⟩) (by kernel_rfl) ((vS e92.A e92.nds.length e92.c)) (by kernel_rfl) (Val.ldE rfl (enc := Pt.enc) (xs := xs) (b := b90) (off := off91) hR (sz := 1) (fun _ => rfl) (Nat.zero_lt_succ _) m e92 he93 0 (off91 + m * 1) (by omega) (by kernel_rfl) ((vS e92.A e92.nds.length e92.c)) (by kernel_rfl)) ?_
        refine At.callV rfl (by kernel_rfl) 10 [] [] (by kernel_rfl) Try.func10 (by kernel_rfl) (by kernel_rfl) [(vS e92.A e92.nds.length e92.c)] (by kernel_rfl) (by kernel_rfl) (own_c Φ83 e92.nds e92.A e92.c e92R e92c) ?_
        rintro Φ97 ⟨A94, c95⟩ hle98 h96
        have hR := hR.mono hle98
        have hX := hX.mono hle98
        have hPs := hPs.mono hle98
        have hP := hP.mono hle98
        have e88R := e88R.mono hle98
        have e92R := e92R.mono hle98
        dsimp only at h96
        have hsm : e88.nds = e92.nds.take 60 := own4_get hpm he89 he93
        refine ⟨⟨fr 95 [(1, (vS (aS b90 off91) xs.length c)), (79, (vS (aS b86 off87) ps.length cs)), (80, (vI (ps.length : Int))), (81, (vI (m : Int))), (86, (vS e88.A e88.nds.length e88.c)), (87, (vS (aS b90 off91) xs.length c)), (88, (vI (m : Int))), (89, .v (.pointer (some ⟨b90, off91 + m * 1, none⟩))), (90, (vS e92.A e92.nds.length e92.c)), (91, (vS A94 ((e92.nds.take 60).length) c95))], [.o (.slice A94 ((e92.nds.take 60).length) c95) ((e92.nds.take 60).length) ((e92.nds.take 60).flatMap Nd.cells) 26 7]⟩, by kernel_rfl, by kernel_rfl, ?_⟩
        refine At.freeze (S' := ⟨fr 95 [(1, (vS (aS b90 off91) xs.length c)), (79, (vS (aS b86 off87) ps.length cs)), (80, (vI (ps.length : Int))), (81, (vI (m : Int))), (86, (vS e88.A e88.nds.length e88.c)), (87, (vS (aS b90 off91) xs.length c)), (88, (vI (m : Int))), (89, .v (.pointer (some ⟨b90, off91 + m * 1, none⟩))), (90, (vS e92.A e92.nds.length e92.c)), (91, (vS A94 ((e92.nds.take 60).length) c95))], [.dead]⟩) 0 (A := A94) (n := (e92.nds.take 60).length) (c := c95) (xs := ((e92.nds.take 60).flatMap Nd.cells)) (e := 26) (sz := 7) (by kernel_rfl) (bleT rfl) (by kernel_rfl) ?_
        intro Φ99 hle100 hq3
        have hR := hR.mono hle100
        have hX := hX.mono hle100
        have hPs := hPs.mono hle100
        have hP := hP.mono hle100
        have e88R := e88R.mono hle100
        have e92R := e92R.mono hle100
        refine At.callV rfl (by kernel_rfl) 16 [] [] (by kernel_rfl) Try.func16 (by kernel_rfl) (by kernel_rfl) [(vS e88.A e88.nds.length e88.c), (vS A94 ((e92.nds.take 60).length) c95)] (by kernel_rfl) (by kernel_rfl) (rsame_c Φ99 e88.nds (e92.nds.take 60) e88.A A94 e88.c c95 e88R hq3 e88l (by simp only [List.length_take]; omega)) ?_
        rintro Φ101 ts hle102 hts
        have hR := hR.mono hle102
        have hX := hX.mono hle102
        have hPs := hPs.mono hle102
        have hP := hP.mono hle102
        have e88R := e88R.mono hle102
        have e92R := e92R.mono hle102
        have hq3 := hq3.mono hle102
        replace hts : ts = true := by rw [hts]; exact decide_eq_true hsm
        subst hts
        refine ⟨⟨fr 95 [(1, (vS (aS b90 off91) xs.length c)), (79, (vS (aS b86 off87) ps.length cs)), (80, (vI (ps.length : Int))), (81, (vI (m : Int))), (86, (vS e88.A e88.nds.length e88.c)), (87, (vS (aS b90 off91) xs.length c)), (88, (vI (m : Int))), (89, .v (.pointer (some ⟨b90, off91 + m * 1, none⟩))), (90, (vS e92.A e92.nds.length e92.c)), (91, (vS A94 ((e92.nds.take 60).length) c95)), (92, (vB true))], [.dead]⟩, by kernel_rfl, by kernel_rfl, ?_⟩
        refine At.runk 1 [86, 87, 88, 89, 90, 91, 92] [] ⟨fr 95 [(1, (vS (aS b90 off91) xs.length c)), (79, (vS (aS b86 off87) ps.length cs)), (80, (vI (ps.length : Int))), (81, (vI (m : Int))), (93, (vB false))], [.dead]⟩ (by kernel_rfl) ?_
        refine At.nil ?_
        refine At.then_normal ?_
        refine At.cond_f (by kernel_rfl) ?_
        refine At.skip ?_
        refine At.in_normal ?_
        refine At.then_normal ?_
        refine At.region ?_
        refine At.runk 1 [81, 93] [] ⟨fr 95 [(1, (vS (aS b90 off91) xs.length c)), (79, (vS (aS b86 off87) ps.length cs)), (80, (vI (ps.length : Int))), (94, (vI (IntKind.i64.wrap ((m : Int) + 1))))], [.dead]⟩ (by kernel_rfl) ?_
        refine At.cast (S' := ⟨fr 95 [(1, (vS (aS b90 off91) xs.length c)), (79, (vS (aS b86 off87) ps.length cs)), (80, (vI (ps.length : Int))), (94, (vI ((m : Int) + 1)))], [.dead]⟩) (by rw [wrapI (z := (m : Int) + 1) (by omega) (by omega)]) ?_
        refine At.runk 1 [94] [] ⟨fr 95 [(1, (vS (aS b90 off91) xs.length c)), (79, (vS (aS b86 off87) ps.length cs)), (80, (vI (ps.length : Int))), (81, (vI ((m : Int) + 1)))], [.dead]⟩ (by kernel_rfl) ?_
        refine At.nil ?_
        refine At.forget [] 0 [] ⟨fr 95 [(1, (vS (aS b90 off91) xs.length c)), (79, (vS (aS b86 off87) ps.length cs)), (80, (vI (ps.length : Int))), (81, (vI ((m : Int) + 1)))], []⟩ (by kernel_rfl) (by kernel_rfl) (bleT rfl) ?_
        refine At.round (m + 1) (by kernel_rfl) ((hle98.trans hle100).trans hle102) (by omega) (by omega)
      have hb85p : ¬ ((m : Int) < (ps.length : Int)) := of_decide_eq_false hb85
      refine At.cast (S' := ⟨fr 95 [(1, (vS X xs.length c)), (79, (vS Ao ps.length cs)), (80, (vI (ps.length : Int))), (81, (vI (m : Int))), (82, (vB false))], []⟩) (by rw [hb85] <;> rfl) ?_
      refine At.cond_f (by kernel_rfl) ?_
      refine At.exit_ ?_
      refine At.then_exit ?_
      refine At.then_exit ?_
      refine At.in_here ?_
      refine At.then_normal ?_
      refine At.seq ?_
      refine At.region ?_
      refine At.runk 1 [1, 79, 80, 81, 82] [] ⟨fr 95 [(4, (vB true))], []⟩ (by kernel_rfl) ?_
      refine At.nil ?_
      refine At.then_normal ?_
      refine At.ret_ ?_
      refine At.leaveR rfl () (by kernel_rfl) (by kernel_rfl) (by kernel_rfl) ?_
      trivial
    refine At.cast (S' := ⟨fr 95 [(1, (vS X xs.length c)), (2, .p 0 0), (5, (vS Ao ps.length cs)), (9, (vS none 0 0)), (10, (vI 2)), (11, (vS none 0 0)), (12, (vI 2)), (49, (vB false))], [.c n.sv 26, .dead]⟩) (by rw [hb75] <;> rfl) ?_
    refine At.runk 7 [49, 50, 51, 52, 53, 54, 55] [] ⟨fr 95 [(1, (vS X xs.length c)), (2, .p 0 0), (5, (vS Ao ps.length cs)), (9, (vS none 0 0)), (10, (vI 2)), (11, (vS none 0 0)), (12, (vI 2)), (56, (vB false))], [.c n.sv 26, .dead]⟩ (by kernel_rfl) ?_
    refine At.nil ?_
    refine At.then_normal ?_
    refine At.cond_f (by kernel_rfl) ?_
    refine At.skip ?_
    refine At.then_normal ?_
    refine At.seq ?_
    refine At.seq ?_
    refine At.region ?_
    refine At.runk 6 [2, 10, 11, 12, 56, 60, 61, 62] [0] ⟨fr 95 [(1, (vS X xs.length c)), (5, (vS Ao ps.length cs)), (9, (vS none 0 0)), (63, (vB false)), (64, (vS none 0 0)), (65, (vS none 0 0))], [.dead, .dead]⟩ (by kernel_rfl) ?_
    refine At.callV rfl (by kernel_rfl) 16 [] [] (by kernel_rfl) Try.func16 (by kernel_rfl) (by kernel_rfl) [(vS none 0 0), (vS none 0 0)] (by kernel_rfl) (by kernel_rfl) (rsame_c Φ73 [] [] none none 0 0 ndsAt_nil ndsAt_nil (Nat.zero_le _) (Nat.zero_le _)) ?_
    rintro Φ103 ts hle104 hts
    have hR := hR.mono hle104
    have hX := hX.mono hle104
    have hPs := hPs.mono hle104
    have hP := hP.mono hle104
    replace hts : ts = true := hts
    subst hts
    refine ⟨⟨fr 95 [(1, (vS X xs.length c)), (5, (vS Ao ps.length cs)), (9, (vS none 0 0)), (63, (vB false)), (64, (vS none 0 0)), (65, (vS none 0 0)), (66, (vB true))], [.dead, .dead]⟩, by kernel_rfl, by kernel_rfl, ?_⟩
    refine At.runk 2 [63, 64, 65, 66, 67] [] ⟨fr 95 [(1, (vS X xs.length c)), (5, (vS Ao ps.length cs)), (9, (vS none 0 0)), (68, (vB false))], [.dead, .dead]⟩ (by kernel_rfl) ?_
    refine At.nil ?_
    refine At.then_normal ?_
    refine At.cond_f (by kernel_rfl) ?_
    refine At.skip ?_
    refine At.then_normal ?_
    refine At.seq ?_
    refine At.seq ?_
    refine At.region ?_
    refine At.runk 3 [68, 69] [] ⟨fr 95 [(1, (vS X xs.length c)), (5, (vS Ao ps.length cs)), (9, (vS none 0 0)), (70, (vI 0)), (71, (vI 0))], [.dead, .dead]⟩ (by kernel_rfl) ?_
    refine At.nil ?_
    refine At.then_normal ?_
    refine At.block ?_
    refine At.forget [] 0 [] ⟨fr 95 [(1, (vS X xs.length c)), (5, (vS Ao ps.length cs)), (9, (vS none 0 0)), (70, (vI 0)), (71, (vI 0))], []⟩ (by kernel_rfl) (by kernel_rfl) (bleT rfl) ?_
    refine At.loop (T := Unit) (fun x => ⟨fr 95 [(1, (vS X xs.length c)), (5, (vS Ao ps.length cs)), (9, (vS none 0 0)), (70, (vI 0)), (71, (vI 0))], []⟩) (fun x Φ => True) (fun x => 0) () (by kernel_rfl) trivial ?_
    rintro x Φ105 hle106 -
    have hR := hR.mono hle106
    have hX := hX.mono hle106
    have hPs := hPs.mono hle106
    have hP := hP.mono hle106
    refine At.cast (S' := ⟨fr 95 [(1, (vS X xs.length c)), (5, (vS Ao ps.length cs)), (9, (vS none 0 0)), (70, (vI 0)), (71, (vI 0))], []⟩) (by kernel_rfl) ?_
    refine At.seq ?_
    refine At.region ?_
    refine At.runk 1 [] [] ⟨fr 95 [(1, (vS X xs.length c)), (5, (vS Ao ps.length cs)), (9, (vS none 0 0)), (70, (vI 0)), (71, (vI 0)), (72, (vB false))], []⟩ (by kernel_rfl) ?_
    refine At.nil ?_
    refine At.then_normal ?_
    refine At.seq ?_
    refine At.cond_f (by kernel_rfl) ?_
    refine At.exit_ ?_
    refine At.then_exit ?_
    refine At.then_exit ?_
    refine At.in_here ?_
    refine At.then_normal ?_
    refine At.seq ?_
    refine At.seq ?_
    refine At.region ?_
    refine At.runk 3 [5, 9, 70, 71, 72] [] ⟨fr 95 [(1, (vS X xs.length c)), (79, (vS Ao ps.length cs)), (80, (vI (ps.length : Int))), (81, (vI 0))], []⟩ (by kernel_rfl) ?_
    refine At.nil ?_
    refine At.then_normal ?_
    refine At.block ?_
    refine At.loop (T := Nat) (fun x => ⟨fr 95 [(1, (vS X xs.length c)), (79, (vS Ao ps.length cs)), (80, (vI (ps.length : Int))), (81, (vI (x : Int)))], []⟩) (fun x Φ => x ≤ ps.length) (fun x => ps.length - x) 0 (by kernel_rfl) (Nat.zero_le _) ?_
    rintro m Φ107 hle108 hF
    have hR := hR.mono hle108
    have hX := hX.mono hle108
    have hPs := hPs.mono hle108
    have hP := hP.mono hle108
    refine At.cast (S' := ⟨fr 95 [(1, (vS X xs.length c)), (79, (vS Ao ps.length cs)), (80, (vI (ps.length : Int))), (81, (vI (m : Int)))], []⟩) (by kernel_rfl) ?_
    refine At.seq ?_
    refine At.region ?_
    refine At.runk 1 [] [] ⟨fr 95 [(1, (vS X xs.length c)), (79, (vS Ao ps.length cs)), (80, (vI (ps.length : Int))), (81, (vI (m : Int))), (82, (vB (decide ((m : Int) < (ps.length : Int)))))], []⟩ (by kernel_rfl) ?_
    refine At.nil ?_
    refine At.then_normal ?_
    refine At.seq ?_
    refine At.bcase (decide ((m : Int) < (ps.length : Int))) (fun hb109 => ?_) (fun hb109 => ?_)
    · have hb109p : ((m : Int) < (ps.length : Int)) := of_decide_eq_true hb109
      refine At.cast (S' := ⟨fr 95 [(1, (vS X xs.length c)), (79, (vS Ao ps.length cs)), (80, (vI (ps.length : Int))), (81, (vI (m : Int))), (82, (vB true))], []⟩) (by rw [hb109] <;> rfl) ?_
      refine At.cond_t (by kernel_rfl) ?_
      refine At.skip ?_
      refine At.then_normal ?_
      refine At.seq ?_
      refine At.block ?_
      refine At.seq ?_
      refine At.region ?_
      refine At.runk 1 [82] [] ⟨fr 95 [(1, (vS X xs.length c)), (79, (vS Ao ps.length cs)), (80, (vI (ps.length : Int))), (81, (vI (m : Int))), (83, (vI (m : Int)))], []⟩ (by kernel_rfl) ?_
      obtain ⟨b110, off111, hAoeq⟩ : ∃ b off, Ao = some ⟨b, off, none⟩ := hP.addr (by rw [flat_len (sz := 1) (fun _ => rfl)]; omega)
      subst hAoeq
      refine At.idx (S' := ⟨fr 95 [(1, (vS X xs.length c)), (79, (vS (aS b110 off111) ps.length cs)), (80, (vI (ps.length : Int))), (81, (vI (m : Int))), (83, (vI (m : Int))), (84, .v (.pointer (some ⟨b110, off111 + m * 1, none⟩)))], []⟩) rfl (by kernel_rfl) (sz := 1) (e := 30) (by kernel_rfl) (by kernel_rfl) (by kernel_rfl) (b := b110) (off := off111) (n := ps.length) (cap := cs) (kd := .i64) (i := (m : Int)) (by kernel_rfl) (by omega) (by omega) (by kernel_rfl) ?_
      obtain ⟨e112, he113⟩ := get_some (l := ps) (i := m) (by omega)
      have e112R := hPs e112 (List.mem_of_getElem? he113)
      have e112l : e112.nds.length ≤ 1000000 := by have := hpk e112 (List.mem_of_getElem? he113); omega
      refine At.vals (S' := ⟨fr 95 [(1, (vS X xs.length c)), (79, (vS (aS b110 off111) ps.length cs)), (80, (vI (ps.length : Int))), (81, (vI (m : Int))), (83, (vI (m : Int))), (84, .v (.pointer (some ⟨b110, off111 + m * 1, none⟩))), (85, (vS e112.A e112.nds.length e112.c))], []⟩) (by kernel_rfl) ((vS e112.A e112.nds.length e112.c)) (by kernel_rfl) (Val.ldE rfl (enc := Pt.enc) (xs := ps) (b := b110) (off := off111) hP (sz := 1) (fun _ => rfl) (Nat.zero_lt_succ _) m e112 he113 0 (off111 + m * 1) (by omega) (by kernel_rfl) ((vS e112.A e112.nds.length e112.c)) (by kernel_rfl)) ?_
      refine At.runk 2 [83, 84, 85] [] ⟨fr 95 [(1, (vS X xs.length c)), (14, (vI (m : Int))), (15, (vS e112.A e112.nds.length e112.c)), (79, (vS (aS b110 off111) ps.length cs)), (80, (vI (ps.length : Int))), (81, (vI (m : Int)))], []⟩ (by kernel_rfl) ?_
      refine At.nil ?_
      refine At.then_normal ?_
      refine At.seq ?_
      refine At.region ?_
      refine At.runk 3 [14, 15] [] ⟨fr 95 [(1, (vS X xs.length c)), (79, (vS (aS b110 off111) ps.length cs)), (80, (vI (ps.length : Int))), (81, (vI (m : Int))), (86, (vS e112.A e112.nds.length e112.c)), (87, (vS X xs.length c)), (88, (vI (m : Int)))], []⟩ (by kernel_rfl) ?_
      obtain ⟨b114, off115, hXeq⟩ : ∃ b off, X = some ⟨b, off, none⟩ := hR.addr (by rw [flat_len (sz := 1) (fun _ => rfl)]; omega)
      subst hXeq
      refine At.idx (S' := ⟨fr 95 [(1, (vS (aS b114 off115) xs.length c)), (79, (vS (aS b110 off111) ps.length cs)), (80, (vI (ps.length : Int))), (81, (vI (m : Int))), (86, (vS e112.A e112.nds.length e112.c)), (87, (vS (aS b114 off115) xs.length c)), (88, (vI (m : Int))), (89, .v (.pointer (some ⟨b114, off115 + m * 1, none⟩)))], []⟩) rfl (by kernel_rfl) (sz := 1) (e := 30) (by kernel_rfl) (by kernel_rfl) (by kernel_rfl) (b := b114) (off := off115) (n := xs.length) (cap := c) (kd := .i64) (i := (m : Int)) (by kernel_rfl) (by omega) (by omega) (by kernel_rfl) ?_
      obtain ⟨e116, he117⟩ := get_some (l := xs) (i := m) (by omega)
      have e116R := hX e116 (List.mem_of_getElem? he117)
      have e116c := hcap e116 (List.mem_of_getElem? he117)
      refine At.vals (S' := ⟨fr 95 [(1, (vS (aS b114 off115) xs.length c)), (79, (vS (aS b110 off111) ps.length cs)), (80, (vI (ps.length : Int))), (81, (vI (m : Int))), (86, (vS e112.A e112.nds.length e112.c)), (87, (vS (aS b114 off115) xs.length c)), (88, (vI (m : Int))), (89, .v (.pointer (some ⟨b114, off115 + m * 1, none⟩))), (90, (vS e116.A e116.nds.length e116.c))], []⟩) (by kernel_rfl) ((vS e116.A e116.nds.length e116.c)) (by kernel_rfl) (Val.ldE rfl (enc := Pt.enc) (xs := xs) (b := b114) (off := off115) hR (sz := 1) (fun _ => rfl) (Nat.zero_lt_succ _) m e116 he117 0 (off115 + m * 1) (by omega) (by kernel_rfl) ((vS e116.A e116.nds.length e116.c)) (by kernel_rfl)) ?_
      refine At.callV rfl (by kernel_rfl) 10 [] [] (by kernel_rfl) Try.func10 (by kernel_rfl) (by kernel_rfl) [(vS e116.A e116.nds.length e116.c)] (by kernel_rfl) (by kernel_rfl) (own_c Φ107 e116.nds e116.A e116.c e116R e116c) ?_
      rintro Φ121 ⟨A118, c119⟩ hle122 h120
      have hR := hR.mono hle122
      have hX := hX.mono hle122
      have hPs := hPs.mono hle122
      have hP := hP.mono hle122
      have e112R := e112R.mono hle122
      have e116R := e116R.mono hle122
      dsimp only at h120
      have hsm : e112.nds = e116.nds.take 60 := own4_get hpm he113 he117
      refine ⟨⟨fr 95 [(1, (vS (aS b114 off115) xs.length c)), (79, (vS (aS b110 off111) ps.length cs)), (80, (vI (ps.length : Int))), (81, (vI (m : Int))), (86, (vS e112.A e112.nds.length e112.c)), (87, (vS (aS b114 off115) xs.length c)), (88, (vI (m : Int))), (89, .v (.pointer (some ⟨b114, off115 + m * 1, none⟩))), (90, (vS e116.A e116.nds.length e116.c)), (91, (vS A118 ((e116.nds.take 60).length) c119))], [.o (.slice A118 ((e116.nds.take 60).length) c119) ((e116.nds.take 60).length) ((e116.nds.take 60).flatMap Nd.cells) 26 7]⟩, by kernel_rfl, by kernel_rfl, ?_⟩
      refine At.freeze (S' := ⟨fr 95 [(1, (vS (aS b114 off115) xs.length c)), (79, (vS (aS b110 off111) ps.length cs)), (80, (vI (ps.length : Int))), (81, (vI (m : Int))), (86, (vS e112.A e112.nds.length e112.c)), (87, (vS (aS b114 off115) xs.length c)), (88, (vI (m : Int))), (89, .v (.pointer (some ⟨b114, off115 + m * 1, none⟩))), (90, (vS e116.A e116.nds.length e116.c)), (91, (vS A118 ((e116.nds.take 60).length) c119))], [.dead]⟩) 0 (A := A118) (n := (e116.nds.take 60).length) (c := c119) (xs := ((e116.nds.take 60).flatMap Nd.cells)) (e := 26) (sz := 7) (by kernel_rfl) (bleT rfl) (by kernel_rfl) ?_
      intro Φ123 hle124 hq3
      have hR := hR.mono hle124
      have hX := hX.mono hle124
      have hPs := hPs.mono hle124
      have hP := hP.mono hle124
      have e112R := e112R.mono hle124
      have e116R := e116R.mono hle124
      refine At.callV rfl (by kernel_rfl) 16 [] [] (by kernel_rfl) Try.func16 (by kernel_rfl) (by kernel_rfl) [(vS e112.A e112.nds.length e112.c), (vS A118 ((e116.nds.take 60).length) c119)] (by kernel_rfl) (by kernel_rfl) (rsame_c Φ123 e112.nds (e116.nds.take 60) e112.A A118 e112.c c119 e112R hq3 e112l (by simp only [List.length_take]; omega)) ?_
      rintro Φ125 ts hle126 hts
      have hR := hR.mono hle126
      have hX := hX.mono hle126
      have hPs := hPs.mono hle126
      have hP := hP.mono hle126
      have e112R := e112R.mono hle126
      have e116R := e116R.mono hle126
      have hq3 := hq3.mono hle126
      replace hts : ts = true := by rw [hts]; exact decide_eq_true hsm
      subst hts
      refine ⟨⟨fr 95 [(1, (vS (aS b114 off115) xs.length c)), (79, (vS (aS b110 off111) ps.length cs)), (80, (vI (ps.length : Int))), (81, (vI (m : Int))), (86, (vS e112.A e112.nds.length e112.c)), (87, (vS (aS b114 off115) xs.length c)), (88, (vI (m : Int))), (89, .v (.pointer (some ⟨b114, off115 + m * 1, none⟩))), (90, (vS e116.A e116.nds.length e116.c)), (91, (vS A118 ((e116.nds.take 60).length) c119)), (92, (vB true))], [.dead]⟩, by kernel_rfl, by kernel_rfl, ?_⟩
      refine At.runk 1 [86, 87, 88, 89, 90, 91, 92] [] ⟨fr 95 [(1, (vS (aS b114 off115) xs.length c)), (79, (vS (aS b110 off111) ps.length cs)), (80, (vI (ps.length : Int))), (81, (vI (m : Int))), (93, (vB false))], [.dead]⟩ (by kernel_rfl) ?_
      refine At.nil ?_
      refine At.then_normal ?_
      refine At.cond_f (by kernel_rfl) ?_
      refine At.skip ?_
      refine At.in_normal ?_
      refine At.then_normal ?_
      refine At.region ?_
      refine At.runk 1 [81, 93] [] ⟨fr 95 [(1, (vS (aS b114 off115) xs.length c)), (79, (vS (aS b110 off111) ps.length cs)), (80, (vI (ps.length : Int))), (94, (vI (IntKind.i64.wrap ((m : Int) + 1))))], [.dead]⟩ (by kernel_rfl) ?_
      refine At.cast (S' := ⟨fr 95 [(1, (vS (aS b114 off115) xs.length c)), (79, (vS (aS b110 off111) ps.length cs)), (80, (vI (ps.length : Int))), (94, (vI ((m : Int) + 1)))], [.dead]⟩) (by rw [wrapI (z := (m : Int) + 1) (by omega) (by omega)]) ?_
      refine At.runk 1 [94] [] ⟨fr 95 [(1, (vS (aS b114 off115) xs.length c)), (79, (vS (aS b110 off111) ps.length cs)), (80, (vI (ps.length : Int))), (81, (vI ((m : Int) + 1)))], [.dead]⟩ (by kernel_rfl) ?_
      refine At.nil ?_
      refine At.forget [] 0 [] ⟨fr 95 [(1, (vS (aS b114 off115) xs.length c)), (79, (vS (aS b110 off111) ps.length cs)), (80, (vI (ps.length : Int))), (81, (vI ((m : Int) + 1)))], []⟩ (by kernel_rfl) (by kernel_rfl) (bleT rfl) ?_
      refine At.round (m + 1) (by kernel_rfl) ((hle122.trans hle124).trans hle126) (by omega) (by omega)
    have hb109p : ¬ ((m : Int) < (ps.length : Int)) := of_decide_eq_false hb109
    refine At.cast (S' := ⟨fr 95 [(1, (vS X xs.length c)), (79, (vS Ao ps.length cs)), (80, (vI (ps.length : Int))), (81, (vI (m : Int))), (82, (vB false))], []⟩) (by rw [hb109] <;> rfl) ?_
    refine At.cond_f (by kernel_rfl) ?_
    refine At.exit_ ?_
    refine At.then_exit ?_
    refine At.then_exit ?_
    refine At.in_here ?_
    refine At.then_normal ?_
    refine At.seq ?_
    refine At.region ?_
    refine At.runk 1 [1, 79, 80, 81, 82] [] ⟨fr 95 [(4, (vB true))], []⟩ (by kernel_rfl) ?_
    refine At.nil ?_
    refine At.then_normal ?_
    refine At.ret_ ?_
    refine At.leaveR rfl () (by kernel_rfl) (by kernel_rfl) (by kernel_rfl) ?_
    trivial
  refine At.cast (S' := ⟨fr 95 [(1, (vS X xs.length c)), (2, .p 0 0), (5, (vS Ao ps.length cs)), (6, (vB false)), (41, .agg n.sv), (42, (vS Ao ps.length cs))], [.c n.sv 26, .dead]⟩) (by rw [hb35] <;> rfl) ?_
  refine At.callV rfl (by kernel_rfl) 12 [] [] (by kernel_rfl) Try.func12 (by kernel_rfl) (by kernel_rfl) [.agg n.sv, (vS Ao ps.length cs)] (by kernel_rfl) (by kernel_rfl) (join_part Φ33 n nw ps Ao cs hP hPs (fun p hp => by have := hpk p hp; omega) hpw (by omega) (fun h => by have := hr.2 h; simp_all) ) ?_
  rintro Φ127 ⟨⟩ hle128 -
  have hR := hR.mono hle128
  have hX := hX.mono hle128
  have hPs := hPs.mono hle128
  have hP := hP.mono hle128
  refine ⟨⟨fr 95 [(1, (vS X xs.length c)), (2, .p 0 0), (5, (vS Ao ps.length cs)), (6, (vB false)), (41, .agg n.sv), (42, (vS Ao ps.length cs)), (43, .tup [(vS none 0 0), (vI 140)])], [.c n.sv 26, .dead]⟩, by kernel_rfl, by kernel_rfl, ?_⟩
  refine At.runk 5 [40, 41, 42, 43, 44, 45] [] ⟨fr 95 [(1, (vS X xs.length c)), (2, .p 0 0), (5, (vS Ao ps.length cs)), (6, (vB false)), (9, (vS none 0 0)), (10, (vI 140))], [.c n.sv 26, .dead]⟩ (by kernel_rfl) ?_
  refine At.nil ?_
  refine At.then_normal ?_
  refine At.seq ?_
  refine At.region ?_
  refine At.runk 1 [] [] ⟨fr 95 [(1, (vS X xs.length c)), (2, .p 0 0), (5, (vS Ao ps.length cs)), (6, (vB false)), (9, (vS none 0 0)), (10, (vI 140)), (11, (vS none 0 0))], [.c n.sv 26, .dead]⟩ (by kernel_rfl) ?_
  refine At.nil ?_
  refine At.then_normal ?_
  refine At.seq ?_
  refine At.region ?_
  refine At.runk 1 [] [] ⟨fr 95 [(1, (vS X xs.length c)), (2, .p 0 0), (5, (vS Ao ps.length cs)), (6, (vB false)), (9, (vS none 0 0)), (10, (vI 140)), (11, (vS none 0 0)), (12, (vI 140))], [.c n.sv 26, .dead]⟩ (by kernel_rfl) ?_
  refine At.nil ?_
  refine At.then_normal ?_
  refine At.seq ?_
  refine At.seq ?_
  refine At.region ?_
  refine At.runk 1 [6] [] ⟨fr 95 [(1, (vS X xs.length c)), (2, .p 0 0), (5, (vS Ao ps.length cs)), (9, (vS none 0 0)), (10, (vI 140)), (11, (vS none 0 0)), (12, (vI 140)), (46, (vB false))], [.c n.sv 26, .dead]⟩ (by kernel_rfl) ?_
  refine At.nil ?_
  refine At.then_normal ?_
  refine At.cond_f (by kernel_rfl) ?_
  refine At.skip ?_
  refine At.then_normal ?_
  refine At.seq ?_
  refine At.seq ?_
  refine At.region ?_
  refine At.runk 6 [2, 10, 11, 12, 46, 60, 61, 62] [0] ⟨fr 95 [(1, (vS X xs.length c)), (5, (vS Ao ps.length cs)), (9, (vS none 0 0)), (63, (vB false)), (64, (vS none 0 0)), (65, (vS none 0 0))], [.dead, .dead]⟩ (by kernel_rfl) ?_
  refine At.callV rfl (by kernel_rfl) 16 [] [] (by kernel_rfl) Try.func16 (by kernel_rfl) (by kernel_rfl) [(vS none 0 0), (vS none 0 0)] (by kernel_rfl) (by kernel_rfl) (rsame_c Φ127 [] [] none none 0 0 ndsAt_nil ndsAt_nil (Nat.zero_le _) (Nat.zero_le _)) ?_
  rintro Φ129 ts hle130 hts
  have hR := hR.mono hle130
  have hX := hX.mono hle130
  have hPs := hPs.mono hle130
  have hP := hP.mono hle130
  replace hts : ts = true := hts
  subst hts
  refine ⟨⟨fr 95 [(1, (vS X xs.length c)), (5, (vS Ao ps.length cs)), (9, (vS none 0 0)), (63, (vB false)), (64, (vS none 0 0)), (65, (vS none 0 0)), (66, (vB true))], [.dead, .dead]⟩, by kernel_rfl, by kernel_rfl, ?_⟩
  refine At.runk 2 [63, 64, 65, 66, 67] [] ⟨fr 95 [(1, (vS X xs.length c)), (5, (vS Ao ps.length cs)), (9, (vS none 0 0)), (68, (vB false))], [.dead, .dead]⟩ (by kernel_rfl) ?_
  refine At.nil ?_
  refine At.then_normal ?_
  refine At.cond_f (by kernel_rfl) ?_
  refine At.skip ?_
  refine At.then_normal ?_
  refine At.seq ?_
  refine At.seq ?_
  refine At.region ?_
  refine At.runk 3 [68, 69] [] ⟨fr 95 [(1, (vS X xs.length c)), (5, (vS Ao ps.length cs)), (9, (vS none 0 0)), (70, (vI 0)), (71, (vI 0))], [.dead, .dead]⟩ (by kernel_rfl) ?_
  refine At.nil ?_
  refine At.then_normal ?_
  refine At.block ?_
  refine At.forget [] 0 [] ⟨fr 95 [(1, (vS X xs.length c)), (5, (vS Ao ps.length cs)), (9, (vS none 0 0)), (70, (vI 0)), (71, (vI 0))], []⟩ (by kernel_rfl) (by kernel_rfl) (bleT rfl) ?_
  refine At.loop (T := Unit) (fun x => ⟨fr 95 [(1, (vS X xs.length c)), (5, (vS Ao ps.length cs)), (9, (vS none 0 0)), (70, (vI 0)), (71, (vI 0))], []⟩) (fun x Φ => True) (fun x => 0) () (by kernel_rfl) trivial ?_
  rintro x Φ131 hle132 -
  have hR := hR.mono hle132
  have hX := hX.mono hle132
  have hPs := hPs.mono hle132
  have hP := hP.mono hle132
  refine At.cast (S' := ⟨fr 95 [(1, (vS X xs.length c)), (5, (vS Ao ps.length cs)), (9, (vS none 0 0)), (70, (vI 0)), (71, (vI 0))], []⟩) (by kernel_rfl) ?_
  refine At.seq ?_
  refine At.region ?_
  refine At.runk 1 [] [] ⟨fr 95 [(1, (vS X xs.length c)), (5, (vS Ao ps.length cs)), (9, (vS none 0 0)), (70, (vI 0)), (71, (vI 0)), (72, (vB false))], []⟩ (by kernel_rfl) ?_
  refine At.nil ?_
  refine At.then_normal ?_
  refine At.seq ?_
  refine At.cond_f (by kernel_rfl) ?_
  refine At.exit_ ?_
  refine At.then_exit ?_
  refine At.then_exit ?_
  refine At.in_here ?_
  refine At.then_normal ?_
  refine At.seq ?_
  refine At.seq ?_
  refine At.region ?_
  refine At.runk 3 [5, 9, 70, 71, 72] [] ⟨fr 95 [(1, (vS X xs.length c)), (79, (vS Ao ps.length cs)), (80, (vI (ps.length : Int))), (81, (vI 0))], []⟩ (by kernel_rfl) ?_
  refine At.nil ?_
  refine At.then_normal ?_
  refine At.block ?_
  refine At.loop (T := Nat) (fun x => ⟨fr 95 [(1, (vS X xs.length c)), (79, (vS Ao ps.length cs)), (80, (vI (ps.length : Int))), (81, (vI (x : Int)))], []⟩) (fun x Φ => x ≤ ps.length) (fun x => ps.length - x) 0 (by kernel_rfl) (Nat.zero_le _) ?_
  rintro m Φ133 hle134 hF
  have hR := hR.mono hle134
  have hX := hX.mono hle134
  have hPs := hPs.mono hle134
  have hP := hP.mono hle134
  refine At.cast (S' := ⟨fr 95 [(1, (vS X xs.length c)), (79, (vS Ao ps.length cs)), (80, (vI (ps.length : Int))), (81, (vI (m : Int)))], []⟩) (by kernel_rfl) ?_
  refine At.seq ?_
  refine At.region ?_
  refine At.runk 1 [] [] ⟨fr 95 [(1, (vS X xs.length c)), (79, (vS Ao ps.length cs)), (80, (vI (ps.length : Int))), (81, (vI (m : Int))), (82, (vB (decide ((m : Int) < (ps.length : Int)))))], []⟩ (by kernel_rfl) ?_
  refine At.nil ?_
  refine At.then_normal ?_
  refine At.seq ?_
  refine At.bcase (decide ((m : Int) < (ps.length : Int))) (fun hb135 => ?_) (fun hb135 => ?_)
  · have hb135p : ((m : Int) < (ps.length : Int)) := of_decide_eq_true hb135
    refine At.cast (S' := ⟨fr 95 [(1, (vS X xs.length c)), (79, (vS Ao ps.length cs)), (80, (vI (ps.length : Int))), (81, (vI (m : Int))), (82, (vB true))], []⟩) (by rw [hb135] <;> rfl) ?_
    refine At.cond_t (by kernel_rfl) ?_
    refine At.skip ?_
    refine At.then_normal ?_
    refine At.seq ?_
    refine At.block ?_
    refine At.seq ?_
    refine At.region ?_
    refine At.runk 1 [82] [] ⟨fr 95 [(1, (vS X xs.length c)), (79, (vS Ao ps.length cs)), (80, (vI (ps.length : Int))), (81, (vI (m : Int))), (83, (vI (m : Int)))], []⟩ (by kernel_rfl) ?_
    obtain ⟨b136, off137, hAoeq⟩ : ∃ b off, Ao = some ⟨b, off, none⟩ := hP.addr (by rw [flat_len (sz := 1) (fun _ => rfl)]; omega)
    subst hAoeq
    refine At.idx (S' := ⟨fr 95 [(1, (vS X xs.length c)), (79, (vS (aS b136 off137) ps.length cs)), (80, (vI (ps.length : Int))), (81, (vI (m : Int))), (83, (vI (m : Int))), (84, .v (.pointer (some ⟨b136, off137 + m * 1, none⟩)))], []⟩) rfl (by kernel_rfl) (sz := 1) (e := 30) (by kernel_rfl) (by kernel_rfl) (by kernel_rfl) (b := b136) (off := off137) (n := ps.length) (cap := cs) (kd := .i64) (i := (m : Int)) (by kernel_rfl) (by omega) (by omega) (by kernel_rfl) ?_
    obtain ⟨e138, he139⟩ := get_some (l := ps) (i := m) (by omega)
    have e138R := hPs e138 (List.mem_of_getElem? he139)
    have e138l : e138.nds.length ≤ 1000000 := by have := hpk e138 (List.mem_of_getElem? he139); omega
    refine At.vals (S' := ⟨fr 95 [(1, (vS X xs.length c)), (79, (vS (aS b136 off137) ps.length cs)), (80, (vI (ps.length : Int))), (81, (vI (m : Int))), (83, (vI (m : Int))), (84, .v (.pointer (some ⟨b136, off137 + m * 1, none⟩))), (85, (vS e138.A e138.nds.length e138.c))], []⟩) (by kernel_rfl) ((vS e138.A e138.nds.length e138.c)) (by kernel_rfl) (Val.ldE rfl (enc := Pt.enc) (xs := ps) (b := b136) (off := off137) hP (sz := 1) (fun _ => rfl) (Nat.zero_lt_succ _) m e138 he139 0 (off137 + m * 1) (by omega) (by kernel_rfl) ((vS e138.A e138.nds.length e138.c)) (by kernel_rfl)) ?_
    refine At.runk 2 [83, 84, 85] [] ⟨fr 95 [(1, (vS X xs.length c)), (14, (vI (m : Int))), (15, (vS e138.A e138.nds.length e138.c)), (79, (vS (aS b136 off137) ps.length cs)), (80, (vI (ps.length : Int))), (81, (vI (m : Int)))], []⟩ (by kernel_rfl) ?_
    refine At.nil ?_
    refine At.then_normal ?_
    refine At.seq ?_
    refine At.region ?_
    refine At.runk 3 [14, 15] [] ⟨fr 95 [(1, (vS X xs.length c)), (79, (vS (aS b136 off137) ps.length cs)), (80, (vI (ps.length : Int))), (81, (vI (m : Int))), (86, (vS e138.A e138.nds.length e138.c)), (87, (vS X xs.length c)), (88, (vI (m : Int)))], []⟩ (by kernel_rfl) ?_
    obtain ⟨b140, off141, hXeq⟩ : ∃ b off, X = some ⟨b, off, none⟩ := hR.addr (by rw [flat_len (sz := 1) (fun _ => rfl)]; omega)
    subst hXeq
    refine At.idx (S' := ⟨fr 95 [(1, (vS (aS b140 off141) xs.length c)), (79, (vS (aS b136 off137) ps.length cs)), (80, (vI (ps.length : Int))), (81, (vI (m : Int))), (86, (vS e138.A e138.nds.length e138.c)), (87, (vS (aS b140 off141) xs.length c)), (88, (vI (m : Int))), (89, .v (.pointer (some ⟨b140, off141 + m * 1, none⟩)))], []⟩) rfl (by kernel_rfl) (sz := 1) (e := 30) (by kernel_rfl) (by kernel_rfl) (by kernel_rfl) (b := b140) (off := off141) (n := xs.length) (cap := c) (kd := .i64) (i := (m : Int)) (by kernel_rfl) (by omega) (by omega) (by kernel_rfl) ?_
    obtain ⟨e142, he143⟩ := get_some (l := xs) (i := m) (by omega)
    have e142R := hX e142 (List.mem_of_getElem? he143)
    have e142c := hcap e142 (List.mem_of_getElem? he143)
    refine At.vals (S' := ⟨fr 95 [(1, (vS (aS b140 off141) xs.length c)), (79, (vS (aS b136 off137) ps.length cs)), (80, (vI (ps.length : Int))), (81, (vI (m : Int))), (86, (vS e138.A e138.nds.length e138.c)), (87, (vS (aS b140 off141) xs.length c)), (88, (vI (m : Int))), (89, .v (.pointer (some ⟨b140, off141 + m * 1, none⟩))), (90, (vS e142.A e142.nds.length e142.c))], []⟩) (by kernel_rfl) ((vS e142.A e142.nds.length e142.c)) (by kernel_rfl) (Val.ldE rfl (enc := Pt.enc) (xs := xs) (b := b140) (off := off141) hR (sz := 1) (fun _ => rfl) (Nat.zero_lt_succ _) m e142 he143 0 (off141 + m * 1) (by omega) (by kernel_rfl) ((vS e142.A e142.nds.length e142.c)) (by kernel_rfl)) ?_
    refine At.callV rfl (by kernel_rfl) 10 [] [] (by kernel_rfl) Try.func10 (by kernel_rfl) (by kernel_rfl) [(vS e142.A e142.nds.length e142.c)] (by kernel_rfl) (by kernel_rfl) (own_c Φ133 e142.nds e142.A e142.c e142R e142c) ?_
    rintro Φ147 ⟨A144, c145⟩ hle148 h146
    have hR := hR.mono hle148
    have hX := hX.mono hle148
    have hPs := hPs.mono hle148
    have hP := hP.mono hle148
    have e138R := e138R.mono hle148
    have e142R := e142R.mono hle148
    dsimp only at h146
    have hsm : e138.nds = e142.nds.take 60 := own4_get hpm he139 he143
    refine ⟨⟨fr 95 [(1, (vS (aS b140 off141) xs.length c)), (79, (vS (aS b136 off137) ps.length cs)), (80, (vI (ps.length : Int))), (81, (vI (m : Int))), (86, (vS e138.A e138.nds.length e138.c)), (87, (vS (aS b140 off141) xs.length c)), (88, (vI (m : Int))), (89, .v (.pointer (some ⟨b140, off141 + m * 1, none⟩))), (90, (vS e142.A e142.nds.length e142.c)), (91, (vS A144 ((e142.nds.take 60).length) c145))], [.o (.slice A144 ((e142.nds.take 60).length) c145) ((e142.nds.take 60).length) ((e142.nds.take 60).flatMap Nd.cells) 26 7]⟩, by kernel_rfl, by kernel_rfl, ?_⟩
    refine At.freeze (S' := ⟨fr 95 [(1, (vS (aS b140 off141) xs.length c)), (79, (vS (aS b136 off137) ps.length cs)), (80, (vI (ps.length : Int))), (81, (vI (m : Int))), (86, (vS e138.A e138.nds.length e138.c)), (87, (vS (aS b140 off141) xs.length c)), (88, (vI (m : Int))), (89, .v (.pointer (some ⟨b140, off141 + m * 1, none⟩))), (90, (vS e142.A e142.nds.length e142.c)), (91, (vS A144 ((e142.nds.take 60).length) c145))], [.dead]⟩) 0 (A := A144) (n := (e142.nds.take 60).length) (c := c145) (xs := ((e142.nds.take 60).flatMap Nd.cells)) (e := 26) (sz := 7) (by kernel_rfl) (bleT rfl) (by kernel_rfl) ?_
    intro Φ149 hle150 hq3
    have hR := hR.mono hle150
    have hX := hX.mono hle150
    have hPs := hPs.mono hle150
    have hP := hP.mono hle150
    have e138R := e138R.mono hle150
    have e142R := e142R.mono hle150
    refine At.callV rfl (by kernel_rfl) 16 [] [] (by kernel_rfl) Try.func16 (by kernel_rfl) (by kernel_rfl) [(vS e138.A e138.nds.length e138.c), (vS A144 ((e142.nds.take 60).length) c145)] (by kernel_rfl) (by kernel_rfl) (rsame_c Φ149 e138.nds (e142.nds.take 60) e138.A A144 e138.c c145 e138R hq3 e138l (by simp only [List.length_take]; omega)) ?_
    rintro Φ151 ts hle152 hts
    have hR := hR.mono hle152
    have hX := hX.mono hle152
    have hPs := hPs.mono hle152
    have hP := hP.mono hle152
    have e138R := e138R.mono hle152
    have e142R := e142R.mono hle152
    have hq3 := hq3.mono hle152
    replace hts : ts = true := by rw [hts]; exact decide_eq_true hsm
    subst hts
    refine ⟨⟨fr 95 [(1, (vS (aS b140 off141) xs.length c)), (79, (vS (aS b136 off137) ps.length cs)), (80, (vI (ps.length : Int))), (81, (vI (m : Int))), (86, (vS e138.A e138.nds.length e138.c)), (87, (vS (aS b140 off141) xs.length c)), (88, (vI (m : Int))), (89, .v (.pointer (some ⟨b140, off141 + m * 1, none⟩))), (90, (vS e142.A e142.nds.length e142.c)), (91, (vS A144 ((e142.nds.take 60).length) c145)), (92, (vB true))], [.dead]⟩, by kernel_rfl, by kernel_rfl, ?_⟩
    refine At.runk 1 [86, 87, 88, 89, 90, 91, 92] [] ⟨fr 95 [(1, (vS (aS b140 off141) xs.length c)), (79, (vS (aS b136 off137) ps.length cs)), (80, (vI (ps.length : Int))), (81, (vI (m : Int))), (93, (vB false))], [.dead]⟩ (by kernel_rfl) ?_
    refine At.nil ?_
    refine At.then_normal ?_
    refine At.cond_f (by kernel_rfl) ?_
    refine At.skip ?_
    refine At.in_normal ?_
    refine At.then_normal ?_
    refine At.region ?_
    refine At.runk 1 [81, 93] [] ⟨fr 95 [(1, (vS (aS b140 off141) xs.length c)), (79, (vS (aS b136 off137) ps.length cs)), (80, (vI (ps.length : Int))), (94, (vI (IntKind.i64.wrap ((m : Int) + 1))))], [.dead]⟩ (by kernel_rfl) ?_
    refine At.cast (S' := ⟨fr 95 [(1, (vS (aS b140 off141) xs.length c)), (79, (vS (aS b136 off137) ps.length cs)), (80, (vI (ps.length : Int))), (94, (vI ((m : Int) + 1)))], [.dead]⟩) (by rw [wrapI (z := (m : Int) + 1) (by omega) (by omega)]) ?_
    refine At.runk 1 [94] [] ⟨fr 95 [(1, (vS (aS b140 off141) xs.length c)), (79, (vS (aS b136 off137) ps.length cs)), (80, (vI (ps.length : Int))), (81, (vI ((m : Int) + 1)))], [.dead]⟩ (by kernel_rfl) ?_
    refine At.nil ?_
    refine At.forget [] 0 [] ⟨fr 95 [(1, (vS (aS b140 off141) xs.length c)), (79, (vS (aS b136 off137) ps.length cs)), (80, (vI (ps.length : Int))), (81, (vI ((m : Int) + 1)))], []⟩ (by kernel_rfl) (by kernel_rfl) (bleT rfl) ?_
    refine At.round (m + 1) (by kernel_rfl) ((hle148.trans hle150).trans hle152) (by omega) (by omega)
  have hb135p : ¬ ((m : Int) < (ps.length : Int)) := of_decide_eq_false hb135
  refine At.cast (S' := ⟨fr 95 [(1, (vS X xs.length c)), (79, (vS Ao ps.length cs)), (80, (vI (ps.length : Int))), (81, (vI (m : Int))), (82, (vB false))], []⟩) (by rw [hb135] <;> rfl) ?_
  refine At.cond_f (by kernel_rfl) ?_
  refine At.exit_ ?_
  refine At.then_exit ?_
  refine At.then_exit ?_
  refine At.in_here ?_
  refine At.then_normal ?_
  refine At.seq ?_
  refine At.region ?_
  refine At.runk 1 [1, 79, 80, 81, 82] [] ⟨fr 95 [(4, (vB true))], []⟩ (by kernel_rfl) ?_
  refine At.nil ?_
  refine At.then_normal ?_
  refine At.ret_ ?_
  refine At.leaveR rfl () (by kernel_rfl) (by kernel_rfl) (by kernel_rfl) ?_
  trivial

end Go.Sx
