/- RxP: printed by wip/gen/lib04.py. Walks over functions of the program. -/
import Derived.Test.YtgkjblbmiooedaaRxO
namespace Go.Sx
open Go.Proofs Go.RowKit
theorem below1_ok (Φ : Phi) (g0 g1 : Nat) (nds : List Nd) (A : Option Addr) (c : Nat) (hR : NdsAt Φ A nds) (hl : nds.length ≤ 1000000) (ndsw : ∀ n ∈ nds, n.wf) (hc : nds.length ≤ c) (hB0 : RdC Φ (aS g0 0) [.slice A nds.length c]) (k : Nat) (hk : k < nds.length) (hok : chk nds 0 0 = none) (hB1 : RdC Φ (aS g1 0) [.int .i64 (k : Int)])  : CallR Try.prog 57 [(vP g0 0), (vP g1 0)] [] Φ (Option Addr × Nat) (fun t => (vS t.1 (sub nds (bgN nds k) (k + 1)).length t.2)) (fun t => [.o (.slice t.1 (sub nds (bgN nds k) (k + 1)).length t.2) (sub nds (bgN nds k) (k + 1)).length ((sub nds (bgN nds k) (k + 1)).flatMap Nd.cells) 26 7]) (fun t _ => (sub nds (bgN nds k) (k + 1)).length ≤ t.2) := by
  refine CallG.enterk Try.func57 rfl [2, 3, 4, 5, 6, 7, 8, 9, 10, 11, 12, 13, 14, 15, 16, 17, 18, 19, 20, 21] ⟨fr 22 [(0, (vP g0 0)), (1, (vP g1 0))], []⟩ (by kernel_rfl) (by kernel_rfl) ?_
  intro E G β0
  refine At.seq ?_
  refine At.region ?_
  refine At.runk 1 [2] [] ⟨fr 22 [(0, (vP g0 0)), (1, (vP g1 0))], []⟩ (by kernel_rfl) ?_
  refine At.nil ?_
  refine At.then_normal ?_
  refine At.seq ?_
  refine At.region ?_
  refine At.vals (S' := ⟨fr 22 [(0, (vP g0 0)), (1, (vP g1 0)), (4, (vS A nds.length c))], []⟩) (by kernel_rfl) ((vS A nds.length c)) (by kernel_rfl) (Val.ldB rfl hB0 (Nat.zero_lt_succ _) 0 0 (by omega) (by kernel_rfl) ((vS A nds.length c)) (by kernel_rfl)) ?_
  refine At.callV rfl (by kernel_rfl) 43 [] [] (by kernel_rfl) Try.func43 (by kernel_rfl) (by kernel_rfl) [(vS A nds.length c)] (by kernel_rfl) (by kernel_rfl) (of_ok Φ nds A c hR hl ndsw hok) ?_
  rintro Φ3 gT1 hle4 hT2
  have hR := hR.mono hle4
  have hB0 := hB0.mono hle4
  have hB1 := hB1.mono hle4
  refine ⟨⟨fr 22 [(0, (vP g0 0)), (1, (vP g1 0)), (4, (vS A nds.length c)), (5, (vP gT1 0))], []⟩, by kernel_rfl, by kernel_rfl, ?_⟩
  refine At.runk 1 [4, 5] [] ⟨fr 22 [(0, (vP g0 0)), (1, (vP g1 0)), (3, (vP gT1 0))], []⟩ (by kernel_rfl) ?_
  refine At.nil ?_
  refine At.then_normal ?_
  refine At.seq ?_
  refine At.region ?_
  refine At.vals (S' := ⟨fr 22 [(0, (vP g0 0)), (1, (vP g1 0)), (3, (vP gT1 0)), (6, (vI (k : Int)))], []⟩) (by kernel_rfl) ((vI (k : Int))) (by kernel_rfl) (Val.ldB rfl hB1 (Nat.zero_lt_succ _) 0 0 (by omega) (by kernel_rfl) ((vI (k : Int))) (by kernel_rfl)) ?_
  refine At.runk 2 [6, 7] [] ⟨fr 22 [(0, (vP g0 0)), (1, (vP g1 0)), (3, (vP gT1 0)), (8, (vB (decide ((k : Int) ≥ 0))))], []⟩ (by kernel_rfl) ?_
  refine At.bcase (decide ((k : Int) ≥ 0)) (fun hb5 => ?_) (fun hb5 => ?_)
  · have hb5p : ((k : Int) ≥ 0) := of_decide_eq_true hb5
    refine At.cast (S' := ⟨fr 22 [(0, (vP g0 0)), (1, (vP g1 0)), (3, (vP gT1 0)), (8, (vB true))], []⟩) (by rw [hb5] <;> rfl) ?_
    refine At.vals (S' := ⟨fr 22 [(0, (vP g0 0)), (1, (vP g1 0)), (3, (vP gT1 0)), (8, (vB true)), (9, (vI (k : Int)))], []⟩) (by kernel_rfl) ((vI (k : Int))) (by kernel_rfl) (Val.ldB rfl hB1 (Nat.zero_lt_succ _) 0 0 (by omega) (by kernel_rfl) ((vI (k : Int))) (by kernel_rfl)) ?_
    refine At.vals (S' := ⟨fr 22 [(0, (vP g0 0)), (1, (vP g1 0)), (3, (vP gT1 0)), (8, (vB true)), (9, (vI (k : Int))), (10, (vS A nds.length c))], []⟩) (by kernel_rfl) ((vS A nds.length c)) (by kernel_rfl) (Val.ldB rfl hB0 (Nat.zero_lt_succ _) 0 0 (by omega) (by kernel_rfl) ((vS A nds.length c)) (by kernel_rfl)) ?_
    refine At.runk 3 [0, 8, 9, 10, 11, 12] [] ⟨fr 22 [(1, (vP g1 0)), (3, (vP gT1 0)), (13, (vB (decide ((k : Int) < (nds.length : Int)))))], []⟩ (by kernel_rfl) ?_
    refine At.bcase (decide ((k : Int) < (nds.length : Int))) (fun hb6 => ?_) (fun hb6 => ?_)
    · have hb6p : ((k : Int) < (nds.length : Int)) := of_decide_eq_true hb6
      refine At.cast (S' := ⟨fr 22 [(1, (vP g1 0)), (3, (vP gT1 0)), (13, (vB true))], []⟩) (by rw [hb6] <;> rfl) ?_
      refine At.callV rfl (by kernel_rfl) 45 [] [] (by kernel_rfl) Try.func45 (by kernel_rfl) (by kernel_rfl) [(vB true), (vI 2)] (by kernel_rfl) (by kernel_rfl) (need_ok Φ3 2) ?_
      rintro Φ7 ⟨⟩ hle8 -
      have hR := hR.mono hle8
      have hB0 := hB0.mono hle8
      have hB1 := hB1.mono hle8
      have hT2 := hT2.mono hle8
      refine ⟨⟨fr 22 [(1, (vP g1 0)), (3, (vP gT1 0)), (13, (vB true)), (14, .tup [])], []⟩, by kernel_rfl, by kernel_rfl, ?_⟩
      refine At.nil ?_
      refine At.then_normal ?_
      refine At.seq ?_
      refine At.forget [13, 14] 0 [] ⟨fr 22 [(1, (vP g1 0)), (3, (vP gT1 0))], []⟩ (by kernel_rfl) (by kernel_rfl) (bleT rfl) ?_
      refine At.region_draw (by kernel_rfl) 8 (by kernel_rfl) #[false, false, false, false, false, false, false, false] (by kernel_rfl) ?_
      have hRd := hR
      have hB0d := hB0
      have hB1d := hB1
      have hT2d := hT2
      refine At.take (S' := ⟨fr 22 [(1, (vP g1 0)), (3, (vP gT1 0)), (15, (vP gT1 0))], []⟩) (PhiLe.refl 0 _) (PanOk.then PanOk.body) 0 rfl (by kernel_rfl) (by kernel_rfl) (by kernel_rfl) (by kernel_rfl) ((vP gT1 0)) (by kernel_rfl) (fun _ _ => Val.ev rfl (by kernel_rfl) (by kernel_rfl)) (by kernel_rfl) #[true, false, false, false, false, false, false, false] (by kernel_rfl) ?_
      refine At.take (S' := ⟨fr 22 [(1, (vP g1 0)), (3, (vP gT1 0)), (15, (vP gT1 0)), (16, (vP gT1 0))], []⟩) (PhiLe.refl 0 _) (PanOk.then PanOk.body) 1 rfl (by kernel_rfl) (by kernel_rfl) (by kernel_rfl) (by kernel_rfl) ((vP gT1 0)) (by kernel_rfl) (fun _ _ => Val.ev rfl (by kernel_rfl) (by kernel_rfl)) (by kernel_rfl) #[true, true, false, false, false, false, false, false] (by kernel_rfl) ?_
      refine At.take (S' := ⟨fr 22 [(1, (vP g1 0)), (3, (vP gT1 0)), (15, (vP gT1 0)), (16, (vP gT1 0)), (17, (vI (k : Int)))], []⟩) (PhiLe.refl 0 _) (PanOk.then PanOk.body) 2 rfl (by kernel_rfl) (by kernel_rfl) (by kernel_rfl) (by kernel_rfl) ((vI (k : Int))) (by kernel_rfl) (fun _ _ => Val.ldB rfl hB1d (Nat.zero_lt_succ _) 0 0 (by omega) (by kernel_rfl) ((vI (k : Int))) (by kernel_rfl)) (by kernel_rfl) #[true, true, true, false, false, false, false, false] (by kernel_rfl) ?_
      refine At.take (S' := ⟨fr 22 [(1, (vP g1 0)), (3, (vP gT1 0)), (15, (vP gT1 0)), (16, (vP gT1 0)), (17, (vI (k : Int))), (19, (vI (k : Int)))], []⟩) (PhiLe.refl 0 _) (PanOk.then PanOk.body) 4 rfl (by kernel_rfl) (by kernel_rfl) (by kernel_rfl) (by kernel_rfl) ((vI (k : Int))) (by kernel_rfl) (fun _ _ => Val.ldB rfl hB1d (Nat.zero_lt_succ _) 0 0 (by omega) (by kernel_rfl) ((vI (k : Int))) (by kernel_rfl)) (by kernel_rfl) #[true, true, true, false, true, false, false, false] (by kernel_rfl) ?_
      refine At.any2 3 5 (by kernel_rfl) rfl rfl #[true, true, true, true, true, false, false, false] #[true, true, true, false, true, true, false, false] (by kernel_rfl) (by kernel_rfl) ?_ ?_
      · refine At.callV rfl (by kernel_rfl) 59 [] [] (by kernel_rfl) Try.func59 (by kernel_rfl) (by kernel_rfl) [(vP gT1 0), (vI (k : Int))] (by kernel_rfl) (by kernel_rfl) (begin_c Φ7 gT1 k nds A c hR hl ndsw hT2 hok (by omega)) ?_
        rintro Φ9 _ hle10 rfl
        have hR := hR.mono hle10
        have hB0 := hB0.mono hle10
        have hB1 := hB1.mono hle10
        have hT2 := hT2.mono hle10
        have hbn := (bg_nat nds k).2
        refine ⟨⟨fr 22 [(1, (vP g1 0)), (3, (vP gT1 0)), (15, (vP gT1 0)), (16, (vP gT1 0)), (17, (vI (k : Int))), (18, (vI (bgN nds k : Int))), (19, (vI (k : Int)))], []⟩, by kernel_rfl, by kernel_rfl, ?_⟩
        refine At.nil ?_
        refine At.then_normal ?_
        refine At.held hle10 ?_
        refine At.any1 5 (by kernel_rfl) rfl #[true, true, true, true, true, true, false, false] (by kernel_rfl) ?_
        refine At.runk 1 [] [] ⟨fr 22 [(1, (vP g1 0)), (3, (vP gT1 0)), (15, (vP gT1 0)), (16, (vP gT1 0)), (17, (vI (k : Int))), (18, (vI (bgN nds k : Int))), (19, (vI (k : Int))), (20, (vI (IntKind.i64.wrap ((k : Int) + 1))))], []⟩ (by kernel_rfl) ?_
        refine At.cast (S' := ⟨fr 22 [(1, (vP g1 0)), (3, (vP gT1 0)), (15, (vP gT1 0)), (16, (vP gT1 0)), (17, (vI (k : Int))), (18, (vI (bgN nds k : Int))), (19, (vI (k : Int))), (20, (vI ((k : Int) + 1)))], []⟩) (by rw [wrapI (z := (k : Int) + 1) (by omega) (by omega)]) ?_
        refine At.cast (S' := ⟨fr 22 [(1, (vP g1 0)), (3, (vP gT1 0)), (15, (vP gT1 0)), (16, (vP gT1 0)), (17, (vI (k : Int))), (18, (vI (bgN nds k : Int))), (19, (vI (k : Int))), (20, (vI ((k + 1 : Nat) : Int)))], []⟩) (by kernel_rfl) ?_
        refine At.nil ?_
        refine At.then_normal ?_
        refine At.held hle10 ?_
        refine At.any1 6 (by kernel_rfl) rfl #[true, true, true, true, true, true, true, false] (by kernel_rfl) ?_
        refine At.callV rfl (by kernel_rfl) 58 [] [] (by kernel_rfl) Try.func58 (by kernel_rfl) (by kernel_rfl) [(vP gT1 0), (vI (bgN nds k : Int)), (vI ((k + 1 : Nat) : Int))] (by kernel_rfl) (by kernel_rfl) (cut_c Φ9 gT1 (bgN nds k) (k + 1 : Nat) nds A c hR hl ndsw hT2 hc (by omega) (by omega)) ?_
        rintro Φ14 ⟨A11, c12⟩ hle15 h13
        have hR := hR.mono hle15
        have hB0 := hB0.mono hle15
        have hB1 := hB1.mono hle15
        have hT2 := hT2.mono hle15
        dsimp only at h13
        refine ⟨⟨fr 22 [(1, (vP g1 0)), (3, (vP gT1 0)), (15, (vP gT1 0)), (16, (vP gT1 0)), (17, (vI (k : Int))), (18, (vI (bgN nds k : Int))), (19, (vI (k : Int))), (20, (vI ((k + 1 : Nat) : Int))), (21, (vS A11 ((sub nds (bgN nds k) (k + 1 : Nat)).length) c12))], [.o (.slice A11 ((sub nds (bgN nds k) (k + 1 : Nat)).length) c12) ((sub nds (bgN nds k) (k + 1 : Nat)).length) ((sub nds (bgN nds k) (k + 1 : Nat)).flatMap Nd.cells) 26 7]⟩, by kernel_rfl, by kernel_rfl, ?_⟩
        refine At.nil ?_
        refine At.then_normal ?_
        refine At.held (hle10.trans hle15) ?_
        refine At.take (S' := ⟨fr 22 [(1, (vP g1 0)), (2, (vS A11 ((sub nds (bgN nds k) (k + 1 : Nat)).length) c12)), (3, (vP gT1 0)), (15, (vP gT1 0)), (16, (vP gT1 0)), (17, (vI (k : Int))), (18, (vI (bgN nds k : Int))), (19, (vI (k : Int))), (20, (vI ((k + 1 : Nat) : Int))), (21, (vS A11 ((sub nds (bgN nds k) (k + 1 : Nat)).length) c12))], [.o (.slice A11 ((sub nds (bgN nds k) (k + 1 : Nat)).length) c12) ((sub nds (bgN nds k) (k + 1 : Nat)).length) ((sub nds (bgN nds k) (k + 1 : Nat)).flatMap Nd.cells) 26 7]⟩) (hle10.trans hle15) (PanOk.then PanOk.body) 7 rfl (by kernel_rfl) (by kernel_rfl) (by kernel_rfl) (by kernel_rfl) ((vS A11 ((sub nds (bgN nds k) (k + 1 : Nat)).length) c12)) (by kernel_rfl) (fun _ _ => Val.ev rfl (by kernel_rfl) (by kernel_rfl)) (by kernel_rfl) #[true, true, true, true, true, true, true, true] (by kernel_rfl) ?_
        refine At.drawn_done (by kernel_rfl) ?_
        refine At.then_normal ?_
        refine At.ret_ ?_
        refine At.forget [1, 3, 15, 16, 17, 18, 19, 20, 21] 1 [] ⟨fr 22 [(2, (vS A11 ((sub nds (bgN nds k) (k + 1 : Nat)).length) c12))], [.o (.slice A11 ((sub nds (bgN nds k) (k + 1 : Nat)).length) c12) ((sub nds (bgN nds k) (k + 1 : Nat)).length) ((sub nds (bgN nds k) (k + 1 : Nat)).flatMap Nd.cells) 26 7]⟩ (by kernel_rfl) (by kernel_rfl) (bleT rfl) ?_
        refine At.leaveR rfl (A11, c12) (by kernel_rfl) (by kernel_rfl) (by kernel_rfl) ?_
        dsimp only; omega
      refine At.runk 1 [] [] ⟨fr 22 [(1, (vP g1 0)), (3, (vP gT1 0)), (15, (vP gT1 0)), (16, (vP gT1 0)), (17, (vI (k : Int))), (19, (vI (k : Int))), (20, (vI (IntKind.i64.wrap ((k : Int) + 1))))], []⟩ (by kernel_rfl) ?_
      refine At.cast (S' := ⟨fr 22 [(1, (vP g1 0)), (3, (vP gT1 0)), (15, (vP gT1 0)), (16, (vP gT1 0)), (17, (vI (k : Int))), (19, (vI (k : Int))), (20, (vI ((k : Int) + 1)))], []⟩) (by rw [wrapI (z := (k : Int) + 1) (by omega) (by omega)]) ?_
      refine At.cast (S' := ⟨fr 22 [(1, (vP g1 0)), (3, (vP gT1 0)), (15, (vP gT1 0)), (16, (vP gT1 0)), (17, (vI (k : Int))), (19, (vI (k : Int))), (20, (vI ((k + 1 : Nat) : Int)))], []⟩) (by kernel_rfl) ?_
      refine At.nil ?_
      refine At.then_normal ?_
      refine At.held (PhiLe.refl 0 _) ?_
      refine At.any1 3 (by kernel_rfl) rfl #[true, true, true, true, true, true, false, false] (by kernel_rfl) ?_
      refine At.callV rfl (by kernel_rfl) 59 [] [] (by kernel_rfl) Try.func59 (by kernel_rfl) (by kernel_rfl) [(vP gT1 0), (vI (k : Int))] (by kernel_rfl) (by kernel_rfl) (begin_c Φ7 gT1 k nds A c hR hl ndsw hT2 hok (by omega)) ?_
      rintro Φ16 _ hle17 rfl
      have hR := hR.mono hle17
      have hB0 := hB0.mono hle17
      have hB1 := hB1.mono hle17
      have hT2 := hT2.mono hle17
      have hbn := (bg_nat nds k).2
      refine ⟨⟨fr 22 [(1, (vP g1 0)), (3, (vP gT1 0)), (15, (vP gT1 0)), (16, (vP gT1 0)), (17, (vI (k : Int))), (18, (vI (bgN nds k : Int))), (19, (vI (k : Int))), (20, (vI ((k + 1 : Nat) : Int)))], []⟩, by kernel_rfl, by kernel_rfl, ?_⟩
      refine At.nil ?_
      refine At.then_normal ?_
      refine At.held hle17 ?_
      refine At.any1 6 (by kernel_rfl) rfl #[true, true, true, true, true, true, true, false] (by kernel_rfl) ?_
      refine At.callV rfl (by kernel_rfl) 58 [] [] (by kernel_rfl) Try.func58 (by kernel_rfl) (by kernel_rfl) [(vP gT1 0), (vI (bgN nds k : Int)), (vI ((k + 1 : Nat) : Int))] (by kernel_rfl) (by kernel_rfl) (cut_c Φ16 gT1 (bgN nds k) (k + 1 : Nat) nds A c hR hl ndsw hT2 hc (by omega) (by omega)) ?_
      rintro Φ21 ⟨A18, c19⟩ hle22 h20
      have hR := hR.mono hle22
      have hB0 := hB0.mono hle22
      have hB1 := hB1.mono hle22
      have hT2 := hT2.mono hle22
      dsimp only at h20
      refine ⟨⟨fr 22 [(1, (vP g1 0)), (3, (vP gT1 0)), (15, (vP gT1 0)), (16, (vP gT1 0)), (17, (vI (k : Int))), (18, (vI (bgN nds k : Int))), (19, (vI (k : Int))), (20, (vI ((k + 1 : Nat) : Int))), (21, (vS A18 ((sub nds (bgN nds k) (k + 1 : Nat)).length) c19))], [.o (.slice A18 ((sub nds (bgN nds k) (k + 1 : Nat)).length) c19) ((sub nds (bgN nds k) (k + 1 : Nat)).length) ((sub nds (bgN nds k) (k + 1 : Nat)).flatMap Nd.cells) 26 7]⟩, by kernel_rfl, by kernel_rfl, ?_⟩
      refine At.nil ?_
      refine At.then_normal ?_
      refine At.held (hle17.trans hle22) ?_
      refine At.take (S' := ⟨fr 22 [(1, (vP g1 0)), (2, (vS A18 ((sub nds (bgN nds k) (k + 1 : Nat)).length) c19)), (3, (vP gT1 0)), (15, (vP gT1 0)), (16, (vP gT1 0)), (17, (vI (k : Int))), (18, (vI (bgN nds k : Int))), (19, (vI (k : Int))), (20, (vI ((k + 1 : Nat) : Int))), (21, (vS A18 ((sub nds (bgN nds k) (k + 1 : Nat)).length) c19))], [.o (.slice A18 ((sub nds (bgN nds k) (k + 1 : Nat)).length) c19) ((sub nds (bgN nds k) (k + 1 : Nat)).length) ((sub nds (bgN nds k) (k + 1 : Nat)).flatMap Nd.cells) 26 7]⟩) (hle17.trans hle22) (PanOk.then PanOk.body) 7 rfl (by kernel_rfl) (by kernel_rfl) (by kernel_rfl) (by kernel_rfl) ((vS A18 ((sub nds (bgN nds k) (k + 1 : Nat)).length) c19)) (by kernel_rfl) (fun _ _ => Val.ev rfl (by kernel_rfl) (by kernel_rfl)) (by kernel_rfl) #[true, true, true, true, true, true, true, true] (by kernel_rfl) ?_
      refine At.drawn_done (by kernel_rfl) ?_
      refine At.then_normal ?_
      refine At.ret_ ?_
      refine At.forget [1, 3, 15, 16, 17, 18, 19, 20, 21] 1 [] ⟨fr 22 [(2, (vS A18 ((sub nds (bgN nds k) (k + 1 : Nat)).length) c19))], [.o (.slice A18 ((sub nds (bgN nds k) (k + 1 : Nat)).length) c19) ((sub nds (bgN nds k) (k + 1 : Nat)).length) ((sub nds (bgN nds k) (k + 1 : Nat)).flatMap Nd.cells) 26 7]⟩ (by kernel_rfl) (by kernel_rfl) (bleT rfl) ?_
      refine At.leaveR rfl (A18, c19) (by kernel_rfl) (by kernel_rfl) (by kernel_rfl) ?_
      dsimp only; omega
    have hb6p : ¬ ((k : Int) < (nds.length : Int)) := of_decide_eq_false hb6
    exfalso; omega
  have hb5p : ¬ ((k : Int) ≥ 0) := of_decide_eq_false hb5
  exfalso; omega

theorem below1_no (Φ : Phi) (g0 g1 : Nat) (nds : List Nd) (A : Option Addr) (c : Nat) (hR : NdsAt Φ A nds) (hl : nds.length ≤ 1000000) (ndsw : ∀ n ∈ nds, n.wf) (hc : nds.length ≤ c) (hB0 : RdC Φ (aS g0 0) [.slice A nds.length c]) (i : Nat) (hno : chk nds 0 0 = some i)  : CallP Try.prog 57 [(vP g0 0), (vP g1 0)] [] Φ [{ v := .iface 33 (.int .i64 140), recovered := false }] := by
  refine CallG.enterk Try.func57 rfl [2, 3, 4, 5, 6, 7, 8, 9, 10, 11, 12, 13, 14, 15, 16, 17, 18, 19, 20, 21] ⟨fr 22 [(0, (vP g0 0)), (1, (vP g1 0))], []⟩ (by kernel_rfl) (by kernel_rfl) ?_
  intro E G β0
  refine At.seq ?_
  refine At.region ?_
  refine At.runk 1 [2] [] ⟨fr 22 [(0, (vP g0 0)), (1, (vP g1 0))], []⟩ (by kernel_rfl) ?_
  refine At.nil ?_
  refine At.then_normal ?_
  refine At.seq ?_
  refine At.region ?_
  refine At.vals (S' := ⟨fr 22 [(0, (vP g0 0)), (1, (vP g1 0)), (4, (vS A nds.length c))], []⟩) (by kernel_rfl) ((vS A nds.length c)) (by kernel_rfl) (Val.ldB rfl hB0 (Nat.zero_lt_succ _) 0 0 (by omega) (by kernel_rfl) ((vS A nds.length c)) (by kernel_rfl)) ?_
  refine At.callP rfl (by kernel_rfl) 43 [] [] (by kernel_rfl) Try.func43 (by kernel_rfl) (by kernel_rfl) [(vS A nds.length c)] (by kernel_rfl) (by kernel_rfl) (of_no Φ nds A c hR hl ndsw i hno) ?_
  intro Φ1 hle2
  have hR := hR.mono hle2
  have hB0 := hB0.mono hle2
  refine ⟨⟨fr 22 [(0, (vP g0 0)), (1, (vP g1 0)), (4, (vS A nds.length c))], []⟩, by kernel_rfl, by kernel_rfl, ?_⟩
  refine At.then_panic ?_
  refine At.forget [0, 1, 4] 0 [] ⟨fr 22 [], []⟩ (by kernel_rfl) (by kernel_rfl) (bleT rfl) ?_
  exact At.leaveP rfl (by kernel_rfl)

theorem below1_arg (Φ : Phi) (g0 g1 : Nat) (nds : List Nd) (A : Option Addr) (c : Nat) (hR : NdsAt Φ A nds) (hl : nds.length ≤ 1000000) (ndsw : ∀ n ∈ nds, n.wf) (hc : nds.length ≤ c) (hB0 : RdC Φ (aS g0 0) [.slice A nds.length c]) (at_ : Int) (ha : ¬ (0 ≤ at_ ∧ at_ < nds.length)) (hok : chk nds 0 0 = none) (hB1 : RdC Φ (aS g1 0) [.int .i64 at_])  : CallP Try.prog 57 [(vP g0 0), (vP g1 0)] [] Φ [{ v := .iface 33 (.int .i64 2), recovered := false }] := by
  refine CallG.enterk Try.func57 rfl [2, 3, 4, 5, 6, 7, 8, 9, 10, 11, 12, 13, 14, 15, 16, 17, 18, 19, 20, 21] ⟨fr 22 [(0, (vP g0 0)), (1, (vP g1 0))], []⟩ (by kernel_rfl) (by kernel_rfl) ?_
  intro E G β0
  refine At.seq ?_
  refine At.region ?_
  refine At.runk 1 [2] [] ⟨fr 22 [(0, (vP g0 0)), (1, (vP g1 0))], []⟩ (by kernel_rfl) ?_
  refine At.nil ?_
  refine At.then_normal ?_
  refine At.seq ?_
  refine At.region ?_
  refine At.vals (S' := ⟨fr 22 [(0, (vP g0 0)), (1, (vP g1 0)), (4, (vS A nds.length c))], []⟩) (by kernel_rfl) ((vS A nds.length c)) (by kernel_rfl) (Val.ldB rfl hB0 (Nat.zero_lt_succ _) 0 0 (by omega) (by kernel_rfl) ((vS A nds.length c)) (by kernel_rfl)) ?_
  refine At.callV rfl (by kernel_rfl) 43 [] [] (by kernel_rfl) Try.func43 (by kernel_rfl) (by kernel_rfl) [(vS A nds.length c)] (by kernel_rfl) (by kernel_rfl) (of_ok Φ nds A c hR hl ndsw hok) ?_
  rintro Φ3 gT1 hle4 hT2
  have hR := hR.mono hle4
  have hB0 := hB0.mono hle4
  have hB1 := hB1.mono hle4
  refine ⟨⟨fr 22 [(0, (vP g0 0)), (1, (vP g1 0)), (4, (vS A nds.length c)), (5, (vP gT1 0))], []⟩, by kernel_rfl, by kernel_rfl, ?_⟩
  refine At.runk 1 [4, 5] [] ⟨fr 22 [(0, (vP g0 0)), (1, (vP g1 0)), (3, (vP gT1 0))], []⟩ (by kernel_rfl) ?_
  refine At.nil ?_
  refine At.then_normal ?_
  refine At.seq ?_
  refine At.region ?_
  refine At.vals (S' := ⟨fr 22 [(0, (vP g0 0)), (1, (vP g1 0)), (3, (vP gT1 0)), (6, (vI at_))], []⟩) (by kernel_rfl) ((vI at_)) (by kernel_rfl) (Val.ldB rfl hB1 (Nat.zero_lt_succ _) 0 0 (by omega) (by kernel_rfl) ((vI at_)) (by kernel_rfl)) ?_
  refine At.runk 2 [6, 7] [] ⟨fr 22 [(0, (vP g0 0)), (1, (vP g1 0)), (3, (vP gT1 0)), (8, (vB (decide (at_ ≥ 0))))], []⟩ (by kernel_rfl) ?_
  refine At.bcase (decide (at_ ≥ 0)) (fun hb5 => ?_) (fun hb5 => ?_)
  · have hb5p : (at_ ≥ 0) := of_decide_eq_true hb5
    refine At.cast (S' := ⟨fr 22 [(0, (vP g0 0)), (1, (vP g1 0)), (3, (vP gT1 0)), (8, (vB true))], []⟩) (by rw [hb5] <;> rfl) ?_
    refine At.vals (S' := ⟨fr 22 [(0, (vP g0 0)), (1, (vP g1 0)), (3, (vP gT1 0)), (8, (vB true)), (9, (vI at_))], []⟩) (by kernel_rfl) ((vI at_)) (by kernel_rfl) (Val.ldB rfl hB1 (Nat.zero_lt_succ _) 0 0 (by omega) (by kernel_rfl) ((vI at_)) (by kernel_rfl)) ?_
    refine At.vals (S' := ⟨fr 22 [(0, (vP g0 0)), (1, (vP g1 0)), (3, (vP gT1 0)), (8, (vB true)), (9, (vI at_)), (10, (vS A nds.length c))], []⟩) (by kernel_rfl) ((vS A nds.length c)) (by kernel_rfl) (Val.ldB rfl hB0 (Nat.zero_lt_succ _) 0 0 (by omega) (by kernel_rfl) ((vS A nds.length c)) (by kernel_rfl)) ?_
    refine At.runk 3 [0, 8, 9, 10, 11, 12] [] ⟨fr 22 [(1, (vP g1 0)), (3, (vP gT1 0)), (13, (vB (decide (at_ < (nds.length : Int)))))], []⟩ (by kernel_rfl) ?_
    refine At.bcase (decide (at_ < (nds.length : Int))) (fun hb6 => ?_) (fun hb6 => ?_)
    · have hb6p : (at_ < (nds.length : Int)) := of_decide_eq_true hb6
      exfalso; omega
    have hb6p : ¬ (at_ < (nds.length : Int)) := of_decide_eq_false hb6
    refine At.cast (S' := ⟨fr 22 [(1, (vP g1 0)), (3, (vP gT1 0)), (13, (vB false))], []⟩) (by rw [hb6] <;> rfl) ?_
    refine At.callP rfl (by kernel_rfl) 45 [] [] (by kernel_rfl) Try.func45 (by kernel_rfl) (by kernel_rfl) [(vB false), (vI 2)] (by kernel_rfl) (by kernel_rfl) (need_no Φ3 2) ?_
    intro Φ7 hle8
    have hR := hR.mono hle8
    have hB0 := hB0.mono hle8
    have hB1 := hB1.mono hle8
    have hT2 := hT2.mono hle8
    refine ⟨⟨fr 22 [(1, (vP g1 0)), (3, (vP gT1 0)), (13, (vB false))], []⟩, by kernel_rfl, by kernel_rfl, ?_⟩
    refine At.then_panic ?_
    refine At.forget [1, 3, 13] 0 [] ⟨fr 22 [], []⟩ (by kernel_rfl) (by kernel_rfl) (bleT rfl) ?_
    exact At.leaveP rfl (by kernel_rfl)
  have hb5p : ¬ (at_ ≥ 0) := of_decide_eq_false hb5
  refine At.cast (S' := ⟨fr 22 [(0, (vP g0 0)), (1, (vP g1 0)), (3, (vP gT1 0)), (8, (vB false))], []⟩) (by rw [hb5] <;> rfl) ?_
  refine At.runk 5 [0, 8, 9, 10, 11, 12] [] ⟨fr 22 [(1, (vP g1 0)), (3, (vP gT1 0)), (13, (vB false))], []⟩ (by kernel_rfl) ?_
  refine At.callP rfl (by kernel_rfl) 45 [] [] (by kernel_rfl) Try.func45 (by kernel_rfl) (by kernel_rfl) [(vB false), (vI 2)] (by kernel_rfl) (by kernel_rfl) (need_no Φ3 2) ?_
  intro Φ9 hle10
  have hR := hR.mono hle10
  have hB0 := hB0.mono hle10
  have hB1 := hB1.mono hle10
  have hT2 := hT2.mono hle10
  refine ⟨⟨fr 22 [(1, (vP g1 0)), (3, (vP gT1 0)), (13, (vB false))], []⟩, by kernel_rfl, by kernel_rfl, ?_⟩
  refine At.then_panic ?_
  refine At.forget [1, 3, 13] 0 [] ⟨fr 22 [], []⟩ (by kernel_rfl) (by kernel_rfl) (bleT rfl) ?_
  exact At.leaveP rfl (by kernel_rfl)

theorem below_ok (Φ : Phi) (nds : List Nd) (A : Option Addr) (c : Nat) (hR : NdsAt Φ A nds) (hl : nds.length ≤ 1000000) (ndsw : ∀ n ∈ nds, n.wf) (hc : nds.length ≤ c) (k : Nat) (hk : k < nds.length) (hok : chk nds 0 0 = none)  : CallR Try.prog 23 [(vS A nds.length c), (vI (k : Int))] [] Φ (Option Addr × Nat) (fun t => .tup [(vS t.1 (sub nds (bgN nds k) (k + 1)).length t.2), (vI 0)]) (fun t => [.o (.slice t.1 (sub nds (bgN nds k) (k + 1)).length t.2) (sub nds (bgN nds k) (k + 1)).length ((sub nds (bgN nds k) (k + 1)).flatMap Nd.cells) 26 7]) (fun t _ => (sub nds (bgN nds k) (k + 1)).length ≤ t.2) := by
  refine CallG.enterk Try.func23 rfl [2, 3, 4, 5, 6, 7, 8, 9] ⟨fr 10 [(0, (vS A nds.length c)), (1, (vI (k : Int)))], []⟩ (by kernel_rfl) (by kernel_rfl) ?_
  intro E G β0
  refine At.seq ?_
  refine At.region ?_
  refine At.runk 4 [0, 1, 4, 5] [] ⟨fr 10 [(2, .p 0 0), (3, .p 1 0)], [.c [(vS A nds.length c)] 30, .c [(vI (k : Int))] 3]⟩ (by kernel_rfl) ?_
  refine At.nil ?_
  refine At.then_normal ?_
  refine At.seq ?_
  refine At.freezeC 0 [.slice A nds.length c] rfl rfl (bleT rfl) (bleT rfl) (fun _ => by kernel_rfl) (fun _ => by kernel_rfl) ?_
  intro g2 Φ3 hle4 hBr1
  have hR := hR.mono hle4
  refine ⟨⟨fr 10 [(2, (vP g2 0)), (3, .p 1 0)], [.dead, .c [(vI (k : Int))] 3]⟩, by kernel_rfl, ?_⟩
  refine At.freezeC 1 [.int .i64 (k : Int)] rfl rfl (bleT rfl) (bleT rfl) (fun _ => by kernel_rfl) (fun _ => by kernel_rfl) ?_
  intro g6 Φ7 hle8 hBk5
  have hR := hR.mono hle8
  have hBr1 := hBr1.mono hle8
  refine ⟨⟨fr 10 [(2, (vP g2 0)), (3, (vP g6 0))], [.dead, .dead]⟩, by kernel_rfl, ?_⟩
  refine At.region ?_
  refine At.runk 1 [2, 3] [] ⟨fr 10 [(6, .fn (.func 57) [(vP g2 0), (vP g6 0)])], [.dead, .dead]⟩ (by kernel_rfl) ?_
  refine At.reval 6 (.fn (.func 57) [(vP g2 0), (vP g6 0)]) (.v (.func (.func 57) #[] #[.pointer (aS g2 0), .pointer (aS g6 0)])) (by kernel_rfl) (by kernel_rfl) (fun _ => by kernel_rfl) ⟨fr 10 [(6, .v (.func (.func 57) #[] #[.pointer (aS g2 0), .pointer (aS g6 0)]))], [.dead, .dead]⟩ (by kernel_rfl) (by kernel_rfl) ?_
  refine At.callV rfl (by kernel_rfl) 41 [] [] (by kernel_rfl) Try.func41 (by kernel_rfl) (by kernel_rfl) [.v (.func (.func 57) #[] #[.pointer (aS g2 0), .pointer (aS g6 0)])] (by kernel_rfl) (by kernel_rfl) (tries_rx Φ7 57 #[.pointer (aS g2 0), .pointer (aS g6 0)] Try.f57 Try.func57 rfl rfl (Option Addr × Nat) (fun t => (t.1, (sub nds (bgN nds k) (k + 1)).length, t.2)) (fun _ => (sub nds (bgN nds k) (k + 1)).flatMap Nd.cells) (fun t _ => (sub nds (bgN nds k) (k + 1)).length ≤ t.2) (fun _ _ _ _ h => h) (below1_ok Φ7 g2 g6 nds A c hR hl ndsw hc hBr1 k hk hok hBk5)) ?_
  rintro Φ9 ⟨Aj, cj⟩ hle10 hcj
  have hR := hR.mono hle10
  have hBr1 := hBr1.mono hle10
  have hBk5 := hBk5.mono hle10
  dsimp only at hcj
  refine ⟨⟨fr 10 [(6, .v (.func (.func 57) #[] #[.pointer (aS g2 0), .pointer (aS g6 0)])), (7, .tup [(vS Aj ((sub nds (bgN nds k) (k + 1)).length) cj), (vI 0)])], [.dead, .dead, .o (.slice Aj ((sub nds (bgN nds k) (k + 1)).length) cj) ((sub nds (bgN nds k) (k + 1)).length) ((sub nds (bgN nds k) (k + 1)).flatMap Nd.cells) 26 7]⟩, by kernel_rfl, by kernel_rfl, ?_⟩
  refine At.runk 4 [6, 7, 8, 9] [] ⟨fr 10 [(4, (vS Aj ((sub nds (bgN nds k) (k + 1)).length) cj)), (5, (vI 0))], [.dead, .dead, .o (.slice Aj ((sub nds (bgN nds k) (k + 1)).length) cj) ((sub nds (bgN nds k) (k + 1)).length) ((sub nds (bgN nds k) (k + 1)).flatMap Nd.cells) 26 7]⟩ (by kernel_rfl) ?_
  refine At.nil ?_
  refine At.then_normal ?_
  refine At.ret_ ?_
  refine At.reorder [2] ⟨fr 10 [(4, (vS Aj ((sub nds (bgN nds k) (k + 1)).length) cj)), (5, (vI 0))], [.o (.slice Aj ((sub nds (bgN nds k) (k + 1)).length) cj) ((sub nds (bgN nds k) (k + 1)).length) ((sub nds (bgN nds k) (k + 1)).flatMap Nd.cells) 26 7]⟩ rfl (by kernel_rfl) (by kernel_rfl) (by kernel_rfl) (by decide) (by kernel_rfl) ?_
  refine At.leaveR rfl (Aj, cj) (by kernel_rfl) (by kernel_rfl) (by kernel_rfl) ?_
  dsimp only; omega

theorem below_no (Φ : Phi) (nds : List Nd) (A : Option Addr) (c : Nat) (hR : NdsAt Φ A nds) (hl : nds.length ≤ 1000000) (ndsw : ∀ n ∈ nds, n.wf) (hc : nds.length ≤ c) (at_ : Int) (i : Nat) (hno : chk nds 0 0 = some i)  : CallR Try.prog 23 [(vS A nds.length c), (vI at_)] [] Φ Unit (fun _ => .tup [(vS none 0 0), (vI 140)]) (fun _ => []) (fun _ _ => True) := by
  refine CallG.enterk Try.func23 rfl [2, 3, 4, 5, 6, 7, 8, 9] ⟨fr 10 [(0, (vS A nds.length c)), (1, (vI at_))], []⟩ (by kernel_rfl) (by kernel_rfl) ?_
  intro E G β0
  refine At.seq ?_
  refine At.region ?_
  refine At.runk 4 [0, 1, 4, 5] [] ⟨fr 10 [(2, .p 0 0), (3, .p 1 0)], [.c [(vS A nds.length c)] 30, .c [(vI at_)] 3]⟩ (by kernel_rfl) ?_
  refine At.nil ?_
  refine At.then_normal ?_
  refine At.seq ?_
  refine At.freezeC 0 [.slice A nds.length c] rfl rfl (bleT rfl) (bleT rfl) (fun _ => by kernel_rfl) (fun _ => by kernel_rfl) ?_
  intro g2 Φ3 hle4 hBr1
  have hR := hR.mono hle4
  refine ⟨⟨fr 10 [(2, (vP g2 0)), (3, .p 1 0)], [.dead, .c [(vI at_)] 3]⟩, by kernel_rfl, ?_⟩
  refine At.freezeC 1 [.int .i64 at_] rfl rfl (bleT rfl) (bleT rfl) (fun _ => by kernel_rfl) (fun _ => by kernel_rfl) ?_
  intro g6 Φ7 hle8 hBk5
  have hR := hR.mono hle8
  have hBr1 := hBr1.mono hle8
  refine ⟨⟨fr 10 [(2, (vP g2 0)), (3, (vP g6 0))], [.dead, .dead]⟩, by kernel_rfl, ?_⟩
  refine At.region ?_
  refine At.runk 1 [2, 3] [] ⟨fr 10 [(6, .fn (.func 57) [(vP g2 0), (vP g6 0)])], [.dead, .dead]⟩ (by kernel_rfl) ?_
  refine At.reval 6 (.fn (.func 57) [(vP g2 0), (vP g6 0)]) (.v (.func (.func 57) #[] #[.pointer (aS g2 0), .pointer (aS g6 0)])) (by kernel_rfl) (by kernel_rfl) (fun _ => by kernel_rfl) ⟨fr 10 [(6, .v (.func (.func 57) #[] #[.pointer (aS g2 0), .pointer (aS g6 0)]))], [.dead, .dead]⟩ (by kernel_rfl) (by kernel_rfl) ?_
  refine At.callV rfl (by kernel_rfl) 41 [] [] (by kernel_rfl) Try.func41 (by kernel_rfl) (by kernel_rfl) [.v (.func (.func 57) #[] #[.pointer (aS g2 0), .pointer (aS g6 0)])] (by kernel_rfl) (by kernel_rfl) (tries_rx_no Φ7 57 #[.pointer (aS g2 0), .pointer (aS g6 0)] Try.f57 Try.func57 rfl rfl 140 (below1_no Φ7 g2 g6 nds A c hR hl ndsw hc hBr1 i hno)) ?_
  rintro Φ9 ⟨⟩ hle10 -
  have hR := hR.mono hle10
  have hBr1 := hBr1.mono hle10
  have hBk5 := hBk5.mono hle10
  refine ⟨⟨fr 10 [(6, .v (.func (.func 57) #[] #[.pointer (aS g2 0), .pointer (aS g6 0)])), (7, .tup [(vS none 0 0), (vI 140)])], [.dead, .dead]⟩, by kernel_rfl, by kernel_rfl, ?_⟩
  refine At.runk 4 [6, 7, 8, 9] [] ⟨fr 10 [(4, (vS none 0 0)), (5, (vI 140))], [.dead, .dead]⟩ (by kernel_rfl) ?_
  refine At.nil ?_
  refine At.then_normal ?_
  refine At.ret_ ?_
  refine At.forget [] 0 [] ⟨fr 10 [(4, (vS none 0 0)), (5, (vI 140))], []⟩ (by kernel_rfl) (by kernel_rfl) (bleT rfl) ?_
  refine At.leaveR rfl () (by kernel_rfl) (by kernel_rfl) (by kernel_rfl) ?_
  trivial

theorem below_arg (Φ : Phi) (nds : List Nd) (A : Option Addr) (c : Nat) (hR : NdsAt Φ A nds) (hl : nds.length ≤ 1000000) (ndsw : ∀ n ∈ nds, n.wf) (hc : nds.length ≤ c) (at_ : Int) (ha : ¬ (0 ≤ at_ ∧ at_ < nds.length)) (hok : chk nds 0 0 = none)  : CallR Try.prog 23 [(vS A nds.length c), (vI at_)] [] Φ Unit (fun _ => .tup [(vS none 0 0), (vI 2)]) (fun _ => []) (fun _ _ => True) := by
  refine CallG.enterk Try.func23 rfl [2, 3, 4, 5, 6, 7, 8, 9] ⟨fr 10 [(0, (vS A nds.length c)), (1, (vI at_))], []⟩ (by kernel_rfl) (by kernel_rfl) ?_
  intro E G β0
  refine At.seq ?_
  refine At.region ?_
  refine At.runk 4 [0, 1, 4, 5] [] ⟨fr 10 [(2, .p 0 0), (3, .p 1 0)], [.c [(vS A nds.length c)] 30, .c [(vI at_)] 3]⟩ (by kernel_rfl) ?_
  refine At.nil ?_
  refine At.then_normal ?_
  refine At.seq ?_
  refine At.freezeC 0 [.slice A nds.length c] rfl rfl (bleT rfl) (bleT rfl) (fun _ => by kernel_rfl) (fun _ => by kernel_rfl) ?_
  intro g2 Φ3 hle4 hBr1
  have hR := hR.mono hle4
  refine ⟨⟨fr 10 [(2, (vP g2 0)), (3, .p 1 0)], [.dead, .c [(vI at_)] 3]⟩, by kernel_rfl, ?_⟩
  refine At.freezeC 1 [.int .i64 at_] rfl rfl (bleT rfl) (bleT rfl) (fun _ => by kernel_rfl) (fun _ => by kernel_rfl) ?_
  intro g6 Φ7 hle8 hBk5
  have hR := hR.mono hle8
  have hBr1 := hBr1.mono hle8
  refine ⟨⟨fr 10 [(2, (vP g2 0)), (3, (vP g6 0))], [.dead, .dead]⟩, by kernel_rfl, ?_⟩
  refine At.region ?_
  refine At.runk 1 [2, 3] [] ⟨fr 10 [(6, .fn (.func 57) [(vP g2 0), (vP g6 0)])], [.dead, .dead]⟩ (by kernel_rfl) ?_
  refine At.reval 6 (.fn (.func 57) [(vP g2 0), (vP g6 0)]) (.v (.func (.func 57) #[] #[.pointer (aS g2 0), .pointer (aS g6 0)])) (by kernel_rfl) (by kernel_rfl) (fun _ => by kernel_rfl) ⟨fr 10 [(6, .v (.func (.func 57) #[] #[.pointer (aS g2 0), .pointer (aS g6 0)]))], [.dead, .dead]⟩ (by kernel_rfl) (by kernel_rfl) ?_
  refine At.callV rfl (by kernel_rfl) 41 [] [] (by kernel_rfl) Try.func41 (by kernel_rfl) (by kernel_rfl) [.v (.func (.func 57) #[] #[.pointer (aS g2 0), .pointer (aS g6 0)])] (by kernel_rfl) (by kernel_rfl) (tries_rx_no Φ7 57 #[.pointer (aS g2 0), .pointer (aS g6 0)] Try.f57 Try.func57 rfl rfl 2 (below1_arg Φ7 g2 g6 nds A c hR hl ndsw hc hBr1 at_ ha hok hBk5)) ?_
  rintro Φ9 ⟨⟩ hle10 -
  have hR := hR.mono hle10
  have hBr1 := hBr1.mono hle10
  have hBk5 := hBk5.mono hle10
  refine ⟨⟨fr 10 [(6, .v (.func (.func 57) #[] #[.pointer (aS g2 0), .pointer (aS g6 0)])), (7, .tup [(vS none 0 0), (vI 2)])], [.dead, .dead]⟩, by kernel_rfl, by kernel_rfl, ?_⟩
  refine At.runk 4 [6, 7, 8, 9] [] ⟨fr 10 [(4, (vS none 0 0)), (5, (vI 2))], [.dead, .dead]⟩ (by kernel_rfl) ?_
  refine At.nil ?_
  refine At.then_normal ?_
  refine At.ret_ ?_
  refine At.forget [] 0 [] ⟨fr 10 [(4, (vS none 0 0)), (5, (vI 2))], []⟩ (by kernel_rfl) (by kernel_rfl) (bleT rfl) ?_
  refine At.leaveR rfl () (by kernel_rfl) (by kernel_rfl) (by kernel_rfl) ?_
  trivial

end Go.Sx
