/- RxX: printed by wip/gen/lib04.py. Walks over functions of the program. -/
import Derived.Test.YtgkjblbmiooedaaRxU
import Derived.Test.YtgkjblbmiooedaaRx8
namespace Go.Sx
open Go.Proofs Go.RowKit
theorem lnorm_c (Φ : Phi) (nds : List Nd) (A : Option Addr) (c : Nat) (hR : NdsAt Φ A nds) (hc : nds.length ≤ c) (ndsw : ∀ n ∈ nds, n.wf)  : CallR Try.prog 4 [(vS A nds.length c)] [] Φ Unit (fun _ => (vB true)) (fun _ => []) (fun _ _ => True) := by
  refine CallG.enterk Try.func4 rfl [1, 2, 3, 4, 5, 6, 7, 8, 9, 10, 11, 12, 13, 14, 15, 16, 17, 18, 19, 20, 21, 22, 23, 24, 25, 26, 27, 28, 29, 30, 31, 32, 33, 34, 35, 36, 37, 38, 39, 40, 41, 42, 43, 44, 45, 46, 47, 48, 49, 50, 51, 52, 53, 54, 55, 56, 57, 58, 59, 60, 61, 62, 63, 64, 65, 66, 67, 68, 69, 70, 71, 72, 73, 74, 75, 76, 77, 78, 79, 80, 81, 82, 83, 84, 85, 86, 87, 88, 89, 90, 91, 92, 93, 94, 95, 96, 97, 98, 99, 100, 101, 102, 103, 104, 105, 106, 107, 108, 109, 110, 111, 112, 113, 114, 115, 116, 117, 118, 119, 120, 121, 122, 123, 124, 125, 126, 127, 128, 129, 130, 131, 132, 133, 134, 135, 136, 137, 138, 139, 140, 141, 142, 143, 144] ⟨fr 145 [(0, (vS A nds.length c))], []⟩ (by kernel_rfl) (by kernel_rfl) ?_
  intro E G β0
  refine At.seq ?_
  refine At.region ?_
  refine At.runk 1 [2] [] ⟨fr 145 [(0, (vS A nds.length c))], []⟩ (by kernel_rfl) ?_
  refine At.nil ?_
  refine At.then_normal ?_
  refine At.seq ?_
  refine At.seq ?_
  refine At.region ?_
  refine At.callV rfl (by kernel_rfl) 9 [] [] (by kernel_rfl) Try.func9 (by kernel_rfl) (by kernel_rfl) [] (by kernel_rfl) (by kernel_rfl) (wakes_c Φ) ?_
  rintro Φ1 ⟨⟩ hle2 -
  have hR := hR.mono hle2
  refine ⟨⟨fr 145 [(0, (vS A nds.length c)), (21, (vB true))], []⟩, by kernel_rfl, by kernel_rfl, ?_⟩
  refine At.runk 1 [21] [] ⟨fr 145 [(0, (vS A nds.length c)), (22, (vB false))], []⟩ (by kernel_rfl) ?_
  refine At.nil ?_
  refine At.then_normal ?_
  refine At.cond_f (by kernel_rfl) ?_
  refine At.skip ?_
  refine At.then_normal ?_
  refine At.seq ?_
  refine At.region ?_
  refine At.runk 1 [0, 22] [] ⟨fr 145 [(23, (vS A nds.length c))], []⟩ (by kernel_rfl) ?_
  refine At.callV rfl (by kernel_rfl) 10 [] [] (by kernel_rfl) Try.func10 (by kernel_rfl) (by kernel_rfl) [(vS A nds.length c)] (by kernel_rfl) (by kernel_rfl) (own_c Φ1 nds A c hR hc) ?_
  rintro Φ6 ⟨A3, c4⟩ hle7 h5
  have hR := hR.mono hle7
  dsimp only at h5
  refine ⟨⟨fr 145 [(23, (vS A nds.length c)), (24, (vS A3 ((nds.take 60).length) c4))], [.o (.slice A3 ((nds.take 60).length) c4) ((nds.take 60).length) ((nds.take 60).flatMap Nd.cells) 26 7]⟩, by kernel_rfl, by kernel_rfl, ?_⟩
  refine At.runk 1 [23, 24] [] ⟨fr 145 [(3, (vS A3 ((nds.take 60).length) c4))], [.o (.slice A3 ((nds.take 60).length) c4) ((nds.take 60).length) ((nds.take 60).flatMap Nd.cells) 26 7]⟩ (by kernel_rfl) ?_
  refine At.freeze (S' := ⟨fr 145 [(3, (vS A3 ((nds.take 60).length) c4))], [.dead]⟩) 0 (A := A3) (n := (nds.take 60).length) (c := c4) (xs := ((nds.take 60).flatMap Nd.cells)) (e := 26) (sz := 7) (by kernel_rfl) (bleT rfl) (by kernel_rfl) ?_
  intro Φ8 hle9 hRr
  have hR := hR.mono hle9
  have h60 : (nds.take 60).length ≤ 60 := (by simp only [List.length_take]; omega)
  refine At.nil ?_
  refine At.then_normal ?_
  refine At.seq ?_
  refine At.region ?_
  refine At.runk 1 [] [] ⟨fr 145 [(3, (vS A3 ((nds.take 60).length) c4)), (26, (vS A3 ((nds.take 60).length) c4))], [.dead]⟩ (by kernel_rfl) ?_
  by_cases hc11 : chk (nds.take 60) 0 0 = none
  · refine At.callV rfl (by kernel_rfl) 17 [] [] (by kernel_rfl) Try.func17 (by kernel_rfl) (by kernel_rfl) [(vS A3 ((nds.take 60).length) c4)] (by kernel_rfl) (by kernel_rfl) (norm_ok Φ8 (nds.take 60) A3 c4 hRr (by simp only [List.length_take]; omega) (fun n hn => ndsw n (List.mem_of_mem_take hn)) (by omega) hc11) ?_
    rintro Φ12 ⟨An, cn⟩ hle13 ⟨hN10, hnl, hnw⟩
    have hR := hR.mono hle13
    have hRr := hRr.mono hle13
    obtain ⟨l1, l2, l3, l4, l5, l6, l7⟩ := nlaw hc11
    have hok := hc11
    refine ⟨⟨fr 145 [(3, (vS A3 ((nds.take 60).length) c4)), (26, (vS A3 ((nds.take 60).length) c4)), (27, .tup [(vS An ((foldR nrmk (nds.take 60)).length) cn), (vI 0)])], [.dead]⟩, by kernel_rfl, by kernel_rfl, ?_⟩
    refine At.runk 5 [25, 26, 27, 28, 29] [] ⟨fr 145 [(3, (vS A3 ((nds.take 60).length) c4)), (4, (vS An ((foldR nrmk (nds.take 60)).length) cn)), (5, (vI 0))], [.dead]⟩ (by kernel_rfl) ?_
    refine At.nil ?_
    refine At.then_normal ?_
    refine At.seq ?_
    refine At.seq ?_
    refine At.region ?_
    refine At.runk 2 [30] [] ⟨fr 145 [(3, (vS A3 ((nds.take 60).length) c4)), (4, (vS An ((foldR nrmk (nds.take 60)).length) cn)), (5, (vI 0)), (31, (vB false))], [.dead]⟩ (by kernel_rfl) ?_
    refine At.nil ?_
    refine At.then_normal ?_
    refine At.cond_f (by kernel_rfl) ?_
    refine At.skip ?_
    refine At.then_normal ?_
    refine At.seq ?_
    refine At.region ?_
    refine At.runk 1 [5, 31] [] ⟨fr 145 [(3, (vS A3 ((nds.take 60).length) c4)), (4, (vS An ((foldR nrmk (nds.take 60)).length) cn)), (40, (vS An ((foldR nrmk (nds.take 60)).length) cn))], [.dead]⟩ (by kernel_rfl) ?_
    refine At.callV rfl (by kernel_rfl) 17 [] [] (by kernel_rfl) Try.func17 (by kernel_rfl) (by kernel_rfl) [(vS An ((foldR nrmk (nds.take 60)).length) cn)] (by kernel_rfl) (by kernel_rfl) (norm_ok Φ12 (foldR nrmk (nds.take 60)) An cn hN10 (by omega) hnw (by omega) l1) ?_
    rintro Φ15 ⟨Aq, cq⟩ hle16 ⟨hN14, _, _⟩
    have hR := hR.mono hle16
    have hRr := hRr.mono hle16
    have hN10 := hN10.mono hle16
    rw [l2] at hN14
    refine ⟨⟨fr 145 [(3, (vS A3 ((nds.take 60).length) c4)), (4, (vS An ((foldR nrmk (nds.take 60)).length) cn)), (40, (vS An ((foldR nrmk (nds.take 60)).length) cn)), (41, .tup [(vS Aq ((foldR nrmk (foldR nrmk (nds.take 60))).length) cq), (vI 0)])], [.dead]⟩, by kernel_rfl, by kernel_rfl, ?_⟩
    refine At.cast (S' := ⟨fr 145 [(3, (vS A3 ((nds.take 60).length) c4)), (4, (vS An ((foldR nrmk (nds.take 60)).length) cn)), (40, (vS An ((foldR nrmk (nds.take 60)).length) cn)), (41, .tup [(vS Aq ((foldR nrmk (nds.take 60)).length) cq), (vI 0)])], [.dead]⟩) (by rw [l2]) ?_
    refine At.runk 5 [39, 40, 41, 42, 43] [] ⟨fr 145 [(3, (vS A3 ((nds.take 60).length) c4)), (4, (vS An ((foldR nrmk (nds.take 60)).length) cn)), (6, (vS Aq ((foldR nrmk (nds.take 60)).length) cq)), (7, (vI 0))], [.dead]⟩ (by kernel_rfl) ?_
    refine At.nil ?_
    refine At.then_normal ?_
    refine At.seq ?_
    refine At.region ?_
    refine At.runk 1 [] [] ⟨fr 145 [(3, (vS A3 ((nds.take 60).length) c4)), (4, (vS An ((foldR nrmk (nds.take 60)).length) cn)), (6, (vS Aq ((foldR nrmk (nds.take 60)).length) cq)), (7, (vI 0)), (45, (vS A3 ((nds.take 60).length) c4))], [.dead]⟩ (by kernel_rfl) ?_
    refine At.callV rfl (by kernel_rfl) 18 [] [] (by kernel_rfl) Try.func18 (by kernel_rfl) (by kernel_rfl) [(vS A3 ((nds.take 60).length) c4)] (by kernel_rfl) (by kernel_rfl) (depth_c Φ15 (nds.take 60) A3 c4 hRr (by simp only [List.length_take]; omega) (fun n hn => ndsw n (List.mem_of_mem_take hn))) ?_
    rintro Φ19 t17 hle20 ht18
    have hR := hR.mono hle20
    have hRr := hRr.mono hle20
    have hN10 := hN10.mono hle20
    have hN14 := hN14.mono hle20
    rw [treeR_ok hok] at ht18
    subst ht18
    refine ⟨⟨fr 145 [(3, (vS A3 ((nds.take 60).length) c4)), (4, (vS An ((foldR nrmk (nds.take 60)).length) cn)), (6, (vS Aq ((foldR nrmk (nds.take 60)).length) cq)), (7, (vI 0)), (45, (vS A3 ((nds.take 60).length) c4)), (46, .tup [(vI (foldR dmk (nds.take 60))), (vI 0)])], [.dead]⟩, by kernel_rfl, by kernel_rfl, ?_⟩
    refine At.runk 5 [44, 45, 46, 47, 48] [] ⟨fr 145 [(3, (vS A3 ((nds.take 60).length) c4)), (4, (vS An ((foldR nrmk (nds.take 60)).length) cn)), (6, (vS Aq ((foldR nrmk (nds.take 60)).length) cq)), (7, (vI 0)), (8, (vI (foldR dmk (nds.take 60)))), (9, (vI 0))], [.dead]⟩ (by kernel_rfl) ?_
    refine At.nil ?_
    refine At.then_normal ?_
    refine At.seq ?_
    refine At.region ?_
    refine At.runk 1 [] [] ⟨fr 145 [(3, (vS A3 ((nds.take 60).length) c4)), (4, (vS An ((foldR nrmk (nds.take 60)).length) cn)), (6, (vS Aq ((foldR nrmk (nds.take 60)).length) cq)), (7, (vI 0)), (8, (vI (foldR dmk (nds.take 60)))), (9, (vI 0)), (50, (vS An ((foldR nrmk (nds.take 60)).length) cn))], [.dead]⟩ (by kernel_rfl) ?_
    refine At.callV rfl (by kernel_rfl) 18 [] [] (by kernel_rfl) Try.func18 (by kernel_rfl) (by kernel_rfl) [(vS An ((foldR nrmk (nds.take 60)).length) cn)] (by kernel_rfl) (by kernel_rfl) (depth_c Φ19 (foldR nrmk (nds.take 60)) An cn hN10 (by omega) hnw) ?_
    rintro Φ23 t21 hle24 ht22
    have hR := hR.mono hle24
    have hRr := hRr.mono hle24
    have hN10 := hN10.mono hle24
    have hN14 := hN14.mono hle24
    rw [treeR_ok l1] at ht22
    subst ht22
    refine ⟨⟨fr 145 [(3, (vS A3 ((nds.take 60).length) c4)), (4, (vS An ((foldR nrmk (nds.take 60)).length) cn)), (6, (vS Aq ((foldR nrmk (nds.take 60)).length) cq)), (7, (vI 0)), (8, (vI (foldR dmk (nds.take 60)))), (9, (vI 0)), (50, (vS An ((foldR nrmk (nds.take 60)).length) cn)), (51, .tup [(vI (foldR dmk (foldR nrmk (nds.take 60)))), (vI 0)])], [.dead]⟩, by kernel_rfl, by kernel_rfl, ?_⟩
    refine At.runk 5 [49, 50, 51, 52, 53] [] ⟨fr 145 [(3, (vS A3 ((nds.take 60).length) c4)), (4, (vS An ((foldR nrmk (nds.take 60)).length) cn)), (6, (vS Aq ((foldR nrmk (nds.take 60)).length) cq)), (7, (vI 0)), (8, (vI (foldR dmk (nds.take 60)))), (9, (vI 0)), (10, (vI (foldR dmk (foldR nrmk (nds.take 60))))), (11, (vI 0))], [.dead]⟩ (by kernel_rfl) ?_
    refine At.nil ?_
    refine At.then_normal ?_
    refine At.seq ?_
    refine At.region ?_
    refine At.runk 1 [] [] ⟨fr 145 [(3, (vS A3 ((nds.take 60).length) c4)), (4, (vS An ((foldR nrmk (nds.take 60)).length) cn)), (6, (vS Aq ((foldR nrmk (nds.take 60)).length) cq)), (7, (vI 0)), (8, (vI (foldR dmk (nds.take 60)))), (9, (vI 0)), (10, (vI (foldR dmk (foldR nrmk (nds.take 60))))), (11, (vI 0)), (55, (vS A3 ((nds.take 60).length) c4))], [.dead]⟩ (by kernel_rfl) ?_
    refine At.callV rfl (by kernel_rfl) 19 [] [] (by kernel_rfl) Try.func19 (by kernel_rfl) (by kernel_rfl) [(vS A3 ((nds.take 60).length) c4)] (by kernel_rfl) (by kernel_rfl) (nullable_c Φ23 (nds.take 60) A3 c4 hRr (by simp only [List.length_take]; omega) (fun n hn => ndsw n (List.mem_of_mem_take hn))) ?_
    rintro Φ27 t25 hle28 ht26
    have hR := hR.mono hle28
    have hRr := hRr.mono hle28
    have hN10 := hN10.mono hle28
    have hN14 := hN14.mono hle28
    rw [treeR_ok hok] at ht26
    subst ht26
    refine ⟨⟨fr 145 [(3, (vS A3 ((nds.take 60).length) c4)), (4, (vS An ((foldR nrmk (nds.take 60)).length) cn)), (6, (vS Aq ((foldR nrmk (nds.take 60)).length) cq)), (7, (vI 0)), (8, (vI (foldR dmk (nds.take 60)))), (9, (vI 0)), (10, (vI (foldR dmk (foldR nrmk (nds.take 60))))), (11, (vI 0)), (55, (vS A3 ((nds.take 60).length) c4)), (56, .tup [(vB (foldR nmk (nds.take 60))), (vI 0)])], [.dead]⟩, by kernel_rfl, by kernel_rfl, ?_⟩
    refine At.runk 5 [54, 55, 56, 57, 58] [] ⟨fr 145 [(3, (vS A3 ((nds.take 60).length) c4)), (4, (vS An ((foldR nrmk (nds.take 60)).length) cn)), (6, (vS Aq ((foldR nrmk (nds.take 60)).length) cq)), (7, (vI 0)), (8, (vI (foldR dmk (nds.take 60)))), (9, (vI 0)), (10, (vI (foldR dmk (foldR nrmk (nds.take 60))))), (11, (vI 0)), (12, (vB (foldR nmk (nds.take 60)))), (13, (vI 0))], [.dead]⟩ (by kernel_rfl) ?_
    refine At.nil ?_
    refine At.then_normal ?_
    refine At.seq ?_
    refine At.region ?_
    refine At.runk 1 [] [] ⟨fr 145 [(3, (vS A3 ((nds.take 60).length) c4)), (4, (vS An ((foldR nrmk (nds.take 60)).length) cn)), (6, (vS Aq ((foldR nrmk (nds.take 60)).length) cq)), (7, (vI 0)), (8, (vI (foldR dmk (nds.take 60)))), (9, (vI 0)), (10, (vI (foldR dmk (foldR nrmk (nds.take 60))))), (11, (vI 0)), (12, (vB (foldR nmk (nds.take 60)))), (13, (vI 0)), (60, (vS An ((foldR nrmk (nds.take 60)).length) cn))], [.dead]⟩ (by kernel_rfl) ?_
    refine At.callV rfl (by kernel_rfl) 19 [] [] (by kernel_rfl) Try.func19 (by kernel_rfl) (by kernel_rfl) [(vS An ((foldR nrmk (nds.take 60)).length) cn)] (by kernel_rfl) (by kernel_rfl) (nullable_c Φ27 (foldR nrmk (nds.take 60)) An cn hN10 (by omega) hnw) ?_
    rintro Φ31 t29 hle32 ht30
    have hR := hR.mono hle32
    have hRr := hRr.mono hle32
    have hN10 := hN10.mono hle32
    have hN14 := hN14.mono hle32
    rw [treeR_ok l1] at ht30
    rw [l5] at ht30
    subst ht30
    refine ⟨⟨fr 145 [(3, (vS A3 ((nds.take 60).length) c4)), (4, (vS An ((foldR nrmk (nds.take 60)).length) cn)), (6, (vS Aq ((foldR nrmk (nds.take 60)).length) cq)), (7, (vI 0)), (8, (vI (foldR dmk (nds.take 60)))), (9, (vI 0)), (10, (vI (foldR dmk (foldR nrmk (nds.take 60))))), (11, (vI 0)), (12, (vB (foldR nmk (nds.take 60)))), (13, (vI 0)), (60, (vS An ((foldR nrmk (nds.take 60)).length) cn)), (61, .tup [(vB (foldR nmk (nds.take 60))), (vI 0)])], [.dead]⟩, by kernel_rfl, by kernel_rfl, ?_⟩
    refine At.runk 5 [59, 60, 61, 62, 63] [] ⟨fr 145 [(3, (vS A3 ((nds.take 60).length) c4)), (4, (vS An ((foldR nrmk (nds.take 60)).length) cn)), (6, (vS Aq ((foldR nrmk (nds.take 60)).length) cq)), (7, (vI 0)), (8, (vI (foldR dmk (nds.take 60)))), (9, (vI 0)), (10, (vI (foldR dmk (foldR nrmk (nds.take 60))))), (11, (vI 0)), (12, (vB (foldR nmk (nds.take 60)))), (13, (vI 0)), (14, (vB (foldR nmk (nds.take 60)))), (15, (vI 0))], [.dead]⟩ (by kernel_rfl) ?_
    refine At.nil ?_
    refine At.then_normal ?_
    refine At.seq ?_
    refine At.seq ?_
    refine At.region ?_
    refine At.runk 21 [6, 7, 9, 11, 13, 15, 64, 65, 66, 67, 68, 69, 70, 71, 72, 73, 74, 75, 76, 77, 78, 79, 80, 81] [] ⟨fr 145 [(3, (vS A3 ((nds.take 60).length) c4)), (4, (vS An ((foldR nrmk (nds.take 60)).length) cn)), (8, (vI (foldR dmk (nds.take 60)))), (10, (vI (foldR dmk (foldR nrmk (nds.take 60))))), (12, (vB (foldR nmk (nds.take 60)))), (14, (vB (foldR nmk (nds.take 60)))), (82, (vB false)), (83, (vS Aq ((foldR nrmk (nds.take 60)).length) cq)), (84, (vS An ((foldR nrmk (nds.take 60)).length) cn))], [.dead]⟩ (by kernel_rfl) ?_
    refine At.callV rfl (by kernel_rfl) 20 [] [] (by kernel_rfl) Try.func20 (by kernel_rfl) (by kernel_rfl) [(vS Aq ((foldR nrmk (nds.take 60)).length) cq), (vS An ((foldR nrmk (nds.take 60)).length) cn)] (by kernel_rfl) (by kernel_rfl) (same_c Φ31 (foldR nrmk (nds.take 60)) (foldR nrmk (nds.take 60)) Aq An cq cn hN14 hN10 (by omega) (by omega)) ?_
    rintro Φ35 ts33 hle36 hts34
    have hR := hR.mono hle36
    have hRr := hRr.mono hle36
    have hN10 := hN10.mono hle36
    have hN14 := hN14.mono hle36
    replace hts34 : ts33 = true := by rw [hts34]; exact decide_eq_true rfl
    subst hts34
    refine ⟨⟨fr 145 [(3, (vS A3 ((nds.take 60).length) c4)), (4, (vS An ((foldR nrmk (nds.take 60)).length) cn)), (8, (vI (foldR dmk (nds.take 60)))), (10, (vI (foldR dmk (foldR nrmk (nds.take 60))))), (12, (vB (foldR nmk (nds.take 60)))), (14, (vB (foldR nmk (nds.take 60)))), (82, (vB false)), (83, (vS Aq ((foldR nrmk (nds.take 60)).length) cq)), (84, (vS An ((foldR nrmk (nds.take 60)).length) cn)), (85, (vB true))], [.dead]⟩, by kernel_rfl, by kernel_rfl, ?_⟩
    refine At.runk 10 [82, 83, 84, 85, 86, 87, 88, 89, 90, 91, 92, 93, 94] [] ⟨fr 145 [(3, (vS A3 ((nds.take 60).length) c4)), (4, (vS An ((foldR nrmk (nds.take 60)).length) cn)), (8, (vI (foldR dmk (nds.take 60)))), (10, (vI (foldR dmk (foldR nrmk (nds.take 60))))), (12, (vB (foldR nmk (nds.take 60)))), (14, (vB (foldR nmk (nds.take 60)))), (95, (vB (decide (((foldR nrmk (nds.take 60)).length : Int) > ((nds.take 60).length : Int)))))], [.dead]⟩ (by kernel_rfl) ?_
    refine At.bcase (decide (((foldR nrmk (nds.take 60)).length : Int) > ((nds.take 60).length : Int))) (fun hb37 => ?_) (fun hb37 => ?_)
    · have hb37p : (((foldR nrmk (nds.take 60)).length : Int) > ((nds.take 60).length : Int)) := of_decide_eq_true hb37
      exfalso; omega
    have hb37p : ¬ (((foldR nrmk (nds.take 60)).length : Int) > ((nds.take 60).length : Int)) := of_decide_eq_false hb37
    refine At.cast (S' := ⟨fr 145 [(3, (vS A3 ((nds.take 60).length) c4)), (4, (vS An ((foldR nrmk (nds.take 60)).length) cn)), (8, (vI (foldR dmk (nds.take 60)))), (10, (vI (foldR dmk (foldR nrmk (nds.take 60))))), (12, (vB (foldR nmk (nds.take 60)))), (14, (vB (foldR nmk (nds.take 60)))), (95, (vB false))], [.dead]⟩) (by rw [hb37] <;> rfl) ?_
    refine At.runk 5 [8, 10, 95, 96, 97, 98, 99] [] ⟨fr 145 [(3, (vS A3 ((nds.take 60).length) c4)), (4, (vS An ((foldR nrmk (nds.take 60)).length) cn)), (12, (vB (foldR nmk (nds.take 60)))), (14, (vB (foldR nmk (nds.take 60)))), (100, (vB (decide ((foldR dmk (foldR nrmk (nds.take 60))) > (foldR dmk (nds.take 60))))))], [.dead]⟩ (by kernel_rfl) ?_
    refine At.bcase (decide ((foldR dmk (foldR nrmk (nds.take 60))) > (foldR dmk (nds.take 60)))) (fun hb38 => ?_) (fun hb38 => ?_)
    · have hb38p : ((foldR dmk (foldR nrmk (nds.take 60))) > (foldR dmk (nds.take 60))) := of_decide_eq_true hb38
      exfalso; omega
    have hb38p : ¬ ((foldR dmk (foldR nrmk (nds.take 60))) > (foldR dmk (nds.take 60))) := of_decide_eq_false hb38
    refine At.cast (S' := ⟨fr 145 [(3, (vS A3 ((nds.take 60).length) c4)), (4, (vS An ((foldR nrmk (nds.take 60)).length) cn)), (12, (vB (foldR nmk (nds.take 60)))), (14, (vB (foldR nmk (nds.take 60)))), (100, (vB false))], [.dead]⟩) (by rw [hb38] <;> rfl) ?_
    refine At.runk 2 [12, 14] [] ⟨fr 145 [(3, (vS A3 ((nds.take 60).length) c4)), (4, (vS An ((foldR nrmk (nds.take 60)).length) cn)), (100, (vB false)), (101, (vB (foldR nmk (nds.take 60)))), (102, (vB (foldR nmk (nds.take 60))))], [.dead]⟩ (by kernel_rfl) ?_
    refine At.bcase (foldR nmk (nds.take 60)) (fun hb39 => ?_) (fun hb39 => ?_)
    · refine At.cast (S' := ⟨fr 145 [(3, (vS A3 ((nds.take 60).length) c4)), (4, (vS An ((foldR nrmk (nds.take 60)).length) cn)), (100, (vB false)), (101, (vB true)), (102, (vB true))], [.dead]⟩) (by rw [hb39] <;> rfl) ?_
      refine At.runk 2 [100, 101, 102, 103] [] ⟨fr 145 [(3, (vS A3 ((nds.take 60).length) c4)), (4, (vS An ((foldR nrmk (nds.take 60)).length) cn)), (104, (vB false))], [.dead]⟩ (by kernel_rfl) ?_
      refine At.nil ?_
      refine At.then_normal ?_
      refine At.cond_f (by kernel_rfl) ?_
      refine At.skip ?_
      refine At.then_normal ?_
      refine At.seq ?_
      refine At.region ?_
      refine At.runk 1 [104] [] ⟨fr 145 [(3, (vS A3 ((nds.take 60).length) c4)), (4, (vS An ((foldR nrmk (nds.take 60)).length) cn)), (16, (vB true))], [.dead]⟩ (by kernel_rfl) ?_
      refine At.nil ?_
      refine At.then_normal ?_
      refine At.seq ?_
      refine At.seq ?_
      refine At.region ?_
      refine At.runk 3 [] [] ⟨fr 145 [(3, (vS A3 ((nds.take 60).length) c4)), (4, (vS An ((foldR nrmk (nds.take 60)).length) cn)), (16, (vB true)), (105, (vS A3 ((nds.take 60).length) c4)), (106, (vI ((nds.take 60).length : Int))), (107, (vI 0))], [.dead]⟩ (by kernel_rfl) ?_
      refine At.nil ?_
      refine At.then_normal ?_
      refine At.block ?_
      refine At.forget [] 0 [] ⟨fr 145 [(3, (vS A3 ((nds.take 60).length) c4)), (4, (vS An ((foldR nrmk (nds.take 60)).length) cn)), (16, (vB true)), (105, (vS A3 ((nds.take 60).length) c4)), (106, (vI ((nds.take 60).length : Int))), (107, (vI 0))], []⟩ (by kernel_rfl) (by kernel_rfl) (bleT rfl) ?_
      refine At.loop (T := Nat × Bool) (fun x => ⟨fr 145 [(3, (vS A3 ((nds.take 60).length) c4)), (4, (vS An ((foldR nrmk (nds.take 60)).length) cn)), (16, (vB x.2)), (105, (vS A3 ((nds.take 60).length) c4)), (106, (vI ((nds.take 60).length : Int))), (107, (vI (x.1 : Int)))], []⟩) (fun x Φ => x.1 ≤ (nds.take 60).length ∧ (x.2 = true → ∀ m ∈ (nds.take 60).take x.1, ¬ isN m)) (fun x => (nds.take 60).length - x.1) (0, true) (by kernel_rfl) ⟨Nat.zero_le _, fun _ m hm => by cases hm⟩ ?_
      rintro ⟨i, s⟩ Φ40 hle41 hF
      have hR := hR.mono hle41
      have hRr := hRr.mono hle41
      have hN10 := hN10.mono hle41
      have hN14 := hN14.mono hle41
      refine At.cast (S' := ⟨fr 145 [(3, (vS A3 ((nds.take 60).length) c4)), (4, (vS An ((foldR nrmk (nds.take 60)).length) cn)), (16, (vB s)), (105, (vS A3 ((nds.take 60).length) c4)), (106, (vI ((nds.take 60).length : Int))), (107, (vI (i : Int)))], []⟩) (by kernel_rfl) ?_
      dsimp only at hF
      have hF1 := hF.1
      refine At.seq ?_
      refine At.region ?_
      refine At.runk 1 [] [] ⟨fr 145 [(3, (vS A3 ((nds.take 60).length) c4)), (4, (vS An ((foldR nrmk (nds.take 60)).length) cn)), (16, (vB s)), (105, (vS A3 ((nds.take 60).length) c4)), (106, (vI ((nds.take 60).length : Int))), (107, (vI (i : Int))), (108, (vB (decide ((i : Int) < ((nds.take 60).length : Int)))))], []⟩ (by kernel_rfl) ?_
      refine At.nil ?_
      refine At.then_normal ?_
      refine At.seq ?_
      refine At.bcase (decide ((i : Int) < ((nds.take 60).length : Int))) (fun hb42 => ?_) (fun hb42 => ?_)
      · have hb42p : ((i : Int) < ((nds.take 60).length : Int)) := of_decide_eq_true hb42
        refine At.cast (S' := ⟨fr 145 [(3, (vS A3 ((nds.take 60).length) c4)), (4, (vS An ((foldR nrmk (nds.take 60)).length) cn)), (16, (vB s)), (105, (vS A3 ((nds.take 60).length) c4)), (106, (vI ((nds.take 60).length : Int))), (107, (vI (i : Int))), (108, (vB true))], []⟩) (by rw [hb42] <;> rfl) ?_
        refine At.cond_t (by kernel_rfl) ?_
        refine At.skip ?_
        refine At.then_normal ?_
        refine At.seq ?_
        refine At.block ?_
        refine At.seq ?_
        refine At.region ?_
        obtain ⟨b43, off44, hxeq⟩ : ∃ b off, A3 = some ⟨b, off, none⟩ := hRr.addr (by exact nds_pos (by omega))
        subst hxeq
        refine At.idx (S' := ⟨fr 145 [(3, (vS (aS b43 off44) ((nds.take 60).length) c4)), (4, (vS An ((foldR nrmk (nds.take 60)).length) cn)), (16, (vB s)), (105, (vS (aS b43 off44) ((nds.take 60).length) c4)), (106, (vI ((nds.take 60).length : Int))), (107, (vI (i : Int))), (108, (vB true)), (109, .v (.pointer (some ⟨b43, off44 + i * 7, none⟩)))], []⟩) rfl (by kernel_rfl) (sz := 7) (e := 26) (by kernel_rfl) (by kernel_rfl) (by kernel_rfl) (b := b43) (off := off44) (n := (nds.take 60).length) (cap := c4) (kd := .i64) (i := (i : Int)) (by kernel_rfl) (by omega) (by omega) (by kernel_rfl) ?_
        obtain ⟨e45, he46⟩ := get_some (l := (nds.take 60)) (i := i) (by omega)
        refine At.vals (S' := ⟨fr 145 [(3, (vS (aS b43 off44) ((nds.take 60).length) c4)), (4, (vS An ((foldR nrmk (nds.take 60)).length) cn)), (16, (vB s)), (105, (vS (aS b43 off44) ((nds.take 60).length) c4)), (106, (vI ((nds.take 60).length : Int))), (107, (vI (i : Int))), (108, (vB true)), (109, .v (.pointer (some ⟨b43, off44 + i * 7, none⟩))), (110, .agg e45.sv)], []⟩) (by kernel_rfl) (.agg e45.sv) (by kernel_rfl) (Val.ldE rfl (enc := Nd.cells) (xs := (nds.take 60)) (b := b43) (off := off44) hRr (sz := 7) (fun _ => rfl) (Nat.zero_lt_succ _) i e45 he46 0 (off44 + i * 7) (by omega) (by kernel_rfl) (.agg e45.sv) (by kernel_rfl)) ?_
        refine At.runk 2 [108, 109, 110] [] ⟨fr 145 [(3, (vS (aS b43 off44) ((nds.take 60).length) c4)), (4, (vS An ((foldR nrmk (nds.take 60)).length) cn)), (16, (vB s)), (18, .p 0 0), (105, (vS (aS b43 off44) ((nds.take 60).length) c4)), (106, (vI ((nds.take 60).length : Int))), (107, (vI (i : Int)))], [.c e45.sv 26]⟩ (by kernel_rfl) ?_
        refine At.nil ?_
        refine At.then_normal ?_
        refine At.freezeC 0 [.int .i64 e45.kind, .int .u64 e45.s0, .int .u64 e45.s1, .int .u64 e45.s2, .int .u64 e45.s3, .int .i64 e45.mn, .int .i64 e45.mx] rfl rfl (bleT rfl) (bleT rfl) (fun _ => by kernel_rfl) (fun _ => by kernel_rfl) ?_
        intro g47 Φ48 hle49 hB50
        have hR := hR.mono hle49
        have hRr := hRr.mono hle49
        have hN10 := hN10.mono hle49
        have hN14 := hN14.mono hle49
        refine ⟨⟨fr 145 [(3, (vS (aS b43 off44) ((nds.take 60).length) c4)), (4, (vS An ((foldR nrmk (nds.take 60)).length) cn)), (16, (vB s)), (18, (vP g47 0)), (105, (vS (aS b43 off44) ((nds.take 60).length) c4)), (106, (vI ((nds.take 60).length : Int))), (107, (vI (i : Int)))], [.dead]⟩, by kernel_rfl, ?_⟩
        refine At.region ?_
        refine At.runk 2 [16, 111] [] ⟨fr 145 [(3, (vS (aS b43 off44) ((nds.take 60).length) c4)), (4, (vS An ((foldR nrmk (nds.take 60)).length) cn)), (18, (vP g47 0)), (105, (vS (aS b43 off44) ((nds.take 60).length) c4)), (106, (vI ((nds.take 60).length : Int))), (107, (vI (i : Int))), (112, (vB s))], [.dead]⟩ (by kernel_rfl) ?_
        refine At.bcase s (fun hb51 => ?_) (fun hb51 => ?_)
        · refine At.cast (S' := ⟨fr 145 [(3, (vS (aS b43 off44) ((nds.take 60).length) c4)), (4, (vS An ((foldR nrmk (nds.take 60)).length) cn)), (18, (vP g47 0)), (105, (vS (aS b43 off44) ((nds.take 60).length) c4)), (106, (vI ((nds.take 60).length : Int))), (107, (vI (i : Int))), (112, (vB true))], [.dead]⟩) (by rw [hb51] <;> rfl) ?_
          refine At.runk 1 [] [] ⟨fr 145 [(3, (vS (aS b43 off44) ((nds.take 60).length) c4)), (4, (vS An ((foldR nrmk (nds.take 60)).length) cn)), (18, (vP g47 0)), (105, (vS (aS b43 off44) ((nds.take 60).length) c4)), (106, (vI ((nds.take 60).length : Int))), (107, (vI (i : Int))), (112, (vB true)), (113, (vP g47 0))], [.dead]⟩ (by kernel_rfl) ?_
          refine At.vals (S' := ⟨fr 145 [(3, (vS (aS b43 off44) ((nds.take 60).length) c4)), (4, (vS An ((foldR nrmk (nds.take 60)).length) cn)), (18, (vP g47 0)), (105, (vS (aS b43 off44) ((nds.take 60).length) c4)), (106, (vI ((nds.take 60).length : Int))), (107, (vI (i : Int))), (112, (vB true)), (113, (vP g47 0)), (114, (vI e45.kind))], [.dead]⟩) (by kernel_rfl) ((vI e45.kind)) (by kernel_rfl) (Val.ldB rfl hB50 (Nat.zero_lt_succ _) 0 0 (by omega) (by kernel_rfl) ((vI e45.kind)) (by kernel_rfl)) ?_
          refine At.runk 2 [113, 114, 115] [] ⟨fr 145 [(3, (vS (aS b43 off44) ((nds.take 60).length) c4)), (4, (vS An ((foldR nrmk (nds.take 60)).length) cn)), (18, (vP g47 0)), (105, (vS (aS b43 off44) ((nds.take 60).length) c4)), (106, (vI ((nds.take 60).length : Int))), (107, (vI (i : Int))), (112, (vB true)), (116, (vB (e45.kind != 9)))], [.dead]⟩ (by kernel_rfl) ?_
          refine At.bcase (e45.kind != 9) (fun hb52 => ?_) (fun hb52 => ?_)
          · have hb52p : ¬ (e45.kind = 9) := by simpa using hb52
            refine At.cast (S' := ⟨fr 145 [(3, (vS (aS b43 off44) ((nds.take 60).length) c4)), (4, (vS An ((foldR nrmk (nds.take 60)).length) cn)), (18, (vP g47 0)), (105, (vS (aS b43 off44) ((nds.take 60).length) c4)), (106, (vI ((nds.take 60).length : Int))), (107, (vI (i : Int))), (112, (vB true)), (116, (vB true))], [.dead]⟩) (by rw [hb52] <;> rfl) ?_
            refine At.runk 6 [18, 112, 116, 117, 118, 119, 120, 121] [] ⟨fr 145 [(3, (vS (aS b43 off44) ((nds.take 60).length) c4)), (4, (vS An ((foldR nrmk (nds.take 60)).length) cn)), (16, (vB true)), (105, (vS (aS b43 off44) ((nds.take 60).length) c4)), (106, (vI ((nds.take 60).length : Int))), (107, (vI (i : Int)))], [.dead]⟩ (by kernel_rfl) ?_
            refine At.nil ?_
            refine At.in_normal ?_
            refine At.then_normal ?_
            refine At.region ?_
            refine At.runk 1 [107] [] ⟨fr 145 [(3, (vS (aS b43 off44) ((nds.take 60).length) c4)), (4, (vS An ((foldR nrmk (nds.take 60)).length) cn)), (16, (vB true)), (105, (vS (aS b43 off44) ((nds.take 60).length) c4)), (106, (vI ((nds.take 60).length : Int))), (122, (vI (IntKind.i64.wrap ((i : Int) + 1))))], [.dead]⟩ (by kernel_rfl) ?_
            refine At.cast (S' := ⟨fr 145 [(3, (vS (aS b43 off44) ((nds.take 60).length) c4)), (4, (vS An ((foldR nrmk (nds.take 60)).length) cn)), (16, (vB true)), (105, (vS (aS b43 off44) ((nds.take 60).length) c4)), (106, (vI ((nds.take 60).length : Int))), (122, (vI ((i : Int) + 1)))], [.dead]⟩) (by rw [wrapI (z := (i : Int) + 1) (by omega) (by omega)]) ?_
            refine At.runk 1 [122] [] ⟨fr 145 [(3, (vS (aS b43 off44) ((nds.take 60).length) c4)), (4, (vS An ((foldR nrmk (nds.take 60)).length) cn)), (16, (vB true)), (105, (vS (aS b43 off44) ((nds.take 60).length) c4)), (106, (vI ((nds.take 60).length : Int))), (107, (vI ((i : Int) + 1)))], [.dead]⟩ (by kernel_rfl) ?_
            refine At.nil ?_
            refine At.forget [] 0 [] ⟨fr 145 [(3, (vS (aS b43 off44) ((nds.take 60).length) c4)), (4, (vS An ((foldR nrmk (nds.take 60)).length) cn)), (16, (vB true)), (105, (vS (aS b43 off44) ((nds.take 60).length) c4)), (106, (vI ((nds.take 60).length : Int))), (107, (vI ((i : Int) + 1)))], []⟩ (by kernel_rfl) (by kernel_rfl) (bleT rfl) ?_
            refine At.round (i + 1, true) (by kernel_rfl) hle49 ⟨by omega, isn_step hF.2 he46 (fun hq => by simp_all [isN])⟩ (by omega)
          have hb52p : (e45.kind = 9) := by simpa using hb52
          refine At.cast (S' := ⟨fr 145 [(3, (vS (aS b43 off44) ((nds.take 60).length) c4)), (4, (vS An ((foldR nrmk (nds.take 60)).length) cn)), (18, (vP g47 0)), (105, (vS (aS b43 off44) ((nds.take 60).length) c4)), (106, (vI ((nds.take 60).length : Int))), (107, (vI (i : Int))), (112, (vB true)), (116, (vB false))], [.dead]⟩) (by rw [hb52] <;> rfl) ?_
          refine At.runk 1 [18] [] ⟨fr 145 [(3, (vS (aS b43 off44) ((nds.take 60).length) c4)), (4, (vS An ((foldR nrmk (nds.take 60)).length) cn)), (105, (vS (aS b43 off44) ((nds.take 60).length) c4)), (106, (vI ((nds.take 60).length : Int))), (107, (vI (i : Int))), (112, (vB true)), (116, (vB false)), (117, (vP g47 6))], [.dead]⟩ (by kernel_rfl) ?_
          refine At.vals (S' := ⟨fr 145 [(3, (vS (aS b43 off44) ((nds.take 60).length) c4)), (4, (vS An ((foldR nrmk (nds.take 60)).length) cn)), (105, (vS (aS b43 off44) ((nds.take 60).length) c4)), (106, (vI ((nds.take 60).length : Int))), (107, (vI (i : Int))), (112, (vB true)), (116, (vB false)), (117, (vP g47 6)), (118, (vI e45.mx))], [.dead]⟩) (by kernel_rfl) ((vI e45.mx)) (by kernel_rfl) (Val.ldB rfl hB50 (Nat.zero_lt_succ _) 6 6 (by omega) (by kernel_rfl) ((vI e45.mx)) (by kernel_rfl)) ?_
          refine At.runk 4 [112, 116, 117, 118, 119, 120, 121] [] ⟨fr 145 [(3, (vS (aS b43 off44) ((nds.take 60).length) c4)), (4, (vS An ((foldR nrmk (nds.take 60)).length) cn)), (16, (vB (e45.mx != 0))), (105, (vS (aS b43 off44) ((nds.take 60).length) c4)), (106, (vI ((nds.take 60).length : Int))), (107, (vI (i : Int)))], [.dead]⟩ (by kernel_rfl) ?_
          refine At.nil ?_
          refine At.in_normal ?_
          refine At.then_normal ?_
          refine At.region ?_
          refine At.runk 1 [107] [] ⟨fr 145 [(3, (vS (aS b43 off44) ((nds.take 60).length) c4)), (4, (vS An ((foldR nrmk (nds.take 60)).length) cn)), (16, (vB (e45.mx != 0))), (105, (vS (aS b43 off44) ((nds.take 60).length) c4)), (106, (vI ((nds.take 60).length : Int))), (122, (vI (IntKind.i64.wrap ((i : Int) + 1))))], [.dead]⟩ (by kernel_rfl) ?_
          refine At.cast (S' := ⟨fr 145 [(3, (vS (aS b43 off44) ((nds.take 60).length) c4)), (4, (vS An ((foldR nrmk (nds.take 60)).length) cn)), (16, (vB (e45.mx != 0))), (105, (vS (aS b43 off44) ((nds.take 60).length) c4)), (106, (vI ((nds.take 60).length : Int))), (122, (vI ((i : Int) + 1)))], [.dead]⟩) (by rw [wrapI (z := (i : Int) + 1) (by omega) (by omega)]) ?_
          refine At.runk 1 [122] [] ⟨fr 145 [(3, (vS (aS b43 off44) ((nds.take 60).length) c4)), (4, (vS An ((foldR nrmk (nds.take 60)).length) cn)), (16, (vB (e45.mx != 0))), (105, (vS (aS b43 off44) ((nds.take 60).length) c4)), (106, (vI ((nds.take 60).length : Int))), (107, (vI ((i : Int) + 1)))], [.dead]⟩ (by kernel_rfl) ?_
          refine At.nil ?_
          refine At.forget [] 0 [] ⟨fr 145 [(3, (vS (aS b43 off44) ((nds.take 60).length) c4)), (4, (vS An ((foldR nrmk (nds.take 60)).length) cn)), (16, (vB (e45.mx != 0))), (105, (vS (aS b43 off44) ((nds.take 60).length) c4)), (106, (vI ((nds.take 60).length : Int))), (107, (vI ((i : Int) + 1)))], []⟩ (by kernel_rfl) (by kernel_rfl) (bleT rfl) ?_
          refine At.round (i + 1, (e45.mx != 0)) (by kernel_rfl) hle49 ⟨by omega, isn_step hF.2 he46 (fun hq => by simp_all [isN])⟩ (by omega)
        refine At.cast (S' := ⟨fr 145 [(3, (vS (aS b43 off44) ((nds.take 60).length) c4)), (4, (vS An ((foldR nrmk (nds.take 60)).length) cn)), (18, (vP g47 0)), (105, (vS (aS b43 off44) ((nds.take 60).length) c4)), (106, (vI ((nds.take 60).length : Int))), (107, (vI (i : Int))), (112, (vB false))], [.dead]⟩) (by rw [hb51] <;> rfl) ?_
        refine At.runk 10 [18, 112, 113, 114, 115, 116, 117, 118, 119, 120, 121] [] ⟨fr 145 [(3, (vS (aS b43 off44) ((nds.take 60).length) c4)), (4, (vS An ((foldR nrmk (nds.take 60)).length) cn)), (16, (vB false)), (105, (vS (aS b43 off44) ((nds.take 60).length) c4)), (106, (vI ((nds.take 60).length : Int))), (107, (vI (i : Int)))], [.dead]⟩ (by kernel_rfl) ?_
        refine At.nil ?_
        refine At.in_normal ?_
        refine At.then_normal ?_
        refine At.region ?_
        refine At.runk 1 [107] [] ⟨fr 145 [(3, (vS (aS b43 off44) ((nds.take 60).length) c4)), (4, (vS An ((foldR nrmk (nds.take 60)).length) cn)), (16, (vB false)), (105, (vS (aS b43 off44) ((nds.take 60).length) c4)), (106, (vI ((nds.take 60).length : Int))), (122, (vI (IntKind.i64.wrap ((i : Int) + 1))))], [.dead]⟩ (by kernel_rfl) ?_
        refine At.cast (S' := ⟨fr 145 [(3, (vS (aS b43 off44) ((nds.take 60).length) c4)), (4, (vS An ((foldR nrmk (nds.take 60)).length) cn)), (16, (vB false)), (105, (vS (aS b43 off44) ((nds.take 60).length) c4)), (106, (vI ((nds.take 60).length : Int))), (122, (vI ((i : Int) + 1)))], [.dead]⟩) (by rw [wrapI (z := (i : Int) + 1) (by omega) (by omega)]) ?_
        refine At.runk 1 [122] [] ⟨fr 145 [(3, (vS (aS b43 off44) ((nds.take 60).length) c4)), (4, (vS An ((foldR nrmk (nds.take 60)).length) cn)), (16, (vB false)), (105, (vS (aS b43 off44) ((nds.take 60).length) c4)), (106, (vI ((nds.take 60).length : Int))), (107, (vI ((i : Int) + 1)))], [.dead]⟩ (by kernel_rfl) ?_
        refine At.nil ?_
        refine At.forget [] 0 [] ⟨fr 145 [(3, (vS (aS b43 off44) ((nds.take 60).length) c4)), (4, (vS An ((foldR nrmk (nds.take 60)).length) cn)), (16, (vB false)), (105, (vS (aS b43 off44) ((nds.take 60).length) c4)), (106, (vI ((nds.take 60).length : Int))), (107, (vI ((i : Int) + 1)))], []⟩ (by kernel_rfl) (by kernel_rfl) (bleT rfl) ?_
        refine At.round (i + 1, false) (by kernel_rfl) hle49 ⟨by omega, isn_step hF.2 he46 (fun hq => by simp_all [isN])⟩ (by omega)
      have hb42p : ¬ ((i : Int) < ((nds.take 60).length : Int)) := of_decide_eq_false hb42
      refine At.cast (S' := ⟨fr 145 [(3, (vS A3 ((nds.take 60).length) c4)), (4, (vS An ((foldR nrmk (nds.take 60)).length) cn)), (16, (vB s)), (105, (vS A3 ((nds.take 60).length) c4)), (106, (vI ((nds.take 60).length : Int))), (107, (vI (i : Int))), (108, (vB false))], []⟩) (by rw [hb42] <;> rfl) ?_
      refine At.cond_f (by kernel_rfl) ?_
      refine At.exit_ ?_
      refine At.then_exit ?_
      refine At.then_exit ?_
      refine At.in_here ?_
      refine At.then_normal ?_
      refine At.seq ?_
      refine At.seq ?_
      refine At.region ?_
      refine At.runk 3 [105, 106, 107, 108] [] ⟨fr 145 [(3, (vS A3 ((nds.take 60).length) c4)), (4, (vS An ((foldR nrmk (nds.take 60)).length) cn)), (16, (vB s)), (123, (vS An ((foldR nrmk (nds.take 60)).length) cn)), (124, (vI ((foldR nrmk (nds.take 60)).length : Int))), (125, (vI 0))], []⟩ (by kernel_rfl) ?_
      refine At.nil ?_
      refine At.then_normal ?_
      refine At.block ?_
      have hs := hF.2
      have hi0 : (nds.take 60).length ≤ i := by omega
      refine At.loop (T := Nat) (fun x => ⟨fr 145 [(3, (vS A3 ((nds.take 60).length) c4)), (4, (vS An ((foldR nrmk (nds.take 60)).length) cn)), (16, (vB s)), (123, (vS An ((foldR nrmk (nds.take 60)).length) cn)), (124, (vI ((foldR nrmk (nds.take 60)).length : Int))), (125, (vI (x : Int)))], []⟩) (fun x Φ => x ≤ (foldR nrmk (nds.take 60)).length) (fun x => (foldR nrmk (nds.take 60)).length - x) 0 (by kernel_rfl) (Nat.zero_le _) ?_
      rintro k Φ53 hle54 hF2
      have hR := hR.mono hle54
      have hRr := hRr.mono hle54
      have hN10 := hN10.mono hle54
      have hN14 := hN14.mono hle54
      refine At.cast (S' := ⟨fr 145 [(3, (vS A3 ((nds.take 60).length) c4)), (4, (vS An ((foldR nrmk (nds.take 60)).length) cn)), (16, (vB s)), (123, (vS An ((foldR nrmk (nds.take 60)).length) cn)), (124, (vI ((foldR nrmk (nds.take 60)).length : Int))), (125, (vI (k : Int)))], []⟩) (by kernel_rfl) ?_
      refine At.seq ?_
      refine At.region ?_
      refine At.runk 1 [] [] ⟨fr 145 [(3, (vS A3 ((nds.take 60).length) c4)), (4, (vS An ((foldR nrmk (nds.take 60)).length) cn)), (16, (vB s)), (123, (vS An ((foldR nrmk (nds.take 60)).length) cn)), (124, (vI ((foldR nrmk (nds.take 60)).length : Int))), (125, (vI (k : Int))), (126, (vB (decide ((k : Int) < ((foldR nrmk (nds.take 60)).length : Int)))))], []⟩ (by kernel_rfl) ?_
      refine At.nil ?_
      refine At.then_normal ?_
      refine At.seq ?_
      refine At.bcase (decide ((k : Int) < ((foldR nrmk (nds.take 60)).length : Int))) (fun hb55 => ?_) (fun hb55 => ?_)
      · have hb55p : ((k : Int) < ((foldR nrmk (nds.take 60)).length : Int)) := of_decide_eq_true hb55
        refine At.cast (S' := ⟨fr 145 [(3, (vS A3 ((nds.take 60).length) c4)), (4, (vS An ((foldR nrmk (nds.take 60)).length) cn)), (16, (vB s)), (123, (vS An ((foldR nrmk (nds.take 60)).length) cn)), (124, (vI ((foldR nrmk (nds.take 60)).length : Int))), (125, (vI (k : Int))), (126, (vB true))], []⟩) (by rw [hb55] <;> rfl) ?_
        refine At.cond_t (by kernel_rfl) ?_
        refine At.skip ?_
        refine At.then_normal ?_
        refine At.seq ?_
        refine At.block ?_
        refine At.seq ?_
        refine At.region ?_
        obtain ⟨b56, off57, hxeq⟩ : ∃ b off, An = some ⟨b, off, none⟩ := hN10.addr (by exact nds_pos (by omega))
        subst hxeq
        refine At.idx (S' := ⟨fr 145 [(3, (vS A3 ((nds.take 60).length) c4)), (4, (vS (aS b56 off57) ((foldR nrmk (nds.take 60)).length) cn)), (16, (vB s)), (123, (vS (aS b56 off57) ((foldR nrmk (nds.take 60)).length) cn)), (124, (vI ((foldR nrmk (nds.take 60)).length : Int))), (125, (vI (k : Int))), (126, (vB true)), (127, .v (.pointer (some ⟨b56, off57 + k * 7, none⟩)))], []⟩) rfl (by kernel_rfl) (sz := 7) (e := 26) (by kernel_rfl) (by kernel_rfl) (by kernel_rfl) (b := b56) (off := off57) (n := (foldR nrmk (nds.take 60)).length) (cap := cn) (kd := .i64) (i := (k : Int)) (by kernel_rfl) (by omega) (by omega) (by kernel_rfl) ?_
        obtain ⟨e58, he59⟩ := get_some (l := (foldR nrmk (nds.take 60))) (i := k) (by omega)
        refine At.vals (S' := ⟨fr 145 [(3, (vS A3 ((nds.take 60).length) c4)), (4, (vS (aS b56 off57) ((foldR nrmk (nds.take 60)).length) cn)), (16, (vB s)), (123, (vS (aS b56 off57) ((foldR nrmk (nds.take 60)).length) cn)), (124, (vI ((foldR nrmk (nds.take 60)).length : Int))), (125, (vI (k : Int))), (126, (vB true)), (127, .v (.pointer (some ⟨b56, off57 + k * 7, none⟩))), (128, .agg e58.sv)], []⟩) (by kernel_rfl) (.agg e58.sv) (by kernel_rfl) (Val.ldE rfl (enc := Nd.cells) (xs := (foldR nrmk (nds.take 60))) (b := b56) (off := off57) hN10 (sz := 7) (fun _ => rfl) (Nat.zero_lt_succ _) k e58 he59 0 (off57 + k * 7) (by omega) (by kernel_rfl) (.agg e58.sv) (by kernel_rfl)) ?_
        refine At.runk 2 [126, 127, 128] [] ⟨fr 145 [(3, (vS A3 ((nds.take 60).length) c4)), (4, (vS (aS b56 off57) ((foldR nrmk (nds.take 60)).length) cn)), (16, (vB s)), (20, .p 0 0), (123, (vS (aS b56 off57) ((foldR nrmk (nds.take 60)).length) cn)), (124, (vI ((foldR nrmk (nds.take 60)).length : Int))), (125, (vI (k : Int)))], [.c e58.sv 26]⟩ (by kernel_rfl) ?_
        refine At.nil ?_
        refine At.then_normal ?_
        refine At.seq ?_
        refine At.freezeC 0 [.int .i64 e58.kind, .int .u64 e58.s0, .int .u64 e58.s1, .int .u64 e58.s2, .int .u64 e58.s3, .int .i64 e58.mn, .int .i64 e58.mx] rfl rfl (bleT rfl) (bleT rfl) (fun _ => by kernel_rfl) (fun _ => by kernel_rfl) ?_
        intro g60 Φ61 hle62 hB63
        have hR := hR.mono hle62
        have hRr := hRr.mono hle62
        have hN10 := hN10.mono hle62
        have hN14 := hN14.mono hle62
        refine ⟨⟨fr 145 [(3, (vS A3 ((nds.take 60).length) c4)), (4, (vS (aS b56 off57) ((foldR nrmk (nds.take 60)).length) cn)), (16, (vB s)), (20, (vP g60 0)), (123, (vS (aS b56 off57) ((foldR nrmk (nds.take 60)).length) cn)), (124, (vI ((foldR nrmk (nds.take 60)).length : Int))), (125, (vI (k : Int)))], [.dead]⟩, by kernel_rfl, ?_⟩
        refine At.region ?_
        refine At.runk 1 [] [] ⟨fr 145 [(3, (vS A3 ((nds.take 60).length) c4)), (4, (vS (aS b56 off57) ((foldR nrmk (nds.take 60)).length) cn)), (16, (vB s)), (20, (vP g60 0)), (123, (vS (aS b56 off57) ((foldR nrmk (nds.take 60)).length) cn)), (124, (vI ((foldR nrmk (nds.take 60)).length : Int))), (125, (vI (k : Int))), (129, (vP g60 0))], [.dead]⟩ (by kernel_rfl) ?_
        refine At.vals (S' := ⟨fr 145 [(3, (vS A3 ((nds.take 60).length) c4)), (4, (vS (aS b56 off57) ((foldR nrmk (nds.take 60)).length) cn)), (16, (vB s)), (20, (vP g60 0)), (123, (vS (aS b56 off57) ((foldR nrmk (nds.take 60)).length) cn)), (124, (vI ((foldR nrmk (nds.take 60)).length : Int))), (125, (vI (k : Int))), (129, (vP g60 0)), (130, (vI e58.kind))], [.dead]⟩) (by kernel_rfl) ((vI e58.kind)) (by kernel_rfl) (Val.ldB rfl hB63 (Nat.zero_lt_succ _) 0 0 (by omega) (by kernel_rfl) ((vI e58.kind)) (by kernel_rfl)) ?_
        refine At.runk 2 [129, 130, 131] [] ⟨fr 145 [(3, (vS A3 ((nds.take 60).length) c4)), (4, (vS (aS b56 off57) ((foldR nrmk (nds.take 60)).length) cn)), (16, (vB s)), (20, (vP g60 0)), (123, (vS (aS b56 off57) ((foldR nrmk (nds.take 60)).length) cn)), (124, (vI ((foldR nrmk (nds.take 60)).length : Int))), (125, (vI (k : Int))), (132, (vB (e58.kind == 9)))], [.dead]⟩ (by kernel_rfl) ?_
        refine At.bcase (e58.kind == 9) (fun hb64 => ?_) (fun hb64 => ?_)
        · have hb64p : (e58.kind = 9) := eq_of_beq hb64
          refine At.cast (S' := ⟨fr 145 [(3, (vS A3 ((nds.take 60).length) c4)), (4, (vS (aS b56 off57) ((foldR nrmk (nds.take 60)).length) cn)), (16, (vB s)), (20, (vP g60 0)), (123, (vS (aS b56 off57) ((foldR nrmk (nds.take 60)).length) cn)), (124, (vI ((foldR nrmk (nds.take 60)).length : Int))), (125, (vI (k : Int))), (132, (vB true))], [.dead]⟩) (by rw [hb64] <;> rfl) ?_
          refine At.runk 1 [20] [] ⟨fr 145 [(3, (vS A3 ((nds.take 60).length) c4)), (4, (vS (aS b56 off57) ((foldR nrmk (nds.take 60)).length) cn)), (16, (vB s)), (123, (vS (aS b56 off57) ((foldR nrmk (nds.take 60)).length) cn)), (124, (vI ((foldR nrmk (nds.take 60)).length : Int))), (125, (vI (k : Int))), (132, (vB true)), (133, (vP g60 6))], [.dead]⟩ (by kernel_rfl) ?_
          refine At.vals (S' := ⟨fr 145 [(3, (vS A3 ((nds.take 60).length) c4)), (4, (vS (aS b56 off57) ((foldR nrmk (nds.take 60)).length) cn)), (16, (vB s)), (123, (vS (aS b56 off57) ((foldR nrmk (nds.take 60)).length) cn)), (124, (vI ((foldR nrmk (nds.take 60)).length : Int))), (125, (vI (k : Int))), (132, (vB true)), (133, (vP g60 6)), (134, (vI e58.mx))], [.dead]⟩) (by kernel_rfl) ((vI e58.mx)) (by kernel_rfl) (Val.ldB rfl hB63 (Nat.zero_lt_succ _) 6 6 (by omega) (by kernel_rfl) ((vI e58.mx)) (by kernel_rfl)) ?_
          refine At.runk 2 [132, 133, 134, 135] [] ⟨fr 145 [(3, (vS A3 ((nds.take 60).length) c4)), (4, (vS (aS b56 off57) ((foldR nrmk (nds.take 60)).length) cn)), (16, (vB s)), (123, (vS (aS b56 off57) ((foldR nrmk (nds.take 60)).length) cn)), (124, (vI ((foldR nrmk (nds.take 60)).length : Int))), (125, (vI (k : Int))), (136, (vB (e58.mx == 0)))], [.dead]⟩ (by kernel_rfl) ?_
          refine At.nil ?_
          refine At.then_normal ?_
          refine At.bcase (e58.mx == 0) (fun hb65 => ?_) (fun hb65 => ?_)
          · have hb65p : (e58.mx = 0) := eq_of_beq hb65
            refine At.cast (S' := ⟨fr 145 [(3, (vS A3 ((nds.take 60).length) c4)), (4, (vS (aS b56 off57) ((foldR nrmk (nds.take 60)).length) cn)), (16, (vB s)), (123, (vS (aS b56 off57) ((foldR nrmk (nds.take 60)).length) cn)), (124, (vI ((foldR nrmk (nds.take 60)).length : Int))), (125, (vI (k : Int))), (136, (vB true))], [.dead]⟩) (by rw [hb65] <;> rfl) ?_
            refine At.cond_t (by kernel_rfl) ?_
            refine At.seq ?_
            exact absurd (show isN e58 from ⟨by assumption, by assumption⟩) (l6 e58 (List.mem_of_getElem? he59))
          have hb65p : ¬ (e58.mx = 0) := beq_eq_false_iff_ne.1 hb65
          refine At.cast (S' := ⟨fr 145 [(3, (vS A3 ((nds.take 60).length) c4)), (4, (vS (aS b56 off57) ((foldR nrmk (nds.take 60)).length) cn)), (16, (vB s)), (123, (vS (aS b56 off57) ((foldR nrmk (nds.take 60)).length) cn)), (124, (vI ((foldR nrmk (nds.take 60)).length : Int))), (125, (vI (k : Int))), (136, (vB false))], [.dead]⟩) (by rw [hb65] <;> rfl) ?_
          refine At.cond_f (by kernel_rfl) ?_
          refine At.skip ?_
          refine At.in_normal ?_
          refine At.then_normal ?_
          refine At.region ?_
          refine At.runk 1 [125, 136] [] ⟨fr 145 [(3, (vS A3 ((nds.take 60).length) c4)), (4, (vS (aS b56 off57) ((foldR nrmk (nds.take 60)).length) cn)), (16, (vB s)), (123, (vS (aS b56 off57) ((foldR nrmk (nds.take 60)).length) cn)), (124, (vI ((foldR nrmk (nds.take 60)).length : Int))), (137, (vI (IntKind.i64.wrap ((k : Int) + 1))))], [.dead]⟩ (by kernel_rfl) ?_
          refine At.cast (S' := ⟨fr 145 [(3, (vS A3 ((nds.take 60).length) c4)), (4, (vS (aS b56 off57) ((foldR nrmk (nds.take 60)).length) cn)), (16, (vB s)), (123, (vS (aS b56 off57) ((foldR nrmk (nds.take 60)).length) cn)), (124, (vI ((foldR nrmk (nds.take 60)).length : Int))), (137, (vI ((k : Int) + 1)))], [.dead]⟩) (by rw [wrapI (z := (k : Int) + 1) (by omega) (by omega)]) ?_
          refine At.runk 1 [137] [] ⟨fr 145 [(3, (vS A3 ((nds.take 60).length) c4)), (4, (vS (aS b56 off57) ((foldR nrmk (nds.take 60)).length) cn)), (16, (vB s)), (123, (vS (aS b56 off57) ((foldR nrmk (nds.take 60)).length) cn)), (124, (vI ((foldR nrmk (nds.take 60)).length : Int))), (125, (vI ((k : Int) + 1)))], [.dead]⟩ (by kernel_rfl) ?_
          refine At.nil ?_
          refine At.forget [] 0 [] ⟨fr 145 [(3, (vS A3 ((nds.take 60).length) c4)), (4, (vS (aS b56 off57) ((foldR nrmk (nds.take 60)).length) cn)), (16, (vB s)), (123, (vS (aS b56 off57) ((foldR nrmk (nds.take 60)).length) cn)), (124, (vI ((foldR nrmk (nds.take 60)).length : Int))), (125, (vI ((k : Int) + 1)))], []⟩ (by kernel_rfl) (by kernel_rfl) (bleT rfl) ?_
          refine At.round (k + 1) (by kernel_rfl) hle62 (by omega) (by omega)
        have hb64p : ¬ (e58.kind = 9) := beq_eq_false_iff_ne.1 hb64
        refine At.cast (S' := ⟨fr 145 [(3, (vS A3 ((nds.take 60).length) c4)), (4, (vS (aS b56 off57) ((foldR nrmk (nds.take 60)).length) cn)), (16, (vB s)), (20, (vP g60 0)), (123, (vS (aS b56 off57) ((foldR nrmk (nds.take 60)).length) cn)), (124, (vI ((foldR nrmk (nds.take 60)).length : Int))), (125, (vI (k : Int))), (132, (vB false))], [.dead]⟩) (by rw [hb64] <;> rfl) ?_
        refine At.runk 4 [20, 132, 133, 134, 135] [] ⟨fr 145 [(3, (vS A3 ((nds.take 60).length) c4)), (4, (vS (aS b56 off57) ((foldR nrmk (nds.take 60)).length) cn)), (16, (vB s)), (123, (vS (aS b56 off57) ((foldR nrmk (nds.take 60)).length) cn)), (124, (vI ((foldR nrmk (nds.take 60)).length : Int))), (125, (vI (k : Int))), (136, (vB false))], [.dead]⟩ (by kernel_rfl) ?_
        refine At.nil ?_
        refine At.then_normal ?_
        refine At.cond_f (by kernel_rfl) ?_
        refine At.skip ?_
        refine At.in_normal ?_
        refine At.then_normal ?_
        refine At.region ?_
        refine At.runk 1 [125, 136] [] ⟨fr 145 [(3, (vS A3 ((nds.take 60).length) c4)), (4, (vS (aS b56 off57) ((foldR nrmk (nds.take 60)).length) cn)), (16, (vB s)), (123, (vS (aS b56 off57) ((foldR nrmk (nds.take 60)).length) cn)), (124, (vI ((foldR nrmk (nds.take 60)).length : Int))), (137, (vI (IntKind.i64.wrap ((k : Int) + 1))))], [.dead]⟩ (by kernel_rfl) ?_
        refine At.cast (S' := ⟨fr 145 [(3, (vS A3 ((nds.take 60).length) c4)), (4, (vS (aS b56 off57) ((foldR nrmk (nds.take 60)).length) cn)), (16, (vB s)), (123, (vS (aS b56 off57) ((foldR nrmk (nds.take 60)).length) cn)), (124, (vI ((foldR nrmk (nds.take 60)).length : Int))), (137, (vI ((k : Int) + 1)))], [.dead]⟩) (by rw [wrapI (z := (k : Int) + 1) (by omega) (by omega)]) ?_
        refine At.runk 1 [137] [] ⟨fr 145 [(3, (vS A3 ((nds.take 60).length) c4)), (4, (vS (aS b56 off57) ((foldR nrmk (nds.take 60)).length) cn)), (16, (vB s)), (123, (vS (aS b56 off57) ((foldR nrmk (nds.take 60)).length) cn)), (124, (vI ((foldR nrmk (nds.take 60)).length : Int))), (125, (vI ((k : Int) + 1)))], [.dead]⟩ (by kernel_rfl) ?_
        refine At.nil ?_
        refine At.forget [] 0 [] ⟨fr 145 [(3, (vS A3 ((nds.take 60).length) c4)), (4, (vS (aS b56 off57) ((foldR nrmk (nds.take 60)).length) cn)), (16, (vB s)), (123, (vS (aS b56 off57) ((foldR nrmk (nds.take 60)).length) cn)), (124, (vI ((foldR nrmk (nds.take 60)).length : Int))), (125, (vI ((k : Int) + 1)))], []⟩ (by kernel_rfl) (by kernel_rfl) (bleT rfl) ?_
        refine At.round (k + 1) (by kernel_rfl) hle62 (by omega) (by omega)
      have hb55p : ¬ ((k : Int) < ((foldR nrmk (nds.take 60)).length : Int)) := of_decide_eq_false hb55
      refine At.cast (S' := ⟨fr 145 [(3, (vS A3 ((nds.take 60).length) c4)), (4, (vS An ((foldR nrmk (nds.take 60)).length) cn)), (16, (vB s)), (123, (vS An ((foldR nrmk (nds.take 60)).length) cn)), (124, (vI ((foldR nrmk (nds.take 60)).length : Int))), (125, (vI (k : Int))), (126, (vB false))], []⟩) (by rw [hb55] <;> rfl) ?_
      refine At.cond_f (by kernel_rfl) ?_
      refine At.exit_ ?_
      refine At.then_exit ?_
      refine At.then_exit ?_
      refine At.in_here ?_
      refine At.then_normal ?_
      refine At.seq ?_
      have hs := hF.2
      refine At.region ?_
      refine At.runk 3 [16, 123, 124, 125, 126, 138, 139] [] ⟨fr 145 [(3, (vS A3 ((nds.take 60).length) c4)), (4, (vS An ((foldR nrmk (nds.take 60)).length) cn)), (140, (vB (!s)))], []⟩ (by kernel_rfl) ?_
      refine At.bcase s (fun hb66 => ?_) (fun hb66 => ?_)
      · refine At.cast (S' := ⟨fr 145 [(3, (vS A3 ((nds.take 60).length) c4)), (4, (vS An ((foldR nrmk (nds.take 60)).length) cn)), (140, (vB false))], []⟩) (by rw [hb66] <;> rfl) ?_
        refine At.runk 2 [3, 4] [] ⟨fr 145 [(140, (vB false)), (141, (vS An ((foldR nrmk (nds.take 60)).length) cn)), (142, (vS A3 ((nds.take 60).length) c4))], []⟩ (by kernel_rfl) ?_
        have hall : ∀ m ∈ (nds.take 60), ¬ isN m := by have := hs (by first | assumption | rfl); rw [List.take_of_length_le (by omega)] at this; exact this
        refine At.callV rfl (by kernel_rfl) 20 [] [] (by kernel_rfl) Try.func20 (by kernel_rfl) (by kernel_rfl) [(vS An ((foldR nrmk (nds.take 60)).length) cn), (vS A3 ((nds.take 60).length) c4)] (by kernel_rfl) (by kernel_rfl) (same_c Φ53 (foldR nrmk (nds.take 60)) (nds.take 60) An A3 cn c4 hN10 hRr (by omega) (by simp only [List.length_take]; omega)) ?_
        rintro Φ69 ts67 hle70 hts68
        have hR := hR.mono hle70
        have hRr := hRr.mono hle70
        have hN10 := hN10.mono hle70
        have hN14 := hN14.mono hle70
        replace hts68 : ts67 = true := by rw [hts68]; exact decide_eq_true (l7 hall)
        subst hts68
        refine ⟨⟨fr 145 [(140, (vB false)), (141, (vS An ((foldR nrmk (nds.take 60)).length) cn)), (142, (vS A3 ((nds.take 60).length) c4)), (143, (vB true))], []⟩, by kernel_rfl, by kernel_rfl, ?_⟩
        refine At.runk 2 [140, 141, 142, 143, 144] [] ⟨fr 145 [(2, (vB true))], []⟩ (by kernel_rfl) ?_
        refine At.nil ?_
        refine At.then_normal ?_
        refine At.ret_ ?_
        refine At.leaveR rfl () (by kernel_rfl) (by kernel_rfl) (by kernel_rfl) ?_
        trivial
      refine At.cast (S' := ⟨fr 145 [(3, (vS A3 ((nds.take 60).length) c4)), (4, (vS An ((foldR nrmk (nds.take 60)).length) cn)), (140, (vB true))], []⟩) (by rw [hb66] <;> rfl) ?_
      refine At.runk 5 [3, 4, 140, 141, 142, 143, 144] [] ⟨fr 145 [(2, (vB true))], []⟩ (by kernel_rfl) ?_
      refine At.nil ?_
      refine At.then_normal ?_
      refine At.ret_ ?_
      refine At.leaveR rfl () (by kernel_rfl) (by kernel_rfl) (by kernel_rfl) ?_
      trivial
    refine At.cast (S' := ⟨fr 145 [(3, (vS A3 ((nds.take 60).length) c4)), (4, (vS An ((foldR nrmk (nds.take 60)).length) cn)), (100, (vB false)), (101, (vB false)), (102, (vB false))], [.dead]⟩) (by rw [hb39] <;> rfl) ?_
    refine At.runk 2 [100, 101, 102, 103] [] ⟨fr 145 [(3, (vS A3 ((nds.take 60).length) c4)), (4, (vS An ((foldR nrmk (nds.take 60)).length) cn)), (104, (vB false))], [.dead]⟩ (by kernel_rfl) ?_
    refine At.nil ?_
    refine At.then_normal ?_
    refine At.cond_f (by kernel_rfl) ?_
    refine At.skip ?_
    refine At.then_normal ?_
    refine At.seq ?_
    refine At.region ?_
    refine At.runk 1 [104] [] ⟨fr 145 [(3, (vS A3 ((nds.take 60).length) c4)), (4, (vS An ((foldR nrmk (nds.take 60)).length) cn)), (16, (vB true))], [.dead]⟩ (by kernel_rfl) ?_
    refine At.nil ?_
    refine At.then_normal ?_
    refine At.seq ?_
    refine At.seq ?_
    refine At.region ?_
    refine At.runk 3 [] [] ⟨fr 145 [(3, (vS A3 ((nds.take 60).length) c4)), (4, (vS An ((foldR nrmk (nds.take 60)).length) cn)), (16, (vB true)), (105, (vS A3 ((nds.take 60).length) c4)), (106, (vI ((nds.take 60).length : Int))), (107, (vI 0))], [.dead]⟩ (by kernel_rfl) ?_
    refine At.nil ?_
    refine At.then_normal ?_
    refine At.block ?_
    refine At.forget [] 0 [] ⟨fr 145 [(3, (vS A3 ((nds.take 60).length) c4)), (4, (vS An ((foldR nrmk (nds.take 60)).length) cn)), (16, (vB true)), (105, (vS A3 ((nds.take 60).length) c4)), (106, (vI ((nds.take 60).length : Int))), (107, (vI 0))], []⟩ (by kernel_rfl) (by kernel_rfl) (bleT rfl) ?_
    refine At.loop (T := Nat × Bool) (fun x => ⟨fr 145 [(3, (vS A3 ((nds.take 60).length) c4)), (4, (vS An ((foldR nrmk (nds.take 60)).length) cn)), (16, (vB x.2)), (105, (vS A3 ((nds.take 60).length) c4)), (106, (vI ((nds.take 60).length : Int))), (107, (vI (x.1 : Int)))], []⟩) (fun x Φ => x.1 ≤ (nds.take 60).length ∧ (x.2 = true → ∀ m ∈ (nds.take 60).take x.1, ¬ isN m)) (fun x => (nds.take 60).length - x.1) (0, true) (by kernel_rfl) ⟨Nat.zero_le _, fun _ m hm => by cases hm⟩ ?_
    rintro ⟨i, s⟩ Φ71 hle72 hF
    have hR := hR.mono hle72
    have hRr := hRr.mono hle72
    have hN10 := hN10.mono hle72
    have hN14 := hN14.mono hle72
    refine At.cast (S' := ⟨fr 145 [(3, (vS A3 ((nds.take 60).length) c4)), (4, (vS An ((foldR nrmk (nds.take 60)).length) cn)), (16, (vB s)), (105, (vS A3 ((nds.take 60).length) c4)), (106, (vI ((nds.take 60).length : Int))), (107, (vI (i : Int)))], []⟩) (by kernel_rfl) ?_
    dsimp only at hF
    have hF1 := hF.1
    refine At.seq ?_
    refine At.region ?_
    refine At.runk 1 [] [] ⟨fr 145 [(3, (vS A3 ((nds.take 60).length) c4)), (4, (vS An ((foldR nrmk (nds.take 60)).length) cn)), (16, (vB s)), (105, (vS A3 ((nds.take 60).length) c4)), (106, (vI ((nds.take 60).length : Int))), (107, (vI (i : Int))), (108, (vB (decide ((i : Int) < ((nds.take 60).length : Int)))))], []⟩ (by kernel_rfl) ?_
    refine At.nil ?_
    refine At.then_normal ?_
    refine At.seq ?_
    refine At.bcase (decide ((i : Int) < ((nds.take 60).length : Int))) (fun hb73 => ?_) (fun hb73 => ?_)
    · have hb73p : ((i : Int) < ((nds.take 60).length : Int)) := of_decide_eq_true hb73
      refine At.cast (S' := ⟨fr 145 [(3, (vS A3 ((nds.take 60).length) c4)), (4, (vS An ((foldR nrmk (nds.take 60)).length) cn)), (16, (vB s)), (105, (vS A3 ((nds.take 60).length) c4)), (106, (vI ((nds.take 60).length : Int))), (107, (vI (i : Int))), (108, (vB true))], []⟩) (by rw [hb73] <;> rfl) ?_
      refine At.cond_t (by kernel_rfl) ?_
      refine At.skip ?_
      refine At.then_normal ?_
      refine At.seq ?_
      refine At.block ?_
      refine At.seq ?_
      refine At.region ?_
      obtain ⟨b74, off75, hxeq⟩ : ∃ b off, A3 = some ⟨b, off, none⟩ := hRr.addr (by exact nds_pos (by omega))
      subst hxeq
      refine At.idx (S' := ⟨fr 145 [(3, (vS (aS b74 off75) ((nds.take 60).length) c4)), (4, (vS An ((foldR nrmk (nds.take 60)).length) cn)), (16, (vB s)), (105, (vS (aS b74 off75) ((nds.take 60).length) c4)), (106, (vI ((nds.take 60).length : Int))), (107, (vI (i : Int))), (108, (vB true)), (109, .v (.pointer (some ⟨b74, off75 + i * 7, none⟩)))], []⟩) rfl (by kernel_rfl) (sz := 7) (e := 26) (by kernel_rfl) (by kernel_rfl) (by kernel_rfl) (b := b74) (off := off75) (n := (nds.take 60).length) (cap := c4) (kd := .i64) (i := (i : Int)) (by kernel_rfl) (by omega) (by omega) (by kernel_rfl) ?_
      obtain ⟨e76, he77⟩ := get_some (l := (nds.take 60)) (i := i) (by omega)
      refine At.vals (S' := ⟨fr 145 [(3, (vS (aS b74 off75) ((nds.take 60).length) c4)), (4, (vS An ((foldR nrmk (nds.take 60)).length) cn)), (16, (vB s)), (105, (vS (aS b74 off75) ((nds.take 60).length) c4)), (106, (vI ((nds.take 60).length : Int))), (107, (vI (i : Int))), (108, (vB true)), (109, .v (.pointer (some ⟨b74, off75 + i * 7, none⟩))), (110, .agg e76.sv)], []⟩) (by kernel_rfl) (.agg e76.sv) (by kernel_rfl) (Val.ldE rfl (enc := Nd.cells) (xs := (nds.take 60)) (b := b74) (off := off75) hRr (sz := 7) (fun _ => rfl) (Nat.zero_lt_succ _) i e76 he77 0 (off75 + i * 7) (by omega) (by kernel_rfl) (.agg e76.sv) (by kernel_rfl)) ?_
      refine At.runk 2 [108, 109, 110] [] ⟨fr 145 [(3, (vS (aS b74 off75) ((nds.take 60).length) c4)), (4, (vS An ((foldR nrmk (nds.take 60)).length) cn)), (16, (vB s)), (18, .p 0 0), (105, (vS (aS b74 off75) ((nds.take 60).length) c4)), (106, (vI ((nds.take 60).length : Int))), (107, (vI (i : Int)))], [.c e76.sv 26]⟩ (by kernel_rfl) ?_
      refine At.nil ?_
      refine At.then_normal ?_
      refine At.freezeC 0 [.int .i64 e76.kind, .int .u64 e76.s0, .int .u64 e76.s1, .int .u64 e76.s2, .int .u64 e76.s3, .int .i64 e76.mn, .int .i64 e76.mx] rfl rfl (bleT rfl) (bleT rfl) (fun _ => by kernel_rfl) (fun _ => by kernel_rfl) ?_
      intro g78 Φ79 hle80 hB81
      have hR := hR.mono hle80
      have hRr := hRr.mono hle80
      have hN10 := hN10.mono hle80
      have hN14 := hN14.mono hle80
      refine ⟨⟨fr 145 [(3, (vS (aS b74 off75) ((nds.take 60).length) c4)), (4, (vS An ((foldR nrmk (nds.take 60)).length) cn)), (16, (vB s)), (18, (vP g78 0)), (105, (vS (aS b74 off75) ((nds.take 60).length) c4)), (106, (vI ((nds.take 60).length : Int))), (107, (vI (i : Int)))], [.dead]⟩, by kernel_rfl, ?_⟩
      refine At.region ?_
      refine At.runk 2 [16, 111] [] ⟨fr 145 [(3, (vS (aS b74 off75) ((nds.take 60).length) c4)), (4, (vS An ((foldR nrmk (nds.take 60)).length) cn)), (18, (vP g78 0)), (105, (vS (aS b74 off75) ((nds.take 60).length) c4)), (106, (vI ((nds.take 60).length : Int))), (107, (vI (i : Int))), (112, (vB s))], [.dead]⟩ (by kernel_rfl) ?_
      refine At.bcase s (fun hb82 => ?_) (fun hb82 => ?_)
      · refine At.cast (S' := ⟨fr 145 [(3, (vS (aS b74 off75) ((nds.take 60).length) c4)), (4, (vS An ((foldR nrmk (nds.take 60)).length) cn)), (18, (vP g78 0)), (105, (vS (aS b74 off75) ((nds.take 60).length) c4)), (106, (vI ((nds.take 60).length : Int))), (107, (vI (i : Int))), (112, (vB true))], [.dead]⟩) (by rw [hb82] <;> rfl) ?_
        refine At.runk 1 [] [] ⟨fr 145 [(3, (vS (aS b74 off75) ((nds.take 60).length) c4)), (4, (vS An ((foldR nrmk (nds.take 60)).length) cn)), (18, (vP g78 0)), (105, (vS (aS b74 off75) ((nds.take 60).length) c4)), (106, (vI ((nds.take 60).length : Int))), (107, (vI (i : Int))), (112, (vB true)), (113, (vP g78 0))], [.dead]⟩ (by kernel_rfl) ?_
        refine At.vals (S' := ⟨fr 145 [(3, (vS (aS b74 off75) ((nds.take 60).length) c4)), (4, (vS An ((foldR nrmk (nds.take 60)).length) cn)), (18, (vP g78 0)), (105, (vS (aS b74 off75) ((nds.take 60).length) c4)), (106, (vI ((nds.take 60).length : Int))), (107, (vI (i : Int))), (112, (vB true)), (113, (vP g78 0)), (114, (vI e76.kind))], [.dead]⟩) (by kernel_rfl) ((vI e76.kind)) (by kernel_rfl) (Val.ldB rfl hB81 (Nat.zero_lt_succ _) 0 0 (by omega) (by kernel_rfl) ((vI e76.kind)) (by kernel_rfl)) ?_
        refine At.runk 2 [113, 114, 115] [] ⟨fr 145 [(3, (vS (aS b74 off75) ((nds.take 60).length) c4)), (4, (vS An ((foldR nrmk (nds.take 60)).length) cn)), (18, (vP g78 0)), (105, (vS (aS b74 off75) ((nds.take 60).length) c4)), (106, (vI ((nds.take 60).length : Int))), (107, (vI (i : Int))), (112, (vB true)), (116, (vB (e76.kind != 9)))], [.dead]⟩ (by kernel_rfl) ?_
        refine At.bcase (e76.kind != 9) (fun hb83 => ?_) (fun hb83 => ?_)
        · have hb83p : ¬ (e76.kind = 9) := by simpa using hb83
          refine At.cast (S' := ⟨fr 145 [(3, (vS (aS b74 off75) ((nds.take 60).length) c4)), (4, (vS An ((foldR nrmk (nds.take 60)).length) cn)), (18, (vP g78 0)), (105, (vS (aS b74 off75) ((nds.take 60).length) c4)), (106, (vI ((nds.take 60).length : Int))), (107, (vI (i : Int))), (112, (vB true)), (116, (vB true))], [.dead]⟩) (by rw [hb83] <;> rfl) ?_
          refine At.runk 6 [18, 112, 116, 117, 118, 119, 120, 121] [] ⟨fr 145 [(3, (vS (aS b74 off75) ((nds.take 60).length) c4)), (4, (vS An ((foldR nrmk (nds.take 60)).length) cn)), (16, (vB true)), (105, (vS (aS b74 off75) ((nds.take 60).length) c4)), (106, (vI ((nds.take 60).length : Int))), (107, (vI (i : Int)))], [.dead]⟩ (by kernel_rfl) ?_
          refine At.nil ?_
          refine At.in_normal ?_
          refine At.then_normal ?_
          refine At.region ?_
          refine At.runk 1 [107] [] ⟨fr 145 [(3, (vS (aS b74 off75) ((nds.take 60).length) c4)), (4, (vS An ((foldR nrmk (nds.take 60)).length) cn)), (16, (vB true)), (105, (vS (aS b74 off75) ((nds.take 60).length) c4)), (106, (vI ((nds.take 60).length : Int))), (122, (vI (IntKind.i64.wrap ((i : Int) + 1))))], [.dead]⟩ (by kernel_rfl) ?_
          refine At.cast (S' := ⟨fr 145 [(3, (vS (aS b74 off75) ((nds.take 60).length) c4)), (4, (vS An ((foldR nrmk (nds.take 60)).length) cn)), (16, (vB true)), (105, (vS (aS b74 off75) ((nds.take 60).length) c4)), (106, (vI ((nds.take 60).length : Int))), (122, (vI ((i : Int) + 1)))], [.dead]⟩) (by rw [wrapI (z := (i : Int) + 1) (by omega) (by omega)]) ?_
          refine At.runk 1 [122] [] ⟨fr 145 [(3, (vS (aS b74 off75) ((nds.take 60).length) c4)), (4, (vS An ((foldR nrmk (nds.take 60)).length) cn)), (16, (vB true)), (105, (vS (aS b74 off75) ((nds.take 60).length) c4)), (106, (vI ((nds.take 60).length : Int))), (107, (vI ((i : Int) + 1)))], [.dead]⟩ (by kernel_rfl) ?_
          refine At.nil ?_
          refine At.forget [] 0 [] ⟨fr 145 [(3, (vS (aS b74 off75) ((nds.take 60).length) c4)), (4, (vS An ((foldR nrmk (nds.take 60)).length) cn)), (16, (vB true)), (105, (vS (aS b74 off75) ((nds.take 60).length) c4)), (106, (vI ((nds.take 60).length : Int))), (107, (vI ((i : Int) + 1)))], []⟩ (by kernel_rfl) (by kernel_rfl) (bleT rfl) ?_
          refine At.round (i + 1, true) (by kernel_rfl) hle80 ⟨by omega, isn_step hF.2 he77 (fun hq => by simp_all [isN])⟩ (by omega)
        have hb83p : (e76.kind = 9) := by simpa using hb83
        refine At.cast (S' := ⟨fr 145 [(3, (vS (aS b74 off75) ((nds.take 60).length) c4)), (4, (vS An ((foldR nrmk (nds.take 60)).length) cn)), (18, (vP g78 0)), (105, (vS (aS b74 off75) ((nds.take 60).length) c4)), (106, (vI ((nds.take 60).length : Int))), (107, (vI (i : Int))), (112, (vB true)), (116, (vB false))], [.dead]⟩) (by rw [hb83] <;> rfl) ?_
        refine At.runk 1 [18] [] ⟨fr 145 [(3, (vS (aS b74 off75) ((nds.take 60).length) c4)), (4, (vS An ((foldR nrmk (nds.take 60)).length) cn)), (105, (vS (aS b74 off75) ((nds.take 60).length) c4)), (106, (vI ((nds.take 60).length : Int))), (107, (vI (i : Int))), (112, (vB true)), (116, (vB false)), (117, (vP g78 6))], [.dead]⟩ (by kernel_rfl) ?_
        refine At.vals (S' := ⟨fr 145 [(3, (vS (aS b74 off75) ((nds.take 60).length) c4)), (4, (vS An ((foldR nrmk (nds.take 60)).length) cn)), (105, (vS (aS b74 off75) ((nds.take 60).length) c4)), (106, (vI ((nds.take 60).length : Int))), (107, (vI (i : Int))), (112, (vB true)), (116, (vB false)), (117, (vP g78 6)), (118, (vI e76.mx))], [.dead]⟩) (by kernel_rfl) ((vI e76.mx)) (by kernel_rfl) (Val.ldB rfl hB81 (Nat.zero_lt_succ _) 6 6 (by omega) (by kernel_rfl) ((vI e76.mx)) (by kernel_rfl)) ?_
        refine At.runk 4 [112, 116, 117, 118, 119, 120, 121] [] ⟨fr 145 [(3, (vS (aS b74 off75) ((nds.take 60).length) c4)), (4, (vS An ((foldR nrmk (nds.take 60)).length) cn)), (16, (vB (e76.mx != 0))), (105, (vS (aS b74 off75) ((nds.take 60).length) c4)), (106, (vI ((nds.take 60).length : Int))), (107, (vI (i : Int)))], [.dead]⟩ (by kernel_rfl) ?_
        refine At.nil ?_
        refine At.in_normal ?_
        refine At.then_normal ?_
        refine At.region ?_
        refine At.runk 1 [107] [] ⟨fr 145 [(3, (vS (aS b74 off75) ((nds.take 60).length) c4)), (4, (vS An ((foldR nrmk (nds.take 60)).length) cn)), (16, (vB (e76.mx != 0))), (105, (vS (aS b74 off75) ((nds.take 60).length) c4)), (106, (vI ((nds.take 60).length : Int))), (122, (vI (IntKind.i64.wrap ((i : Int) + 1))))], [.dead]⟩ (by kernel_rfl) ?_
        refine At.cast (S' := ⟨fr 145 [(3, (vS (aS b74 off75) ((nds.take 60).length) c4)), (4, (vS An ((foldR nrmk (nds.take 60)).length) cn)), (16, (vB (e76.mx != 0))), (105, (vS (aS b74 off75) ((nds.take 60).length) c4)), (106, (vI ((nds.take 60).length : Int))), (122, (vI ((i : Int) + 1)))], [.dead]⟩) (by rw [wrapI (z := (i : Int) + 1) (by omega) (by omega)]) ?_
        refine At.runk 1 [122] [] ⟨fr 145 [(3, (vS (aS b74 off75) ((nds.take 60).length) c4)), (4, (vS An ((foldR nrmk (nds.take 60)).length) cn)), (16, (vB (e76.mx != 0))), (105, (vS (aS b74 off75) ((nds.take 60).length) c4)), (106, (vI ((nds.take 60).length : Int))), (107, (vI ((i : Int) + 1)))], [.dead]⟩ (by kernel_rfl) ?_
        refine At.nil ?_
        refine At.forget [] 0 [] ⟨fr 145 [(3, (vS (aS b74 off75) ((nds.take 60).length) c4)), (4, (vS An ((foldR nrmk (nds.take 60)).length) cn)), (16, (vB (e76.mx != 0))), (105, (vS (aS b74 off75) ((nds.take 60).length) c4)), (106, (vI ((nds.take 60).length : Int))), (107, (vI ((i : Int) + 1)))], []⟩ (by kernel_rfl) (by kernel_rfl) (bleT rfl) ?_
        refine At.round (i + 1, (e76.mx != 0)) (by kernel_rfl) hle80 ⟨by omega, isn_step hF.2 he77 (fun hq => by simp_all [isN])⟩ (by omega)
      refine At.cast (S' := ⟨fr 145 [(3, (vS (aS b74 off75) ((nds.take 60).length) c4)), (4, (vS An ((foldR nrmk (nds.take 60)).length) cn)), (18, (vP g78 0)), (105, (vS (aS b74 off75) ((nds.take 60).length) c4)), (106, (vI ((nds.take 60).length : Int))), (107, (vI (i : Int))), (112, (vB false))], [.dead]⟩) (by rw [hb82] <;> rfl) ?_
      refine At.runk 10 [18, 112, 113, 114, 115, 116, 117, 118, 119, 120, 121] [] ⟨fr 145 [(3, (vS (aS b74 off75) ((nds.take 60).length) c4)), (4, (vS An ((foldR nrmk (nds.take 60)).length) cn)), (16, (vB false)), (105, (vS (aS b74 off75) ((nds.take 60).length) c4)), (106, (vI ((nds.take 60).length : Int))), (107, (vI (i : Int)))], [.dead]⟩ (by kernel_rfl) ?_
      refine At.nil ?_
      refine At.in_normal ?_
      refine At.then_normal ?_
      refine At.region ?_
      refine At.runk 1 [107] [] ⟨fr 145 [(3, (vS (aS b74 off75) ((nds.take 60).length) c4)), (4, (vS An ((foldR nrmk (nds.take 60)).length) cn)), (16, (vB false)), (105, (vS (aS b74 off75) ((nds.take 60).length) c4)), (106, (vI ((nds.take 60).length : Int))), (122, (vI (IntKind.i64.wrap ((i : Int) + 1))))], [.dead]⟩ (by kernel_rfl) ?_
      refine At.cast (S' := ⟨fr 145 [(3, (vS (aS b74 off75) ((nds.take 60).length) c4)), (4, (vS An ((foldR nrmk (nds.take 60)).length) cn)), (16, (vB false)), (105, (vS (aS b74 off75) ((nds.take 60).length) c4)), (106, (vI ((nds.take 60).length : Int))), (122, (vI ((i : Int) + 1)))], [.dead]⟩) (by rw [wrapI (z := (i : Int) + 1) (by omega) (by omega)]) ?_
      refine At.runk 1 [122] [] ⟨fr 145 [(3, (vS (aS b74 off75) ((nds.take 60).length) c4)), (4, (vS An ((foldR nrmk (nds.take 60)).length) cn)), (16, (vB false)), (105, (vS (aS b74 off75) ((nds.take 60).length) c4)), (106, (vI ((nds.take 60).length : Int))), (107, (vI ((i : Int) + 1)))], [.dead]⟩ (by kernel_rfl) ?_
      refine At.nil ?_
      refine At.forget [] 0 [] ⟨fr 145 [(3, (vS (aS b74 off75) ((nds.take 60).length) c4)), (4, (vS An ((foldR nrmk (nds.take 60)).length) cn)), (16, (vB false)), (105, (vS (aS b74 off75) ((nds.take 60).length) c4)), (106, (vI ((nds.take 60).length : Int))), (107, (vI ((i : Int) + 1)))], []⟩ (by kernel_rfl) (by kernel_rfl) (bleT rfl) ?_
      refine At.round (i + 1, false) (by kernel_rfl) hle80 ⟨by omega, isn_step hF.2 he77 (fun hq => by simp_all [isN])⟩ (by omega)
    have hb73p : ¬ ((i : Int) < ((nds.take 60).length : Int)) := of_decide_eq_false hb73
    refine At.cast (S' := ⟨fr 145 [(3, (vS A3 ((nds.take 60).length) c4)), (4, (vS An ((foldR nrmk (nds.take 60)).length) cn)), (16, (vB s)), (105, (vS A3 ((nds.take 60).length) c4)), (106, (vI ((nds.take 60).length : Int))), (107, (vI (i : Int))), (108, (vB false))], []⟩) (by rw [hb73] <;> rfl) ?_
    refine At.cond_f (by kernel_rfl) ?_
    refine At.exit_ ?_
    refine At.then_exit ?_
    refine At.then_exit ?_
    refine At.in_here ?_
    refine At.then_normal ?_
    refine At.seq ?_
    refine At.seq ?_
    refine At.region ?_
    refine At.runk 3 [105, 106, 107, 108] [] ⟨fr 145 [(3, (vS A3 ((nds.take 60).length) c4)), (4, (vS An ((foldR nrmk (nds.take 60)).length) cn)), (16, (vB s)), (123, (vS An ((foldR nrmk (nds.take 60)).length) cn)), (124, (vI ((foldR nrmk (nds.take 60)).length : Int))), (125, (vI 0))], []⟩ (by kernel_rfl) ?_
    refine At.nil ?_
    refine At.then_normal ?_
    refine At.block ?_
    have hs := hF.2
    have hi0 : (nds.take 60).length ≤ i := by omega
    refine At.loop (T := Nat) (fun x => ⟨fr 145 [(3, (vS A3 ((nds.take 60).length) c4)), (4, (vS An ((foldR nrmk (nds.take 60)).length) cn)), (16, (vB s)), (123, (vS An ((foldR nrmk (nds.take 60)).length) cn)), (124, (vI ((foldR nrmk (nds.take 60)).length : Int))), (125, (vI (x : Int)))], []⟩) (fun x Φ => x ≤ (foldR nrmk (nds.take 60)).length) (fun x => (foldR nrmk (nds.take 60)).length - x) 0 (by kernel_rfl) (Nat.zero_le _) ?_
    rintro k Φ84 hle85 hF2
    have hR := hR.mono hle85
    have hRr := hRr.mono hle85
    have hN10 := hN10.mono hle85
    have hN14 := hN14.mono hle85
    refine At.cast (S' := ⟨fr 145 [(3, (vS A3 ((nds.take 60).length) c4)), (4, (vS An ((foldR nrmk (nds.take 60)).length) cn)), (16, (vB s)), (123, (vS An ((foldR nrmk (nds.take 60)).length) cn)), (124, (vI ((foldR nrmk (nds.take 60)).length : Int))), (125, (vI (k : Int)))], []⟩) (by kernel_rfl) ?_
    refine At.seq ?_
    refine At.region ?_
    refine At.runk 1 [] [] ⟨fr 145 [(3, (vS A3 ((nds.take 60).length) c4)), (4, (vS An ((foldR nrmk (nds.take 60)).length) cn)), (16, (vB s)), (123, (vS An ((foldR nrmk (nds.take 60)).length) cn)), (124, (vI ((foldR nrmk (nds.take 60)).length : Int))), (125, (vI (k : Int))), (126, (vB (decide ((k : Int) < ((foldR nrmk (nds.take 60)).length : Int)))))], []⟩ (by kernel_rfl) ?_
    refine At.nil ?_
    refine At.then_normal ?_
    refine At.seq ?_
    refine At.bcase (decide ((k : Int) < ((foldR nrmk (nds.take 60)).length : Int))) (fun hb86 => ?_) (fun hb86 => ?_)
    · have hb86p : ((k : Int) < ((foldR nrmk (nds.take 60)).length : Int)) := of_decide_eq_true hb86
      refine At.cast (S' := ⟨fr 145 [(3, (vS A3 ((nds.take 60).length) c4)), (4, (vS An ((foldR nrmk (nds.take 60)).length) cn)), (16, (vB s)), (123, (vS An ((foldR nrmk (nds.take 60)).length) cn)), (124, (vI ((foldR nrmk (nds.take 60)).length : Int))), (125, (vI (k : Int))), (126, (vB true))], []⟩) (by rw [hb86] <;> rfl) ?_
      refine At.cond_t (by kernel_rfl) ?_
      refine At.skip ?_
      refine At.then_normal ?_
      refine At.seq ?_
      refine At.block ?_
      refine At.seq ?_
      refine At.region ?_
      obtain ⟨b87, off88, hxeq⟩ : ∃ b off, An = some ⟨b, off, none⟩ := hN10.addr (by exact nds_pos (by omega))
      subst hxeq
      refine At.idx (S' := ⟨fr 145 [(3, (vS A3 ((nds.take 60).length) c4)), (4, (vS (aS b87 off88) ((foldR nrmk (nds.take 60)).length) cn)), (16, (vB s)), (123, (vS (aS b87 off88) ((foldR nrmk (nds.take 60)).length) cn)), (124, (vI ((foldR nrmk (nds.take 60)).length : Int))), (125, (vI (k : Int))), (126, (vB true)), (127, .v (.pointer (some ⟨b87, off88 + k * 7, none⟩)))], []⟩) rfl (by kernel_rfl) (sz := 7) (e := 26) (by kernel_rfl) (by kernel_rfl) (by kernel_rfl) (b := b87) (off := off88) (n := (foldR nrmk (nds.take 60)).length) (cap := cn) (kd := .i64) (i := (k : Int)) (by kernel_rfl) (by omega) (by omega) (by kernel_rfl) ?_
      obtain ⟨e89, he90⟩ := get_some (l := (foldR nrmk (nds.take 60))) (i := k) (by omega)
      refine At.vals (S' := ⟨fr 145 [(3, (vS A3 ((nds.take 60).length) c4)), (4, (vS (aS b87 off88) ((foldR nrmk (nds.take 60)).length) cn)), (16, (vB s)), (123, (vS (aS b87 off88) ((foldR nrmk (nds.take 60)).length) cn)), (124, (vI ((foldR nrmk (nds.take 60)).length : Int))), (125, (vI (k : Int))), (126, (vB true)), (127, .v (.pointer (some ⟨b87, off88 + k * 7, none⟩))), (128, .agg e89.sv)], []⟩) (by kernel_rfl) (.agg e89.sv) (by kernel_rfl) (Val.ldE rfl (enc := Nd.cells) (xs := (foldR nrmk (nds.take 60))) (b := b87) (off := off88) hN10 (sz := 7) (fun _ => rfl) (Nat.zero_lt_succ _) k e89 he90 0 (off88 + k * 7) (by omega) (by kernel_rfl) (.agg e89.sv) (by kernel_rfl)) ?_
      refine At.runk 2 [126, 127, 128] [] ⟨fr 145 [(3, (vS A3 ((nds.take 60).length) c4)), (4, (vS (aS b87 off88) ((foldR nrmk (nds.take 60)).length) cn)), (16, (vB s)), (20, .p 0 0), (123, (vS (aS b87 off88) ((foldR nrmk (nds.take 60)).length) cn)), (124, (vI ((foldR nrmk (nds.take 60)).length : Int))), (125, (vI (k : Int)))], [.c e89.sv 26]⟩ (by kernel_rfl) ?_
      refine At.nil ?_
      refine At.then_normal ?_
      refine At.seq ?_
      refine At.freezeC 0 [.int .i64 e89.kind, .int .u64 e89.s0, .int .u64 e89.s1, .int .u64 e89.s2, .int .u64 e89.s3, .int .i64 e89.mn, .int .i64 e89.mx] rfl rfl (bleT rfl) (bleT rfl) (fun _ => by kernel_rfl) (fun _ => by kernel_rfl) ?_
      intro g91 Φ92 hle93 hB94
      have hR := hR.mono hle93
      have hRr := hRr.mono hle93
      have hN10 := hN10.mono hle93
      have hN14 := hN14.mono hle93
      refine ⟨⟨fr 145 [(3, (vS A3 ((nds.take 60).length) c4)), (4, (vS (aS b87 off88) ((foldR nrmk (nds.take 60)).length) cn)), (16, (vB s)), (20, (vP g91 0)), (123, (vS (aS b87 off88) ((foldR nrmk (nds.take 60)).length) cn)), (124, (vI ((foldR nrmk (nds.take 60)).length : Int))), (125, (vI (k : Int)))], [.dead]⟩, by kernel_rfl, ?_⟩
      refine At.region ?_
      refine At.runk 1 [] [] ⟨fr 145 [(3, (vS A3 ((nds.take 60).length) c4)), (4, (vS (aS b87 off88) ((foldR nrmk (nds.take 60)).length) cn)), (16, (vB s)), (20, (vP g91 0)), (123, (vS (aS b87 off88) ((foldR nrmk (nds.take 60)).length) cn)), (124, (vI ((foldR nrmk (nds.take 60)).length : Int))), (125, (vI (k : Int))), (129, (vP g91 0))], [.dead]⟩ (by kernel_rfl) ?_
      refine At.vals (S' := ⟨fr 145 [(3, (vS A3 ((nds.take 60).length) c4)), (4, (vS (aS b87 off88) ((foldR nrmk (nds.take 60)).length) cn)), (16, (vB s)), (20, (vP g91 0)), (123, (vS (aS b87 off88) ((foldR nrmk (nds.take 60)).length) cn)), (124, (vI ((foldR nrmk (nds.take 60)).length : Int))), (125, (vI (k : Int))), (129, (vP g91 0)), (130, (vI e89.kind))], [.dead]⟩) (by kernel_rfl) ((vI e89.kind)) (by kernel_rfl) (Val.ldB rfl hB94 (Nat.zero_lt_succ _) 0 0 (by omega) (by kernel_rfl) ((vI e89.kind)) (by kernel_rfl)) ?_
      refine At.runk 2 [129, 130, 131] [] ⟨fr 145 [(3, (vS A3 ((nds.take 60).length) c4)), (4, (vS (aS b87 off88) ((foldR nrmk (nds.take 60)).length) cn)), (16, (vB s)), (20, (vP g91 0)), (123, (vS (aS b87 off88) ((foldR nrmk (nds.take 60)).length) cn)), (124, (vI ((foldR nrmk (nds.take 60)).length : Int))), (125, (vI (k : Int))), (132, (vB (e89.kind == 9)))], [.dead]⟩ (by kernel_rfl) ?_
      refine At.bcase (e89.kind == 9) (fun hb95 => ?_) (fun hb95 => ?_)
      · have hb95p : (e89.kind = 9) := eq_of_beq hb95
        refine At.cast (S' := ⟨fr 145 [(3, (vS A3 ((nds.take 60).length) c4)), (4, (vS (aS b87 off88) ((foldR nrmk (nds.take 60)).length) cn)), (16, (vB s)), (20, (vP g91 0)), (123, (vS (aS b87 off88) ((foldR nrmk (nds.take 60)).length) cn)), (124, (vI ((foldR nrmk (nds.take 60)).length : Int))), (125, (vI (k : Int))), (132, (vB true))], [.dead]⟩) (by rw [hb95] <;> rfl) ?_
        refine At.runk 1 [20] [] ⟨fr 145 [(3, (vS A3 ((nds.take 60).length) c4)), (4, (vS (aS b87 off88) ((foldR nrmk (nds.take 60)).length) cn)), (16, (vB s)), (123, (vS (aS b87 off88) ((foldR nrmk (nds.take 60)).length) cn)), (124, (vI ((foldR nrmk (nds.take 60)).length : Int))), (125, (vI (k : Int))), (132, (vB true)), (133, (vP g91 6))], [.dead]⟩ (by kernel_rfl) ?_
        refine At.vals (S' := ⟨fr 145 [(3, (vS A3 ((nds.take 60).length) c4)), (4, (vS (aS b87 off88) ((foldR nrmk (nds.take 60)).length) cn)), (16, (vB s)), (123, (vS (aS b87 off88) ((foldR nrmk (nds.take 60)).length) cn)), (124, (vI ((foldR nrmk (nds.take 60)).length : Int))), (125, (vI (k : Int))), (132, (vB true)), (133, (vP g91 6)), (134, (vI e89.mx))], [.dead]⟩) (by kernel_rfl) ((vI e89.mx)) (by kernel_rfl) (Val.ldB rfl hB94 (Nat.zero_lt_succ _) 6 6 (by omega) (by kernel_rfl) ((vI e89.mx)) (by kernel_rfl)) ?_
        refine At.runk 2 [132, 133, 134, 135] [] ⟨fr 145 [(3, (vS A3 ((nds.take 60).length) c4)), (4, (vS (aS b87 off88) ((foldR nrmk (nds.take 60)).length) cn)), (16, (vB s)), (123, (vS (aS b87 off88) ((foldR nrmk (nds.take 60)).length) cn)), (124, (vI ((foldR nrmk (nds.take 60)).length : Int))), (125, (vI (k : Int))), (136, (vB (e89.mx == 0)))], [.dead]⟩ (by kernel_rfl) ?_
        refine At.nil ?_
        refine At.then_normal ?_
        refine At.bcase (e89.mx == 0) (fun hb96 => ?_) (fun hb96 => ?_)
        · have hb96p : (e89.mx = 0) := eq_of_beq hb96
          refine At.cast (S' := ⟨fr 145 [(3, (vS A3 ((nds.take 60).length) c4)), (4, (vS (aS b87 off88) ((foldR nrmk (nds.take 60)).length) cn)), (16, (vB s)), (123, (vS (aS b87 off88) ((foldR nrmk (nds.take 60)).length) cn)), (124, (vI ((foldR nrmk (nds.take 60)).length : Int))), (125, (vI (k : Int))), (136, (vB true))], [.dead]⟩) (by rw [hb96] <;> rfl) ?_
          refine At.cond_t (by kernel_rfl) ?_
          refine At.seq ?_
          exact absurd (show isN e89 from ⟨by assumption, by assumption⟩) (l6 e89 (List.mem_of_getElem? he90))
        have hb96p : ¬ (e89.mx = 0) := beq_eq_false_iff_ne.1 hb96
        refine At.cast (S' := ⟨fr 145 [(3, (vS A3 ((nds.take 60).length) c4)), (4, (vS (aS b87 off88) ((foldR nrmk (nds.take 60)).length) cn)), (16, (vB s)), (123, (vS (aS b87 off88) ((foldR nrmk (nds.take 60)).length) cn)), (124, (vI ((foldR nrmk (nds.take 60)).length : Int))), (125, (vI (k : Int))), (136, (vB false))], [.dead]⟩) (by rw [hb96] <;> rfl) ?_
        refine At.cond_f (by kernel_rfl) ?_
        refine At.skip ?_
        refine At.in_normal ?_
        refine At.then_normal ?_
        refine At.region ?_
        refine At.runk 1 [125, 136] [] ⟨fr 145 [(3, (vS A3 ((nds.take 60).length) c4)), (4, (vS (aS b87 off88) ((foldR nrmk (nds.take 60)).length) cn)), (16, (vB s)), (123, (vS (aS b87 off88) ((foldR nrmk (nds.take 60)).length) cn)), (124, (vI ((foldR nrmk (nds.take 60)).length : Int))), (137, (vI (IntKind.i64.wrap ((k : Int) + 1))))], [.dead]⟩ (by kernel_rfl) ?_
        refine At.cast (S' := ⟨fr 145 [(3, (vS A3 ((nds.take 60).length) c4)), (4, (vS (aS b87 off88) ((foldR nrmk (nds.take 60)).length) cn)), (16, (vB s)), (123, (vS (aS b87 off88) ((foldR nrmk (nds.take 60)).length) cn)), (124, (vI ((foldR nrmk (nds.take 60)).length : Int))), (137, (vI ((k : Int) + 1)))], [.dead]⟩) (by rw [wrapI (z := (k : Int) + 1) (by omega) (by omega)]) ?_
        refine At.runk 1 [137] [] ⟨fr 145 [(3, (vS A3 ((nds.take 60).length) c4)), (4, (vS (aS b87 off88) ((foldR nrmk (nds.take 60)).length) cn)), (16, (vB s)), (123, (vS (aS b87 off88) ((foldR nrmk (nds.take 60)).length) cn)), (124, (vI ((foldR nrmk (nds.take 60)).length : Int))), (125, (vI ((k : Int) + 1)))], [.dead]⟩ (by kernel_rfl) ?_
        refine At.nil ?_
        refine At.forget [] 0 [] ⟨fr 145 [(3, (vS A3 ((nds.take 60).length) c4)), (4, (vS (aS b87 off88) ((foldR nrmk (nds.take 60)).length) cn)), (16, (vB s)), (123, (vS (aS b87 off88) ((foldR nrmk (nds.take 60)).length) cn)), (124, (vI ((foldR nrmk (nds.take 60)).length : Int))), (125, (vI ((k : Int) + 1)))], []⟩ (by kernel_rfl) (by kernel_rfl) (bleT rfl) ?_
        refine At.round (k + 1) (by kernel_rfl) hle93 (by omega) (by omega)
      have hb95p : ¬ (e89.kind = 9) := beq_eq_false_iff_ne.1 hb95
      refine At.cast (S' := ⟨fr 145 [(3, (vS A3 ((nds.take 60).length) c4)), (4, (vS (aS b87 off88) ((foldR nrmk (nds.take 60)).length) cn)), (16, (vB s)), (20, (vP g91 0)), (123, (vS (aS b87 off88) ((foldR nrmk (nds.take 60)).length) cn)), (124, (vI ((foldR nrmk (nds.take 60)).length : Int))), (125, (vI (k : Int))), (132, (vB false))], [.dead]⟩) (by rw [hb95] <;> rfl) ?_
      refine At.runk 4 [20, 132, 133, 134, 135] [] ⟨fr 145 [(3, (vS A3 ((nds.take 60).length) c4)), (4, (vS (aS b87 off88) ((foldR nrmk (nds.take 60)).length) cn)), (16, (vB s)), (123, (vS (aS b87 off88) ((foldR nrmk (nds.take 60)).length) cn)), (124, (vI ((foldR nrmk (nds.take 60)).length : Int))), (125, (vI (k : Int))), (136, (vB false))], [.dead]⟩ (by kernel_rfl) ?_
      refine At.nil ?_
      refine At.then_normal ?_
      refine At.cond_f (by kernel_rfl) ?_
      refine At.skip ?_
      refine At.in_normal ?_
      refine At.then_normal ?_
      refine At.region ?_
      refine At.runk 1 [125, 136] [] ⟨fr 145 [(3, (vS A3 ((nds.take 60).length) c4)), (4, (vS (aS b87 off88) ((foldR nrmk (nds.take 60)).length) cn)), (16, (vB s)), (123, (vS (aS b87 off88) ((foldR nrmk (nds.take 60)).length) cn)), (124, (vI ((foldR nrmk (nds.take 60)).length : Int))), (137, (vI (IntKind.i64.wrap ((k : Int) + 1))))], [.dead]⟩ (by kernel_rfl) ?_
      refine At.cast (S' := ⟨fr 145 [(3, (vS A3 ((nds.take 60).length) c4)), (4, (vS (aS b87 off88) ((foldR nrmk (nds.take 60)).length) cn)), (16, (vB s)), (123, (vS (aS b87 off88) ((foldR nrmk (nds.take 60)).length) cn)), (124, (vI ((foldR nrmk (nds.take 60)).length : Int))), (137, (vI ((k : Int) + 1)))], [.dead]⟩) (by rw [wrapI (z := (k : Int) + 1) (by omega) (by omega)]) ?_
      refine At.runk 1 [137] [] ⟨fr 145 [(3, (vS A3 ((nds.take 60).length) c4)), (4, (vS (aS b87 off88) ((foldR nrmk (nds.take 60)).length) cn)), (16, (vB s)), (123, (vS (aS b87 off88) ((foldR nrmk (nds.take 60)).length) cn)), (124, (vI ((foldR nrmk (nds.take 60)).length : Int))), (125, (vI ((k : Int) + 1)))], [.dead]⟩ (by kernel_rfl) ?_
      refine At.nil ?_
      refine At.forget [] 0 [] ⟨fr 145 [(3, (vS A3 ((nds.take 60).length) c4)), (4, (vS (aS b87 off88) ((foldR nrmk (nds.take 60)).length) cn)), (16, (vB s)), (123, (vS (aS b87 off88) ((foldR nrmk (nds.take 60)).length) cn)), (124, (vI ((foldR nrmk (nds.take 60)).length : Int))), (125, (vI ((k : Int) + 1)))], []⟩ (by kernel_rfl) (by kernel_rfl) (bleT rfl) ?_
      refine At.round (k + 1) (by kernel_rfl) hle93 (by omega) (by omega)
    have hb86p : ¬ ((k : Int) < ((foldR nrmk (nds.take 60)).length : Int)) := of_decide_eq_false hb86
    refine At.cast (S' := ⟨fr 145 [(3, (vS A3 ((nds.take 60).length) c4)), (4, (vS An ((foldR nrmk (nds.take 60)).length) cn)), (16, (vB s)), (123, (vS An ((foldR nrmk (nds.take 60)).length) cn)), (124, (vI ((foldR nrmk (nds.take 60)).length : Int))), (125, (vI (k : Int))), (126, (vB false))], []⟩) (by rw [hb86] <;> rfl) ?_
    refine At.cond_f (by kernel_rfl) ?_
    refine At.exit_ ?_
    refine At.then_exit ?_
    refine At.then_exit ?_
    refine At.in_here ?_
    refine At.then_normal ?_
    refine At.seq ?_
    have hs := hF.2
    refine At.region ?_
    refine At.runk 3 [16, 123, 124, 125, 126, 138, 139] [] ⟨fr 145 [(3, (vS A3 ((nds.take 60).length) c4)), (4, (vS An ((foldR nrmk (nds.take 60)).length) cn)), (140, (vB (!s)))], []⟩ (by kernel_rfl) ?_
    refine At.bcase s (fun hb97 => ?_) (fun hb97 => ?_)
    · refine At.cast (S' := ⟨fr 145 [(3, (vS A3 ((nds.take 60).length) c4)), (4, (vS An ((foldR nrmk (nds.take 60)).length) cn)), (140, (vB false))], []⟩) (by rw [hb97] <;> rfl) ?_
      refine At.runk 2 [3, 4] [] ⟨fr 145 [(140, (vB false)), (141, (vS An ((foldR nrmk (nds.take 60)).length) cn)), (142, (vS A3 ((nds.take 60).length) c4))], []⟩ (by kernel_rfl) ?_
      have hall : ∀ m ∈ (nds.take 60), ¬ isN m := by have := hs (by first | assumption | rfl); rw [List.take_of_length_le (by omega)] at this; exact this
      refine At.callV rfl (by kernel_rfl) 20 [] [] (by kernel_rfl) Try.func20 (by kernel_rfl) (by kernel_rfl) [(vS An ((foldR nrmk (nds.take 60)).length) cn), (vS A3 ((nds.take 60).length) c4)] (by kernel_rfl) (by kernel_rfl) (same_c Φ84 (foldR nrmk (nds.take 60)) (nds.take 60) An A3 cn c4 hN10 hRr (by omega) (by simp only [List.length_take]; omega)) ?_
      rintro Φ100 ts98 hle101 hts99
      have hR := hR.mono hle101
      have hRr := hRr.mono hle101
      have hN10 := hN10.mono hle101
      have hN14 := hN14.mono hle101
      replace hts99 : ts98 = true := by rw [hts99]; exact decide_eq_true (l7 hall)
      subst hts99
      refine ⟨⟨fr 145 [(140, (vB false)), (141, (vS An ((foldR nrmk (nds.take 60)).length) cn)), (142, (vS A3 ((nds.take 60).length) c4)), (143, (vB true))], []⟩, by kernel_rfl, by kernel_rfl, ?_⟩
      refine At.runk 2 [140, 141, 142, 143, 144] [] ⟨fr 145 [(2, (vB true))], []⟩ (by kernel_rfl) ?_
      refine At.nil ?_
      refine At.then_normal ?_
      refine At.ret_ ?_
      refine At.leaveR rfl () (by kernel_rfl) (by kernel_rfl) (by kernel_rfl) ?_
      trivial
    refine At.cast (S' := ⟨fr 145 [(3, (vS A3 ((nds.take 60).length) c4)), (4, (vS An ((foldR nrmk (nds.take 60)).length) cn)), (140, (vB true))], []⟩) (by rw [hb97] <;> rfl) ?_
    refine At.runk 5 [3, 4, 140, 141, 142, 143, 144] [] ⟨fr 145 [(2, (vB true))], []⟩ (by kernel_rfl) ?_
    refine At.nil ?_
    refine At.then_normal ?_
    refine At.ret_ ?_
    refine At.leaveR rfl () (by kernel_rfl) (by kernel_rfl) (by kernel_rfl) ?_
    trivial
  obtain ⟨ihc11, hc11s⟩ := Option.ne_none_iff_exists.1 hc11
  refine At.callV rfl (by kernel_rfl) 17 [] [] (by kernel_rfl) Try.func17 (by kernel_rfl) (by kernel_rfl) [(vS A3 ((nds.take 60).length) c4)] (by kernel_rfl) (by kernel_rfl) (norm_no Φ8 (nds.take 60) A3 c4 hRr (by simp only [List.length_take]; omega) (fun n hn => ndsw n (List.mem_of_mem_take hn)) ihc11 hc11s.symm) ?_
  rintro Φ102 ⟨⟩ hle103 -
  have hR := hR.mono hle103
  have hRr := hRr.mono hle103
  refine ⟨⟨fr 145 [(3, (vS A3 ((nds.take 60).length) c4)), (26, (vS A3 ((nds.take 60).length) c4)), (27, .tup [(vS none 0 0), (vI 140)])], [.dead]⟩, by kernel_rfl, by kernel_rfl, ?_⟩
  refine At.runk 5 [25, 26, 27, 28, 29] [] ⟨fr 145 [(3, (vS A3 ((nds.take 60).length) c4)), (4, (vS none 0 0)), (5, (vI 140))], [.dead]⟩ (by kernel_rfl) ?_
  refine At.nil ?_
  refine At.then_normal ?_
  refine At.seq ?_
  refine At.seq ?_
  refine At.region ?_
  refine At.runk 2 [30] [] ⟨fr 145 [(3, (vS A3 ((nds.take 60).length) c4)), (4, (vS none 0 0)), (5, (vI 140)), (31, (vB true))], [.dead]⟩ (by kernel_rfl) ?_
  refine At.nil ?_
  refine At.then_normal ?_
  refine At.cond_t (by kernel_rfl) ?_
  refine At.seq ?_
  refine At.region ?_
  refine At.runk 8 [3, 4, 5, 31, 32, 33, 34, 35, 36, 37, 38] [] ⟨fr 145 [(2, (vB true))], [.dead]⟩ (by kernel_rfl) ?_
  refine At.nil ?_
  refine At.then_normal ?_
  refine At.ret_ ?_
  refine At.then_ret ?_
  refine At.forget [] 0 [] ⟨fr 145 [(2, (vB true))], []⟩ (by kernel_rfl) (by kernel_rfl) (bleT rfl) ?_
  refine At.leaveR rfl () (by kernel_rfl) (by kernel_rfl) (by kernel_rfl) ?_
  trivial

end Go.Sx
