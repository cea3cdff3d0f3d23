/- RxH: printed by wip/gen/lib04.py. Walks over functions of the program. -/
import Derived.Test.YtgkjblbmiooedaaRxG
import Derived.Test.YtgkjblbmiooedaaRx2
namespace Go.Sx
open Go.Proofs Go.RowKit
theorem known_t (Φ : Phi) (n : Nd) (nw : n.wf) (hm : n.may = true) : CallR Try.prog 44 [.agg n.sv] [] Φ (Nat × Nat × Nat) (fun t => .tup [.agg [(vI (t.1 : Int)), .v (.func (.func t.2.1) #[] #[]), .v (.func (.func t.2.2) #[] #[])], (vB true)]) (fun _ => []) (fun t _ => t = (ar n, mayN n.kind, nulN n.kind)) := by
  refine CallG.mono (known_c Φ n.kind n.s0 n.s1 n.s2 n.s3 n.mn n.mx nw (Nd.kind_of_may hm)) ?_
  rintro Φ' es hp' _ ⟨t, rfl, rfl, rfl⟩
  refine ⟨(ar n, mayN n.kind, nulN n.kind), ?_, rfl, rfl⟩
  have h1 : (Nd.mk n.kind n.s0 n.s1 n.s2 n.s3 n.mn n.mx).may = true := hm
  simp only [ar_kar, h1]

theorem depth1_c (Φ : Phi) (n : Nd) (vs : List Int) (A : Option Addr) (c : Nat) (hR : RdC Φ A (vs.flatMap encI)) (hl : vs.length ≤ 1000000) (hv : ∀ v ∈ vs, v ≤ 1000000)  : CallR Try.prog 50 [.agg n.sv, (vS A vs.length c)] [] Φ Int (fun t => (vI t)) (fun _ => []) (fun t _ => t = dmk n vs) := by
  refine CallG.enterk Try.func50 rfl [2, 3, 4, 5, 6, 7, 8, 9, 10, 11, 12, 13, 14, 15, 16, 17, 18, 19] ⟨fr 20 [(0, .agg n.sv), (1, (vS A vs.length c))], []⟩ (by kernel_rfl) (by kernel_rfl) ?_
  intro E G β0
  refine At.seq ?_
  refine At.region ?_
  refine At.runk 2 [0, 2, 4] [0] ⟨fr 20 [(1, (vS A vs.length c))], [.dead]⟩ (by kernel_rfl) ?_
  refine At.nil ?_
  refine At.then_normal ?_
  refine At.seq ?_
  refine At.region ?_
  refine At.runk 1 [] [] ⟨fr 20 [(1, (vS A vs.length c)), (5, (vI 0))], [.dead]⟩ (by kernel_rfl) ?_
  refine At.nil ?_
  refine At.then_normal ?_
  refine At.seq ?_
  refine At.seq ?_
  refine At.region ?_
  refine At.runk 3 [1] [] ⟨fr 20 [(5, (vI 0)), (8, (vS A vs.length c)), (9, (vI (vs.length : Int))), (10, (vI 0))], [.dead]⟩ (by kernel_rfl) ?_
  refine At.nil ?_
  refine At.then_normal ?_
  refine At.block ?_
  refine At.forget [] 0 [] ⟨fr 20 [(5, (vI 0)), (8, (vS A vs.length c)), (9, (vI (vs.length : Int))), (10, (vI 0))], []⟩ (by kernel_rfl) (by kernel_rfl) (bleT rfl) ?_
  refine At.loop (T := Nat) (fun x => ⟨fr 20 [(5, (vI (most (vs.take x)))), (8, (vS A vs.length c)), (9, (vI (vs.length : Int))), (10, (vI (x : Int)))], []⟩) (fun x Φ => x ≤ vs.length) (fun x => vs.length - x) 0 (by kernel_rfl) (Nat.zero_le _) ?_
  rintro i Φ1 hle2 hF
  have hR := hR.mono hle2
  refine At.cast (S' := ⟨fr 20 [(5, (vI (most (vs.take i)))), (8, (vS A vs.length c)), (9, (vI (vs.length : Int))), (10, (vI (i : Int)))], []⟩) (by kernel_rfl) ?_
  have hmb := most_bd (l := vs.take i) (b := 1000000) (by omega) (fun v hv1 => hv v (List.mem_of_mem_take hv1))
  refine At.seq ?_
  refine At.region ?_
  refine At.runk 1 [] [] ⟨fr 20 [(5, (vI (most (vs.take i)))), (8, (vS A vs.length c)), (9, (vI (vs.length : Int))), (10, (vI (i : Int))), (11, (vB (decide ((i : Int) < (vs.length : Int)))))], []⟩ (by kernel_rfl) ?_
  refine At.nil ?_
  refine At.then_normal ?_
  refine At.seq ?_
  refine At.bcase (decide ((i : Int) < (vs.length : Int))) (fun hb3 => ?_) (fun hb3 => ?_)
  · have hb3p : ((i : Int) < (vs.length : Int)) := of_decide_eq_true hb3
    refine At.cast (S' := ⟨fr 20 [(5, (vI (most (vs.take i)))), (8, (vS A vs.length c)), (9, (vI (vs.length : Int))), (10, (vI (i : Int))), (11, (vB true))], []⟩) (by rw [hb3] <;> rfl) ?_
    refine At.cond_t (by kernel_rfl) ?_
    refine At.skip ?_
    refine At.then_normal ?_
    refine At.seq ?_
    refine At.block ?_
    refine At.seq ?_
    refine At.region ?_
    obtain ⟨b4, off5, hAeq⟩ : ∃ b off, A = some ⟨b, off, none⟩ := hR.addr (by rw [flat_len (sz := 1) (fun _ => rfl)]; omega)
    subst hAeq
    refine At.idx (S' := ⟨fr 20 [(5, (vI (most (vs.take i)))), (8, (vS (aS b4 off5) vs.length c)), (9, (vI (vs.length : Int))), (10, (vI (i : Int))), (11, (vB true)), (12, .v (.pointer (some ⟨b4, off5 + i * 1, none⟩)))], []⟩) rfl (by kernel_rfl) (sz := 1) (e := 3) (by kernel_rfl) (by kernel_rfl) (by kernel_rfl) (b := b4) (off := off5) (n := vs.length) (cap := c) (kd := .i64) (i := (i : Int)) (by kernel_rfl) (by omega) (by omega) (by kernel_rfl) ?_
    obtain ⟨e6, he7⟩ := get_some (l := vs) (i := i) (by omega)
    refine At.vals (S' := ⟨fr 20 [(5, (vI (most (vs.take i)))), (8, (vS (aS b4 off5) vs.length c)), (9, (vI (vs.length : Int))), (10, (vI (i : Int))), (11, (vB true)), (12, .v (.pointer (some ⟨b4, off5 + i * 1, none⟩))), (13, (vI e6))], []⟩) (by kernel_rfl) ((vI e6)) (by kernel_rfl) (Val.ldE rfl (enc := encI) (xs := vs) (b := b4) (off := off5) hR (sz := 1) (fun _ => rfl) (Nat.zero_lt_succ _) i e6 he7 0 (off5 + i * 1) (by omega) (by kernel_rfl) ((vI e6)) (by kernel_rfl)) ?_
    refine At.runk 1 [11, 12, 13] [] ⟨fr 20 [(5, (vI (most (vs.take i)))), (7, (vI e6)), (8, (vS (aS b4 off5) vs.length c)), (9, (vI (vs.length : Int))), (10, (vI (i : Int)))], []⟩ (by kernel_rfl) ?_
    refine At.nil ?_
    refine At.then_normal ?_
    refine At.region ?_
    refine At.runk 2 [5, 7] [] ⟨fr 20 [(8, (vS (aS b4 off5) vs.length c)), (9, (vI (vs.length : Int))), (10, (vI (i : Int))), (14, (vI (most (vs.take i)))), (15, (vI e6))], []⟩ (by kernel_rfl) ?_
    refine At.vals (S' := ⟨fr 20 [(8, (vS (aS b4 off5) vs.length c)), (9, (vI (vs.length : Int))), (10, (vI (i : Int))), (14, (vI (most (vs.take i)))), (15, (vI e6)), (16, (vI (max (most (vs.take i)) e6)))], []⟩) (by kernel_rfl) ((vI (max (most (vs.take i)) e6))) (by kernel_rfl) (Val.max rfl (k := .i64) (a := (most (vs.take i))) (b := e6) (by kernel_rfl) (by kernel_rfl) (by rw [Int.max_def]; split <;> split <;> omega)) ?_
    refine At.runk 1 [14, 15, 16] [] ⟨fr 20 [(5, (vI (max (most (vs.take i)) e6))), (8, (vS (aS b4 off5) vs.length c)), (9, (vI (vs.length : Int))), (10, (vI (i : Int)))], []⟩ (by kernel_rfl) ?_
    refine At.nil ?_
    refine At.in_normal ?_
    refine At.then_normal ?_
    refine At.region ?_
    refine At.runk 1 [10] [] ⟨fr 20 [(5, (vI (max (most (vs.take i)) e6))), (8, (vS (aS b4 off5) vs.length c)), (9, (vI (vs.length : Int))), (17, (vI (IntKind.i64.wrap ((i : Int) + 1))))], []⟩ (by kernel_rfl) ?_
    refine At.cast (S' := ⟨fr 20 [(5, (vI (max (most (vs.take i)) e6))), (8, (vS (aS b4 off5) vs.length c)), (9, (vI (vs.length : Int))), (17, (vI ((i : Int) + 1)))], []⟩) (by rw [wrapI (z := (i : Int) + 1) (by omega) (by omega)]) ?_
    refine At.runk 1 [17] [] ⟨fr 20 [(5, (vI (max (most (vs.take i)) e6))), (8, (vS (aS b4 off5) vs.length c)), (9, (vI (vs.length : Int))), (10, (vI ((i : Int) + 1)))], []⟩ (by kernel_rfl) ?_
    refine At.nil ?_
    refine At.cast (S' := ⟨fr 20 [(5, (vI (most (vs.take (i + 1))))), (8, (vS (aS b4 off5) vs.length c)), (9, (vI (vs.length : Int))), (10, (vI ((i : Int) + 1)))], []⟩) (by rw [most_take he7]) ?_
    refine At.round (i + 1) (by kernel_rfl) (PhiLe.refl 0 _) (by omega) (by omega)
  have hb3p : ¬ ((i : Int) < (vs.length : Int)) := of_decide_eq_false hb3
  refine At.cast (S' := ⟨fr 20 [(5, (vI (most (vs.take i)))), (8, (vS A vs.length c)), (9, (vI (vs.length : Int))), (10, (vI (i : Int))), (11, (vB false))], []⟩) (by rw [hb3] <;> rfl) ?_
  refine At.cond_f (by kernel_rfl) ?_
  refine At.exit_ ?_
  refine At.then_exit ?_
  refine At.then_exit ?_
  refine At.in_here ?_
  refine At.then_normal ?_
  refine At.seq ?_
  refine At.region ?_
  refine At.runk 2 [5, 8, 9, 10, 11, 18] [] ⟨fr 20 [(19, (vI (IntKind.i64.wrap ((most (vs.take i)) + 1))))], []⟩ (by kernel_rfl) ?_
  refine At.cast (S' := ⟨fr 20 [(19, (vI ((most (vs.take i)) + 1)))], []⟩) (by rw [wrapI (z := (most (vs.take i)) + 1) (by omega) (by omega)]) ?_
  refine At.runk 1 [19] [] ⟨fr 20 [(4, (vI ((most (vs.take i)) + 1)))], []⟩ (by kernel_rfl) ?_
  refine At.nil ?_
  refine At.then_normal ?_
  refine At.ret_ ?_
  refine At.leaveR rfl ((most (vs.take i)) + 1) (by kernel_rfl) (by kernel_rfl) (by kernel_rfl) ?_
  have hi : i = vs.length := by omega
  subst hi
  rw [dmk, List.take_of_length_le (Nat.le_refl _)]

theorem fold_int_c (Φ : Phi) (g0 g1 : Nat) (nds : List Nd) (A : Option Addr) (c : Nat) (hR : NdsAt Φ A nds) (hl : nds.length ≤ 1000000) (ndsw : ∀ n ∈ nds, n.wf) (hok : chk nds 0 0 = none) (hB0 : RdC Φ (aS g0 0) [.slice A nds.length c]) (hB1 : RdC Φ (aS g1 0) [.func (.func 50) #[] #[]])  : CallR Try.prog 75 [(vP g0 0), (vP g1 0)] [] Φ Int (fun t => (vI t)) (fun _ => []) (fun t _ => t = foldR dmk nds) := by
  refine CallG.enterk Try.func75 rfl [2, 3, 4, 5, 6, 7, 8, 9, 10, 11, 12, 13, 14, 15, 16, 17, 18, 19, 20, 21, 22, 23, 24, 25, 26, 27, 28, 29, 30, 31, 32, 33, 34, 35, 36, 37, 38, 39, 40, 41, 42, 43, 44, 45] ⟨fr 46 [(0, (vP g0 0)), (1, (vP g1 0))], []⟩ (by kernel_rfl) (by kernel_rfl) ?_
  intro E G β0
  refine At.seq ?_
  refine At.region ?_
  refine At.runk 1 [2] [] ⟨fr 46 [(0, (vP g0 0)), (1, (vP g1 0))], []⟩ (by kernel_rfl) ?_
  refine At.nil ?_
  refine At.then_normal ?_
  refine At.seq ?_
  refine At.region ?_
  refine At.runk 1 [] [] ⟨fr 46 [(0, (vP g0 0)), (1, (vP g1 0)), (3, (vS none 0 0))], []⟩ (by kernel_rfl) ?_
  refine At.nilrow 3 1 ⟨fr 46 [(0, (vP g0 0)), (1, (vP g1 0)), (3, (vS none 0 0))], [.o (.slice none 0 0) 0 [] 3 1]⟩ (by kernel_rfl) (by kernel_rfl) ?_
  refine At.nil ?_
  refine At.then_normal ?_
  refine At.seq ?_
  refine At.seq ?_
  refine At.region ?_
  refine At.vals (S' := ⟨fr 46 [(0, (vP g0 0)), (1, (vP g1 0)), (3, (vS none 0 0)), (10, (vS A nds.length c))], [.o (.slice none 0 0) 0 [] 3 1]⟩) (by kernel_rfl) ((vS A nds.length c)) (by kernel_rfl) (Val.ldB rfl hB0 (Nat.zero_lt_succ _) 0 0 (by omega) (by kernel_rfl) ((vS A nds.length c)) (by kernel_rfl)) ?_
  refine At.callV rfl (by kernel_rfl) 43 [] [] (by kernel_rfl) Try.func43 (by kernel_rfl) (by kernel_rfl) [(vS A nds.length c)] (by kernel_rfl) (by kernel_rfl) (of_ok Φ nds A c hR hl ndsw hok) ?_
  rintro Φ3 gT1 hle4 hT2
  have hR := hR.mono hle4
  have hB0 := hB0.mono hle4
  have hB1 := hB1.mono hle4
  refine ⟨⟨fr 46 [(0, (vP g0 0)), (1, (vP g1 0)), (3, (vS none 0 0)), (10, (vS A nds.length c)), (11, (vP gT1 0))], [.o (.slice none 0 0) 0 [] 3 1]⟩, by kernel_rfl, by kernel_rfl, ?_⟩
  refine At.runk 2 [0, 10, 11, 12] [] ⟨fr 46 [(1, (vP g1 0)), (3, (vS none 0 0)), (13, (vP gT1 0))], [.o (.slice none 0 0) 0 [] 3 1]⟩ (by kernel_rfl) ?_
  refine At.vals (S' := ⟨fr 46 [(1, (vP g1 0)), (3, (vS none 0 0)), (13, (vP gT1 0)), (14, (vS A nds.length c))], [.o (.slice none 0 0) 0 [] 3 1]⟩) (by kernel_rfl) ((vS A nds.length c)) (by kernel_rfl) (Val.ldB rfl hT2 (Nat.zero_lt_succ _) 0 0 (by omega) (by kernel_rfl) ((vS A nds.length c)) (by kernel_rfl)) ?_
  refine At.runk 2 [13] [] ⟨fr 46 [(1, (vP g1 0)), (3, (vS none 0 0)), (14, (vS A nds.length c)), (15, (vI (nds.length : Int))), (16, (vI 0))], [.o (.slice none 0 0) 0 [] 3 1]⟩ (by kernel_rfl) ?_
  refine At.nil ?_
  refine At.then_normal ?_
  refine At.block ?_
  refine At.loop (T := Nat × List Int × Option Addr × Nat) (fun x => ⟨fr 46 [(1, (vP g1 0)), (3, (vS x.2.2.1 x.2.1.length x.2.2.2)), (14, (vS A nds.length c)), (15, (vI (nds.length : Int))), (16, (vI (x.1 : Int)))], [.o (.slice x.2.2.1 x.2.1.length x.2.2.2) x.2.1.length (x.2.1.flatMap encI) 3 1]⟩) (fun x Φ => x.1 ≤ nds.length ∧ x.2.1.length ≤ x.1 ∧ chk (nds.drop x.1) (x.2.1.length : Int) x.1 = none ∧ foldS dmk (nds.drop x.1) x.2.1 = foldS dmk nds [] ∧ (∀ v ∈ x.2.1, v ≤ (x.1 : Int)) ∧ x.2.1.length ≤ x.2.2.2) (fun x => nds.length - x.1) (0, [], none, 0) (by kernel_rfl) ⟨Nat.zero_le _, Nat.le_refl _, hok, rfl, (fun v h => by cases h), Nat.le_refl _⟩ ?_
  rintro ⟨i, st, As, cs⟩ Φ5 hle6 hF
  have hR := hR.mono hle6
  have hB0 := hB0.mono hle6
  have hB1 := hB1.mono hle6
  have hT2 := hT2.mono hle6
  refine At.cast (S' := ⟨fr 46 [(1, (vP g1 0)), (3, (vS As st.length cs)), (14, (vS A nds.length c)), (15, (vI (nds.length : Int))), (16, (vI (i : Int)))], [.o (.slice As st.length cs) st.length (st.flatMap encI) 3 1]⟩) (by kernel_rfl) ?_
  dsimp only at hF
  have hF1 := hF.1
  have hF2 := hF.2.1
  have hF6 := hF.2.2.2.2.2
  refine At.seq ?_
  refine At.region ?_
  refine At.runk 1 [] [] ⟨fr 46 [(1, (vP g1 0)), (3, (vS As st.length cs)), (14, (vS A nds.length c)), (15, (vI (nds.length : Int))), (16, (vI (i : Int))), (17, (vB (decide ((i : Int) < (nds.length : Int)))))], [.o (.slice As st.length cs) st.length (st.flatMap encI) 3 1]⟩ (by kernel_rfl) ?_
  refine At.nil ?_
  refine At.then_normal ?_
  refine At.seq ?_
  refine At.bcase (decide ((i : Int) < (nds.length : Int))) (fun hb7 => ?_) (fun hb7 => ?_)
  · have hb7p : ((i : Int) < (nds.length : Int)) := of_decide_eq_true hb7
    refine At.cast (S' := ⟨fr 46 [(1, (vP g1 0)), (3, (vS As st.length cs)), (14, (vS A nds.length c)), (15, (vI (nds.length : Int))), (16, (vI (i : Int))), (17, (vB true))], [.o (.slice As st.length cs) st.length (st.flatMap encI) 3 1]⟩) (by rw [hb7] <;> rfl) ?_
    refine At.cond_t (by kernel_rfl) ?_
    refine At.skip ?_
    refine At.then_normal ?_
    refine At.seq ?_
    refine At.block ?_
    refine At.seq ?_
    refine At.region ?_
    obtain ⟨b8, off9, hAeq⟩ : ∃ b off, A = some ⟨b, off, none⟩ := hR.addr (by exact nds_pos (by omega))
    subst hAeq
    refine At.idx (S' := ⟨fr 46 [(1, (vP g1 0)), (3, (vS As st.length cs)), (14, (vS (aS b8 off9) nds.length c)), (15, (vI (nds.length : Int))), (16, (vI (i : Int))), (17, (vB true)), (18, .v (.pointer (some ⟨b8, off9 + i * 7, none⟩)))], [.o (.slice As st.length cs) st.length (st.flatMap encI) 3 1]⟩) rfl (by kernel_rfl) (sz := 7) (e := 26) (by kernel_rfl) (by kernel_rfl) (by kernel_rfl) (b := b8) (off := off9) (n := nds.length) (cap := c) (kd := .i64) (i := (i : Int)) (by kernel_rfl) (by omega) (by omega) (by kernel_rfl) ?_
    obtain ⟨e10, he11⟩ := get_some (l := nds) (i := i) (by omega)
    have e10w := ndsw e10 (List.mem_of_getElem? he11)
    obtain ⟨e10m, e10a, e10c⟩ := chk_none he11 hF.2.2.1
    refine At.vals (S' := ⟨fr 46 [(1, (vP g1 0)), (3, (vS As st.length cs)), (14, (vS (aS b8 off9) nds.length c)), (15, (vI (nds.length : Int))), (16, (vI (i : Int))), (17, (vB true)), (18, .v (.pointer (some ⟨b8, off9 + i * 7, none⟩))), (19, .agg e10.sv)], [.o (.slice As st.length cs) st.length (st.flatMap encI) 3 1]⟩) (by kernel_rfl) (.agg e10.sv) (by kernel_rfl) (Val.ldE rfl (enc := Nd.cells) (xs := nds) (b := b8) (off := off9) hR (sz := 7) (fun _ => rfl) (Nat.zero_lt_succ _) i e10 he11 0 (off9 + i * 7) (by omega) (by kernel_rfl) (.agg e10.sv) (by kernel_rfl)) ?_
    refine At.runk 2 [17, 18, 19] [] ⟨fr 46 [(1, (vP g1 0)), (3, (vS As st.length cs)), (5, .p 1 0), (14, (vS (aS b8 off9) nds.length c)), (15, (vI (nds.length : Int))), (16, (vI (i : Int)))], [.o (.slice As st.length cs) st.length (st.flatMap encI) 3 1, .c e10.sv 26]⟩ (by kernel_rfl) ?_
    refine At.nil ?_
    refine At.then_normal ?_
    refine At.seq ?_
    refine At.region ?_
    refine At.runk 1 [] [] ⟨fr 46 [(1, (vP g1 0)), (3, (vS As st.length cs)), (5, .p 1 0), (14, (vS (aS b8 off9) nds.length c)), (15, (vI (nds.length : Int))), (16, (vI (i : Int))), (21, .agg e10.sv)], [.o (.slice As st.length cs) st.length (st.flatMap encI) 3 1, .c e10.sv 26]⟩ (by kernel_rfl) ?_
    refine At.callV rfl (by kernel_rfl) 44 [] [] (by kernel_rfl) Try.func44 (by kernel_rfl) (by kernel_rfl) [.agg e10.sv] (by kernel_rfl) (by kernel_rfl) (known_t Φ5 e10 e10w e10m) ?_
    rintro Φ12 _ hle13 rfl
    have hR := hR.mono hle13
    have hB0 := hB0.mono hle13
    have hB1 := hB1.mono hle13
    have hT2 := hT2.mono hle13
    have hal := ar_le e10
    refine ⟨⟨fr 46 [(1, (vP g1 0)), (3, (vS As st.length cs)), (5, .p 1 0), (14, (vS (aS b8 off9) nds.length c)), (15, (vI (nds.length : Int))), (16, (vI (i : Int))), (21, .agg e10.sv), (22, .tup [.agg [(vI (ar e10 : Int)), .v (.func (.func (mayN e10.kind)) #[] #[]), .v (.func (.func (nulN e10.kind)) #[] #[])], (vB true)])], [.o (.slice As st.length cs) st.length (st.flatMap encI) 3 1, .c e10.sv 26]⟩, by kernel_rfl, by kernel_rfl, ?_⟩
    refine At.runk 6 [7, 20, 21, 22, 23, 24] [] ⟨fr 46 [(1, (vP g1 0)), (3, (vS As st.length cs)), (5, .p 1 0), (6, .p 2 0), (14, (vS (aS b8 off9) nds.length c)), (15, (vI (nds.length : Int))), (16, (vI (i : Int)))], [.o (.slice As st.length cs) st.length (st.flatMap encI) 3 1, .c e10.sv 26, .c [(vI (ar e10 : Int)), .v (.func (.func (mayN e10.kind)) #[] #[]), .v (.func (.func (nulN e10.kind)) #[] #[])] 76]⟩ (by kernel_rfl) ?_
    refine At.nil ?_
    refine At.then_normal ?_
    refine At.seq ?_
    refine At.region ?_
    refine At.runk 5 [6, 25, 26, 27, 28] [2] ⟨fr 46 [(1, (vP g1 0)), (3, (vS As st.length cs)), (5, .p 1 0), (14, (vS (aS b8 off9) nds.length c)), (15, (vI (nds.length : Int))), (16, (vI (i : Int))), (29, (vI (IntKind.i64.wrap ((st.length : Int) - (ar e10 : Int)))))], [.o (.slice As st.length cs) st.length (st.flatMap encI) 3 1, .c e10.sv 26, .dead]⟩ (by kernel_rfl) ?_
    refine At.cast (S' := ⟨fr 46 [(1, (vP g1 0)), (3, (vS As st.length cs)), (5, .p 1 0), (14, (vS (aS b8 off9) nds.length c)), (15, (vI (nds.length : Int))), (16, (vI (i : Int))), (29, (vI ((st.length : Int) - (ar e10 : Int))))], [.o (.slice As st.length cs) st.length (st.flatMap encI) 3 1, .c e10.sv 26, .dead]⟩) (by rw [wrapI (z := (st.length : Int) - (ar e10 : Int)) (by omega) (by omega)]) ?_
    refine At.runk 1 [29] [] ⟨fr 46 [(1, (vP g1 0)), (3, (vS As st.length cs)), (5, .p 1 0), (8, (vI ((st.length : Int) - (ar e10 : Int)))), (14, (vS (aS b8 off9) nds.length c)), (15, (vI (nds.length : Int))), (16, (vI (i : Int)))], [.o (.slice As st.length cs) st.length (st.flatMap encI) 3 1, .c e10.sv 26, .dead]⟩ (by kernel_rfl) ?_
    refine At.cast (S' := ⟨fr 46 [(1, (vP g1 0)), (3, (vS As st.length cs)), (5, .p 1 0), (8, (vI ((st.length - ar e10 : Nat) : Int))), (14, (vS (aS b8 off9) nds.length c)), (15, (vI (nds.length : Int))), (16, (vI (i : Int)))], [.o (.slice As st.length cs) st.length (st.flatMap encI) 3 1, .c e10.sv 26, .dead]⟩) (by rw [show ((st.length : Int) - (ar e10 : Int)) = (((st.length - ar e10 : Nat) : Nat) : Int) from by omega]) ?_
    refine At.nil ?_
    refine At.then_normal ?_
    refine At.seq ?_
    refine At.freezeC 1 [.int .i64 e10.kind, .int .u64 e10.s0, .int .u64 e10.s1, .int .u64 e10.s2, .int .u64 e10.s3, .int .i64 e10.mn, .int .i64 e10.mx] rfl rfl (bleT rfl) (bleT rfl) (fun _ => by kernel_rfl) (fun _ => by kernel_rfl) ?_
    intro g14 Φ15 hle16 hB17
    have hR := hR.mono hle16
    have hB0 := hB0.mono hle16
    have hB1 := hB1.mono hle16
    have hT2 := hT2.mono hle16
    refine ⟨⟨fr 46 [(1, (vP g1 0)), (3, (vS As st.length cs)), (5, (vP g14 0)), (8, (vI ((st.length - ar e10 : Nat) : Int))), (14, (vS (aS b8 off9) nds.length c)), (15, (vI (nds.length : Int))), (16, (vI (i : Int)))], [.o (.slice As st.length cs) st.length (st.flatMap encI) 3 1, .dead, .dead]⟩, by kernel_rfl, ?_⟩
    refine At.forget [] 1 [] ⟨fr 46 [(1, (vP g1 0)), (3, (vS As st.length cs)), (5, (vP g14 0)), (8, (vI ((st.length - ar e10 : Nat) : Int))), (14, (vS (aS b8 off9) nds.length c)), (15, (vI (nds.length : Int))), (16, (vI (i : Int)))], [.o (.slice As st.length cs) st.length (st.flatMap encI) 3 1]⟩ (by kernel_rfl) (by kernel_rfl) (bleT rfl) ?_
    refine At.region_draw (by kernel_rfl) 7 (by kernel_rfl) #[false, false, false, false, false, false, false] (by kernel_rfl) ?_
    have hRd := hR
    have hB0d := hB0
    have hB1d := hB1
    have hT2d := hT2
    have hB17d := hB17
    refine At.take (S' := ⟨fr 46 [(1, (vP g1 0)), (3, (vS As st.length cs)), (5, (vP g14 0)), (8, (vI ((st.length - ar e10 : Nat) : Int))), (14, (vS (aS b8 off9) nds.length c)), (15, (vI (nds.length : Int))), (16, (vI (i : Int))), (30, (vF 50))], [.o (.slice As st.length cs) st.length (st.flatMap encI) 3 1]⟩) (PhiLe.refl 0 _) (PanOk.then (PanOk.inBlock (PanOk.then (PanOk.then (PanOk.inBlock (PanOk.then PanOk.body)))))) 0 rfl (by kernel_rfl) (by kernel_rfl) (by kernel_rfl) (by kernel_rfl) ((vF 50)) (by kernel_rfl) (fun _ _ => Val.ldB rfl hB1d (Nat.zero_lt_succ _) 0 0 (by omega) (by kernel_rfl) ((vF 50)) (by kernel_rfl)) (by kernel_rfl) #[true, false, false, false, false, false, false] (by kernel_rfl) ?_
    refine At.take (S' := ⟨fr 46 [(1, (vP g1 0)), (3, (vS As st.length cs)), (5, (vP g14 0)), (8, (vI ((st.length - ar e10 : Nat) : Int))), (14, (vS (aS b8 off9) nds.length c)), (15, (vI (nds.length : Int))), (16, (vI (i : Int))), (30, (vF 50)), (31, .agg e10.sv)], [.o (.slice As st.length cs) st.length (st.flatMap encI) 3 1]⟩) (PhiLe.refl 0 _) (PanOk.then (PanOk.inBlock (PanOk.then (PanOk.then (PanOk.inBlock (PanOk.then PanOk.body)))))) 1 rfl (by kernel_rfl) (by kernel_rfl) (by kernel_rfl) (by kernel_rfl) (.agg e10.sv) (by kernel_rfl) (fun _ _ => Val.ldB rfl hB17d (Nat.zero_lt_succ _) 0 0 (by omega) (by kernel_rfl) (.agg e10.sv) (by kernel_rfl)) (by kernel_rfl) #[true, true, false, false, false, false, false] (by kernel_rfl) ?_
    refine At.take (S' := ⟨fr 46 [(1, (vP g1 0)), (3, (vS As st.length cs)), (5, (vP g14 0)), (8, (vI ((st.length - ar e10 : Nat) : Int))), (14, (vS (aS b8 off9) nds.length c)), (15, (vI (nds.length : Int))), (16, (vI (i : Int))), (30, (vF 50)), (31, .agg e10.sv), (32, (vS As st.length cs))], [.o (.slice As st.length cs) st.length (st.flatMap encI) 3 1]⟩) (PhiLe.refl 0 _) (PanOk.then (PanOk.inBlock (PanOk.then (PanOk.then (PanOk.inBlock (PanOk.then PanOk.body)))))) 2 rfl (by kernel_rfl) (by kernel_rfl) (by kernel_rfl) (by kernel_rfl) ((vS As st.length cs)) (by kernel_rfl) (fun _ _ => Val.ev rfl (by kernel_rfl) (by kernel_rfl)) (by kernel_rfl) #[true, true, true, false, false, false, false] (by kernel_rfl) ?_
    refine At.take (S' := ⟨fr 46 [(1, (vP g1 0)), (3, (vS As st.length cs)), (5, (vP g14 0)), (8, (vI ((st.length - ar e10 : Nat) : Int))), (14, (vS (aS b8 off9) nds.length c)), (15, (vI (nds.length : Int))), (16, (vI (i : Int))), (30, (vF 50)), (31, .agg e10.sv), (32, (vS As st.length cs)), (33, (vI ((st.length - ar e10 : Nat) : Int)))], [.o (.slice As st.length cs) st.length (st.flatMap encI) 3 1]⟩) (PhiLe.refl 0 _) (PanOk.then (PanOk.inBlock (PanOk.then (PanOk.then (PanOk.inBlock (PanOk.then PanOk.body)))))) 3 rfl (by kernel_rfl) (by kernel_rfl) (by kernel_rfl) (by kernel_rfl) ((vI ((st.length - ar e10 : Nat) : Int))) (by kernel_rfl) (fun _ _ => Val.ev rfl (by kernel_rfl) (by kernel_rfl)) (by kernel_rfl) #[true, true, true, true, false, false, false] (by kernel_rfl) ?_
    refine At.any1 4 (by kernel_rfl) rfl #[true, true, true, true, true, false, false] (by kernel_rfl) ?_
    refine At.slice rfl (by kernel_rfl) (e := 3) (by kernel_rfl) (sz := 1) (by kernel_rfl) (A := As) (n := st.length) (c := cs) (by kernel_rfl) (st.length - ar e10 : Nat) st.length cs ⟨.i64, by kernel_rfl⟩ ⟨rfl, rfl⟩ rfl (by omega) hF.2.2.2.2.2 (Nat.le_refl _) ?_
    intro A18 hA19 hA20
    refine ⟨⟨fr 46 [(1, (vP g1 0)), (3, (vS As st.length cs)), (5, (vP g14 0)), (8, (vI ((st.length - ar e10 : Nat) : Int))), (14, (vS (aS b8 off9) nds.length c)), (15, (vI (nds.length : Int))), (16, (vI (i : Int))), (30, (vF 50)), (31, .agg e10.sv), (32, (vS As st.length cs)), (33, (vI ((st.length - ar e10 : Nat) : Int))), (34, (vS A18 (st.length - (st.length - ar e10 : Nat)) (cs - (st.length - ar e10 : Nat))))], [.o (.slice As st.length cs) st.length (st.flatMap encI) 3 1]⟩, by kernel_rfl, ?_⟩
    refine At.cast (S' := ⟨fr 46 [(1, (vP g1 0)), (3, (vS As st.length cs)), (5, (vP g14 0)), (8, (vI ((st.length - ar e10 : Nat) : Int))), (14, (vS (aS b8 off9) nds.length c)), (15, (vI (nds.length : Int))), (16, (vI (i : Int))), (30, (vF 50)), (31, .agg e10.sv), (32, (vS As st.length cs)), (33, (vI ((st.length - ar e10 : Nat) : Int))), (34, (vS A18 ((st.drop (st.length - ar e10 : Nat)).length) (cs - (st.length - ar e10 : Nat))))], [.o (.slice As st.length cs) st.length (st.flatMap encI) 3 1]⟩) (by rw [List.length_drop]) ?_
    refine At.nil ?_
    refine At.then_normal ?_
    refine At.held (PhiLe.refl 0 _) ?_
    refine At.any1 5 (by kernel_rfl) rfl #[true, true, true, true, true, true, false] (by kernel_rfl) ?_
    refine At.callT rfl (by kernel_rfl) 50 [] [] (by kernel_rfl) Try.func50 (by kernel_rfl) (by kernel_rfl) [.agg e10.sv, (vS A18 ((st.drop (st.length - ar e10 : Nat)).length) (cs - (st.length - ar e10 : Nat)))] (by kernel_rfl) (by kernel_rfl) (fun Φp hlp hrp => depth1_c Φp e10 (st.drop (st.length - ar e10 : Nat)) A18 (cs - (st.length - ar e10 : Nat)) (row_drop (enc := encI) (sz := 1) (fun _ => rfl) hF.2.2.2.2.2 hA20 (hrp 0 As st.length cs (st.flatMap encI) 3 1 (by kernel_rfl))) (by rw [List.length_drop]; omega) (fun v hv => by have := hF.2.2.2.2.1 v (List.mem_of_mem_drop hv); omega)) ?_
    rintro _ rfl
    refine ⟨⟨fr 46 [(1, (vP g1 0)), (3, (vS As st.length cs)), (5, (vP g14 0)), (8, (vI ((st.length - ar e10 : Nat) : Int))), (14, (vS (aS b8 off9) nds.length c)), (15, (vI (nds.length : Int))), (16, (vI (i : Int))), (30, (vF 50)), (31, .agg e10.sv), (32, (vS As st.length cs)), (33, (vI ((st.length - ar e10 : Nat) : Int))), (34, (vS A18 ((st.drop (st.length - ar e10 : Nat)).length) (cs - (st.length - ar e10 : Nat)))), (35, (vI (dmk e10 (st.drop (st.length - ar e10 : Nat)))))], [.o (.slice As st.length cs) st.length (st.flatMap encI) 3 1]⟩, by kernel_rfl, by kernel_rfl, ?_⟩
    refine At.nil ?_
    refine At.then_normal ?_
    refine At.held (PhiLe.refl 0 _) ?_
    refine At.take (S' := ⟨fr 46 [(1, (vP g1 0)), (3, (vS As st.length cs)), (5, (vP g14 0)), (8, (vI ((st.length - ar e10 : Nat) : Int))), (9, (vI (dmk e10 (st.drop (st.length - ar e10 : Nat))))), (14, (vS (aS b8 off9) nds.length c)), (15, (vI (nds.length : Int))), (16, (vI (i : Int))), (30, (vF 50)), (31, .agg e10.sv), (32, (vS As st.length cs)), (33, (vI ((st.length - ar e10 : Nat) : Int))), (34, (vS A18 ((st.drop (st.length - ar e10 : Nat)).length) (cs - (st.length - ar e10 : Nat)))), (35, (vI (dmk e10 (st.drop (st.length - ar e10 : Nat)))))], [.o (.slice As st.length cs) st.length (st.flatMap encI) 3 1]⟩) (PhiLe.refl 0 _) (PanOk.then (PanOk.inBlock (PanOk.then (PanOk.then (PanOk.inBlock (PanOk.then PanOk.body)))))) 6 rfl (by kernel_rfl) (by kernel_rfl) (by kernel_rfl) (by kernel_rfl) ((vI (dmk e10 (st.drop (st.length - ar e10 : Nat))))) (by kernel_rfl) (fun _ _ => Val.ev rfl (by kernel_rfl) (by kernel_rfl)) (by kernel_rfl) #[true, true, true, true, true, true, true] (by kernel_rfl) ?_
    refine At.drawn_done (by kernel_rfl) ?_
    refine At.then_normal ?_
    refine At.region ?_
    refine At.runk 2 [3, 5, 8, 30, 31, 32, 33, 34, 35] [] ⟨fr 46 [(1, (vP g1 0)), (9, (vI (dmk e10 (st.drop (st.length - ar e10 : Nat))))), (14, (vS (aS b8 off9) nds.length c)), (15, (vI (nds.length : Int))), (16, (vI (i : Int))), (36, (vS As st.length cs)), (37, (vI ((st.length - ar e10 : Nat) : Int)))], [.o (.slice As st.length cs) st.length (st.flatMap encI) 3 1]⟩ (by kernel_rfl) ?_
    refine At.slice rfl (by kernel_rfl) (e := 3) (by kernel_rfl) (sz := 1) (by kernel_rfl) (A := As) (n := st.length) (c := cs) (by kernel_rfl) 0 (st.length - ar e10 : Nat) cs rfl ⟨.i64, by kernel_rfl⟩ rfl (by omega) (by omega) (Nat.le_refl _) ?_
    intro A21 hA22 hA23
    obtain rfl := (hA22 rfl).symm
    refine ⟨⟨fr 46 [(1, (vP g1 0)), (9, (vI (dmk e10 (st.drop (st.length - ar e10 : Nat))))), (14, (vS (aS b8 off9) nds.length c)), (15, (vI (nds.length : Int))), (16, (vI (i : Int))), (36, (vS As st.length cs)), (37, (vI ((st.length - ar e10 : Nat) : Int))), (38, (vS As (st.length - ar e10 : Nat) cs))], [.o (.slice As st.length cs) st.length (st.flatMap encI) 3 1]⟩, by kernel_rfl, ?_⟩
    refine At.trunc (S' := ⟨fr 46 [(1, (vP g1 0)), (9, (vI (dmk e10 (st.drop (st.length - ar e10 : Nat))))), (14, (vS (aS b8 off9) nds.length c)), (15, (vI (nds.length : Int))), (16, (vI (i : Int))), (36, (vS As st.length cs)), (37, (vI ((st.length - ar e10 : Nat) : Int))), (38, (vS As (st.length - ar e10 : Nat) cs))], [.o (.slice As (st.length - ar e10 : Nat) cs) (st.length - ar e10 : Nat) ((st.flatMap encI).take ((st.length - ar e10 : Nat) * 1)) 3 1]⟩) 0 (st.length - ar e10 : Nat) (A := As) (n := st.length) (cap := cs) (xs := (st.flatMap encI)) (e := 3) (sz := 1) (by kernel_rfl) (by omega) (by kernel_rfl) ?_
    refine At.cast (S' := ⟨fr 46 [(1, (vP g1 0)), (9, (vI (dmk e10 (st.drop (st.length - ar e10 : Nat))))), (14, (vS (aS b8 off9) nds.length c)), (15, (vI (nds.length : Int))), (16, (vI (i : Int))), (36, (vS As st.length cs)), (37, (vI ((st.length - ar e10 : Nat) : Int))), (38, (vS As (st.length - ar e10 : Nat) cs))], [.o (.slice As (st.length - ar e10 : Nat) cs) (st.length - ar e10 : Nat) ((st.take (st.length - ar e10 : Nat)).flatMap encI) 3 1]⟩) (by rw [flat_take (enc := encI) (sz := 1) (fun _ => rfl)]) ?_
    refine At.runk 2 [9, 36, 37, 39] [] ⟨fr 46 [(1, (vP g1 0)), (14, (vS (aS b8 off9) nds.length c)), (15, (vI (nds.length : Int))), (16, (vI (i : Int))), (38, (vS As (st.length - ar e10 : Nat) cs)), (40, .s 1 0 1 1)], [.o (.slice As (st.length - ar e10 : Nat) cs) (st.length - ar e10 : Nat) ((st.take (st.length - ar e10 : Nat)).flatMap encI) 3 1, .c [(vI (dmk e10 (st.drop (st.length - ar e10 : Nat))))] 3]⟩ (by kernel_rfl) ?_
    refine At.append rfl (by kernel_rfl) (e := 3) (inf := Try.t3) (sz := 1) (by kernel_rfl) (by kernel_rfl) rfl rfl rfl (Nat.zero_lt_succ _) 0 (V := .slice As (st.length - ar e10 : Nat) cs) (n := (st.length - ar e10 : Nat)) (xs := ((st.take (st.length - ar e10 : Nat)).flatMap encI)) (by kernel_rfl) (by kernel_rfl) 1 [.int .i64 (dmk e10 (st.drop (st.length - ar e10 : Nat)))] (Src.cells (i := 1) (off := 0) (m := 1) (c := 1) (cs := [(vI (dmk e10 (st.drop (st.length - ar e10 : Nat))))]) (e := 3) (by kernel_rfl) (by kernel_rfl) (src_lits _ _ (by kernel_rfl))) (rfl) (one_lits _ (by kernel_rfl)) (by unfold maxLen; omega) (by show ((st.length - ar e10 : Nat) + 1) * 8 ≤ _; omega) ?_
    intro A24 c25 h26 h27 h28
    refine ⟨⟨fr 46 [(1, (vP g1 0)), (14, (vS (aS b8 off9) nds.length c)), (15, (vI (nds.length : Int))), (16, (vI (i : Int))), (38, (vS As (st.length - ar e10 : Nat) cs)), (40, .s 1 0 1 1), (41, (vS A24 ((st.length - ar e10 : Nat) + 1) c25))], [.o (.slice A24 ((st.length - ar e10 : Nat) + 1) c25) ((st.length - ar e10 : Nat) + 1) (((st.take (st.length - ar e10 : Nat)).flatMap encI) ++ [.int .i64 (dmk e10 (st.drop (st.length - ar e10 : Nat)))]) 3 1, .c [(vI (dmk e10 (st.drop (st.length - ar e10 : Nat))))] 3]⟩, by kernel_rfl, ?_⟩
    have hst1 : (st.take (st.length - ar e10 : Nat) ++ [dmk e10 (st.drop (st.length - ar e10 : Nat))]).length = (st.length - ar e10 : Nat) + 1 := by simp only [List.length_append, List.length_take, List.length_cons, List.length_nil]; omega
    have hst2 : (st.take (st.length - ar e10 : Nat) ++ [dmk e10 (st.drop (st.length - ar e10 : Nat))]).flatMap encI = (((st.take (st.length - ar e10 : Nat)).flatMap encI) ++ [.int .i64 (dmk e10 (st.drop (st.length - ar e10 : Nat)))]) := by rw [List.flatMap_append]; rfl
    refine At.cast (S' := ⟨fr 46 [(1, (vP g1 0)), (14, (vS (aS b8 off9) nds.length c)), (15, (vI (nds.length : Int))), (16, (vI (i : Int))), (38, (vS As (st.length - ar e10 : Nat) cs)), (40, .s 1 0 1 1), (41, (vS A24 ((st.take (st.length - ar e10 : Nat) ++ [dmk e10 (st.drop (st.length - ar e10 : Nat))]).length) c25))], [.o (.slice A24 ((st.take (st.length - ar e10 : Nat) ++ [dmk e10 (st.drop (st.length - ar e10 : Nat))]).length) c25) ((st.take (st.length - ar e10 : Nat) ++ [dmk e10 (st.drop (st.length - ar e10 : Nat))]).length) ((st.take (st.length - ar e10 : Nat) ++ [dmk e10 (st.drop (st.length - ar e10 : Nat))]).flatMap encI) 3 1, .c [(vI (dmk e10 (st.drop (st.length - ar e10 : Nat))))] 3]⟩) (by rw [hst1, hst2]) ?_
    refine At.runk 1 [38, 40, 41] [1] ⟨fr 46 [(1, (vP g1 0)), (3, (vS A24 ((st.take (st.length - ar e10 : Nat) ++ [dmk e10 (st.drop (st.length - ar e10 : Nat))]).length) c25)), (14, (vS (aS b8 off9) nds.length c)), (15, (vI (nds.length : Int))), (16, (vI (i : Int)))], [.o (.slice A24 ((st.take (st.length - ar e10 : Nat) ++ [dmk e10 (st.drop (st.length - ar e10 : Nat))]).length) c25) ((st.take (st.length - ar e10 : Nat) ++ [dmk e10 (st.drop (st.length - ar e10 : Nat))]).length) ((st.take (st.length - ar e10 : Nat) ++ [dmk e10 (st.drop (st.length - ar e10 : Nat))]).flatMap encI) 3 1, .dead]⟩ (by kernel_rfl) ?_
    refine At.nil ?_
    refine At.in_normal ?_
    refine At.then_normal ?_
    refine At.region ?_
    refine At.runk 1 [16] [] ⟨fr 46 [(1, (vP g1 0)), (3, (vS A24 ((st.take (st.length - ar e10 : Nat) ++ [dmk e10 (st.drop (st.length - ar e10 : Nat))]).length) c25)), (14, (vS (aS b8 off9) nds.length c)), (15, (vI (nds.length : Int))), (42, (vI (IntKind.i64.wrap ((i : Int) + 1))))], [.o (.slice A24 ((st.take (st.length - ar e10 : Nat) ++ [dmk e10 (st.drop (st.length - ar e10 : Nat))]).length) c25) ((st.take (st.length - ar e10 : Nat) ++ [dmk e10 (st.drop (st.length - ar e10 : Nat))]).length) ((st.take (st.length - ar e10 : Nat) ++ [dmk e10 (st.drop (st.length - ar e10 : Nat))]).flatMap encI) 3 1, .dead]⟩ (by kernel_rfl) ?_
    refine At.cast (S' := ⟨fr 46 [(1, (vP g1 0)), (3, (vS A24 ((st.take (st.length - ar e10 : Nat) ++ [dmk e10 (st.drop (st.length - ar e10 : Nat))]).length) c25)), (14, (vS (aS b8 off9) nds.length c)), (15, (vI (nds.length : Int))), (42, (vI ((i : Int) + 1)))], [.o (.slice A24 ((st.take (st.length - ar e10 : Nat) ++ [dmk e10 (st.drop (st.length - ar e10 : Nat))]).length) c25) ((st.take (st.length - ar e10 : Nat) ++ [dmk e10 (st.drop (st.length - ar e10 : Nat))]).length) ((st.take (st.length - ar e10 : Nat) ++ [dmk e10 (st.drop (st.length - ar e10 : Nat))]).flatMap encI) 3 1, .dead]⟩) (by rw [wrapI (z := (i : Int) + 1) (by omega) (by omega)]) ?_
    refine At.runk 1 [42] [] ⟨fr 46 [(1, (vP g1 0)), (3, (vS A24 ((st.take (st.length - ar e10 : Nat) ++ [dmk e10 (st.drop (st.length - ar e10 : Nat))]).length) c25)), (14, (vS (aS b8 off9) nds.length c)), (15, (vI (nds.length : Int))), (16, (vI ((i : Int) + 1)))], [.o (.slice A24 ((st.take (st.length - ar e10 : Nat) ++ [dmk e10 (st.drop (st.length - ar e10 : Nat))]).length) c25) ((st.take (st.length - ar e10 : Nat) ++ [dmk e10 (st.drop (st.length - ar e10 : Nat))]).length) ((st.take (st.length - ar e10 : Nat) ++ [dmk e10 (st.drop (st.length - ar e10 : Nat))]).flatMap encI) 3 1, .dead]⟩ (by kernel_rfl) ?_
    refine At.nil ?_
    refine At.forget [] 1 [] ⟨fr 46 [(1, (vP g1 0)), (3, (vS A24 ((st.take (st.length - ar e10 : Nat) ++ [dmk e10 (st.drop (st.length - ar e10 : Nat))]).length) c25)), (14, (vS (aS b8 off9) nds.length c)), (15, (vI (nds.length : Int))), (16, (vI ((i : Int) + 1)))], [.o (.slice A24 ((st.take (st.length - ar e10 : Nat) ++ [dmk e10 (st.drop (st.length - ar e10 : Nat))]).length) c25) ((st.take (st.length - ar e10 : Nat) ++ [dmk e10 (st.drop (st.length - ar e10 : Nat))]).length) ((st.take (st.length - ar e10 : Nat) ++ [dmk e10 (st.drop (st.length - ar e10 : Nat))]).flatMap encI) 3 1]⟩ (by kernel_rfl) (by kernel_rfl) (bleT rfl) ?_
    refine At.round (i + 1, (st.take (st.length - ar e10 : Nat) ++ [dmk e10 (st.drop (st.length - ar e10 : Nat))]), A24, c25) (by kernel_rfl) (hle13.trans hle16) ⟨by omega, by rw [hst1]; omega, by rw [hst1]; exact e10c, by rw [← foldS_step he11]; exact hF.2.2.2.1, dmk_inv hF.2.2.2.2.1, by rw [hst1]; exact h26⟩ (by omega)
  have hb7p : ¬ ((i : Int) < (nds.length : Int)) := of_decide_eq_false hb7
  refine At.cast (S' := ⟨fr 46 [(1, (vP g1 0)), (3, (vS As st.length cs)), (14, (vS A nds.length c)), (15, (vI (nds.length : Int))), (16, (vI (i : Int))), (17, (vB false))], [.o (.slice As st.length cs) st.length (st.flatMap encI) 3 1]⟩) (by rw [hb7] <;> rfl) ?_
  refine At.cond_f (by kernel_rfl) ?_
  refine At.exit_ ?_
  refine At.then_exit ?_
  refine At.then_exit ?_
  refine At.in_here ?_
  refine At.then_normal ?_
  refine At.seq ?_
  have hst1 : st.length = 1 := chk_none_end (by omega) hF.2.2.1
  refine At.region ?_
  refine At.runk 1 [1, 3, 14, 15, 16, 17] [] ⟨fr 46 [(43, (vS As st.length cs))], [.o (.slice As st.length cs) st.length (st.flatMap encI) 3 1]⟩ (by kernel_rfl) ?_
  refine At.row_some 0 (A := As) (n := st.length) (c := cs) (xs := (st.flatMap encI)) (e := 3) (sz := 1) (by kernel_rfl) (by omega) ?_
  intro g29 hg30
  subst hg30
  refine At.idx (S' := ⟨fr 46 [(43, (vS (aS g29 0) st.length cs)), (44, (vP g29 0))], [.o (.slice (aS g29 0) st.length cs) st.length (st.flatMap encI) 3 1]⟩) rfl (by kernel_rfl) (sz := 1) (e := 3) (by kernel_rfl) (by kernel_rfl) (by kernel_rfl) (b := g29) (off := 0) (n := st.length) (cap := cs) (kd := .i64) (i := 0) (by kernel_rfl) (by omega) (by omega) (by kernel_rfl) ?_
  obtain ⟨e31, he32⟩ := get_some (l := st) (i := 0) (by omega)
  refine At.ldrow (S' := ⟨fr 46 [(43, (vS (aS g29 0) st.length cs)), (44, (vP g29 0)), (45, (vI e31))], [.o (.slice (aS g29 0) st.length cs) st.length (st.flatMap encI) 3 1]⟩) rfl (by kernel_rfl) (g := g29) (off := 0) (by kernel_rfl) 0 (n := st.length) (cap := cs) (xs := (st.flatMap encI)) (e := 3) (sz := 1) (by kernel_rfl) (encI e31) ((vI e31)) (by kernel_rfl) (fun j u hj => by have hq := flat_get (enc := encI) (sz := 1) (fun _ => rfl) _ 0 e31 j u he32 hj; simpa using hq) (by kernel_rfl) ?_
  refine At.runk 1 [43, 44, 45] [0] ⟨fr 46 [(2, (vI e31))], [.dead]⟩ (by kernel_rfl) ?_
  refine At.nil ?_
  refine At.then_normal ?_
  refine At.ret_ ?_
  refine At.forget [] 0 [] ⟨fr 46 [(2, (vI e31))], []⟩ (by kernel_rfl) (by kernel_rfl) (bleT rfl) ?_
  refine At.leaveR rfl e31 (by kernel_rfl) (by kernel_rfl) (by kernel_rfl) ?_
  rw [foldR, ← hF.2.2.2.1, foldS_end (by omega)]
  exact (headD_get he32).symm

theorem fold_int_no (Φ : Phi) (g0 g1 : Nat) (nds : List Nd) (A : Option Addr) (c : Nat) (hR : NdsAt Φ A nds) (hl : nds.length ≤ 1000000) (ndsw : ∀ n ∈ nds, n.wf) (i : Nat) (hno : chk nds 0 0 = some i) (hB0 : RdC Φ (aS g0 0) [.slice A nds.length c])  : CallP Try.prog 75 [(vP g0 0), (vP g1 0)] [] Φ [{ v := .iface 33 (.int .i64 140), recovered := false }] := by
  refine CallG.enterk Try.func75 rfl [2, 3, 4, 5, 6, 7, 8, 9, 10, 11, 12, 13, 14, 15, 16, 17, 18, 19, 20, 21, 22, 23, 24, 25, 26, 27, 28, 29, 30, 31, 32, 33, 34, 35, 36, 37, 38, 39, 40, 41, 42, 43, 44, 45] ⟨fr 46 [(0, (vP g0 0)), (1, (vP g1 0))], []⟩ (by kernel_rfl) (by kernel_rfl) ?_
  intro E G β0
  refine At.seq ?_
  refine At.region ?_
  refine At.runk 1 [2] [] ⟨fr 46 [(0, (vP g0 0)), (1, (vP g1 0))], []⟩ (by kernel_rfl) ?_
  refine At.nil ?_
  refine At.then_normal ?_
  refine At.seq ?_
  refine At.region ?_
  refine At.runk 1 [] [] ⟨fr 46 [(0, (vP g0 0)), (1, (vP g1 0)), (3, (vS none 0 0))], []⟩ (by kernel_rfl) ?_
  refine At.nil ?_
  refine At.then_normal ?_
  refine At.seq ?_
  refine At.seq ?_
  refine At.region ?_
  refine At.vals (S' := ⟨fr 46 [(0, (vP g0 0)), (1, (vP g1 0)), (3, (vS none 0 0)), (10, (vS A nds.length c))], []⟩) (by kernel_rfl) ((vS A nds.length c)) (by kernel_rfl) (Val.ldB rfl hB0 (Nat.zero_lt_succ _) 0 0 (by omega) (by kernel_rfl) ((vS A nds.length c)) (by kernel_rfl)) ?_
  refine At.callP rfl (by kernel_rfl) 43 [] [] (by kernel_rfl) Try.func43 (by kernel_rfl) (by kernel_rfl) [(vS A nds.length c)] (by kernel_rfl) (by kernel_rfl) (of_no Φ nds A c hR hl ndsw i hno) ?_
  intro Φ1 hle2
  have hR := hR.mono hle2
  have hB0 := hB0.mono hle2
  refine ⟨⟨fr 46 [(0, (vP g0 0)), (1, (vP g1 0)), (3, (vS none 0 0)), (10, (vS A nds.length c))], []⟩, by kernel_rfl, by kernel_rfl, ?_⟩
  refine At.then_panic ?_
  refine At.then_panic ?_
  refine At.forget [0, 1, 3, 10] 0 [] ⟨fr 46 [], []⟩ (by kernel_rfl) (by kernel_rfl) (bleT rfl) ?_
  exact At.leaveP rfl (by kernel_rfl)

theorem folded_int_ok (Φ : Phi) (nds : List Nd) (A : Option Addr) (c : Nat) (hR : NdsAt Φ A nds) (hl : nds.length ≤ 1000000) (ndsw : ∀ n ∈ nds, n.wf) (hok : chk nds 0 0 = none)  : CallR Try.prog 49 [(vS A nds.length c), (vF 50)] [] Φ Unit (fun _ => .tup [(vI (foldR dmk nds)), (vI 0)]) (fun _ => []) (fun _ _ => True) := by
  refine CallG.enterk Try.func49 rfl [2, 3, 4, 5, 6, 7, 8, 9] ⟨fr 10 [(0, (vS A nds.length c)), (1, (vF 50))], []⟩ (by kernel_rfl) (by kernel_rfl) ?_
  intro E G β0
  refine At.seq ?_
  refine At.region ?_
  refine At.runk 4 [0, 1, 4, 5] [] ⟨fr 10 [(2, .p 0 0), (3, .p 1 0)], [.c [(vS A nds.length c)] 30, .c [(vF 50)] 83]⟩ (by kernel_rfl) ?_
  refine At.nil ?_
  refine At.then_normal ?_
  refine At.seq ?_
  refine At.freezeC 0 [.slice A nds.length c] rfl rfl (bleT rfl) (bleT rfl) (fun _ => by kernel_rfl) (fun _ => by kernel_rfl) ?_
  intro g2 Φ3 hle4 hB1
  have hR := hR.mono hle4
  refine ⟨⟨fr 10 [(2, (vP g2 0)), (3, .p 1 0)], [.dead, .c [(vF 50)] 83]⟩, by kernel_rfl, ?_⟩
  refine At.freezeC 1 [.func (.func 50) #[] #[]] rfl rfl (bleT rfl) (bleT rfl) (fun _ => by kernel_rfl) (fun _ => by kernel_rfl) ?_
  intro g6 Φ7 hle8 hB5
  have hR := hR.mono hle8
  have hB1 := hB1.mono hle8
  refine ⟨⟨fr 10 [(2, (vP g2 0)), (3, (vP g6 0))], [.dead, .dead]⟩, by kernel_rfl, ?_⟩
  refine At.region ?_
  refine At.runk 1 [2, 3] [] ⟨fr 10 [(6, .fn (.func 75) [(vP g2 0), (vP g6 0)])], [.dead, .dead]⟩ (by kernel_rfl) ?_
  refine At.reval 6 (.fn (.func 75) [(vP g2 0), (vP g6 0)]) (.v (.func (.func 75) #[] #[.pointer (aS g2 0), .pointer (aS g6 0)])) (by kernel_rfl) (by kernel_rfl) (fun _ => by kernel_rfl) ⟨fr 10 [(6, .v (.func (.func 75) #[] #[.pointer (aS g2 0), .pointer (aS g6 0)]))], [.dead, .dead]⟩ (by kernel_rfl) (by kernel_rfl) ?_
  refine At.callV rfl (by kernel_rfl) 66 [] [] (by kernel_rfl) Try.func66 (by kernel_rfl) (by kernel_rfl) [.v (.func (.func 75) #[] #[.pointer (aS g2 0), .pointer (aS g6 0)])] (by kernel_rfl) (by kernel_rfl) (tries_int Φ7 75 #[.pointer (aS g2 0), .pointer (aS g6 0)] Try.f75 Try.func75 rfl rfl Int (fun t => t) (fun t _ => t = foldR dmk nds) (fun _ _ _ _ h => h) (fold_int_c Φ7 g2 g6 nds A c hR hl ndsw hok hB1 hB5)) ?_
  rintro Φ9 _ hle10 rfl
  have hR := hR.mono hle10
  have hB1 := hB1.mono hle10
  have hB5 := hB5.mono hle10
  refine ⟨⟨fr 10 [(6, .v (.func (.func 75) #[] #[.pointer (aS g2 0), .pointer (aS g6 0)])), (7, .tup [(vI (foldR dmk nds)), (vI 0)])], [.dead, .dead]⟩, by kernel_rfl, by kernel_rfl, ?_⟩
  refine At.runk 4 [6, 7, 8, 9] [] ⟨fr 10 [(4, (vI (foldR dmk nds))), (5, (vI 0))], [.dead, .dead]⟩ (by kernel_rfl) ?_
  refine At.nil ?_
  refine At.then_normal ?_
  refine At.ret_ ?_
  refine At.forget [] 0 [] ⟨fr 10 [(4, (vI (foldR dmk nds))), (5, (vI 0))], []⟩ (by kernel_rfl) (by kernel_rfl) (bleT rfl) ?_
  refine At.leaveR rfl () (by kernel_rfl) (by kernel_rfl) (by kernel_rfl) ?_
  trivial

theorem folded_int_no (Φ : Phi) (nds : List Nd) (A : Option Addr) (c : Nat) (hR : NdsAt Φ A nds) (hl : nds.length ≤ 1000000) (ndsw : ∀ n ∈ nds, n.wf) (i : Nat) (hno : chk nds 0 0 = some i)  : CallR Try.prog 49 [(vS A nds.length c), (vF 50)] [] Φ Unit (fun _ => .tup [(vI 0), (vI 140)]) (fun _ => []) (fun _ _ => True) := by
  refine CallG.enterk Try.func49 rfl [2, 3, 4, 5, 6, 7, 8, 9] ⟨fr 10 [(0, (vS A nds.length c)), (1, (vF 50))], []⟩ (by kernel_rfl) (by kernel_rfl) ?_
  intro E G β0
  refine At.seq ?_
  refine At.region ?_
  refine At.runk 4 [0, 1, 4, 5] [] ⟨fr 10 [(2, .p 0 0), (3, .p 1 0)], [.c [(vS A nds.length c)] 30, .c [(vF 50)] 83]⟩ (by kernel_rfl) ?_
  refine At.nil ?_
  refine At.then_normal ?_
  refine At.seq ?_
  refine At.freezeC 0 [.slice A nds.length c] rfl rfl (bleT rfl) (bleT rfl) (fun _ => by kernel_rfl) (fun _ => by kernel_rfl) ?_
  intro g2 Φ3 hle4 hB1
  have hR := hR.mono hle4
  refine ⟨⟨fr 10 [(2, (vP g2 0)), (3, .p 1 0)], [.dead, .c [(vF 50)] 83]⟩, by kernel_rfl, ?_⟩
  refine At.freezeC 1 [.func (.func 50) #[] #[]] rfl rfl (bleT rfl) (bleT rfl) (fun _ => by kernel_rfl) (fun _ => by kernel_rfl) ?_
  intro g6 Φ7 hle8 hB5
  have hR := hR.mono hle8
  have hB1 := hB1.mono hle8
  refine ⟨⟨fr 10 [(2, (vP g2 0)), (3, (vP g6 0))], [.dead, .dead]⟩, by kernel_rfl, ?_⟩
  refine At.region ?_
  refine At.runk 1 [2, 3] [] ⟨fr 10 [(6, .fn (.func 75) [(vP g2 0), (vP g6 0)])], [.dead, .dead]⟩ (by kernel_rfl) ?_
  refine At.reval 6 (.fn (.func 75) [(vP g2 0), (vP g6 0)]) (.v (.func (.func 75) #[] #[.pointer (aS g2 0), .pointer (aS g6 0)])) (by kernel_rfl) (by kernel_rfl) (fun _ => by kernel_rfl) ⟨fr 10 [(6, .v (.func (.func 75) #[] #[.pointer (aS g2 0), .pointer (aS g6 0)]))], [.dead, .dead]⟩ (by kernel_rfl) (by kernel_rfl) ?_
  refine At.callV rfl (by kernel_rfl) 66 [] [] (by kernel_rfl) Try.func66 (by kernel_rfl) (by kernel_rfl) [.v (.func (.func 75) #[] #[.pointer (aS g2 0), .pointer (aS g6 0)])] (by kernel_rfl) (by kernel_rfl) (tries_int_no Φ7 75 #[.pointer (aS g2 0), .pointer (aS g6 0)] Try.f75 Try.func75 rfl rfl 140 (fold_int_no Φ7 g2 g6 nds A c hR hl ndsw i hno hB1)) ?_
  rintro Φ9 ⟨⟩ hle10 -
  have hR := hR.mono hle10
  have hB1 := hB1.mono hle10
  have hB5 := hB5.mono hle10
  refine ⟨⟨fr 10 [(6, .v (.func (.func 75) #[] #[.pointer (aS g2 0), .pointer (aS g6 0)])), (7, .tup [(vI 0), (vI 140)])], [.dead, .dead]⟩, by kernel_rfl, by kernel_rfl, ?_⟩
  refine At.runk 4 [6, 7, 8, 9] [] ⟨fr 10 [(4, (vI 0)), (5, (vI 140))], [.dead, .dead]⟩ (by kernel_rfl) ?_
  refine At.nil ?_
  refine At.then_normal ?_
  refine At.ret_ ?_
  refine At.forget [] 0 [] ⟨fr 10 [(4, (vI 0)), (5, (vI 140))], []⟩ (by kernel_rfl) (by kernel_rfl) (bleT rfl) ?_
  refine At.leaveR rfl () (by kernel_rfl) (by kernel_rfl) (by kernel_rfl) ?_
  trivial

theorem depth_c (Φ : Phi) (nds : List Nd) (A : Option Addr) (c : Nat) (hR : NdsAt Φ A nds) (hl : nds.length ≤ 1000000) (ndsw : ∀ n ∈ nds, n.wf)  : CallR Try.prog 18 [(vS A nds.length c)] [] Φ (Int × Int) (fun t => .tup [(vI t.1), (vI t.2)]) (fun _ => []) (fun t _ => t = treeR 0 (foldR dmk nds) nds) := by
  refine CallG.enterk Try.func18 rfl [1, 2, 3, 4, 5, 6, 7] ⟨fr 8 [(0, (vS A nds.length c))], []⟩ (by kernel_rfl) (by kernel_rfl) ?_
  intro E G β0
  refine At.seq ?_
  refine At.region ?_
  refine At.runk 2 [2, 3] [] ⟨fr 8 [(0, (vS A nds.length c))], []⟩ (by kernel_rfl) ?_
  refine At.nil ?_
  refine At.then_normal ?_
  refine At.seq ?_
  refine At.region ?_
  refine At.runk 1 [0] [] ⟨fr 8 [(4, (vS A nds.length c))], []⟩ (by kernel_rfl) ?_
  by_cases hc1 : chk nds 0 0 = none
  · refine At.callV rfl (by kernel_rfl) 49 [] [] (by kernel_rfl) Try.func49 (by kernel_rfl) (by kernel_rfl) [(vS A nds.length c), (vF 50)] (by kernel_rfl) (by kernel_rfl) (folded_int_ok Φ nds A c hR hl ndsw hc1) ?_
    rintro Φ2 ⟨⟩ hle3 -
    have hR := hR.mono hle3
    refine ⟨⟨fr 8 [(4, (vS A nds.length c)), (5, .tup [(vI (foldR dmk nds)), (vI 0)])], []⟩, by kernel_rfl, by kernel_rfl, ?_⟩
    refine At.runk 4 [4, 5, 6, 7] [] ⟨fr 8 [(2, (vI (foldR dmk nds))), (3, (vI 0))], []⟩ (by kernel_rfl) ?_
    refine At.nil ?_
    refine At.then_normal ?_
    refine At.ret_ ?_
    refine At.leaveR rfl ((foldR dmk nds), 0) (by kernel_rfl) (by kernel_rfl) (by kernel_rfl) ?_
    first | (rw [treeR_ok (by assumption)]; done) | (rw [treeR_no (by assumption)]; done)
  obtain ⟨ihc1, hc1s⟩ := Option.ne_none_iff_exists.1 hc1
  refine At.callV rfl (by kernel_rfl) 49 [] [] (by kernel_rfl) Try.func49 (by kernel_rfl) (by kernel_rfl) [(vS A nds.length c), (vF 50)] (by kernel_rfl) (by kernel_rfl) (folded_int_no Φ nds A c hR hl ndsw ihc1 hc1s.symm) ?_
  rintro Φ4 ⟨⟩ hle5 -
  have hR := hR.mono hle5
  refine ⟨⟨fr 8 [(4, (vS A nds.length c)), (5, .tup [(vI 0), (vI 140)])], []⟩, by kernel_rfl, by kernel_rfl, ?_⟩
  refine At.runk 4 [4, 5, 6, 7] [] ⟨fr 8 [(2, (vI 0)), (3, (vI 140))], []⟩ (by kernel_rfl) ?_
  refine At.nil ?_
  refine At.then_normal ?_
  refine At.ret_ ?_
  refine At.leaveR rfl (0, 140) (by kernel_rfl) (by kernel_rfl) (by kernel_rfl) ?_
  first | (rw [treeR_ok (by assumption)]; done) | (rw [treeR_no (by assumption)]; done)

end Go.Sx
