/- RxT: printed by wip/gen/lib04.py. Walks over functions of the program. -/
import Derived.Test.YtgkjblbmiooedaaRxS
namespace Go.Sx
open Go.Proofs Go.RowKit
def aN : Nd := ⟨3, 0, 8589934592, 0, 0, 0, 0⟩
def kN (k : Int) : Nd := ⟨k, 0, 0, 0, 0, 0, 0⟩
theorem aN_wf : aN.wf := ⟨by decide, by decide, ⟨by decide, by decide⟩, ⟨by decide, by decide⟩, ⟨by decide, by decide⟩, ⟨by decide, by decide⟩⟩
theorem u64ok0 : u64ok 0 := ⟨by decide, by decide⟩
theorem kN_wf {k : Int} (h1 : -9223372036854775808 ≤ k) (h2 : k ≤ 9223372036854775807) : (kN k).wf := ⟨h1, h2, u64ok0, u64ok0, u64ok0, u64ok0⟩
theorem wf_all {l : List Nd} (h : l.all (fun n => decide (-9223372036854775808 ≤ n.kind ∧ n.kind ≤ 9223372036854775807 ∧ 0 ≤ n.s0 ∧ n.s0 ≤ 18446744073709551615 ∧ 0 ≤ n.s1 ∧ n.s1 ≤ 18446744073709551615 ∧ 0 ≤ n.s2 ∧ n.s2 ≤ 18446744073709551615 ∧ 0 ≤ n.s3 ∧ n.s3 ≤ 18446744073709551615)) = true) : ∀ n ∈ l, n.wf := by
  intro n hn
  have := List.all_eq_true.1 h n hn
  rw [decide_eq_true_eq] at this
  obtain ⟨a, b, c, d, e, f, g, h, i, j⟩ := this
  exact ⟨a, b, ⟨c, d⟩, ⟨e, f⟩, ⟨g, h⟩, ⟨i, j⟩⟩

theorem a_own (Φ : Phi)  : CallR Try.prog 39 [] [] Φ Nat (fun t => (vS (aS t 0) 1 1)) (fun t => [.o (.slice (aS t 0) 1 1) 1 aN.cells 26 7]) (fun _ _ => True) := by
  refine CallG.enterk Try.func39 rfl [0, 1, 2, 3] ⟨fr 4 [], []⟩ (by kernel_rfl) (by kernel_rfl) ?_
  intro E G β0
  refine At.seq ?_
  refine At.region ?_
  refine At.runk 1 [0] [] ⟨fr 4 [], []⟩ (by kernel_rfl) ?_
  refine At.nil ?_
  refine At.then_normal ?_
  refine At.seq ?_
  refine At.region ?_
  refine At.runk 4 [1, 2, 3] [] ⟨fr 4 [(0, .s 0 0 1 1)], [.c (nV 3 0 8589934592 0 0 0 0) 26]⟩ (by kernel_rfl) ?_
  refine At.toRow 0 1 [.int .i64 3, .int .u64 0, .int .u64 8589934592, .int .u64 0, .int .u64 0, .int .i64 0, .int .i64 0] 7 rfl rfl rfl (bleT rfl) ?_
  intro g1
  refine ⟨⟨fr 4 [(0, (vS (aS g1 0) 1 1))], [.o (.slice (aS g1 0) 1 1) 1 [.int .i64 3, .int .u64 0, .int .u64 8589934592, .int .u64 0, .int .u64 0, .int .i64 0, .int .i64 0] 26 7]⟩, by kernel_rfl, by kernel_rfl, ?_⟩
  refine At.nil ?_
  refine At.then_normal ?_
  refine At.ret_ ?_
  refine At.leaveR rfl g1 (by kernel_rfl) (by kernel_rfl) (by kernel_rfl) ?_
  trivial

theorem a_fr (Φ : Phi)  : CallR Try.prog 39 [] [] Φ Nat (fun t => (vS (aS t 0) 1 1)) (fun _ => []) (fun t Φ => NdsAt Φ (aS t 0) [aN]) := by
  refine CallG.enterk Try.func39 rfl [0, 1, 2, 3] ⟨fr 4 [], []⟩ (by kernel_rfl) (by kernel_rfl) ?_
  intro E G β0
  refine At.seq ?_
  refine At.region ?_
  refine At.runk 1 [0] [] ⟨fr 4 [], []⟩ (by kernel_rfl) ?_
  refine At.nil ?_
  refine At.then_normal ?_
  refine At.seq ?_
  refine At.region ?_
  refine At.runk 4 [1, 2, 3] [] ⟨fr 4 [(0, .s 0 0 1 1)], [.c (nV 3 0 8589934592 0 0 0 0) 26]⟩ (by kernel_rfl) ?_
  refine At.freezeC 0 [.int .i64 3, .int .u64 0, .int .u64 8589934592, .int .u64 0, .int .u64 0, .int .i64 0, .int .i64 0] rfl rfl (bleT rfl) (bleT rfl) (fun _ => by kernel_rfl) (fun _ => by kernel_rfl) ?_
  intro g1 Φ2 hle3 hBa
  refine ⟨⟨fr 4 [(0, (vS (aS g1 0) 1 1))], [.dead]⟩, by kernel_rfl, ?_⟩
  refine At.nil ?_
  refine At.then_normal ?_
  refine At.ret_ ?_
  refine At.forget [] 0 [] ⟨fr 4 [(0, (vS (aS g1 0) 1 1))], []⟩ (by kernel_rfl) (by kernel_rfl) (bleT rfl) ?_
  refine At.leaveR rfl g1 (by kernel_rfl) (by kernel_rfl) (by kernel_rfl) ?_
  exact hBa

theorem wakes_c (Φ : Phi)  : CallR Try.prog 9 [] [] Φ Unit (fun _ => (vB true)) (fun _ => []) (fun _ _ => True) := by
  refine CallG.enterk Try.func9 rfl [0, 1, 2, 3, 4, 5, 6, 7, 8, 9, 10, 11, 12, 13, 14, 15, 16, 17, 18, 19, 20, 21, 22, 23, 24, 25, 26, 27, 28, 29, 30, 31, 32, 33, 34, 35, 36, 37, 38, 39, 40, 41, 42, 43, 44, 45, 46, 47, 48, 49, 50, 51, 52, 53, 54, 55, 56, 57, 58, 59, 60, 61, 62, 63, 64, 65, 66, 67, 68, 69, 70, 71, 72, 73, 74, 75, 76, 77, 78, 79, 80, 81, 82, 83, 84, 85, 86, 87, 88, 89, 90, 91, 92, 93, 94, 95, 96, 97, 98, 99, 100, 101, 102, 103, 104, 105, 106, 107, 108, 109, 110, 111, 112, 113, 114, 115, 116, 117, 118, 119, 120, 121, 122, 123, 124, 125, 126, 127, 128, 129, 130, 131, 132, 133, 134, 135, 136, 137, 138, 139, 140, 141, 142, 143, 144, 145, 146, 147, 148] ⟨fr 149 [], []⟩ (by kernel_rfl) (by kernel_rfl) ?_
  intro E G β0
  refine At.seq ?_
  refine At.region ?_
  refine At.runk 1 [0] [] ⟨fr 149 [], []⟩ (by kernel_rfl) ?_
  refine At.nil ?_
  refine At.then_normal ?_
  refine At.seq ?_
  refine At.region ?_
  refine At.runk 1 [] [] ⟨fr 149 [(20, .agg (nV 4 0 0 0 0 0 0))], []⟩ (by kernel_rfl) ?_
  refine At.callV rfl (by kernel_rfl) 39 [] [] (by kernel_rfl) Try.func39 (by kernel_rfl) (by kernel_rfl) [] (by kernel_rfl) (by kernel_rfl) (a_fr Φ) ?_
  rintro Φ3 ga1 hle4 hA2
  refine ⟨⟨fr 149 [(20, .agg (nV 4 0 0 0 0 0 0)), (21, (vS (aS ga1 0) 1 1))], []⟩, by kernel_rfl, by kernel_rfl, ?_⟩
  refine At.callV rfl (by kernel_rfl) 39 [] [] (by kernel_rfl) Try.func39 (by kernel_rfl) (by kernel_rfl) [] (by kernel_rfl) (by kernel_rfl) (a_fr Φ3) ?_
  rintro Φ7 ga5 hle8 hA6
  have hA2 := hA2.mono hle8
  refine ⟨⟨fr 149 [(20, .agg (nV 4 0 0 0 0 0 0)), (21, (vS (aS ga1 0) 1 1)), (22, (vS (aS ga5 0) 1 1))], []⟩, by kernel_rfl, by kernel_rfl, ?_⟩
  refine At.runk 1 [21, 22] [] ⟨fr 149 [(20, .agg (nV 4 0 0 0 0 0 0)), (23, .s 0 0 2 2)], [.c [(vS (aS ga1 0) 1 1), (vS (aS ga5 0) 1 1)] 30]⟩ (by kernel_rfl) ?_
  refine At.freezeC 0 [.slice (aS ga1 0) 1 1, .slice (aS ga5 0) 1 1] rfl rfl (bleT rfl) (bleT rfl) (fun _ => by kernel_rfl) (fun _ => by kernel_rfl) ?_
  intro g9 Φ10 hle11 hP1
  have hA2 := hA2.mono hle11
  have hA6 := hA6.mono hle11
  refine ⟨⟨fr 149 [(20, .agg (nV 4 0 0 0 0 0 0)), (23, (vS (aS g9 0) 2 2))], [.dead]⟩, by kernel_rfl, ?_⟩
  refine At.callV rfl (by kernel_rfl) 12 [] [] (by kernel_rfl) Try.func12 (by kernel_rfl) (by kernel_rfl) [.agg (nV 4 0 0 0 0 0 0), (vS (aS g9 0) 2 2)] (by kernel_rfl) (by kernel_rfl) (join_ok Φ10 (kN 4) (kN_wf (by decide) (by decide)) [(⟨(aS ga1 0), [aN], 1⟩ : Pt), (⟨(aS ga5 0), [aN], 1⟩ : Pt)] (aS g9 0) 2 hP1 (by intro p hp; simp only [List.mem_cons, List.not_mem_nil, or_false] at hp; rcases hp with rfl | rfl <;> first | exact hA2 | exact hA6) (by intro p hp; simp only [List.mem_cons, List.not_mem_nil, or_false] at hp; rcases hp with rfl | rfl <;> exact Nat.le_of_ble_eq_true rfl) (by intro p hp; simp only [List.mem_cons, List.not_mem_nil, or_false] at hp; rcases hp with rfl | rfl <;> exact wf_all (by kernel_rfl)) (bleT rfl) (by intro p hp; simp only [List.mem_cons, List.not_mem_nil, or_false] at hp; rcases hp with rfl | rfl <;> rfl) (by decide) (by kernel_rfl)) ?_
  rintro Φ15 ⟨Aj12, cj13⟩ hle16 hcj14
  have hA2 := hA2.mono hle16
  have hA6 := hA6.mono hle16
  have hP1 := hP1.mono hle16
  replace hcj14 : 3 ≤ cj13 := hcj14
  refine ⟨⟨fr 149 [(20, .agg (nV 4 0 0 0 0 0 0)), (23, (vS (aS g9 0) 2 2)), (24, .tup [(vS Aj12 3 cj13), (vI 0)])], [.dead, .o (.slice Aj12 3 cj13) 3 [.int .i64 3, .int .u64 0, .int .u64 8589934592, .int .u64 0, .int .u64 0, .int .i64 0, .int .i64 0, .int .i64 3, .int .u64 0, .int .u64 8589934592, .int .u64 0, .int .u64 0, .int .i64 0, .int .i64 0, .int .i64 4, .int .u64 0, .int .u64 0, .int .u64 0, .int .u64 0, .int .i64 0, .int .i64 0] 26 7]⟩, by kernel_rfl, by kernel_rfl, ?_⟩
  refine At.runk 5 [19, 20, 23, 24, 25, 26] [] ⟨fr 149 [(1, (vS Aj12 3 cj13)), (2, (vI 0))], [.dead, .o (.slice Aj12 3 cj13) 3 [.int .i64 3, .int .u64 0, .int .u64 8589934592, .int .u64 0, .int .u64 0, .int .i64 0, .int .i64 0, .int .i64 3, .int .u64 0, .int .u64 8589934592, .int .u64 0, .int .u64 0, .int .i64 0, .int .i64 0, .int .i64 4, .int .u64 0, .int .u64 0, .int .u64 0, .int .u64 0, .int .i64 0, .int .i64 0] 26 7]⟩ (by kernel_rfl) ?_
  refine At.freeze (S' := ⟨fr 149 [(1, (vS Aj12 3 cj13)), (2, (vI 0))], [.dead, .dead]⟩) 1 (A := Aj12) (n := 3) (c := cj13) (xs := [.int .i64 3, .int .u64 0, .int .u64 8589934592, .int .u64 0, .int .u64 0, .int .i64 0, .int .i64 0, .int .i64 3, .int .u64 0, .int .u64 8589934592, .int .u64 0, .int .u64 0, .int .i64 0, .int .i64 0, .int .i64 4, .int .u64 0, .int .u64 0, .int .u64 0, .int .u64 0, .int .i64 0, .int .i64 0]) (e := 26) (sz := 7) (by kernel_rfl) (bleT rfl) (by kernel_rfl) ?_
  intro Φ17 hle18 hAA
  have hA2 := hA2.mono hle18
  have hA6 := hA6.mono hle18
  have hP1 := hP1.mono hle18
  refine At.nil ?_
  refine At.then_normal ?_
  refine At.seq ?_
  refine At.region ?_
  refine At.runk 3 [29] [] ⟨fr 149 [(1, (vS Aj12 3 cj13)), (2, (vI 0)), (28, .agg (nV 6 0 0 0 0 0 0)), (30, .s 2 0 1 1)], [.dead, .dead, .c [(vS Aj12 3 cj13)] 30]⟩ (by kernel_rfl) ?_
  refine At.freezeC 2 [.slice Aj12 3 cj13] rfl rfl (bleT rfl) (bleT rfl) (fun _ => by kernel_rfl) (fun _ => by kernel_rfl) ?_
  intro g19 Φ20 hle21 hP2
  have hA2 := hA2.mono hle21
  have hA6 := hA6.mono hle21
  have hP1 := hP1.mono hle21
  have hAA := hAA.mono hle21
  refine ⟨⟨fr 149 [(1, (vS Aj12 3 cj13)), (2, (vI 0)), (28, .agg (nV 6 0 0 0 0 0 0)), (30, (vS (aS g19 0) 1 1))], [.dead, .dead, .dead]⟩, by kernel_rfl, ?_⟩
  refine At.callV rfl (by kernel_rfl) 12 [] [] (by kernel_rfl) Try.func12 (by kernel_rfl) (by kernel_rfl) [.agg (nV 6 0 0 0 0 0 0), (vS (aS g19 0) 1 1)] (by kernel_rfl) (by kernel_rfl) (join_ok Φ20 (kN 6) (kN_wf (by decide) (by decide)) [(⟨Aj12, [aN, aN, kN 4], cj13⟩ : Pt)] (aS g19 0) 1 hP2 (by intro p hp; simp only [List.mem_cons, List.not_mem_nil, or_false] at hp; rcases hp with rfl <;> first | exact hAA) (by intro p hp; simp only [List.mem_cons, List.not_mem_nil, or_false] at hp; rcases hp with rfl <;> exact Nat.le_of_ble_eq_true rfl) (by intro p hp; simp only [List.mem_cons, List.not_mem_nil, or_false] at hp; rcases hp with rfl <;> exact wf_all (by kernel_rfl)) (bleT rfl) (by intro p hp; simp only [List.mem_cons, List.not_mem_nil, or_false] at hp; rcases hp with rfl <;> rfl) (by decide) (by kernel_rfl)) ?_
  rintro Φ25 ⟨Aj22, cj23⟩ hle26 hcj24
  have hA2 := hA2.mono hle26
  have hA6 := hA6.mono hle26
  have hP1 := hP1.mono hle26
  have hAA := hAA.mono hle26
  have hP2 := hP2.mono hle26
  replace hcj24 : 4 ≤ cj23 := hcj24
  refine ⟨⟨fr 149 [(1, (vS Aj12 3 cj13)), (2, (vI 0)), (28, .agg (nV 6 0 0 0 0 0 0)), (30, (vS (aS g19 0) 1 1)), (31, .tup [(vS Aj22 4 cj23), (vI 0)])], [.dead, .dead, .dead, .o (.slice Aj22 4 cj23) 4 [.int .i64 3, .int .u64 0, .int .u64 8589934592, .int .u64 0, .int .u64 0, .int .i64 0, .int .i64 0, .int .i64 3, .int .u64 0, .int .u64 8589934592, .int .u64 0, .int .u64 0, .int .i64 0, .int .i64 0, .int .i64 4, .int .u64 0, .int .u64 0, .int .u64 0, .int .u64 0, .int .i64 0, .int .i64 0, .int .i64 6, .int .u64 0, .int .u64 0, .int .u64 0, .int .u64 0, .int .i64 0, .int .i64 0] 26 7]⟩, by kernel_rfl, by kernel_rfl, ?_⟩
  refine At.runk 5 [27, 28, 30, 31, 32, 33] [] ⟨fr 149 [(1, (vS Aj12 3 cj13)), (2, (vI 0)), (3, (vS Aj22 4 cj23)), (4, (vI 0))], [.dead, .dead, .dead, .o (.slice Aj22 4 cj23) 4 [.int .i64 3, .int .u64 0, .int .u64 8589934592, .int .u64 0, .int .u64 0, .int .i64 0, .int .i64 0, .int .i64 3, .int .u64 0, .int .u64 8589934592, .int .u64 0, .int .u64 0, .int .i64 0, .int .i64 0, .int .i64 4, .int .u64 0, .int .u64 0, .int .u64 0, .int .u64 0, .int .i64 0, .int .i64 0, .int .i64 6, .int .u64 0, .int .u64 0, .int .u64 0, .int .u64 0, .int .i64 0, .int .i64 0] 26 7]⟩ (by kernel_rfl) ?_
  refine At.freeze (S' := ⟨fr 149 [(1, (vS Aj12 3 cj13)), (2, (vI 0)), (3, (vS Aj22 4 cj23)), (4, (vI 0))], [.dead, .dead, .dead, .dead]⟩) 3 (A := Aj22) (n := 4) (c := cj23) (xs := [.int .i64 3, .int .u64 0, .int .u64 8589934592, .int .u64 0, .int .u64 0, .int .i64 0, .int .i64 0, .int .i64 3, .int .u64 0, .int .u64 8589934592, .int .u64 0, .int .u64 0, .int .i64 0, .int .i64 0, .int .i64 4, .int .u64 0, .int .u64 0, .int .u64 0, .int .u64 0, .int .i64 0, .int .i64 0, .int .i64 6, .int .u64 0, .int .u64 0, .int .u64 0, .int .u64 0, .int .i64 0, .int .i64 0]) (e := 26) (sz := 7) (by kernel_rfl) (bleT rfl) (by kernel_rfl) ?_
  intro Φ27 hle28 hSS
  have hA2 := hA2.mono hle28
  have hA6 := hA6.mono hle28
  have hP1 := hP1.mono hle28
  have hAA := hAA.mono hle28
  have hP2 := hP2.mono hle28
  refine At.nil ?_
  refine At.then_normal ?_
  refine At.seq ?_
  refine At.region ?_
  refine At.runk 1 [] [] ⟨fr 149 [(1, (vS Aj12 3 cj13)), (2, (vI 0)), (3, (vS Aj22 4 cj23)), (4, (vI 0)), (35, (vS Aj22 4 cj23))], [.dead, .dead, .dead, .dead]⟩ (by kernel_rfl) ?_
  refine At.callV rfl (by kernel_rfl) 18 [] [] (by kernel_rfl) Try.func18 (by kernel_rfl) (by kernel_rfl) [(vS Aj22 4 cj23)] (by kernel_rfl) (by kernel_rfl) (depth_c Φ27 [aN, aN, kN 4, kN 6] Aj22 cj23 hSS (by decide) (wf_all (by kernel_rfl))) ?_
  rintro Φ29 td hle30 htd
  have hA2 := hA2.mono hle30
  have hA6 := hA6.mono hle30
  have hP1 := hP1.mono hle30
  have hAA := hAA.mono hle30
  have hP2 := hP2.mono hle30
  have hSS := hSS.mono hle30
  replace htd : td = (3, 0) := htd
  subst htd
  refine ⟨⟨fr 149 [(1, (vS Aj12 3 cj13)), (2, (vI 0)), (3, (vS Aj22 4 cj23)), (4, (vI 0)), (35, (vS Aj22 4 cj23)), (36, .tup [(vI 3), (vI 0)])], [.dead, .dead, .dead, .dead]⟩, by kernel_rfl, by kernel_rfl, ?_⟩
  refine At.runk 5 [34, 35, 36, 37, 38] [] ⟨fr 149 [(1, (vS Aj12 3 cj13)), (2, (vI 0)), (3, (vS Aj22 4 cj23)), (4, (vI 0)), (5, (vI 3)), (6, (vI 0))], [.dead, .dead, .dead, .dead]⟩ (by kernel_rfl) ?_
  refine At.nil ?_
  refine At.then_normal ?_
  refine At.seq ?_
  refine At.region ?_
  refine At.runk 1 [] [] ⟨fr 149 [(1, (vS Aj12 3 cj13)), (2, (vI 0)), (3, (vS Aj22 4 cj23)), (4, (vI 0)), (5, (vI 3)), (6, (vI 0)), (40, (vS Aj22 4 cj23))], [.dead, .dead, .dead, .dead]⟩ (by kernel_rfl) ?_
  refine At.callV rfl (by kernel_rfl) 19 [] [] (by kernel_rfl) Try.func19 (by kernel_rfl) (by kernel_rfl) [(vS Aj22 4 cj23)] (by kernel_rfl) (by kernel_rfl) (nullable_c Φ29 [aN, aN, kN 4, kN 6] Aj22 cj23 hSS (by decide) (wf_all (by kernel_rfl))) ?_
  rintro Φ31 tn hle32 htn
  have hA2 := hA2.mono hle32
  have hA6 := hA6.mono hle32
  have hP1 := hP1.mono hle32
  have hAA := hAA.mono hle32
  have hP2 := hP2.mono hle32
  have hSS := hSS.mono hle32
  replace htn : tn = (true, 0) := htn
  subst htn
  refine ⟨⟨fr 149 [(1, (vS Aj12 3 cj13)), (2, (vI 0)), (3, (vS Aj22 4 cj23)), (4, (vI 0)), (5, (vI 3)), (6, (vI 0)), (40, (vS Aj22 4 cj23)), (41, .tup [(vB true), (vI 0)])], [.dead, .dead, .dead, .dead]⟩, by kernel_rfl, by kernel_rfl, ?_⟩
  refine At.runk 5 [39, 40, 41, 42, 43] [] ⟨fr 149 [(1, (vS Aj12 3 cj13)), (2, (vI 0)), (3, (vS Aj22 4 cj23)), (4, (vI 0)), (5, (vI 3)), (6, (vI 0)), (7, (vB true)), (8, (vI 0))], [.dead, .dead, .dead, .dead]⟩ (by kernel_rfl) ?_
  refine At.nil ?_
  refine At.then_normal ?_
  refine At.seq ?_
  refine At.region ?_
  refine At.callV rfl (by kernel_rfl) 39 [] [] (by kernel_rfl) Try.func39 (by kernel_rfl) (by kernel_rfl) [] (by kernel_rfl) (by kernel_rfl) (a_own Φ31) ?_
  rintro Φ34 ga33 hle35 -
  have hA2 := hA2.mono hle35
  have hA6 := hA6.mono hle35
  have hP1 := hP1.mono hle35
  have hAA := hAA.mono hle35
  have hP2 := hP2.mono hle35
  have hSS := hSS.mono hle35
  refine ⟨⟨fr 149 [(1, (vS Aj12 3 cj13)), (2, (vI 0)), (3, (vS Aj22 4 cj23)), (4, (vI 0)), (5, (vI 3)), (6, (vI 0)), (7, (vB true)), (8, (vI 0)), (45, (vS (aS ga33 0) 1 1))], [.dead, .dead, .dead, .dead, .o (.slice (aS ga33 0) 1 1) 1 [.int .i64 3, .int .u64 0, .int .u64 8589934592, .int .u64 0, .int .u64 0, .int .i64 0, .int .i64 0] 26 7]⟩, by kernel_rfl, by kernel_rfl, ?_⟩
  refine At.callV rfl (by kernel_rfl) 39 [] [] (by kernel_rfl) Try.func39 (by kernel_rfl) (by kernel_rfl) [] (by kernel_rfl) (by kernel_rfl) (a_fr Φ34) ?_
  rintro Φ38 ga36 hle39 hA37
  have hA2 := hA2.mono hle39
  have hA6 := hA6.mono hle39
  have hP1 := hP1.mono hle39
  have hAA := hAA.mono hle39
  have hP2 := hP2.mono hle39
  have hSS := hSS.mono hle39
  refine ⟨⟨fr 149 [(1, (vS Aj12 3 cj13)), (2, (vI 0)), (3, (vS Aj22 4 cj23)), (4, (vI 0)), (5, (vI 3)), (6, (vI 0)), (7, (vB true)), (8, (vI 0)), (45, (vS (aS ga33 0) 1 1)), (46, (vS (aS ga36 0) 1 1))], [.dead, .dead, .dead, .dead, .o (.slice (aS ga33 0) 1 1) 1 [.int .i64 3, .int .u64 0, .int .u64 8589934592, .int .u64 0, .int .u64 0, .int .i64 0, .int .i64 0] 26 7]⟩, by kernel_rfl, by kernel_rfl, ?_⟩
  refine At.append rfl (by kernel_rfl) (e := 26) (inf := Try.t26) (sz := 7) (by kernel_rfl) (by kernel_rfl) rfl rfl rfl (Nat.zero_lt_succ _) 4 (V := .slice (aS ga33 0) 1 1) (n := 1) (xs := [.int .i64 3, .int .u64 0, .int .u64 8589934592, .int .u64 0, .int .u64 0, .int .i64 0, .int .i64 0]) (by kernel_rfl) (by kernel_rfl) 1 ([aN].flatMap Nd.cells) (Src.phi (A := (aS ga36 0)) (m := 1) (c := 1) (by kernel_rfl) hA37) (flat_len (enc := Nd.cells) (sz := 7) (fun _ => rfl) _) (nds_one _) (by unfold maxLen; omega) (by show (1 + 1) * 56 ≤ _; omega) ?_
  intro A40 c41 h42 h43 h44
  refine ⟨⟨fr 149 [(1, (vS Aj12 3 cj13)), (2, (vI 0)), (3, (vS Aj22 4 cj23)), (4, (vI 0)), (5, (vI 3)), (6, (vI 0)), (7, (vB true)), (8, (vI 0)), (45, (vS (aS ga33 0) 1 1)), (46, (vS (aS ga36 0) 1 1)), (47, (vS A40 2 c41))], [.dead, .dead, .dead, .dead, .o (.slice A40 2 c41) 2 ([.int .i64 3, .int .u64 0, .int .u64 8589934592, .int .u64 0, .int .u64 0, .int .i64 0, .int .i64 0] ++ ([aN].flatMap Nd.cells)) 26 7]⟩, by kernel_rfl, ?_⟩
  refine At.freeze (S' := ⟨fr 149 [(1, (vS Aj12 3 cj13)), (2, (vI 0)), (3, (vS Aj22 4 cj23)), (4, (vI 0)), (5, (vI 3)), (6, (vI 0)), (7, (vB true)), (8, (vI 0)), (45, (vS (aS ga33 0) 1 1)), (46, (vS (aS ga36 0) 1 1)), (47, (vS A40 2 c41))], [.dead, .dead, .dead, .dead, .dead]⟩) 4 (A := A40) (n := 2) (c := c41) (xs := ([.int .i64 3, .int .u64 0, .int .u64 8589934592, .int .u64 0, .int .u64 0, .int .i64 0, .int .i64 0] ++ ([aN].flatMap Nd.cells))) (e := 26) (sz := 7) (by kernel_rfl) (bleT rfl) (by kernel_rfl) ?_
  intro Φ45 hle46 h47
  have hA2 := hA2.mono hle46
  have hA6 := hA6.mono hle46
  have hP1 := hP1.mono hle46
  have hAA := hAA.mono hle46
  have hP2 := hP2.mono hle46
  have hSS := hSS.mono hle46
  have hA37 := hA37.mono hle46
  refine At.callV rfl (by kernel_rfl) 21 [] [] (by kernel_rfl) Try.func21 (by kernel_rfl) (by kernel_rfl) [(vS A40 2 c41)] (by kernel_rfl) (by kernel_rfl) (check_c Φ45 [aN, aN] A40 c41 h47 (by decide) (wf_all (by kernel_rfl))) ?_
  rintro Φ49 tc48 hle50 htc47
  have hA2 := hA2.mono hle50
  have hA6 := hA6.mono hle50
  have hP1 := hP1.mono hle50
  have hAA := hAA.mono hle50
  have hP2 := hP2.mono hle50
  have hSS := hSS.mono hle50
  have hA37 := hA37.mono hle50
  have h47 := h47.mono hle50
  replace htc47 : tc48 = (2, 140) := htc47
  subst htc47
  refine ⟨⟨fr 149 [(1, (vS Aj12 3 cj13)), (2, (vI 0)), (3, (vS Aj22 4 cj23)), (4, (vI 0)), (5, (vI 3)), (6, (vI 0)), (7, (vB true)), (8, (vI 0)), (45, (vS (aS ga33 0) 1 1)), (46, (vS (aS ga36 0) 1 1)), (47, (vS A40 2 c41)), (48, .tup [(vI 2), (vI 140)])], [.dead, .dead, .dead, .dead, .dead]⟩, by kernel_rfl, by kernel_rfl, ?_⟩
  refine At.runk 5 [44, 45, 46, 47, 48, 49, 50] [] ⟨fr 149 [(1, (vS Aj12 3 cj13)), (2, (vI 0)), (3, (vS Aj22 4 cj23)), (4, (vI 0)), (5, (vI 3)), (6, (vI 0)), (7, (vB true)), (8, (vI 0)), (9, (vI 2)), (10, (vI 140))], [.dead, .dead, .dead, .dead, .dead]⟩ (by kernel_rfl) ?_
  refine At.nil ?_
  refine At.then_normal ?_
  refine At.seq ?_
  refine At.region ?_
  refine At.callV rfl (by kernel_rfl) 39 [] [] (by kernel_rfl) Try.func39 (by kernel_rfl) (by kernel_rfl) [] (by kernel_rfl) (by kernel_rfl) (a_own Φ49) ?_
  rintro Φ52 ga51 hle53 -
  have hA2 := hA2.mono hle53
  have hA6 := hA6.mono hle53
  have hP1 := hP1.mono hle53
  have hAA := hAA.mono hle53
  have hP2 := hP2.mono hle53
  have hSS := hSS.mono hle53
  have hA37 := hA37.mono hle53
  have h47 := h47.mono hle53
  refine ⟨⟨fr 149 [(1, (vS Aj12 3 cj13)), (2, (vI 0)), (3, (vS Aj22 4 cj23)), (4, (vI 0)), (5, (vI 3)), (6, (vI 0)), (7, (vB true)), (8, (vI 0)), (9, (vI 2)), (10, (vI 140)), (52, (vS (aS ga51 0) 1 1))], [.dead, .dead, .dead, .dead, .dead, .o (.slice (aS ga51 0) 1 1) 1 [.int .i64 3, .int .u64 0, .int .u64 8589934592, .int .u64 0, .int .u64 0, .int .i64 0, .int .i64 0] 26 7]⟩, by kernel_rfl, by kernel_rfl, ?_⟩
  refine At.runk 2 [53] [] ⟨fr 149 [(1, (vS Aj12 3 cj13)), (2, (vI 0)), (3, (vS Aj22 4 cj23)), (4, (vI 0)), (5, (vI 3)), (6, (vI 0)), (7, (vB true)), (8, (vI 0)), (9, (vI 2)), (10, (vI 140)), (52, (vS (aS ga51 0) 1 1)), (54, .s 6 0 1 1)], [.dead, .dead, .dead, .dead, .dead, .o (.slice (aS ga51 0) 1 1) 1 [.int .i64 3, .int .u64 0, .int .u64 8589934592, .int .u64 0, .int .u64 0, .int .i64 0, .int .i64 0] 26 7, .c (nV 4 0 0 0 0 0 0) 26]⟩ (by kernel_rfl) ?_
  refine At.append rfl (by kernel_rfl) (e := 26) (inf := Try.t26) (sz := 7) (by kernel_rfl) (by kernel_rfl) rfl rfl rfl (Nat.zero_lt_succ _) 5 (V := .slice (aS ga51 0) 1 1) (n := 1) (xs := [.int .i64 3, .int .u64 0, .int .u64 8589934592, .int .u64 0, .int .u64 0, .int .i64 0, .int .i64 0]) (by kernel_rfl) (by kernel_rfl) 1 [.int .i64 4, .int .u64 0, .int .u64 0, .int .u64 0, .int .u64 0, .int .i64 0, .int .i64 0] (Src.cells (i := 6) (off := 0) (m := 1) (c := 1) (cs := (nV 4 0 0 0 0 0 0)) (e := 26) (by kernel_rfl) (by kernel_rfl) (src_lits _ _ (by kernel_rfl))) (rfl) (one_lits _ (by kernel_rfl)) (by unfold maxLen; omega) (by show (1 + 1) * 56 ≤ _; omega) ?_
  intro A54 c55 h56 h57 h58
  refine ⟨⟨fr 149 [(1, (vS Aj12 3 cj13)), (2, (vI 0)), (3, (vS Aj22 4 cj23)), (4, (vI 0)), (5, (vI 3)), (6, (vI 0)), (7, (vB true)), (8, (vI 0)), (9, (vI 2)), (10, (vI 140)), (52, (vS (aS ga51 0) 1 1)), (54, .s 6 0 1 1), (55, (vS A54 2 c55))], [.dead, .dead, .dead, .dead, .dead, .o (.slice A54 2 c55) 2 [.int .i64 3, .int .u64 0, .int .u64 8589934592, .int .u64 0, .int .u64 0, .int .i64 0, .int .i64 0, .int .i64 4, .int .u64 0, .int .u64 0, .int .u64 0, .int .u64 0, .int .i64 0, .int .i64 0] 26 7, .c (nV 4 0 0 0 0 0 0) 26]⟩, by kernel_rfl, ?_⟩
  refine At.freeze (S' := ⟨fr 149 [(1, (vS Aj12 3 cj13)), (2, (vI 0)), (3, (vS Aj22 4 cj23)), (4, (vI 0)), (5, (vI 3)), (6, (vI 0)), (7, (vB true)), (8, (vI 0)), (9, (vI 2)), (10, (vI 140)), (52, (vS (aS ga51 0) 1 1)), (54, .s 6 0 1 1), (55, (vS A54 2 c55))], [.dead, .dead, .dead, .dead, .dead, .dead, .c (nV 4 0 0 0 0 0 0) 26]⟩) 5 (A := A54) (n := 2) (c := c55) (xs := [.int .i64 3, .int .u64 0, .int .u64 8589934592, .int .u64 0, .int .u64 0, .int .i64 0, .int .i64 0, .int .i64 4, .int .u64 0, .int .u64 0, .int .u64 0, .int .u64 0, .int .i64 0, .int .i64 0]) (e := 26) (sz := 7) (by kernel_rfl) (bleT rfl) (by kernel_rfl) ?_
  intro Φ59 hle60 h55
  have hA2 := hA2.mono hle60
  have hA6 := hA6.mono hle60
  have hP1 := hP1.mono hle60
  have hAA := hAA.mono hle60
  have hP2 := hP2.mono hle60
  have hSS := hSS.mono hle60
  have hA37 := hA37.mono hle60
  have h47 := h47.mono hle60
  refine At.callV rfl (by kernel_rfl) 21 [] [] (by kernel_rfl) Try.func21 (by kernel_rfl) (by kernel_rfl) [(vS A54 2 c55)] (by kernel_rfl) (by kernel_rfl) (check_c Φ59 [aN, kN 4] A54 c55 h55 (by decide) (wf_all (by kernel_rfl))) ?_
  rintro Φ63 tc62 hle64 htc61
  have hA2 := hA2.mono hle64
  have hA6 := hA6.mono hle64
  have hP1 := hP1.mono hle64
  have hAA := hAA.mono hle64
  have hP2 := hP2.mono hle64
  have hSS := hSS.mono hle64
  have hA37 := hA37.mono hle64
  have h47 := h47.mono hle64
  have h55 := h55.mono hle64
  replace htc61 : tc62 = (1, 140) := htc61
  subst htc61
  refine ⟨⟨fr 149 [(1, (vS Aj12 3 cj13)), (2, (vI 0)), (3, (vS Aj22 4 cj23)), (4, (vI 0)), (5, (vI 3)), (6, (vI 0)), (7, (vB true)), (8, (vI 0)), (9, (vI 2)), (10, (vI 140)), (52, (vS (aS ga51 0) 1 1)), (54, .s 6 0 1 1), (55, (vS A54 2 c55)), (56, .tup [(vI 1), (vI 140)])], [.dead, .dead, .dead, .dead, .dead, .dead, .c (nV 4 0 0 0 0 0 0) 26]⟩, by kernel_rfl, by kernel_rfl, ?_⟩
  refine At.runk 5 [51, 52, 54, 55, 56, 57, 58] [6] ⟨fr 149 [(1, (vS Aj12 3 cj13)), (2, (vI 0)), (3, (vS Aj22 4 cj23)), (4, (vI 0)), (5, (vI 3)), (6, (vI 0)), (7, (vB true)), (8, (vI 0)), (9, (vI 2)), (10, (vI 140)), (11, (vI 1)), (12, (vI 140))], [.dead, .dead, .dead, .dead, .dead, .dead, .dead]⟩ (by kernel_rfl) ?_
  refine At.nil ?_
  refine At.then_normal ?_
  refine At.seq ?_
  refine At.region ?_
  refine At.runk 1 [] [] ⟨fr 149 [(1, (vS Aj12 3 cj13)), (2, (vI 0)), (3, (vS Aj22 4 cj23)), (4, (vI 0)), (5, (vI 3)), (6, (vI 0)), (7, (vB true)), (8, (vI 0)), (9, (vI 2)), (10, (vI 140)), (11, (vI 1)), (12, (vI 140)), (60, (vS Aj12 3 cj13))], [.dead, .dead, .dead, .dead, .dead, .dead, .dead]⟩ (by kernel_rfl) ?_
  refine At.callV rfl (by kernel_rfl) 23 [] [] (by kernel_rfl) Try.func23 (by kernel_rfl) (by kernel_rfl) [(vS Aj12 3 cj13), (vI 1)] (by kernel_rfl) (by kernel_rfl) (below_ok Φ63 [aN, aN, kN 4] Aj12 cj13 hAA (by decide) (wf_all (by kernel_rfl)) hcj14 1 (by decide) rfl) ?_
  rintro Φ65 ⟨Ab, cb⟩ hle66 hcb
  have hA2 := hA2.mono hle66
  have hA6 := hA6.mono hle66
  have hP1 := hP1.mono hle66
  have hAA := hAA.mono hle66
  have hP2 := hP2.mono hle66
  have hSS := hSS.mono hle66
  have hA37 := hA37.mono hle66
  have h47 := h47.mono hle66
  have h55 := h55.mono hle66
  refine ⟨⟨fr 149 [(1, (vS Aj12 3 cj13)), (2, (vI 0)), (3, (vS Aj22 4 cj23)), (4, (vI 0)), (5, (vI 3)), (6, (vI 0)), (7, (vB true)), (8, (vI 0)), (9, (vI 2)), (10, (vI 140)), (11, (vI 1)), (12, (vI 140)), (60, (vS Aj12 3 cj13)), (61, .tup [(vS Ab 1 cb), (vI 0)])], [.dead, .dead, .dead, .dead, .dead, .dead, .dead, .o (.slice Ab 1 cb) 1 [.int .i64 3, .int .u64 0, .int .u64 8589934592, .int .u64 0, .int .u64 0, .int .i64 0, .int .i64 0] 26 7]⟩, by kernel_rfl, by kernel_rfl, ?_⟩
  refine At.runk 5 [59, 60, 61, 62, 63] [] ⟨fr 149 [(1, (vS Aj12 3 cj13)), (2, (vI 0)), (3, (vS Aj22 4 cj23)), (4, (vI 0)), (5, (vI 3)), (6, (vI 0)), (7, (vB true)), (8, (vI 0)), (9, (vI 2)), (10, (vI 140)), (11, (vI 1)), (12, (vI 140)), (13, (vS Ab 1 cb)), (14, (vI 0))], [.dead, .dead, .dead, .dead, .dead, .dead, .dead, .o (.slice Ab 1 cb) 1 [.int .i64 3, .int .u64 0, .int .u64 8589934592, .int .u64 0, .int .u64 0, .int .i64 0, .int .i64 0] 26 7]⟩ (by kernel_rfl) ?_
  refine At.freeze (S' := ⟨fr 149 [(1, (vS Aj12 3 cj13)), (2, (vI 0)), (3, (vS Aj22 4 cj23)), (4, (vI 0)), (5, (vI 3)), (6, (vI 0)), (7, (vB true)), (8, (vI 0)), (9, (vI 2)), (10, (vI 140)), (11, (vI 1)), (12, (vI 140)), (13, (vS Ab 1 cb)), (14, (vI 0))], [.dead, .dead, .dead, .dead, .dead, .dead, .dead, .dead]⟩) 7 (A := Ab) (n := 1) (c := cb) (xs := [.int .i64 3, .int .u64 0, .int .u64 8589934592, .int .u64 0, .int .u64 0, .int .i64 0, .int .i64 0]) (e := 26) (sz := 7) (by kernel_rfl) (bleT rfl) (by kernel_rfl) ?_
  intro Φ67 hle68 h13
  have hA2 := hA2.mono hle68
  have hA6 := hA6.mono hle68
  have hP1 := hP1.mono hle68
  have hAA := hAA.mono hle68
  have hP2 := hP2.mono hle68
  have hSS := hSS.mono hle68
  have hA37 := hA37.mono hle68
  have h47 := h47.mono hle68
  have h55 := h55.mono hle68
  refine At.nil ?_
  refine At.then_normal ?_
  refine At.seq ?_
  refine At.region ?_
  refine At.runk 1 [1] [] ⟨fr 149 [(2, (vI 0)), (3, (vS Aj22 4 cj23)), (4, (vI 0)), (5, (vI 3)), (6, (vI 0)), (7, (vB true)), (8, (vI 0)), (9, (vI 2)), (10, (vI 140)), (11, (vI 1)), (12, (vI 140)), (13, (vS Ab 1 cb)), (14, (vI 0)), (65, (vS Aj12 3 cj13))], [.dead, .dead, .dead, .dead, .dead, .dead, .dead, .dead]⟩ (by kernel_rfl) ?_
  refine At.callV rfl (by kernel_rfl) 24 [] [] (by kernel_rfl) Try.func24 (by kernel_rfl) (by kernel_rfl) [(vS Aj12 3 cj13)] (by kernel_rfl) (by kernel_rfl) (parts_ok Φ67 [aN, aN, kN 4] Aj12 cj13 hAA (by decide) (wf_all (by kernel_rfl)) hcj14 rfl (by intro e he m hm; cases he; match m, hm with | 0, _ => decide | 1, _ => decide | m + 2, hm => exact absurd hm (by show ¬ (m + 2 < 2); omega))) ?_
  rintro Φ69 ⟨⟨Ap, cp⟩, pp⟩ hle70 hpp
  have hA2 := hA2.mono hle70
  have hA6 := hA6.mono hle70
  have hP1 := hP1.mono hle70
  have hAA := hAA.mono hle70
  have hP2 := hP2.mono hle70
  have hSS := hSS.mono hle70
  have hA37 := hA37.mono hle70
  have h47 := h47.mono hle70
  have h55 := h55.mono hle70
  have h13 := h13.mono hle70
  have hpl : pp.length = 2 := by have := congrArg List.length hpp.2; rw [List.length_map] at this; rw [this]; rfl
  refine ⟨⟨fr 149 [(2, (vI 0)), (3, (vS Aj22 4 cj23)), (4, (vI 0)), (5, (vI 3)), (6, (vI 0)), (7, (vB true)), (8, (vI 0)), (9, (vI 2)), (10, (vI 140)), (11, (vI 1)), (12, (vI 140)), (13, (vS Ab 1 cb)), (14, (vI 0)), (65, (vS Aj12 3 cj13)), (66, .tup [(vS Ap pp.length cp), (vI 0)])], [.dead, .dead, .dead, .dead, .dead, .dead, .dead, .dead, .o (.slice Ap pp.length cp) pp.length (pp.flatMap Pt.enc) 30 1]⟩, by kernel_rfl, by kernel_rfl, ?_⟩
  refine At.runk 5 [64, 65, 66, 67, 68] [] ⟨fr 149 [(2, (vI 0)), (3, (vS Aj22 4 cj23)), (4, (vI 0)), (5, (vI 3)), (6, (vI 0)), (7, (vB true)), (8, (vI 0)), (9, (vI 2)), (10, (vI 140)), (11, (vI 1)), (12, (vI 140)), (13, (vS Ab 1 cb)), (14, (vI 0)), (15, (vS Ap pp.length cp)), (16, (vI 0))], [.dead, .dead, .dead, .dead, .dead, .dead, .dead, .dead, .o (.slice Ap pp.length cp) pp.length (pp.flatMap Pt.enc) 30 1]⟩ (by kernel_rfl) ?_
  refine At.cast (S' := ⟨fr 149 [(2, (vI 0)), (3, (vS Aj22 4 cj23)), (4, (vI 0)), (5, (vI 3)), (6, (vI 0)), (7, (vB true)), (8, (vI 0)), (9, (vI 2)), (10, (vI 140)), (11, (vI 1)), (12, (vI 140)), (13, (vS Ab 1 cb)), (14, (vI 0)), (15, (vS Ap 2 cp)), (16, (vI 0))], [.dead, .dead, .dead, .dead, .dead, .dead, .dead, .dead, .o (.slice Ap 2 cp) 2 (pp.flatMap Pt.enc) 30 1]⟩) (by rw [hpl]) ?_
  refine At.nil ?_
  refine At.then_normal ?_
  refine At.seq ?_
  refine At.region ?_
  refine At.callV rfl (by kernel_rfl) 39 [] [] (by kernel_rfl) Try.func39 (by kernel_rfl) (by kernel_rfl) [] (by kernel_rfl) (by kernel_rfl) (a_own Φ69) ?_
  rintro Φ72 ga71 hle73 -
  have hA2 := hA2.mono hle73
  have hA6 := hA6.mono hle73
  have hP1 := hP1.mono hle73
  have hAA := hAA.mono hle73
  have hP2 := hP2.mono hle73
  have hSS := hSS.mono hle73
  have hA37 := hA37.mono hle73
  have h47 := h47.mono hle73
  have h55 := h55.mono hle73
  have h13 := h13.mono hle73
  refine ⟨⟨fr 149 [(2, (vI 0)), (3, (vS Aj22 4 cj23)), (4, (vI 0)), (5, (vI 3)), (6, (vI 0)), (7, (vB true)), (8, (vI 0)), (9, (vI 2)), (10, (vI 140)), (11, (vI 1)), (12, (vI 140)), (13, (vS Ab 1 cb)), (14, (vI 0)), (15, (vS Ap 2 cp)), (16, (vI 0)), (70, (vS (aS ga71 0) 1 1))], [.dead, .dead, .dead, .dead, .dead, .dead, .dead, .dead, .o (.slice Ap 2 cp) 2 (pp.flatMap Pt.enc) 30 1, .o (.slice (aS ga71 0) 1 1) 1 [.int .i64 3, .int .u64 0, .int .u64 8589934592, .int .u64 0, .int .u64 0, .int .i64 0, .int .i64 0] 26 7]⟩, by kernel_rfl, by kernel_rfl, ?_⟩
  refine At.runk 3 [71, 72] [] ⟨fr 149 [(2, (vI 0)), (3, (vS Aj22 4 cj23)), (4, (vI 0)), (5, (vI 3)), (6, (vI 0)), (7, (vB true)), (8, (vI 0)), (9, (vI 2)), (10, (vI 140)), (11, (vI 1)), (12, (vI 140)), (13, (vS Ab 1 cb)), (14, (vI 0)), (15, (vS Ap 2 cp)), (16, (vI 0)), (70, (vS (aS ga71 0) 1 1)), (73, .s 10 0 2 2)], [.dead, .dead, .dead, .dead, .dead, .dead, .dead, .dead, .o (.slice Ap 2 cp) 2 (pp.flatMap Pt.enc) 30 1, .o (.slice (aS ga71 0) 1 1) 1 [.int .i64 3, .int .u64 0, .int .u64 8589934592, .int .u64 0, .int .u64 0, .int .i64 0, .int .i64 0] 26 7, .c [(vI 9), (vU 0), (vU 0), (vU 0), (vU 0), (vI 0), (vI 0), (vI 6), (vU 0), (vU 0), (vU 0), (vU 0), (vI 0), (vI 0)] 26]⟩ (by kernel_rfl) ?_
  refine At.append rfl (by kernel_rfl) (e := 26) (inf := Try.t26) (sz := 7) (by kernel_rfl) (by kernel_rfl) rfl rfl rfl (Nat.zero_lt_succ _) 9 (V := .slice (aS ga71 0) 1 1) (n := 1) (xs := [.int .i64 3, .int .u64 0, .int .u64 8589934592, .int .u64 0, .int .u64 0, .int .i64 0, .int .i64 0]) (by kernel_rfl) (by kernel_rfl) 2 [.int .i64 9, .int .u64 0, .int .u64 0, .int .u64 0, .int .u64 0, .int .i64 0, .int .i64 0, .int .i64 6, .int .u64 0, .int .u64 0, .int .u64 0, .int .u64 0, .int .i64 0, .int .i64 0] (Src.cells (i := 10) (off := 0) (m := 2) (c := 2) (cs := [(vI 9), (vU 0), (vU 0), (vU 0), (vU 0), (vI 0), (vI 0), (vI 6), (vU 0), (vU 0), (vU 0), (vU 0), (vI 0), (vI 0)]) (e := 26) (by kernel_rfl) (by kernel_rfl) (src_lits _ _ (by kernel_rfl))) (rfl) (one_lits _ (by kernel_rfl)) (by unfold maxLen; omega) (by show (1 + 2) * 56 ≤ _; omega) ?_
  intro A74 c75 h76 h77 h78
  refine ⟨⟨fr 149 [(2, (vI 0)), (3, (vS Aj22 4 cj23)), (4, (vI 0)), (5, (vI 3)), (6, (vI 0)), (7, (vB true)), (8, (vI 0)), (9, (vI 2)), (10, (vI 140)), (11, (vI 1)), (12, (vI 140)), (13, (vS Ab 1 cb)), (14, (vI 0)), (15, (vS Ap 2 cp)), (16, (vI 0)), (70, (vS (aS ga71 0) 1 1)), (73, .s 10 0 2 2), (74, (vS A74 3 c75))], [.dead, .dead, .dead, .dead, .dead, .dead, .dead, .dead, .o (.slice Ap 2 cp) 2 (pp.flatMap Pt.enc) 30 1, .o (.slice A74 3 c75) 3 [.int .i64 3, .int .u64 0, .int .u64 8589934592, .int .u64 0, .int .u64 0, .int .i64 0, .int .i64 0, .int .i64 9, .int .u64 0, .int .u64 0, .int .u64 0, .int .u64 0, .int .i64 0, .int .i64 0, .int .i64 6, .int .u64 0, .int .u64 0, .int .u64 0, .int .u64 0, .int .i64 0, .int .i64 0] 26 7, .c [(vI 9), (vU 0), (vU 0), (vU 0), (vU 0), (vI 0), (vI 0), (vI 6), (vU 0), (vU 0), (vU 0), (vU 0), (vI 0), (vI 0)] 26]⟩, by kernel_rfl, ?_⟩
  refine At.freeze (S' := ⟨fr 149 [(2, (vI 0)), (3, (vS Aj22 4 cj23)), (4, (vI 0)), (5, (vI 3)), (6, (vI 0)), (7, (vB true)), (8, (vI 0)), (9, (vI 2)), (10, (vI 140)), (11, (vI 1)), (12, (vI 140)), (13, (vS Ab 1 cb)), (14, (vI 0)), (15, (vS Ap 2 cp)), (16, (vI 0)), (70, (vS (aS ga71 0) 1 1)), (73, .s 10 0 2 2), (74, (vS A74 3 c75))], [.dead, .dead, .dead, .dead, .dead, .dead, .dead, .dead, .o (.slice Ap 2 cp) 2 (pp.flatMap Pt.enc) 30 1, .dead, .c [(vI 9), (vU 0), (vU 0), (vU 0), (vU 0), (vI 0), (vI 0), (vI 6), (vU 0), (vU 0), (vU 0), (vU 0), (vI 0), (vI 0)] 26]⟩) 9 (A := A74) (n := 3) (c := c75) (xs := [.int .i64 3, .int .u64 0, .int .u64 8589934592, .int .u64 0, .int .u64 0, .int .i64 0, .int .i64 0, .int .i64 9, .int .u64 0, .int .u64 0, .int .u64 0, .int .u64 0, .int .i64 0, .int .i64 0, .int .i64 6, .int .u64 0, .int .u64 0, .int .u64 0, .int .u64 0, .int .i64 0, .int .i64 0]) (e := 26) (sz := 7) (by kernel_rfl) (bleT rfl) (by kernel_rfl) ?_
  intro Φ79 hle80 h74
  have hA2 := hA2.mono hle80
  have hA6 := hA6.mono hle80
  have hP1 := hP1.mono hle80
  have hAA := hAA.mono hle80
  have hP2 := hP2.mono hle80
  have hSS := hSS.mono hle80
  have hA37 := hA37.mono hle80
  have h47 := h47.mono hle80
  have h55 := h55.mono hle80
  have h13 := h13.mono hle80
  refine At.callV rfl (by kernel_rfl) 17 [] [] (by kernel_rfl) Try.func17 (by kernel_rfl) (by kernel_rfl) [(vS A74 3 c75)] (by kernel_rfl) (by kernel_rfl) (norm_ok Φ79 [aN, kN 9, kN 6] A74 c75 h74 (by decide) (wf_all (by kernel_rfl)) (by decide) rfl) ?_
  rintro Φ81 ⟨An, cn⟩ hle82 hnn
  have hA2 := hA2.mono hle82
  have hA6 := hA6.mono hle82
  have hP1 := hP1.mono hle82
  have hAA := hAA.mono hle82
  have hP2 := hP2.mono hle82
  have hSS := hSS.mono hle82
  have hA37 := hA37.mono hle82
  have h47 := h47.mono hle82
  have h55 := h55.mono hle82
  have h13 := h13.mono hle82
  have h74 := h74.mono hle82
  have hNn : NdsAt _ An [emptyN, kN 6] := hnn.1
  refine ⟨⟨fr 149 [(2, (vI 0)), (3, (vS Aj22 4 cj23)), (4, (vI 0)), (5, (vI 3)), (6, (vI 0)), (7, (vB true)), (8, (vI 0)), (9, (vI 2)), (10, (vI 140)), (11, (vI 1)), (12, (vI 140)), (13, (vS Ab 1 cb)), (14, (vI 0)), (15, (vS Ap 2 cp)), (16, (vI 0)), (70, (vS (aS ga71 0) 1 1)), (73, .s 10 0 2 2), (74, (vS A74 3 c75)), (75, .tup [(vS An 2 cn), (vI 0)])], [.dead, .dead, .dead, .dead, .dead, .dead, .dead, .dead, .o (.slice Ap 2 cp) 2 (pp.flatMap Pt.enc) 30 1, .dead, .c [(vI 9), (vU 0), (vU 0), (vU 0), (vU 0), (vI 0), (vI 0), (vI 6), (vU 0), (vU 0), (vU 0), (vU 0), (vI 0), (vI 0)] 26]⟩, by kernel_rfl, by kernel_rfl, ?_⟩
  refine At.runk 5 [69, 70, 73, 74, 75, 76, 77] [10] ⟨fr 149 [(2, (vI 0)), (3, (vS Aj22 4 cj23)), (4, (vI 0)), (5, (vI 3)), (6, (vI 0)), (7, (vB true)), (8, (vI 0)), (9, (vI 2)), (10, (vI 140)), (11, (vI 1)), (12, (vI 140)), (13, (vS Ab 1 cb)), (14, (vI 0)), (15, (vS Ap 2 cp)), (16, (vI 0)), (17, (vS An 2 cn)), (18, (vI 0))], [.dead, .dead, .dead, .dead, .dead, .dead, .dead, .dead, .o (.slice Ap 2 cp) 2 (pp.flatMap Pt.enc) 30 1, .dead, .dead]⟩ (by kernel_rfl) ?_
  refine At.nil ?_
  refine At.then_normal ?_
  refine At.seq ?_
  refine At.region ?_
  refine At.runk 56 [2, 3, 4, 5, 6, 7, 8, 9, 10, 11, 12, 13, 14, 16, 18, 78, 79, 80, 81, 82, 83, 84, 85, 86, 87, 88, 89, 90, 91, 92, 93, 94, 95, 96, 97, 98, 99, 100, 101, 102, 103, 104, 105, 106, 107, 108, 109, 110, 111, 112, 113, 114, 115, 116, 117, 118, 119, 120, 121, 122, 123, 124, 125, 126, 127, 128, 129, 130, 131] [] ⟨fr 149 [(15, (vS Ap 2 cp)), (17, (vS An 2 cn)), (132, (vB true)), (133, (vS Ab 1 cb))], [.dead, .dead, .dead, .dead, .dead, .dead, .dead, .dead, .o (.slice Ap 2 cp) 2 (pp.flatMap Pt.enc) 30 1, .dead, .dead]⟩ (by kernel_rfl) ?_
  refine At.callV rfl (by kernel_rfl) 39 [] [] (by kernel_rfl) Try.func39 (by kernel_rfl) (by kernel_rfl) [] (by kernel_rfl) (by kernel_rfl) (a_fr Φ81) ?_
  rintro Φ85 ga83 hle86 hA84
  have hA2 := hA2.mono hle86
  have hA6 := hA6.mono hle86
  have hP1 := hP1.mono hle86
  have hAA := hAA.mono hle86
  have hP2 := hP2.mono hle86
  have hSS := hSS.mono hle86
  have hA37 := hA37.mono hle86
  have h47 := h47.mono hle86
  have h55 := h55.mono hle86
  have h13 := h13.mono hle86
  have h74 := h74.mono hle86
  have hNn := hNn.mono hle86
  refine ⟨⟨fr 149 [(15, (vS Ap 2 cp)), (17, (vS An 2 cn)), (132, (vB true)), (133, (vS Ab 1 cb)), (134, (vS (aS ga83 0) 1 1))], [.dead, .dead, .dead, .dead, .dead, .dead, .dead, .dead, .o (.slice Ap 2 cp) 2 (pp.flatMap Pt.enc) 30 1, .dead, .dead]⟩, by kernel_rfl, by kernel_rfl, ?_⟩
  refine At.callV rfl (by kernel_rfl) 20 [] [] (by kernel_rfl) Try.func20 (by kernel_rfl) (by kernel_rfl) [(vS Ab 1 cb), (vS (aS ga83 0) 1 1)] (by kernel_rfl) (by kernel_rfl) (same_c Φ85 [aN] [aN] Ab (aS ga83 0) cb 1 h13 hA84 (by decide) (by decide)) ?_
  rintro Φ89 ts88 hle90 hts87
  have hA2 := hA2.mono hle90
  have hA6 := hA6.mono hle90
  have hP1 := hP1.mono hle90
  have hAA := hAA.mono hle90
  have hP2 := hP2.mono hle90
  have hSS := hSS.mono hle90
  have hA37 := hA37.mono hle90
  have h47 := h47.mono hle90
  have h55 := h55.mono hle90
  have h13 := h13.mono hle90
  have h74 := h74.mono hle90
  have hNn := hNn.mono hle90
  have hA84 := hA84.mono hle90
  replace hts87 : ts88 = true := hts87
  subst hts87
  refine ⟨⟨fr 149 [(15, (vS Ap 2 cp)), (17, (vS An 2 cn)), (132, (vB true)), (133, (vS Ab 1 cb)), (134, (vS (aS ga83 0) 1 1)), (135, (vB true))], [.dead, .dead, .dead, .dead, .dead, .dead, .dead, .dead, .o (.slice Ap 2 cp) 2 (pp.flatMap Pt.enc) 30 1, .dead, .dead]⟩, by kernel_rfl, by kernel_rfl, ?_⟩
  refine At.runk 11 [15, 17, 132, 133, 134, 135, 136, 137, 138, 139, 140, 141, 144, 145] [8] ⟨fr 149 [(142, (vB true)), (143, (vS An 2 cn)), (146, .s 11 0 2 2)], [.dead, .dead, .dead, .dead, .dead, .dead, .dead, .dead, .dead, .dead, .dead, .c [(vI 2), (vU 0), (vU 0), (vU 0), (vU 0), (vI 0), (vI 0), (vI 6), (vU 0), (vU 0), (vU 0), (vU 0), (vI 0), (vI 0)] 26]⟩ (by kernel_rfl) ?_
  refine At.freezeC 11 [.int .i64 2, .int .u64 0, .int .u64 0, .int .u64 0, .int .u64 0, .int .i64 0, .int .i64 0, .int .i64 6, .int .u64 0, .int .u64 0, .int .u64 0, .int .u64 0, .int .i64 0, .int .i64 0] rfl rfl (bleT rfl) (bleT rfl) (fun _ => by kernel_rfl) (fun _ => by kernel_rfl) ?_
  intro g91 Φ92 hle93 hL
  have hA2 := hA2.mono hle93
  have hA6 := hA6.mono hle93
  have hP1 := hP1.mono hle93
  have hAA := hAA.mono hle93
  have hP2 := hP2.mono hle93
  have hSS := hSS.mono hle93
  have hA37 := hA37.mono hle93
  have h47 := h47.mono hle93
  have h55 := h55.mono hle93
  have h13 := h13.mono hle93
  have h74 := h74.mono hle93
  have hNn := hNn.mono hle93
  have hA84 := hA84.mono hle93
  refine ⟨⟨fr 149 [(142, (vB true)), (143, (vS An 2 cn)), (146, (vS (aS g91 0) 2 2))], [.dead, .dead, .dead, .dead, .dead, .dead, .dead, .dead, .dead, .dead, .dead, .dead]⟩, by kernel_rfl, ?_⟩
  refine At.callV rfl (by kernel_rfl) 20 [] [] (by kernel_rfl) Try.func20 (by kernel_rfl) (by kernel_rfl) [(vS An 2 cn), (vS (aS g91 0) 2 2)] (by kernel_rfl) (by kernel_rfl) (same_c Φ92 [emptyN, kN 6] [emptyN, kN 6] An (aS g91 0) cn 2 hNn hL (by decide) (by decide)) ?_
  rintro Φ96 ts95 hle97 hts94
  have hA2 := hA2.mono hle97
  have hA6 := hA6.mono hle97
  have hP1 := hP1.mono hle97
  have hAA := hAA.mono hle97
  have hP2 := hP2.mono hle97
  have hSS := hSS.mono hle97
  have hA37 := hA37.mono hle97
  have h47 := h47.mono hle97
  have h55 := h55.mono hle97
  have h13 := h13.mono hle97
  have h74 := h74.mono hle97
  have hNn := hNn.mono hle97
  have hA84 := hA84.mono hle97
  have hL := hL.mono hle97
  replace hts94 : ts95 = true := hts94
  subst hts94
  refine ⟨⟨fr 149 [(142, (vB true)), (143, (vS An 2 cn)), (146, (vS (aS g91 0) 2 2)), (147, (vB true))], [.dead, .dead, .dead, .dead, .dead, .dead, .dead, .dead, .dead, .dead, .dead, .dead]⟩, by kernel_rfl, by kernel_rfl, ?_⟩
  refine At.runk 2 [142, 143, 146, 147, 148] [] ⟨fr 149 [(0, (vB true))], [.dead, .dead, .dead, .dead, .dead, .dead, .dead, .dead, .dead, .dead, .dead, .dead]⟩ (by kernel_rfl) ?_
  refine At.nil ?_
  refine At.then_normal ?_
  refine At.ret_ ?_
  refine At.forget [] 0 [] ⟨fr 149 [(0, (vB true))], []⟩ (by kernel_rfl) (by kernel_rfl) (bleT rfl) ?_
  refine At.leaveR rfl () (by kernel_rfl) (by kernel_rfl) (by kernel_rfl) ?_
  trivial

end Go.Sx
