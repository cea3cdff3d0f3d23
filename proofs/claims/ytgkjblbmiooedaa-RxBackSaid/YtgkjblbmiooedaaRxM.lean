/- RxM: printed by wip/gen/lib04.py. Walks over functions of the program. -/
import Derived.Test.YtgkjblbmiooedaaRxL
namespace Go.Sx
open Go.Proofs Go.RowKit
theorem fold_rx_no (Φ : Phi) (g0 g1 : Nat) (nds : List Nd) (A : Option Addr) (c : Nat) (hR : NdsAt Φ A nds) (hl : nds.length ≤ 1000000) (ndsw : ∀ n ∈ nds, n.wf) (i : Nat) (hno : chk nds 0 0 = some i) (hB0 : RdC Φ (aS g0 0) [.slice A nds.length c])  : CallP Try.prog 73 [(vP g0 0), (vP g1 0)] [] Φ [{ v := .iface 33 (.int .i64 140), recovered := false }] := by
  refine CallG.enterk Try.func73 rfl [2, 3, 4, 5, 6, 7, 8, 9, 10, 11, 12, 13, 14, 15, 16, 17, 18, 19, 20, 21, 22, 23, 24, 25, 26, 27, 28, 29, 30, 31, 32, 33, 34, 35, 36, 37, 38, 39, 40, 41, 42, 43, 44, 45] ⟨fr 46 [(0, (vP g0 0)), (1, (vP g1 0))], []⟩ (by kernel_rfl) (by kernel_rfl) ?_
  intro E G β0
  refine At.seq ?_
  refine At.region ?_
  refine At.runk 1 [2] [] ⟨fr 46 [(0, (vP g0 0)), (1, (vP g1 0))], []⟩ (by kernel_rfl) ?_
  refine At.nil ?_
  refine At.then_normal ?_
  refine At.seq ?_
  refine At.region ?_
  refine At.runk 1 [] [] ⟨fr 46 [(0, (vP g0 0)), (1, (vP g1 0)), (3, (vS none 0 0))], []⟩ (by kernel_rfl) ?_
  refine At.nil ?_
  refine At.then_normal ?_
  refine At.seq ?_
  refine At.seq ?_
  refine At.region ?_
  refine At.vals (S' := ⟨fr 46 [(0, (vP g0 0)), (1, (vP g1 0)), (3, (vS none 0 0)), (10, (vS A nds.length c))], []⟩) (by kernel_rfl) ((vS A nds.length c)) (by kernel_rfl) (Val.ldB rfl hB0 (Nat.zero_lt_succ _) 0 0 (by omega) (by kernel_rfl) ((vS A nds.length c)) (by kernel_rfl)) ?_
  refine At.callP rfl (by kernel_rfl) 43 [] [] (by kernel_rfl) Try.func43 (by kernel_rfl) (by kernel_rfl) [(vS A nds.length c)] (by kernel_rfl) (by kernel_rfl) (of_no Φ nds A c hR hl ndsw i hno) ?_
  intro Φ1 hle2
  have hR := hR.mono hle2
  have hB0 := hB0.mono hle2
  refine ⟨⟨fr 46 [(0, (vP g0 0)), (1, (vP g1 0)), (3, (vS none 0 0)), (10, (vS A nds.length c))], []⟩, by kernel_rfl, by kernel_rfl, ?_⟩
  refine At.then_panic ?_
  refine At.then_panic ?_
  refine At.forget [0, 1, 3, 10] 0 [] ⟨fr 46 [], []⟩ (by kernel_rfl) (by kernel_rfl) (bleT rfl) ?_
  exact At.leaveP rfl (by kernel_rfl)

theorem folded_rx_ok (Φ : Phi) (nds : List Nd) (A : Option Addr) (c : Nat) (hR : NdsAt Φ A nds) (hl : nds.length ≤ 1000000) (ndsw : ∀ n ∈ nds, n.wf) (hl1 : nds.length ≤ 1000) (hok : chk nds 0 0 = none)  : CallR Try.prog 46 [(vS A nds.length c), (vF 47)] [] Φ (Option Addr × Nat) (fun t => .tup [(vS t.1 (foldR nrmk nds).length t.2), (vI 0)]) (fun _ => []) (fun t Φ => NdsAt Φ t.1 (foldR nrmk nds) ∧ (foldR nrmk nds).length ≤ 1000 ∧ ∀ m ∈ (foldR nrmk nds), m.wf) := by
  refine CallG.enterk Try.func46 rfl [2, 3, 4, 5, 6, 7, 8, 9] ⟨fr 10 [(0, (vS A nds.length c)), (1, (vF 47))], []⟩ (by kernel_rfl) (by kernel_rfl) ?_
  intro E G β0
  refine At.seq ?_
  refine At.region ?_
  refine At.runk 4 [0, 1, 4, 5] [] ⟨fr 10 [(2, .p 0 0), (3, .p 1 0)], [.c [(vS A nds.length c)] 30, .c [(vF 47)] 38]⟩ (by kernel_rfl) ?_
  refine At.nil ?_
  refine At.then_normal ?_
  refine At.seq ?_
  refine At.freezeC 0 [.slice A nds.length c] rfl rfl (bleT rfl) (bleT rfl) (fun _ => by kernel_rfl) (fun _ => by kernel_rfl) ?_
  intro g2 Φ3 hle4 hB1
  have hR := hR.mono hle4
  refine ⟨⟨fr 10 [(2, (vP g2 0)), (3, .p 1 0)], [.dead, .c [(vF 47)] 38]⟩, by kernel_rfl, ?_⟩
  refine At.freezeC 1 [.func (.func 47) #[] #[]] rfl rfl (bleT rfl) (bleT rfl) (fun _ => by kernel_rfl) (fun _ => by kernel_rfl) ?_
  intro g6 Φ7 hle8 hB5
  have hR := hR.mono hle8
  have hB1 := hB1.mono hle8
  refine ⟨⟨fr 10 [(2, (vP g2 0)), (3, (vP g6 0))], [.dead, .dead]⟩, by kernel_rfl, ?_⟩
  refine At.region ?_
  refine At.runk 1 [2, 3] [] ⟨fr 10 [(6, .fn (.func 73) [(vP g2 0), (vP g6 0)])], [.dead, .dead]⟩ (by kernel_rfl) ?_
  refine At.reval 6 (.fn (.func 73) [(vP g2 0), (vP g6 0)]) (.v (.func (.func 73) #[] #[.pointer (aS g2 0), .pointer (aS g6 0)])) (by kernel_rfl) (by kernel_rfl) (fun _ => by kernel_rfl) ⟨fr 10 [(6, .v (.func (.func 73) #[] #[.pointer (aS g2 0), .pointer (aS g6 0)]))], [.dead, .dead]⟩ (by kernel_rfl) (by kernel_rfl) ?_
  refine At.callV rfl (by kernel_rfl) 41 [] [] (by kernel_rfl) Try.func41 (by kernel_rfl) (by kernel_rfl) [.v (.func (.func 73) #[] #[.pointer (aS g2 0), .pointer (aS g6 0)])] (by kernel_rfl) (by kernel_rfl) (tries_rx0 Φ7 73 #[.pointer (aS g2 0), .pointer (aS g6 0)] Try.f73 Try.func73 rfl rfl (Option Addr × Nat) (fun t => (t.1, (foldR nrmk nds).length, t.2)) (fun t Φ => NdsAt Φ t.1 (foldR nrmk nds) ∧ (foldR nrmk nds).length ≤ 1000 ∧ ∀ m ∈ (foldR nrmk nds), m.wf) (fun _ _ _ hle h => ⟨h.1.mono hle, h.2⟩) (fold_rx_c Φ7 g2 g6 nds A c hR hl ndsw hl1 hok hB1 hB5)) ?_
  rintro Φ9 ⟨At1, ct⟩ hle10 hNt
  have hR := hR.mono hle10
  have hB1 := hB1.mono hle10
  have hB5 := hB5.mono hle10
  dsimp only at hNt
  refine ⟨⟨fr 10 [(6, .v (.func (.func 73) #[] #[.pointer (aS g2 0), .pointer (aS g6 0)])), (7, .tup [(vS At1 ((foldR nrmk nds).length) ct), (vI 0)])], [.dead, .dead]⟩, by kernel_rfl, by kernel_rfl, ?_⟩
  refine At.runk 4 [6, 7, 8, 9] [] ⟨fr 10 [(4, (vS At1 ((foldR nrmk nds).length) ct)), (5, (vI 0))], [.dead, .dead]⟩ (by kernel_rfl) ?_
  refine At.nil ?_
  refine At.then_normal ?_
  refine At.ret_ ?_
  refine At.forget [] 0 [] ⟨fr 10 [(4, (vS At1 ((foldR nrmk nds).length) ct)), (5, (vI 0))], []⟩ (by kernel_rfl) (by kernel_rfl) (bleT rfl) ?_
  refine At.leaveR rfl (At1, ct) (by kernel_rfl) (by kernel_rfl) (by kernel_rfl) ?_
  exact hNt

theorem norm_ok (Φ : Phi) (nds : List Nd) (A : Option Addr) (c : Nat) (hR : NdsAt Φ A nds) (hl : nds.length ≤ 1000000) (ndsw : ∀ n ∈ nds, n.wf) (hl1 : nds.length ≤ 1000) (hok : chk nds 0 0 = none)  : CallR Try.prog 17 [(vS A nds.length c)] [] Φ (Option Addr × Nat) (fun t => .tup [(vS t.1 (foldR nrmk nds).length t.2), (vI 0)]) (fun _ => []) (fun t Φ => NdsAt Φ t.1 (foldR nrmk nds) ∧ (foldR nrmk nds).length ≤ 1000 ∧ ∀ m ∈ (foldR nrmk nds), m.wf) := by
  refine CallG.enterk Try.func17 rfl [1, 2, 3, 4, 5, 6, 7] ⟨fr 8 [(0, (vS A nds.length c))], []⟩ (by kernel_rfl) (by kernel_rfl) ?_
  intro E G β0
  refine At.seq ?_
  refine At.region ?_
  refine At.runk 2 [2, 3] [] ⟨fr 8 [(0, (vS A nds.length c))], []⟩ (by kernel_rfl) ?_
  refine At.nil ?_
  refine At.then_normal ?_
  refine At.seq ?_
  refine At.region ?_
  refine At.runk 1 [0] [] ⟨fr 8 [(4, (vS A nds.length c))], []⟩ (by kernel_rfl) ?_
  refine At.callV rfl (by kernel_rfl) 46 [] [] (by kernel_rfl) Try.func46 (by kernel_rfl) (by kernel_rfl) [(vS A nds.length c), (vF 47)] (by kernel_rfl) (by kernel_rfl) (folded_rx_ok Φ nds A c hR hl ndsw hl1 hok) ?_
  rintro Φ1 ⟨At1, ct⟩ hle2 hNt
  have hR := hR.mono hle2
  dsimp only at hNt
  refine ⟨⟨fr 8 [(4, (vS A nds.length c)), (5, .tup [(vS At1 ((foldR nrmk nds).length) ct), (vI 0)])], []⟩, by kernel_rfl, by kernel_rfl, ?_⟩
  refine At.runk 4 [4, 5, 6, 7] [] ⟨fr 8 [(2, (vS At1 ((foldR nrmk nds).length) ct)), (3, (vI 0))], []⟩ (by kernel_rfl) ?_
  refine At.nil ?_
  refine At.then_normal ?_
  refine At.ret_ ?_
  refine At.leaveR rfl (At1, ct) (by kernel_rfl) (by kernel_rfl) (by kernel_rfl) ?_
  exact hNt

theorem folded_rx_no (Φ : Phi) (nds : List Nd) (A : Option Addr) (c : Nat) (hR : NdsAt Φ A nds) (hl : nds.length ≤ 1000000) (ndsw : ∀ n ∈ nds, n.wf) (i : Nat) (hno : chk nds 0 0 = some i)  : CallR Try.prog 46 [(vS A nds.length c), (vF 47)] [] Φ Unit (fun _ => .tup [(vS none 0 0), (vI 140)]) (fun _ => []) (fun _ _ => True) := by
  refine CallG.enterk Try.func46 rfl [2, 3, 4, 5, 6, 7, 8, 9] ⟨fr 10 [(0, (vS A nds.length c)), (1, (vF 47))], []⟩ (by kernel_rfl) (by kernel_rfl) ?_
  intro E G β0
  refine At.seq ?_
  refine At.region ?_
  refine At.runk 4 [0, 1, 4, 5] [] ⟨fr 10 [(2, .p 0 0), (3, .p 1 0)], [.c [(vS A nds.length c)] 30, .c [(vF 47)] 38]⟩ (by kernel_rfl) ?_
  refine At.nil ?_
  refine At.then_normal ?_
  refine At.seq ?_
  refine At.freezeC 0 [.slice A nds.length c] rfl rfl (bleT rfl) (bleT rfl) (fun _ => by kernel_rfl) (fun _ => by kernel_rfl) ?_
  intro g2 Φ3 hle4 hB1
  have hR := hR.mono hle4
  refine ⟨⟨fr 10 [(2, (vP g2 0)), (3, .p 1 0)], [.dead, .c [(vF 47)] 38]⟩, by kernel_rfl, ?_⟩
  refine At.freezeC 1 [.func (.func 47) #[] #[]] rfl rfl (bleT rfl) (bleT rfl) (fun _ => by kernel_rfl) (fun _ => by kernel_rfl) ?_
  intro g6 Φ7 hle8 hB5
  have hR := hR.mono hle8
  have hB1 := hB1.mono hle8
  refine ⟨⟨fr 10 [(2, (vP g2 0)), (3, (vP g6 0))], [.dead, .dead]⟩, by kernel_rfl, ?_⟩
  refine At.region ?_
  refine At.runk 1 [2, 3] [] ⟨fr 10 [(6, .fn (.func 73) [(vP g2 0), (vP g6 0)])], [.dead, .dead]⟩ (by kernel_rfl) ?_
  refine At.reval 6 (.fn (.func 73) [(vP g2 0), (vP g6 0)]) (.v (.func (.func 73) #[] #[.pointer (aS g2 0), .pointer (aS g6 0)])) (by kernel_rfl) (by kernel_rfl) (fun _ => by kernel_rfl) ⟨fr 10 [(6, .v (.func (.func 73) #[] #[.pointer (aS g2 0), .pointer (aS g6 0)]))], [.dead, .dead]⟩ (by kernel_rfl) (by kernel_rfl) ?_
  refine At.callV rfl (by kernel_rfl) 41 [] [] (by kernel_rfl) Try.func41 (by kernel_rfl) (by kernel_rfl) [.v (.func (.func 73) #[] #[.pointer (aS g2 0), .pointer (aS g6 0)])] (by kernel_rfl) (by kernel_rfl) (tries_rx0_no Φ7 73 #[.pointer (aS g2 0), .pointer (aS g6 0)] Try.f73 Try.func73 rfl rfl 140 (fold_rx_no Φ7 g2 g6 nds A c hR hl ndsw i hno hB1)) ?_
  rintro Φ9 ⟨⟩ hle10 -
  have hR := hR.mono hle10
  have hB1 := hB1.mono hle10
  have hB5 := hB5.mono hle10
  refine ⟨⟨fr 10 [(6, .v (.func (.func 73) #[] #[.pointer (aS g2 0), .pointer (aS g6 0)])), (7, .tup [(vS none 0 0), (vI 140)])], [.dead, .dead]⟩, by kernel_rfl, by kernel_rfl, ?_⟩
  refine At.runk 4 [6, 7, 8, 9] [] ⟨fr 10 [(4, (vS none 0 0)), (5, (vI 140))], [.dead, .dead]⟩ (by kernel_rfl) ?_
  refine At.nil ?_
  refine At.then_normal ?_
  refine At.ret_ ?_
  refine At.forget [] 0 [] ⟨fr 10 [(4, (vS none 0 0)), (5, (vI 140))], []⟩ (by kernel_rfl) (by kernel_rfl) (bleT rfl) ?_
  refine At.leaveR rfl () (by kernel_rfl) (by kernel_rfl) (by kernel_rfl) ?_
  trivial

theorem norm_no (Φ : Phi) (nds : List Nd) (A : Option Addr) (c : Nat) (hR : NdsAt Φ A nds) (hl : nds.length ≤ 1000000) (ndsw : ∀ n ∈ nds, n.wf) (i : Nat) (hno : chk nds 0 0 = some i)  : CallR Try.prog 17 [(vS A nds.length c)] [] Φ Unit (fun _ => .tup [(vS none 0 0), (vI 140)]) (fun _ => []) (fun _ _ => True) := by
  refine CallG.enterk Try.func17 rfl [1, 2, 3, 4, 5, 6, 7] ⟨fr 8 [(0, (vS A nds.length c))], []⟩ (by kernel_rfl) (by kernel_rfl) ?_
  intro E G β0
  refine At.seq ?_
  refine At.region ?_
  refine At.runk 2 [2, 3] [] ⟨fr 8 [(0, (vS A nds.length c))], []⟩ (by kernel_rfl) ?_
  refine At.nil ?_
  refine At.then_normal ?_
  refine At.seq ?_
  refine At.region ?_
  refine At.runk 1 [0] [] ⟨fr 8 [(4, (vS A nds.length c))], []⟩ (by kernel_rfl) ?_
  refine At.callV rfl (by kernel_rfl) 46 [] [] (by kernel_rfl) Try.func46 (by kernel_rfl) (by kernel_rfl) [(vS A nds.length c), (vF 47)] (by kernel_rfl) (by kernel_rfl) (folded_rx_no Φ nds A c hR hl ndsw i hno) ?_
  rintro Φ1 ⟨⟩ hle2 -
  have hR := hR.mono hle2
  refine ⟨⟨fr 8 [(4, (vS A nds.length c)), (5, .tup [(vS none 0 0), (vI 140)])], []⟩, by kernel_rfl, by kernel_rfl, ?_⟩
  refine At.runk 4 [4, 5, 6, 7] [] ⟨fr 8 [(2, (vS none 0 0)), (3, (vI 140))], []⟩ (by kernel_rfl) ?_
  refine At.nil ?_
  refine At.then_normal ?_
  refine At.ret_ ?_
  refine At.leaveR rfl () (by kernel_rfl) (by kernel_rfl) (by kernel_rfl) ?_
  trivial

end Go.Sx
