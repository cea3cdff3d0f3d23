/- RxS: printed by wip/gen/lib04.py. Walks over functions of the program. -/
import Derived.Test.YtgkjblbmiooedaaRxR
namespace Go.Sx
open Go.Proofs Go.RowKit
theorem parts_ok (Φ : Phi) (nds : List Nd) (A : Option Addr) (c : Nat) (hR : NdsAt Φ A nds) (hl : nds.length ≤ 1000000) (ndsw : ∀ n ∈ nds, n.wf) (hc : nds.length ≤ c) (hok : chk nds 0 0 = none) (hpe : ∀ e, nds[(nds.length - 1 : Nat)]? = some e → ∀ m, m < ar e → 1 ≤ pen nds (nds.length - 1) m)  : CallR Try.prog 24 [(vS A nds.length c)] [] Φ ((Option Addr × Nat) × List Pt) (fun t => .tup [(vS t.1.1 t.2.length t.1.2), (vI 0)]) (fun t => [.o (.slice t.1.1 t.2.length t.1.2) t.2.length (t.2.flatMap Pt.enc) 30 1]) (fun t Φ => Pts Φ t.2 ∧ t.2.map Pt.nds = (prt nds (nds.length - 1) (rootK nds)).reverse) := by
  refine CallG.enterk Try.func24 rfl [1, 2, 3, 4, 5, 6, 7] ⟨fr 8 [(0, (vS A nds.length c))], []⟩ (by kernel_rfl) (by kernel_rfl) ?_
  intro E G β0
  refine At.seq ?_
  refine At.region ?_
  refine At.runk 3 [0, 2, 3] [] ⟨fr 8 [(1, .p 0 0)], [.c [(vS A nds.length c)] 30]⟩ (by kernel_rfl) ?_
  refine At.nil ?_
  refine At.then_normal ?_
  refine At.seq ?_
  refine At.freezeC 0 [.slice A nds.length c] rfl rfl (bleT rfl) (bleT rfl) (fun _ => by kernel_rfl) (fun _ => by kernel_rfl) ?_
  intro g2 Φ3 hle4 hBr1
  have hR := hR.mono hle4
  refine ⟨⟨fr 8 [(1, (vP g2 0))], [.dead]⟩, by kernel_rfl, ?_⟩
  refine At.region ?_
  refine At.runk 1 [1] [] ⟨fr 8 [(4, .fn (.func 61) [(vP g2 0)])], [.dead]⟩ (by kernel_rfl) ?_
  refine At.reval 4 (.fn (.func 61) [(vP g2 0)]) (.v (.func (.func 61) #[] #[.pointer (aS g2 0)])) (by kernel_rfl) (by kernel_rfl) (fun _ => by kernel_rfl) ⟨fr 8 [(4, .v (.func (.func 61) #[] #[.pointer (aS g2 0)]))], [.dead]⟩ (by kernel_rfl) (by kernel_rfl) ?_
  refine At.callV rfl (by kernel_rfl) 60 [] [] (by kernel_rfl) Try.func60 (by kernel_rfl) (by kernel_rfl) [.v (.func (.func 61) #[] #[.pointer (aS g2 0)])] (by kernel_rfl) (by kernel_rfl) (tries_rxs Φ3 61 #[.pointer (aS g2 0)] Try.f61 Try.func61 rfl rfl ((Option Addr × Nat) × List Pt) (fun t => (t.1.1, t.2.length, t.1.2)) (fun t => t.2.flatMap Pt.enc) (fun t Φ => Pts Φ t.2 ∧ t.2.map Pt.nds = (prt nds (nds.length - 1) (rootK nds)).reverse) (fun _ _ _ hle h => ⟨h.1.mono hle, h.2⟩) (parts1_ok Φ3 g2 nds A c hR hl ndsw hc hok hpe hBr1)) ?_
  rintro Φ5 ⟨⟨Aj, cj⟩, pj⟩ hle6 hpj
  have hR := hR.mono hle6
  have hBr1 := hBr1.mono hle6
  dsimp only at hpj
  refine ⟨⟨fr 8 [(4, .v (.func (.func 61) #[] #[.pointer (aS g2 0)])), (5, .tup [(vS Aj pj.length cj), (vI 0)])], [.dead, .o (.slice Aj pj.length cj) pj.length (pj.flatMap Pt.enc) 30 1]⟩, by kernel_rfl, by kernel_rfl, ?_⟩
  refine At.runk 4 [4, 5, 6, 7] [] ⟨fr 8 [(2, (vS Aj pj.length cj)), (3, (vI 0))], [.dead, .o (.slice Aj pj.length cj) pj.length (pj.flatMap Pt.enc) 30 1]⟩ (by kernel_rfl) ?_
  refine At.nil ?_
  refine At.then_normal ?_
  refine At.ret_ ?_
  refine At.reorder [1] ⟨fr 8 [(2, (vS Aj pj.length cj)), (3, (vI 0))], [.o (.slice Aj pj.length cj) pj.length (pj.flatMap Pt.enc) 30 1]⟩ rfl (by kernel_rfl) (by kernel_rfl) (by kernel_rfl) (by decide) (by kernel_rfl) ?_
  refine At.leaveR rfl ((Aj, cj), pj) (by kernel_rfl) (by kernel_rfl) (by kernel_rfl) ?_
  exact hpj

theorem parts1_no (Φ : Phi) (g0 : Nat) (nds : List Nd) (A : Option Addr) (c : Nat) (hR : NdsAt Φ A nds) (hl : nds.length ≤ 1000000) (ndsw : ∀ n ∈ nds, n.wf) (i : Nat) (hno : chk nds 0 0 = some i) (hB0 : RdC Φ (aS g0 0) [.slice A nds.length c])  : CallP Try.prog 61 [(vP g0 0)] [] Φ [{ v := .iface 33 (.int .i64 140), recovered := false }] := by
  refine CallG.enterk Try.func61 rfl [1, 2, 3, 4, 5, 6, 7, 8, 9, 10, 11, 12, 13, 14, 15, 16, 17, 18, 19, 20, 21, 22, 23, 24, 25, 26, 27, 28, 29, 30, 31, 32, 33, 34, 35, 36, 37, 38, 39, 40, 41, 42, 43, 44, 45, 46, 47, 48] ⟨fr 49 [(0, (vP g0 0))], []⟩ (by kernel_rfl) (by kernel_rfl) ?_
  intro E G β0
  refine At.seq ?_
  refine At.region ?_
  refine At.runk 1 [1] [] ⟨fr 49 [(0, (vP g0 0))], []⟩ (by kernel_rfl) ?_
  refine At.nil ?_
  refine At.then_normal ?_
  refine At.seq ?_
  refine At.region ?_
  refine At.vals (S' := ⟨fr 49 [(0, (vP g0 0)), (11, (vS A nds.length c))], []⟩) (by kernel_rfl) ((vS A nds.length c)) (by kernel_rfl) (Val.ldB rfl hB0 (Nat.zero_lt_succ _) 0 0 (by omega) (by kernel_rfl) ((vS A nds.length c)) (by kernel_rfl)) ?_
  refine At.callP rfl (by kernel_rfl) 43 [] [] (by kernel_rfl) Try.func43 (by kernel_rfl) (by kernel_rfl) [(vS A nds.length c)] (by kernel_rfl) (by kernel_rfl) (of_no Φ nds A c hR hl ndsw i hno) ?_
  intro Φ1 hle2
  have hR := hR.mono hle2
  have hB0 := hB0.mono hle2
  refine ⟨⟨fr 49 [(0, (vP g0 0)), (11, (vS A nds.length c))], []⟩, by kernel_rfl, by kernel_rfl, ?_⟩
  refine At.then_panic ?_
  refine At.forget [0, 11] 0 [] ⟨fr 49 [], []⟩ (by kernel_rfl) (by kernel_rfl) (bleT rfl) ?_
  exact At.leaveP rfl (by kernel_rfl)

theorem parts_no (Φ : Phi) (nds : List Nd) (A : Option Addr) (c : Nat) (hR : NdsAt Φ A nds) (hl : nds.length ≤ 1000000) (ndsw : ∀ n ∈ nds, n.wf) (i : Nat) (hno : chk nds 0 0 = some i)  : CallR Try.prog 24 [(vS A nds.length c)] [] Φ Unit (fun _ => .tup [(vS none 0 0), (vI 140)]) (fun _ => []) (fun _ _ => True) := by
  refine CallG.enterk Try.func24 rfl [1, 2, 3, 4, 5, 6, 7] ⟨fr 8 [(0, (vS A nds.length c))], []⟩ (by kernel_rfl) (by kernel_rfl) ?_
  intro E G β0
  refine At.seq ?_
  refine At.region ?_
  refine At.runk 3 [0, 2, 3] [] ⟨fr 8 [(1, .p 0 0)], [.c [(vS A nds.length c)] 30]⟩ (by kernel_rfl) ?_
  refine At.nil ?_
  refine At.then_normal ?_
  refine At.seq ?_
  refine At.freezeC 0 [.slice A nds.length c] rfl rfl (bleT rfl) (bleT rfl) (fun _ => by kernel_rfl) (fun _ => by kernel_rfl) ?_
  intro g2 Φ3 hle4 hBr1
  have hR := hR.mono hle4
  refine ⟨⟨fr 8 [(1, (vP g2 0))], [.dead]⟩, by kernel_rfl, ?_⟩
  refine At.region ?_
  refine At.runk 1 [1] [] ⟨fr 8 [(4, .fn (.func 61) [(vP g2 0)])], [.dead]⟩ (by kernel_rfl) ?_
  refine At.reval 4 (.fn (.func 61) [(vP g2 0)]) (.v (.func (.func 61) #[] #[.pointer (aS g2 0)])) (by kernel_rfl) (by kernel_rfl) (fun _ => by kernel_rfl) ⟨fr 8 [(4, .v (.func (.func 61) #[] #[.pointer (aS g2 0)]))], [.dead]⟩ (by kernel_rfl) (by kernel_rfl) ?_
  refine At.callV rfl (by kernel_rfl) 60 [] [] (by kernel_rfl) Try.func60 (by kernel_rfl) (by kernel_rfl) [.v (.func (.func 61) #[] #[.pointer (aS g2 0)])] (by kernel_rfl) (by kernel_rfl) (tries_rxs_no Φ3 61 #[.pointer (aS g2 0)] Try.f61 Try.func61 rfl rfl 140 (parts1_no Φ3 g2 nds A c hR hl ndsw i hno hBr1)) ?_
  rintro Φ5 ⟨⟩ hle6 -
  have hR := hR.mono hle6
  have hBr1 := hBr1.mono hle6
  refine ⟨⟨fr 8 [(4, .v (.func (.func 61) #[] #[.pointer (aS g2 0)])), (5, .tup [(vS none 0 0), (vI 140)])], [.dead]⟩, by kernel_rfl, by kernel_rfl, ?_⟩
  refine At.runk 4 [4, 5, 6, 7] [] ⟨fr 8 [(2, (vS none 0 0)), (3, (vI 140))], [.dead]⟩ (by kernel_rfl) ?_
  refine At.nil ?_
  refine At.then_normal ?_
  refine At.ret_ ?_
  refine At.forget [] 0 [] ⟨fr 8 [(2, (vS none 0 0)), (3, (vI 140))], []⟩ (by kernel_rfl) (by kernel_rfl) (bleT rfl) ?_
  refine At.leaveR rfl () (by kernel_rfl) (by kernel_rfl) (by kernel_rfl) ?_
  trivial

end Go.Sx
