/- RxO: printed by wip/gen/lib04.py. Walks over functions of the program. -/
import Derived.Test.YtgkjblbmiooedaaRxN
namespace Go.Sx
open Go.Proofs Go.RowKit
theorem begin_c (Φ : Phi) (gT at_ : Nat) (nds : List Nd) (A : Option Addr) (c : Nat) (hR : NdsAt Φ A nds) (hl : nds.length ≤ 1000000) (ndsw : ∀ n ∈ nds, n.wf) (hT : RdC Φ (aS gT 0) [.slice A nds.length c]) (hok : chk nds 0 0 = none) (hat : at_ < nds.length) : CallR Try.prog 59 [(vP gT 0), (vI (at_ : Int))] [] Φ Int (fun t => (vI t)) (fun _ => []) (fun t _ => t = (bgN nds at_ : Int)) := by
  refine CallG.enterM Try.func59 rfl [2, 3, 4, 5, 6, 7, 8, 9, 10, 11, 12, 13, 14, 15] ⟨fr 16 [(0, (vP gT 0)), (1, (vI (at_ : Int)))], []⟩ (by kernel_rfl) (by kernel_rfl) ?_
  intro E G β0
  refine At.seq ?_
  refine At.region ?_
  refine At.runk 2 [1] [] ⟨fr 16 [(0, (vP gT 0)), (3, .p 0 0), (4, .p 1 0)], [.c [(vI (at_ : Int))] 3, .c [(vI 0)] 3]⟩ (by kernel_rfl) ?_
  refine At.nil ?_
  refine At.then_normal ?_
  refine At.seq ?_
  refine At.seq ?_
  refine At.region ?_
  refine At.runk 1 [0] [] ⟨fr 16 [(3, .p 0 0), (4, .p 1 0), (7, (vP gT 0))], [.c [(vI (at_ : Int))] 3, .c [(vI 0)] 3]⟩ (by kernel_rfl) ?_
  refine At.callV rfl (by kernel_rfl) 88 [] [] (by kernel_rfl) Try.func88 (by kernel_rfl) (by kernel_rfl) [(vP gT 0)] (by kernel_rfl) (by kernel_rfl) (nodes_c Φ gT) ?_
  rintro Φ1 gN hle2 hN
  have hR := hR.mono hle2
  have hT := hT.mono hle2
  refine ⟨⟨fr 16 [(3, .p 0 0), (4, .p 1 0), (7, (vP gT 0)), (8, .v (.func (.func 94) #[] #[.pointer (aS gN 0)]))], [.c [(vI (at_ : Int))] 3, .c [(vI 0)] 3]⟩, by kernel_rfl, by kernel_rfl, ?_⟩
  refine At.nil ?_
  refine At.then_normal ?_
  refine At.block ?_
  refine At.freezeC 0 [.int .i64 (at_ : Int)] rfl rfl (bleT rfl) (bleT rfl) (fun _ => by kernel_rfl) (fun _ => by kernel_rfl) ?_
  intro g3 Φ4 hle5 h3
  have hR := hR.mono hle5
  have hT := hT.mono hle5
  have hN := hN.mono hle5
  refine ⟨⟨fr 16 [(3, (vP g3 0)), (4, .p 1 0), (7, (vP gT 0)), (8, .v (.func (.func 94) #[] #[.pointer (aS gN 0)]))], [.dead, .c [(vI 0)] 3]⟩, by kernel_rfl, ?_⟩
  refine At.toRow 1 1 [.int .i64 0] 1 rfl rfl rfl (bleT rfl) ?_
  intro g6
  refine ⟨⟨fr 16 [(3, (vP g3 0)), (4, (vP g6 0)), (7, (vP gT 0)), (8, .v (.func (.func 94) #[] #[.pointer (aS gN 0)]))], [.dead, .o (.slice (aS g6 0) 1 1) 1 [.int .i64 0] 3 1]⟩, by kernel_rfl, by kernel_rfl, ?_⟩
  refine At.killc [7] [] ⟨fr 16 [(3, (vP g3 0)), (4, (vP g6 0)), (8, .v (.func (.func 94) #[] #[.pointer (aS gN 0)]))], [.dead, .o (.slice (aS g6 0) 1 1) 1 [.int .i64 0] 3 1]⟩ (by kernel_rfl) ?_
  refine At.reorder [1] ⟨fr 16 [(3, (vP g3 0)), (4, (vP g6 0)), (8, .v (.func (.func 94) #[] #[.pointer (aS gN 0)]))], [.o (.slice (aS g6 0) 1 1) 1 [.int .i64 0] 3 1]⟩ rfl (by kernel_rfl) (by kernel_rfl) (by kernel_rfl) (by decide) (by kernel_rfl) ?_
  refine At.rangeF (g := g6) (T := 3) (x := .int .i64 0) (x' := .int .i64 (bg nds at_)) (gf := 94) (caps := #[.pointer (aS gN 0)]) (by kernel_rfl) Try.func94 (by kernel_rfl) (by kernel_rfl) (by kernel_rfl) (iter_c Φ4 gT gN g3 g6 at_ nds A c hR hl ndsw hT hok hat hN h3) (fun _ _ h => h) (p := 4) rfl (by kernel_rfl) (by kernel_rfl) (fun Φ' hle => ⟨bg nds at_, rfl, rfl, (bg_nat nds at_).1⟩)

theorem cut_c (Φ : Phi) (gT a b : Nat) (nds : List Nd) (A : Option Addr) (c : Nat) (hR : NdsAt Φ A nds) (hl : nds.length ≤ 1000000) (ndsw : ∀ n ∈ nds, n.wf) (hT : RdC Φ (aS gT 0) [.slice A nds.length c]) (hc : nds.length ≤ c) (hab : a ≤ b) (hb : b ≤ nds.length)  : CallR Try.prog 58 [(vP gT 0), (vI (a : Int)), (vI (b : Int))] [] Φ (Option Addr × Nat) (fun t => (vS t.1 (sub nds a b).length t.2)) (fun t => [.o (.slice t.1 (sub nds a b).length t.2) (sub nds a b).length ((sub nds a b).flatMap Nd.cells) 26 7]) (fun t _ => (sub nds a b).length ≤ t.2) := by
  refine CallG.enterk Try.func58 rfl [3, 4, 5, 6, 7, 8, 9, 10, 11, 12, 13, 14, 15, 16, 17, 18, 19, 20, 21, 22, 23, 24, 25, 26, 27, 28] ⟨fr 29 [(0, (vP gT 0)), (1, (vI (a : Int))), (2, (vI (b : Int)))], []⟩ (by kernel_rfl) (by kernel_rfl) ?_
  intro E G β0
  refine At.seq ?_
  refine At.region ?_
  refine At.runk 1 [6] [] ⟨fr 29 [(0, (vP gT 0)), (1, (vI (a : Int))), (2, (vI (b : Int)))], []⟩ (by kernel_rfl) ?_
  refine At.nil ?_
  refine At.then_normal ?_
  refine At.seq ?_
  refine At.region ?_
  refine At.runk 3 [8, 9] [] ⟨fr 29 [(0, (vP gT 0)), (1, (vI (a : Int))), (2, (vI (b : Int))), (10, (vI (IntKind.i64.wrap ((b : Int) - (a : Int)))))], []⟩ (by kernel_rfl) ?_
  refine At.cast (S' := ⟨fr 29 [(0, (vP gT 0)), (1, (vI (a : Int))), (2, (vI (b : Int))), (10, (vI ((b : Int) - (a : Int))))], []⟩) (by rw [wrapI (z := (b : Int) - (a : Int)) (by omega) (by omega)]) ?_
  refine At.cast (S' := ⟨fr 29 [(0, (vP gT 0)), (1, (vI (a : Int))), (2, (vI (b : Int))), (10, (vI ((b - a : Nat) : Int)))], []⟩) (by rw [show ((b : Int) - (a : Int)) = ((b - a : Nat) : Int) from by omega]) ?_
  refine At.makeS rfl (by kernel_rfl) (e := 26) (inf := Try.t26) (sz := 7) (by kernel_rfl) (by kernel_rfl) rfl rfl (kd := .i64) (kd' := .i64) (b - a : Nat) (by kernel_rfl) (by kernel_rfl) (by show 56 * (b - a : Nat) ≤ _; omega) (by unfold maxLen; omega) (by omega) ?_
  intro g1 zs2 hz3
  refine ⟨⟨fr 29 [(0, (vP gT 0)), (1, (vI (a : Int))), (2, (vI (b : Int))), (10, (vI ((b - a : Nat) : Int))), (11, (vS (aS g1 0) (b - a : Nat) (b - a : Nat)))], [.o (.slice (aS g1 0) (b - a : Nat) (b - a : Nat)) (b - a : Nat) zs2 26 7]⟩, by kernel_rfl, by kernel_rfl, ?_⟩
  refine At.runk 1 [10, 11] [] ⟨fr 29 [(0, (vP gT 0)), (1, (vI (a : Int))), (2, (vI (b : Int))), (7, (vS (aS g1 0) (b - a : Nat) (b - a : Nat)))], [.o (.slice (aS g1 0) (b - a : Nat) (b - a : Nat)) (b - a : Nat) zs2 26 7]⟩ (by kernel_rfl) ?_
  refine At.nil ?_
  refine At.then_normal ?_
  refine At.seq ?_
  refine At.region ?_
  refine At.runk 4 [0, 13, 14] [] ⟨fr 29 [(1, (vI (a : Int))), (2, (vI (b : Int))), (7, (vS (aS g1 0) (b - a : Nat) (b - a : Nat))), (12, (vS (aS g1 0) (b - a : Nat) (b - a : Nat))), (15, (vP gT 0))], [.o (.slice (aS g1 0) (b - a : Nat) (b - a : Nat)) (b - a : Nat) zs2 26 7]⟩ (by kernel_rfl) ?_
  refine At.vals (S' := ⟨fr 29 [(1, (vI (a : Int))), (2, (vI (b : Int))), (7, (vS (aS g1 0) (b - a : Nat) (b - a : Nat))), (12, (vS (aS g1 0) (b - a : Nat) (b - a : Nat))), (15, (vP gT 0)), (16, (vS A nds.length c))], [.o (.slice (aS g1 0) (b - a : Nat) (b - a : Nat)) (b - a : Nat) zs2 26 7]⟩) (by kernel_rfl) ((vS A nds.length c)) (by kernel_rfl) (Val.ldB rfl hT (Nat.zero_lt_succ _) 0 0 (by omega) (by kernel_rfl) ((vS A nds.length c)) (by kernel_rfl)) ?_
  refine At.runk 2 [15] [] ⟨fr 29 [(1, (vI (a : Int))), (2, (vI (b : Int))), (7, (vS (aS g1 0) (b - a : Nat) (b - a : Nat))), (12, (vS (aS g1 0) (b - a : Nat) (b - a : Nat))), (16, (vS A nds.length c)), (17, (vI (a : Int))), (18, (vI (b : Int)))], [.o (.slice (aS g1 0) (b - a : Nat) (b - a : Nat)) (b - a : Nat) zs2 26 7]⟩ (by kernel_rfl) ?_
  refine At.slice rfl (by kernel_rfl) (e := 26) (by kernel_rfl) (sz := 7) (by kernel_rfl) (A := A) (n := nds.length) (c := c) (by kernel_rfl) a b c ⟨.i64, by kernel_rfl⟩ ⟨.i64, by kernel_rfl⟩ rfl (by omega) (by omega) (by omega) ?_
  intro A4 hA5 hA6
  refine ⟨⟨fr 29 [(1, (vI (a : Int))), (2, (vI (b : Int))), (7, (vS (aS g1 0) (b - a : Nat) (b - a : Nat))), (12, (vS (aS g1 0) (b - a : Nat) (b - a : Nat))), (16, (vS A nds.length c)), (17, (vI (a : Int))), (18, (vI (b : Int))), (19, (vS A4 (b - a) (c - a)))], [.o (.slice (aS g1 0) (b - a : Nat) (b - a : Nat)) (b - a : Nat) zs2 26 7]⟩, by kernel_rfl, ?_⟩
  have hsub : NdsAt Φ A4 (sub nds a b) := sub_row hc hA6 hR
  refine At.copyrow (S' := ⟨fr 29 [(1, (vI (a : Int))), (2, (vI (b : Int))), (7, (vS (aS g1 0) (b - a : Nat) (b - a : Nat))), (12, (vS (aS g1 0) (b - a : Nat) (b - a : Nat))), (16, (vS A nds.length c)), (17, (vI (a : Int))), (18, (vI (b : Int))), (19, (vS A4 (b - a) (c - a))), (20, (vI ((b - a : Nat) : Int)))], [.o (.slice (aS g1 0) (b - a : Nat) (b - a : Nat)) (b - a : Nat) ((sub nds a b).flatMap Nd.cells) 26 7]⟩) rfl (by kernel_rfl) (e := 26) (sz := 7) (by kernel_rfl) (by kernel_rfl) 0 (g := g1) (n := (b - a : Nat)) (c := (b - a : Nat)) (xs := zs2) (by kernel_rfl) (by kernel_rfl) ((sub nds a b).flatMap Nd.cells) (Src.phi (A := A4) (m := (b - a)) (c := (c - a)) (by kernel_rfl) hsub) ((by rw [flat_len (enc := Nd.cells) (sz := 7) (fun _ => rfl), sub_len (by omega)])) (nds_one _) (by kernel_rfl) ?_
  refine At.nil ?_
  refine At.then_normal ?_
  refine At.seq ?_
  refine At.region ?_
  refine At.runk 4 [7, 12, 16, 17, 18, 19, 20, 22, 23] [] ⟨fr 29 [(1, (vI (a : Int))), (2, (vI (b : Int))), (21, (vS (aS g1 0) (b - a : Nat) (b - a : Nat))), (24, (vI (IntKind.i64.wrap ((b : Int) - (a : Int)))))], [.o (.slice (aS g1 0) (b - a : Nat) (b - a : Nat)) (b - a : Nat) ((sub nds a b).flatMap Nd.cells) 26 7]⟩ (by kernel_rfl) ?_
  refine At.cast (S' := ⟨fr 29 [(1, (vI (a : Int))), (2, (vI (b : Int))), (21, (vS (aS g1 0) (b - a : Nat) (b - a : Nat))), (24, (vI ((b : Int) - (a : Int))))], [.o (.slice (aS g1 0) (b - a : Nat) (b - a : Nat)) (b - a : Nat) ((sub nds a b).flatMap Nd.cells) 26 7]⟩) (by rw [wrapI (z := (b : Int) - (a : Int)) (by omega) (by omega)]) ?_
  refine At.cast (S' := ⟨fr 29 [(1, (vI (a : Int))), (2, (vI (b : Int))), (21, (vS (aS g1 0) (b - a : Nat) (b - a : Nat))), (24, (vI ((b - a : Nat) : Int)))], [.o (.slice (aS g1 0) (b - a : Nat) (b - a : Nat)) (b - a : Nat) ((sub nds a b).flatMap Nd.cells) 26 7]⟩) (by rw [show ((b : Int) - (a : Int)) = ((b - a : Nat) : Int) from by omega]) ?_
  refine At.runk 3 [1, 2, 25, 26] [] ⟨fr 29 [(21, (vS (aS g1 0) (b - a : Nat) (b - a : Nat))), (24, (vI ((b - a : Nat) : Int))), (27, (vI (IntKind.i64.wrap ((b : Int) - (a : Int)))))], [.o (.slice (aS g1 0) (b - a : Nat) (b - a : Nat)) (b - a : Nat) ((sub nds a b).flatMap Nd.cells) 26 7]⟩ (by kernel_rfl) ?_
  refine At.cast (S' := ⟨fr 29 [(21, (vS (aS g1 0) (b - a : Nat) (b - a : Nat))), (24, (vI ((b - a : Nat) : Int))), (27, (vI ((b : Int) - (a : Int))))], [.o (.slice (aS g1 0) (b - a : Nat) (b - a : Nat)) (b - a : Nat) ((sub nds a b).flatMap Nd.cells) 26 7]⟩) (by rw [wrapI (z := (b : Int) - (a : Int)) (by omega) (by omega)]) ?_
  refine At.cast (S' := ⟨fr 29 [(21, (vS (aS g1 0) (b - a : Nat) (b - a : Nat))), (24, (vI ((b - a : Nat) : Int))), (27, (vI ((b - a : Nat) : Int)))], [.o (.slice (aS g1 0) (b - a : Nat) (b - a : Nat)) (b - a : Nat) ((sub nds a b).flatMap Nd.cells) 26 7]⟩) (by rw [show ((b : Int) - (a : Int)) = ((b - a : Nat) : Int) from by omega]) ?_
  refine At.slice rfl (by kernel_rfl) (e := 26) (by kernel_rfl) (sz := 7) (by kernel_rfl) (A := (aS g1 0)) (n := (b - a : Nat)) (c := (b - a : Nat)) (by kernel_rfl) 0 (b - a : Nat) (b - a : Nat) rfl ⟨.i64, by kernel_rfl⟩ ⟨.i64, by kernel_rfl⟩ (by omega) (Nat.le_refl _) (Nat.le_refl _) ?_
  intro A7 hA8 hA9
  obtain rfl := (hA8 rfl).symm
  refine ⟨⟨fr 29 [(21, (vS (aS g1 0) (b - a : Nat) (b - a : Nat))), (24, (vI ((b - a : Nat) : Int))), (27, (vI ((b - a : Nat) : Int))), (28, (vS (aS g1 0) (b - a : Nat) (b - a : Nat)))], [.o (.slice (aS g1 0) (b - a : Nat) (b - a : Nat)) (b - a : Nat) ((sub nds a b).flatMap Nd.cells) 26 7]⟩, by kernel_rfl, ?_⟩
  refine At.runk 1 [21, 24, 27, 28] [] ⟨fr 29 [(6, (vS (aS g1 0) (b - a : Nat) (b - a : Nat)))], [.o (.slice (aS g1 0) (b - a : Nat) (b - a : Nat)) (b - a : Nat) ((sub nds a b).flatMap Nd.cells) 26 7]⟩ (by kernel_rfl) ?_
  have hsl : (sub nds a b).length = b - a := sub_len (by omega)
  refine At.cast (S' := ⟨fr 29 [(6, (vS (aS g1 0) ((sub nds a b).length) (b - a : Nat)))], [.o (.slice (aS g1 0) ((sub nds a b).length) (b - a : Nat)) ((sub nds a b).length) ((sub nds a b).flatMap Nd.cells) 26 7]⟩) (by rw [hsl]) ?_
  refine At.nil ?_
  refine At.then_normal ?_
  refine At.ret_ ?_
  refine At.leaveR rfl ((aS g1 0), (b - a : Nat)) (by kernel_rfl) (by kernel_rfl) (by kernel_rfl) ?_
  dsimp only; omega

end Go.Sx
