/- RxF: printed by wip/gen/lib04.py. Walks over functions of the program. -/
import Derived.Test.YtgkjblbmiooedaaRxE
namespace Go.Sx
open Go.Proofs Go.RowKit
theorem need_ok (Φ : Phi) (e : Int)  : CallR Try.prog 45 [(vB true), (vI e)] [] Φ Unit (fun _ => .tup []) (fun _ => []) (fun _ _ => True) := by
  refine CallG.enterk Try.func45 rfl [2, 3, 4, 5, 6, 7] ⟨fr 8 [(0, (vB true)), (1, (vI e))], []⟩ (by kernel_rfl) (by kernel_rfl) ?_
  intro E G β0
  refine At.seq ?_
  refine At.region ?_
  refine At.runk 2 [0, 4] [] ⟨fr 8 [(1, (vI e)), (5, (vB false))], []⟩ (by kernel_rfl) ?_
  refine At.nil ?_
  refine At.then_normal ?_
  refine At.cond_f (by kernel_rfl) ?_
  refine At.skip ?_
  refine At.forget [1, 5] 0 [] ⟨fr 8 [], []⟩ (by kernel_rfl) (by kernel_rfl) (bleT rfl) ?_
  refine At.leaveR_end rfl () (by kernel_rfl) (by kernel_rfl) (by kernel_rfl) ?_
  trivial

theorem need_no (Φ : Phi) (e : Int)  : CallP Try.prog 45 [(vB false), (vI e)] [] Φ [{ v := .iface 33 (.int .i64 e), recovered := false }] := by
  refine CallG.enterk Try.func45 rfl [2, 3, 4, 5, 6, 7] ⟨fr 8 [(0, (vB false)), (1, (vI e))], []⟩ (by kernel_rfl) (by kernel_rfl) ?_
  intro E G β0
  refine At.seq ?_
  refine At.region ?_
  refine At.runk 2 [0, 4] [] ⟨fr 8 [(1, (vI e)), (5, (vB true))], []⟩ (by kernel_rfl) ?_
  refine At.nil ?_
  refine At.then_normal ?_
  refine At.cond_t (by kernel_rfl) ?_
  refine At.region ?_
  refine At.runk 2 [1, 5, 6] [] ⟨fr 8 [(7, .ifc 33 ((vI e)))], []⟩ (by kernel_rfl) ?_
  refine At.panicI rfl (by kernel_rfl) (t := 33) (y := .int .i64 e) (by kernel_rfl) ?_
  refine At.forget [7] 0 [] ⟨fr 8 [], []⟩ (by kernel_rfl) (by kernel_rfl) (bleT rfl) ?_
  exact At.leaveP rfl (by kernel_rfl)

theorem of_ok (Φ : Phi) (nds : List Nd) (A : Option Addr) (c : Nat) (hR : NdsAt Φ A nds) (hl : nds.length ≤ 1000000) (ndsw : ∀ n ∈ nds, n.wf) (hok : chk nds 0 0 = none)  : CallR Try.prog 43 [(vS A nds.length c)] [] Φ Nat (fun g => (vP g 0)) (fun _ => []) (fun g Φ => RdC Φ (aS g 0) [.slice A nds.length c]) := by
  refine CallG.enterk Try.func43 rfl [1, 2, 3, 4, 5, 6, 7, 8, 9, 10, 11, 12, 13, 14, 15] ⟨fr 16 [(0, (vS A nds.length c))], []⟩ (by kernel_rfl) (by kernel_rfl) ?_
  intro E G β0
  refine At.seq ?_
  refine At.region ?_
  refine At.runk 1 [2] [] ⟨fr 16 [(0, (vS A nds.length c))], []⟩ (by kernel_rfl) ?_
  refine At.nil ?_
  refine At.then_normal ?_
  refine At.seq ?_
  refine At.region ?_
  refine At.runk 1 [] [] ⟨fr 16 [(0, (vS A nds.length c)), (6, (vS A nds.length c))], []⟩ (by kernel_rfl) ?_
  refine At.callV rfl (by kernel_rfl) 21 [] [] (by kernel_rfl) Try.func21 (by kernel_rfl) (by kernel_rfl) [(vS A nds.length c)] (by kernel_rfl) (by kernel_rfl) (check_c Φ nds A c hR hl ndsw) ?_
  rintro Φ1 t hle2 hFt
  have hR := hR.mono hle2
  rw [chkR_ok hok] at hFt
  subst hFt
  refine ⟨⟨fr 16 [(0, (vS A nds.length c)), (6, (vS A nds.length c)), (7, .tup [(vI 0), (vI 0)])], []⟩, by kernel_rfl, by kernel_rfl, ?_⟩
  refine At.runk 5 [3, 5, 6, 7, 8, 9] [] ⟨fr 16 [(0, (vS A nds.length c)), (4, (vI 0))], []⟩ (by kernel_rfl) ?_
  refine At.nil ?_
  refine At.then_normal ?_
  refine At.seq ?_
  refine At.region ?_
  refine At.runk 2 [4, 10] [] ⟨fr 16 [(0, (vS A nds.length c)), (11, (vB true))], []⟩ (by kernel_rfl) ?_
  refine At.callV rfl (by kernel_rfl) 45 [] [] (by kernel_rfl) Try.func45 (by kernel_rfl) (by kernel_rfl) [(vB true), (vI 140)] (by kernel_rfl) (by kernel_rfl) (need_ok Φ1 140) ?_
  rintro Φ3 ⟨⟩ hle4 -
  have hR := hR.mono hle4
  refine ⟨⟨fr 16 [(0, (vS A nds.length c)), (11, (vB true)), (12, .tup [])], []⟩, by kernel_rfl, by kernel_rfl, ?_⟩
  refine At.nil ?_
  refine At.then_normal ?_
  refine At.seq ?_
  refine At.region ?_
  refine At.runk 4 [0, 11, 12, 13, 14, 15] [] ⟨fr 16 [(2, .p 0 0)], [.c [(vS A nds.length c)] 71]⟩ (by kernel_rfl) ?_
  refine At.freezeC 0 [.slice A nds.length c] rfl rfl (bleT rfl) (bleT rfl) (fun _ => by kernel_rfl) (fun _ => by kernel_rfl) ?_
  intro g5 Φ6 hle7 hB8
  have hR := hR.mono hle7
  refine ⟨⟨fr 16 [(2, (vP g5 0))], [.dead]⟩, by kernel_rfl, ?_⟩
  refine At.nil ?_
  refine At.then_normal ?_
  refine At.ret_ ?_
  refine At.forget [] 0 [] ⟨fr 16 [(2, (vP g5 0))], []⟩ (by kernel_rfl) (by kernel_rfl) (bleT rfl) ?_
  refine At.leaveR rfl g5 (by kernel_rfl) (by kernel_rfl) (by kernel_rfl) ?_
  exact hB8

theorem of_no (Φ : Phi) (nds : List Nd) (A : Option Addr) (c : Nat) (hR : NdsAt Φ A nds) (hl : nds.length ≤ 1000000) (ndsw : ∀ n ∈ nds, n.wf) (i : Nat) (hno : chk nds 0 0 = some i)  : CallP Try.prog 43 [(vS A nds.length c)] [] Φ [{ v := .iface 33 (.int .i64 140), recovered := false }] := by
  refine CallG.enterk Try.func43 rfl [1, 2, 3, 4, 5, 6, 7, 8, 9, 10, 11, 12, 13, 14, 15] ⟨fr 16 [(0, (vS A nds.length c))], []⟩ (by kernel_rfl) (by kernel_rfl) ?_
  intro E G β0
  refine At.seq ?_
  refine At.region ?_
  refine At.runk 1 [2] [] ⟨fr 16 [(0, (vS A nds.length c))], []⟩ (by kernel_rfl) ?_
  refine At.nil ?_
  refine At.then_normal ?_
  refine At.seq ?_
  refine At.region ?_
  refine At.runk 1 [] [] ⟨fr 16 [(0, (vS A nds.length c)), (6, (vS A nds.length c))], []⟩ (by kernel_rfl) ?_
  refine At.callV rfl (by kernel_rfl) 21 [] [] (by kernel_rfl) Try.func21 (by kernel_rfl) (by kernel_rfl) [(vS A nds.length c)] (by kernel_rfl) (by kernel_rfl) (check_c Φ nds A c hR hl ndsw) ?_
  rintro Φ1 t hle2 hFt
  have hR := hR.mono hle2
  rw [chkR_no hno] at hFt
  subst hFt
  refine ⟨⟨fr 16 [(0, (vS A nds.length c)), (6, (vS A nds.length c)), (7, .tup [(vI (i : Int)), (vI 140)])], []⟩, by kernel_rfl, by kernel_rfl, ?_⟩
  refine At.runk 5 [3, 5, 6, 7, 8, 9] [] ⟨fr 16 [(0, (vS A nds.length c)), (4, (vI 140))], []⟩ (by kernel_rfl) ?_
  refine At.nil ?_
  refine At.then_normal ?_
  refine At.seq ?_
  refine At.region ?_
  refine At.runk 2 [4, 10] [] ⟨fr 16 [(0, (vS A nds.length c)), (11, (vB false))], []⟩ (by kernel_rfl) ?_
  refine At.callP rfl (by kernel_rfl) 45 [] [] (by kernel_rfl) Try.func45 (by kernel_rfl) (by kernel_rfl) [(vB false), (vI 140)] (by kernel_rfl) (by kernel_rfl) (need_no Φ1 140) ?_
  intro Φ3 hle4
  have hR := hR.mono hle4
  refine ⟨⟨fr 16 [(0, (vS A nds.length c)), (11, (vB false))], []⟩, by kernel_rfl, by kernel_rfl, ?_⟩
  refine At.then_panic ?_
  refine At.forget [0, 11] 0 [] ⟨fr 16 [], []⟩ (by kernel_rfl) (by kernel_rfl) (bleT rfl) ?_
  exact At.leaveP rfl (by kernel_rfl)

theorem clone_c (Φ : Phi) (nds : List Nd) (A : Option Addr) (c : Nat) (hR : NdsAt Φ A nds) (hl : nds.length ≤ 1000000)  : CallR Try.prog 40 [(vS A nds.length c)] [] Φ (Option Addr × Nat) (fun t => (vS t.1 nds.length t.2)) (fun t => [.o (.slice t.1 nds.length t.2) nds.length (nds.flatMap Nd.cells) 26 7]) (fun t _ => nds.length ≤ t.2) := by
  refine CallG.enterk Try.func40 rfl [1, 2, 3, 4, 5, 6, 7] ⟨fr 8 [(0, (vS A nds.length c))], []⟩ (by kernel_rfl) (by kernel_rfl) ?_
  intro E G β0
  refine At.seq ?_
  refine At.region ?_
  refine At.runk 1 [2] [] ⟨fr 8 [(0, (vS A nds.length c))], []⟩ (by kernel_rfl) ?_
  refine At.nil ?_
  refine At.then_normal ?_
  refine At.seq ?_
  refine At.seq ?_
  refine At.region ?_
  refine At.runk 1 [] [] ⟨fr 8 [(0, (vS A nds.length c)), (3, (vS A nds.length c))], []⟩ (by kernel_rfl) ?_
  rcases A with _ | ad1
  · refine At.runk 1 [3] [] ⟨fr 8 [(0, (vS none nds.length c)), (4, (vB true))], []⟩ (by kernel_rfl) ?_
    refine At.nil ?_
    refine At.then_normal ?_
    refine At.cond_t (by kernel_rfl) ?_
    refine At.seq ?_
    refine At.region ?_
    refine At.runk 1 [0, 4] [] ⟨fr 8 [(2, (vS none 0 0))], []⟩ (by kernel_rfl) ?_
    refine At.nil ?_
    refine At.then_normal ?_
    obtain rfl : nds = [] := nds_nil hR
    refine At.nilrow 26 7 ⟨fr 8 [(2, (vS none 0 0))], [.o (.slice none 0 0) 0 [] 26 7]⟩ (by kernel_rfl) (by kernel_rfl) ?_
    refine At.ret_ ?_
    refine At.then_ret ?_
    refine At.leaveR rfl (none, 0) (by kernel_rfl) (by kernel_rfl) (by kernel_rfl) ?_
    first | exact Nat.zero_le _ | (dsimp only; omega)
  · refine At.runk 1 [3] [] ⟨fr 8 [(0, (vS (some ad1) nds.length c)), (4, (vB false))], []⟩ (by kernel_rfl) ?_
    refine At.nil ?_
    refine At.then_normal ?_
    refine At.cond_f (by kernel_rfl) ?_
    refine At.skip ?_
    refine At.then_normal ?_
    refine At.seq ?_
    refine At.region ?_
    refine At.runk 2 [0, 4] [] ⟨fr 8 [(5, .s 0 0 0 0), (6, (vS (some ad1) nds.length c))], [.c [] 26]⟩ (by kernel_rfl) ?_
    refine At.toRow 0 0 [] 7 rfl rfl rfl (bleT rfl) ?_
    intro g2
    refine ⟨⟨fr 8 [(5, (vS (aS g2 0) 0 0)), (6, (vS (some ad1) nds.length c))], [.o (.slice (aS g2 0) 0 0) 0 [] 26 7]⟩, by kernel_rfl, by kernel_rfl, ?_⟩
    refine At.append rfl (by kernel_rfl) (e := 26) (inf := Try.t26) (sz := 7) (by kernel_rfl) (by kernel_rfl) rfl rfl rfl (Nat.zero_lt_succ _) 0 (V := .slice (aS g2 0) 0 0) (n := 0) (xs := []) (by kernel_rfl) (by kernel_rfl) nds.length (nds.flatMap Nd.cells) (Src.phi (A := (some ad1)) (m := nds.length) (c := c) (by kernel_rfl) hR) (flat_len (enc := Nd.cells) (sz := 7) (fun _ => rfl) _) (nds_one _) (by unfold maxLen; omega) (by show (0 + nds.length) * 56 ≤ _; omega) ?_
    intro A3 c4 h5 h6 h7
    refine ⟨⟨fr 8 [(5, (vS (aS g2 0) 0 0)), (6, (vS (some ad1) nds.length c)), (7, (vS A3 (0 + nds.length) c4))], [.o (.slice A3 (0 + nds.length) c4) (0 + nds.length) (nds.flatMap Nd.cells) 26 7]⟩, by kernel_rfl, ?_⟩
    refine At.cast (S' := ⟨fr 8 [(5, (vS (aS g2 0) 0 0)), (6, (vS (some ad1) nds.length c)), (7, (vS A3 nds.length c4))], [.o (.slice A3 nds.length c4) nds.length (nds.flatMap Nd.cells) 26 7]⟩) (by simp only [Nat.zero_add]) ?_
    simp only [Nat.zero_add] at h5
    refine At.runk 1 [5, 6, 7] [] ⟨fr 8 [(2, (vS A3 nds.length c4))], [.o (.slice A3 nds.length c4) nds.length (nds.flatMap Nd.cells) 26 7]⟩ (by kernel_rfl) ?_
    refine At.nil ?_
    refine At.then_normal ?_
    refine At.ret_ ?_
    refine At.leaveR rfl (A3, c4) (by kernel_rfl) (by kernel_rfl) (by kernel_rfl) ?_
    first | exact Nat.zero_le _ | (dsimp only; omega)

theorem own_c (Φ : Phi) (nds : List Nd) (A : Option Addr) (c : Nat) (hR : NdsAt Φ A nds) (hc : nds.length ≤ c)  : CallR Try.prog 10 [(vS A nds.length c)] [] Φ (Option Addr × Nat) (fun t => (vS t.1 (nds.take 60).length t.2)) (fun t => [.o (.slice t.1 (nds.take 60).length t.2) (nds.take 60).length ((nds.take 60).flatMap Nd.cells) 26 7]) (fun t _ => (nds.take 60).length ≤ t.2) := by
  refine CallG.enterk Try.func10 rfl [1, 2, 3, 4, 5, 6, 7, 8] ⟨fr 9 [(0, (vS A nds.length c))], []⟩ (by kernel_rfl) (by kernel_rfl) ?_
  intro E G β0
  refine At.seq ?_
  refine At.region ?_
  refine At.runk 1 [2] [] ⟨fr 9 [(0, (vS A nds.length c))], []⟩ (by kernel_rfl) ?_
  refine At.nil ?_
  refine At.then_normal ?_
  refine At.seq ?_
  refine At.region ?_
  refine At.runk 3 [0, 4] [] ⟨fr 9 [(3, (vS A nds.length c)), (5, (vI (nds.length : Int)))], []⟩ (by kernel_rfl) ?_
  refine At.vals (S' := ⟨fr 9 [(3, (vS A nds.length c)), (5, (vI (nds.length : Int))), (6, (vI ((nds.take 60).length : Int)))], []⟩) (by kernel_rfl) ((vI ((nds.take 60).length : Int))) (by kernel_rfl) (Val.min rfl (k := .i64) (a := (nds.length : Int)) (b := 60) (by kernel_rfl) (by kernel_rfl) (by simp only [List.length_take]; split <;> omega)) ?_
  refine At.slice rfl (by kernel_rfl) (e := 26) (by kernel_rfl) (sz := 7) (by kernel_rfl) (A := A) (n := nds.length) (c := c) (by kernel_rfl) 0 ((nds.take 60).length) c rfl ⟨.i64, by kernel_rfl⟩ rfl (by omega) (by simp only [List.length_take]; omega) (by omega) ?_
  intro A1 hA2 hA3
  obtain rfl := (hA2 rfl).symm
  refine ⟨⟨fr 9 [(3, (vS A nds.length c)), (5, (vI (nds.length : Int))), (6, (vI ((nds.take 60).length : Int))), (7, (vS A ((nds.take 60).length) c))], []⟩, by kernel_rfl, ?_⟩
  refine At.callV rfl (by kernel_rfl) 40 [] [] (by kernel_rfl) Try.func40 (by kernel_rfl) (by kernel_rfl) [(vS A ((nds.take 60).length) c)] (by kernel_rfl) (by kernel_rfl) (clone_c Φ (nds.take 60) A c (nds_take hR 60) (by simp only [List.length_take]; omega)) ?_
  rintro Φ7 ⟨A4, c5⟩ hle8 h6
  have hR := hR.mono hle8
  dsimp only at h6
  refine ⟨⟨fr 9 [(3, (vS A nds.length c)), (5, (vI (nds.length : Int))), (6, (vI ((nds.take 60).length : Int))), (7, (vS A ((nds.take 60).length) c)), (8, (vS A4 ((nds.take 60).length) c5))], [.o (.slice A4 ((nds.take 60).length) c5) ((nds.take 60).length) ((nds.take 60).flatMap Nd.cells) 26 7]⟩, by kernel_rfl, by kernel_rfl, ?_⟩
  refine At.runk 1 [3, 5, 6, 7, 8] [] ⟨fr 9 [(2, (vS A4 ((nds.take 60).length) c5))], [.o (.slice A4 ((nds.take 60).length) c5) ((nds.take 60).length) ((nds.take 60).flatMap Nd.cells) 26 7]⟩ (by kernel_rfl) ?_
  refine At.nil ?_
  refine At.then_normal ?_
  refine At.ret_ ?_
  refine At.leaveR rfl (A4, c5) (by kernel_rfl) (by kernel_rfl) (by kernel_rfl) ?_
  dsimp only; omega

end Go.Sx
