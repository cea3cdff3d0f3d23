/- RxK: printed by wip/gen/lib04.py. Walks over functions of the program. -/
import Derived.Test.YtgkjblbmiooedaaRxJ
namespace Go.Sx
open Go.Proofs Go.RowKit
theorem grow_c (Φ : Phi) (n : Nat) (hn : n ≤ 1000000)  : CallR Try.prog 74 [(vS none 0 0), (vI (n : Int))] [] Φ (Option Addr × Nat) (fun t => (vS t.1 0 t.2)) (fun t => [.o (.slice t.1 0 t.2) 0 [] 26 7]) (fun _ _ => True) := by
  refine CallG.enterk Try.func74 rfl [2, 3, 4, 5, 6, 7, 8, 9, 10, 11, 12, 13, 14, 15, 16, 17, 18, 19, 20, 21, 22, 23, 24, 25, 26] ⟨fr 27 [(0, (vS none 0 0)), (1, (vI (n : Int)))], []⟩ (by kernel_rfl) (by kernel_rfl) ?_
  intro E G β0
  refine At.seq ?_
  refine At.region ?_
  refine At.runk 1 [4] [] ⟨fr 27 [(0, (vS none 0 0)), (1, (vI (n : Int)))], []⟩ (by kernel_rfl) ?_
  refine At.nil ?_
  refine At.then_normal ?_
  refine At.seq ?_
  refine At.seq ?_
  refine At.region ?_
  refine At.runk 2 [5] [] ⟨fr 27 [(0, (vS none 0 0)), (1, (vI (n : Int))), (6, (vB (decide ((n : Int) < 0))))], []⟩ (by kernel_rfl) ?_
  refine At.nil ?_
  refine At.then_normal ?_
  refine At.bcase (decide ((n : Int) < 0)) (fun hb1 => ?_) (fun hb1 => ?_)
  · have hb1p : ((n : Int) < 0) := of_decide_eq_true hb1
    exfalso; omega
  have hb1p : ¬ ((n : Int) < 0) := of_decide_eq_false hb1
  refine At.cast (S' := ⟨fr 27 [(0, (vS none 0 0)), (1, (vI (n : Int))), (6, (vB false))], []⟩) (by rw [hb1] <;> rfl) ?_
  refine At.cond_f (by kernel_rfl) ?_
  refine At.skip ?_
  refine At.then_normal ?_
  refine At.seq ?_
  refine At.seq ?_
  refine At.region ?_
  refine At.runk 2 [1, 6] [] ⟨fr 27 [(0, (vS none 0 0)), (8, (vI (n : Int))), (9, (vS none 0 0))], []⟩ (by kernel_rfl) ?_
  refine At.vals (S' := ⟨fr 27 [(0, (vS none 0 0)), (8, (vI (n : Int))), (9, (vS none 0 0)), (10, (vI 0))], []⟩) (by kernel_rfl) ((vI 0)) (by kernel_rfl) (Val.cap rfl (A := none) (n := 0) (c := 0) (e := 26) (by kernel_rfl) (by kernel_rfl)) ?_
  refine At.runk 4 [8, 9, 10, 11, 12, 13] [] ⟨fr 27 [(0, (vS none 0 0)), (14, (vI (IntKind.i64.wrap ((n : Int) - 0))))], []⟩ (by kernel_rfl) ?_
  refine At.cast (S' := ⟨fr 27 [(0, (vS none 0 0)), (14, (vI ((n : Int) - 0)))], []⟩) (by rw [wrapI (z := (n : Int) - 0) (by omega) (by omega)]) ?_
  refine At.runk 1 [14] [] ⟨fr 27 [(0, (vS none 0 0)), (1, (vI ((n : Int) - 0)))], []⟩ (by kernel_rfl) ?_
  refine At.cast (S' := ⟨fr 27 [(0, (vS none 0 0)), (1, (vI (n : Int)))], []⟩) (by rw [Int.sub_zero]) ?_
  refine At.nil ?_
  refine At.then_normal ?_
  refine At.seq ?_
  refine At.region ?_
  refine At.runk 2 [15] [] ⟨fr 27 [(0, (vS none 0 0)), (1, (vI (n : Int))), (16, (vB (decide ((n : Int) > 0))))], []⟩ (by kernel_rfl) ?_
  refine At.nil ?_
  refine At.then_normal ?_
  refine At.bcase (decide ((n : Int) > 0)) (fun hb2 => ?_) (fun hb2 => ?_)
  · have hb2p : ((n : Int) > 0) := of_decide_eq_true hb2
    refine At.cast (S' := ⟨fr 27 [(0, (vS none 0 0)), (1, (vI (n : Int))), (16, (vB true))], []⟩) (by rw [hb2] <;> rfl) ?_
    refine At.cond_t (by kernel_rfl) ?_
    refine At.region ?_
    refine At.runk 2 [16] [] ⟨fr 27 [(0, (vS none 0 0)), (1, (vI (n : Int))), (17, (vS none 0 0)), (18, (vS none 0 0))], []⟩ (by kernel_rfl) ?_
    refine At.vals (S' := ⟨fr 27 [(0, (vS none 0 0)), (1, (vI (n : Int))), (17, (vS none 0 0)), (18, (vS none 0 0)), (19, (vI 0))], []⟩) (by kernel_rfl) ((vI 0)) (by kernel_rfl) (Val.cap rfl (A := none) (n := 0) (c := 0) (e := 26) (by kernel_rfl) (by kernel_rfl)) ?_
    refine At.slice rfl (by kernel_rfl) (e := 26) (by kernel_rfl) (sz := 7) (by kernel_rfl) (A := none) (n := 0) (c := 0) (by kernel_rfl) 0 0 0 rfl ⟨.i64, by kernel_rfl⟩ rfl (by omega) (by omega) (by omega) ?_
    intro A3 hA4 hA5
    obtain rfl := (hA4 rfl).symm
    refine ⟨⟨fr 27 [(0, (vS none 0 0)), (1, (vI (n : Int))), (17, (vS none 0 0)), (18, (vS none 0 0)), (19, (vI 0)), (20, (vS none 0 0))], []⟩, by kernel_rfl, ?_⟩
    refine At.runk 1 [1, 17, 18, 19] [] ⟨fr 27 [(0, (vS none 0 0)), (20, (vS none 0 0)), (21, (vI (n : Int)))], []⟩ (by kernel_rfl) ?_
    refine At.growz rfl (by kernel_rfl) (e := 26) (inf := Try.t26) (sz := 7) (kn := .i64) (by kernel_rfl) (by kernel_rfl) (by kernel_rfl) rfl rfl rfl (Nat.zero_lt_succ _) (kd := .i64) n (by kernel_rfl) (by kernel_rfl) (by omega) (by unfold maxLen; omega) (by show n * 56 ≤ _; omega) ?_
    intro g6 c7 zs8 h9 h10 h11
    refine ⟨⟨fr 27 [(0, (vS none 0 0)), (20, (vS none 0 0)), (21, (vI (n : Int))), (22, (vS (aS g6 0) n c7))], [.o (.slice (aS g6 0) n c7) n zs8 26 7]⟩, by kernel_rfl, by kernel_rfl, ?_⟩
    refine At.runk 2 [0, 20, 21, 23] [] ⟨fr 27 [(22, (vS (aS g6 0) n c7)), (24, (vI 0))], [.o (.slice (aS g6 0) n c7) n zs8 26 7]⟩ (by kernel_rfl) ?_
    refine At.slice rfl (by kernel_rfl) (e := 26) (by kernel_rfl) (sz := 7) (by kernel_rfl) (A := (aS g6 0)) (n := n) (c := c7) (by kernel_rfl) 0 0 c7 rfl ⟨.i64, by kernel_rfl⟩ rfl (by omega) (by omega) (Nat.le_refl _) ?_
    intro A12 hA13 hA14
    obtain rfl := (hA13 rfl).symm
    refine ⟨⟨fr 27 [(22, (vS (aS g6 0) n c7)), (24, (vI 0)), (25, (vS (aS g6 0) 0 c7))], [.o (.slice (aS g6 0) n c7) n zs8 26 7]⟩, by kernel_rfl, ?_⟩
    refine At.trunc (S' := ⟨fr 27 [(22, (vS (aS g6 0) n c7)), (24, (vI 0)), (25, (vS (aS g6 0) 0 c7))], [.o (.slice (aS g6 0) 0 c7) 0 (zs8.take (0 * 7)) 26 7]⟩) 0 0 (A := (aS g6 0)) (n := n) (cap := c7) (xs := zs8) (e := 26) (sz := 7) (by kernel_rfl) (by omega) (by kernel_rfl) ?_
    refine At.cast (S' := ⟨fr 27 [(22, (vS (aS g6 0) n c7)), (24, (vI 0)), (25, (vS (aS g6 0) 0 c7))], [.o (.slice (aS g6 0) 0 c7) 0 [] 26 7]⟩) (by rw [Nat.zero_mul, List.take_zero]) ?_
    refine At.runk 1 [22, 24, 25] [] ⟨fr 27 [(0, (vS (aS g6 0) 0 c7))], [.o (.slice (aS g6 0) 0 c7) 0 [] 26 7]⟩ (by kernel_rfl) ?_
    refine At.nil ?_
    refine At.then_normal ?_
    refine At.seq ?_
    refine At.region ?_
    refine At.runk 2 [0, 26] [] ⟨fr 27 [(4, (vS (aS g6 0) 0 c7))], [.o (.slice (aS g6 0) 0 c7) 0 [] 26 7]⟩ (by kernel_rfl) ?_
    refine At.nil ?_
    refine At.then_normal ?_
    refine At.ret_ ?_
    refine At.leaveR rfl ((aS g6 0), c7) (by kernel_rfl) (by kernel_rfl) (by kernel_rfl) ?_
    trivial
  have hb2p : ¬ ((n : Int) > 0) := of_decide_eq_false hb2
  refine At.cast (S' := ⟨fr 27 [(0, (vS none 0 0)), (1, (vI (n : Int))), (16, (vB false))], []⟩) (by rw [hb2] <;> rfl) ?_
  refine At.cond_f (by kernel_rfl) ?_
  refine At.skip ?_
  refine At.then_normal ?_
  refine At.seq ?_
  refine At.region ?_
  refine At.runk 2 [0, 1, 16, 26] [] ⟨fr 27 [(4, (vS none 0 0))], []⟩ (by kernel_rfl) ?_
  refine At.nil ?_
  refine At.then_normal ?_
  refine At.nilrow 26 7 ⟨fr 27 [(4, (vS none 0 0))], [.o (.slice none 0 0) 0 [] 26 7]⟩ (by kernel_rfl) (by kernel_rfl) ?_
  refine At.ret_ ?_
  refine At.leaveR rfl (none, 0) (by kernel_rfl) (by kernel_rfl) (by kernel_rfl) ?_
  trivial

theorem concat_c (Φ : Phi) (ps : List Pt) (B : Option Addr) (d : Nat) (hP : RdC Φ B (ps.flatMap Pt.enc)) (hG : Pts Φ ps) (hk : ∀ p ∈ ps, p.nds.length ≤ 1000) (hw : ∀ p ∈ ps, ∀ n ∈ p.nds, n.wf) (hpl : ps.length ≤ 1000)  : CallR Try.prog 48 [(vS B ps.length d)] [] Φ (Option Addr × Nat) (fun t => (vS t.1 (jn ps).length t.2)) (fun t => [.o (.slice t.1 (jn ps).length t.2) (jn ps).length ((jn ps).flatMap Nd.cells) 26 7]) (fun t _ => (jn ps).length ≤ t.2) := by
  refine CallG.enterk Try.func48 rfl [1, 2, 3, 4, 5, 6, 7, 8, 9, 10, 11, 12, 13, 14, 15, 16, 17, 18, 19, 20, 21, 22, 23, 24, 25, 26, 27, 28, 29, 30, 31, 32, 33, 34, 35] ⟨fr 36 [(0, (vS B ps.length d))], []⟩ (by kernel_rfl) (by kernel_rfl) ?_
  intro E G β0
  refine At.seq ?_
  refine At.region ?_
  refine At.runk 1 [2] [] ⟨fr 36 [(0, (vS B ps.length d))], []⟩ (by kernel_rfl) ?_
  refine At.nil ?_
  refine At.then_normal ?_
  refine At.seq ?_
  refine At.region ?_
  refine At.runk 1 [] [] ⟨fr 36 [(0, (vS B ps.length d)), (3, (vI 0))], []⟩ (by kernel_rfl) ?_
  refine At.nil ?_
  refine At.then_normal ?_
  refine At.seq ?_
  refine At.seq ?_
  refine At.region ?_
  refine At.runk 3 [] [] ⟨fr 36 [(0, (vS B ps.length d)), (3, (vI 0)), (9, (vS B ps.length d)), (10, (vI (ps.length : Int))), (11, (vI 0))], []⟩ (by kernel_rfl) ?_
  refine At.nil ?_
  refine At.then_normal ?_
  refine At.block ?_
  refine At.loop (T := Nat) (fun x => ⟨fr 36 [(0, (vS B ps.length d)), (3, (vI ((jn (ps.take x)).length : Int))), (9, (vS B ps.length d)), (10, (vI (ps.length : Int))), (11, (vI (x : Int)))], []⟩) (fun x Φ => x ≤ ps.length) (fun x => ps.length - x) 0 (by kernel_rfl) (Nat.zero_le _) ?_
  rintro i Φ1 hle2 hF
  have hP := hP.mono hle2
  have hG := hG.mono hle2
  refine At.cast (S' := ⟨fr 36 [(0, (vS B ps.length d)), (3, (vI ((jn (ps.take i)).length : Int))), (9, (vS B ps.length d)), (10, (vI (ps.length : Int))), (11, (vI (i : Int)))], []⟩) (by kernel_rfl) ?_
  have hjl := jn_len hk i
  refine At.seq ?_
  refine At.region ?_
  refine At.runk 1 [] [] ⟨fr 36 [(0, (vS B ps.length d)), (3, (vI ((jn (ps.take i)).length : Int))), (9, (vS B ps.length d)), (10, (vI (ps.length : Int))), (11, (vI (i : Int))), (12, (vB (decide ((i : Int) < (ps.length : Int)))))], []⟩ (by kernel_rfl) ?_
  refine At.nil ?_
  refine At.then_normal ?_
  refine At.seq ?_
  refine At.bcase (decide ((i : Int) < (ps.length : Int))) (fun hb3 => ?_) (fun hb3 => ?_)
  · have hb3p : ((i : Int) < (ps.length : Int)) := of_decide_eq_true hb3
    refine At.cast (S' := ⟨fr 36 [(0, (vS B ps.length d)), (3, (vI ((jn (ps.take i)).length : Int))), (9, (vS B ps.length d)), (10, (vI (ps.length : Int))), (11, (vI (i : Int))), (12, (vB true))], []⟩) (by rw [hb3] <;> rfl) ?_
    refine At.cond_t (by kernel_rfl) ?_
    refine At.skip ?_
    refine At.then_normal ?_
    refine At.seq ?_
    refine At.block ?_
    refine At.seq ?_
    refine At.region ?_
    obtain ⟨b4, off5, hBeq⟩ : ∃ b off, B = some ⟨b, off, none⟩ := hP.addr (by rw [flat_len (sz := 1) (fun _ => rfl)]; omega)
    subst hBeq
    refine At.idx (S' := ⟨fr 36 [(0, (vS (aS b4 off5) ps.length d)), (3, (vI ((jn (ps.take i)).length : Int))), (9, (vS (aS b4 off5) ps.length d)), (10, (vI (ps.length : Int))), (11, (vI (i : Int))), (12, (vB true)), (13, .v (.pointer (some ⟨b4, off5 + i * 1, none⟩)))], []⟩) rfl (by kernel_rfl) (sz := 1) (e := 30) (by kernel_rfl) (by kernel_rfl) (by kernel_rfl) (b := b4) (off := off5) (n := ps.length) (cap := d) (kd := .i64) (i := (i : Int)) (by kernel_rfl) (by omega) (by omega) (by kernel_rfl) ?_
    obtain ⟨e6, he7⟩ := get_some (l := ps) (i := i) (by omega)
    have e6R := hG e6 (List.mem_of_getElem? he7)
    have e6k := hk e6 (List.mem_of_getElem? he7)
    have e6l : e6.nds.length ≤ 1000000 := by omega
    have e6w := hw e6 (List.mem_of_getElem? he7)
    refine At.vals (S' := ⟨fr 36 [(0, (vS (aS b4 off5) ps.length d)), (3, (vI ((jn (ps.take i)).length : Int))), (9, (vS (aS b4 off5) ps.length d)), (10, (vI (ps.length : Int))), (11, (vI (i : Int))), (12, (vB true)), (13, .v (.pointer (some ⟨b4, off5 + i * 1, none⟩))), (14, (vS e6.A e6.nds.length e6.c))], []⟩) (by kernel_rfl) ((vS e6.A e6.nds.length e6.c)) (by kernel_rfl) (Val.ldE rfl (enc := Pt.enc) (xs := ps) (b := b4) (off := off5) hP (sz := 1) (fun _ => rfl) (Nat.zero_lt_succ _) i e6 he7 0 (off5 + i * 1) (by omega) (by kernel_rfl) ((vS e6.A e6.nds.length e6.c)) (by kernel_rfl)) ?_
    refine At.runk 1 [12, 13, 14] [] ⟨fr 36 [(0, (vS (aS b4 off5) ps.length d)), (3, (vI ((jn (ps.take i)).length : Int))), (5, (vS e6.A e6.nds.length e6.c)), (9, (vS (aS b4 off5) ps.length d)), (10, (vI (ps.length : Int))), (11, (vI (i : Int)))], []⟩ (by kernel_rfl) ?_
    refine At.nil ?_
    refine At.then_normal ?_
    refine At.seq ?_
    refine At.region ?_
    refine At.runk 4 [3, 5, 15, 16, 17] [] ⟨fr 36 [(0, (vS (aS b4 off5) ps.length d)), (9, (vS (aS b4 off5) ps.length d)), (10, (vI (ps.length : Int))), (11, (vI (i : Int))), (18, (vI (IntKind.i64.wrap (((jn (ps.take i)).length : Int) + (e6.nds.length : Int)))))], []⟩ (by kernel_rfl) ?_
    refine At.cast (S' := ⟨fr 36 [(0, (vS (aS b4 off5) ps.length d)), (9, (vS (aS b4 off5) ps.length d)), (10, (vI (ps.length : Int))), (11, (vI (i : Int))), (18, (vI (((jn (ps.take i)).length : Int) + (e6.nds.length : Int))))], []⟩) (by rw [wrapI (z := ((jn (ps.take i)).length : Int) + (e6.nds.length : Int)) (by omega) (by omega)]) ?_
    refine At.runk 1 [18] [] ⟨fr 36 [(0, (vS (aS b4 off5) ps.length d)), (3, (vI (((jn (ps.take i)).length : Int) + (e6.nds.length : Int)))), (9, (vS (aS b4 off5) ps.length d)), (10, (vI (ps.length : Int))), (11, (vI (i : Int)))], []⟩ (by kernel_rfl) ?_
    refine At.nil ?_
    refine At.then_normal ?_
    refine At.seq ?_
    refine At.region ?_
    refine At.runk 2 [19] [] ⟨fr 36 [(0, (vS (aS b4 off5) ps.length d)), (3, (vI (((jn (ps.take i)).length : Int) + (e6.nds.length : Int)))), (9, (vS (aS b4 off5) ps.length d)), (10, (vI (ps.length : Int))), (11, (vI (i : Int))), (20, (vB (decide ((((jn (ps.take i)).length : Int) + (e6.nds.length : Int)) < 0))))], []⟩ (by kernel_rfl) ?_
    refine At.nil ?_
    refine At.then_normal ?_
    refine At.bcase (decide ((((jn (ps.take i)).length : Int) + (e6.nds.length : Int)) < 0)) (fun hb8 => ?_) (fun hb8 => ?_)
    · have hb8p : ((((jn (ps.take i)).length : Int) + (e6.nds.length : Int)) < 0) := of_decide_eq_true hb8
      exfalso; omega
    have hb8p : ¬ ((((jn (ps.take i)).length : Int) + (e6.nds.length : Int)) < 0) := of_decide_eq_false hb8
    refine At.cast (S' := ⟨fr 36 [(0, (vS (aS b4 off5) ps.length d)), (3, (vI (((jn (ps.take i)).length : Int) + (e6.nds.length : Int)))), (9, (vS (aS b4 off5) ps.length d)), (10, (vI (ps.length : Int))), (11, (vI (i : Int))), (20, (vB false))], []⟩) (by rw [hb8] <;> rfl) ?_
    refine At.cond_f (by kernel_rfl) ?_
    refine At.skip ?_
    refine At.in_normal ?_
    refine At.then_normal ?_
    refine At.region ?_
    refine At.runk 1 [11, 20] [] ⟨fr 36 [(0, (vS (aS b4 off5) ps.length d)), (3, (vI (((jn (ps.take i)).length : Int) + (e6.nds.length : Int)))), (9, (vS (aS b4 off5) ps.length d)), (10, (vI (ps.length : Int))), (22, (vI (IntKind.i64.wrap ((i : Int) + 1))))], []⟩ (by kernel_rfl) ?_
    refine At.cast (S' := ⟨fr 36 [(0, (vS (aS b4 off5) ps.length d)), (3, (vI (((jn (ps.take i)).length : Int) + (e6.nds.length : Int)))), (9, (vS (aS b4 off5) ps.length d)), (10, (vI (ps.length : Int))), (22, (vI ((i : Int) + 1)))], []⟩) (by rw [wrapI (z := (i : Int) + 1) (by omega) (by omega)]) ?_
    refine At.runk 1 [22] [] ⟨fr 36 [(0, (vS (aS b4 off5) ps.length d)), (3, (vI (((jn (ps.take i)).length : Int) + (e6.nds.length : Int)))), (9, (vS (aS b4 off5) ps.length d)), (10, (vI (ps.length : Int))), (11, (vI ((i : Int) + 1)))], []⟩ (by kernel_rfl) ?_
    refine At.nil ?_
    refine At.cast (S' := ⟨fr 36 [(0, (vS (aS b4 off5) ps.length d)), (3, (vI ((jn (ps.take (i + 1))).length : Int))), (9, (vS (aS b4 off5) ps.length d)), (10, (vI (ps.length : Int))), (11, (vI ((i : Int) + 1)))], []⟩) (by rw [jn_take he7, List.length_append]; rfl) ?_
    refine At.round (i + 1) (by kernel_rfl) (PhiLe.refl 0 _) (by omega) (by omega)
  have hb3p : ¬ ((i : Int) < (ps.length : Int)) := of_decide_eq_false hb3
  refine At.cast (S' := ⟨fr 36 [(0, (vS B ps.length d)), (3, (vI ((jn (ps.take i)).length : Int))), (9, (vS B ps.length d)), (10, (vI (ps.length : Int))), (11, (vI (i : Int))), (12, (vB false))], []⟩) (by rw [hb3] <;> rfl) ?_
  refine At.cond_f (by kernel_rfl) ?_
  refine At.exit_ ?_
  refine At.then_exit ?_
  refine At.then_exit ?_
  refine At.in_here ?_
  refine At.then_normal ?_
  refine At.seq ?_
  refine At.region ?_
  refine At.runk 1 [3, 9, 10, 11, 12] [] ⟨fr 36 [(0, (vS B ps.length d)), (23, (vI ((jn (ps.take i)).length : Int)))], []⟩ (by kernel_rfl) ?_
  refine At.callV rfl (by kernel_rfl) 74 [] [] (by kernel_rfl) Try.func74 (by kernel_rfl) (by kernel_rfl) [(vS none 0 0), (vI ((jn (ps.take i)).length : Int))] (by kernel_rfl) (by kernel_rfl) (grow_c Φ1 ((jn (ps.take i)).length) (by omega)) ?_
  rintro Φ9 ⟨Ag, cg⟩ hle10 -
  have hP := hP.mono hle10
  have hG := hG.mono hle10
  refine ⟨⟨fr 36 [(0, (vS B ps.length d)), (23, (vI ((jn (ps.take i)).length : Int))), (24, (vS Ag 0 cg))], [.o (.slice Ag 0 cg) 0 [] 26 7]⟩, by kernel_rfl, by kernel_rfl, ?_⟩
  refine At.runk 1 [23, 24] [] ⟨fr 36 [(0, (vS B ps.length d)), (6, (vS Ag 0 cg))], [.o (.slice Ag 0 cg) 0 [] 26 7]⟩ (by kernel_rfl) ?_
  refine At.nil ?_
  refine At.then_normal ?_
  refine At.seq ?_
  refine At.seq ?_
  refine At.region ?_
  refine At.runk 3 [0] [] ⟨fr 36 [(6, (vS Ag 0 cg)), (25, (vS B ps.length d)), (26, (vI (ps.length : Int))), (27, (vI 0))], [.o (.slice Ag 0 cg) 0 [] 26 7]⟩ (by kernel_rfl) ?_
  refine At.nil ?_
  refine At.then_normal ?_
  refine At.block ?_
  refine At.loop (T := Nat × Option Addr × Nat) (fun x => ⟨fr 36 [(6, (vS x.2.1 ((jn (ps.take x.1)).length) x.2.2)), (25, (vS B ps.length d)), (26, (vI (ps.length : Int))), (27, (vI (x.1 : Int)))], [.o (.slice x.2.1 ((jn (ps.take x.1)).length) x.2.2) ((jn (ps.take x.1)).length) ((jn (ps.take x.1)).flatMap Nd.cells) 26 7]⟩) (fun x Φ => x.1 ≤ ps.length ∧ (jn (ps.take x.1)).length ≤ x.2.2) (fun x => ps.length - x.1) (0, Ag, cg) (by kernel_rfl) ⟨Nat.zero_le _, Nat.zero_le _⟩ ?_
  rintro ⟨i2, Ao, cs⟩ Φ11 hle12 hF
  have hP := hP.mono hle12
  have hG := hG.mono hle12
  refine At.cast (S' := ⟨fr 36 [(6, (vS Ao ((jn (ps.take i2)).length) cs)), (25, (vS B ps.length d)), (26, (vI (ps.length : Int))), (27, (vI (i2 : Int)))], [.o (.slice Ao ((jn (ps.take i2)).length) cs) ((jn (ps.take i2)).length) ((jn (ps.take i2)).flatMap Nd.cells) 26 7]⟩) (by kernel_rfl) ?_
  dsimp only at hF
  have hF1 := hF.1
  have hjl2 := jn_len hk i2
  refine At.seq ?_
  refine At.region ?_
  refine At.runk 1 [] [] ⟨fr 36 [(6, (vS Ao ((jn (ps.take i2)).length) cs)), (25, (vS B ps.length d)), (26, (vI (ps.length : Int))), (27, (vI (i2 : Int))), (28, (vB (decide ((i2 : Int) < (ps.length : Int)))))], [.o (.slice Ao ((jn (ps.take i2)).length) cs) ((jn (ps.take i2)).length) ((jn (ps.take i2)).flatMap Nd.cells) 26 7]⟩ (by kernel_rfl) ?_
  refine At.nil ?_
  refine At.then_normal ?_
  refine At.seq ?_
  refine At.bcase (decide ((i2 : Int) < (ps.length : Int))) (fun hb13 => ?_) (fun hb13 => ?_)
  · have hb13p : ((i2 : Int) < (ps.length : Int)) := of_decide_eq_true hb13
    refine At.cast (S' := ⟨fr 36 [(6, (vS Ao ((jn (ps.take i2)).length) cs)), (25, (vS B ps.length d)), (26, (vI (ps.length : Int))), (27, (vI (i2 : Int))), (28, (vB true))], [.o (.slice Ao ((jn (ps.take i2)).length) cs) ((jn (ps.take i2)).length) ((jn (ps.take i2)).flatMap Nd.cells) 26 7]⟩) (by rw [hb13] <;> rfl) ?_
    refine At.cond_t (by kernel_rfl) ?_
    refine At.skip ?_
    refine At.then_normal ?_
    refine At.seq ?_
    refine At.block ?_
    refine At.seq ?_
    refine At.region ?_
    obtain ⟨b14, off15, hBeq⟩ : ∃ b off, B = some ⟨b, off, none⟩ := hP.addr (by rw [flat_len (sz := 1) (fun _ => rfl)]; omega)
    subst hBeq
    refine At.idx (S' := ⟨fr 36 [(6, (vS Ao ((jn (ps.take i2)).length) cs)), (25, (vS (aS b14 off15) ps.length d)), (26, (vI (ps.length : Int))), (27, (vI (i2 : Int))), (28, (vB true)), (29, .v (.pointer (some ⟨b14, off15 + i2 * 1, none⟩)))], [.o (.slice Ao ((jn (ps.take i2)).length) cs) ((jn (ps.take i2)).length) ((jn (ps.take i2)).flatMap Nd.cells) 26 7]⟩) rfl (by kernel_rfl) (sz := 1) (e := 30) (by kernel_rfl) (by kernel_rfl) (by kernel_rfl) (b := b14) (off := off15) (n := ps.length) (cap := d) (kd := .i64) (i := (i2 : Int)) (by kernel_rfl) (by omega) (by omega) (by kernel_rfl) ?_
    obtain ⟨e16, he17⟩ := get_some (l := ps) (i := i2) (by omega)
    have e16R := hG e16 (List.mem_of_getElem? he17)
    have e16k := hk e16 (List.mem_of_getElem? he17)
    have e16l : e16.nds.length ≤ 1000000 := by omega
    have e16w := hw e16 (List.mem_of_getElem? he17)
    refine At.vals (S' := ⟨fr 36 [(6, (vS Ao ((jn (ps.take i2)).length) cs)), (25, (vS (aS b14 off15) ps.length d)), (26, (vI (ps.length : Int))), (27, (vI (i2 : Int))), (28, (vB true)), (29, .v (.pointer (some ⟨b14, off15 + i2 * 1, none⟩))), (30, (vS e16.A e16.nds.length e16.c))], [.o (.slice Ao ((jn (ps.take i2)).length) cs) ((jn (ps.take i2)).length) ((jn (ps.take i2)).flatMap Nd.cells) 26 7]⟩) (by kernel_rfl) ((vS e16.A e16.nds.length e16.c)) (by kernel_rfl) (Val.ldE rfl (enc := Pt.enc) (xs := ps) (b := b14) (off := off15) hP (sz := 1) (fun _ => rfl) (Nat.zero_lt_succ _) i2 e16 he17 0 (off15 + i2 * 1) (by omega) (by kernel_rfl) ((vS e16.A e16.nds.length e16.c)) (by kernel_rfl)) ?_
    refine At.runk 1 [28, 29, 30] [] ⟨fr 36 [(6, (vS Ao ((jn (ps.take i2)).length) cs)), (8, (vS e16.A e16.nds.length e16.c)), (25, (vS (aS b14 off15) ps.length d)), (26, (vI (ps.length : Int))), (27, (vI (i2 : Int)))], [.o (.slice Ao ((jn (ps.take i2)).length) cs) ((jn (ps.take i2)).length) ((jn (ps.take i2)).flatMap Nd.cells) 26 7]⟩ (by kernel_rfl) ?_
    refine At.nil ?_
    refine At.then_normal ?_
    refine At.region ?_
    refine At.runk 2 [6, 8] [] ⟨fr 36 [(25, (vS (aS b14 off15) ps.length d)), (26, (vI (ps.length : Int))), (27, (vI (i2 : Int))), (31, (vS Ao ((jn (ps.take i2)).length) cs)), (32, (vS e16.A e16.nds.length e16.c))], [.o (.slice Ao ((jn (ps.take i2)).length) cs) ((jn (ps.take i2)).length) ((jn (ps.take i2)).flatMap Nd.cells) 26 7]⟩ (by kernel_rfl) ?_
    refine At.append rfl (by kernel_rfl) (e := 26) (inf := Try.t26) (sz := 7) (by kernel_rfl) (by kernel_rfl) rfl rfl rfl (Nat.zero_lt_succ _) 0 (V := .slice Ao ((jn (ps.take i2)).length) cs) (n := (jn (ps.take i2)).length) (xs := ((jn (ps.take i2)).flatMap Nd.cells)) (by kernel_rfl) (by kernel_rfl) e16.nds.length (e16.nds.flatMap Nd.cells) (Src.phi (A := e16.A) (m := e16.nds.length) (c := e16.c) (by kernel_rfl) e16R) (flat_len (enc := Nd.cells) (sz := 7) (fun _ => rfl) _) (nds_one _) (by unfold maxLen; omega) (by show ((jn (ps.take i2)).length + e16.nds.length) * 56 ≤ _; omega) ?_
    intro A18 c19 h20 h21 h22
    refine ⟨⟨fr 36 [(25, (vS (aS b14 off15) ps.length d)), (26, (vI (ps.length : Int))), (27, (vI (i2 : Int))), (31, (vS Ao ((jn (ps.take i2)).length) cs)), (32, (vS e16.A e16.nds.length e16.c)), (33, (vS A18 ((jn (ps.take i2)).length + e16.nds.length) c19))], [.o (.slice A18 ((jn (ps.take i2)).length + e16.nds.length) c19) ((jn (ps.take i2)).length + e16.nds.length) (((jn (ps.take i2)).flatMap Nd.cells) ++ (e16.nds.flatMap Nd.cells)) 26 7]⟩, by kernel_rfl, ?_⟩
    have hj1 : (jn (ps.take (i2 + 1))).length = ((jn (ps.take i2)).length + e16.nds.length) := by rw [jn_take he17, List.length_append]
    have hj2 : (jn (ps.take (i2 + 1))).flatMap Nd.cells = (((jn (ps.take i2)).flatMap Nd.cells) ++ (e16.nds.flatMap Nd.cells)) := by rw [jn_take he17, nds_append]
    refine At.cast (S' := ⟨fr 36 [(25, (vS (aS b14 off15) ps.length d)), (26, (vI (ps.length : Int))), (27, (vI (i2 : Int))), (31, (vS Ao ((jn (ps.take i2)).length) cs)), (32, (vS e16.A e16.nds.length e16.c)), (33, (vS A18 ((jn (ps.take (i2 + 1))).length) c19))], [.o (.slice A18 ((jn (ps.take (i2 + 1))).length) c19) ((jn (ps.take (i2 + 1))).length) ((jn (ps.take (i2 + 1))).flatMap Nd.cells) 26 7]⟩) (by rw [hj1, hj2]) ?_
    refine At.runk 1 [31, 32, 33] [] ⟨fr 36 [(6, (vS A18 ((jn (ps.take (i2 + 1))).length) c19)), (25, (vS (aS b14 off15) ps.length d)), (26, (vI (ps.length : Int))), (27, (vI (i2 : Int)))], [.o (.slice A18 ((jn (ps.take (i2 + 1))).length) c19) ((jn (ps.take (i2 + 1))).length) ((jn (ps.take (i2 + 1))).flatMap Nd.cells) 26 7]⟩ (by kernel_rfl) ?_
    refine At.nil ?_
    refine At.in_normal ?_
    refine At.then_normal ?_
    refine At.region ?_
    refine At.runk 1 [27] [] ⟨fr 36 [(6, (vS A18 ((jn (ps.take (i2 + 1))).length) c19)), (25, (vS (aS b14 off15) ps.length d)), (26, (vI (ps.length : Int))), (34, (vI (IntKind.i64.wrap ((i2 : Int) + 1))))], [.o (.slice A18 ((jn (ps.take (i2 + 1))).length) c19) ((jn (ps.take (i2 + 1))).length) ((jn (ps.take (i2 + 1))).flatMap Nd.cells) 26 7]⟩ (by kernel_rfl) ?_
    refine At.cast (S' := ⟨fr 36 [(6, (vS A18 ((jn (ps.take (i2 + 1))).length) c19)), (25, (vS (aS b14 off15) ps.length d)), (26, (vI (ps.length : Int))), (34, (vI ((i2 : Int) + 1)))], [.o (.slice A18 ((jn (ps.take (i2 + 1))).length) c19) ((jn (ps.take (i2 + 1))).length) ((jn (ps.take (i2 + 1))).flatMap Nd.cells) 26 7]⟩) (by rw [wrapI (z := (i2 : Int) + 1) (by omega) (by omega)]) ?_
    refine At.runk 1 [34] [] ⟨fr 36 [(6, (vS A18 ((jn (ps.take (i2 + 1))).length) c19)), (25, (vS (aS b14 off15) ps.length d)), (26, (vI (ps.length : Int))), (27, (vI ((i2 : Int) + 1)))], [.o (.slice A18 ((jn (ps.take (i2 + 1))).length) c19) ((jn (ps.take (i2 + 1))).length) ((jn (ps.take (i2 + 1))).flatMap Nd.cells) 26 7]⟩ (by kernel_rfl) ?_
    refine At.nil ?_
    refine At.round (i2 + 1, A18, c19) (by kernel_rfl) (PhiLe.refl 0 _) ⟨by omega, by rw [hj1]; exact h20⟩ (by omega)
  have hb13p : ¬ ((i2 : Int) < (ps.length : Int)) := of_decide_eq_false hb13
  refine At.cast (S' := ⟨fr 36 [(6, (vS Ao ((jn (ps.take i2)).length) cs)), (25, (vS B ps.length d)), (26, (vI (ps.length : Int))), (27, (vI (i2 : Int))), (28, (vB false))], [.o (.slice Ao ((jn (ps.take i2)).length) cs) ((jn (ps.take i2)).length) ((jn (ps.take i2)).flatMap Nd.cells) 26 7]⟩) (by rw [hb13] <;> rfl) ?_
  refine At.cond_f (by kernel_rfl) ?_
  refine At.exit_ ?_
  refine At.then_exit ?_
  refine At.then_exit ?_
  refine At.in_here ?_
  refine At.then_normal ?_
  refine At.seq ?_
  have hje : jn (ps.take i2) = jn ps := jn_end (by omega)
  refine At.cast (S' := ⟨fr 36 [(6, (vS Ao ((jn ps).length) cs)), (25, (vS B ps.length d)), (26, (vI (ps.length : Int))), (27, (vI (i2 : Int))), (28, (vB false))], [.o (.slice Ao ((jn ps).length) cs) ((jn ps).length) ((jn ps).flatMap Nd.cells) 26 7]⟩) (by rw [hje]) ?_
  rw [hje] at hF
  refine At.region ?_
  refine At.runk 2 [6, 25, 26, 27, 28, 35] [] ⟨fr 36 [(2, (vS Ao ((jn ps).length) cs))], [.o (.slice Ao ((jn ps).length) cs) ((jn ps).length) ((jn ps).flatMap Nd.cells) 26 7]⟩ (by kernel_rfl) ?_
  refine At.nil ?_
  refine At.then_normal ?_
  refine At.ret_ ?_
  refine At.leaveR rfl (Ao, cs) (by kernel_rfl) (by kernel_rfl) (by kernel_rfl) ?_
  dsimp only; omega

end Go.Sx
