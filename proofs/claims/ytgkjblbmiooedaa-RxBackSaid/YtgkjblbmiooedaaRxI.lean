/- RxI: printed by wip/gen/lib04.py. Walks over functions of the program. -/
import Derived.Test.YtgkjblbmiooedaaRxH
namespace Go.Sx
open Go.Proofs Go.RowKit
theorem nulk1_c (Φ : Phi) (n : Nd) (vs : List Bool) (A : Option Addr) (c : Nat) (hR : RdC Φ A (vs.flatMap encB))  : CallR Try.prog 78 [.agg n.sv, (vS A vs.length c)] [] Φ Bool (fun t => (vB t)) (fun _ => []) (fun t _ => t = true) := by
  refine CallG.enterk Try.func78 rfl [2, 3, 4] ⟨fr 5 [(0, .agg n.sv), (1, (vS A vs.length c))], []⟩ (by kernel_rfl) (by kernel_rfl) ?_
  intro E G β0
  refine At.seq ?_
  refine At.region ?_
  refine At.runk 2 [0, 1, 2, 4] [0] ⟨fr 5 [], [.dead]⟩ (by kernel_rfl) ?_
  refine At.nil ?_
  refine At.then_normal ?_
  refine At.seq ?_
  refine At.region ?_
  refine At.runk 1 [] [] ⟨fr 5 [(4, (vB true))], [.dead]⟩ (by kernel_rfl) ?_
  refine At.nil ?_
  refine At.then_normal ?_
  refine At.ret_ ?_
  refine At.forget [] 0 [] ⟨fr 5 [(4, (vB true))], []⟩ (by kernel_rfl) (by kernel_rfl) (bleT rfl) ?_
  refine At.leaveR rfl true (by kernel_rfl) (by kernel_rfl) (by kernel_rfl) ?_
  simp_all

theorem nulk2_c (Φ : Phi) (n : Nd) (vs : List Bool) (A : Option Addr) (c : Nat) (hR : RdC Φ A (vs.flatMap encB))  : CallR Try.prog 79 [.agg n.sv, (vS A vs.length c)] [] Φ Bool (fun t => (vB t)) (fun _ => []) (fun t _ => t = false) := by
  refine CallG.enterk Try.func79 rfl [2, 3, 4] ⟨fr 5 [(0, .agg n.sv), (1, (vS A vs.length c))], []⟩ (by kernel_rfl) (by kernel_rfl) ?_
  intro E G β0
  refine At.seq ?_
  refine At.region ?_
  refine At.runk 2 [0, 1, 2, 4] [0] ⟨fr 5 [], [.dead]⟩ (by kernel_rfl) ?_
  refine At.nil ?_
  refine At.then_normal ?_
  refine At.seq ?_
  refine At.region ?_
  refine At.runk 1 [] [] ⟨fr 5 [(4, (vB false))], [.dead]⟩ (by kernel_rfl) ?_
  refine At.nil ?_
  refine At.then_normal ?_
  refine At.ret_ ?_
  refine At.forget [] 0 [] ⟨fr 5 [(4, (vB false))], []⟩ (by kernel_rfl) (by kernel_rfl) (bleT rfl) ?_
  refine At.leaveR rfl false (by kernel_rfl) (by kernel_rfl) (by kernel_rfl) ?_
  simp_all

theorem nulk3_c (Φ : Phi) (n : Nd) (vs : List Bool) (A : Option Addr) (c : Nat) (hR : RdC Φ A (vs.flatMap encB)) (hl : 1 ≤ vs.length)  : CallR Try.prog 80 [.agg n.sv, (vS A vs.length c)] [] Φ Bool (fun t => (vB t)) (fun _ => []) (fun t _ => t = (vs.getD 0 false)) := by
  refine CallG.enterk Try.func80 rfl [2, 3, 4, 5, 6, 7] ⟨fr 8 [(0, .agg n.sv), (1, (vS A vs.length c))], []⟩ (by kernel_rfl) (by kernel_rfl) ?_
  intro E G β0
  refine At.seq ?_
  refine At.region ?_
  refine At.runk 2 [0, 2, 4] [0] ⟨fr 8 [(1, (vS A vs.length c))], [.dead]⟩ (by kernel_rfl) ?_
  refine At.nil ?_
  refine At.then_normal ?_
  refine At.seq ?_
  refine At.region ?_
  refine At.runk 1 [1] [] ⟨fr 8 [(5, (vS A vs.length c))], [.dead]⟩ (by kernel_rfl) ?_
  obtain ⟨b1, off2, hAeq⟩ : ∃ b off, A = some ⟨b, off, none⟩ := hR.addr (by rw [flat_len (sz := 1) (fun _ => rfl)]; omega)
  subst hAeq
  refine At.idx (S' := ⟨fr 8 [(5, (vS (aS b1 off2) vs.length c)), (6, .v (.pointer (some ⟨b1, off2 + 0 * 1, none⟩)))], [.dead]⟩) rfl (by kernel_rfl) (sz := 1) (e := 4) (by kernel_rfl) (by kernel_rfl) (by kernel_rfl) (b := b1) (off := off2) (n := vs.length) (cap := c) (kd := .i64) (i := 0) (by kernel_rfl) (by omega) (by omega) (by kernel_rfl) ?_
  obtain ⟨e3, he4⟩ := get_some (l := vs) (i := 0) (by omega)
  refine At.vals (S' := ⟨fr 8 [(5, (vS (aS b1 off2) vs.length c)), (6, .v (.pointer (some ⟨b1, off2 + 0 * 1, none⟩))), (7, (vB e3))], [.dead]⟩) (by kernel_rfl) ((vB e3)) (by kernel_rfl) (Val.ldE rfl (enc := encB) (xs := vs) (b := b1) (off := off2) hR (sz := 1) (fun _ => rfl) (Nat.zero_lt_succ _) 0 e3 he4 0 (off2 + 0 * 1) (by omega) (by kernel_rfl) ((vB e3)) (by kernel_rfl)) ?_
  refine At.runk 1 [5, 6, 7] [] ⟨fr 8 [(4, (vB e3))], [.dead]⟩ (by kernel_rfl) ?_
  refine At.nil ?_
  refine At.then_normal ?_
  refine At.ret_ ?_
  refine At.forget [] 0 [] ⟨fr 8 [(4, (vB e3))], []⟩ (by kernel_rfl) (by kernel_rfl) (bleT rfl) ?_
  refine At.leaveR rfl e3 (by kernel_rfl) (by kernel_rfl) (by kernel_rfl) ?_
  simp_all [getD_get he4 false]

theorem nulk5_c (Φ : Phi) (n : Nd) (vs : List Bool) (A : Option Addr) (c : Nat) (hR : RdC Φ A (vs.flatMap encB)) (hl : 2 ≤ vs.length)  : CallR Try.prog 83 [.agg n.sv, (vS A vs.length c)] [] Φ Bool (fun t => (vB t)) (fun _ => []) (fun t _ => t = (vs.getD 0 false && vs.getD 1 false)) := by
  refine CallG.enterk Try.func83 rfl [2, 3, 4, 5, 6, 7, 8, 9, 10, 11, 12] ⟨fr 13 [(0, .agg n.sv), (1, (vS A vs.length c))], []⟩ (by kernel_rfl) (by kernel_rfl) ?_
  intro E G β0
  refine At.seq ?_
  refine At.region ?_
  refine At.runk 2 [0, 2, 4] [0] ⟨fr 13 [(1, (vS A vs.length c))], [.dead]⟩ (by kernel_rfl) ?_
  refine At.nil ?_
  refine At.then_normal ?_
  refine At.seq ?_
  refine At.region ?_
  refine At.runk 1 [] [] ⟨fr 13 [(1, (vS A vs.length c)), (5, (vS A vs.length c))], [.dead]⟩ (by kernel_rfl) ?_
  obtain ⟨b1, off2, hAeq⟩ : ∃ b off, A = some ⟨b, off, none⟩ := hR.addr (by rw [flat_len (sz := 1) (fun _ => rfl)]; omega)
  subst hAeq
  refine At.idx (S' := ⟨fr 13 [(1, (vS (aS b1 off2) vs.length c)), (5, (vS (aS b1 off2) vs.length c)), (6, .v (.pointer (some ⟨b1, off2 + 0 * 1, none⟩)))], [.dead]⟩) rfl (by kernel_rfl) (sz := 1) (e := 4) (by kernel_rfl) (by kernel_rfl) (by kernel_rfl) (b := b1) (off := off2) (n := vs.length) (cap := c) (kd := .i64) (i := 0) (by kernel_rfl) (by omega) (by omega) (by kernel_rfl) ?_
  obtain ⟨e3, he4⟩ := get_some (l := vs) (i := 0) (by omega)
  refine At.vals (S' := ⟨fr 13 [(1, (vS (aS b1 off2) vs.length c)), (5, (vS (aS b1 off2) vs.length c)), (6, .v (.pointer (some ⟨b1, off2 + 0 * 1, none⟩))), (7, (vB e3))], [.dead]⟩) (by kernel_rfl) ((vB e3)) (by kernel_rfl) (Val.ldE rfl (enc := encB) (xs := vs) (b := b1) (off := off2) hR (sz := 1) (fun _ => rfl) (Nat.zero_lt_succ _) 0 e3 he4 0 (off2 + 0 * 1) (by omega) (by kernel_rfl) ((vB e3)) (by kernel_rfl)) ?_
  refine At.runk 1 [5, 6, 7] [] ⟨fr 13 [(1, (vS (aS b1 off2) vs.length c)), (8, (vB e3))], [.dead]⟩ (by kernel_rfl) ?_
  refine At.bcase e3 (fun hb5 => ?_) (fun hb5 => ?_)
  · refine At.cast (S' := ⟨fr 13 [(1, (vS (aS b1 off2) vs.length c)), (8, (vB true))], [.dead]⟩) (by rw [hb5] <;> rfl) ?_
    refine At.runk 1 [1] [] ⟨fr 13 [(8, (vB true)), (9, (vS (aS b1 off2) vs.length c))], [.dead]⟩ (by kernel_rfl) ?_
    refine At.idx (S' := ⟨fr 13 [(8, (vB true)), (9, (vS (aS b1 off2) vs.length c)), (10, .v (.pointer (some ⟨b1, off2 + 1 * 1, none⟩)))], [.dead]⟩) rfl (by kernel_rfl) (sz := 1) (e := 4) (by kernel_rfl) (by kernel_rfl) (by kernel_rfl) (b := b1) (off := off2) (n := vs.length) (cap := c) (kd := .i64) (i := 1) (by kernel_rfl) (by omega) (by omega) (by kernel_rfl) ?_
    obtain ⟨e6, he7⟩ := get_some (l := vs) (i := 1) (by omega)
    refine At.vals (S' := ⟨fr 13 [(8, (vB true)), (9, (vS (aS b1 off2) vs.length c)), (10, .v (.pointer (some ⟨b1, off2 + 1 * 1, none⟩))), (11, (vB e6))], [.dead]⟩) (by kernel_rfl) ((vB e6)) (by kernel_rfl) (Val.ldE rfl (enc := encB) (xs := vs) (b := b1) (off := off2) hR (sz := 1) (fun _ => rfl) (Nat.zero_lt_succ _) 1 e6 he7 0 (off2 + 1 * 1) (by omega) (by kernel_rfl) ((vB e6)) (by kernel_rfl)) ?_
    refine At.runk 2 [8, 9, 10, 11, 12] [] ⟨fr 13 [(4, (vB e6))], [.dead]⟩ (by kernel_rfl) ?_
    refine At.nil ?_
    refine At.then_normal ?_
    refine At.ret_ ?_
    refine At.forget [] 0 [] ⟨fr 13 [(4, (vB e6))], []⟩ (by kernel_rfl) (by kernel_rfl) (bleT rfl) ?_
    refine At.leaveR rfl e6 (by kernel_rfl) (by kernel_rfl) (by kernel_rfl) ?_
    simp_all [getD_get he4 false, getD_get he7 false]
  refine At.cast (S' := ⟨fr 13 [(1, (vS (aS b1 off2) vs.length c)), (8, (vB false))], [.dead]⟩) (by rw [hb5] <;> rfl) ?_
  refine At.runk 5 [1, 8, 9, 10, 11, 12] [] ⟨fr 13 [(4, (vB false))], [.dead]⟩ (by kernel_rfl) ?_
  refine At.nil ?_
  refine At.then_normal ?_
  refine At.ret_ ?_
  refine At.forget [] 0 [] ⟨fr 13 [(4, (vB false))], []⟩ (by kernel_rfl) (by kernel_rfl) (bleT rfl) ?_
  refine At.leaveR rfl false (by kernel_rfl) (by kernel_rfl) (by kernel_rfl) ?_
  simp_all [getD_get he4 false]

theorem nulk6_c (Φ : Phi) (n : Nd) (vs : List Bool) (A : Option Addr) (c : Nat) (hR : RdC Φ A (vs.flatMap encB)) (hl : 2 ≤ vs.length)  : CallR Try.prog 84 [.agg n.sv, (vS A vs.length c)] [] Φ Bool (fun t => (vB t)) (fun _ => []) (fun t _ => t = (vs.getD 0 false || vs.getD 1 false)) := by
  refine CallG.enterk Try.func84 rfl [2, 3, 4, 5, 6, 7, 8, 9, 10, 11, 12] ⟨fr 13 [(0, .agg n.sv), (1, (vS A vs.length c))], []⟩ (by kernel_rfl) (by kernel_rfl) ?_
  intro E G β0
  refine At.seq ?_
  refine At.region ?_
  refine At.runk 2 [0, 2, 4] [0] ⟨fr 13 [(1, (vS A vs.length c))], [.dead]⟩ (by kernel_rfl) ?_
  refine At.nil ?_
  refine At.then_normal ?_
  refine At.seq ?_
  refine At.region ?_
  refine At.runk 1 [] [] ⟨fr 13 [(1, (vS A vs.length c)), (5, (vS A vs.length c))], [.dead]⟩ (by kernel_rfl) ?_
  obtain ⟨b1, off2, hAeq⟩ : ∃ b off, A = some ⟨b, off, none⟩ := hR.addr (by rw [flat_len (sz := 1) (fun _ => rfl)]; omega)
  subst hAeq
  refine At.idx (S' := ⟨fr 13 [(1, (vS (aS b1 off2) vs.length c)), (5, (vS (aS b1 off2) vs.length c)), (6, .v (.pointer (some ⟨b1, off2 + 0 * 1, none⟩)))], [.dead]⟩) rfl (by kernel_rfl) (sz := 1) (e := 4) (by kernel_rfl) (by kernel_rfl) (by kernel_rfl) (b := b1) (off := off2) (n := vs.length) (cap := c) (kd := .i64) (i := 0) (by kernel_rfl) (by omega) (by omega) (by kernel_rfl) ?_
  obtain ⟨e3, he4⟩ := get_some (l := vs) (i := 0) (by omega)
  refine At.vals (S' := ⟨fr 13 [(1, (vS (aS b1 off2) vs.length c)), (5, (vS (aS b1 off2) vs.length c)), (6, .v (.pointer (some ⟨b1, off2 + 0 * 1, none⟩))), (7, (vB e3))], [.dead]⟩) (by kernel_rfl) ((vB e3)) (by kernel_rfl) (Val.ldE rfl (enc := encB) (xs := vs) (b := b1) (off := off2) hR (sz := 1) (fun _ => rfl) (Nat.zero_lt_succ _) 0 e3 he4 0 (off2 + 0 * 1) (by omega) (by kernel_rfl) ((vB e3)) (by kernel_rfl)) ?_
  refine At.runk 1 [5, 6, 7] [] ⟨fr 13 [(1, (vS (aS b1 off2) vs.length c)), (8, (vB e3))], [.dead]⟩ (by kernel_rfl) ?_
  refine At.bcase e3 (fun hb5 => ?_) (fun hb5 => ?_)
  · refine At.cast (S' := ⟨fr 13 [(1, (vS (aS b1 off2) vs.length c)), (8, (vB true))], [.dead]⟩) (by rw [hb5] <;> rfl) ?_
    refine At.runk 5 [1, 8, 9, 10, 11, 12] [] ⟨fr 13 [(4, (vB true))], [.dead]⟩ (by kernel_rfl) ?_
    refine At.nil ?_
    refine At.then_normal ?_
    refine At.ret_ ?_
    refine At.forget [] 0 [] ⟨fr 13 [(4, (vB true))], []⟩ (by kernel_rfl) (by kernel_rfl) (bleT rfl) ?_
    refine At.leaveR rfl true (by kernel_rfl) (by kernel_rfl) (by kernel_rfl) ?_
    simp_all [getD_get he4 false]
  refine At.cast (S' := ⟨fr 13 [(1, (vS (aS b1 off2) vs.length c)), (8, (vB false))], [.dead]⟩) (by rw [hb5] <;> rfl) ?_
  refine At.runk 1 [1] [] ⟨fr 13 [(8, (vB false)), (9, (vS (aS b1 off2) vs.length c))], [.dead]⟩ (by kernel_rfl) ?_
  refine At.idx (S' := ⟨fr 13 [(8, (vB false)), (9, (vS (aS b1 off2) vs.length c)), (10, .v (.pointer (some ⟨b1, off2 + 1 * 1, none⟩)))], [.dead]⟩) rfl (by kernel_rfl) (sz := 1) (e := 4) (by kernel_rfl) (by kernel_rfl) (by kernel_rfl) (b := b1) (off := off2) (n := vs.length) (cap := c) (kd := .i64) (i := 1) (by kernel_rfl) (by omega) (by omega) (by kernel_rfl) ?_
  obtain ⟨e6, he7⟩ := get_some (l := vs) (i := 1) (by omega)
  refine At.vals (S' := ⟨fr 13 [(8, (vB false)), (9, (vS (aS b1 off2) vs.length c)), (10, .v (.pointer (some ⟨b1, off2 + 1 * 1, none⟩))), (11, (vB e6))], [.dead]⟩) (by kernel_rfl) ((vB e6)) (by kernel_rfl) (Val.ldE rfl (enc := encB) (xs := vs) (b := b1) (off := off2) hR (sz := 1) (fun _ => rfl) (Nat.zero_lt_succ _) 1 e6 he7 0 (off2 + 1 * 1) (by omega) (by kernel_rfl) ((vB e6)) (by kernel_rfl)) ?_
  refine At.runk 2 [8, 9, 10, 11, 12] [] ⟨fr 13 [(4, (vB e6))], [.dead]⟩ (by kernel_rfl) ?_
  refine At.nil ?_
  refine At.then_normal ?_
  refine At.ret_ ?_
  refine At.forget [] 0 [] ⟨fr 13 [(4, (vB e6))], []⟩ (by kernel_rfl) (by kernel_rfl) (bleT rfl) ?_
  refine At.leaveR rfl e6 (by kernel_rfl) (by kernel_rfl) (by kernel_rfl) ?_
  simp_all [getD_get he4 false, getD_get he7 false]

theorem nulk7_c (Φ : Phi) (n : Nd) (vs : List Bool) (A : Option Addr) (c : Nat) (hR : RdC Φ A (vs.flatMap encB)) (hl : 1 ≤ vs.length)  : CallR Try.prog 86 [.agg n.sv, (vS A vs.length c)] [] Φ Bool (fun t => (vB t)) (fun _ => []) (fun t _ => t = (n.mn == 0 || vs.getD 0 false)) := by
  refine CallG.enterk Try.func86 rfl [2, 3, 4, 5, 6, 7, 8, 9, 10, 11, 12] ⟨fr 13 [(0, .agg n.sv), (1, (vS A vs.length c))], []⟩ (by kernel_rfl) (by kernel_rfl) ?_
  intro E G β0
  refine At.seq ?_
  refine At.region ?_
  refine At.runk 2 [0, 4] [] ⟨fr 13 [(1, (vS A vs.length c)), (2, .p 0 0)], [.c n.sv 26]⟩ (by kernel_rfl) ?_
  refine At.nil ?_
  refine At.then_normal ?_
  refine At.seq ?_
  refine At.region ?_
  refine At.runk 4 [2, 5, 6, 7] [0] ⟨fr 13 [(1, (vS A vs.length c)), (8, (vB (n.mn == 0)))], [.dead]⟩ (by kernel_rfl) ?_
  refine At.bcase (n.mn == 0) (fun hb1 => ?_) (fun hb1 => ?_)
  · have hb1p : (n.mn = 0) := eq_of_beq hb1
    refine At.cast (S' := ⟨fr 13 [(1, (vS A vs.length c)), (8, (vB true))], [.dead]⟩) (by rw [hb1] <;> rfl) ?_
    refine At.runk 5 [1, 8, 9, 10, 11, 12] [] ⟨fr 13 [(4, (vB true))], [.dead]⟩ (by kernel_rfl) ?_
    refine At.nil ?_
    refine At.then_normal ?_
    refine At.ret_ ?_
    refine At.forget [] 0 [] ⟨fr 13 [(4, (vB true))], []⟩ (by kernel_rfl) (by kernel_rfl) (bleT rfl) ?_
    refine At.leaveR rfl true (by kernel_rfl) (by kernel_rfl) (by kernel_rfl) ?_
    simp_all
  have hb1p : ¬ (n.mn = 0) := beq_eq_false_iff_ne.1 hb1
  refine At.cast (S' := ⟨fr 13 [(1, (vS A vs.length c)), (8, (vB false))], [.dead]⟩) (by rw [hb1] <;> rfl) ?_
  refine At.runk 1 [1] [] ⟨fr 13 [(8, (vB false)), (9, (vS A vs.length c))], [.dead]⟩ (by kernel_rfl) ?_
  obtain ⟨b2, off3, hAeq⟩ : ∃ b off, A = some ⟨b, off, none⟩ := hR.addr (by rw [flat_len (sz := 1) (fun _ => rfl)]; omega)
  subst hAeq
  refine At.idx (S' := ⟨fr 13 [(8, (vB false)), (9, (vS (aS b2 off3) vs.length c)), (10, .v (.pointer (some ⟨b2, off3 + 0 * 1, none⟩)))], [.dead]⟩) rfl (by kernel_rfl) (sz := 1) (e := 4) (by kernel_rfl) (by kernel_rfl) (by kernel_rfl) (b := b2) (off := off3) (n := vs.length) (cap := c) (kd := .i64) (i := 0) (by kernel_rfl) (by omega) (by omega) (by kernel_rfl) ?_
  obtain ⟨e4, he5⟩ := get_some (l := vs) (i := 0) (by omega)
  refine At.vals (S' := ⟨fr 13 [(8, (vB false)), (9, (vS (aS b2 off3) vs.length c)), (10, .v (.pointer (some ⟨b2, off3 + 0 * 1, none⟩))), (11, (vB e4))], [.dead]⟩) (by kernel_rfl) ((vB e4)) (by kernel_rfl) (Val.ldE rfl (enc := encB) (xs := vs) (b := b2) (off := off3) hR (sz := 1) (fun _ => rfl) (Nat.zero_lt_succ _) 0 e4 he5 0 (off3 + 0 * 1) (by omega) (by kernel_rfl) ((vB e4)) (by kernel_rfl)) ?_
  refine At.runk 2 [8, 9, 10, 11, 12] [] ⟨fr 13 [(4, (vB e4))], [.dead]⟩ (by kernel_rfl) ?_
  refine At.nil ?_
  refine At.then_normal ?_
  refine At.ret_ ?_
  refine At.forget [] 0 [] ⟨fr 13 [(4, (vB e4))], []⟩ (by kernel_rfl) (by kernel_rfl) (bleT rfl) ?_
  refine At.leaveR rfl e4 (by kernel_rfl) (by kernel_rfl) (by kernel_rfl) ?_
  simp_all [getD_get he5 false]

theorem nul1_c (Φ : Phi) (k s0 s1 s2 s3 mn mx : Int) (hm : (⟨k, s0, s1, s2, s3, mn, mx⟩ : Nd).may = true) (vs : List Bool) (A : Option Addr) (c : Nat) (hR : RdC Φ A (vs.flatMap encB)) (hlen : vs.length = ar ⟨k, s0, s1, s2, s3, mn, mx⟩)  : CallR Try.prog 52 [.agg (nV k s0 s1 s2 s3 mn mx), (vS A vs.length c)] [] Φ Bool (fun t => (vB t)) (fun _ => []) (fun t _ => t = nmk ⟨k, s0, s1, s2, s3, mn, mx⟩ vs) := by
  refine CallG.enterk Try.func52 rfl [2, 3, 4, 5, 6, 7, 8, 9, 10, 11, 12] ⟨fr 13 [(0, .agg (nV k s0 s1 s2 s3 mn mx)), (1, (vS A vs.length c))], []⟩ (by kernel_rfl) (by kernel_rfl) ?_
  intro E G β0
  have hk := Nd.kind_of_may hm
  dsimp only at hk
  refine At.seq ?_
  refine At.region ?_
  refine At.runk 2 [0, 4] [] ⟨fr 13 [(1, (vS A vs.length c)), (2, .p 0 0)], [.c (nV k s0 s1 s2 s3 mn mx) 26]⟩ (by kernel_rfl) ?_
  refine At.nil ?_
  refine At.then_normal ?_
  refine At.seq ?_
  refine At.freezeC 0 [.int .i64 k, .int .u64 s0, .int .u64 s1, .int .u64 s2, .int .u64 s3, .int .i64 mn, .int .i64 mx] rfl rfl (bleT rfl) (bleT rfl) (fun _ => by kernel_rfl) (fun _ => by kernel_rfl) ?_
  intro g1 Φ2 hle3 hB4
  have hR := hR.mono hle3
  refine ⟨⟨fr 13 [(1, (vS A vs.length c)), (2, (vP g1 0))], [.dead]⟩, by kernel_rfl, ?_⟩
  obtain rfl | rfl | rfl | rfl | rfl | rfl | rfl | rfl | rfl : k = 1 ∨ k = 2 ∨ k = 3 ∨ k = 4 ∨ k = 5 ∨ k = 6 ∨ k = 7 ∨ k = 8 ∨ k = 9 := by omega
  · refine At.forget [] 0 [] ⟨fr 13 [(1, (vS A vs.length c)), (2, (vP g1 0))], []⟩ (by kernel_rfl) (by kernel_rfl) (bleT rfl) ?_
    refine At.region_draw (by kernel_rfl) 9 (by kernel_rfl) #[false, false, false, false, false, false, false, false, false] (by kernel_rfl) ?_
    have hRd := hR
    have hB4d := hB4
    refine At.take (S' := ⟨fr 13 [(1, (vS A vs.length c)), (2, (vP g1 0)), (6, (vP g1 0))], []⟩) (PhiLe.refl 0 _) (PanOk.then PanOk.body) 1 rfl (by kernel_rfl) (by kernel_rfl) (by kernel_rfl) (by kernel_rfl) ((vP g1 0)) (by kernel_rfl) (fun _ _ => Val.ev rfl (by kernel_rfl) (by kernel_rfl)) (by kernel_rfl) #[false, true, false, false, false, false, false, false, false] (by kernel_rfl) ?_
    refine At.take (S' := ⟨fr 13 [(1, (vS A vs.length c)), (2, (vP g1 0)), (6, (vP g1 0)), (7, (vI 1))], []⟩) (PhiLe.refl 0 _) (PanOk.then PanOk.body) 2 rfl (by kernel_rfl) (by kernel_rfl) (by kernel_rfl) (by kernel_rfl) ((vI 1)) (by kernel_rfl) (fun _ _ => Val.ldB rfl hB4d (Nat.zero_lt_succ _) 0 0 (by omega) (by kernel_rfl) ((vI 1)) (by kernel_rfl)) (by kernel_rfl) #[false, true, true, false, false, false, false, false, false] (by kernel_rfl) ?_
    refine At.take (S' := ⟨fr 13 [(1, (vS A vs.length c)), (2, (vP g1 0)), (6, (vP g1 0)), (7, (vI 1)), (10, .agg (nV 1 s0 s1 s2 s3 mn mx))], []⟩) (PhiLe.refl 0 _) (PanOk.then PanOk.body) 5 rfl (by kernel_rfl) (by kernel_rfl) (by kernel_rfl) (by kernel_rfl) (.agg (nV 1 s0 s1 s2 s3 mn mx)) (by kernel_rfl) (fun _ _ => Val.ldB rfl hB4d (Nat.zero_lt_succ _) 0 0 (by omega) (by kernel_rfl) (.agg (nV 1 s0 s1 s2 s3 mn mx)) (by kernel_rfl)) (by kernel_rfl) #[false, true, true, false, false, true, false, false, false] (by kernel_rfl) ?_
    refine At.take (S' := ⟨fr 13 [(1, (vS A vs.length c)), (2, (vP g1 0)), (6, (vP g1 0)), (7, (vI 1)), (10, .agg (nV 1 s0 s1 s2 s3 mn mx)), (11, (vS A vs.length c))], []⟩) (PhiLe.refl 0 _) (PanOk.then PanOk.body) 6 rfl (by kernel_rfl) (by kernel_rfl) (by kernel_rfl) (by kernel_rfl) ((vS A vs.length c)) (by kernel_rfl) (fun _ _ => Val.ev rfl (by kernel_rfl) (by kernel_rfl)) (by kernel_rfl) #[false, true, true, false, false, true, true, false, false] (by kernel_rfl) ?_
    refine At.any1 0 (by kernel_rfl) rfl #[true, true, true, false, false, true, true, false, false] (by kernel_rfl) ?_
    refine At.callV rfl (by kernel_rfl) 53 [] [] (by kernel_rfl) Try.func53 (by kernel_rfl) (by kernel_rfl) [] (by kernel_rfl) (by kernel_rfl) (kinds_c Φ2) ?_
    rintro Φ5 ⟨⟩ hle6 -
    have hR := hR.mono hle6
    have hB4 := hB4.mono hle6
    refine ⟨⟨fr 13 [(1, (vS A vs.length c)), (2, (vP g1 0)), (5, kindsV), (6, (vP g1 0)), (7, (vI 1)), (10, .agg (nV 1 s0 s1 s2 s3 mn mx)), (11, (vS A vs.length c))], []⟩, by kernel_rfl, by kernel_rfl, ?_⟩
    refine At.nil ?_
    refine At.then_normal ?_
    refine At.held hle6 ?_
    refine At.take (S' := ⟨fr 13 [(1, (vS A vs.length c)), (2, (vP g1 0)), (5, kindsV), (6, (vP g1 0)), (7, (vI 1)), (8, .agg [(vI 0), (vF 81), (vF 79)]), (10, .agg (nV 1 s0 s1 s2 s3 mn mx)), (11, (vS A vs.length c))], []⟩) hle6 (PanOk.then PanOk.body) 3 rfl (by kernel_rfl) (by kernel_rfl) (by kernel_rfl) (by kernel_rfl) (.agg [(vI 0), (vF 81), (vF 79)]) (by kernel_rfl) (fun _ _ => Val.ev rfl (by kernel_rfl) (by kernel_rfl)) (by kernel_rfl) #[true, true, true, true, false, true, true, false, false] (by kernel_rfl) ?_
    refine At.take (S' := ⟨fr 13 [(1, (vS A vs.length c)), (2, (vP g1 0)), (5, kindsV), (6, (vP g1 0)), (7, (vI 1)), (8, .agg [(vI 0), (vF 81), (vF 79)]), (9, (vF 79)), (10, .agg (nV 1 s0 s1 s2 s3 mn mx)), (11, (vS A vs.length c))], []⟩) hle6 (PanOk.then PanOk.body) 4 rfl (by kernel_rfl) (by kernel_rfl) (by kernel_rfl) (by kernel_rfl) ((vF 79)) (by kernel_rfl) (fun _ _ => Val.ev rfl (by kernel_rfl) (by kernel_rfl)) (by kernel_rfl) #[true, true, true, true, true, true, true, false, false] (by kernel_rfl) ?_
    refine At.any1 7 (by kernel_rfl) rfl #[true, true, true, true, true, true, true, true, false] (by kernel_rfl) ?_
    refine At.callV rfl (by kernel_rfl) 79 [] [] (by kernel_rfl) Try.func79 (by kernel_rfl) (by kernel_rfl) [.agg (nV 1 s0 s1 s2 s3 mn mx), (vS A vs.length c)] (by kernel_rfl) (by kernel_rfl) (nulk2_c Φ5 (⟨1, s0, s1, s2, s3, mn, mx⟩ : Nd) vs A c hR) ?_
    rintro Φ7 _ hle8 rfl
    have hR := hR.mono hle8
    have hB4 := hB4.mono hle8
    refine ⟨⟨fr 13 [(1, (vS A vs.length c)), (2, (vP g1 0)), (5, kindsV), (6, (vP g1 0)), (7, (vI 1)), (8, .agg [(vI 0), (vF 81), (vF 79)]), (9, (vF 79)), (10, .agg (nV 1 s0 s1 s2 s3 mn mx)), (11, (vS A vs.length c)), (12, (vB false))], []⟩, by kernel_rfl, by kernel_rfl, ?_⟩
    refine At.nil ?_
    refine At.then_normal ?_
    refine At.held (hle6.trans hle8) ?_
    refine At.take (S' := ⟨fr 13 [(1, (vS A vs.length c)), (2, (vP g1 0)), (4, (vB false)), (5, kindsV), (6, (vP g1 0)), (7, (vI 1)), (8, .agg [(vI 0), (vF 81), (vF 79)]), (9, (vF 79)), (10, .agg (nV 1 s0 s1 s2 s3 mn mx)), (11, (vS A vs.length c)), (12, (vB false))], []⟩) (hle6.trans hle8) (PanOk.then PanOk.body) 8 rfl (by kernel_rfl) (by kernel_rfl) (by kernel_rfl) (by kernel_rfl) ((vB false)) (by kernel_rfl) (fun _ _ => Val.ev rfl (by kernel_rfl) (by kernel_rfl)) (by kernel_rfl) #[true, true, true, true, true, true, true, true, true] (by kernel_rfl) ?_
    refine At.drawn_done (by kernel_rfl) ?_
    refine At.then_normal ?_
    refine At.ret_ ?_
    refine At.forget [1, 2, 5, 6, 7, 8, 9, 10, 11, 12] 0 [] ⟨fr 13 [(4, (vB false))], []⟩ (by kernel_rfl) (by kernel_rfl) (bleT rfl) ?_
    refine At.leaveR rfl false (by kernel_rfl) (by kernel_rfl) (by kernel_rfl) ?_
    simp [nmk]
  · refine At.forget [] 0 [] ⟨fr 13 [(1, (vS A vs.length c)), (2, (vP g1 0))], []⟩ (by kernel_rfl) (by kernel_rfl) (bleT rfl) ?_
    refine At.region_draw (by kernel_rfl) 9 (by kernel_rfl) #[false, false, false, false, false, false, false, false, false] (by kernel_rfl) ?_
    have hRd := hR
    have hB4d := hB4
    refine At.take (S' := ⟨fr 13 [(1, (vS A vs.length c)), (2, (vP g1 0)), (6, (vP g1 0))], []⟩) (PhiLe.refl 0 _) (PanOk.then PanOk.body) 1 rfl (by kernel_rfl) (by kernel_rfl) (by kernel_rfl) (by kernel_rfl) ((vP g1 0)) (by kernel_rfl) (fun _ _ => Val.ev rfl (by kernel_rfl) (by kernel_rfl)) (by kernel_rfl) #[false, true, false, false, false, false, false, false, false] (by kernel_rfl) ?_
    refine At.take (S' := ⟨fr 13 [(1, (vS A vs.length c)), (2, (vP g1 0)), (6, (vP g1 0)), (7, (vI 2))], []⟩) (PhiLe.refl 0 _) (PanOk.then PanOk.body) 2 rfl (by kernel_rfl) (by kernel_rfl) (by kernel_rfl) (by kernel_rfl) ((vI 2)) (by kernel_rfl) (fun _ _ => Val.ldB rfl hB4d (Nat.zero_lt_succ _) 0 0 (by omega) (by kernel_rfl) ((vI 2)) (by kernel_rfl)) (by kernel_rfl) #[false, true, true, false, false, false, false, false, false] (by kernel_rfl) ?_
    refine At.take (S' := ⟨fr 13 [(1, (vS A vs.length c)), (2, (vP g1 0)), (6, (vP g1 0)), (7, (vI 2)), (10, .agg (nV 2 s0 s1 s2 s3 mn mx))], []⟩) (PhiLe.refl 0 _) (PanOk.then PanOk.body) 5 rfl (by kernel_rfl) (by kernel_rfl) (by kernel_rfl) (by kernel_rfl) (.agg (nV 2 s0 s1 s2 s3 mn mx)) (by kernel_rfl) (fun _ _ => Val.ldB rfl hB4d (Nat.zero_lt_succ _) 0 0 (by omega) (by kernel_rfl) (.agg (nV 2 s0 s1 s2 s3 mn mx)) (by kernel_rfl)) (by kernel_rfl) #[false, true, true, false, false, true, false, false, false] (by kernel_rfl) ?_
    refine At.take (S' := ⟨fr 13 [(1, (vS A vs.length c)), (2, (vP g1 0)), (6, (vP g1 0)), (7, (vI 2)), (10, .agg (nV 2 s0 s1 s2 s3 mn mx)), (11, (vS A vs.length c))], []⟩) (PhiLe.refl 0 _) (PanOk.then PanOk.body) 6 rfl (by kernel_rfl) (by kernel_rfl) (by kernel_rfl) (by kernel_rfl) ((vS A vs.length c)) (by kernel_rfl) (fun _ _ => Val.ev rfl (by kernel_rfl) (by kernel_rfl)) (by kernel_rfl) #[false, true, true, false, false, true, true, false, false] (by kernel_rfl) ?_
    refine At.any1 0 (by kernel_rfl) rfl #[true, true, true, false, false, true, true, false, false] (by kernel_rfl) ?_
    refine At.callV rfl (by kernel_rfl) 53 [] [] (by kernel_rfl) Try.func53 (by kernel_rfl) (by kernel_rfl) [] (by kernel_rfl) (by kernel_rfl) (kinds_c Φ2) ?_
    rintro Φ9 ⟨⟩ hle10 -
    have hR := hR.mono hle10
    have hB4 := hB4.mono hle10
    refine ⟨⟨fr 13 [(1, (vS A vs.length c)), (2, (vP g1 0)), (5, kindsV), (6, (vP g1 0)), (7, (vI 2)), (10, .agg (nV 2 s0 s1 s2 s3 mn mx)), (11, (vS A vs.length c))], []⟩, by kernel_rfl, by kernel_rfl, ?_⟩
    refine At.nil ?_
    refine At.then_normal ?_
    refine At.held hle10 ?_
    refine At.take (S' := ⟨fr 13 [(1, (vS A vs.length c)), (2, (vP g1 0)), (5, kindsV), (6, (vP g1 0)), (7, (vI 2)), (8, .agg [(vI 0), (vF 81), (vF 78)]), (10, .agg (nV 2 s0 s1 s2 s3 mn mx)), (11, (vS A vs.length c))], []⟩) hle10 (PanOk.then PanOk.body) 3 rfl (by kernel_rfl) (by kernel_rfl) (by kernel_rfl) (by kernel_rfl) (.agg [(vI 0), (vF 81), (vF 78)]) (by kernel_rfl) (fun _ _ => Val.ev rfl (by kernel_rfl) (by kernel_rfl)) (by kernel_rfl) #[true, true, true, true, false, true, true, false, false] (by kernel_rfl) ?_
    refine At.take (S' := ⟨fr 13 [(1, (vS A vs.length c)), (2, (vP g1 0)), (5, kindsV), (6, (vP g1 0)), (7, (vI 2)), (8, .agg [(vI 0), (vF 81), (vF 78)]), (9, (vF 78)), (10, .agg (nV 2 s0 s1 s2 s3 mn mx)), (11, (vS A vs.length c))], []⟩) hle10 (PanOk.then PanOk.body) 4 rfl (by kernel_rfl) (by kernel_rfl) (by kernel_rfl) (by kernel_rfl) ((vF 78)) (by kernel_rfl) (fun _ _ => Val.ev rfl (by kernel_rfl) (by kernel_rfl)) (by kernel_rfl) #[true, true, true, true, true, true, true, false, false] (by kernel_rfl) ?_
    refine At.any1 7 (by kernel_rfl) rfl #[true, true, true, true, true, true, true, true, false] (by kernel_rfl) ?_
    refine At.callV rfl (by kernel_rfl) 78 [] [] (by kernel_rfl) Try.func78 (by kernel_rfl) (by kernel_rfl) [.agg (nV 2 s0 s1 s2 s3 mn mx), (vS A vs.length c)] (by kernel_rfl) (by kernel_rfl) (nulk1_c Φ9 (⟨2, s0, s1, s2, s3, mn, mx⟩ : Nd) vs A c hR) ?_
    rintro Φ11 _ hle12 rfl
    have hR := hR.mono hle12
    have hB4 := hB4.mono hle12
    refine ⟨⟨fr 13 [(1, (vS A vs.length c)), (2, (vP g1 0)), (5, kindsV), (6, (vP g1 0)), (7, (vI 2)), (8, .agg [(vI 0), (vF 81), (vF 78)]), (9, (vF 78)), (10, .agg (nV 2 s0 s1 s2 s3 mn mx)), (11, (vS A vs.length c)), (12, (vB true))], []⟩, by kernel_rfl, by kernel_rfl, ?_⟩
    refine At.nil ?_
    refine At.then_normal ?_
    refine At.held (hle10.trans hle12) ?_
    refine At.take (S' := ⟨fr 13 [(1, (vS A vs.length c)), (2, (vP g1 0)), (4, (vB true)), (5, kindsV), (6, (vP g1 0)), (7, (vI 2)), (8, .agg [(vI 0), (vF 81), (vF 78)]), (9, (vF 78)), (10, .agg (nV 2 s0 s1 s2 s3 mn mx)), (11, (vS A vs.length c)), (12, (vB true))], []⟩) (hle10.trans hle12) (PanOk.then PanOk.body) 8 rfl (by kernel_rfl) (by kernel_rfl) (by kernel_rfl) (by kernel_rfl) ((vB true)) (by kernel_rfl) (fun _ _ => Val.ev rfl (by kernel_rfl) (by kernel_rfl)) (by kernel_rfl) #[true, true, true, true, true, true, true, true, true] (by kernel_rfl) ?_
    refine At.drawn_done (by kernel_rfl) ?_
    refine At.then_normal ?_
    refine At.ret_ ?_
    refine At.forget [1, 2, 5, 6, 7, 8, 9, 10, 11, 12] 0 [] ⟨fr 13 [(4, (vB true))], []⟩ (by kernel_rfl) (by kernel_rfl) (bleT rfl) ?_
    refine At.leaveR rfl true (by kernel_rfl) (by kernel_rfl) (by kernel_rfl) ?_
    simp [nmk]
  · refine At.forget [] 0 [] ⟨fr 13 [(1, (vS A vs.length c)), (2, (vP g1 0))], []⟩ (by kernel_rfl) (by kernel_rfl) (bleT rfl) ?_
    refine At.region_draw (by kernel_rfl) 9 (by kernel_rfl) #[false, false, false, false, false, false, false, false, false] (by kernel_rfl) ?_
    have hRd := hR
    have hB4d := hB4
    refine At.take (S' := ⟨fr 13 [(1, (vS A vs.length c)), (2, (vP g1 0)), (6, (vP g1 0))], []⟩) (PhiLe.refl 0 _) (PanOk.then PanOk.body) 1 rfl (by kernel_rfl) (by kernel_rfl) (by kernel_rfl) (by kernel_rfl) ((vP g1 0)) (by kernel_rfl) (fun _ _ => Val.ev rfl (by kernel_rfl) (by kernel_rfl)) (by kernel_rfl) #[false, true, false, false, false, false, false, false, false] (by kernel_rfl) ?_
    refine At.take (S' := ⟨fr 13 [(1, (vS A vs.length c)), (2, (vP g1 0)), (6, (vP g1 0)), (7, (vI 3))], []⟩) (PhiLe.refl 0 _) (PanOk.then PanOk.body) 2 rfl (by kernel_rfl) (by kernel_rfl) (by kernel_rfl) (by kernel_rfl) ((vI 3)) (by kernel_rfl) (fun _ _ => Val.ldB rfl hB4d (Nat.zero_lt_succ _) 0 0 (by omega) (by kernel_rfl) ((vI 3)) (by kernel_rfl)) (by kernel_rfl) #[false, true, true, false, false, false, false, false, false] (by kernel_rfl) ?_
    refine At.take (S' := ⟨fr 13 [(1, (vS A vs.length c)), (2, (vP g1 0)), (6, (vP g1 0)), (7, (vI 3)), (10, .agg (nV 3 s0 s1 s2 s3 mn mx))], []⟩) (PhiLe.refl 0 _) (PanOk.then PanOk.body) 5 rfl (by kernel_rfl) (by kernel_rfl) (by kernel_rfl) (by kernel_rfl) (.agg (nV 3 s0 s1 s2 s3 mn mx)) (by kernel_rfl) (fun _ _ => Val.ldB rfl hB4d (Nat.zero_lt_succ _) 0 0 (by omega) (by kernel_rfl) (.agg (nV 3 s0 s1 s2 s3 mn mx)) (by kernel_rfl)) (by kernel_rfl) #[false, true, true, false, false, true, false, false, false] (by kernel_rfl) ?_
    refine At.take (S' := ⟨fr 13 [(1, (vS A vs.length c)), (2, (vP g1 0)), (6, (vP g1 0)), (7, (vI 3)), (10, .agg (nV 3 s0 s1 s2 s3 mn mx)), (11, (vS A vs.length c))], []⟩) (PhiLe.refl 0 _) (PanOk.then PanOk.body) 6 rfl (by kernel_rfl) (by kernel_rfl) (by kernel_rfl) (by kernel_rfl) ((vS A vs.length c)) (by kernel_rfl) (fun _ _ => Val.ev rfl (by kernel_rfl) (by kernel_rfl)) (by kernel_rfl) #[false, true, true, false, false, true, true, false, false] (by kernel_rfl) ?_
    refine At.any1 0 (by kernel_rfl) rfl #[true, true, true, false, false, true, true, false, false] (by kernel_rfl) ?_
    refine At.callV rfl (by kernel_rfl) 53 [] [] (by kernel_rfl) Try.func53 (by kernel_rfl) (by kernel_rfl) [] (by kernel_rfl) (by kernel_rfl) (kinds_c Φ2) ?_
    rintro Φ13 ⟨⟩ hle14 -
    have hR := hR.mono hle14
    have hB4 := hB4.mono hle14
    refine ⟨⟨fr 13 [(1, (vS A vs.length c)), (2, (vP g1 0)), (5, kindsV), (6, (vP g1 0)), (7, (vI 3)), (10, .agg (nV 3 s0 s1 s2 s3 mn mx)), (11, (vS A vs.length c))], []⟩, by kernel_rfl, by kernel_rfl, ?_⟩
    refine At.nil ?_
    refine At.then_normal ?_
    refine At.held hle14 ?_
    refine At.take (S' := ⟨fr 13 [(1, (vS A vs.length c)), (2, (vP g1 0)), (5, kindsV), (6, (vP g1 0)), (7, (vI 3)), (8, .agg [(vI 0), (vF 82), (vF 79)]), (10, .agg (nV 3 s0 s1 s2 s3 mn mx)), (11, (vS A vs.length c))], []⟩) hle14 (PanOk.then PanOk.body) 3 rfl (by kernel_rfl) (by kernel_rfl) (by kernel_rfl) (by kernel_rfl) (.agg [(vI 0), (vF 82), (vF 79)]) (by kernel_rfl) (fun _ _ => Val.ev rfl (by kernel_rfl) (by kernel_rfl)) (by kernel_rfl) #[true, true, true, true, false, true, true, false, false] (by kernel_rfl) ?_
    refine At.take (S' := ⟨fr 13 [(1, (vS A vs.length c)), (2, (vP g1 0)), (5, kindsV), (6, (vP g1 0)), (7, (vI 3)), (8, .agg [(vI 0), (vF 82), (vF 79)]), (9, (vF 79)), (10, .agg (nV 3 s0 s1 s2 s3 mn mx)), (11, (vS A vs.length c))], []⟩) hle14 (PanOk.then PanOk.body) 4 rfl (by kernel_rfl) (by kernel_rfl) (by kernel_rfl) (by kernel_rfl) ((vF 79)) (by kernel_rfl) (fun _ _ => Val.ev rfl (by kernel_rfl) (by kernel_rfl)) (by kernel_rfl) #[true, true, true, true, true, true, true, false, false] (by kernel_rfl) ?_
    refine At.any1 7 (by kernel_rfl) rfl #[true, true, true, true, true, true, true, true, false] (by kernel_rfl) ?_
    refine At.callV rfl (by kernel_rfl) 79 [] [] (by kernel_rfl) Try.func79 (by kernel_rfl) (by kernel_rfl) [.agg (nV 3 s0 s1 s2 s3 mn mx), (vS A vs.length c)] (by kernel_rfl) (by kernel_rfl) (nulk2_c Φ13 (⟨3, s0, s1, s2, s3, mn, mx⟩ : Nd) vs A c hR) ?_
    rintro Φ15 _ hle16 rfl
    have hR := hR.mono hle16
    have hB4 := hB4.mono hle16
    refine ⟨⟨fr 13 [(1, (vS A vs.length c)), (2, (vP g1 0)), (5, kindsV), (6, (vP g1 0)), (7, (vI 3)), (8, .agg [(vI 0), (vF 82), (vF 79)]), (9, (vF 79)), (10, .agg (nV 3 s0 s1 s2 s3 mn mx)), (11, (vS A vs.length c)), (12, (vB false))], []⟩, by kernel_rfl, by kernel_rfl, ?_⟩
    refine At.nil ?_
    refine At.then_normal ?_
    refine At.held (hle14.trans hle16) ?_
    refine At.take (S' := ⟨fr 13 [(1, (vS A vs.length c)), (2, (vP g1 0)), (4, (vB false)), (5, kindsV), (6, (vP g1 0)), (7, (vI 3)), (8, .agg [(vI 0), (vF 82), (vF 79)]), (9, (vF 79)), (10, .agg (nV 3 s0 s1 s2 s3 mn mx)), (11, (vS A vs.length c)), (12, (vB false))], []⟩) (hle14.trans hle16) (PanOk.then PanOk.body) 8 rfl (by kernel_rfl) (by kernel_rfl) (by kernel_rfl) (by kernel_rfl) ((vB false)) (by kernel_rfl) (fun _ _ => Val.ev rfl (by kernel_rfl) (by kernel_rfl)) (by kernel_rfl) #[true, true, true, true, true, true, true, true, true] (by kernel_rfl) ?_
    refine At.drawn_done (by kernel_rfl) ?_
    refine At.then_normal ?_
    refine At.ret_ ?_
    refine At.forget [1, 2, 5, 6, 7, 8, 9, 10, 11, 12] 0 [] ⟨fr 13 [(4, (vB false))], []⟩ (by kernel_rfl) (by kernel_rfl) (bleT rfl) ?_
    refine At.leaveR rfl false (by kernel_rfl) (by kernel_rfl) (by kernel_rfl) ?_
    simp [nmk]
  · refine At.forget [] 0 [] ⟨fr 13 [(1, (vS A vs.length c)), (2, (vP g1 0))], []⟩ (by kernel_rfl) (by kernel_rfl) (bleT rfl) ?_
    refine At.region_draw (by kernel_rfl) 9 (by kernel_rfl) #[false, false, false, false, false, false, false, false, false] (by kernel_rfl) ?_
    have hRd := hR
    have hB4d := hB4
    refine At.take (S' := ⟨fr 13 [(1, (vS A vs.length c)), (2, (vP g1 0)), (6, (vP g1 0))], []⟩) (PhiLe.refl 0 _) (PanOk.then PanOk.body) 1 rfl (by kernel_rfl) (by kernel_rfl) (by kernel_rfl) (by kernel_rfl) ((vP g1 0)) (by kernel_rfl) (fun _ _ => Val.ev rfl (by kernel_rfl) (by kernel_rfl)) (by kernel_rfl) #[false, true, false, false, false, false, false, false, false] (by kernel_rfl) ?_
    refine At.take (S' := ⟨fr 13 [(1, (vS A vs.length c)), (2, (vP g1 0)), (6, (vP g1 0)), (7, (vI 4))], []⟩) (PhiLe.refl 0 _) (PanOk.then PanOk.body) 2 rfl (by kernel_rfl) (by kernel_rfl) (by kernel_rfl) (by kernel_rfl) ((vI 4)) (by kernel_rfl) (fun _ _ => Val.ldB rfl hB4d (Nat.zero_lt_succ _) 0 0 (by omega) (by kernel_rfl) ((vI 4)) (by kernel_rfl)) (by kernel_rfl) #[false, true, true, false, false, false, false, false, false] (by kernel_rfl) ?_
    refine At.take (S' := ⟨fr 13 [(1, (vS A vs.length c)), (2, (vP g1 0)), (6, (vP g1 0)), (7, (vI 4)), (10, .agg (nV 4 s0 s1 s2 s3 mn mx))], []⟩) (PhiLe.refl 0 _) (PanOk.then PanOk.body) 5 rfl (by kernel_rfl) (by kernel_rfl) (by kernel_rfl) (by kernel_rfl) (.agg (nV 4 s0 s1 s2 s3 mn mx)) (by kernel_rfl) (fun _ _ => Val.ldB rfl hB4d (Nat.zero_lt_succ _) 0 0 (by omega) (by kernel_rfl) (.agg (nV 4 s0 s1 s2 s3 mn mx)) (by kernel_rfl)) (by kernel_rfl) #[false, true, true, false, false, true, false, false, false] (by kernel_rfl) ?_
    refine At.take (S' := ⟨fr 13 [(1, (vS A vs.length c)), (2, (vP g1 0)), (6, (vP g1 0)), (7, (vI 4)), (10, .agg (nV 4 s0 s1 s2 s3 mn mx)), (11, (vS A vs.length c))], []⟩) (PhiLe.refl 0 _) (PanOk.then PanOk.body) 6 rfl (by kernel_rfl) (by kernel_rfl) (by kernel_rfl) (by kernel_rfl) ((vS A vs.length c)) (by kernel_rfl) (fun _ _ => Val.ev rfl (by kernel_rfl) (by kernel_rfl)) (by kernel_rfl) #[false, true, true, false, false, true, true, false, false] (by kernel_rfl) ?_
    refine At.any1 0 (by kernel_rfl) rfl #[true, true, true, false, false, true, true, false, false] (by kernel_rfl) ?_
    refine At.callV rfl (by kernel_rfl) 53 [] [] (by kernel_rfl) Try.func53 (by kernel_rfl) (by kernel_rfl) [] (by kernel_rfl) (by kernel_rfl) (kinds_c Φ2) ?_
    rintro Φ17 ⟨⟩ hle18 -
    have hR := hR.mono hle18
    have hB4 := hB4.mono hle18
    refine ⟨⟨fr 13 [(1, (vS A vs.length c)), (2, (vP g1 0)), (5, kindsV), (6, (vP g1 0)), (7, (vI 4)), (10, .agg (nV 4 s0 s1 s2 s3 mn mx)), (11, (vS A vs.length c))], []⟩, by kernel_rfl, by kernel_rfl, ?_⟩
    refine At.nil ?_
    refine At.then_normal ?_
    refine At.held hle18 ?_
    refine At.take (S' := ⟨fr 13 [(1, (vS A vs.length c)), (2, (vP g1 0)), (5, kindsV), (6, (vP g1 0)), (7, (vI 4)), (8, .agg [(vI 2), (vF 81), (vF 83)]), (10, .agg (nV 4 s0 s1 s2 s3 mn mx)), (11, (vS A vs.length c))], []⟩) hle18 (PanOk.then PanOk.body) 3 rfl (by kernel_rfl) (by kernel_rfl) (by kernel_rfl) (by kernel_rfl) (.agg [(vI 2), (vF 81), (vF 83)]) (by kernel_rfl) (fun _ _ => Val.ev rfl (by kernel_rfl) (by kernel_rfl)) (by kernel_rfl) #[true, true, true, true, false, true, true, false, false] (by kernel_rfl) ?_
    refine At.take (S' := ⟨fr 13 [(1, (vS A vs.length c)), (2, (vP g1 0)), (5, kindsV), (6, (vP g1 0)), (7, (vI 4)), (8, .agg [(vI 2), (vF 81), (vF 83)]), (9, (vF 83)), (10, .agg (nV 4 s0 s1 s2 s3 mn mx)), (11, (vS A vs.length c))], []⟩) hle18 (PanOk.then PanOk.body) 4 rfl (by kernel_rfl) (by kernel_rfl) (by kernel_rfl) (by kernel_rfl) ((vF 83)) (by kernel_rfl) (fun _ _ => Val.ev rfl (by kernel_rfl) (by kernel_rfl)) (by kernel_rfl) #[true, true, true, true, true, true, true, false, false] (by kernel_rfl) ?_
    refine At.any1 7 (by kernel_rfl) rfl #[true, true, true, true, true, true, true, true, false] (by kernel_rfl) ?_
    refine At.callV rfl (by kernel_rfl) 83 [] [] (by kernel_rfl) Try.func83 (by kernel_rfl) (by kernel_rfl) [.agg (nV 4 s0 s1 s2 s3 mn mx), (vS A vs.length c)] (by kernel_rfl) (by kernel_rfl) (nulk5_c Φ17 (⟨4, s0, s1, s2, s3, mn, mx⟩ : Nd) vs A c hR (by rw [hlen]; exact Nat.le_refl _)) ?_
    rintro Φ19 _ hle20 rfl
    have hR := hR.mono hle20
    have hB4 := hB4.mono hle20
    refine ⟨⟨fr 13 [(1, (vS A vs.length c)), (2, (vP g1 0)), (5, kindsV), (6, (vP g1 0)), (7, (vI 4)), (8, .agg [(vI 2), (vF 81), (vF 83)]), (9, (vF 83)), (10, .agg (nV 4 s0 s1 s2 s3 mn mx)), (11, (vS A vs.length c)), (12, (vB (vs.getD 0 false && vs.getD 1 false)))], []⟩, by kernel_rfl, by kernel_rfl, ?_⟩
    refine At.nil ?_
    refine At.then_normal ?_
    refine At.held (hle18.trans hle20) ?_
    refine At.take (S' := ⟨fr 13 [(1, (vS A vs.length c)), (2, (vP g1 0)), (4, (vB (vs.getD 0 false && vs.getD 1 false))), (5, kindsV), (6, (vP g1 0)), (7, (vI 4)), (8, .agg [(vI 2), (vF 81), (vF 83)]), (9, (vF 83)), (10, .agg (nV 4 s0 s1 s2 s3 mn mx)), (11, (vS A vs.length c)), (12, (vB (vs.getD 0 false && vs.getD 1 false)))], []⟩) (hle18.trans hle20) (PanOk.then PanOk.body) 8 rfl (by kernel_rfl) (by kernel_rfl) (by kernel_rfl) (by kernel_rfl) ((vB (vs.getD 0 false && vs.getD 1 false))) (by kernel_rfl) (fun _ _ => Val.ev rfl (by kernel_rfl) (by kernel_rfl)) (by kernel_rfl) #[true, true, true, true, true, true, true, true, true] (by kernel_rfl) ?_
    refine At.drawn_done (by kernel_rfl) ?_
    refine At.then_normal ?_
    refine At.ret_ ?_
    refine At.forget [1, 2, 5, 6, 7, 8, 9, 10, 11, 12] 0 [] ⟨fr 13 [(4, (vB (vs.getD 0 false && vs.getD 1 false)))], []⟩ (by kernel_rfl) (by kernel_rfl) (bleT rfl) ?_
    refine At.leaveR rfl (vs.getD 0 false && vs.getD 1 false) (by kernel_rfl) (by kernel_rfl) (by kernel_rfl) ?_
    simp [nmk]
  · refine At.forget [] 0 [] ⟨fr 13 [(1, (vS A vs.length c)), (2, (vP g1 0))], []⟩ (by kernel_rfl) (by kernel_rfl) (bleT rfl) ?_
    refine At.region_draw (by kernel_rfl) 9 (by kernel_rfl) #[false, false, false, false, false, false, false, false, false] (by kernel_rfl) ?_
    have hRd := hR
    have hB4d := hB4
    refine At.take (S' := ⟨fr 13 [(1, (vS A vs.length c)), (2, (vP g1 0)), (6, (vP g1 0))], []⟩) (PhiLe.refl 0 _) (PanOk.then PanOk.body) 1 rfl (by kernel_rfl) (by kernel_rfl) (by kernel_rfl) (by kernel_rfl) ((vP g1 0)) (by kernel_rfl) (fun _ _ => Val.ev rfl (by kernel_rfl) (by kernel_rfl)) (by kernel_rfl) #[false, true, false, false, false, false, false, false, false] (by kernel_rfl) ?_
    refine At.take (S' := ⟨fr 13 [(1, (vS A vs.length c)), (2, (vP g1 0)), (6, (vP g1 0)), (7, (vI 5))], []⟩) (PhiLe.refl 0 _) (PanOk.then PanOk.body) 2 rfl (by kernel_rfl) (by kernel_rfl) (by kernel_rfl) (by kernel_rfl) ((vI 5)) (by kernel_rfl) (fun _ _ => Val.ldB rfl hB4d (Nat.zero_lt_succ _) 0 0 (by omega) (by kernel_rfl) ((vI 5)) (by kernel_rfl)) (by kernel_rfl) #[false, true, true, false, false, false, false, false, false] (by kernel_rfl) ?_
    refine At.take (S' := ⟨fr 13 [(1, (vS A vs.length c)), (2, (vP g1 0)), (6, (vP g1 0)), (7, (vI 5)), (10, .agg (nV 5 s0 s1 s2 s3 mn mx))], []⟩) (PhiLe.refl 0 _) (PanOk.then PanOk.body) 5 rfl (by kernel_rfl) (by kernel_rfl) (by kernel_rfl) (by kernel_rfl) (.agg (nV 5 s0 s1 s2 s3 mn mx)) (by kernel_rfl) (fun _ _ => Val.ldB rfl hB4d (Nat.zero_lt_succ _) 0 0 (by omega) (by kernel_rfl) (.agg (nV 5 s0 s1 s2 s3 mn mx)) (by kernel_rfl)) (by kernel_rfl) #[false, true, true, false, false, true, false, false, false] (by kernel_rfl) ?_
    refine At.take (S' := ⟨fr 13 [(1, (vS A vs.length c)), (2, (vP g1 0)), (6, (vP g1 0)), (7, (vI 5)), (10, .agg (nV 5 s0 s1 s2 s3 mn mx)), (11, (vS A vs.length c))], []⟩) (PhiLe.refl 0 _) (PanOk.then PanOk.body) 6 rfl (by kernel_rfl) (by kernel_rfl) (by kernel_rfl) (by kernel_rfl) ((vS A vs.length c)) (by kernel_rfl) (fun _ _ => Val.ev rfl (by kernel_rfl) (by kernel_rfl)) (by kernel_rfl) #[false, true, true, false, false, true, true, false, false] (by kernel_rfl) ?_
    refine At.any1 0 (by kernel_rfl) rfl #[true, true, true, false, false, true, true, false, false] (by kernel_rfl) ?_
    refine At.callV rfl (by kernel_rfl) 53 [] [] (by kernel_rfl) Try.func53 (by kernel_rfl) (by kernel_rfl) [] (by kernel_rfl) (by kernel_rfl) (kinds_c Φ2) ?_
    rintro Φ21 ⟨⟩ hle22 -
    have hR := hR.mono hle22
    have hB4 := hB4.mono hle22
    refine ⟨⟨fr 13 [(1, (vS A vs.length c)), (2, (vP g1 0)), (5, kindsV), (6, (vP g1 0)), (7, (vI 5)), (10, .agg (nV 5 s0 s1 s2 s3 mn mx)), (11, (vS A vs.length c))], []⟩, by kernel_rfl, by kernel_rfl, ?_⟩
    refine At.nil ?_
    refine At.then_normal ?_
    refine At.held hle22 ?_
    refine At.take (S' := ⟨fr 13 [(1, (vS A vs.length c)), (2, (vP g1 0)), (5, kindsV), (6, (vP g1 0)), (7, (vI 5)), (8, .agg [(vI 2), (vF 81), (vF 84)]), (10, .agg (nV 5 s0 s1 s2 s3 mn mx)), (11, (vS A vs.length c))], []⟩) hle22 (PanOk.then PanOk.body) 3 rfl (by kernel_rfl) (by kernel_rfl) (by kernel_rfl) (by kernel_rfl) (.agg [(vI 2), (vF 81), (vF 84)]) (by kernel_rfl) (fun _ _ => Val.ev rfl (by kernel_rfl) (by kernel_rfl)) (by kernel_rfl) #[true, true, true, true, false, true, true, false, false] (by kernel_rfl) ?_
    refine At.take (S' := ⟨fr 13 [(1, (vS A vs.length c)), (2, (vP g1 0)), (5, kindsV), (6, (vP g1 0)), (7, (vI 5)), (8, .agg [(vI 2), (vF 81), (vF 84)]), (9, (vF 84)), (10, .agg (nV 5 s0 s1 s2 s3 mn mx)), (11, (vS A vs.length c))], []⟩) hle22 (PanOk.then PanOk.body) 4 rfl (by kernel_rfl) (by kernel_rfl) (by kernel_rfl) (by kernel_rfl) ((vF 84)) (by kernel_rfl) (fun _ _ => Val.ev rfl (by kernel_rfl) (by kernel_rfl)) (by kernel_rfl) #[true, true, true, true, true, true, true, false, false] (by kernel_rfl) ?_
    refine At.any1 7 (by kernel_rfl) rfl #[true, true, true, true, true, true, true, true, false] (by kernel_rfl) ?_
    refine At.callV rfl (by kernel_rfl) 84 [] [] (by kernel_rfl) Try.func84 (by kernel_rfl) (by kernel_rfl) [.agg (nV 5 s0 s1 s2 s3 mn mx), (vS A vs.length c)] (by kernel_rfl) (by kernel_rfl) (nulk6_c Φ21 (⟨5, s0, s1, s2, s3, mn, mx⟩ : Nd) vs A c hR (by rw [hlen]; exact Nat.le_refl _)) ?_
    rintro Φ23 _ hle24 rfl
    have hR := hR.mono hle24
    have hB4 := hB4.mono hle24
    refine ⟨⟨fr 13 [(1, (vS A vs.length c)), (2, (vP g1 0)), (5, kindsV), (6, (vP g1 0)), (7, (vI 5)), (8, .agg [(vI 2), (vF 81), (vF 84)]), (9, (vF 84)), (10, .agg (nV 5 s0 s1 s2 s3 mn mx)), (11, (vS A vs.length c)), (12, (vB (vs.getD 0 false || vs.getD 1 false)))], []⟩, by kernel_rfl, by kernel_rfl, ?_⟩
    refine At.nil ?_
    refine At.then_normal ?_
    refine At.held (hle22.trans hle24) ?_
    refine At.take (S' := ⟨fr 13 [(1, (vS A vs.length c)), (2, (vP g1 0)), (4, (vB (vs.getD 0 false || vs.getD 1 false))), (5, kindsV), (6, (vP g1 0)), (7, (vI 5)), (8, .agg [(vI 2), (vF 81), (vF 84)]), (9, (vF 84)), (10, .agg (nV 5 s0 s1 s2 s3 mn mx)), (11, (vS A vs.length c)), (12, (vB (vs.getD 0 false || vs.getD 1 false)))], []⟩) (hle22.trans hle24) (PanOk.then PanOk.body) 8 rfl (by kernel_rfl) (by kernel_rfl) (by kernel_rfl) (by kernel_rfl) ((vB (vs.getD 0 false || vs.getD 1 false))) (by kernel_rfl) (fun _ _ => Val.ev rfl (by kernel_rfl) (by kernel_rfl)) (by kernel_rfl) #[true, true, true, true, true, true, true, true, true] (by kernel_rfl) ?_
    refine At.drawn_done (by kernel_rfl) ?_
    refine At.then_normal ?_
    refine At.ret_ ?_
    refine At.forget [1, 2, 5, 6, 7, 8, 9, 10, 11, 12] 0 [] ⟨fr 13 [(4, (vB (vs.getD 0 false || vs.getD 1 false)))], []⟩ (by kernel_rfl) (by kernel_rfl) (bleT rfl) ?_
    refine At.leaveR rfl (vs.getD 0 false || vs.getD 1 false) (by kernel_rfl) (by kernel_rfl) (by kernel_rfl) ?_
    simp [nmk]
  · refine At.forget [] 0 [] ⟨fr 13 [(1, (vS A vs.length c)), (2, (vP g1 0))], []⟩ (by kernel_rfl) (by kernel_rfl) (bleT rfl) ?_
    refine At.region_draw (by kernel_rfl) 9 (by kernel_rfl) #[false, false, false, false, false, false, false, false, false] (by kernel_rfl) ?_
    have hRd := hR
    have hB4d := hB4
    refine At.take (S' := ⟨fr 13 [(1, (vS A vs.length c)), (2, (vP g1 0)), (6, (vP g1 0))], []⟩) (PhiLe.refl 0 _) (PanOk.then PanOk.body) 1 rfl (by kernel_rfl) (by kernel_rfl) (by kernel_rfl) (by kernel_rfl) ((vP g1 0)) (by kernel_rfl) (fun _ _ => Val.ev rfl (by kernel_rfl) (by kernel_rfl)) (by kernel_rfl) #[false, true, false, false, false, false, false, false, false] (by kernel_rfl) ?_
    refine At.take (S' := ⟨fr 13 [(1, (vS A vs.length c)), (2, (vP g1 0)), (6, (vP g1 0)), (7, (vI 6))], []⟩) (PhiLe.refl 0 _) (PanOk.then PanOk.body) 2 rfl (by kernel_rfl) (by kernel_rfl) (by kernel_rfl) (by kernel_rfl) ((vI 6)) (by kernel_rfl) (fun _ _ => Val.ldB rfl hB4d (Nat.zero_lt_succ _) 0 0 (by omega) (by kernel_rfl) ((vI 6)) (by kernel_rfl)) (by kernel_rfl) #[false, true, true, false, false, false, false, false, false] (by kernel_rfl) ?_
    refine At.take (S' := ⟨fr 13 [(1, (vS A vs.length c)), (2, (vP g1 0)), (6, (vP g1 0)), (7, (vI 6)), (10, .agg (nV 6 s0 s1 s2 s3 mn mx))], []⟩) (PhiLe.refl 0 _) (PanOk.then PanOk.body) 5 rfl (by kernel_rfl) (by kernel_rfl) (by kernel_rfl) (by kernel_rfl) (.agg (nV 6 s0 s1 s2 s3 mn mx)) (by kernel_rfl) (fun _ _ => Val.ldB rfl hB4d (Nat.zero_lt_succ _) 0 0 (by omega) (by kernel_rfl) (.agg (nV 6 s0 s1 s2 s3 mn mx)) (by kernel_rfl)) (by kernel_rfl) #[false, true, true, false, false, true, false, false, false] (by kernel_rfl) ?_
    refine At.take (S' := ⟨fr 13 [(1, (vS A vs.length c)), (2, (vP g1 0)), (6, (vP g1 0)), (7, (vI 6)), (10, .agg (nV 6 s0 s1 s2 s3 mn mx)), (11, (vS A vs.length c))], []⟩) (PhiLe.refl 0 _) (PanOk.then PanOk.body) 6 rfl (by kernel_rfl) (by kernel_rfl) (by kernel_rfl) (by kernel_rfl) ((vS A vs.length c)) (by kernel_rfl) (fun _ _ => Val.ev rfl (by kernel_rfl) (by kernel_rfl)) (by kernel_rfl) #[false, true, true, false, false, true, true, false, false] (by kernel_rfl) ?_
    refine At.any1 0 (by kernel_rfl) rfl #[true, true, true, false, false, true, true, false, false] (by kernel_rfl) ?_
    refine At.callV rfl (by kernel_rfl) 53 [] [] (by kernel_rfl) Try.func53 (by kernel_rfl) (by kernel_rfl) [] (by kernel_rfl) (by kernel_rfl) (kinds_c Φ2) ?_
    rintro Φ25 ⟨⟩ hle26 -
    have hR := hR.mono hle26
    have hB4 := hB4.mono hle26
    refine ⟨⟨fr 13 [(1, (vS A vs.length c)), (2, (vP g1 0)), (5, kindsV), (6, (vP g1 0)), (7, (vI 6)), (10, .agg (nV 6 s0 s1 s2 s3 mn mx)), (11, (vS A vs.length c))], []⟩, by kernel_rfl, by kernel_rfl, ?_⟩
    refine At.nil ?_
    refine At.then_normal ?_
    refine At.held hle26 ?_
    refine At.take (S' := ⟨fr 13 [(1, (vS A vs.length c)), (2, (vP g1 0)), (5, kindsV), (6, (vP g1 0)), (7, (vI 6)), (8, .agg [(vI 1), (vF 81), (vF 78)]), (10, .agg (nV 6 s0 s1 s2 s3 mn mx)), (11, (vS A vs.length c))], []⟩) hle26 (PanOk.then PanOk.body) 3 rfl (by kernel_rfl) (by kernel_rfl) (by kernel_rfl) (by kernel_rfl) (.agg [(vI 1), (vF 81), (vF 78)]) (by kernel_rfl) (fun _ _ => Val.ev rfl (by kernel_rfl) (by kernel_rfl)) (by kernel_rfl) #[true, true, true, true, false, true, true, false, false] (by kernel_rfl) ?_
    refine At.take (S' := ⟨fr 13 [(1, (vS A vs.length c)), (2, (vP g1 0)), (5, kindsV), (6, (vP g1 0)), (7, (vI 6)), (8, .agg [(vI 1), (vF 81), (vF 78)]), (9, (vF 78)), (10, .agg (nV 6 s0 s1 s2 s3 mn mx)), (11, (vS A vs.length c))], []⟩) hle26 (PanOk.then PanOk.body) 4 rfl (by kernel_rfl) (by kernel_rfl) (by kernel_rfl) (by kernel_rfl) ((vF 78)) (by kernel_rfl) (fun _ _ => Val.ev rfl (by kernel_rfl) (by kernel_rfl)) (by kernel_rfl) #[true, true, true, true, true, true, true, false, false] (by kernel_rfl) ?_
    refine At.any1 7 (by kernel_rfl) rfl #[true, true, true, true, true, true, true, true, false] (by kernel_rfl) ?_
    refine At.callV rfl (by kernel_rfl) 78 [] [] (by kernel_rfl) Try.func78 (by kernel_rfl) (by kernel_rfl) [.agg (nV 6 s0 s1 s2 s3 mn mx), (vS A vs.length c)] (by kernel_rfl) (by kernel_rfl) (nulk1_c Φ25 (⟨6, s0, s1, s2, s3, mn, mx⟩ : Nd) vs A c hR) ?_
    rintro Φ27 _ hle28 rfl
    have hR := hR.mono hle28
    have hB4 := hB4.mono hle28
    refine ⟨⟨fr 13 [(1, (vS A vs.length c)), (2, (vP g1 0)), (5, kindsV), (6, (vP g1 0)), (7, (vI 6)), (8, .agg [(vI 1), (vF 81), (vF 78)]), (9, (vF 78)), (10, .agg (nV 6 s0 s1 s2 s3 mn mx)), (11, (vS A vs.length c)), (12, (vB true))], []⟩, by kernel_rfl, by kernel_rfl, ?_⟩
    refine At.nil ?_
    refine At.then_normal ?_
    refine At.held (hle26.trans hle28) ?_
    refine At.take (S' := ⟨fr 13 [(1, (vS A vs.length c)), (2, (vP g1 0)), (4, (vB true)), (5, kindsV), (6, (vP g1 0)), (7, (vI 6)), (8, .agg [(vI 1), (vF 81), (vF 78)]), (9, (vF 78)), (10, .agg (nV 6 s0 s1 s2 s3 mn mx)), (11, (vS A vs.length c)), (12, (vB true))], []⟩) (hle26.trans hle28) (PanOk.then PanOk.body) 8 rfl (by kernel_rfl) (by kernel_rfl) (by kernel_rfl) (by kernel_rfl) ((vB true)) (by kernel_rfl) (fun _ _ => Val.ev rfl (by kernel_rfl) (by kernel_rfl)) (by kernel_rfl) #[true, true, true, true, true, true, true, true, true] (by kernel_rfl) ?_
    refine At.drawn_done (by kernel_rfl) ?_
    refine At.then_normal ?_
    refine At.ret_ ?_
    refine At.forget [1, 2, 5, 6, 7, 8, 9, 10, 11, 12] 0 [] ⟨fr 13 [(4, (vB true))], []⟩ (by kernel_rfl) (by kernel_rfl) (bleT rfl) ?_
    refine At.leaveR rfl true (by kernel_rfl) (by kernel_rfl) (by kernel_rfl) ?_
    simp [nmk]
  · refine At.forget [] 0 [] ⟨fr 13 [(1, (vS A vs.length c)), (2, (vP g1 0))], []⟩ (by kernel_rfl) (by kernel_rfl) (bleT rfl) ?_
    refine At.region_draw (by kernel_rfl) 9 (by kernel_rfl) #[false, false, false, false, false, false, false, false, false] (by kernel_rfl) ?_
    have hRd := hR
    have hB4d := hB4
    refine At.take (S' := ⟨fr 13 [(1, (vS A vs.length c)), (2, (vP g1 0)), (6, (vP g1 0))], []⟩) (PhiLe.refl 0 _) (PanOk.then PanOk.body) 1 rfl (by kernel_rfl) (by kernel_rfl) (by kernel_rfl) (by kernel_rfl) ((vP g1 0)) (by kernel_rfl) (fun _ _ => Val.ev rfl (by kernel_rfl) (by kernel_rfl)) (by kernel_rfl) #[false, true, false, false, false, false, false, false, false] (by kernel_rfl) ?_
    refine At.take (S' := ⟨fr 13 [(1, (vS A vs.length c)), (2, (vP g1 0)), (6, (vP g1 0)), (7, (vI 7))], []⟩) (PhiLe.refl 0 _) (PanOk.then PanOk.body) 2 rfl (by kernel_rfl) (by kernel_rfl) (by kernel_rfl) (by kernel_rfl) ((vI 7)) (by kernel_rfl) (fun _ _ => Val.ldB rfl hB4d (Nat.zero_lt_succ _) 0 0 (by omega) (by kernel_rfl) ((vI 7)) (by kernel_rfl)) (by kernel_rfl) #[false, true, true, false, false, false, false, false, false] (by kernel_rfl) ?_
    refine At.take (S' := ⟨fr 13 [(1, (vS A vs.length c)), (2, (vP g1 0)), (6, (vP g1 0)), (7, (vI 7)), (10, .agg (nV 7 s0 s1 s2 s3 mn mx))], []⟩) (PhiLe.refl 0 _) (PanOk.then PanOk.body) 5 rfl (by kernel_rfl) (by kernel_rfl) (by kernel_rfl) (by kernel_rfl) (.agg (nV 7 s0 s1 s2 s3 mn mx)) (by kernel_rfl) (fun _ _ => Val.ldB rfl hB4d (Nat.zero_lt_succ _) 0 0 (by omega) (by kernel_rfl) (.agg (nV 7 s0 s1 s2 s3 mn mx)) (by kernel_rfl)) (by kernel_rfl) #[false, true, true, false, false, true, false, false, false] (by kernel_rfl) ?_
    refine At.take (S' := ⟨fr 13 [(1, (vS A vs.length c)), (2, (vP g1 0)), (6, (vP g1 0)), (7, (vI 7)), (10, .agg (nV 7 s0 s1 s2 s3 mn mx)), (11, (vS A vs.length c))], []⟩) (PhiLe.refl 0 _) (PanOk.then PanOk.body) 6 rfl (by kernel_rfl) (by kernel_rfl) (by kernel_rfl) (by kernel_rfl) ((vS A vs.length c)) (by kernel_rfl) (fun _ _ => Val.ev rfl (by kernel_rfl) (by kernel_rfl)) (by kernel_rfl) #[false, true, true, false, false, true, true, false, false] (by kernel_rfl) ?_
    refine At.any1 0 (by kernel_rfl) rfl #[true, true, true, false, false, true, true, false, false] (by kernel_rfl) ?_
    refine At.callV rfl (by kernel_rfl) 53 [] [] (by kernel_rfl) Try.func53 (by kernel_rfl) (by kernel_rfl) [] (by kernel_rfl) (by kernel_rfl) (kinds_c Φ2) ?_
    rintro Φ29 ⟨⟩ hle30 -
    have hR := hR.mono hle30
    have hB4 := hB4.mono hle30
    refine ⟨⟨fr 13 [(1, (vS A vs.length c)), (2, (vP g1 0)), (5, kindsV), (6, (vP g1 0)), (7, (vI 7)), (10, .agg (nV 7 s0 s1 s2 s3 mn mx)), (11, (vS A vs.length c))], []⟩, by kernel_rfl, by kernel_rfl, ?_⟩
    refine At.nil ?_
    refine At.then_normal ?_
    refine At.held hle30 ?_
    refine At.take (S' := ⟨fr 13 [(1, (vS A vs.length c)), (2, (vP g1 0)), (5, kindsV), (6, (vP g1 0)), (7, (vI 7)), (8, .agg [(vI 1), (vF 81), (vF 80)]), (10, .agg (nV 7 s0 s1 s2 s3 mn mx)), (11, (vS A vs.length c))], []⟩) hle30 (PanOk.then PanOk.body) 3 rfl (by kernel_rfl) (by kernel_rfl) (by kernel_rfl) (by kernel_rfl) (.agg [(vI 1), (vF 81), (vF 80)]) (by kernel_rfl) (fun _ _ => Val.ev rfl (by kernel_rfl) (by kernel_rfl)) (by kernel_rfl) #[true, true, true, true, false, true, true, false, false] (by kernel_rfl) ?_
    refine At.take (S' := ⟨fr 13 [(1, (vS A vs.length c)), (2, (vP g1 0)), (5, kindsV), (6, (vP g1 0)), (7, (vI 7)), (8, .agg [(vI 1), (vF 81), (vF 80)]), (9, (vF 80)), (10, .agg (nV 7 s0 s1 s2 s3 mn mx)), (11, (vS A vs.length c))], []⟩) hle30 (PanOk.then PanOk.body) 4 rfl (by kernel_rfl) (by kernel_rfl) (by kernel_rfl) (by kernel_rfl) ((vF 80)) (by kernel_rfl) (fun _ _ => Val.ev rfl (by kernel_rfl) (by kernel_rfl)) (by kernel_rfl) #[true, true, true, true, true, true, true, false, false] (by kernel_rfl) ?_
    refine At.any1 7 (by kernel_rfl) rfl #[true, true, true, true, true, true, true, true, false] (by kernel_rfl) ?_
    refine At.callV rfl (by kernel_rfl) 80 [] [] (by kernel_rfl) Try.func80 (by kernel_rfl) (by kernel_rfl) [.agg (nV 7 s0 s1 s2 s3 mn mx), (vS A vs.length c)] (by kernel_rfl) (by kernel_rfl) (nulk3_c Φ29 (⟨7, s0, s1, s2, s3, mn, mx⟩ : Nd) vs A c hR (by rw [hlen]; exact Nat.le_refl _)) ?_
    rintro Φ31 _ hle32 rfl
    have hR := hR.mono hle32
    have hB4 := hB4.mono hle32
    refine ⟨⟨fr 13 [(1, (vS A vs.length c)), (2, (vP g1 0)), (5, kindsV), (6, (vP g1 0)), (7, (vI 7)), (8, .agg [(vI 1), (vF 81), (vF 80)]), (9, (vF 80)), (10, .agg (nV 7 s0 s1 s2 s3 mn mx)), (11, (vS A vs.length c)), (12, (vB (vs.getD 0 false)))], []⟩, by kernel_rfl, by kernel_rfl, ?_⟩
    refine At.nil ?_
    refine At.then_normal ?_
    refine At.held (hle30.trans hle32) ?_
    refine At.take (S' := ⟨fr 13 [(1, (vS A vs.length c)), (2, (vP g1 0)), (4, (vB (vs.getD 0 false))), (5, kindsV), (6, (vP g1 0)), (7, (vI 7)), (8, .agg [(vI 1), (vF 81), (vF 80)]), (9, (vF 80)), (10, .agg (nV 7 s0 s1 s2 s3 mn mx)), (11, (vS A vs.length c)), (12, (vB (vs.getD 0 false)))], []⟩) (hle30.trans hle32) (PanOk.then PanOk.body) 8 rfl (by kernel_rfl) (by kernel_rfl) (by kernel_rfl) (by kernel_rfl) ((vB (vs.getD 0 false))) (by kernel_rfl) (fun _ _ => Val.ev rfl (by kernel_rfl) (by kernel_rfl)) (by kernel_rfl) #[true, true, true, true, true, true, true, true, true] (by kernel_rfl) ?_
    refine At.drawn_done (by kernel_rfl) ?_
    refine At.then_normal ?_
    refine At.ret_ ?_
    refine At.forget [1, 2, 5, 6, 7, 8, 9, 10, 11, 12] 0 [] ⟨fr 13 [(4, (vB (vs.getD 0 false)))], []⟩ (by kernel_rfl) (by kernel_rfl) (bleT rfl) ?_
    refine At.leaveR rfl (vs.getD 0 false) (by kernel_rfl) (by kernel_rfl) (by kernel_rfl) ?_
    simp [nmk]
  · refine At.forget [] 0 [] ⟨fr 13 [(1, (vS A vs.length c)), (2, (vP g1 0))], []⟩ (by kernel_rfl) (by kernel_rfl) (bleT rfl) ?_
    refine At.region_draw (by kernel_rfl) 9 (by kernel_rfl) #[false, false, false, false, false, false, false, false, false] (by kernel_rfl) ?_
    have hRd := hR
    have hB4d := hB4
    refine At.take (S' := ⟨fr 13 [(1, (vS A vs.length c)), (2, (vP g1 0)), (6, (vP g1 0))], []⟩) (PhiLe.refl 0 _) (PanOk.then PanOk.body) 1 rfl (by kernel_rfl) (by kernel_rfl) (by kernel_rfl) (by kernel_rfl) ((vP g1 0)) (by kernel_rfl) (fun _ _ => Val.ev rfl (by kernel_rfl) (by kernel_rfl)) (by kernel_rfl) #[false, true, false, false, false, false, false, false, false] (by kernel_rfl) ?_
    refine At.take (S' := ⟨fr 13 [(1, (vS A vs.length c)), (2, (vP g1 0)), (6, (vP g1 0)), (7, (vI 8))], []⟩) (PhiLe.refl 0 _) (PanOk.then PanOk.body) 2 rfl (by kernel_rfl) (by kernel_rfl) (by kernel_rfl) (by kernel_rfl) ((vI 8)) (by kernel_rfl) (fun _ _ => Val.ldB rfl hB4d (Nat.zero_lt_succ _) 0 0 (by omega) (by kernel_rfl) ((vI 8)) (by kernel_rfl)) (by kernel_rfl) #[false, true, true, false, false, false, false, false, false] (by kernel_rfl) ?_
    refine At.take (S' := ⟨fr 13 [(1, (vS A vs.length c)), (2, (vP g1 0)), (6, (vP g1 0)), (7, (vI 8)), (10, .agg (nV 8 s0 s1 s2 s3 mn mx))], []⟩) (PhiLe.refl 0 _) (PanOk.then PanOk.body) 5 rfl (by kernel_rfl) (by kernel_rfl) (by kernel_rfl) (by kernel_rfl) (.agg (nV 8 s0 s1 s2 s3 mn mx)) (by kernel_rfl) (fun _ _ => Val.ldB rfl hB4d (Nat.zero_lt_succ _) 0 0 (by omega) (by kernel_rfl) (.agg (nV 8 s0 s1 s2 s3 mn mx)) (by kernel_rfl)) (by kernel_rfl) #[false, true, true, false, false, true, false, false, false] (by kernel_rfl) ?_
    refine At.take (S' := ⟨fr 13 [(1, (vS A vs.length c)), (2, (vP g1 0)), (6, (vP g1 0)), (7, (vI 8)), (10, .agg (nV 8 s0 s1 s2 s3 mn mx)), (11, (vS A vs.length c))], []⟩) (PhiLe.refl 0 _) (PanOk.then PanOk.body) 6 rfl (by kernel_rfl) (by kernel_rfl) (by kernel_rfl) (by kernel_rfl) ((vS A vs.length c)) (by kernel_rfl) (fun _ _ => Val.ev rfl (by kernel_rfl) (by kernel_rfl)) (by kernel_rfl) #[false, true, true, false, false, true, true, false, false] (by kernel_rfl) ?_
    refine At.any1 0 (by kernel_rfl) rfl #[true, true, true, false, false, true, true, false, false] (by kernel_rfl) ?_
    refine At.callV rfl (by kernel_rfl) 53 [] [] (by kernel_rfl) Try.func53 (by kernel_rfl) (by kernel_rfl) [] (by kernel_rfl) (by kernel_rfl) (kinds_c Φ2) ?_
    rintro Φ33 ⟨⟩ hle34 -
    have hR := hR.mono hle34
    have hB4 := hB4.mono hle34
    refine ⟨⟨fr 13 [(1, (vS A vs.length c)), (2, (vP g1 0)), (5, kindsV), (6, (vP g1 0)), (7, (vI 8)), (10, .agg (nV 8 s0 s1 s2 s3 mn mx)), (11, (vS A vs.length c))], []⟩, by kernel_rfl, by kernel_rfl, ?_⟩
    refine At.nil ?_
    refine At.then_normal ?_
    refine At.held hle34 ?_
    refine At.take (S' := ⟨fr 13 [(1, (vS A vs.length c)), (2, (vP g1 0)), (5, kindsV), (6, (vP g1 0)), (7, (vI 8)), (8, .agg [(vI 1), (vF 81), (vF 78)]), (10, .agg (nV 8 s0 s1 s2 s3 mn mx)), (11, (vS A vs.length c))], []⟩) hle34 (PanOk.then PanOk.body) 3 rfl (by kernel_rfl) (by kernel_rfl) (by kernel_rfl) (by kernel_rfl) (.agg [(vI 1), (vF 81), (vF 78)]) (by kernel_rfl) (fun _ _ => Val.ev rfl (by kernel_rfl) (by kernel_rfl)) (by kernel_rfl) #[true, true, true, true, false, true, true, false, false] (by kernel_rfl) ?_
    refine At.take (S' := ⟨fr 13 [(1, (vS A vs.length c)), (2, (vP g1 0)), (5, kindsV), (6, (vP g1 0)), (7, (vI 8)), (8, .agg [(vI 1), (vF 81), (vF 78)]), (9, (vF 78)), (10, .agg (nV 8 s0 s1 s2 s3 mn mx)), (11, (vS A vs.length c))], []⟩) hle34 (PanOk.then PanOk.body) 4 rfl (by kernel_rfl) (by kernel_rfl) (by kernel_rfl) (by kernel_rfl) ((vF 78)) (by kernel_rfl) (fun _ _ => Val.ev rfl (by kernel_rfl) (by kernel_rfl)) (by kernel_rfl) #[true, true, true, true, true, true, true, false, false] (by kernel_rfl) ?_
    refine At.any1 7 (by kernel_rfl) rfl #[true, true, true, true, true, true, true, true, false] (by kernel_rfl) ?_
    refine At.callV rfl (by kernel_rfl) 78 [] [] (by kernel_rfl) Try.func78 (by kernel_rfl) (by kernel_rfl) [.agg (nV 8 s0 s1 s2 s3 mn mx), (vS A vs.length c)] (by kernel_rfl) (by kernel_rfl) (nulk1_c Φ33 (⟨8, s0, s1, s2, s3, mn, mx⟩ : Nd) vs A c hR) ?_
    rintro Φ35 _ hle36 rfl
    have hR := hR.mono hle36
    have hB4 := hB4.mono hle36
    refine ⟨⟨fr 13 [(1, (vS A vs.length c)), (2, (vP g1 0)), (5, kindsV), (6, (vP g1 0)), (7, (vI 8)), (8, .agg [(vI 1), (vF 81), (vF 78)]), (9, (vF 78)), (10, .agg (nV 8 s0 s1 s2 s3 mn mx)), (11, (vS A vs.length c)), (12, (vB true))], []⟩, by kernel_rfl, by kernel_rfl, ?_⟩
    refine At.nil ?_
    refine At.then_normal ?_
    refine At.held (hle34.trans hle36) ?_
    refine At.take (S' := ⟨fr 13 [(1, (vS A vs.length c)), (2, (vP g1 0)), (4, (vB true)), (5, kindsV), (6, (vP g1 0)), (7, (vI 8)), (8, .agg [(vI 1), (vF 81), (vF 78)]), (9, (vF 78)), (10, .agg (nV 8 s0 s1 s2 s3 mn mx)), (11, (vS A vs.length c)), (12, (vB true))], []⟩) (hle34.trans hle36) (PanOk.then PanOk.body) 8 rfl (by kernel_rfl) (by kernel_rfl) (by kernel_rfl) (by kernel_rfl) ((vB true)) (by kernel_rfl) (fun _ _ => Val.ev rfl (by kernel_rfl) (by kernel_rfl)) (by kernel_rfl) #[true, true, true, true, true, true, true, true, true] (by kernel_rfl) ?_
    refine At.drawn_done (by kernel_rfl) ?_
    refine At.then_normal ?_
    refine At.ret_ ?_
    refine At.forget [1, 2, 5, 6, 7, 8, 9, 10, 11, 12] 0 [] ⟨fr 13 [(4, (vB true))], []⟩ (by kernel_rfl) (by kernel_rfl) (bleT rfl) ?_
    refine At.leaveR rfl true (by kernel_rfl) (by kernel_rfl) (by kernel_rfl) ?_
    simp [nmk]
  · refine At.forget [] 0 [] ⟨fr 13 [(1, (vS A vs.length c)), (2, (vP g1 0))], []⟩ (by kernel_rfl) (by kernel_rfl) (bleT rfl) ?_
    refine At.region_draw (by kernel_rfl) 9 (by kernel_rfl) #[false, false, false, false, false, false, false, false, false] (by kernel_rfl) ?_
    have hRd := hR
    have hB4d := hB4
    refine At.take (S' := ⟨fr 13 [(1, (vS A vs.length c)), (2, (vP g1 0)), (6, (vP g1 0))], []⟩) (PhiLe.refl 0 _) (PanOk.then PanOk.body) 1 rfl (by kernel_rfl) (by kernel_rfl) (by kernel_rfl) (by kernel_rfl) ((vP g1 0)) (by kernel_rfl) (fun _ _ => Val.ev rfl (by kernel_rfl) (by kernel_rfl)) (by kernel_rfl) #[false, true, false, false, false, false, false, false, false] (by kernel_rfl) ?_
    refine At.take (S' := ⟨fr 13 [(1, (vS A vs.length c)), (2, (vP g1 0)), (6, (vP g1 0)), (7, (vI 9))], []⟩) (PhiLe.refl 0 _) (PanOk.then PanOk.body) 2 rfl (by kernel_rfl) (by kernel_rfl) (by kernel_rfl) (by kernel_rfl) ((vI 9)) (by kernel_rfl) (fun _ _ => Val.ldB rfl hB4d (Nat.zero_lt_succ _) 0 0 (by omega) (by kernel_rfl) ((vI 9)) (by kernel_rfl)) (by kernel_rfl) #[false, true, true, false, false, false, false, false, false] (by kernel_rfl) ?_
    refine At.take (S' := ⟨fr 13 [(1, (vS A vs.length c)), (2, (vP g1 0)), (6, (vP g1 0)), (7, (vI 9)), (10, .agg (nV 9 s0 s1 s2 s3 mn mx))], []⟩) (PhiLe.refl 0 _) (PanOk.then PanOk.body) 5 rfl (by kernel_rfl) (by kernel_rfl) (by kernel_rfl) (by kernel_rfl) (.agg (nV 9 s0 s1 s2 s3 mn mx)) (by kernel_rfl) (fun _ _ => Val.ldB rfl hB4d (Nat.zero_lt_succ _) 0 0 (by omega) (by kernel_rfl) (.agg (nV 9 s0 s1 s2 s3 mn mx)) (by kernel_rfl)) (by kernel_rfl) #[false, true, true, false, false, true, false, false, false] (by kernel_rfl) ?_
    refine At.take (S' := ⟨fr 13 [(1, (vS A vs.length c)), (2, (vP g1 0)), (6, (vP g1 0)), (7, (vI 9)), (10, .agg (nV 9 s0 s1 s2 s3 mn mx)), (11, (vS A vs.length c))], []⟩) (PhiLe.refl 0 _) (PanOk.then PanOk.body) 6 rfl (by kernel_rfl) (by kernel_rfl) (by kernel_rfl) (by kernel_rfl) ((vS A vs.length c)) (by kernel_rfl) (fun _ _ => Val.ev rfl (by kernel_rfl) (by kernel_rfl)) (by kernel_rfl) #[false, true, true, false, false, true, true, false, false] (by kernel_rfl) ?_
    refine At.any1 0 (by kernel_rfl) rfl #[true, true, true, false, false, true, true, false, false] (by kernel_rfl) ?_
    refine At.callV rfl (by kernel_rfl) 53 [] [] (by kernel_rfl) Try.func53 (by kernel_rfl) (by kernel_rfl) [] (by kernel_rfl) (by kernel_rfl) (kinds_c Φ2) ?_
    rintro Φ37 ⟨⟩ hle38 -
    have hR := hR.mono hle38
    have hB4 := hB4.mono hle38
    refine ⟨⟨fr 13 [(1, (vS A vs.length c)), (2, (vP g1 0)), (5, kindsV), (6, (vP g1 0)), (7, (vI 9)), (10, .agg (nV 9 s0 s1 s2 s3 mn mx)), (11, (vS A vs.length c))], []⟩, by kernel_rfl, by kernel_rfl, ?_⟩
    refine At.nil ?_
    refine At.then_normal ?_
    refine At.held hle38 ?_
    refine At.take (S' := ⟨fr 13 [(1, (vS A vs.length c)), (2, (vP g1 0)), (5, kindsV), (6, (vP g1 0)), (7, (vI 9)), (8, .agg [(vI 1), (vF 85), (vF 86)]), (10, .agg (nV 9 s0 s1 s2 s3 mn mx)), (11, (vS A vs.length c))], []⟩) hle38 (PanOk.then PanOk.body) 3 rfl (by kernel_rfl) (by kernel_rfl) (by kernel_rfl) (by kernel_rfl) (.agg [(vI 1), (vF 85), (vF 86)]) (by kernel_rfl) (fun _ _ => Val.ev rfl (by kernel_rfl) (by kernel_rfl)) (by kernel_rfl) #[true, true, true, true, false, true, true, false, false] (by kernel_rfl) ?_
    refine At.take (S' := ⟨fr 13 [(1, (vS A vs.length c)), (2, (vP g1 0)), (5, kindsV), (6, (vP g1 0)), (7, (vI 9)), (8, .agg [(vI 1), (vF 85), (vF 86)]), (9, (vF 86)), (10, .agg (nV 9 s0 s1 s2 s3 mn mx)), (11, (vS A vs.length c))], []⟩) hle38 (PanOk.then PanOk.body) 4 rfl (by kernel_rfl) (by kernel_rfl) (by kernel_rfl) (by kernel_rfl) ((vF 86)) (by kernel_rfl) (fun _ _ => Val.ev rfl (by kernel_rfl) (by kernel_rfl)) (by kernel_rfl) #[true, true, true, true, true, true, true, false, false] (by kernel_rfl) ?_
    refine At.any1 7 (by kernel_rfl) rfl #[true, true, true, true, true, true, true, true, false] (by kernel_rfl) ?_
    refine At.callV rfl (by kernel_rfl) 86 [] [] (by kernel_rfl) Try.func86 (by kernel_rfl) (by kernel_rfl) [.agg (nV 9 s0 s1 s2 s3 mn mx), (vS A vs.length c)] (by kernel_rfl) (by kernel_rfl) (nulk7_c Φ37 (⟨9, s0, s1, s2, s3, mn, mx⟩ : Nd) vs A c hR (by rw [hlen]; exact Nat.le_refl _)) ?_
    rintro Φ39 _ hle40 rfl
    have hR := hR.mono hle40
    have hB4 := hB4.mono hle40
    refine ⟨⟨fr 13 [(1, (vS A vs.length c)), (2, (vP g1 0)), (5, kindsV), (6, (vP g1 0)), (7, (vI 9)), (8, .agg [(vI 1), (vF 85), (vF 86)]), (9, (vF 86)), (10, .agg (nV 9 s0 s1 s2 s3 mn mx)), (11, (vS A vs.length c)), (12, (vB (mn == 0 || vs.getD 0 false)))], []⟩, by kernel_rfl, by kernel_rfl, ?_⟩
    refine At.nil ?_
    refine At.then_normal ?_
    refine At.held (hle38.trans hle40) ?_
    refine At.take (S' := ⟨fr 13 [(1, (vS A vs.length c)), (2, (vP g1 0)), (4, (vB (mn == 0 || vs.getD 0 false))), (5, kindsV), (6, (vP g1 0)), (7, (vI 9)), (8, .agg [(vI 1), (vF 85), (vF 86)]), (9, (vF 86)), (10, .agg (nV 9 s0 s1 s2 s3 mn mx)), (11, (vS A vs.length c)), (12, (vB (mn == 0 || vs.getD 0 false)))], []⟩) (hle38.trans hle40) (PanOk.then PanOk.body) 8 rfl (by kernel_rfl) (by kernel_rfl) (by kernel_rfl) (by kernel_rfl) ((vB (mn == 0 || vs.getD 0 false))) (by kernel_rfl) (fun _ _ => Val.ev rfl (by kernel_rfl) (by kernel_rfl)) (by kernel_rfl) #[true, true, true, true, true, true, true, true, true] (by kernel_rfl) ?_
    refine At.drawn_done (by kernel_rfl) ?_
    refine At.then_normal ?_
    refine At.ret_ ?_
    refine At.forget [1, 2, 5, 6, 7, 8, 9, 10, 11, 12] 0 [] ⟨fr 13 [(4, (vB (mn == 0 || vs.getD 0 false)))], []⟩ (by kernel_rfl) (by kernel_rfl) (bleT rfl) ?_
    refine At.leaveR rfl (mn == 0 || vs.getD 0 false) (by kernel_rfl) (by kernel_rfl) (by kernel_rfl) ?_
    simp [nmk]

theorem fold_bool_c (Φ : Phi) (g0 g1 : Nat) (nds : List Nd) (A : Option Addr) (c : Nat) (hR : NdsAt Φ A nds) (hl : nds.length ≤ 1000000) (ndsw : ∀ n ∈ nds, n.wf) (hok : chk nds 0 0 = none) (hB0 : RdC Φ (aS g0 0) [.slice A nds.length c]) (hB1 : RdC Φ (aS g1 0) [.func (.func 52) #[] #[]])  : CallR Try.prog 77 [(vP g0 0), (vP g1 0)] [] Φ Bool (fun t => (vB t)) (fun _ => []) (fun t _ => t = foldR nmk nds) := by
  refine CallG.enterk Try.func77 rfl [2, 3, 4, 5, 6, 7, 8, 9, 10, 11, 12, 13, 14, 15, 16, 17, 18, 19, 20, 21, 22, 23, 24, 25, 26, 27, 28, 29, 30, 31, 32, 33, 34, 35, 36, 37, 38, 39, 40, 41, 42, 43, 44, 45] ⟨fr 46 [(0, (vP g0 0)), (1, (vP g1 0))], []⟩ (by kernel_rfl) (by kernel_rfl) ?_
  intro E G β0
  refine At.seq ?_
  refine At.region ?_
  refine At.runk 1 [2] [] ⟨fr 46 [(0, (vP g0 0)), (1, (vP g1 0))], []⟩ (by kernel_rfl) ?_
  refine At.nil ?_
  refine At.then_normal ?_
  refine At.seq ?_
  refine At.region ?_
  refine At.runk 1 [] [] ⟨fr 46 [(0, (vP g0 0)), (1, (vP g1 0)), (3, (vS none 0 0))], []⟩ (by kernel_rfl) ?_
  refine At.nilrow 4 1 ⟨fr 46 [(0, (vP g0 0)), (1, (vP g1 0)), (3, (vS none 0 0))], [.o (.slice none 0 0) 0 [] 4 1]⟩ (by kernel_rfl) (by kernel_rfl) ?_
  refine At.nil ?_
  refine At.then_normal ?_
  refine At.seq ?_
  refine At.seq ?_
  refine At.region ?_
  refine At.vals (S' := ⟨fr 46 [(0, (vP g0 0)), (1, (vP g1 0)), (3, (vS none 0 0)), (10, (vS A nds.length c))], [.o (.slice none 0 0) 0 [] 4 1]⟩) (by kernel_rfl) ((vS A nds.length c)) (by kernel_rfl) (Val.ldB rfl hB0 (Nat.zero_lt_succ _) 0 0 (by omega) (by kernel_rfl) ((vS A nds.length c)) (by kernel_rfl)) ?_
  refine At.callV rfl (by kernel_rfl) 43 [] [] (by kernel_rfl) Try.func43 (by kernel_rfl) (by kernel_rfl) [(vS A nds.length c)] (by kernel_rfl) (by kernel_rfl) (of_ok Φ nds A c hR hl ndsw hok) ?_
  rintro Φ3 gT1 hle4 hT2
  have hR := hR.mono hle4
  have hB0 := hB0.mono hle4
  have hB1 := hB1.mono hle4
  refine ⟨⟨fr 46 [(0, (vP g0 0)), (1, (vP g1 0)), (3, (vS none 0 0)), (10, (vS A nds.length c)), (11, (vP gT1 0))], [.o (.slice none 0 0) 0 [] 4 1]⟩, by kernel_rfl, by kernel_rfl, ?_⟩
  refine At.runk 2 [0, 10, 11, 12] [] ⟨fr 46 [(1, (vP g1 0)), (3, (vS none 0 0)), (13, (vP gT1 0))], [.o (.slice none 0 0) 0 [] 4 1]⟩ (by kernel_rfl) ?_
  refine At.vals (S' := ⟨fr 46 [(1, (vP g1 0)), (3, (vS none 0 0)), (13, (vP gT1 0)), (14, (vS A nds.length c))], [.o (.slice none 0 0) 0 [] 4 1]⟩) (by kernel_rfl) ((vS A nds.length c)) (by kernel_rfl) (Val.ldB rfl hT2 (Nat.zero_lt_succ _) 0 0 (by omega) (by kernel_rfl) ((vS A nds.length c)) (by kernel_rfl)) ?_
  refine At.runk 2 [13] [] ⟨fr 46 [(1, (vP g1 0)), (3, (vS none 0 0)), (14, (vS A nds.length c)), (15, (vI (nds.length : Int))), (16, (vI 0))], [.o (.slice none 0 0) 0 [] 4 1]⟩ (by kernel_rfl) ?_
  refine At.nil ?_
  refine At.then_normal ?_
  refine At.block ?_
  refine At.loop (T := Nat × List Bool × Option Addr × Nat) (fun x => ⟨fr 46 [(1, (vP g1 0)), (3, (vS x.2.2.1 x.2.1.length x.2.2.2)), (14, (vS A nds.length c)), (15, (vI (nds.length : Int))), (16, (vI (x.1 : Int)))], [.o (.slice x.2.2.1 x.2.1.length x.2.2.2) x.2.1.length (x.2.1.flatMap encB) 4 1]⟩) (fun x Φ => x.1 ≤ nds.length ∧ x.2.1.length ≤ x.1 ∧ chk (nds.drop x.1) (x.2.1.length : Int) x.1 = none ∧ foldS nmk (nds.drop x.1) x.2.1 = foldS nmk nds [] ∧ True ∧ x.2.1.length ≤ x.2.2.2) (fun x => nds.length - x.1) (0, [], none, 0) (by kernel_rfl) ⟨Nat.zero_le _, Nat.le_refl _, hok, rfl, trivial, Nat.le_refl _⟩ ?_
  rintro ⟨i, st, As, cs⟩ Φ5 hle6 hF
  have hR := hR.mono hle6
  have hB0 := hB0.mono hle6
  have hB1 := hB1.mono hle6
  have hT2 := hT2.mono hle6
  refine At.cast (S' := ⟨fr 46 [(1, (vP g1 0)), (3, (vS As st.length cs)), (14, (vS A nds.length c)), (15, (vI (nds.length : Int))), (16, (vI (i : Int)))], [.o (.slice As st.length cs) st.length (st.flatMap encB) 4 1]⟩) (by kernel_rfl) ?_
  dsimp only at hF
  have hF1 := hF.1
  have hF2 := hF.2.1
  have hF6 := hF.2.2.2.2.2
  refine At.seq ?_
  refine At.region ?_
  refine At.runk 1 [] [] ⟨fr 46 [(1, (vP g1 0)), (3, (vS As st.length cs)), (14, (vS A nds.length c)), (15, (vI (nds.length : Int))), (16, (vI (i : Int))), (17, (vB (decide ((i : Int) < (nds.length : Int)))))], [.o (.slice As st.length cs) st.length (st.flatMap encB) 4 1]⟩ (by kernel_rfl) ?_
  refine At.nil ?_
  refine At.then_normal ?_
  refine At.seq ?_
  refine At.bcase (decide ((i : Int) < (nds.length : Int))) (fun hb7 => ?_) (fun hb7 => ?_)
  · have hb7p : ((i : Int) < (nds.length : Int)) := of_decide_eq_true hb7
    refine At.cast (S' := ⟨fr 46 [(1, (vP g1 0)), (3, (vS As st.length cs)), (14, (vS A nds.length c)), (15, (vI (nds.length : Int))), (16, (vI (i : Int))), (17, (vB true))], [.o (.slice As st.length cs) st.length (st.flatMap encB) 4 1]⟩) (by rw [hb7] <;> rfl) ?_
    refine At.cond_t (by kernel_rfl) ?_
    refine At.skip ?_
    refine At.then_normal ?_
    refine At.seq ?_
    refine At.block ?_
    refine At.seq ?_
    refine At.region ?_
    obtain ⟨b8, off9, hAeq⟩ : ∃ b off, A = some ⟨b, off, none⟩ := hR.addr (by exact nds_pos (by omega))
    subst hAeq
    refine At.idx (S' := ⟨fr 46 [(1, (vP g1 0)), (3, (vS As st.length cs)), (14, (vS (aS b8 off9) nds.length c)), (15, (vI (nds.length : Int))), (16, (vI (i : Int))), (17, (vB true)), (18, .v (.pointer (some ⟨b8, off9 + i * 7, none⟩)))], [.o (.slice As st.length cs) st.length (st.flatMap encB) 4 1]⟩) rfl (by kernel_rfl) (sz := 7) (e := 26) (by kernel_rfl) (by kernel_rfl) (by kernel_rfl) (b := b8) (off := off9) (n := nds.length) (cap := c) (kd := .i64) (i := (i : Int)) (by kernel_rfl) (by omega) (by omega) (by kernel_rfl) ?_
    obtain ⟨e10, he11⟩ := get_some (l := nds) (i := i) (by omega)
    have e10w := ndsw e10 (List.mem_of_getElem? he11)
    obtain ⟨e10m, e10a, e10c⟩ := chk_none he11 hF.2.2.1
    refine At.vals (S' := ⟨fr 46 [(1, (vP g1 0)), (3, (vS As st.length cs)), (14, (vS (aS b8 off9) nds.length c)), (15, (vI (nds.length : Int))), (16, (vI (i : Int))), (17, (vB true)), (18, .v (.pointer (some ⟨b8, off9 + i * 7, none⟩))), (19, .agg e10.sv)], [.o (.slice As st.length cs) st.length (st.flatMap encB) 4 1]⟩) (by kernel_rfl) (.agg e10.sv) (by kernel_rfl) (Val.ldE rfl (enc := Nd.cells) (xs := nds) (b := b8) (off := off9) hR (sz := 7) (fun _ => rfl) (Nat.zero_lt_succ _) i e10 he11 0 (off9 + i * 7) (by omega) (by kernel_rfl) (.agg e10.sv) (by kernel_rfl)) ?_
    refine At.runk 2 [17, 18, 19] [] ⟨fr 46 [(1, (vP g1 0)), (3, (vS As st.length cs)), (5, .p 1 0), (14, (vS (aS b8 off9) nds.length c)), (15, (vI (nds.length : Int))), (16, (vI (i : Int)))], [.o (.slice As st.length cs) st.length (st.flatMap encB) 4 1, .c e10.sv 26]⟩ (by kernel_rfl) ?_
    refine At.nil ?_
    refine At.then_normal ?_
    refine At.seq ?_
    refine At.region ?_
    refine At.runk 1 [] [] ⟨fr 46 [(1, (vP g1 0)), (3, (vS As st.length cs)), (5, .p 1 0), (14, (vS (aS b8 off9) nds.length c)), (15, (vI (nds.length : Int))), (16, (vI (i : Int))), (21, .agg e10.sv)], [.o (.slice As st.length cs) st.length (st.flatMap encB) 4 1, .c e10.sv 26]⟩ (by kernel_rfl) ?_
    refine At.callV rfl (by kernel_rfl) 44 [] [] (by kernel_rfl) Try.func44 (by kernel_rfl) (by kernel_rfl) [.agg e10.sv] (by kernel_rfl) (by kernel_rfl) (known_t Φ5 e10 e10w e10m) ?_
    rintro Φ12 _ hle13 rfl
    have hR := hR.mono hle13
    have hB0 := hB0.mono hle13
    have hB1 := hB1.mono hle13
    have hT2 := hT2.mono hle13
    have hal := ar_le e10
    refine ⟨⟨fr 46 [(1, (vP g1 0)), (3, (vS As st.length cs)), (5, .p 1 0), (14, (vS (aS b8 off9) nds.length c)), (15, (vI (nds.length : Int))), (16, (vI (i : Int))), (21, .agg e10.sv), (22, .tup [.agg [(vI (ar e10 : Int)), .v (.func (.func (mayN e10.kind)) #[] #[]), .v (.func (.func (nulN e10.kind)) #[] #[])], (vB true)])], [.o (.slice As st.length cs) st.length (st.flatMap encB) 4 1, .c e10.sv 26]⟩, by kernel_rfl, by kernel_rfl, ?_⟩
    refine At.runk 6 [7, 20, 21, 22, 23, 24] [] ⟨fr 46 [(1, (vP g1 0)), (3, (vS As st.length cs)), (5, .p 1 0), (6, .p 2 0), (14, (vS (aS b8 off9) nds.length c)), (15, (vI (nds.length : Int))), (16, (vI (i : Int)))], [.o (.slice As st.length cs) st.length (st.flatMap encB) 4 1, .c e10.sv 26, .c [(vI (ar e10 : Int)), .v (.func (.func (mayN e10.kind)) #[] #[]), .v (.func (.func (nulN e10.kind)) #[] #[])] 76]⟩ (by kernel_rfl) ?_
    refine At.nil ?_
    refine At.then_normal ?_
    refine At.seq ?_
    refine At.region ?_
    refine At.runk 5 [6, 25, 26, 27, 28] [2] ⟨fr 46 [(1, (vP g1 0)), (3, (vS As st.length cs)), (5, .p 1 0), (14, (vS (aS b8 off9) nds.length c)), (15, (vI (nds.length : Int))), (16, (vI (i : Int))), (29, (vI (IntKind.i64.wrap ((st.length : Int) - (ar e10 : Int)))))], [.o (.slice As st.length cs) st.length (st.flatMap encB) 4 1, .c e10.sv 26, .dead]⟩ (by kernel_rfl) ?_
    refine At.cast (S' := ⟨fr 46 [(1, (vP g1 0)), (3, (vS As st.length cs)), (5, .p 1 0), (14, (vS (aS b8 off9) nds.length c)), (15, (vI (nds.length : Int))), (16, (vI (i : Int))), (29, (vI ((st.length : Int) - (ar e10 : Int))))], [.o (.slice As st.length cs) st.length (st.flatMap encB) 4 1, .c e10.sv 26, .dead]⟩) (by rw [wrapI (z := (st.length : Int) - (ar e10 : Int)) (by omega) (by omega)]) ?_
    refine At.runk 1 [29] [] ⟨fr 46 [(1, (vP g1 0)), (3, (vS As st.length cs)), (5, .p 1 0), (8, (vI ((st.length : Int) - (ar e10 : Int)))), (14, (vS (aS b8 off9) nds.length c)), (15, (vI (nds.length : Int))), (16, (vI (i : Int)))], [.o (.slice As st.length cs) st.length (st.flatMap encB) 4 1, .c e10.sv 26, .dead]⟩ (by kernel_rfl) ?_
    refine At.cast (S' := ⟨fr 46 [(1, (vP g1 0)), (3, (vS As st.length cs)), (5, .p 1 0), (8, (vI ((st.length - ar e10 : Nat) : Int))), (14, (vS (aS b8 off9) nds.length c)), (15, (vI (nds.length : Int))), (16, (vI (i : Int)))], [.o (.slice As st.length cs) st.length (st.flatMap encB) 4 1, .c e10.sv 26, .dead]⟩) (by rw [show ((st.length : Int) - (ar e10 : Int)) = (((st.length - ar e10 : Nat) : Nat) : Int) from by omega]) ?_
    refine At.nil ?_
    refine At.then_normal ?_
    refine At.seq ?_
    refine At.freezeC 1 [.int .i64 e10.kind, .int .u64 e10.s0, .int .u64 e10.s1, .int .u64 e10.s2, .int .u64 e10.s3, .int .i64 e10.mn, .int .i64 e10.mx] rfl rfl (bleT rfl) (bleT rfl) (fun _ => by kernel_rfl) (fun _ => by kernel_rfl) ?_
    intro g14 Φ15 hle16 hB17
    have hR := hR.mono hle16
    have hB0 := hB0.mono hle16
    have hB1 := hB1.mono hle16
    have hT2 := hT2.mono hle16
    refine ⟨⟨fr 46 [(1, (vP g1 0)), (3, (vS As st.length cs)), (5, (vP g14 0)), (8, (vI ((st.length - ar e10 : Nat) : Int))), (14, (vS (aS b8 off9) nds.length c)), (15, (vI (nds.length : Int))), (16, (vI (i : Int)))], [.o (.slice As st.length cs) st.length (st.flatMap encB) 4 1, .dead, .dead]⟩, by kernel_rfl, ?_⟩
    refine At.forget [] 1 [] ⟨fr 46 [(1, (vP g1 0)), (3, (vS As st.length cs)), (5, (vP g14 0)), (8, (vI ((st.length - ar e10 : Nat) : Int))), (14, (vS (aS b8 off9) nds.length c)), (15, (vI (nds.length : Int))), (16, (vI (i : Int)))], [.o (.slice As st.length cs) st.length (st.flatMap encB) 4 1]⟩ (by kernel_rfl) (by kernel_rfl) (bleT rfl) ?_
    refine At.region_draw (by kernel_rfl) 7 (by kernel_rfl) #[false, false, false, false, false, false, false] (by kernel_rfl) ?_
    have hRd := hR
    have hB0d := hB0
    have hB1d := hB1
    have hT2d := hT2
    have hB17d := hB17
    refine At.take (S' := ⟨fr 46 [(1, (vP g1 0)), (3, (vS As st.length cs)), (5, (vP g14 0)), (8, (vI ((st.length - ar e10 : Nat) : Int))), (14, (vS (aS b8 off9) nds.length c)), (15, (vI (nds.length : Int))), (16, (vI (i : Int))), (30, (vF 52))], [.o (.slice As st.length cs) st.length (st.flatMap encB) 4 1]⟩) (PhiLe.refl 0 _) (PanOk.then (PanOk.inBlock (PanOk.then (PanOk.then (PanOk.inBlock (PanOk.then PanOk.body)))))) 0 rfl (by kernel_rfl) (by kernel_rfl) (by kernel_rfl) (by kernel_rfl) ((vF 52)) (by kernel_rfl) (fun _ _ => Val.ldB rfl hB1d (Nat.zero_lt_succ _) 0 0 (by omega) (by kernel_rfl) ((vF 52)) (by kernel_rfl)) (by kernel_rfl) #[true, false, false, false, false, false, false] (by kernel_rfl) ?_
    refine At.take (S' := ⟨fr 46 [(1, (vP g1 0)), (3, (vS As st.length cs)), (5, (vP g14 0)), (8, (vI ((st.length - ar e10 : Nat) : Int))), (14, (vS (aS b8 off9) nds.length c)), (15, (vI (nds.length : Int))), (16, (vI (i : Int))), (30, (vF 52)), (31, .agg e10.sv)], [.o (.slice As st.length cs) st.length (st.flatMap encB) 4 1]⟩) (PhiLe.refl 0 _) (PanOk.then (PanOk.inBlock (PanOk.then (PanOk.then (PanOk.inBlock (PanOk.then PanOk.body)))))) 1 rfl (by kernel_rfl) (by kernel_rfl) (by kernel_rfl) (by kernel_rfl) (.agg e10.sv) (by kernel_rfl) (fun _ _ => Val.ldB rfl hB17d (Nat.zero_lt_succ _) 0 0 (by omega) (by kernel_rfl) (.agg e10.sv) (by kernel_rfl)) (by kernel_rfl) #[true, true, false, false, false, false, false] (by kernel_rfl) ?_
    refine At.take (S' := ⟨fr 46 [(1, (vP g1 0)), (3, (vS As st.length cs)), (5, (vP g14 0)), (8, (vI ((st.length - ar e10 : Nat) : Int))), (14, (vS (aS b8 off9) nds.length c)), (15, (vI (nds.length : Int))), (16, (vI (i : Int))), (30, (vF 52)), (31, .agg e10.sv), (32, (vS As st.length cs))], [.o (.slice As st.length cs) st.length (st.flatMap encB) 4 1]⟩) (PhiLe.refl 0 _) (PanOk.then (PanOk.inBlock (PanOk.then (PanOk.then (PanOk.inBlock (PanOk.then PanOk.body)))))) 2 rfl (by kernel_rfl) (by kernel_rfl) (by kernel_rfl) (by kernel_rfl) ((vS As st.length cs)) (by kernel_rfl) (fun _ _ => Val.ev rfl (by kernel_rfl) (by kernel_rfl)) (by kernel_rfl) #[true, true, true, false, false, false, false] (by kernel_rfl) ?_
    refine At.take (S' := ⟨fr 46 [(1, (vP g1 0)), (3, (vS As st.length cs)), (5, (vP g14 0)), (8, (vI ((st.length - ar e10 : Nat) : Int))), (14, (vS (aS b8 off9) nds.length c)), (15, (vI (nds.length : Int))), (16, (vI (i : Int))), (30, (vF 52)), (31, .agg e10.sv), (32, (vS As st.length cs)), (33, (vI ((st.length - ar e10 : Nat) : Int)))], [.o (.slice As st.length cs) st.length (st.flatMap encB) 4 1]⟩) (PhiLe.refl 0 _) (PanOk.then (PanOk.inBlock (PanOk.then (PanOk.then (PanOk.inBlock (PanOk.then PanOk.body)))))) 3 rfl (by kernel_rfl) (by kernel_rfl) (by kernel_rfl) (by kernel_rfl) ((vI ((st.length - ar e10 : Nat) : Int))) (by kernel_rfl) (fun _ _ => Val.ev rfl (by kernel_rfl) (by kernel_rfl)) (by kernel_rfl) #[true, true, true, true, false, false, false] (by kernel_rfl) ?_
    refine At.any1 4 (by kernel_rfl) rfl #[true, true, true, true, true, false, false] (by kernel_rfl) ?_
    refine At.slice rfl (by kernel_rfl) (e := 4) (by kernel_rfl) (sz := 1) (by kernel_rfl) (A := As) (n := st.length) (c := cs) (by kernel_rfl) (st.length - ar e10 : Nat) st.length cs ⟨.i64, by kernel_rfl⟩ ⟨rfl, rfl⟩ rfl (by omega) hF.2.2.2.2.2 (Nat.le_refl _) ?_
    intro A18 hA19 hA20
    refine ⟨⟨fr 46 [(1, (vP g1 0)), (3, (vS As st.length cs)), (5, (vP g14 0)), (8, (vI ((st.length - ar e10 : Nat) : Int))), (14, (vS (aS b8 off9) nds.length c)), (15, (vI (nds.length : Int))), (16, (vI (i : Int))), (30, (vF 52)), (31, .agg e10.sv), (32, (vS As st.length cs)), (33, (vI ((st.length - ar e10 : Nat) : Int))), (34, (vS A18 (st.length - (st.length - ar e10 : Nat)) (cs - (st.length - ar e10 : Nat))))], [.o (.slice As st.length cs) st.length (st.flatMap encB) 4 1]⟩, by kernel_rfl, ?_⟩
    refine At.cast (S' := ⟨fr 46 [(1, (vP g1 0)), (3, (vS As st.length cs)), (5, (vP g14 0)), (8, (vI ((st.length - ar e10 : Nat) : Int))), (14, (vS (aS b8 off9) nds.length c)), (15, (vI (nds.length : Int))), (16, (vI (i : Int))), (30, (vF 52)), (31, .agg e10.sv), (32, (vS As st.length cs)), (33, (vI ((st.length - ar e10 : Nat) : Int))), (34, (vS A18 ((st.drop (st.length - ar e10 : Nat)).length) (cs - (st.length - ar e10 : Nat))))], [.o (.slice As st.length cs) st.length (st.flatMap encB) 4 1]⟩) (by rw [List.length_drop]) ?_
    refine At.nil ?_
    refine At.then_normal ?_
    refine At.held (PhiLe.refl 0 _) ?_
    refine At.any1 5 (by kernel_rfl) rfl #[true, true, true, true, true, true, false] (by kernel_rfl) ?_
    refine At.callT rfl (by kernel_rfl) 52 [] [] (by kernel_rfl) Try.func52 (by kernel_rfl) (by kernel_rfl) [.agg e10.sv, (vS A18 ((st.drop (st.length - ar e10 : Nat)).length) (cs - (st.length - ar e10 : Nat)))] (by kernel_rfl) (by kernel_rfl) (fun Φp hlp hrp => nul1_c Φp e10.kind e10.s0 e10.s1 e10.s2 e10.s3 e10.mn e10.mx e10m (st.drop (st.length - ar e10 : Nat)) A18 (cs - (st.length - ar e10 : Nat)) (row_drop (enc := encB) (sz := 1) (fun _ => rfl) hF.2.2.2.2.2 hA20 (hrp 0 As st.length cs (st.flatMap encB) 4 1 (by kernel_rfl))) (by show (st.drop _).length = ar e10; rw [List.length_drop]; omega)) ?_
    rintro _ rfl
    refine ⟨⟨fr 46 [(1, (vP g1 0)), (3, (vS As st.length cs)), (5, (vP g14 0)), (8, (vI ((st.length - ar e10 : Nat) : Int))), (14, (vS (aS b8 off9) nds.length c)), (15, (vI (nds.length : Int))), (16, (vI (i : Int))), (30, (vF 52)), (31, .agg e10.sv), (32, (vS As st.length cs)), (33, (vI ((st.length - ar e10 : Nat) : Int))), (34, (vS A18 ((st.drop (st.length - ar e10 : Nat)).length) (cs - (st.length - ar e10 : Nat)))), (35, (vB (nmk e10 (st.drop (st.length - ar e10 : Nat)))))], [.o (.slice As st.length cs) st.length (st.flatMap encB) 4 1]⟩, by kernel_rfl, by kernel_rfl, ?_⟩
    refine At.nil ?_
    refine At.then_normal ?_
    refine At.held (PhiLe.refl 0 _) ?_
    refine At.take (S' := ⟨fr 46 [(1, (vP g1 0)), (3, (vS As st.length cs)), (5, (vP g14 0)), (8, (vI ((st.length - ar e10 : Nat) : Int))), (9, (vB (nmk e10 (st.drop (st.length - ar e10 : Nat))))), (14, (vS (aS b8 off9) nds.length c)), (15, (vI (nds.length : Int))), (16, (vI (i : Int))), (30, (vF 52)), (31, .agg e10.sv), (32, (vS As st.length cs)), (33, (vI ((st.length - ar e10 : Nat) : Int))), (34, (vS A18 ((st.drop (st.length - ar e10 : Nat)).length) (cs - (st.length - ar e10 : Nat)))), (35, (vB (nmk e10 (st.drop (st.length - ar e10 : Nat)))))], [.o (.slice As st.length cs) st.length (st.flatMap encB) 4 1]⟩) (PhiLe.refl 0 _) (PanOk.then (PanOk.inBlock (PanOk.then (PanOk.then (PanOk.inBlock (PanOk.then PanOk.body)))))) 6 rfl (by kernel_rfl) (by kernel_rfl) (by kernel_rfl) (by kernel_rfl) ((vB (nmk e10 (st.drop (st.length - ar e10 : Nat))))) (by kernel_rfl) (fun _ _ => Val.ev rfl (by kernel_rfl) (by kernel_rfl)) (by kernel_rfl) #[true, true, true, true, true, true, true] (by kernel_rfl) ?_
    refine At.drawn_done (by kernel_rfl) ?_
    refine At.then_normal ?_
    refine At.region ?_
    refine At.runk 2 [3, 5, 8, 30, 31, 32, 33, 34, 35] [] ⟨fr 46 [(1, (vP g1 0)), (9, (vB (nmk e10 (st.drop (st.length - ar e10 : Nat))))), (14, (vS (aS b8 off9) nds.length c)), (15, (vI (nds.length : Int))), (16, (vI (i : Int))), (36, (vS As st.length cs)), (37, (vI ((st.length - ar e10 : Nat) : Int)))], [.o (.slice As st.length cs) st.length (st.flatMap encB) 4 1]⟩ (by kernel_rfl) ?_
    refine At.slice rfl (by kernel_rfl) (e := 4) (by kernel_rfl) (sz := 1) (by kernel_rfl) (A := As) (n := st.length) (c := cs) (by kernel_rfl) 0 (st.length - ar e10 : Nat) cs rfl ⟨.i64, by kernel_rfl⟩ rfl (by omega) (by omega) (Nat.le_refl _) ?_
    intro A21 hA22 hA23
    obtain rfl := (hA22 rfl).symm
    refine ⟨⟨fr 46 [(1, (vP g1 0)), (9, (vB (nmk e10 (st.drop (st.length - ar e10 : Nat))))), (14, (vS (aS b8 off9) nds.length c)), (15, (vI (nds.length : Int))), (16, (vI (i : Int))), (36, (vS As st.length cs)), (37, (vI ((st.length - ar e10 : Nat) : Int))), (38, (vS As (st.length - ar e10 : Nat) cs))], [.o (.slice As st.length cs) st.length (st.flatMap encB) 4 1]⟩, by kernel_rfl, ?_⟩
    refine At.trunc (S' := ⟨fr 46 [(1, (vP g1 0)), (9, (vB (nmk e10 (st.drop (st.length - ar e10 : Nat))))), (14, (vS (aS b8 off9) nds.length c)), (15, (vI (nds.length : Int))), (16, (vI (i : Int))), (36, (vS As st.length cs)), (37, (vI ((st.length - ar e10 : Nat) : Int))), (38, (vS As (st.length - ar e10 : Nat) cs))], [.o (.slice As (st.length - ar e10 : Nat) cs) (st.length - ar e10 : Nat) ((st.flatMap encB).take ((st.length - ar e10 : Nat) * 1)) 4 1]⟩) 0 (st.length - ar e10 : Nat) (A := As) (n := st.length) (cap := cs) (xs := (st.flatMap encB)) (e := 4) (sz := 1) (by kernel_rfl) (by omega) (by kernel_rfl) ?_
    refine At.cast (S' := ⟨fr 46 [(1, (vP g1 0)), (9, (vB (nmk e10 (st.drop (st.length - ar e10 : Nat))))), (14, (vS (aS b8 off9) nds.length c)), (15, (vI (nds.length : Int))), (16, (vI (i : Int))), (36, (vS As st.length cs)), (37, (vI ((st.length - ar e10 : Nat) : Int))), (38, (vS As (st.length - ar e10 : Nat) cs))], [.o (.slice As (st.length - ar e10 : Nat) cs) (st.length - ar e10 : Nat) ((st.take (st.length - ar e10 : Nat)).flatMap encB) 4 1]⟩) (by rw [flat_take (enc := encB) (sz := 1) (fun _ => rfl)]) ?_
    refine At.runk 2 [9, 36, 37, 39] [] ⟨fr 46 [(1, (vP g1 0)), (14, (vS (aS b8 off9) nds.length c)), (15, (vI (nds.length : Int))), (16, (vI (i : Int))), (38, (vS As (st.length - ar e10 : Nat) cs)), (40, .s 1 0 1 1)], [.o (.slice As (st.length - ar e10 : Nat) cs) (st.length - ar e10 : Nat) ((st.take (st.length - ar e10 : Nat)).flatMap encB) 4 1, .c [(vB (nmk e10 (st.drop (st.length - ar e10 : Nat))))] 4]⟩ (by kernel_rfl) ?_
    refine At.append rfl (by kernel_rfl) (e := 4) (inf := Try.t4) (sz := 1) (by kernel_rfl) (by kernel_rfl) rfl rfl rfl (Nat.zero_lt_succ _) 0 (V := .slice As (st.length - ar e10 : Nat) cs) (n := (st.length - ar e10 : Nat)) (xs := ((st.take (st.length - ar e10 : Nat)).flatMap encB)) (by kernel_rfl) (by kernel_rfl) 1 [.bool (nmk e10 (st.drop (st.length - ar e10 : Nat)))] (Src.cells (i := 1) (off := 0) (m := 1) (c := 1) (cs := [(vB (nmk e10 (st.drop (st.length - ar e10 : Nat))))]) (e := 4) (by kernel_rfl) (by kernel_rfl) (src_lits _ _ (by kernel_rfl))) (rfl) (one_lits _ (by kernel_rfl)) (by unfold maxLen; omega) (by show ((st.length - ar e10 : Nat) + 1) * 1 ≤ _; omega) ?_
    intro A24 c25 h26 h27 h28
    refine ⟨⟨fr 46 [(1, (vP g1 0)), (14, (vS (aS b8 off9) nds.length c)), (15, (vI (nds.length : Int))), (16, (vI (i : Int))), (38, (vS As (st.length - ar e10 : Nat) cs)), (40, .s 1 0 1 1), (41, (vS A24 ((st.length - ar e10 : Nat) + 1) c25))], [.o (.slice A24 ((st.length - ar e10 : Nat) + 1) c25) ((st.length - ar e10 : Nat) + 1) (((st.take (st.length - ar e10 : Nat)).flatMap encB) ++ [.bool (nmk e10 (st.drop (st.length - ar e10 : Nat)))]) 4 1, .c [(vB (nmk e10 (st.drop (st.length - ar e10 : Nat))))] 4]⟩, by kernel_rfl, ?_⟩
    have hst1 : (st.take (st.length - ar e10 : Nat) ++ [nmk e10 (st.drop (st.length - ar e10 : Nat))]).length = (st.length - ar e10 : Nat) + 1 := by simp only [List.length_append, List.length_take, List.length_cons, List.length_nil]; omega
    have hst2 : (st.take (st.length - ar e10 : Nat) ++ [nmk e10 (st.drop (st.length - ar e10 : Nat))]).flatMap encB = (((st.take (st.length - ar e10 : Nat)).flatMap encB) ++ [.bool (nmk e10 (st.drop (st.length - ar e10 : Nat)))]) := by rw [List.flatMap_append]; rfl
    refine At.cast (S' := ⟨fr 46 [(1, (vP g1 0)), (14, (vS (aS b8 off9) nds.length c)), (15, (vI (nds.length : Int))), (16, (vI (i : Int))), (38, (vS As (st.length - ar e10 : Nat) cs)), (40, .s 1 0 1 1), (41, (vS A24 ((st.take (st.length - ar e10 : Nat) ++ [nmk e10 (st.drop (st.length - ar e10 : Nat))]).length) c25))], [.o (.slice A24 ((st.take (st.length - ar e10 : Nat) ++ [nmk e10 (st.drop (st.length - ar e10 : Nat))]).length) c25) ((st.take (st.length - ar e10 : Nat) ++ [nmk e10 (st.drop (st.length - ar e10 : Nat))]).length) ((st.take (st.length - ar e10 : Nat) ++ [nmk e10 (st.drop (st.length - ar e10 : Nat))]).flatMap encB) 4 1, .c [(vB (nmk e10 (st.drop (st.length - ar e10 : Nat))))] 4]⟩) (by rw [hst1, hst2]) ?_
    refine At.runk 1 [38, 40, 41] [1] ⟨fr 46 [(1, (vP g1 0)), (3, (vS A24 ((st.take (st.length - ar e10 : Nat) ++ [nmk e10 (st.drop (st.length - ar e10 : Nat))]).length) c25)), (14, (vS (aS b8 off9) nds.length c)), (15, (vI (nds.length : Int))), (16, (vI (i : Int)))], [.o (.slice A24 ((st.take (st.length - ar e10 : Nat) ++ [nmk e10 (st.drop (st.length - ar e10 : Nat))]).length) c25) ((st.take (st.length - ar e10 : Nat) ++ [nmk e10 (st.drop (st.length - ar e10 : Nat))]).length) ((st.take (st.length - ar e10 : Nat) ++ [nmk e10 (st.drop (st.length - ar e10 : Nat))]).flatMap encB) 4 1, .dead]⟩ (by kernel_rfl) ?_
    refine At.nil ?_
    refine At.in_normal ?_
    refine At.then_normal ?_
    refine At.region ?_
    refine At.runk 1 [16] [] ⟨fr 46 [(1, (vP g1 0)), (3, (vS A24 ((st.take (st.length - ar e10 : Nat) ++ [nmk e10 (st.drop (st.length - ar e10 : Nat))]).length) c25)), (14, (vS (aS b8 off9) nds.length c)), (15, (vI (nds.length : Int))), (42, (vI (IntKind.i64.wrap ((i : Int) + 1))))], [.o (.slice A24 ((st.take (st.length - ar e10 : Nat) ++ [nmk e10 (st.drop (st.length - ar e10 : Nat))]).length) c25) ((st.take (st.length - ar e10 : Nat) ++ [nmk e10 (st.drop (st.length - ar e10 : Nat))]).length) ((st.take (st.length - ar e10 : Nat) ++ [nmk e10 (st.drop (st.length - ar e10 : Nat))]).flatMap encB) 4 1, .dead]⟩ (by kernel_rfl) ?_
    refine At.cast (S' := ⟨fr 46 [(1, (vP g1 0)), (3, (vS A24 ((st.take (st.length - ar e10 : Nat) ++ [nmk e10 (st.drop (st.length - ar e10 : Nat))]).length) c25)), (14, (vS (aS b8 off9) nds.length c)), (15, (vI (nds.length : Int))), (42, (vI ((i : Int) + 1)))], [.o (.slice A24 ((st.take (st.length - ar e10 : Nat) ++ [nmk e10 (st.drop (st.length - ar e10 : Nat))]).length) c25) ((st.take (st.length - ar e10 : Nat) ++ [nmk e10 (st.drop (st.length - ar e10 : Nat))]).length) ((st.take (st.length - ar e10 : Nat) ++ [nmk e10 (st.drop (st.length - ar e10 : Nat))]).flatMap encB) 4 1, .dead]⟩) (by rw [wrapI (z := (i : Int) + 1) (by omega) (by omega)]) ?_
    refine At.runk 1 [42] [] ⟨fr 46 [(1, (vP g1 0)), (3, (vS A24 ((st.take (st.length - ar e10 : Nat) ++ [nmk e10 (st.drop (st.length - ar e10 : Nat))]).length) c25)), (14, (vS (aS b8 off9) nds.length c)), (15, (vI (nds.length : Int))), (16, (vI ((i : Int) + 1)))], [.o (.slice A24 ((st.take (st.length - ar e10 : Nat) ++ [nmk e10 (st.drop (st.length - ar e10 : Nat))]).length) c25) ((st.take (st.length - ar e10 : Nat) ++ [nmk e10 (st.drop (st.length - ar e10 : Nat))]).length) ((st.take (st.length - ar e10 : Nat) ++ [nmk e10 (st.drop (st.length - ar e10 : Nat))]).flatMap encB) 4 1, .dead]⟩ (by kernel_rfl) ?_
    refine At.nil ?_
    refine At.forget [] 1 [] ⟨fr 46 [(1, (vP g1 0)), (3, (vS A24 ((st.take (st.length - ar e10 : Nat) ++ [nmk e10 (st.drop (st.length - ar e10 : Nat))]).length) c25)), (14, (vS (aS b8 off9) nds.length c)), (15, (vI (nds.length : Int))), (16, (vI ((i : Int) + 1)))], [.o (.slice A24 ((st.take (st.length - ar e10 : Nat) ++ [nmk e10 (st.drop (st.length - ar e10 : Nat))]).length) c25) ((st.take (st.length - ar e10 : Nat) ++ [nmk e10 (st.drop (st.length - ar e10 : Nat))]).length) ((st.take (st.length - ar e10 : Nat) ++ [nmk e10 (st.drop (st.length - ar e10 : Nat))]).flatMap encB) 4 1]⟩ (by kernel_rfl) (by kernel_rfl) (bleT rfl) ?_
    refine At.round (i + 1, (st.take (st.length - ar e10 : Nat) ++ [nmk e10 (st.drop (st.length - ar e10 : Nat))]), A24, c25) (by kernel_rfl) (hle13.trans hle16) ⟨by omega, by rw [hst1]; omega, by rw [hst1]; exact e10c, by rw [← foldS_step he11]; exact hF.2.2.2.1, trivial, by rw [hst1]; exact h26⟩ (by omega)
  have hb7p : ¬ ((i : Int) < (nds.length : Int)) := of_decide_eq_false hb7
  refine At.cast (S' := ⟨fr 46 [(1, (vP g1 0)), (3, (vS As st.length cs)), (14, (vS A nds.length c)), (15, (vI (nds.length : Int))), (16, (vI (i : Int))), (17, (vB false))], [.o (.slice As st.length cs) st.length (st.flatMap encB) 4 1]⟩) (by rw [hb7] <;> rfl) ?_
  refine At.cond_f (by kernel_rfl) ?_
  refine At.exit_ ?_
  refine At.then_exit ?_
  refine At.then_exit ?_
  refine At.in_here ?_
  refine At.then_normal ?_
  refine At.seq ?_
  have hst1 : st.length = 1 := chk_none_end (by omega) hF.2.2.1
  refine At.region ?_
  refine At.runk 1 [1, 3, 14, 15, 16, 17] [] ⟨fr 46 [(43, (vS As st.length cs))], [.o (.slice As st.length cs) st.length (st.flatMap encB) 4 1]⟩ (by kernel_rfl) ?_
  refine At.row_some 0 (A := As) (n := st.length) (c := cs) (xs := (st.flatMap encB)) (e := 4) (sz := 1) (by kernel_rfl) (by omega) ?_
  intro g29 hg30
  subst hg30
  refine At.idx (S' := ⟨fr 46 [(43, (vS (aS g29 0) st.length cs)), (44, (vP g29 0))], [.o (.slice (aS g29 0) st.length cs) st.length (st.flatMap encB) 4 1]⟩) rfl (by kernel_rfl) (sz := 1) (e := 4) (by kernel_rfl) (by kernel_rfl) (by kernel_rfl) (b := g29) (off := 0) (n := st.length) (cap := cs) (kd := .i64) (i := 0) (by kernel_rfl) (by omega) (by omega) (by kernel_rfl) ?_
  obtain ⟨e31, he32⟩ := get_some (l := st) (i := 0) (by omega)
  refine At.ldrow (S' := ⟨fr 46 [(43, (vS (aS g29 0) st.length cs)), (44, (vP g29 0)), (45, (vB e31))], [.o (.slice (aS g29 0) st.length cs) st.length (st.flatMap encB) 4 1]⟩) rfl (by kernel_rfl) (g := g29) (off := 0) (by kernel_rfl) 0 (n := st.length) (cap := cs) (xs := (st.flatMap encB)) (e := 4) (sz := 1) (by kernel_rfl) (encB e31) ((vB e31)) (by kernel_rfl) (fun j u hj => by have hq := flat_get (enc := encB) (sz := 1) (fun _ => rfl) _ 0 e31 j u he32 hj; simpa using hq) (by kernel_rfl) ?_
  refine At.runk 1 [43, 44, 45] [0] ⟨fr 46 [(2, (vB e31))], [.dead]⟩ (by kernel_rfl) ?_
  refine At.nil ?_
  refine At.then_normal ?_
  refine At.ret_ ?_
  refine At.forget [] 0 [] ⟨fr 46 [(2, (vB e31))], []⟩ (by kernel_rfl) (by kernel_rfl) (bleT rfl) ?_
  refine At.leaveR rfl e31 (by kernel_rfl) (by kernel_rfl) (by kernel_rfl) ?_
  rw [foldR, ← hF.2.2.2.1, foldS_end (by omega)]
  exact (headD_get he32).symm

theorem fold_bool_no (Φ : Phi) (g0 g1 : Nat) (nds : List Nd) (A : Option Addr) (c : Nat) (hR : NdsAt Φ A nds) (hl : nds.length ≤ 1000000) (ndsw : ∀ n ∈ nds, n.wf) (i : Nat) (hno : chk nds 0 0 = some i) (hB0 : RdC Φ (aS g0 0) [.slice A nds.length c])  : CallP Try.prog 77 [(vP g0 0), (vP g1 0)] [] Φ [{ v := .iface 33 (.int .i64 140), recovered := false }] := by
  refine CallG.enterk Try.func77 rfl [2, 3, 4, 5, 6, 7, 8, 9, 10, 11, 12, 13, 14, 15, 16, 17, 18, 19, 20, 21, 22, 23, 24, 25, 26, 27, 28, 29, 30, 31, 32, 33, 34, 35, 36, 37, 38, 39, 40, 41, 42, 43, 44, 45] ⟨fr 46 [(0, (vP g0 0)), (1, (vP g1 0))], []⟩ (by kernel_rfl) (by kernel_rfl) ?_
  intro E G β0
  refine At.seq ?_
  refine At.region ?_
  refine At.runk 1 [2] [] ⟨fr 46 [(0, (vP g0 0)), (1, (vP g1 0))], []⟩ (by kernel_rfl) ?_
  refine At.nil ?_
  refine At.then_normal ?_
  refine At.seq ?_
  refine At.region ?_
  refine At.runk 1 [] [] ⟨fr 46 [(0, (vP g0 0)), (1, (vP g1 0)), (3, (vS none 0 0))], []⟩ (by kernel_rfl) ?_
  refine At.nil ?_
  refine At.then_normal ?_
  refine At.seq ?_
  refine At.seq ?_
  refine At.region ?_
  refine At.vals (S' := ⟨fr 46 [(0, (vP g0 0)), (1, (vP g1 0)), (3, (vS none 0 0)), (10, (vS A nds.length c))], []⟩) (by kernel_rfl) ((vS A nds.length c)) (by kernel_rfl) (Val.ldB rfl hB0 (Nat.zero_lt_succ _) 0 0 (by omega) (by kernel_rfl) ((vS A nds.length c)) (by kernel_rfl)) ?_
  refine At.callP rfl (by kernel_rfl) 43 [] [] (by kernel_rfl) Try.func43 (by kernel_rfl) (by kernel_rfl) [(vS A nds.length c)] (by kernel_rfl) (by kernel_rfl) (of_no Φ nds A c hR hl ndsw i hno) ?_
  intro Φ1 hle2
  have hR := hR.mono hle2
  have hB0 := hB0.mono hle2
  refine ⟨⟨fr 46 [(0, (vP g0 0)), (1, (vP g1 0)), (3, (vS none 0 0)), (10, (vS A nds.length c))], []⟩, by kernel_rfl, by kernel_rfl, ?_⟩
  refine At.then_panic ?_
  refine At.then_panic ?_
  refine At.forget [0, 1, 3, 10] 0 [] ⟨fr 46 [], []⟩ (by kernel_rfl) (by kernel_rfl) (bleT rfl) ?_
  exact At.leaveP rfl (by kernel_rfl)

theorem folded_bool_ok (Φ : Phi) (nds : List Nd) (A : Option Addr) (c : Nat) (hR : NdsAt Φ A nds) (hl : nds.length ≤ 1000000) (ndsw : ∀ n ∈ nds, n.wf) (hok : chk nds 0 0 = none)  : CallR Try.prog 51 [(vS A nds.length c), (vF 52)] [] Φ Unit (fun _ => .tup [(vB (foldR nmk nds)), (vI 0)]) (fun _ => []) (fun _ _ => True) := by
  refine CallG.enterk Try.func51 rfl [2, 3, 4, 5, 6, 7, 8, 9] ⟨fr 10 [(0, (vS A nds.length c)), (1, (vF 52))], []⟩ (by kernel_rfl) (by kernel_rfl) ?_
  intro E G β0
  refine At.seq ?_
  refine At.region ?_
  refine At.runk 4 [0, 1, 4, 5] [] ⟨fr 10 [(2, .p 0 0), (3, .p 1 0)], [.c [(vS A nds.length c)] 30, .c [(vF 52)] 74]⟩ (by kernel_rfl) ?_
  refine At.nil ?_
  refine At.then_normal ?_
  refine At.seq ?_
  refine At.freezeC 0 [.slice A nds.length c] rfl rfl (bleT rfl) (bleT rfl) (fun _ => by kernel_rfl) (fun _ => by kernel_rfl) ?_
  intro g2 Φ3 hle4 hB1
  have hR := hR.mono hle4
  refine ⟨⟨fr 10 [(2, (vP g2 0)), (3, .p 1 0)], [.dead, .c [(vF 52)] 74]⟩, by kernel_rfl, ?_⟩
  refine At.freezeC 1 [.func (.func 52) #[] #[]] rfl rfl (bleT rfl) (bleT rfl) (fun _ => by kernel_rfl) (fun _ => by kernel_rfl) ?_
  intro g6 Φ7 hle8 hB5
  have hR := hR.mono hle8
  have hB1 := hB1.mono hle8
  refine ⟨⟨fr 10 [(2, (vP g2 0)), (3, (vP g6 0))], [.dead, .dead]⟩, by kernel_rfl, ?_⟩
  refine At.region ?_
  refine At.runk 1 [2, 3] [] ⟨fr 10 [(6, .fn (.func 77) [(vP g2 0), (vP g6 0)])], [.dead, .dead]⟩ (by kernel_rfl) ?_
  refine At.reval 6 (.fn (.func 77) [(vP g2 0), (vP g6 0)]) (.v (.func (.func 77) #[] #[.pointer (aS g2 0), .pointer (aS g6 0)])) (by kernel_rfl) (by kernel_rfl) (fun _ => by kernel_rfl) ⟨fr 10 [(6, .v (.func (.func 77) #[] #[.pointer (aS g2 0), .pointer (aS g6 0)]))], [.dead, .dead]⟩ (by kernel_rfl) (by kernel_rfl) ?_
  refine At.callV rfl (by kernel_rfl) 76 [] [] (by kernel_rfl) Try.func76 (by kernel_rfl) (by kernel_rfl) [.v (.func (.func 77) #[] #[.pointer (aS g2 0), .pointer (aS g6 0)])] (by kernel_rfl) (by kernel_rfl) (tries_bool Φ7 77 #[.pointer (aS g2 0), .pointer (aS g6 0)] Try.f77 Try.func77 rfl rfl Bool (fun t => t) (fun t _ => t = foldR nmk nds) (fun _ _ _ _ h => h) (fold_bool_c Φ7 g2 g6 nds A c hR hl ndsw hok hB1 hB5)) ?_
  rintro Φ9 _ hle10 rfl
  have hR := hR.mono hle10
  have hB1 := hB1.mono hle10
  have hB5 := hB5.mono hle10
  refine ⟨⟨fr 10 [(6, .v (.func (.func 77) #[] #[.pointer (aS g2 0), .pointer (aS g6 0)])), (7, .tup [(vB (foldR nmk nds)), (vI 0)])], [.dead, .dead]⟩, by kernel_rfl, by kernel_rfl, ?_⟩
  refine At.runk 4 [6, 7, 8, 9] [] ⟨fr 10 [(4, (vB (foldR nmk nds))), (5, (vI 0))], [.dead, .dead]⟩ (by kernel_rfl) ?_
  refine At.nil ?_
  refine At.then_normal ?_
  refine At.ret_ ?_
  refine At.forget [] 0 [] ⟨fr 10 [(4, (vB (foldR nmk nds))), (5, (vI 0))], []⟩ (by kernel_rfl) (by kernel_rfl) (bleT rfl) ?_
  refine At.leaveR rfl () (by kernel_rfl) (by kernel_rfl) (by kernel_rfl) ?_
  trivial

theorem folded_bool_no (Φ : Phi) (nds : List Nd) (A : Option Addr) (c : Nat) (hR : NdsAt Φ A nds) (hl : nds.length ≤ 1000000) (ndsw : ∀ n ∈ nds, n.wf) (i : Nat) (hno : chk nds 0 0 = some i)  : CallR Try.prog 51 [(vS A nds.length c), (vF 52)] [] Φ Unit (fun _ => .tup [(vB false), (vI 140)]) (fun _ => []) (fun _ _ => True) := by
  refine CallG.enterk Try.func51 rfl [2, 3, 4, 5, 6, 7, 8, 9] ⟨fr 10 [(0, (vS A nds.length c)), (1, (vF 52))], []⟩ (by kernel_rfl) (by kernel_rfl) ?_
  intro E G β0
  refine At.seq ?_
  refine At.region ?_
  refine At.runk 4 [0, 1, 4, 5] [] ⟨fr 10 [(2, .p 0 0), (3, .p 1 0)], [.c [(vS A nds.length c)] 30, .c [(vF 52)] 74]⟩ (by kernel_rfl) ?_
  refine At.nil ?_
  refine At.then_normal ?_
  refine At.seq ?_
  refine At.freezeC 0 [.slice A nds.length c] rfl rfl (bleT rfl) (bleT rfl) (fun _ => by kernel_rfl) (fun _ => by kernel_rfl) ?_
  intro g2 Φ3 hle4 hB1
  have hR := hR.mono hle4
  refine ⟨⟨fr 10 [(2, (vP g2 0)), (3, .p 1 0)], [.dead, .c [(vF 52)] 74]⟩, by kernel_rfl, ?_⟩
  refine At.freezeC 1 [.func (.func 52) #[] #[]] rfl rfl (bleT rfl) (bleT rfl) (fun _ => by kernel_rfl) (fun _ => by kernel_rfl) ?_
  intro g6 Φ7 hle8 hB5
  have hR := hR.mono hle8
  have hB1 := hB1.mono hle8
  refine ⟨⟨fr 10 [(2, (vP g2 0)), (3, (vP g6 0))], [.dead, .dead]⟩, by kernel_rfl, ?_⟩
  refine At.region ?_
  refine At.runk 1 [2, 3] [] ⟨fr 10 [(6, .fn (.func 77) [(vP g2 0), (vP g6 0)])], [.dead, .dead]⟩ (by kernel_rfl) ?_
  refine At.reval 6 (.fn (.func 77) [(vP g2 0), (vP g6 0)]) (.v (.func (.func 77) #[] #[.pointer (aS g2 0), .pointer (aS g6 0)])) (by kernel_rfl) (by kernel_rfl) (fun _ => by kernel_rfl) ⟨fr 10 [(6, .v (.func (.func 77) #[] #[.pointer (aS g2 0), .pointer (aS g6 0)]))], [.dead, .dead]⟩ (by kernel_rfl) (by kernel_rfl) ?_
  refine At.callV rfl (by kernel_rfl) 76 [] [] (by kernel_rfl) Try.func76 (by kernel_rfl) (by kernel_rfl) [.v (.func (.func 77) #[] #[.pointer (aS g2 0), .pointer (aS g6 0)])] (by kernel_rfl) (by kernel_rfl) (tries_bool_no Φ7 77 #[.pointer (aS g2 0), .pointer (aS g6 0)] Try.f77 Try.func77 rfl rfl 140 (fold_bool_no Φ7 g2 g6 nds A c hR hl ndsw i hno hB1)) ?_
  rintro Φ9 ⟨⟩ hle10 -
  have hR := hR.mono hle10
  have hB1 := hB1.mono hle10
  have hB5 := hB5.mono hle10
  refine ⟨⟨fr 10 [(6, .v (.func (.func 77) #[] #[.pointer (aS g2 0), .pointer (aS g6 0)])), (7, .tup [(vB false), (vI 140)])], [.dead, .dead]⟩, by kernel_rfl, by kernel_rfl, ?_⟩
  refine At.runk 4 [6, 7, 8, 9] [] ⟨fr 10 [(4, (vB false)), (5, (vI 140))], [.dead, .dead]⟩ (by kernel_rfl) ?_
  refine At.nil ?_
  refine At.then_normal ?_
  refine At.ret_ ?_
  refine At.forget [] 0 [] ⟨fr 10 [(4, (vB false)), (5, (vI 140))], []⟩ (by kernel_rfl) (by kernel_rfl) (bleT rfl) ?_
  refine At.leaveR rfl () (by kernel_rfl) (by kernel_rfl) (by kernel_rfl) ?_
  trivial

theorem nullable_c (Φ : Phi) (nds : List Nd) (A : Option Addr) (c : Nat) (hR : NdsAt Φ A nds) (hl : nds.length ≤ 1000000) (ndsw : ∀ n ∈ nds, n.wf)  : CallR Try.prog 19 [(vS A nds.length c)] [] Φ (Bool × Int) (fun t => .tup [(vB t.1), (vI t.2)]) (fun _ => []) (fun t _ => t = treeR false (foldR nmk nds) nds) := by
  refine CallG.enterk Try.func19 rfl [1, 2, 3, 4, 5, 6, 7] ⟨fr 8 [(0, (vS A nds.length c))], []⟩ (by kernel_rfl) (by kernel_rfl) ?_
  intro E G β0
  refine At.seq ?_
  refine At.region ?_
  refine At.runk 2 [2, 3] [] ⟨fr 8 [(0, (vS A nds.length c))], []⟩ (by kernel_rfl) ?_
  refine At.nil ?_
  refine At.then_normal ?_
  refine At.seq ?_
  refine At.region ?_
  refine At.runk 1 [0] [] ⟨fr 8 [(4, (vS A nds.length c))], []⟩ (by kernel_rfl) ?_
  by_cases hc1 : chk nds 0 0 = none
  · refine At.callV rfl (by kernel_rfl) 51 [] [] (by kernel_rfl) Try.func51 (by kernel_rfl) (by kernel_rfl) [(vS A nds.length c), (vF 52)] (by kernel_rfl) (by kernel_rfl) (folded_bool_ok Φ nds A c hR hl ndsw hc1) ?_
    rintro Φ2 ⟨⟩ hle3 -
    have hR := hR.mono hle3
    refine ⟨⟨fr 8 [(4, (vS A nds.length c)), (5, .tup [(vB (foldR nmk nds)), (vI 0)])], []⟩, by kernel_rfl, by kernel_rfl, ?_⟩
    refine At.runk 4 [4, 5, 6, 7] [] ⟨fr 8 [(2, (vB (foldR nmk nds))), (3, (vI 0))], []⟩ (by kernel_rfl) ?_
    refine At.nil ?_
    refine At.then_normal ?_
    refine At.ret_ ?_
    refine At.leaveR rfl ((foldR nmk nds), 0) (by kernel_rfl) (by kernel_rfl) (by kernel_rfl) ?_
    first | (rw [treeR_ok (by assumption)]; done) | (rw [treeR_no (by assumption)]; done)
  obtain ⟨ihc1, hc1s⟩ := Option.ne_none_iff_exists.1 hc1
  refine At.callV rfl (by kernel_rfl) 51 [] [] (by kernel_rfl) Try.func51 (by kernel_rfl) (by kernel_rfl) [(vS A nds.length c), (vF 52)] (by kernel_rfl) (by kernel_rfl) (folded_bool_no Φ nds A c hR hl ndsw ihc1 hc1s.symm) ?_
  rintro Φ4 ⟨⟩ hle5 -
  have hR := hR.mono hle5
  refine ⟨⟨fr 8 [(4, (vS A nds.length c)), (5, .tup [(vB false), (vI 140)])], []⟩, by kernel_rfl, by kernel_rfl, ?_⟩
  refine At.runk 4 [4, 5, 6, 7] [] ⟨fr 8 [(2, (vB false)), (3, (vI 140))], []⟩ (by kernel_rfl) ?_
  refine At.nil ?_
  refine At.then_normal ?_
  refine At.ret_ ?_
  refine At.leaveR rfl (false, 140) (by kernel_rfl) (by kernel_rfl) (by kernel_rfl) ?_
  first | (rw [treeR_ok (by assumption)]; done) | (rw [treeR_no (by assumption)]; done)

end Go.Sx
