/- RxZ: printed by wip/gen/lib04.py. Walks over functions of the program. -/
import Derived.Test.YtgkjblbmiooedaaRxY
import Derived.Test.YtgkjblbmiooedaaRx9
namespace Go.Sx
open Go.Proofs Go.RowKit
theorem lback_c (Φ : Phi) (nds : List Nd) (A : Option Addr) (c : Nat) (hR : NdsAt Φ A nds) (hc : nds.length ≤ c) (ndsw : ∀ n ∈ nds, n.wf)  : CallR Try.prog 5 [(vS A nds.length c)] [] Φ Unit (fun _ => (vB true)) (fun _ => []) (fun _ _ => True) := by
  refine CallG.enterk Try.func5 rfl [1, 2, 3, 4, 5, 6, 7, 8, 9, 10, 11, 12, 13, 14, 15, 16, 17, 18, 19, 20, 21, 22, 23, 24, 25, 26, 27, 28, 29, 30, 31, 32, 33, 34, 35, 36, 37, 38, 39, 40, 41, 42, 43, 44, 45, 46, 47, 48, 49, 50, 51, 52, 53, 54, 55, 56, 57, 58, 59, 60, 61, 62, 63, 64, 65, 66, 67, 68, 69, 70, 71, 72, 73, 74, 75, 76, 77, 78, 79, 80, 81, 82, 83, 84, 85, 86, 87, 88, 89, 90, 91, 92, 93, 94, 95, 96, 97, 98, 99, 100, 101, 102, 103, 104, 105, 106, 107, 108, 109, 110, 111, 112, 113, 114, 115, 116, 117, 118, 119, 120, 121, 122, 123, 124, 125, 126, 127, 128, 129, 130, 131, 132, 133, 134, 135, 136, 137, 138, 139] ⟨fr 140 [(0, (vS A nds.length c))], []⟩ (by kernel_rfl) (by kernel_rfl) ?_
  intro E G β0
  refine At.seq ?_
  refine At.region ?_
  refine At.runk 1 [2] [] ⟨fr 140 [(0, (vS A nds.length c))], []⟩ (by kernel_rfl) ?_
  refine At.nil ?_
  refine At.then_normal ?_
  refine At.seq ?_
  refine At.seq ?_
  refine At.region ?_
  refine At.callV rfl (by kernel_rfl) 9 [] [] (by kernel_rfl) Try.func9 (by kernel_rfl) (by kernel_rfl) [] (by kernel_rfl) (by kernel_rfl) (wakes_c Φ) ?_
  rintro Φ1 ⟨⟩ hle2 -
  have hR := hR.mono hle2
  refine ⟨⟨fr 140 [(0, (vS A nds.length c)), (23, (vB true))], []⟩, by kernel_rfl, by kernel_rfl, ?_⟩
  refine At.runk 1 [23] [] ⟨fr 140 [(0, (vS A nds.length c)), (24, (vB false))], []⟩ (by kernel_rfl) ?_
  refine At.nil ?_
  refine At.then_normal ?_
  refine At.cond_f (by kernel_rfl) ?_
  refine At.skip ?_
  refine At.then_normal ?_
  refine At.seq ?_
  refine At.region ?_
  refine At.runk 1 [0, 24] [] ⟨fr 140 [(25, (vS A nds.length c))], []⟩ (by kernel_rfl) ?_
  refine At.callV rfl (by kernel_rfl) 10 [] [] (by kernel_rfl) Try.func10 (by kernel_rfl) (by kernel_rfl) [(vS A nds.length c)] (by kernel_rfl) (by kernel_rfl) (own_c Φ1 nds A c hR hc) ?_
  rintro Φ6 ⟨A3, c4⟩ hle7 h5
  have hR := hR.mono hle7
  dsimp only at h5
  refine ⟨⟨fr 140 [(25, (vS A nds.length c)), (26, (vS A3 ((nds.take 60).length) c4))], [.o (.slice A3 ((nds.take 60).length) c4) ((nds.take 60).length) ((nds.take 60).flatMap Nd.cells) 26 7]⟩, by kernel_rfl, by kernel_rfl, ?_⟩
  refine At.runk 1 [25, 26] [] ⟨fr 140 [(3, (vS A3 ((nds.take 60).length) c4))], [.o (.slice A3 ((nds.take 60).length) c4) ((nds.take 60).length) ((nds.take 60).flatMap Nd.cells) 26 7]⟩ (by kernel_rfl) ?_
  refine At.freeze (S' := ⟨fr 140 [(3, (vS A3 ((nds.take 60).length) c4))], [.dead]⟩) 0 (A := A3) (n := (nds.take 60).length) (c := c4) (xs := ((nds.take 60).flatMap Nd.cells)) (e := 26) (sz := 7) (by kernel_rfl) (bleT rfl) (by kernel_rfl) ?_
  intro Φ8 hle9 hRr
  have hR := hR.mono hle9
  obtain ⟨r, hr⟩ : ∃ x, x = (nds.take 60) := ⟨_, rfl⟩
  rw [← hr] at hRr
  refine At.cast (S' := ⟨fr 140 [(3, (vS A3 r.length c4))], [.dead]⟩) (by rw [hr]) ?_
  have hrl : r.length ≤ 60 := by rw [hr, List.length_take]; omega
  have hrw : ∀ n ∈ r, n.wf := by rw [hr]; exact fun n hn => ndsw n (List.mem_of_mem_take hn)
  rw [← hr] at h5
  refine At.nil ?_
  refine At.then_normal ?_
  refine At.seq ?_
  refine At.seq ?_
  refine At.region ?_
  refine At.runk 1 [] [] ⟨fr 140 [(3, (vS A3 r.length c4)), (28, (vS A3 r.length c4))], [.dead]⟩ (by kernel_rfl) ?_
  by_cases hc12 : chk r 0 0 = none
  · refine At.callV rfl (by kernel_rfl) 21 [] [] (by kernel_rfl) Try.func21 (by kernel_rfl) (by kernel_rfl) [(vS A3 r.length c4)] (by kernel_rfl) (by kernel_rfl) (check_c Φ8 r A3 c4 hRr (by omega) hrw) ?_
    rintro Φ13 t10 hle14 ht11
    have hR := hR.mono hle14
    have hRr := hRr.mono hle14
    rw [chkR_ok hc12] at ht11
    subst ht11
    have hok := hc12
    refine ⟨⟨fr 140 [(3, (vS A3 r.length c4)), (28, (vS A3 r.length c4)), (29, .tup [(vI 0), (vI 0)])], [.dead]⟩, by kernel_rfl, by kernel_rfl, ?_⟩
    refine At.runk 5 [4, 27, 28, 29, 30, 31] [] ⟨fr 140 [(3, (vS A3 r.length c4)), (5, (vI 0))], [.dead]⟩ (by kernel_rfl) ?_
    refine At.nil ?_
    refine At.then_normal ?_
    refine At.seq ?_
    refine At.region ?_
    refine At.runk 2 [5, 32] [] ⟨fr 140 [(3, (vS A3 r.length c4)), (33, (vB false))], [.dead]⟩ (by kernel_rfl) ?_
    refine At.nil ?_
    refine At.then_normal ?_
    refine At.cond_f (by kernel_rfl) ?_
    refine At.skip ?_
    refine At.then_normal ?_
    refine At.seq ?_
    refine At.seq ?_
    refine At.region ?_
    refine At.runk 3 [33] [] ⟨fr 140 [(3, (vS A3 r.length c4)), (41, (vS A3 r.length c4)), (42, (vI (r.length : Int))), (43, (vI 0))], [.dead]⟩ (by kernel_rfl) ?_
    refine At.nil ?_
    refine At.then_normal ?_
    refine At.block ?_
    refine At.forget [] 0 [] ⟨fr 140 [(3, (vS A3 r.length c4)), (41, (vS A3 r.length c4)), (42, (vI (r.length : Int))), (43, (vI 0))], []⟩ (by kernel_rfl) (by kernel_rfl) (bleT rfl) ?_
    refine At.loop (T := Nat) (fun x => ⟨fr 140 [(3, (vS A3 r.length c4)), (41, (vS A3 r.length c4)), (42, (vI (r.length : Int))), (43, (vI (x : Int)))], []⟩) (fun x Φ => x ≤ r.length) (fun x => r.length - x) 0 (by kernel_rfl) (Nat.zero_le _) ?_
    rintro i Φ15 hle16 hF
    have hR := hR.mono hle16
    have hRr := hRr.mono hle16
    refine At.cast (S' := ⟨fr 140 [(3, (vS A3 r.length c4)), (41, (vS A3 r.length c4)), (42, (vI (r.length : Int))), (43, (vI (i : Int)))], []⟩) (by kernel_rfl) ?_
    refine At.seq ?_
    refine At.region ?_
    refine At.runk 1 [] [] ⟨fr 140 [(3, (vS A3 r.length c4)), (41, (vS A3 r.length c4)), (42, (vI (r.length : Int))), (43, (vI (i : Int))), (44, (vB (decide ((i : Int) < (r.length : Int)))))], []⟩ (by kernel_rfl) ?_
    refine At.nil ?_
    refine At.then_normal ?_
    refine At.seq ?_
    refine At.bcase (decide ((i : Int) < (r.length : Int))) (fun hb17 => ?_) (fun hb17 => ?_)
    · have hb17p : ((i : Int) < (r.length : Int)) := of_decide_eq_true hb17
      refine At.cast (S' := ⟨fr 140 [(3, (vS A3 r.length c4)), (41, (vS A3 r.length c4)), (42, (vI (r.length : Int))), (43, (vI (i : Int))), (44, (vB true))], []⟩) (by rw [hb17] <;> rfl) ?_
      refine At.cond_t (by kernel_rfl) ?_
      refine At.skip ?_
      refine At.then_normal ?_
      refine At.seq ?_
      refine At.block ?_
      refine At.seq ?_
      refine At.region ?_
      refine At.runk 1 [44] [] ⟨fr 140 [(3, (vS A3 r.length c4)), (41, (vS A3 r.length c4)), (42, (vI (r.length : Int))), (43, (vI (i : Int))), (45, (vI (i : Int)))], []⟩ (by kernel_rfl) ?_
      obtain ⟨b18, off19, hxeq⟩ : ∃ b off, A3 = some ⟨b, off, none⟩ := hRr.addr (by exact nds_pos (by omega))
      subst hxeq
      refine At.idx (S' := ⟨fr 140 [(3, (vS (aS b18 off19) r.length c4)), (41, (vS (aS b18 off19) r.length c4)), (42, (vI (r.length : Int))), (43, (vI (i : Int))), (45, (vI (i : Int))), (46, .v (.pointer (some ⟨b18, off19 + i * 7, none⟩)))], []⟩) rfl (by kernel_rfl) (sz := 7) (e := 26) (by kernel_rfl) (by kernel_rfl) (by kernel_rfl) (b := b18) (off := off19) (n := r.length) (cap := c4) (kd := .i64) (i := (i : Int)) (by kernel_rfl) (by omega) (by omega) (by kernel_rfl) ?_
      obtain ⟨e20, he21⟩ := get_some (l := r) (i := i) (by omega)
      have e20w := hrw e20 (List.mem_of_getElem? he21)
      refine At.vals (S' := ⟨fr 140 [(3, (vS (aS b18 off19) r.length c4)), (41, (vS (aS b18 off19) r.length c4)), (42, (vI (r.length : Int))), (43, (vI (i : Int))), (45, (vI (i : Int))), (46, .v (.pointer (some ⟨b18, off19 + i * 7, none⟩))), (47, .agg e20.sv)], []⟩) (by kernel_rfl) (.agg e20.sv) (by kernel_rfl) (Val.ldE rfl (enc := Nd.cells) (xs := r) (b := b18) (off := off19) hRr (sz := 7) (fun _ => rfl) (Nat.zero_lt_succ _) i e20 he21 0 (off19 + i * 7) (by omega) (by kernel_rfl) (.agg e20.sv) (by kernel_rfl)) ?_
      refine At.runk 3 [45, 46, 47] [] ⟨fr 140 [(3, (vS (aS b18 off19) r.length c4)), (8, (vI (i : Int))), (9, .p 0 0), (41, (vS (aS b18 off19) r.length c4)), (42, (vI (r.length : Int))), (43, (vI (i : Int)))], [.c e20.sv 26]⟩ (by kernel_rfl) ?_
      refine At.nil ?_
      refine At.then_normal ?_
      refine At.seq ?_
      refine At.region ?_
      refine At.runk 2 [] [] ⟨fr 140 [(3, (vS (aS b18 off19) r.length c4)), (8, (vI (i : Int))), (9, .p 0 0), (41, (vS (aS b18 off19) r.length c4)), (42, (vI (r.length : Int))), (43, (vI (i : Int))), (49, (vS (aS b18 off19) r.length c4)), (50, (vI (i : Int)))], [.c e20.sv 26]⟩ (by kernel_rfl) ?_
      refine At.callV rfl (by kernel_rfl) 23 [] [] (by kernel_rfl) Try.func23 (by kernel_rfl) (by kernel_rfl) [(vS (aS b18 off19) r.length c4), (vI (i : Int))] (by kernel_rfl) (by kernel_rfl) (below_ok Φ15 r (aS b18 off19) c4 hRr (by omega) hrw h5 i (by omega) hok) ?_
      rintro Φ22 ⟨Ab, cb⟩ hle23 hcb
      have hR := hR.mono hle23
      have hRr := hRr.mono hle23
      replace hcb : (sub r (bgN r i) (i + 1)).length ≤ cb := hcb
      refine ⟨⟨fr 140 [(3, (vS (aS b18 off19) r.length c4)), (8, (vI (i : Int))), (9, .p 0 0), (41, (vS (aS b18 off19) r.length c4)), (42, (vI (r.length : Int))), (43, (vI (i : Int))), (49, (vS (aS b18 off19) r.length c4)), (50, (vI (i : Int))), (51, .tup [(vS Ab ((sub r (bgN r i) (i + 1)).length) cb), (vI 0)])], [.c e20.sv 26, .o (.slice Ab ((sub r (bgN r i) (i + 1)).length) cb) ((sub r (bgN r i) (i + 1)).length) ((sub r (bgN r i) (i + 1)).flatMap Nd.cells) 26 7]⟩, by kernel_rfl, by kernel_rfl, ?_⟩
      obtain ⟨t, htq⟩ : ∃ x, x = (sub r (bgN r i) (i + 1)) := ⟨_, rfl⟩
      rw [← htq] at hcb
      refine At.cast (S' := ⟨fr 140 [(3, (vS (aS b18 off19) r.length c4)), (8, (vI (i : Int))), (9, .p 0 0), (41, (vS (aS b18 off19) r.length c4)), (42, (vI (r.length : Int))), (43, (vI (i : Int))), (49, (vS (aS b18 off19) r.length c4)), (50, (vI (i : Int))), (51, .tup [(vS Ab t.length cb), (vI 0)])], [.c e20.sv 26, .o (.slice Ab t.length cb) t.length (t.flatMap Nd.cells) 26 7]⟩) (by rw [htq]) ?_
      refine At.freeze (S' := ⟨fr 140 [(3, (vS (aS b18 off19) r.length c4)), (8, (vI (i : Int))), (9, .p 0 0), (41, (vS (aS b18 off19) r.length c4)), (42, (vI (r.length : Int))), (43, (vI (i : Int))), (49, (vS (aS b18 off19) r.length c4)), (50, (vI (i : Int))), (51, .tup [(vS Ab t.length cb), (vI 0)])], [.c e20.sv 26, .dead]⟩) 1 (A := Ab) (n := t.length) (c := cb) (xs := (t.flatMap Nd.cells)) (e := 26) (sz := 7) (by kernel_rfl) (bleT rfl) (by kernel_rfl) ?_
      intro Φ24 hle25 hRt
      have hR := hR.mono hle25
      have hRr := hRr.mono hle25
      obtain ⟨b1, b2, b3, b4, b5, b6, b7, b8⟩ := blaw hok he21 htq
      have htl : t.length ≤ 60 := by omega
      have htw : ∀ n ∈ t, n.wf := by rw [htq]; exact sub_wf hrw
      refine At.runk 5 [48, 49, 50, 51, 52, 53] [] ⟨fr 140 [(3, (vS (aS b18 off19) r.length c4)), (8, (vI (i : Int))), (9, .p 0 0), (10, (vS Ab t.length cb)), (11, (vI 0)), (41, (vS (aS b18 off19) r.length c4)), (42, (vI (r.length : Int))), (43, (vI (i : Int)))], [.c e20.sv 26, .dead]⟩ (by kernel_rfl) ?_
      refine At.nil ?_
      refine At.then_normal ?_
      refine At.seq ?_
      refine At.region ?_
      refine At.runk 1 [] [] ⟨fr 140 [(3, (vS (aS b18 off19) r.length c4)), (8, (vI (i : Int))), (9, .p 0 0), (10, (vS Ab t.length cb)), (11, (vI 0)), (41, (vS (aS b18 off19) r.length c4)), (42, (vI (r.length : Int))), (43, (vI (i : Int))), (55, (vS Ab t.length cb))], [.c e20.sv 26, .dead]⟩ (by kernel_rfl) ?_
      refine At.callV rfl (by kernel_rfl) 22 [] [] (by kernel_rfl) Try.func22 (by kernel_rfl) (by kernel_rfl) [(vS Ab t.length cb)] (by kernel_rfl) (by kernel_rfl) (root_ok Φ24 t Ab cb hRt (by omega) htw b1) ?_
      rintro Φ26 nr hle27 hnr
      have hR := hR.mono hle27
      have hRr := hRr.mono hle27
      have hRt := hRt.mono hle27
      refine ⟨⟨fr 140 [(3, (vS (aS b18 off19) r.length c4)), (8, (vI (i : Int))), (9, .p 0 0), (10, (vS Ab t.length cb)), (11, (vI 0)), (41, (vS (aS b18 off19) r.length c4)), (42, (vI (r.length : Int))), (43, (vI (i : Int))), (55, (vS Ab t.length cb)), (56, .tup [.agg nr.sv, (vI 0)])], [.c e20.sv 26, .dead]⟩, by kernel_rfl, by kernel_rfl, ?_⟩
      obtain rfl : e20 = nr := by rw [b2] at hnr; exact Option.some.inj hnr
      refine At.runk 6 [54, 55, 56, 57, 58] [] ⟨fr 140 [(3, (vS (aS b18 off19) r.length c4)), (8, (vI (i : Int))), (9, .p 0 0), (10, (vS Ab t.length cb)), (11, (vI 0)), (12, .p 2 0), (13, (vI 0)), (41, (vS (aS b18 off19) r.length c4)), (42, (vI (r.length : Int))), (43, (vI (i : Int)))], [.c e20.sv 26, .dead, .c e20.sv 26]⟩ (by kernel_rfl) ?_
      refine At.nil ?_
      refine At.then_normal ?_
      refine At.seq ?_
      refine At.region ?_
      refine At.runk 1 [] [] ⟨fr 140 [(3, (vS (aS b18 off19) r.length c4)), (8, (vI (i : Int))), (9, .p 0 0), (10, (vS Ab t.length cb)), (11, (vI 0)), (12, .p 2 0), (13, (vI 0)), (41, (vS (aS b18 off19) r.length c4)), (42, (vI (r.length : Int))), (43, (vI (i : Int))), (60, (vS Ab t.length cb))], [.c e20.sv 26, .dead, .c e20.sv 26]⟩ (by kernel_rfl) ?_
      refine At.callV rfl (by kernel_rfl) 24 [] [] (by kernel_rfl) Try.func24 (by kernel_rfl) (by kernel_rfl) [(vS Ab t.length cb)] (by kernel_rfl) (by kernel_rfl) (parts_ok Φ26 t Ab cb hRt (by omega) htw hcb b1 b3) ?_
      rintro Φ28 ⟨⟨Ap, cp⟩, pp⟩ hle29 hpp
      have hR := hR.mono hle29
      have hRr := hRr.mono hle29
      have hRt := hRt.mono hle29
      dsimp only at hpp
      refine ⟨⟨fr 140 [(3, (vS (aS b18 off19) r.length c4)), (8, (vI (i : Int))), (9, .p 0 0), (10, (vS Ab t.length cb)), (11, (vI 0)), (12, .p 2 0), (13, (vI 0)), (41, (vS (aS b18 off19) r.length c4)), (42, (vI (r.length : Int))), (43, (vI (i : Int))), (60, (vS Ab t.length cb)), (61, .tup [(vS Ap pp.length cp), (vI 0)])], [.c e20.sv 26, .dead, .c e20.sv 26, .o (.slice Ap pp.length cp) pp.length (pp.flatMap Pt.enc) 30 1]⟩, by kernel_rfl, by kernel_rfl, ?_⟩
      obtain ⟨hG, hpm⟩ := hpp
      refine At.freeze (S' := ⟨fr 140 [(3, (vS (aS b18 off19) r.length c4)), (8, (vI (i : Int))), (9, .p 0 0), (10, (vS Ab t.length cb)), (11, (vI 0)), (12, .p 2 0), (13, (vI 0)), (41, (vS (aS b18 off19) r.length c4)), (42, (vI (r.length : Int))), (43, (vI (i : Int))), (60, (vS Ab t.length cb)), (61, .tup [(vS Ap pp.length cp), (vI 0)])], [.c e20.sv 26, .dead, .c e20.sv 26, .dead]⟩) 3 (A := Ap) (n := pp.length) (c := cp) (xs := (pp.flatMap Pt.enc)) (e := 30) (sz := 1) (by kernel_rfl) (bleT rfl) (by kernel_rfl) ?_
      intro Φ30 hle31 hPp
      have hR := hR.mono hle31
      have hRr := hRr.mono hle31
      have hRt := hRt.mono hle31
      have hG := hG.mono hle31
      rw [← hpm] at b4 b5 b6
      have q1 : ∀ p ∈ pp, chk p.nds 0 0 = none := fun p hp => b4 p.nds (List.mem_map.2 ⟨p, hp, rfl⟩)
      rw [List.length_map] at b5
      rw [← jn_eq] at b6
      have q4 : (jn pp).length + 1 = t.length := by rw [← b6, List.length_append]; rfl
      have q5 : ∀ p ∈ pp, p.nds.length ≤ 60 := fun p hp => by have := jn_mem_le hp; omega
      have hk : ∀ p ∈ pp, p.nds.length ≤ 1000 := fun p hp => by have := q5 p hp; omega
      have q6 := ar_le e20
      have hw : ∀ p ∈ pp, ∀ n ∈ p.nds, n.wf := fun p hp n hn => htw n (by rw [← b6]; exact List.mem_append_left _ (List.mem_flatMap.2 ⟨p, hp, hn⟩))
      refine At.runk 5 [59, 60, 61, 62, 63] [] ⟨fr 140 [(3, (vS (aS b18 off19) r.length c4)), (8, (vI (i : Int))), (9, .p 0 0), (10, (vS Ab t.length cb)), (11, (vI 0)), (12, .p 2 0), (13, (vI 0)), (14, (vS Ap pp.length cp)), (15, (vI 0)), (41, (vS (aS b18 off19) r.length c4)), (42, (vI (r.length : Int))), (43, (vI (i : Int)))], [.c e20.sv 26, .dead, .c e20.sv 26, .dead]⟩ (by kernel_rfl) ?_
      refine At.nil ?_
      refine At.then_normal ?_
      refine At.seq ?_
      refine At.region ?_
      refine At.runk 2 [] [] ⟨fr 140 [(3, (vS (aS b18 off19) r.length c4)), (8, (vI (i : Int))), (9, .p 0 0), (10, (vS Ab t.length cb)), (11, (vI 0)), (12, .p 2 0), (13, (vI 0)), (14, (vS Ap pp.length cp)), (15, (vI 0)), (41, (vS (aS b18 off19) r.length c4)), (42, (vI (r.length : Int))), (43, (vI (i : Int))), (65, .agg e20.sv), (66, (vS Ap pp.length cp))], [.c e20.sv 26, .dead, .c e20.sv 26, .dead]⟩ (by kernel_rfl) ?_
      refine At.callV rfl (by kernel_rfl) 12 [] [] (by kernel_rfl) Try.func12 (by kernel_rfl) (by kernel_rfl) [.agg e20.sv, (vS Ap pp.length cp)] (by kernel_rfl) (by kernel_rfl) (join_ok Φ30 e20 e20w pp Ap cp hPp hG hk hw (by omega) q1 b8 b5.symm) ?_
      rintro Φ32 ⟨Aj, cj⟩ hle33 -
      have hR := hR.mono hle33
      have hRr := hRr.mono hle33
      have hRt := hRt.mono hle33
      have hG := hG.mono hle33
      have hPp := hPp.mono hle33
      refine ⟨⟨fr 140 [(3, (vS (aS b18 off19) r.length c4)), (8, (vI (i : Int))), (9, .p 0 0), (10, (vS Ab t.length cb)), (11, (vI 0)), (12, .p 2 0), (13, (vI 0)), (14, (vS Ap pp.length cp)), (15, (vI 0)), (41, (vS (aS b18 off19) r.length c4)), (42, (vI (r.length : Int))), (43, (vI (i : Int))), (65, .agg e20.sv), (66, (vS Ap pp.length cp)), (67, .tup [(vS Aj ((jn pp ++ [e20]).length) cj), (vI 0)])], [.c e20.sv 26, .dead, .c e20.sv 26, .dead, .o (.slice Aj ((jn pp ++ [e20]).length) cj) ((jn pp ++ [e20]).length) ((jn pp ++ [e20]).flatMap Nd.cells) 26 7]⟩, by kernel_rfl, by kernel_rfl, ?_⟩
      refine At.cast (S' := ⟨fr 140 [(3, (vS (aS b18 off19) r.length c4)), (8, (vI (i : Int))), (9, .p 0 0), (10, (vS Ab t.length cb)), (11, (vI 0)), (12, .p 2 0), (13, (vI 0)), (14, (vS Ap pp.length cp)), (15, (vI 0)), (41, (vS (aS b18 off19) r.length c4)), (42, (vI (r.length : Int))), (43, (vI (i : Int))), (65, .agg e20.sv), (66, (vS Ap pp.length cp)), (67, .tup [(vS Aj t.length cj), (vI 0)])], [.c e20.sv 26, .dead, .c e20.sv 26, .dead, .o (.slice Aj t.length cj) t.length (t.flatMap Nd.cells) 26 7]⟩) (by rw [b6]) ?_
      refine At.freeze (S' := ⟨fr 140 [(3, (vS (aS b18 off19) r.length c4)), (8, (vI (i : Int))), (9, .p 0 0), (10, (vS Ab t.length cb)), (11, (vI 0)), (12, .p 2 0), (13, (vI 0)), (14, (vS Ap pp.length cp)), (15, (vI 0)), (41, (vS (aS b18 off19) r.length c4)), (42, (vI (r.length : Int))), (43, (vI (i : Int))), (65, .agg e20.sv), (66, (vS Ap pp.length cp)), (67, .tup [(vS Aj t.length cj), (vI 0)])], [.c e20.sv 26, .dead, .c e20.sv 26, .dead, .dead]⟩) 4 (A := Aj) (n := t.length) (c := cj) (xs := (t.flatMap Nd.cells)) (e := 26) (sz := 7) (by kernel_rfl) (bleT rfl) (by kernel_rfl) ?_
      intro Φ34 hle35 hRj
      have hR := hR.mono hle35
      have hRr := hRr.mono hle35
      have hRt := hRt.mono hle35
      have hG := hG.mono hle35
      have hPp := hPp.mono hle35
      refine At.runk 5 [64, 65, 66, 67, 68, 69] [] ⟨fr 140 [(3, (vS (aS b18 off19) r.length c4)), (8, (vI (i : Int))), (9, .p 0 0), (10, (vS Ab t.length cb)), (11, (vI 0)), (12, .p 2 0), (13, (vI 0)), (14, (vS Ap pp.length cp)), (15, (vI 0)), (16, (vS Aj t.length cj)), (17, (vI 0)), (41, (vS (aS b18 off19) r.length c4)), (42, (vI (r.length : Int))), (43, (vI (i : Int)))], [.c e20.sv 26, .dead, .c e20.sv 26, .dead, .dead]⟩ (by kernel_rfl) ?_
      refine At.nil ?_
      refine At.then_normal ?_
      refine At.seq ?_
      refine At.seq ?_
      refine At.region ?_
      refine At.runk 17 [9, 11, 12, 13, 15, 17, 70, 71, 72, 73, 74, 75, 76, 77, 78, 79, 80, 81, 82, 83] [0, 2] ⟨fr 140 [(3, (vS (aS b18 off19) r.length c4)), (8, (vI (i : Int))), (10, (vS Ab t.length cb)), (14, (vS Ap pp.length cp)), (16, (vS Aj t.length cj)), (41, (vS (aS b18 off19) r.length c4)), (42, (vI (r.length : Int))), (43, (vI (i : Int))), (84, (vB false)), (85, .agg e20.sv), (86, .agg e20.sv)], [.dead, .dead, .dead, .dead, .dead]⟩ (by kernel_rfl) ?_
      refine At.vals (S' := ⟨fr 140 [(3, (vS (aS b18 off19) r.length c4)), (8, (vI (i : Int))), (10, (vS Ab t.length cb)), (14, (vS Ap pp.length cp)), (16, (vS Aj t.length cj)), (41, (vS (aS b18 off19) r.length c4)), (42, (vI (r.length : Int))), (43, (vI (i : Int))), (84, (vB false)), (85, .agg e20.sv), (86, .agg e20.sv), (87, (vB false))], [.dead, .dead, .dead, .dead, .dead]⟩) (by kernel_rfl) ((vB false)) (by kernel_rfl) (Val.eqv rfl (xs := e20.sv) (ys := e20.sv) (by kernel_rfl) (by kernel_rfl) (b := ((e20.kind == e20.kind) && (((e20.s0 == e20.s0) && ((e20.s1 == e20.s1) && ((e20.s2 == e20.s2) && ((e20.s3 == e20.s3) && true)))) && ((e20.mn == e20.mn) && ((e20.mx == e20.mx) && true))))) (by kernel_rfl) (by kernel_rfl) false (.inr ⟨rfl, (by simp)⟩)) ?_
      refine At.runk 4 [16, 84, 85, 86, 87, 88] [] ⟨fr 140 [(3, (vS (aS b18 off19) r.length c4)), (8, (vI (i : Int))), (10, (vS Ab t.length cb)), (14, (vS Ap pp.length cp)), (41, (vS (aS b18 off19) r.length c4)), (42, (vI (r.length : Int))), (43, (vI (i : Int))), (89, (vB false)), (90, (vS Aj t.length cj)), (91, (vS Ab t.length cb))], [.dead, .dead, .dead, .dead, .dead]⟩ (by kernel_rfl) ?_
      refine At.callV rfl (by kernel_rfl) 20 [] [] (by kernel_rfl) Try.func20 (by kernel_rfl) (by kernel_rfl) [(vS Aj t.length cj), (vS Ab t.length cb)] (by kernel_rfl) (by kernel_rfl) (same_c Φ34 t t Aj Ab cj cb hRj hRt (by omega) (by omega)) ?_
      rintro Φ38 ts36 hle39 hts37
      have hR := hR.mono hle39
      have hRr := hRr.mono hle39
      have hRt := hRt.mono hle39
      have hG := hG.mono hle39
      have hPp := hPp.mono hle39
      have hRj := hRj.mono hle39
      replace hts37 : ts36 = true := by rw [hts37]; exact decide_eq_true rfl
      subst hts37
      refine ⟨⟨fr 140 [(3, (vS (aS b18 off19) r.length c4)), (8, (vI (i : Int))), (10, (vS Ab t.length cb)), (14, (vS Ap pp.length cp)), (41, (vS (aS b18 off19) r.length c4)), (42, (vI (r.length : Int))), (43, (vI (i : Int))), (89, (vB false)), (90, (vS Aj t.length cj)), (91, (vS Ab t.length cb)), (92, (vB true))], [.dead, .dead, .dead, .dead, .dead]⟩, by kernel_rfl, by kernel_rfl, ?_⟩
      refine At.runk 2 [89, 90, 91, 92, 93] [] ⟨fr 140 [(3, (vS (aS b18 off19) r.length c4)), (8, (vI (i : Int))), (10, (vS Ab t.length cb)), (14, (vS Ap pp.length cp)), (41, (vS (aS b18 off19) r.length c4)), (42, (vI (r.length : Int))), (43, (vI (i : Int))), (94, (vB false))], [.dead, .dead, .dead, .dead, .dead]⟩ (by kernel_rfl) ?_
      refine At.nil ?_
      refine At.then_normal ?_
      refine At.cond_f (by kernel_rfl) ?_
      refine At.skip ?_
      refine At.then_normal ?_
      refine At.seq ?_
      refine At.region ?_
      refine At.runk 1 [94] [] ⟨fr 140 [(3, (vS (aS b18 off19) r.length c4)), (8, (vI (i : Int))), (10, (vS Ab t.length cb)), (14, (vS Ap pp.length cp)), (18, (vI 1)), (41, (vS (aS b18 off19) r.length c4)), (42, (vI (r.length : Int))), (43, (vI (i : Int)))], [.dead, .dead, .dead, .dead, .dead]⟩ (by kernel_rfl) ?_
      refine At.nil ?_
      refine At.then_normal ?_
      refine At.seq ?_
      refine At.seq ?_
      refine At.region ?_
      refine At.runk 3 [14] [] ⟨fr 140 [(3, (vS (aS b18 off19) r.length c4)), (8, (vI (i : Int))), (10, (vS Ab t.length cb)), (18, (vI 1)), (41, (vS (aS b18 off19) r.length c4)), (42, (vI (r.length : Int))), (43, (vI (i : Int))), (95, (vS Ap pp.length cp)), (96, (vI (pp.length : Int))), (97, (vI 0))], [.dead, .dead, .dead, .dead, .dead]⟩ (by kernel_rfl) ?_
      refine At.nil ?_
      refine At.then_normal ?_
      refine At.block ?_
      refine At.forget [] 0 [] ⟨fr 140 [(3, (vS (aS b18 off19) r.length c4)), (8, (vI (i : Int))), (10, (vS Ab t.length cb)), (18, (vI 1)), (41, (vS (aS b18 off19) r.length c4)), (42, (vI (r.length : Int))), (43, (vI (i : Int))), (95, (vS Ap pp.length cp)), (96, (vI (pp.length : Int))), (97, (vI 0))], []⟩ (by kernel_rfl) (by kernel_rfl) (bleT rfl) ?_
      refine At.loop (T := Nat) (fun x => ⟨fr 140 [(3, (vS (aS b18 off19) r.length c4)), (8, (vI (i : Int))), (10, (vS Ab t.length cb)), (18, (vI ((1 + (jn (pp.take x)).length : Nat) : Int))), (41, (vS (aS b18 off19) r.length c4)), (42, (vI (r.length : Int))), (43, (vI (i : Int))), (95, (vS Ap pp.length cp)), (96, (vI (pp.length : Int))), (97, (vI (x : Int)))], []⟩) (fun x Φ => x ≤ pp.length) (fun x => pp.length - x) 0 (by kernel_rfl) (Nat.zero_le _) ?_
      rintro j Φ40 hle41 hF2
      have hR := hR.mono hle41
      have hRr := hRr.mono hle41
      have hRt := hRt.mono hle41
      have hG := hG.mono hle41
      have hPp := hPp.mono hle41
      have hRj := hRj.mono hle41
      refine At.cast (S' := ⟨fr 140 [(3, (vS (aS b18 off19) r.length c4)), (8, (vI (i : Int))), (10, (vS Ab t.length cb)), (18, (vI ((1 + (jn (pp.take j)).length : Nat) : Int))), (41, (vS (aS b18 off19) r.length c4)), (42, (vI (r.length : Int))), (43, (vI (i : Int))), (95, (vS Ap pp.length cp)), (96, (vI (pp.length : Int))), (97, (vI (j : Int)))], []⟩) (by kernel_rfl) ?_
      have hjs := jn_split pp j
      refine At.seq ?_
      refine At.region ?_
      refine At.runk 1 [] [] ⟨fr 140 [(3, (vS (aS b18 off19) r.length c4)), (8, (vI (i : Int))), (10, (vS Ab t.length cb)), (18, (vI ((1 + (jn (pp.take j)).length : Nat) : Int))), (41, (vS (aS b18 off19) r.length c4)), (42, (vI (r.length : Int))), (43, (vI (i : Int))), (95, (vS Ap pp.length cp)), (96, (vI (pp.length : Int))), (97, (vI (j : Int))), (98, (vB (decide ((j : Int) < (pp.length : Int)))))], []⟩ (by kernel_rfl) ?_
      refine At.nil ?_
      refine At.then_normal ?_
      refine At.seq ?_
      refine At.bcase (decide ((j : Int) < (pp.length : Int))) (fun hb42 => ?_) (fun hb42 => ?_)
      · have hb42p : ((j : Int) < (pp.length : Int)) := of_decide_eq_true hb42
        refine At.cast (S' := ⟨fr 140 [(3, (vS (aS b18 off19) r.length c4)), (8, (vI (i : Int))), (10, (vS Ab t.length cb)), (18, (vI ((1 + (jn (pp.take j)).length : Nat) : Int))), (41, (vS (aS b18 off19) r.length c4)), (42, (vI (r.length : Int))), (43, (vI (i : Int))), (95, (vS Ap pp.length cp)), (96, (vI (pp.length : Int))), (97, (vI (j : Int))), (98, (vB true))], []⟩) (by rw [hb42] <;> rfl) ?_
        refine At.cond_t (by kernel_rfl) ?_
        refine At.skip ?_
        refine At.then_normal ?_
        refine At.seq ?_
        refine At.block ?_
        refine At.seq ?_
        refine At.region ?_
        obtain ⟨b43, off44, hApeq⟩ : ∃ b off, Ap = some ⟨b, off, none⟩ := hPp.addr (by rw [flat_len (sz := 1) (fun _ => rfl)]; omega)
        subst hApeq
        refine At.idx (S' := ⟨fr 140 [(3, (vS (aS b18 off19) r.length c4)), (8, (vI (i : Int))), (10, (vS Ab t.length cb)), (18, (vI ((1 + (jn (pp.take j)).length : Nat) : Int))), (41, (vS (aS b18 off19) r.length c4)), (42, (vI (r.length : Int))), (43, (vI (i : Int))), (95, (vS (aS b43 off44) pp.length cp)), (96, (vI (pp.length : Int))), (97, (vI (j : Int))), (98, (vB true)), (99, .v (.pointer (some ⟨b43, off44 + j * 1, none⟩)))], []⟩) rfl (by kernel_rfl) (sz := 1) (e := 30) (by kernel_rfl) (by kernel_rfl) (by kernel_rfl) (b := b43) (off := off44) (n := pp.length) (cap := cp) (kd := .i64) (i := (j : Int)) (by kernel_rfl) (by omega) (by omega) (by kernel_rfl) ?_
        obtain ⟨e45, he46⟩ := get_some (l := pp) (i := j) (by omega)
        have e45R := hG e45 (List.mem_of_getElem? he46)
        have e45k := hk e45 (List.mem_of_getElem? he46)
        have e45l : e45.nds.length ≤ 1000000 := by omega
        have e45w := hw e45 (List.mem_of_getElem? he46)
        refine At.vals (S' := ⟨fr 140 [(3, (vS (aS b18 off19) r.length c4)), (8, (vI (i : Int))), (10, (vS Ab t.length cb)), (18, (vI ((1 + (jn (pp.take j)).length : Nat) : Int))), (41, (vS (aS b18 off19) r.length c4)), (42, (vI (r.length : Int))), (43, (vI (i : Int))), (95, (vS (aS b43 off44) pp.length cp)), (96, (vI (pp.length : Int))), (97, (vI (j : Int))), (98, (vB true)), (99, .v (.pointer (some ⟨b43, off44 + j * 1, none⟩))), (100, (vS e45.A e45.nds.length e45.c))], []⟩) (by kernel_rfl) ((vS e45.A e45.nds.length e45.c)) (by kernel_rfl) (Val.ldE rfl (enc := Pt.enc) (xs := pp) (b := b43) (off := off44) hPp (sz := 1) (fun _ => rfl) (Nat.zero_lt_succ _) j e45 he46 0 (off44 + j * 1) (by omega) (by kernel_rfl) ((vS e45.A e45.nds.length e45.c)) (by kernel_rfl)) ?_
        refine At.runk 1 [98, 99, 100] [] ⟨fr 140 [(3, (vS (aS b18 off19) r.length c4)), (8, (vI (i : Int))), (10, (vS Ab t.length cb)), (18, (vI ((1 + (jn (pp.take j)).length : Nat) : Int))), (20, (vS e45.A e45.nds.length e45.c)), (41, (vS (aS b18 off19) r.length c4)), (42, (vI (r.length : Int))), (43, (vI (i : Int))), (95, (vS (aS b43 off44) pp.length cp)), (96, (vI (pp.length : Int))), (97, (vI (j : Int)))], []⟩ (by kernel_rfl) ?_
        refine At.nil ?_
        refine At.then_normal ?_
        refine At.region ?_
        refine At.runk 4 [18, 20, 101, 102, 103] [] ⟨fr 140 [(3, (vS (aS b18 off19) r.length c4)), (8, (vI (i : Int))), (10, (vS Ab t.length cb)), (41, (vS (aS b18 off19) r.length c4)), (42, (vI (r.length : Int))), (43, (vI (i : Int))), (95, (vS (aS b43 off44) pp.length cp)), (96, (vI (pp.length : Int))), (97, (vI (j : Int))), (104, (vI (IntKind.i64.wrap (((1 + (jn (pp.take j)).length : Nat) : Int) + (e45.nds.length : Int)))))], []⟩ (by kernel_rfl) ?_
        refine At.cast (S' := ⟨fr 140 [(3, (vS (aS b18 off19) r.length c4)), (8, (vI (i : Int))), (10, (vS Ab t.length cb)), (41, (vS (aS b18 off19) r.length c4)), (42, (vI (r.length : Int))), (43, (vI (i : Int))), (95, (vS (aS b43 off44) pp.length cp)), (96, (vI (pp.length : Int))), (97, (vI (j : Int))), (104, (vI (((1 + (jn (pp.take j)).length : Nat) : Int) + (e45.nds.length : Int))))], []⟩) (by rw [wrapI (z := ((1 + (jn (pp.take j)).length : Nat) : Int) + (e45.nds.length : Int)) (by omega) (by omega)]) ?_
        refine At.runk 1 [104] [] ⟨fr 140 [(3, (vS (aS b18 off19) r.length c4)), (8, (vI (i : Int))), (10, (vS Ab t.length cb)), (18, (vI (((1 + (jn (pp.take j)).length : Nat) : Int) + (e45.nds.length : Int)))), (41, (vS (aS b18 off19) r.length c4)), (42, (vI (r.length : Int))), (43, (vI (i : Int))), (95, (vS (aS b43 off44) pp.length cp)), (96, (vI (pp.length : Int))), (97, (vI (j : Int)))], []⟩ (by kernel_rfl) ?_
        refine At.nil ?_
        refine At.in_normal ?_
        refine At.then_normal ?_
        refine At.region ?_
        refine At.runk 1 [97] [] ⟨fr 140 [(3, (vS (aS b18 off19) r.length c4)), (8, (vI (i : Int))), (10, (vS Ab t.length cb)), (18, (vI (((1 + (jn (pp.take j)).length : Nat) : Int) + (e45.nds.length : Int)))), (41, (vS (aS b18 off19) r.length c4)), (42, (vI (r.length : Int))), (43, (vI (i : Int))), (95, (vS (aS b43 off44) pp.length cp)), (96, (vI (pp.length : Int))), (105, (vI (IntKind.i64.wrap ((j : Int) + 1))))], []⟩ (by kernel_rfl) ?_
        refine At.cast (S' := ⟨fr 140 [(3, (vS (aS b18 off19) r.length c4)), (8, (vI (i : Int))), (10, (vS Ab t.length cb)), (18, (vI (((1 + (jn (pp.take j)).length : Nat) : Int) + (e45.nds.length : Int)))), (41, (vS (aS b18 off19) r.length c4)), (42, (vI (r.length : Int))), (43, (vI (i : Int))), (95, (vS (aS b43 off44) pp.length cp)), (96, (vI (pp.length : Int))), (105, (vI ((j : Int) + 1)))], []⟩) (by rw [wrapI (z := (j : Int) + 1) (by omega) (by omega)]) ?_
        refine At.runk 1 [105] [] ⟨fr 140 [(3, (vS (aS b18 off19) r.length c4)), (8, (vI (i : Int))), (10, (vS Ab t.length cb)), (18, (vI (((1 + (jn (pp.take j)).length : Nat) : Int) + (e45.nds.length : Int)))), (41, (vS (aS b18 off19) r.length c4)), (42, (vI (r.length : Int))), (43, (vI (i : Int))), (95, (vS (aS b43 off44) pp.length cp)), (96, (vI (pp.length : Int))), (97, (vI ((j : Int) + 1)))], []⟩ (by kernel_rfl) ?_
        refine At.nil ?_
        refine At.cast (S' := ⟨fr 140 [(3, (vS (aS b18 off19) r.length c4)), (8, (vI (i : Int))), (10, (vS Ab t.length cb)), (18, (vI ((1 + (jn (pp.take (j + 1))).length : Nat) : Int))), (41, (vS (aS b18 off19) r.length c4)), (42, (vI (r.length : Int))), (43, (vI (i : Int))), (95, (vS (aS b43 off44) pp.length cp)), (96, (vI (pp.length : Int))), (97, (vI ((j : Int) + 1)))], []⟩) (by rw [show ((1 + (jn (pp.take (j + 1))).length : Nat) : Int) = ((1 + (jn (pp.take j)).length : Nat) : Int) + (e45.nds.length : Int) from by rw [jn_take he46, List.length_append]; omega]) ?_
        refine At.round (j + 1) (by kernel_rfl) (PhiLe.refl 0 _) (by omega) (by omega)
      have hb42p : ¬ ((j : Int) < (pp.length : Int)) := of_decide_eq_false hb42
      refine At.cast (S' := ⟨fr 140 [(3, (vS (aS b18 off19) r.length c4)), (8, (vI (i : Int))), (10, (vS Ab t.length cb)), (18, (vI ((1 + (jn (pp.take j)).length : Nat) : Int))), (41, (vS (aS b18 off19) r.length c4)), (42, (vI (r.length : Int))), (43, (vI (i : Int))), (95, (vS Ap pp.length cp)), (96, (vI (pp.length : Int))), (97, (vI (j : Int))), (98, (vB false))], []⟩) (by rw [hb42] <;> rfl) ?_
      refine At.cond_f (by kernel_rfl) ?_
      refine At.exit_ ?_
      refine At.then_exit ?_
      refine At.then_exit ?_
      refine At.in_here ?_
      refine At.then_normal ?_
      refine At.seq ?_
      have hje : jn (pp.take j) = jn pp := jn_end (by omega)
      refine At.cast (S' := ⟨fr 140 [(3, (vS (aS b18 off19) r.length c4)), (8, (vI (i : Int))), (10, (vS Ab t.length cb)), (18, (vI ((1 + (jn pp).length : Nat) : Int))), (41, (vS (aS b18 off19) r.length c4)), (42, (vI (r.length : Int))), (43, (vI (i : Int))), (95, (vS Ap pp.length cp)), (96, (vI (pp.length : Int))), (97, (vI (j : Int))), (98, (vB false))], []⟩) (by rw [hje]) ?_
      refine At.region ?_
      refine At.runk 5 [18, 95, 96, 97, 98, 106, 107, 108, 109] [] ⟨fr 140 [(3, (vS (aS b18 off19) r.length c4)), (8, (vI (i : Int))), (10, (vS Ab t.length cb)), (41, (vS (aS b18 off19) r.length c4)), (42, (vI (r.length : Int))), (43, (vI (i : Int))), (110, (vB (((1 + (jn pp).length : Nat) : Int) != (t.length : Int))))], []⟩ (by kernel_rfl) ?_
      refine At.bcase (((1 + (jn pp).length : Nat) : Int) != (t.length : Int)) (fun hb47 => ?_) (fun hb47 => ?_)
      · have hb47p : ¬ (((1 + (jn pp).length : Nat) : Int) = (t.length : Int)) := by simpa using hb47
        exfalso; omega
      have hb47p : (((1 + (jn pp).length : Nat) : Int) = (t.length : Int)) := by simpa using hb47
      refine At.cast (S' := ⟨fr 140 [(3, (vS (aS b18 off19) r.length c4)), (8, (vI (i : Int))), (10, (vS Ab t.length cb)), (41, (vS (aS b18 off19) r.length c4)), (42, (vI (r.length : Int))), (43, (vI (i : Int))), (110, (vB false))], []⟩) (by rw [hb47] <;> rfl) ?_
      refine At.runk 4 [113] [] ⟨fr 140 [(3, (vS (aS b18 off19) r.length c4)), (8, (vI (i : Int))), (10, (vS Ab t.length cb)), (41, (vS (aS b18 off19) r.length c4)), (42, (vI (r.length : Int))), (43, (vI (i : Int))), (110, (vB false)), (111, (vS Ab t.length cb)), (112, (vS (aS b18 off19) r.length c4)), (114, (vI (IntKind.i64.wrap ((i : Int) + 1))))], []⟩ (by kernel_rfl) ?_
      refine At.cast (S' := ⟨fr 140 [(3, (vS (aS b18 off19) r.length c4)), (8, (vI (i : Int))), (10, (vS Ab t.length cb)), (41, (vS (aS b18 off19) r.length c4)), (42, (vI (r.length : Int))), (43, (vI (i : Int))), (110, (vB false)), (111, (vS Ab t.length cb)), (112, (vS (aS b18 off19) r.length c4)), (114, (vI ((i : Int) + 1)))], []⟩) (by rw [wrapI (z := (i : Int) + 1) (by omega) (by omega)]) ?_
      refine At.cast (S' := ⟨fr 140 [(3, (vS (aS b18 off19) r.length c4)), (8, (vI (i : Int))), (10, (vS Ab t.length cb)), (41, (vS (aS b18 off19) r.length c4)), (42, (vI (r.length : Int))), (43, (vI (i : Int))), (110, (vB false)), (111, (vS Ab t.length cb)), (112, (vS (aS b18 off19) r.length c4)), (114, (vI ((i + 1 : Nat) : Int)))], []⟩) (by rw [show ((i : Int) + 1) = ((i + 1 : Nat) : Int) from by omega]) ?_
      refine At.runk 3 [10, 114, 115, 116] [] ⟨fr 140 [(3, (vS (aS b18 off19) r.length c4)), (8, (vI (i : Int))), (41, (vS (aS b18 off19) r.length c4)), (42, (vI (r.length : Int))), (43, (vI (i : Int))), (110, (vB false)), (111, (vS Ab t.length cb)), (112, (vS (aS b18 off19) r.length c4)), (117, (vI (IntKind.i64.wrap (((i + 1 : Nat) : Int) - (t.length : Int)))))], []⟩ (by kernel_rfl) ?_
      refine At.cast (S' := ⟨fr 140 [(3, (vS (aS b18 off19) r.length c4)), (8, (vI (i : Int))), (41, (vS (aS b18 off19) r.length c4)), (42, (vI (r.length : Int))), (43, (vI (i : Int))), (110, (vB false)), (111, (vS Ab t.length cb)), (112, (vS (aS b18 off19) r.length c4)), (117, (vI (((i + 1 : Nat) : Int) - (t.length : Int))))], []⟩) (by rw [wrapI (z := ((i + 1 : Nat) : Int) - (t.length : Int)) (by omega) (by omega)]) ?_
      refine At.cast (S' := ⟨fr 140 [(3, (vS (aS b18 off19) r.length c4)), (8, (vI (i : Int))), (41, (vS (aS b18 off19) r.length c4)), (42, (vI (r.length : Int))), (43, (vI (i : Int))), (110, (vB false)), (111, (vS Ab t.length cb)), (112, (vS (aS b18 off19) r.length c4)), (117, (vI (bgN r i : Int)))], []⟩) (by rw [show (((i + 1 : Nat) : Int) - (t.length : Int)) = (bgN r i : Int) from by omega]) ?_
      refine At.runk 2 [8, 118] [] ⟨fr 140 [(3, (vS (aS b18 off19) r.length c4)), (41, (vS (aS b18 off19) r.length c4)), (42, (vI (r.length : Int))), (43, (vI (i : Int))), (110, (vB false)), (111, (vS Ab t.length cb)), (112, (vS (aS b18 off19) r.length c4)), (117, (vI (bgN r i : Int))), (119, (vI (IntKind.i64.wrap ((i : Int) + 1))))], []⟩ (by kernel_rfl) ?_
      refine At.cast (S' := ⟨fr 140 [(3, (vS (aS b18 off19) r.length c4)), (41, (vS (aS b18 off19) r.length c4)), (42, (vI (r.length : Int))), (43, (vI (i : Int))), (110, (vB false)), (111, (vS Ab t.length cb)), (112, (vS (aS b18 off19) r.length c4)), (117, (vI (bgN r i : Int))), (119, (vI ((i : Int) + 1)))], []⟩) (by rw [wrapI (z := (i : Int) + 1) (by omega) (by omega)]) ?_
      refine At.cast (S' := ⟨fr 140 [(3, (vS (aS b18 off19) r.length c4)), (41, (vS (aS b18 off19) r.length c4)), (42, (vI (r.length : Int))), (43, (vI (i : Int))), (110, (vB false)), (111, (vS Ab t.length cb)), (112, (vS (aS b18 off19) r.length c4)), (117, (vI (bgN r i : Int))), (119, (vI ((i + 1 : Nat) : Int)))], []⟩) (by rw [show ((i : Int) + 1) = ((i + 1 : Nat) : Int) from by omega]) ?_
      refine At.slice rfl (by kernel_rfl) (e := 26) (by kernel_rfl) (sz := 7) (by kernel_rfl) (A := (aS b18 off19)) (n := r.length) (c := c4) (by kernel_rfl) (bgN r i) (i + 1 : Nat) c4 ⟨.i64, by kernel_rfl⟩ ⟨.i64, by kernel_rfl⟩ rfl (by omega) (by omega) (by omega) ?_
      intro A48 hA49 hA50
      refine ⟨⟨fr 140 [(3, (vS (aS b18 off19) r.length c4)), (41, (vS (aS b18 off19) r.length c4)), (42, (vI (r.length : Int))), (43, (vI (i : Int))), (110, (vB false)), (111, (vS Ab t.length cb)), (112, (vS (aS b18 off19) r.length c4)), (117, (vI (bgN r i : Int))), (119, (vI ((i + 1 : Nat) : Int))), (120, (vS A48 ((i + 1 : Nat) - bgN r i) (c4 - bgN r i)))], []⟩, by kernel_rfl, ?_⟩
      have hsub : NdsAt Φ40 A48 t := by rw [htq]; exact sub_row h5 hA50 hRr
      refine At.cast (S' := ⟨fr 140 [(3, (vS (aS b18 off19) r.length c4)), (41, (vS (aS b18 off19) r.length c4)), (42, (vI (r.length : Int))), (43, (vI (i : Int))), (110, (vB false)), (111, (vS Ab t.length cb)), (112, (vS (aS b18 off19) r.length c4)), (117, (vI (bgN r i : Int))), (119, (vI ((i + 1 : Nat) : Int))), (120, (vS A48 t.length (c4 - bgN r i)))], []⟩) (by rw [show ((i + 1 : Nat) - bgN r i) = t.length from by omega]) ?_
      refine At.callV rfl (by kernel_rfl) 20 [] [] (by kernel_rfl) Try.func20 (by kernel_rfl) (by kernel_rfl) [(vS Ab t.length cb), (vS A48 t.length (c4 - bgN r i))] (by kernel_rfl) (by kernel_rfl) (same_c Φ40 t t Ab A48 cb (c4 - bgN r i) hRt hsub (by omega) (by omega)) ?_
      rintro Φ53 ts51 hle54 hts52
      have hR := hR.mono hle54
      have hRr := hRr.mono hle54
      have hRt := hRt.mono hle54
      have hG := hG.mono hle54
      have hPp := hPp.mono hle54
      have hRj := hRj.mono hle54
      have hsub := hsub.mono hle54
      replace hts52 : ts51 = true := by rw [hts52]; exact decide_eq_true rfl
      subst hts52
      refine ⟨⟨fr 140 [(3, (vS (aS b18 off19) r.length c4)), (41, (vS (aS b18 off19) r.length c4)), (42, (vI (r.length : Int))), (43, (vI (i : Int))), (110, (vB false)), (111, (vS Ab t.length cb)), (112, (vS (aS b18 off19) r.length c4)), (117, (vI (bgN r i : Int))), (119, (vI ((i + 1 : Nat) : Int))), (120, (vS A48 t.length (c4 - bgN r i))), (121, (vB true))], []⟩, by kernel_rfl, by kernel_rfl, ?_⟩
      refine At.runk 2 [110, 111, 112, 117, 119, 120, 121, 122] [] ⟨fr 140 [(3, (vS (aS b18 off19) r.length c4)), (41, (vS (aS b18 off19) r.length c4)), (42, (vI (r.length : Int))), (43, (vI (i : Int))), (123, (vB false))], []⟩ (by kernel_rfl) ?_
      refine At.nil ?_
      refine At.then_normal ?_
      refine At.cond_f (by kernel_rfl) ?_
      refine At.skip ?_
      refine At.in_normal ?_
      refine At.then_normal ?_
      refine At.region ?_
      refine At.runk 1 [43, 123] [] ⟨fr 140 [(3, (vS (aS b18 off19) r.length c4)), (41, (vS (aS b18 off19) r.length c4)), (42, (vI (r.length : Int))), (124, (vI (IntKind.i64.wrap ((i : Int) + 1))))], []⟩ (by kernel_rfl) ?_
      refine At.cast (S' := ⟨fr 140 [(3, (vS (aS b18 off19) r.length c4)), (41, (vS (aS b18 off19) r.length c4)), (42, (vI (r.length : Int))), (124, (vI ((i : Int) + 1)))], []⟩) (by rw [wrapI (z := (i : Int) + 1) (by omega) (by omega)]) ?_
      refine At.runk 1 [124] [] ⟨fr 140 [(3, (vS (aS b18 off19) r.length c4)), (41, (vS (aS b18 off19) r.length c4)), (42, (vI (r.length : Int))), (43, (vI ((i : Int) + 1)))], []⟩ (by kernel_rfl) ?_
      refine At.nil ?_
      refine At.round (i + 1) (by kernel_rfl) (((((((((hle23.trans hle25).trans hle27).trans hle29).trans hle31).trans hle33).trans hle35).trans hle39).trans hle41).trans hle54) (by omega) (by omega)
    have hb17p : ¬ ((i : Int) < (r.length : Int)) := of_decide_eq_false hb17
    refine At.cast (S' := ⟨fr 140 [(3, (vS A3 r.length c4)), (41, (vS A3 r.length c4)), (42, (vI (r.length : Int))), (43, (vI (i : Int))), (44, (vB false))], []⟩) (by rw [hb17] <;> rfl) ?_
    refine At.cond_f (by kernel_rfl) ?_
    refine At.exit_ ?_
    refine At.then_exit ?_
    refine At.then_exit ?_
    refine At.in_here ?_
    refine At.then_normal ?_
    refine At.seq ?_
    refine At.region ?_
    refine At.runk 4 [41, 42, 43, 44, 127, 128] [] ⟨fr 140 [(3, (vS A3 r.length c4)), (126, (vS A3 r.length c4)), (129, (vI (IntKind.i64.wrap ((r.length : Int) - 1))))], []⟩ (by kernel_rfl) ?_
    refine At.cast (S' := ⟨fr 140 [(3, (vS A3 r.length c4)), (126, (vS A3 r.length c4)), (129, (vI ((r.length : Int) - 1)))], []⟩) (by rw [wrapI (z := (r.length : Int) - 1) (by omega) (by omega)]) ?_
    refine At.cast (S' := ⟨fr 140 [(3, (vS A3 r.length c4)), (126, (vS A3 r.length c4)), (129, (vI ((r.length - 1 : Nat) : Int)))], []⟩) (by rw [show ((r.length : Int) - 1) = ((r.length - 1 : Nat) : Int) from by have := chk_pos hok; omega]) ?_
    refine At.callV rfl (by kernel_rfl) 23 [] [] (by kernel_rfl) Try.func23 (by kernel_rfl) (by kernel_rfl) [(vS A3 r.length c4), (vI ((r.length - 1 : Nat) : Int))] (by kernel_rfl) (by kernel_rfl) (below_ok Φ15 r A3 c4 hRr (by omega) hrw h5 (r.length - 1) (by have := chk_pos hok; omega) hok) ?_
    rintro Φ55 ⟨Aw, cw⟩ hle56 -
    have hR := hR.mono hle56
    have hRr := hRr.mono hle56
    refine ⟨⟨fr 140 [(3, (vS A3 r.length c4)), (126, (vS A3 r.length c4)), (129, (vI ((r.length - 1 : Nat) : Int))), (130, .tup [(vS Aw ((sub r (bgN r (r.length - 1)) (r.length - 1 + 1)).length) cw), (vI 0)])], [.o (.slice Aw ((sub r (bgN r (r.length - 1)) (r.length - 1 + 1)).length) cw) ((sub r (bgN r (r.length - 1)) (r.length - 1 + 1)).length) ((sub r (bgN r (r.length - 1)) (r.length - 1 + 1)).flatMap Nd.cells) 26 7]⟩, by kernel_rfl, by kernel_rfl, ?_⟩
    have hwh : (sub r (bgN r (r.length - 1)) (r.length - 1 + 1)) = r := by have := chk_pos hok; rw [wlaw hok]; unfold sub; rw [List.drop_zero]; exact List.take_of_length_le (by omega)
    refine At.cast (S' := ⟨fr 140 [(3, (vS A3 r.length c4)), (126, (vS A3 r.length c4)), (129, (vI ((r.length - 1 : Nat) : Int))), (130, .tup [(vS Aw r.length cw), (vI 0)])], [.o (.slice Aw r.length cw) r.length (r.flatMap Nd.cells) 26 7]⟩) (by rw [hwh]) ?_
    refine At.freeze (S' := ⟨fr 140 [(3, (vS A3 r.length c4)), (126, (vS A3 r.length c4)), (129, (vI ((r.length - 1 : Nat) : Int))), (130, .tup [(vS Aw r.length cw), (vI 0)])], [.dead]⟩) 0 (A := Aw) (n := r.length) (c := cw) (xs := (r.flatMap Nd.cells)) (e := 26) (sz := 7) (by kernel_rfl) (bleT rfl) (by kernel_rfl) ?_
    intro Φ57 hle58 hRw
    have hR := hR.mono hle58
    have hRr := hRr.mono hle58
    refine At.runk 5 [125, 126, 129, 130, 131, 132] [] ⟨fr 140 [(3, (vS A3 r.length c4)), (21, (vS Aw r.length cw)), (22, (vI 0))], [.dead]⟩ (by kernel_rfl) ?_
    refine At.nil ?_
    refine At.then_normal ?_
    refine At.seq ?_
    refine At.region ?_
    refine At.runk 5 [3, 21, 22, 133, 134] [] ⟨fr 140 [(135, (vB true)), (136, (vS Aw r.length cw)), (137, (vS A3 r.length c4))], [.dead]⟩ (by kernel_rfl) ?_
    refine At.callV rfl (by kernel_rfl) 20 [] [] (by kernel_rfl) Try.func20 (by kernel_rfl) (by kernel_rfl) [(vS Aw r.length cw), (vS A3 r.length c4)] (by kernel_rfl) (by kernel_rfl) (same_c Φ57 r r Aw A3 cw c4 hRw hRr (by omega) (by omega)) ?_
    rintro Φ61 ts59 hle62 hts60
    have hR := hR.mono hle62
    have hRr := hRr.mono hle62
    have hRw := hRw.mono hle62
    replace hts60 : ts59 = true := by rw [hts60]; exact decide_eq_true rfl
    subst hts60
    refine ⟨⟨fr 140 [(135, (vB true)), (136, (vS Aw r.length cw)), (137, (vS A3 r.length c4)), (138, (vB true))], [.dead]⟩, by kernel_rfl, by kernel_rfl, ?_⟩
    refine At.runk 2 [135, 136, 137, 138, 139] [] ⟨fr 140 [(2, (vB true))], [.dead]⟩ (by kernel_rfl) ?_
    refine At.nil ?_
    refine At.then_normal ?_
    refine At.ret_ ?_
    refine At.forget [] 0 [] ⟨fr 140 [(2, (vB true))], []⟩ (by kernel_rfl) (by kernel_rfl) (bleT rfl) ?_
    refine At.leaveR rfl () (by kernel_rfl) (by kernel_rfl) (by kernel_rfl) ?_
    trivial
  obtain ⟨ino, hnos⟩ := Option.ne_none_iff_exists.1 hc12
  have hno := hnos.symm
  refine At.callV rfl (by kernel_rfl) 21 [] [] (by kernel_rfl) Try.func21 (by kernel_rfl) (by kernel_rfl) [(vS A3 r.length c4)] (by kernel_rfl) (by kernel_rfl) (check_c Φ8 r A3 c4 hRr (by omega) hrw) ?_
  rintro Φ63 t10 hle64 ht11
  have hR := hR.mono hle64
  have hRr := hRr.mono hle64
  rw [chkR_no hno] at ht11
  subst ht11
  refine ⟨⟨fr 140 [(3, (vS A3 r.length c4)), (28, (vS A3 r.length c4)), (29, .tup [(vI (ino : Int)), (vI 140)])], [.dead]⟩, by kernel_rfl, by kernel_rfl, ?_⟩
  refine At.runk 5 [4, 27, 28, 29, 30, 31] [] ⟨fr 140 [(3, (vS A3 r.length c4)), (5, (vI 140))], [.dead]⟩ (by kernel_rfl) ?_
  refine At.nil ?_
  refine At.then_normal ?_
  refine At.seq ?_
  refine At.region ?_
  refine At.runk 2 [5, 32] [] ⟨fr 140 [(3, (vS A3 r.length c4)), (33, (vB true))], [.dead]⟩ (by kernel_rfl) ?_
  refine At.nil ?_
  refine At.then_normal ?_
  refine At.cond_t (by kernel_rfl) ?_
  refine At.seq ?_
  refine At.region ?_
  refine At.runk 1 [3, 33] [] ⟨fr 140 [(35, (vS A3 r.length c4))], [.dead]⟩ (by kernel_rfl) ?_
  refine At.callV rfl (by kernel_rfl) 22 [] [] (by kernel_rfl) Try.func22 (by kernel_rfl) (by kernel_rfl) [(vS A3 r.length c4)] (by kernel_rfl) (by kernel_rfl) (root_no Φ63 r A3 c4 hRr (by omega) hrw ino hno) ?_
  rintro Φ65 ⟨⟩ hle66 -
  have hR := hR.mono hle66
  have hRr := hRr.mono hle66
  refine ⟨⟨fr 140 [(35, (vS A3 r.length c4)), (36, .tup [.agg (nV 0 0 0 0 0 0 0), (vI 140)])], [.dead]⟩, by kernel_rfl, by kernel_rfl, ?_⟩
  refine At.runk 6 [6, 34, 35, 36, 37, 38] [1] ⟨fr 140 [(7, (vI 140))], [.dead, .dead]⟩ (by kernel_rfl) ?_
  refine At.nil ?_
  refine At.then_normal ?_
  refine At.seq ?_
  refine At.region ?_
  refine At.runk 3 [7, 39, 40] [] ⟨fr 140 [(2, (vB true))], [.dead, .dead]⟩ (by kernel_rfl) ?_
  refine At.nil ?_
  refine At.then_normal ?_
  refine At.ret_ ?_
  refine At.then_ret ?_
  refine At.forget [] 0 [] ⟨fr 140 [(2, (vB true))], []⟩ (by kernel_rfl) (by kernel_rfl) (bleT rfl) ?_
  refine At.leaveR rfl () (by kernel_rfl) (by kernel_rfl) (by kernel_rfl) ?_
  trivial

end Go.Sx
