/- SxI: yield, and the statement that ranges. General: no program. -/
import Derived.Test.YtgkjblbmiooedaaSxH
namespace Go.Sx
open Go.RowKit

section
variable {Φ Φ0 : Phi} {S S' : SS} {n : Nat} {Q : Exit → Act → World → Prop} {ops : Array Oper} {rest : List Oper} {o : Oper}

theorem sto_ne {Φ : Phi} {w : World} {l : Nat} {r : Loop} (hs : Sto Φ w) (hl : w.heap[l]? = some (.loop r)) {b : Nat} {cs : Array Value} (hb : Φ b = some cs) : b ≠ l := by
  rintro rfl
  obtain ⟨t, z, hz⟩ := hs b cs hb
  rw [hl] at hz
  cases hz
theorem box_ne {g T : Nat} {x : Value} {w : World} {l : Nat} {r : Loop} (hb : ownBox g T x w) (hl : w.heap[l]? = some (.loop r)) : l ≠ g := by
  rintro rfl
  rcases hb.2 with ⟨h, _⟩ | ⟨g', cap, cur, hv, _, hg, _⟩
  · cases h
  · injection hv with hv1
    injection hv1 with hv1
    injection hv1 with hv1
    subst hv1
    rw [hl] at hg
    cases hg

theorem St.round {P : Program} {W W1 : World} {β0 β : Nat → Nat} {g l T : Nat} {x x' : Value} {r : Loop} {a a' : Act} {w w' : World} {fr' : List SV} (h : St (boxΓ P W Φ0 β0 g) Φ β S a w) (hp0 : S.hp[0]? = some (boxO g T x)) (hl : w.heap[l]? = some (.loop r))
    (hsame : ∀ k, k < w.heap.size → k ≠ l → k ≠ g → w'.heap[k]? = w.heap[k]?) (hsz : w.heap.size ≤ w'.heap.size) (hbox : ownBox g T x' w') (hsto : Sto Φ w') (hW1 : W1.heap.size = W.heap.size) (hkeep : Keep (fun _ k => k = g) W1 w')
    (hm : Mat β fr' a'.tmps.toList) (hd : a'.defers = []) (hbd : ({ fr := fr', hp := S.hp.set 0 (boxO g T x') } : SS).bd = true) : St (boxΓ P W1 Φ0 β0 g) Φ β { fr := fr', hp := S.hp.set 0 (boxO g T x') } a' w' := by
  have hlt0 := lt_get hp0
  have hsplit : ∀ {j : Nat} {y : Blk}, (S.hp.set 0 (boxO g T x'))[j]? = some y → (j ≠ 0 ∧ S.hp[j]? = some y) ∨ (j = 0 ∧ y = boxO g T x') := by
    intro j y hj
    rw [List.getElem?_set] at hj
    by_cases e : 0 = j
    · subst e; simp [hlt0] at hj; exact .inr ⟨rfl, hj.symm⟩
    · rw [if_neg e] at hj; exact .inl ⟨fun e' => e e'.symm, hj⟩
  have hgo : (boxO g T x).bid β 0 = some g := rfl
  -- an old block of its own is neither the record nor the box
  have hok : ∀ {j : Nat} {b : Blk} {q : Nat}, j ≠ 0 → S.hp[j]? = some b → b.bid β j = some q → w'.heap[q]? = w.heap[q]? := by
    intro j b q hj0 hj hq
    refine hsame q (h.own.lt hj hq) ?_ ?_
    · rintro rfl
      cases b with
      | dead => cases hq
      | c cs t =>
        cases hq
        obtain ⟨vs, hv, _⟩ := h.own.c j cs t hj
        rw [hl] at hv; cases hv
      | o v n xs t sz =>
        obtain ⟨_, h2⟩ := h.own.o j v n xs t sz hj
        rcases h2 with ⟨rfl, _⟩ | ⟨g', cap, cur, rfl, _, hg, _⟩
        · cases hq
        · simp only [Blk.bid, Value.ownBlock, Option.some.injEq] at hq
          subst hq
          rw [hl] at hg; cases hg
    · rintro rfl
      exact hj0 (h.own.inj _ _ _ _ _ hj hp0 hq hgo)
  refine ⟨hm, hd, ⟨?_, ?_, ?_, ?_⟩, hsto, ?_, hkeep, ?_, hbd, h.pin, by simp only [List.length_set]; exact h.len⟩
  · intro i cs t hi
    rcases hsplit hi with ⟨h0, hi⟩ | ⟨_, he⟩
    · obtain ⟨vs, hv, hmm⟩ := h.own.c i cs t hi
      exact ⟨vs, (hok h0 hi rfl).trans hv, hmm⟩
    · cases he
  · intro i v m xs t sz hi
    rcases hsplit hi with ⟨h0, hi⟩ | ⟨_, he⟩
    · exact ownsRow_keep (h.own.o i v m xs t sz hi) fun q hq => hok h0 hi hq
    · cases he; exact hbox
  · intro i j bi bj q hi hj li lj
    rcases hsplit hi with ⟨h0, hi⟩ | ⟨rfl, rfl⟩ <;> rcases hsplit hj with ⟨h1, hj⟩ | ⟨rfl, rfl⟩
    · exact h.own.inj i j bi bj q hi hj li lj
    · exact absurd (h.own.inj _ _ _ _ _ hi hp0 li lj) h0
    · exact absurd (h.own.inj _ _ _ _ _ hj hp0 lj li) h1
    · rfl
  · intro i b q hi hq
    rcases hsplit hi with ⟨h0, hi⟩ | ⟨rfl, rfl⟩
    · exact h.own.phi i b q hi hq
    · exact h.own.phi 0 _ q hp0 hq
  · intro i b q hi hq
    have h' : W.heap.size ≤ q ∨ (i < 1 ∧ q = g) := by
      rcases hsplit hi with ⟨h0, hi⟩ | ⟨rfl, rfl⟩
      · exact h.lo i b q hi hq
      · exact h.lo 0 _ q hp0 hq
    show W1.heap.size ≤ q ∨ (i < 1 ∧ q = g)
    rw [hW1]; exact h'
  · show PhiLe W1.heap.size Φ0 Φ
    rw [hW1]; exact h.phi

theorem zip2 (tmps : Array Value) (p1 p2 : Nat) (v1 v2 : Value) : ((#[p1, p2] : Array Nat).zip #[v1, v2]).foldl (fun tmps (t, a) => tmps.setIfInBounds t a) tmps = (tmps.setIfInBounds p1 v1).setIfInBounds p2 v2 := by
  rw [← Array.foldl_toList]
  simp

/-- One round: the body is left by its end, or by 'ret'. -/
theorem At.yield {P : Program} {W : World} {β0 : Nat → Nat} {g T l : Nat} {x x' : Value} {fo x1 x2 : Operand} {argTypes : Array TypeId} (ho : o.op = .call { callee := .value fo, args := #[x1, x2], argTypes }) (hgd : o.guard = none) {d : Nat} (hd : o.dst = some d)
    (hfo : S.get fo = .v (.func (.yield l) #[] #[])) {v1 v2 : Value} (h1 : S.get x1 = .v v1) (h2 : S.get x2 = .v v2) (hp0 : S.hp[0]? = some (boxO g T x))
    {r : Loop} (hl : W.heap[l]? = some (.loop r)) (hrs : r.state = .ready) (hrp : r.pending = none) (hlg : l ≠ g) {p1 p2 : Nat} (hps : r.params = #[p1, p2]) {assign body : Code} (hra : r.assign = assign) (hrb : r.body = body) {fr0 : List SV} (hfr : ∀ β, Mat β fr0 r.tmps.toList)
    (fr1 : List SV) (hbd0 : ({ fr := (fr0.set p1 (.v v1)).set p2 (.v v2), hp := [boxO g T x] } : SS).bd = true) (hbd1 : ({ fr := fr1, hp := [boxO g T x] } : SS).bd = true)
    (hA : ∀ E β0 (K : Act → World → Prop), At (boxΓ P E Φ β0 g) Φ { fr := fr1, hp := [boxO g T x] } K → At (boxΓ P E Φ β0 g) Φ { fr := (fr0.set p1 (.v v1)).set p2 (.v v2), hp := [boxO g T x] } (assign.wpIn (Fence.wide.inRound l) 0 P (Exit.then K (fun _ _ _ => False))))
    (e0 : Exit) (jump : Option Code) (hj : (e0 = .normal ∧ jump = none) ∨ (e0 = .ret ∧ jump = some .ret))
    (hB : ∀ E β0, At (boxΓ P E Φ β0 g) Φ { fr := fr1, hp := [boxO g T x] } (body.wpIn (Fence.wide.inRound l) 0 P (fun e _ w => e = e0 ∧ Rnd g T x' Φ E w)))
    (S' : SS) (hS : ({ fr := S.fr.set d (.v (.bool jump.isNone)), hp := S.hp.set 0 (boxO g T x') } : SS) = S') (hbd : S'.bd = true)
    (k : At (boxΓ P (if jump.isNone then W else W.putObj l (.loop { r with state := .done, pending := jump })) Φ0 β0 g) Φ S' (wpListIn Fence.wide 1 P ops Q rest)) :
    At (boxΓ P W Φ0 β0 g) Φ S (wpListIn Fence.wide 1 P ops Q (o :: rest)) := by
  subst hS
  intro β a w h
  have hlW : l < W.heap.size := lt_of_heap hl
  have hlw : w.heap[l]? = some (.loop r) := by
    rw [← hl]
    exact h.keep.block l hlW (by rintro ⟨_, he⟩; exact hlg he)
  have hbx : ownBox g T x w := h.own.o 0 _ _ _ _ _ hp0
  unfold wpListIn
  have hwant : Region.wanted o (yielded ops a.tmps) = true := by simp [Region.wanted, hgd]
  rw [if_pos hwant]
  refine ⟨fun f _ => trivial, ?_⟩
  have hex : (o.semAt Fence.wide.round a.eval).run P w = .ok (.round l r.fn ((r.tmps.setIfInBounds p1 v1).setIfInBounds p2 v2) assign body) w := by
    rw [Oper.semAt_eq _ _ _ (by intro c hc; rw [ho] at hc; cases hc)]
    have hy := run_yield (P := P) (args := #[v1, v2]) hlw (by rw [hps]; rfl)
    unfold execOp; rw [ho]
    simp only [resolve, fits_v h hfo, Deferred.ofValue, Sem.run_bind, Sem.run_pure, Result.andThen_ok, invoke]
    have e1 : ((#[x1, x2] : Array Operand).map a.eval) = #[v1, v2] := by simp [fits_v h h1, fits_v h h2]
    simp only [e1]
    simp only [Array.append_empty, Array.empty_append, hy, hps, hra, hrb, zip2]
  rw [hex]
  refine ⟨fun hf => by simp [Fence.wide] at hf, ?_⟩
  have hΦg : Φ g = none := h.own.phi 0 _ g hp0 rfl
  refine roundIn_of_wpIn trivial ?_
  have hm0 : Mat β ((fr0.set p1 (.v v1)).set p2 (.v v2)) ((r.tmps.setIfInBounds p1 v1).setIfInBounds p2 v2).toList := by
    simp only [Array.toList_setIfInBounds]
    exact ((hfr β).set p1 (.inr rfl)).set p2 (.inr rfl)
  refine hA w β _ ?_ β _ w (box_start hbx h.sto hΦg hm0 rfl hbd0)
  intro β1 a1 w1 hst1
  have hl1 : w1.heap[l]? = some (.loop r) := by
    rw [hst1.keep.block l (lt_of_heap hlw) (by rintro ⟨_, he⟩; exact hlg he)]; exact hlw
  have hbx1 : ownBox g T x w1 := hst1.own.o 0 _ _ _ _ _ rfl
  refine ⟨_, run_beginRound hl1 hrs, ?_⟩
  obtain ⟨w2, hw2⟩ : ∃ w2, w2 = w1.putObj l (.loop { r with state := .busy }) := ⟨_, rfl⟩
  rw [← hw2]
  have h2l : w2.heap[l]? = some (.loop { r with state := .busy }) := by rw [hw2]; exact World.putObj_heap_same (lt_of_heap hl1)
  have h2o : ∀ k, k ≠ l → w2.heap[k]? = w1.heap[k]? := fun k hk => by rw [hw2]; exact World.putObj_heap_other hk
  have h2s : w2.heap.size = w1.heap.size := by rw [hw2]; exact World.putObj_size
  have hbx2 : ownBox g T x w2 := ownBox_keep hbx1 (h2o g (Ne.symm hlg))
  have hsto2 : Sto Φ w2 := fun b cs hb => by
    obtain ⟨t, z, hz⟩ := hst1.sto b cs hb
    exact ⟨t, z, (h2o b (sto_ne hst1.sto hl1 hb)).trans hz⟩
  have hbody := hB w2 β1 β1 a1 w2 (box_start hbx2 hsto2 hΦg hst1.fr hst1.df hbd1)
  refine wpIn_mono hbody ?_
  rintro e a3 w3 ⟨rfl, hR⟩
  have h3l : w3.heap[l]? = some (.loop { r with state := .busy }) := by
    rw [hR.keep.block l (lt_of_heap h2l) (by rintro ⟨_, he⟩; exact hlg he)]; exact h2l
  obtain ⟨w4, hw4⟩ : ∃ w4, w4 = w3.putObj l (.loop { r with state := if jump.isNone then .ready else .done, pending := jump }) := ⟨_, rfl⟩
  have hend : (Instr.endRound l jump).run P w3 = .ok (.bool jump.isNone) w4 := by rw [hw4]; exact run_endRound (r := { r with state := .busy }) jump h3l
  have h4o : ∀ k, k ≠ l → w4.heap[k]? = w3.heap[k]? := fun k hk => by rw [hw4]; exact World.putObj_heap_other hk
  have h4s : w4.heap.size = w3.heap.size := by rw [hw4]; exact World.putObj_size
  have h4l : w4.heap[l]? = some (.loop { r with state := if jump.isNone then .ready else .done, pending := jump }) := by rw [hw4]; exact World.putObj_heap_same (lt_of_heap h3l)
  have hs01 := hst1.keep.size
  have hs23 := hR.keep.size
  have hs01' : w.heap.size ≤ w1.heap.size := hs01
  have hsame : ∀ q, q < w.heap.size → q ≠ l → q ≠ g → w4.heap[q]? = w.heap[q]? := by
    intro q hq hql hqg
    rw [h4o q hql, hR.keep.block q (by omega) (by rintro ⟨_, he⟩; exact hqg he), h2o q hql]
    exact hst1.keep.block q hq (by rintro ⟨_, he⟩; exact hqg he)
  have hsz4 : w.heap.size ≤ w4.heap.size := by omega
  have hbx4 : ownBox g T x' w4 := ownBox_keep hR.box (h4o g (Ne.symm hlg))
  have hsto4 : Sto Φ w4 := fun b cs hb => by
    obtain ⟨t, z, hz⟩ := hR.sto b cs hb
    exact ⟨t, z, (h4o b (sto_ne hR.sto h3l hb)).trans hz⟩
  have hos : w4.os = W.os := by
    have e1 : w4.os = w3.os := by rw [hw4]; rfl
    have e2 : w2.os = w1.os := by rw [hw2]; rfl
    rw [e1, hR.keep.os, e2, hst1.keep.os]; exact h.keep.os
  have htp : w4.tape = W.tape := by
    have e1 : w4.tape = w3.tape := by rw [hw4]; rfl
    have e2 : w2.tape = w1.tape := by rw [hw2]; rfl
    rw [e1, hR.keep.tape, e2, hst1.keep.tape]; exact h.keep.tape
  have hou : w4.output = W.output := by
    have e1 : w4.output = w3.output := by rw [hw4]; rfl
    have e2 : w2.output = w1.output := by rw [hw2]; rfl
    rw [e1, hR.keep.output, e2, hst1.keep.output]; exact h.keep.output
  have hWw : W.heap.size ≤ w.heap.size := h.keep.size
  have hgo : wpListIn Fence.wide 1 P ops Q rest (a.put o.dst (.bool jump.isNone)) w4 := by
    have hm' : Mat β (S.fr.set d (.v (.bool jump.isNone))) (a.put o.dst (.bool jump.isNone)).tmps.toList := by
      rw [hd]
      simp only [Act.put, Array.toList_setIfInBounds]
      exact h.fr.set d (.inr rfl)
    have hd' : (a.put o.dst (.bool jump.isNone)).defers = [] := by rw [Act.put_df]; exact h.df
    refine k β _ w4 ?_
    rcases hj with ⟨_, rfl⟩ | ⟨_, rfl⟩
    · refine St.round h hp0 hlw hsame hsz4 hbx4 hsto4 rfl ⟨hos, htp, hou, by show W.heap.size ≤ _; omega, fun q hq hqn => ?_⟩ hm' hd' hbd
      by_cases hql : q = l
      · subst hql
        rw [h4l, show (if Option.isNone (none : Option Code) = true then W else _) = W from rfl, hl]
        congr 2
        cases r
        simp only at hrs hrp
        subst hrs hrp
        rfl
      · have hqg : q ≠ g := fun he => hqn ⟨0, he⟩
        rw [hsame q (Nat.lt_of_lt_of_le hq hWw) hql hqg]
        exact h.keep.block q hq hqn
    · refine St.round (W1 := W.putObj l _) h hp0 hlw hsame hsz4 hbx4 hsto4 World.putObj_size ⟨hos, htp, hou, by show (W.putObj l _).heap.size ≤ _; rw [World.putObj_size]; omega, fun q hq hqn => ?_⟩ hm' hd' hbd
      have hq' : q < W.heap.size := by rw [World.putObj_size] at hq; exact hq
      by_cases hql : q = l
      · subst hql
        rw [h4l]
        exact (World.putObj_heap_same hlW).symm
      · have hqg : q ≠ g := fun he => hqn ⟨0, he⟩
        rw [hsame q (Nat.lt_of_lt_of_le hq' hWw) hql hqg, h.keep.block q hq' hqn]
        exact (World.putObj_heap_other hql).symm
  rcases hj with ⟨rfl, rfl⟩ | ⟨rfl, rfl⟩
  · exact ⟨_, w4, hend, hgo⟩
  · exact ⟨_, w4, hend, hgo⟩
end
end Go.Sx
