/- Sx9: reads of memory that stays, rows, slices, panics. General: no program. -/
import Derived.Test.YtgkjblbmiooedaaSx8
import Derived.Maps.AppendAt
namespace Go.Sx
open Go.RowKit

def putB (S : SS) (d : Option Tmp) (x : SV) : Option SS := if (S.put d x).bd then some (S.put d x) else none
def putH (S : SS) (d : Option Tmp) (x : SV) (i : Nat) (b : Blk) : Option SS :=
  let S' : SS := { fr := (S.put d x).fr, hp := S.hp.set i b }
  if S'.bd then some S' else none

/-- The cells of a slice that stays: known in the memory that no one writes. -/
def RdC (Φ : Phi) (A : Option Addr) (xs : List Value) : Prop :=
  0 < xs.length → ∃ (b off : Nat) (cs : Array Value) (t : TypeId) (z : Nat × Nat), A = some ⟨b, off, none⟩ ∧ Φ b = some (.cells cs t z) ∧ ∀ (j : Nat) (u : Value), xs[j]? = some u → cs[off + j]? = some u

theorem RdC.mono {Φ Φ' : Phi} {A : Option Addr} {xs : List Value} {n : Nat} (h : RdC Φ A xs) (hle : PhiLe n Φ Φ') : RdC Φ' A xs := fun hp => by
  obtain ⟨b, off, cs, t, z, h1, h2, h3⟩ := h hp
  exact ⟨b, off, cs, t, z, h1, hle.1 b _ h2, h3⟩
theorem RdC.nil {Φ : Phi} {A : Option Addr} : RdC Φ A [] := fun h => by cases h
theorem RdC.take {Φ : Phi} {A : Option Addr} {xs : List Value} (h : RdC Φ A xs) (n : Nat) : RdC Φ A (xs.take n) := fun hp => by
  obtain ⟨b, off, cs, t, z, h1, h2, h3⟩ := h (by simp at hp; omega)
  exact ⟨b, off, cs, t, z, h1, h2, fun j u hj => h3 j u (by rw [List.getElem?_take] at hj; split at hj; exact hj; cases hj)⟩
theorem RdC.drop {Φ : Phi} {A A' : Option Addr} {xs : List Value} (h : RdC Φ A xs) (n : Nat) (hA : A' = A.map fun a => a.add n) : RdC Φ A' (xs.drop n) := fun hp => by
  obtain ⟨b, off, cs, t, z, h1, h2, h3⟩ := h (by simp at hp; omega)
  refine ⟨b, off + n, cs, t, z, by rw [hA, h1]; simp [add_none], h2, fun j u hj => ?_⟩
  rw [Nat.add_assoc]
  exact h3 _ u (by rw [← hj, List.getElem?_drop])

theorem PhiLe.refl (n : Nat) (Φ : Phi) : PhiLe n Φ Φ := ⟨fun _ _ h => h, fun _ _ => rfl⟩
theorem PhiLe.trans {n m : Nat} {Φ Φ' Φ'' : Phi} (h : PhiLe n Φ Φ') (h' : PhiLe m Φ' Φ'') : PhiLe 0 Φ Φ'' := ⟨fun b cs hb => h'.1 b cs (h.1 b cs hb), fun _ h => by omega⟩

section
variable {Γ : Ctx} {Φ : Phi} {S S' : SS} {Q : Exit → Act → World → Prop} {ops : Array Oper} {rest : List Oper} {o : Oper}

theorem putB_some {d : Option Tmp} {x : SV} (h : putB S d x = some S') : S' = S.put d x ∧ (S.put d x).bd = true := by
  unfold putB at h; split at h
  · rename_i hb; cases h; exact ⟨rfl, hb⟩
  · cases h

/-- An operation that only tells a value. -/
theorem At.val (hw : wantS ops S o = some true) (x : SV) (hS : putB S o.dst x = some S') (hrun : ∀ β a w, St Γ Φ β S a w → ∃ v, (execOp a.eval o).run Γ.P w = .ok (.value v) w ∧ Fits β x v)
    (k : At Γ Φ S' (wpList Γ.P ops Q rest)) : At Γ Φ S (wpList Γ.P ops Q (o :: rest)) := by
  obtain ⟨rfl, hb⟩ := putB_some hS
  intro β a w h
  unfold wpList
  rw [if_pos (wanted_of h hw)]
  left
  obtain ⟨v, hr, hf⟩ := hrun β a w h
  unfold Oper.wp
  rw [hr]
  exact k β _ _ (h.put o.dst hf hb)

/-- The address of an element of a slice. -/
theorem At.idx {t e : TypeId} {x ix : Operand} (ho : o.op = .indexAddr t x ix) (hw : wantS ops S o = some true) (hu : Γ.P.underlying t = some (.slice e)) {sz : Nat} (hsz : szT Γ.P e = some sz)
    {b off n cap : Nat} (hx : S.get x = .v (.slice (some ⟨b, off, none⟩) n cap)) {kd : IntKind} {i : Int} (hi : S.get ix = .v (.int kd i)) (h0 : 0 ≤ i) (h1 : i < n)
    (hS : putB S o.dst (.v (.pointer (some ⟨b, off + i.toNat * sz, none⟩))) = some S') (k : At Γ Φ S' (wpList Γ.P ops Q rest)) : At Γ Φ S (wpList Γ.P ops Q (o :: rest)) := by
  refine At.val hw _ hS (fun β a w h => ⟨_, ?_, .inr rfl⟩) k
  unfold execOp; rw [ho]
  simp only [Instr.indexAt, fits_v h hx, fits_v h hi, asIntOf, Sem.run_bind, Sem.run_pure, Result.andThen_ok, run_underlying hu]
  rw [if_pos ⟨h0, h1⟩]
  simp only [Sem.run_bind, run_sizeOf' hsz, Result.andThen_ok, Sem.run_pure, den, add_none]

theorem ldB_vals {P : Program} {t : TypeId} {vals : List Value} {d : TypeDesc} (hd : P.underlying t = some d) (hn : szT P t = some vals.length) (hagg : aggD d = true) :
    ldB P t (vals.map .v) 0 = some (.agg (vals.map .v)) := by
  unfold ldB
  rw [hd, hn]
  simp only [hagg, if_true, List.drop_zero]
  rw [List.take_of_length_le (by simp)]
  simp only [List.length_map, if_true]
  rw [if_neg]
  simp [SV.isU]

/-- What a cell row in the memory that stays holds at a place. -/
theorem run_ldx {P : Program} {w : World} {t : TypeId} {b off : Nat} {vals : List Value} {x : SV} {β : Nat → Nat} (hl : ldB P t (vals.map .v) 0 = some x) (hc : ∀ j u, vals[j]? = some u → w.cell? ⟨b, off + j, none⟩ = some u) :
    ∃ v, (loadVar t ⟨b, off, none⟩).run P w = .ok v w ∧ Fits β x v :=
  run_ldB (mat_v (β := β) vals) hl b off (fun j v hj => hc j v (by simpa using hj))

theorem At.ldx {t : TypeId} {p : Operand} (ho : o.op = .load t p) (hw : wantS ops S o = some true) {b off : Nat} (hp : S.get p = .v (.pointer (some ⟨b, off, none⟩))) {cs : Array Value} {tt : TypeId} {z : Nat × Nat} (hΦ : Φ b = some (.cells cs tt z))
    (vals : List Value) (x : SV) (hl : ldB Γ.P t (vals.map .v) 0 = some x) (hv : ∀ (j : Nat) (u : Value), vals[j]? = some u → cs[off + j]? = some u)
    (hS : putB S o.dst x = some S') (k : At Γ Φ S' (wpList Γ.P ops Q rest)) : At Γ Φ S (wpList Γ.P ops Q (o :: rest)) := by
  refine At.val hw x hS (fun β a w h => ?_) k
  obtain ⟨hz, hzq⟩ := h.sto b _ hΦ
  obtain ⟨v, hr, hf⟩ := run_ldx (P := Γ.P) (w := w) (β := β) hl (fun j u hj => by
    rw [cell_of_row w b (off + j) cs tt z hz]
    exact hv j u hj)
  refine ⟨v, ?_, hf⟩
  unfold execOp; rw [ho]
  simp [Instr.loadAt, fits_v h hp, Instr.sureAddr, hr]

theorem own_cells {β : Nat → Nat} {w : World} (h : Own β S.hp Φ w) {i n cap : Nat} {g : Nat} {xs : List Value} {e : TypeId} {sz : Nat} (hi : S.hp[i]? = some (.o (.slice (some ⟨g, 0, none⟩) n cap) n xs e sz)) :
    ∃ cur : Array Value, w.heap[g]? = some (.cells cur e (0, 0)) ∧ n ≤ cap ∧ cap ≤ maxLen ∧ cur.size = cap * sz ∧ cur.toList.take (n * sz) = xs ∧ xs.length = n * sz := by
  obtain ⟨h1, h2⟩ := h.o i _ n xs e sz hi
  rcases h2 with ⟨h2, _⟩ | ⟨g', cap', cur, hv, _, hg, h3, h4, h5, h6⟩
  · cases h2
  · injection hv with hv1 hv2 hv3
    injection hv1 with hv1
    injection hv1 with hv1
    subst hv1 hv3
    exact ⟨cur, hg, h3, h4, h5, h6, h1⟩

/-- A read of a row of the call's own. -/
theorem At.ldrow {t : TypeId} {p : Operand} (ho : o.op = .load t p) (hw : wantS ops S o = some true) {g off : Nat} (hp : S.get p = .v (.pointer (some ⟨g, off, none⟩))) (i : Nat) {n cap : Nat} {xs : List Value} {e : TypeId} {sz : Nat}
    (hi : S.hp[i]? = some (.o (.slice (some ⟨g, 0, none⟩) n cap) n xs e sz)) (vals : List Value) (x : SV) (hl : ldB Γ.P t (vals.map .v) 0 = some x) (hv : ∀ (j : Nat) (u : Value), vals[j]? = some u → xs[off + j]? = some u)
    (hS : putB S o.dst x = some S') (k : At Γ Φ S' (wpList Γ.P ops Q rest)) : At Γ Φ S (wpList Γ.P ops Q (o :: rest)) := by
  refine At.val hw x hS (fun β a w h => ?_) k
  obtain ⟨cur, hg, _, _, hsz, htk, hln⟩ := own_cells h.own hi
  obtain ⟨v, hr, hf⟩ := run_ldx (P := Γ.P) (w := w) (β := β) (b := g) (off := off) hl (fun j u hj => by
    rw [cell_of_row w g (off + j) cur e (0, 0) hg]
    have := hv j u hj
    rw [← htk, List.getElem?_take] at this
    split at this
    · simpa using this
    · cases this)
  refine ⟨v, ?_, hf⟩
  unfold execOp; rw [ho]
  simp [Instr.loadAt, fits_v h hp, Instr.sureAddr, hr]

theorem putH_some {d : Option Tmp} {x : SV} {i : Nat} {b : Blk} (h : putH S d x i b = some S') : S' = { fr := (S.put d x).fr, hp := S.hp.set i b } ∧ S'.bd = true := by
  unfold putH at h; simp only at h; split at h
  · rename_i hb; cases h; exact ⟨rfl, hb⟩
  · cases h

/-- A store into a row of the call's own. -/
theorem At.strow {t : TypeId} {p y : Operand} (ho : o.op = .store t p y) (hw : wantS ops S o = some true) {g off : Nat} (hp : S.get p = .v (.pointer (some ⟨g, off, none⟩))) (i : Nat) {n cap : Nat} {xs : List Value} {e : TypeId} {sz : Nat}
    (hi : S.hp[i]? = some (.o (.slice (some ⟨g, 0, none⟩) n cap) n xs e sz)) (vals : List Value) (hy : (S.get y).cells = some (vals.map .v)) (hone : ∀ u ∈ vals, u.oneCell' = true) (hsz : szT Γ.P t = some vals.length) (hfit : off + vals.length ≤ xs.length)
    (hS : putH S o.dst (.v undef) i (.o (.slice (some ⟨g, 0, none⟩) n cap) n (xs.take off ++ vals ++ xs.drop (off + vals.length)) e sz) = some S') (k : At Γ Φ S' (wpList Γ.P ops Q rest)) : At Γ Φ S (wpList Γ.P ops Q (o :: rest)) := by
  obtain ⟨rfl, hb⟩ := putH_some hS
  intro β a w h
  unfold wpList
  rw [if_pos (wanted_of h hw)]
  left
  obtain ⟨cur, hg, hnc, hcm, hcs, htk, hln⟩ := own_cells h.own hi
  have hcells : (a.eval y).cells.toList = vals := by
    rw [cells_fits (h.eval y) hy, List.map_map]
    exact List.map_id _
  have hxl : xs.length ≤ cur.size := by rw [hln, hcs]; exact Nat.mul_le_mul_right _ hnc
  have hrun := run_storeCells_at Γ.P g off e vals 0 cur w hg (by omega) hone
  have hex : (execOp a.eval o).run Γ.P w = .ok .skip (w.setRow g (cur.toList.take (off + 0) ++ vals ++ cur.toList.drop (off + 0 + vals.length)).toArray) := by
    unfold execOp; rw [ho]
    simp only [Instr.storeAt, fits_v h hp, Instr.sureAddr, storeVar, Sem.run_bind, Sem.run_pure, Result.andThen_ok, run_sizeOf' hsz]
    rw [if_neg (by have := congrArg List.length hcells; simp at this; simp [this]), hcells, hrun]
    rfl
  unfold Oper.wp
  rw [hex]
  refine k β _ _ (h.setBlk (b' := .o (.slice (some ⟨g, 0, none⟩) n cap) n (xs.take off ++ vals ++ xs.drop (off + vals.length)) e sz) hi rfl hg rfl (fun cs t' hb => by cases hb) ?_ o.dst (.inr rfl) hb)
  intro v' n' xs' t' sz' hb
  cases hb
  refine ⟨by simp only [List.length_append, List.length_take, List.length_drop]; omega, .inr ⟨g, cap, _, rfl, Nat.zero_le _, setRow_same w g _ cur _ hg, hnc, hcm, ?_, ?_⟩⟩
  · simp only [List.size_toArray, List.length_append, List.length_take, List.length_drop, Array.length_toList]; omega
  · apply List.ext_getElem?
    intro j
    rw [Nat.add_zero]
    simp only [List.getElem?_take, List.getElem?_append, List.length_append, List.length_take, List.getElem?_drop]
    have hx : ∀ q, q < n * sz → xs[q]? = cur.toList[q]? := fun q hq => by rw [← htk, List.getElem?_take, if_pos hq]
    have hxn : ∀ q, n * sz ≤ q → xs[q]? = none := fun q hq => List.getElem?_eq_none (by omega)
    simp only [Array.length_toList]
    have hm1 : min off cur.size = off := by omega
    have hm2 : min off xs.length = off := by omega
    rw [hm1, hm2]
    by_cases hj : j < n * sz
    · by_cases h1 : j < off + vals.length
      · by_cases h2 : j < off
        · simp only [hj, h1, h2, if_true]; rw [hx j hj]
        · simp only [hj, h1, h2, if_true, if_false]
      · simp only [hj, h1, if_true, if_false]
        rw [hx _ (by omega)]
    · have h1 : ¬ j < off + vals.length := by omega
      simp only [hj, h1, if_false]
      rw [hxn _ (by omega)]

/-- A store of a row's owner: fewer elements are told. -/
theorem At.trunc {X : Act → World → Prop} (i m : Nat) {A : Option Addr} {n cap : Nat} {xs : List Value} {e : TypeId} {sz : Nat} (hi : S.hp[i]? = some (.o (.slice A n cap) n xs e sz)) (hm : m ≤ n)
    (hS : putH S none .u i (.o (.slice A m cap) m (xs.take (m * sz)) e sz) = some S') (k : At Γ Φ S' X) : At Γ Φ S X := by
  obtain ⟨rfl, hb⟩ := putH_some hS
  intro β a w h
  have hlt := lt_get hi
  have hsplit : ∀ {j : Nat} {y : Blk}, (S.hp.set i (.o (.slice A m cap) m (xs.take (m * sz)) e sz))[j]? = some y → S.hp[j]? = some y ∨ (j = i ∧ y = .o (.slice A m cap) m (xs.take (m * sz)) e sz) := by
    intro j y hj
    rw [List.getElem?_set] at hj
    by_cases e : i = j
    · subst e; simp [hlt] at hj; exact .inr ⟨rfl, hj.symm⟩
    · rw [if_neg e] at hj; exact .inl hj
  have hbid : (Blk.o (.slice A m cap) m (xs.take (m * sz)) e sz).bid β i = (Blk.o (.slice A n cap) n xs e sz).bid β i := by
    simp only [Blk.bid]; cases A <;> rfl
  refine k β a w ⟨h.fr, h.df, ⟨?_, ?_, ?_, ?_, fun j g cs t hj => by
    rcases hsplit hj with hj | ⟨rfl, he⟩
    · exact h.own.f j g cs t hj
    · cases he⟩, h.sto, ?_, h.keep, h.phi, hb, h.pin, by simp only [List.length_set]; exact h.len⟩
  · intro j cs t hj
    rcases hsplit hj with hj | ⟨rfl, he⟩
    · exact h.own.c j cs t hj
    · cases he
  · intro j v q ys t s hj
    rcases hsplit hj with hj | ⟨rfl, he⟩
    · exact h.own.o j v q ys t s hj
    · cases he
      obtain ⟨h1, h2⟩ := h.own.o j _ n xs e sz hi
      have hms : m * sz ≤ n * sz := Nat.mul_le_mul_right _ hm
      refine ⟨by simp only [List.length_take]; omega, ?_⟩
      rcases h2 with ⟨h2, h3⟩ | ⟨g, c', cur, hv, hb', hg, h3, h4, h5, h6⟩
      · injection h2 with h2 h4 h5
        subst h2
        exact .inl ⟨by rw [show m = 0 by omega, h5], by omega⟩
      · injection hv with hv1 hv2 hv3
        subst hv1 hv3
        refine .inr ⟨g, cap, cur, rfl, hb', hg, by omega, h4, h5, ?_⟩
        rw [← h6, List.take_take]
        congr 1
        omega
  · intro p q bp bq kk hp hq lp lq
    have hp' : ∃ b', S.hp[p]? = some b' ∧ b'.bid β p = some kk := by
      rcases hsplit hp with hp | ⟨rfl, rfl⟩
      · exact ⟨_, hp, lp⟩
      · exact ⟨_, hi, by rw [← hbid]; exact lp⟩
    have hq' : ∃ b', S.hp[q]? = some b' ∧ b'.bid β q = some kk := by
      rcases hsplit hq with hq | ⟨rfl, rfl⟩
      · exact ⟨_, hq, lq⟩
      · exact ⟨_, hi, by rw [← hbid]; exact lq⟩
    obtain ⟨b1, h1, l1⟩ := hp'
    obtain ⟨b2, h2, l2⟩ := hq'
    exact h.own.inj p q b1 b2 kk h1 h2 l1 l2
  · intro p b kk hp hk
    rcases hsplit hp with hp | ⟨rfl, rfl⟩
    · exact h.own.phi p b kk hp hk
    · exact h.own.phi p _ kk hi (by rw [← hbid]; exact hk)
  · intro p b kk hp hk
    rcases hsplit hp with hp | ⟨rfl, rfl⟩
    · exact h.lo p b kk hp hk
    · exact h.lo p _ kk hi (by rw [← hbid]; exact hk)
end
end Go.Sx
