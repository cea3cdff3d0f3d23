/- Sx3: loads, stores, addresses. General: no program. -/
import Derived.Test.YtgkjblbmiooedaaSx2
namespace Go.Sx
open Go.RowKit

section
variable {Γ : Ctx} {Φ : Phi} {β : Nat → Nat} {S S' : SS} {a : Act} {w : World} {o : Oper}

theorem all_okL (n : Nat) : ∀ l : List SV, (∀ x ∈ l, x.ok n = true) → SV.okL n l = true
  | [], _ => rfl
  | y :: l, h => by
    simp only [SV.okL, Bool.and_eq_true]
    exact ⟨h y (by simp), all_okL n l fun x hx => h x (by simp [hx])⟩

theorem fits_any {l : List SV} {vs : List Value} (hm : Mat β l vs) (hu : l.any SV.isU = false) : vs = l.map (den β) := by
  apply List.ext_getElem?
  intro k
  rw [List.getElem?_map]
  cases hc : l[k]? with
  | none =>
    rw [List.getElem?_eq_none_iff] at hc
    simp only [Option.map_none]
    rw [List.getElem?_eq_none_iff, hm.1]
    exact hc
  | some c =>
    obtain ⟨v, hv, hf⟩ := hm.get hc
    rw [hv]
    have : c ≠ .u := by
      rintro rfl
      have := List.any_eq_false.1 hu _ (List.mem_of_getElem? hc)
      simp [SV.isU] at this
    rw [hf.known this]; rfl

theorem Mat.drop {cs : List SV} {vs : List Value} (h : Mat β cs vs) (n : Nat) : Mat β (cs.drop n) (vs.drop n) :=
  ⟨by simp [h.1], fun k c v hc hv => h.2 (n + k) c v (by simpa using hc) (by simpa using hv)⟩
theorem Mat.take {cs : List SV} {vs : List Value} (h : Mat β cs vs) (n : Nat) : Mat β (cs.take n) (vs.take n) :=
  ⟨by simp [h.1], fun k c v hc hv => by
    rw [List.getElem?_take] at hc hv
    split at hc
    · rename_i hk
      rw [if_pos hk] at hv
      exact h.2 k c v hc hv
    · cases hc⟩
theorem Mat.append {cs cs' : List SV} {vs vs' : List Value} (h : Mat β cs vs) (h' : Mat β cs' vs') : Mat β (cs ++ cs') (vs ++ vs') :=
  ⟨by simp [h.1, h'.1], fun k c v hc hv => by
    rw [List.getElem?_append] at hc hv
    rw [h.1] at hv
    split at hc
    · rename_i hk
      rw [if_pos hk] at hv
      exact h.2 k c v hc hv
    · rename_i hk
      rw [if_neg hk] at hv
      exact h'.2 _ c v hc hv⟩

theorem add_none (g k j : Nat) : (⟨g, k, none⟩ : Addr).add j = ⟨g, k + j, none⟩ := by
  unfold Addr.add; split <;> simp_all

theorem szT_info {P : Program} {t : TypeId} {n : Nat} (h : szT P t = some n) : ∃ i, P.info? t = some i ∧ i.size = n := by
  unfold szT at h
  cases hi : P.info? t with
  | none => rw [hi] at h; cases h
  | some i => rw [hi] at h; exact ⟨i, rfl, by simpa using h⟩

theorem run_sizeOf' {P : Program} {t : TypeId} {n : Nat} (h : szT P t = some n) (w : World) : (sizeOf t).run P w = .ok n w := by
  obtain ⟨i, hi, hn⟩ := szT_info h
  simp [sizeOf, typeInfo, hi, hn]

theorem run_isAgg' {P : Program} {t : TypeId} {d : TypeDesc} (h : P.underlying t = some d) (w : World) : (isAgg t).run P w = .ok (aggD d) w := by
  unfold isAgg
  rw [Sem.run_bind, run_underlying h, Result.andThen_ok]
  cases d <;> rfl

/-- A read of memory that fits what is known. -/
theorem run_ldB {P : Program} {t : TypeId} {cs : List SV} {vs : List Value} {off : Nat} {x : SV} (hm : Mat β cs vs) (hl : ldB P t cs off = some x) (g k : Nat)
    (hc : ∀ j v, (vs.drop off)[j]? = some v → w.cell? ⟨g, k + j, none⟩ = some v) :
    ∃ v, (loadVar t ⟨g, k, none⟩).run P w = .ok v w ∧ Fits β x v := by
  unfold ldB at hl
  split at hl
  · rename_i d n hd hn
    unfold loadVar
    rw [Sem.run_bind, run_isAgg' hd, Result.andThen_ok]
    split at hl
    · rename_i hagg
      rw [if_pos hagg]
      simp only at hl
      split at hl
      · rename_i hlen
        have hm' := (hm.drop off).take n
        have hvl : ((vs.drop off).take n).length = n := by rw [hm'.1]; exact hlen
        have hload : (loadCells ⟨g, k, none⟩ n).run P w = .ok ((vs.drop off).take n).toArray w := by
          have := run_loadCells_list (P := P) w ⟨g, k, none⟩ ((vs.drop off).take n) (fun j v hv => by
            rw [add_none]
            rw [List.getElem?_take] at hv
            split at hv
            · exact hc j v hv
            · cases hv)
          rwa [hvl] at this
        refine ⟨.agg ((vs.drop off).take n).toArray, by simp [run_sizeOf' hn, hload], ?_⟩
        cases hl
        split
        · exact .inl rfl
        · rename_i hu
          rw [fits_any hm' (by simpa using hu)]
          exact .inr (by simp [den, denL_eq])
      · cases hl
    · rename_i hagg
      rw [if_neg hagg]
      obtain ⟨v, hv, hf⟩ := hm.get hl
      refine ⟨v, ?_, hf⟩
      have := hc 0 v (by simpa using hv)
      simp only [Nat.add_zero] at this
      simp [this]
  · cases hl

theorem snd_load (h : St Γ Φ β S a w) {t : TypeId} {x : Operand} (ho : o.op = .load t x) (he : evS Γ.P S o = some S') : Comes1 Γ Φ β S S' o a w := by
  cases hx : S.get x with
  | p i off =>
    cases hi : S.hp[i]? with
    | none => exfalso; unfold evS ev at he; rw [ho] at he; simp [hx, hi] at he
    | some b =>
      cases b with
      | c cs ct =>
        cases hl : ldB Γ.P t cs off with
        | none => exfalso; unfold evS ev at he; rw [ho] at he; simp [hx, hi, hl] at he
        | some y =>
          obtain ⟨vs, hv, hm⟩ := h.own.c i cs ct hi
          have hp : a.eval x = .pointer (some ⟨β i, off, none⟩) := ((h.eval x).known (by rw [hx]; simp)).trans (by rw [hx]; rfl)
          obtain ⟨v, hrun, hf⟩ := run_ldB (w := w) hm hl (β i) off (fun j v hj => by
            rw [cell_of_row w (β i) (off + j) vs ct (0, 0) hv]
            simpa using hj)
          refine of_val (x := y) (v := v) h he (by unfold ev; rw [ho]; simp only [hx, hi, hl, Option.map_some]) ?_ hf
          unfold execOp; rw [ho]
          simp [Instr.loadAt, hp, Instr.sureAddr, hrun]
      | dead => exfalso; unfold evS ev at he; rw [ho] at he; simp [hx, hi] at he
      | f g cs ct =>
        cases hl : ldB Γ.P t (cs.map .v) off with
        | none => exfalso; unfold evS ev at he; rw [ho] at he; simp [hx, hi, hl] at he
        | some y =>
          obtain ⟨hβ, hΦ⟩ := h.own.f i g cs ct hi
          obtain ⟨hz, _⟩ := h.sto _ _ hΦ
          have hp : a.eval x = .pointer (some ⟨g, off, none⟩) := ((h.eval x).known (by rw [hx]; simp)).trans (by rw [hx, ← hβ]; rfl)
          obtain ⟨v, hrun, hf⟩ := run_ldB (w := w) (mat_v (β := β) cs) hl g off (fun j v hj => by
            rw [cell_of_row w g (off + j) _ ct (0, 0) hz]
            simpa using hj)
          refine of_val (x := y) (v := v) h he (by unfold ev; rw [ho]; simp only [hx, hi, hl, Option.map_some]) ?_ hf
          unfold execOp; rw [ho]
          simp [Instr.loadAt, hp, Instr.sureAddr, hrun]
      | o v n xs t sz => exfalso; unfold evS ev at he; rw [ho] at he; simp [hx, hi] at he
  | _ => exfalso; unfold evS ev at he; rw [ho] at he; simp [hx] at he

theorem one_den {x : SV} (h : x.one = true) : (den β x).oneCell' = true := by
  cases x <;> first | exact h | rfl | (simp [SV.one] at h)

theorem setRow_block (w : World) (g : Nat) (cs : Array Value) (k : Nat) (h : k ≠ g) : (w.setRow g cs).heap[k]? = w.heap[k]? := by
  simp only [World.setRow, Array.getElem?_modify]
  rw [if_neg (by omega)]

theorem setRow_same (w : World) (g : Nat) (cs old : Array Value) (t : TypeId) (hg : w.heap[g]? = some (.cells old t (0, 0))) : (w.setRow g cs).heap[g]? = some (.cells cs t (0, 0)) :=
  setRow_heap w g old cs t (0, 0) hg

theorem Keep.setRow {G : Nat → Nat → Prop} {E : World} (h : Keep G E w) {g : Nat} (hg : E.heap.size ≤ g ∨ ∃ i, G i g) (cs : Array Value) : Keep G E (w.setRow g cs) :=
  ⟨h.os, h.tape, h.output, by rw [size_setRow]; exact h.size, fun k hk hn => by
    rw [setRow_block w g cs k (by rintro rfl; rcases hg with hg | hg; · omega
                                  · exact hn hg)]
    exact h.block k hk hn⟩

/-- A block of the call's own is written. -/
theorem St.setBlk (h : St Γ Φ β S a w) {i : Nat} {b b' : Blk} {cur new : Array Value} {t : TypeId} {g : Nat} (hi : S.hp[i]? = some b) (hlv : b.bid β i = some g) (hcur : w.heap[g]? = some (.cells cur t (0, 0)))
    (hbid : b'.bid β i = some g)
    (hc : ∀ cs t', b' = .c cs t' → t' = t ∧ Mat β cs new.toList) (hr : ∀ v n xs t' sz, b' = .o v n xs t' sz → OwnsO (w.setRow g new) t' sz v n xs)
    (d : Option Tmp) {x : SV} {v : Value} (hx : Fits β x v) (hb : ({ fr := (S.put d x).fr, hp := S.hp.set i b' } : SS).bd = true) :
    St Γ Φ β { fr := (S.put d x).fr, hp := S.hp.set i b' } (a.put d v) (w.setRow g new) := by
  have hlt : i < S.hp.length := by
    rcases Nat.lt_or_ge i S.hp.length with h' | h'
    · exact h'
    · rw [List.getElem?_eq_none h'] at hi; cases hi
  have hsplit : ∀ {j : Nat} {y : Blk}, (S.hp.set i b')[j]? = some y → (j ≠ i ∧ S.hp[j]? = some y) ∨ (j = i ∧ y = b') := by
    intro j y hj
    rw [List.getElem?_set] at hj
    by_cases e : i = j
    · subst e; simp [hlt] at hj; exact .inr ⟨rfl, hj.symm⟩
    · rw [if_neg e] at hj; exact .inl ⟨fun e' => e e'.symm, hj⟩
  have hne : ∀ {j : Nat} {y : Blk} {k : Nat}, j ≠ i → S.hp[j]? = some y → y.bid β j = some k → k ≠ g := fun hj hy hl e => hj (h.own.inj _ _ _ _ _ hy hi (e ▸ hl) hlv)
  refine ⟨h.fr.put d hx, by rw [Act.put_df]; exact h.df, ⟨?_, ?_, ?_, ?_, fun j g' cs t' hj => by
    rcases hsplit hj with ⟨_, hj⟩ | ⟨rfl, e⟩
    · exact h.own.f j g' cs t' hj
    · subst e; cases hbid⟩, ?_, ?_, ?_, h.phi, hb, h.pin, by rw [List.length_set]; exact h.len⟩
  · intro j cs t' hj
    rcases hsplit hj with ⟨hji, hj⟩ | ⟨rfl, he⟩
    · obtain ⟨vs, hv, hm⟩ := h.own.c j cs t' hj
      exact ⟨vs, by rw [setRow_block w _ _ _ (hne hji hj rfl)]; exact hv, hm⟩
    · obtain ⟨rfl, hm⟩ := hc cs t' he.symm
      subst he
      simp only [Blk.bid, Option.some.injEq] at hbid
      rw [hbid]
      exact ⟨new, setRow_same w _ new cur _ hcur, hm⟩
  · intro j v' n xs t' sz hj
    rcases hsplit hj with ⟨hji, hj⟩ | ⟨rfl, he⟩
    · refine ownsO_keep (h.own.o j v' n xs t' sz hj) fun k hk => ?_
      exact setRow_block w _ _ _ (hne hji hj hk)
    · exact hr v' n xs t' sz he.symm
  · intro j k bj bk m hj hk lj lk
    rcases hsplit hj with ⟨hji, hj'⟩ | ⟨hji, ej⟩ <;> rcases hsplit hk with ⟨hki, hk'⟩ | ⟨hki, ek⟩
    · exact h.own.inj j k bj bk m hj' hk' lj lk
    · subst hki; subst ek; rw [hbid] at lk; cases lk; exact absurd rfl (hne hji hj' lj)
    · subst hji; subst ej; rw [hbid] at lj; cases lj; exact absurd rfl (hne hki hk' lk)
    · rw [hji, hki]
  · intro j y k hj hl
    rcases hsplit hj with ⟨hji, hj⟩ | ⟨rfl, e⟩
    · exact h.own.phi j y k hj hl
    · subst e; rw [hbid] at hl; cases hl; exact h.own.phi j b _ hi hlv
  · intro k cs hk
    obtain ⟨hz, hzq⟩ := h.sto k cs hk
    refine ⟨?_, hzq⟩
    rw [setRow_block w _ _ _ (by rintro rfl; rw [h.own.phi i b _ hi hlv] at hk; cases hk)]
    exact hz
  · intro j y k hj hl
    rcases hsplit hj with ⟨hji, hj⟩ | ⟨rfl, e⟩
    · exact h.lo j y k hj hl
    · subst e; rw [hbid] at hl; cases hl; exact h.lo j b _ hi hlv
  · exact h.keep.setRow (h.lo i b _ hi hlv) new

theorem snd_store (h : St Γ Φ β S a w) {t : TypeId} {p x : Operand} (ho : o.op = .store t p x) (he : evS Γ.P S o = some S') : Comes1 Γ Φ β S S' o a w := by
  cases hp : S.get p with
  | p i off =>
    cases hc : (S.get x).cells with
    | none => exfalso; unfold evS ev at he; rw [ho] at he; simp [hp, hc] at he
    | some xs =>
      cases hi : S.hp[i]? with
      | none => exfalso; unfold evS ev at he; rw [ho] at he; simp [hp, hc, hi] at he
      | some b =>
        cases b with
        | c cs ct =>
          by_cases hcond : szT Γ.P t = some xs.length ∧ off + xs.length ≤ cs.length ∧ xs.all SV.one = true
          · obtain ⟨hsz, hlen, hone⟩ := hcond
            have hev : ev Γ.P S o = some (.v undef, S.hp.set i (.c (setAt cs xs off) ct)) := by
              unfold ev; rw [ho]; simp only [hp, hc, hi]; rw [if_pos ⟨hsz, hlen, hone⟩]
            unfold evS at he
            rw [hev] at he
            simp only at he
            split at he
            · rename_i hbd
              cases he
              obtain ⟨vs, hv, hm⟩ := h.own.c i cs ct hi
              have hpe : a.eval p = .pointer (some ⟨β i, off, none⟩) := ((h.eval p).known (by rw [hp]; simp)).trans (by rw [hp]; rfl)
              have hcs := cells_fits (h.eval x) hc
              have hones : ∀ v ∈ (a.eval x).cells.toList, v.oneCell' = true := by
                rw [hcs]
                intro v hv
                obtain ⟨y, hy, rfl⟩ := List.mem_map.1 hv
                exact one_den (List.all_eq_true.1 hone y hy)
              have hln : (a.eval x).cells.toList.length = xs.length := by rw [hcs]; simp
              have hvl : vs.size = cs.length := by have := hm.1; simpa using this
              have hrun := run_storeCells_at Γ.P (β i) off ct (a.eval x).cells.toList 0 vs w hv (by rw [hln, hvl]; omega) hones
              have hsize : (a.eval x).cells.size = xs.length := by rw [← hln]; simp
              refine ⟨undef, _, β, .skip, ?_, .inr ⟨rfl, rfl⟩, h.setBlk (b' := .c (setAt cs xs off) ct) (new := (vs.toList.take (off + 0) ++ (a.eval x).cells.toList ++ vs.toList.drop (off + 0 + (a.eval x).cells.toList.length)).toArray) hi rfl hv rfl ?_ ?_ o.dst (.inr rfl) hbd, fun hq => by rw [ho] at hq; cases hq⟩
              · unfold execOp; rw [ho]
                simp only [Instr.storeAt, hpe, Instr.sureAddr, storeVar, Sem.run_bind, Sem.run_pure, Result.andThen_ok, run_sizeOf' hsz]
                rw [if_neg (by simp [hsize])]
                rw [hrun]
                rfl
              · intro cs' t' hb
                cases hb
                refine ⟨rfl, ?_⟩
                unfold setAt
                rw [hln, Nat.add_zero]
                simp only
                exact ((hm.take off).append (fits_cells (h.eval x) hc)).append (hm.drop (off + xs.length))
              · intro v' n xs' t' sz hb; cases hb
            · cases he
          · exfalso; unfold evS ev at he; rw [ho] at he; simp only [hp, hc, hi] at he; rw [if_neg hcond] at he; cases he
        | dead => exfalso; unfold evS ev at he; rw [ho] at he; simp [hp, hc, hi] at he
        | f g cs t => exfalso; unfold evS ev at he; rw [ho] at he; simp [hp, hc, hi] at he
        | o v' n ys t' sz => exfalso; unfold evS ev at he; rw [ho] at he; simp [hp, hc, hi] at he
  | _ => exfalso; unfold evS ev at he; rw [ho] at he; simp [hp] at he
end
end Go.Sx
