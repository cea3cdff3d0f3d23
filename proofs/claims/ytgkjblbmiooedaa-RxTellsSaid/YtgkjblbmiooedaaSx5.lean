/- Sx5: values that are built; all plain operations; runs of them. General: no program. -/
import Derived.Test.YtgkjblbmiooedaaSx4
namespace Go.Sx
open Go.RowKit

section
variable {Γ : Ctx} {Φ : Phi} {β : Nat → Nat} {S S' : SS} {a : Act} {w : World} {o : Oper}

theorem foldl_set (xs : List Value) : ∀ (vs : Array Value) (off n : Nat), off + xs.length + n ≤ vs.size + n →
    ((xs.zipIdx n).foldl (fun cs (q : Value × Nat) => cs.setIfInBounds (off + q.2 - n) q.1) vs).toList = vs.toList.take off ++ xs ++ vs.toList.drop (off + xs.length) := by
  induction xs with
  | nil => intro vs off n _; simp
  | cons x xs ih =>
    intro vs off n h
    simp only [List.zipIdx_cons, List.foldl_cons, List.length_cons] at h ⊢
    have hoff : off < vs.size := by omega
    have e : ∀ (l : List (Value × Nat)) (cs : Array Value), (∀ q ∈ l, n + 1 ≤ q.2) → l.foldl (fun cs (q : Value × Nat) => cs.setIfInBounds (off + q.2 - n) q.1) cs = l.foldl (fun cs (q : Value × Nat) => cs.setIfInBounds (off + 1 + q.2 - (n + 1)) q.1) cs := by
      intro l
      induction l with
      | nil => intro cs _; rfl
      | cons q l ih2 =>
        intro cs hq
        simp only [List.foldl_cons]
        rw [show off + 1 + q.2 - (n + 1) = off + q.2 - n by omega]
        exact ih2 _ fun r hr => hq r (by simp [hr])
    rw [e _ _ (by
      intro q hq
      obtain ⟨h1, h2, _⟩ := List.mem_zipIdx hq
      exact h1), ih _ _ _ (by simp; omega)]
    have h1 : off + n - n = off := by omega
    rw [h1, Array.toList_setIfInBounds]
    have h2 : (vs.toList.set off x).take (off + 1) = vs.toList.take off ++ [x] := by
      rw [List.set_eq_take_append_cons_drop, if_pos (by simpa using hoff)]
      rw [List.take_append, List.take_of_length_le (by simp; omega)]
      simp
      have : off + 1 - min off vs.size = 1 := by omega
      rw [this]; simp
    have h3 : (vs.toList.set off x).drop (off + 1 + xs.length) = vs.toList.drop (off + (xs.length + 1)) := by
      rw [show off + 1 + xs.length = off + (xs.length + 1) by omega]
      apply List.ext_getElem?
      intro j
      rw [List.getElem?_drop, List.getElem?_drop, List.getElem?_set]
      rw [if_neg (by omega)]
    rw [h2, h3]
    simp

theorem fill_of {place : Nat → Option (Nat × Nat)} {ρ : Operand → Value} (hρ : ∀ x, Fits β (S.get x) (ρ x)) : ∀ (parts : List (Nat × Operand)) (cs : List SV) (vs : Array Value) (l : List SV), Mat β cs vs.toList →
    fillS place cs (parts.map fun q => (q.1, S.get q.2)) = some l → ∃ vs' : Array Value, Instr.fill place vs (parts.map fun q => (q.1, ρ q.2)) = some vs' ∧ Mat β l vs'.toList
  | [], cs, vs, l, hm, h => by
    simp only [List.map_nil, fillS, Option.some.injEq] at h
    subst h
    exact ⟨vs, rfl, hm⟩
  | (i, x) :: parts, cs, vs, l, hm, h => by
    simp only [List.map_cons, fillS] at h
    split at h
    · rename_i off size xs hp hxs
      split at h
      · rename_i hcond
        obtain ⟨hlen, hfit, hone⟩ := hcond
        have hcs := cells_fits (hρ x) hxs
        have hsz : (ρ x).cells.size = size := by rw [← hlen]; have := congrArg List.length hcs; simpa using this
        have hvl : vs.size = cs.length := by have := hm.1; simpa using this
        have hfold := foldl_set (ρ x).cells.toList vs off 0 (by rw [hcs]; simp; omega)
        simp only [Nat.sub_zero] at hfold
        have hm' : Mat β (setAt cs xs off) (((ρ x).cells.zipIdx.foldl (fun cs (q : Value × Nat) => cs.setIfInBounds (off + q.2) q.1) vs)).toList := by
          rw [← Array.foldl_toList, Array.toList_zipIdx]
          rw [hfold]
          unfold setAt
          have hl2 : (ρ x).cells.toList.length = xs.length := by rw [hcs]; simp
          rw [hl2]
          exact ((hm.take off).append (fits_cells (hρ x) hxs)).append (hm.drop (off + xs.length))
        obtain ⟨vs', hv, hm2⟩ := fill_of hρ parts _ _ l hm' h
        refine ⟨vs', ?_, hm2⟩
        simp only [List.map_cons, Instr.fill, hp]
        rw [if_neg (by simp; omega)]
        exact hv
      · cases h
    · cases h

theorem fits_agg {l : List SV} {vs : Array Value} (hm : Mat β l vs.toList) (hu : l.any SV.isU = false) : Fits β (.agg l) (.agg vs) := by
  right
  have := fits_any hm hu
  simp only [den, denL_eq]
  rw [← this]

theorem run_mapM_size {P : Program} {g : Field → Nat} (fs : Array Field) (h : ∀ f ∈ fs.toList, szT P f.type = some (g f)) (w : World) :
    (fs.mapM fun f => do pure (f.offset, ← sizeOf f.type) : Sem (Array (Nat × Nat))).run P w = .ok (fs.map fun f => (f.offset, g f)) w := by
  rw [Array.mapM_eq_mapM_toList]
  have : ∀ l : List Field, (∀ f ∈ l, szT P f.type = some (g f)) → (l.mapM fun f => do pure (f.offset, ← sizeOf f.type) : Sem (List (Nat × Nat))).run P w = .ok (l.map fun f => (f.offset, g f)) w := by
    intro l
    induction l with
    | nil => intro _; rfl
    | cons f l ih =>
      intro hl
      rw [List.mapM_cons]
      simp only [Sem.run_bind, run_sizeOf' (hl f (by simp)), Result.andThen_ok, Sem.run_pure, ih fun f' hf => hl f' (by simp [hf]), List.map_cons]
  rw [Sem.run_map, this _ h]
  show Result.ok _ w = _
  congr 1
  apply Array.ext'
  rw [Array.toList_map]

theorem snd_build (h : St Γ Φ β S a w) {t : TypeId} {parts : Array (Nat × Operand)} (ho : o.op = .build t parts) (he : evS Γ.P S o = some S') : Comes1 Γ Φ β S S' o a w := by
  cases hu : Γ.P.underlying t with
  | none => exfalso; unfold evS ev at he; rw [ho] at he; simp [hu] at he
  | some d =>
  cases hi : Γ.P.info? t with
  | none => exfalso; unfold evS ev at he; rw [ho] at he; simp [hu, hi] at he
  | some i =>
  cases hz : i.zero with
  | none => exfalso; unfold evS ev at he; rw [ho] at he; simp [hu, hi, hz] at he
  | some z =>
  cases hagg : aggD d && buildOk Γ.P t with
  | false => exfalso; unfold evS ev at he; rw [ho] at he; simp only [hu, hi, hz, hagg, Option.bind_some] at he; cases he
  | true =>
  cases hf : fillS (placeB Γ.P t) (z.cells.toList.map .v) (parts.toList.map fun q => (q.1, S.get q.2)) with
  | none => exfalso; unfold evS ev at he; rw [ho] at he; simp only [hu, hi, hz, hagg, hf, Option.bind_some, Option.bind_none, if_true] at he; cases he
  | some l =>
  cases hk : l.any SV.isU with
  | true => exfalso; unfold evS ev at he; rw [ho] at he; simp only [hu, hi, hz, hagg, hf, hk, Option.bind_some, if_true] at he; cases he
  | false =>
    have hev : ev Γ.P S o = some (.agg l, S.hp) := by
      unfold ev; rw [ho]; simp only [hu, hi, hz, hagg, hf, hk, Option.bind_some, if_true, Bool.false_eq_true, if_false]
    obtain ⟨vs, hv, hm⟩ := fill_of (fun x => h.eval x) parts.toList (z.cells.toList.map .v) z.cells l (mat_v _) hf
    refine of_val (v := .agg vs) h he hev ?_ (fits_agg hm hk)
    unfold execOp; rw [ho]
    have hzero : (zeroValue t).run Γ.P w = .ok z w := by simp [zeroValue, typeInfo, hi, hz]
    have hparts : (parts.map fun (q : Nat × Operand) => (q.1, a.eval q.2)).toList = parts.toList.map fun q => (q.1, a.eval q.2) := by simp
    cases d with
    | struct fs =>
      have hs : ∀ f ∈ fs.toList, (szT Γ.P f.type).isSome = true := by
        rw [Bool.and_eq_true] at hagg
        have := hagg.2
        unfold buildOk at this
        rw [hu] at this
        exact List.all_eq_true.1 this
      have hmap := run_mapM_size (P := Γ.P) (g := fun f => (szT Γ.P f.type).getD 0) fs (fun f hf => by
        have := hs f hf
        cases hq : szT Γ.P f.type with
        | none => rw [hq] at this; cases this
        | some n => rfl) w
      have hplace : (fun i => (fs.map fun f => (f.offset, (szT Γ.P f.type).getD 0))[i]?) = placeB Γ.P t := by
        funext j
        unfold placeB
        rw [hu]
        simp only [Array.getElem?_map]
        cases hj : fs[j]? with
        | none => rfl
        | some f =>
          have := hs f (Array.mem_toList_iff.2 (Array.mem_of_getElem? hj))
          simp only [Option.map_some, Option.bind_some]
          cases hq : szT Γ.P f.type with
          | none => rw [hq] at this; cases this
          | some n => rfl
      simp only [Instr.build, Sem.run_bind, hzero, Result.andThen_ok, run_underlying hu, hmap, hplace, hparts, hv, Sem.run_pure]
    | array n e =>
      cases hn : szT Γ.P e with
      | none =>
        exfalso
        rw [Bool.and_eq_true] at hagg
        have := hagg.2
        unfold buildOk at this
        rw [hu] at this
        simp only [hn] at this
        cases this
      | some sz =>
        have hplace : (fun i => some (i * sz, sz)) = placeB Γ.P t := by funext j; unfold placeB; rw [hu]; simp [hn]
        simp only [Instr.build, Sem.run_bind, hzero, Result.andThen_ok, run_underlying hu, run_sizeOf' hn, hplace, hparts, hv, Sem.run_pure]
    | _ => simp [aggD] at hagg

theorem snd_buildSlice (h : St Γ Φ β S a w) {t : TypeId} {len : Nat} {parts : Array (Nat × Operand)} (ho : o.op = .buildSlice t len parts) (he : evS Γ.P S o = some S') : Comes1 Γ Φ β S S' o a w := by
  cases hu : Γ.P.underlying t with
  | none => exfalso; unfold evS ev at he; rw [ho] at he; simp [hu] at he
  | some d =>
  cases d with
  | slice e =>
    cases hi : Γ.P.info? e with
    | none => exfalso; unfold evS ev at he; rw [ho] at he; simp [hu, hi] at he
    | some i =>
    cases hz : i.zero with
    | none => exfalso; unfold evS ev at he; rw [ho] at he; simp [hu, hi, hz] at he
    | some z =>
    by_cases hc : len * i.size ≤ 2 ^ 24 ∧ z.cells.size = i.size
    · cases hf : fillS (fun j => some (j * i.size, i.size)) ((List.range (len * i.size)).map fun j => .v (z.cells[j % z.cells.size]!)) (parts.toList.map fun q => (q.1, S.get q.2)) with
      | none => exfalso; unfold evS ev at he; rw [ho] at he; simp only [hu, hi, hz, if_pos hc, hf, Option.map_none] at he; cases he
      | some l =>
        have hev : ev Γ.P S o = some (.s S.hp.length 0 len len, S.hp ++ [.c l e]) := by
          unfold ev; rw [ho]; simp only [hu, hi, hz, if_pos hc, hf, Option.map_some]
        have hsz : szT Γ.P e = some i.size := by simp [szT, hi]
        obtain ⟨vs, hv, hm⟩ := fill_of (fun x => h.eval x) parts.toList _ ((List.range (len * i.size)).map fun j => z.cells[j % z.cells.size]!).toArray l (by
          have := mat_v (β := β) ((List.range (len * i.size)).map fun j => z.cells[j % z.cells.size]!)
          simpa [List.map_map, Function.comp_def] using this) hf
        have hbd : l.all (SV.bd S.hp.length) = true := by
          have gen : ∀ (ps : List (Nat × Operand)) (cs l : List SV), cs.all (SV.bd S.hp.length) = true → fillS (fun j => some (j * i.size, i.size)) cs (ps.map fun q => (q.1, S.get q.2)) = some l → l.all (SV.bd S.hp.length) = true := by
            intro ps
            induction ps with
            | nil => intro cs l hcs hl; simp only [List.map_nil, fillS, Option.some.injEq] at hl; subst hl; exact hcs
            | cons q ps ih =>
              intro cs l hcs hl
              simp only [List.map_cons, fillS] at hl
              split at hl
              · rename_i off size xs hp hxs
                split at hl
                · refine ih _ l ?_ hl
                  unfold setAt
                  simp only [List.all_append, Bool.and_eq_true]
                  have hin : ∀ {l' : List SV}, (∀ x ∈ l', x ∈ cs) → l'.all (SV.bd S.hp.length) = true := fun hs => List.all_eq_true.2 fun x hx => List.all_eq_true.1 hcs x (hs x hx)
                  refine ⟨⟨hin fun x hx => List.mem_of_mem_take hx, ?_⟩, hin fun x hx => List.mem_of_mem_drop hx⟩
                  exact cells_bd (get_bd h.bd q.2) hxs
                · cases hl
              · cases hl
          refine gen parts.toList _ l ?_ hf
          simp [List.all_eq_true, SV.bd, SV.ok]
        refine of_new (by rw [ho]; rfl) (v := .slice (some ⟨w.heap.size, 0, none⟩) len len) (vs := vs) h he hev ?_ (.inr (by simp [den, upd])) (hm.congr (upd_lt β S.hp.length w.heap.size) hbd)
        · unfold execOp; rw [ho]
          have hparts : (parts.map fun (q : Nat × Operand) => (q.1, a.eval q.2)).toList = parts.toList.map fun q => (q.1, a.eval q.2) := by simp
          have hzero : (zeroValue e).run Γ.P w = .ok z w := by simp [zeroValue, typeInfo, hi, hz]
          simp only [Instr.buildSlice, Sem.run_bind, run_underlying hu, Result.andThen_ok, run_sizeOf' hsz]
          rw [if_neg (by omega)]
          by_cases h0 : len * i.size = 0
          · have hv0 : Instr.fill (fun j => some (j * i.size, i.size)) (Array.map (fun j => (#[] : Array Value)[j % (#[] : Array Value).size]!) (Array.range (len * i.size))) (parts.map fun (q : Nat × Operand) => (q.1, a.eval q.2)).toList = some vs := by
              rw [hparts, ← hv, h0]
              congr 1
              apply Array.ext'
              simp [Array.toList_range]
            simp only [if_pos h0, Sem.run_bind, Sem.run_pure, Result.andThen_ok, hv0, newRow, run_newObj]
            rfl
          · have hv0 : Instr.fill (fun j => some (j * i.size, i.size)) (Array.map (fun j => z.cells[j % z.cells.size]!) (Array.range (len * i.size))) (parts.map fun (q : Nat × Operand) => (q.1, a.eval q.2)).toList = some vs := by
              rw [hparts, ← hv]
              congr 1
              apply Array.ext'
              simp [Array.toList_range]
            simp only [if_neg h0, Sem.run_bind, hzero, Sem.run_pure, Result.andThen_ok, hv0, newRow, run_newObj]
            rfl
    · exfalso; unfold evS ev at he; rw [ho] at he; simp only [hu, hi, hz, if_neg hc] at he; cases he
  | _ => exfalso; unfold evS ev at he; rw [ho] at he; simp [hu] at he

theorem snd_makeInterface (h : St Γ Φ β S a w) {t : TypeId} {x : Operand} (ho : o.op = .makeInterface t x) (he : evS Γ.P S o = some S') : Comes1 Γ Φ β S S' o a w := by
  cases hu : Γ.P.underlying t with
  | none => exfalso; unfold evS ev at he; rw [ho] at he; simp [hu] at he
  | some d =>
    by_cases hd : ∃ ms, d = .interface ms
    · obtain ⟨ms, rfl⟩ := hd
      exfalso; unfold evS ev at he; rw [ho] at he; simp [hu] at he
    · have hx : S.get x ≠ .u := by
        intro hx
        unfold evS ev at he; rw [ho] at he
        cases d <;> first | (simp [hu, hx] at he; done) | exact hd ⟨_, rfl⟩
      have hev : ev Γ.P S o = some (.ifc t (S.get x), S.hp) := by
        unfold ev; rw [ho]
        cases d <;> first | (exfalso; exact hd ⟨_, rfl⟩) | (simp only [hu]; done) | (simp only [hu]; cases hg : S.get x <;> first | (exact absurd hg hx) | rfl)
      refine of_val (v := .iface t (a.eval x)) h he hev ?_ (.inr (by rw [(h.eval x).known hx]; rfl))
      unfold execOp; rw [ho]
      simp only [Instr.makeInterface, Sem.run_bind, run_underlying hu, Result.andThen_ok]
      cases d <;> first | (exfalso; exact hd ⟨_, rfl⟩) | rfl

theorem snd_len (h : St Γ Φ β S a w) {args : Array Operand} {argTypes : Array TypeId} (ho : o.op = .call { callee := .builtin .len, args, argTypes }) (he : evS Γ.P S o = some S') : Comes1 Γ Φ β S S' o a w := by
  have hargs : ∃ x, args.toList = [x] := by
    unfold evS ev at he; rw [ho] at he
    simp only at he
    cases hl : args.toList with
    | nil => rw [hl] at he; simp at he
    | cons x l =>
      cases l with
      | nil => exact ⟨x, rfl⟩
      | cons y l => rw [hl] at he; simp at he
  obtain ⟨x, hx⟩ := hargs
  have hax : args = #[x] := by apply Array.ext'; simp [hx]
  subst hax
  cases ht : argTypes[0]? with
  | none => exfalso; unfold evS ev at he; rw [ho] at he; simp [ht] at he
  | some t =>
  cases hu : Γ.P.underlying t with
  | none => exfalso; unfold evS ev at he; rw [ho] at he; simp [ht, hu] at he
  | some d =>
    have hrun : ∀ v y, (Builtin.len_ argTypes o.type #[a.eval x]).run Γ.P w = .ok v w → ev Γ.P S o = some (y, S.hp) → Fits β y v → Comes1 Γ Φ β S S' o a w := by
      intro v y hv hev hf
      refine of_val h he hev ?_ hf
      unfold execOp; rw [ho]
      simp only [resolve, Sem.run_bind, Sem.run_pure, Result.andThen_ok, invoke, builtin, List.map_toArray, List.map_cons, List.map_nil, hv]
    cases d with
    | slice e =>
      cases hg : S.get x with
      | v z =>
        cases z with
        | slice q n c =>
          refine hrun (goInt n) (.v (.int .i64 n)) ?_ (by unfold ev; rw [ho]; simp only [ht, hu, hg, Option.bind_some]) (.inr rfl)
          simp [Builtin.len_, ht, run_underlying hu, fits_v h hg]
        | _ => exfalso; unfold evS ev at he; rw [ho] at he; simp [ht, hu, hg] at he
      | s i off n cap =>
        have hxe : a.eval x = .slice (some ⟨β i, off, none⟩) n cap := ((h.eval x).known (by rw [hg]; simp)).trans (by rw [hg]; rfl)
        refine hrun (goInt n) (.v (.int .i64 n)) ?_ (by unfold ev; rw [ho]; simp only [ht, hu, hg, Option.bind_some]) (.inr rfl)
        simp [Builtin.len_, ht, run_underlying hu, hxe]
      | _ => exfalso; unfold evS ev at he; rw [ho] at he; simp [ht, hu, hg] at he
    | string =>
      cases hg : S.get x with
      | v z =>
        cases z with
        | string b =>
          refine hrun (goInt b.size) (.v (.int .i64 b.size)) ?_ (by unfold ev; rw [ho]; simp only [ht, hu, hg, Option.bind_some]) (.inr rfl)
          simp [Builtin.len_, ht, run_underlying hu, fits_v h hg]
        | _ => exfalso; unfold evS ev at he; rw [ho] at he; simp [ht, hu, hg] at he
      | _ => exfalso; unfold evS ev at he; rw [ho] at he; simp [ht, hu, hg] at he
    | array n e =>
      refine hrun (goInt n) (.v (.int .i64 n)) ?_ (by unfold ev; rw [ho]; simp only [ht, hu, Option.bind_some]) (.inr rfl)
      simp [Builtin.len_, ht, run_underlying hu]
    | _ => exfalso; unfold evS ev at he; rw [ho] at he; simp [ht, hu] at he

/-- Every plain operation. -/
theorem evS_sound (h : St Γ Φ β S a w) (he : evS Γ.P S o = some S') : Comes1 Γ Φ β S S' o a w := by
  cases ho : o.op with
  | move x => exact snd_move h (.inl ho) he
  | assign x => exact snd_move h (.inr ho) he
  | pick c x y => exact snd_pick h ho he
  | alloc e => exact snd_alloc h ho he
  | box e x => exact snd_box h ho he
  | build t ps => exact snd_build h ho he
  | buildSlice t n ps => exact snd_buildSlice h ho he
  | load t x => exact snd_load h ho he
  | store t p x => exact snd_store h ho he
  | nilCheck x => exact snd_nilCheck h ho he
  | binOp op t x y u => exact snd_binOp h ho he
  | unOp op t x => exact snd_unOp h ho he
  | convert s d x => exact snd_convert h ho he
  | makeInterface t x => exact snd_makeInterface h ho he
  | makeFunc f x y => exact snd_makeFunc h ho he
  | fieldAddr t x f => exact snd_fieldAddr h ho he
  | field t x f => exact snd_field h ho he
  | index t x i => exact snd_index h ho he
  | extract t i => exact snd_extract h ho he
  | call c =>
    obtain ⟨callee, args, argTypes⟩ := c
    cases callee with
    | builtin b =>
      cases b with
      | len => exact snd_len h ho he
      | _ => exfalso; unfold evS ev at he; rw [ho] at he; simp at he
    | _ => exfalso; unfold evS ev at he; rw [ho] at he; simp at he
  | _ => exfalso; unfold evS ev at he; rw [ho] at he; simp at he

theorem wanted_of {ops : Array Oper} {b : Bool} (h : St Γ Φ β S a w) (hw : wantS ops S o = some b) : Region.wanted o (yielded ops a.tmps) = b := by
  unfold wantS at hw
  unfold Region.wanted
  cases hg : o.guard with
  | none => rw [hg] at hw; simpa using hw
  | some q =>
    obtain ⟨j, want⟩ := q
    rw [hg] at hw
    simp only at hw ⊢
    cases hd : (ops[j]?).bind (·.dst) with
    | none => rw [hd] at hw; cases hw
    | some d =>
      rw [hd] at hw
      simp only at hw
      split at hw
      · rename_i t hf
        cases hw
        obtain ⟨v, hv, hfit⟩ := h.fr.get hf
        have hv' : v = .bool t := (hfit.known (by simp)).trans rfl
        have : a.tmps[d]? = some (.bool t) := by rw [← hv', ← hv]; simp
        simp [yielded, hd, this]
      · rename_i vs hf
        cases hw
        obtain ⟨v, hv, hfit⟩ := h.fr.get hf
        have hv' : v = .tuple vs := (hfit.known (by simp)).trans rfl
        have : a.tmps[d]? = some (.tuple vs) := by rw [← hv', ← hv]; simp
        simp [yielded, hd, this]
      · cases hw

/-- One operation in a list. -/
theorem At.step {ops : Array Oper} {l : List Oper} {Q : Exit → Act → World → Prop} (hs : stepS Γ.P ops S o = some S') (k : At Γ Φ S' fun a w => wpList Γ.P ops Q l a w) :
    At Γ Φ S fun a w => wpList Γ.P ops Q (o :: l) a w := by
  intro β a w h
  unfold stepS at hs
  split at hs
  · rename_i hw
    unfold wpList
    rw [if_pos (wanted_of h hw)]
    obtain ⟨v, w', β', r, hr, hv, hst, _⟩ := evS_sound h hs
    left
    unfold Oper.wp
    rw [hr]
    rcases hv with rfl | ⟨rfl, rfl⟩
    · exact k β' _ _ hst
    · exact k β' _ _ hst
  · rename_i hw
    cases hs
    unfold wpList
    rw [if_neg (by rw [wanted_of h hw]; simp)]
    refine k β _ _ (h.put o.dst (.inr rfl) ?_)
    have := h.bd
    unfold SS.bd at this ⊢
    rw [put_hp]
    rw [Bool.and_eq_true] at this ⊢
    refine ⟨?_, this.2⟩
    cases o.dst with
    | none => exact this.1
    | some d =>
      simp only [SS.put]
      rw [List.all_eq_true] at this ⊢
      intro x hx
      rcases List.mem_or_eq_of_mem_set hx with hx | rfl
      · exact this.1 x hx
      · rfl
  · cases hs

theorem At.run {ops : Array Oper} {Q : Exit → Act → World → Prop} : ∀ (l l' : List Oper) (S : SS), runS Γ.P ops l S = some S' → At Γ Φ S' (fun a w => wpList Γ.P ops Q l' a w) → At Γ Φ S fun a w => wpList Γ.P ops Q (l ++ l') a w
  | [], l', S, h, k => by cases h; exact k
  | o :: l, l', S, h, k => by
    unfold runS at h
    split at h
    · rename_i S1 h1
      exact At.step h1 (At.run l l' S1 h k)
    · cases h
end
end Go.Sx
