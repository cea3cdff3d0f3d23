/- SxD: calls that are lent the caller's rows. General: no program. -/
import Derived.Test.YtgkjblbmiooedaaSxC
namespace Go.Sx
open Go.RowKit
section
variable {Γ : Ctx} {Φ : Phi} {S S' : SS} {Q : Exit → Act → World → Prop}

/-- A call that is lent the caller's rows: it may read them, and what it tells does not hang on them. -/
theorem At.callT {ops : Array Oper} {rest : List Oper} {o : Oper} {fo : Operand} {args : Array Operand} {argTypes : Array TypeId} (ho : o.op = .call { callee := .value fo, args, argTypes })
    (hw : wantS ops S o = some true) (f : FuncId) (first caps : List SV) (hfn : fnOf (S.get fo) = some (f, first, caps)) {fn : Func} (hf : Γ.P.funcs[f]? = some fn) (hbody : fn.body.isSome = true) (hname : (fn.name == "runtime.NumGoroutine") = false)
    (av : List SV) (hav : first ++ args.toList.map S.get ++ caps = av.map (SV.ren (inR []))) (hu : av.any SV.isU = false)
    {T : Type} {rv : T → SV} {hps : T → List Blk} {F : T → Prop} (hnf : ∀ (t : T) (i g : Nat) (cs : List Value) (ty : TypeId), (hps t)[i]? ≠ some (Blk.f g cs ty))
    (hC : ∀ Φ' : Phi, PhiLe 0 Φ Φ' → (∀ (i : Nat) (A : Option Addr) (n c : Nat) (xs : List Value) (e : TypeId) (sz : Nat), S.hp[i]? = some (.o (.slice A n c) n xs e sz) → RdC Φ' A xs) → CallR Γ.P f av [] Φ' T rv hps fun t _ => F t)
    (k : ∀ t, F t → ∃ S', mergeS S [] o.dst (rv t) (hps t) = S' ∧ S'.bd = true ∧ At Γ Φ S' (wpList Γ.P ops Q rest)) :
    At Γ Φ S (wpList Γ.P ops Q (o :: rest)) := by
  intro β a w h
  unfold wpList
  rw [if_pos (wanted_of h hw)]
  left
  let Φp : Phi := fun b => match Φ b with
    | some cs => some cs
    | none => match w.heap[b]? with
      | some (.cells cs t z) => some (.cells cs t z)
      | _ => none
  have hle : PhiLe 0 Φ Φp := ⟨fun b cs hb => by show (match Φ b with | some cs => some cs | none => _) = _; rw [hb], fun _ h => by omega⟩
  have hsto : Sto Φp w := by
    intro b cs hb
    cases hΦ : Φ b with
    | some cs' =>
      have := hle.1 b cs' hΦ
      rw [hb] at this
      cases this
      exact h.sto b cs hΦ
    | none =>
      have hb' : (match w.heap[b]? with | some (.cells cs t z) => some (.cells cs t z) | _ => none) = some cs := by
        have : Φp b = (match w.heap[b]? with | some (.cells cs t z) => some (.cells cs t z) | _ => none) := by
          show (match Φ b with | some cs => some cs | none => _) = _
          rw [hΦ]
        rw [← this]; exact hb
      split at hb'
      · rename_i cs' t z hw'
        cases hb'
        exact ⟨hw', rfl⟩
      · cases hb'
  have hrows : ∀ (i : Nat) (A : Option Addr) (n c : Nat) (xs : List Value) (e : TypeId) (sz : Nat), S.hp[i]? = some (.o (.slice A n c) n xs e sz) → RdC Φp A xs := by
    intro i A n c xs e sz hi hp
    obtain ⟨h1, h2⟩ := h.own.o i _ n xs e sz hi
    rcases h2 with ⟨_, h2⟩ | ⟨g, cap, cur, hv, _, hg, h3, h4, h5, h6⟩
    · rw [h2] at h1; simp at h1; rw [h1] at hp; simp at hp
    · injection hv with hv1 hv2 hv3
      subst hv1
      have hno : Φ g = none := h.own.phi i _ g hi rfl
      refine ⟨g, 0, cur, e, (0, 0), rfl, ?_, fun j u hj => ?_⟩
      · show (match Φ g with | some cs => some cs | none => match w.heap[g]? with | some (.cells cs t z) => some (.cells cs t z) | _ => none) = _
        rw [hno, hg]
      · rw [← h6, List.getElem?_take] at hj
        split at hj
        · rw [Nat.zero_add]; simpa using hj
        · cases hj
  have hcall := hC Φp hle hrows (fun i => β (inR [] i)) w hsto ⟨fun i cs t hi => by simp at hi, fun i v n xs t sz hi => by simp at hi, fun i j bi bj k hi => by simp at hi, fun i b k hi => by simp at hi, fun i g cs t hi => by simp at hi⟩
  -- the arguments are what the contract says
  have hargs : ∃ av', (args.toList.map a.eval) = av' ∧ (denL β first ++ av' ++ denL β caps) = av.map (den fun i => β (inR [] i)) := by
    refine ⟨_, rfl, ?_⟩
    have h1 : args.toList.map a.eval = (args.toList.map S.get).map (den β) := by
      rw [List.map_map]
      refine List.map_congr_left fun x hx => ?_
      refine (h.eval x).known fun hxu => ?_
      have hmem : S.get x ∈ av.map (SV.ren (inR [])) := by
        rw [← hav]
        exact List.mem_append_left _ (List.mem_append_right _ (List.mem_map.2 ⟨x, hx, rfl⟩))
      rw [hxu] at hmem
      obtain ⟨y, hy, hyu⟩ := List.mem_map.1 hmem
      have : y = .u := ren_u.1 hyu
      subst this
      have := List.any_eq_false.1 hu _ hy
      simp [SV.isU] at this
    rw [h1, denL_eq, denL_eq, ← List.map_append, ← List.map_append, hav, List.map_map]
    refine List.map_congr_left fun y _ => ?_
    exact den_ren β (inR []) y
  obtain ⟨av', hav', hargs⟩ := hargs
  have hrun : (execOp a.eval o).run Γ.P w = .ok (.enter f (av.map (den fun i => β (inR [] i))).toArray) w := by
    unfold execOp
    rw [ho]
    have hdef : ∃ fa ca : Array Value, a.eval fo = .func (.func f) fa ca ∧ fa.toList = denL β first ∧ ca.toList = denL β caps := by
      cases hg : S.get fo with
      | v z =>
        rw [hg] at hfn
        cases z with
        | func k fa ca =>
          cases k with
          | func f' =>
            simp only [fnOf, Option.some.injEq, Prod.mk.injEq] at hfn
            obtain ⟨rfl, rfl, rfl⟩ := hfn
            refine ⟨fa, ca, fits_v h hg, ?_, ?_⟩
            · rw [denL_eq, List.map_map]; exact (List.map_id _).symm
            · rw [denL_eq, List.map_map]; exact (List.map_id _).symm
          | _ => simp [fnOf] at hfn
        | _ => simp [fnOf] at hfn
      | fn k l =>
        rw [hg] at hfn
        cases k with
        | func f' =>
          simp only [fnOf, Option.some.injEq, Prod.mk.injEq] at hfn
          obtain ⟨rfl, rfl, rfl⟩ := hfn
          exact ⟨#[], (denL β l).toArray, ((h.eval fo).known (by rw [hg]; simp)).trans (by rw [hg]; rfl), rfl, by simp⟩
        | _ => simp [fnOf] at hfn
      | _ => rw [hg] at hfn; simp [fnOf] at hfn
    obtain ⟨fa, ca, hfe, hfa, hca⟩ := hdef
    have hb : fn.body.isNone = false := by cases hq : fn.body <;> simp_all
    simp only [resolve, hfe, Deferred.ofValue, Sem.run_bind, Sem.run_pure, Result.andThen_ok, invoke, callFunc, run_program, hf, hname, hb]
    simp only [Bool.false_eq_true, if_false, Sem.run_pure]
    congr 2
    apply Array.ext'
    have hargs' : denL β first ++ args.toList.map a.eval ++ denL β caps = av.map (den fun i => β (inR [] i)) := by rw [hav']; exact hargs
    rw [← hargs', ← hfa, ← hca]
    simp
  unfold Oper.wp
  rw [hrun]
  refine hcall.mono fun e w' hR => ?_
  obtain ⟨Φ', β', hp', es, h1, h2, h3, h4, h5, h6, h7, h8, h9, h10, t, rfl, rfl, hF⟩ := hR
  have hle' : PhiLe 0 Φ Φ' := ⟨fun b cs hb => h9.1 b cs (hle.1 b cs hb), fun _ h => by omega⟩
  obtain ⟨S', rfl, hbd, hk⟩ := k t hF
  have he : e = .returned (den β' (rv t)) := h1
  subst he
  have hown' : Own β' (hps t) Φ w' := ⟨h6.c, h6.o, h6.inj, fun i b k hi hk => by
    have := h6.phi i b k hi hk
    cases hΦ : Φ k with
    | none => rfl
    | some cs => rw [hle'.1 k cs hΦ] at this; (cases this), fun i g cs ty hi => absurd hi (hnf t i g cs ty)⟩
  have hstoΦ : Sto Φ w' := fun b cs hb => h7 b cs (hle'.1 b cs hb)
  obtain ⟨β₁, hst⟩ := h.called (idx := []) (hpI := []) List.nodup_nil rfl (fun j i h => by simp at h) (Nat.zero_le _) (fun i hi => by simp at hi) hown' hstoΦ
    ⟨h8.os, h8.tape, h8.output, h8.size, fun k hk _ => h8.block k hk (by rintro ⟨i, b, hb, _⟩; simp at hb)⟩ ⟨fun _ _ h => h, fun _ _ _ => rfl⟩ (fun i b k hi hk => by
      rcases h10 i b k hi hk with h' | ⟨_, b', h', _⟩
      · exact .inl h'
      · simp at h') (a.put o.dst (den β' (rv t))) (mergeS S [] o.dst (rv t) (hps t)).fr (by rw [Act.put_df]; exact h.df) (fun β₁ e1 e2 => by
    refine (h.fr.congr (n := S.hp.length) (fun i hi => (e1 i hi).symm) (SS.bd_fr h.bd)).put o.dst ?_
    right
    rw [den_ren]
    exact den_congr (n := (hps t).length) (fun i hi => (e2 i hi).symm) (rv t) h2) _ rfl hbd h3
  exact hk β₁ _ _ hst
end
end Go.Sx
