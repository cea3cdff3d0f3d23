/- SyH: calls that may be left by an error that is recovered from. General: no program. -/
import Derived.Test.YtgkjblbmiooedaaSyG
namespace Go.Sx
open Go.RowKit

section
variable {A R : Type} {Γ : Ctx} {Q : R → QT} {Φ : Phi} {m : MS} {o : Option A} {K : A → Option R} {L : List En}

def taM (P : Program) (m : MS) : Option Value :=
  match opM m with
  | some o => match o.op with
    | .typeAssert x _ t true => match m.s.get x with
      | .v (.iface t' v) => match Nat.beq t' t, P.underlying t with
        | true, some (.interface _) => none
        | true, some _ => some v
        | _, _ => none
      | _ => none
    | _ => none
  | none => none
theorem W.ta (q : Nat) (v : Value) (k : W Γ Q Φ (putM (GM Γ Φ q m) (.tup [.v v, .v (.bool true)])) o K) (h : taM Γ.P (GM Γ Φ q m) = some v := by kernel_rfl) : W Γ Q Φ m o K := by
  refine ⟨fun r hr => AtM.go q ?_⟩
  have k1 := k.run r hr
  unfold taM at h
  split at h
  · rename_i o' ho
    split at h
    · rename_i x xt t hop
      split at h
      · rename_i t' v' hx
        split at h
        · cases h
        · rename_i d hd e hu
          cases h
          have e' := Nat.eq_of_beq_eq_true e
          subst e'
          exact AtM.val ho _ rfl (Val.assert hop hu hd hx) k1
        · cases h
      · cases h
    · cases h
  · cases h
def nnM (P : Program) (m : MS) : Option Bool :=
  match opM m with
  | some o => match o.op with
    | .binOp op t x (.const .nilIface) _ => match m.s.get x, P.underlying t, op with
      | .v .nilIface, some (.interface _), .eql => some true
      | .v .nilIface, some (.interface _), .neq => some false
      | _, _, _ => none
    | _ => none
  | none => none
theorem W.nn (q : Nat) (b : Bool) (k : W Γ Q Φ (putM (GM Γ Φ q m) (.v (.bool b))) o K) (h : nnM Γ.P (GM Γ Φ q m) = some b := by kernel_rfl) : W Γ Q Φ m o K := by
  refine ⟨fun r hr => AtM.go q ?_⟩
  have k1 := k.run r hr
  unfold nnM at h
  split at h
  · rename_i o' ho
    split at h
    · rename_i op t x u hop
      split at h
      · rename_i ms hx hu
        cases h
        exact AtM.val ho _ rfl (Val.nilnil hop hu hx true (.inl ⟨rfl, rfl⟩)) k1
      · rename_i ms hx hu
        cases h
        exact AtM.val ho _ rfl (Val.nilnil hop hu hx false (.inr ⟨rfl, rfl⟩)) k1
      · cases h
    · cases h
  · cases h
end

/- known boxes that are handed by their addresses -/
def gsOf (hpf : List Blk) (i : Nat) : Nat := match hpf[i]? with | some (.f g _ _) => g | _ => 0
def unfN : Nat → (Nat → Nat) → SV → SV
  | 0, _, x => x
  | n + 1, gs, x => (unfN n gs x).nm n (gs n)
def Blk.isF : Blk → Bool
  | .f _ _ _ => true
  | _ => false
theorem den_unfN (gs : Nat → Nat) (x : SV) : ∀ n, den gs (unfN n gs x) = den gs x
  | 0 => rfl
  | n + 1 => by rw [unfN, den_nm rfl, den_unfN gs x n]
theorem isO_bid {b : Blk} (h : b.isO = true) (β β' : Nat → Nat) (i j : Nat) : b.bid β i = b.bid β' j := by
  cases b <;> first | rfl | cases h
theorem CallG.unf {P : Program} {f : FuncId} {av : List SV} {hpf : List Blk} {Φ : Phi} {post : Post} (hC : CallG P f av hpf Φ post) (hF : hpf.all Blk.isF = true)
    (hΦ : ∀ (i g : Nat) (cs : List Value) (t : TypeId), hpf[i]? = some (.f g cs t) → Φ g = some (.cells cs.toArray t (0, 0)))
    (h0 : (av.map (unfN hpf.length (gsOf hpf))).all (SV.ok 0) = true) (hO : ∀ Φ' es full, post Φ' es full → es.bd 0 = true ∧ (full.drop hpf.length).all Blk.isO = true) :
    CallG P f (av.map (unfN hpf.length (gsOf hpf))) [] Φ (fun Φ' es hp' => ∃ full, post Φ' es full ∧ hp' = full.drop hpf.length) := by
  intro β w hs ho
  have hFf : ∀ {i : Nat} {b : Blk}, hpf[i]? = some b → ∃ g cs t, b = .f g cs t ∧ gsOf hpf i = g := by
    intro i b hi
    have h1 := List.all_eq_true.1 hF b (List.mem_of_getElem? hi)
    cases b with
    | f g cs t => exact ⟨g, cs, t, rfl, by unfold gsOf; rw [hi]⟩
    | _ => cases h1
  have hown : Own (gsOf hpf) hpf Φ w := by
    refine ⟨fun i cs t hi => ?_, fun i v n xs t sz hi => ?_, fun i j bi bj k hi hj li lj => ?_, fun i b k hi hk => ?_, fun i g cs t hi => ⟨?_, hΦ i g cs t hi⟩⟩
    · obtain ⟨_, _, _, e, _⟩ := hFf hi; cases e
    · obtain ⟨_, _, _, e, _⟩ := hFf hi; cases e
    · obtain ⟨_, _, _, e, _⟩ := hFf hi; subst e; cases li
    · obtain ⟨_, _, _, e, _⟩ := hFf hi; subst e; cases hk
    · obtain ⟨_, _, _, e, e2⟩ := hFf hi; cases e; exact e2
  have hcall := hC (gsOf hpf) w hs hown
  have hargs : av.map (den (gsOf hpf)) = (av.map (unfN hpf.length (gsOf hpf))).map (den β) := by
    rw [List.map_map]
    refine List.map_congr_left fun x hx => ?_
    have h1 := List.all_eq_true.1 h0 _ (List.mem_map_of_mem (f := unfN hpf.length (gsOf hpf)) hx)
    show _ = den β (unfN hpf.length (gsOf hpf) x)
    rw [← den_unfN (gsOf hpf) x hpf.length]
    exact den_congr (n := 0) (fun i hi => by omega) _ h1
  rw [hargs] at hcall
  refine hcall.mono fun e w' hR => ?_
  obtain ⟨Φ', β', full, es, h1, h2, h3, h4, h5, h6, h7, h8, h9, h10, h11⟩ := hR
  obtain ⟨hb0, hOs⟩ := hO Φ' es full h11
  have hOb : ∀ {i : Nat} {b : Blk}, (full.drop hpf.length)[i]? = some b → b.isO = true ∧ full[hpf.length + i]? = some b := by
    intro i b hi
    refine ⟨List.all_eq_true.1 hOs b (List.mem_of_getElem? hi), ?_⟩
    rw [List.getElem?_drop] at hi; exact hi
  refine ⟨Φ', β', full.drop hpf.length, es, h1, ?_, ?_, Nat.zero_le _, (fun i hi => absurd hi (Nat.not_lt_zero i)), ⟨?_, ?_, ?_, ?_, ?_⟩, h7, ?_, ⟨h9.1, fun b hb hn => h9.2 b hb fun ⟨i, b', hi, hb'⟩ => by
    obtain ⟨g, cs, t, e, _⟩ := hFf hi; subst e; cases hb'⟩, ?_, full, h11, rfl⟩
  · cases es with
    | ret x => exact ok_le (Nat.zero_le _) x hb0
    | pan _ => rfl
  · rw [List.all_eq_true]
    intro b hb
    have := List.all_eq_true.1 hOs b hb
    cases b <;> first | rfl | cases this
  · intro i cs t hi; cases (hOb hi).1
  · intro i v n xs t sz hi; exact h6.o _ v n xs t sz (hOb hi).2
  · intro i j bi bj k hi hj li lj
    have := h6.inj _ _ bi bj k (hOb hi).2 (hOb hj).2 (by rw [isO_bid (hOb hi).1 β' β' _ i]; exact li) (by rw [isO_bid (hOb hj).1 β' β' _ j]; exact lj)
    omega
  · intro i b k hi hk
    exact h6.phi _ b k (hOb hi).2 (by rw [isO_bid (hOb hi).1 β' β' _ i]; exact hk)
  · intro i g cs t hi; cases (hOb hi).1
  · refine ⟨h8.os, h8.tape, h8.output, h8.size, fun k hk hn => h8.block k hk fun ⟨i, b, hi, hb⟩ => ?_⟩
    obtain ⟨g, cs, t, e, _⟩ := hFf hi; subst e; cases hb
  · intro i b k hi hk
    rcases h10 _ b k (hOb hi).2 (by rw [isO_bid (hOb hi).1 β' β' _ i]; exact hk) with h | ⟨_, b', hb', hk'⟩
    · exact .inl h
    · obtain ⟨g, cs, t, e, _⟩ := hFf hb'; subst e; cases hk'

section
variable {A R X : Type} {Γ : Ctx} {Q : R → QT} {Φ : Phi} {m : MS} {o : Option A} {K : A → Option R} {L : List En}
variable {g : Option (Ex X)} {F : X → Option A} {f : FuncId} {av : List SV} {pn : Int → A} {T0 : TypeId}

/-- A call that may be left by an error, in a function that recovers from it. -/
theorem WN.callD (q : Nat) {τ : Type} {rv : X → τ → SV} {hps : X → τ → List Blk} {ens : X → τ → List En} (idx : List Nat) {hpf : List Blk} (H : Reps Φ L) (hC : ∀ x, g = some x → CallG Γ.P f av hpf Φ (ePost T0 hpf.length (fun x => tPost (rv x) (hps x) (ens x)) x))
    (k : ∀ x t Φ', g = some (.ok x) → Reps Φ' (ens x t ++ L) → WN Γ Q Φ' (retM (GN Γ Φ q m) [] (rv x t) ((hps x t).drop hpf.length)) (F x) K)
    (kp : ∀ e Φ', Reps Φ' L → ∀ r, K (pn e) = some r → At Γ Φ' (GN Γ Φ q m).s (Q r (.panic (ech T0 e))))
    (h : callM (GN Γ Φ q m) = some (f, av.map (unfN hpf.length (gsOf hpf))) := by kernel_rfl) (hu : (av.map (unfN hpf.length (gsOf hpf))).any SV.isU = false := by kernel_rfl) (hc : callable Γ.P f = true := by kernel_rfl)
    (hsub : idx.map ((GN Γ Φ q m).s.hp[·]?) = hpf.map some := by kernel_rfl) (hF : hpf.all Blk.isF = true := by kernel_rfl) (h0 : (av.map (unfN hpf.length (gsOf hpf))).all (SV.ok 0) = true := by kernel_rfl)
    (hr0 : ∀ x t, (rv x t).ok 0 = true := by (intro _ _; kernel_rfl)) (hrO : ∀ x t, ((hps x t).drop hpf.length).all Blk.isO = true := by (intro _ _; kernel_rfl))
    (hbd : ∀ x t, (retM (GN Γ Φ q m) [] (rv x t) ((hps x t).drop hpf.length)).s.bd = true := by (intro _ _; kernel_rfl)) (hav : (av.map (unfN hpf.length (gsOf hpf))).map (SV.ren (inR [])) = av.map (unfN hpf.length (gsOf hpf)) := by kernel_rfl) : WN Γ Q Φ m (g.bind (Ex.k pn F)) K := by
  refine ⟨fun r hr => ?_⟩
  obtain ⟨x, hx, hF'⟩ := Option.bind_eq_some_iff.1 (by rw [Option.bind_assoc] at hr; exact hr)
  refine AtN.go q ?_
  generalize hm1 : goN Γ.P Φ q m = m1
  simp only [GN, hm1] at k kp h hsub hbd
  intro hd
  unfold callM at h
  repeat' split at h
  all_goals first | cases h; done | skip
  rename_i o' ho _ fo args aty hop _ f' first caps hfn
  simp only [Option.some.injEq, Prod.mk.injEq] at h
  obtain ⟨rfl, hav'⟩ := h
  obtain ⟨all, l, k', hk, hw, hp, hdst⟩ := opM_spec ho
  obtain ⟨fs, S⟩ := m1
  simp only at hk hw hav' k kp hfn hsub hd hbd ⊢; subst hk
  intro β a w hst
  have hΦ : ∀ (i g : Nat) (cs : List Value) (t : TypeId), hpf[i]? = some (.f g cs t) → Φ g = some (.cells cs.toArray t (0, 0)) := by
    intro i g cs t hi
    have h1 : (hpf.map some)[i]? = some (some (.f g cs t)) := by rw [List.getElem?_map, hi]; rfl
    rw [← hsub, List.getElem?_map] at h1
    cases h2 : idx[i]? with
    | none => rw [h2] at h1; simp at h1
    | some j => rw [h2] at h1; simp at h1; exact (hst.own.f j g cs t h1).2
  have hC' := CallG.unf (hC x hx) hF hΦ h0 (by
    intro Φ' es full hpost
    cases x with
    | ok x => obtain ⟨t, rfl, rfl, _⟩ := hpost; exact ⟨hr0 x t, hrO x t⟩
    | pan e => obtain ⟨rfl, rfl⟩ := hpost; exact ⟨rfl, by simp⟩)
  unfold callable at hc
  split at hc
  · rename_i fn hf
    rw [Bool.and_eq_true, Bool.not_eq_true'] at hc
    refine At.call hop hw f' first caps hfn fn hf hc.1 hc.2 [] _ [] (hav'.trans hav.symm) hu List.nodup_nil rfl (fun j i hj => by simp at hj) hC' ?_ ?_ β a w hst
    · rintro Φ' y hp' hle ⟨full, hpost, rfl⟩ _
      cases x with
      | ok x =>
        obtain ⟨t, he, rfl, hR⟩ := hpost
        cases he
        have h4 := (k x t Φ' hx (hR.app (H.mono hle))).run r hF' (by show noDrw (popM ⟨.ops all (o' :: l) :: k', S⟩) = true; rw [hp]; exact hd)
        have h5 := hbd x t
        unfold retM at h4 h5
        rw [hp, hdst] at h4
        rw [hdst] at h5
        exact ⟨h5, h4⟩
      | pan e => cases hpost.1
    · rintro Φ' ch hp' hle ⟨full, hpost, rfl⟩ _
      cases x with
      | ok x => obtain ⟨t, he, _⟩ := hpost; cases he
      | pan e =>
        obtain ⟨he, rfl⟩ := hpost
        cases he
        have e1 : mergeP S [] ((List.replicate hpf.length Blk.dead).drop hpf.length) = S := by simp [mergeP, setMany]
        rw [e1]
        refine ⟨hst.bd, ?_⟩
        have h3 := kp e Φ' (H.mono hle) r (by simpa [Ex.k] using hF')
        rw [← exits_pan Γ.P none (Q r) (ech T0 e) (.ops all l :: k')] at h3
        exact h3
  · cases hc
end

/- leaving -/
def Blk.isC : Blk → Bool
  | .c _ _ => true
  | _ => false
section
variable {Γ : Ctx} {Φ : Phi} {S : SS}
theorem nc_bid {b : Blk} (h : b.isC = false) (β β' : Nat → Nat) (i j : Nat) : b.bid β i = b.bid β' j := by
  cases b <;> first | rfl | cases h
theorem f_of_map {hp hp' : List Blk} (h : hp'.map fOnly = hp.map fOnly) {i g : Nat} {cs : List Value} {t : TypeId} (hi : hp'[i]? = some (.f g cs t)) : hp[i]? = some (.f g cs t) := by
  have h1 : (hp'.map fOnly)[i]? = some (some (.f g cs t)) := by rw [List.getElem?_map, hi]; rfl
  rw [h, List.getElem?_map] at h1
  cases hb : hp[i]? with
  | none => rw [hb] at h1; simp at h1
  | some b =>
    rw [hb] at h1
    cases b <;> simp [fOnly] at h1
    obtain ⟨rfl, rfl, rfl⟩ := h1
    rfl
/-- How a body that put off one closure is left. -/
theorem At.leaveF {fn : Func} {R : Ending → World → Prop} {cl : FuncId} {caps : Array Value} (hdf : Γ.df = [{ target := .fn (.func cl) caps, args := #[] }]) {cfn : Func} (hf : Γ.P.funcs[cl]? = some cfn) (hbody : cfn.body.isSome = true) (hname : (cfn.name == "runtime.NumGoroutine") = false)
    (u U : FrameMode) (hu : u ≠ .run) {post : Post} (hC : CallDG Γ.P cl (caps.toList.map .v) S.hp Φ u U post) (hnp : ∀ Φ' ch hp', ¬ post Φ' (.pan ch) hp')
    (hset : settle U = .returning) (hpost : ∀ Φ' x hp', post Φ' (.ret x) hp' → S.hp.length ≤ hp'.length ∧ (hp'.take S.hp.length).map fOnly = S.hp.map fOnly ∧ (hp'.take S.hp.length).all (fun b => !b.isC) = true)
    (k : ∀ Φ' x hp', PhiLe 0 Φ Φ' → post Φ' (.ret x) hp' → At Γ Φ' { fr := S.fr, hp := hp'.take S.hp.length } (fun a w => ∃ v, (results fn a.tmps).run Γ.P w = .ok v w ∧ R (.returned v) w)) :
    At Γ Φ S (fun a w => Leaves Γ.P fn a.tmps R a.defers u w) := by
  intro β a w h
  rw [h.df, hdf]
  have hb : cfn.body.isNone = false := by cases hq : cfn.body <;> simp_all
  refine leaves_cons (f := cl) (args := caps) hu ?_ ?_
  · simp only [invoke, callFunc, Sem.run_bind, run_program, Result.andThen_ok, hf, hname, hb]
    simp
  · have hcall := hC β w h.sto h.own
    have hargs : ((caps.toList.map SV.v).map (den β)).toArray = caps := by
      apply Array.ext'
      simp only [List.map_map]
      exact List.map_id _
    rw [hargs] at hcall
    refine hcall.mono fun e u' w' hR => ?_
    obtain ⟨rfl, Φ', β', hp', es, h1, h2, h3, h4, h5, h6, h7, h8, h9, h10, h11⟩ := hR
    cases es with
    | pan ch => exact absurd h11 (hnp Φ' ch hp')
    | ret x =>
      have he : e = .returned (den β' x) := h1
      subst he
      have hle : PhiLe 0 Φ Φ' := ⟨h9.1, fun _ h => by omega⟩
      obtain ⟨hge, hfo, hnc⟩ := hpost Φ' x hp' h11
      have hT : ∀ {i : Nat} {b : Blk}, (hp'.take S.hp.length)[i]? = some b → hp'[i]? = some b := by
        intro i b hi
        rw [List.getElem?_take] at hi
        split at hi
        · exact hi
        · cases hi
      have hlen : (hp'.take S.hp.length).length = S.hp.length := by rw [List.length_take]; omega
      have hnC : ∀ {i : Nat} {b : Blk}, (hp'.take S.hp.length)[i]? = some b → b.isC = false := by
        intro i b hi
        have := List.all_eq_true.1 hnc b (List.mem_of_getElem? hi)
        simpa using this
      simp only [hset]
      refine k Φ' x hp' hle h11 β a w' ⟨h.fr, h.df, ?_, h7, ?_, ?_, ?_, ?_, h.pin, by rw [hlen]; exact h.len⟩
      · refine ⟨(fun i cs t hi => by cases hnC hi), fun i v n xs t sz hi => h6.o i v n xs t sz (hT hi), fun i j bi bj k hi hj li lj => h6.inj i j bi bj k (hT hi) (hT hj) (by rw [nc_bid (hnC hi) β' β i i]; exact li) (by rw [nc_bid (hnC hj) β' β j j]; exact lj), fun i b k hi hk => h6.phi i b k (hT hi) (by rw [nc_bid (hnC hi) β' β i i]; exact hk), fun i g cs t hi => ⟨(h.own.f i g cs t (f_of_map hfo hi)).1, (h6.f i g cs t (hT hi)).2⟩⟩
      · intro i b k hi hk
        rcases h10 i b k (hT hi) (by rw [nc_bid (hnC hi) β' β i i]; exact hk) with h' | ⟨j, b', hb', hk2⟩
        · exact .inl (Nat.le_trans h.keep.size h')
        · exact h.lo j b' k hb' hk2
      · refine ⟨h8.os.trans h.keep.os, h8.tape.trans h.keep.tape, h8.output.trans h.keep.output, Nat.le_trans h.keep.size h8.size, fun k hk hn => ?_⟩
        rw [← h.keep.block k hk hn]
        refine h8.block k (Nat.lt_of_lt_of_le hk h.keep.size) fun hg => ?_
        obtain ⟨j, b, hb', hk'⟩ := hg
        rcases h.lo j b k hb' hk' with h' | h'
        · omega
        · exact hn h'
      · exact ⟨fun b cs hb => h9.1 b cs (h.phi.1 b cs hb), fun b hb hn => by
        rw [h9.2 b (Nat.lt_of_lt_of_le hb h.keep.size) (by
          rintro ⟨j, b', hb', hk'⟩
          rcases h.lo j b' b hb' hk' with h' | h'
          · omega
          · exact hn h')]
        exact h.phi.2 b hb hn⟩
      · have := h.bd
        unfold SS.bd at this ⊢
        rw [Bool.and_eq_true] at this ⊢
        refine ⟨by rw [hlen]; exact this.1, ?_⟩
        rw [List.all_eq_true]
        intro b hb
        have := List.all_eq_true.1 hnc b hb
        cases b <;> first | rfl | cases this
end

theorem killF_nil : ∀ (i : Nat) (l : List SV), killF i [] l = l
  | _, [] => rfl
  | i, x :: l => by unfold killF; rw [killF_nil (i + 1) l]; rfl
theorem killH_nil : ∀ (i : Nat) (l : List Blk), killH i [] l = l
  | _, [] => rfl
  | i, x :: l => by unfold killH; rw [killH_nil (i + 1) l]; rfl
theorem kill_nil (S : SS) : S.kill [] [] = S := by unfold SS.kill; rw [killF_nil, killH_nil]
/-- A closure that begins with 'x := recover()'. -/
def recBody (fn : Func) : Option (Nat × Nat × Code) :=
  match fn.body with
  | some (.seq (.region _ ops false) c) => match ops.toList with
    | [o1, o2] => match o1.op, o1.guard, o1.dst, o2.op, o2.guard, o2.dst with
      | .call { callee := .builtin .recover, args, argTypes := _ }, none, some d1, .assign (.tmp d1'), none, some d2 => match args.toList, Nat.beq d1 d1' with
        | [], true => some (d1, d2, c)
        | _, _ => none
      | _, _, _, _, _, _ => none
    | _ => none
  | _ => none
def recC (fn : Func) : Code := match recBody fn with | some (_, _, c) => c | none => .skip
def recD1 (fn : Func) : Nat := match recBody fn with | some (d, _, _) => d | none => 0
def recD2 (fn : Func) : Nat := match recBody fn with | some (_, d, _) => d | none => 0
def recS (fn : Func) (args : List SV) (v : Value) (hp : List Blk) : SS := { fr := ((args ++ List.replicate (fn.ntmps - args.length) (SV.v undef)).set (recD1 fn) (SV.v v)).set (recD2 fn) (SV.v v), hp }
def recOk (fn : Func) : Bool := (recBody fn).isSome && fn.body.isSome && !(fn.name == "runtime.NumGoroutine")
theorem CallDG.W {P : Program} {f : FuncId} {args : List SV} {hp : List Blk} {Φ : Phi} {post : Post} {fn : Func} (hf : P.funcs[f]? = some fn) (hr : recOk fn = true) (hlt : Nat.blt (recD1 fn) (args.length + (fn.ntmps - args.length)) = true)
    (u U : FrameMode) (v : Value) (hrec : ∀ (c₀ : Frame) (cs : List Frame), c₀.mode = u → (recoverD (c₀ :: cs) = some (v, { c₀ with mode := U } :: cs)) ∨ (recoverD (c₀ :: cs) = none ∧ v = .nilIface ∧ U = u))
    (hmx : P.follows .mixedOrders = true) (hbd : (recS fn args v hp).bd = true)
    (k : ∀ (E : World) (G : Nat → Nat → Prop) (β0 : Nat → Nat), Go.Sx.W ⟨P, E, G, Φ, β0, hp.length, [], none⟩ (fun _ : Unit => bodyPost P fn (RetR ⟨P, E, G, Φ, β0, hp.length, [], none⟩ post)) Φ ⟨[.code (recC fn)], recS fn args v hp⟩ (some ()) some) : CallDG P f args hp Φ u U post := by
  unfold recOk at hr
  rw [Bool.and_eq_true, Bool.and_eq_true] at hr
  obtain ⟨⟨hr, _⟩, _⟩ := hr
  have hr' := hr
  unfold recBody at hr'
  repeat' split at hr'
  all_goals first | cases hr'; done | skip
  rename_i _ id ops c hb _ o1 o2 hops _ _ _ _ _ _ args' aty d1 d1' d2 h1 g1 t1 h2 g2 t2 _ _ hargs hd
  have e1 := Nat.eq_of_beq_eq_true hd
  subst e1
  have hB : recBody fn = some (d1, d2, c) := by
    unfold recBody
    simp only [hb, hops, h1, g1, t1, h2, g2, t2, hargs, hd]
  have hops' : ops = #[o1, o2] := by apply Array.ext'; exact hops
  have ha' : args' = #[] := by apply Array.ext'; exact hargs
  subst hops' ha'
  have hD1 : recD1 fn = d1 := by unfold recD1; rw [hB]
  have hD2 : recD2 fn = d2 := by unfold recD2; rw [hB]
  have hCc : recC fn = c := by unfold recC; rw [hB]
  unfold recS at hbd k
  rw [hD1, hD2] at hbd k
  rw [hCc] at k
  rw [hD1] at hlt
  refine CallDG.enter hf hb h1 g1 t1 h2 g2 t2 (by simpa [Nat.blt_eq] using hlt) u U v hrec [] _ ?_ hbd fun E G β0 => ((k E G β0).run () rfl ⟨hmx, fun _ => PanOk.body, fun h => absurd rfl h⟩ trivial).imp fun _ _ q => wpIn_wide.1 q
  exact (kill_nil _)

def resRow (P : Program) (S : SS) (p T : Nat) (hp : List Blk) (i : Nat) (x : SV) : Prop :=
  ∃ (g n c t0 s0 : Nat) (xs : List Value), S.get (.tmp p) = .v (.pointer (some ⟨g, 0, none⟩)) ∧ hp[i]? = some (.o (.slice (some ⟨g, 0, none⟩) n c) n xs t0 s0) ∧ ldB P T (xs.map .v) 0 = some x ∧ x.isU = false
/-- What the closure leaves is what the function tells. -/
def cpost (P : Program) (S : SS) (n p q T E : Nat) (post : Post) : Post := fun Φ' es hp' => (∃ x, es = .ret x) ∧ S.hp.length ≤ hp'.length ∧ (hp'.take S.hp.length).map fOnly = S.hp.map fOnly ∧ (hp'.take S.hp.length).all (fun b => !b.isC) = true ∧
  ∃ (x0 x1 : SV) (i j : Nat) (σ : List Nat) (hp2 : List Blk), resRow P S p T (hp'.take S.hp.length) i x0 ∧ resRow P S q E (hp'.take S.hp.length) j x1 ∧ (SV.tup [x0, x1]).ok 0 = true ∧ σ.map ((hp'.take S.hp.length)[·]?) = hp2.map (fun b => some (b.ren (rnm σ))) ∧ σ.take n = List.range n ∧ hp2.all (Blk.bd hp2.length) = true ∧ σ.Nodup ∧ post Φ' (.ret (.tup [x0, x1])) hp2

theorem At.offD {Γ : Ctx} {Φ : Phi} {S : SS} {fn : Func} {post : Post} (cl : FuncId) (caps : Array Value) (hdf : Γ.df = [{ target := .fn (.func cl) caps, args := #[] }]) {cfn : Func} (hcf : Γ.P.funcs[cl]? = some cfn)
    (u U : FrameMode) (v : Value) (hu : u ≠ .run) (hset : settle U = .returning) (hrec : ∀ (c₀ : Frame) (cs : List Frame), c₀.mode = u → (recoverD (c₀ :: cs) = some (v, { c₀ with mode := U } :: cs)) ∨ (recoverD (c₀ :: cs) = none ∧ v = .nilIface ∧ U = u))
    {p q T E : Nat} (hres : fn.results = #[.cell p T, .cell q E])
    (k : ∀ (E' : World) (G' : Nat → Nat → Prop) (β0 : Nat → Nat), Go.Sx.W ⟨Γ.P, E', G', Φ, β0, S.hp.length, [], none⟩ (fun _ : Unit => bodyPost Γ.P cfn (RetR ⟨Γ.P, E', G', Φ, β0, S.hp.length, [], none⟩ (cpost Γ.P S Γ.n p q T E post))) Φ ⟨[.code (recC cfn)], recS cfn (caps.toList.map .v) v S.hp⟩ (some ()) some)
    (hr : recOk cfn = true) (hlt : Nat.blt (recD1 cfn) ((caps.toList.map SV.v).length + (cfn.ntmps - (caps.toList.map SV.v).length)) = true) (hmx : Γ.P.follows .mixedOrders = true) (hbd : (recS cfn (caps.toList.map .v) v S.hp).bd = true) :
    At Γ Φ S (fun a w => Leaves Γ.P fn a.tmps (RetR { Γ with df := [] } post) a.defers u w) := by
  have hr' := hr
  unfold recOk at hr'
  rw [Bool.and_eq_true, Bool.and_eq_true, Bool.not_eq_true'] at hr'
  refine At.leaveF hdf hcf hr'.1.2 hr'.2 u U hu (CallDG.W hcf hr hlt u U v hrec hmx hbd k) ?_ hset ?_ ?_
  · rintro Φ' ch hp' ⟨⟨x, hx⟩, _⟩; cases hx
  · rintro Φ' x hp' ⟨_, h1, h2, h3, _⟩; exact ⟨h1, h2, h3⟩
  · rintro Φ' x hp' hle ⟨_, h1, h2, h3, x0, x1, i, j, σ, hp2, ⟨g0, n0, c0, t0, s0, xs0, a1, a2, a3, a4⟩, ⟨g1, n1, c1, t1, s1, xs1, b1, b2, b3, b4⟩, h0, hσ, hid, hO, hnd, hpost⟩ β a w hst
    have hden : ∀ β', den β' (.tup [x0, x1]) = den (fun _ => 0) (.tup [x0, x1]) := fun β' => den_congr (n := 0) (fun i hi => absurd hi (Nat.not_lt_zero i)) _ h0
    refine ⟨den (fun _ => 0) (.tup [x0, x1]), res_rows2 (S := { fr := S.fr, hp := hp'.take S.hp.length }) hres a1 b1 i j a2 b2 x0 x1 a3 b3 a4 b4 hden β a w hst, ?_⟩
    show RetR Γ post _ _
    exact leaves_ren (es := .ret (.tup [x0, x1])) hst σ hp2 (congrArg _ (hden _).symm) (ok_le (Nat.zero_le _) _ h0) hσ hid hO hnd hpost

section
variable {A R : Type} {Γ : Ctx} {Φ : Phi} {m : MS} {L : List En}
/-- The end of a body that put off a closure. -/
theorem WN.retD (q : Nat) {fn cfn : Func} {post : R → Post} {x : R} (cl : FuncId) (caps : Array Value) (hcf : Γ.P.funcs[cl]? = some cfn) {p p' T E : Nat}
    (k : ∀ (E' : World) (G' : Nat → Nat → Prop) (β0 : Nat → Nat), Go.Sx.W ⟨Γ.P, E', G', Φ, β0, (GN Γ Φ q m).s.hp.length, [], none⟩ (fun _ : Unit => bodyPost Γ.P cfn (RetR ⟨Γ.P, E', G', Φ, β0, (GN Γ Φ q m).s.hp.length, [], none⟩ (cpost Γ.P (GN Γ Φ q m).s Γ.n p p' T E (post x)))) Φ ⟨[.code (recC cfn)], recS cfn (caps.toList.map .v) .nilIface (GN Γ Φ q m).s.hp⟩ (some ()) some)
    (hdf : Γ.df = [{ target := .fn (.func cl) caps, args := #[] }] := by rfl) (hres : fn.results = #[.cell p T, .cell p' E] := by rfl) (he : endM (GN Γ Φ q m) = true := by kernel_rfl) (hr : recOk cfn = true := by kernel_rfl)
    (hlt : Nat.blt (recD1 cfn) ((caps.toList.map SV.v).length + (cfn.ntmps - (caps.toList.map SV.v).length)) = true := by kernel_rfl) (hmx : Γ.P.follows .mixedOrders = true := by kernel_rfl) (hbd : (recS cfn (caps.toList.map .v) .nilIface (GN Γ Φ q m).s.hp).bd = true := by kernel_rfl) :
    WN Γ (fun r => bodyPostD Γ.P fn (RetR { Γ with df := [] } (post r))) Φ m (some x) some := by
  refine ⟨fun r hr' => ?_⟩
  cases hr'
  refine AtN.go q fun _ => ?_
  have key := At.offD (fn := fn) (post := post x) cl caps hdf hcf .returning .returning .nilIface (by intro h; cases h) rfl rec_ret hres k hr hlt hmx hbd
  generalize hm1 : goN Γ.P Φ q m = m1
  simp only [GN, hm1] at key he
  obtain ⟨fs, S⟩ := m1
  unfold endM at he
  split at he
  · rename_i hk; simp only at hk; subst hk; exact key
  · rename_i k' hk; simp only at hk; subst hk
    intro β a w hst
    refine wpIn_ret ?_
    rw [exits_ret]
    exact key β a w hst
  · cases he
/-- Left by an error, which the closure takes. -/
theorem WN.panD (q : Nat) {fn cfn : Func} {post : Post} {T0 : TypeId} {e : Int} {Φ' : Phi} (cl : FuncId) (caps : Array Value) (hcf : Γ.P.funcs[cl]? = some cfn) {p p' T E : Nat}
    (k : ∀ (E' : World) (G' : Nat → Nat → Prop) (β0 : Nat → Nat), Go.Sx.W ⟨Γ.P, E', G', Φ', β0, (GN Γ Φ q m).s.hp.length, [], none⟩ (fun _ : Unit => bodyPost Γ.P cfn (RetR ⟨Γ.P, E', G', Φ', β0, (GN Γ Φ q m).s.hp.length, [], none⟩ (cpost Γ.P (GN Γ Φ q m).s Γ.n p p' T E post))) Φ' ⟨[.code (recC cfn)], recS cfn (caps.toList.map .v) (.iface T0 (.int .i64 e)) (GN Γ Φ q m).s.hp⟩ (some ()) some)
    (hdf : Γ.df = [{ target := .fn (.func cl) caps, args := #[] }] := by rfl) (hres : fn.results = #[.cell p T, .cell p' E] := by rfl) (hr : recOk cfn = true := by kernel_rfl)
    (hlt : Nat.blt (recD1 cfn) ((caps.toList.map SV.v).length + (cfn.ntmps - (caps.toList.map SV.v).length)) = true := by kernel_rfl) (hmx : Γ.P.follows .mixedOrders = true := by kernel_rfl) (hbd : (recS cfn (caps.toList.map .v) (.iface T0 (.int .i64 e)) (GN Γ Φ q m).s.hp).bd = true := by kernel_rfl) :
    At Γ Φ' (GN Γ Φ q m).s (bodyPostD Γ.P fn (RetR { Γ with df := [] } post) (.panic (ech T0 e))) :=
  At.offD (fn := fn) (post := post) cl caps hdf hcf (.panicking (ech T0 e)) (.panicking [{ v := .iface T0 (.int .i64 e), recovered := true }]) (.iface T0 (.int .i64 e)) (by intro h; cases h) rfl (rec_pan _) hres k hr hlt hmx hbd

structure EndOk (P : Program) (cfn : Func) (S0 : SS) (n p p' T E : Nat) (m : MS) (i j : Nat) (σ : List Nat) (x0 x1 : SV) (hp2 : List Blk) : Prop where
  e : endM m = true
  r : resS P cfn m.s = some (.tup [])
  len : Nat.ble S0.hp.length m.s.hp.length = true
  fo : (m.s.hp.take S0.hp.length).map fOnly = S0.hp.map fOnly
  nc : (m.s.hp.take S0.hp.length).all (fun b => !b.isC) = true
  g0 : S0.get (.tmp p) = .v (.pointer (some ⟨oG i m, 0, none⟩))
  r0 : (m.s.hp.take S0.hp.length)[i]? = some (.o (.slice (some ⟨oG i m, 0, none⟩) (oN i m) (oC i m)) (oN i m) (oX i m) (oE i m) (oZ i m))
  l0 : ldB P T ((oX i m).map .v) 0 = some x0
  u0 : x0.isU = false
  g1 : S0.get (.tmp p') = .v (.pointer (some ⟨oG j m, 0, none⟩))
  r1 : (m.s.hp.take S0.hp.length)[j]? = some (.o (.slice (some ⟨oG j m, 0, none⟩) (oN j m) (oC j m)) (oN j m) (oX j m) (oE j m) (oZ j m))
  l1 : ldB P E ((oX j m).map .v) 0 = some x1
  u1 : x1.isU = false
  ok : (SV.tup [x0, x1]).ok 0 = true
  s : σ.map ((m.s.hp.take S0.hp.length)[·]?) = hp2.map (fun b => some (b.ren (rnm σ)))
  id : σ.take n = List.range n
  bd : hp2.all (Blk.bd hp2.length) = true
/-- The end of the closure. -/
theorem W.endD (q : Nat) {cfn : Func} {S0 : SS} {n p p' T E : Nat} {post : Post} {τ : Type} {x0 x1 : τ → SV} {hps : τ → List Blk} {ens : τ → List En} (i j : Nat) (σ : List Nat) (t : τ) (ps : List Nat) (H : Reps Φ L) (hp : post = tPost (fun t => .tup [x0 t, x1 t]) hps ens := by rfl) (hl : ps.map (L[·]?) = (ens t).map some := by rfl)
    (h : EndOk Γ.P cfn S0 n p p' T E (GM Γ Φ q m) i j σ (x0 t) (x1 t) (hps t) := by exact ⟨by kernel_rfl, by kernel_rfl, by kernel_rfl, by kernel_rfl, by kernel_rfl, by kernel_rfl, by kernel_rfl, by kernel_rfl, by kernel_rfl, by kernel_rfl, by kernel_rfl, by kernel_rfl, by kernel_rfl, by kernel_rfl, by kernel_rfl, by kernel_rfl, by kernel_rfl⟩) (hdf : Γ.df = [] := by rfl) (hnd : σ.Nodup := by decide) :
    Go.Sx.W Γ (fun _ : Unit => bodyPost Γ.P cfn (RetR Γ (cpost Γ.P S0 n p p' T E post))) Φ m (some ()) some := by
  refine ⟨fun r _ => AtM.go q fun _ _ => ?_⟩
  have kk : cpost Γ.P S0 n p p' T E post Φ (.ret (.tup [])) (goM Γ.P Γ.md.isNone Φ q m).s.hp :=
    ⟨⟨_, rfl⟩, Nat.le_of_ble_eq_true h.len, h.fo, h.nc, x0 t, x1 t, i, j, σ, hps t, ⟨_, _, _, _, _, _, h.g0, h.r0, h.l0, h.u0⟩, ⟨_, _, _, _, _, _, h.g1, h.r1, h.l1, h.u1⟩, h.ok, h.s, h.id, h.bd, hnd, by rw [hp]; exact ⟨t, rfl, rfl, H.sub ps hl⟩⟩
  have he := h.e
  have hr := h.r
  generalize hm1 : goM Γ.P Γ.md.isNone Φ q m = m1
  simp only [GM, hm1] at he hr kk
  obtain ⟨fs, S⟩ := m1
  unfold endM at he
  split at he
  · rename_i hk; simp only at hk; subst hk; exact At.leave_end hdf _ hr rfl kk
  · rename_i k' hk; simp only at hk; subst hk
    refine (?_ : At Γ Φ S _).imp fun _ _ q => wpIn_ret q
    rw [exits_ret]
    exact At.leave hdf _ hr rfl kk
  · cases he
end
end Go.Sx
