/- SyD: entering, leaving, rounds, calls that may leave by an error. General: no program. -/
import Derived.Test.YtgkjblbmiooedaaSyC
namespace Go.Sx
open Go.RowKit

section
variable {Γ : Ctx} {Φ : Phi} {S : SS}

theorem At.mask (T : SS) (hl : T.fr.length = S.fr.length) (hb : (maskS T S).bd = true) (hn : Γ.n ≤ (maskS T S).hp.length) {X : Act → World → Prop} (k : At Γ Φ (maskS T S) X) : At Γ Φ S X := by
  have hfr : ∀ (i : Nat) (c : SV), (maskS T S).fr[i]? = some c → ∃ c', S.fr[i]? = some c' ∧ (c = c' ∨ c = .u) := by
    intro i c h
    simp only [maskS, List.getElem?_zipWith] at h
    cases h1 : T.fr[i]? with
    | none => rw [h1] at h; simp at h
    | some a =>
      cases h2 : S.fr[i]? with
      | none => rw [h1, h2] at h; simp at h
      | some b =>
        rw [h1, h2] at h
        refine ⟨b, rfl, ?_⟩
        cases a <;> simp at h <;> first | exact .inr h.symm | exact .inl h.symm
  have hhp : ∀ (i : Nat) (b : Blk), (maskS T S).hp[i]? = some b → b = .dead ∨ S.hp[i]? = some b := by
    intro i c h
    simp only [maskS, List.getElem?_zipWith] at h
    cases h1 : T.hp[i]? with
    | none => rw [h1] at h; simp at h
    | some a =>
      cases h2 : S.hp[i]? with
      | none => rw [h1, h2] at h; simp at h
      | some b =>
        rw [h1, h2] at h
        cases a <;> simp at h <;> first | exact .inl h.symm | exact .inr (by rw [h])
  intro β a w h
  refine k β a w ⟨⟨?_, ?_⟩, h.df, ⟨?_, ?_, ?_, ?_, fun i g cs t hi => by
    rcases hhp _ _ hi with he | hi
    · cases he
    · exact h.own.f i g cs t hi⟩, h.sto, ?_, h.keep, h.phi, hb, h.pin, hn⟩
  · rw [h.fr.1]; simp only [maskS, List.length_zipWith, hl]; omega
  · intro i c v hc hv
    obtain ⟨c', hc', hcc⟩ := hfr i c hc
    rcases hcc with rfl | rfl
    · exact h.fr.2 i c v hc' hv
    · exact .inl rfl
  · intro i cs t hi
    rcases hhp _ _ hi with he | hi
    · cases he
    · exact h.own.c i cs t hi
  · intro i v m xs t sz hi
    rcases hhp _ _ hi with he | hi
    · cases he
    · exact h.own.o i v m xs t sz hi
  · intro i j bi bj m hi hj li lj
    rcases hhp _ _ hi with rfl | hi
    · cases li
    · rcases hhp _ _ hj with rfl | hj
      · cases lj
      · exact h.own.inj i j bi bj m hi hj li lj
  · intro i b m hi hl
    rcases hhp _ _ hi with rfl | hi
    · cases hl
    · exact h.own.phi i b m hi hl
  · intro i b m hi hl
    rcases hhp _ _ hi with rfl | hi
    · cases hl
    · exact h.lo i b m hi hl

theorem bd_le {n k : Nat} (hnk : n ≤ k) {x : SV} (h : x.bd n = true) : x.bd k = true := by
  cases x <;> first | rfl | exact ok_le hnk _ h
theorem blk_le {n k : Nat} (hnk : n ≤ k) {b : Blk} (h : b.bd n = true) : b.bd k = true := by
  cases b with
  | c cs t =>
    simp only [Blk.bd, List.all_eq_true] at h ⊢
    exact fun x hx => bd_le hnk (h x hx)
  | _ => rfl

/-- What is left behind: the blocks that were handed in, and new ones, told in new numbers. -/
def rnm (σ : List Nat) (i : Nat) : Nat := σ.getD i 0
theorem leaves_ren {β : Nat → Nat} {a : Act} {w : World} {post : Post} {es : EndS} {e : Ending} (h : St Γ Φ β S a w) (σ : List Nat) (hp' : List Blk) (hf : es.fits (fun i => β (rnm σ i)) e) (hb : es.bd hp'.length = true) (hσ : σ.map (S.hp[·]?) = hp'.map (fun b => some (b.ren (rnm σ)))) (hid : σ.take Γ.n = List.range Γ.n) (hO : hp'.all (Blk.bd hp'.length) = true) (hnd : σ.Nodup) (k : post Φ es hp') : RetR Γ post e w := by
  have hlen : σ.length = hp'.length := by have := congrArg List.length hσ; simpa using this
  have hget : ∀ {i : Nat} {b : Blk}, hp'[i]? = some b → ∃ j, σ[i]? = some j ∧ rnm σ i = j ∧ S.hp[j]? = some (b.ren (rnm σ)) := by
    intro i b hi
    have h1 : (σ.map (S.hp[·]?))[i]? = some (some (b.ren (rnm σ))) := by rw [hσ, List.getElem?_map, hi]; rfl
    rw [List.getElem?_map] at h1
    cases h2 : σ[i]? with
    | none => rw [h2] at h1; simp at h1
    | some j => rw [h2] at h1; simp at h1; exact ⟨j, rfl, by simp [rnm, List.getD, h2], h1⟩
  have hnl : Γ.n ≤ hp'.length := by
    have := congrArg List.length hid
    rw [List.length_take, List.length_range] at this
    omega
  have hlow : ∀ {i j : Nat}, i < Γ.n → σ[i]? = some j → j = i := by
    intro i j hi hj
    have h1 : (σ.take Γ.n)[i]? = some j := by rw [List.getElem?_take, if_pos hi]; exact hj
    rw [hid, List.getElem?_range hi] at h1
    exact (Option.some.inj h1).symm
  have hbid : ∀ {i j : Nat} {b : Blk}, rnm σ i = j → b.bid (fun i => β (rnm σ i)) i = (b.ren (rnm σ)).bid β j := by
    intro i j b hi
    cases b with
    | c cs t => simp only [Blk.bid, Blk.ren, hi]
    | _ => rfl
  refine ⟨Φ, fun i => β (rnm σ i), hp', es, hf, hb, hO, hnl, ?_, ⟨?_, ?_, ?_, ?_, ?_⟩, h.sto, h.keep, h.phi, ?_, k⟩
  · intro i hi
    have h1 : i < σ.length := by omega
    have h2 := hlow hi (List.getElem?_eq_getElem h1)
    have h3 : rnm σ i = i := by simp only [rnm, List.getD, List.getElem?_eq_getElem h1, Option.getD_some]; exact h2
    show β (rnm σ i) = _
    rw [h3]; exact h.pin i hi
  · intro i cs t hi
    obtain ⟨j, _, hr, hS⟩ := hget hi
    obtain ⟨vs, h1, h2⟩ := h.own.c j _ t hS
    refine ⟨vs, ?_, mat_ren.1 h2⟩
    show w.heap[β (rnm σ i)]? = _
    rw [hr]; exact h1
  · intro i v n xs t sz hi
    obtain ⟨j, _, _, hj⟩ := hget hi
    exact h.own.o j v n xs t sz hj
  · intro i j bi bj q hi hj li lj
    obtain ⟨i', hi1, ri, hi2⟩ := hget hi
    obtain ⟨j', hj1, rj, hj2⟩ := hget hj
    have e := h.own.inj i' j' _ _ q hi2 hj2 (by rw [← hbid ri]; exact li) (by rw [← hbid rj]; exact lj)
    subst e
    have hi3 := lt_get hi1
    have hj3 := lt_get hj1
    rw [List.getElem?_eq_getElem hi3] at hi1
    rw [List.getElem?_eq_getElem hj3] at hj1
    have hh := (Option.some.inj hi1).trans (Option.some.inj hj1).symm
    have hp := List.pairwise_iff_getElem.1 hnd
    rcases Nat.lt_trichotomy i j with h1 | h1 | h1
    · exact absurd hh (hp i j hi3 hj3 h1)
    · exact h1
    · exact absurd hh.symm (hp j i hj3 hi3 h1)
  · intro i b q hi hl
    obtain ⟨j, hj1, hr, hj⟩ := hget hi
    exact h.own.phi j _ q hj (by rw [← hbid hr]; exact hl)
  · intro i g cs t hi
    obtain ⟨j, hj1, hr, hj⟩ := hget hi
    have := h.own.f j g cs t hj
    show β (rnm σ i) = g ∧ _
    rw [hr]; exact this
  · intro i b q hi hl
    obtain ⟨j, hj1, hr, hj⟩ := hget hi
    exact h.lo j _ q hj (by rw [← hbid hr]; exact hl)
end

def endM (m : MS) : Bool := match m.k with | [] => true | .code .ret :: _ => true | _ => false

section
variable {A R : Type} {Γ : Ctx} {Q : R → QT} {Φ : Phi} {m : MS} {o : Option A} {K : A → Option R} {L : List En}

theorem AtM.fin {fn : Func} {post : Post} (hdf : Γ.df = []) (he : endM m = true) (x : SV) (σ : List Nat) (hp' : List Blk) (hr : resS Γ.P fn m.s = some (x.ren (rnm σ))) (hx : (x.ren (rnm σ)).ok m.s.hp.length = true) (hx' : x.ok hp'.length = true) (hσ : σ.map (m.s.hp[·]?) = hp'.map (fun b => some (b.ren (rnm σ)))) (hid : σ.take Γ.n = List.range Γ.n) (hO : hp'.all (Blk.bd hp'.length) = true) (hnd : σ.Nodup) (k : post Φ (.ret x) hp') :
    AtM Γ (bodyPost Γ.P fn (RetR Γ post)) Φ m := by
  intro _ _ β a w h
  have hbody : ∀ e, (e = Exit.ret ∨ e = Exit.normal) → bodyPost Γ.P fn (RetR Γ post) e a w := by
    intro e he
    have key : (a.defers = [] ∧ ∃ v, (results fn a.tmps).run Γ.P w = .ok v w ∧ RetR Γ post (.returned v) w) :=
      ⟨h.df.trans hdf, den β (x.ren (rnm σ)), run_resS h hr hx, leaves_ren (es := .ret x) h σ hp' (congrArg _ (den_ren β (rnm σ) x)) hx' hσ hid hO hnd k⟩
    rcases he with rfl | rfl <;> exact key
  obtain ⟨fs, S⟩ := m
  unfold endM at he
  split at he
  · rename_i hk; simp only at hk; subst hk; exact hbody .normal (.inr rfl)
  · rename_i k' hk; simp only at hk; subst hk
    refine wpIn_ret ?_
    rw [exits_ret]
    exact hbody .ret (.inl rfl)
  · cases he

theorem W.lbind {α ρ B : Type} {rr : ρ → B} {F : α → Option B} {K : B → Option R} {g : Option (Lo α ρ)} (k : W Γ Q Φ m g (Lo.kk rr F K)) : W Γ Q Φ m (g.bind (Lo.k rr F)) K := ⟨fun r h => k r (by
  cases g with
  | none => cases h
  | some x => cases x <;> exact h)⟩
theorem W.ex {α ρ B : Type} {rr : ρ → B} {F : α → Option B} {K : B → Option R} {a : α} (k : W Γ Q Φ m (F a) K) : W Γ Q Φ m (some (Lo.ex a)) (Lo.kk rr F K) := ⟨fun r h => k.run r h⟩
theorem W.rt {α ρ B : Type} {rr : ρ → B} {F : α → Option B} {K : B → Option R} {r : ρ} (k : W Γ Q Φ m (some (rr r)) K) : W Γ Q Φ m (some (Lo.rt r)) (Lo.kk rr F K) := ⟨fun r h => k.run r h⟩
theorem W.out {x : A} (k : W Γ Q Φ m (K x) some) : W Γ Q Φ m (some x) K := ⟨fun r h => k r (by simpa using h)⟩
/-- The end: what is told, and which blocks are left. -/
theorem W.ret (q : Nat) {fn : Func} {post : R → Post} {x : R} {τ : Type} {rv : τ → SV} {hps : τ → List Blk} {ens : τ → List En} (σ : List Nat) (t : τ) (ps : List Nat) (H : Reps Φ L) (hp : post x = tPost rv hps ens := by rfl) (hl : ps.map (L[·]?) = (ens t).map some := by rfl)
    (hdf : Γ.df = [] := by rfl) (he : endM (GM Γ Φ q m) = true := by kernel_rfl) (hr : resS Γ.P fn (GM Γ Φ q m).s = some ((rv t).ren (rnm σ)) := by kernel_rfl) (hx : ((rv t).ren (rnm σ)).ok (GM Γ Φ q m).s.hp.length = true := by kernel_rfl) (hx' : (rv t).ok (hps t).length = true := by kernel_rfl)
    (hσ : σ.map ((GM Γ Φ q m).s.hp[·]?) = (hps t).map (fun b => some (b.ren (rnm σ))) := by kernel_rfl) (hid : σ.take Γ.n = List.range Γ.n := by kernel_rfl) (hO : (hps t).all (Blk.bd (hps t).length) = true := by kernel_rfl) (hnd : σ.Nodup := by decide) :
    W Γ (fun r => bodyPost Γ.P fn (RetR Γ (post r))) Φ m (some x) some := by
  refine ⟨fun r h => ?_⟩
  cases h
  exact AtM.go q (AtM.fin hdf he (rv t) σ (hps t) hr hx hx' hσ hid hO hnd (by rw [hp]; exact ⟨t, rfl, rfl, H.sub ps hl⟩))

/- errors by which it is left -/
def PanK {B : Type} (Γ : Ctx) (Q : R → QT) (T : TypeId) (pn : Int → B) (K : B → Option R) : Prop := ∀ e r, K (pn e) = some r → ∀ Φ S, At Γ Φ S (Q r (.panic (ech T e)))
theorem PanK.body {α : Type} {fn : Func} {T : TypeId} {p : α → Post} (hdf : Γ.df = []) : PanK Γ (fun r => bodyPost Γ.P fn (RetR Γ (ePost T Γ.n p r))) T Ex.pan some := by
  intro e r h Φ S β a w hst
  cases h
  have hd : ∀ (i : Nat) (b : Blk), (List.replicate Γ.n Blk.dead)[i]? = some b → b = .dead := by
    intro i b hi; rw [List.getElem?_replicate] at hi; split at hi
    · cases hi; rfl
    · cases hi
  refine ⟨hst.df.trans hdf, Φ, β, List.replicate Γ.n .dead, .pan (ech T e), rfl, rfl, ?_, by simp, hst.pin, ⟨?_, ?_, ?_, ?_, ?_⟩, hst.sto, hst.keep, hst.phi, ?_, rfl, rfl⟩
  · rw [List.all_eq_true]; intro b hb; rw [List.mem_replicate] at hb; rw [hb.2]; rfl
  · intro i cs t hi; cases hd _ _ hi
  · intro i v n xs t sz hi; cases hd _ _ hi
  · intro i j bi bj q hi hj li lj; rw [hd _ _ hi] at li; cases li
  · intro i b q hi hl; rw [hd _ _ hi] at hl; cases hl
  · intro i g cs t hi; cases hd _ _ hi
  · intro i b q hi hl; rw [hd _ _ hi] at hl; cases hl
theorem PanK.lo {α ρ B : Type} {T : TypeId} {rr : ρ → B} {pn : Int → ρ} {F : α → Option B} {K : B → Option R} (h : PanK Γ Q T (fun e => rr (pn e)) K) : PanK Γ Q T (fun e => Lo.rt (pn e)) (Lo.kk rr F K) := fun e r hr => h e r hr

theorem PanK.l1 {α B : Type} {T : TypeId} {pn : Int → B} {F : α → Option B} {K : B → Option R} (h : PanK Γ Q T pn K) : PanK Γ Q T (fun e => Lo.rt (pn e)) (Lo.kk id F K) := fun e r hr => h e r hr
theorem PanK.l2 {α γ ρ : Type} {T : TypeId} {pn : Int → ρ} {F : α → Option (Lo γ ρ)} {K : Lo γ ρ → Option R} (h : PanK Γ Q T (fun e => Lo.rt (pn e)) K) : PanK Γ Q T (fun e => Lo.rt (pn e)) (Lo.kk Lo.rt F K) := fun e r hr => h e r hr

def panM (m : MS) : Option (TypeId × Int) :=
  match opM m with
  | some o => match o.op with
    | .panic x => match m.s.get x with
      | .ifc t (.v (.int .i64 e)) => some (t, e)
      | .v (.iface t (.int .i64 e)) => some (t, e)
      | _ => none
    | _ => none
  | none => none
theorem AtM.panic {Q : QT} {T : TypeId} {e : Int} (h : panM m = some (T, e)) (hq : ∀ S, At Γ Φ S (Q (.panic (ech T e)))) : AtM Γ Q Φ m := by
  unfold panM at h
  split at h
  · rename_i o ho
    obtain ⟨all, l, k', hk, hw, _, _⟩ := opM_spec ho
    obtain ⟨fs, S⟩ := m
    simp only at hk h hw; subst hk
    intro env hdr
    have hq' : At Γ Φ S (exits Γ.P Γ.md Q (.ops all l :: k') (.panic (ech T e))) := by rw [exits_pan]; exact hq S
    split at h
    · rename_i x hop
      split at h
      · rename_i t e' hx; cases h
        exact At.panicI hop hw hx hq'
      · rename_i t e' hx; cases h
        exact At.panic hop hw hx hq'
      · cases h
    · cases h
  · cases h
theorem W.panic (q : Nat) {B : Type} {pn : Int → B} {K : B → Option R} {T : TypeId} {e : Int} (hP : PanK Γ Q T pn K) (h : panM (GM Γ Φ q m) = some (T, e) := by kernel_rfl) : W Γ Q Φ m (some (pn e)) K := ⟨fun r hr =>
  AtM.go q (AtM.panic h (hP e r (by simpa using hr) Φ))⟩
section
variable {X B : Type} {g : Option (Ex X)} {F : X → Option B} {f : FuncId} {av : List SV} {pn : Int → B} {K : B → Option R} {T0 : TypeId}
theorem W.callE (q : Nat) {τ : Type} {rv : X → τ → SV} {hps : X → τ → List Blk} {ens : X → τ → List En} (idx : List Nat) {hpI : List Blk} (hP : PanK Γ Q T0 pn K) (H : Reps Φ L) (hC : ∀ x, g = some x → CallG Γ.P f av hpI Φ (ePost T0 hpI.length (fun x => tPost (rv x) (hps x) (ens x)) x))
    (k : ∀ x t Φ', g = some (.ok x) → Reps Φ' (ens x t ++ L) → W Γ Q Φ' (retM (GM Γ Φ q m) idx (rv x t) (hps x t)) (F x) K)
    (h : callM (GM Γ Φ q m) = some (f, av.map (SV.ren (inR idx))) := by kernel_rfl) (hu : av.any SV.isU = false := by kernel_rfl) (hc : callable Γ.P f = true := by kernel_rfl) (hnd : idx.Nodup := by decide) (hsub : idx.map ((GM Γ Φ q m).s.hp[·]?) = hpI.map (fun b => some (b.ren (inR idx))) := by kernel_rfl)
    (hok : ∀ x t, retOk (GM Γ Φ q m) idx (rv x t) (hps x t) := by (intro _ _; exact ⟨by kernel_rfl, by kernel_rfl⟩)) (hpk : (mergeP (GM Γ Φ q m).s idx (List.replicate hpI.length .dead)).bd = true := by kernel_rfl) : W Γ Q Φ m (g.bind (Ex.k pn F)) K := by
  refine ⟨fun r hr => ?_⟩
  obtain ⟨x, hx, hF⟩ := Option.bind_eq_some_iff.1 (by rw [Option.bind_assoc] at hr; exact hr)
  refine AtM.go q (AtM.call idx hpI h hu hc hnd hsub (hC x hx) ?_ ?_)
  · intro Φ' y hp' hle hpost
    cases x with
    | ok x =>
      obtain ⟨t, he, rfl, hR⟩ := hpost
      cases he
      exact ⟨(hok x t).1, ⟨_, (hok x t).2⟩, k x t Φ' hx (hR.app (H.mono hle)) r hF⟩
    | pan e => cases hpost.1
  · intro Φ' ch hp' hle hpost
    cases x with
    | ok x => obtain ⟨t, he, _⟩ := hpost; cases he
    | pan e =>
      obtain ⟨he, rfl⟩ := hpost
      cases he
      exact ⟨hpk, fun S => hP e r (by simpa [Ex.k] using hF) Φ' S⟩
end

/- entering -/
def bodyC (fn : Func) : Code := fn.body.getD .skip
theorem CallG.W {P : Program} {f : FuncId} {args : List SV} {hp : List Blk} {post : R → Post} {o : Option R} {fn : Func} (hf : P.funcs[f]? = some fn)
    (k : ∀ E G β0, W ⟨P, E, G, Φ, β0, hp.length, [], none⟩ (fun r => bodyPost P fn (RetR ⟨P, E, G, Φ, β0, hp.length, [], none⟩ (post r))) Φ ⟨[.code (bodyC fn)], ⟨args ++ List.replicate (fn.ntmps - args.length) (.v undef), hp⟩⟩ o some)
    (hb : fn.body.isSome = true := by kernel_rfl) (hmx : P.follows .mixedOrders = true := by kernel_rfl) (hbd : ({ fr := args ++ List.replicate (fn.ntmps - args.length) (.v undef), hp } : SS).bd = true := by kernel_rfl) :
    ∀ r, o = some r → CallG P f args hp Φ (post r) := by
  intro r hr
  have hb' : fn.body = some (bodyC fn) := by unfold bodyC; cases h : fn.body with | none => rw [h] at hb; cases hb | some c => rfl
  refine CallG.enter hf hb' _ rfl hbd fun E G β0 => ?_
  exact (k E G β0 r (by rw [hr]; rfl) ⟨hmx, fun _ => PanOk.body, fun h => absurd rfl h⟩ trivial).imp fun _ _ q => wpIn_wide.1 q

/- rounds -/
def isLoop (m : MS) : Bool := match m.k with | .lp _ :: _ => true | _ => false
def lpB (m : MS) (S : SS) : MS := match m.k with | .lp c :: k => ⟨.code c :: .lp c :: k, S⟩ | _ => m

theorem AtM.to {Q : QT} {k0 : List Fr} {T : SS} (k : AtM Γ Q Φ ⟨k0, T⟩) (hk : m.k = k0) (hS : maskS T m.s = T) (hl : T.fr.length = m.s.fr.length) (hb : T.bd = true) (hn : Nat.ble Γ.n T.hp.length = true) : AtM Γ Q Φ m := by
  obtain ⟨fs, S⟩ := m
  simp only at hk hS hl; subst hk
  intro env hd
  have hfs : fSub T S := by
    intro i g cs t hi
    rw [← hS] at hi
    simp only [maskS, List.getElem?_zipWith] at hi
    cases h1 : T.hp[i]? with
    | none => rw [h1] at hi; simp at hi
    | some a =>
      cases h2 : S.hp[i]? with
      | none => rw [h1, h2] at hi; simp at hi
      | some b =>
        rw [h1, h2] at hi
        cases a <;> simp at hi <;> rw [hi]
  have k2 := k env (drwOk.sub hfs hd)
  refine At.mask T hl (by rw [hS]; exact hb) (by rw [hS]; exact Nat.le_of_ble_eq_true hn) ?_
  rw [hS]
  exact k2

theorem W.to (q : Nat) {k0 : List Fr} {T : SS} (k : W Γ Q Φ ⟨k0, T⟩ o K) (hk : (GM Γ Φ q m).k = k0 := by kernel_rfl) (hS : maskS T (GM Γ Φ q m).s = T := by kernel_rfl) (hl : T.fr.length = (GM Γ Φ q m).s.fr.length := by kernel_rfl) (hb : T.bd = true := by kernel_rfl) (hn : Nat.ble Γ.n T.hp.length = true := by kernel_rfl) : W Γ Q Φ m o K :=
  ⟨fun r hr => AtM.go q (AtM.to (k r hr) hk hS hl hb hn)⟩

theorem W.unroll {S : SS} {k0 : List Fr} {c : Code} (k : W Γ Q Φ ⟨.code c :: .lp c :: k0, S⟩ o K) : W Γ Q Φ ⟨.lp c :: k0, S⟩ o K := by
  refine ⟨fun r hr env hd β a w h b k' cs hro hfn hrm => ?_⟩
  obtain ⟨e, a₁, w₁, hq, harr⟩ := k r hr env hd β a w h b (.inLoop c :: k') cs hro hfn hrm
  cases e with
  | normal =>
    obtain ⟨e₂, a₂, w₂, hq₂, harr₂⟩ := hq b k' cs hro hfn hrm
    exact ⟨e₂, a₂, w₂, hq₂, .of_steps (StepsIn.trans harr (.one (fenced_calm hfn hrm rfl) stepR_inLoop)) harr₂⟩
  | exit id => exact ⟨_, a₁, w₁, hq, .pass (x := .inLoop c) rfl (fun _ _ => .inl (by simp)) harr⟩
  | goto l => exact ⟨_, a₁, w₁, hq, .pass (x := .inLoop c) rfl (fun _ _ => .inl (by simp)) harr⟩
  | ret => exact ⟨_, a₁, w₁, hq, .pass (x := .inLoop c) rfl (fun _ _ => .inl (by simp)) harr⟩
  | panic ch => exact ⟨_, a₁, w₁, hq, .pass (x := .inLoop c) rfl (fun _ _ => .inl (by simp)) harr⟩
  | outgrown => exact ⟨_, a₁, w₁, hq, .pass (x := .inLoop c) rfl (fun _ _ => .inl (by simp)) harr⟩

theorem W.loop (q : Nat) {σ τ : Type} (Lp : Nat → σ → Option A) (Sf : σ → τ → SS) (Ls : σ → τ → List En) {n : Nat} {st0 : σ} (t0 : τ) (H : Reps Φ (Ls st0 t0)) (h0 : ∀ st, Lp 0 st = none)
    (body : ∀ n, (∀ st t Φ', Reps Φ' (Ls st t) → W Γ Q Φ' ⟨(GM Γ Φ q m).k, Sf st t⟩ (Lp n st) K) → ∀ st t Φ', Reps Φ' (Ls st t) → W Γ Q Φ' (lpB (GM Γ Φ q m) (Sf st t)) (Lp (n + 1) st) K)
    (hl : isLoop (GM Γ Φ q m) = true := by kernel_rfl) (hS : maskS (Sf st0 t0) (GM Γ Φ q m).s = Sf st0 t0 := by kernel_rfl) (hfl : (Sf st0 t0).fr.length = (GM Γ Φ q m).s.fr.length := by kernel_rfl) (hb : (Sf st0 t0).bd = true := by kernel_rfl) (hn : Nat.ble Γ.n (Sf st0 t0).hp.length = true := by kernel_rfl) : W Γ Q Φ m (Lp n st0) K := by
  have key : ∀ n st t Φ', Reps Φ' (Ls st t) → W Γ Q Φ' ⟨(GM Γ Φ q m).k, Sf st t⟩ (Lp n st) K := by
    intro n
    induction n with
    | zero => intro st t Φ' _; refine ⟨fun r hr => ?_⟩; rw [h0] at hr; cases hr
    | succ n ih =>
      intro st t Φ' H'
      have hb := body n ih st t Φ' H'
      unfold isLoop at hl
      split at hl
      · rename_i c k0 hk
        unfold lpB at hb
        rw [hk] at hb ⊢
        exact W.unroll hb
      · cases hl
  exact W.to q (key n st0 t0 Φ H) rfl hS hfl hb hn

def popK (id : Nat) (k : List Fr) : List Fr := (popTo id k).getD []
/-- Rounds, and what follows them. -/
theorem W.lp {σ τ α ρ τ' : Type} (q : Nat) (id : Nat) {rr : ρ → A} {F : α → Option A} (Lp : Nat → σ → Option (Lo α ρ)) (Sf : σ → τ → SS) (Ls : σ → τ → List En) (Sx : α → τ' → SS) (Lx : α → τ' → List En) {n : Nat} {st0 : σ} (t0 : τ) (H : Reps Φ (Ls st0 t0)) (h0 : ∀ st, Lp 0 st = none)
    (cont : ∀ a t Φ', Reps Φ' (Lx a t) → W Γ Q Φ' ⟨popK id (GM Γ Φ q m).k, Sx a t⟩ (F a) K)
    (body : ∀ n, (∀ st t Φ', Reps Φ' (Ls st t) → W Γ Q Φ' ⟨(GM Γ Φ q m).k, Sf st t⟩ (Lp n st) (Lo.kk rr F K)) → (∀ a t Φ', Reps Φ' (Lx a t) → W Γ Q Φ' ⟨popK id (GM Γ Φ q m).k, Sx a t⟩ (some (Lo.ex a)) (Lo.kk rr F K)) → ∀ st t Φ', Reps Φ' (Ls st t) → W Γ Q Φ' (lpB (GM Γ Φ q m) (Sf st t)) (Lp (n + 1) st) (Lo.kk rr F K))
    (hl : isLoop (GM Γ Φ q m) = true := by kernel_rfl) (hS : maskS (Sf st0 t0) (GM Γ Φ q m).s = Sf st0 t0 := by kernel_rfl) (hfl : (Sf st0 t0).fr.length = (GM Γ Φ q m).s.fr.length := by kernel_rfl) (hb : (Sf st0 t0).bd = true := by kernel_rfl) (hn : Nat.ble Γ.n (Sf st0 t0).hp.length = true := by kernel_rfl) : W Γ Q Φ m ((Lp n st0).bind (Lo.k rr F)) K :=
  W.lbind (W.loop q Lp Sf Ls t0 H h0 (fun n ih => body n ih fun a t Φ' H' => W.ex (cont a t Φ' H')) hl hS hfl hb hn)
end
end Go.Sx
