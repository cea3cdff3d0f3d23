/- Sx7: entering a function, its end, calls. General: no program. -/
import Derived.Test.YtgkjblbmiooedaaSx6
namespace Go.Sx
open Go.RowKit

inductive EndS where
  | ret (x : SV)
  | pan (chain : List PanicEntry)

def EndS.fits (β : Nat → Nat) : EndS → Ending → Prop
  | .ret x, e => e = .returned (den β x)
  | .pan c, e => e = .panicked c
def EndS.bd (n : Nat) : EndS → Bool
  | .ret x => x.ok n
  | .pan _ => true

abbrev Post := Phi → EndS → List Blk → Prop

/-- What a call leaves. -/
def RetR (Γ : Ctx) (post : Post) : Ending → World → Prop := fun e w => ∃ Φ β hp es, EndS.fits β es e ∧ es.bd hp.length = true ∧ hp.all (Blk.bd hp.length) = true ∧ Γ.n ≤ hp.length ∧
  (∀ i, i < Γ.n → β i = Γ.β0 i) ∧ Own β hp Φ w ∧ Sto Φ w ∧ Keep Γ.G Γ.E w ∧ PhiG Γ.G Γ.E.heap.size Γ.Φ0 Φ ∧
  (∀ (i : Nat) (b : Blk) (k : Nat), hp[i]? = some b → b.bid β i = some k → Γ.E.heap.size ≤ k ∨ ∃ j, Γ.G j k) ∧ post Φ es hp

def gOf (β : Nat → Nat) (hp : List Blk) : Nat → Nat → Prop := fun i k => ∃ (b : Blk), hp[i]? = some b ∧ b.bid β i = some k

/-- A function's contract: handed these, with these blocks of the caller's own, it leaves so. -/
def CallG (P : Program) (f : FuncId) (args : List SV) (hp : List Blk) (Φ : Phi) (post : Post) : Prop :=
  ∀ β w, Sto Φ w → Own β hp Φ w → Calls P f (args.map (den β)).toArray w (RetR ⟨P, w, gOf β hp, Φ, β, hp.length, [], none⟩ post)

theorem CallG.mono {P : Program} {f : FuncId} {args : List SV} {hp : List Blk} {Φ : Phi} {post post' : Post} (h : CallG P f args hp Φ post) (k : ∀ Φ' es hp', PhiLe 0 Φ Φ' → post Φ' es hp' → post' Φ' es hp') : CallG P f args hp Φ post' :=
  fun β w hs ho => (h β w hs ho).mono fun _ _ ⟨Φ', β', hp', es, h1, h2, h3, h4, h5, h6, h7, h8, h9, h10, h11⟩ => ⟨Φ', β', hp', es, h1, h2, h3, h4, h5, h6, h7, h8, h9, h10, k Φ' es hp' ⟨h9.1, fun _ h => by omega⟩ h11⟩

theorem lt_get {α : Type} {l : List α} {i : Nat} {x : α} (h : l[i]? = some x) : i < l.length := by
  rcases Nat.lt_or_ge i l.length with h' | h'
  · exact h'
  · rw [List.getElem?_eq_none h'] at h; cases h

theorem CallG.enter {P : Program} {f : FuncId} {args : List SV} {hp : List Blk} {Φ : Phi} {post : Post} {fn : Func} {c : Code} (hf : P.funcs[f]? = some fn) (hb : fn.body = some c)
    (S0 : SS) (hS : ({ fr := args ++ List.replicate (fn.ntmps - args.length) (.v undef), hp } : SS) = S0) (hbd : S0.bd = true)
    (k : ∀ (E : World) (G : Nat → Nat → Prop) (β0 : Nat → Nat), At ⟨P, E, G, Φ, β0, hp.length, [], none⟩ Φ S0 (c.wp P (bodyPost P fn (RetR ⟨P, E, G, Φ, β0, hp.length, [], none⟩ post)))) : CallG P f args hp Φ post := by
  subst hS
  intro β w hs ho
  refine calls_of_wp hf hb ?_
  refine k w (gOf β hp) β β _ w ⟨?_, rfl, ho, hs, fun i b k hi hk => .inr ⟨i, b, hi, hk⟩, ⟨rfl, rfl, rfl, Nat.le_refl _, fun _ _ _ => rfl⟩, ⟨fun _ _ h => h, fun _ _ _ => rfl⟩, hbd, fun _ _ => rfl, Nat.le_refl _⟩
  have h1 := (mat_map (β := β) args).append (mat_v (β := β) (List.replicate (fn.ntmps - args.length) undef))
  simpa using h1

def resL (P : Program) (S : SS) : List ResultVar → Option (List SV)
  | [] => some []
  | .tmp t :: l => (resL P S l).map (S.fr.getD t .u :: ·)
  | .cell a t :: l => match S.fr.getD a .u with
    | .p i off => match S.hp[i]? with
      | some (.c cs _) => match ldB P t cs off, resL P S l with
        | some x, some r => some (x :: r)
        | _, _ => none
      | _ => none
    | _ => none

def resS (P : Program) (fn : Func) (S : SS) : Option SV :=
  match resL P S fn.results.toList with
  | some [x] => some x
  | some l => some (.tup l)
  | none => none

section
variable {Γ : Ctx} {Φ : Phi} {S S' : SS} {Q : Exit → Act → World → Prop}

theorem run_resL {β : Nat → Nat} {a : Act} {w : World} (h : St Γ Φ β S a w) (g : ResultVar → Sem Value) (g1 : ∀ t, g (.tmp t) = pure (a.tmps.getD t undef)) (g2 : ∀ p t, g (.cell p t) = (do loadVar t (← asAddr (a.tmps.getD p undef)))) : ∀ (rs : List ResultVar) (l : List SV), resL Γ.P S rs = some l →
    ∃ vs : List Value, (rs.mapM g : Sem (List Value)).run Γ.P w = .ok vs w ∧ Mat β l vs
  | [], l, hl => by cases hl; exact ⟨[], rfl, rfl, fun k c v hc => by simp at hc⟩
  | .tmp t :: rs, l, hl => by
    simp only [resL, Option.map_eq_some_iff] at hl
    obtain ⟨r, hr, rfl⟩ := hl
    obtain ⟨vs, hv, hm⟩ := run_resL h g g1 g2 rs r hr
    refine ⟨a.tmps.getD t undef :: vs, ?_, ?_⟩
    · rw [List.mapM_cons]
      simp only [g1, Sem.run_bind, Sem.run_pure, Result.andThen_ok, hv]
    · have h1 := h.eval (.tmp t)
      have h2 : Mat β [S.fr.getD t .u] [a.tmps.getD t undef] := ⟨rfl, fun k c v hc hv => by
        cases k with
        | zero => cases hc; cases hv; exact h1
        | succ k => simp at hc⟩
      exact h2.append hm
  | .cell p t :: rs, l, hl => by
    simp only [resL] at hl
    split at hl
    · rename_i i off hp
      split at hl
      · rename_i cs ct hi
        split at hl
        · rename_i x r hx hr
          cases hl
          obtain ⟨vs, hv, hm⟩ := run_resL h g g1 g2 rs r hr
          obtain ⟨vb, hvb, hmb⟩ := h.own.c i cs ct hi
          obtain ⟨v, hrun, hf⟩ := run_ldB (w := w) hmb hx (β i) off (fun j u hj => by
            rw [cell_of_row w (β i) (off + j) vb ct (0, 0) hvb]
            simpa using hj)
          have hpe : a.tmps.getD p undef = .pointer (some ⟨β i, off, none⟩) := fits_p (x := .tmp p) h hp
          refine ⟨v :: vs, ?_, ?_⟩
          · rw [List.mapM_cons]
            simp only [g2, Sem.run_bind, hpe, asAddr, Sem.run_pure, Result.andThen_ok, hrun, hv]
          · have h2 : Mat β [x] [v] := ⟨rfl, fun k c u hc hv => by
              cases k with
              | zero => cases hc; cases hv; exact hf
              | succ k => simp at hc⟩
            exact h2.append hm
        · cases hl
      · cases hl
    · cases hl

theorem run_resS {β : Nat → Nat} {a : Act} {w : World} {fn : Func} {x : SV} (h : St Γ Φ β S a w) (hr : resS Γ.P fn S = some x) (hx : x.ok S.hp.length = true) :
    (results fn a.tmps).run Γ.P w = .ok (den β x) w := by
  unfold resS at hr
  have key : ∀ l, resL Γ.P S fn.results.toList = some l → ∃ vs : List Value, (results fn a.tmps).run Γ.P w = .ok (if h : vs.toArray.size = 1 then vs.toArray[0] else .tuple vs.toArray) w ∧ Mat β l vs := by
    intro l hl
    have hg : ∀ g : ResultVar → Sem Value, (∀ t, g (.tmp t) = pure (a.tmps.getD t undef)) → (∀ p t, g (.cell p t) = (do loadVar t (← asAddr (a.tmps.getD p undef)))) → ∃ vs : List Value, (fn.results.mapM g : Sem (Array Value)).run Γ.P w = .ok vs.toArray w ∧ Mat β l vs := by
      intro g g1 g2
      obtain ⟨vs, hv, hm⟩ := run_resL h g g1 g2 fn.results.toList l hl
      refine ⟨vs, ?_, hm⟩
      rw [Array.mapM_eq_mapM_toList, Sem.run_map, hv]
      rfl
    obtain ⟨vs, hv, hm⟩ := hg (fun | .tmp t => pure (a.tmps.getD t undef) | .cell p t => do loadVar t (← asAddr (a.tmps.getD p undef))) (fun _ => rfl) (fun _ _ => rfl)
    refine ⟨vs, ?_, hm⟩
    have : results fn a.tmps = (do let vs ← fn.results.mapM (fun | .tmp t => pure (a.tmps.getD t undef) | .cell p t => do loadVar t (← asAddr (a.tmps.getD p undef))); pure (if h : vs.size = 1 then vs[0] else .tuple vs)) := rfl
    rw [this, Sem.run_bind, hv]
    rfl
  split at hr
  · rename_i y hl
    cases hr
    obtain ⟨vs, hv, hm⟩ := key _ hl
    rw [hv]
    match vs, hm with
    | [v], hm =>
      have := hm.2 0 _ v rfl rfl
      simp [this.known (by rintro rfl; cases hx)]
    | [], hm => have := hm.1; simp at this
    | _ :: _ :: _, hm => have := hm.1; simp at this
  · rename_i l hne hl
    cases hr
    obtain ⟨vs, hv, hm⟩ := key _ hl
    rw [hv]
    simp only [SV.ok] at hx
    have hk : l.any SV.isU = false := by
      rw [List.any_eq_false]
      intro y hy hu
      have := okL_all _ _ hx y hy
      cases y <;> simp_all [SV.isU, SV.ok]
    have hvs := fits_any hm hk
    have hlen : vs.toArray.size ≠ 1 := by
      intro h1
      have h2 := hm.1
      simp only [List.size_toArray] at h1
      rw [h1] at h2
      match l, h2 with
      | [y], _ => exact hne y rfl
    rw [dif_neg hlen, hvs]
    simp [den, denL_eq]
  · cases hr

theorem leaves_of {β : Nat → Nat} {a : Act} {w : World} {post : Post} {es : EndS} {e : Ending} (h : St Γ Φ β S a w) (hf : es.fits β e) (hb : es.bd S.hp.length = true) (k : post Φ es S.hp) : RetR Γ post e w := by
  have hbd := h.bd
  unfold SS.bd at hbd
  rw [Bool.and_eq_true] at hbd
  exact ⟨Φ, β, S.hp, es, hf, hb, hbd.2, h.len, h.pin, h.own, h.sto, h.keep, h.phi, h.lo, k⟩

theorem At.leave (hdf : Γ.df = []) {fn : Func} {post : Post} (x : SV) (hr : resS Γ.P fn S = some x) (hx : x.ok S.hp.length = true) (k : post Φ (.ret x) S.hp) : At Γ Φ S (bodyPost Γ.P fn (RetR Γ post) .ret) :=
  fun β _ _ h => ⟨h.df.trans hdf, den β x, run_resS h hr hx, leaves_of (es := .ret x) h rfl hx k⟩
theorem At.leave_end (hdf : Γ.df = []) {fn : Func} {post : Post} (x : SV) (hr : resS Γ.P fn S = some x) (hx : x.ok S.hp.length = true) (k : post Φ (.ret x) S.hp) : At Γ Φ S (bodyPost Γ.P fn (RetR Γ post) .normal) :=
  fun β _ _ h => ⟨h.df.trans hdf, den β x, run_resS h hr hx, leaves_of (es := .ret x) h rfl hx k⟩
theorem At.leave_panic (hdf : Γ.df = []) {fn : Func} {post : Post} {ch : List PanicEntry} (k : post Φ (.pan ch) S.hp) : At Γ Φ S (bodyPost Γ.P fn (RetR Γ post) (.panic ch)) :=
  fun _ _ _ h => ⟨h.df.trans hdf, leaves_of (es := .pan ch) h rfl rfl k⟩
end

/- Renaming own blocks. -/
mutual
def SV.ren (ρ : Nat → Nat) : SV → SV
  | .u => .u
  | .v x => .v x
  | .p i off => .p (ρ i) off
  | .s i off len cap => .s (ρ i) off len cap
  | .fn f caps => .fn f (SV.renL ρ caps)
  | .agg l => .agg (SV.renL ρ l)
  | .tup l => .tup (SV.renL ρ l)
  | .ifc t x => .ifc t (SV.ren ρ x)
def SV.renL (ρ : Nat → Nat) : List SV → List SV
  | [] => []
  | x :: l => SV.ren ρ x :: SV.renL ρ l
end
def Blk.ren (ρ : Nat → Nat) : Blk → Blk
  | .c cells t => .c (SV.renL ρ cells) t
  | b => b

theorem renL_eq (ρ : Nat → Nat) (l : List SV) : SV.renL ρ l = l.map (SV.ren ρ) := by
  induction l with
  | nil => rfl
  | cons x l ih => simp [SV.renL, ih]

mutual
theorem den_ren (β ρ : Nat → Nat) : ∀ x : SV, den β (x.ren ρ) = den (fun i => β (ρ i)) x
  | .u => rfl
  | .v _ => rfl
  | .p _ _ => rfl
  | .s _ _ _ _ => rfl
  | .fn _ caps => by simp only [SV.ren, den, denL_ren β ρ caps]
  | .agg l => by simp only [SV.ren, den, denL_ren β ρ l]
  | .tup l => by simp only [SV.ren, den, denL_ren β ρ l]
  | .ifc _ x => by simp only [SV.ren, den, den_ren β ρ x]
theorem denL_ren (β ρ : Nat → Nat) : ∀ l : List SV, denL β (SV.renL ρ l) = denL (fun i => β (ρ i)) l
  | [] => rfl
  | x :: l => by simp only [SV.renL, denL, den_ren β ρ x, denL_ren β ρ l]
end

theorem ren_u {ρ : Nat → Nat} {x : SV} : x.ren ρ = .u ↔ x = .u := by cases x <;> simp [SV.ren]
theorem fits_ren {β ρ : Nat → Nat} {x : SV} {v : Value} : Fits β (x.ren ρ) v ↔ Fits (fun i => β (ρ i)) x v := by
  unfold Fits; rw [ren_u, den_ren]
theorem mat_ren {β ρ : Nat → Nat} {cs : List SV} {vs : List Value} : Mat β (SV.renL ρ cs) vs ↔ Mat (fun i => β (ρ i)) cs vs := by
  rw [renL_eq]
  constructor
  · rintro ⟨h1, h2⟩
    refine ⟨by simpa using h1, fun k c v hc hv => fits_ren.1 (h2 k (c.ren ρ) v (by rw [List.getElem?_map, hc]; rfl) hv)⟩
  · rintro ⟨h1, h2⟩
    refine ⟨by simpa using h1, fun k c v hc hv => ?_⟩
    rw [List.getElem?_map] at hc
    cases hk : cs[k]? with
    | none => rw [hk] at hc; cases hc
    | some c' => rw [hk] at hc; cases hc; exact fits_ren.2 (h2 k c' v hk hv)

end Go.Sx
