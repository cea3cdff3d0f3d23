/- SyK: bound methods, and calls with addresses of known boxes. General: no program. -/
import Derived.Test.YtgkjblbmiooedaaSyJ
namespace Go.Sx
open Go.RowKit

section
variable {A R : Type} {Γ : Ctx} {Q : R → QT} {Φ : Phi} {m : MS} {o : Option A} {K : A → Option R} {L : List En}

/-- One slot's pointer to a known box is told by its address. -/
def unf1M (m : MS) (d g off : Nat) : MS := ⟨m.k, ⟨m.s.fr.set d (.v (.pointer (some ⟨g, off, none⟩))), m.s.hp⟩⟩
theorem At.unf1 {X : Act → World → Prop} {S : SS} {i d g off : Nat} {cs : List Value} {t : TypeId} (hi : S.hp[i]? = some (.f g cs t)) (hd : S.fr[d]? = some (.p i off)) (hb : (⟨S.fr.set d (.v (.pointer (some ⟨g, off, none⟩))), S.hp⟩ : SS).bd = true) (k : At Γ Φ ⟨S.fr.set d (.v (.pointer (some ⟨g, off, none⟩))), S.hp⟩ X) : At Γ Φ S X := by
  intro β a w h
  refine k β a w ⟨⟨by simpa using h.fr.1, fun j c v hc hv => ?_⟩, h.df, h.own, h.sto, h.lo, h.keep, h.phi, hb, h.pin, h.len⟩
  rw [List.getElem?_set] at hc
  split at hc
  · rename_i e; subst e
    split at hc
    · cases hc
      have h1 := h.fr.2 d _ v hd hv
      right
      rw [h1.known (by simp)]
      simp only [den, (h.own.f i g cs t hi).1]
    · cases hc
  · exact h.fr.2 j c v hc hv
theorem W.unf1 (q d i off : Nat) (k : W Γ Q Φ (unf1M (GM Γ Φ q m) d (gOfF i (GM Γ Φ q m)) off) o K) (hi : isFb i (GM Γ Φ q m) = true := by kernel_rfl) (hd : (GM Γ Φ q m).s.fr[d]? = some (.p i off) := by kernel_rfl)
    (hb : (unf1M (GM Γ Φ q m) d (gOfF i (GM Γ Φ q m)) off).s.bd = true := by kernel_rfl) : W Γ Q Φ m o K := ⟨fun r hr =>
  AtM.go q fun env hdr => by
    obtain ⟨cs, t, hi⟩ := isFb_spec hi
    exact At.unf1 hi hd hb (k.run r hr env (drwOk.sub (S := (goM Γ.P Γ.md.isNone Φ q m).s) (S' := (unf1M (GM Γ Φ q m) d (gOfF i (GM Γ Φ q m)) off).s) (k := (goM Γ.P Γ.md.isNone Φ q m).k) (fSub.of_hp rfl) hdr))⟩

def mfM (m : MS) : Option Value :=
  match opM m with
  | some o => match o.op with
    | .makeFunc (.func f) first caps => match vals (first.toList.map m.s.get), vals (caps.toList.map m.s.get) with
      | some x, some y => some (.func (.func f) x.toArray y.toArray)
      | _, _ => none
    | _ => none
  | none => none
where vals : List SV → Option (List Value)
  | [] => some []
  | .v x :: l => (vals l).map (x :: ·)
  | _ :: _ => none
theorem mfM_vals {β : Nat → Nat} {a : Act} {w : World} (h : St Γ Φ β m.s a w) : ∀ {l : List Operand} {x : List Value}, mfM.vals (l.map m.s.get) = some x → l.map a.eval = x
  | [], x, e => by cases e; rfl
  | y :: l, x, e => by
    simp only [List.map_cons] at e ⊢
    unfold mfM.vals at e
    split at e
    · cases ‹_ :: _ = []›
    · rename_i v l' he
      simp only [List.cons.injEq] at he
      obtain ⟨h1, rfl⟩ := he
      obtain ⟨z, hz, rfl⟩ := Option.map_eq_some_iff.1 e
      rw [fits_v h h1, mfM_vals h hz]
    · cases e
theorem W.mf (q : Nat) (v : Value) (k : W Γ Q Φ (putM (GM Γ Φ q m) (.v v)) o K) (h : mfM (GM Γ Φ q m) = some v := by kernel_rfl) : W Γ Q Φ m o K := by
  refine ⟨fun r hr => AtM.go q ?_⟩
  have k1 := k.run r hr
  unfold mfM at h
  split at h
  · rename_i o' ho
    split at h
    · rename_i f first caps hop
      split at h
      · rename_i x y hx hy
        cases h
        refine AtM.val ho _ rfl (fun β a w hst => ⟨_, ?_, .inr rfl⟩) k1
        have e1 := mfM_vals hst hx
        have e2 := mfM_vals hst hy
        have e3 : first.map a.eval = x.toArray := by apply Array.ext'; simpa using e1
        have e4 : caps.map a.eval = y.toArray := by apply Array.ext'; simpa using e2
        unfold execOp; rw [hop]
        simp [e3, e4, den, Instr.makeFunc]
      · cases h
    · cases h
  · cases h

theorem AtM.callU {Q : QT} {f : FuncId} {av : List SV} {post : Post} (idx : List Nat) (hpf : List Blk) (h : callM m = some (f, av.map (unfN hpf.length (gsOf hpf)))) (hu : (av.map (unfN hpf.length (gsOf hpf))).any SV.isU = false) (hc : callable Γ.P f = true)
    (hsub : idx.map (m.s.hp[·]?) = hpf.map some) (hF : hpf.all Blk.isF = true) (h0 : (av.map (unfN hpf.length (gsOf hpf))).all (SV.ok 0) = true) (hav : (av.map (unfN hpf.length (gsOf hpf))).map (SV.ren (inR [])) = av.map (unfN hpf.length (gsOf hpf)))
    (hC : CallG Γ.P f av hpf Φ post) (hO : ∀ Φ' es full, post Φ' es full → es.bd 0 = true ∧ (full.drop hpf.length).all Blk.isO = true)
    (kr : ∀ Φ' x full, PhiLe 0 Φ Φ' → post Φ' (.ret x) full → (retM m [] x (full.drop hpf.length)).s.bd = true ∧ AtM Γ Q Φ' (retM m [] x (full.drop hpf.length)))
    (kp : ∀ Φ' ch full, PhiLe 0 Φ Φ' → post Φ' (.pan ch) full → (mergeP m.s [] (full.drop hpf.length)).bd = true ∧ ∀ S, At Γ Φ' S (Q (.panic ch))) : AtM Γ Q Φ m := by
  intro env hdr β a w hst
  have hΦ : ∀ (i g : Nat) (cs : List Value) (t : TypeId), hpf[i]? = some (.f g cs t) → Φ g = some (.cells cs.toArray t (0, 0)) := by
    intro i g cs t hi
    have h1 : (hpf.map some)[i]? = some (some (.f g cs t)) := by rw [List.getElem?_map, hi]; rfl
    rw [← hsub, List.getElem?_map] at h1
    cases h2 : idx[i]? with
    | none => rw [h2] at h1; simp at h1
    | some j => rw [h2] at h1; simp at h1; exact (hst.own.f j g cs t h1).2
  have hC' := CallG.unf hC hF hΦ h0 hO
  refine AtM.call (Γ := Γ) (Q := Q) (m := m) [] [] (h.trans (by rw [hav])) hu hc List.nodup_nil rfl hC' ?_ ?_ env hdr β a w hst
  · rintro Φ' x hp' hle ⟨full, hpost, rfl⟩
    obtain ⟨h1, h2⟩ := kr Φ' x full hle hpost
    refine ⟨h1, ⟨(full.drop hpf.length).length, ?_⟩, h2⟩
    have hOs := (hO Φ' _ full hpost).2
    generalize full.drop hpf.length = hn at hOs
    show (setMany m.s.hp [] _ ++ _).map fOnly = _
    simp only [setMany, List.map_append, List.length_nil, List.drop_zero, List.map_map]
    congr 1
    apply List.ext_getElem
    · simp
    · intro i h1 h2
      simp only [List.getElem_map, List.getElem_replicate]
      have := List.all_eq_true.1 hOs _ (List.getElem_mem (by simpa using h1) : hn[i]'(by simpa using h1) ∈ hn)
      simp only [Function.comp]
      cases hb : hn[i]'(by simpa using h1) <;> rw [hb] at this <;> first | rfl | cases this
  · rintro Φ' ch hp' hle ⟨full, hpost, rfl⟩
    exact kp Φ' ch full hle hpost

section
variable {X : Type} {F : X → Option A} {f : FuncId} {av : List SV} {pn : Int → A} {T0 : TypeId}
theorem W.callU {g : Option X} (q : Nat) {τ : Type} {rv : X → τ → SV} {hps : X → τ → List Blk} {ens : X → τ → List En} (idx : List Nat) {hpf : List Blk} (H : Reps Φ L) (hC : ∀ x, g = some x → CallG Γ.P f av hpf Φ (tPost (rv x) (hps x) (ens x)))
    (k : ∀ x t Φ', g = some x → Reps Φ' (ens x t ++ L) → W Γ Q Φ' (retM (GM Γ Φ q m) [] (rv x t) ((hps x t).drop hpf.length)) (F x) K)
    (h : callM (GM Γ Φ q m) = some (f, av.map (unfN hpf.length (gsOf hpf))) := by kernel_rfl) (hu : (av.map (unfN hpf.length (gsOf hpf))).any SV.isU = false := by kernel_rfl) (hc : callable Γ.P f = true := by kernel_rfl)
    (hsub : idx.map ((GM Γ Φ q m).s.hp[·]?) = hpf.map some := by kernel_rfl) (hF : hpf.all Blk.isF = true := by kernel_rfl) (h0 : (av.map (unfN hpf.length (gsOf hpf))).all (SV.ok 0) = true := by kernel_rfl)
    (hr0 : ∀ x t, (rv x t).ok 0 = true := by (intro _ _; kernel_rfl)) (hrO : ∀ x t, ((hps x t).drop hpf.length).all Blk.isO = true := by (intro _ _; kernel_rfl))
    (hbd : ∀ x t, (retM (GM Γ Φ q m) [] (rv x t) ((hps x t).drop hpf.length)).s.bd = true := by (intro _ _; kernel_rfl)) (hav : (av.map (unfN hpf.length (gsOf hpf))).map (SV.ren (inR [])) = av.map (unfN hpf.length (gsOf hpf)) := by kernel_rfl) : W Γ Q Φ m (g.bind F) K := by
  refine ⟨fun r hr => ?_⟩
  obtain ⟨x, hx, hF'⟩ := Option.bind_eq_some_iff.1 (by rw [Option.bind_assoc] at hr; exact hr)
  refine AtM.go q (AtM.callU idx hpf h hu hc hsub hF h0 hav (hC x hx) ?_ ?_ ?_)
  · rintro Φ' es full ⟨t, rfl, rfl, _⟩; exact ⟨hr0 x t, hrO x t⟩
  · rintro Φ' y full hle ⟨t, he, rfl, hR⟩
    cases he
    exact ⟨hbd x t, k x t Φ' hx (hR.app (H.mono hle)) r hF'⟩
  · rintro Φ' ch full hle ⟨t, he, _⟩; cases he
theorem W.callUE {g : Option (Ex X)} (q : Nat) {τ : Type} {rv : X → τ → SV} {hps : X → τ → List Blk} {ens : X → τ → List En} (idx : List Nat) {hpf : List Blk} (hP : PanK Γ Q T0 pn K) (H : Reps Φ L) (hC : ∀ x, g = some x → CallG Γ.P f av hpf Φ (ePost T0 hpf.length (fun x => tPost (rv x) (hps x) (ens x)) x))
    (k : ∀ x t Φ', g = some (.ok x) → Reps Φ' (ens x t ++ L) → W Γ Q Φ' (retM (GM Γ Φ q m) [] (rv x t) ((hps x t).drop hpf.length)) (F x) K)
    (h : callM (GM Γ Φ q m) = some (f, av.map (unfN hpf.length (gsOf hpf))) := by kernel_rfl) (hu : (av.map (unfN hpf.length (gsOf hpf))).any SV.isU = false := by kernel_rfl) (hc : callable Γ.P f = true := by kernel_rfl)
    (hsub : idx.map ((GM Γ Φ q m).s.hp[·]?) = hpf.map some := by kernel_rfl) (hF : hpf.all Blk.isF = true := by kernel_rfl) (h0 : (av.map (unfN hpf.length (gsOf hpf))).all (SV.ok 0) = true := by kernel_rfl)
    (hr0 : ∀ x t, (rv x t).ok 0 = true := by (intro _ _; kernel_rfl)) (hrO : ∀ x t, ((hps x t).drop hpf.length).all Blk.isO = true := by (intro _ _; kernel_rfl))
    (hbd : ∀ x t, (retM (GM Γ Φ q m) [] (rv x t) ((hps x t).drop hpf.length)).s.bd = true := by (intro _ _; kernel_rfl)) (hav : (av.map (unfN hpf.length (gsOf hpf))).map (SV.ren (inR [])) = av.map (unfN hpf.length (gsOf hpf)) := by kernel_rfl) (hpk : (mergeP (GM Γ Φ q m).s [] []).bd = true := by kernel_rfl) : W Γ Q Φ m (g.bind (Ex.k pn F)) K := by
  refine ⟨fun r hr => ?_⟩
  obtain ⟨x, hx, hF'⟩ := Option.bind_eq_some_iff.1 (by rw [Option.bind_assoc] at hr; exact hr)
  refine AtM.go q (AtM.callU idx hpf h hu hc hsub hF h0 hav (hC x hx) ?_ ?_ ?_)
  · intro Φ' es full hpost
    cases x with
    | ok x => obtain ⟨t, rfl, rfl, _⟩ := hpost; exact ⟨hr0 x t, hrO x t⟩
    | pan e => obtain ⟨rfl, rfl⟩ := hpost; exact ⟨rfl, by simp⟩
  · intro Φ' y full hle hpost
    cases x with
    | ok x =>
      obtain ⟨t, he, rfl, hR⟩ := hpost
      cases he
      exact ⟨hbd x t, k x t Φ' hx (hR.app (H.mono hle)) r hF'⟩
    | pan e => cases hpost.1
  · intro Φ' ch full hle hpost
    cases x with
    | ok x => obtain ⟨t, he, _⟩ := hpost; cases he
    | pan e =>
      obtain ⟨he, rfl⟩ := hpost
      cases he
      refine ⟨by simpa using hpk, fun S => hP e r (by simpa [Ex.k] using hF') Φ' S⟩
end
end
end Go.Sx
