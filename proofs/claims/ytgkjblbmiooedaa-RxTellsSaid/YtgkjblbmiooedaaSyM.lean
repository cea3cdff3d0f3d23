/- SyM: parts of rows of the call's own, lent to a callee. General: no program. -/
import Derived.Test.YtgkjblbmiooedaaSyL
namespace Go.Sx
open Go.RowKit

section
variable {A R : Type} {Γ : Ctx} {Q : R → QT} {Φ : Phi} {m : MS} {o : Option A} {K : A → Option R} {L : List En}
variable {α : Type} {enc : α → D} {xs : List α} {F : List α → Option A} {B : Option Addr} {c t sz n : Nat} {vs : List Value} {lo hi : Int}
/-- A part of a row of the call's own. -/
theorem W.als (q : Nat) (i p : Nat) (H : Reps Φ L) (k : ∀ (l : List α) B' c', Reps Φ (.al B vs sz l.length (l.map enc) B' c' :: L) → W Γ Q Φ (putM (GM Γ Φ q m) (.v (.slice B' l.length c'))) (F l) K)
    (hp : L[p]? = some (.r sz (xs.map enc) vs) := by rfl) (hn : n = xs.length := by rfl) (h : slOp Γ.P n (GM Γ Φ q m) = some (.slice B n c, sz, lo, hi, hi) := by kernel_rfl)
    (hi' : (GM Γ Φ q m).s.hp[i]? = some (.o (.slice B n c) n vs t sz) := by kernel_rfl) : W Γ Q Φ m (sld xs lo hi F) K := by
  refine ⟨fun r hr => AtM.go q ?_⟩
  unfold sld at hr
  split at hr
  · rename_i hb
    have r1 : Rr Φ sz (xs.map enc) vs := H.get p hp
    intro env hdr β a w hst
    have hc : n ≤ c := by
      obtain ⟨B', c', hv, h2, _, _⟩ := own_form (hst.own.o i _ _ _ _ _ hi')
      cases hv; exact h2
    refine AtM.slice h hb.1 hb.2.1 (by omega) hc (fun B' e1 e2 => ?_) env hdr β a w hst
    have hll : ((xs.take hi.toNat).drop lo.toNat).length = hi.toNat - lo.toNat := by rw [List.length_drop, List.length_take]; omega
    have hal : En.ok Φ (.al B vs sz ((xs.take hi.toNat).drop lo.toNat).length (((xs.take hi.toNat).drop lo.toNat).map enc) B' ((if slMx (GM Γ Φ q m) then hi.toNat else c) - lo.toNat)) := by
      intro Φ' hle hR
      have r2 := Rr.mono hle sz _ _ r1
      simp only [Rc]
      refine ⟨by rw [List.length_map], B', _, (vs.take (hi.toNat * sz)).drop (lo.toNat * sz), rfl, ?_, ?_, ?_⟩
      · rw [hll]; split <;> omega
      · by_cases hlt : lo.toNat < (if slMx (GM Γ Φ q m) then hi.toNat else c)
        · exact (hR.take _).drop _ (e2 hlt)
        · have : hi.toNat ≤ lo.toNat := by split at hlt <;> omega
          rw [show (vs.take (hi.toNat * sz)).drop (lo.toNat * sz) = [] from List.drop_eq_nil_of_le (by rw [List.length_take]; exact Nat.le_trans (Nat.min_le_left _ _) (Nat.mul_le_mul_right _ this))]
          exact RdC.nil
      · have h1 := (r2.take hi.toNat (by rw [List.length_map]; omega)).drop lo.toNat (by rw [List.length_take, List.length_map]; omega)
        rw [List.map_drop, List.map_take]
        exact h1
    have := k ((xs.take hi.toNat).drop lo.toNat) B' ((if slMx (GM Γ Φ q m) then hi.toNat else c) - lo.toNat) (H.cons hal) r hr
    rw [hll] at this; exact this
  · simp at hr

/-- What is lent, as data. -/
def lentE (L : List En) : List Nat → List En
  | [] => []
  | p :: ps => match L[p]? with
    | some (.al _ _ sz n xs B c) => .d (.row sz n xs) (.slice B n c) :: lentE L ps
    | _ => lentE L ps
def lentOk (L : List En) (S : SS) : List (Nat × Nat) → Prop
  | [] => True
  | (p, i) :: ps => (∃ A n c xs e sz z n' ds B c', S.hp[i]? = some (.o (.slice A n c) n xs e sz) ∧ L[p]? = some (.al A xs z n' ds B c')) ∧ lentOk L S ps
theorem lent_ok {L : List En} {S : SS} {Φ Φ' : Phi} (H : Reps Φ L) (hle : PhiLe 0 Φ Φ') (hR : ∀ (i : Nat) (A : Option Addr) (n c : Nat) (xs : List Value) (e : TypeId) (sz : Nat), S.hp[i]? = some (.o (.slice A n c) n xs e sz) → RdC Φ' A xs) :
    ∀ {ps : List (Nat × Nat)}, lentOk L S ps → Reps Φ' (lentE L (ps.map (·.1)))
  | [], _ => trivial
  | (p, i) :: ps, h => by
    obtain ⟨⟨A, n, c, xs, e, sz, z, n', ds, B, c', h1, h2⟩, h3⟩ := h
    simp only [List.map_cons, lentE, h2]
    exact ⟨(H.get p h2) Φ' hle (hR i A n c xs e sz h1), lent_ok H hle hR h3⟩
/-- Data without rows. -/
def D.flat : D → Bool
  | .v _ => true
  | .agg l => flatL l
  | _ => false
where flatL : List D → Bool
  | [] => true
  | x :: l => D.flat x && flatL l
mutual
theorem Rc.flat {Φ Φ' : Phi} : ∀ {x : D} {vs : List Value}, x.flat = true → Rc Φ x vs → Rc Φ' x vs
  | .v _, _, _, h => by simpa [Rc] using h
  | .agg l, vs, hf, h => by
    simp only [Rc] at h ⊢
    exact Ra.flat (by simpa [D.flat] using hf) h
  | .row _ _ _, _, hf, _ => by simp [D.flat] at hf
  | .box _, _, hf, _ => by simp [D.flat] at hf
  | .fn _ _ _, _, hf, _ => by simp [D.flat] at hf
  | .ifc _ _, _, hf, _ => by simp [D.flat] at hf
  | .frow _ _ _ _ _, _, hf, _ => by simp [D.flat] at hf
theorem Ra.flat {Φ Φ' : Phi} : ∀ {l : List D} {vs : List Value}, D.flat.flatL l = true → Ra Φ l vs → Ra Φ' l vs
  | [], _, _, h => by simpa [Ra] using h
  | x :: l, vs, hf, h => by
    simp only [D.flat.flatL, Bool.and_eq_true] at hf
    simp only [Ra] at h ⊢
    obtain ⟨u, us, e, h1, h2⟩ := h
    exact ⟨u, us, e, Rc.flat hf.1 h1, Ra.flat hf.2 h2⟩
end
theorem Rr.flat {Φ Φ' : Phi} {sz : Nat} : ∀ {l : List D} {vs : List Value}, (∀ x ∈ l, x.flat = true) → Rr Φ sz l vs → Rr Φ' sz l vs
  | [], _, _, h => by simpa [Rr] using h
  | x :: l, vs, hf, h => by
    simp only [Rr] at h ⊢
    obtain ⟨us, ws, e, h0, h1, h2⟩ := h
    exact ⟨us, ws, e, h0, Rc.flat (hf x List.mem_cons_self) h1, Rr.flat (fun y hy => hf y (List.mem_cons_of_mem _ hy)) h2⟩
theorem Rr.flatm {Φ Φ' : Phi} {sz : Nat} {α : Type} {enc : α → D} {l : List α} {vs : List Value} (hf : ∀ y : α, (enc y).flat = true) (h : Rr Φ sz (l.map enc) vs) : Rr Φ' sz (l.map enc) vs :=
  Rr.flat (by intro x hx; obtain ⟨y, _, rfl⟩ := List.mem_map.1 hx; exact hf y) h

section
variable {X : Type} {g : Option X} {F : X → Option A} {f : FuncId} {av : List SV}
theorem W.callT (q : Nat) {τ : Type} {rv : X → τ → SV} {hps : X → τ → List Blk} {ens : X → τ → List En} (als : List (Nat × Nat)) (H : Reps Φ L)
    (hC : ∀ Φ', Reps Φ' (lentE L (als.map (·.1)) ++ L) → ∀ x, g = some x → CallG Γ.P f av [] Φ' (tPost (rv x) (hps x) (ens x)))
    (k : ∀ x t, g = some x → Reps Φ (ens x t ++ L) → W Γ Q Φ (retM (GM Γ Φ q m) [] (rv x t) (hps x t)) (F x) K)
    (hl : lentOk L (GM Γ Φ q m).s als) (hfl : ∀ x t Φ', Reps Φ' (ens x t) → Reps Φ (ens x t))
    (h : callM (GM Γ Φ q m) = some (f, av.map (SV.ren (inR []))) := by kernel_rfl) (hu : av.any SV.isU = false := by kernel_rfl) (hc : callable Γ.P f = true := by kernel_rfl)
    (hnf : ∀ x t, (hps x t).all Blk.isO = true := by (intro _ _; kernel_rfl))
    (hok : ∀ x t, retOk (GM Γ Φ q m) [] (rv x t) (hps x t) := by (intro _ _; exact ⟨by kernel_rfl, by kernel_rfl⟩)) : W Γ Q Φ m (g.bind F) K := by
  refine ⟨fun r hr => AtM.go q ?_⟩
  obtain ⟨x, hx, hF⟩ := Option.bind_eq_some_iff.1 (by rw [Option.bind_assoc] at hr; exact hr)
  have k1 := fun t HR => (k x t hx HR).run r hF
  have hok1 := fun t => hok x t
  clear k hok
  generalize hm1 : goM Γ.P Γ.md.isNone Φ q m = m1
  simp only [GM, hm1] at k1 h hl hok1
  unfold callM at h
  repeat' split at h
  all_goals first | cases h; done | skip
  rename_i o' ho _ fo args aty hop _ f' first caps hfn
  simp only [Option.some.injEq, Prod.mk.injEq] at h
  obtain ⟨rfl, hav⟩ := h
  obtain ⟨all, l, k', hk, hw, hp, hd⟩ := opM_spec ho
  obtain ⟨fs, S⟩ := m1
  simp only at hk hw hav hfn hl; subst hk
  intro env hdr
  unfold callable at hc
  split at hc
  · rename_i fn hf
    rw [Bool.and_eq_true, Bool.not_eq_true'] at hc
    refine At.callT (T := τ) (rv := rv x) (hps := hps x) (F := fun t => Reps Φ (ens x t)) hop hw f' first caps hfn hf hc.1 hc.2 av hav hu (fun t i g cs ty he => ?_) (fun Φ' hle hR => ?_) (fun t hF => ?_)
    · have := List.all_eq_true.1 (hnf x t) _ (List.mem_of_getElem? he); cases this
    · refine (hC Φ' ((lent_ok H hle hR hl).app (H.mono hle)) x hx).mono fun Φ2 es hp' _ hpost => ?_
      obtain ⟨t, he, hh, hRe⟩ := hpost
      exact ⟨t, he, hh, hfl x t Φ2 hRe⟩
    · have h1 := hok1 t
      have h4 := k1 t (hF.app H) env (by unfold retM; simp only; rw [hp]; exact drwOk.sub (k := .ops all l :: k') (fSub_of h1.2) hdr)
      have h5 := h1.1
      unfold retM at h4 h5
      rw [hp, hd] at h4
      rw [hd] at h5
      exact ⟨_, rfl, h5, h4⟩
  · cases hc
end
end
end Go.Sx
