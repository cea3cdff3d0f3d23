/- SyS: known boxes as data; pointers that are checked. General: no program. -/
import Derived.Test.YtgkjblbmiooedaaSyR
namespace Go.Sx
open Go.RowKit

section
variable {A R : Type} {Γ : Ctx} {Q : R → QT} {Φ : Phi} {m : MS} {o : Option A} {K : A → Option R} {L : List En}

theorem Rc.of_cells {Φ : Phi} {x : D} {vs : List Value} (h : Ra Φ x.cells vs) : Rc Φ x vs := by
  have one : ∀ {x : D}, Ra Φ [x] vs → Rc Φ x vs := fun {x} h => by
    simp only [Ra] at h
    obtain ⟨u, us, rfl, h1, rfl⟩ := h
    exact h1
  cases x with
  | agg l => simp only [Rc]; exact h
  | v x => exact one h
  | row sz n xs => exact one h
  | box x => exact one h
  | fn f a b => exact one h
  | ifc t x => exact one h
  | frow _ _ _ _ _ => exact one h

/-- A known box is data that a pointer leads to. -/
theorem W.f2d (q j : Nat) {g : Nat} {cs : List Value} {t : TypeId} {x : D} {es : List En} (ps : List Nat) (H : Reps Φ L) (k : Reps Φ (.d (.box x) (.pointer (some ⟨g, 0, none⟩)) :: L) → W Γ Q Φ (GM Γ Φ q m) o K) (hv : RaOk x.cells cs es) (hes : ps.map (L[·]?) = es.map some := by rfl)
    (hj : (GM Γ Φ q m).s.hp[j]? = some (.f g cs t) := by kernel_rfl) : W Γ Q Φ m o K := by
  refine ⟨fun r hr => AtM.go q fun env hdr β a w h => ?_⟩
  obtain ⟨_, hΦ⟩ := h.own.f j g cs t hj
  have hra := hv.ra (H.sub ps hes)
  refine k (H.cons (?_ : Rc Φ (.box x) _)) r hr env hdr β a w h
  simp only [Rc]
  refine ⟨g, 0, cs, rfl, fun hp => ⟨g, 0, cs.toArray, t, (0, 0), rfl, hΦ, fun i u hi => ?_⟩, Rc.of_cells hra⟩
  simpa using hi

def nckM (m : MS) : Option Value :=
  match opM m with
  | some o => match o.op with
    | .nilCheck x => match m.s.get x with
      | .v v => some v
      | _ => none
    | _ => none
  | none => none
theorem W.nck (q p : Nat) {x : D} {v : Value} (H : Reps Φ L) (k : W Γ Q Φ (putM (GM Γ Φ q m) (.v v)) o K) (hp : L[p]? = some (.d (.box x) v) := by rfl) (h : nckM (GM Γ Φ q m) = some v := by kernel_rfl) : W Γ Q Φ m o K := by
  refine ⟨fun r hr => AtM.go q ?_⟩
  unfold nckM at h
  repeat' split at h
  all_goals first | cases h; done | skip
  rename_i o' ho _ y hop _ v' hy
  cases h
  have hx : Rc Φ (.box x) [v] := H.get p hp
  simp only [Rc] at hx
  obtain ⟨b, off, ws, hv, _, _⟩ := hx
  simp only [List.cons.injEq, and_true] at hv
  subst hv
  refine AtM.val ho (.v (.pointer (some ⟨b, off, none⟩))) rfl (fun β a w hst => ⟨_, ?_, .inr rfl⟩) (k r hr)
  unfold execOp; rw [hop]
  simp [fits_v hst hy, den]
theorem W.k1 {σ : Type} {go : σ → Option A} {ex : Nat → σ → Option A} {rt : σ → Option A} {s : σ} (k : W Γ Q Φ m (go s) K) : W Γ Q Φ m (Rd.k go ex rt (.go s)) K := k
theorem W.k2 {σ : Type} {go : σ → Option A} {ex : Nat → σ → Option A} {rt : σ → Option A} {j : Nat} {s : σ} (k : W Γ Q Φ m (ex j s) K) : W Γ Q Φ m (Rd.k go ex rt (.ex j s)) K := k
theorem W.k3 {σ : Type} {go : σ → Option A} {ex : Nat → σ → Option A} {rt : σ → Option A} {s : σ} (k : W Γ Q Φ m (rt s) K) : W Γ Q Φ m (Rd.k go ex rt (.rt s)) K := k
/-- What yield tells. -/
def yk {τ : Type} (a b : τ → Option A) : Bool × τ → Option A
  | (true, t) => a t
  | (false, t) => b t
theorem W.y1 {τ : Type} {a b : τ → Option A} {t : τ} (k : W Γ Q Φ m (a t) K) : W Γ Q Φ m (yk a b (true, t)) K := k
theorem W.y2 {τ : Type} {a b : τ → Option A} {t : τ} (k : W Γ Q Φ m (b t) K) : W Γ Q Φ m (yk a b (false, t)) K := k
end
end Go.Sx
