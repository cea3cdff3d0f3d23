/- SyI: draws, more: parts of rows that stay. General: no program. -/
import Derived.Test.YtgkjblbmiooedaaSyH
namespace Go.Sx
open Go.RowKit

theorem Val.slice {Γ : Ctx} {Φ : Phi} {S : SS} {o : Oper} {t : TypeId} {x : Operand} {lo hi mx : Option Operand} (ho : o.op = .slice t x lo hi mx) {e : TypeId} (hu : Γ.P.underlying t = some (.slice e)) {sz : Nat} (hsz : szT Γ.P e = some sz)
    {A : Option Addr} {n c : Nat} (hx : S.get x = .v (.slice A n c)) (l h' m : Nat)
    (hl : match lo with | none => l = 0 | some q => ∃ kd, S.get q = .v (.int kd l)) (hh : match hi with | none => h' = n ∧ mx = none | some q => ∃ kd, S.get q = .v (.int kd h')) (hm : match mx with | none => m = c | some q => ∃ kd, S.get q = .v (.int kd m))
    (h1 : l ≤ h') (h2 : h' ≤ m) (h3 : m ≤ c) : Val Γ Φ S o (.v (.slice (if m = l then A else A.map fun a => a.add (l * sz)) (h' - l) (m - l))) := fun β a w h => by
  refine ⟨_, ?_, .inr rfl⟩
  unfold execOp; rw [ho]
  have hbound : ∀ (q : Operand) (kd : IntKind) (i y : Nat) (code : BoundsCode), S.get q = .v (.int kd i) → i ≤ y → (Instr.sliceBound (a.eval q) y code).run Γ.P w = .ok i w := by
    intro q kd i y code hq hi
    simp only [Instr.sliceBound, fits_v h hq, asIntOf, Sem.run_bind, Sem.run_pure, Result.andThen_ok]
    rw [if_pos ⟨by omega, by omega⟩]
    simp
  have hb : (Instr.sliceBounds true n c (lo.map a.eval) (hi.map a.eval) (mx.map a.eval)).run Γ.P w = .ok (l, h', m) w := by
    have hlow : ∀ code : BoundsCode, (do let l ← (match lo.map a.eval with | some v => Instr.sliceBound v h' code | none => pure 0); pure (l, h', m) : Sem (Nat × Nat × Nat)).run Γ.P w = .ok (l, h', m) w := by
      intro c1
      cases lo with
      | none => simp only at hl; subst hl; rfl
      | some q =>
        obtain ⟨kd, hq⟩ := hl
        simp only [Option.map_some, Sem.run_bind, hbound q kd l h' c1 hq h1, Result.andThen_ok, Sem.run_pure]
    cases mx with
    | none =>
      simp only at hm
      subst hm
      cases hi with
      | none =>
        obtain ⟨rfl, _⟩ := hh
        have := hlow .sliceB
        cases lo <;> simpa [Instr.sliceBounds] using this
      | some q =>
        obtain ⟨kd, hq⟩ := hh
        have := hlow .sliceB
        have hb1 := hbound q kd h' m .sliceAcap hq h2
        cases lo <;> simpa [Instr.sliceBounds, hb1] using this
    | some q' =>
      obtain ⟨kd', hq'⟩ := hm
      have hb0 := hbound q' kd' m c .slice3Acap hq' h3
      cases hi with
      | none => cases hh.2
      | some q =>
        obtain ⟨kd, hq⟩ := hh
        have := hlow .slice3C
        have hb1 := hbound q kd h' m .slice3B hq h2
        cases lo <;> simpa [Instr.sliceBounds, hb0, hb1] using this
  simp only [Instr.sliceAt, fits_v h hx, Sem.run_bind, run_underlying hu, Result.andThen_ok, Instr.slice]
  simp only [hb, Result.andThen_ok, run_sizeOf' hsz, Sem.run_pure, den]

def slT (P : Program) (n : Nat) (m : MS) (i : Nat) : Option (Value × Nat × Int × Int × Int × Bool) :=
  match tkM m i with
  | some (_, _, _, _, o) => match o.op with
    | .slice t x lo hi mx => match P.underlying t, m.s.get x, slI m.s 0 lo, slI m.s n hi with
      | some (.slice e), .v V, some l, some h => match szT P e, slI m.s h mx, hi.isNone && mx.isSome with
        | some sz, some z, false => some (V, sz, l, h, z, mx.isSome)
        | _, _, _ => none
      | _, _, _, _ => none
    | _ => none
  | none => none
theorem slI_bare {S : SS} {d z : Int} {q : Option Operand} (h : slI S d q = some z) : slI S.bare d q = some z := by
  unfold slI at h ⊢
  cases q with
  | none => exact h
  | some y => simp only [Fits.bare] at h ⊢; exact h

section
variable {A R : Type} {Γ : Ctx} {Q : R → QT} {Φ : Phi} {m : MS} {o : Option A} {K : A → Option R} {L : List En}
variable {α : Type} {enc : α → D} {xs : List α} {F : List α → Option A} {B : Option Addr} {c t sz n : Nat} {vs : List Value} {lo hi : Int}
/-- A part of a row that stays, taken where it is ready. -/
theorem W.slt (q : Nat) (j p0 : Nat) (b : Bool) {Φ0 : Phi} {L0 : List En} (H0 : Reps Φ0 L0) (H : Reps Φ L)
    (k : ∀ (l : List α) B' c', Reps Φ0 (.d (.row sz l.length (l.map enc)) (.slice B' l.length c') :: L0) → Reps Φ (.d (.row sz l.length (l.map enc)) (.slice B' l.length c') :: L) → W Γ Q Φ (tkS (GM Γ Φ q m) j (.v (.slice B' l.length c'))) (F l) K)
    (hp : L0[p0]? = some (.d (.row sz n (xs.map enc)) (.slice B n c)) := by rfl) (hph : phM (GM Γ Φ q m) = some Φ0 := by kernel_rfl) (h : slT Γ.P n (GM Γ Φ q m) j = some (.slice B n c, sz, lo, hi, hi, b) := by kernel_rfl) (hmd : Γ.md = none := by rfl) : W Γ Q Φ m (sld xs lo hi F) K := by
  refine ⟨fun r hr => AtM.go q ?_⟩
  unfold sld at hr
  split at hr
  · rename_i hb
    have r1 : Rc Φ0 (.row sz n (xs.map enc)) [.slice B n c] := H0.get p0 hp
    have r0 := r1
    simp only [Rc] at r1
    obtain ⟨hn, A', c', ws, e, hc, hR, r1⟩ := r1
    simp only [List.cons.injEq, Value.slice.injEq, and_true, true_and] at e
    obtain ⟨rfl, rfl⟩ := e
    rw [List.length_map] at hn
    have hll : ((xs.take hi.toNat).drop lo.toNat).length = hi.toNat - lo.toNat := by rw [List.length_drop, List.length_take]; omega
    unfold slT at h
    repeat' split at h
    all_goals first | cases h; done | skip
    rename_i o ops' n' l' k' ho _ t x lo' hi' mx' hop _ _ _ _ e V l h' hu hx hl hh _ _ _ sz' z hs hz hno
    simp only [Option.some.injEq, Prod.mk.injEq] at h
    obtain ⟨rfl, rfl, rfl, rfl, rfl, rfl⟩ := h
    have el : (l.toNat : Int) = l := by omega
    have eh : (z.toNat : Int) = z := by omega
    have hbox : Rc Φ0 (.row sz' ((xs.take z.toNat).drop l.toNat).length (((xs.take z.toNat).drop l.toNat).map enc)) [.slice (if (if mx'.isSome then z.toNat else c) = l.toNat then B else B.map fun a => a.add (l.toNat * sz')) ((xs.take z.toNat).drop l.toNat).length ((if mx'.isSome then z.toNat else c) - l.toNat)] := by
      simp only [Rc]
      refine ⟨by rw [List.length_map], _, _, (ws.take (z.toNat * sz')).drop (l.toNat * sz'), rfl, ?_, ?_, ?_⟩
      · rw [hll]; split <;> omega
      · by_cases hlt : l.toNat < (if mx'.isSome then z.toNat else c)
        · rw [if_neg (by omega)]
          exact (hR.take _).drop _ rfl
        · have : z.toNat ≤ l.toNat := by split at hlt <;> omega
          rw [show (ws.take (z.toNat * sz')).drop (l.toNat * sz') = [] from List.drop_eq_nil_of_le (by rw [List.length_take]; exact Nat.le_trans (Nat.min_le_left _ _) (Nat.mul_le_mul_right _ this))]
          exact RdC.nil
      · have h1 := (r1.take z.toNat (by rw [List.length_map]; omega)).drop l.toNat (by rw [List.length_take, List.length_map]; omega)
        rw [List.map_drop, List.map_take]
        exact h1
    refine AtM.tk hmd j ho hph (.v (.slice (if (if mx'.isSome then z.toNat else c) = l.toNat then B else B.map fun a => a.add (l.toNat * sz')) ((xs.take z.toNat).drop l.toNat).length ((if mx'.isSome then z.toNat else c) - l.toNat))) rfl rfl (fun E β => ?_) (fun hle => ?_)
    · rw [hll]
      refine Val.slice (Γ := ⟨Γ.P, E, fun _ _ => False, Φ0, β, 0, Γ.df, none⟩) hop hu hs (by rw [Fits.bare]; exact hx) l.toNat z.toNat (if mx'.isSome then z.toNat else c) ?_ ?_ ?_ (by omega) (by split <;> omega) (by split <;> omega)
      · rcases slI_spec hl with ⟨rfl, e⟩ | ⟨y, kd, rfl, e⟩
        · simp only; omega
        · simp only; rw [el]; exact ⟨kd, by rw [Fits.bare]; exact e⟩
      · rcases slI_spec hh with ⟨rfl, e⟩ | ⟨y, kd, rfl, e⟩
        · simp only
          refine ⟨by omega, ?_⟩
          cases mx' with
          | none => rfl
          | some y => cases hno
        · simp only; rw [eh]; exact ⟨kd, by rw [Fits.bare]; exact e⟩
      · rcases slI_spec hz with ⟨rfl, e⟩ | ⟨y, kd, rfl, e⟩
        · simp
        · simp only [Option.isSome_some, if_true]; rw [eh]; exact ⟨kd, by rw [Fits.bare]; exact e⟩
    · exact k _ _ _ (H0.cons hbox) (H.cons (Rc.mono hle _ _ hbox)) r hr
  · simp at hr
end
end Go.Sx
