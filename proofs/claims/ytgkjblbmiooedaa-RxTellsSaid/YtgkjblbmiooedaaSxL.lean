/- SxL: rows that stay, and are let go again. General: no program. -/
import Derived.Test.YtgkjblbmiooedaaSxH
namespace Go.Sx
open Go.RowKit

/-- A row that stays, whole, which was not there in Φ0. -/
def Full (Φ0 Φ : Phi) (A : Option Addr) (n c : Nat) (xs : List Value) (e : TypeId) (sz : Nat) : Prop :=
  xs.length = n * sz ∧ ((Value.slice A n c = .slice none 0 0 ∧ n = 0) ∨ ∃ g cur, A = some ⟨g, 0, none⟩ ∧ Φ g = some (.cells cur e (0, 0)) ∧ Φ0 g = none ∧ n ≤ c ∧ c ≤ maxLen ∧ cur.size = c * sz ∧ cur.toList.take (n * sz) = xs)
theorem Full.mono {Φ0 Φ Φ' : Phi} {A : Option Addr} {n c k : Nat} {xs : List Value} {e : TypeId} {sz : Nat} (h : Full Φ0 Φ A n c xs e sz) (hle : PhiLe k Φ Φ') : Full Φ0 Φ' A n c xs e sz := by
  obtain ⟨h1, h2 | ⟨g, cur, h2, h3, h4, h5⟩⟩ := h
  · exact ⟨h1, .inl h2⟩
  · exact ⟨h1, .inr ⟨g, cur, h2, hle.1 _ _ h3, h4, h5⟩⟩
theorem Full.anti {Φ0 Φ1 Φ : Phi} {A : Option Addr} {n c k : Nat} {xs : List Value} {e : TypeId} {sz : Nat} (h : Full Φ1 Φ A n c xs e sz) (hle : PhiLe k Φ0 Φ1) : Full Φ0 Φ A n c xs e sz := by
  obtain ⟨h1, h2 | ⟨g, cur, h2, h3, h4, h5⟩⟩ := h
  · exact ⟨h1, .inl h2⟩
  · refine ⟨h1, .inr ⟨g, cur, h2, h3, ?_, h5⟩⟩
    cases hq : Φ0 g with
    | none => rfl
    | some p => rw [hle.1 g p hq] at h4; cases h4
theorem Full.rd {Φ0 Φ : Phi} {A : Option Addr} {n c : Nat} {xs : List Value} {e : TypeId} {sz : Nat} (h : Full Φ0 Φ A n c xs e sz) : RdC Φ A xs := by
  intro hp
  obtain ⟨h1, ⟨_, h2⟩ | ⟨g, cur, rfl, h3, h4, h5, h6, h7, h8⟩⟩ := h
  · rw [h2] at h1; omega
  · refine ⟨g, 0, cur, e, (0, 0), rfl, h3, fun j u hj => ?_⟩
    rw [← h8, List.getElem?_take] at hj
    split at hj
    · rw [Nat.zero_add]; simpa using hj
    · cases hj

section
variable {Γ : Ctx} {Φ : Phi} {S S' : SS}
/-- A row of the call's own stays as it is from here on, till it is let go. -/
theorem At.freezeF {X : Act → World → Prop} (i : Nat) {A : Option Addr} {n c : Nat} {xs : List Value} {e : TypeId} {sz : Nat} (hi : S.hp[i]? = some (.o (.slice A n c) n xs e sz)) 
    (hS : putH S none .u i .dead = some S') (k : ∀ Φ', PhiLe 0 Φ Φ' → RdC Φ' A xs → Full Φ Φ' A n c xs e sz → At Γ Φ' S' X) : At Γ Φ S X := fun β a w h => by
  obtain ⟨rfl, hb⟩ := putH_some hS
  obtain ⟨h1, h2⟩ := h.own.o i _ n xs e sz hi
  have hlt := lt_get hi
  have hsplit : ∀ {j : Nat} {y : Blk}, (S.hp.set i .dead)[j]? = some y → (j ≠ i ∧ S.hp[j]? = some y) ∨ y = .dead := by
    intro j y hj
    rw [List.getElem?_set] at hj
    by_cases e : i = j
    · subst e; simp [hlt] at hj; exact .inr hj.symm
    · rw [if_neg e] at hj; exact .inl ⟨fun e' => e e'.symm, hj⟩
  have mk : ∀ Φ' : Phi, PhiG Γ.G Γ.E.heap.size Φ Φ' → Sto Φ' w → (∀ (j : Nat) (y : Blk) (q : Nat), j ≠ i → S.hp[j]? = some y → y.bid β j = some q → Φ' q = none) → St Γ Φ' β { fr := (S.put none .u).fr, hp := S.hp.set i .dead } a w := by
    intro Φ' hle hsto hno
    refine ⟨h.fr, h.df, ⟨?_, ?_, ?_, ?_, fun j g' cs t hj => by
      rcases hsplit hj with ⟨_, hj⟩ | he
      · exact ⟨(h.own.f j g' cs t hj).1, hle.1 _ _ (h.own.f j g' cs t hj).2⟩
      · cases he⟩, hsto, ?_, h.keep, ⟨fun b cs hb => hle.1 b cs (h.phi.1 b cs hb), fun b hb hn => by rw [hle.2 b hb hn]; exact h.phi.2 b hb hn⟩, hb, h.pin, by simp only [List.length_set]; exact h.len⟩
    · intro j cs t hj
      rcases hsplit hj with ⟨_, hj⟩ | he
      · exact h.own.c j cs t hj
      · cases he
    · intro j v q ys t s hj
      rcases hsplit hj with ⟨_, hj⟩ | he
      · exact h.own.o j v q ys t s hj
      · cases he
    · intro p q bp bq kk hp hq lp lq
      rcases hsplit hp with ⟨_, hp⟩ | rfl
      · rcases hsplit hq with ⟨_, hq⟩ | rfl
        · exact h.own.inj p q bp bq kk hp hq lp lq
        · cases lq
      · cases lp
    · intro p b kk hp hk
      rcases hsplit hp with ⟨hpi, hp⟩ | rfl
      · exact hno p b kk hpi hp hk
      · cases hk
    · intro p b kk hp hk
      rcases hsplit hp with ⟨hpi, hp⟩ | rfl
      · exact h.lo p b kk hp hk
      · cases hk
  rcases h2 with ⟨hv, hn0⟩ | ⟨g, cap, cur, hv, _, hg, h3, h4, h5, h6⟩
  · have hx : xs = [] := List.eq_nil_of_length_eq_zero (by rw [h1, hn0]; simp)
    subst hx
    exact k Φ (PhiLe.refl 0 Φ) RdC.nil ⟨h1, .inl ⟨hv, hn0⟩⟩ β a w (mk Φ ⟨fun _ _ h => h, fun _ _ _ => rfl⟩ h.sto fun j y q hj hy hq => h.own.phi j y q hy hq)
  · injection hv with hv1 hv2 hv3
    subst hv1 hv3
    have hgo : (Blk.o (.slice (some ⟨g, 0, none⟩) n c) n xs e sz).bid β i = some g := rfl
    have hle : PhiG Γ.G Γ.E.heap.size Φ (fun b => if b = g then some (.cells cur e (0, 0)) else Φ b) := by
      refine ⟨fun b cs hb => ?_, fun b hb hn => by
        show (if _ then _ else _) = _
        rw [if_neg (by
          rintro rfl
          rcases h.lo i _ b hi hgo with h' | h'
          · omega
          · exact hn h')]⟩
      show (if _ then _ else _) = _
      rw [if_neg (by rintro rfl; rw [h.own.phi i _ _ hi hgo] at hb; cases hb)]
      exact hb
    have hfull : Full Φ (fun b => if b = g then some (.cells cur e (0, 0)) else Φ b) (some ⟨g, 0, none⟩) n c xs e sz :=
      ⟨h1, .inr ⟨g, cur, rfl, by show (if _ then _ else _) = _; rw [if_pos rfl], h.own.phi i _ _ hi hgo, h3, h4, h5, h6⟩⟩
    refine k _ ⟨hle.1, fun _ h => by omega⟩ hfull.rd hfull β a w (mk _ hle ?_ ?_)
    · intro b cs hb
      replace hb : (if b = g then some (Obj.cells cur e (0, 0)) else Φ b) = some cs := hb
      split at hb
      · rename_i e'; cases hb; exact ⟨by rw [e']; exact hg, rfl⟩
      · exact h.sto b cs hb
    · intro j y q hj hy hq
      show (if _ then _ else _) = _
      rw [if_neg (by rintro rfl; exact hj (h.own.inj _ _ _ _ _ hy hi hq hgo))]
      exact h.own.phi j y q hy hq

end
end Go.Sx
