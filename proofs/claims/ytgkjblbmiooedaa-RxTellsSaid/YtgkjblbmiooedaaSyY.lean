/- SyY: rows that a callee made, and that are the call's own again. General: no program. -/
import Derived.Test.YtgkjblbmiooedaaSyX
namespace Go.Sx
open Go.RowKit

section
variable {Γ : Ctx} {Φ : Phi} {S : SS}
def noF (S : SS) : Bool := S.hp.all fun b => match b with | .f _ _ _ => false | _ => true
theorem At.thaw {X : Act → World → Prop} {Φz : Phi} {A : Option Addr} {n c e sz : Nat} {ws : List Value} (hz0 : PhiLe 0 Γ.Φ0 Φz) (hz : PhiLe 0 Φz Φ) (hF : Full Φz Φ A n c ws e sz) (hnf : noF S = true)
    (k : ∀ Φ', PhiLe 0 Φz Φ' → (∀ b x, A.map (·.block) ≠ some b → Φ b = some x → Φ' b = some x) → At Γ Φ' { S with hp := S.hp ++ [.o (.slice A n c) n ws e sz] } X) : At Γ Φ S X := fun β a w h => by
  have hb : ({ S with hp := S.hp ++ [.o (.slice A n c) n ws e sz] } : SS).bd = true := by
    have hb := h.bd
    unfold SS.bd at hb ⊢
    rw [Bool.and_eq_true] at hb ⊢
    simp only [List.length_append, List.all_append, Bool.and_eq_true]
    refine ⟨?_, ?_, rfl⟩
    · rw [List.all_eq_true]; intro x hx; exact bd_le (Nat.le_add_right _ _) (List.all_eq_true.1 hb.1 x hx)
    · rw [List.all_eq_true]; intro x hx; exact blk_le (Nat.le_add_right _ _) (List.all_eq_true.1 hb.2 x hx)
  obtain ⟨h1, ⟨hv, hn⟩ | ⟨g, cur, rfl, h3, h4, h5, h6, h7, h8⟩⟩ := hF
  · cases hv
    have hx : ws = [] := List.eq_nil_of_length_eq_zero (by rw [h1, hn]; simp)
    subst hx
    exact At.nilrow e sz _ rfl hb (k Φ hz fun _ _ _ h => h) β a w h
  · have hnew : ∀ {i : Nat} {b : Blk}, (S.hp ++ [Blk.o (.slice (some ⟨g, 0, none⟩) n c) n ws e sz])[i]? = some b → S.hp[i]? = some b ∨ (b = .o (.slice (some ⟨g, 0, none⟩) n c) n ws e sz ∧ i = S.hp.length) := by
      intro i b hi
      rw [List.getElem?_append] at hi
      split at hi
      · exact .inl hi
      · rename_i hlt
        have : i - S.hp.length = 0 := by
          rcases Nat.eq_zero_or_pos (i - S.hp.length) with h0 | h0
          · exact h0
          · rw [List.getElem?_eq_none (by simp; omega)] at hi; cases hi
        rw [this] at hi
        cases hi
        exact .inr ⟨rfl, by omega⟩
    have hbid : ∀ i, (Blk.o (.slice (some ⟨g, 0, none⟩) n c) n ws e sz).bid β i = some g := fun _ => rfl
    have hold : ∀ {i : Nat} {b : Blk} {q : Nat}, S.hp[i]? = some b → b.bid β i = some q → q ≠ g := by
      intro i b q hi hq e'
      subst e'
      rw [h.own.phi i b q hi hq] at h3; cases h3
    have h0 : Γ.Φ0 g = none := by
      cases hq : Γ.Φ0 g with
      | none => rfl
      | some p => rw [hz0.1 g p hq] at h4; cases h4
    have hle : PhiLe 0 Φz (fun b => if b = g then none else Φ b) := ⟨fun b cs hb => by
      show (if _ then _ else _) = _
      rw [if_neg (by intro e'; rw [e'] at hb; rw [hb] at h4; cases h4)]
      exact hz.1 b cs hb, fun _ h => by omega⟩
    refine k (fun b => if b = g then none else Φ b) hle (fun b x hb hx => by
      show (if _ then _ else _) = _
      rw [if_neg (by rintro rfl; exact hb rfl)]; exact hx) β a w ⟨h.fr, h.df, ⟨?_, ?_, ?_, ?_, ?_⟩, ?_, ?_, h.keep, ⟨?_, ?_⟩, hb, h.pin, by simp only [List.length_append]; have := h.len; omega⟩
    · intro i cs t hi
      rcases hnew hi with hi | ⟨he, _⟩
      · exact h.own.c i cs t hi
      · cases he
    · intro i v m xs t s hi
      rcases hnew hi with hi | ⟨he, _⟩
      · exact h.own.o i v m xs t s hi
      · cases he
        exact (OwnsO.of_row ⟨h1, .inr ⟨g, c, cur, rfl, Nat.zero_le _, (h.sto g _ h3).1, h5, h6, h7, h8⟩⟩).1
    · intro i j bi bj q hi hj li lj
      rcases hnew hi with hi | ⟨rfl, ei⟩
      · rcases hnew hj with hj | ⟨rfl, ej⟩
        · exact h.own.inj i j bi bj q hi hj li lj
        · cases lj
          exact absurd rfl (hold hi li)
      · rcases hnew hj with hj | ⟨rfl, ej⟩
        · cases li
          exact absurd rfl (hold hj lj)
        · rw [ei, ej]
    · intro i b q hi hq
      show (if _ then _ else _) = _
      rcases hnew hi with hi | ⟨rfl, _⟩
      · rw [if_neg (hold hi hq)]; exact h.own.phi i b q hi hq
      · cases hq; rw [if_pos rfl]
    · intro i g' cs t hi
      rcases hnew hi with hi | ⟨he, _⟩
      · have := List.all_eq_true.1 hnf _ (List.mem_of_getElem? hi); cases this
      · cases he
    · intro b cs hb
      replace hb : (if b = g then none else Φ b) = some cs := hb
      split at hb
      · cases hb
      · exact h.sto b cs hb
    · intro i b q hi hq
      rcases hnew hi with hi | ⟨rfl, _⟩
      · exact h.lo i b q hi hq
      · cases hq
        rcases Nat.lt_or_ge g Γ.E.heap.size with hlt | hge
        · refine .inr (Classical.byContradiction fun hn => ?_)
          rw [h.phi.2 g hlt hn, h0] at h3; cases h3
        · exact .inl hge
    · intro b cs hb
      exact hle.1 b cs (hz0.1 b cs hb)
    · intro b hb hn
      show (if _ then _ else _) = _
      split
      · rename_i e'; rw [e', h0]
      · exact h.phi.2 b hb hn
end

section
variable {A R : Type} {Γ : Ctx} {Q : R → QT} {Φ : Phi} {m : MS} {o : Option A} {K : A → Option R} {L Lz : List En}
theorem Reps.lez {Φ Φz : Phi} {L : List En} (H : Reps Φ L) (p : Nat) (h : L[p]? = some (.le Φz) := by rfl) : PhiLe 0 Φz Φ := H.get p h
/-- What is known here is kept, too, for a row that is the call's own again. -/
theorem W.zap (H : Reps Φ L) (k : ∀ Φz, PhiLe 0 Γ.Φ0 Φz → Reps Φz L → Reps Φ (.le Φz :: L) → W Γ Q Φ m o K) : W Γ Q Φ m o K := ⟨fun r hr => by
  intro env hd β a w h
  exact k Φ ⟨h.phi.1, fun _ h => by omega⟩ H H.le0 r hr env hd β a w h⟩
/-- A row that a callee made is the call's own; what was known before that call is known. -/
theorem W.thaw (q : Nat) (p pz : Nat) {Φz : Phi} {B : Option Addr} {n c t sz : Nat} {α : Type} {enc : α → D} {xs : List α} (hz0 : PhiLe 0 Γ.Φ0 Φz) (Hz : Reps Φz Lz) (H : Reps Φ L)
    (k : ∀ Φ' vs, Reps Φ' (.r sz (xs.map enc) vs :: .le Φz :: Lz) → W Γ Q Φ' (addH (GM Γ Φ q m) (.o (.slice B n c) n vs t sz)) o K)
    (hl : L[p]? = some (.d (.frow Φz t sz n (xs.map enc)) (.slice B n c)) := by rfl) (hz : L[pz]? = some (.le Φz) := by rfl) (hnf : noF (GM Γ Φ q m).s = true := by kernel_rfl) (hd : noDrw (GM Γ Φ q m).k = true := by kernel_rfl) (hf : ∀ y : α, (enc y).flat = true := by intro _; kernel_rfl) : W Γ Q Φ m o K := ⟨fun r hr =>
  AtM.go q fun env _ => by
    have h1 : Rc Φ (.frow Φz t sz n (xs.map enc)) [.slice B n c] := H.get p hl
    have h2 : PhiLe 0 Φz Φ := (H.get pz hz : En.ok Φ (.le Φz))
    simp only [Rc] at h1
    obtain ⟨hn, A', c', ws, e', hc, hF, hr1⟩ := h1
    simp only [List.cons.injEq, Value.slice.injEq, and_true, true_and] at e'
    obtain ⟨rfl, rfl⟩ := e'
    refine At.thaw hz0 h2 hF hnf fun Φ' hle hk => ?_
    exact k Φ' ws (Reps.cons (e := .r sz (xs.map enc) ws) (Reps.cons (e := .le Φz) (Hz.mono hle) hle) (Rr.flatm hf hr1)) r hr env (drwOk.none hd)⟩
end
section
variable {X Y A α β : Type} {a : Option X} {b : Option Y}
theorem comm_BB {f : X → Y → Option A} : (a.bind fun x => b.bind fun y => f x y) = b.bind fun y => a.bind fun x => f x y := by cases a <;> cases b <;> rfl
theorem comm_BS {xs : List α} {lo hi : Int} {f : X → List α → Option A} : (a.bind fun x => sld xs lo hi fun l => f x l) = sld xs lo hi fun l => a.bind fun x => f x l := by unfold sld; cases a <;> simp
theorem comm_SB {xs : List α} {lo hi : Int} {f : List α → X → Option A} : (sld xs lo hi fun l => a.bind fun x => f l x) = a.bind fun x => sld xs lo hi fun l => f l x := by unfold sld; cases a <;> simp
theorem comm_BI {xs : List α} {i : Int} {f : X → α → Option A} : (a.bind fun x => ixd xs i fun l => f x l) = ixd xs i fun l => a.bind fun x => f x l := by unfold ixd; cases a <;> simp <;> (repeat' split) <;> simp
theorem comm_IB {xs : List α} {i : Int} {f : α → X → Option A} : (ixd xs i fun l => a.bind fun x => f l x) = a.bind fun x => ixd xs i fun l => f l x := by unfold ixd; cases a <;> simp <;> (repeat' split) <;> simp
theorem comm_BA {xs : List α} {f : X → List α → Option A} : (a.bind fun x => apd xs fun l => f x l) = apd xs fun l => a.bind fun x => f x l := by unfold apd; cases a <;> simp
theorem comm_AB {xs : List α} {f : List α → X → Option A} : (apd xs fun l => a.bind fun x => f l x) = a.bind fun x => apd xs fun l => f l x := by unfold apd; cases a <;> simp
theorem comm_SS {xs : List α} {lo hi : Int} {ys : List β} {lo' hi' : Int} {f : List α → List β → Option A} : (sld xs lo hi fun l => sld ys lo' hi' fun k => f l k) = sld ys lo' hi' fun k => sld xs lo hi fun l => f l k := by unfold sld; (repeat' split) <;> rfl
end
end Go.Sx
