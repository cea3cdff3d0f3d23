/- Sx6: the rules for code, for entering a function, for its end, and for calls. General: no program. -/
import Derived.Test.YtgkjblbmiooedaaSx5
namespace Go.Sx
open Go.RowKit

section
variable {Γ : Ctx} {Φ : Phi} {S S' : SS} {Q : Exit → Act → World → Prop}

theorem At.imp {X Y : Act → World → Prop} (h : At Γ Φ S X) (k : ∀ a w, X a w → Y a w) : At Γ Φ S Y := fun β a w hs => k a w (h β a w hs)
theorem At.cast {X : Act → World → Prop} (h : S = S') (k : At Γ Φ S' X) : At Γ Φ S X := h ▸ k
theorem At.seq {P : Program} {x y : Code} (k : At Γ Φ S (x.wp P (Exit.then (y.wp P Q) Q))) : At Γ Φ S ((Code.seq x y).wp P Q) := k.imp fun _ _ h => wp_seq h
theorem At.skip {P : Program} (k : At Γ Φ S (Q .normal)) : At Γ Φ S (Code.skip.wp P Q) := k.imp fun _ _ h => wp_skip h
theorem At.label {P : Program} {l : Nat} (k : At Γ Φ S (Q .normal)) : At Γ Φ S ((Code.label l).wp P Q) := k.imp fun _ _ h => wp_label h
theorem At.ret_ {P : Program} (k : At Γ Φ S (Q .ret)) : At Γ Φ S (Code.ret.wp P Q) := k.imp fun _ _ h => wp_ret h
theorem At.exit_ {P : Program} {id : Nat} (k : At Γ Φ S (Q (.exit id))) : At Γ Φ S ((Code.exit id).wp P Q) := k.imp fun _ _ h => wp_exit h
theorem At.block {P : Program} {id : Nat} {c : Code} (k : At Γ Φ S (c.wp P (Exit.inBlock id Q))) : At Γ Φ S ((Code.block id c).wp P Q) := k.imp fun _ _ h => wp_block h
theorem At.region {P : Program} {id : Nat} {ops : Array Oper} (k : At Γ Φ S (wpList P ops Q ops.toList)) : At Γ Φ S ((Code.region id ops false).wp P Q) := k.imp fun _ _ h => wp_region_list h
theorem At.nil {P : Program} {ops : Array Oper} (k : At Γ Φ S (Q .normal)) : At Γ Φ S (wpList P ops Q []) := k
/- ends inside other code -/
theorem At.then_normal {K : Act → World → Prop} (k : At Γ Φ S K) : At Γ Φ S (Exit.then K Q .normal) := k
theorem At.then_ret {K : Act → World → Prop} (k : At Γ Φ S (Q .ret)) : At Γ Φ S (Exit.then K Q .ret) := k
theorem At.then_exit {K : Act → World → Prop} {i : Nat} (k : At Γ Φ S (Q (.exit i))) : At Γ Φ S (Exit.then K Q (.exit i)) := k
theorem At.then_panic {K : Act → World → Prop} {c : List PanicEntry} (k : At Γ Φ S (Q (.panic c))) : At Γ Φ S (Exit.then K Q (.panic c)) := k
theorem At.in_normal {i : Nat} (k : At Γ Φ S (Q .normal)) : At Γ Φ S (Exit.inBlock i Q .normal) := k
theorem At.in_ret {i : Nat} (k : At Γ Φ S (Q .ret)) : At Γ Φ S (Exit.inBlock i Q .ret) := k
theorem At.in_panic {i : Nat} {c : List PanicEntry} (k : At Γ Φ S (Q (.panic c))) : At Γ Φ S (Exit.inBlock i Q (.panic c)) := k
theorem At.in_here {i : Nat} (k : At Γ Φ S (Q .normal)) : At Γ Φ S (Exit.inBlock i Q (.exit i)) := k.imp fun a w h => by
  show (if i = i then Q .normal a w else Q (.exit i) a w)
  rw [if_pos rfl]; exact h
theorem At.in_out {i j : Nat} (hij : (j == i) = false) (k : At Γ Φ S (Q (.exit j))) : At Γ Φ S (Exit.inBlock i Q (.exit j)) := k.imp fun a w h => by
  show (if j = i then Q .normal a w else Q (.exit j) a w)
  rw [if_neg (by simpa using hij)]; exact h

theorem At.cond_t {P : Program} {c : Operand} {x y : Code} (hc : S.get c = .v (.bool true)) (k : At Γ Φ S (x.wp P Q)) : At Γ Φ S ((Code.cond c x y).wp P Q) :=
  fun β a w h => wp_cond_true (fits_v h hc) (k β a w h)
theorem At.cond_f {P : Program} {c : Operand} {x y : Code} (hc : S.get c = .v (.bool false)) (k : At Γ Φ S (y.wp P Q)) : At Γ Φ S ((Code.cond c x y).wp P Q) :=
  fun β a w h => wp_cond_false (fits_v h hc) (k β a w h)
theorem At.cond {P : Program} {c : Operand} {x y : Code} {b : Bool} (hc : S.get c = .v (.bool b)) (kt : b = true → At Γ Φ S (x.wp P Q)) (kf : b = false → At Γ Φ S (y.wp P Q)) : At Γ Φ S ((Code.cond c x y).wp P Q) :=
  fun β a w h => wp_cond_split (fits_v h hc) (fun hb => kt hb β a w h) (fun hb => kf hb β a w h)

/-- A run of plain operations, the state behind it written out. -/
theorem At.runs {ops : Array Oper} {l : List Oper} (n : Nat) (S' : SS) (h : runS Γ.P ops (l.take n) S = some S') (k : At Γ Φ S' (wpList Γ.P ops Q (l.drop n))) : At Γ Φ S (wpList Γ.P ops Q l) := by
  have := At.run (l.take n) (l.drop n) S h k
  rwa [List.take_append_drop] at this

/- Forgetting. -/
def SS.forget (S : SS) (slots : List Nat) (n : Nat) (dead : List Nat) : SS :=
  { fr := S.fr.zipIdx.map fun q => if slots.contains q.2 then .u else q.1, hp := (S.hp.take n).zipIdx.map fun q => if dead.contains q.2 then .dead else q.1 }

theorem forget_fr {slots : List Nat} {n : Nat} {dead : List Nat} {k : Nat} {c : SV} (h : (S.forget slots n dead).fr[k]? = some c) : ∃ c', S.fr[k]? = some c' ∧ (c = c' ∨ c = .u) := by
  simp only [SS.forget, List.getElem?_map, List.getElem?_zipIdx] at h
  cases hk : S.fr[k]? with
  | none => rw [hk] at h; simp at h
  | some c' =>
    rw [hk] at h
    simp at h
    refine ⟨c', rfl, ?_⟩
    split at h
    · exact .inr h.symm
    · exact .inl h.symm

theorem forget_hp {slots : List Nat} {n : Nat} {dead : List Nat} {k : Nat} {b : Blk} (h : (S.forget slots n dead).hp[k]? = some b) : b = .dead ∨ S.hp[k]? = some b := by
  simp only [SS.forget, List.getElem?_map, List.getElem?_zipIdx] at h
  cases hk : (S.hp.take n)[k]? with
  | none => rw [hk] at h; simp at h
  | some b' =>
    rw [hk] at h
    simp at h
    split at h
    · exact .inl h.symm
    · right
      rw [List.getElem?_take] at hk
      split at hk
      · rw [hk, h]
      · cases hk

theorem St.forget {β : Nat → Nat} {a : Act} {w : World} (h : St Γ Φ β S a w) (slots : List Nat) (n : Nat) (dead : List Nat) (S' : SS) (he : S.forget slots n dead = S') (hb : S'.bd = true) (hn : Γ.n ≤ S'.hp.length) : St Γ Φ β S' a w := by
  subst he
  refine ⟨⟨?_, ?_⟩, h.df, ⟨?_, ?_, ?_, ?_, fun i g cs t hi => by
    rcases forget_hp hi with he | hi
    · cases he
    · exact h.own.f i g cs t hi⟩, h.sto, ?_, h.keep, h.phi, hb, h.pin, hn⟩
  · rw [h.fr.1]; simp [SS.forget]
  · intro i c v hc hv
    obtain ⟨c', hc', hcc⟩ := forget_fr hc
    rcases hcc with rfl | rfl
    · exact h.fr.2 i c v hc' hv
    · exact .inl rfl
  · intro i cs t hi
    rcases forget_hp hi with he | hi
    · cases he
    · exact h.own.c i cs t hi
  · intro i v m xs t sz hi
    rcases forget_hp hi with he | hi
    · cases he
    · exact h.own.o i v m xs t sz hi
  · intro i j bi bj m hi hj li lj
    rcases forget_hp hi with rfl | hi
    · cases li
    · rcases forget_hp hj with rfl | hj
      · cases lj
      · exact h.own.inj i j bi bj m hi hj li lj
  · intro i b m hi hl
    rcases forget_hp hi with rfl | hi
    · cases hl
    · exact h.own.phi i b m hi hl
  · intro i b m hi hl
    rcases forget_hp hi with rfl | hi
    · cases hl
    · exact h.lo i b m hi hl

theorem At.forget {X : Act → World → Prop} (slots : List Nat) (n : Nat) (dead : List Nat) (S' : SS) (he : S.forget slots n dead = S') (hb : S'.bd = true) (hn : Γ.n ≤ S'.hp.length) (k : At Γ Φ S' X) : At Γ Φ S X :=
  fun β a w h => k β a w (h.forget slots n dead S' he hb hn)

/-- What holds at a loop's head; T: all that the head's state hangs on. -/
theorem At.loop {P : Program} {c : Code} {T : Type} (Sf : T → SS) (F : T → Phi → Prop) (μ : T → Nat) (x0 : T) (hS : S = Sf x0) (hF : F x0 Φ)
    (round : ∀ (x : T) (Φ' : Phi), PhiLe 0 Φ Φ' → F x Φ' → At Γ Φ' (Sf x) (c.wp P (Exit.then (fun a w => ∃ x' Φ'' β, St Γ Φ'' β (Sf x') a w ∧ PhiLe 0 Φ' Φ'' ∧ F x' Φ'' ∧ μ x' < μ x) Q))) :
    At Γ Φ S ((Code.loop c).wp P Q) := by
  intro β a w h b k cs
  have key : ∀ (n : Nat) (x : T) (Φ' : Phi) (β : Nat → Nat) (a : Act) (w : World), μ x = n → PhiLe 0 Φ Φ' → F x Φ' → St Γ Φ' β (Sf x) a w →
      ∃ e a' w', Q e a' w' ∧ Arrives P (lone (b.at a (.code c :: .inLoop c :: k)) cs w) b k cs e a' w' := by
    intro n
    induction n using Nat.strongRecOn with
    | _ n ih =>
      intro x Φ' β a w hn hle hF hst
      obtain ⟨e, a₁, w₁, hq, harr⟩ := round x Φ' hle hF β a w hst b (.inLoop c :: k) cs
      cases e with
      | normal =>
        obtain ⟨x', Φ'', β', hst', hle', hF', hlt⟩ := hq
        have hle2 : PhiLe 0 Φ Φ'' := ⟨fun b cs hb => hle'.1 b cs (hle.1 b cs hb), fun b hb => by omega⟩
        obtain ⟨e₂, a₂, w₂, hq₂, harr₂⟩ := ih (μ x') (hn ▸ hlt) x' Φ'' β' a₁ w₁ rfl hle2 hF' hst'
        exact ⟨e₂, a₂, w₂, hq₂, .of_steps (Steps.trans harr (.one step_inLoop)) harr₂⟩
      | exit id => exact ⟨_, a₁, w₁, hq, .pass (x := .inLoop c) rfl (fun _ _ => .inl (by simp)) harr⟩
      | goto l => exact ⟨_, a₁, w₁, hq, .pass (x := .inLoop c) rfl (fun _ _ => .inl (by simp)) harr⟩
      | ret => exact ⟨_, a₁, w₁, hq, .pass (x := .inLoop c) rfl (fun _ _ => .inl (by simp)) harr⟩
      | panic ch => exact ⟨_, a₁, w₁, hq, .pass (x := .inLoop c) rfl (fun _ _ => .inl (by simp)) harr⟩
      | outgrown => exact ⟨_, a₁, w₁, hq, .pass (x := .inLoop c) rfl (fun _ _ => .inl (by simp)) harr⟩
  obtain ⟨e, a', w', hq, harr⟩ := key _ x0 Φ β a w rfl ⟨fun _ _ h => h, fun _ _ => rfl⟩ hF (hS ▸ h)
  exact ⟨e, a', w', hq, .of_steps (.one step_loop) harr⟩

/-- A round's end. -/
theorem At.round {T : Type} {Sf : T → SS} {F : T → Phi → Prop} {μ : T → Nat} {x : T} {Φ0 : Phi} (x' : T) (hS : S = Sf x') (hle : PhiLe 0 Φ0 Φ) (hF : F x' Φ) (hμ : μ x' < μ x) :
    At Γ Φ S (Exit.then (fun a w => ∃ x' Φ'' β, St Γ Φ'' β (Sf x') a w ∧ PhiLe 0 Φ0 Φ'' ∧ F x' Φ'' ∧ μ x' < μ x) Q .normal) :=
  fun β _ _ h => ⟨x', Φ, β, hS ▸ h, hle, hF, hμ⟩
end
end Go.Sx
