/- SyN: iterators: functions that are handed yield; contexts that begin anew. General: no program. -/
import Derived.Test.YtgkjblbmiooedaaSyM
import Derived.RangeFuncRecord
import Derived.RangeFuncLeaves
import Derived.TacticsIn
namespace Go.Sx
open Go.RowKit

section
variable {Γ : Ctx} {Φ Φ0 : Phi} {S S' : SS} {F : Fence} {n : Nat} {Q : Exit → Act → World → Prop} {ops : Array Oper} {rest : List Oper} {o : Oper}
/- the steps of a region that calls yield -/
theorem at_exec (hF : ∀ f, F.fn f) {a : Act} {w : World} {K : Act → World → Prop} (hnd : ∀ c, o.op ≠ .defer c) {r : Next} {v : Value} {w' : World} (hr : (execOp a.eval o).run Γ.P w = .ok r w') (hv : r = .value v ∨ (r = .skip ∧ v = undef)) (hk : K (a.put o.dst v) w') : o.wpIn F n Γ.P a w K Q := by
  refine ⟨fun f _ => hF f, ?_⟩
  rw [Oper.semAt_eq _ _ _ hnd, hr]
  rcases hv with rfl | ⟨rfl, rfl⟩ <;> exact hk
theorem At.stepI (hF : ∀ f, F.fn f) {l : List Oper} (hs : stepS Γ.P ops S o = some S') (k : At Γ Φ S' (wpListIn F n Γ.P ops Q l)) : At Γ Φ S (wpListIn F n Γ.P ops Q (o :: l)) := by
  intro β a w h
  unfold stepS at hs
  split at hs
  · rename_i hw
    unfold wpListIn
    rw [if_pos (wanted_of h hw)]
    obtain ⟨v, w', β', r, hr, hv, hst, _⟩ := evS_sound h hs
    refine at_exec hF (fun c hc => ?_) hr hv (k β' _ _ hst)
    unfold evS ev at hs
    rw [hc] at hs
    cases hs
  · rename_i hw
    cases hs
    unfold wpListIn
    rw [if_neg (by rw [wanted_of h hw]; simp)]
    refine ⟨fun f _ => hF f, k β _ _ (h.put o.dst (.inr rfl) ?_)⟩
    have := h.bd
    unfold SS.bd at this ⊢
    rw [put_hp]
    rw [Bool.and_eq_true] at this ⊢
    refine ⟨?_, this.2⟩
    cases o.dst with
    | none => exact this.1
    | some d =>
      simp only [SS.put]
      rw [List.all_eq_true] at this ⊢
      intro x hx
      rcases List.mem_or_eq_of_mem_set hx with hx | rfl
      · exact this.1 x hx
      · rfl
  · cases hs
theorem At.runI (hF : ∀ f, F.fn f) : ∀ (l l' : List Oper) (S : SS), runS Γ.P ops l S = some S' → At Γ Φ S' (wpListIn F n Γ.P ops Q l') → At Γ Φ S (wpListIn F n Γ.P ops Q (l ++ l'))
  | [], l', S, h, k => by cases h; exact k
  | o :: l, l', S, h, k => by
    simp only [runS] at h
    split at h
    · rename_i S1 hs
      exact At.stepI hF hs (At.runI hF l l' S1 h k)
    · cases h
end

/-- A context's parts that change where it begins anew. -/
structure Cy where
  E : World
  G : Nat → Nat → Prop
  Φ0 : Phi
  β0 : Nat → Nat

/-- A context that began later in the same activation. -/
structure Sub (Γ Γ' : Ctx) : Prop where
  n : Γ'.n = Γ.n
  β : Γ'.β0 = Γ.β0
  os : Γ'.E.os = Γ.E.os
  tape : Γ'.E.tape = Γ.E.tape
  output : Γ'.E.output = Γ.E.output
  size : Γ.E.heap.size ≤ Γ'.E.heap.size
  block : ∀ k, k < Γ.E.heap.size → (¬ ∃ i, Γ.G i k) → Γ'.E.heap[k]? = Γ.E.heap[k]?
  lo : ∀ k, (∃ i, Γ'.G i k) → Γ.E.heap.size ≤ k ∨ ∃ i, Γ.G i k
  phi : PhiG Γ.G Γ.E.heap.size Γ.Φ0 Γ'.Φ0

theorem Sub.refl (Γ : Ctx) : Sub Γ Γ := ⟨rfl, rfl, rfl, rfl, rfl, Nat.le_refl _, fun _ _ _ => rfl, fun _ h => .inr h, ⟨fun _ _ h => h, fun _ _ _ => rfl⟩⟩
theorem Sub.st {Γ Γ' : Ctx} (s : Sub Γ Γ') {Φ : Phi} {β : Nat → Nat} {S : SS} {a : Act} {w : World} (h : St Γ' Φ β S a w) : St { Γ with df := Γ'.df } Φ β S a w := by
  refine ⟨h.fr, h.df, h.own, h.sto, fun i b k hi hk => ?_, ⟨h.keep.os.trans s.os, h.keep.tape.trans s.tape, h.keep.output.trans s.output, Nat.le_trans s.size h.keep.size, fun k hk hn => ?_⟩, ⟨fun b cs hb => h.phi.1 b cs (s.phi.1 b cs hb), fun b hb hn => ?_⟩, h.bd, fun i hi => ?_, ?_⟩
  · rcases h.lo i b k hi hk with h1 | h1
    · exact .inl (Nat.le_trans s.size h1)
    · exact s.lo k h1
  · rw [← s.block k hk hn]
    refine h.keep.block k (Nat.lt_of_lt_of_le hk s.size) fun hg => ?_
    rcases s.lo k hg with h1 | h1
    · have hk' : k < Γ.E.heap.size := hk
      omega
    · exact hn h1
  · have hb' : b < Γ.E.heap.size := hb
    rw [h.phi.2 b (Nat.lt_of_lt_of_le hb s.size) fun hg => by
      rcases s.lo b hg with h1 | h1
      · omega
      · exact hn h1]
    exact s.phi.2 b hb hn
  · have hi' : i < Γ'.n := by rw [s.n]; exact hi
    rw [h.pin i hi', s.β]
  · have := h.len; rw [s.n] at this; exact this
theorem Sub.trans {Γ Γ' Γ'' : Ctx} (s : Sub Γ Γ') (t : Sub Γ' Γ'') : Sub Γ Γ'' := by
  refine ⟨t.n.trans s.n, t.β.trans s.β, t.os.trans s.os, t.tape.trans s.tape, t.output.trans s.output, Nat.le_trans s.size t.size, fun k hk hn => ?_, fun k hg => ?_, ⟨fun b cs hb => t.phi.1 b cs (s.phi.1 b cs hb), fun b hb hn => ?_⟩⟩
  · rw [← s.block k hk hn]
    refine t.block k (Nat.lt_of_lt_of_le hk s.size) fun hg => ?_
    rcases s.lo k hg with h1 | h1
    · omega
    · exact hn h1
  · rcases t.lo k hg with h1 | h1
    · exact .inl (Nat.le_trans s.size h1)
    · exact s.lo k h1
  · rw [t.phi.2 b (Nat.lt_of_lt_of_le hb s.size) fun hg => by
      rcases s.lo b hg with h1 | h1
      · omega
      · exact hn h1]
    exact s.phi.2 b hb hn

/-- What a round leaves, or an iterator: J of t, over the blocks F, from a world w on. -/
def RoundEnd {τ : Type} (J : τ → Phi → (Nat → Prop) → World → Prop) (t : τ) (Φ : Phi) (F : Nat → Prop) (w w' : World) : Prop :=
  ∃ Φ' F', J t Φ' F' w' ∧ Sto Φ' w' ∧ Keep (fun _ k => F k) w w' ∧ PhiG (fun _ k => F k) w.heap.size Φ Φ' ∧ ∀ k, F' k → (F k ∨ w.heap.size ≤ k) ∧ Φ' k = none ∧ k < w'.heap.size

/-- What yield is: it turns t, told by y. -/
structure Yld (P : Program) (l : Nat) {τ α : Type} (enc : α → List D) (y : τ → α → Option (Bool × τ)) (J : τ → Phi → (Nat → Prop) → World → Prop) : Prop where
  keep : ∀ t Φ F w Φ' w', J t Φ F w → (∀ k, F k → w'.heap[k]? = w.heap[k]?) → PhiLe 0 Φ Φ' → (∀ k, F k → Φ' k = none) → J t Φ' F w'
  run : ∀ t a b t' Φ F w vs, y t a = some (b, t') → J t Φ F w → Sto Φ w → Ra Φ (enc a) vs → (∀ k, F k → Φ k = none ∧ k < w.heap.size) →
    ∃ r : Loop, w.heap[l]? = some (.loop r) ∧ r.params.size = vs.length ∧
      RoundIn Fence.wide 0 P l r.fn ((r.params.zip vs.toArray).foldl (fun t (p, v) => t.setIfInBounds p v) r.tmps) r.assign r.body w (fun e w' => e = .returned (.bool b) ∧ RoundEnd J t' Φ F w w')

/-- An iterator's contract. -/
def IterC (P : Program) (gf : FuncId) (caps : List Value) (Φ : Phi) {α τ : Type} (enc : α → List D) (y : τ → α → Option (Bool × τ)) (g : τ → Option τ) : Prop :=
  ∀ (l : Nat) (J : τ → Phi → (Nat → Prop) → World → Prop), Yld P l enc y J → ∀ t r F w, g t = some r → J t Φ F w → Sto Φ w → (∀ k, F k → Φ k = none ∧ k < w.heap.size) →
    Calls P gf (Value.func (.yield l) #[] #[] :: caps).toArray w (fun e w' => e = .returned (.tuple #[]) ∧ RoundEnd J r Φ F w w')

/-- Within an iterator: what is known of J. -/
structure InvI (w0 : World) (Φ0 : Phi) (F0 : Nat → Prop) {τ : Type} (J : τ → Phi → (Nat → Prop) → World → Prop) (t : τ) (c : Cy) : Prop where
  os : c.E.os = w0.os
  tape : c.E.tape = w0.tape
  output : c.E.output = w0.output
  size : w0.heap.size ≤ c.E.heap.size
  block : ∀ k, k < w0.heap.size → ¬ F0 k → c.E.heap[k]? = w0.heap[k]?
  own : ∀ i k, c.G i k → w0.heap.size ≤ k
  phi : PhiG (fun _ k => F0 k) w0.heap.size Φ0 c.Φ0
  j : ∃ F, J t c.Φ0 F c.E ∧ ∀ k, F k → (F0 k ∨ w0.heap.size ≤ k) ∧ k < c.E.heap.size ∧ (¬ ∃ i, c.G i k) ∧ c.Φ0 k = none

abbrev Cy.x (c : Cy) (P : Program) (n : Nat) (df : List Deferred) : Ctx := ⟨P, c.E, c.G, c.Φ0, c.β0, n, df, none⟩

section
variable {P : Program} {w0 : World} {Φ0 Φ : Phi} {F0 : Nat → Prop} {τ α : Type} {J : τ → Phi → (Nat → Prop) → World → Prop} {t : τ} {c : Cy} {β : Nat → Nat} {S : SS} {a : Act} {w : World} {l : Nat} {enc : α → List D} {y : τ → α → Option (Bool × τ)}

/-- What is known of J, in the world that is now. -/
theorem InvI.now (hY : Yld P l enc y J) (hI : InvI w0 Φ0 F0 J t c) (h : St (c.x P 0 []) Φ β S a w) : ∃ F, J t Φ F w ∧ (∀ k, F k → (F0 k ∨ w0.heap.size ≤ k) ∧ k < w.heap.size ∧ Φ k = none ∧ ∀ (i : Nat) (b : Blk), S.hp[i]? = some b → b.bid β i ≠ some k) := by
  obtain ⟨F, hJ, hF⟩ := hI.j
  have hw : ∀ k, F k → w.heap[k]? = c.E.heap[k]? := fun k hk => h.keep.block k (hF k hk).2.1 (hF k hk).2.2.1
  have hp : ∀ k, F k → Φ k = none := fun k hk => by rw [h.phi.2 k (hF k hk).2.1 (hF k hk).2.2.1]; exact (hF k hk).2.2.2
  refine ⟨F, hY.keep t c.Φ0 F c.E Φ w hJ hw ⟨h.phi.1, fun _ h => absurd h (Nat.not_lt_zero _)⟩ hp, fun k hk => ⟨(hF k hk).1, Nat.lt_of_lt_of_le (hF k hk).2.1 h.keep.size, hp k hk, fun i b hi hb => ?_⟩⟩
  rcases h.lo i b k hi hb with h1 | h1
  · have := (hF k hk).2.1
    have h1' : c.E.heap.size ≤ k := h1
    omega
  · exact (hF k hk).2.2.1 h1
theorem InvI.keepw (hI : InvI w0 Φ0 F0 J t c) (h : St (c.x P 0 []) Φ β S a w) : Keep (fun _ k => F0 k) w0 w ∧ PhiG (fun _ k => F0 k) w0.heap.size Φ0 Φ := by
  refine ⟨⟨h.keep.os.trans hI.os, h.keep.tape.trans hI.tape, h.keep.output.trans hI.output, Nat.le_trans hI.size h.keep.size, fun k hk hn => ?_⟩, ⟨fun b cs hb => h.phi.1 b cs (hI.phi.1 b cs hb), fun b hb hn => ?_⟩⟩
  · rw [← hI.block k hk fun hf => hn ⟨0, hf⟩]
    exact h.keep.block k (Nat.lt_of_lt_of_le hk hI.size) fun ⟨i, hi⟩ => by have := hI.own i k hi; omega
  · rw [h.phi.2 b (Nat.lt_of_lt_of_le hb hI.size) fun ⟨i, hi⟩ => by have := hI.own i b hi; omega]
    exact hI.phi.2 b hb hn
theorem InvI.fin (hY : Yld P l enc y J) (hI : InvI w0 Φ0 F0 J t c) (h : St (c.x P 0 []) Φ β S a w) : RoundEnd J t Φ0 F0 w0 w := by
  obtain ⟨F, hJ, hF⟩ := hI.now hY h
  obtain ⟨h1, h2⟩ := hI.keepw h
  exact ⟨Φ, F, hJ, h.sto, h1, h2, fun k hk => ⟨(hF k hk).1, (hF k hk).2.2.1, (hF k hk).2.1⟩⟩
/-- Behind a round. -/
theorem InvI.next (hI : InvI w0 Φ0 F0 J t c) (h : St (c.x P 0 []) Φ β S a w) {F : Nat → Prop} (hF : ∀ k, F k → (F0 k ∨ w0.heap.size ≤ k) ∧ k < w.heap.size ∧ Φ k = none ∧ ∀ (i : Nat) (b : Blk), S.hp[i]? = some b → b.bid β i ≠ some k) {t' : τ} {w' : World} (hR : RoundEnd J t' Φ F w w') :
    ∃ Φ', PhiLe 0 Φ Φ' ∧ InvI w0 Φ0 F0 J t' ⟨w', fun i k => ∃ b, S.hp[i]? = some b ∧ b.bid β i = some k, Φ', c.β0⟩ ∧ St ((Cy.mk w' (fun i k => ∃ b, S.hp[i]? = some b ∧ b.bid β i = some k) Φ' c.β0).x P 0 []) Φ' β S a w' := by
  obtain ⟨Φ', F', hJ, hsto, hk, hphi, hF'⟩ := hR
  obtain ⟨h1, h2⟩ := hI.keepw h
  have hown : ∀ {i : Nat} {b : Blk} {k : Nat}, S.hp[i]? = some b → b.bid β i = some k → w0.heap.size ≤ k ∧ k < w.heap.size ∧ ¬ F k := by
    intro i b k hi hb
    refine ⟨?_, h.own.lt hi hb, fun hf => (hF k hf).2.2.2 i b hi hb⟩
    rcases h.lo i b k hi hb with q | ⟨j, q⟩
    · exact Nat.le_trans hI.size q
    · exact hI.own j k q
  have hkp : ∀ {i : Nat} {b : Blk} {k : Nat}, S.hp[i]? = some b → b.bid β i = some k → w'.heap[k]? = w.heap[k]? := fun hi hb => hk.block _ (hown hi hb).2.1 fun ⟨_, hf⟩ => (hown hi hb).2.2 hf
  refine ⟨Φ', ⟨hphi.1, fun _ h => absurd h (Nat.not_lt_zero _)⟩, ⟨hk.os.trans h1.os, hk.tape.trans h1.tape, hk.output.trans h1.output, Nat.le_trans h1.size hk.size, fun k q hn => ?_, fun i k ⟨b, hi, hb⟩ => (hown hi hb).1, ⟨fun b cs hb => hphi.1 b cs (h2.1 b cs hb), fun b hb hn => ?_⟩, F', hJ, fun k hf => ⟨?_, (hF' k hf).2.2, ?_, (hF' k hf).2.1⟩⟩, ?_⟩
  · rw [← h1.block k q fun ⟨_, hf⟩ => hn hf]
    refine hk.block k (Nat.lt_of_lt_of_le q h1.size) fun ⟨_, hf⟩ => ?_
    rcases (hF k hf).1 with q1 | q1
    · exact hn q1
    · omega
  · exact (hphi.2 b (Nat.lt_of_lt_of_le hb h1.size) fun ⟨_, hf⟩ => by
      rcases (hF b hf).1 with q1 | q1
      · exact hn ⟨0, q1⟩
      · omega).trans (h2.2 b hb hn)
  · rcases (hF' k hf).1 with q | q
    · exact (hF k q).1
    · exact .inr (Nat.le_trans h1.size q)
  · rintro ⟨i, b, hi, hb⟩
    rcases (hF' k hf).1 with q | q
    · exact (hown hi hb).2.2 q
    · have := (hown hi hb).2.1; omega
  · refine ⟨h.fr, h.df, ⟨fun i cs t hi => ?_, fun i v n xs t sz hi => ownsO_keep (h.own.o i v n xs t sz hi) fun g hg => hkp hi hg, h.own.inj, fun i b k hi hb => ?_, fun i g cs t hi => ⟨(h.own.f i g cs t hi).1, hphi.1 _ _ (h.own.f i g cs t hi).2⟩⟩, hsto, fun i b k hi hb => .inr ⟨i, b, hi, hb⟩, ⟨rfl, rfl, rfl, Nat.le_refl _, fun _ _ _ => rfl⟩, ⟨fun _ _ h => h, fun _ _ _ => rfl⟩, h.bd, fun i hi => absurd hi (Nat.not_lt_zero i), Nat.zero_le _⟩
    · obtain ⟨vs, hv, hm⟩ := h.own.c i cs t hi
      exact ⟨vs, (hkp hi rfl).trans hv, hm⟩
    · rw [hphi.2 k (hown hi hb).2.1 fun ⟨_, hf⟩ => (hown hi hb).2.2 hf]
      exact h.own.phi i b k hi hb
end
end Go.Sx
