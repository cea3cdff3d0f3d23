/- SxE: regions that draw the order of their operations. General: no program. -/
import Derived.Test.YtgkjblbmiooedaaSxD
import Derived.OrdersHeld
namespace Go.Sx
open Go.RowKit

def SS.bare (S : SS) : SS := { fr := S.fr, hp := S.hp.map fun b => match b with | .f g cs t => .f g cs t | _ => .dead }

theorem bare_get {S : SS} {i : Nat} {b : Blk} (h : S.bare.hp[i]? = some b) : b = .dead ∨ ∃ g cs t, b = .f g cs t ∧ S.hp[i]? = some (.f g cs t) := by
  simp only [SS.bare, List.getElem?_map] at h
  cases hk : S.hp[i]? with
  | none => rw [hk] at h; simp at h
  | some c =>
    rw [hk] at h
    cases c <;> simp at h <;> first | exact .inl h.symm | exact .inr ⟨_, _, _, h.symm, rfl⟩

/-- The known boxes are in Φ0 too. -/
def fOk (Φ0 : Phi) (S : SS) : Prop := ∀ (i g : Nat) (cs : List Value) (t : TypeId), S.hp[i]? = some (.f g cs t) → Φ0 g = some (.cells cs.toArray t (0, 0))

section
variable {Γ : Ctx} {Φ Φ0 : Phi} {S S' : SS} {Q : Exit → Act → World → Prop} {ops : Array Oper} {rest : List Oper} {o : Oper}

theorem St.bare {β : Nat → Nat} {a : Act} {w w2 : World} (h : St Γ Φ β S a w) (hf : fOk Φ0 S) (hs : Sto Φ0 w2) : St ⟨Γ.P, w2, fun _ _ => False, Φ0, β, 0, Γ.df, none⟩ Φ0 β S.bare a w2 := by
  refine ⟨h.fr, h.df, ⟨?_, ?_, ?_, ?_, ?_⟩, hs, ?_, ⟨rfl, rfl, rfl, Nat.le_refl _, fun _ _ _ => rfl⟩, ⟨fun _ _ h => h, fun _ _ _ => rfl⟩, ?_, fun i hi => absurd hi (Nat.not_lt_zero i), Nat.zero_le _⟩
  · intro i cs t hi; rcases bare_get hi with he | ⟨_, _, _, he, _⟩ <;> cases he
  · intro i v n xs t sz hi; rcases bare_get hi with he | ⟨_, _, _, he, _⟩ <;> cases he
  · intro i j bi bj k hi hj li lj; rcases bare_get hi with rfl | ⟨_, _, _, rfl, _⟩ <;> cases li
  · intro i b k hi hk; rcases bare_get hi with rfl | ⟨_, _, _, rfl, _⟩ <;> cases hk
  · intro i g cs t hi
    rcases bare_get hi with he | ⟨_, _, _, he, hi⟩
    · cases he
    · cases he; exact ⟨(h.own.f _ _ _ _ hi).1, hf _ _ _ _ hi⟩
  · intro i b k hi hk; rcases bare_get hi with rfl | ⟨_, _, _, rfl, _⟩ <;> cases hk
  · have := h.bd
    unfold SS.bd at this ⊢
    rw [Bool.and_eq_true] at this ⊢
    refine ⟨by simpa [SS.bare] using this.1, ?_⟩
    rw [List.all_eq_true]
    intro b hb
    simp only [SS.bare, List.mem_map] at hb
    obtain ⟨c, _, rfl⟩ := hb
    cases c <;> rfl

/-- The operation tells x and does nothing else. -/
def Val (Γ : Ctx) (Φ : Phi) (S : SS) (o : Oper) (x : SV) : Prop := ∀ β a w, St Γ Φ β S a w → ∃ v, (execOp a.eval o).run Γ.P w = .ok (.value v) w ∧ Fits β x v

theorem Val.ev {x : SV} (hp : pureOp o.op = true) (he : ev Γ.P S o = some (x, S.hp)) (hb : (S.put o.dst x).bd = true) : Val Γ Φ S o x := fun β a w h => by
  have he' : evS Γ.P S o = some (S.put o.dst x) := by
    unfold evS
    rw [he]
    have hS : ({ fr := (S.put o.dst x).fr, hp := S.hp } : SS) = S.put o.dst x := by cases o.dst <;> rfl
    simp only [hS, hb, if_true]
  obtain ⟨v, w', β', r, hr, _, _, hq⟩ := evS_sound h he'
  obtain ⟨rfl, rfl, x', hx', hf⟩ := hq hp
  rw [he] at hx'
  cases hx'
  exact ⟨v, hr, hf⟩

theorem St.drawn {β : Nat → Nat} {a : Act} {w : World} (h : St Γ Φ β S a w) (n : Nat) : St Γ Φ β S a { w with drawn := n } :=
  ⟨h.fr, h.df, ⟨h.own.c, h.own.o, h.own.inj, h.own.phi, h.own.f⟩, h.sto, h.lo, ⟨h.keep.os, h.keep.tape, h.keep.output, h.keep.size, h.keep.block⟩, h.phi, h.bd, h.pin, h.len⟩

theorem At.region_draw {id : Nat} (hm : Γ.P.follows .mixedOrders = true) (n : Nat) (hn : ops.size = n) (l0 : Array Bool) (hl : Array.replicate n false = l0) (k : At Γ Φ S (wpAnyH Γ.P .any ops Q (Sto Φ) n l0)) : At Γ Φ S ((Code.region id ops true).wp Γ.P Q) :=
  fun β a w h => wp_region_held hm (by rw [hn, hl]; exact k β a _ (h.drawn _))

def PanOk (Q : Exit → Act → World → Prop) : Prop := ∀ (c : List PanicEntry) (a : Act) (w : World) (d : Option Tmp) (v : Value), Q (.panic c) (a.put d v) w → Q (.panic c) a w
theorem PanOk.then {K : Act → World → Prop} (h : PanOk Q) : PanOk (Exit.then K Q) := h
theorem PanOk.inBlock {i : Nat} (h : PanOk Q) : PanOk (Exit.inBlock i Q) := h
theorem PanOk.body {P : Program} {fn : Func} {R : Ending → World → Prop} : PanOk (bodyPost P fn R) := fun c _ w d v h => by
  have : (Act.put _ d v).defers = [] ∧ R (.panicked c) w := h
  rw [Act.put_df] at this
  exact this

theorem At.take (hle : PhiLe 0 Φ0 Φ) (hfo : fOk Φ0 S) (hQ : PanOk Q) {fuel : Nat} {listed : Array Bool} (i : Nat) (hi : ops[i]? = some o) (hs : Region.noSelect ops = true) (hf : Region.free .any ops listed i = true) (hr : (Region.ready .any ops listed).contains i = true)
    (hw : wantS ops S o = some true) (x : SV) (hx : x.isU = false) (hv : ∀ E β, Val ⟨Γ.P, E, fun _ _ => False, Φ0, β, 0, Γ.df, none⟩ Φ0 S.bare o x) (hS : putB S o.dst x = some S') (l' : Array Bool) (hl : listed.setIfInBounds i true = l')
    (k : At Γ Φ S' (wpAnyH Γ.P .any ops Q (Sto Φ0) fuel l')) : At Γ Φ S (wpAnyH Γ.P .any ops Q (Sto Φ0) (fuel + 1) listed) := by
  obtain ⟨rfl, hb⟩ := putB_some hS
  subst hl
  intro β a w h
  have hsto : ∀ {w : World}, Sto Φ w → Sto Φ0 w := fun hs b cs hb => hs b cs (hle.1 b cs hb)
  refine wpAnyH_take (v := den β x) hi hs hf hr (fun c a w => hQ c a w _ _) (.inl ⟨wanted_of h hw, fun w2 hw2 => ?_⟩) (hsto h.sto) (k β _ _ (h.put o.dst (.inr rfl) hb))
  obtain ⟨v, hr, hf⟩ := hv w2 β β a w2 (h.bare hfo hw2)
  rw [hr, hf.known (by rintro rfl; cases hx)]

/-- One that is not wanted. -/
theorem At.takeN (hle : PhiLe 0 Φ0 Φ) (hQ : PanOk Q) {fuel : Nat} {listed : Array Bool} (i : Nat) (hi : ops[i]? = some o) (hs : Region.noSelect ops = true) (hf : Region.free .any ops listed i = true) (hr : (Region.ready .any ops listed).contains i = true)
    (hw : wantS ops S o = some false) (hS : putB S o.dst (.v undef) = some S') (l' : Array Bool) (hl : listed.setIfInBounds i true = l')
    (k : At Γ Φ S' (wpAnyH Γ.P .any ops Q (Sto Φ0) fuel l')) : At Γ Φ S (wpAnyH Γ.P .any ops Q (Sto Φ0) (fuel + 1) listed) := by
  obtain ⟨rfl, hb⟩ := putB_some hS
  subst hl
  intro β a w h
  have hsto : ∀ {w : World}, Sto Φ w → Sto Φ0 w := fun hs b cs hb => hs b cs (hle.1 b cs hb)
  exact wpAnyH_take (v := undef) hi hs hf hr (fun c a w => hQ c a w _ _) (.inr ⟨wanted_of h hw, rfl⟩) (hsto h.sto) (k β _ _ (h.put o.dst (.inr rfl) hb))

theorem wpOp_of_list {P : Program} {i : Nat} {K : Act → World → Prop} {a : Act} {w : World} (hi : ops[i]? = some o) (h : wpList P ops (Exit.then K Q) [o] a w) : wpOp P ops Q i K a w := by
  unfold wpOp
  simp only [hi]
  unfold wpList at h
  split
  · rename_i hw
    rw [if_pos hw] at h
    rcases h with h | h
    · left
      unfold Oper.wp at h ⊢
      generalize (execOp a.eval o).run P w = r at h ⊢
      cases r with
      | ok n w' =>
        cases n <;> simp only [Oper.upon] at h ⊢ <;> first
          | exact h
          | exact Calls.mono h (fun e w'' he => by cases e <;> exact he)
          | exact Rows.mono h (fun _ _ he => he)
      | halt x w' => cases x <;> simp only [Oper.upon] at h ⊢ <;> exact h
    · right
      exact h
  · rename_i hw
    rw [if_neg hw] at h
    exact h

theorem At.any1 {fuel : Nat} {listed : Array Bool} (i : Nat) (hr : Region.ready .any ops listed = [i]) (hi : ops[i]? = some o) (l' : Array Bool) (hl : listed.setIfInBounds i true = l')
    (k : At Γ Φ S (wpList Γ.P ops (Exit.then (fun a w => Sto Φ0 w ∧ wpAnyH Γ.P .any ops Q (Sto Φ0) fuel l' a w) Q) [o])) : At Γ Φ S (wpAnyH Γ.P .any ops Q (Sto Φ0) (fuel + 1) listed) := by
  subst hl
  intro β a w h
  refine wpAnyH_all hr (by simp) fun j hj => ?_
  simp only [List.mem_singleton] at hj
  subst hj
  exact wpOp_of_list hi (k β a w h)

theorem At.any2 {fuel : Nat} {listed : Array Bool} (i j : Nat) (hr : Region.ready .any ops listed = [i, j]) {o' : Oper} (hi : ops[i]? = some o) (hj : ops[j]? = some o') (l' l'' : Array Bool) (hl : listed.setIfInBounds i true = l') (hl' : listed.setIfInBounds j true = l'')
    (k : At Γ Φ S (wpList Γ.P ops (Exit.then (fun a w => Sto Φ0 w ∧ wpAnyH Γ.P .any ops Q (Sto Φ0) fuel l' a w) Q) [o]))
    (k' : At Γ Φ S (wpList Γ.P ops (Exit.then (fun a w => Sto Φ0 w ∧ wpAnyH Γ.P .any ops Q (Sto Φ0) fuel l'' a w) Q) [o'])) : At Γ Φ S (wpAnyH Γ.P .any ops Q (Sto Φ0) (fuel + 1) listed) := by
  subst hl hl'
  intro β a w h
  refine wpAnyH_all hr (by simp) fun q hq => ?_
  simp only [List.mem_cons, List.not_mem_nil, or_false] at hq
  rcases hq with rfl | rfl
  · exact wpOp_of_list hi (k β a w h)
  · exact wpOp_of_list hj (k' β a w h)

theorem At.held (hle : PhiLe 0 Φ0 Φ) {X : Act → World → Prop} (k : At Γ Φ S X) : At Γ Φ S (fun a w => Sto Φ0 w ∧ X a w) :=
  fun β a w h => ⟨fun b cs hb => h.sto b cs (hle.1 b cs hb), k β a w h⟩

theorem At.drawn_done {fuel : Nat} {listed : Array Bool} (hr : Region.ready .any ops listed = []) (k : At Γ Φ S (Q .normal)) : At Γ Φ S (wpAnyH Γ.P .any ops Q (Sto Φ0) fuel listed) :=
  fun β a w h => wpAnyH_done hr (k β a w h) fuel

/- what the readers tell -/
theorem Val.idx {t e : TypeId} {x ix : Operand} (ho : o.op = .indexAddr t x ix) (hu : Γ.P.underlying t = some (.slice e)) {sz : Nat} (hsz : szT Γ.P e = some sz)
    {b off n cap : Nat} (hx : S.get x = .v (.slice (some ⟨b, off, none⟩) n cap)) {kd : IntKind} {i : Int} (hi : S.get ix = .v (.int kd i)) (h0 : 0 ≤ i) (h1 : i < n) : Val Γ Φ S o (.v (.pointer (some ⟨b, off + i.toNat * sz, none⟩))) := fun β a w h => by
  refine ⟨_, ?_, .inr rfl⟩
  unfold execOp; rw [ho]
  simp only [Instr.indexAt, fits_v h hx, fits_v h hi, asIntOf, Sem.run_bind, Sem.run_pure, Result.andThen_ok, run_underlying hu]
  rw [if_pos ⟨h0, h1⟩]
  simp only [Sem.run_bind, run_sizeOf' hsz, Result.andThen_ok, Sem.run_pure, den, add_none]

theorem Val.ldB {t : TypeId} {p : Operand} (ho : o.op = .load t p) {b off : Nat} {xs : List Value} (hR : RdC Φ (some ⟨b, off, none⟩) xs) (hpos : 0 < xs.length) (d pos : Nat) (hd : pos = off + d) (hp : S.get p = .v (.pointer (some ⟨b, pos, none⟩)))
    (x : SV) (hl : ldB Γ.P t (xs.map .v) d = some x) : Val Γ Φ S o x := fun β a w h => by
  subst hd
  obtain ⟨b', off', cs, tt, z, hA, hΦ, hc⟩ := hR hpos
  injection hA with hA
  injection hA with hA1 hA2
  subst hA1 hA2
  obtain ⟨hz, hzq⟩ := h.sto _ _ hΦ
  obtain ⟨v, hr, hf⟩ := run_ldB (P := Γ.P) (w := w) (β := β) (mat_v (β := β) xs) hl b (off + d) (fun j v hj => by
    rw [List.getElem?_drop] at hj
    rw [cell_of_row w b _ cs tt z hz, ← hc (d + j) v hj]
    congr 1
    omega)
  refine ⟨v, ?_, hf⟩
  unfold execOp; rw [ho]
  simp [Instr.loadAt, fits_v h hp, Instr.sureAddr, hr]

theorem Val.ldE {t : TypeId} {p : Operand} (ho : o.op = .load t p) {α : Type} {enc : α → List Value} {xs : List α} {b off : Nat} (hR : RdC Φ (some ⟨b, off, none⟩) (xs.flatMap enc)) {sz : Nat} (hsz : ∀ x, (enc x).length = sz) (hsp : 0 < sz)
    (i : Nat) (e : α) (hi : xs[i]? = some e) (d : Nat) (pos : Nat) (hpos : pos = off + i * sz + d) (hp : S.get p = .v (.pointer (some ⟨b, pos, none⟩))) (x : SV) (hl : Go.Sx.ldB Γ.P t ((enc e).map .v) d = some x) : Val Γ Φ S o x := fun β a w h => by
  subst hpos
  have h0 : 0 < (enc e).length := by rw [hsz]; exact hsp
  have hlen : 0 < (xs.flatMap enc).length := Nat.lt_of_le_of_lt (Nat.zero_le _) (lt_get (flat_get hsz xs i e 0 _ hi (List.getElem?_eq_getElem h0)))
  obtain ⟨b', off', cs, tt, z, hA, hΦ, hc⟩ := hR hlen
  injection hA with hA
  injection hA with hA1 hA2
  subst hA1 hA2
  obtain ⟨hz, hzq⟩ := h.sto _ _ hΦ
  obtain ⟨v, hr, hf⟩ := run_ldB (P := Γ.P) (w := w) (β := β) (mat_v (β := β) (enc e)) hl b (off + i * sz + d) (fun j v hj => by
    rw [List.getElem?_drop] at hj
    rw [cell_of_row w b _ cs tt z hz, ← hc (i * sz + (d + j)) v (flat_get hsz xs i e (d + j) v hi hj)]
    congr 1
    omega)
  refine ⟨v, ?_, hf⟩
  unfold execOp; rw [ho]
  simp [Instr.loadAt, fits_v h hp, Instr.sureAddr, hr]

theorem Val.eqv {op : BinOp} {t u : TypeId} {x y : Operand} (ho : o.op = .binOp op t x y u) {xs ys : List SV} (hx : S.get x = .agg xs) (hy : S.get y = .agg ys)
    {b : Bool} (he : eqV Γ.P 10000 t (.agg xs) (.agg ys) = some b) (hg : Γ.P.eqGuardType Γ.P.depth t = false) (b' : Bool) (hb : (op = .eql ∧ b = b') ∨ (op = .neq ∧ (!b) = b')) : Val Γ Φ S o (.v (.bool b')) := fun β a w h => by
  refine ⟨_, ?_, .inr rfl⟩
  have hfx : Fits β (.agg xs) (a.eval x) := hx ▸ h.eval x
  have hfy : Fits β (.agg ys) (a.eval y) := hy ▸ h.eval y
  have hrun := eqV_sound (w := w) _ _ _ _ _ he _ _ hfx hfy
  obtain ⟨us, hus, _⟩ := agg_fits hfx
  obtain ⟨vs, hvs, _⟩ := agg_fits hfy
  unfold execOp; rw [ho]
  rw [hus, hvs] at hrun
  simp only [hus, hvs, Sem.run_bind, run_eqGuard_agg w op t x y _ _ hg, Result.andThen_ok]
  rcases hb with ⟨rfl, rfl⟩ | ⟨rfl, rfl⟩ <;> (unfold binOp; simp only [Sem.run_bind, run_equal_of hrun, Result.andThen_ok, Sem.run_pure, den])

/-- Any operation that only tells a value, in a plain region. -/
theorem At.vals (hw : wantS ops S o = some true) (x : SV) (hS : putB S o.dst x = some S') (hv : Val Γ Φ S o x) (k : At Γ Φ S' (wpList Γ.P ops Q rest)) : At Γ Φ S (wpList Γ.P ops Q (o :: rest)) :=
  At.val hw x hS hv k
end
end Go.Sx
