/- SyB: data that stays: what values say. General: no program. -/
import Derived.Test.YtgkjblbmiooedaaSyA
import Derived.Test.YtgkjblbmiooedaaSxL
namespace Go.Sx
open Go.RowKit

inductive D where
  | v (x : Value)
  | agg (l : List D)
  | row (sz n : Nat) (xs : List D)
  | box (x : D)
  | fn (f : FuncId) (first caps : List D)
  | ifc (t : TypeId) (x : D)
  | frow (Φz : Phi) (e : TypeId) (sz n : Nat) (xs : List D)

mutual
/-- These cells say x. -/
def Rc (Φ : Phi) : D → List Value → Prop
  | .v x, vs => vs = [x]
  | .agg l, vs => Ra Φ l vs
  | .row sz n xs, vs => n = xs.length ∧ ∃ A c ws, vs = [.slice A n c] ∧ n ≤ c ∧ RdC Φ A ws ∧ Rr Φ sz xs ws
  | .box x, vs => ∃ b off ws, vs = [.pointer (some ⟨b, off, none⟩)] ∧ RdC Φ (some ⟨b, off, none⟩) ws ∧ Rc Φ x ws
  | .fn f first caps, vs => ∃ us ws, vs = [.func (.func f) us.toArray ws.toArray] ∧ Ra Φ first us ∧ Ra Φ caps ws
  | .ifc t x, vs => ∃ u, vs = [.iface t u] ∧ Rc Φ x [u]
  | .frow Φz e sz n xs, vs => n = xs.length ∧ ∃ A c ws, vs = [.slice A n c] ∧ n ≤ c ∧ Full Φz Φ A n c ws e sz ∧ Rr Φ sz xs ws
def Ra (Φ : Phi) : List D → List Value → Prop
  | [], vs => vs = []
  | x :: l, vs => ∃ u us, vs = u :: us ∧ Rc Φ x [u] ∧ Ra Φ l us
def Rr (Φ : Phi) (sz : Nat) : List D → List Value → Prop
  | [], vs => vs = []
  | x :: l, vs => ∃ us ws, vs = us ++ ws ∧ us.length = sz ∧ Rc Φ x us ∧ Rr Φ sz l ws
end

mutual
theorem Rc.mono {Φ Φ' : Phi} {n : Nat} (h : PhiLe n Φ Φ') : ∀ (x : D) (vs : List Value), Rc Φ x vs → Rc Φ' x vs
  | .v _, _, q => by simpa only [Rc] using q
  | .agg l, vs, q => by simp only [Rc] at q ⊢; exact Ra.mono h l vs q
  | .row sz n xs, _, q => by
    simp only [Rc] at q ⊢
    obtain ⟨hn, A, c, ws, e, hc, hr, hq⟩ := q
    exact ⟨hn, A, c, ws, e, hc, hr.mono h, Rr.mono h sz xs ws hq⟩
  | .box x, _, q => by
    simp only [Rc] at q ⊢
    obtain ⟨b, off, ws, e, hr, hq⟩ := q
    exact ⟨b, off, ws, e, hr.mono h, Rc.mono h x ws hq⟩
  | .fn f first caps, _, q => by
    simp only [Rc] at q ⊢
    obtain ⟨us, ws, e, h1, h2⟩ := q
    exact ⟨us, ws, e, Ra.mono h first us h1, Ra.mono h caps ws h2⟩
  | .ifc t x, _, q => by
    simp only [Rc] at q ⊢
    obtain ⟨u, e, hq⟩ := q
    exact ⟨u, e, Rc.mono h x [u] hq⟩
  | .frow Φz e sz n xs, _, q => by
    simp only [Rc] at q ⊢
    obtain ⟨hn, A, c, ws, e, hc, hr, hq⟩ := q
    exact ⟨hn, A, c, ws, e, hc, hr.mono h, Rr.mono h sz xs ws hq⟩
theorem Ra.mono {Φ Φ' : Phi} {n : Nat} (h : PhiLe n Φ Φ') : ∀ (l : List D) (vs : List Value), Ra Φ l vs → Ra Φ' l vs
  | [], _, q => by simpa only [Ra] using q
  | x :: l, _, q => by
    simp only [Ra] at q ⊢
    obtain ⟨u, us, e, h1, h2⟩ := q
    exact ⟨u, us, e, Rc.mono h x [u] h1, Ra.mono h l us h2⟩
theorem Rr.mono {Φ Φ' : Phi} {n : Nat} (h : PhiLe n Φ Φ') (sz : Nat) : ∀ (l : List D) (vs : List Value), Rr Φ sz l vs → Rr Φ' sz l vs
  | [], _, q => by simpa only [Rr] using q
  | x :: l, _, q => by
    simp only [Rr] at q ⊢
    obtain ⟨us, ws, e, h0, h1, h2⟩ := q
    exact ⟨us, ws, e, h0, Rc.mono h x us h1, Rr.mono h sz l ws h2⟩
end

/- rows -/
theorem Rr.len {Φ : Phi} {sz : Nat} : ∀ {xs : List D} {vs : List Value}, Rr Φ sz xs vs → vs.length = xs.length * sz
  | [], _, q => by simp only [Rr] at q; subst q; simp
  | x :: l, _, q => by
    simp only [Rr] at q
    obtain ⟨us, ws, rfl, h0, h1, h2⟩ := q
    have := Rr.len h2
    simp only [List.length_append, List.length_cons, this, h0, Nat.add_mul, Nat.one_mul]
    omega
theorem Rr.append {Φ : Phi} {sz : Nat} : ∀ {xs ys : List D} {vs us : List Value}, Rr Φ sz xs vs → Rr Φ sz ys us → Rr Φ sz (xs ++ ys) (vs ++ us)
  | [], _, _, _, q, q' => by simp only [Rr] at q; subst q; exact q'
  | x :: l, ys, _, us, q, q' => by
    simp only [Rr] at q
    obtain ⟨us1, ws, rfl, h0, h1, h2⟩ := q
    simp only [List.cons_append, Rr]
    exact ⟨us1, ws ++ us, by rw [List.append_assoc], h0, h1, h2.append q'⟩
theorem Rr.split {Φ : Phi} {sz : Nat} : ∀ {xs ys : List D} {vs : List Value}, Rr Φ sz (xs ++ ys) vs → Rr Φ sz xs (vs.take (xs.length * sz)) ∧ Rr Φ sz ys (vs.drop (xs.length * sz))
  | [], _, _, q => by simpa [Rr] using q
  | x :: l, ys, vs, q => by
    simp only [List.cons_append, Rr] at q
    obtain ⟨us1, ws, rfl, h0, h1, h2⟩ := q
    obtain ⟨h3, h4⟩ := h2.split
    have e : (x :: l).length * sz = us1.length + l.length * sz := by rw [List.length_cons, Nat.add_mul, h0]; omega
    constructor
    · simp only [Rr]
      exact ⟨us1, ws.take (l.length * sz), by rw [e, List.take_length_add_append], h0, h1, h3⟩
    · rw [e, List.drop_length_add_append]; exact h4
theorem Rr.take {Φ : Phi} {sz : Nat} {xs : List D} {vs : List Value} (h : Rr Φ sz xs vs) (n : Nat) (hn : n ≤ xs.length) : Rr Φ sz (xs.take n) (vs.take (n * sz)) := by
  have h' : Rr Φ sz (xs.take n ++ xs.drop n) vs := by rw [List.take_append_drop]; exact h
  have := h'.split.1
  rwa [List.length_take, Nat.min_eq_left hn] at this
theorem Rr.drop {Φ : Phi} {sz : Nat} {xs : List D} {vs : List Value} (h : Rr Φ sz xs vs) (n : Nat) (hn : n ≤ xs.length) : Rr Φ sz (xs.drop n) (vs.drop (n * sz)) := by
  have h' : Rr Φ sz (xs.take n ++ xs.drop n) vs := by rw [List.take_append_drop]; exact h
  have := h'.split.2
  rwa [List.length_take, Nat.min_eq_left hn] at this
theorem Rr.get {Φ : Phi} {sz : Nat} {xs : List D} {vs : List Value} (h : Rr Φ sz xs vs) {i : Nat} {x : D} (hi : xs[i]? = some x) : ∃ us, us.length = sz ∧ Rc Φ x us ∧ ∀ (j : Nat) (u : Value), us[j]? = some u → vs[i * sz + j]? = some u := by
  have hlt := lt_get hi
  have h2 := h.drop i (by omega)
  rw [List.drop_eq_getElem_cons hlt] at h2
  have hx : xs[i] = x := by rw [List.getElem?_eq_getElem hlt] at hi; exact Option.some.inj hi
  rw [hx] at h2
  simp only [Rr] at h2
  obtain ⟨us, ws, e, h0, h1, _⟩ := h2
  refine ⟨us, h0, h1, fun j u hj => ?_⟩
  rw [← List.getElem?_drop, e, List.getElem?_append_left (lt_get hj)]
  exact hj
theorem Rr.set {Φ : Phi} {sz : Nat} {xs : List D} {vs : List Value} (h : Rr Φ sz xs vs) {i : Nat} (hi : i < xs.length) {y : D} {us : List Value} (hy : Rc Φ y us) (hu : us.length = sz) : Rr Φ sz (xs.set i y) (vs.take (i * sz) ++ us ++ vs.drop (i * sz + us.length)) := by
  have h1 := h.take i (by omega)
  have h2 := h.drop (i + 1) (by omega)
  have e : xs.set i y = xs.take i ++ ([y] ++ xs.drop (i + 1)) := by rw [List.set_eq_take_append_cons_drop, if_pos hi]; simp
  have e2 : i * sz + us.length = (i + 1) * sz := by rw [Nat.add_mul, hu]; omega
  rw [e, e2, List.append_assoc]
  exact h1.append (Rr.append (by simp only [Rr]; exact ⟨us, [], by simp, hu, hy, rfl⟩) h2)
theorem Rr.nil {Φ : Phi} {sz : Nat} : Rr Φ sz [] [] := by simp [Rr]
theorem Rc.nil {Φ : Phi} {sz : Nat} : Rc Φ (.row sz 0 []) [.slice none 0 0] := by
  simp only [Rc]
  exact ⟨rfl, none, 0, [], rfl, Nat.le_refl _, RdC.nil, Rr.nil⟩

/-- What is known of values. -/
inductive En where
  | d (x : D) (v : Value)
  | r (sz : Nat) (xs : List D) (vs : List Value)
  | al (A : Option Addr) (vs : List Value) (sz n : Nat) (xs : List D) (B : Option Addr) (c : Nat)
  | ap (B : Option Addr) (off : Nat) (v : Value)
  | le (Φz : Phi)
def En.ok (Φ : Phi) : En → Prop
  | .d x v => Rc Φ x [v]
  | .r sz xs vs => Rr Φ sz xs vs
  | .al A vs sz n xs B c => ∀ Φ', PhiLe 0 Φ Φ' → RdC Φ' A vs → Rc Φ' (.row sz n xs) [.slice B n c]
  | .ap B off v => ∃ g, B = some ⟨g, 0, none⟩ ∧ v = .pointer (some ⟨g, off, none⟩)
  | .le Φz => PhiLe 0 Φz Φ
theorem En.ok.mono {Φ Φ' : Phi} {n : Nat} (h : PhiLe n Φ Φ') : ∀ {e : En}, e.ok Φ → e.ok Φ'
  | .d x v, q => Rc.mono h x [v] q
  | .r sz xs vs, q => Rr.mono h sz xs vs q
  | .al _ _ _ _ _ _ _, q => fun Φ'' h2 => q Φ'' (PhiLe.trans ⟨h.1, fun _ h => absurd h (Nat.not_lt_zero _)⟩ h2)
  | .ap _ _ _, q => q
  | .le _, q => PhiLe.trans q ⟨h.1, fun _ h => absurd h (Nat.not_lt_zero _)⟩

def Reps (Φ : Phi) : List En → Prop
  | [] => True
  | e :: l => e.ok Φ ∧ Reps Φ l
theorem Reps.mono {Φ Φ' : Phi} {n : Nat} (h : PhiLe n Φ Φ') : ∀ {l : List En}, Reps Φ l → Reps Φ' l
  | [], _ => trivial
  | _ :: _, q => ⟨q.1.mono h, Reps.mono h q.2⟩
theorem Reps.get {Φ : Phi} : ∀ {l : List En} (p : Nat) {e : En}, Reps Φ l → l[p]? = some e → e.ok Φ
  | [], p, e, _, h => by simp at h
  | x :: l, 0, e, q, h => by simp at h; subst h; exact q.1
  | x :: l, p + 1, e, q, h => Reps.get p q.2 (by simpa using h)
theorem Reps.at {Φ : Phi} {l : List En} {e : En} (H : Reps Φ l) (p : Nat) (h : l[p]? = some e := by rfl) : e.ok Φ := H.get p h
theorem Reps.cons {Φ : Phi} {l : List En} {e : En} (H : Reps Φ l) (h : e.ok Φ) : Reps Φ (e :: l) := ⟨h, H⟩
theorem Reps.app {Φ : Phi} : ∀ {l l' : List En}, Reps Φ l → Reps Φ l' → Reps Φ (l ++ l')
  | [], _, _, h' => h'
  | _ :: _, _, h, h' => ⟨h.1, h.2.app h'⟩
/-- Some of them. -/
theorem Reps.sub {Φ : Phi} {l : List En} (H : Reps Φ l) : ∀ (ps : List Nat) {l' : List En}, ps.map (l[·]?) = l'.map some → Reps Φ l'
  | [], [], _ => trivial
  | [], _ :: _, h => by cases h
  | _ :: _, [], h => by cases h
  | p :: ps, e :: l', h => by
    simp only [List.map_cons, List.cons.injEq] at h
    exact ⟨H.get p h.1, H.sub ps h.2⟩

/- cells that are opened: what is no number gets names of its own -/
inductive Vr where
  | u (v : Value)
  | s (A : Option Addr) (c : Nat)
def cellSV : List D → List Vr → List SV
  | [], _ => []
  | .v x :: l, us => .v x :: cellSV l us
  | .row _ n _ :: l, .s A c :: us => .v (.slice A n c) :: cellSV l us
  | .frow _ _ _ n _ :: l, .s A c :: us => .v (.slice A n c) :: cellSV l us
  | _ :: l, .u u :: us => .v u :: cellSV l us
  | _ :: l, us => .u :: cellSV l us
def cellEn : List D → List Vr → List En
  | [], _ => []
  | .v _ :: l, us => cellEn l us
  | .row sz n xs :: l, .s A c :: us => .d (.row sz n xs) (.slice A n c) :: cellEn l us
  | .frow Φz e sz n xs :: l, .s A c :: us => .d (.frow Φz e sz n xs) (.slice A n c) :: cellEn l us
  | x :: l, .u u :: us => .d x u :: cellEn l us
  | _ :: l, us => cellEn l us
/-- Which names are wanted: true: a slice's. -/
def vrs : List D → List Bool
  | [] => []
  | .v _ :: l => vrs l
  | .row _ _ _ :: l => true :: vrs l
  | .frow _ _ _ _ _ :: l => true :: vrs l
  | _ :: l => false :: vrs l
def Vr.isS : Vr → Bool
  | .u _ => false
  | .s _ _ => true

theorem Ra.open {Φ : Phi} : ∀ {l : List D} {vs : List Value}, Ra Φ l vs → ∃ us : List Vr, us.map Vr.isS = vrs l ∧ vs.map SV.v = cellSV l us ∧ Reps Φ (cellEn l us)
  | [], _, q => by simp only [Ra] at q; subst q; exact ⟨[], rfl, rfl, trivial⟩
  | x :: l, _, q => by
    simp only [Ra] at q
    obtain ⟨u, us, rfl, h1, h2⟩ := q
    obtain ⟨ws, h3, h4, h5⟩ := h2.open
    cases x with
    | v x =>
      simp only [Rc, List.cons.injEq, and_true] at h1
      subst h1
      exact ⟨ws, h3, by simp only [List.map_cons, cellSV, h4], h5⟩
    | row sz n xs =>
      have h1' := h1
      simp only [Rc] at h1
      obtain ⟨hn, A, c, us', e, _⟩ := h1
      simp only [List.cons.injEq, and_true] at e
      subst e
      exact ⟨.s A c :: ws, by simp only [List.map_cons, h3, vrs, Vr.isS], by simp only [List.map_cons, cellSV, h4], ⟨h1', h5⟩⟩
    | frow Φz e sz n xs =>
      have h1' := h1
      simp only [Rc] at h1
      obtain ⟨hn, A, c, us', e, _⟩ := h1
      simp only [List.cons.injEq, and_true] at e
      subst e
      exact ⟨.s A c :: ws, by simp only [List.map_cons, h3, vrs, Vr.isS], by simp only [List.map_cons, cellSV, h4], ⟨h1', h5⟩⟩
    | _ => exact ⟨.u u :: ws, by simp only [List.map_cons, h3, vrs, Vr.isS], by simp only [List.map_cons, cellSV, h4], ⟨h1, h5⟩⟩

def D.cells : D → List D
  | .agg l => l
  | x => [x]
theorem Rc.cells {Φ : Phi} {x : D} {vs : List Value} (h : Rc Φ x vs) : Ra Φ x.cells vs := by
  have one : ∀ {x : D}, (∃ u, vs = [u]) → Rc Φ x vs → Ra Φ [x] vs := fun {x} ⟨u, e⟩ h => by
    subst e; simp only [Ra]; exact ⟨u, [], rfl, h, rfl⟩
  cases x with
  | agg l => simp only [Rc] at h; exact h
  | v x => exact one (by simp only [Rc] at h; exact ⟨_, h⟩) h
  | row sz n xs => exact one (by simp only [Rc] at h; obtain ⟨_, A, c, ws, e, _⟩ := h; exact ⟨_, e⟩) h
  | box x => exact one (by simp only [Rc] at h; obtain ⟨b, off, ws, e, _⟩ := h; exact ⟨_, e⟩) h
  | fn f a b => exact one (by simp only [Rc] at h; obtain ⟨us, ws, e, _⟩ := h; exact ⟨_, e⟩) h
  | ifc t x => exact one (by simp only [Rc] at h; obtain ⟨u, e, _⟩ := h; exact ⟨_, e⟩) h
  | frow Φz ty sz n xs => exact one (by simp only [Rc] at h; obtain ⟨_, A, c, ws, e, _⟩ := h; exact ⟨_, e⟩) h
theorem Ra.len {Φ : Phi} : ∀ {l : List D} {vs : List Value}, Ra Φ l vs → vs.length = l.length
  | [], _, q => by simp only [Ra] at q; subst q; rfl
  | x :: l, _, q => by
    simp only [Ra] at q
    obtain ⟨u, us, rfl, _, h2⟩ := q
    simp only [List.length_cons, h2.len]
theorem Ra.take {Φ : Phi} : ∀ {l : List D} {vs : List Value} (n : Nat), Ra Φ l vs → Ra Φ (l.take n) (vs.take n)
  | _, _, 0, _ => by simp [Ra]
  | [], _, n + 1, q => by simp only [Ra] at q; subst q; simp [Ra]
  | x :: l, _, n + 1, q => by
    simp only [Ra] at q
    obtain ⟨u, us, rfl, h1, h2⟩ := q
    simp only [List.take_succ_cons, Ra]
    exact ⟨u, us.take n, rfl, h1, h2.take n⟩
theorem Ra.drop {Φ : Phi} : ∀ {l : List D} {vs : List Value} (n : Nat), Ra Φ l vs → Ra Φ (l.drop n) (vs.drop n)
  | _, _, 0, q => q
  | [], _, n + 1, q => by simp only [Ra] at q; subst q; simp [Ra]
  | x :: l, _, n + 1, q => by
    simp only [Ra] at q
    obtain ⟨u, us, rfl, h1, h2⟩ := q
    exact h2.drop n
/- rows of the call's own make -/
theorem Rc.weak {Φ Φz : Phi} {e : TypeId} {sz n : Nat} {xs : List D} {vs : List Value} (h : Rc Φ (.frow Φz e sz n xs) vs) : Rc Φ (.row sz n xs) vs := by
  simp only [Rc] at h ⊢
  obtain ⟨hn, A, c, ws, e, hc, hf, hr⟩ := h
  exact ⟨hn, A, c, ws, e, hc, hf.rd, hr⟩
theorem Rc.anti {Φ Φz Φ1 : Phi} {e : TypeId} {sz n k : Nat} {xs : List D} {vs : List Value} (hle : PhiLe k Φz Φ1) (h : Rc Φ (.frow Φ1 e sz n xs) vs) : Rc Φ (.frow Φz e sz n xs) vs := by
  simp only [Rc] at h ⊢
  obtain ⟨hn, A, c, ws, e, hc, hf, hr⟩ := h
  exact ⟨hn, A, c, ws, e, hc, hf.anti hle, hr⟩
theorem Rr.imp {Φ : Phi} {sz : Nat} {α : Type} {enc enc' : α → D} (h : ∀ x vs, Rc Φ (enc x) vs → Rc Φ (enc' x) vs) : ∀ {l : List α} {vs : List Value}, Rr Φ sz (l.map enc) vs → Rr Φ sz (l.map enc') vs
  | [], _, q => by simpa only [List.map_nil, Rr] using q
  | x :: l, _, q => by
    simp only [List.map_cons, Rr] at q ⊢
    obtain ⟨us, ws, e, h0, h1, h2⟩ := q
    exact ⟨us, ws, e, h0, h x us h1, Rr.imp h h2⟩
theorem Reps.weakF {Φ Φz : Phi} {e : TypeId} {sz n : Nat} {xs : List D} {v : Value} {L : List En} (H : Reps Φ (.d (.frow Φz e sz n xs) v :: L)) : Reps Φ (.d (.row sz n xs) v :: L) := ⟨Rc.weak H.1, H.2⟩
theorem Reps.antiF {Φ Φz Φ1 : Phi} {e : TypeId} {sz n k : Nat} {xs : List D} {v : Value} {L : List En} (hle : PhiLe k Φz Φ1) (H : Reps Φ (.d (.frow Φ1 e sz n xs) v :: L)) : Reps Φ (.d (.frow Φz e sz n xs) v :: L) := ⟨Rc.anti hle H.1, H.2⟩
/-- A row of the call's own make, as a row. -/
theorem Reps.addW {Φ Φz : Phi} {e : TypeId} {sz n : Nat} {xs : List D} {v : Value} {L : List En} (H : Reps Φ L) (p : Nat) (h : L[p]? = some (.d (.frow Φz e sz n xs) v) := by rfl) : Reps Φ (.d (.row sz n xs) v :: L) := H.cons (Rc.weak (H.get p h))
/-- A row of such rows, as a row of rows. -/
theorem Reps.addWr {Φ : Phi} {n sz' : Nat} {α : Type} {enc enc' : α → D} (hw : ∀ Φ x vs, Rc Φ (enc x) vs → Rc Φ (enc' x) vs) {xs : List α} {v : Value} {L : List En} (H : Reps Φ L) (p : Nat) (h : L[p]? = some (.d (.row sz' n (xs.map enc)) v) := by rfl) : Reps Φ (.d (.row sz' n (xs.map enc')) v :: L) := H.cons (by
  have h1 : Rc Φ (.row sz' n (xs.map enc)) [v] := H.get p h
  show Rc Φ _ [v]
  simp only [Rc] at h1 ⊢
  obtain ⟨hn, A, c, ws, e, hc, hR, hr⟩ := h1
  exact ⟨by rw [List.length_map] at hn ⊢; exact hn, A, c, ws, e, hc, hR, Rr.imp (fun x vs q => hw Φ x vs q) hr⟩)
theorem Reps.addWa {Φ : Phi} {n sz' : Nat} {α : Type} {enc enc' : α → D} (hw : ∀ Φ x vs, Rc Φ (enc x) vs → Rc Φ (enc' x) vs) {xs : List α} {A B : Option Addr} {c : Nat} {vs : List Value} {L : List En} (H : Reps Φ L) (p : Nat) (h : L[p]? = some (.al A vs sz' n (xs.map enc) B c) := by rfl) : Reps Φ (.al A vs sz' n (xs.map enc') B c :: L) := H.cons (by
  have h1 : En.ok Φ (.al A vs sz' n (xs.map enc) B c) := H.get p h
  intro Φ' hle hR
  have h2 := h1 Φ' hle hR
  simp only [Rc] at h2 ⊢
  obtain ⟨hn, A, c, ws, e, hc, hR, hr⟩ := h2
  exact ⟨by rw [List.length_map] at hn ⊢; exact hn, A, c, ws, e, hc, hR, Rr.imp (fun x vs q => hw Φ' x vs q) hr⟩)
theorem Reps.le0 {Φ : Phi} {L : List En} (H : Reps Φ L) : Reps Φ (.le Φ :: L) := H.cons (PhiLe.refl 0 Φ)
theorem Rc.nilF {Φ Φz : Phi} {e : TypeId} {sz : Nat} : Rc Φ (.frow Φz e sz 0 []) [.slice none 0 0] := by
  simp only [Rc]
  exact ⟨rfl, none, 0, [], rfl, Nat.le_refl _, ⟨by simp, .inl ⟨rfl, rfl⟩⟩, Rr.nil⟩
end Go.Sx
