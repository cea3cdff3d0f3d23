/- SyF: rows: of the call's own, and parts of those that stay. General: no program. -/
import Derived.Test.YtgkjblbmiooedaaSyE
namespace Go.Sx
open Go.RowKit

def apd {α A : Type} (l : List α) (F : List α → Option A) : Option A := if l.length ≤ 4000000 then F l else none
def stl {α A : Type} (xs : List α) (i : Int) (y : α) (F : List α → Option A) : Option A := F (xs.set i.toNat y)

def addH (m : MS) (b : Blk) : MS := ⟨m.k, ⟨m.s.fr, m.s.hp ++ [b]⟩⟩
def apM (m : MS) (i : Nat) (V : Value) (n : Nat) (vs : List Value) (t sz : Nat) : MS := ⟨popM m, ⟨(m.s.put (dstM m) (.v V)).fr, m.s.hp.set i (.o V n vs t sz)⟩⟩

theorem fSub_set {S : SS} {f : List SV} {i : Nat} {b : Blk} (hb : fOnly b = none) : fSub ⟨f, S.hp.set i b⟩ S := by
  intro j g cs t hj
  simp only [List.getElem?_set] at hj
  split at hj
  · split at hj
    · cases hj; cases hb
    · cases hj
  · exact hj
theorem bd_set {S : SS} (h : S.bd = true) (d : Option Tmp) {x : SV} (hx : x.bd S.hp.length = true) (i : Nat) {b : Blk} (hb : b.bd S.hp.length = true) : ({ fr := (S.put d x).fr, hp := S.hp.set i b } : SS).bd = true := by
  have h1 := put_bd h d hx
  unfold SS.bd at h1 ⊢
  rw [put_hp] at h1
  rw [Bool.and_eq_true] at h1 ⊢
  simp only [List.length_set]
  refine ⟨h1.1, ?_⟩
  rw [List.all_eq_true]
  intro y hy
  rcases List.mem_or_eq_of_mem_set hy with hy | rfl
  · exact List.all_eq_true.1 h1.2 y hy
  · exact hb

section
variable {A R : Type} {Γ : Ctx} {Q : R → QT} {Φ : Phi} {m : MS} {o : Option A} {K : A → Option R} {L : List En}

/-- A nil slice is an empty row of the call's own. -/
theorem W.nl (q : Nat) (t sz : Nat) (k : W Γ Q Φ (addH (GM Γ Φ q m) (.o (.slice none 0 0) 0 [] t sz)) o K) : W Γ Q Φ m o K := ⟨fun r hr =>
  AtM.go q fun env hd β a w h => by
    have hb := h.bd
    refine At.nilrow t sz _ rfl ?_ (k r hr env (drwOk.sub (fun i g cs ty hi => ?_) hd)) β a w h
    · unfold SS.bd at hb ⊢
      rw [Bool.and_eq_true] at hb ⊢
      simp only [List.length_append, List.all_append, Bool.and_eq_true]
      refine ⟨?_, ?_, rfl⟩
      · rw [List.all_eq_true]; intro x hx; exact bd_le (Nat.le_add_right _ _) (List.all_eq_true.1 hb.1 x hx)
      · rw [List.all_eq_true]; intro x hx; exact blk_le (Nat.le_add_right _ _) (List.all_eq_true.1 hb.2 x hx)
    · rcases get_append hi with ⟨_, hi⟩ | ⟨_, he⟩
      · exact hi
      · cases he⟩
/- what a literal row says -/
def valsD (L : List En) : List Nat → List D → List Value
  | ps, .v x :: l => x :: valsD L ps l
  | p :: ps, _ :: l => (match L[p]? with | some (.d _ v) => v | _ => undef) :: valsD L ps l
  | _, _ => []
def okD (L : List En) : List Nat → List D → Prop
  | ps, .v _ :: l => okD L ps l
  | p :: ps, x :: l => (∃ v, L[p]? = some (.d x v)) ∧ okD L ps l
  | [], [] => True
  | _, _ => False
theorem okD_spec {L : List En} (H : Reps Φ L) : ∀ {ps : List Nat} {l : List D}, okD L ps l → Ra Φ l (valsD L ps l)
  | [], [], _ => by simp [valsD, Ra]
  | _ :: _, [], h => by simp [okD] at h
  | ps, .v x :: l, h => by
    have h' : okD L ps l := by cases ps <;> exact h
    have e : valsD L ps (.v x :: l) = x :: valsD L ps l := by cases ps <;> rfl
    rw [e]; simp only [Ra]
    exact ⟨x, _, rfl, by simp [Rc], okD_spec H h'⟩
  | [], .agg _ :: _, h | [], .row _ _ _ :: _, h | [], .box _ :: _, h | [], .fn _ _ _ :: _, h | [], .ifc _ _ :: _, h | [], .frow _ _ _ _ _ :: _, h => by simp [okD] at h
  | p :: ps, .agg y :: l, ⟨⟨v, hv⟩, h2⟩ => by
    simp only [valsD, hv, Ra]; exact ⟨v, _, rfl, H.get p hv, okD_spec H h2⟩
  | p :: ps, .row a b c :: l, ⟨⟨v, hv⟩, h2⟩ => by
    simp only [valsD, hv, Ra]; exact ⟨v, _, rfl, H.get p hv, okD_spec H h2⟩
  | p :: ps, .box y :: l, ⟨⟨v, hv⟩, h2⟩ => by
    simp only [valsD, hv, Ra]; exact ⟨v, _, rfl, H.get p hv, okD_spec H h2⟩
  | p :: ps, .fn a b c :: l, ⟨⟨v, hv⟩, h2⟩ => by
    simp only [valsD, hv, Ra]; exact ⟨v, _, rfl, H.get p hv, okD_spec H h2⟩
  | p :: ps, .ifc a b :: l, ⟨⟨v, hv⟩, h2⟩ => by
    simp only [valsD, hv, Ra]; exact ⟨v, _, rfl, H.get p hv, okD_spec H h2⟩
  | p :: ps, .frow a b c n e :: l, ⟨⟨v, hv⟩, h2⟩ => by
    simp only [valsD, hv, Ra]; exact ⟨v, _, rfl, H.get p hv, okD_spec H h2⟩
theorem Ra.cells {Φ : Phi} {x : D} {vs : List Value} (h : Ra Φ x.cells vs) : Rc Φ x vs := by
  have one : ∀ y : D, Ra Φ [y] vs → Rc Φ y vs := fun y h => by
    simp only [Ra] at h
    obtain ⟨u, us, rfl, h1, rfl⟩ := h
    exact h1
  cases x with
  | agg l => simp only [Rc]; exact h
  | _ => exact one _ h
def valsE (L : List En) : List (List Nat) → List D → List Value
  | ps :: pss, y :: ys => valsD L ps y.cells ++ valsE L pss ys
  | _, _ => []
def okE (L : List En) (sz : Nat) : List (List Nat) → List D → Prop
  | ps :: pss, y :: ys => (okD L ps y.cells ∧ y.cells.length = sz) ∧ okE L sz pss ys
  | [], [] => True
  | _, _ => False
theorem okE_spec {L : List En} {sz : Nat} (H : Reps Φ L) : ∀ {pss : List (List Nat)} {ys : List D}, okE L sz pss ys → Rr Φ sz ys (valsE L pss ys)
  | [], [], _ => by simp [valsE, Rr]
  | _ :: _, [], h => by simp [okE] at h
  | [], _ :: _, h => by simp [okE] at h
  | ps :: pss, y :: ys, ⟨⟨h1, h2⟩, h3⟩ => by
    have h4 := okD_spec H h1
    simp only [valsE, Rr]
    exact ⟨_, _, rfl, by rw [h4.len, h2], h4.cells, okE_spec H h3⟩

def rowM (m : MS) (j g n : Nat) (vs : List Value) (t sz : Nat) : MS := ⟨m.k, toRow m.s j g n vs t sz⟩
theorem fSub_toRow {S : SS} {i g n t sz : Nat} {xs : List Value} : fSub (toRow S i g n xs t sz) S := by
  intro j g' cs t' hj
  simp only [toRow, List.getElem?_set] at hj
  split at hj
  · split at hj <;> cases hj
  · rw [List.getElem?_map] at hj
    cases hb : S.hp[j]? with
    | none => rw [hb] at hj; cases hj
    | some b => rw [hb] at hj; cases b <;> simp [Blk.nm] at hj; obtain ⟨rfl, rfl, rfl⟩ := hj; rfl
/-- Known cells are a row. -/
theorem W.row (q : Nat) (j : Nat) {α : Type} (enc : α → D) (xs : List α) (pss : List (List Nat)) (sz : Nat) (H : Reps Φ L)
    (k : ∀ g, Reps Φ (.r sz (xs.map enc) (valsE L pss (xs.map enc)) :: L) → W Γ Q Φ (rowM (GM Γ Φ q m) j g xs.length (valsE L pss (xs.map enc)) (tyB j (GM Γ Φ q m)) sz) o K)
    (ho : okE L sz pss (xs.map enc) := by repeat' (first | exact trivial | exact ⟨_, rfl⟩ | exact rfl | refine ⟨?_, ?_⟩))
    (hi : (GM Γ Φ q m).s.hp[j]? = some (.c ((valsE L pss (xs.map enc)).map .v) (tyB j (GM Γ Φ q m))) := by kernel_rfl) (hn : Nat.ble xs.length 4000000 = true := by kernel_rfl)
    (hb : ∀ g, (toRow (GM Γ Φ q m).s j g xs.length (valsE L pss (xs.map enc)) (tyB j (GM Γ Φ q m)) sz).bd = true := by (intro g; kernel_rfl)) : W Γ Q Φ m o K := ⟨fun r hr =>
  AtM.go q fun env hd => by
    have hR := okE_spec H ho
    have hlen := hR.len
    rw [List.length_map] at hlen
    refine At.toRow j xs.length _ sz hi rfl hlen (by unfold maxLen; have := Nat.le_of_ble_eq_true hn; omega) fun g => ⟨_, rfl, hb g, ?_⟩
    exact k g (H.cons hR) r hr env (drwOk.sub fSub_toRow hd)⟩
/-- A row of the call's own stays as it is from here on. -/
theorem W.fr (q : Nat) (i p : Nat) {B : Option Addr} {n c t sz : Nat} {xs : List D} {vs : List Value} (H : Reps Φ L)
    (k : ∀ Φ', Reps Φ' (.d (.row sz n xs) (.slice B n c) :: L) → W Γ Q Φ' (setH (GM Γ Φ q m) i .dead) o K)
    (hl : L[p]? = some (.r sz xs vs) := by rfl) (hlen : n = xs.length := by simp) (hi : (GM Γ Φ q m).s.hp[i]? = some (.o (.slice B n c) n vs t sz) := by kernel_rfl) (hd : noDrw (GM Γ Φ q m).k = true := by kernel_rfl) : W Γ Q Φ m o K := ⟨fun r hr =>
  AtM.go q fun env _ β a w h => by
    obtain ⟨B', c', hv, hc, _, _⟩ := own_form (h.own.o i _ _ _ _ _ hi)
    injection hv with hv1 hv2 hv3
    subst hv1 hv3
    have hb := bd_set h.bd none (x := .u) rfl i (b := .dead) rfl
    refine At.freeze i hi (S' := ⟨(GM Γ Φ q m).s.fr, (GM Γ Φ q m).s.hp.set i .dead⟩) (by unfold putH; simp only [hb, if_true]; rfl) (fun Φ' hle hR => ?_) β a w h
    refine k Φ' ((H.mono hle).cons (?_ : Rc Φ' (.row sz n xs) [.slice B n c])) r hr env (drwOk.none hd)
    simp only [Rc]
    exact ⟨hlen, B, c, vs, rfl, hc, hR, ((H.mono hle).get p hl : En.ok Φ' (.r sz xs vs))⟩⟩
/-- A row of the call's own stays as it is from here on, and was not there in Φz. -/
theorem W.frF (q : Nat) (i p pz : Nat) {Φz : Phi} {B : Option Addr} {n c t sz : Nat} {xs : List D} {vs : List Value} (H : Reps Φ L)
    (k : ∀ Φ', Reps Φ' (.d (.frow Φz t sz n xs) (.slice B n c) :: L) → W Γ Q Φ' (setH (GM Γ Φ q m) i .dead) o K)
    (hl : L[p]? = some (.r sz xs vs) := by rfl) (hz : L[pz]? = some (.le Φz) := by rfl) (hlen : n = xs.length := by simp) (hi : (GM Γ Φ q m).s.hp[i]? = some (.o (.slice B n c) n vs t sz) := by kernel_rfl) (hd : noDrw (GM Γ Φ q m).k = true := by kernel_rfl) : W Γ Q Φ m o K := ⟨fun r hr =>
  AtM.go q fun env _ β a w h => by
    obtain ⟨B', c', hv, hc, _, _⟩ := own_form (h.own.o i _ _ _ _ _ hi)
    injection hv with hv1 hv2 hv3
    subst hv1 hv3
    have hb := bd_set h.bd none (x := .u) rfl i (b := .dead) rfl
    refine At.freezeF i hi (S' := ⟨(GM Γ Φ q m).s.fr, (GM Γ Φ q m).s.hp.set i .dead⟩) (by unfold putH; simp only [hb, if_true]; rfl) (fun Φ' hle _ hF => ?_) β a w h
    refine k Φ' ((H.mono hle).cons (?_ : Rc Φ' (.frow Φz t sz n xs) [.slice B n c])) r hr env (drwOk.none hd)
    simp only [Rc]
    exact ⟨hlen, B, c, vs, rfl, hc, hF.anti (H.get pz hz : En.ok Φ (.le Φz)), ((H.mono hle).get p hl : En.ok Φ' (.r sz xs vs))⟩⟩
/- append -/
def apOp (P : Program) (m : MS) : Option (Value × Value × TypeId × Nat) :=
  match opM m with
  | some o => match o.op with
    | .call { callee := .builtin .append, args, argTypes } => match args.toList, argTypes.toList with
      | [s, x], [t, t'] => match P.underlying t, m.s.get s, m.s.get x with
        | some (.slice e), .v V, .v X => match P.info? e with
          | some inf => match inf.zero with
            | some z => if t = t' ∧ z.cells.size = inf.size ∧ 0 < inf.size ∧ inf.bytes ≤ 10000 then some (V, X, e, inf.size) else none
            | none => none
          | none => none
        | _, _, _ => none
      | _, _ => none
    | _ => none
  | none => none

theorem AtM.append {Q : QT} {V X : Value} {e sz : Nat} (h : apOp Γ.P m = some (V, X, e, sz)) (i : Nat) {n mm : Nat} {vs news : List Value} (hi : m.s.hp[i]? = some (.o V n vs e sz))
    (hsrc : ∀ x, m.s.get x = .v X → Src Γ Φ m.s x mm news) (hlen : news.length = mm * sz) (hone : ∀ u ∈ news, u.oneCell' = true) (hN : n + mm ≤ 4000000)
    (k : ∀ B c, AtM Γ Q Φ (apM m i (.slice B (n + mm) c) (n + mm) (vs ++ news) e sz)) : AtM Γ Q Φ m := by
  unfold apOp at h
  repeat' split at h
  all_goals first | cases h; done | skip
  rename_i o ho _ args aty hop _ _ s x t t' ha hat _ _ _ e' V' X' hu hs hx _ inf hinf _ z hz hc
  cases h
  obtain ⟨rfl, hz1, hz2, hby⟩ := hc
  obtain ⟨all, l, k', hk, hw, hp, hd⟩ := opM_spec ho
  obtain ⟨fs, S⟩ := m
  simp only at hk hw hi hsrc hs hx; subst hk
  have ha' : args = #[s, x] := by apply Array.ext'; simpa using ha
  have hat' : aty = #[t, t] := by apply Array.ext'; simpa using hat
  subst ha' hat'
  intro env hdr β a w hst
  refine At.append hop hw hu hinf hz rfl hz1 hz2 i hs hi mm news (hsrc x hx) hlen hone (by unfold maxLen; omega) (Nat.le_trans (Nat.mul_le_mul hN hby) (by decide)) (fun B c _ _ _ => ?_) β a w hst
  have hb := bd_set hst.bd o.dst (x := .v (.slice B (n + mm) c)) rfl i (b := .o (.slice B (n + mm) c) (n + mm) (vs ++ news) e inf.size) rfl
  refine ⟨{ fr := (S.put o.dst (.v (.slice B (n + mm) c))).fr, hp := S.hp.set i (.o (.slice B (n + mm) c) (n + mm) (vs ++ news) e inf.size) }, by unfold putH; simp only [hb, if_true], ?_⟩
  have h1 := k B c env (by unfold apM; rw [hp]; exact drwOk.sub (k := .ops all l :: k') (fSub_set rfl) hdr)
  unfold apM at h1
  rw [hp, hd] at h1
  exact h1

def D.one : D → Bool
  | .v x => x.oneCell'
  | .agg _ => false
  | _ => true
theorem Ra.one {Φ : Phi} : ∀ {l : List D} {vs : List Value}, l.all D.one = true → Ra Φ l vs → ∀ u ∈ vs, u.oneCell' = true
  | [], vs, _, h => by simp only [Ra] at h; subst h; intro u hu; cases hu
  | x :: l, vs, ho, h => by
    simp only [Ra] at h
    obtain ⟨u, us, rfl, h1, h2⟩ := h
    rw [List.all_cons, Bool.and_eq_true] at ho
    intro y hy
    rcases List.mem_cons.1 hy with rfl | hy
    · cases x with
      | v z => simp only [Rc, List.cons.injEq, and_true] at h1; subst h1; exact ho.1
      | agg l' => cases ho.1
      | row sz n xs => simp only [Rc] at h1; obtain ⟨_, A, c, ws, e, _⟩ := h1; cases e; rfl
      | box x => simp only [Rc] at h1; obtain ⟨b, off, ws, e, _⟩ := h1; cases e; rfl
      | fn f a b => simp only [Rc] at h1; obtain ⟨us, ws, e, _⟩ := h1; cases e; rfl
      | ifc t x => simp only [Rc] at h1; obtain ⟨u, e, _⟩ := h1; cases e; rfl
      | frow Φz ty sz n xs => simp only [Rc] at h1; obtain ⟨_, A, c, ws, e, _⟩ := h1; cases e; rfl
    · exact Ra.one ho.2 h2 y hy
theorem Rr.one {Φ : Phi} {sz : Nat} : ∀ {xs : List D} {vs : List Value}, (∀ x ∈ xs, x.cells.all D.one = true) → Rr Φ sz xs vs → ∀ u ∈ vs, u.oneCell' = true
  | [], vs, _, h => by simp only [Rr] at h; subst h; intro u hu; cases hu
  | x :: l, vs, ho, h => by
    simp only [Rr] at h
    obtain ⟨us, ws, rfl, _, h1, h2⟩ := h
    intro y hy
    rcases List.mem_append.1 hy with hy | hy
    · exact Ra.one (ho x (by simp)) h1.cells y hy
    · exact Rr.one (fun z hz => ho z (List.mem_cons_of_mem _ hz)) h2 y hy

section
variable {α : Type} {enc : α → D} {xs ys : List α} {F : List α → Option A} {V X : Value} {t sz : Nat} {vs : List Value} {B' : Option Addr} {C' : Nat}
/-- append of a row of the call's own. -/
theorem W.apO (q : Nat) (i j p p2 : Nat) {n : Nat} {us : List Value} (H : Reps Φ L)
    (k : ∀ (l : List α) B c vs', Reps Φ (.r sz (l.map enc) vs' :: L) → W Γ Q Φ (apM (GM Γ Φ q m) i (.slice B l.length c) l.length vs' t sz) (F l) K)
    (hp : L[p]? = some (.r sz (xs.map enc) vs) := by rfl) (hp2 : L[p2]? = some (.r sz (ys.map enc) us) := by rfl) (h : apOp Γ.P (GM Γ Φ q m) = some (V, .slice B' n C', t, sz) := by kernel_rfl)
    (hi : (GM Γ Φ q m).s.hp[i]? = some (.o V xs.length vs t sz) := by kernel_rfl) (hj : (GM Γ Φ q m).s.hp[j]? = some (.o (.slice B' n C') n us t sz) := by kernel_rfl) (hn : n = ys.length := by rfl) (h1 : ∀ x : α, (enc x).cells.all D.one = true := by intro x; kernel_rfl) : W Γ Q Φ m (apd (xs ++ ys) F) K := by
  refine ⟨fun r hr => ?_⟩
  unfold apd at hr
  split at hr
  · rename_i hN
    rw [List.length_append] at hN
    have r1 : Rr Φ sz (xs.map enc) vs := H.get p hp
    have r2 : Rr Φ sz (ys.map enc) us := H.get p2 hp2
    have hl2 := r2.len
    rw [List.length_map] at hl2
    refine AtM.go q (AtM.append h i hi (fun x hx => Src.row j hx hj) (by rw [hl2, hn]) (Rr.one (fun x hx => by obtain ⟨y, _, rfl⟩ := List.mem_map.1 hx; exact h1 y) r2) (by omega) fun B c => ?_)
    have := k (xs ++ ys) B c (vs ++ us) (H.cons (by show Rr Φ sz _ _; rw [List.map_append]; exact r1.append r2)) r hr
    rw [List.length_append, ← hn] at this
    exact this
  · simp at hr
/-- append of a row that stays. -/
theorem W.apD (q : Nat) (i p p2 : Nat) {n : Nat} (H : Reps Φ L)
    (k : ∀ (l : List α) B c vs', Reps Φ (.r sz (l.map enc) vs' :: L) → W Γ Q Φ (apM (GM Γ Φ q m) i (.slice B l.length c) l.length vs' t sz) (F l) K)
    (hp : L[p]? = some (.r sz (xs.map enc) vs) := by rfl) (hp2 : L[p2]? = some (.d (.row sz n (ys.map enc)) (.slice B' n C')) := by rfl) (h : apOp Γ.P (GM Γ Φ q m) = some (V, .slice B' n C', t, sz) := by kernel_rfl)
    (hi : (GM Γ Φ q m).s.hp[i]? = some (.o V xs.length vs t sz) := by kernel_rfl) (hn : n = ys.length := by rfl) (h1 : ∀ x : α, (enc x).cells.all D.one = true := by intro x; kernel_rfl) : W Γ Q Φ m (apd (xs ++ ys) F) K := by
  refine ⟨fun r hr => ?_⟩
  unfold apd at hr
  split at hr
  · rename_i hN
    rw [List.length_append] at hN
    have r1 : Rr Φ sz (xs.map enc) vs := H.get p hp
    have r2 : Rc Φ (.row sz n (ys.map enc)) [.slice B' n C'] := H.get p2 hp2
    simp only [Rc] at r2
    obtain ⟨_, A', c', us, e, _, hR, r2⟩ := r2
    simp only [List.cons.injEq, Value.slice.injEq, and_true, true_and] at e
    obtain ⟨rfl, rfl⟩ := e
    have hl2 := r2.len
    rw [List.length_map] at hl2
    refine AtM.go q (AtM.append h i hi (fun x hx => Src.phi hx hR) (by rw [hl2, hn]) (Rr.one (fun x hx => by obtain ⟨y, _, rfl⟩ := List.mem_map.1 hx; exact h1 y) r2) (by omega) fun B c => ?_)
    have := k (xs ++ ys) B c (vs ++ us) (H.cons (by show Rr Φ sz _ _; rw [List.map_append]; exact r1.append r2)) r hr
    rw [List.length_append, ← hn] at this
    exact this
  · simp at hr
end

/- parts of slices -/
def slI (S : SS) (d : Int) : Option Operand → Option Int
  | none => some d
  | some y => match S.get y with
    | .v (.int _ z) => some z
    | _ => none
theorem slI_spec {S : SS} {d z : Int} {q : Option Operand} (h : slI S d q = some z) : (q = none ∧ z = d) ∨ ∃ y kd, q = some y ∧ S.get y = .v (.int kd z) := by
  unfold slI at h
  split at h
  · cases h; exact .inl ⟨rfl, rfl⟩
  · rename_i y
    split at h
    · rename_i hy; cases h; exact .inr ⟨y, _, rfl, hy⟩
    · cases h
def slOp (P : Program) (n : Nat) (m : MS) : Option (Value × Nat × Int × Int × Int) :=
  match opM m with
  | some o => match o.op with
    | .slice t x lo hi mx => match P.underlying t, m.s.get x, slI m.s 0 lo, slI m.s n hi with
      | some (.slice e), .v V, some l, some h => match szT P e, slI m.s h mx, hi.isNone && mx.isSome with
        | some sz, some z, false => some (V, sz, l, h, z)
        | _, _, _ => none
      | _, _, _, _ => none
    | _ => none
  | none => none
def slMx (m : MS) : Bool := match opM m with | some o => (match o.op with | .slice _ _ _ _ mx => mx.isSome | _ => false) | none => false

theorem AtM.slice {Q : QT} {B : Option Addr} {n c sz : Nat} {lo hi : Int} (h : slOp Γ.P n m = some (.slice B n c, sz, lo, hi, hi)) (h0 : 0 ≤ lo) (h1 : lo ≤ hi) (h2 : hi ≤ n) (h3 : n ≤ c)
    (k : ∀ B', (lo = 0 → B' = B) → (lo.toNat < (if slMx m then hi.toNat else c) → B' = B.map fun a => a.add (lo.toNat * sz)) → AtM Γ Q Φ (putM m (.v (.slice B' (hi.toNat - lo.toNat) ((if slMx m then hi.toNat else c) - lo.toNat))))) : AtM Γ Q Φ m := by
  unfold slOp at h
  repeat' split at h
  all_goals first | cases h; done | skip
  rename_i o ho _ t x lo' hi' mx' hop _ _ _ _ e V l' h' hu hx hl hh _ _ _ sz' z hs hz hno
  cases h
  have hmx : slMx m = mx'.isSome := by unfold slMx; rw [ho]; simp only [hop]
  rw [hmx] at k
  obtain ⟨all, l, k', hk, hw, hp, hd⟩ := opM_spec ho
  obtain ⟨fs, S⟩ := m
  simp only at hk hw hx hl hh hz; subst hk
  intro env hdr β a w hst
  have el : (lo.toNat : Int) = lo := by omega
  have eh : (hi.toNat : Int) = hi := by omega
  refine At.slice hop hw hu hs hx lo.toNat hi.toNat (if mx'.isSome then hi.toNat else c) ?_ ?_ ?_ (by omega) (by split <;> omega) (by split <;> omega) (fun B' e1 e2 => ?_) β a w hst
  · rcases slI_spec hl with ⟨rfl, e⟩ | ⟨y, kd, rfl, e⟩
    · simp only; omega
    · simp only; rw [el]; exact ⟨kd, e⟩
  · rcases slI_spec hh with ⟨rfl, e⟩ | ⟨y, kd, rfl, e⟩
    · simp only
      refine ⟨by omega, ?_⟩
      cases mx' with
      | none => rfl
      | some y => cases hno
    · simp only; rw [eh]; exact ⟨kd, e⟩
  · rcases slI_spec hz with ⟨rfl, e⟩ | ⟨y, kd, rfl, e⟩
    · simp
    · simp only [Option.isSome_some, if_true]; rw [eh]; exact ⟨kd, e⟩
  · have hb := put_bd hst.bd o.dst (x := .v (.slice B' (hi.toNat - lo.toNat) ((if mx'.isSome then hi.toNat else c) - lo.toNat))) rfl
    refine ⟨S.put o.dst _, by unfold putB; rw [if_pos hb], ?_⟩
    have h9 := k B' (fun e => e1 (by omega)) e2 env (by unfold putM; rw [hp]; exact drwOk.sub (k := .ops all l :: k') (fSub.of_hp (put_hp _ _ _)) hdr)
    unfold putM at h9
    rw [hp, hd] at h9
    exact h9

section
variable {α : Type} {enc : α → D} {xs : List α} {F : List α → Option A} {B : Option Addr} {c t sz n : Nat} {vs : List Value} {lo hi : Int}
/-- A part of a row that stays. -/
theorem W.dsl (q : Nat) (p : Nat) (H : Reps Φ L) (k : ∀ (l : List α) B' c', Reps Φ (.d (.row sz l.length (l.map enc)) (.slice B' l.length c') :: L) → W Γ Q Φ (putM (GM Γ Φ q m) (.v (.slice B' l.length c'))) (F l) K)
    (hp : L[p]? = some (.d (.row sz n (xs.map enc)) (.slice B n c)) := by rfl) (h : slOp Γ.P n (GM Γ Φ q m) = some (.slice B n c, sz, lo, hi, hi) := by kernel_rfl) : W Γ Q Φ m (sld xs lo hi F) K := by
  refine ⟨fun r hr => ?_⟩
  unfold sld at hr
  split at hr
  · rename_i hb
    have r1 : Rc Φ (.row sz n (xs.map enc)) [.slice B n c] := H.get p hp
    simp only [Rc] at r1
    obtain ⟨hn, A', c', ws, e, hc, hR, r1⟩ := r1
    simp only [List.cons.injEq, Value.slice.injEq, and_true, true_and] at e
    obtain ⟨rfl, rfl⟩ := e
    rw [List.length_map] at hn
    refine AtM.go q (AtM.slice h hb.1 hb.2.1 (by omega) hc fun B' e1 e2 => ?_)
    have hll : ((xs.take hi.toNat).drop lo.toNat).length = hi.toNat - lo.toNat := by rw [List.length_drop, List.length_take]; omega
    have := k ((xs.take hi.toNat).drop lo.toNat) B' ((if slMx (GM Γ Φ q m) then hi.toNat else c) - lo.toNat) (H.cons ?_) r hr
    · rw [hll] at this; exact this
    · show Rc Φ (.row sz _ _) _
      simp only [Rc]
      refine ⟨by rw [List.length_map], B', _, (ws.take (hi.toNat * sz)).drop (lo.toNat * sz), rfl, ?_, ?_, ?_⟩
      · rw [hll]; split <;> omega
      · by_cases hlt : lo.toNat < (if slMx (GM Γ Φ q m) then hi.toNat else c)
        · exact (hR.take _).drop _ (e2 hlt)
        · have : hi.toNat ≤ lo.toNat := by split at hlt <;> omega
          rw [show (ws.take (hi.toNat * sz)).drop (lo.toNat * sz) = [] from List.drop_eq_nil_of_le (by rw [List.length_take]; exact Nat.le_trans (Nat.min_le_left _ _) (Nat.mul_le_mul_right _ this))]
          exact RdC.nil
      · have h1 := (r1.take hi.toNat (by rw [List.length_map]; omega)).drop lo.toNat (by rw [List.length_take, List.length_map]; omega)
        rw [List.map_drop, List.map_take]
        exact h1
  · simp at hr
/-- The front of a row of the call's own: it is shorter from here on. -/
theorem W.osl (q : Nat) (i p : Nat) (H : Reps Φ L) (k : ∀ (l : List α) vs', Reps Φ (.r sz (l.map enc) vs' :: L) → W Γ Q Φ (apM (GM Γ Φ q m) i (.slice B l.length c) l.length vs' t sz) (F l) K)
    (hp : L[p]? = some (.r sz (xs.map enc) vs) := by rfl) (hn : n = xs.length := by rfl) (h : slOp Γ.P n (GM Γ Φ q m) = some (.slice B n c, sz, 0, hi, hi) := by kernel_rfl) (hm : slMx (GM Γ Φ q m) = false := by kernel_rfl)
    (hi' : (GM Γ Φ q m).s.hp[i]? = some (.o (.slice B n c) n vs t sz) := by kernel_rfl) : W Γ Q Φ m (sld xs 0 hi F) K := by
  refine ⟨fun r hr => ?_⟩
  unfold sld at hr
  split at hr
  · rename_i hb
    have r1 : Rr Φ sz (xs.map enc) vs := H.get p hp
    refine AtM.go q fun env hd β a w hst => ?_
    obtain ⟨B', c', hv, hc, _, _⟩ := own_form (hst.own.o i _ _ _ _ _ hi')
    injection hv with hv1 hv2 hv3
    subst hv1 hv3
    have hll : ((xs.take hi.toNat).drop (0 : Int).toNat).length = hi.toNat := by simp only [Int.toNat_zero, List.drop_zero, List.length_take]; omega
    refine AtM.slice h hb.1 hb.2.1 (by omega) hc (fun B' e1 e2 => ?_) env hd β a w hst
    obtain rfl := e1 rfl
    rw [hm, if_neg (by decide)]
    simp only [Int.toNat_zero, Nat.sub_zero]
    have hk := k ((xs.take hi.toNat).drop (0 : Int).toNat) (vs.take (hi.toNat * sz)) (H.cons (by show Rr Φ sz _ _; rw [List.map_drop, List.map_take]; exact r1.take hi.toNat (by rw [List.length_map]; omega))) r hr
    rw [hll] at hk
    generalize GM Γ Φ q m = m' at hk hi'
    intro env hd β a w hst
    have hb2 := bd_set hst.bd none (x := .u) rfl i (b := .o (.slice B' hi.toNat c) hi.toNat (vs.take (hi.toNat * sz)) t sz) rfl
    refine At.trunc (S := (putM m' (.v (.slice B' hi.toNat c))).s) i hi.toNat (n := n) (xs := vs) (e := t) (sz := sz) (cap := c) (by rw [show (putM m' (.v (.slice B' hi.toNat c))).s.hp = m'.s.hp from put_hp _ _ _]; exact hi') (by omega) (S' := ⟨(putM m' (.v (.slice B' hi.toNat c))).s.fr, m'.s.hp.set i (.o (.slice B' hi.toNat c) hi.toNat (vs.take (hi.toNat * sz)) t sz)⟩) ?_ ?_ β a w hst
    · unfold putH
      have e9 : (putM m' (.v (.slice B' hi.toNat c))).s.hp = m'.s.hp := put_hp _ _ _
      rw [e9] at hb2 ⊢
      simp only [hb2, if_true]; rfl
    · exact hk env (drwOk.sub (fSub_set rfl) (drwOk.sub (S' := m'.s) (fSub.of_hp (put_hp _ _ _).symm) hd))
  · simp at hr
end

/-- A row that stays, compared with nil. -/
def nilOp (m : MS) : Option (Value × Bool) :=
  match opM m with
  | some o => match o.op with
    | .binOp .eql _ x (.const (.slice none _ _)) _ => match m.s.get x with | .v V => some (V, true) | _ => none
    | .binOp .neq _ x (.const (.slice none _ _)) _ => match m.s.get x with | .v V => some (V, false) | _ => none
    | _ => none
  | none => none
def nilT (P : Program) (m : MS) : Bool := match opM m with | some o => (match o.op with | .binOp _ t _ _ _ => (match P.underlying t with | some (.slice _) => true | _ => false) | _ => false) | none => false
theorem AtM.nilc {Q : QT} {B : Option Addr} {n c : Nat} {e : Bool} (h : nilOp m = some (.slice B n c, e)) (ht : nilT Γ.P m = true) (k : AtM Γ Q Φ (putM m (.v (.bool (if B.isNone then e else !e))))) : AtM Γ Q Φ m := by
  have key : ∀ (o : Oper) (op : BinOp) (t u : TypeId) (x : Operand) (a b : Nat), opM m = some o → o.op = .binOp op t x (.const (.slice none a b)) u → m.s.get x = .v (.slice B n c) → ((op = .eql ∧ e = true) ∨ (op = .neq ∧ e = false)) → AtM Γ Q Φ m := by
    intro o op t u x a b ho hop hx hope
    have hu : ∃ y, Γ.P.underlying t = some (.slice y) := by
      unfold nilT at ht; rw [ho] at ht; simp only [hop] at ht
      split at ht
      · exact ⟨_, by assumption⟩
      · cases ht
    obtain ⟨y, hu⟩ := hu
    have hv : ev Γ.P m.s o = some (.v (.bool (if B.isNone then e else !e)), m.s.hp) := by
      unfold ev
      rw [hop]
      have hg : m.s.get (.const (.slice none a b)) = .v (.slice none a b) := rfl
      simp only [hx, hg]
      rcases hope with ⟨rfl, rfl⟩ | ⟨rfl, rfl⟩ <;> cases B <;> simp [binS, binV, hu]
    refine AtM.val ho _ rfl (fun β a w hst => ?_) k
    exact Val.ev (by rw [hop]; rfl) hv (put_bd hst.bd o.dst rfl) β a w hst
  unfold nilOp at h
  split at h
  · rename_i o ho
    split at h
    · rename_i t x a b u hop
      split at h
      · rename_i V hx; cases h; exact key o _ t u x a b ho hop hx (.inl ⟨rfl, rfl⟩)
      · cases h
    · rename_i t x a b u hop
      split at h
      · rename_i V hx; cases h; exact key o _ t u x a b ho hop hx (.inr ⟨rfl, rfl⟩)
      · cases h
    · cases h
  · cases h
theorem W.nilc (q : Nat) (p : Nat) (e : Bool) {α : Type} {enc : α → D} {xs : List α} {sz n : Nat} {B : Option Addr} {c : Nat} (H : Reps Φ L) (kt : xs = [] → W Γ Q Φ (putM (GM Γ Φ q m) (.v (.bool e))) o K) (kf : W Γ Q Φ (putM (GM Γ Φ q m) (.v (.bool (!e)))) o K)
    (hp : L[p]? = some (.d (.row sz n (xs.map enc)) (.slice B n c)) := by rfl) (h : nilOp (GM Γ Φ q m) = some (.slice B n c, e) := by kernel_rfl) (ht : nilT Γ.P (GM Γ Φ q m) = true := by kernel_rfl) (hsz : 0 < sz := by decide) : W Γ Q Φ m o K := by
  refine ⟨fun r hr => AtM.go q (AtM.nilc h ht ?_)⟩
  have r1 : Rc Φ (.row sz n (xs.map enc)) [.slice B n c] := H.get p hp
  simp only [Rc] at r1
  obtain ⟨hn, A', c', ws, e', hc, hR, r1⟩ := r1
  simp only [List.cons.injEq, Value.slice.injEq, and_true, true_and] at e'
  obtain ⟨rfl, rfl⟩ := e'
  cases B with
  | some a => exact kf r hr
  | none =>
    refine kt ?_ r hr
    have hl := r1.len
    rw [List.length_map] at hl
    cases xs with
    | nil => rfl
    | cons x l =>
      obtain ⟨b, off, _, _, _, hA, _⟩ := hR (by rw [hl]; exact Nat.mul_pos (by simp) hsz)
      cases hA
end
/-- A function, or none. -/
def fo1 : Option Nat → Value
  | none => .nilFunc
  | some i => .func (.func i) #[] #[]
theorem Reps.nilR {Φ : Phi} {L : List En} {α : Type} {enc : α → D} {sz : Nat} (H : Reps Φ L) : Reps Φ (.r sz (([] : List α).map enc) [] :: L) := ⟨(Rr.nil : Rr Φ sz [] []), H⟩
theorem Reps.nilF {Φ Φz : Phi} {L : List En} {α : Type} {enc : α → D} {e sz : Nat} (H : Reps Φ L) : Reps Φ (.d (.frow Φz e sz ([] : List α).length (([] : List α).map enc)) (.slice none 0 0) :: L) := ⟨(Rc.nilF : Rc Φ (.frow Φz e sz 0 []) [.slice none 0 0]), H⟩
theorem Reps.nilD {Φ : Phi} {L : List En} {α : Type} {enc : α → D} {sz : Nat} (H : Reps Φ L) : Reps Φ (.d (.row sz ([] : List α).length (([] : List α).map enc)) (.slice none 0 0) :: L) := ⟨(Rc.nil : Rc Φ (.row sz 0 []) [.slice none 0 0]), H⟩
end Go.Sx
