/- SyC: walks that follow a function of Lean: the rules. General: no program. -/
import Derived.Test.YtgkjblbmiooedaaSyB
import Derived.KernelRfl
namespace Go.Sx
open Go.RowKit

/-- What the machine does ends as o tells, handed to K. -/
structure W {A R : Type} (Γ : Ctx) (Q : R → QT) (Φ : Phi) (m : MS) (o : Option A) (K : A → Option R) : Prop where
  run : ∀ r, o.bind K = some r → AtM Γ (Q r) Φ m
instance {A R : Type} {Γ : Ctx} {Q : R → QT} {Φ : Phi} {m : MS} {o : Option A} {K : A → Option R} : CoeFun (W Γ Q Φ m o K) (fun _ => ∀ r, o.bind K = some r → AtM Γ (Q r) Φ m) := ⟨W.run⟩

def w (z : Int) : Int := IntKind.i64.wrap z
def ixd {α A : Type} (xs : List α) (i : Int) (F : α → Option A) : Option A := if 0 ≤ i then match xs[i.toNat]? with | some e => F e | none => none else none
inductive Ex (α : Type) where
  | ok (a : α)
  | pan (e : Int)
def Ex.k {α A : Type} (pn : Int → A) (F : α → Option A) : Ex α → Option A
  | .ok a => F a
  | .pan e => some (pn e)
/-- How a loop is left: by its end, or by a return. -/
inductive Lo (α ρ : Type) where
  | ex (a : α)
  | rt (r : ρ)
def Lo.k {α ρ A : Type} (rr : ρ → A) (F : α → Option A) : Lo α ρ → Option A
  | .ex a => F a
  | .rt r => some (rr r)
def Lo.kk {α ρ A R : Type} (rr : ρ → A) (F : α → Option A) (K : A → Option R) : Lo α ρ → Option R
  | .ex a => (F a).bind K
  | .rt r => K (rr r)
def ckl {A : Type} (n : Nat) (X : Option A) : Option A := if n ≤ 4000000 then X else none
def sld {α A : Type} (xs : List α) (lo hi : Int) (F : List α → Option A) : Option A := if 0 ≤ lo ∧ lo ≤ hi ∧ hi ≤ xs.length then F ((xs.take hi.toNat).drop lo.toNat) else none
def mkd {α A : Type} (n : Int) (z : α) (F : List α → Option A) : Option A := if 0 ≤ n ∧ n ≤ 4000000 then F (List.replicate n.toNat z) else none
def std {α A : Type} (xs : List α) (i : Int) (y : α) (F : List α → Option A) : Option A := if 0 ≤ i ∧ i < xs.length then F (xs.set i.toNat y) else none
def dI (k : IntKind) (z : Int) : D := .v (.int k z)
def dB (b : Bool) : D := .v (.bool b)
def dS (b : ByteArray) : D := .v (.string b)
def bXor (k : IntKind) (x y : Int) : Int := k.wrap (BitVec.ofInt k.bits x ^^^ BitVec.ofInt k.bits y).toNat
def bAndNot (k : IntKind) (x y : Int) : Int := k.wrap (BitVec.ofInt k.bits x &&& ~~~BitVec.ofInt k.bits y).toNat

abbrev GM (Γ : Ctx) (Φ : Phi) (q : Nat) (m : MS) : MS := goM Γ.P Γ.md.isNone Φ q m

/-- The operation that is next, if it is wanted. -/
def opM (m : MS) : Option Oper :=
  match m.k with
  | .ops all (o :: _) :: _ => match wantS all m.s o with
    | some true => some o
    | _ => none
  | _ => none
def popM (m : MS) : List Fr :=
  match m.k with
  | .ops all (_ :: l) :: k => .ops all l :: k
  | k => k
def dstM (m : MS) : Option Tmp := (opM m).bind (·.dst)
def putM (m : MS) (x : SV) : MS := ⟨popM m, m.s.put (dstM m) x⟩

/-- What is known of it is less. -/
def maskS (T S : SS) : SS := ⟨T.fr.zipWith (fun a b => match a with | .u => .u | _ => b) S.fr, T.hp.zipWith (fun a b => match a with | .dead => .dead | _ => b) S.hp⟩

section
variable {A R : Type} {Γ : Ctx} {Q : R → QT} {Φ : Phi} {m : MS} {o : Option A} {K : A → Option R} {L : List En}

theorem opM_spec {o : Oper} (h : opM m = some o) : ∃ all l k, m.k = .ops all (o :: l) :: k ∧ wantS all m.s o = some true ∧ popM m = .ops all l :: k ∧ dstM m = o.dst := by
  have h' := h
  unfold opM at h
  split at h
  · rename_i all o' l k hk
    split at h
    · rename_i hw; cases h
      exact ⟨all, l, k, hk, hw, by unfold popM; rw [hk], by unfold dstM; rw [h']; rfl⟩
    · cases h
  · cases h

theorem put_bd {S : SS} (h : S.bd = true) (d : Option Tmp) {x : SV} (hx : x.bd S.hp.length = true) : (S.put d x).bd = true := by
  have h1 := SS.bd_fr h
  have h2 := SS.hp_bd h
  unfold SS.bd
  rw [put_hp, Bool.and_eq_true]
  refine ⟨?_, h2⟩
  cases d with
  | none => exact h1
  | some d =>
    simp only [SS.put]
    rw [List.all_eq_true] at h1 ⊢
    intro y hy
    rcases List.mem_or_eq_of_mem_set hy with hy | rfl
    · exact h1 y hy
    · exact hx
mutual
theorem ok_le {n m : Nat} (hnm : n ≤ m) : ∀ x : SV, x.ok n = true → x.ok m = true
  | .u, h => by simp [SV.ok] at h
  | .v _, _ => rfl
  | .p _ _, h => by simp [SV.ok] at h ⊢; omega
  | .s _ _ _ _, h => by simp [SV.ok] at h ⊢; omega
  | .fn _ l, h => by simp only [SV.ok] at h ⊢; exact okL_le hnm l h
  | .agg l, h => by simp only [SV.ok] at h ⊢; exact okL_le hnm l h
  | .tup l, h => by simp only [SV.ok] at h ⊢; exact okL_le hnm l h
  | .ifc _ x, h => by simp only [SV.ok] at h ⊢; exact ok_le hnm x h
theorem okL_le {n m : Nat} (hnm : n ≤ m) : ∀ l : List SV, SV.okL n l = true → SV.okL m l = true
  | [], _ => rfl
  | x :: l, h => by
    simp only [SV.okL, Bool.and_eq_true] at h ⊢
    exact ⟨ok_le hnm x h.1, okL_le hnm l h.2⟩
end
theorem ok_bd {n : Nat} {x : SV} (h : x.ok 0 = true) : x.bd n = true := by
  have := ok_le (Nat.zero_le n) x h
  cases x <;> first | rfl | exact this

theorem W.go (q : Nat) (k : W Γ Q Φ (GM Γ Φ q m) o K) : W Γ Q Φ m o K := ⟨fun r h => AtM.go q (k r h)⟩
theorem W.bind {B : Type} {F : B → Option A} {g : Option B} (k : W Γ Q Φ m g (fun x => (F x).bind K)) : W Γ Q Φ m (g.bind F) K := ⟨fun r h => k r (by rw [Option.bind_assoc] at h; exact h)⟩
theorem W.cast {o' : Option A} (h : o = o') (k : W Γ Q Φ m o' K) : W Γ Q Φ m o K := h ▸ k

/-- An operation that only tells a value. -/
theorem AtM.val {Q : QT} {o : Oper} (ho : opM m = some o) (x : SV) (hx : x.ok 0 = true) (hv : Val Γ Φ m.s o x) (k : AtM Γ Q Φ (putM m x)) : AtM Γ Q Φ m := by
  obtain ⟨all, l, k', hk, hw, hp, hd⟩ := opM_spec ho
  obtain ⟨fs, S⟩ := m
  simp only at hk; subst hk
  intro env hdr
  have k2 := k env (by unfold putM; rw [hp]; exact drwOk.sub (k := .ops all l :: k') (fSub.of_hp (put_hp _ _ _)) hdr)
  unfold putM at k2
  rw [hp, hd] at k2
  intro β a w h
  have hb : (S.put o.dst x).bd = true := put_bd h.bd o.dst (ok_bd hx)
  exact At.vals (S' := S.put o.dst x) hw x (by unfold putB; rw [if_pos hb]) hv k2 β a w h

/- numbers that are compared: what is known goes two ways -/
def slotB (m : MS) (d : Nat) : Option Bool := match m.s.fr[d]? with | some (.v (.bool b)) => some b | _ => none
def setB (d : Nat) (b : Bool) (m : MS) : MS := ⟨m.k, ⟨m.s.fr.set d (.v (.bool b)), m.s.hp⟩⟩
def setBs (ds : List Nat) (b : Bool) (m : MS) : MS := ds.foldl (fun m d => setB d b m) m
theorem setB_eq (d : Nat) {b : Bool} (h : slotB m d = some b) : setB d b m = m := by
  unfold slotB at h
  unfold setB
  split at h
  · rename_i b' hb
    cases h
    obtain ⟨fs, S⟩ := m
    obtain ⟨f, hp⟩ := S
    simp only at hb ⊢
    congr 2
    apply List.ext_getElem?
    intro j
    rw [List.getElem?_set]
    split
    · rename_i e; subst e; split
      · exact hb.symm
      · rename_i h2; rw [List.getElem?_eq_none (by omega)]
    · rfl
  · cases h
theorem setBs_eq {b : Bool} : ∀ (ds : List Nat), ds.map (slotB m) = List.replicate ds.length (some b) → setBs ds b m = m
  | [], _ => rfl
  | d :: ds, h => by
    simp only [List.map_cons, List.length_cons, List.replicate_succ, List.cons.injEq] at h
    show setBs ds b (setB d b m) = m
    rw [setB_eq d h.1]
    exact setBs_eq ds h.2
theorem W.bs (q : Nat) (ds : List Nat) {b : Bool} {X Y : Option A} (kt : W Γ Q Φ (setBs ds true (GM Γ Φ q m)) X K) (kf : W Γ Q Φ (setBs ds false (GM Γ Φ q m)) Y K) (h : ds.map (slotB (GM Γ Φ q m)) = List.replicate ds.length (some b) := by kernel_rfl) : W Γ Q Φ m (if b = true then X else Y) K := by
  refine ⟨fun r hr => ?_⟩
  refine AtM.go q ?_
  have e := setBs_eq ds h
  cases b
  · have h1 := kf r (by simpa using hr)
    rw [e] at h1; exact h1
  · have h1 := kt r (by simpa using hr)
    rw [e] at h1; exact h1
/- a number that is told: one of some -/
def slotI (m : MS) (d : Nat) : Option (IntKind × Int) := match m.s.fr[d]? with | some (.v (.int k z)) => some (k, z) | _ => none
def setI (d : Nat) (k : IntKind) (z : Int) (m : MS) : MS := ⟨m.k, ⟨m.s.fr.set d (.v (.int k z)), m.s.hp⟩⟩
theorem setI_eq (d : Nat) {k : IntKind} {z : Int} (h : slotI m d = some (k, z)) : setI d k z m = m := by
  unfold slotI at h
  unfold setI
  split at h
  · rename_i k' z' hb
    cases h
    obtain ⟨fs, S⟩ := m
    obtain ⟨f, hp⟩ := S
    simp only at hb ⊢
    congr 2
    apply List.ext_getElem?
    intro j
    rw [List.getElem?_set]
    split
    · rename_i e; subst e; split
      · exact hb.symm
      · rename_i h2; rw [List.getElem?_eq_none (by omega)]
    · rfl
  · cases h
theorem W.is (q : Nat) (d : Nat) (y : Int) (k : IntKind) {z : Int} {X Y : Option A} (kt : W Γ Q Φ (setI d k y (GM Γ Φ q m)) X K) (kf : W Γ Q Φ (GM Γ Φ q m) Y K) (h : slotI (GM Γ Φ q m) d = some (k, z) := by kernel_rfl) : W Γ Q Φ m (if (z == y) = true then X else Y) K := by
  refine ⟨fun r hr => ?_⟩
  refine AtM.go q ?_
  by_cases e : z = y
  · subst e
    have e := setI_eq d h
    have h1 := kt r (by simpa using hr)
    rw [e] at h1; exact h1
  · exact kf r (by simpa [e] using hr)
theorem W.no : W Γ Q Φ m (none : Option A) K := ⟨fun r hr => by cases hr⟩
/- what is read of rows that stay -/
def ixM (P : Program) (m : MS) : Option (Value × Nat × IntKind × Int) :=
  match opM m with
  | some o => match o.op with
    | .indexAddr t x ix => match P.underlying t, m.s.get x, m.s.get ix with
      | some (.slice e), .v v, .v (.int kd i) => match szT P e with
        | some sz => some (v, sz, kd, i)
        | none => none
      | _, _, _ => none
    | _ => none
  | none => none
theorem ixM_spec {P : Program} {v : Value} {sz : Nat} {kd : IntKind} {i : Int} (h : ixM P m = some (v, sz, kd, i)) : ∃ o t x ix e, opM m = some o ∧ o.op = .indexAddr t x ix ∧ P.underlying t = some (.slice e) ∧ szT P e = some sz ∧ m.s.get x = .v v ∧ m.s.get ix = .v (.int kd i) := by
  unfold ixM at h
  repeat' split at h
  all_goals first | cases h; done | skip
  rename_i o ho _ t x ix hop _ _ _ e v' kd' i' hu hx hi _ sz' hs
  cases h
  exact ⟨o, t, x, ix, e, ho, hop, hu, hs, hx, hi⟩

theorem W.ix (q : Nat) (p : Nat) (kd : IntKind) {α : Type} {enc : α → D} {xs : List α} {F : α → Option A} {i : Int} {sz n : Nat} {B : Option Addr} {c : Nat} (H : Reps Φ L)
    (k : ∀ e pv, Reps Φ (.d (.box (enc e)) pv :: L) → W Γ Q Φ (putM (GM Γ Φ q m) (.v pv)) (F e) K)
    (hp : L[p]? = some (.d (.row sz n (xs.map enc)) (.slice B n c)) := by rfl) (h : ixM Γ.P (GM Γ Φ q m) = some (.slice B n c, sz, kd, i) := by kernel_rfl) (hsz : 0 < sz := by decide) : W Γ Q Φ m (ixd xs i F) K := by
  refine ⟨fun r hr => ?_⟩
  refine AtM.go q ?_
  obtain ⟨o, t, x, ix, e', ho, hop, hu, hs, hx, hi⟩ := ixM_spec h
  unfold ixd at hr
  split at hr
  · rename_i h0
    split at hr
    · rename_i e he
      have hr1 : Rc Φ (.row sz n (xs.map enc)) [.slice B n c] := H.get p hp
      simp only [Rc] at hr1
      obtain ⟨hn, A', c', ws, hv, hc, hR, hrr⟩ := hr1
      simp only [List.cons.injEq, Value.slice.injEq, and_true, true_and] at hv
      obtain ⟨rfl, rfl⟩ := hv
      have hlt := lt_get he
      have hwl := hrr.len
      obtain ⟨us, hul, hrc, hget⟩ := hrr.get (i := i.toNat) (x := enc e) (by rw [List.getElem?_map, he]; rfl)
      rw [List.length_map] at hwl hn
      have hpos : 0 < ws.length := by rw [hwl]; exact Nat.mul_pos (by omega) hsz
      obtain ⟨b, off, cs, tt, z, rfl, hΦ, hcs⟩ := hR hpos
      refine AtM.val ho (.v (.pointer (some ⟨b, off + i.toNat * sz, none⟩))) rfl (Val.idx hop hu hs hx hi h0 (by omega)) ?_
      refine k e _ (H.cons (?_ : Rc Φ (.box (enc e)) _)) r hr
      simp only [Rc]
      exact ⟨b, off + i.toNat * sz, us, rfl, fun _ => ⟨b, _, cs, tt, z, rfl, hΦ, fun j u hj => by rw [Nat.add_assoc]; exact hcs _ _ (hget j u hj)⟩, hrc⟩
    · simp at hr
  · simp at hr

def ldM (P : Program) (l : List D) (m : MS) : Option Value :=
  match opM m with
  | some o => match o.op with
    | .load t x => match m.s.get x, P.underlying t, szT P t with
      | .v v, some d, some n => if n == l.length && n != 0 && (aggD d || n == 1) then some v else none
      | _, _, _ => none
    | _ => none
  | none => none
def aggM (P : Program) (m : MS) : Bool :=
  match opM m with
  | some o => match o.op with
    | .load t _ => match P.underlying t with
      | some d => aggD d
      | _ => false
    | _ => false
  | none => false
theorem ldM_spec {P : Program} {v : Value} {l : List D} (h : ldM P l m = some v) : ∃ o t x d, opM m = some o ∧ o.op = .load t x ∧ m.s.get x = .v v ∧ P.underlying t = some d ∧ szT P t = some l.length ∧ l.length ≠ 0 ∧ (aggD d = true ∨ l.length = 1) ∧ aggM P m = aggD d := by
  unfold ldM at h
  repeat' split at h
  all_goals first | cases h; done | skip
  rename_i o ho _ t x hop _ _ _ v' d n hx hu hs hc
  cases h
  rw [Bool.and_eq_true, Bool.and_eq_true, Bool.or_eq_true, beq_iff_eq, beq_iff_eq, bne_iff_ne] at hc
  refine ⟨o, t, x, d, ho, hop, hx, hu, by rw [hs, hc.1.1], by rw [← hc.1.1]; exact hc.1.2, ?_, ?_⟩
  · rcases hc.2 with h | h
    · exact .inl h
    · exact .inr (by rw [← hc.1.1]; exact h)
  · unfold aggM; rw [ho]; simp only [hop, hu]

def ldSV (agg : Bool) (l : List SV) : SV := if agg then .agg l else l.headD .u
/-- A read of what a pointer to memory that stays points to. -/
theorem AtM.ld {Q : QT} {x : D} {v : Value} (hx : Rc Φ (.box x) [v]) (h : ldM Γ.P x.cells m = some v) (k : ∀ us : List Vr, us.map Vr.isS = vrs x.cells → Reps Φ (cellEn x.cells us) → AtM Γ Q Φ (putM m (ldSV (aggM Γ.P m) (cellSV x.cells us)))) : AtM Γ Q Φ m := by
  obtain ⟨o, t, q, d, ho, hop, hq, hu, hs, hne, hag, hagm⟩ := ldM_spec h
  simp only [Rc] at hx
  obtain ⟨b, off, ws, hv, hR, hrc⟩ := hx
  simp only [List.cons.injEq, and_true] at hv
  subst hv
  have hra := hrc.cells
  have hwl := hra.len
  obtain ⟨us, h1, h2, h3⟩ := hra.open
  have hk := k us h1 h3
  rw [hagm] at hk
  have hok : ∀ l : List Value, SV.okL 0 (l.map SV.v) = true := fun l => all_okL 0 _ (by intro y hy; obtain ⟨z, _, rfl⟩ := List.mem_map.1 hy; rfl)
  have hpos : 0 < ws.length := by omega
  rcases Bool.eq_false_or_eq_true (aggD d) with hd | hd
  · rw [hd] at hk
    have hl : ldB Γ.P t (ws.map .v) 0 = some (.agg (ws.map .v)) := ldB_vals hu (by rw [hs, hwl]) hd
    refine AtM.val ho (.agg (ws.map .v)) ?_ (Val.ldB hop hR hpos 0 off rfl hq _ hl) (by rw [h2]; exact hk)
    simp only [SV.ok]; exact hok ws
  · rw [hd] at hk
    have h11 : ws.length = 1 := by
      rw [hwl]
      rcases hag with h | h
      · rw [hd] at h; cases h
      · exact h
    obtain ⟨u, rfl⟩ := List.length_eq_one_iff.1 h11
    have hl : ldB Γ.P t ([u].map .v) 0 = some (.v u) := by unfold ldB; rw [hu, hs]; simp only [hd]; rfl
    refine AtM.val ho (.v u) rfl (Val.ldB hop hR hpos 0 off rfl hq _ hl) ?_
    rw [← h2] at hk
    exact hk

/-- For all names that are wanted. -/
def VrAll : List Bool → (List Vr → Prop) → Prop
  | [], P => P []
  | true :: bs, P => ∀ A c, VrAll bs fun us => P (.s A c :: us)
  | false :: bs, P => ∀ u, VrAll bs fun us => P (.u u :: us)
theorem VrAll.get : ∀ {bs : List Bool} {P : List Vr → Prop}, VrAll bs P → ∀ us : List Vr, us.map Vr.isS = bs → P us
  | [], P, h, us, e => by simp at e; subst e; exact h
  | b :: bs, P, h, [], e => by simp at e
  | b :: bs, P, h, .s A c :: us, e => by
    simp only [List.map_cons, List.cons.injEq, Vr.isS] at e
    obtain ⟨rfl, e⟩ := e
    exact VrAll.get (h A c) us e
  | b :: bs, P, h, .u u :: us, e => by
    simp only [List.map_cons, List.cons.injEq, Vr.isS] at e
    obtain ⟨rfl, e⟩ := e
    exact VrAll.get (h u) us e

theorem W.ld (q : Nat) (p : Nat) (bs : List Bool) {x : D} {v : Value} (H : Reps Φ L)
    (k : VrAll bs fun us => Reps Φ (cellEn x.cells us ++ L) → W Γ Q Φ (putM (GM Γ Φ q m) (ldSV (aggM Γ.P (GM Γ Φ q m)) (cellSV x.cells us))) o K)
    (hp : L[p]? = some (.d (.box x) v) := by rfl) (h : ldM Γ.P x.cells (GM Γ Φ q m) = some v := by kernel_rfl) (hb : vrs x.cells = bs := by kernel_rfl) : W Γ Q Φ m o K := by
  refine ⟨fun r hr => ?_⟩
  refine AtM.go q (AtM.ld (H.get p hp) h fun us h1 h2 => ?_)
  exact (VrAll.get k us (h1.trans hb)) (h2.app H) r hr

/- the address of a field -/
def subD (P : Program) (ty k : Nat) (l : List D) : D :=
  match P.underlying ty, szT P ty with
  | some d, some n => if aggD d then .agg ((l.drop k).take n) else l.getD k (.v undef)
  | _, _ => .v undef
def faM (P : Program) (l : List D) (m : MS) : Option (Value × D) :=
  match opM m with
  | some o => match o.op with
    | .fieldAddr t x f => match m.s.get x, offT P t f with
      | .v v, some (k, ty) => match P.underlying ty, szT P ty with
        | some d, some n => if k + n ≤ l.length ∧ (aggD d || n == 1) = true then some (v, subD P ty k l) else none
        | _, _ => none
      | _, _ => none
    | _ => none
  | none => none
theorem W.fa (q : Nat) (p : Nat) {l : List D} {x : D} {v : Value} (H : Reps Φ L) (k : ∀ pv, Reps Φ (.d (.box x) pv :: L) → W Γ Q Φ (putM (GM Γ Φ q m) (.v pv)) o K)
    (hp : L[p]? = some (.d (.box (.agg l)) v) := by rfl) (h : faM Γ.P l (GM Γ Φ q m) = some (v, x) := by kernel_rfl) : W Γ Q Φ m o K := by
  refine ⟨fun r hr => ?_⟩
  refine AtM.go q ?_
  unfold faM at h
  repeat' split at h
  all_goals first | cases h; done | skip
  rename_i o' ho _ t q f hop _ _ v' kk ty hq hoff _ _ d n hd hn hle
  cases h
  have hx : Rc Φ (.box (.agg l)) [v] := H.get p hp
  simp only [Rc] at hx
  obtain ⟨b, off, ws, hv, hR, hrc⟩ := hx
  simp only [List.cons.injEq, and_true] at hv
  subst hv
  have hwl := hrc.len
  refine AtM.val ho (.v (.pointer (some ⟨b, off + kk, none⟩))) rfl (fun β a w0 hst => ⟨_, ?_, .inr rfl⟩) ?_
  · unfold execOp; rw [hop]
    simp only [fits_v hst hq, Sem.run_bind, run_fieldAt hoff, Result.andThen_ok, Sem.run_pure]
    rfl
  · refine k _ (H.cons (?_ : Rc Φ (.box _) _)) r hr
    simp only [Rc]
    refine ⟨b, off + kk, (ws.drop kk).take n, rfl, ?_, ?_⟩
    · exact (hR.drop (A' := some ⟨b, off + kk, none⟩) kk (by simp [add_none])).take n
    · unfold subD
      rw [hd, hn]
      simp only
      split
      · simp only [Rc]; exact (Ra.drop kk hrc).take n
      · rename_i hag
        have hn1 : n = 1 := by
          rcases Bool.or_eq_true _ _ ▸ hle.2 with h1 | h1
          · exact absurd h1 hag
          · simpa using h1
        subst hn1
        have hlt : kk < l.length := by omega
        have h1 := (Ra.drop kk hrc).take 1
        rw [List.drop_eq_getElem_cons hlt] at h1
        simp only [List.take_succ_cons, List.take_zero, Ra] at h1
        obtain ⟨u, us, e, h2, h3⟩ := h1
        subst h3
        rw [List.getD_eq_getElem?_getD, List.getElem?_eq_getElem hlt, Option.getD_some, e]
        exact h2

/- calls -/
def callM (m : MS) : Option (FuncId × List SV) :=
  match opM m with
  | some o => match o.op with
    | .call { callee := .value fo, args, argTypes := _ } => match fnOf (m.s.get fo) with
      | some (f, first, caps) => some (f, first ++ args.toList.map m.s.get ++ caps)
      | none => none
    | _ => none
  | none => none
def callable (P : Program) (f : FuncId) : Bool := match P.funcs[f]? with | some fn => fn.body.isSome && !(fn.name == "runtime.NumGoroutine") | none => false
/-- Behind a call: what it tells, the blocks that were handed in, new blocks. -/
def retM (m : MS) (idx : List Nat) (x : SV) (hp' : List Blk) : MS := ⟨popM m, mergeS m.s idx (dstM m) x hp'⟩
def fOnly : Blk → Option Blk
  | .f g cs t => some (.f g cs t)
  | _ => none
theorem fSub_of {S T : SS} {n : Nat} (h : S.hp.map fOnly = T.hp.map fOnly ++ List.replicate n none) : fSub S T := by
  intro i g cs t hi
  have h1 : (S.hp.map fOnly)[i]? = some (some (.f g cs t)) := by rw [List.getElem?_map, hi]; rfl
  rw [h, List.getElem?_append] at h1
  split at h1
  · rw [List.getElem?_map] at h1
    cases hb : T.hp[i]? with
    | none => rw [hb] at h1; simp at h1
    | some b =>
      rw [hb] at h1
      cases b <;> simp [fOnly] at h1
      obtain ⟨rfl, rfl, rfl⟩ := h1
      rfl
  · rw [List.getElem?_replicate] at h1
    split at h1 <;> simp at h1

theorem AtM.call {Q : QT} {f : FuncId} {av : List SV} {post : Post} (idx : List Nat) (hpI : List Blk) (h : callM m = some (f, av.map (SV.ren (inR idx)))) (hu : av.any SV.isU = false) (hc : callable Γ.P f = true)
    (hnd : idx.Nodup) (hsub : idx.map (m.s.hp[·]?) = hpI.map fun b => some (b.ren (inR idx))) (hC : CallG Γ.P f av hpI Φ post)
    (kr : ∀ Φ' x hp', PhiLe 0 Φ Φ' → post Φ' (.ret x) hp' → (retM m idx x hp').s.bd = true ∧ (∃ n, (retM m idx x hp').s.hp.map fOnly = m.s.hp.map fOnly ++ List.replicate n none) ∧ AtM Γ Q Φ' (retM m idx x hp'))
    (kp : ∀ Φ' ch hp', PhiLe 0 Φ Φ' → post Φ' (.pan ch) hp' → (mergeP m.s idx hp').bd = true ∧ ∀ S, At Γ Φ' S (Q (.panic ch))) : AtM Γ Q Φ m := by
  have hlen : idx.length = hpI.length := by have := congrArg List.length hsub; simpa using this
  unfold callM at h
  repeat' split at h
  all_goals first | cases h; done | skip
  rename_i o ho _ fo args aty hop _ f' first caps hfn
  simp only [Option.some.injEq, Prod.mk.injEq] at h
  obtain ⟨rfl, hav⟩ := h
  obtain ⟨all, l, k', hk, hw, hp, hd⟩ := opM_spec ho
  obtain ⟨fs, S⟩ := m
  simp only at hk hw hav kr kp hfn hsub; subst hk
  intro env hdr β a w hst
  unfold callable at hc
  split at hc
  · rename_i fn hf
    rw [Bool.and_eq_true, Bool.not_eq_true'] at hc
    refine At.call hop hw f' first caps hfn fn hf hc.1 hc.2 idx av hpI hav hu hnd hlen ?_ hC ?_ ?_ β a w hst
    · intro j i hj
      have hjl := lt_get hj
      have h1 : (idx.map (S.hp[·]?))[j]? = some (S.hp[i]?) := by rw [List.getElem?_map, hj]; rfl
      rw [hsub, List.getElem?_map, List.getElem?_eq_getElem (by omega)] at h1
      simp only [Option.map_some, Option.some.injEq] at h1
      exact ⟨hpI[j], List.getElem?_eq_getElem (by omega), h1.symm⟩
    · intro Φ' x hp' hle hpost _
      obtain ⟨h1, ⟨n, h2⟩, h3⟩ := kr Φ' x hp' hle hpost
      have h4 := h3 env (by unfold retM; rw [hp]; exact drwOk.mono (k := .ops all l :: k') hle (fSub_of h2) hdr)
      unfold retM at h1 h4
      rw [hp, hd] at h4
      rw [hd] at h1
      exact ⟨h1, h4⟩
    · intro Φ' ch hp' hle hpost _
      obtain ⟨h1, h2⟩ := kp Φ' ch hp' hle hpost
      refine ⟨h1, ?_⟩
      have h3 := h2 (mergeP S idx hp')
      rw [← exits_pan Γ.P Γ.md Q ch (.ops all l :: k')] at h3
      exact h3
  · cases hc

/-- What a call tells: one of these. -/
def tPost {τ : Type} (rv : τ → SV) (hps : τ → List Blk) (ens : τ → List En) : Post := fun Φ es hp => ∃ t, es = .ret (rv t) ∧ hp = hps t ∧ Reps Φ (ens t)
def ech (T : TypeId) (e : Int) : List PanicEntry := [{ v := .iface T (.int .i64 e), recovered := false }]
def ePost {α : Type} (T : TypeId) (n : Nat) (p : α → Post) : Ex α → Post
  | .ok a => p a
  | .pan e => fun _ es hp => es = .pan (ech T e) ∧ hp = List.replicate n .dead

/-- What is left of a call's state where it told. -/
def retOk (m : MS) (idx : List Nat) (x : SV) (hp' : List Blk) : Prop := (retM m idx x hp').s.bd = true ∧ (retM m idx x hp').s.hp.map fOnly = m.s.hp.map fOnly ++ List.replicate ((retM m idx x hp').s.hp.length - m.s.hp.length) none

section
variable {X : Type} {g : Option X} {F : X → Option A} {f : FuncId} {av : List SV}
theorem W.call (q : Nat) {τ : Type} {rv : X → τ → SV} {hps : X → τ → List Blk} {ens : X → τ → List En} (idx : List Nat) {hpI : List Blk} (H : Reps Φ L) (hC : ∀ x, g = some x → CallG Γ.P f av hpI Φ (tPost (rv x) (hps x) (ens x)))
    (k : ∀ x t Φ', g = some x → Reps Φ' (ens x t ++ L) → W Γ Q Φ' (retM (GM Γ Φ q m) idx (rv x t) (hps x t)) (F x) K)
    (h : callM (GM Γ Φ q m) = some (f, av.map (SV.ren (inR idx))) := by kernel_rfl) (hu : av.any SV.isU = false := by kernel_rfl) (hc : callable Γ.P f = true := by kernel_rfl) (hnd : idx.Nodup := by decide) (hsub : idx.map ((GM Γ Φ q m).s.hp[·]?) = hpI.map (fun b => some (b.ren (inR idx))) := by kernel_rfl)
    (hok : ∀ x t, retOk (GM Γ Φ q m) idx (rv x t) (hps x t) := by (intro _ _; exact ⟨by kernel_rfl, by kernel_rfl⟩)) : W Γ Q Φ m (g.bind F) K := by
  refine ⟨fun r hr => ?_⟩
  obtain ⟨x, hx, hF⟩ := Option.bind_eq_some_iff.1 (by rw [Option.bind_assoc] at hr; exact hr)
  refine AtM.go q (AtM.call idx hpI h hu hc hnd hsub (hC x hx) ?_ ?_)
  · rintro Φ' y hp' hle ⟨t, he, rfl, hR⟩
    cases he
    exact ⟨(hok x t).1, ⟨_, (hok x t).2⟩, k x t Φ' hx (hR.app (H.mono hle)) r hF⟩
  · rintro Φ' ch hp' hle ⟨t, he, _⟩; cases he
end
end
end Go.Sx
