/- SyE: boxes that stay, rows of the call's own. General: no program. -/
import Derived.Test.YtgkjblbmiooedaaSyD
namespace Go.Sx
open Go.RowKit

section
variable {Γ : Ctx} {Φ : Phi} {S : SS}
/-- A box of known cells stays as it is from here on, and is known on. -/
theorem At.fz {X : Act → World → Prop} (i : Nat) (xs : List Value) {t : TypeId} (hi : S.hp[i]? = some (.c (xs.map .v) t)) (k : ∀ g Φ', PhiLe 0 Φ Φ' → At Γ Φ' ⟨S.fr, S.hp.set i (.f g xs t)⟩ X) : At Γ Φ S X := fun β a w h => by
  have hlt := lt_get hi
  obtain ⟨vs, hv, hm⟩ := h.own.c i _ t hi
  have hvs : vs.toList = xs := by
    have := fits_any hm (by simp [SV.isU])
    rw [this, List.map_map]
    exact List.map_id _
  have hvs' : vs = xs.toArray := by apply Array.ext'; simpa using hvs
  subst hvs'
  have hno : Φ (β i) = none := h.own.phi i _ (β i) hi rfl
  let Φ' : Phi := fun b => if b = β i then some (.cells xs.toArray t (0, 0)) else Φ b
  have hle : PhiG Γ.G Γ.E.heap.size Φ Φ' := by
    refine ⟨fun b cs hb => ?_, fun b hb hn => by
      show (if _ then _ else _) = _
      rw [if_neg (by
        intro e
        rcases h.lo i _ (β i) hi rfl with h' | h'
        · omega
        · exact hn (e ▸ h'))]⟩
    show (if _ then _ else _) = _
    rw [if_neg (by rintro rfl; rw [hno] at hb; cases hb)]
    exact hb
  have hsplit : ∀ {j : Nat} {y : Blk}, (S.hp.set i (.f (β i) xs t))[j]? = some y → (j ≠ i ∧ S.hp[j]? = some y) ∨ (j = i ∧ y = .f (β i) xs t) := by
    intro j y hj
    rw [List.getElem?_set] at hj
    by_cases e : i = j
    · subst e; simp [hlt] at hj; exact .inr ⟨rfl, hj.symm⟩
    · rw [if_neg e] at hj; exact .inl ⟨fun e' => e e'.symm, hj⟩
  refine k (β i) Φ' ⟨hle.1, fun _ h => by omega⟩ β a w ⟨h.fr, h.df, ⟨?_, ?_, ?_, ?_, ?_⟩, ?_, ?_, h.keep, ⟨fun b cs hb => hle.1 b cs (h.phi.1 b cs hb), fun b hb hn => by rw [hle.2 b hb hn]; exact h.phi.2 b hb hn⟩, ?_, h.pin, by simp only [List.length_set]; exact h.len⟩
  · intro j cs t' hj
    rcases hsplit hj with ⟨_, hj⟩ | ⟨_, he⟩
    · exact h.own.c j cs t' hj
    · cases he
  · intro j v q ys t' s hj
    rcases hsplit hj with ⟨_, hj⟩ | ⟨_, he⟩
    · exact h.own.o j v q ys t' s hj
    · cases he
  · intro p q bp bq kk hp hq lp lq
    rcases hsplit hp with ⟨_, hp⟩ | ⟨_, rfl⟩
    · rcases hsplit hq with ⟨_, hq⟩ | ⟨_, rfl⟩
      · exact h.own.inj p q bp bq kk hp hq lp lq
      · cases lq
    · cases lp
  · intro p b kk hp hk
    rcases hsplit hp with ⟨hpi, hp⟩ | ⟨_, rfl⟩
    · show (if _ then _ else _) = _
      rw [if_neg (by rintro rfl; exact hpi (h.own.inj p i b _ (β i) hp hi hk rfl))]
      exact h.own.phi p b kk hp hk
    · cases hk
  · intro j g cs t' hj
    rcases hsplit hj with ⟨_, hj⟩ | ⟨rfl, he⟩
    · exact ⟨(h.own.f j g cs t' hj).1, hle.1 _ _ (h.own.f j g cs t' hj).2⟩
    · cases he
      exact ⟨rfl, by show (if _ then _ else _) = _; rw [if_pos rfl]⟩
  · intro b cs hb
    replace hb : (if b = β i then some (Obj.cells xs.toArray t (0, 0)) else Φ b) = some cs := hb
    split at hb
    · rename_i e'; cases hb; exact ⟨by rw [e']; exact hv, rfl⟩
    · exact h.sto b cs hb
  · intro p b kk hp hk
    rcases hsplit hp with ⟨_, hp⟩ | ⟨_, rfl⟩
    · exact h.lo p b kk hp hk
    · cases hk
  · have := h.bd
    unfold SS.bd at this ⊢
    rw [Bool.and_eq_true] at this ⊢
    simp only [List.length_set]
    refine ⟨this.1, ?_⟩
    rw [List.all_eq_true]
    intro b hb
    rcases List.mem_or_eq_of_mem_set hb with hb | rfl
    · exact List.all_eq_true.1 this.2 b hb
    · rfl
end

def noDrw : List Fr → Bool
  | [] => true
  | .drw _ _ _ _ :: _ => false
  | _ :: k => noDrw k
theorem drwOk.none {Φ : Phi} {S : SS} : ∀ {k : List Fr}, noDrw k = true → drwOk Φ S k
  | [], _ => trivial
  | .drw _ _ _ _ :: _, h => by cases h
  | .ops _ _ :: k, h => drwOk.none (k := k) h
  | .code _ :: k, h => drwOk.none (k := k) h
  | .blk _ :: k, h => drwOk.none (k := k) h
  | .scp :: k, h => drwOk.none (k := k) h
  | .lp _ :: k, h => drwOk.none (k := k) h

def cellsV (i : Nat) (m : MS) : List Value := match m.s.hp[i]? with | some (.c cs _) => (cs.map fun x => match x with | .v x => x | _ => undef) | _ => []
def tyB (i : Nat) (m : MS) : TypeId := match m.s.hp[i]? with | some (.c _ t) => t | _ => 0
def setH (m : MS) (i : Nat) (b : Blk) : MS := ⟨m.k, ⟨m.s.fr, m.s.hp.set i b⟩⟩

section
variable {A R : Type} {Γ : Ctx} {Q : R → QT} {Φ : Phi} {m : MS} {o : Option A} {K : A → Option R} {L : List En}

theorem W.fz (q : Nat) (i : Nat) (H : Reps Φ L) (k : ∀ g Φ', Reps Φ' L → W Γ Q Φ' (setH (GM Γ Φ q m) i (.f g (cellsV i (GM Γ Φ q m)) (tyB i (GM Γ Φ q m)))) o K)
    (hi : (GM Γ Φ q m).s.hp[i]? = some (.c ((cellsV i (GM Γ Φ q m)).map .v) (tyB i (GM Γ Φ q m))) := by kernel_rfl) (hd : noDrw (GM Γ Φ q m).k = true := by kernel_rfl) : W Γ Q Φ m o K := ⟨fun r hr =>
  AtM.go q fun env _ => At.fz i _ hi fun g Φ' hle => k g Φ' (H.mono hle) r hr env (drwOk.none hd)⟩
def eqOp (P : Program) (m : MS) : Option Bool :=
  match opM m with
  | some o => match o.op with
    | .binOp op t x y _ => match m.s.get x, m.s.get y, op, P.eqGuardType P.depth t with
      | .agg xs, .agg ys, .eql, false => eqV P 10000 t (.agg xs) (.agg ys)
      | .agg xs, .agg ys, .neq, false => (eqV P 10000 t (.agg xs) (.agg ys)).map (!·)
      | _, _, _, _ => none
    | _ => none
  | none => none
/-- Structs and arrays compared. -/
theorem W.eq (q : Nat) (b : Bool) (k : W Γ Q Φ (putM (GM Γ Φ q m) (.v (.bool b))) o K) (h : eqOp Γ.P (GM Γ Φ q m) = some b := by kernel_rfl) : W Γ Q Φ m o K := by
  refine ⟨fun r hr => ?_⟩
  refine AtM.go q ?_
  unfold eqOp at h
  split at h
  · rename_i o ho
    split at h
    · rename_i op t x y u hop
      split at h
      · rename_i xs ys hx hy hg
        exact AtM.val ho _ rfl (Val.eqv hop hx hy h hg b (.inl ⟨rfl, rfl⟩)) (k r hr)
      · rename_i xs ys hx hy hg
        obtain ⟨b', hb', rfl⟩ := Option.map_eq_some_iff.1 h
        exact AtM.val ho _ rfl (Val.eqv hop hx hy hb' hg _ (.inr ⟨rfl, rfl⟩)) (k r hr)
      · cases h
    · cases h
  · cases h

/- the least, and the greatest, of two -/
def mn (a b : Int) : Int := if b < a then b else a
def mx (a b : Int) : Int := if a < b then b else a
def mmOp (m : MS) : Option (Bool × IntKind × Int × Int) :=
  match opM m with
  | some o => match o.op with
    | .call { callee := .builtin .min, args, argTypes := _ } => match args.toList with
      | [x, y] => match m.s.get x, m.s.get y with
        | .v (.int k a), .v (.int k' b) => if k = k' then some (true, k, a, b) else none
        | _, _ => none
      | _ => none
    | .call { callee := .builtin .max, args, argTypes := _ } => match args.toList with
      | [x, y] => match m.s.get x, m.s.get y with
        | .v (.int k a), .v (.int k' b) => if k = k' then some (false, k, a, b) else none
        | _, _ => none
      | _ => none
    | _ => none
  | none => none
theorem W.mm (q : Nat) (b : Bool) (kd : IntKind) (x y : Int) (k : W Γ Q Φ (putM (GM Γ Φ q m) (.v (.int kd (if b then mn x y else mx x y)))) o K) (h : mmOp (GM Γ Φ q m) = some (b, kd, x, y) := by kernel_rfl) : W Γ Q Φ m o K := by
  refine ⟨fun r hr => AtM.go q ?_⟩
  unfold mmOp at h
  split at h
  · rename_i o ho
    split at h
    · rename_i args aty hop
      split at h
      · rename_i u v ha
        split at h
        · rename_i k1 a1 k2 b1 hx hy
          split at h
          · rename_i e; subst e; cases h
            have ha' : args = #[u, v] := by apply Array.ext'; simpa using ha
            subst ha'
            exact AtM.val ho _ rfl (Val.min hop hx hy rfl) (k r hr)
          · cases h
        · cases h
      · cases h
    · rename_i args aty hop
      split at h
      · rename_i u v ha
        split at h
        · rename_i k1 a1 k2 b1 hx hy
          split at h
          · rename_i e; subst e; cases h
            have ha' : args = #[u, v] := by apply Array.ext'; simpa using ha
            subst ha'
            exact AtM.val ho _ rfl (Val.max hop hx hy rfl) (k r hr)
          · cases h
        · cases h
      · cases h
    · cases h
  · cases h

/- regions that draw: a reader that is taken, two that may be first -/
def tkM (m : MS) (i : Nat) : Option (Array Oper × Nat × Array Bool × List Fr × Oper) :=
  match m.k with
  | .drw ops _ (n + 1) l :: k => match ops[i]? with
    | some o => match Region.noSelect ops, Region.free .any ops l i, (Region.ready .any ops l).contains i, wantS ops m.s o with
      | true, true, true, some true => some (ops, n, l, k, o)
      | _, _, _, _ => none
    | none => none
  | _ => none
def phM (m : MS) : Option Phi := match m.k with | .drw _ Φ0 _ _ :: _ => some Φ0 | _ => none
def tkS (m : MS) (i : Nat) (x : SV) : MS :=
  match m.k with
  | .drw ops Φ0 (n + 1) l :: k => ⟨.drw ops Φ0 n (l.setIfInBounds i true) :: k, m.s.put ((ops[i]?).bind (·.dst)) x⟩
  | _ => m
theorem AtM.tk (hmd : Γ.md = none) {Q : QT} {Φ0 : Phi} (i : Nat) {ops : Array Oper} {n : Nat} {l : Array Bool} {k0 : List Fr} {o : Oper} (h : tkM m i = some (ops, n, l, k0, o)) (hp : phM m = some Φ0) (x : SV) (hx : x.ok 0 = true) (hu : x.isU = false)
    (hv : ∀ E β, Val ⟨Γ.P, E, fun _ _ => False, Φ0, β, 0, Γ.df, none⟩ Φ0 m.s.bare o x) (k : PhiLe 0 Φ0 Φ → AtM Γ Q Φ (tkS m i x)) : AtM Γ Q Φ m := by
  unfold tkM at h
  split at h
  · rename_i ops' Φ0' n' l' k' hk
    split at h
    · rename_i o' ho
      split at h
      · rename_i h1 h2 h3 h4
        cases h
        obtain ⟨fs, S⟩ := m
        simp only at hk h4 hv; subst hk
        have e : Φ0' = Φ0 := by unfold phM at hp; simpa using hp
        subst e
        intro env hd
        refine At.held hd.1.1 ?_
        have h5 := k hd.1.1
        unfold tkS at h5
        simp only [ho, Option.bind_some] at h5
        intro β a w hst
        have hb := put_bd hst.bd o.dst (x := x) (ok_bd hx)
        have hS : putB S o.dst x = some (S.put o.dst x) := by unfold putB; rw [if_pos hb]
        exact At.take hd.1.1 hd.1.2 (panOk_exits (env.pan hmd) k0) i ho h1 h2 h3 h4 x hu hv hS _ rfl ((h5 env (drwOk.sub (k := .drw _ _ _ _ :: _) (fSub.of_hp (put_hp _ _ _)) hd)).imp fun _ _ q => q.2) β a w hst
      · cases h
    · cases h
  · cases h
theorem Fits.bare {S : SS} (x : Operand) : S.bare.get x = S.get x := by cases x <;> rfl

def ixT (P : Program) (m : MS) (i : Nat) : Option (Value × Nat × IntKind × Int) :=
  match tkM m i with
  | some (_, _, _, _, o) => match o.op with
    | .indexAddr t x ix => match P.underlying t, m.s.get x, m.s.get ix with
      | some (.slice e), .v v, .v (.int kd i) => match szT P e with
        | some sz => some (v, sz, kd, i)
        | none => none
      | _, _, _ => none
    | _ => none
  | none => none
theorem W.ixt (q : Nat) (j p0 : Nat) (kd : IntKind) {Φ0 : Phi} {L0 : List En} {α : Type} {enc : α → D} {xs : List α} {F : α → Option A} {i : Int} {sz n : Nat} {B : Option Addr} {c : Nat} (H0 : Reps Φ0 L0) (H : Reps Φ L)
    (k : ∀ e pv, Reps Φ0 (.d (.box (enc e)) pv :: L0) → Reps Φ (.d (.box (enc e)) pv :: L) → W Γ Q Φ (tkS (GM Γ Φ q m) j (.v pv)) (F e) K)
    (hp : L0[p0]? = some (.d (.row sz n (xs.map enc)) (.slice B n c)) := by rfl) (hph : phM (GM Γ Φ q m) = some Φ0 := by kernel_rfl) (h : ixT Γ.P (GM Γ Φ q m) j = some (.slice B n c, sz, kd, i) := by kernel_rfl) (hsz : 0 < sz := by decide) (hmd : Γ.md = none := by rfl) : W Γ Q Φ m (ixd xs i F) K := by
  refine ⟨fun r hr => AtM.go q ?_⟩
  unfold ixT at h
  split at h
  · rename_i ops' n' l' k' o htk
    split at h
    · rename_i t x ix hop
      split at h
      · rename_i e' v' kd' i' hu hx hi
        split at h
        · rename_i sz' hs
          cases h
          unfold ixd at hr
          split at hr
          · rename_i h0
            split at hr
            · rename_i e he
              have hr1 : Rc Φ0 (.row sz n (xs.map enc)) [.slice B n c] := H0.get p0 hp
              simp only [Rc] at hr1
              obtain ⟨hn, A', c', ws, hv, hc, hR, hrr⟩ := hr1
              simp only [List.cons.injEq, Value.slice.injEq, and_true, true_and] at hv
              obtain ⟨rfl, rfl⟩ := hv
              have hlt := lt_get he
              have hwl := hrr.len
              obtain ⟨us, hul, hrc, hget⟩ := hrr.get (i := i.toNat) (x := enc e) (by rw [List.getElem?_map, he]; rfl)
              rw [List.length_map] at hwl hn
              have hpos : 0 < ws.length := by rw [hwl]; exact Nat.mul_pos (by omega) hsz
              obtain ⟨b, off, cs, tt, z, rfl, hΦ, hcs⟩ := hR hpos
              have hbox : Rc Φ0 (.box (enc e)) [.pointer (some ⟨b, off + i.toNat * sz, none⟩)] := by
                simp only [Rc]
                exact ⟨b, off + i.toNat * sz, us, rfl, fun _ => ⟨b, _, cs, tt, z, rfl, hΦ, fun j u hj => by rw [Nat.add_assoc]; exact hcs _ _ (hget j u hj)⟩, hrc⟩
              refine AtM.tk hmd j htk hph (.v (.pointer (some ⟨b, off + i.toNat * sz, none⟩))) rfl rfl (fun E β => ?_) (fun hle => ?_)
              · exact Val.idx (Γ := ⟨Γ.P, E, fun _ _ => False, Φ0, β, 0, Γ.df, none⟩) hop hu hs (by rw [Fits.bare]; exact hx) (by rw [Fits.bare]; exact hi) h0 (by omega)
              · exact k e _ (H0.cons hbox) (H.cons (Rc.mono hle _ _ hbox)) r hr
            · simp at hr
          · simp at hr
        · cases h
      · cases h
    · cases h
  · cases h
def ldTm (P : Program) (l : List D) (m : MS) (i : Nat) : Option (Value × Bool) :=
  match tkM m i with
  | some (_, _, _, _, o) => match o.op with
    | .load t x => match m.s.get x, P.underlying t, szT P t with
      | .v v, some d, some n => if n == l.length && n != 0 && (aggD d || n == 1) then some (v, aggD d) else none
      | _, _, _ => none
    | _ => none
  | none => none
theorem W.ldt (q : Nat) (j p0 : Nat) (bs : List Bool) (ag : Bool) {Φ0 : Phi} {L0 : List En} {x : D} {v : Value} (H0 : Reps Φ0 L0) (H : Reps Φ L)
    (k : VrAll bs fun us => Reps Φ0 (cellEn x.cells us ++ L0) → Reps Φ (cellEn x.cells us ++ L) → W Γ Q Φ (tkS (GM Γ Φ q m) j (ldSV ag (cellSV x.cells us))) o K)
    (hp : L0[p0]? = some (.d (.box x) v) := by rfl) (hph : phM (GM Γ Φ q m) = some Φ0 := by kernel_rfl) (h : ldTm Γ.P x.cells (GM Γ Φ q m) j = some (v, ag) := by kernel_rfl) (hb : vrs x.cells = bs := by kernel_rfl) (hmd : Γ.md = none := by rfl) : W Γ Q Φ m o K := by
  refine ⟨fun r hr => AtM.go q ?_⟩
  unfold ldTm at h
  split at h
  · rename_i ops' n' l' k' o' htk
    split at h
    · rename_i t x' hop
      split at h
      · rename_i v' d n hx hu hs
        split at h
        · rename_i hc
          cases h
          rw [Bool.and_eq_true, Bool.and_eq_true, Bool.or_eq_true, beq_iff_eq, beq_iff_eq, bne_iff_ne] at hc
          obtain ⟨⟨rfl, hne⟩, hag⟩ := hc
          have hbx : Rc Φ0 (.box x) [v] := H0.get p0 hp
          simp only [Rc] at hbx
          obtain ⟨b, off, ws, hv, hR, hrc⟩ := hbx
          simp only [List.cons.injEq, and_true] at hv
          subst hv
          have hra := hrc.cells
          have hwl := hra.len
          obtain ⟨us, h1, h2, h3⟩ := hra.open
          have hk := VrAll.get k us (h1.trans hb) (h3.app H0)
          have hpos : 0 < ws.length := by omega
          have hok : ∀ l : List Value, SV.okL 0 (l.map SV.v) = true := fun l => all_okL 0 _ (by intro y hy; obtain ⟨z, _, rfl⟩ := List.mem_map.1 hy; rfl)
          have hmono : PhiLe 0 Φ0 Φ → Reps Φ (cellEn x.cells us ++ L) := fun hle => (h3.mono hle).app H
          rcases Bool.eq_false_or_eq_true (aggD d) with hd | hd
          · rw [hd] at hk
            have hl : ldB Γ.P t (ws.map .v) 0 = some (.agg (ws.map .v)) := ldB_vals hu (by rw [hs, hwl]) hd
            refine AtM.tk hmd j htk hph (.agg (ws.map .v)) (by simp only [SV.ok]; exact hok ws) rfl (fun E β => ?_) (fun hle => ?_)
            · exact Val.ldB (Γ := ⟨Γ.P, E, fun _ _ => False, Φ0, β, 0, Γ.df, none⟩) hop hR hpos 0 off rfl (by rw [Fits.bare]; exact hx) _ hl
            · have := hk (hmono hle) r hr
              rw [← h2] at this; exact this
          · rw [hd] at hk
            have h11 : ws.length = 1 := by
              rw [hwl]
              rcases hag with h | h
              · rw [hd] at h; cases h
              · exact h
            obtain ⟨u, rfl⟩ := List.length_eq_one_iff.1 h11
            have hl : ldB Γ.P t ([u].map .v) 0 = some (.v u) := by unfold ldB; rw [hu, hs]; simp only [hd]; rfl
            refine AtM.tk hmd j htk hph (.v u) rfl rfl (fun E β => ?_) (fun hle => ?_)
            · exact Val.ldB (Γ := ⟨Γ.P, E, fun _ _ => False, Φ0, β, 0, Γ.df, none⟩) hop hR hpos 0 off rfl (by rw [Fits.bare]; exact hx) _ hl
            · have := hk (hmono hle) r hr
              rw [← h2] at this; exact this
        · cases h
      · cases h
    · cases h
  · cases h
/-- Two may be first. -/
def anyM (m : MS) (i : Nat) : MS :=
  match m.k with
  | .drw ops Φ0 (n + 1) l :: k => match ops[i]? with
    | some o => ⟨.ops ops [o] :: .drw ops Φ0 n (l.setIfInBounds i true) :: k, m.s⟩
    | none => m
  | _ => m
def rdyM (m : MS) : List Nat := match m.k with | .drw ops _ (_ + 1) l :: _ => if (Region.ready .any ops l).all fun i => (ops[i]?).isSome then Region.ready .any ops l else [] | _ => []
theorem AtM.any2 {Q : QT} (i j : Nat) (h1 : AtM Γ Q Φ (anyM m i)) (h2 : AtM Γ Q Φ (anyM m j)) (h : rdyM m = [i, j]) : AtM Γ Q Φ m := by
  obtain ⟨fs, S⟩ := m
  unfold rdyM at h
  split at h
  · rename_i ops Φ0 n l k' hk
    simp only at hk; subst hk
    split at h
    · rename_i hall
      rw [h] at hall
      simp only [List.all_cons, List.all_nil, Bool.and_true, Bool.and_eq_true, Option.isSome_iff_exists] at hall
      obtain ⟨⟨o1, ho1⟩, ⟨o2, ho2⟩⟩ := hall
      unfold anyM at h1 h2
      simp only [ho1, ho2] at h1 h2
      intro env hd
      exact At.held hd.1.1 (At.any2 i j h ho1 ho2 _ _ rfl rfl (h1 env hd) (h2 env hd))
    · cases h
  · cases h
theorem W.any2 (q : Nat) (i j : Nat) (k1 : W Γ Q Φ (anyM (GM Γ Φ q m) i) o K) (k2 : W Γ Q Φ (anyM (GM Γ Φ q m) j) o K) (h : rdyM (GM Γ Φ q m) = [i, j] := by kernel_rfl) : W Γ Q Φ m o K :=
  ⟨fun r hr => AtM.go q (AtM.any2 i j (k1 r hr) (k2 r hr) h)⟩
end
end Go.Sx
