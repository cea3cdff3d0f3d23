/- SxC: equality of structs and arrays; reads of rows that stay; boxes that stay. General: no program. -/
import Derived.Test.YtgkjblbmiooedaaSxB
import Derived.Laws.StructEq
namespace Go.Sx
open Go.RowKit

def eqFs (P : Program) (rec : TypeId → SV → SV → Option Bool) (xs ys : List SV) : List Field → Option Bool
  | [] => some true
  | f :: fs => if (f.name == "_") then eqFs P rec xs ys fs else
    match ldB P f.type xs f.offset, ldB P f.type ys f.offset with
    | some a, some b => match rec f.type a b, eqFs P rec xs ys fs with
      | some r, some r' => some (r && r')
      | _, _ => none
    | _, _ => none
def eqAs (P : Program) (rec : TypeId → SV → SV → Option Bool) (e n : Nat) (xs ys : List SV) : List Nat → Option Bool
  | [] => some true
  | i :: is => match ldB P e xs (i * n), ldB P e ys (i * n) with
    | some a, some b => match rec e a b, eqAs P rec e n xs ys is with
      | some r, some r' => some (r && r')
      | _, _ => none
    | _, _ => none
def eqV (P : Program) : Nat → TypeId → SV → SV → Option Bool
  | 0, _, _, _ => none
  | d + 1, t, x, y => match P.underlying t with
    | some (.int _) => match x, y with
      | .v (.int k a), .v (.int k' b) => if k = k' then some (a == b) else none
      | _, _ => none
    | some .bool => match x, y with
      | .v (.bool a), .v (.bool b) => some (a == b)
      | _, _ => none
    | some (.struct _) => match x, y with
      | .agg xs, .agg ys => if P.stoodInHeld t then none else eqFs P (eqV P d) xs ys (P.fieldsOf t).toList
      | _, _ => none
    | some (.array n e) => match x, y with
      | .agg xs, .agg ys => match szT P e with
        | some sz => eqAs P (eqV P d) e sz xs ys (List.range' 0 n)
        | none => none
      | _, _ => none
    | _ => none

theorem agg_fits {β : Nat → Nat} {l : List SV} {v : Value} (h : Fits β (.agg l) v) : ∃ vs : List Value, v = .agg vs.toArray ∧ Mat β l vs := by
  have h1 := h.known (by simp)
  refine ⟨l.map (den β), by rw [h1, den, denL_eq], ?_⟩
  exact ⟨by simp, fun k c u hc hu => by
    rw [List.getElem?_map, hc] at hu; cases hu; exact .inr rfl⟩

theorem eqFs_sound {P : Program} {β : Nat → Nat} {d : Nat} {w : World} (ih : ∀ (t : TypeId) (x y : SV) (b : Bool), eqV P d t x y = some b → ∀ u v, Fits β x u → Fits β y v → (Op.equalIn d t u v).run P w = .ok b w)
    {xs ys : List SV} {us vs : List Value} (hx : Mat β xs us) (hy : Mat β ys vs) : ∀ (fs : List Field) (b : Bool), eqFs P (eqV P d) xs ys fs = some b → (Op.eqFields d us.toArray vs.toArray fs).run P w = .ok b w := by
  intro fs
  induction fs with
  | nil => intro b hb; cases hb; rfl
  | cons f fs ihf =>
    intro b hb
    unfold eqFs at hb
    unfold Op.eqFields
    by_cases hn : f.name = "_"
    · rw [if_neg (by simp [hn])]
      rw [if_pos (by simp [hn])] at hb
      exact ihf b hb
    · rw [if_pos hn]
      rw [if_neg (by simpa using hn)] at hb
      split at hb
      · rename_i a c ha hc
        split at hb
        · rename_i r r' hr hr'
          cases hb
          obtain ⟨va, hva, hfa⟩ := run_part hx ha w
          obtain ⟨vc, hvc, hfc⟩ := run_part hy hc w
          have h1 := ih _ _ _ _ hr va vc hfa hfc
          simp only [Sem.run_bind, hva, hvc, Result.andThen_ok, h1]
          cases r with
          | true => simp [ihf r' hr']
          | false => simp
        · cases hb
      · cases hb

theorem eqAs_sound {P : Program} {β : Nat → Nat} {d : Nat} {w : World} (ih : ∀ (t : TypeId) (x y : SV) (b : Bool), eqV P d t x y = some b → ∀ u v, Fits β x u → Fits β y v → (Op.equalIn d t u v).run P w = .ok b w)
    {xs ys : List SV} {us vs : List Value} (hx : Mat β xs us) (hy : Mat β ys vs) (e n : Nat) : ∀ (is : List Nat) (b : Bool), eqAs P (eqV P d) e n xs ys is = some b →
      ((forIn is ((none, ()) : Option Bool × Unit) fun i _ => do
          let b ← Op.equalIn d e (← part e us.toArray (i * n)) (← part e vs.toArray (i * n))
          if (!b) = true then pure (ForInStep.done (some false, ())) else pure (ForInStep.yield (none, ()))) >>= (fun r =>
        match r.1 with
        | some a => pure a
        | none => pure true) : Sem Bool).run P w = .ok b w := by
  intro is
  induction is with
  | nil => intro b hb; cases hb; rfl
  | cons i is ihf =>
    intro b hb
    unfold eqAs at hb
    split at hb
    · rename_i a c ha hc
      split at hb
      · rename_i r r' hr hr'
        cases hb
        obtain ⟨va, hva, hfa⟩ := run_part hx ha w
        obtain ⟨vc, hvc, hfc⟩ := run_part hy hc w
        have h1 := ih _ _ _ _ hr va vc hfa hfc
        have h2 := ihf r' hr'
        rw [List.forIn_cons]
        simp only [Sem.run_bind, hva, hvc, Result.andThen_ok, h1] at h2 ⊢
        cases r with
        | true => simpa using h2
        | false => simp
      · cases hb
    · cases hb

theorem eqV_sound {P : Program} {β : Nat → Nat} {w : World} : ∀ (d : Nat) (t : TypeId) (x y : SV) (b : Bool), eqV P d t x y = some b → ∀ u v, Fits β x u → Fits β y v → (Op.equalIn d t u v).run P w = .ok b w := by
  intro d
  induction d with
  | zero => intro t x y b h; cases h
  | succ d ih =>
    intro t x y b h u v hu hv
    unfold eqV at h
    split at h
    · rename_i k0 ht
      split at h
      · rename_i k a k' c
        split at h
        · rename_i hk
          cases h; subst hk
          rw [hu.known (by simp), hv.known (by simp)]
          rw [Op.equalIn, Sem.run_bind, run_underlying ht, Result.andThen_ok]
          simp [den]
        · cases h
      · cases h
    · rename_i ht
      split at h
      · cases h
        rw [hu.known (by simp), hv.known (by simp)]
        rw [Op.equalIn, Sem.run_bind, run_underlying ht, Result.andThen_ok]
        rfl
      · cases h
    · rename_i fs ht
      split at h
      · split at h
        · cases h
        · rename_i hst
          obtain ⟨us, rfl, hmu⟩ := agg_fits hu
          obtain ⟨vs, rfl, hmv⟩ := agg_fits hv
          have hf : P.fieldsOf t = fs := by unfold Program.fieldsOf; rw [ht]
          rw [run_equalIn_struct w d t _ _ (by rw [ht, hf]) (by simpa using hst)]
          exact eqFs_sound ih hmu hmv _ _ h
      · cases h
    · rename_i n e ht
      split at h
      · split at h
        · rename_i sz hsz
          obtain ⟨us, rfl, hmu⟩ := agg_fits hu
          obtain ⟨vs, rfl, hmv⟩ := agg_fits hv
          rw [Op.equalIn, Sem.run_bind, run_underlying ht, Result.andThen_ok]
          simp only [Sem.run_bind, run_sizeOf' hsz, Result.andThen_ok]
          have := eqAs_sound ih hmu hmv e sz _ _ h
          simp only [Std.Legacy.Range.forIn_eq_forIn_range', Std.Legacy.Range.size]
          rw [Sem.run_bind] at this
          simp only [Nat.sub_zero, Nat.add_one_sub_one, Nat.div_one]
          revert this
          generalize (Sem.run P (forIn (List.range' 0 n) _ _) w) = R
          cases R with
          | ok a w' => obtain ⟨a1, a2⟩ := a; cases a1 <;> exact id
          | halt h w' => exact id
        · cases h
      · cases h
    · cases h

section
variable {Γ : Ctx} {Φ : Phi} {S S' : SS} {Q : Exit → Act → World → Prop} {ops : Array Oper} {rest : List Oper} {o : Oper}

/-- Structs and arrays compared. -/
theorem At.eqv {op : BinOp} {t u : TypeId} {x y : Operand} (ho : o.op = .binOp op t x y u) (hw : wantS ops S o = some true) {xs ys : List SV} (hx : S.get x = .agg xs) (hy : S.get y = .agg ys)
    {b : Bool} (he : eqV Γ.P 10000 t (.agg xs) (.agg ys) = some b) (hg : Γ.P.eqGuardType Γ.P.depth t = false) (b' : Bool) (hb : (op = .eql ∧ b = b') ∨ (op = .neq ∧ (!b) = b'))
    (hS : putB S o.dst (.v (.bool b')) = some S') (k : At Γ Φ S' (wpList Γ.P ops Q rest)) : At Γ Φ S (wpList Γ.P ops Q (o :: rest)) := by
  refine At.val hw _ hS (fun β a w h => ⟨_, ?_, .inr rfl⟩) k
  have hfx : Fits β (.agg xs) (a.eval x) := hx ▸ h.eval x
  have hfy : Fits β (.agg ys) (a.eval y) := hy ▸ h.eval y
  have hrun := eqV_sound (w := w) _ _ _ _ _ he _ _ hfx hfy
  obtain ⟨us, hus, _⟩ := agg_fits hfx
  obtain ⟨vs, hvs, _⟩ := agg_fits hfy
  unfold execOp; rw [ho]
  rw [hus, hvs] at hrun
  simp only [hus, hvs, Sem.run_bind, run_eqGuard_agg w op t x y _ _ hg, Result.andThen_ok]
  rcases hb with ⟨rfl, rfl⟩ | ⟨rfl, rfl⟩ <;> (unfold binOp; simp only [Sem.run_bind, run_equal_of hrun, Result.andThen_ok, Sem.run_pure, den])

theorem RdC.addr {A : Option Addr} {xs : List Value} (h : RdC Φ A xs) (hp : 0 < xs.length) : ∃ b off, A = some ⟨b, off, none⟩ := by
  obtain ⟨b, off, _, _, _, h, _⟩ := h hp
  exact ⟨b, off, h⟩

theorem flat_get {α : Type} {enc : α → List Value} {sz : Nat} (hsz : ∀ x, (enc x).length = sz) : ∀ (xs : List α) (i : Nat) (x : α) (j : Nat) (u : Value), xs[i]? = some x → (enc x)[j]? = some u → (xs.flatMap enc)[i * sz + j]? = some u
  | [], i, x, j, u, h, _ => by simp at h
  | y :: xs, 0, x, j, u, h, hj => by
    cases h
    rw [Nat.zero_mul, Nat.zero_add, List.flatMap_cons, List.getElem?_append_left (lt_get hj)]
    exact hj
  | y :: xs, i + 1, x, j, u, h, hj => by
    rw [List.flatMap_cons, List.getElem?_append_right (by rw [hsz]; rw [Nat.succ_mul]; omega), hsz]
    have := flat_get hsz xs i x j u h hj
    rw [Nat.succ_mul, ← this]
    congr 1
    omega
theorem flat_len {α : Type} {enc : α → List Value} {sz : Nat} (hsz : ∀ x, (enc x).length = sz) : ∀ (xs : List α), (xs.flatMap enc).length = xs.length * sz
  | [] => by simp
  | y :: xs => by rw [List.flatMap_cons, List.length_append, flat_len hsz xs, hsz, List.length_cons, Nat.succ_mul]; omega

/-- A read of an element, or a part of it, of a row that stays. -/
theorem At.ldE {t : TypeId} {p : Operand} (ho : o.op = .load t p) (hw : wantS ops S o = some true) {α : Type} {enc : α → List Value} {xs : List α} {b off : Nat} (hR : RdC Φ (some ⟨b, off, none⟩) (xs.flatMap enc)) {sz : Nat} (hsz : ∀ x, (enc x).length = sz) (hsp : 0 < sz)
    (i : Nat) (e : α) (hi : xs[i]? = some e) (d : Nat) (pos : Nat) (hpos : pos = off + i * sz + d) (hp : S.get p = .v (.pointer (some ⟨b, pos, none⟩))) (x : SV) (hl : ldB Γ.P t ((enc e).map .v) d = some x)
    (hS : putB S o.dst x = some S') (k : At Γ Φ S' (wpList Γ.P ops Q rest)) : At Γ Φ S (wpList Γ.P ops Q (o :: rest)) := by
  subst hpos
  refine At.val hw x hS (fun β a w h => ?_) k
  by_cases hlen : 0 < (xs.flatMap enc).length
  · obtain ⟨b', off', cs, tt, z, hA, hΦ, hc⟩ := hR hlen
    injection hA with hA
    injection hA with hA1 hA2
    subst hA1 hA2
    obtain ⟨hz, hzq⟩ := h.sto _ _ hΦ
    obtain ⟨v, hr, hf⟩ := run_ldB (P := Γ.P) (w := w) (β := β) (mat_v (β := β) (enc e)) hl b (off + i * sz + d) (fun j v hj => by
      rw [List.getElem?_drop] at hj
      rw [cell_of_row w b _ cs tt z hz, ← hc (i * sz + (d + j)) v (flat_get hsz xs i e (d + j) v hi hj)]
      congr 1
      omega)
    refine ⟨v, ?_, hf⟩
    unfold execOp; rw [ho]
    simp [Instr.loadAt, fits_v h hp, Instr.sureAddr, hr]
  · exfalso
    have h0 : 0 < (enc e).length := by rw [hsz]; exact hsp
    have := flat_get hsz xs i e 0 _ hi (List.getElem?_eq_getElem h0)
    exact hlen (Nat.lt_of_le_of_lt (Nat.zero_le _) (lt_get this))

/-- A read of a box that stays. -/
theorem At.ldB {t : TypeId} {p : Operand} (ho : o.op = .load t p) (hw : wantS ops S o = some true) {b off : Nat} {xs : List Value} (hR : RdC Φ (some ⟨b, off, none⟩) xs) (hpos : 0 < xs.length) (d pos : Nat) (hd : pos = off + d) (hp : S.get p = .v (.pointer (some ⟨b, pos, none⟩)))
    (x : SV) (hl : ldB Γ.P t (xs.map .v) d = some x) (hS : putB S o.dst x = some S') (k : At Γ Φ S' (wpList Γ.P ops Q rest)) : At Γ Φ S (wpList Γ.P ops Q (o :: rest)) := by
  subst hd
  refine At.val hw x hS (fun β a w h => ?_) k
  obtain ⟨b', off', cs, tt, z, hA, hΦ, hc⟩ := hR hpos
  injection hA with hA
  injection hA with hA1 hA2
  subst hA1 hA2
  obtain ⟨hz, hzq⟩ := h.sto _ _ hΦ
  obtain ⟨v, hr, hf⟩ := run_ldB (P := Γ.P) (w := w) (β := β) (mat_v (β := β) xs) hl b (off + d) (fun j v hj => by
    rw [List.getElem?_drop] at hj
    rw [cell_of_row w b _ cs tt z hz, ← hc (d + j) v hj]
    congr 1
    omega)
  refine ⟨v, ?_, hf⟩
  unfold execOp; rw [ho]
  simp [Instr.loadAt, fits_v h hp, Instr.sureAddr, hr]

def frz (S : SS) (i g : Nat) : SS := { fr := SV.nmL i g S.fr, hp := (S.hp.map (Blk.nm i g)).set i .dead }

/-- A block of known cells stays as it is from here on. -/
theorem At.freezeC {X : Act → World → Prop} (i : Nat) (xs : List Value) {cs : List SV} {t : TypeId} (hi : S.hp[i]? = some (.c cs t)) (hc : cs = xs.map .v) (hn : xs.length ≤ maxLen)
    (hb0 : ∀ g, (Go.Sx.toRow S i g xs.length xs t 1).bd = true) (hb1 : ∀ g, (frz S i g).bd = true) (k : ∀ g Φ', PhiLe 0 Φ Φ' → RdC Φ' (some ⟨g, 0, none⟩) xs → ∃ S', frz S i g = S' ∧ At Γ Φ' S' X) : At Γ Φ S X := by
  refine At.toRow i xs.length xs 1 hi hc (by simp) hn fun g => ⟨_, rfl, hb0 g, ?_⟩
  have hlt := lt_get hi
  have hget : (Go.Sx.toRow S i g xs.length xs t 1).hp[i]? = some (.o (.slice (some ⟨g, 0, none⟩) xs.length xs.length) xs.length xs t 1) := by
    simp [Go.Sx.toRow, hlt]
  have hset : ({ fr := ((Go.Sx.toRow S i g xs.length xs t 1).put none .u).fr, hp := (Go.Sx.toRow S i g xs.length xs t 1).hp.set i .dead } : SS) = frz S i g := by
    simp [Go.Sx.toRow, frz, SS.put]
  intro β a w h
  refine At.freeze (S' := frz S i g) i hget (by unfold putH; simp only [hset, hb1, if_true]) (fun Φ' hle hR => ?_) β a w h
  obtain ⟨S', rfl, hk⟩ := k g Φ' hle hR
  exact hk
end
end Go.Sx
