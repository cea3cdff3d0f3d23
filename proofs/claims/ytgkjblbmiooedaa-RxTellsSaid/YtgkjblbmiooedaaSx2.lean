/- Sx2: the executor's plain operations are sound. General: no program. -/
import Derived.Test.YtgkjblbmiooedaaSx1
namespace Go.Sx
open Go.RowKit

section
variable {Γ : Ctx} {Φ : Phi} {β : Nat → Nat} {S S' : SS} {a : Act} {w : World} {o : Oper}

/-- An operation that leaves memory as it is. -/
def pureOp : Op → Bool
  | .alloc _ | .box _ _ | .store _ _ _ | .buildSlice _ _ _ => false
  | _ => true

/-- What an operation comes to. -/
def Comes1 (Γ : Ctx) (Φ : Phi) (β : Nat → Nat) (S S' : SS) (o : Oper) (a : Act) (w : World) : Prop :=
  ∃ v w' β' r, (execOp a.eval o).run Γ.P w = .ok r w' ∧ (r = .value v ∨ (r = .skip ∧ v = undef)) ∧ St Γ Φ β' S' (a.put o.dst v) w' ∧ (pureOp o.op = true → w' = w ∧ r = .value v ∧ ∃ x, ev Γ.P S o = some (x, S.hp) ∧ Fits β x v)

theorem of_val {x : SV} {v : Value} (h : St Γ Φ β S a w) (he : evS Γ.P S o = some S') (hev : ev Γ.P S o = some (x, S.hp))
    (hr : (execOp a.eval o).run Γ.P w = .ok (.value v) w) (hx : Fits β x v) : Comes1 Γ Φ β S S' o a w := by
  unfold evS at he
  rw [hev] at he
  simp only at he
  split at he
  · rename_i hb
    have hS : ({ fr := (S.put o.dst x).fr, hp := S.hp } : SS) = S.put o.dst x := by
      cases o.dst <;> rfl
    rw [hS] at he hb
    cases he
    exact ⟨v, w, β, _, hr, .inl rfl, h.put o.dst hx hb, fun _ => ⟨rfl, rfl, x, hev, hx⟩⟩
  · cases he

theorem of_new (hpo : pureOp o.op = false) {x : SV} {v : Value} {cs : List SV} {t : TypeId} {vs : Array Value} (h : St Γ Φ β S a w) (he : evS Γ.P S o = some S') (hev : ev Γ.P S o = some (x, S.hp ++ [.c cs t]))
    (hr : (execOp a.eval o).run Γ.P w = .ok (.value v) (w.alloc (.cells vs t))) (hx : Fits (upd β S.hp.length w.heap.size) x v)
    (hm : Mat (upd β S.hp.length w.heap.size) cs vs.toList) : Comes1 Γ Φ β S S' o a w := by
  unfold evS at he
  rw [hev] at he
  simp only at he
  split at he
  · rename_i hbd
    cases he
    exact ⟨v, _, _, _, hr, .inl rfl, h.alloc o.dst cs t vs hx hm hbd, fun hq => by rw [hpo] at hq; cases hq⟩
  · cases he

theorem cells_fits {x : SV} {v : Value} {cs : List SV} (hf : Fits β x v) (hc : x.cells = some cs) : v.cells.toList = cs.map (den β) := by
  rcases hf with rfl | rfl
  · cases hc
  · cases x with
    | u => cases hc
    | v x => cases x <;> simp only [SV.cells, Option.some.injEq, reduceCtorEq] at hc <;> subst hc <;> simp [den, Value.cells, Function.comp_def]
    | agg l => simp only [SV.cells, Option.some.injEq] at hc; subst hc; simp [den, Value.cells, denL_eq]
    | tup l => cases hc
    | p i off => simp only [SV.cells, Option.some.injEq] at hc; subst hc; simp [den, Value.cells]
    | s i off len cap => simp only [SV.cells, Option.some.injEq] at hc; subst hc; simp [den, Value.cells]
    | fn f l => simp only [SV.cells, Option.some.injEq] at hc; subst hc; simp [den, Value.cells]
    | ifc t x => simp only [SV.cells, Option.some.injEq] at hc; subst hc; simp [den, Value.cells]

theorem mat_map (l : List SV) : Mat β l (l.map (den β)) :=
  ⟨by simp, fun k c v hc hv => .inr (by rw [List.getElem?_map, hc] at hv; cases hv; rfl)⟩
theorem mat_v (l : List Value) : Mat β (l.map .v) l :=
  ⟨by simp, fun k c v hc hv => .inr (by rw [List.getElem?_map, hv] at hc; cases hc; rfl)⟩

theorem fits_cells {x : SV} {v : Value} {cs : List SV} (hf : Fits β x v) (hc : x.cells = some cs) : Mat β cs v.cells.toList := by
  rw [cells_fits hf hc]; exact mat_map cs

theorem snd_move (h : St Γ Φ β S a w) {x : Operand} (ho : o.op = .move x ∨ o.op = .assign x) (he : evS Γ.P S o = some S') : Comes1 Γ Φ β S S' o a w :=
  of_val h he (by unfold ev; rcases ho with ho | ho <;> rw [ho]) (by unfold execOp; rcases ho with ho | ho <;> rw [ho] <;> rfl) (h.eval x)

theorem snd_pick (h : St Γ Φ β S a w) {c x y : Operand} (ho : o.op = .pick c x y) (he : evS Γ.P S o = some S') : Comes1 Γ Φ β S S' o a w := by
  cases hc : S.get c with
  | v z =>
    cases z with
    | bool t =>
      have hev : a.eval c = .bool t := (h.eval c).known (by rw [hc]; simp) |>.trans (by rw [hc]; rfl)
      refine of_val (x := if t then S.get x else S.get y) (v := if t then a.eval x else a.eval y) h he (by unfold ev; rw [ho]; simp only [hc]) ?_ ?_
      · unfold execOp; rw [ho]; simp [hev, asBool]
      · cases t
        · exact h.eval y
        · exact h.eval x
    | _ => exfalso; unfold evS ev at he; rw [ho] at he; simp [hc] at he
  | _ => exfalso; unfold evS ev at he; rw [ho] at he; simp [hc] at he

theorem run_newVar (P : Program) (t : TypeId) (v : Value) : (newVar t v).run P w = .ok ⟨w.heap.size, 0, none⟩ (w.alloc (.cells v.cells t)) := by
  simp [newVar, newRow]

theorem snd_alloc (h : St Γ Φ β S a w) {e : TypeId} (ho : o.op = .alloc e) (he : evS Γ.P S o = some S') : Comes1 Γ Φ β S S' o a w := by
  cases hi : Γ.P.info? e with
  | none => exfalso; unfold evS ev at he; rw [ho] at he; simp [hi] at he
  | some i =>
    cases hz : i.zero with
    | none => exfalso; unfold evS ev at he; rw [ho] at he; simp [hi, hz] at he
    | some z =>
      refine of_new (by rw [ho]; rfl) (x := .p S.hp.length 0) (v := .pointer (some ⟨w.heap.size, 0, none⟩)) (cs := z.cells.toList.map .v) (t := e) (vs := z.cells) h he (by unfold ev; rw [ho]; simp only [hi, hz]) ?_ ?_ (mat_v _)
      · unfold execOp; rw [ho]
        simp [Instr.alloc, zeroValue, typeInfo, hi, hz, run_newVar]
      · exact .inr (by simp [den, upd])

theorem okL_all (n : Nat) : ∀ l : List SV, SV.okL n l = true → ∀ x ∈ l, x.ok n = true
  | [], _, x, hx => by cases hx
  | y :: l, h, x, hx => by
    simp only [SV.okL, Bool.and_eq_true] at h
    rcases List.mem_cons.1 hx with rfl | hx
    · exact h.1
    · exact okL_all n l h.2 x hx

theorem get_bd (h : S.bd = true) (x : Operand) : (S.get x).bd S.hp.length = true := by
  cases x with
  | tmp t =>
    simp only [SS.get]
    cases hg : S.fr[t]? with
    | none => simp [List.getD, hg, SV.bd]
    | some c =>
      simp only [List.getD, hg, Option.getD_some]
      exact List.all_eq_true.1 (SS.bd_fr h) c (List.mem_of_getElem? hg)
  | const v => rfl
  | global g => rfl
  | func f => rfl

theorem cells_bd {n : Nat} {x : SV} {cs : List SV} (hx : x.bd n = true) (hc : x.cells = some cs) : cs.all (SV.bd n) = true := by
  have hall : ∀ l : List SV, SV.okL n l = true → l.all (SV.bd n) = true := fun l hl => List.all_eq_true.2 fun y hy => by
    have := okL_all n l hl y hy
    cases y <;> first | rfl | exact this
  cases x with
  | u => cases hc
  | v z =>
    have : ∀ l : List Value, (l.map SV.v).all (SV.bd n) = true := by
      intro l; simp [List.all_eq_true, SV.bd, SV.ok]
    cases z <;> simp only [SV.cells, Option.some.injEq, reduceCtorEq] at hc <;> subst hc <;> first | exact this _ | simp [SV.bd, SV.ok]
  | agg l => simp only [SV.cells, Option.some.injEq] at hc; subst hc; exact hall _ hx
  | tup l => cases hc
  | p i off => simp only [SV.cells, Option.some.injEq] at hc; subst hc; simpa using hx
  | s i off len cap => simp only [SV.cells, Option.some.injEq] at hc; subst hc; simpa using hx
  | fn f l => simp only [SV.cells, Option.some.injEq] at hc; subst hc; simpa using hx
  | ifc t x => simp only [SV.cells, Option.some.injEq] at hc; subst hc; simpa using hx

theorem snd_box (h : St Γ Φ β S a w) {e : TypeId} {x : Operand} (ho : o.op = .box e x) (he : evS Γ.P S o = some S') : Comes1 Γ Φ β S S' o a w := by
  cases hc : (S.get x).cells with
  | none => exfalso; unfold evS ev at he; rw [ho] at he; simp [hc] at he
  | some cs =>
    have hm := fits_cells (h.eval x) hc
    refine of_new (by rw [ho]; rfl) (x := .p S.hp.length 0) (v := .pointer (some ⟨w.heap.size, 0, none⟩)) (cs := cs) (t := e) (vs := (a.eval x).cells) h he (by unfold ev; rw [ho]; simp only [hc]) ?_ ?_ (hm.congr (upd_lt β S.hp.length w.heap.size) (cells_bd (get_bd h.bd x) hc))
    · unfold execOp; rw [ho]
      simp [Instr.box, run_newVar]
    · exact .inr (by simp [den, upd])
end
end Go.Sx
