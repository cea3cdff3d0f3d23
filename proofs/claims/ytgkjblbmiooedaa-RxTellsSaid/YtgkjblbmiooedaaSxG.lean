/- SxG: functions that defer a closure, and closures that recover. General: no program. -/
import Derived.Test.YtgkjblbmiooedaaSxF
import Derived.Recover
namespace Go.Sx
open Go.RowKit

theorem CallG.enterD {P : Program} {f : FuncId} {args : List SV} {hp : List Blk} {Φ : Phi} {post : Post} {fn : Func} {c : Code} (hf : P.funcs[f]? = some fn) (hb : fn.body = some c)
    (ks : List Nat) (S0 : SS) (hS : ({ fr := args ++ List.replicate (fn.ntmps - args.length) (.v undef), hp } : SS).kill ks [] = S0) (hbd : ({ fr := args ++ List.replicate (fn.ntmps - args.length) (.v undef), hp } : SS).bd = true)
    (k : ∀ (E : World) (G : Nat → Nat → Prop) (β0 : Nat → Nat), At ⟨P, E, G, Φ, β0, hp.length, [], none⟩ Φ S0 (c.wp P (bodyPostD P fn (RetR ⟨P, E, G, Φ, β0, hp.length, [], none⟩ post)))) : CallG P f args hp Φ post := by
  intro β w hs ho
  refine calls_of_wp_defers hf hb ?_
  have h1 := (mat_map (β := β) args).append (mat_v (β := β) (List.replicate (fn.ntmps - args.length) undef))
  have hk : At ⟨P, w, gOf β hp, Φ, β, hp.length, [], none⟩ Φ { fr := args ++ List.replicate (fn.ntmps - args.length) (.v undef), hp } (c.wp P (bodyPostD P fn (RetR ⟨P, w, gOf β hp, Φ, β, hp.length, [], none⟩ post))) := At.kill ks [] (by rw [hS]; exact k w (gOf β hp) β)
  refine hk β _ w ⟨?_, rfl, ho, hs, fun i b k hi hk => .inr ⟨i, b, hi, hk⟩, ⟨rfl, rfl, rfl, Nat.le_refl _, fun _ _ _ => rfl⟩, ⟨fun _ _ h => h, fun _ _ _ => rfl⟩, hbd, fun _ _ => rfl, Nat.le_refl _⟩
  simpa using h1

section
variable {Γ : Ctx} {Φ Φ0 : Phi} {S S' : SS} {Q : Exit → Act → World → Prop} {ops : Array Oper} {rest : List Oper} {o : Oper}

theorem fnOf_eval {β : Nat → Nat} {a : Act} {w : World} (h : St Γ Φ β S a w) {fo : Operand} {f : FuncId} {caps : Array Value} (hfo : fnOf (S.get fo) = some (f, [], caps.toList.map .v)) : a.eval fo = .func (.func f) #[] caps := by
  have hl : ∀ {x y : Array Value}, x.toList.map SV.v = y.toList.map SV.v → x = y := by
    intro x y hxy
    apply Array.ext'
    exact (List.map_inj_right (fun _ _ h => by injection h)).1 hxy
  cases hg : S.get fo with
  | v z =>
    rw [hg] at hfo
    cases z with
    | func k fa ca =>
      cases k with
      | func f' =>
        simp only [fnOf, Option.some.injEq, Prod.mk.injEq] at hfo
        obtain ⟨rfl, h1, h2⟩ := hfo
        have e1 : fa = #[] := hl (by rw [h1]; rfl)
        have e2 : ca = caps := hl h2
        rw [fits_v h hg, e1, e2]
      | _ => simp [fnOf] at hfo
    | _ => simp [fnOf] at hfo
  | fn k l =>
    rw [hg] at hfo
    cases k with
    | func f' =>
      simp only [fnOf, Option.some.injEq, Prod.mk.injEq] at hfo
      obtain ⟨rfl, _, rfl⟩ := hfo
      rw [(h.eval fo).known (by rw [hg]; simp), hg]
      show Value.func (.func f') #[] (denL β (caps.toList.map .v)).toArray = _
      rw [denL_eq, List.map_map]
      congr 1
      apply Array.ext'
      exact List.map_id _
    | _ => simp [fnOf] at hfo
  | _ => rw [hg] at hfo; simp [fnOf] at hfo

/-- A closure is put off. -/
theorem At.defer {fo : Operand} {argTypes : Array TypeId} (ho : o.op = .defer { callee := .value fo, args := #[], argTypes }) (hd : o.dst = none) (hw : wantS ops S o = some true) {cl : FuncId} {caps : Array Value} (hfo : fnOf (S.get fo) = some (cl, [], caps.toList.map .v))
    (k : At { Γ with df := { target := .fn (.func cl) caps, args := #[] } :: Γ.df } Φ S (wpList Γ.P ops Q rest)) : At Γ Φ S (wpList Γ.P ops Q (o :: rest)) := by
  intro β a w h
  unfold wpList
  rw [if_pos (wanted_of h hw)]
  left
  have hex : (execOp a.eval o).run Γ.P w = .ok (.defer { target := .fn (.func cl) caps, args := #[] }) w := by
    unfold execOp; rw [ho]
    simp [resolve, fnOf_eval h hfo, Deferred.ofValue]
  unfold Oper.wp
  rw [hex]
  simp only [Oper.upon, hd, Act.put]
  exact k β _ w ⟨h.fr, by show _ :: a.defers = _; rw [h.df], h.own, h.sto, h.lo, h.keep, h.phi, h.bd, h.pin, h.len⟩

theorem Val.assert {x : Operand} {xt t : TypeId} (ho : o.op = .typeAssert x xt t true) {d : TypeDesc} (hu : Γ.P.underlying t = some d) (hd : ∀ ms, d ≠ .interface ms) {v : Value} (hx : S.get x = .v (.iface t v)) : Val Γ Φ S o (.tup [.v v, .v (.bool true)]) := fun β a w h => by
  refine ⟨.tuple #[v, .bool true], ?_, .inr rfl⟩
  unfold execOp; rw [ho]
  cases d with
  | interface ms => exact absurd rfl (hd ms)
  | _ => simp [Instr.typeAssert, fits_v h hx, run_underlying hu]

theorem Val.nilnil {op : BinOp} {t u : TypeId} {x : Operand} (ho : o.op = .binOp op t x (.const .nilIface) u) {ms : Array (String × TypeId)} (hu : Γ.P.underlying t = some (.interface ms)) (hx : S.get x = .v .nilIface) (b : Bool) (hop : (op = .eql ∧ b = true) ∨ (op = .neq ∧ b = false)) : Val Γ Φ S o (.v (.bool b)) := fun β a w h => by
  refine ⟨_, ?_, .inr rfl⟩
  have heq : (Op.equalIn 10000 t .nilIface .nilIface).run Γ.P w = .ok true w := by
    rw [Op.equalIn, Sem.run_bind, run_underlying hu, Result.andThen_ok]; rfl
  have hc : a.eval (.const .nilIface) = .nilIface := rfl
  unfold execOp; rw [ho]
  simp only [fits_v h hx, hc, Sem.run_bind, eqGuard_nil_constR, Sem.run_pure, Result.andThen_ok]
  rcases hop with ⟨rfl, rfl⟩ | ⟨rfl, rfl⟩ <;> (unfold binOp; simp only [Sem.run_bind, run_equal_of heq, Result.andThen_ok, Sem.run_pure, den, Bool.not_true])

/-- The same value in another form. -/
theorem At.reval {X : Act → World → Prop} (t : Nat) (x y : SV) (hx : S.fr[t]? = some x) (hu : x.isU = false) (hd : ∀ β, den β x = den β y) (S' : SS) (hS : ({ fr := S.fr.set t y, hp := S.hp } : SS) = S') (hb : S'.bd = true) (k : At Γ Φ S' X) : At Γ Φ S X := by
  subst hS
  intro β a w h
  refine k β a w ⟨⟨by simpa using h.fr.1, ?_⟩, h.df, h.own, h.sto, h.lo, h.keep, h.phi, hb, h.pin, h.len⟩
  intro k c v hc hv
  rw [List.getElem?_set] at hc
  by_cases e : t = k
  · subst e
    rw [if_pos rfl, if_pos (lt_get hx)] at hc
    cases hc
    have := h.fr.2 t x v hx hv
    right
    rw [this.known (by rintro rfl; cases hu)]
    exact hd β
  · rw [if_neg e] at hc
    exact h.fr.2 k c v hc hv

theorem caps_av (caps : Array Value) : ([] : List SV) ++ [] ++ caps.toList.map .v = (caps.toList.map SV.v).map (SV.ren (inR [])) := by
  rw [List.map_map]; rfl
theorem caps_u (caps : Array Value) : (caps.toList.map SV.v).any SV.isU = false := by
  rw [List.any_eq_false]
  intro x hx
  obtain ⟨v, _, rfl⟩ := List.mem_map.1 hx
  simp [SV.isU]

theorem rec_ret (c₀ : Frame) (cs : List Frame) (h : c₀.mode = .returning) : (recoverD (c₀ :: cs) = some (.nilIface, { c₀ with mode := .returning } :: cs)) ∨ (recoverD (c₀ :: cs) = none ∧ Value.nilIface = .nilIface ∧ FrameMode.returning = .returning) := by
  right
  refine ⟨?_, rfl, rfl⟩
  simp only [recoverD, h]
theorem rec_pan (v : Value) (c₀ : Frame) (cs : List Frame) (h : c₀.mode = .panicking [{ v, recovered := false }]) : (recoverD (c₀ :: cs) = some (v, { c₀ with mode := .panicking [{ v, recovered := true }] } :: cs)) ∨ (recoverD (c₀ :: cs) = none ∧ v = .nilIface ∧ FrameMode.panicking [{ v, recovered := true }] = .panicking [{ v, recovered := false }]) := by
  left
  simp only [recoverD, h]

/-- A closure's contract, where it is called as one that was put off, in a mode. -/
def CallDG (P : Program) (f : FuncId) (args : List SV) (hp : List Blk) (Φ : Phi) (u U : FrameMode) (post : Post) : Prop :=
  ∀ β w, Sto Φ w → Own β hp Φ w → CallsD P f (args.map (den β)).toArray u w fun e u' w' => u' = U ∧ RetR ⟨P, w, gOf β hp, Φ, β, hp.length, [], none⟩ post e w'

/-- How a body that put off one closure is left. -/
theorem At.leaveD {fn : Func} {R : Ending → World → Prop} {cl : FuncId} {caps : Array Value} (hdf : Γ.df = [{ target := .fn (.func cl) caps, args := #[] }]) {cfn : Func} (hf : Γ.P.funcs[cl]? = some cfn) (hbody : cfn.body.isSome = true) (hname : (cfn.name == "runtime.NumGoroutine") = false)
    (hpI : List Blk) (hh : S.hp = hpI) (hro : ∀ b ∈ hpI, b = .dead ∨ ∃ v n xs t sz, b = .o v n xs t sz) (u U : FrameMode) (hu : u ≠ .run) {post : Post} (hC : CallDG Γ.P cl (caps.toList.map .v) hpI Φ u U post) (hnp : ∀ Φ' ch hp', ¬ post Φ' (.pan ch) hp')
    (hset : settle U = .returning) (hpost : ∀ Φ' x hp', post Φ' (.ret x) hp' → hp'.length = hpI.length ∧ ∀ b ∈ hp', b = .dead ∨ ∃ v n xs t sz, b = .o v n xs t sz)
    (k : ∀ Φ' x hp', PhiLe 0 Φ Φ' → post Φ' (.ret x) hp' → At Γ Φ' { fr := S.fr, hp := hp' } (fun a w => ∃ v, (results fn a.tmps).run Γ.P w = .ok v w ∧ R (.returned v) w)) :
    At Γ Φ S (fun a w => Leaves Γ.P fn a.tmps R a.defers u w) := by
  subst hh
  intro β a w h
  rw [h.df, hdf]
  have hb : cfn.body.isNone = false := by cases hq : cfn.body <;> simp_all
  refine leaves_cons (f := cl) (args := caps) hu ?_ ?_
  · simp only [invoke, callFunc, Sem.run_bind, run_program, Result.andThen_ok, hf, hname, hb]
    simp
  · have hcall := hC β w h.sto h.own
    have hargs : ((caps.toList.map SV.v).map (den β)).toArray = caps := by
      apply Array.ext'
      simp only [List.map_map]
      exact List.map_id _
    rw [hargs] at hcall
    refine hcall.mono fun e u' w' hR => ?_
    obtain ⟨rfl, Φ', β', hp', es, h1, h2, h3, h4, h5, h6, h7, h8, h9, h10, h11⟩ := hR
    cases es with
    | pan ch => exact absurd h11 (hnp Φ' ch hp')
    | ret x =>
      have he : e = .returned (den β' x) := h1
      subst he
      have hle : PhiLe 0 Φ Φ' := ⟨h9.1, fun _ h => by omega⟩
      obtain ⟨hlen, hrows⟩ := hpost Φ' x hp' h11
      simp only [hset]
      refine k Φ' x hp' hle h11 β a w' ⟨h.fr, h.df, ?_, h7, ?_, ?_, ?_, ?_, h.pin, by rw [hlen]; exact h.len⟩
      · refine ⟨fun i cs t hi => ?_, fun i v n xs t sz hi => h6.o i v n xs t sz hi, fun i j bi bj k hi hj li lj => h6.inj i j bi bj k hi hj ?_ ?_, fun i b k hi hk => h6.phi i b k hi ?_, fun i g cs t hi => by rcases hrows _ (List.mem_of_getElem? hi) with he | ⟨v, n, xs, t', sz, he⟩ <;> cases he⟩
        · rcases hrows _ (List.mem_of_getElem? hi) with he | ⟨v, n, xs, t', sz, he⟩ <;> cases he
        · rcases hrows _ (List.mem_of_getElem? hi) with rfl | ⟨v, n, xs, t', sz, rfl⟩ <;> exact li
        · rcases hrows _ (List.mem_of_getElem? hj) with rfl | ⟨v, n, xs, t', sz, rfl⟩ <;> exact lj
        · rcases hrows _ (List.mem_of_getElem? hi) with rfl | ⟨v, n, xs, t', sz, rfl⟩ <;> exact hk
      · intro i b k hi hk
        have hk' : b.bid β' i = some k := by
          rcases hrows _ (List.mem_of_getElem? hi) with rfl | ⟨v, n, xs, t', sz, rfl⟩ <;> exact hk
        rcases h10 i b k hi hk' with h' | ⟨j, b', hb', hk2⟩
        · exact .inl (Nat.le_trans h.keep.size h')
        · exact h.lo j b' k hb' hk2
      · refine ⟨h8.os.trans h.keep.os, h8.tape.trans h.keep.tape, h8.output.trans h.keep.output, Nat.le_trans h.keep.size h8.size, fun k hk hn => ?_⟩
        rw [← h.keep.block k hk hn]
        refine h8.block k (Nat.lt_of_lt_of_le hk h.keep.size) fun hg => ?_
        obtain ⟨j, b, hb', hk'⟩ := hg
        rcases h.lo j b k hb' hk' with h' | h'
        · omega
        · exact hn h'
      · exact ⟨fun b cs hb => h9.1 b cs (h.phi.1 b cs hb), fun b hb hn => by
        rw [h9.2 b (Nat.lt_of_lt_of_le hb h.keep.size) (by
          rintro ⟨j, b', hb', hk'⟩
          rcases h.lo j b' b hb' hk' with h' | h'
          · omega
          · exact hn h')]
        exact h.phi.2 b hb hn⟩
      · have := h.bd
        unfold SS.bd at this ⊢
        rw [Bool.and_eq_true] at this ⊢
        refine ⟨by rw [hlen]; exact this.1, ?_⟩
        rw [List.all_eq_true]
        intro b hb
        rcases hrows b hb with rfl | ⟨v, n, xs, t', sz, rfl⟩ <;> rfl

theorem At.ret_D {fn : Func} {R : Ending → World → Prop} (k : At Γ Φ S (fun a w => Leaves Γ.P fn a.tmps R a.defers .returning w)) : At Γ Φ S (bodyPostD Γ.P fn R .ret) := k
theorem At.normal_D {fn : Func} {R : Ending → World → Prop} (k : At Γ Φ S (fun a w => Leaves Γ.P fn a.tmps R a.defers .returning w)) : At Γ Φ S (bodyPostD Γ.P fn R .normal) := k
theorem At.panic_D {fn : Func} {R : Ending → World → Prop} {ch : List PanicEntry} (k : At Γ Φ S (fun a w => Leaves Γ.P fn a.tmps R a.defers (.panicking ch) w)) : At Γ Φ S (bodyPostD Γ.P fn R (.panic ch)) := k

/-- Results that stand in rows of the call's own, read at the end. -/
theorem At.resD {Γ' : Ctx} {fn : Func} {T : Type} {rv : T → SV} {hps : T → List Blk} {F : T → Phi → Prop} (hΓ : Γ = { Γ' with df := Γ.df }) (slots : List Nat) (n : Nat) (dead : List Nat) (S' : SS) (t : T) (x : Value)
    (hx0 : ∀ β, den β (rv t) = x) (hr : ∀ β a w, St Γ Φ β S a w → (results fn a.tmps).run Γ.P w = .ok x w) (he : S.forget slots n dead = S') (hb : S'.bd = true) (hn : Γ.n ≤ S'.hp.length)
    (hx : (rv t).ok S'.hp.length = true) (hh : S'.hp = hps t) (hF : F t Φ) :
    At Γ Φ S (fun a w => ∃ v, (results fn a.tmps).run Γ.P w = .ok v w ∧ RetR Γ' (fun Φ' es hp' => ∃ t, es = .ret (rv t) ∧ hp' = hps t ∧ F t Φ') (.returned v) w) := by
  intro β a w h
  refine ⟨x, hr β a w h, ?_⟩
  have h2 := h.forget slots n dead S' he hb hn
  have h3 : RetR Γ (fun Φ' es hp' => ∃ t, es = .ret (rv t) ∧ hp' = hps t ∧ F t Φ') (.returned x) w := leaves_of (es := .ret (rv t)) h2 (by rw [← hx0 β]; rfl) hx ⟨t, rfl, hh, hF⟩
  rw [hΓ] at h3
  exact h3

theorem run_row {β : Nat → Nat} {a : Act} {w : World} (h : St Γ Φ β S a w) {p T : Nat} {g : Nat} (hp : S.get (.tmp p) = .v (.pointer (some ⟨g, 0, none⟩))) (i : Nat) {n c t0 sz : Nat} {xs : List Value} (hi : S.hp[i]? = some (.o (.slice (some ⟨g, 0, none⟩) n c) n xs t0 sz))
    {x : SV} (hx : ldB Γ.P T (xs.map .v) 0 = some x) (hu : x.isU = false) : (do loadVar T (← asAddr (a.tmps.getD p undef)) : Sem Value).run Γ.P w = .ok (den β x) w := by
  obtain ⟨cur, hg, _, _, hsz, htk, hln⟩ := own_cells h.own hi
  have hpe : a.tmps.getD p undef = .pointer (some ⟨g, 0, none⟩) := fits_v (x := .tmp p) h hp
  obtain ⟨v, hr, hf⟩ := run_ldx (P := Γ.P) (w := w) (β := β) (b := g) (off := 0) hx (fun j u hj => by
    rw [cell_of_row w g (0 + j) cur t0 (0, 0) hg]
    rw [← htk, List.getElem?_take] at hj
    split at hj
    · rw [Nat.zero_add]; simpa using hj
    · cases hj)
  rw [hpe]
  simp only [asAddr, Sem.run_bind, Sem.run_pure, Result.andThen_ok, hr]
  rw [hf.known (by rintro rfl; cases hu)]

theorem res_rows2 {fn : Func} {p q T E : Nat} (hres : fn.results = #[.cell p T, .cell q E]) {g0 g1 : Nat} (hp : S.get (.tmp p) = .v (.pointer (some ⟨g0, 0, none⟩))) (hq : S.get (.tmp q) = .v (.pointer (some ⟨g1, 0, none⟩)))
    (i j : Nat) {n0 c0 t0 s0 n1 c1 t1 s1 : Nat} {xs0 xs1 : List Value} (hi : S.hp[i]? = some (.o (.slice (some ⟨g0, 0, none⟩) n0 c0) n0 xs0 t0 s0)) (hj : S.hp[j]? = some (.o (.slice (some ⟨g1, 0, none⟩) n1 c1) n1 xs1 t1 s1))
    (x0 x1 : SV) (h0 : ldB Γ.P T (xs0.map .v) 0 = some x0) (h1 : ldB Γ.P E (xs1.map .v) 0 = some x1) (u0 : x0.isU = false) (u1 : x1.isU = false) {v : Value} (hv : ∀ β, den β (.tup [x0, x1]) = v) :
    ∀ β a w, St Γ Φ β S a w → (results fn a.tmps).run Γ.P w = .ok v w := by
  intro β a w h
  have r0 := run_row h hp i hi h0 u0
  have r1 := run_row h hq j hj h1 u1
  unfold results
  rw [hres, Array.mapM_eq_mapM_toList]
  simp only [List.mapM_cons, List.mapM_nil, Sem.run_bind, Sem.run_map, Sem.run_pure] at r0 r1 ⊢
  simp only [r0, r1, Result.andThen_ok]
  rw [← hv β]
  simp [den, denL]

/-- Three rows, the third one first. -/
theorem At.rotate2 {X : Act → World → Prop} {f : List SV} {v0 v1 v2 : Value} {n0 n1 n2 t0 t1 t2 s0 s1 s2 : Nat} {x0 x1 x2 : List Value} (hn : Γ.n = 0) (k : At Γ Φ { fr := f, hp := [.o v2 n2 x2 t2 s2, .o v0 n0 x0 t0 s0, .o v1 n1 x1 t1 s1] } X) :
    At Γ Φ { fr := f, hp := [.o v0 n0 x0 t0 s0, .o v1 n1 x1 t1 s1, .o v2 n2 x2 t2 s2] } X := by
  intro β a w h
  let ρ : Nat → Nat := fun i => if i = 0 then 2 else i - 1
  have hget : ∀ {i : Nat} {b : Blk}, ([.o v2 n2 x2 t2 s2, .o v0 n0 x0 t0 s0, .o v1 n1 x1 t1 s1] : List Blk)[i]? = some b → ([.o v0 n0 x0 t0 s0, .o v1 n1 x1 t1 s1, .o v2 n2 x2 t2 s2] : List Blk)[ρ i]? = some b ∧ i < 3 ∧ ∃ v n xs t sz, b = .o v n xs t sz := by
    intro i b hi
    match i, hi with
    | 0, hi => cases hi; exact ⟨rfl, by omega, _, _, _, _, _, rfl⟩
    | 1, hi => cases hi; exact ⟨rfl, by omega, _, _, _, _, _, rfl⟩
    | 2, hi => cases hi; exact ⟨rfl, by omega, _, _, _, _, _, rfl⟩
    | i + 3, hi => simp at hi
  have hbid : ∀ {i : Nat} {b : Blk} {q : Nat}, (∃ v n xs t sz, b = .o v n xs t sz) → b.bid β i = some q → b.bid β (ρ i) = some q := by
    rintro i b q ⟨v, n, xs, t, sz, rfl⟩ hq
    exact hq
  have hinj : ∀ {i j : Nat}, i < 3 → j < 3 → ρ i = ρ j → i = j := by
    intro i j hi hj hij
    simp only [ρ] at hij
    split at hij <;> split at hij <;> omega
  refine k β a w ⟨h.fr, h.df, ⟨?_, ?_, ?_, ?_, fun i g cs t hi => by
    obtain ⟨_, _, v, n, xs, t', sz, he⟩ := hget hi
    cases he⟩, h.sto, ?_, h.keep, h.phi, h.bd, h.pin, h.len⟩
  · intro i cs t hi
    obtain ⟨_, _, v, n, xs, t', sz, he⟩ := hget hi
    cases he
  · intro i v n xs t sz hi
    exact h.own.o _ v n xs t sz (hget hi).1
  · intro i j bi bj q hi hj li lj
    obtain ⟨h1, h2, h3⟩ := hget hi
    obtain ⟨h4, h5, h6⟩ := hget hj
    exact hinj h2 h5 (h.own.inj _ _ bi bj q h1 h4 (hbid h3 li) (hbid h6 lj))
  · intro i b q hi hq
    obtain ⟨h1, h2, h3⟩ := hget hi
    exact h.own.phi _ b q h1 (hbid h3 hq)
  · intro i b q hi hq
    obtain ⟨h1, h2, h3⟩ := hget hi
    exact h.lo _ b q h1 (hbid h3 hq)

def Blk.isO : Blk → Bool
  | .o _ _ _ _ _ => true
  | _ => false
/-- Rows in another order, and fewer. -/
theorem At.reorder {X : Act → World → Prop} (σ : List Nat) (S' : SS) (hn : Γ.n = 0) (hf : S.fr.all (SV.bd 0) = true) (hS : ({ fr := S.fr, hp := σ.map fun i => S.hp.getD i .dead } : SS) = S') (hO : S'.hp.all Blk.isO = true) (hσ : σ.Nodup) (hb : S'.bd = true) (k : At Γ Φ S' X) : At Γ Φ S X := by
  subst hS
  intro β a w h
  have hget : ∀ {i : Nat} {b : Blk}, (σ.map fun i => S.hp.getD i .dead)[i]? = some b → ∃ j, σ[i]? = some j ∧ S.hp[j]? = some b ∧ ∃ v n xs t sz, b = .o v n xs t sz := by
    intro i b hi
    have hO' := List.all_eq_true.1 hO b (List.mem_of_getElem? hi)
    rw [List.getElem?_map] at hi
    cases hj : σ[i]? with
    | none => rw [hj] at hi; cases hi
    | some j =>
      rw [hj] at hi
      simp only [Option.map_some, Option.some.injEq] at hi
      refine ⟨j, rfl, ?_, ?_⟩
      · cases hq : S.hp[j]? with
        | none =>
          rw [List.getD, hq] at hi
          subst hi
          cases hO'
        | some c => rw [List.getD, hq] at hi; rw [← hi]; rfl
      · cases b with
        | o v n xs t sz => exact ⟨v, n, xs, t, sz, rfl⟩
        | _ => cases hO'
  have hbid : ∀ {i j : Nat} {b : Blk} {q : Nat}, (∃ v n xs t sz, b = .o v n xs t sz) → b.bid β i = some q → b.bid β j = some q := by
    rintro i j b q ⟨v, n, xs, t, sz, rfl⟩ hq
    exact hq
  refine k β a w ⟨h.fr, h.df, ⟨?_, ?_, ?_, ?_, fun i g cs t hi => by
    obtain ⟨j, _, _, v, n, xs, t', sz, he⟩ := hget hi
    cases he⟩, h.sto, ?_, h.keep, h.phi, hb, h.pin, by rw [hn]; exact Nat.zero_le _⟩
  · intro i cs t hi
    obtain ⟨j, _, _, v, n, xs, t', sz, he⟩ := hget hi
    cases he
  · intro i v n xs t sz hi
    obtain ⟨j, _, hj, _⟩ := hget hi
    exact h.own.o j v n xs t sz hj
  · intro i i' bi bj q hi hj li lj
    obtain ⟨j, h1, h2, h3⟩ := hget hi
    obtain ⟨j', h4, h5, h6⟩ := hget hj
    have := h.own.inj j j' bi bj q h2 h5 (hbid h3 li) (hbid h6 lj)
    subst this
    exact (List.getElem?_inj (lt_get h1) hσ).1 (h1.trans h4.symm)
  · intro i b q hi hq
    obtain ⟨j, h1, h2, h3⟩ := hget hi
    exact h.own.phi j b q h2 (hbid h3 hq)
  · intro i b q hi hq
    obtain ⟨j, h1, h2, h3⟩ := hget hi
    exact h.lo j b q h2 (hbid h3 hq)

theorem wp_mono {P : Program} {c : Code} {Q Q' : Exit → Act → World → Prop} {a : Act} {w : World} (h : c.wp P Q a w) (k : ∀ e a w, Q e a w → Q' e a w) : c.wp P Q' a w :=
  fun b q cs => let ⟨e, a', w', hq, r⟩ := h b q cs; ⟨e, a', w', k e a' w' hq, r⟩

/-- A closure that begins with 'x := recover()'. -/
theorem CallDG.enter {P : Program} {f : FuncId} {args : List SV} {hp : List Blk} {post : Post} {fn : Func} {id : Nat} {o1 o2 : Oper} {restc : Code} (hf : P.funcs[f]? = some fn) (hb : fn.body = some (.seq (.region id #[o1, o2] false) restc))
    {argTypes : Array TypeId} (h1 : o1.op = .call { callee := .builtin .recover, args := #[], argTypes }) (g1 : o1.guard = none) {d1 d2 : Nat} (t1 : o1.dst = some d1) (h2 : o2.op = .assign (.tmp d1)) (g2 : o2.guard = none) (t2 : o2.dst = some d2) (hd1 : d1 < args.length + (fn.ntmps - args.length))
    (u U : FrameMode) (v : Value) (hrec : ∀ (c₀ : Frame) (cs : List Frame), c₀.mode = u → (recoverD (c₀ :: cs) = some (v, { c₀ with mode := U } :: cs)) ∨ (recoverD (c₀ :: cs) = none ∧ v = .nilIface ∧ U = u))
    (ks : List Nat) (S0 : SS) (hS : ({ fr := ((args ++ List.replicate (fn.ntmps - args.length) (SV.v undef)).set d1 (SV.v v)).set d2 (SV.v v), hp } : SS).kill ks [] = S0)
    (hbd : ({ fr := ((args ++ List.replicate (fn.ntmps - args.length) (SV.v undef)).set d1 (SV.v v)).set d2 (SV.v v), hp } : SS).bd = true)
    (k : ∀ (E : World) (G : Nat → Nat → Prop) (β0 : Nat → Nat), At ⟨P, E, G, Φ, β0, hp.length, [], none⟩ Φ S0 (restc.wp P (bodyPost P fn (RetR ⟨P, E, G, Φ, β0, hp.length, [], none⟩ post)))) : CallDG P f args hp Φ u U post := by
  intro β w hs ho
  refine callsD_of_wpS hf hb fun c₀ cs hc => ?_
  refine wpS_seq (wpS_region ?_)
  have hfr := (mat_map (β := β) args).append (mat_v (β := β) (List.replicate (fn.ntmps - args.length) undef))
  obtain ⟨a0, ha0⟩ : ∃ a0 : Act, a0 = { tmps := (args.map (den β)).toArray ++ Array.replicate (fn.ntmps - (args.map (den β)).toArray.size) undef, defers := [] } := ⟨_, rfl⟩
  rw [← ha0]
  have hm0 : Mat β (args ++ List.replicate (fn.ntmps - args.length) (SV.v undef)) a0.tmps.toList := by
    rw [ha0]
    simpa using hfr
  have hdf0 : a0.defers = [] := by rw [ha0]
  have hr1 : ∀ ρ, (execOp ρ o1).run P w = .ok .recover w := by
    intro ρ
    unfold execOp; rw [h1]
    simp [resolve, invoke, builtin]
  have key : ∀ cs', (∃ u', cs' = { c₀ with mode := u' } :: cs ∧ u' = U) → wpOpsS P #[o1, o2] (Exit.thenS (restc.wpS P (bodyPostS P fn c₀ cs fun e u' w' => u' = U ∧ RetR ⟨P, w, gOf β hp, Φ, β, hp.length, [], none⟩ post e w')) (bodyPostS P fn c₀ cs fun e u' w' => u' = U ∧ RetR ⟨P, w, gOf β hp, Φ, β, hp.length, [], none⟩ post e w')) [1] (a0.put o1.dst v) cs' w := by
    rintro cs' ⟨u', hcs', hu'⟩
    have hr2 : (execOp (a0.put o1.dst v).eval o2).run P w = .ok (.value v) w := by
      unfold execOp; rw [h2]
      have hlt : d1 < a0.tmps.size := by
        have := hm0.1
        simp only [Array.length_toList, List.length_append, List.length_replicate] at this
        rw [this]; exact hd1
      simp [t1, Act.put, Act.eval, hlt]
    have hg : Region.wanted o2 (yielded #[o1, o2] (a0.put o1.dst v).tmps) = true := by simp [Region.wanted, g2]
    simp only [wpOpsS, List.getElem?_toArray, List.getElem?_cons_succ, List.getElem?_cons_zero, hg, if_true, hr2, Oper.upon]
    show restc.wpS P _ ((a0.put o1.dst v).put o2.dst v) cs' w
    have hk : At ⟨P, w, gOf β hp, Φ, β, hp.length, [], none⟩ Φ { fr := ((args ++ List.replicate (fn.ntmps - args.length) (SV.v undef)).set d1 (SV.v v)).set d2 (SV.v v), hp } (restc.wp P (bodyPost P fn (RetR ⟨P, w, gOf β hp, Φ, β, hp.length, [], none⟩ post))) := At.kill ks [] (by rw [hS]; exact k w (gOf β hp) β)
    have hst := hk β ((a0.put o1.dst v).put o2.dst v) w ⟨?_, by rw [Act.put_df, Act.put_df]; exact hdf0, ho, hs, fun i b k hi hk => .inr ⟨i, b, hi, hk⟩, ⟨rfl, rfl, rfl, Nat.le_refl _, fun _ _ _ => rfl⟩, ⟨fun _ _ h => h, fun _ _ _ => rfl⟩, hbd, fun _ _ => rfl, Nat.le_refl _⟩
    · refine wpS_of_wp (wp_mono hst fun e a w' hq => ?_)
      cases e with
      | normal =>
        obtain ⟨hd, vv, hr, hR⟩ := hq
        exact ⟨hd, u', hcs', vv, hr, hu', hR⟩
      | ret =>
        obtain ⟨hd, vv, hr, hR⟩ := hq
        exact ⟨hd, u', hcs', vv, hr, hu', hR⟩
      | panic ch =>
        obtain ⟨hd, hR⟩ := hq
        exact ⟨hd, u', hcs', hu', hR⟩
      | exit id => exact hq.elim
      | goto l => exact hq.elim
      | outgrown => exact ⟨U, rfl, hq⟩
    · rw [t1, t2]
      simp only [Act.put, Array.toList_setIfInBounds]
      exact (hm0.set d1 (.inr rfl)).set d2 (.inr rfl)
  have hg : Region.wanted o1 (yielded #[o1, o2] a0.tmps) = true := by simp [Region.wanted, g1]
  have hrng : List.range (#[o1, o2] : Array Oper).size = [0, 1] := rfl
  rw [hrng]
  unfold wpOpsS
  simp only [List.getElem?_toArray, List.getElem?_cons_zero, hg, if_true, hr1]
  rcases hrec c₀ cs hc with hrc | ⟨hrc, hv, hU⟩
  · simp only [hrc]
    exact key _ ⟨U, rfl, rfl⟩
  · simp only [hrc]
    subst hv
    exact key _ ⟨u, by subst hc; rfl, hU.symm⟩
end
end Go.Sx
