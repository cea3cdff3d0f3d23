/- SyO: walks of iterators: yield, loops, entering, the end. General: no program. -/
import Derived.Test.YtgkjblbmiooedaaSyN
namespace Go.Sx
open Go.RowKit

/-- Values that say these data: which entries are wanted. -/
def RaOk : List D → List Value → List En → Prop
  | [], [], [] => True
  | .v x :: l, v :: vs, es => x = v ∧ RaOk l vs es
  | x :: l, v :: vs, e :: es => e = .d x v ∧ RaOk l vs es
  | _, _, _ => False
theorem RaOk.ra {Φ : Phi} : ∀ {l : List D} {vs : List Value} {es : List En}, RaOk l vs es → Reps Φ es → Ra Φ l vs
  | [], [], [], _, _ => by simp [Ra]
  | [], [], _ :: _, h, _ => by cases h
  | [], _ :: _, _, h, _ => by cases h
  | x :: l, [], es, h, _ => by cases x <;> cases h
  | x :: l, v :: vs, [], h, H => by
    cases x with
    | v x => obtain ⟨rfl, h⟩ := h; simp only [Ra]; exact ⟨_, _, rfl, by simp only [Rc], h.ra H⟩
    | _ => cases h
  | x :: l, v :: vs, e :: es, h, H => by
    cases x with
    | v x => obtain ⟨rfl, h⟩ := h; simp only [Ra]; exact ⟨_, _, rfl, by simp only [Rc], h.ra H⟩
    | _ => obtain ⟨rfl, h⟩ := h; simp only [Ra]; exact ⟨_, _, rfl, H.1, h.ra H.2⟩

def SS.val (S : SS) (x : Operand) : Option Value := match S.get x with | .v v => some v | _ => none
def valsO (S : SS) : List Operand → Option (List Value)
  | [] => some []
  | x :: l => match S.val x, valsO S l with
    | some v, some vs => some (v :: vs)
    | _, _ => none
theorem valsO_ev {Γ : Ctx} {Φ : Phi} {β : Nat → Nat} {S : SS} {a : Act} {w : World} (h : St Γ Φ β S a w) : ∀ {l : List Operand} {vs : List Value}, valsO S l = some vs → l.map a.eval = vs
  | [], vs, e => by cases e; rfl
  | x :: l, vs, e => by
    unfold valsO at e
    split at e
    · rename_i v vs' h1 h2
      cases e
      unfold SS.val at h1
      split at h1
      · rename_i v' hv; cases h1
        rw [List.map_cons, fits_v h hv, valsO_ev h h2]
      · cases h1
    · cases e

/-- A region that calls yield: up to there; what is called with what; where it is put. -/
def yM (P : Program) (i : Nat) (m : MS) : Option (Nat × List Value × Nat) :=
  match m.k with
  | .code (.region _ ops false) :: _ => match runS P ops (ops.toList.take i) m.s, ops.toList[i]? with
    | some S1, some o => match o.op, o.guard, o.dst with
      | .call { callee := .value fo, args, argTypes := _ }, none, some d => match S1.get fo, valsO S1 args.toList with
        | .v (.func (.yield l) x z), some vs => if x.size == 0 && z.size == 0 then some (l, vs, d) else none
        | _, _ => none
      | _, _, _ => none
    | _, _ => none
  | _ => none
/-- The machine behind that region. -/
def yN (P : Program) (i d : Nat) (b : Bool) (m : MS) : Option MS :=
  match m.k with
  | .code (.region _ ops false) :: k => match runS P ops (ops.toList.take i) m.s with
    | some S1 => (runS P ops (ops.toList.drop (i + 1)) (S1.put (some d) (.v (.bool b)))).map fun S2 => ⟨k, S2⟩
    | none => none
  | _ => none

theorem bd_putv {S : SS} (h : S.bd = true) (d : Option Nat) (v : Value) : (S.put d (.v v)).bd = true := by
  unfold SS.bd at h ⊢
  rw [put_hp]
  rw [Bool.and_eq_true] at h ⊢
  refine ⟨?_, h.2⟩
  cases d with
  | none => exact h.1
  | some d =>
    simp only [SS.put]
    have h1 := h.1
    rw [List.all_eq_true] at h1 ⊢
    intro x hx
    rcases List.mem_or_eq_of_mem_set hx with hx | rfl
    · exact h1 x hx
    · rfl

section
variable {A R τ α : Type} {P : Program} {Q : R → QT} {Φ Φ00 : Phi} {m : MS} {o : Option A} {K : A → Option R} {L : List En} {w0 : World} {F0 : Nat → Prop} {J : τ → Phi → (Nat → Prop) → World → Prop} {t : τ} {c : Cy} {l : Nat} {enc : α → List D} {y : τ → α → Option (Bool × τ)}

theorem AtM.yield {Q : QT} (i : Nat) {a : α} {b : Bool} {t' : τ} {vs : List Value} {d : Nat} {S2 : MS} (hY : Yld P l enc y J) (hI : InvI w0 Φ00 F0 J t c) (hy : y t a = some (b, t')) (hra : Ra Φ (enc a) vs)
    (h : yM P i m = some (l, vs, d)) (h2 : yN P i d b m = some S2) (hd : noDrw m.k = true)
    (k : ∀ c' Φ', PhiLe 0 Φ Φ' → InvI w0 Φ00 F0 J t' c' → AtM (c'.x P 0 []) Q Φ' S2) : AtM (c.x P 0 []) Q Φ m := by
  obtain ⟨fs, S⟩ := m
  unfold yM at h
  split at h
  · rename_i id ops k0 hk
    simp only at hk h; subst hk
    unfold yN at h2
    simp only at h2
    split at h
    · rename_i S1 o hS1 ho
      rw [hS1] at h2
      simp only [Option.map_eq_some_iff] at h2
      obtain ⟨Sf, hrest, rfl⟩ := h2
      split at h
      · rename_i fo args aty d' hop hg hdst
        split at h
        · rename_i l' x z vs' hfo hvs
          split at h
          · rename_i hxz
            cases h
            rw [Bool.and_eq_true, beq_iff_eq, beq_iff_eq] at hxz
            have hx : x = #[] := Array.eq_empty_of_size_eq_zero hxz.1
            have hz : z = #[] := Array.eq_empty_of_size_eq_zero hxz.2
            subst hx hz
            intro env hdr β a w hst
            show Code.wpIn (fe none) 0 P _ _ a w
            refine wpIn_wide.2 ((wpIn_wide (n := 1)).1 (wpIn_region_list ?_))
            have hsplit : ops.toList = ops.toList.take i ++ (o :: ops.toList.drop (i + 1)) := by
              have hlt := lt_get ho
              have h1 : ops.toList[i] = o := by rw [List.getElem?_eq_getElem hlt] at ho; exact Option.some.inj ho
              rw [← h1, ← List.drop_eq_getElem_cons hlt, List.take_append_drop]
            rw [hsplit]
            refine At.runI (Γ := c.x P 0 []) (F := Fence.wide) (fun _ => trivial) _ _ S hS1 ?_ β a w hst
            intro β a w hst
            unfold wpListIn
            have hwant : Region.wanted o (yielded ops a.tmps) = true := by simp [Region.wanted, hg]
            rw [if_pos hwant]
            refine ⟨fun f _ => trivial, ?_⟩
            obtain ⟨F, hJ, hF⟩ := hI.now hY hst
            obtain ⟨r, hr, hps, hround⟩ := hY.run t _ b t' Φ F w vs hy hJ hst.sto hra (fun k hk => ⟨(hF k hk).2.2.1, (hF k hk).2.1⟩)
            have hargs : args.map a.eval = vs.toArray := by
              apply Array.ext'
              rw [Array.toList_map]
              exact valsO_ev hst hvs
            have hex : (o.semAt Fence.wide.round a.eval).run P w = .ok (.round l r.fn ((r.params.zip vs.toArray).foldl (fun t (p, v) => t.setIfInBounds p v) r.tmps) r.assign r.body) w := by
              rw [Oper.semAt_eq _ _ _ (by intro c hc; rw [hop] at hc; cases hc)]
              have hy := run_yield (P := P) (args := vs.toArray) hr (by rw [hps]; simp)
              unfold execOp; rw [hop]
              simp only [resolve, fits_v hst hfo, Deferred.ofValue, Sem.run_bind, Sem.run_pure, Result.andThen_ok, invoke]
              simp only [hargs]
              simp only [Array.empty_append, hy]
            rw [hex]
            refine ⟨fun hf => by simp [Fence.wide] at hf, RoundIn.mono hround ?_⟩
            rintro e w' ⟨rfl, hR⟩
            obtain ⟨Φ', hle, hI', hst'⟩ := hI.next hst hF hR
            have hst2 := hst'.put o.dst (x := .v (.bool b)) (v := .bool b) (.inr rfl) (bd_putv hst'.bd _ _)
            have hk := k _ Φ' hle hI'
            have hfin := At.runI (Γ := (Cy.mk w' (fun i k => ∃ b, S1.hp[i]? = some b ∧ b.bid β i = some k) Φ' c.β0).x P 0 []) (Φ := Φ') (Q := exits P none Q k0) (ops := ops) (n := 1) (F := Fence.wide) (fun _ => trivial) (ops.toList.drop (i + 1)) [] _ (by rw [hdst]; exact hrest) (fun β a w hst => hk ⟨env.mixed, env.pan, env.out⟩ (drwOk.none hd) β a w hst) β _ w' hst2
            rw [List.append_nil] at hfin
            exact hfin
          · cases h
        · cases h
      · cases h
    · cases h
  · cases h

def yNd (P : Program) (i d : Nat) (b : Bool) (m : MS) : MS := (yN P i d b m).getD m
theorem W.yield (q i : Nat) {d : Nat} {a : α} {vs : List Value} {es : List En} {F : Bool × τ → Option A} (hY : Yld P l enc y J) (hI : InvI w0 Φ00 F0 J t c) (ps : List Nat) (H : Reps Φ L)
    (k : ∀ b t' c' Φ', y t a = some (b, t') → InvI w0 Φ00 F0 J t' c' → Reps Φ' L → W (c'.x P 0 []) Q Φ' (yNd P i d b (goM P true Φ q m)) (F (b, t')) K)
    (hv : RaOk (enc a) vs es) (hes : ps.map (L[·]?) = es.map some := by rfl) (h : yM P i (goM P true Φ q m) = some (l, vs, d) := by kernel_rfl) (h2 : ∀ b, (yN P i d b (goM P true Φ q m)).isSome = true := by (intro b; cases b <;> kernel_rfl)) (hd : noDrw (goM P true Φ q m).k = true := by kernel_rfl) :
    W (c.x P 0 []) Q Φ m ((y t a).bind F) K := by
  refine ⟨fun r hr => ?_⟩
  obtain ⟨⟨b, t'⟩, hx, hF⟩ := Option.bind_eq_some_iff.1 (by rw [Option.bind_assoc] at hr; exact hr)
  have h3 : yN P i d b (goM P true Φ q m) = some (yNd P i d b (goM P true Φ q m)) := by
    unfold yNd
    obtain ⟨x, hx⟩ := Option.isSome_iff_exists.1 (h2 b)
    rw [hx]; rfl
  exact AtM.go q (AtM.yield i hY hI hx (hv.ra (H.sub ps hes)) h h3 hd fun c' Φ' hle hI' => k b t' c' Φ' hx hI' (H.mono hle) r hF)

/-- The end of an iterator. -/
def IQ (P : Program) (fn : Func) (J : τ → Phi → (Nat → Prop) → World → Prop) (Φ00 : Phi) (F0 : Nat → Prop) (w0 : World) (r : τ) : QT :=
  bodyPost P fn (fun e w' => e = .returned (.tuple #[]) ∧ RoundEnd J r Φ00 F0 w0 w')
theorem AtM.iend {fn : Func} (hY : Yld P l enc y J) (hI : InvI w0 Φ00 F0 J t c) (he : endM m = true) (hres : fn.results = #[]) : AtM (c.x P 0 []) (IQ P fn J Φ00 F0 w0 t) Φ m := by
  intro _ _ β a w h
  have key : a.defers = [] ∧ ∃ v, (results fn a.tmps).run P w = .ok v w ∧ (Ending.returned v = .returned (.tuple #[]) ∧ RoundEnd J t Φ00 F0 w0 w) := by
    refine ⟨h.df, .tuple #[], ?_, rfl, hI.fin hY h⟩
    unfold results
    rw [hres]
    simp
  obtain ⟨fs, S⟩ := m
  unfold endM at he
  split at he
  · rename_i hk; simp only at hk; subst hk; exact key
  · rename_i k' hk; simp only at hk; subst hk
    refine wpIn_ret ?_
    rw [exits_ret]
    exact key
  · cases he
theorem W.iend (q : Nat) {fn : Func} (hY : Yld P l enc y J) (hI : InvI w0 Φ00 F0 J t c) (he : endM (GM (c.x P 0 []) Φ q m) = true := by kernel_rfl) (hres : fn.results = #[] := by kernel_rfl) :
    W (c.x P 0 []) (IQ P fn J Φ00 F0 w0) Φ m (some t) some := ⟨fun r h => by
  cases h
  exact AtM.go q (AtM.iend hY hI he hres)⟩

theorem IterC.W {gf : FuncId} {caps : List Value} {fn : Func} {g : τ → Option τ} (hf : P.funcs[gf]? = some fn)
    (k : ∀ l J w0 F0 c t, Yld P l enc y J → InvI w0 Φ F0 J t c → W (c.x P 0 []) (IQ P fn J Φ F0 w0) Φ ⟨[.code (bodyC fn)], ⟨.v (.func (.yield l) #[] #[]) :: (caps.map .v ++ List.replicate (fn.ntmps - (caps.length + 1)) (.v undef)), []⟩⟩ (g t) some)
    (hb : fn.body.isSome = true := by kernel_rfl) (hmx : P.follows .mixedOrders = true := by kernel_rfl) : IterC P gf caps Φ enc y g := by
  intro l J hY t r F w hg hJ hs hF
  have hb' : fn.body = some (bodyC fn) := by unfold bodyC; cases h : fn.body with | none => rw [h] at hb; cases hb | some c => rfl
  refine calls_of_wp hf hb' ((wpIn_wide (n := 0)).1 ?_)
  have hk := k l J w F ⟨w, fun _ _ => False, Φ, fun _ => 0⟩ t hY ⟨rfl, rfl, rfl, Nat.le_refl _, fun _ _ _ => rfl, fun _ _ h => h.elim, ⟨fun _ _ h => h, fun _ _ _ => rfl⟩, F, hJ, fun k hk => ⟨.inl hk, (hF k hk).2, fun ⟨_, h⟩ => h, (hF k hk).1⟩⟩ r (by rw [hg]; rfl) ⟨hmx, fun _ => PanOk.body, fun h => absurd rfl h⟩ trivial
  refine hk (fun _ => 0) _ w ⟨?_, rfl, ⟨fun i cs t hi => by simp at hi, fun i v n xs t sz hi => by simp at hi, fun i j bi bj k hi => by simp at hi, fun i b k hi => by simp at hi, fun i g cs t hi => by simp at hi⟩, hs, fun i b k hi => by simp at hi, ⟨rfl, rfl, rfl, Nat.le_refl _, fun _ _ _ => rfl⟩, ⟨fun _ _ h => h, fun _ _ _ => rfl⟩, ?_, fun i hi => absurd hi (Nat.not_lt_zero i), Nat.zero_le _⟩
  · have e1 := mat_v (β := fun _ => 0) (Value.func (.yield l) #[] #[] :: (caps ++ List.replicate (fn.ntmps - (caps.length + 1)) undef))
    simpa [List.map_replicate] using e1
  · unfold SS.bd
    rw [Bool.and_eq_true]
    refine ⟨List.all_eq_true.2 fun x hx => ?_, rfl⟩
    obtain ⟨v, rfl⟩ : ∃ v, x = .v v := by
      rcases List.mem_cons.1 hx with rfl | hx
      · exact ⟨_, rfl⟩
      · rcases List.mem_append.1 hx with hx | hx
        · obtain ⟨v, _, rfl⟩ := List.mem_map.1 hx; exact ⟨v, rfl⟩
        · exact ⟨_, (List.mem_replicate.1 hx).2⟩
    rfl

/-- Rounds of an iterator, and what follows them. -/
theorem W.loopY (q : Nat) {σ τ' : Type} (Lp : Nat → σ → Option A) (gh : σ → τ) (Sf : σ → τ' → SS) (Ls : σ → τ' → List En) {n : Nat} {st0 : σ} (t0 : τ') (hI : InvI w0 Φ00 F0 J (gh st0) c) (H : Reps Φ (Ls st0 t0)) (h0 : ∀ st, Lp 0 st = none)
    (body : ∀ n, (∀ c st t Φ', InvI w0 Φ00 F0 J (gh st) c → Reps Φ' (Ls st t) → W (c.x P 0 []) Q Φ' ⟨(goM P true Φ q m).k, Sf st t⟩ (Lp n st) K) → ∀ c st t Φ', InvI w0 Φ00 F0 J (gh st) c → Reps Φ' (Ls st t) → W (c.x P 0 []) Q Φ' (lpB (goM P true Φ q m) (Sf st t)) (Lp (n + 1) st) K)
    (hl : isLoop (goM P true Φ q m) = true) (hS : maskS (Sf st0 t0) (goM P true Φ q m).s = Sf st0 t0) (hfl : (Sf st0 t0).fr.length = (goM P true Φ q m).s.fr.length) (hb : (Sf st0 t0).bd = true) : W (c.x P 0 []) Q Φ m (Lp n st0) K := by
  have key : ∀ n c st t Φ', InvI w0 Φ00 F0 J (gh st) c → Reps Φ' (Ls st t) → W (c.x P 0 []) Q Φ' ⟨(goM P true Φ q m).k, Sf st t⟩ (Lp n st) K := by
    intro n
    induction n with
    | zero => intro c st t Φ' _ _; refine ⟨fun r hr => ?_⟩; rw [h0] at hr; cases hr
    | succ n ih =>
      intro c st t Φ' hI' H'
      have hb := body n ih c st t Φ' hI' H'
      unfold isLoop at hl
      split at hl
      · rename_i c' k1 hk
        unfold lpB at hb
        rw [hk] at hb ⊢
        exact W.unroll hb
      · cases hl
  exact W.to q (key n c st0 t0 Φ hI H) rfl hS hfl hb (by rfl)

theorem W.lpY {σ τ1 γ ρ τ' : Type} (q : Nat) (id : Nat) {rr : ρ → A} {F : γ → Option A} (Lp : Nat → σ → Option (Lo γ ρ)) (gh : σ → τ) (gx : γ → τ) (Sf : σ → τ1 → SS) (Ls : σ → τ1 → List En) (Sx : γ → τ' → SS) (Lx : γ → τ' → List En) {n : Nat} {st0 : σ} (t0 : τ1) (hI : InvI w0 Φ00 F0 J (gh st0) c) (H : Reps Φ (Ls st0 t0)) (h0 : ∀ st, Lp 0 st = none)
    (cont : ∀ c a t Φ', InvI w0 Φ00 F0 J (gx a) c → Reps Φ' (Lx a t) → W (c.x P 0 []) Q Φ' ⟨popK id (goM P true Φ q m).k, Sx a t⟩ (F a) K)
    (body : ∀ n, (∀ c st t Φ', InvI w0 Φ00 F0 J (gh st) c → Reps Φ' (Ls st t) → W (c.x P 0 []) Q Φ' ⟨(goM P true Φ q m).k, Sf st t⟩ (Lp n st) (Lo.kk rr F K)) → (∀ c a t Φ', InvI w0 Φ00 F0 J (gx a) c → Reps Φ' (Lx a t) → W (c.x P 0 []) Q Φ' ⟨popK id (goM P true Φ q m).k, Sx a t⟩ (some (Lo.ex a)) (Lo.kk rr F K)) → ∀ c st t Φ', InvI w0 Φ00 F0 J (gh st) c → Reps Φ' (Ls st t) → W (c.x P 0 []) Q Φ' (lpB (goM P true Φ q m) (Sf st t)) (Lp (n + 1) st) (Lo.kk rr F K))
    (hl : isLoop (goM P true Φ q m) = true := by kernel_rfl) (hS : maskS (Sf st0 t0) (goM P true Φ q m).s = Sf st0 t0 := by kernel_rfl) (hfl : (Sf st0 t0).fr.length = (goM P true Φ q m).s.fr.length := by kernel_rfl) (hb : (Sf st0 t0).bd = true := by kernel_rfl) : W (c.x P 0 []) Q Φ m ((Lp n st0).bind (Lo.k rr F)) K :=
  W.lbind (W.loopY q Lp gh Sf Ls t0 hI H h0 (fun n ih c st t Φ' hI' H' => body n ih (fun c a t Φ' hI' H' => W.ex (cont c a t Φ' hI' H')) c st t Φ' hI' H') hl hS hfl hb)
end
end Go.Sx
