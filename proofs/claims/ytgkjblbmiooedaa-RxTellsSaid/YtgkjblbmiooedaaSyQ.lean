/- SyQ: what follows a range over an iterator; rounds' ends; ends of functions that ranged. General: no program. -/
import Derived.Test.YtgkjblbmiooedaaSyP
namespace Go.Sx
open Go.RowKit

def mkD (D : Nat) : Deferred := { target := .collected D, args := #[] }
/-- The context is one of this activation; its marks. -/
structure Mks (Γ0 Γ : Ctx) (Ds : List Nat) : Prop where
  sub : Sub Γ0 Γ
  df : Γ.df = Ds.map mkD
  nd : Ds.Nodup
  each : ∀ D ∈ Ds, Γ0.E.heap.size ≤ D ∧ D < Γ.E.heap.size ∧ Γ.E.heap[D]? = some (.deferred (some [])) ∧ ¬ ∃ i, Γ.G i D
theorem Mks.refl {Γ : Ctx} (h : Γ.df = []) : Mks Γ Γ [] := ⟨Sub.refl Γ, h, List.nodup_nil, fun _ h => by cases h⟩

section
variable {P : Program} {σ τ α : Type} {β : Nat → Nat} {hps : σ → τ → List Blk} {ens : σ → τ → List En} {enc : α → List D} {Y : σ → α → Option (Rd σ)}

theorem AtM.rng {Γ0 : Ctx} {Ds : List Nat} {E : World} {G : Nat → Nat → Prop} {Φ0 Φ : Phi} {β0 : Nat → Nat} {n : Nat} {df : List Deferred} {Q : QT} {go : Operand} {params : List Nat} {assign body : Code} {k0 : List Fr} {fr : List SV} {s0 : σ} {t0 : τ} {gf : FuncId} {caps : List Value} {g : Rd σ → Option (Rd σ)} {r : Rd σ} {N qa : Nat} {fr1 : σ → τ → α → List Vr → List SV}
    (hM : Mks Γ0 ⟨P, E, G, Φ0, β0, n, df, none⟩ Ds)
    (hmx : P.follows .mixedOrders = true) (hfo : fnOf (({ fr, hp := hps s0 t0 } : SS).get go) = some (gf, [], caps.map .v)) (hc : callable P gf = true) (hg : g (.go s0) = some r) (hI : IterC P gf caps Φ enc (yOf Y) g) (H : Reps Φ (ens s0 t0))
    (hN : ∀ s t, (hps s t).length = N) (hbd : ∀ s t, (hps s t).all (Blk.bd N) = true) (hfb : fr.all (SV.bd N) = true) (hn : n ≤ N) (hpl : ∀ a, (enc a).length = params.length) (hd : noDrw k0 = true)
    (hA : ∀ Φ s t a us, us.map Vr.isS = vrs (enc a) → goM P false Φ qa ⟨[.code assign], ⟨setS fr params (cellSV (enc a) us), hps s t⟩⟩ = ⟨[], ⟨fr1 s t a us, hps s t⟩⟩)
    (hB : ∀ l E G β0 s t a us Φ', us.map Vr.isS = vrs (enc a) → Reps Φ' (cellEn (enc a) us ++ ens s t) → W ⟨P, E, G, Φ', β0, N, [], some l⟩ (RQ E G Φ' β0 hps ens) Φ' ⟨[.code body], ⟨fr1 s t a us, hps s t⟩⟩ (Y s a) some)
    (k : ∀ (c' : Cy) (D : Nat) t Φ', PhiLe 0 Φ Φ' → Mks Γ0 (c'.x P n (mkD D :: df)) (D :: Ds) → Reps Φ' (ens r.v t) → AtM (c'.x P n (mkD D :: df)) Q Φ' ⟨r.code ++ k0, ⟨fr, hps r.v t⟩⟩) :
    AtM ⟨P, E, G, Φ0, β0, n, df, none⟩ Q Φ ⟨.code (.rangeFunc go params.toArray assign body) :: k0, ⟨fr, hps s0 t0⟩⟩ := by
  intro env hdr β a w h
  show Code.wpIn Fence.wide 0 P _ _ a w
  refine wpIn_rangeFunc ?_
  intro fnn _
  obtain ⟨r0, hr0⟩ : ∃ r0 : Loop, r0 = { state := .ready, pending := none, fn := fnn, tmps := a.tmps, params := params.toArray, assign, body, defers := w.heap.size } := ⟨_, rfl⟩
  obtain ⟨W1, hW⟩ : ∃ W1, W1 = (w.alloc (.deferred (some []))).alloc (.loop r0) := ⟨_, rfl⟩
  obtain ⟨l, hl⟩ : ∃ l, l = w.heap.size + 1 := ⟨_, rfl⟩
  have hWl : W1.heap[l]? = some (.loop r0) := by
    rw [hW, hl]
    have := heap_alloc_new (w.alloc (.deferred (some []))) (.loop r0)
    rwa [World.size_alloc] at this
  have hWD : W1.heap[w.heap.size]? = some (.deferred (some [])) := by rw [hW]; exact heap_alloc_old (heap_alloc_new w _)
  have hWo : ∀ k, k < w.heap.size → W1.heap[k]? = w.heap[k]? := fun k hk => by
    rw [hW, Below.heap_alloc _ _ k (by simp; omega), Below.heap_alloc _ _ k hk]
  have hWs : W1.heap.size = w.heap.size + 2 := by rw [hW]; simp
  have hEw : E.heap.size ≤ w.heap.size := h.keep.size
  have hsW : Sto Φ W1 := fun b cs hb => by
    obtain ⟨hz, hzq⟩ := h.sto b cs hb
    exact ⟨(hWo b (lt_of_heap hz)).trans hz, hzq⟩
  have hΦ : ∀ k, w.heap.size ≤ k → Φ k = none := fun k hk => by
    cases hq : Φ k with
    | none => rfl
    | some cs => have := lt_of_heap (h.sto k cs hq).1; omega
  have hsz0 := hN s0 t0
  have hOW : Own β (hps s0 t0) Φ W1 := h.own.keepF (fun i b k hi hb => hWo k (h.own.lt hi hb)) ⟨fun _ _ h => h, fun _ _ => rfl⟩ h.own.phi
  have hbn : ∃ fn, P.funcs[gf]? = some fn ∧ fn.body.isSome = true ∧ (fn.name == "runtime.NumGoroutine") = false := by
    unfold callable at hc
    split at hc
    · rename_i fn hf
      rw [Bool.and_eq_true, Bool.not_eq_true'] at hc
      exact ⟨fn, hf, hc.1, hc.2⟩
    · cases hc
  obtain ⟨gfn, hgf, hbody, hname⟩ := hbn
  have hb : gfn.body.isNone = false := by cases hq : gfn.body <;> simp_all
  refine ⟨l, [mkD w.heap.size], W1, { target := .fn (.func gf) caps.toArray, args := #[.func (.yield l) #[] #[]] }, W1, gf, #[.func (.yield l) #[] #[]] ++ caps.toArray, W1, ?_, ?_, fun _ _ => trivial, ?_, fun hf => by simp [Fence.wide] at hf, ?_⟩
  · rw [hW, hr0, hl]; exact run_enterLoop_outer _ _ _ _ _
  · simp only [resolve, fnOf_eval h hfo, Deferred.ofValue]
    simp [Act.eval]
  · simp only [invoke, callFunc, Sem.run_bind, run_program, Result.andThen_ok, hgf, hname, hb]
    simp
  · refine callsIn_wide.2 ?_
    have hY : Yld P l enc (yOf Y) (OJ l r0 β hps ens) := OJ.yld (N := N) (qa := qa) (fr := fr) (params := params) (fr1 := fr1) hmx hN hbd (by rw [hr0]; exact h.fr) hfb (by rw [hr0]) hpl (by rw [hr0]; exact hA) (by rw [hr0]; exact hB l)
    have hcall := hI l _ hY (.go s0) r (fun k => k = l ∨ ∃ (i : Nat) (b : Blk), (hps s0 t0)[i]? = some b ∧ b.bid β i = some k) W1 hg
      ⟨by rw [hWl, hr0]; rfl, t0, hOW, H, fun k => Iff.rfl⟩ hsW (by
        rintro k (rfl | ⟨i, b, hi, hb⟩)
        · exact ⟨hΦ k (by omega), by omega⟩
        · exact ⟨h.own.phi i b k hi hb, by have := h.own.lt hi hb; omega⟩)
    have hargs : (Value.func (.yield l) #[] #[] :: caps).toArray = #[.func (.yield l) #[] #[]] ++ caps.toArray := by apply Array.ext'; simp
    rw [hargs] at hcall
    refine hcall.mono fun e w3 hR => ?_
    obtain ⟨rfl, Φ3, F3, ⟨h3l, t3, hO3, hR3, hF3⟩, hs3, hk3, hphi3, hf3⟩ := hR
    obtain ⟨w4, hw4⟩ : ∃ w4, w4 = w3.putObj l (.loop { r0 with state := .exhausted, pending := r.jump }) := ⟨_, rfl⟩
    have hend : (Instr.endLoop l).run P w3 = .ok r.jump w4 := by
      rw [hw4]; exact run_endLoop (r := { r0 with state := r.st, pending := r.jump }) h3l (by cases r <;> simp [Rd.st, Rd.jump])
    have h4o : ∀ k, k ≠ l → w4.heap[k]? = w3.heap[k]? := fun k hk => by rw [hw4]; exact World.putObj_heap_other hk
    have h4s : w4.heap.size = w3.heap.size := by rw [hw4]; exact World.putObj_size
    have hne3 : ∀ {i : Nat} {b : Blk}, (hps r.v t3)[i]? = some b → b.bid β i ≠ some l := fun hi => own_ne hO3 h3l hi
    have hs13 : W1.heap.size ≤ w3.heap.size := hk3.size
    have hΦ3l : Φ3 l = none := sto_ne hs3 h3l
    have hs4 : Sto Φ3 w4 := fun b cs hb => by
      obtain ⟨hz, hzq⟩ := hs3 b cs hb
      refine ⟨(h4o b ?_).trans hz, hzq⟩
      rintro rfl
      rw [hΦ3l] at hb; cases hb
    have hO4 : Own β (hps r.v t3) Φ3 w4 := hO3.keepF (fun i b k hi hb => h4o k (by rintro rfl; exact hne3 hi hb)) ⟨fun _ _ h => h, fun _ _ => rfl⟩ hO3.phi
    have hF0 : ∀ k, k < w.heap.size → (k = l ∨ ∃ (i : Nat) (b : Blk), (hps s0 t0)[i]? = some b ∧ b.bid β i = some k) → E.heap.size ≤ k ∨ ∃ j, G j k := by
      rintro k hk (rfl | ⟨i, b, hi, hb⟩)
      · omega
      · exact h.lo i b k hi hb
    have hown3 : ∀ {i : Nat} {b : Blk} {k : Nat}, (hps r.v t3)[i]? = some b → b.bid β i = some k → E.heap.size ≤ k ∨ ∃ j, G j k := by
      intro i b k hi hb
      rcases (hf3 k ((hF3 k).2 (.inr ⟨i, b, hi, hb⟩))).1 with (rfl | ⟨i', b', hi', hb'⟩) | h1
      · exact .inl (by omega)
      · exact h.lo i' b' k hi' hb'
      · exact .inl (by omega)
    have hos : w4.os = w.os := by
      have e1 : w4.os = w3.os := by rw [hw4]; rfl
      have e2 : W1.os = w.os := by rw [hW]; rfl
      rw [e1, hk3.os, e2]
    have htp : w4.tape = w.tape := by
      have e1 : w4.tape = w3.tape := by rw [hw4]; rfl
      have e2 : W1.tape = w.tape := by rw [hW]; rfl
      rw [e1, hk3.tape, e2]
    have hou : w4.output = w.output := by
      have e1 : w4.output = w3.output := by rw [hw4]; rfl
      have e2 : W1.output = w.output := by rw [hW]; rfl
      rw [e1, hk3.output, e2]
    have hsub : Sub ⟨P, E, G, Φ0, β0, n, df, none⟩ ((Cy.mk w4 (gOf β (hps r.v t3)) Φ3 β0).x P n (mkD w.heap.size :: df)) := by
      refine ⟨rfl, rfl, hos.trans h.keep.os, htp.trans h.keep.tape, hou.trans h.keep.output, ?_, fun k hk hn => ?_, fun k ⟨i, b, hi, hb⟩ => hown3 hi hb, ⟨fun b cs hb => hphi3.1 b cs (h.phi.1 b cs hb), fun b hb hn => ?_⟩⟩
      · show E.heap.size ≤ w4.heap.size
        omega
      · have hk' : k < E.heap.size := hk
        show w4.heap[k]? = _
        rw [h4o k (by omega), hk3.block k (by omega) (by
          rintro ⟨_, hf⟩
          rcases hF0 k (by omega) hf with h1 | h1
          · omega
          · exact hn h1), hWo k (by omega)]
        exact h.keep.block k hk hn
      · have hb' : b < E.heap.size := hb
        refine (hphi3.2 b (by omega) ?_).trans (h.phi.2 b hb hn)
        rintro ⟨_, hf⟩
        rcases hF0 b (by omega) hf with h1 | h1
        · omega
        · exact hn h1
    have hD4 : w4.heap[w.heap.size]? = some (.deferred (some [])) := by
      rw [h4o _ (by omega), hk3.block _ (by omega) (by
        rintro ⟨_, hf⟩
        rcases hf with hf | ⟨i, b, hi, hb⟩
        · omega
        · have := h.own.lt hi hb; omega)]
      exact hWD
    have hDG : ¬ ∃ i, gOf β (hps r.v t3) i w.heap.size := by
      rintro ⟨i, b, hi, hb⟩
      rcases (hf3 _ ((hF3 _).2 (.inr ⟨i, b, hi, hb⟩))).1 with (h1 | ⟨i', b', hi', hb'⟩) | h1
      · omega
      · have := h.own.lt hi' hb'; omega
      · omega
    have hMk : Mks Γ0 ((Cy.mk w4 (gOf β (hps r.v t3)) Φ3 β0).x P n (mkD w.heap.size :: df)) (w.heap.size :: Ds) := by
      refine ⟨hM.sub.trans hsub, by show _ :: df = _; rw [show df = Ds.map mkD from hM.df]; rfl, List.nodup_cons.2 ⟨fun hm => ?_, hM.nd⟩, fun D hD => ?_⟩
      · have := (hM.each _ hm).2.1
        have h' : w.heap.size < E.heap.size := this
        omega
      · rcases List.mem_cons.1 hD with rfl | hD
        · refine ⟨Nat.le_trans hM.sub.size hEw, ?_, hD4, hDG⟩
          show w.heap.size < w4.heap.size
          omega
        · obtain ⟨h1, h2, h3, h4⟩ := hM.each D hD
          have h2' : D < E.heap.size := h2
          refine ⟨h1, ?_, ?_, ?_⟩
          · show D < w4.heap.size
            omega
          · exact (hsub.block D h2 h4).trans h3
          · intro hg
            rcases hsub.lo D hg with h5 | h5
            · have h5' : E.heap.size ≤ D := h5
              omega
            · exact h4 h5
    have hst : St ((Cy.mk w4 (gOf β (hps r.v t3)) Φ3 β0).x P n (mkD w.heap.size :: df)) Φ3 β ⟨fr, hps r.v t3⟩ { a with defers := [mkD w.heap.size] ++ a.defers } w4 := by
      refine ⟨h.fr, by show mkD _ :: a.defers = _; rw [h.df], hO4, hs4, fun i b k hi hb => .inr ⟨i, b, hi, hb⟩, ⟨rfl, rfl, rfl, Nat.le_refl _, fun _ _ _ => rfl⟩, ⟨fun _ _ h => h, fun _ _ _ => rfl⟩, ?_, h.pin, by show n ≤ _; rw [hN]; exact hn⟩
      unfold SS.bd
      rw [Bool.and_eq_true]
      simp only [hN]
      exact ⟨hfb, hbd r.v t3⟩
    have hk := k _ _ t3 Φ3 ⟨hphi3.1, fun _ h => absurd h (Nat.not_lt_zero _)⟩ hMk hR3 ⟨env.mixed, env.pan, env.out⟩ (drwOk.none (by cases r <;> exact hd)) β _ w4 hst
    refine ⟨r.jump, w4, hend, ?_⟩
    cases r with
    | go s => exact hk
    | ex j s => exact hk
    | rt s => exact hk
end

def isRng (m : MS) : Bool := match m.k with | .code (.rangeFunc _ _ _ _) :: _ => true | _ => false
def rngGo (m : MS) : Operand := match m.k with | .code (.rangeFunc g _ _ _) :: _ => g | _ => .tmp 0
def rngPs (m : MS) : List Nat := match m.k with | .code (.rangeFunc _ ps _ _) :: _ => ps.toList | _ => []
def rngA (m : MS) : Code := match m.k with | .code (.rangeFunc _ _ a _) :: _ => a | _ => .skip
def rngB (m : MS) : Code := match m.k with | .code (.rangeFunc _ _ _ b) :: _ => b | _ => .skip
def rngK (m : MS) : List Fr := m.k.tail
theorem isRng_k {m : MS} (h : isRng m = true) : m.k = .code (.rangeFunc (rngGo m) (rngPs m).toArray (rngA m) (rngB m)) :: rngK m := by
  obtain ⟨k, S⟩ := m
  unfold isRng at h
  split at h
  · rename_i hk
    simp only at hk; subst hk
    simp [rngGo, rngPs, rngA, rngB, rngK]
  · cases h

/-- Which way it is left. -/
def Rd.k {σ A : Type} (go : σ → Option A) (ex : Nat → σ → Option A) (rt : σ → Option A) : Rd σ → Option A
  | .go s => go s
  | .ex j s => ex j s
  | .rt s => rt s
def exd {A : Type} (j i : Nat) (X : Option A) : Option A := if j = i then X else none

section
variable {A R σ τ α : Type} {P : Program} {Γ : Ctx} {Q : R → QT} {Φ : Phi} {m : MS} {o : Option A} {K : A → Option R} {L : List En}
theorem W.exd {j i : Nat} (k : j = i → W Γ Q Φ m o K) : W Γ Q Φ m (Sx.exd j i o) K := ⟨fun r h => by
  unfold Sx.exd at h
  split at h
  · rename_i e; exact k e r h
  · cases h⟩

/-- The frame at a round's start. -/
def rnd0 (P : Program) (qa : Nat) (m : MS) (fr : List SV) (hp : List Blk) (xs : List SV) : MS := goM P false (fun _ => none) qa ⟨[.code (rngA m)], ⟨setS fr (rngPs m) xs, hp⟩⟩

theorem W.rng {Γ0 : Ctx} {Ds : List Nat} {E : World} {G : Nat → Nat → Prop} {Φ0 : Phi} {β0 : Nat → Nat} {n : Nat} {df : List Deferred} (q qa N : Nat) {fr : List SV} {hps : σ → τ → List Blk} {ens : σ → τ → List En} {enc : α → List D} {Y : σ → α → Option (Rd σ)} {s0 : σ} (t0 : τ) {gf : FuncId} {caps : List Value} {g : Rd σ → Option (Rd σ)} {F : Rd σ → Option A} (bs : List Bool)
    (hM : Mks Γ0 ⟨P, E, G, Φ0, β0, n, df, none⟩ Ds) (hI : IterC P gf caps Φ enc (yOf Y) g) (H : Reps Φ (ens s0 t0))
    (hB : ∀ l E G β0 s t a Φ', VrAll bs fun us => Reps Φ' (cellEn (enc a) us ++ ens s t) → W ⟨P, E, G, Φ', β0, N, [], some l⟩ (RQ E G Φ' β0 hps ens) Φ' ⟨[.code (rngB (goM P true Φ q m))], ⟨(rnd0 P qa (goM P true Φ q m) fr (hps s t) (cellSV (enc a) us)).s.fr, hps s t⟩⟩ (Y s a) some)
    (cont : ∀ (c' : Cy) (D : Nat) r t Φ', g (.go s0) = some r → Mks Γ0 (c'.x P n (mkD D :: df)) (D :: Ds) → Reps Φ' (ens r.v t) → W (c'.x P n (mkD D :: df)) Q Φ' ⟨r.code ++ rngK (goM P true Φ q m), ⟨fr, hps r.v t⟩⟩ (F r) K)
    (hl : isRng (goM P true Φ q m) = true := by kernel_rfl) (hS : maskS ⟨fr, hps s0 t0⟩ (goM P true Φ q m).s = ⟨fr, hps s0 t0⟩ := by kernel_rfl) (hfl : fr.length = (goM P true Φ q m).s.fr.length := by kernel_rfl)
    (hfo : fnOf (({ fr, hp := hps s0 t0 } : SS).get (rngGo (goM P true Φ q m))) = some (gf, [], caps.map .v) := by kernel_rfl) (hc : callable P gf = true := by kernel_rfl) (hmx : P.follows .mixedOrders = true := by kernel_rfl)
    (hN : ∀ s t, (hps s t).length = N := by (intro _ _; kernel_rfl)) (hbd : ∀ s t, (hps s t).all (Blk.bd N) = true := by (intro _ _; kernel_rfl)) (hfb : fr.all (SV.bd N) = true := by kernel_rfl) (hn : Nat.ble n N = true := by kernel_rfl)
    (hpl : ∀ a, (enc a).length = (rngPs (goM P true Φ q m)).length := by (intro _; kernel_rfl)) (hb : ∀ a, vrs (enc a) = bs := by (intro _; kernel_rfl)) (hd : noDrw (rngK (goM P true Φ q m)) = true := by kernel_rfl)
    (hA : ∀ Φ' s t a, VrAll bs fun us => goM P false Φ' qa ⟨[.code (rngA (goM P true Φ q m))], ⟨setS fr (rngPs (goM P true Φ q m)) (cellSV (enc a) us), hps s t⟩⟩ = ⟨[], ⟨(rnd0 P qa (goM P true Φ q m) fr (hps s t) (cellSV (enc a) us)).s.fr, hps s t⟩⟩ := by (intros; kernel_rfl)) :
    W ⟨P, E, G, Φ0, β0, n, df, none⟩ Q Φ m ((g (.go s0)).bind F) K := by
  refine ⟨fun r hr => ?_⟩
  obtain ⟨r1, hx, hF⟩ := Option.bind_eq_some_iff.1 (by rw [Option.bind_assoc] at hr; exact hr)
  have hb0 : (⟨fr, hps s0 t0⟩ : SS).bd = true := by
    unfold SS.bd
    rw [Bool.and_eq_true]
    simp only [hN]
    exact ⟨hfb, hbd s0 t0⟩
  refine AtM.go q (AtM.to (T := ⟨fr, hps s0 t0⟩) ?_ (isRng_k hl) hS hfl hb0 (by show Nat.ble n _ = true; rw [hN]; exact hn))
  exact AtM.rng (qa := qa) (fr1 := fun s t a us => (rnd0 P qa (goM P true Φ q m) fr (hps s t) (cellSV (enc a) us)).s.fr) hM hmx hfo hc hx hI H hN hbd hfb (Nat.le_of_ble_eq_true hn) hpl hd
    (fun Φ' s t a us hu => VrAll.get (hA Φ' s t a) us (hu.trans (hb a))) (fun l E G β0 s t a us Φ' hu => VrAll.get (hB l E G β0 s t a Φ') us (hu.trans (hb a)))
    (fun c' D t Φ' _ hM' H' => cont c' D r1 t Φ' hx hM' H' r hF)

/- rounds' ends -/
theorem exits_none {md : Option Nat} {Q : QT} (j : Nat) : ∀ {k : List Fr}, popTo j k = none → exits P md Q k (.exit j) = Q (.exit j)
  | [], _ => rfl
  | .blk i :: k, h => by
    unfold popTo at h
    split at h
    · cases h
    · rename_i hi
      show Exit.inBlock i _ (.exit j) = _
      funext a w
      show (if j = i then _ else _) = _
      rw [if_neg (by simpa using hi)]
      rw [exits_none j h]
  | .ops _ _ :: k, h => exits_none j (k := k) h
  | .code _ :: k, h => exits_none j (k := k) h
  | .scp :: k, h => exits_none j (k := k) h
  | .lp _ :: k, h => exits_none j (k := k) h
  | .drw _ _ _ _ :: k, h => exits_none j (k := k) h
/-- How what is left to do ends, if at once. -/
def rexit (m : MS) : Option Exit :=
  match m.k with
  | [] => some .normal
  | .code .ret :: _ => some .ret
  | .code (.exit j) :: k => if (popTo j k).isNone then some (.exit j) else none
  | _ => none
theorem rexit_at {md : Option Nat} {Q : QT} {e : Exit} {a : Act} {w : World} (h : rexit m = some e) (hq : Q e a w) : exits P md Q m.k .normal a w := by
  obtain ⟨k, S⟩ := m
  unfold rexit at h
  split at h
  · rename_i hk; simp only at hk; subst hk; cases h; exact hq
  · rename_i hk; simp only at hk; subst hk; cases h
    refine wpIn_ret ?_
    rw [exits_ret]; exact hq
  · rename_i j k' hk; simp only at hk; subst hk
    split at h
    · rename_i hp
      cases h
      refine wpIn_exit ?_
      rw [exits_none j (Option.isNone_iff_eq_none.1 hp)]; exact hq
    · cases h
  · cases h
theorem W.rend (q : Nat) {E : World} {G : Nat → Nat → Prop} {Φ0 : Phi} {β0 : Nat → Nat} {N l : Nat} {hps : σ → τ → List Blk} {ens : σ → τ → List En} {r : Rd σ} (t : τ) (ps : List Nat) (H : Reps Φ L) (hl : ps.map (L[·]?) = (ens r.v t).map some := by rfl)
    (he : rexit (goM P false Φ q m) = some r.exit := by kernel_rfl) (hS : (maskS ⟨(goM P false Φ q m).s.fr.map fun _ => .u, hps r.v t⟩ (goM P false Φ q m).s).hp = hps r.v t := by kernel_rfl) (hN : (hps r.v t).length = N := by kernel_rfl) (hb : (hps r.v t).all (Blk.bd N) = true := by kernel_rfl) :
    W ⟨P, E, G, Φ0, β0, N, [], some l⟩ (RQ E G Φ0 β0 hps ens) Φ m (some r) some := by
  refine ⟨fun r' h => ?_⟩
  cases h
  refine AtM.go q ?_
  show AtM _ _ _ (goM P false Φ q m)
  intro _ _ β a w h
  have hfr : ∀ l : List SV, (List.zipWith (fun a b => match a with | .u => SV.u | _ => b) (l.map fun _ => SV.u) l) = l.map fun _ => SV.u := by
    intro l; induction l with
    | nil => rfl
    | cons x l ih => simp only [List.map_cons, List.zipWith_cons_cons, ih]
  have hm : maskS ⟨(goM P false Φ q m).s.fr.map fun _ => .u, hps r.v t⟩ (goM P false Φ q m).s = ⟨(goM P false Φ q m).s.fr.map fun _ => .u, hps r.v t⟩ := by
    have e1 : (maskS ⟨(goM P false Φ q m).s.fr.map fun _ => .u, hps r.v t⟩ (goM P false Φ q m).s).fr = (goM P false Φ q m).s.fr.map fun _ => .u := hfr _
    generalize maskS _ _ = T at e1 hS ⊢
    cases T; simp only at e1 hS; subst e1 hS; rfl
  have hbd : (maskS ⟨(goM P false Φ q m).s.fr.map fun _ => .u, hps r.v t⟩ (goM P false Φ q m).s).bd = true := by
    rw [hm]; unfold SS.bd; rw [Bool.and_eq_true]
    refine ⟨List.all_eq_true.2 fun x hx => by obtain ⟨y, _, rfl⟩ := List.mem_map.1 hx; rfl, ?_⟩
    simp only [hN]; exact hb
  have hk : At ⟨P, E, G, Φ0, β0, N, [], some l⟩ Φ (maskS ⟨(goM P false Φ q m).s.fr.map fun _ => .u, hps r.v t⟩ (goM P false Φ q m).s) (exits P (some l) (RQ E G Φ0 β0 hps ens r) (goM P false Φ q m).k .normal) := by
    rw [hm]
    intro β a w h
    refine rexit_at he ⟨rfl, Φ, t, ?_, H.sub ps hl, h.sto, h.keep, h.phi, ?_⟩
    · exact Own.congrN h.own (fun i hi => h.pin i (by have hi' : i < (hps r.v t).length := hi; rw [hN] at hi'; exact hi')) (by show (hps r.v t).all (Blk.bd (hps r.v t).length) = true; rw [hN]; exact hb)
    · intro i b k hi hk
      refine h.lo i b k hi ?_
      rw [bid_congr (h.pin i (by have hi' := lt_get hi; rw [hN] at hi'; exact hi'))]; exact hk
  exact At.mask (T := ⟨(goM P false Φ q m).s.fr.map fun _ => .u, hps r.v t⟩) (by simp) hbd (by rw [hm]; show N ≤ (hps r.v t).length; rw [hN]; exact Nat.le_refl _) hk β a w h
end
end Go.Sx
