/- SyP: the statement that ranges over an iterator: its rounds, what follows it. General: no program. -/
import Derived.Test.YtgkjblbmiooedaaSyO
namespace Go.Sx
open Go.RowKit

/-- How a round is left: by its end, by an exit, by a return. -/
inductive Rd (σ : Type) where
  | go (s : σ)
  | ex (j : Nat) (s : σ)
  | rt (s : σ)
def Rd.v {σ : Type} : Rd σ → σ
  | .go s => s
  | .ex _ s => s
  | .rt s => s
def Rd.exit {σ : Type} : Rd σ → Exit
  | .go _ => .normal
  | .ex j _ => .exit j
  | .rt _ => .ret
def Rd.jump {σ : Type} : Rd σ → Option Code
  | .go _ => none
  | .ex j _ => some (.exit j)
  | .rt _ => some .ret
def Rd.code {σ : Type} : Rd σ → List Fr
  | .go _ => []
  | .ex j _ => [.code (.exit j)]
  | .rt _ => [.code .ret]
def Rd.st {σ : Type} (r : Rd σ) : LoopState := if r.jump.isNone then .ready else .done
def yOf {σ α : Type} (Y : σ → α → Option (Rd σ)) : Rd σ → α → Option (Bool × Rd σ)
  | .go s, a => (Y s a).map fun r => (r.jump.isNone, r)
  | _, _ => none

/-- What the rounds have of the outer function's. -/
def OJ (l : Nat) (r0 : Loop) (β : Nat → Nat) {σ τ : Type} (hps : σ → τ → List Blk) (ens : σ → τ → List En) : Rd σ → Phi → (Nat → Prop) → World → Prop := fun r Φ F w =>
  w.heap[l]? = some (.loop { r0 with state := r.st, pending := r.jump }) ∧ ∃ t, Own β (hps r.v t) Φ w ∧ Reps Φ (ens r.v t) ∧ ∀ k, F k ↔ (k = l ∨ ∃ (i : Nat) (b : Blk), (hps r.v t)[i]? = some b ∧ b.bid β i = some k)

theorem sto_ne {Φ : Phi} {w : World} {l : Nat} {r : Loop} (hs : Sto Φ w) (hl : w.heap[l]? = some (.loop r)) : Φ l = none := by
  cases h : Φ l with
  | none => rfl
  | some cs =>
    obtain ⟨hz, hzq⟩ := hs l cs h
    rw [hl] at hz
    cases hz
    cases hzq
theorem own_ne {β : Nat → Nat} {hp : List Blk} {Φ : Phi} {w : World} (h : Own β hp Φ w) {l : Nat} {r : Loop} (hl : w.heap[l]? = some (.loop r)) {i : Nat} {b : Blk} (hi : hp[i]? = some b) : b.bid β i ≠ some l := by
  intro hb
  cases b with
  | dead => cases hb
  | f g cs t => cases hb
  | c cs t =>
    cases hb
    obtain ⟨vs, hv, _⟩ := h.c i cs t hi
    rw [hl] at hv; cases hv
  | o v n xs t sz =>
    obtain ⟨x, hx, hq⟩ := (h.o i v n xs t sz hi).obj hb
    rw [hl] at hx; cases hx; cases hq
theorem Own.keepF {β : Nat → Nat} {hp : List Blk} {Φ Φ' : Phi} {w w' : World} (h : Own β hp Φ w) (hk : ∀ (i : Nat) (b : Blk) (k : Nat), hp[i]? = some b → b.bid β i = some k → w'.heap[k]? = w.heap[k]?) (hle : PhiLe 0 Φ Φ') (hn : ∀ (i : Nat) (b : Blk) (k : Nat), hp[i]? = some b → b.bid β i = some k → Φ' k = none) : Own β hp Φ' w' := by
  refine ⟨fun i cs t hi => ?_, fun i v n xs t sz hi => ownsO_keep (h.o i v n xs t sz hi) fun g hg => hk i _ g hi hg, h.inj, fun i b k hi hb => hn i b k hi hb, fun i g cs t hi => ⟨(h.f i g cs t hi).1, hle.1 _ _ (h.f i g cs t hi).2⟩⟩
  obtain ⟨vs, hv, hm⟩ := h.c i cs t hi
  exact ⟨vs, (hk i _ _ hi rfl).trans hv, hm⟩
theorem Own.congrN {β β' : Nat → Nat} {hp : List Blk} {Φ : Phi} {w : World} (h : Own β hp Φ w) (he : ∀ i, i < hp.length → β i = β' i) (hb : hp.all (Blk.bd hp.length) = true) : Own β' hp Φ w := by
  have hbid : ∀ {i : Nat} {b : Blk}, hp[i]? = some b → b.bid β' i = b.bid β i := fun {i b} hi => (bid_congr (he i (lt_get hi)) b).symm
  refine ⟨fun i cs t hi => ?_, h.o, fun i j bi bj k hi hj li lj => h.inj i j bi bj k hi hj (by rw [← hbid hi]; exact li) (by rw [← hbid hj]; exact lj), fun i b k hi hk => h.phi i b k hi (by rw [← hbid hi]; exact hk), fun i g cs t hi => ⟨by rw [← he i (lt_get hi)]; exact (h.f i g cs t hi).1, (h.f i g cs t hi).2⟩⟩
  obtain ⟨vs, hv, hm⟩ := h.c i cs t hi
  refine ⟨vs, by rw [← he i (lt_get hi)]; exact hv, hm.congr (n := hp.length) he ?_⟩
  exact List.all_eq_true.1 hb _ (List.mem_of_getElem? hi)
theorem Own.take {β : Nat → Nat} {hp : List Blk} {Φ : Phi} {w : World} (h : Own β hp Φ w) (n : Nat) : Own β (hp.take n) Φ w := by
  have hg : ∀ {i : Nat} {b : Blk}, (hp.take n)[i]? = some b → hp[i]? = some b := fun {i b} hi => by
    rw [List.getElem?_take] at hi
    split at hi
    · exact hi
    · cases hi
  exact ⟨fun i cs t hi => h.c i cs t (hg hi), fun i v n xs t sz hi => h.o i v n xs t sz (hg hi), fun i j bi bj k hi hj => h.inj i j bi bj k (hg hi) (hg hj), fun i b k hi => h.phi i b k (hg hi), fun i g cs t hi => h.f i g cs t (hg hi)⟩

/-- What is asked at a round's end. -/
def RQ (E : World) (G : Nat → Nat → Prop) (Φ0 : Phi) (β0 : Nat → Nat) {σ τ : Type} (hps : σ → τ → List Blk) (ens : σ → τ → List En) (r : Rd σ) : QT := fun e _ w =>
  e = r.exit ∧ ∃ Φ t, Own β0 (hps r.v t) Φ w ∧ Reps Φ (ens r.v t) ∧ Sto Φ w ∧ Keep G E w ∧ PhiG G E.heap.size Φ0 Φ ∧ ∀ (i : Nat) (b : Blk) (k : Nat), (hps r.v t)[i]? = some b → b.bid β0 i = some k → E.heap.size ≤ k ∨ ∃ j, G j k

def setS : List SV → List Nat → List SV → List SV
  | f, p :: ps, x :: xs => setS (f.set p x) ps xs
  | f, _, _ => f
theorem mat_setS {β : Nat → Nat} : ∀ (ps : List Nat) (vs : List Value) {f : List SV} {tm : Array Value}, Mat β f tm.toList → Mat β (setS f ps (vs.map .v)) ((ps.zip vs).foldl (fun t (x : Nat × Value) => t.setIfInBounds x.1 x.2) tm).toList
  | [], _, f, tm, h => by cases ‹List Value› <;> exact h
  | p :: ps, [], f, tm, h => h
  | p :: ps, v :: vs, f, tm, h => by
    simp only [List.map_cons, setS, List.zip_cons_cons, List.foldl_cons]
    refine mat_setS ps vs ?_
    rw [Array.toList_setIfInBounds]
    exact h.set p (.inr rfl)

section
variable {P : Program} {σ τ α : Type} {l : Nat} {r0 : Loop} {β : Nat → Nat} {hps : σ → τ → List Blk} {ens : σ → τ → List En} {enc : α → List D} {Y : σ → α → Option (Rd σ)}

theorem setS_bd {n : Nat} : ∀ (ps : List Nat) (vs : List Value) {f : List SV}, f.all (SV.bd n) = true → (setS f ps (vs.map .v)).all (SV.bd n) = true
  | [], vs, f, h => by cases vs <;> exact h
  | p :: ps, [], f, h => h
  | p :: ps, v :: vs, f, h => by
    simp only [List.map_cons, setS]
    refine setS_bd ps vs ?_
    rw [List.all_eq_true] at h ⊢
    intro x hx
    rcases List.mem_or_eq_of_mem_set hx with hx | rfl
    · exact h x hx
    · rfl

/-- Yield, by a walk of the body. -/
theorem OJ.yld {N qa : Nat} {fr : List SV} {params : List Nat} {fr1 : σ → τ → α → List Vr → List SV} (hmx : P.follows .mixedOrders = true) (hN : ∀ s t, (hps s t).length = N) (hbd : ∀ s t, (hps s t).all (Blk.bd N) = true)
    (hfr : Mat β fr r0.tmps.toList) (hfb : fr.all (SV.bd N) = true) (hp : r0.params = params.toArray) (hpl : ∀ a, (enc a).length = params.length)
    (hA : ∀ Φ s t a us, us.map Vr.isS = vrs (enc a) → goM P false Φ qa ⟨[.code r0.assign], ⟨setS fr params (cellSV (enc a) us), hps s t⟩⟩ = ⟨[], ⟨fr1 s t a us, hps s t⟩⟩)
    (hB : ∀ E G β0 s t a us Φ', us.map Vr.isS = vrs (enc a) → Reps Φ' (cellEn (enc a) us ++ ens s t) → W ⟨P, E, G, Φ', β0, N, [], some l⟩ (RQ E G Φ' β0 hps ens) Φ' ⟨[.code r0.body], ⟨fr1 s t a us, hps s t⟩⟩ (Y s a) some) :
    Yld P l enc (yOf Y) (OJ l r0 β hps ens) := by
  refine ⟨?_, ?_⟩
  · rintro r Φ F w Φ' w' ⟨hl, t, hO, hR, hF⟩ hk hle hn
    exact ⟨by rw [hk l ((hF l).2 (.inl rfl))]; exact hl, t, hO.keepF (fun i b k hi hb => hk k ((hF k).2 (.inr ⟨i, b, hi, hb⟩))) hle (fun i b k hi hb => hn k ((hF k).2 (.inr ⟨i, b, hi, hb⟩))), hR.mono hle, hF⟩
  · rintro r a b r' Φ F w vs hy ⟨hl, t, hO, hR, hF⟩ hsto hra hFk
    cases r with
    | ex j s => cases hy
    | rt s => cases hy
    | go s =>
      simp only [yOf, Option.map_eq_some_iff, Prod.mk.injEq] at hy
      obtain ⟨r1, hY, hb, rfl⟩ := hy
      obtain ⟨us, hus, hsv, hus3⟩ := hra.open
      have hvl : params.length = vs.length := by rw [hra.len, hpl]
      simp only [Rd.v] at hO hR hF
      have hlen := hN s t
      have hne : ∀ {i : Nat} {b : Blk}, (hps s t)[i]? = some b → b.bid β i ≠ some l := fun hi => own_ne hO hl hi
      refine ⟨_, hl, by rw [hp]; simpa using hvl, ?_⟩
      refine roundIn_of_wpIn trivial ?_
      have hbd0 : ({ fr := setS fr params (cellSV (enc a) us), hp := hps s t } : SS).bd = true := by
        unfold SS.bd
        rw [Bool.and_eq_true]
        simp only [hlen]
        exact ⟨by rw [← hsv]; exact setS_bd params vs hfb, hbd s t⟩
      have hm0 : Mat β (setS fr params (cellSV (enc a) us)) ((r0.params.zip vs.toArray).foldl (fun t (x : Nat × Value) => t.setIfInBounds x.1 x.2) r0.tmps).toList := by
        rw [← hsv, hp]
        have := mat_setS params vs hfr
        simpa using this
      have hst0 : St ⟨P, w, gOf β (hps s t), Φ, β, N, [], some l⟩ Φ β { fr := setS fr params (cellSV (enc a) us), hp := hps s t } { tmps := (r0.params.zip vs.toArray).foldl (fun t (x : Nat × Value) => t.setIfInBounds x.1 x.2) r0.tmps, defers := [] } w :=
        ⟨hm0, rfl, hO, hsto, fun i b k hi hk => .inr ⟨i, b, hi, hk⟩, ⟨rfl, rfl, rfl, Nat.le_refl _, fun _ _ _ => rfl⟩, ⟨fun _ _ h => h, fun _ _ _ => rfl⟩, hbd0, fun _ _ => rfl, by simp only [hlen]; exact Nat.le_refl _⟩
      have hgo : AtM ⟨P, w, gOf β (hps s t), Φ, β, N, [], some l⟩ (fun e a1 w1 => e = .normal ∧ ∃ β1, St ⟨P, w, gOf β (hps s t), Φ, β, N, [], some l⟩ Φ β1 ⟨fr1 s t a us, hps s t⟩ a1 w1) Φ ⟨[.code r0.assign], ⟨setS fr params (cellSV (enc a) us), hps s t⟩⟩ := by
        refine AtM.go qa ?_
        show AtM _ _ _ (goM P false Φ qa _)
        rw [hA Φ s t a us hus]
        exact fun _ _ β1 a1 w1 h => ⟨rfl, β1, h⟩
      have h1 := hgo ⟨hmx, (fun h => by cases h), (fun _ ⟨_, _, h, _⟩ => by cases h)⟩ trivial β _ w hst0
      refine wpIn_mono h1 ?_
      rintro e a1 w1 ⟨rfl, β1, hst1⟩
      have hβ : ∀ i, i < (hps s t).length → β1 i = β i := fun i hi => hst1.pin i (by rw [← hlen]; exact hi)
      have hbid1 : ∀ {i : Nat} {b : Blk}, (hps s t)[i]? = some b → b.bid β1 i = b.bid β i := fun hi => bid_congr (hβ _ (lt_get hi)) _
      have hlG : ¬ ∃ i, gOf β (hps s t) i l := by rintro ⟨i, b, hi, hb⟩; exact hne hi hb
      have hl1 : w1.heap[l]? = _ := (hst1.keep.block l (lt_of_heap hl) hlG).trans hl
      refine ⟨_, run_beginRound hl1 rfl, ?_⟩
      obtain ⟨w2, hw2⟩ : ∃ w2, w2 = w1.putObj l (.loop { r0 with state := .busy, pending := none }) := ⟨_, rfl⟩
      suffices hfin : Code.wpIn (Fence.wide.inRound l) 0 P r0.body (roundPost P l (fun e w' => e = .returned (.bool b) ∧ RoundEnd (OJ l r0 β hps ens) r1 Φ F w w')) a1 w2 by rw [hw2] at hfin; exact hfin
      have h2l : w2.heap[l]? = some (.loop { r0 with state := .busy, pending := none }) := by rw [hw2]; exact World.putObj_heap_same (lt_of_heap hl1)
      have h2o : ∀ k, k ≠ l → w2.heap[k]? = w1.heap[k]? := fun k hk => by rw [hw2]; exact World.putObj_heap_other hk
      have h2s : w2.heap.size = w1.heap.size := by rw [hw2]; exact World.putObj_size
      have hO2 : Own β1 (hps s t) Φ w2 := hst1.own.keepF (fun i b k hi hb => h2o k (by rintro rfl; exact hne hi (by rw [← hbid1 hi]; exact hb))) ⟨fun _ _ h => h, fun _ _ => rfl⟩ hst1.own.phi
      have hsto2 : Sto Φ w2 := fun b cs hb => by
        obtain ⟨hz, hzq⟩ := hst1.sto b cs hb
        refine ⟨(h2o b ?_).trans hz, hzq⟩
        rintro rfl
        rw [sto_ne hst1.sto hl1] at hb; cases hb
      have hst2 : St ⟨P, w2, gOf β1 (hps s t), Φ, β1, N, [], some l⟩ Φ β1 ⟨fr1 s t a us, hps s t⟩ a1 w2 :=
        ⟨hst1.fr, hst1.df, hO2, hsto2, fun i b k hi hk => .inr ⟨i, b, hi, hk⟩, ⟨rfl, rfl, rfl, Nat.le_refl _, fun _ _ _ => rfl⟩, ⟨fun _ _ h => h, fun _ _ _ => rfl⟩, hst1.bd, fun _ _ => rfl, by simp only [hlen]; exact Nat.le_refl _⟩
      have hbody := hB w2 (gOf β1 (hps s t)) β1 s t a us Φ hus (hus3.app hR) r1 (by rw [hY]; rfl) ⟨hmx, (fun h => by cases h), (fun _ ⟨_, _, h, _⟩ => by cases r1 <;> cases h)⟩ trivial β1 a1 w2 hst2
      refine wpIn_mono hbody ?_
      rintro e a3 w3 ⟨rfl, Φ3, t3, hO3, hR3, hsto3, hk3, hphi3, hlo3⟩
      have hlG1 : ¬ ∃ i, gOf β1 (hps s t) i l := by rintro ⟨i, b, hi, hb⟩; exact hne hi (by rw [← hbid1 hi]; exact hb)
      have h3l : w3.heap[l]? = some (.loop { r0 with state := .busy, pending := none }) := (hk3.block l (lt_of_heap h2l) hlG1).trans h2l
      obtain ⟨w4, hw4⟩ : ∃ w4, w4 = w3.putObj l (.loop { r0 with state := r1.st, pending := r1.jump }) := ⟨_, rfl⟩
      have hend : (Instr.endRound l r1.jump).run P w3 = .ok (.bool b) w4 := by rw [hw4, ← hb]; exact run_endRound (r := { r0 with state := .busy, pending := none }) r1.jump h3l
      have h4o : ∀ k, k ≠ l → w4.heap[k]? = w3.heap[k]? := fun k hk => by rw [hw4]; exact World.putObj_heap_other hk
      have h4s : w4.heap.size = w3.heap.size := by rw [hw4]; exact World.putObj_size
      have h4l : w4.heap[l]? = some (.loop { r0 with state := r1.st, pending := r1.jump }) := by rw [hw4]; exact World.putObj_heap_same (lt_of_heap h3l)
      have hs01 : w.heap.size ≤ w1.heap.size := hst1.keep.size
      have hs23 : w2.heap.size ≤ w3.heap.size := hk3.size
      have hne3 : ∀ {i : Nat} {b : Blk}, (hps r1.v t3)[i]? = some b → b.bid β1 i ≠ some l := fun hi => own_ne hO3 h3l hi
      have hβ3 : ∀ i, i < (hps r1.v t3).length → β1 i = β i := fun i hi => hβ i (by rw [hN] at hi; rw [hlen]; exact hi)
      have hbid3 : ∀ {i : Nat} {b : Blk}, (hps r1.v t3)[i]? = some b → b.bid β1 i = b.bid β i := fun hi => bid_congr (hβ3 _ (lt_get hi)) _
      have hGF : ∀ k, (∃ i, gOf β1 (hps s t) i k) → F k := by
        rintro k ⟨i, b, hi, hb⟩
        exact (hF k).2 (.inr ⟨i, b, hi, by rw [← hbid1 hi]; exact hb⟩)
      have hlt : l < w.heap.size := lt_of_heap hl
      have hR4 : RoundEnd (OJ l r0 β hps ens) r1 Φ F w w4 := by
        refine ⟨Φ3, fun k => k = l ∨ ∃ (i : Nat) (b : Blk), (hps r1.v t3)[i]? = some b ∧ b.bid β i = some k, ⟨h4l, t3, ?_, hR3, fun k => Iff.rfl⟩, ?_, ?_, ?_, ?_⟩
        · refine Own.congrN (β := β1) (hO3.keepF (fun i b k hi hb => h4o k (by rintro rfl; exact hne3 hi hb)) ⟨fun _ _ h => h, fun _ _ => rfl⟩ hO3.phi) hβ3 ?_
          have := hbd r1.v t3
          rw [hN]; exact this
        · intro b cs hb
          obtain ⟨hz, hzq⟩ := hsto3 b cs hb
          refine ⟨(h4o b ?_).trans hz, hzq⟩
          rintro rfl
          rw [sto_ne hsto3 h3l] at hb; cases hb
        · refine ⟨?_, ?_, ?_, by omega, fun k hk hn => ?_⟩
          · have e1 : w4.os = w3.os := by rw [hw4]; rfl
            have e2 : w2.os = w1.os := by rw [hw2]; rfl
            rw [e1, hk3.os, e2]; exact hst1.keep.os
          · have e1 : w4.tape = w3.tape := by rw [hw4]; rfl
            have e2 : w2.tape = w1.tape := by rw [hw2]; rfl
            rw [e1, hk3.tape, e2]; exact hst1.keep.tape
          · have e1 : w4.output = w3.output := by rw [hw4]; rfl
            have e2 : w2.output = w1.output := by rw [hw2]; rfl
            rw [e1, hk3.output, e2]; exact hst1.keep.output
          · have hnF : ¬ F k := fun h => hn ⟨0, h⟩
            have hkl : k ≠ l := by rintro rfl; exact hnF ((hF k).2 (.inl rfl))
            rw [h4o k hkl, hk3.block k (by omega) (fun h => hnF (hGF k h)), h2o k hkl]
            exact hst1.keep.block k hk (by rintro ⟨i, b, hi, hb⟩; exact hnF ((hF k).2 (.inr ⟨i, b, hi, hb⟩)))
        · refine ⟨hphi3.1, fun b hb hn => ?_⟩
          have hnF : ¬ F b := fun h => hn ⟨0, h⟩
          exact hphi3.2 b (by omega) (fun h => hnF (hGF b h))
        · rintro k (rfl | ⟨i, b, hi, hb⟩)
          · exact ⟨.inl ((hF k).2 (.inl rfl)), sto_ne hsto3 h3l, by omega⟩
          · have hb1 : b.bid β1 i = some k := by rw [hbid3 hi]; exact hb
            refine ⟨?_, hO3.phi i b k hi hb1, by rw [h4s]; exact hO3.lt hi hb1⟩
            rcases hlo3 i b k hi hb1 with h | h
            · exact .inr (by omega)
            · exact .inl (hGF k h)
      cases r1 with
      | go s' => exact ⟨_, w4, hend, by rfl, hR4⟩
      | ex j s' => exact ⟨_, w4, hend, by rfl, hR4⟩
      | rt s' => exact ⟨_, w4, hend, by rfl, hR4⟩
end
end Go.Sx
