/- SyR: functions that range over iterators: entering, ends. General: no program. -/
import Derived.Test.YtgkjblbmiooedaaSyQ
namespace Go.Sx
open Go.RowKit

/-- The marks are taken. -/
def Takes (P : Program) : List Deferred → World → World → Prop
  | [], w, w' => w = w'
  | d :: ds, w, w' => ∃ D w1, d = mkD D ∧ (Instr.takeDeferred D).run P w = .ok [] w1 ∧ Takes P ds w1 w'
def MQ (P : Program) (fn : Func) (R : Ending → World → Prop) : QT
  | .normal, a, w | .ret, a, w => ∃ w', Takes P a.defers w w' ∧ ∃ v, (results fn a.tmps).run P w' = .ok v w' ∧ R (.returned v) w'
  | .panic c, a, w => ∃ w', Takes P a.defers w w' ∧ R (.panicked c) w'
  | .outgrown, _, w => R .outgrown w
  | _, _, _ => False
theorem Takes.leaves {P : Program} {fn : Func} {tmps : Array Value} {R : Ending → World → Prop} {u : FrameMode} (hu : u ≠ .run) : ∀ {ds : List Deferred} {w w' : World}, Takes P ds w w' → LeavesIn Fence.wide 0 P fn tmps R [] u w' → LeavesInM Fence.wide 0 P fn tmps R ds u w
  | [], w, w', h, k => by cases h; exact k
  | d :: ds, w, w', ⟨D, w1, hd, ht, h⟩, k => ⟨hu, .inl ⟨D, w1, by rw [hd]; rfl, ht, Takes.leaves hu h k⟩⟩
theorem MQ.body {P : Program} {fn : Func} {R : Ending → World → Prop} : ∀ e a w, MQ P fn R e a w → bodyPostM Fence.wide 0 P fn R e a w := by
  intro e a w h
  cases e with
  | normal => obtain ⟨w', ht, v, hr, hR⟩ := h; exact ht.leaves (by simp) ⟨v, hr, hR⟩
  | ret => obtain ⟨w', ht, v, hr, hR⟩ := h; exact ht.leaves (by simp) ⟨v, hr, hR⟩
  | panic c => obtain ⟨w', ht, hR⟩ := h; exact ht.leaves (by simp) hR
  | outgrown => exact h
  | exit j => exact h
  | goto j => exact h
theorem PanOk.mq {P : Program} {fn : Func} {R : Ending → World → Prop} : PanOk (MQ P fn R) := fun c a w d v h => by
  obtain ⟨w', ht, hR⟩ := h
  exact ⟨w', by rwa [Act.put_df] at ht, hR⟩

section
variable {A R : Type} {Γ Γ0 : Ctx} {Q : R → QT} {Φ : Phi} {m : MS} {o : Option A} {K : A → Option R} {L : List En} {P : Program}

theorem St.other {β : Nat → Nat} {S : SS} {a : Act} {w : World} {D : Nat} {x x' : Obj} (h : St Γ Φ β S a w) (hE : Γ.E.heap.size ≤ D) (hD : w.heap[D]? = some x) (hΦ : Φ D = none) (hb : ∀ (i : Nat) (b : Blk), S.hp[i]? = some b → b.bid β i ≠ some D) : St Γ Φ β S a (w.putObj D x') := by
  have ho : ∀ k, k ≠ D → (w.putObj D x').heap[k]? = w.heap[k]? := fun k hk => World.putObj_heap_other hk
  have hs : (w.putObj D x').heap.size = w.heap.size := World.putObj_size
  refine ⟨h.fr, h.df, h.own.keepF (fun i b k hi hk => ho k (by rintro rfl; exact hb i b hi hk)) ⟨fun _ _ h => h, fun _ _ => rfl⟩ h.own.phi, fun b cs hq => ?_, h.lo, ⟨h.keep.os, h.keep.tape, h.keep.output, by rw [hs]; exact h.keep.size, fun k hk hn => ?_⟩, h.phi, h.bd, h.pin, h.len⟩
  · obtain ⟨hz, hzq⟩ := h.sto b cs hq
    refine ⟨(ho b ?_).trans hz, hzq⟩
    rintro rfl; rw [hΦ] at hq; cases hq
  · rw [ho k (by omega)]; exact h.keep.block k hk hn

theorem takes_st {β : Nat → Nat} {S : SS} {a : Act} : ∀ (Ds : List Nat) {w : World}, St Γ Φ β S a w → Ds.Nodup → (∀ D ∈ Ds, Γ.E.heap.size ≤ D ∧ w.heap[D]? = some (.deferred (some [])) ∧ Φ D = none ∧ ∀ (i : Nat) (b : Blk), S.hp[i]? = some b → b.bid β i ≠ some D) → ∃ w', Takes P (Ds.map mkD) w w' ∧ St Γ Φ β S a w'
  | [], w, h, _, _ => ⟨w, rfl, h⟩
  | D :: Ds, w, h, hnd, hD => by
    obtain ⟨h1, h2, h3, h4⟩ := hD D List.mem_cons_self
    have hn := List.nodup_cons.1 hnd
    obtain ⟨w', ht, hst⟩ := takes_st Ds (h.other (x' := .deferred none) h1 h2 h3 h4) hn.2 (fun D' hD' => by
      obtain ⟨h5, h6, h7, h8⟩ := hD D' (List.mem_cons_of_mem _ hD')
      exact ⟨h5, (World.putObj_heap_other (by rintro rfl; exact hn.1 hD')).trans h6, h7, h8⟩)
    exact ⟨w', ⟨D, _, rfl, run_takeDeferred h2, ht⟩, hst⟩
/-- The marks taken: the first context's. -/
theorem Mks.takes {Ds : List Nat} {β : Nat → Nat} {S : SS} {a : Act} {w : World} (hM : Mks Γ0 Γ Ds) (h : St Γ Φ β S a w) : ∃ w', Takes P a.defers w w' ∧ St { Γ0 with df := Γ.df } Φ β S a w' := by
  rw [h.df, hM.df]
  refine takes_st Ds (Γ := { Γ0 with df := Ds.map mkD }) (by have := hM.sub.st h; rw [hM.df] at this; exact this) hM.nd fun D hD => ?_
  obtain ⟨h1, h2, h3, h4⟩ := hM.each D hD
  have h5 : w.heap[D]? = some (.deferred (some [])) := (h.keep.block D h2 h4).trans h3
  refine ⟨h1, h5, ?_, fun i b hi hb => ?_⟩
  · cases hq : Φ D with
    | none => rfl
    | some cs =>
      obtain ⟨hz, hzq⟩ := h.sto D cs hq
      rw [h5] at hz; cases hz; cases hzq
  · rcases h.lo i b D hi hb with h6 | h6
    · omega
    · exact h4 h6

theorem AtM.finM {fn : Func} {post : Post} {Ds : List Nat} (hM : Mks Γ0 Γ Ds) (he : endM m = true) (x : SV) (σ : List Nat) (hp' : List Blk) (hr : resS Γ.P fn m.s = some (x.ren (rnm σ))) (hx : (x.ren (rnm σ)).ok m.s.hp.length = true) (hx' : x.ok hp'.length = true) (hσ : σ.map (m.s.hp[·]?) = hp'.map (fun b => some (b.ren (rnm σ)))) (hid : σ.take Γ0.n = List.range Γ0.n) (hO : hp'.all (Blk.bd hp'.length) = true) (hnd : σ.Nodup)
    (k : post Φ (.ret x) hp') : AtM Γ (MQ Γ.P fn (RetR Γ0 post)) Φ m := by
  intro _ _ β a w h
  have key : ∃ w', Takes Γ.P a.defers w w' ∧ ∃ v, (results fn a.tmps).run Γ.P w' = .ok v w' ∧ RetR Γ0 post (.returned v) w' := by
    obtain ⟨w', ht, hst⟩ := hM.takes (P := Γ.P) h
    refine ⟨w', ht, den β (x.ren (rnm σ)), ?_, leaves_ren (Γ := { Γ0 with df := Γ.df }) (es := .ret x) hst σ hp' (congrArg _ (den_ren β (rnm σ) x)) hx' hσ hid hO hnd k⟩
    exact run_resS (Γ := { Γ0 with df := Γ.df, P := Γ.P }) ⟨hst.fr, hst.df, hst.own, hst.sto, hst.lo, hst.keep, hst.phi, hst.bd, hst.pin, hst.len⟩ hr hx
  obtain ⟨fs, S⟩ := m
  unfold endM at he
  split at he
  · rename_i hk; simp only at hk; subst hk; exact key
  · rename_i k' hk; simp only at hk; subst hk
    refine wpIn_ret ?_
    rw [exits_ret]
    exact key
  · cases he
theorem W.retM (q : Nat) {fn : Func} {post : R → Post} {x : R} {τ : Type} {rv : τ → SV} {hps : τ → List Blk} {ens : τ → List En} {Ds : List Nat} (hM : Mks Γ0 Γ Ds) (σ : List Nat) (t : τ) (ps : List Nat) (H : Reps Φ L) (hp : post x = tPost rv hps ens := by rfl) (hl : ps.map (L[·]?) = (ens t).map some := by rfl)
    (he : endM (GM Γ Φ q m) = true := by kernel_rfl) (hr : resS Γ.P fn (GM Γ Φ q m).s = some ((rv t).ren (rnm σ)) := by kernel_rfl) (hx : ((rv t).ren (rnm σ)).ok (GM Γ Φ q m).s.hp.length = true := by kernel_rfl) (hx' : (rv t).ok (hps t).length = true := by kernel_rfl)
    (hσ : σ.map ((GM Γ Φ q m).s.hp[·]?) = (hps t).map (fun b => some (b.ren (rnm σ))) := by kernel_rfl) (hid : σ.take Γ0.n = List.range Γ0.n := by kernel_rfl) (hO : (hps t).all (Blk.bd (hps t).length) = true := by kernel_rfl) (hnd : σ.Nodup := by decide) :
    W Γ (fun r => MQ Γ.P fn (RetR Γ0 (post r))) Φ m (some x) some := by
  refine ⟨fun r h => ?_⟩
  cases h
  exact AtM.go q (AtM.finM hM he (rv t) σ (hps t) hr hx hx' hσ hid hO hnd (by rw [hp]; exact ⟨t, rfl, rfl, H.sub ps hl⟩))

theorem PanK.bodyM {α : Type} {fn : Func} {T : TypeId} {p : α → Post} {Ds : List Nat} (hM : Mks Γ0 Γ Ds) : PanK Γ (fun r => MQ Γ.P fn (RetR Γ0 (ePost T Γ0.n p r))) T Ex.pan some := by
  intro e r h Φ S β a w hst
  cases h
  have hd : ∀ (i : Nat) (b : Blk), (List.replicate Γ0.n Blk.dead)[i]? = some b → b = .dead := by
    intro i b hi; rw [List.getElem?_replicate] at hi; split at hi
    · cases hi; rfl
    · cases hi
  obtain ⟨w', ht, hst⟩ := hM.takes (P := Γ.P) hst
  refine ⟨w', ht, Φ, β, List.replicate Γ0.n .dead, .pan (ech T e), rfl, rfl, ?_, by simp, hst.pin, ⟨?_, ?_, ?_, ?_, ?_⟩, hst.sto, hst.keep, hst.phi, ?_, rfl, rfl⟩
  · rw [List.all_eq_true]; intro b hb; rw [List.mem_replicate] at hb; rw [hb.2]; rfl
  · intro i cs t hi; cases hd _ _ hi
  · intro i v n xs t sz hi; cases hd _ _ hi
  · intro i j bi bj q hi hj li lj; rw [hd _ _ hi] at li; cases li
  · intro i b q hi hl; rw [hd _ _ hi] at hl; cases hl
  · intro i g cs t hi; cases hd _ _ hi
  · intro i b q hi hl; rw [hd _ _ hi] at hl; cases hl

theorem CallG.WM {f : FuncId} {args : List SV} {hp : List Blk} {post : R → Post} {o : Option R} {fn : Func} (hf : P.funcs[f]? = some fn)
    (k : ∀ E G β0, Mks ⟨P, E, G, Φ, β0, hp.length, [], none⟩ ⟨P, E, G, Φ, β0, hp.length, [], none⟩ [] → Sx.W ⟨P, E, G, Φ, β0, hp.length, [], none⟩ (fun r => MQ P fn (RetR ⟨P, E, G, Φ, β0, hp.length, [], none⟩ (post r))) Φ ⟨[.code (bodyC fn)], ⟨args ++ List.replicate (fn.ntmps - args.length) (.v undef), hp⟩⟩ o some)
    (hb : fn.body.isSome = true := by kernel_rfl) (hmx : P.follows .mixedOrders = true := by kernel_rfl) (hbd : ({ fr := args ++ List.replicate (fn.ntmps - args.length) (.v undef), hp } : SS).bd = true := by kernel_rfl) :
    ∀ r, o = some r → CallG P f args hp Φ (post r) := by
  intro r hr
  have hb' : fn.body = some (bodyC fn) := by unfold bodyC; cases h : fn.body with | none => rw [h] at hb; cases hb | some c => rfl
  refine CallG.enterM hf hb' [] _ (kill_nil _) hbd fun E G β0 => ?_
  exact (k E G β0 (Mks.refl rfl) r (by rw [hr]; rfl) ⟨hmx, fun _ => PanOk.mq, fun h => absurd rfl h⟩ trivial).imp fun _ _ q => wp_mono (wpIn_wide.1 q) MQ.body
end
end Go.Sx
