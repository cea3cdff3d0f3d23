/- SxJ: iterators, and the statement that ranges over one and is left by a return. General: no program. -/
import Derived.Test.YtgkjblbmiooedaaSxI
namespace Go.Sx
open Go.RowKit

def doneR (r : Loop) : Obj := .loop { r with state := .done, pending := some .ret }

/-- How an iterator ends whose last round was left by 'ret'. -/
def IterEnd (g T : Nat) (x' : Value) (l : Nat) (r : Loop) (Φ : Phi) (W w3 : World) : Prop :=
  ∃ Φ', PhiLe W.heap.size Φ Φ' ∧ Φ' g = none ∧ ownBox g T x' w3 ∧ Sto Φ' w3 ∧ Keep (fun _ k => k = g) (W.putObj l (doneR r)) w3

/-- An iterator's contract, for these rounds. -/
def IterG (P : Program) (gf : FuncId) (caps : Array Value) (Φ : Phi) (g T : Nat) (x x' : Value) (p1 p2 : Nat) (assign body : Code) (fr0 : List SV) : Prop :=
  ∀ (W : World) (l : Nat) (r : Loop), W.heap[l]? = some (.loop r) → r.state = .ready → r.pending = none → r.params = #[p1, p2] → r.assign = assign → r.body = body → (∀ β, Mat β fr0 r.tmps.toList) → l ≠ g → Sto Φ W → Φ g = none → ownBox g T x W →
    Calls P gf (#[.func (.yield l) #[] #[]] ++ caps) W fun e w3 => e = .returned (.tuple #[]) ∧ IterEnd g T x' l r Φ W w3

section
variable {Φ Φ0 : Phi} {S S' : SS} {Q : Exit → Act → World → Prop}

theorem IterG.enter {P : Program} {gf : FuncId} {caps : Array Value} {g T : Nat} {x x' : Value} {p1 p2 : Nat} {assign body : Code} {fr0 : List SV} {fn : Func} {c : Code} (hf : P.funcs[gf]? = some fn) (hb : fn.body = some c)
    (k : ∀ (W : World) (l : Nat) (r : Loop) (β0 : Nat → Nat), W.heap[l]? = some (.loop r) → r.state = .ready → r.pending = none → r.params = #[p1, p2] → r.assign = assign → r.body = body → (∀ β, Mat β fr0 r.tmps.toList) → l ≠ g →
      ∃ ks S0, (({ fr := [.v (.func (.yield l) #[] #[])] ++ caps.toList.map .v ++ List.replicate (fn.ntmps - (1 + caps.toList.length)) (.v undef), hp := [boxO g T x] } : SS).kill ks [] = S0) ∧ ({ fr := [.v (.func (.yield l) #[] #[])] ++ caps.toList.map .v ++ List.replicate (fn.ntmps - (1 + caps.toList.length)) (.v undef), hp := [boxO g T x] } : SS).bd = true ∧
      At (boxΓ P W Φ β0 g) Φ S0 (c.wp P (bodyPost P fn fun e w3 => e = .returned (.tuple #[]) ∧ IterEnd g T x' l r Φ W w3))) : IterG P gf caps Φ g T x x' p1 p2 assign body fr0 := by
  intro W l r hl h1 h2 h3 h4 h5 h6 h7 hs hg hbx
  refine calls_of_wp hf hb ?_
  obtain ⟨ks, S0, hS, hbd, hk⟩ := k W l r (fun _ => 0) hl h1 h2 h3 h4 h5 h6 h7
  subst hS
  refine At.kill ks [] hk (fun _ => 0) _ W (box_start hbx hs hg ?_ rfl hbd)
  have e1 := ((mat_v (β := fun _ => 0) [Value.func (.yield l) #[] #[]]).append (mat_v (β := fun _ => 0) caps.toList)).append (mat_v (β := fun _ => 0) (List.replicate (fn.ntmps - (1 + caps.toList.length)) undef))
  simpa [List.map_replicate, Nat.add_comm] using e1

theorem At.leaveIter {P : Program} {W : World} {β0 : Nat → Nat} {g T l : Nat} {x' : Value} {r : Loop} {fn : Func} (hres : fn.results = #[]) (hp0 : S.hp[0]? = some (boxO g T x')) :
    At (boxΓ P (if (some Code.ret : Option Code).isNone then W else W.putObj l (.loop { r with state := .done, pending := some .ret })) Φ0 β0 g) Φ S (bodyPost P fn (fun e w3 => e = .returned (.tuple #[]) ∧ IterEnd g T x' l r Φ0 W w3) .normal) := by
  intro β a w h
  refine ⟨h.df, .tuple #[], ?_, rfl, Φ, ?_, ?_, h.own.o 0 _ _ _ _ _ hp0, h.sto, h.keep⟩
  · unfold results
    rw [hres]
    simp
  · have := h.phi
    have h2 : PhiLe (W.putObj l (.loop { r with state := .done, pending := some .ret })).heap.size Φ0 Φ := this
    rw [World.putObj_size] at h2
    exact h2
  · exact h.own.phi 0 _ g hp0 rfl

theorem CallG.enterM {P : Program} {f : FuncId} {args : List SV} {hp : List Blk} {Φ : Phi} {post : Post} {fn : Func} {c : Code} (hf : P.funcs[f]? = some fn) (hb : fn.body = some c)
    (ks : List Nat) (S0 : SS) (hS : ({ fr := args ++ List.replicate (fn.ntmps - args.length) (.v undef), hp } : SS).kill ks [] = S0) (hbd : ({ fr := args ++ List.replicate (fn.ntmps - args.length) (.v undef), hp } : SS).bd = true)
    (k : ∀ (E : World) (G : Nat → Nat → Prop) (β0 : Nat → Nat), At ⟨P, E, G, Φ, β0, hp.length, []⟩ Φ S0 (c.wp P (bodyPostM Fence.wide 0 P fn (RetR ⟨P, E, G, Φ, β0, hp.length, []⟩ post)))) : CallG P f args hp Φ post := by
  intro β w hs ho
  refine (callsIn_wide (n := 0)).1 (callsIn_of_wp_marks (F := Fence.wide) hf hb trivial (wpIn_wide.2 ?_) rfl)
  have h1 := (mat_map (β := β) args).append (mat_v (β := β) (List.replicate (fn.ntmps - args.length) undef))
  have hk : At ⟨P, w, gOf β hp, Φ, β, hp.length, []⟩ Φ { fr := args ++ List.replicate (fn.ntmps - args.length) (.v undef), hp } (c.wp P (bodyPostM Fence.wide 0 P fn (RetR ⟨P, w, gOf β hp, Φ, β, hp.length, []⟩ post))) := At.kill ks [] (by rw [hS]; exact k w (gOf β hp) β)
  refine hk β _ w ⟨?_, rfl, ho, hs, fun i b k hi hk => .inr ⟨lt_get hi, b, hi, hk⟩, ⟨rfl, rfl, rfl, Nat.le_refl _, fun _ _ _ => rfl⟩, ⟨fun _ _ h => h, fun _ _ => rfl⟩, hbd, fun _ _ => rfl, Nat.le_refl _⟩
  simpa using h1

theorem At.rangeF {P : Program} {E : World} {G : Nat → Nat → Prop} {β0 : Nat → Nat} {fr0 : List SV} {g T : Nat} {x x' : Value} {go : Operand} {p1 p2 : Nat} {assign body : Code} {gf : FuncId} {caps : Array Value}
    (hfo : fnOf (({ fr := fr0, hp := [boxO g T x] } : SS).get go) = some (gf, [], caps.toList.map .v)) {gfn : Func} (hgf : P.funcs[gf]? = some gfn) (hbody : gfn.body.isSome = true) (hname : (gfn.name == "runtime.NumGoroutine") = false) (hfr : fr0.all (SV.bd 0) = true)
    (hN : IterG P gf caps Φ g T x x' p1 p2 assign body fr0) {fn : Func} {post : Post} (hQ : ∀ a w, bodyPostM Fence.wide 0 P fn (RetR ⟨P, E, G, Φ0, β0, 0, []⟩ post) .ret a w → Q .ret a w)
    {p : Nat} (hres : fn.results = #[.cell p T]) (hp : ({ fr := fr0, hp := [boxO g T x] } : SS).get (.tmp p) = .v (.pointer (some ⟨g, 0, none⟩))) (hld : Go.Sx.ldB P T [.v x'] 0 = some (.v x')) (hpost : ∀ Φ', PhiLe 0 Φ Φ' → post Φ' (.ret (.v x')) []) :
    At ⟨P, E, G, Φ0, β0, 0, []⟩ Φ { fr := fr0, hp := [boxO g T x] } ((Code.rangeFunc go #[p1, p2] assign body).wp P Q) := by
  intro β a w h
  refine (wpIn_wide (n := 1)).1 (wpIn_rangeFunc ?_)
  intro fnn _
  obtain ⟨r, hr⟩ : ∃ r : Loop, r = { state := .ready, pending := none, fn := fnn, tmps := a.tmps, params := #[p1, p2], assign, body, defers := w.heap.size } := ⟨_, rfl⟩
  obtain ⟨W, hW⟩ : ∃ W, W = (w.alloc (.deferred (some []))).alloc (.loop r) := ⟨_, rfl⟩
  have hWl : W.heap[w.heap.size + 1]? = some (.loop r) := by
    rw [hW]
    have := heap_alloc_new (w.alloc (.deferred (some []))) (.loop r)
    rwa [World.size_alloc] at this
  have hWD : W.heap[w.heap.size]? = some (.deferred (some [])) := by rw [hW]; exact heap_alloc_old (heap_alloc_new w _)
  have hWo : ∀ k, k < w.heap.size → W.heap[k]? = w.heap[k]? := fun k hk => by
    rw [hW, Below.heap_alloc _ _ k (by simp; omega), Below.heap_alloc _ _ k hk]
  have hWs : W.heap.size = w.heap.size + 2 := by rw [hW]; simp
  have hbx : ownBox g T x w := h.own.o 0 _ _ _ _ _ rfl
  have hgw : g < w.heap.size := h.own.lt (i := 0) (b := boxO g T x) rfl rfl
  have hΦg : Φ g = none := h.own.phi 0 _ g rfl rfl
  have hsW : Sto Φ W := fun b cs hb => by
    obtain ⟨t, z, hz⟩ := h.sto b cs hb
    exact ⟨t, z, (hWo b (lt_of_heap hz)).trans hz⟩
  have hgE : E.heap.size ≤ g := by
    rcases h.lo 0 _ g rfl rfl with h' | ⟨h', _⟩
    · exact h'
    · exact absurd h' (Nat.not_lt_zero 0)
  have hb : gfn.body.isNone = false := by cases hq : gfn.body <;> simp_all
  refine ⟨w.heap.size + 1, [{ target := .collected w.heap.size, args := #[] }], W, { target := .fn (.func gf) caps, args := #[.func (.yield (w.heap.size + 1)) #[] #[]] }, W, gf, #[.func (.yield (w.heap.size + 1)) #[] #[]] ++ caps, W, ?_, ?_, fun _ _ => trivial, ?_, fun hf => by simp [Fence.wide] at hf, ?_⟩
  · rw [hW, hr]; exact run_enterLoop_outer _ _ _ _ _
  · simp only [resolve, fnOf_eval h hfo, Deferred.ofValue]
    simp [Act.eval]
  · simp only [invoke, callFunc, Sem.run_bind, run_program, Result.andThen_ok, hgf, hname, hb]
    simp
  · refine callsIn_wide.2 ?_
    have hcall := hN W (w.heap.size + 1) r hWl (by rw [hr]) (by rw [hr]) (by rw [hr]) (by rw [hr]) (by rw [hr]) (fun β' => by
      rw [hr]
      exact h.fr.congr (n := 0) (fun i hi => absurd hi (Nat.not_lt_zero i)) hfr) (by omega) hsW hΦg (ownBox_keep hbx (hWo g hgw))
    refine hcall.mono fun e w3 hR => ?_
    obtain ⟨rfl, Φ', hle, hΦg', hbx3, hs3, hk3⟩ := hR
    have hlg : w.heap.size + 1 ≠ g := by omega
    have hpl : (W.putObj (w.heap.size + 1) (doneR r)).heap[w.heap.size + 1]? = some (doneR r) := World.putObj_heap_same (lt_of_heap hWl)
    have h3l : w3.heap[w.heap.size + 1]? = some (.loop { r with state := .done, pending := some .ret }) := by
      rw [hk3.block _ (lt_of_heap hpl) (by rintro ⟨_, he⟩; exact hlg he)]; exact hpl
    have h3o : ∀ k, k < W.heap.size → k ≠ w.heap.size + 1 → k ≠ g → w3.heap[k]? = W.heap[k]? := fun k hk h1 h2 => by
      rw [hk3.block k (by rw [World.putObj_size]; exact hk) (by rintro ⟨_, he⟩; exact h2 he)]
      exact World.putObj_heap_other h1
    obtain ⟨w4, hw4⟩ : ∃ w4, w4 = w3.putObj (w.heap.size + 1) (.loop { r with state := .exhausted, pending := some .ret }) := ⟨_, rfl⟩
    refine ⟨some .ret, w4, ?_, ?_⟩
    · rw [hw4]; exact run_endLoop (r := { r with state := .done, pending := some .ret }) h3l (by simp)
    · refine wpIn_ret (hQ _ _ ?_)
      have h4o : ∀ k, k ≠ w.heap.size + 1 → w4.heap[k]? = w3.heap[k]? := fun k hk => by rw [hw4]; exact World.putObj_heap_other hk
      have h4D : w4.heap[w.heap.size]? = some (.deferred (some [])) := by
        rw [h4o _ (by omega), h3o _ (by omega) (by omega) (by omega)]; exact hWD
      obtain ⟨w5, hw5⟩ : ∃ w5, w5 = w4.putObj w.heap.size (.deferred none) := ⟨_, rfl⟩
      have h5o : ∀ k, k ≠ w.heap.size → w5.heap[k]? = w4.heap[k]? := fun k hk => by rw [hw5]; exact World.putObj_heap_other hk
      have h5s : w5.heap.size = w3.heap.size := by rw [hw5, World.putObj_size, hw4, World.putObj_size]
      have hbx5 : ownBox g T x' w5 := ownBox_keep hbx3 ((h5o g (by omega)).trans (h4o g (Ne.symm hlg)))
      have hs5 : Sto Φ' w5 := fun b cs hb => by
        obtain ⟨t, z, hz⟩ := hs3 b cs hb
        have hbl : b ≠ w.heap.size + 1 := sto_ne hs3 h3l hb
        refine ⟨t, z, ?_⟩
        have hbD : b ≠ w.heap.size := by
          rintro rfl
          rw [h3o _ (by omega) (by omega) (by omega), hWD] at hz
          cases hz
        rw [h5o b hbD, h4o b hbl]; exact hz
      have hW3 : W.heap.size ≤ w3.heap.size := by have := hk3.size; rw [World.putObj_size] at this; exact this
      have hEw : E.heap.size ≤ w.heap.size := h.keep.size
      have hos : w5.os = E.os := by
        have e1 : w5.os = w3.os := by rw [hw5, hw4]; rfl
        have e2 : (W.putObj (w.heap.size + 1) (doneR r)).os = w.os := by rw [hW]; rfl
        rw [e1, hk3.os, e2]; exact h.keep.os
      have htp : w5.tape = E.tape := by
        have e1 : w5.tape = w3.tape := by rw [hw5, hw4]; rfl
        have e2 : (W.putObj (w.heap.size + 1) (doneR r)).tape = w.tape := by rw [hW]; rfl
        rw [e1, hk3.tape, e2]; exact h.keep.tape
      have hou : w5.output = E.output := by
        have e1 : w5.output = w3.output := by rw [hw5, hw4]; rfl
        have e2 : (W.putObj (w.heap.size + 1) (doneR r)).output = w.output := by rw [hW]; rfl
        rw [e1, hk3.output, e2]; exact h.keep.output
      have hst : St ⟨P, E, G, Φ0, β0, 0, []⟩ Φ' β { fr := fr0, hp := [boxO g T x'] } a w5 := by
        refine ⟨h.fr, h.df, own_box hbx5 hΦg', hs5, fun i b k hi hk => ?_, ⟨hos, htp, hou, by show E.heap.size ≤ _; omega, fun k hk hn => ?_⟩, ⟨fun b cs hb => hle.1 b cs (h.phi.1 b cs hb), fun b hb => by
          have hb' : b < E.heap.size := hb
          rw [hle.2 b (by omega)]; exact h.phi.2 b hb⟩, h.bd, fun i hi => absurd hi (Nat.not_lt_zero i), Nat.zero_le _⟩
        · match i, hi with
          | 0, hi => cases hi; cases hk; exact .inl hgE
          | i + 1, hi => simp at hi
        · have hk' : k < E.heap.size := hk
          rw [h5o k (by omega), h4o k (by omega), h3o k (by omega) (by omega) (by omega), hWo k (by omega)]
          exact h.keep.block k hk hn
      have hrow := run_row (p := p) (T := T) hst hp 0 (xs := [x']) rfl (x := .v x') hld rfl
      refine ⟨by simp, .inl ⟨w.heap.size, w5, rfl, ?_, ?_⟩⟩
      · rw [hw5]; exact run_takeDeferred h4D
      · show LeavesInM Fence.wide 0 P fn a.tmps _ a.defers .returning w5
        rw [h.df]
        refine ⟨x', ?_, ?_⟩
        · unfold results
          rw [hres, Array.mapM_eq_mapM_toList]
          simp only [List.mapM_cons, List.mapM_nil, Sem.run_bind, Sem.run_map, Sem.run_pure] at hrow ⊢
          simp only [hrow, Result.andThen_ok]
          simp [den]
        · have h2 := hst.forget [] 0 [] { fr := fr0, hp := [] } (by simp [SS.forget]) (by
            unfold SS.bd
            simpa using hfr) (Nat.zero_le _)
          exact leaves_of (es := .ret (.v x')) h2 rfl rfl (hpost Φ' ⟨hle.1, fun _ hb => by omega⟩)

theorem Val.bound {Γ : Ctx} {o : Oper} {f : FuncId} {x : Operand} (ho : o.op = .makeFunc (.func f) #[x] #[]) {v : Value} (hx : S.get x = .v v) : Val Γ Φ S o (.v (.func (.func f) #[v] #[])) := fun β a w h => by
  refine ⟨_, ?_, .inr rfl⟩
  unfold execOp; rw [ho]
  simp [fits_v h hx, den, Instr.makeFunc]
theorem lit_get (xs l : List Value) {off : Nat} (h : (xs.drop off).take l.length = l) : ∀ (j : Nat) (u : Value), l[j]? = some u → xs[off + j]? = some u := by
  intro j u hj
  rw [← h, List.getElem?_take] at hj
  split at hj
  · rwa [List.getElem?_drop] at hj
  · cases hj

theorem At.scope {Γ : Ctx} {P : Program} {c : Code} (k : At Γ Φ S (c.wp P (Exit.noGoto Q))) : At Γ Φ S ((Code.scope c).wp P Q) := k.imp fun _ _ h => wp_scope_straight h
end
end Go.Sx
