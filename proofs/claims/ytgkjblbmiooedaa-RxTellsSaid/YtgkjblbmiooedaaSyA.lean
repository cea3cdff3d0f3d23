/- SyA: the executor as a machine: what is left to do is a stack, and all steps that need no choice are one computation. General: no program. -/
import Derived.Test.YtgkjblbmiooedaaSxE
import Derived.Test.YtgkjblbmiooedaaSxH
namespace Go.Sx
open Go.RowKit

abbrev QT := Exit → Act → World → Prop

def noDef (o : Oper) : Bool := match o.op with | .defer _ => false | _ => true
theorem callsIn_round {l n : Nat} {P : Program} {f : FuncId} {args : Array Value} {w : World} {R : Ending → World → Prop} (h : Calls P f args w R) : CallsIn (Fence.wide.inRound l) n P f args w R := (callsIn_wide (n := n)).2 h
theorem wpListIn_round {l n : Nat} {P : Program} {ops : Array Oper} {Q : QT} (hQ : ¬ LetsOut Q) : ∀ {os : List Oper}, os.all noDef = true → ∀ {a : Act} {w : World}, wpList P ops Q os a w → wpListIn (Fence.wide.inRound l) n P ops Q os a w
  | [], _, _, _, h => h
  | o :: os, hn, a, w, h => by
    rw [List.all_cons, Bool.and_eq_true] at hn
    unfold wpList at h
    unfold wpListIn
    split at h
    · rename_i hw
      rw [if_pos hw]
      rcases h with h | h
      · refine ⟨fun f _ => trivial, ?_⟩
        rw [Oper.semAt_eq _ _ _ (by intro c hc; have := hn.1; unfold noDef at this; rw [hc] at this; cases this)]
        unfold Oper.wp at h
        generalize (execOp a.eval o).run P w = r at h ⊢
        cases r with
        | ok x w' =>
          cases x with
          | value v => exact wpListIn_round hQ hn.2 h
          | skip => exact wpListIn_round hQ hn.2 h
          | defer d => exact wpListIn_round hQ hn.2 h
          | enter f args =>
            refine ⟨fun hd => by simp [Fence.wide] at hd, callsIn_round (Calls.mono h fun e w'' he => ?_)⟩
            cases e with
            | returned v => exact wpListIn_round hQ hn.2 he
            | panicked c => exact he
            | outgrown => exact he
          | row row args =>
            refine ⟨fun hd => by simp [Fence.wide] at hd, fun c cs _ => ?_⟩
            obtain ⟨v, w2, hr, hs⟩ := h c cs
            exact ⟨v, w2, wpListIn_round hQ hn.2 hr, stepsIn_wide.2 hs⟩
          | _ => exact absurd h (by simp [Oper.upon])
        | halt x w' => cases x <;> exact h
      · exact absurd h.2 hQ
    · rename_i hw
      rw [if_neg hw]
      exact ⟨fun f _ => trivial, wpListIn_round hQ hn.2 h⟩
inductive Fr where
  | ops (all : Array Oper) (l : List Oper)
  | code (c : Code)
  | blk (id : Nat)
  | scp
  | lp (c : Code)
  | drw (ops : Array Oper) (Φ0 : Phi) (n : Nat) (listed : Array Bool)

structure MS where
  k : List Fr
  s : SS

/-- In no round, or in a round of a range over a function. -/
def fe (md : Option Nat) : Fence := { Fence.wide with round := md }
theorem fe_fn (md : Option Nat) (f : FuncId) : (fe md).fn f := trivial
/-- At the head of a loop. -/
def wpX (F : Fence) (P : Program) (c : Code) (Q : QT) : Act → World → Prop := fun a w => ∀ (b : Frame) (k : List Item) (cs : List Frame), b.roundOf = F.round → F.fn b.fn → F.room (cs.length + 1 + 0) → ∃ e a' w', Q e a' w' ∧ ArrivesIn (Machine.fenced P F) P (lone (b.atR a (.code c :: .inLoop c :: k)) cs w) b k cs e a' w'

def exits (P : Program) (md : Option Nat) (Q : QT) : List Fr → QT
  | [] => Q
  | .ops all l :: k => Exit.then (wpList P all (exits P md Q k) l) (exits P md Q k)
  | .code c :: k => Exit.then (c.wpIn (fe md) 0 P (exits P md Q k)) (exits P md Q k)
  | .blk id :: k => Exit.inBlock id (exits P md Q k)
  | .scp :: k => Exit.noGoto (exits P md Q k)
  | .lp c :: k => Exit.then (wpX (fe md) P c (exits P md Q k)) (exits P md Q k)
  | .drw ops Φ0 n l :: k => Exit.then (fun a w => Sto Φ0 w ∧ wpAnyH P .any ops (exits P md Q k) (Sto Φ0) n l a w) (exits P md Q k)

/-- The known boxes of S are those of T. -/
def fSub (S T : SS) : Prop := ∀ (i g : Nat) (cs : List Value) (t : TypeId), S.hp[i]? = some (.f g cs t) → T.hp[i]? = some (.f g cs t)
theorem fSub.refl {S : SS} : fSub S S := fun _ _ _ _ h => h
theorem fSub.of_hp {S T : SS} (h : S.hp = T.hp) : fSub S T := fun _ _ _ _ hi => h ▸ hi

def drwOk (Φ : Phi) (S : SS) : List Fr → Prop
  | [] => True
  | .drw _ Φ0 _ _ :: k => (PhiLe 0 Φ0 Φ ∧ fOk Φ0 S) ∧ drwOk Φ S k
  | _ :: k => drwOk Φ S k

structure Env (Γ : Ctx) (Q : QT) : Prop where
  mixed : Γ.P.follows .mixedOrders = true
  pan : Γ.md = none → PanOk Q
  out : Γ.md ≠ none → ¬ LetsOut Q

/-- From every world that is so, what is left to do ends as Q says. -/
def AtM (Γ : Ctx) (Q : QT) (Φ : Phi) (m : MS) : Prop := Env Γ Q → drwOk Φ m.s m.k → At Γ Φ m.s (exits Γ.P Γ.md Q m.k .normal)

theorem exits_ret (P : Program) (md : Option Nat) (Q : QT) : ∀ k, exits P md Q k .ret = Q .ret
  | [] => rfl
  | .ops _ _ :: k => exits_ret P md Q k
  | .code _ :: k => exits_ret P md Q k
  | .blk _ :: k => exits_ret P md Q k
  | .scp :: k => exits_ret P md Q k
  | .lp _ :: k => exits_ret P md Q k
  | .drw _ _ _ _ :: k => exits_ret P md Q k
theorem exits_pan (P : Program) (md : Option Nat) (Q : QT) (c : List PanicEntry) : ∀ k, exits P md Q k (.panic c) = Q (.panic c)
  | [] => rfl
  | .ops _ _ :: k => exits_pan P md Q c k
  | .code _ :: k => exits_pan P md Q c k
  | .blk _ :: k => exits_pan P md Q c k
  | .scp :: k => exits_pan P md Q c k
  | .lp _ :: k => exits_pan P md Q c k
  | .drw _ _ _ _ :: k => exits_pan P md Q c k
theorem exits_out (P : Program) (md : Option Nat) (Q : QT) : ∀ k, exits P md Q k .outgrown = Q .outgrown
  | [] => rfl
  | .ops _ _ :: k => exits_out P md Q k
  | .code _ :: k => exits_out P md Q k
  | .blk _ :: k => exits_out P md Q k
  | .scp :: k => exits_out P md Q k
  | .lp _ :: k => exits_out P md Q k
  | .drw _ _ _ _ :: k => exits_out P md Q k
theorem panOk_exits {P : Program} {md : Option Nat} {Q : QT} (h : PanOk Q) (k : List Fr) : PanOk (exits P md Q k) := fun c a w d v => by
  rw [exits_pan]; exact h c a w d v
theorem out_exits {P : Program} {md : Option Nat} {Q : QT} (h : ¬ LetsOut Q) (k : List Fr) : ¬ LetsOut (exits P md Q k) := by
  unfold LetsOut; rw [exits_out]; exact h

/-- Out of a block. -/
def popTo (id : Nat) : List Fr → Option (List Fr)
  | [] => none
  | .blk j :: k => if id == j then some k else popTo id k
  | _ :: k => popTo id k
theorem exits_pop (P : Program) (md : Option Nat) (Q : QT) (id : Nat) : ∀ k k', popTo id k = some k' → ∀ a w, exits P md Q k' .normal a w → exits P md Q k (.exit id) a w
  | [], _, h, _, _, _ => by cases h
  | .blk j :: k, k', h, a, w, hq => by
    unfold popTo at h
    show (if id = j then exits P md Q k .normal a w else exits P md Q k (.exit id) a w)
    split at h
    · rename_i e; rw [if_pos (by simpa using e)]; cases h; exact hq
    · rename_i e; rw [if_neg (by simpa using e)]; exact exits_pop P md Q id k k' h a w hq
  | .ops _ _ :: k, k', h, a, w, hq => exits_pop P md Q id k k' h a w hq
  | .code _ :: k, k', h, a, w, hq => exits_pop P md Q id k k' h a w hq
  | .scp :: k, k', h, a, w, hq => exits_pop P md Q id k k' h a w hq
  | .lp _ :: k, k', h, a, w, hq => exits_pop P md Q id k k' h a w hq
  | .drw _ _ _ _ :: k, k', h, a, w, hq => exits_pop P md Q id k k' h a w hq
theorem drwOk_pop {Φ : Phi} {S : SS} (id : Nat) : ∀ k k', popTo id k = some k' → drwOk Φ S k → drwOk Φ S k'
  | [], _, h, _ => by cases h
  | .blk j :: k, k', h, hd => by
    unfold popTo at h
    split at h
    · cases h; exact hd
    · exact drwOk_pop id k k' h hd
  | .ops _ _ :: k, k', h, hd => drwOk_pop id k k' h hd
  | .code _ :: k, k', h, hd => drwOk_pop id k k' h hd
  | .scp :: k, k', h, hd => drwOk_pop id k k' h hd
  | .lp _ :: k, k', h, hd => drwOk_pop id k k' h hd
  | .drw _ _ _ _ :: k, k', h, hd => drwOk_pop id k k' h hd.2
theorem drwOk.mono {Φ Φ' : Phi} {n : Nat} {S S' : SS} (hle : PhiLe n Φ Φ') (hs : fSub S' S) {k : List Fr} (h : drwOk Φ S k) : drwOk Φ' S' k := by
  induction k with
  | nil => trivial
  | cons f k ih =>
    cases f with
    | drw ops Φ0 n l => exact ⟨⟨h.1.1.trans hle, fun i g cs t hi => h.1.2 i g cs t (hs i g cs t hi)⟩, ih h.2⟩
    | _ => exact ih h
theorem drwOk.sub {Φ : Phi} {S S' : SS} (hs : fSub S' S) {k : List Fr} (h : drwOk Φ S k) : drwOk Φ S' k := h.mono (PhiLe.refl 0 Φ) hs

/-- What may be taken out of a region that draws: a reader that is ready. -/
def takeM (P : Program) (ops : Array Oper) (S : SS) (n : Nat) (l : Array Bool) : List Nat → Option (Nat × SS)
  | [] => none
  | i :: is => match ops[i]? with
    | none => takeM P ops S n l is
    | some o => if Region.free .any ops l i then
        match wantS ops S o with
        | some true => match pureOp o.op && (evS P S.bare o).isSome, ev P S.bare o with
          | true, some (x, _) => match x.isU, putB S o.dst x with
            | false, some S' => some (i, S')
            | _, _ => takeM P ops S n l is
          | _, _ => takeM P ops S n l is
        | some false => match putB S o.dst (.v undef) with
          | some S' => some (i, S')
          | none => takeM P ops S n l is
        | none => takeM P ops S n l is
      else takeM P ops S n l is

/-- One step that needs no choice. -/
def stepM (P : Program) (pl : Bool) (Φ : Phi) (m : MS) : Option MS :=
  match m.k with
  | .code (.seq a b) :: k => some ⟨.code a :: .code b :: k, m.s⟩
  | .code (.region _ ops false) :: k => match pl || ops.toList.all noDef with
    | true => some ⟨.ops ops ops.toList :: k, m.s⟩
    | false => none
  | .code (.region _ ops true) :: k => if pl && Region.noSelect ops then some ⟨.drw ops Φ ops.size (Array.replicate ops.size false) :: k, m.s⟩ else none
  | .code (.cond c a b) :: k => match m.s.get c with
    | .v (.bool true) => some ⟨.code a :: k, m.s⟩
    | .v (.bool false) => some ⟨.code b :: k, m.s⟩
    | _ => none
  | .code (.block id c) :: k => some ⟨.code c :: .blk id :: k, m.s⟩
  | .code .skip :: k => some ⟨k, m.s⟩
  | .code (.label _) :: k => some ⟨k, m.s⟩
  | .code (.scope c) :: k => match pl with
    | true => some ⟨.code c :: .scp :: k, m.s⟩
    | false => none
  | .code (.loop c) :: k => some ⟨.lp c :: k, m.s⟩
  | .code (.exit id) :: k => (popTo id k).map fun k' => ⟨k', m.s⟩
  | .ops _ [] :: k => some ⟨k, m.s⟩
  | .ops all (o :: l) :: k => (stepS P all m.s o).map fun s' => ⟨.ops all l :: k, s'⟩
  | .blk _ :: k => some ⟨k, m.s⟩
  | .scp :: k => some ⟨k, m.s⟩
  | .drw ops Φ0 (n + 1) l :: k => match Region.ready .any ops l with
    | [] => some ⟨k, m.s⟩
    | r => match pl && Region.noSelect ops, takeM P ops m.s n l r with
      | true, some (i, s') => some ⟨.drw ops Φ0 n (l.setIfInBounds i true) :: k, s'⟩
      | _, _ => match r with
        | [i] => match ops[i]? with
          | some o => some ⟨.ops ops [o] :: .drw ops Φ0 n (l.setIfInBounds i true) :: k, m.s⟩
          | none => none
        | _ => none
  | .drw ops _ 0 l :: k => match Region.ready .any ops l with
    | [] => some ⟨k, m.s⟩
    | _ => none
  | _ => none

def goM (P : Program) (pl : Bool) (Φ : Phi) : Nat → MS → MS
  | 0, m => m
  | n + 1, m => match stepM P pl Φ m with
    | some m' => goM P pl Φ n m'
    | none => m

section
variable {Γ : Ctx} {Q : QT} {Φ : Phi} {m m' : MS}

theorem takeM_spec {P : Program} {ops : Array Oper} {S S' : SS} {n i : Nat} {l : Array Bool} : ∀ {is : List Nat}, takeM P ops S n l is = some (i, S') → i ∈ is ∧ ∃ o, ops[i]? = some o ∧ Region.free .any ops l i = true ∧
    ((wantS ops S o = some true ∧ ∃ x y, (pureOp o.op && (evS P S.bare o).isSome) = true ∧ ev P S.bare o = some (x, y) ∧ x.isU = false ∧ putB S o.dst x = some S') ∨ (wantS ops S o = some false ∧ putB S o.dst (.v undef) = some S'))
  | [], h => by cases h
  | j :: is, h => by
    have again : takeM P ops S n l is = some (i, S') → i ∈ j :: is ∧ _ := fun h => (takeM_spec h).imp (fun hm => List.mem_cons_of_mem j hm) id
    unfold takeM at h
    split at h
    · exact again h
    · rename_i o ho
      split at h
      · rename_i hf
        split at h
        · rename_i hw
          split at h
          · rename_i x y hp he
            split at h
            · rename_i hu hS
              cases h
              exact ⟨List.mem_cons_self, o, ho, hf, .inl ⟨hw, x, y, hp, he, hu, hS⟩⟩
            · exact again h
          · exact again h
        · rename_i hw
          split at h
          · rename_i hS; cases h
            exact ⟨List.mem_cons_self, o, ho, hf, .inr ⟨hw, hS⟩⟩
          · exact again h
        · exact again h
      · exact again h

theorem val_take {P : Program} {S : SS} {o : Oper} {x : SV} {y : List Blk} (hp : (pureOp o.op && (evS P S.bare o).isSome) = true) (he : ev P S.bare o = some (x, y)) {Γ : Ctx} (hΓ : Γ.P = P) {Φ : Phi} : Val Γ Φ S.bare o x := fun β a w h => by
  subst hΓ
  rw [Bool.and_eq_true, Option.isSome_iff_exists] at hp
  obtain ⟨h1, S', h2⟩ := hp
  obtain ⟨v, w', β', r, hr, _, _, hq⟩ := evS_sound h h2
  obtain ⟨rfl, rfl, x', hx', hf⟩ := hq h1
  rw [he] at hx'
  cases hx'
  exact ⟨v, hr, hf⟩

theorem evS_fsub {β : Nat → Nat} {S S' : SS} {a : Act} {w : World} {o : Oper} (h : St Γ Φ β S a w) (he : evS Γ.P S o = some S') : fSub S' S := by
  obtain ⟨v, w', β', r, _, _, _, hq⟩ := evS_sound h he
  have hS' : ∀ x hp, ev Γ.P S o = some (x, hp) → S'.hp = hp := by
    intro x hp hx
    unfold evS at he; rw [hx] at he; simp only at he
    split at he
    · cases he; rfl
    · cases he
  have happ : ∀ (cs : List SV) (t : TypeId), S'.hp = S.hp ++ [.c cs t] → fSub S' S := by
    intro cs t e i g cs' t' hi
    rw [e] at hi
    rcases get_append hi with ⟨_, hi⟩ | ⟨_, he⟩
    · exact hi
    · cases he
  cases hp : pureOp o.op with
  | true =>
    obtain ⟨_, _, x, hx, _⟩ := hq hp
    exact fSub.of_hp (hS' _ _ hx)
  | false =>
    cases hev : ev Γ.P S o with
    | none => unfold evS at he; rw [hev] at he; cases he
    | some q =>
      obtain ⟨x, hp'⟩ := q
      have h1 := hS' x hp' hev
      unfold ev at hev
      cases ho : o.op with
      | alloc e =>
        rw [ho] at hev; simp only at hev
        repeat' split at hev
        all_goals first | cases hev; done | skip
        cases hev; exact happ _ _ h1
      | box e x =>
        rw [ho] at hev; simp only at hev
        repeat' split at hev
        all_goals first | cases hev; done | skip
        cases hev; exact happ _ _ h1
      | buildSlice t n ps =>
        rw [ho] at hev; simp only at hev
        repeat' split at hev
        all_goals first | cases hev; done | skip
        simp only [Option.map_eq_some_iff] at hev
        obtain ⟨l, _, hl⟩ := hev
        cases hl; exact happ _ _ h1
      | store t p x =>
        rw [ho] at hev; simp only at hev
        repeat' split at hev
        all_goals first | cases hev; done | skip
        cases hev
        intro i g cs t hi
        rw [h1, List.getElem?_set] at hi
        split at hi
        · split at hi <;> cases hi
        · exact hi
      | _ => rw [ho] at hp; cases hp
theorem step_fsub {β : Nat → Nat} {S S' : SS} {a : Act} {w : World} {o : Oper} {ops : Array Oper} (h : St Γ Φ β S a w) (he : stepS Γ.P ops S o = some S') : fSub S' S := by
  unfold stepS at he
  split at he
  · exact evS_fsub h he
  · cases he; exact fSub.of_hp (put_hp _ _ _)
  · cases he

theorem putB_fsub {S S' : SS} {d : Option Tmp} {x : SV} (h : putB S d x = some S') : fSub S' S := by
  obtain ⟨rfl, _⟩ := putB_some h
  exact fSub.of_hp (put_hp _ _ _)

theorem wpIn_fe_none {md : Option Nat} (h : md = none) {c : Code} {P : Program} {Q : QT} {a : Act} {w : World} (q : c.wp P Q a w) : c.wpIn (fe md) 0 P Q a w := by
  subst h; exact wpIn_wide.2 q
theorem wp_of_fe {md : Option Nat} (h : md = none) {c : Code} {P : Program} {Q : QT} {a : Act} {w : World} (q : c.wpIn (fe md) 0 P Q a w) : c.wp P Q a w := by
  subst h; exact wpIn_wide.1 q
theorem region_fe {md : Option Nat} {id : Nat} {ops : Array Oper} {P : Program} {Q : QT} (hout : md ≠ none → ¬ LetsOut Q) (hn : (md.isNone || ops.toList.all noDef) = true) {a : Act} {w : World} (q : wpList P ops Q ops.toList a w) : (Code.region id ops false).wpIn (fe md) 0 P Q a w := by
  cases md with
  | none => exact wpIn_fe_none rfl (wp_region_list q)
  | some l => exact wpIn_region_list (wpListIn_round (hout (by simp)) (by simpa using hn) q)

theorem step_sound (h : stepM Γ.P Γ.md.isNone Φ m = some m') (k : AtM Γ Q Φ m') : AtM Γ Q Φ m := by
  obtain ⟨fs, S⟩ := m
  intro env hd
  unfold stepM at h
  split at h <;> simp only at * <;> subst_vars
  · rename_i a b k' ; cases h; exact At.seqI (k env hd)
  · split at h
    · rename_i hn
      cases h
      exact (k env hd).imp fun a w q => region_fe (fun hm => out_exits (env.out hm) _) hn q
    · cases h
  · split at h
    · rename_i hn
      rw [Bool.and_eq_true] at hn
      have hmd : Γ.md = none := by simpa using hn.1
      cases h
      intro β a w h
      exact wpIn_fe_none hmd (At.region_draw (Γ := Γ) (Φ := Φ) (S := S) env.mixed _ rfl _ rfl (fun β a w h => (k env ⟨⟨PhiLe.refl 0 _, fun i g cs t hi => (h.own.f i g cs t hi).2⟩, hd⟩ β a w h).2) β a w h)
    · cases h
  · split at h
    · rename_i hc; cases h; exact At.condI_t hc (k env hd)
    · rename_i hc; cases h; exact At.condI_f hc (k env hd)
    · cases h
  · cases h; exact At.blockI (k env hd)
  · cases h; exact At.skipI (k env hd)
  · cases h; exact (k env hd).imp fun a w q => wpIn_label q
  · split at h
    · rename_i hpl
      have hmd : Γ.md = none := by simpa using hpl
      cases h
      exact (k env hd).imp fun a w q => wpIn_fe_none hmd (wp_scope_straight (wp_of_fe hmd q))
    · cases h
  · cases h
    intro β a w h b k' cs hro hb hr
    obtain ⟨e, a', w', hq, harr⟩ := k env hd β a w h b k' cs hro hb hr
    exact ⟨e, a', w', hq, .of_steps (.one (fenced_calm hb hr rfl) stepR_loop) harr⟩
  · rename_i id k'
    obtain ⟨k2, hk, rfl⟩ := Option.map_eq_some_iff.1 h
    exact (k env (drwOk_pop id k' k2 hk hd)).imp fun a w q => wpIn_exit (exits_pop Γ.P Γ.md Q id k' k2 hk a w q)
  · rename_i all k'; cases h; exact At.nil (P := Γ.P) (ops := all) (k env hd)
  · rename_i all o l k'
    obtain ⟨s', hs, rfl⟩ := Option.map_eq_some_iff.1 h
    intro β a w h
    exact At.step hs (k env (drwOk.sub (step_fsub h hs) hd)) β a w h
  · cases h; exact k env hd
  · cases h; exact k env hd
  · rename_i ops Φ0 n l k'
    refine At.held hd.1.1 ?_
    split at h
    · rename_i hr; cases h
      exact At.drawn_done hr (k env hd.2)
    · rename_i r hr
      split at h
      · rename_i i s' hns ht
        rw [Bool.and_eq_true] at hns
        have hmd : Γ.md = none := by simpa using hns.1
        cases h
        obtain ⟨hm, o, ho, hf, hh⟩ := takeM_spec ht
        have hc : (Region.ready .any ops l).contains i = true := by simpa using hm
        rcases hh with ⟨hw, x, y, hp, he, hu, hS⟩ | ⟨hw, hS⟩
        · exact At.take hd.1.1 hd.1.2 (panOk_exits (env.pan hmd) k') i ho hns.2 hf hc hw x hu (fun E β => by refine val_take hp he ?_; rfl) hS _ rfl ((k env (drwOk.sub (k := .drw _ _ _ _ :: _) (putB_fsub hS) hd)).imp fun _ _ q => q.2)
        · exact At.takeN hd.1.1 (panOk_exits (env.pan hmd) k') i ho hns.2 hf hc hw hS _ rfl ((k env (drwOk.sub (k := .drw _ _ _ _ :: _) (putB_fsub hS) hd)).imp fun _ _ q => q.2)
      · split at h
        · rename_i i hri
          split at h
          · rename_i o ho
            cases h
            exact At.any1 i hri ho _ rfl (k env hd)
          · cases h
        · cases h
  · rename_i ops Φ0 l k'
    split at h
    · rename_i hr; cases h
      exact At.held hd.1.1 (At.drawn_done hr (k env hd.2))
    · cases h
  · cases h
theorem AtM.go (n : Nat) (k : AtM Γ Q Φ (goM Γ.P Γ.md.isNone Φ n m)) : AtM Γ Q Φ m := by
  induction n generalizing m with
  | zero => exact k
  | succ n ih =>
    unfold goM at k
    split at k
    · rename_i m' h; exact step_sound h (ih k)
    · exact k
end
end Go.Sx
