/- SxB: contracts that return or panic, calls by them, splits. General: no program. -/
import Derived.Test.YtgkjblbmiooedaaSxA
import Derived.KernelRfl
namespace Go.Sx
open Go.RowKit

abbrev U : SV := .v undef
def bAnd (k : IntKind) (x y : Int) : Int := k.wrap (BitVec.ofInt k.bits x &&& BitVec.ofInt k.bits y).toNat
def bOr (k : IntKind) (x y : Int) : Int := k.wrap (BitVec.ofInt k.bits x ||| BitVec.ofInt k.bits y).toNat
def bShr (k : IntKind) (x : Int) (n : Nat) : Int := x.fdiv (2 ^ min n k.bits)
def bShl (k : IntKind) (x : Int) (n : Nat) : Int := k.wrap (x * 2 ^ min n k.bits)
def bAdd (k : IntKind) (x y : Int) : Int := k.wrap (x + y)
def bSub (k : IntKind) (x y : Int) : Int := k.wrap (x - y)
def bMul (k : IntKind) (x y : Int) : Int := k.wrap (x * y)
def bCv (k : IntKind) (x : Int) : Int := k.wrap x

theorem wrapI {z : Int} (h1 : -9223372036854775808 ≤ z) (h2 : z ≤ 9223372036854775807) : IntKind.i64.wrap z = z := by
  simp [IntKind.wrap, IntKind.bits, IntKind.signed]; omega

/-- A frame of n slots of which these are known. -/
def frGo : Nat → Nat → List (Nat × SV) → List SV
  | 0, _, _ => []
  | n + 1, i, [] => .u :: frGo n (i + 1) []
  | n + 1, i, (j, x) :: l => if j = i then x :: frGo n (i + 1) l else .u :: frGo n (i + 1) ((j, x) :: l)
def fr (n : Nat) (l : List (Nat × SV)) : List SV := frGo n 0 l

def killF : Nat → List Nat → List SV → List SV
  | _, _, [] => []
  | i, ks, x :: l => (if ks.contains i then .u else x) :: killF (i + 1) ks l
def killH : Nat → List Nat → List Blk → List Blk
  | _, _, [] => []
  | i, ks, x :: l => (if ks.contains i then .dead else x) :: killH (i + 1) ks l
def SS.kill (ks ds : List Nat) (S : SS) : SS := { fr := killF 0 ks S.fr, hp := killH 0 ds S.hp }

theorem killF_get (ks : List Nat) : ∀ (l : List SV) (i k : Nat) (c : SV), (killF i ks l)[k]? = some c → ∃ c', l[k]? = some c' ∧ (c = c' ∨ c = .u)
  | [], _, k, c, h => by simp [killF] at h
  | x :: l, i, 0, c, h => by
    simp only [killF, List.getElem?_cons_zero, Option.some.injEq] at h
    refine ⟨x, rfl, ?_⟩
    split at h
    · exact .inr h.symm
    · exact .inl h.symm
  | x :: l, i, k + 1, c, h => by
    simp only [killF, List.getElem?_cons_succ] at h ⊢
    exact killF_get ks l (i + 1) k c h
theorem killF_len (ks : List Nat) : ∀ (l : List SV) (i : Nat), (killF i ks l).length = l.length
  | [], _ => rfl
  | _ :: l, i => by simp [killF, killF_len ks l (i + 1)]
theorem killH_get (ks : List Nat) : ∀ (l : List Blk) (i k : Nat) (c : Blk), (killH i ks l)[k]? = some c → c = .dead ∨ l[k]? = some c
  | [], _, k, c, h => by simp [killH] at h
  | x :: l, i, 0, c, h => by
    simp only [killH, List.getElem?_cons_zero, Option.some.injEq] at h ⊢
    split at h
    · exact .inl h.symm
    · exact .inr h
  | x :: l, i, k + 1, c, h => by
    simp only [killH, List.getElem?_cons_succ] at h ⊢
    exact killH_get ks l (i + 1) k c h
theorem killH_len (ks : List Nat) : ∀ (l : List Blk) (i : Nat), (killH i ks l).length = l.length
  | [], _ => rfl
  | _ :: l, i => by simp [killH, killH_len ks l (i + 1)]

theorem At.kill {Γ : Ctx} {Φ : Phi} {S : SS} {X : Act → World → Prop} (ks ds : List Nat) (k : At Γ Φ (S.kill ks ds) X) : At Γ Φ S X := by
  intro β a w h
  refine k β a w ⟨⟨?_, ?_⟩, h.df, ⟨?_, ?_, ?_, ?_, fun i g cs t hi => by
    rcases killH_get ds _ _ _ _ hi with he | hi
    · cases he
    · exact h.own.f i g cs t hi⟩, h.sto, ?_, h.keep, h.phi, ?_, h.pin, ?_⟩
  · rw [h.fr.1]; simp [SS.kill, killF_len]
  · intro i c v hc hv
    obtain ⟨c', hc', hcc⟩ := killF_get ks _ _ _ _ hc
    rcases hcc with rfl | rfl
    · exact h.fr.2 i c v hc' hv
    · exact .inl rfl
  · intro i cs t hi
    rcases killH_get ds _ _ _ _ hi with he | hi
    · cases he
    · exact h.own.c i cs t hi
  · intro i v m xs t sz hi
    rcases killH_get ds _ _ _ _ hi with he | hi
    · cases he
    · exact h.own.o i v m xs t sz hi
  · intro i j bi bj m hi hj li lj
    rcases killH_get ds _ _ _ _ hi with rfl | hi
    · cases li
    · rcases killH_get ds _ _ _ _ hj with rfl | hj
      · cases lj
      · exact h.own.inj i j bi bj m hi hj li lj
  · intro i b m hi hl
    rcases killH_get ds _ _ _ _ hi with rfl | hi
    · cases hl
    · exact h.own.phi i b m hi hl
  · intro i b m hi hl
    rcases killH_get ds _ _ _ _ hi with rfl | hi
    · cases hl
    · exact h.lo i b m hi hl
  · have := h.bd
    unfold SS.bd at this ⊢
    rw [Bool.and_eq_true, List.all_eq_true, List.all_eq_true] at this ⊢
    simp only [SS.kill, killH_len]
    refine ⟨fun x hx => ?_, fun b hb => ?_⟩
    · obtain ⟨k, hk⟩ := List.mem_iff_getElem?.1 hx
      obtain ⟨c', hc', hcc⟩ := killF_get ks _ _ _ _ hk
      rcases hcc with rfl | rfl
      · exact this.1 _ (List.mem_of_getElem? hc')
      · rfl
    · obtain ⟨k, hk⟩ := List.mem_iff_getElem?.1 hb
      rcases killH_get ds _ _ _ _ hk with rfl | hk
      · rfl
      · exact this.2 _ (List.mem_of_getElem? hk)
  · have := h.len
    simp only [SS.kill, killH_len]
    exact this

/-- A run of plain operations, and forgetting. -/
theorem At.runk {Γ : Ctx} {Φ : Phi} {S : SS} {Q : Exit → Act → World → Prop} {ops : Array Oper} {l : List Oper} (n : Nat) (ks ds : List Nat) (S' : SS) (h : (runS Γ.P ops (l.take n) S).map (SS.kill ks ds) = some S') (k : At Γ Φ S' (wpList Γ.P ops Q (l.drop n))) : At Γ Φ S (wpList Γ.P ops Q l) := by
  obtain ⟨S1, h1, rfl⟩ := Option.map_eq_some_iff.1 h
  exact At.runs n S1 h1 (At.kill ks ds k)
/-- Forgetting. -/
theorem At.killc {Γ : Ctx} {Φ : Phi} {S : SS} {X : Act → World → Prop} (ks ds : List Nat) (S' : SS) (h : S.kill ks ds = S') (k : At Γ Φ S' X) : At Γ Φ S X := At.kill ks ds (h ▸ k)

theorem CallG.enterk {P : Program} {f : FuncId} {args : List SV} {hp : List Blk} {Φ : Phi} {post : Post} {fn : Func} {c : Code} (hf : P.funcs[f]? = some fn) (hb : fn.body = some c)
    (ks : List Nat) (S0 : SS) (hS : ({ fr := args ++ List.replicate (fn.ntmps - args.length) (.v undef), hp } : SS).kill ks [] = S0) (hbd : ({ fr := args ++ List.replicate (fn.ntmps - args.length) (.v undef), hp } : SS).bd = true)
    (k : ∀ (E : World) (G : Nat → Nat → Prop) (β0 : Nat → Nat), At ⟨P, E, G, Φ, β0, hp.length, [], none⟩ Φ S0 (c.wp P (bodyPost P fn (RetR ⟨P, E, G, Φ, β0, hp.length, [], none⟩ post)))) : CallG P f args hp Φ post :=
  CallG.enter hf hb _ rfl hbd fun E G β0 => At.kill ks [] (by rw [hS]; exact k E G β0)

/-- Handed these, it returns one of these. -/
def CallR (P : Program) (f : FuncId) (args : List SV) (hp : List Blk) (Φ : Phi) (T : Type) (rv : T → SV) (hps : T → List Blk) (F : T → Phi → Prop) : Prop :=
  CallG P f args hp Φ fun Φ' es hp' => ∃ t, es = .ret (rv t) ∧ hp' = hps t ∧ F t Φ'
/-- Handed these, it panics. -/
def CallP (P : Program) (f : FuncId) (args : List SV) (hp : List Blk) (Φ : Phi) (ch : List PanicEntry) : Prop :=
  CallG P f args hp Φ fun _ es hp' => es = .pan ch ∧ hp' = hp

section
variable {Γ : Ctx} {Φ : Phi} {S S' : SS} {Q : Exit → Act → World → Prop} {ops : Array Oper} {rest : List Oper} {o : Oper}

theorem At.bcase {X : Act → World → Prop} (b : Bool) (kt : b = true → At Γ Φ S X) (kf : b = false → At Γ Φ S X) : At Γ Φ S X := by
  cases b
  · exact kf rfl
  · exact kt rfl

theorem At.condb {P : Program} {c : Operand} {x y : Code} (b : Bool) (hc : S.get c = .v (.bool b)) (kt : b = true → At Γ Φ S (x.wp P Q)) (kf : b = false → At Γ Φ S (y.wp P Q)) : At Γ Φ S ((Code.cond c x y).wp P Q) :=
  At.cond hc kt kf

theorem At.callR {fo : Operand} {args : Array Operand} {argTypes : Array TypeId} (ho : o.op = .call { callee := .value fo, args, argTypes })
    (hw : wantS ops S o = some true) (f : FuncId) (first caps : List SV) (hfn : fnOf (S.get fo) = some (f, first, caps)) {fn : Func} (hf : Γ.P.funcs[f]? = some fn) (hbody : fn.body.isSome = true) (hname : (fn.name == "runtime.NumGoroutine") = false)
    (idx : List Nat) (av : List SV) (hpI : List Blk) (hav : first ++ args.toList.map S.get ++ caps = av.map (SV.ren (inR idx))) (hu : av.any SV.isU = false)
    (hnd : idx.Nodup) (hlen : idx.length = hpI.length) (hsub : ∀ (j i : Nat), idx[j]? = some i → ∃ b : Blk, hpI[j]? = some b ∧ S.hp[i]? = some (b.ren (inR idx)))
    {T : Type} {rv : T → SV} {hps : T → List Blk} {F : T → Phi → Prop} (hC : CallR Γ.P f av hpI Φ T rv hps F)
    (k : ∀ Φ' t, PhiLe 0 Φ Φ' → F t Φ' → ∃ S', mergeS S idx o.dst (rv t) (hps t) = S' ∧ S'.bd = true ∧ At Γ Φ' S' (wpList Γ.P ops Q rest)) :
    At Γ Φ S (wpList Γ.P ops Q (o :: rest)) := by
  refine At.call ho hw f first caps hfn fn hf hbody hname idx av hpI hav hu hnd hlen hsub hC ?_ ?_
  · rintro Φ' x hp' hle ⟨t, he, rfl, hF⟩ _
    cases he
    obtain ⟨S', rfl, hb, hk⟩ := k Φ' t hle hF
    exact ⟨hb, hk⟩
  · rintro Φ' ch hp' hle ⟨t, he, _⟩ _
    cases he

theorem At.callV {fo : Operand} {args : Array Operand} {argTypes : Array TypeId} (ho : o.op = .call { callee := .value fo, args, argTypes })
    (hw : wantS ops S o = some true) (f : FuncId) (first caps : List SV) (hfn : fnOf (S.get fo) = some (f, first, caps)) {fn : Func} (hf : Γ.P.funcs[f]? = some fn) (hbody : fn.body.isSome = true) (hname : (fn.name == "runtime.NumGoroutine") = false)
    (av : List SV) (hav : first ++ args.toList.map S.get ++ caps = av.map (SV.ren (inR []))) (hu : av.any SV.isU = false)
    {T : Type} {rv : T → SV} {hps : T → List Blk} {F : T → Phi → Prop} (hC : CallR Γ.P f av [] Φ T rv hps F)
    (k : ∀ Φ' t, PhiLe 0 Φ Φ' → F t Φ' → ∃ S', mergeS S [] o.dst (rv t) (hps t) = S' ∧ S'.bd = true ∧ At Γ Φ' S' (wpList Γ.P ops Q rest)) :
    At Γ Φ S (wpList Γ.P ops Q (o :: rest)) :=
  At.callR ho hw f first caps hfn hf hbody hname [] av [] hav hu List.nodup_nil rfl (fun j i h => by simp at h) hC k

theorem At.callP {fo : Operand} {args : Array Operand} {argTypes : Array TypeId} (ho : o.op = .call { callee := .value fo, args, argTypes })
    (hw : wantS ops S o = some true) (f : FuncId) (first caps : List SV) (hfn : fnOf (S.get fo) = some (f, first, caps)) {fn : Func} (hf : Γ.P.funcs[f]? = some fn) (hbody : fn.body.isSome = true) (hname : (fn.name == "runtime.NumGoroutine") = false)
    (av : List SV) (hav : first ++ args.toList.map S.get ++ caps = av.map (SV.ren (inR []))) (hu : av.any SV.isU = false)
    {ch : List PanicEntry} (hC : CallP Γ.P f av [] Φ ch)
    (k : ∀ Φ', PhiLe 0 Φ Φ' → ∃ S', mergeP S [] [] = S' ∧ S'.bd = true ∧ At Γ Φ' S' (Q (.panic ch))) :
    At Γ Φ S (wpList Γ.P ops Q (o :: rest)) := by
  refine At.call ho hw f first caps hfn fn hf hbody hname [] av [] hav hu List.nodup_nil rfl (fun j i h => by simp at h) hC ?_ ?_
  · rintro Φ' x hp' hle ⟨he, _⟩ _
    cases he
  · rintro Φ' ch' hp' hle ⟨he, rfl⟩ _
    cases he
    obtain ⟨S', rfl, hb, hk⟩ := k Φ' hle
    exact ⟨hb, hk⟩

theorem At.leaveR (hdf : Γ.df = []) {fn : Func} {T : Type} {rv : T → SV} {hps : T → List Blk} {F : T → Phi → Prop} (t : T) (hr : resS Γ.P fn S = some (rv t)) (hx : (rv t).ok S.hp.length = true) (hh : S.hp = hps t) (hF : F t Φ) :
    At Γ Φ S (bodyPost Γ.P fn (RetR Γ fun Φ' es hp' => ∃ t, es = .ret (rv t) ∧ hp' = hps t ∧ F t Φ') .ret) :=
  At.leave hdf (rv t) hr hx ⟨t, rfl, hh, hF⟩
theorem At.leaveR_end (hdf : Γ.df = []) {fn : Func} {T : Type} {rv : T → SV} {hps : T → List Blk} {F : T → Phi → Prop} (t : T) (hr : resS Γ.P fn S = some (rv t)) (hx : (rv t).ok S.hp.length = true) (hh : S.hp = hps t) (hF : F t Φ) :
    At Γ Φ S (bodyPost Γ.P fn (RetR Γ fun Φ' es hp' => ∃ t, es = .ret (rv t) ∧ hp' = hps t ∧ F t Φ') .normal) :=
  At.leave_end hdf (rv t) hr hx ⟨t, rfl, hh, hF⟩
/-- The same, where blocks are let go behind the reading of the results. -/
theorem At.leaveX (hdf : Γ.df = []) {fn : Func} {T : Type} {rv : T → SV} {hps : T → List Blk} {F : T → Phi → Prop} (slots : List Nat) (n : Nat) (dead : List Nat) (S' : SS) (t : T) (hr : resS Γ.P fn S = some (rv t)) (hx0 : (rv t).ok S.hp.length = true) (he : S.forget slots n dead = S') (hb : S'.bd = true) (hn : Γ.n ≤ S'.hp.length)
    (hx : (rv t).ok S'.hp.length = true) (hh : S'.hp = hps t) (hF : F t Φ) :
    At Γ Φ S (bodyPost Γ.P fn (RetR Γ fun Φ' es hp' => ∃ t, es = .ret (rv t) ∧ hp' = hps t ∧ F t Φ') .ret) :=
  fun β _ _ h => ⟨h.df.trans hdf, den β (rv t), run_resS h hr hx0, leaves_of (es := .ret (rv t)) (h.forget slots n dead S' he hb hn) rfl hx ⟨t, rfl, hh, hF⟩⟩
theorem At.leaveX_end (hdf : Γ.df = []) {fn : Func} {T : Type} {rv : T → SV} {hps : T → List Blk} {F : T → Phi → Prop} (slots : List Nat) (n : Nat) (dead : List Nat) (S' : SS) (t : T) (hr : resS Γ.P fn S = some (rv t)) (hx0 : (rv t).ok S.hp.length = true) (he : S.forget slots n dead = S') (hb : S'.bd = true) (hn : Γ.n ≤ S'.hp.length)
    (hx : (rv t).ok S'.hp.length = true) (hh : S'.hp = hps t) (hF : F t Φ) :
    At Γ Φ S (bodyPost Γ.P fn (RetR Γ fun Φ' es hp' => ∃ t, es = .ret (rv t) ∧ hp' = hps t ∧ F t Φ') .normal) :=
  fun β _ _ h => ⟨h.df.trans hdf, den β (rv t), run_resS h hr hx0, leaves_of (es := .ret (rv t)) (h.forget slots n dead S' he hb hn) rfl hx ⟨t, rfl, hh, hF⟩⟩
theorem At.leaveP (hdf : Γ.df = []) {fn : Func} {ch : List PanicEntry} {hp : List Blk} (hh : S.hp = hp) :
    At Γ Φ S (bodyPost Γ.P fn (RetR Γ fun _ es hp' => es = .pan ch ∧ hp' = hp) (.panic ch)) :=
  At.leave_panic hdf ⟨rfl, hh⟩

theorem fits_ifc {β : Nat → Nat} {a : Act} {w : World} (h : St Γ Φ β S a w) {x : Operand} {t : TypeId} {y : Value} (hx : S.get x = .ifc t (.v y)) : a.eval x = .iface t y :=
  ((h.eval x).known (by rw [hx]; simp)).trans (by rw [hx]; rfl)
theorem At.panicI {x : Operand} (ho : o.op = .panic x) (hw : wantS ops S o = some true) {t : TypeId} {y : Value} (hx : S.get x = .ifc t (.v y)) (k : At Γ Φ S (Q (.panic [{ v := .iface t y, recovered := false }]))) : At Γ Φ S (wpList Γ.P ops Q (o :: rest)) := by
  intro β a w h
  unfold wpList
  rw [if_pos (wanted_of h hw)]
  left
  have hex : (execOp a.eval o).run Γ.P w = .halt (.panic (.iface t y)) w := by
    unfold execOp; rw [ho]
    simp [Instr.panic, fits_ifc h hx]
  unfold Oper.wp
  rw [hex]
  exact k β a w h
end
end Go.Sx
