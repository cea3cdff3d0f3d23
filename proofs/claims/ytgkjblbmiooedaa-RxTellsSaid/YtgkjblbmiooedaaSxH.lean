/- SxH: rules for code in a fence. General: no program. -/
import Derived.Test.YtgkjblbmiooedaaSxG
import Derived.RangeFuncOwn
import Derived.RangeFuncLeaves
import Derived.RangeFuncRecord
import Derived.TacticsIn
namespace Go.Sx
open Go.RowKit

section
variable {Γ : Ctx} {Φ Φ0 : Phi} {S S' : SS} {F : Fence} {n : Nat} {Q : Exit → Act → World → Prop} {ops : Array Oper} {rest : List Oper} {o : Oper}

/- the rules for code, in a fence -/
theorem At.seqI {P : Program} {x y : Code} (k : At Γ Φ S (x.wpIn F n P (Exit.then (y.wpIn F n P Q) Q))) : At Γ Φ S ((Code.seq x y).wpIn F n P Q) := k.imp fun _ _ h => wpIn_seq h
theorem At.skipI {P : Program} (k : At Γ Φ S (Q .normal)) : At Γ Φ S (Code.skip.wpIn F n P Q) := k.imp fun _ _ h => wpIn_skip h
theorem At.retI {P : Program} (k : At Γ Φ S (Q .ret)) : At Γ Φ S (Code.ret.wpIn F n P Q) := k.imp fun _ _ h => wpIn_ret h
theorem At.blockI {P : Program} {id : Nat} {c : Code} (k : At Γ Φ S (c.wpIn F n P (Exit.inBlock id Q))) : At Γ Φ S ((Code.block id c).wpIn F n P Q) := k.imp fun _ _ h => wpIn_block h
theorem At.regionI {P : Program} {id : Nat} {ops : Array Oper} (k : At Γ Φ S (wpListIn F n P ops Q ops.toList)) : At Γ Φ S ((Code.region id ops false).wpIn F n P Q) := k.imp fun _ _ h => wpIn_region_list h
theorem At.nilI {P : Program} {ops : Array Oper} (k : At Γ Φ S (Q .normal)) : At Γ Φ S (wpListIn F n P ops Q []) := k
theorem At.condI_t {P : Program} {c : Operand} {x y : Code} (hc : S.get c = .v (.bool true)) (k : At Γ Φ S (x.wpIn F n P Q)) : At Γ Φ S ((Code.cond c x y).wpIn F n P Q) := fun β a w h => wpIn_cond_true (fits_v h hc) (k β a w h)
theorem At.condI_f {P : Program} {c : Operand} {x y : Code} (hc : S.get c = .v (.bool false)) (k : At Γ Φ S (y.wpIn F n P Q)) : At Γ Φ S ((Code.cond c x y).wpIn F n P Q) := fun β a w h => wpIn_cond_false (fits_v h hc) (k β a w h)
theorem CallG.enterM {P : Program} {f : FuncId} {args : List SV} {hp : List Blk} {Φ : Phi} {post : Post} {fn : Func} {c : Code} (hf : P.funcs[f]? = some fn) (hb : fn.body = some c)
    (ks : List Nat) (S0 : SS) (hS : ({ fr := args ++ List.replicate (fn.ntmps - args.length) (.v undef), hp } : SS).kill ks [] = S0) (hbd : ({ fr := args ++ List.replicate (fn.ntmps - args.length) (.v undef), hp } : SS).bd = true)
    (k : ∀ (E : World) (G : Nat → Nat → Prop) (β0 : Nat → Nat), At ⟨P, E, G, Φ, β0, hp.length, [], none⟩ Φ S0 (c.wp P (bodyPostM Fence.wide 0 P fn (RetR ⟨P, E, G, Φ, β0, hp.length, [], none⟩ post)))) : CallG P f args hp Φ post := by
  intro β w hs ho
  refine (callsIn_wide (n := 0)).1 (callsIn_of_wp_marks (F := Fence.wide) hf hb trivial (wpIn_wide.2 ?_) rfl)
  have h1 := (mat_map (β := β) args).append (mat_v (β := β) (List.replicate (fn.ntmps - args.length) undef))
  have hk : At ⟨P, w, gOf β hp, Φ, β, hp.length, [], none⟩ Φ { fr := args ++ List.replicate (fn.ntmps - args.length) (.v undef), hp } (c.wp P (bodyPostM Fence.wide 0 P fn (RetR ⟨P, w, gOf β hp, Φ, β, hp.length, [], none⟩ post))) := At.kill ks [] (by rw [hS]; exact k w (gOf β hp) β)
  refine hk β _ w ⟨?_, rfl, ho, hs, fun i b k hi hk => .inr ⟨i, b, hi, hk⟩, ⟨rfl, rfl, rfl, Nat.le_refl _, fun _ _ _ => rfl⟩, ⟨fun _ _ h => h, fun _ _ _ => rfl⟩, hbd, fun _ _ => rfl, Nat.le_refl _⟩
  simpa using h1

theorem Val.bound {Γ : Ctx} {o : Oper} {f : FuncId} {x : Operand} (ho : o.op = .makeFunc (.func f) #[x] #[]) {v : Value} (hx : S.get x = .v v) : Val Γ Φ S o (.v (.func (.func f) #[v] #[])) := fun β a w h => by
  refine ⟨_, ?_, .inr rfl⟩
  unfold execOp; rw [ho]
  simp [fits_v h hx, den, Instr.makeFunc]
theorem lit_get (xs l : List Value) {off : Nat} (h : (xs.drop off).take l.length = l) : ∀ (j : Nat) (u : Value), l[j]? = some u → xs[off + j]? = some u := by
  intro j u hj
  rw [← h, List.getElem?_take] at hj
  split at hj
  · rwa [List.getElem?_drop] at hj
  · cases hj

theorem At.scope {Γ : Ctx} {P : Program} {c : Code} (k : At Γ Φ S (c.wp P (Exit.noGoto Q))) : At Γ Φ S ((Code.scope c).wp P Q) := k.imp fun _ _ h => wp_scope_straight h
end
end Go.Sx
