/- SyW: maps: the operations, the keys. General: no program. -/
import Derived.Test.YtgkjblbmiooedaaSyV
namespace Go.Sx
open Go.RowKit

def bd1 {α A : Type} (x : α) (F : α → Option A) : Option A := F x

section
variable {P : Program} {kt : TypeId} {κ : Type}

def k0 (ks : κ → SV) (x : κ) : Value := den (fun _ => 0) (ks x)

theorem KeyOk.int {kd : IntKind} (hu : P.underlying kt = some (.int kd)) : KeyOk P kt (fun x : Int => Value.int kd x) (fun x y => x == y) := by
  refine ⟨fun d hd x y b h => ?_, fun x y w => ?_, fun e x w => ?_, fun x y h => by simpa using h, fun x => ?_, ⟨_, hu⟩, fun x => by simp⟩
  · rw [hu] at hd; cases hd
    simp [Instr.sameNow] at h
    exact h.symm
  · show (Op.equalIn 10000 kt _ _).run P w = _
    rw [Op.equalIn, Sem.run_bind, run_underlying hu, Result.andThen_ok]
    simp
  · show (Instr.checkKey e (9999 + 1) kt _).run P w = _
    rw [Instr.checkKey, Sem.run_bind, run_underlying hu, Result.andThen_ok]
    rfl
  · show Instr.sameBits (9999 + 1) _ _ = true
    simp [Instr.sameBits]

theorem chk_int {e : TypeId} {kd : IntKind} (he : P.underlying e = some (.int kd)) (b : Bool) (n : Nat) (z : Int) (w : World) : (Instr.checkKey b (n + 1) e (.int kd z)).run P w = .ok () w := by
  rw [Instr.checkKey, Sem.run_bind, run_underlying he, Result.andThen_ok]
  rfl
theorem bits_ints (n : Nat) (kd : IntKind) : ∀ l : List Int, ((l.map (Value.int kd)).zip (l.map (Value.int kd))).all (fun x => Instr.sameBits (n + 1) x.1 x.2) = true
  | [] => rfl
  | z :: l => by
    simp only [List.map_cons, List.zip_cons_cons, List.all_cons, bits_ints n kd l, Bool.and_true]
    simp [Instr.sameBits]
/-- Arrays of numbers as keys. -/
theorem KeyOk.arr {n : Nat} {e : TypeId} {kd : IntKind} {ks : κ → List Int} {eq : κ → κ → Bool} (hu : P.underlying kt = some (.array n e)) (he : P.underlying e = some (.int kd)) (hs : szT P e = some 1) (hl : ∀ x, (ks x).length = n)
    (heq : ∀ x y, eqV P 10000 kt (.agg ((ks x).map fun z => .v (.int kd z))) (.agg ((ks y).map fun z => .v (.int kd z))) = some (eq x y)) (law : ∀ x y, eq x y = true → x = y) (refl : ∀ x, eq x x = true) :
    KeyOk P kt (fun x => Value.agg ((ks x).map (Value.int kd)).toArray) eq := by
  have hden : ∀ x, den (fun _ => 0) (.agg ((ks x).map fun z => .v (.int kd z))) = Value.agg ((ks x).map (Value.int kd)).toArray := by
    intro x
    simp only [den, denL_eq, List.map_map]
    rfl
  refine ⟨fun d hd x y b h => ?_, fun x y w => ?_, fun b x w => ?_, law, fun x => ?_, ⟨_, hu⟩, refl⟩
  · rw [hu] at hd; cases hd
    simp [Instr.sameNow] at h
  · have := eqV_sound (β := fun _ => 0) (w := w) _ _ _ _ _ (heq x y) _ _ (.inr rfl) (.inr rfl)
    rw [hden, hden] at this
    exact this
  · show (Instr.checkKey b (9999 + 1) kt _).run P w = _
    rw [Instr.checkKey, Sem.run_bind, run_underlying hu, Result.andThen_ok]
    have key : ∀ is : List Nat, (∀ i ∈ is, i < n) → (forIn is () fun i _ => do
        Instr.checkKey b 9999 e (← part e ((ks x).map (Value.int kd)).toArray (i * (← sizeOf e)))
        pure (ForInStep.yield ()) : Sem Unit).run P w = .ok () w := by
      intro is
      induction is with
      | nil => intro _; rfl
      | cons i is ih =>
        intro hi
        rw [List.forIn_cons]
        have hlt : i < (ks x).length := by rw [hl]; exact hi i List.mem_cons_self
        have hm : Mat (fun _ => 0) ((ks x).map fun z => .v (.int kd z)) ((ks x).map (Value.int kd)) := by
          have := mat_v (β := fun _ => 0) ((ks x).map (Value.int kd))
          rwa [List.map_map] at this
        have hld : ldB P e ((ks x).map fun z => SV.v (.int kd z)) (i * 1) = some (.v (.int kd (ks x)[i])) := by
          unfold ldB
          rw [he, hs]
          simp [aggD, hlt]
        obtain ⟨v, hv, hf⟩ := run_part hm hld w
        have hv' : v = .int kd (ks x)[i] := hf.known (by simp)
        subst hv'
        simp only [Sem.run_bind, run_sizeOf' hs, Result.andThen_ok, hv, chk_int he, Sem.run_pure]
        exact ih fun j hj => hi j (List.mem_cons_of_mem _ hj)
    simp only [Std.Legacy.Range.forIn_eq_forIn_range', Std.Legacy.Range.size, Nat.sub_zero, Nat.add_one_sub_one, Nat.div_one]
    have hk := key (List.range' 0 n) fun i hi => by
      rw [List.mem_range'] at hi
      obtain ⟨j, hj, rfl⟩ := hi
      omega
    rw [Sem.run_bind]
    erw [hk]
    rfl
  · show Instr.sameBits (9998 + 1 + 1) _ _ = true
    unfold Instr.sameBits
    simp only [beq_self_eq_true, Bool.true_and]
    exact bits_ints 9998 kd (ks x)
end
end Go.Sx
