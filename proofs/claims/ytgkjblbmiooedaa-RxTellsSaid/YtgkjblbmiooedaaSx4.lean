/- Sx4: the other plain operations. General: no program. -/
import Derived.Test.YtgkjblbmiooedaaSx3
namespace Go.Sx
open Go.RowKit

section
variable {Γ : Ctx} {Φ : Phi} {β : Nat → Nat} {S S' : SS} {a : Act} {w : World} {o : Oper}

theorem offT_spec {P : Program} {t : TypeId} {f k : Nat} {ty : TypeId} (h : offT P t f = some (k, ty)) :
    ∃ fs fl n, P.underlying t = some (.struct fs) ∧ fs[f]? = some fl ∧ szT P fl.type = some (n + 1) ∧ fl.offset = k ∧ fl.type = ty := by
  unfold offT at h
  split at h
  · rename_i fs hu
    cases hf : fs[f]? with
    | none => simp [hf] at h
    | some fl =>
      simp only [hf, Option.bind_some] at h
      split at h
      · rename_i n hn
        simp only [Option.some.injEq, Prod.mk.injEq] at h
        exact ⟨fs, fl, n, hu, hf, hn, h.1, h.2⟩
      · cases h
  · cases h

theorem fits_p {i off : Nat} {x : Operand} (h : St Γ Φ β S a w) (hx : S.get x = .p i off) : a.eval x = .pointer (some ⟨β i, off, none⟩) :=
  ((h.eval x).known (by rw [hx]; simp)).trans (by rw [hx]; rfl)
theorem fits_v {z : Value} {x : Operand} (h : St Γ Φ β S a w) (hx : S.get x = .v z) : a.eval x = z :=
  ((h.eval x).known (by rw [hx]; simp)).trans (by rw [hx]; rfl)

theorem run_fieldAt {P : Program} {t : TypeId} {f k : Nat} {ty : TypeId} (h : offT P t f = some (k, ty)) (g off : Nat) (w : World) :
    (Instr.fieldAt t (.pointer (some ⟨g, off, none⟩)) f).run P w = .ok (.pointer (some ⟨g, off + k, none⟩)) w := by
  obtain ⟨fs, fl, n, hu, hf, hn, rfl, rfl⟩ := offT_spec h
  simp [Instr.fieldAt, run_underlying hu, hf, Instr.sureAddr, fieldPlace, run_sizeOf' hn, add_none]

theorem snd_fieldAddr (h : St Γ Φ β S a w) {t : TypeId} {x : Operand} {f : Nat} (ho : o.op = .fieldAddr t x f) (he : evS Γ.P S o = some S') : Comes1 Γ Φ β S S' o a w := by
  cases hk : offT Γ.P t f with
  | none => exfalso; unfold evS ev at he; rw [ho] at he; simp [hk] at he
  | some q =>
    obtain ⟨k, ty⟩ := q
    have key : ∀ (y : SV) (g off : Nat), a.eval x = .pointer (some ⟨g, off, none⟩) → ev Γ.P S o = some (y, S.hp) → Fits β y (.pointer (some ⟨g, off + k, none⟩)) → Comes1 Γ Φ β S S' o a w := by
      intro y g off hx hev hf
      refine of_val h he hev ?_ hf
      unfold execOp; rw [ho]
      simp [hx, run_fieldAt hk]
    cases hx : S.get x with
    | p i off => exact key (.p i (off + k)) (β i) off (fits_p h hx) (by unfold ev; rw [ho]; simp only [hx, hk]) (.inr rfl)
    | v z =>
      cases z with
      | pointer q =>
        cases q with
        | none => exfalso; unfold evS ev at he; rw [ho] at he; simp [hx, hk] at he
        | some q =>
          obtain ⟨g, off, sp⟩ := q
          cases sp with
          | none => exact key (.v (.pointer (some ⟨g, off + k, none⟩))) g off (fits_v h hx) (by unfold ev; rw [ho]; simp only [hx, hk]) (.inr rfl)
          | some sp => exfalso; unfold evS ev at he; rw [ho] at he; simp [hx, hk] at he
      | _ => exfalso; unfold evS ev at he; rw [ho] at he; simp [hx, hk] at he
    | _ => exfalso; unfold evS ev at he; rw [ho] at he; simp [hx, hk] at he

/-- A part of a value laid open. -/
theorem run_part {P : Program} {t : TypeId} {cs : List SV} {vs : List Value} {off : Nat} {x : SV} (hm : Mat β cs vs) (hl : ldB P t cs off = some x) (w : World) :
    ∃ v, (part t vs.toArray off).run P w = .ok v w ∧ Fits β x v := by
  unfold ldB at hl
  split at hl
  · rename_i d n hd hn
    unfold part
    rw [Sem.run_bind, run_isAgg' hd, Result.andThen_ok]
    split at hl
    · rename_i hagg
      rw [if_pos hagg]
      simp only at hl
      split at hl
      · rename_i hlen
        refine ⟨.agg (vs.toArray.extract off (off + n)), by simp [run_sizeOf' hn], ?_⟩
        cases hl
        split
        · exact .inl rfl
        · rename_i hu
          right
          have h1 : vs.toArray.extract off (off + n) = ((vs.drop off).take n).toArray := by
            apply Array.ext'
            simp [List.extract_eq_take_drop]
          rw [h1, fits_any ((hm.drop off).take n) (by simpa using hu)]
          simp [den, denL_eq]
      · cases hl
    · rename_i hagg
      rw [if_neg hagg]
      obtain ⟨v, hv, hf⟩ := hm.get hl
      exact ⟨v, by simp [hv], hf⟩
  · cases hl

theorem snd_field (h : St Γ Φ β S a w) {t : TypeId} {x : Operand} {f : Nat} (ho : o.op = .field t x f) (he : evS Γ.P S o = some S') : Comes1 Γ Φ β S S' o a w := by
  cases hk : offT Γ.P t f with
  | none => exfalso; unfold evS ev at he; rw [ho] at he; cases hx : (S.get x).cells <;> simp [hx, hk] at he
  | some q =>
    obtain ⟨k, ty⟩ := q
    obtain ⟨fs, fl, n, hu, hf, hn, rfl, rfl⟩ := offT_spec hk
    have key : ∀ (cs : List SV) (vs : List Value) (y : SV), a.eval x = .agg vs.toArray → Mat β cs vs → ldB Γ.P fl.type cs fl.offset = some y → ev Γ.P S o = some (y, S.hp) → Comes1 Γ Φ β S S' o a w := by
      intro cs vs y hx hm hl hev
      obtain ⟨v, hv, hfit⟩ := run_part hm hl w
      refine of_val h he hev ?_ hfit
      unfold execOp; rw [ho]
      simp [Instr.field, run_underlying hu, hf, hx, asAgg, hv]
    cases hx : S.get x with
    | agg l =>
      cases hl : ldB Γ.P fl.type l fl.offset with
      | none => exfalso; unfold evS ev at he; rw [ho] at he; simp [hx, hk, hl, SV.cells] at he
      | some y =>
        refine key l (denL β l) y ?_ (by rw [denL_eq]; exact mat_map l) hl (by unfold ev; rw [ho]; simp only [hx, hk, SV.cells, hl, Option.map_some])
        exact ((h.eval x).known (by rw [hx]; simp)).trans (by rw [hx]; rfl)
    | v z =>
      cases z with
      | agg cs =>
        cases hl : ldB Γ.P fl.type (cs.toList.map .v) fl.offset with
        | none => exfalso; unfold evS ev at he; rw [ho] at he; simp [hx, hk, hl, SV.cells] at he
        | some y =>
          refine key (cs.toList.map .v) cs.toList y ?_ (mat_v _) hl (by unfold ev; rw [ho]; simp only [hx, hk, SV.cells, hl, Option.map_some])
          rw [fits_v h hx]
      | _ => exfalso; unfold evS ev at he; rw [ho] at he; simp [hx, hk, SV.cells] at he
    | _ => exfalso; unfold evS ev at he; rw [ho] at he; simp [hx, hk, SV.cells] at he

theorem snd_index (h : St Γ Φ β S a w) {t : TypeId} {x ix : Operand} (ho : o.op = .index t x ix) (he : evS Γ.P S o = some S') : Comes1 Γ Φ β S S' o a w := by
  cases hu : Γ.P.underlying t with
  | none => exfalso; unfold evS ev at he; rw [ho] at he; simp [hu] at he
  | some d =>
  cases d with
  | array len e =>
    cases hi : S.get ix with
    | v z =>
      cases z with
      | int k m =>
        cases m with
        | ofNat i =>
          cases hx : S.get x with
          | agg cs =>
            cases hn : szT Γ.P e with
            | none => exfalso; unfold evS ev at he; rw [ho] at he; simp [hu, hi, hx, hn] at he
            | some n =>
              by_cases hlt : i < len
              · cases hl : ldB Γ.P e cs (i * n) with
                | none => exfalso; unfold evS ev at he; rw [ho] at he; simp only [hu, hi, hx, hn, if_pos hlt, hl] at he; cases he
                | some y =>
                  have hxe : a.eval x = .agg (denL β cs).toArray := ((h.eval x).known (by rw [hx]; simp)).trans (by rw [hx]; rfl)
                  obtain ⟨v, hv, hfit⟩ := run_part (t := e) (vs := denL β cs) (by rw [denL_eq]; exact mat_map cs) hl w
                  refine of_val h he (by unfold ev; rw [ho]; simp only [hu, hi, hx, hn, if_pos hlt, hl, Option.map_some]) ?_ hfit
                  unfold execOp; rw [ho]
                  simp only [Instr.index, fits_v h hi, asIntOf, Sem.run_bind, Sem.run_pure, Result.andThen_ok, run_underlying hu, hxe]
                  rw [if_pos ⟨Int.natCast_nonneg i, by exact Int.ofNat_lt.2 hlt⟩]
                  simp [run_sizeOf' hn, hv]
              · exfalso; unfold evS ev at he; rw [ho] at he; simp only [hu, hi, hx, hn, if_neg hlt] at he; cases he
          | _ => exfalso; unfold evS ev at he; rw [ho] at he; simp [hu, hi, hx] at he
        | negSucc m => exfalso; unfold evS ev at he; rw [ho] at he; simp [hu, hi] at he
      | _ => exfalso; unfold evS ev at he; rw [ho] at he; simp [hu, hi] at he
    | _ => exfalso; unfold evS ev at he; rw [ho] at he; simp [hu, hi] at he
  | _ => exfalso; unfold evS ev at he; rw [ho] at he; simp [hu] at he

theorem run_bits {P : Program} {op : BinOp} {k : IntKind} {x y z : Int} (h : bitB op k x y = some z) (w : World) : (Op.intBits op k x y).run P w = .ok (.int k z) w := by
  unfold bitB at h
  simp only at h
  split at h <;> first | (cases h; rfl) | cases h

theorem run_equal_of {P : Program} {t : TypeId} {x y : Value} {b : Bool} (h : (Op.equalIn 10000 t x y).run P w = .ok b w) :
    (Op.equal t x y).run P w = .ok b w := h

theorem eq_held_nil {P : Program} (d : Nat) {t u : TypeId} {x : Value} {ms : Array (String × TypeId)} (h : P.underlying t = some (.interface ms)) (w : World) : (Op.equalIn (d + 1) t (.iface u x) .nilIface).run P w = .ok false w := by
  rw [Op.equalIn, Sem.run_bind, run_underlying h, Result.andThen_ok]; rfl
theorem eq_nil_nil {P : Program} (d : Nat) {t e : TypeId} {n c n' c' : Nat} (h : P.underlying t = some (.slice e)) (w : World) : (Op.equalIn (d + 1) t (.slice none n c) (.slice none n' c')).run P w = .ok true w := by
  rw [Op.equalIn, Sem.run_bind, run_underlying h, Result.andThen_ok]; rfl
theorem eq_some_nil {P : Program} (d : Nat) {t e : TypeId} {q : Addr} {n c n' c' : Nat} (h : P.underlying t = some (.slice e)) (w : World) : (Op.equalIn (d + 1) t (.slice (some q) n c) (.slice none n' c')).run P w = .ok false w := by
  rw [Op.equalIn, Sem.run_bind, run_underlying h, Result.andThen_ok]; rfl

theorem binV_eql {P : Program} {t : TypeId} {x y : Value} {b : Bool} (h : (Op.equalIn 10000 t x y).run P w = .ok b w)
    (hd : (∃ p q, x = .bool p ∧ y = .bool q) ∨ (∃ p q, x = .iface p q ∧ y = .nilIface) ∨ (∃ p q r s t' u, x = .slice p q r ∧ y = .slice s t' u)) :
    (binOp .eql t x y).run P w = .ok (.bool b) w ∧ (binOp .neq t x y).run P w = .ok (.bool (!b)) w := by
  rcases hd with ⟨p, q, rfl, rfl⟩ | ⟨p, q, rfl, rfl⟩ | ⟨p, q, r, s, t', u, rfl, rfl⟩ <;>
    (constructor <;> (unfold binOp; simp only [Sem.run_bind, run_equal_of h, Result.andThen_ok, Sem.run_pure]))

theorem run_eqGuard_plain {P : Program} {op : BinOp} {t : TypeId} {x y : Operand} {u v : Value} (h : (∀ cs, u ≠ .agg cs) ∨ (∀ cs, v ≠ .agg cs)) (h2 : u ≠ .nilIface ∨ v ≠ .nilIface) (w : World) :
    (eqGuard op t x y u v).run P w = .ok () w := by
  cases op <;> first
    | rfl
    | (unfold eqGuard
       dsimp only
       rw [if_neg (by simp)]
       split
       · rcases h2 with h2 | h2 <;> exact absurd rfl h2
       · rcases h with h | h <;> exact absurd rfl (h _)
       · rfl)

theorem run_int {P : Program} {op : BinOp} {t : TypeId} {k : IntKind} {a b : Int} {z : Value} (hl : op ≠ .shl) (hr : op ≠ .shr) (h : intV op k a b = some z) (w : World) : (binOp op t (.int k a) (.int k b)).run P w = .ok z w := by
  cases op
  case shl => exact absurd rfl hl
  case shr => exact absurd rfl hr
  case and =>
    have h' : (bitB .and k a b).map (Value.int k) = some z := h
    obtain ⟨q, hq, rfl⟩ := Option.map_eq_some_iff.1 h'
    have h2 := run_bits (P := P) hq w
    unfold binOp
    simp only [ne_eq, not_true_eq_false, if_false]
    exact h2
  case or =>
    have h' : (bitB .or k a b).map (Value.int k) = some z := h
    obtain ⟨q, hq, rfl⟩ := Option.map_eq_some_iff.1 h'
    have h2 := run_bits (P := P) hq w
    unfold binOp
    simp only [ne_eq, not_true_eq_false, if_false]
    exact h2
  case xor =>
    have h' : (bitB .xor k a b).map (Value.int k) = some z := h
    obtain ⟨q, hq, rfl⟩ := Option.map_eq_some_iff.1 h'
    have h2 := run_bits (P := P) hq w
    unfold binOp
    simp only [ne_eq, not_true_eq_false, if_false]
    exact h2
  case andNot =>
    have h' : (bitB .andNot k a b).map (Value.int k) = some z := h
    obtain ⟨q, hq, rfl⟩ := Option.map_eq_some_iff.1 h'
    have h2 := run_bits (P := P) hq w
    unfold binOp
    simp only [ne_eq, not_true_eq_false, if_false]
    exact h2
  case quo => cases h
  case rem => cases h
  all_goals
    simp only [intV, Option.some.injEq] at h
    subst h
    unfold binOp
    simp only [ne_eq, not_true_eq_false, if_false]
    rfl

theorem run_binV {P : Program} {op : BinOp} {t : TypeId} {u v z : Value} (h : binV P op t u v = some z) (x y : Operand) (w : World) :
    (do eqGuard op t x y u v; binOp op t u v : Sem Value).run P w = .ok z w := by
  unfold binV at h
  split at h
  · rename_i k a k' b
    rw [Sem.run_bind, run_eqGuard_plain (.inl fun _ h => by cases h) (.inl fun h => by cases h), Result.andThen_ok]
    split at h
    · split at h
      · rename_i n
        cases h
        unfold binOp
        simp only [Op.shift]
        rw [if_neg (by simp)]
        simp
      · cases h
    · split at h
      · rename_i n
        cases h
        unfold binOp
        simp only [Op.shift]
        rw [if_neg (by simp)]
        simp
      · cases h
    · rename_i op hshl hshr
      split at h
      · rename_i hk
        subst hk
        exact run_int hshl hshr h w
      · cases h
  · rename_i a b
    rw [Sem.run_bind, run_eqGuard_plain (.inl fun _ h => by cases h) (.inl fun h => by cases h), Result.andThen_ok]
    split at h
    · rename_i hu
      cases h
      exact (binV_eql (run_equalIn_bool w 9999 t a b hu) (.inl ⟨_, _, rfl, rfl⟩)).1
    · rename_i hu
      cases h
      exact (binV_eql (run_equalIn_bool w 9999 t a b hu) (.inl ⟨_, _, rfl, rfl⟩)).2
    · cases h
  · rename_i a b
    rw [Sem.run_bind, run_eqGuard_plain (.inl fun _ h => by cases h) (.inl fun h => by cases h), Result.andThen_ok]
    unfold binOp
    split at h <;> first | (cases h; rfl) | cases h
  · rename_i p q
    rw [Sem.run_bind, run_eqGuard_plain (.inl fun _ h => by cases h) (.inl fun h => by cases h), Result.andThen_ok]
    split at h
    · rename_i ms hu
      cases h
      exact (binV_eql (eq_held_nil 9999 hu w) (.inr (.inl ⟨_, _, rfl, rfl⟩))).1
    · rename_i ms hu
      cases h
      exact (binV_eql (eq_held_nil 9999 hu w) (.inr (.inl ⟨_, _, rfl, rfl⟩))).2
    · cases h
  · rw [Sem.run_bind, run_eqGuard_plain (.inl fun _ h => by cases h) (.inl fun h => by cases h), Result.andThen_ok]
    split at h
    · rename_i ms hu
      cases h
      exact (binV_eql (eq_nil_nil 9999 hu w) (.inr (.inr ⟨_, _, _, _, _, _, rfl, rfl⟩))).1
    · rename_i ms hu
      cases h
      exact (binV_eql (eq_nil_nil 9999 hu w) (.inr (.inr ⟨_, _, _, _, _, _, rfl, rfl⟩))).2
    · cases h
  · rw [Sem.run_bind, run_eqGuard_plain (.inl fun _ h => by cases h) (.inl fun h => by cases h), Result.andThen_ok]
    split at h
    · rename_i ms hu
      cases h
      exact (binV_eql (eq_some_nil 9999 hu w) (.inr (.inr ⟨_, _, _, _, _, _, rfl, rfl⟩))).1
    · rename_i ms hu
      cases h
      exact (binV_eql (eq_some_nil 9999 hu w) (.inr (.inr ⟨_, _, _, _, _, _, rfl, rfl⟩))).2
    · cases h
  · cases h

theorem run_binS {P : Program} {op : BinOp} {t : TypeId} {x y z : SV} (h : binS P op t x y = some z) (p q : Operand) (w : World) :
    ∃ r, (do eqGuard op t p q (den β x) (den β y); binOp op t (den β x) (den β y) : Sem Value).run P w = .ok r w ∧ Fits β z r := by
  unfold binS at h
  split at h
  · simp only [Option.map_eq_some_iff] at h
    obtain ⟨r, hr, rfl⟩ := h
    exact ⟨r, run_binV hr p q w, .inr rfl⟩
  · split at h
    · rename_i hu; cases h
      exact ⟨_, run_binV (z := .bool false) (by simp [den, binV, hu]) p q w, .inr rfl⟩
    · rename_i hu; cases h
      exact ⟨_, run_binV (z := .bool true) (by simp [den, binV, hu]) p q w, .inr rfl⟩
    · cases h
  · split at h
    · rename_i hu; cases h
      exact ⟨_, run_binV (z := .bool false) (by simp [den, binV, hu]) p q w, .inr rfl⟩
    · rename_i hu; cases h
      exact ⟨_, run_binV (z := .bool true) (by simp [den, binV, hu]) p q w, .inr rfl⟩
    · cases h
  · cases h

theorem binS_known {P : Program} {op : BinOp} {t : TypeId} {x y z : SV} (h : binS P op t x y = some z) : x ≠ .u ∧ y ≠ .u := by
  constructor <;> rintro rfl <;> unfold binS at h
  · cases h
  · cases x <;> cases h

theorem snd_binOp (h : St Γ Φ β S a w) {op : BinOp} {t u : TypeId} {x y : Operand} (ho : o.op = .binOp op t x y u) (he : evS Γ.P S o = some S') : Comes1 Γ Φ β S S' o a w := by
  cases hz : binS Γ.P op t (S.get x) (S.get y) with
  | none => exfalso; unfold evS ev at he; rw [ho] at he; simp [hz] at he
  | some z =>
    obtain ⟨hx, hy⟩ := binS_known hz
    obtain ⟨r, hr, hf⟩ := run_binS (β := β) hz x y w
    refine of_val h he (by unfold ev; rw [ho]; simp only [hz, Option.map_some]) ?_ hf
    rw [← (h.eval x).known hx, ← (h.eval y).known hy] at hr
    unfold execOp; rw [ho]
    simp only [Sem.run_bind] at hr ⊢
    rw [hr]; rfl

theorem snd_unOp (h : St Γ Φ β S a w) {op : UnOp} {t : TypeId} {x : Operand} (ho : o.op = .unOp op t x) (he : evS Γ.P S o = some S') : Comes1 Γ Φ β S S' o a w := by
  cases hz : unS op (S.get x) with
  | none => exfalso; unfold evS ev at he; rw [ho] at he; simp [hz] at he
  | some z =>
    have hev : ev Γ.P S o = some (z, S.hp) := by unfold ev; rw [ho]; simp only [hz, Option.map_some]
    unfold unS at hz
    split at hz
    · rename_i b hx
      split at hz
      · cases hz
        refine of_val (v := .bool (!b)) h he hev ?_ (.inr rfl)
        unfold execOp; rw [ho]
        simp [fits_v h hx, Op.unary]
      · cases hz
    · rename_i k n hx
      split at hz
      · cases hz
        refine of_val (v := .int k (k.wrap (0 - n))) h he hev ?_ (.inr rfl)
        unfold execOp; rw [ho]
        simp [fits_v h hx, Op.unary, Op.intArith]
      · simp only [Option.map_eq_some_iff] at hz
        obtain ⟨q, hq, rfl⟩ := hz
        refine of_val (v := .int k q) h he hev ?_ (.inr rfl)
        unfold execOp; rw [ho]
        have := run_bits (P := Γ.P) hq w
        simp only [fits_v h hx, Op.unary, Sem.run_bind]
        rw [this]; rfl
      · cases hz
    · cases hz

theorem snd_convert (h : St Γ Φ β S a w) {s d : TypeId} {x : Operand} (ho : o.op = .convert s d x) (he : evS Γ.P S o = some S') : Comes1 Γ Φ β S S' o a w := by
  cases hs : Γ.P.underlying s with
  | none => exfalso; unfold evS ev at he; rw [ho] at he; simp [hs] at he
  | some ds =>
  cases hd : Γ.P.underlying d with
  | none => exfalso; unfold evS ev at he; rw [ho] at he; simp [hs, hd] at he
  | some dd =>
  cases dd with
  | int k =>
    cases hx : S.get x with
    | v z =>
      cases z with
      | int k' n =>
        refine of_val (x := .v (.int k (k.wrap n))) (v := .int k (k.wrap n)) h he (by unfold ev; rw [ho]; simp only [hs, hd, hx]) ?_ (.inr rfl)
        unfold execOp; rw [ho]
        simp only [convert, Sem.run_bind, run_underlying hs, run_underlying hd, Result.andThen_ok, fits_v h hx]
        cases ds <;> rfl
      | _ => exfalso; unfold evS ev at he; rw [ho] at he; simp [hs, hd, hx] at he
    | _ => exfalso; unfold evS ev at he; rw [ho] at he; simp [hs, hd, hx] at he
  | _ => exfalso; unfold evS ev at he; rw [ho] at he; simp [hs, hd] at he

theorem snd_extract (h : St Γ Φ β S a w) {x : Operand} {i : Nat} (ho : o.op = .extract x i) (he : evS Γ.P S o = some S') : Comes1 Γ Φ β S S' o a w := by
  cases hx : S.get x with
  | tup l =>
    cases hi : l[i]? with
    | none => exfalso; unfold evS ev at he; rw [ho] at he; simp [hx, hi] at he
    | some y =>
      have hxe : a.eval x = .tuple (denL β l).toArray := ((h.eval x).known (by rw [hx]; simp)).trans (by rw [hx]; rfl)
      refine of_val (x := y) (v := den β y) h he (by unfold ev; rw [ho]; simp only [hx, hi, Option.map_some]) ?_ (.inr rfl)
      unfold execOp; rw [ho]
      simp [Instr.extract, hxe, denL_eq, hi]
  | v z =>
    cases z with
    | tuple vs =>
      cases hi : vs[i]? with
      | none => exfalso; unfold evS ev at he; rw [ho] at he; simp [hx, hi] at he
      | some y =>
        refine of_val (x := .v y) (v := y) h he (by unfold ev; rw [ho]; simp only [hx, hi, Option.map_some]) ?_ (.inr rfl)
        unfold execOp; rw [ho]
        simp [Instr.extract, fits_v h hx, hi]
    | _ => exfalso; unfold evS ev at he; rw [ho] at he; simp [hx] at he
  | _ => exfalso; unfold evS ev at he; rw [ho] at he; simp [hx] at he

theorem snd_nilCheck (h : St Γ Φ β S a w) {x : Operand} (ho : o.op = .nilCheck x) (he : evS Γ.P S o = some S') : Comes1 Γ Φ β S S' o a w := by
  have key : ∀ y, ev Γ.P S o = some (y, S.hp) → (execOp a.eval o).run Γ.P w = .ok (.value (a.eval x)) w → Fits β y (a.eval x) → Comes1 Γ Φ β S S' o a w := fun y hev hr hf => of_val h he hev hr hf
  cases hx : S.get x with
  | p i off =>
    refine key (.p i off) (by unfold ev; rw [ho]; simp only [hx]) ?_ (by rw [← hx]; exact h.eval x)
    unfold execOp; rw [ho]; simp [fits_p h hx]
  | v z =>
    cases z with
    | pointer q =>
      cases q with
      | some q =>
        refine key (.v (.pointer (some q))) (by unfold ev; rw [ho]; simp only [hx]) ?_ (by rw [← hx]; exact h.eval x)
        unfold execOp; rw [ho]; simp [fits_v h hx]
      | none => exfalso; unfold evS ev at he; rw [ho] at he; simp [hx] at he
    | func f c d =>
      cases f with
      | func f =>
        refine key (.v (.func (.func f) c d)) (by unfold ev; rw [ho]; simp only [hx]) ?_ (by rw [← hx]; exact h.eval x)
        unfold execOp; rw [ho]; simp [fits_v h hx]
      | _ => exfalso; unfold evS ev at he; rw [ho] at he; simp [hx] at he
    | _ => exfalso; unfold evS ev at he; rw [ho] at he; simp [hx] at he
  | fn f l =>
    cases f with
    | func f =>
      refine key (.fn (.func f) l) (by unfold ev; rw [ho]; simp only [hx]) ?_ (by rw [← hx]; exact h.eval x)
      have hxe : a.eval x = .func (.func f) #[] (denL β l).toArray := ((h.eval x).known (by rw [hx]; simp)).trans (by rw [hx]; rfl)
      unfold execOp; rw [ho]; simp [hxe]
    | _ => exfalso; unfold evS ev at he; rw [ho] at he; simp [hx] at he
  | _ => exfalso; unfold evS ev at he; rw [ho] at he; simp [hx] at he

theorem snd_makeFunc (h : St Γ Φ β S a w) {fn : Fn} {first caps : Array Operand} (ho : o.op = .makeFunc fn first caps) (he : evS Γ.P S o = some S') : Comes1 Γ Φ β S S' o a w := by
  by_cases hf : (first.isEmpty && !(caps.toList.map S.get).any SV.isU) = true
  · have hev : ev Γ.P S o = some (.fn fn (caps.toList.map S.get), S.hp) := by unfold ev; rw [ho]; simp only [hf, if_true]
    rw [Bool.and_eq_true] at hf
    have hfirst : first = #[] := by simpa using hf.1
    refine of_val (x := .fn fn (caps.toList.map S.get)) (v := .func fn #[] (caps.map a.eval)) h he hev ?_ ?_
    · unfold execOp; rw [ho]; simp [Instr.makeFunc, hfirst]
    · right
      simp only [den, denL_eq]
      congr 1
      apply Array.ext'
      simp only [Array.toList_map, List.map_map]
      refine List.map_congr_left fun y hy => ?_
      refine (h.eval y).known fun hu => ?_
      have h2 := hf.2
      rw [Bool.not_eq_true', List.any_eq_false] at h2
      exact h2 _ (List.mem_map.2 ⟨y, hy, rfl⟩) (by rw [hu]; rfl)
  · exfalso; unfold evS ev at he; rw [ho] at he; simp only [hf] at he; cases he
end
end Go.Sx
