/- SxH: a range over a function, whose rounds write one box of the caller's own. General: no program. -/
import Derived.Test.YtgkjblbmiooedaaSxG
import Derived.RangeFuncOwn
import Derived.RangeFuncLeaves
import Derived.RangeFuncRecord
import Derived.TacticsIn
namespace Go.Sx
open Go.RowKit

section
variable {Γ : Ctx} {Φ Φ0 : Phi} {S S' : SS} {F : Fence} {n : Nat} {Q : Exit → Act → World → Prop} {ops : Array Oper} {rest : List Oper} {o : Oper}

/- the rules for code, in a fence -/
theorem At.seqI {P : Program} {x y : Code} (k : At Γ Φ S (x.wpIn F n P (Exit.then (y.wpIn F n P Q) Q))) : At Γ Φ S ((Code.seq x y).wpIn F n P Q) := k.imp fun _ _ h => wpIn_seq h
theorem At.skipI {P : Program} (k : At Γ Φ S (Q .normal)) : At Γ Φ S (Code.skip.wpIn F n P Q) := k.imp fun _ _ h => wpIn_skip h
theorem At.retI {P : Program} (k : At Γ Φ S (Q .ret)) : At Γ Φ S (Code.ret.wpIn F n P Q) := k.imp fun _ _ h => wpIn_ret h
theorem At.blockI {P : Program} {id : Nat} {c : Code} (k : At Γ Φ S (c.wpIn F n P (Exit.inBlock id Q))) : At Γ Φ S ((Code.block id c).wpIn F n P Q) := k.imp fun _ _ h => wpIn_block h
theorem At.regionI {P : Program} {id : Nat} {ops : Array Oper} (k : At Γ Φ S (wpListIn F n P ops Q ops.toList)) : At Γ Φ S ((Code.region id ops false).wpIn F n P Q) := k.imp fun _ _ h => wpIn_region_list h
theorem At.nilI {P : Program} {ops : Array Oper} (k : At Γ Φ S (Q .normal)) : At Γ Φ S (wpListIn F n P ops Q []) := k
theorem At.condI_t {P : Program} {c : Operand} {x y : Code} (hc : S.get c = .v (.bool true)) (k : At Γ Φ S (x.wpIn F n P Q)) : At Γ Φ S ((Code.cond c x y).wpIn F n P Q) := fun β a w h => wpIn_cond_true (fits_v h hc) (k β a w h)
theorem At.condI_f {P : Program} {c : Operand} {x y : Code} (hc : S.get c = .v (.bool false)) (k : At Γ Φ S (y.wpIn F n P Q)) : At Γ Φ S ((Code.cond c x y).wpIn F n P Q) := fun β a w h => wpIn_cond_false (fits_v h hc) (k β a w h)
/-- A region of the plain world, by the fenced rules. -/
theorem At.region_wide {id : Nat} {ops : Array Oper} (n : Nat) (k : At Γ Φ S (wpListIn Fence.wide n Γ.P ops Q ops.toList)) : At Γ Φ S ((Code.region id ops false).wp Γ.P Q) := k.imp fun _ _ h => wpIn_wide.1 (wpIn_region_list h)

theorem at_exec (hF : ∀ f, F.fn f) {a : Act} {w : World} {K : Act → World → Prop} (hnd : ∀ c, o.op ≠ .defer c) {r : Next} {v : Value} {w' : World} (hr : (execOp a.eval o).run Γ.P w = .ok r w') (hv : r = .value v ∨ (r = .skip ∧ v = undef)) (hk : K (a.put o.dst v) w') : o.wpIn F n Γ.P a w K Q := by
  refine ⟨fun f _ => hF f, ?_⟩
  rw [Oper.semAt_eq _ _ _ hnd, hr]
  rcases hv with rfl | ⟨rfl, rfl⟩ <;> exact hk

theorem At.stepI (hF : ∀ f, F.fn f) {l : List Oper} (hs : stepS Γ.P ops S o = some S') (k : At Γ Φ S' (wpListIn F n Γ.P ops Q l)) : At Γ Φ S (wpListIn F n Γ.P ops Q (o :: l)) := by
  intro β a w h
  unfold stepS at hs
  split at hs
  · rename_i hw
    unfold wpListIn
    rw [if_pos (wanted_of h hw)]
    obtain ⟨v, w', β', r, hr, hv, hst, _⟩ := evS_sound h hs
    refine at_exec hF (fun c hc => ?_) hr hv (k β' _ _ hst)
    unfold evS ev at hs
    rw [hc] at hs
    cases hs
  · rename_i hw
    cases hs
    unfold wpListIn
    rw [if_neg (by rw [wanted_of h hw]; simp)]
    refine ⟨fun f _ => hF f, k β _ _ (h.put o.dst (.inr rfl) ?_)⟩
    have := h.bd
    unfold SS.bd at this ⊢
    rw [put_hp]
    rw [Bool.and_eq_true] at this ⊢
    refine ⟨?_, this.2⟩
    cases o.dst with
    | none => exact this.1
    | some d =>
      simp only [SS.put]
      rw [List.all_eq_true] at this ⊢
      intro x hx
      rcases List.mem_or_eq_of_mem_set hx with hx | rfl
      · exact this.1 x hx
      · rfl
  · cases hs
theorem At.runI (hF : ∀ f, F.fn f) : ∀ (l l' : List Oper) (S : SS), runS Γ.P ops l S = some S' → At Γ Φ S' (wpListIn F n Γ.P ops Q l') → At Γ Φ S (wpListIn F n Γ.P ops Q (l ++ l'))
  | [], l', S, h, k => by cases h; exact k
  | o :: l, l', S, h, k => by
    simp only [runS] at h
    split at h
    · rename_i S1 hs
      exact At.stepI hF hs (At.runI hF l l' S1 h k)
    · cases h
theorem At.runkI (hF : ∀ f, F.fn f) {l : List Oper} (m : Nat) (ks ds : List Nat) (S' : SS) (h : (runS Γ.P ops (l.take m) S).map (SS.kill ks ds) = some S') (k : At Γ Φ S' (wpListIn F n Γ.P ops Q (l.drop m))) : At Γ Φ S (wpListIn F n Γ.P ops Q l) := by
  obtain ⟨S1, h1, rfl⟩ := Option.map_eq_some_iff.1 h
  have := At.runI hF (l.take m) (l.drop m) S h1 (At.kill ks ds k)
  rwa [List.take_append_drop] at this
theorem At.valsI (hF : ∀ f, F.fn f) (hnd : ∀ c, o.op ≠ .defer c) (hw : wantS ops S o = some true) (x : SV) (hS : putB S o.dst x = some S') (hv : Val Γ Φ S o x) (k : At Γ Φ S' (wpListIn F n Γ.P ops Q rest)) : At Γ Φ S (wpListIn F n Γ.P ops Q (o :: rest)) := by
  obtain ⟨rfl, hb⟩ := putB_some hS
  intro β a w h
  unfold wpListIn
  rw [if_pos (wanted_of h hw)]
  obtain ⟨v, hr, hf⟩ := hv β a w h
  exact at_exec hF hnd hr (.inl rfl) (k β _ _ (h.put o.dst hf hb))
theorem At.strowI (hF : ∀ f, F.fn f) {t : TypeId} {p y : Operand} (ho : o.op = .store t p y) (hw : wantS ops S o = some true) {g off : Nat} (hp : S.get p = .v (.pointer (some ⟨g, off, none⟩))) (i : Nat) {n0 cap : Nat} {xs : List Value} {e : TypeId} {sz : Nat}
    (hi : S.hp[i]? = some (.o (.slice (some ⟨g, 0, none⟩) n0 cap) n0 xs e sz)) (vals : List Value) (hy : (S.get y).cells = some (vals.map .v)) (hone : ∀ u ∈ vals, u.oneCell' = true) (hsz : szT Γ.P t = some vals.length) (hfit : off + vals.length ≤ xs.length)
    (hS : putH S o.dst (.v undef) i (.o (.slice (some ⟨g, 0, none⟩) n0 cap) n0 (xs.take off ++ vals ++ xs.drop (off + vals.length)) e sz) = some S') (k : At Γ Φ S' (wpListIn F n Γ.P ops Q rest)) : At Γ Φ S (wpListIn F n Γ.P ops Q (o :: rest)) := by
  -- by the plain rule, whose operation only skips
  intro β a w h
  have hplain := At.strow (Q := fun _ _ _ => False) (rest := []) (Γ := Γ) (Φ := Φ) (S := S) (ops := #[]) (o := { o with guard := none }) (S' := S') ho rfl hp i hi vals hy hone hsz hfit hS
  have hst : ∃ w', (execOp a.eval o).run Γ.P w = .ok .skip w' ∧ St Γ Φ β S' (a.put o.dst undef) w' := by
    obtain ⟨rfl, hb⟩ := putH_some hS
    obtain ⟨cur, hg, hnc, hcm, hcs, htk, hln⟩ := own_cells h.own hi
    have hcells : (a.eval y).cells.toList = vals := by
      rw [cells_fits (h.eval y) hy, List.map_map]
      exact List.map_id _
    have hxl : xs.length ≤ cur.size := by rw [hln, hcs]; exact Nat.mul_le_mul_right _ hnc
    have hrun := run_storeCells_at Γ.P g off e vals 0 cur w hg (by omega) hone
    refine ⟨w.setRow g (cur.toList.take (off + 0) ++ vals ++ cur.toList.drop (off + 0 + vals.length)).toArray, ?_, ?_⟩
    · unfold execOp; rw [ho]
      simp only [Instr.storeAt, fits_v h hp, Instr.sureAddr, storeVar, Sem.run_bind, Sem.run_pure, Result.andThen_ok, run_sizeOf' hsz]
      rw [if_neg (by have := congrArg List.length hcells; simp at this; simp [this]), hcells, hrun]
      rfl
    · refine h.setBlk (b' := .o (.slice (some ⟨g, 0, none⟩) n0 cap) n0 (xs.take off ++ vals ++ xs.drop (off + vals.length)) e sz) hi rfl hg rfl (fun cs t' hb => by cases hb) ?_ o.dst (.inr rfl) hb
      intro v' n' xs' t' sz' hb
      cases hb
      refine ⟨by simp only [List.length_append, List.length_take, List.length_drop]; omega, .inr ⟨g, cap, _, rfl, Nat.zero_le _, setRow_same w g _ cur _ hg, hnc, hcm, ?_, ?_⟩⟩
      · simp only [List.size_toArray, List.length_append, List.length_take, List.length_drop, Array.length_toList]; omega
      · apply List.ext_getElem?
        intro j
        rw [Nat.add_zero]
        simp only [List.getElem?_take, List.getElem?_append, List.length_append, List.length_take, List.getElem?_drop]
        have hx : ∀ q, q < n0 * sz → xs[q]? = cur.toList[q]? := fun q hq => by rw [← htk, List.getElem?_take, if_pos hq]
        have hxn : ∀ q, n0 * sz ≤ q → xs[q]? = none := fun q hq => List.getElem?_eq_none (by omega)
        simp only [Array.length_toList]
        have hm1 : min off cur.size = off := by omega
        have hm2 : min off xs.length = off := by omega
        rw [hm1, hm2]
        by_cases hj : j < n0 * sz
        · by_cases h1 : j < off + vals.length
          · by_cases h2 : j < off
            · simp only [hj, h1, h2, if_true]; rw [hx j hj]
            · simp only [hj, h1, h2, if_true, if_false]
          · simp only [hj, h1, if_true, if_false]
            rw [hx _ (by omega)]
        · have h1 : ¬ j < off + vals.length := by omega
          simp only [hj, h1, if_false]
          rw [hxn _ (by omega)]
  obtain ⟨w', hr, hst'⟩ := hst
  unfold wpListIn
  rw [if_pos (wanted_of h hw)]
  exact at_exec hF (fun c hc => by rw [ho] at hc; cases hc) hr (.inr ⟨rfl, rfl⟩) (k β _ _ hst')

/-- The one box that the rounds may write. -/
def boxO (g T : Nat) (x : Value) : Blk := .o (.slice (some ⟨g, 0, none⟩) 1 1) 1 [x] T 1
def ownBox (g T : Nat) (x : Value) (w : World) : Prop := w.ownsRow 0 T 1 (.slice (some ⟨g, 0, none⟩) 1 1) 1 [x]

theorem own_box {β : Nat → Nat} {g T : Nat} {x : Value} {w : World} (h : ownBox g T x w) (hΦ : Φ g = none) : Own β [boxO g T x] Φ w := by
  refine ⟨fun i cs t hi => ?_, fun i v n xs t sz hi => ?_, fun i j bi bj k hi hj _ _ => ?_, fun i b k hi hk => ?_⟩
  · match i, hi with
    | 0, hi => cases hi
    | i + 1, hi => simp at hi
  · match i, hi with
    | 0, hi => cases hi; exact h
    | i + 1, hi => simp at hi
  · have h1 := lt_get hi
    have h2 := lt_get hj
    simp at h1 h2
    omega
  · match i, hi with
    | 0, hi => cases hi; cases hk; exact hΦ
    | i + 1, hi => simp at hi

theorem ownBox_keep {g T : Nat} {x : Value} {w w' : World} (h : ownBox g T x w) (hk : w'.heap[g]? = w.heap[g]?) : ownBox g T x w' :=
  ownsRow_keep h fun k hk' => by cases hk'; exact hk

/-- What a round leaves, from the world E on. -/
structure Rnd (g T : Nat) (x : Value) (Φ : Phi) (E w : World) : Prop where
  box : ownBox g T x w
  sto : Sto Φ w
  keep : Keep (fun _ k => k = g) E w

/-- The context of one that may write the box. -/
def boxΓ (P : Program) (E : World) (Φ : Phi) (β : Nat → Nat) (g : Nat) : Ctx := ⟨P, E, fun _ k => k = g, Φ, β, 1, []⟩

theorem box_start {P : Program} {E : World} {g T : Nat} {x : Value} {β : Nat → Nat} {fr : List SV} {a : Act} (hb : ownBox g T x E) (hs : Sto Φ E) (hΦ : Φ g = none) (hm : Mat β fr a.tmps.toList) (hd : a.defers = []) (hbd : ({ fr, hp := [boxO g T x] } : SS).bd = true) :
    St (boxΓ P E Φ β g) Φ β { fr, hp := [boxO g T x] } a E :=
  ⟨hm, hd, own_box hb hΦ, hs, fun i b k hi hk => by
    match i, hi with
    | 0, hi => cases hi; cases hk; exact .inr ⟨Nat.zero_lt_one, rfl⟩
    | i + 1, hi => simp at hi, ⟨rfl, rfl, rfl, Nat.le_refl _, fun _ _ _ => rfl⟩, PhiLe.refl _ _, hbd, fun _ _ => rfl, Nat.le_refl _⟩

theorem At.rnd {P : Program} {E : World} {β0 : Nat → Nat} {g T : Nat} {x : Value} {fr : List SV} {Φ' : Phi} : At (boxΓ P E Φ β0 g) Φ' { fr, hp := [boxO g T x] } (fun _ w => Rnd g T x Φ E w) :=
  fun _ _ _ h => ⟨h.own.o 0 _ _ _ _ _ rfl, fun b cs hb => h.sto b cs (h.phi.1 b cs hb), h.keep⟩
end
end Go.Sx
