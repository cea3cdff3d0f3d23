/- SyJ: rows of the call's own that are made and filled. General: no program. -/
import Derived.Test.YtgkjblbmiooedaaSyI
namespace Go.Sx
open Go.RowKit

def cpf {α A : Type} (xs ys : List α) (F : List α → Option A) : Option A := if xs.length = ys.length then F ys else none
def sl3 {α A : Type} (xs : List α) (hi : Int) (F : List α → Option A) : Option A := if hi = xs.length then F xs else none

theorem made_go (z : Array Value) (sz : Nat) (hz : z.size = sz) : ∀ n, (madeCells z (n * sz)).toList = (List.replicate n z.toList).flatten := by
  intro n
  unfold madeCells
  rw [Array.toList_map, Array.toList_range]
  induction n with
  | zero => simp
  | succ n ih =>
    rw [Nat.succ_mul, Nat.add_comm (n * sz) sz, List.range_add, List.map_append, List.map_map, List.replicate_succ, List.flatten_cons, ← ih]
    congr 1
    · apply List.ext_getElem
      · simp [hz]
      · intro i h1 h2
        simp only [List.getElem_map, List.getElem_range, List.length_map, List.length_range] at h1 ⊢
        rw [Nat.mod_eq_of_lt (by omega)]
        simp [getElem!_pos, hz, h1]
    · apply List.map_congr_left
      intro i _
      simp only [Function.comp, hz, Nat.add_mod_left]
theorem Rr.rep {Φ : Phi} {sz : Nat} {x : D} {us : List Value} (h : Rc Φ x us) (hl : us.length = sz) : ∀ n, Rr Φ sz (List.replicate n x) (List.replicate n us).flatten
  | 0 => by simp [Rr]
  | n + 1 => by
    rw [List.replicate_succ, List.replicate_succ, List.flatten_cons]
    simp only [Rr]
    exact ⟨us, _, rfl, hl, h, Rr.rep h hl n⟩

section
variable {A R : Type} {Γ : Ctx} {Q : R → QT} {Φ : Phi} {m : MS} {o : Option A} {K : A → Option R} {L : List En}
variable {α : Type} {enc : α → D} {xs ys : List α} {F : List α → Option A}

def mkOp (P : Program) (m : MS) : Option (TypeId × Nat × Int × List Value) :=
  match opM m with
  | some o => match o.op with
    | .makeSlice t (.tmp x) (.tmp y) => match Nat.beq x y, P.underlying t, m.s.get (.tmp x) with
      | true, some (.slice e), .v (.int _ n) => match P.info? e with
        | some inf => match inf.zero with
          | some z => match Nat.beq z.cells.size inf.size, Nat.ble inf.bytes 10000 with
            | true, true => some (e, inf.size, n, z.cells.toList)
            | _, _ => none
          | none => none
        | none => none
      | _, _, _ => none
    | _ => none
  | none => none
/-- A new row. -/
def mksM (m : MS) (g n : Nat) (vs : List Value) (t sz : Nat) : MS := ⟨popM m, ⟨(m.s.put (dstM m) (.v (.slice (some ⟨g, 0, none⟩) n n))).fr, m.s.hp ++ [.o (.slice (some ⟨g, 0, none⟩) n n) n vs t sz]⟩⟩
theorem bd_add {S : SS} (h : S.bd = true) (d : Option Tmp) {x : Value} {b : Blk} (hb : b.isO = true) : ({ fr := (S.put d (.v x)).fr, hp := S.hp ++ [b] } : SS).bd = true := by
  have h1 := put_bd h d (x := .v x) rfl
  unfold SS.bd at h1 ⊢
  rw [put_hp] at h1
  rw [Bool.and_eq_true] at h1 ⊢
  simp only [List.length_append, List.all_append, Bool.and_eq_true]
  refine ⟨?_, ?_, ?_⟩
  · rw [List.all_eq_true]; intro x hx; exact bd_le (Nat.le_add_right _ _) (List.all_eq_true.1 h1.1 x hx)
  · rw [List.all_eq_true]; intro x hx; exact blk_le (Nat.le_add_right _ _) (List.all_eq_true.1 h1.2 x hx)
  · cases b <;> first | rfl | cases hb
theorem fSub_add {S : SS} {f : List SV} {b : Blk} (hb : fOnly b = none) : fSub ⟨f, S.hp ++ [b]⟩ S := by
  intro j g cs t hj
  rcases get_append hj with ⟨_, hj⟩ | ⟨_, he⟩
  · exact hj
  · subst he; cases hb
theorem W.mks (q : Nat) (z0 : α) (ps : List Nat) {e sz : Nat} {i : Int} (H : Reps Φ L)
    (k : ∀ (l : List α) g us, Reps Φ (.r sz (l.map enc) us :: L) → W Γ Q Φ (mksM (GM Γ Φ q m) g l.length us e sz) (F l) K)
    (h : mkOp Γ.P (GM Γ Φ q m) = some (e, sz, i, valsE L [ps] [enc z0]) := by kernel_rfl) (hz : okE L sz [ps] [enc z0] := by repeat' (first | exact trivial | exact ⟨_, rfl⟩ | exact rfl | refine ⟨?_, ?_⟩)) : W Γ Q Φ m (mkd i z0 F) K := by
  refine ⟨fun r hr => AtM.go q ?_⟩
  unfold mkd at hr
  split at hr
  · rename_i hi
    have k1 := fun g us h => (k (List.replicate i.toNat z0) g us h).run r hr
    clear k
    have hRz := okE_spec H hz
    generalize hm1 : goM Γ.P Γ.md.isNone Φ q m = m1
    simp only [GM, hm1] at k1 h
    unfold mkOp at h
    repeat' split at h
    all_goals first | cases h; done | skip
    rename_i _ o' ho _ t x y hop _ _ _ e' kd n' hxy hu hx _ inf hinf _ z hz' _ _ hzs hby
    simp only [Option.some.injEq, Prod.mk.injEq] at h
    obtain ⟨rfl, rfl, rfl, h4⟩ := h
    have exy := Nat.eq_of_beq_eq_true hxy
    subst exy
    have hzs' := Nat.eq_of_beq_eq_true hzs
    have hby' := Nat.le_of_ble_eq_true hby
    obtain ⟨all, l, k', hk, hw, hp, hd⟩ := opM_spec ho
    obtain ⟨fs, S⟩ := m1
    simp only at hk hw hx; subst hk
    intro env hdr β a w hst
    unfold exits
    show wpList Γ.P all (exits Γ.P Γ.md (Q r) k') (o' :: l) a w
    unfold wpList
    rw [if_pos (wanted_of hst hw)]
    left
    have en : ((n'.toNat : Nat) : Int) = n' := by omega
    obtain ⟨w', hrun, hown, hg⟩ := run_make_full (P := Γ.P) w 0 t e' inf z inf.size hu hinf hz' rfl kd kd n'.toNat (Nat.le_trans (Nat.mul_le_mul hby' (show n'.toNat ≤ 4000000 by omega)) (by decide)) (by unfold maxLen; omega) (Nat.zero_le _)
    rw [en] at hrun
    have hex : (execOp a.eval o').run Γ.P w = .ok (.value (.slice (some ⟨w.heap.size, 0, none⟩) n'.toNat n'.toNat)) w' := by
      unfold execOp; rw [hop]
      simp [fits_v hst hx, hrun]
    have hus : (madeCells z.cells (n'.toNat * inf.size)).toList = (List.replicate n'.toNat z.cells.toList).flatten := made_go _ _ hzs' _
    rw [hus] at hown
    have hR1 : Rc Φ (enc z0) z.cells.toList := by
      simp only [valsE, List.append_nil] at hRz h4
      simp only [Rr] at hRz
      obtain ⟨us, ws, e1, e2, e3, rfl⟩ := hRz
      rw [List.append_nil] at e1
      rw [h4, e1]; exact e3
    have hRr : Rr Φ inf.size ((List.replicate n'.toNat z0).map enc) (List.replicate n'.toNat z.cells.toList).flatten := by
      rw [List.map_replicate]
      exact Rr.rep hR1 (by rw [Array.length_toList]; exact hzs') _
    have k2 := k1 w.heap.size (List.replicate n'.toNat z.cells.toList).flatten (H.cons (e := .r _ _ _) hRr) env (by
      unfold mksM; simp only; rw [hp]; exact drwOk.sub (k := .ops all l :: k') (fSub_add rfl) hdr)
    unfold mksM at k2
    rw [hp, hd, List.length_replicate] at k2
    unfold Oper.wp
    rw [hex]
    exact k2 β _ _ (hst.newRow hown hg (fun k hk => by simp [Value.ownBlock] at hk; omega) o'.dst (.inr rfl) (bd_add hst.bd o'.dst rfl))
  · simp at hr

def cpOp (P : Program) (m : MS) : Option (Value × Value × TypeId × Nat) :=
  match opM m with
  | some o => match o.op with
    | .call { callee := .builtin .copy, args, argTypes } => match args.toList, argTypes.toList with
      | [d, s], [t, _] => match P.underlying t, m.s.get d, m.s.get s with
        | some (.slice e), .v V, .v X => match szT P e with
          | some sz => some (V, X, e, sz)
          | none => none
        | _, _, _ => none
      | _, _ => none
    | _ => none
  | none => none
def setVs (ds : List Nat) (V : Value) (f : List SV) : List SV := ds.foldl (fun f d => f.set d (.v V)) f
theorem setVs_id {V : Value} : ∀ {ds : List Nat} {f : List SV}, ds.map (f[·]?) = ds.map (fun _ => some (.v V)) → setVs ds V f = f
  | [], _, _ => rfl
  | d :: ds, f, h => by
    simp only [List.map_cons, List.cons.injEq] at h
    have e : f.set d (.v V) = f := by
      apply List.ext_getElem?
      intro j
      rw [List.getElem?_set]
      split
      · rename_i e; subst e
        have hlt := lt_get h.1
        have h2 := h.1
        rw [List.getElem?_eq_getElem hlt] at h2
        simp [hlt, Option.some.inj h2]
      · rfl
    show setVs ds V (f.set d (.v V)) = f
    rw [e]; exact setVs_id h.2
def cpM (m : MS) (i g n : Nat) (us : List Value) (t sz : Nat) (ds : List Nat) : MS := ⟨popM m, ⟨setVs ds (.slice (some ⟨g, 0, none⟩) n n) (m.s.put (dstM m) (.v (.int .i64 n))).fr, m.s.hp.set i (.o (.slice (some ⟨g, 0, none⟩) n n) n us t sz)⟩⟩
/-- A row that stays is copied over a whole row of the call's own. -/
theorem W.cpy (q i p p2 : Nat) (ds : List Nat) {g n n2 e sz C' : Nat} {B' : Option Addr} {vs : List Value} (H : Reps Φ L)
    (k : ∀ (l : List α) us, Reps Φ (.r sz (l.map enc) us :: L) → W Γ Q Φ (cpM (GM Γ Φ q m) i g l.length us e sz ds) (F l) K)
    (hp : L[p]? = some (.r sz (xs.map enc) vs) := by rfl) (hp2 : L[p2]? = some (.d (.row sz n2 (ys.map enc)) (.slice B' n2 C')) := by rfl) (hn : n = xs.length := by rfl)
    (h : cpOp Γ.P (GM Γ Φ q m) = some (.slice (some ⟨g, 0, none⟩) n n, .slice B' n2 C', e, sz) := by kernel_rfl) (hi : (GM Γ Φ q m).s.hp[i]? = some (.o (.slice (some ⟨g, 0, none⟩) n n) n vs e sz) := by kernel_rfl)
    (h1 : ∀ x : α, (enc x).cells.all D.one = true := by intro x; kernel_rfl) (hds : ds.map (((GM Γ Φ q m).s.put (dstM (GM Γ Φ q m)) (.v (.int .i64 n))).fr[·]?) = ds.map (fun _ => some (.v (.slice (some ⟨g, 0, none⟩) n n))) := by kernel_rfl) : W Γ Q Φ m (cpf xs ys F) K := by
  refine ⟨fun r hr => AtM.go q ?_⟩
  unfold cpf at hr
  split at hr
  · rename_i hl
    have r2 : Rc Φ (.row sz n2 (ys.map enc)) [.slice B' n2 C'] := H.get p2 hp2
    simp only [Rc] at r2
    obtain ⟨hn2, A', c', ws, ev, hc, hR, r2⟩ := r2
    simp only [List.cons.injEq, Value.slice.injEq, and_true, true_and] at ev
    obtain ⟨rfl, rfl⟩ := ev
    rw [List.length_map] at hn2
    have k1 := (k ys ws (H.cons (e := .r _ _ _) r2)).run r hr
    clear k
    have hn3 : n = ys.length := hn.trans hl
    clear hn
    subst hn3 hn2
    generalize hm1 : goM Γ.P Γ.md.isNone Φ q m = m1
    simp only [GM, hm1] at k1 h hi hds
    unfold cpM at k1
    rw [setVs_id hds] at k1
    unfold cpOp at h
    repeat' split at h
    all_goals first | cases h; done | skip
    rename_i _ o' ho _ args aty hop _ _ d s t t' ha hat _ _ _ e' V X hu hd hs _ sz' hsz
    simp only [Option.some.injEq, Prod.mk.injEq] at h
    obtain ⟨rfl, rfl, rfl, rfl⟩ := h
    obtain ⟨all, l, k', hk, hw, hpp, hdst⟩ := opM_spec ho
    obtain ⟨fs, S⟩ := m1
    simp only at hk hw hd hs hi; subst hk
    have ha' : args = #[d, s] := by apply Array.ext'; simpa using ha
    have hat' : aty = #[t, t'] := by apply Array.ext'; simpa using hat
    subst ha' hat'
    intro env hdr
    have hlen := r2.len
    rw [List.length_map] at hlen
    have k2 := k1 env (by
      show drwOk Φ _ (popM { k := Fr.ops all (o' :: l) :: k', s := S })
      rw [hpp]; exact drwOk.sub (k := .ops all l :: k') (fSub_set rfl) hdr)
    rw [hpp, hdst] at k2
    intro β a w hst
    have hb := bd_set hst.bd o'.dst (x := .v (.int .i64 ys.length)) rfl i (b := .o (.slice (some ⟨g, 0, none⟩) ys.length ys.length) ys.length ws e' sz') rfl
    exact At.copyrow hop hw hu hsz i hd hi ws (Src.phi hs hR) hlen (Rr.one (by intro x hx; obtain ⟨y, _, rfl⟩ := List.mem_map.1 hx; exact h1 y) r2) (by unfold putH; simp only [hb, if_true]) k2 β a w hst
  · simp at hr
/-- The whole of a row of the call's own, with no room left. -/
theorem W.os3 (q p : Nat) {n sz : Nat} {B : Option Addr} {hi : Int} {vs : List Value} (H : Reps Φ L) (k : W Γ Q Φ (putM (GM Γ Φ q m) (.v (.slice B n n))) (F xs) K)
    (hp : L[p]? = some (.r sz (xs.map enc) vs) := by rfl) (hn : n = xs.length := by rfl) (h : slOp Γ.P n (GM Γ Φ q m) = some (.slice B n n, sz, 0, hi, hi) := by kernel_rfl) (hm : slMx (GM Γ Φ q m) = true := by kernel_rfl) : W Γ Q Φ m (sl3 xs hi F) K := by
  refine ⟨fun r hr => AtM.go q ?_⟩
  unfold sl3 at hr
  split at hr
  · rename_i hl
    have k1 := k.run r hr
    refine AtM.slice h (Int.le_refl 0) (by omega) (by omega) (Nat.le_refl _) fun B' e1 _ => ?_
    have e2 := e1 rfl
    subst e2
    have e3 : hi.toNat = n := by omega
    rw [hm]
    simpa [e3] using k1
  · simp at hr
end
end Go.Sx
