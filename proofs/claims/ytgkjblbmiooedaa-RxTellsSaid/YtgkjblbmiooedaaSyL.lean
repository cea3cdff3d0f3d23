/- SyL: cap; a nil row that grows by zeros. General: no program. -/
import Derived.Test.YtgkjblbmiooedaaSyK
namespace Go.Sx
open Go.RowKit

section
variable {A R : Type} {Γ : Ctx} {Q : R → QT} {Φ : Phi} {m : MS} {o : Option A} {K : A → Option R} {L : List En}
variable {α : Type} {enc : α → D} {F : List α → Option A}

def capOp (P : Program) (m : MS) : Option Nat :=
  match opM m with
  | some o => match o.op with
    | .call { callee := .builtin .cap, args, argTypes } => match args.toList, argTypes.toList with
      | [x], [t] => match P.underlying t, m.s.get x with
        | some (.slice _), .v (.slice _ _ c) => some c
        | _, _ => none
      | _, _ => none
    | _ => none
  | none => none
theorem W.cap (q c : Nat) (k : W Γ Q Φ (putM (GM Γ Φ q m) (.v (.int .i64 c))) o K) (h : capOp Γ.P (GM Γ Φ q m) = some c := by kernel_rfl) : W Γ Q Φ m o K := by
  refine ⟨fun r hr => AtM.go q ?_⟩
  have k1 := k.run r hr
  unfold capOp at h
  repeat' split at h
  all_goals first | cases h; done | skip
  rename_i _ o' ho _ args aty hop _ _ x t ha hat _ _ e A' n' c' hu hx
  cases h
  have ha' : args = #[x] := by apply Array.ext'; simpa using ha
  have hat' : aty = #[t] := by apply Array.ext'; simpa using hat
  subst ha' hat'
  exact AtM.val ho _ rfl (Val.cap hop hu hx) k1

theorem zeros_go (z : Array Value) (n : Nat) : (Builtin.zeroCells z n).toList = (List.replicate n z.toList).flatten := by
  rw [← made_go z z.size rfl n]; rfl
def gzOp (P : Program) (m : MS) : Option (TypeId × Nat × Int × List Value) :=
  match opM m with
  | some o => match o.op with
    | .call { callee := .builtin .append, args, argTypes } => match args.toList, argTypes.toList with
      | [s, x], [t, tn] => match P.underlying t, P.underlying tn, m.s.get s, m.s.get x with
        | some (.slice e), some (.int _), .v (.slice none 0 0), .v (.int _ n) => match P.info? e with
          | some inf => match inf.zero with
            | some z => match Nat.beq z.cells.size inf.size && Nat.blt 0 inf.size, Nat.ble inf.bytes 10000 with
              | true, true => some (e, inf.size, n, z.cells.toList)
              | _, _ => none
            | none => none
          | none => none
        | _, _, _, _ => none
      | _, _ => none
    | _ => none
  | none => none
def gz {α A : Type} (n : Int) (z : α) (F : List α → Option A) : Option A := if 0 < n ∧ n ≤ 4000000 then F (List.replicate n.toNat z) else none
def gzM (m : MS) (g n c : Nat) (vs : List Value) (t sz : Nat) : MS := ⟨popM m, ⟨(m.s.put (dstM m) (.v (.slice (some ⟨g, 0, none⟩) n c))).fr, m.s.hp ++ [.o (.slice (some ⟨g, 0, none⟩) n c) n vs t sz]⟩⟩
theorem W.gz (q : Nat) (z0 : α) (ps : List Nat) {e sz : Nat} {i : Int} (H : Reps Φ L)
    (k : ∀ (l : List α) g c us, Reps Φ (.r sz (l.map enc) us :: L) → W Γ Q Φ (gzM (GM Γ Φ q m) g l.length c us e sz) (F l) K)
    (h : gzOp Γ.P (GM Γ Φ q m) = some (e, sz, i, valsE L [ps] [enc z0]) := by kernel_rfl) (hz : okE L sz [ps] [enc z0] := by repeat' (first | exact trivial | exact ⟨_, rfl⟩ | exact rfl | refine ⟨?_, ?_⟩)) : W Γ Q Φ m (gz i z0 F) K := by
  refine ⟨fun r hr => AtM.go q ?_⟩
  unfold Go.Sx.gz at hr
  split at hr
  · rename_i hi
    have k1 := fun g c us h => (k (List.replicate i.toNat z0) g c us h).run r hr
    clear k
    have hRz := okE_spec H hz
    generalize hm1 : goM Γ.P Γ.md.isNone Φ q m = m1
    simp only [GM, hm1] at k1 h
    unfold gzOp at h
    repeat' split at h
    all_goals first | cases h; done | skip
    rename_i _ o' ho _ args aty hop _ _ s x t tn ha hat _ _ _ _ e' kn kd n' hu hun hs hx _ inf hinf _ z hz' _ _ hzs hby
    simp only [Option.some.injEq, Prod.mk.injEq] at h
    obtain ⟨rfl, rfl, rfl, h4⟩ := h
    rw [Bool.and_eq_true] at hzs
    have hzs' := Nat.eq_of_beq_eq_true hzs.1
    have hpos : 0 < inf.size := by simpa [Nat.blt_eq] using hzs.2
    have hby' := Nat.le_of_ble_eq_true hby
    obtain ⟨all, l, k', hk, hw, hp, hd⟩ := opM_spec ho
    obtain ⟨fs, S⟩ := m1
    simp only at hk hw hx hs; subst hk
    have ha' : args = #[s, x] := by apply Array.ext'; simpa using ha
    have hat' : aty = #[t, tn] := by apply Array.ext'; simpa using hat
    subst ha' hat'
    intro env hdr β a w h
    show wpList Γ.P all (exits Γ.P Γ.md (Q r) k') (o' :: l) a w
    unfold wpList
    rw [if_pos (wanted_of h hw)]
    left
    have en : ((n'.toNat : Nat) : Int) = n' := by omega
    rw [← en] at hx
    generalize hN : n'.toNat = n at *
    have h0 : 0 < n := by omega
    have h4m : n ≤ 4000000 := by omega
    have h63 : n ≤ maxLen := by unfold maxLen; omega
    have hr := Lib.run_append_nil_zeros (P := Γ.P) w t tn o'.type e' inf z kd kn hu hun hinf hz' n h0 hpos (by omega) (Nat.le_trans (Nat.mul_le_mul h4m hby') (by decide))
    have hc1 := grownCap_ge w n 0 e'
    have hc2 := grownCap_le_maxLen w n 0 e' h63
    have hlen : (Builtin.zeroCells z.cells n).toList.length = n * inf.size := by rw [Array.length_toList, size_zeroCells, hzs']
    have hex : (execOp a.eval o').run Γ.P w = .ok (.value (.slice (some ⟨w.heap.size, 0, none⟩) n (grownCap w n 0 e'))) (w.drew.alloc (.cells (Builtin.zeroCells z.cells n ++ Builtin.zeroCells z.cells (grownCap w n 0 e' - n)) e')) := by
      unfold execOp; rw [hop]
      simp only [resolve, invoke, builtin, Sem.run_bind, Sem.run_pure, Result.andThen_ok, List.map_toArray, List.map_cons, List.map_nil, fits_v h hs, fits_v h hx, hr]
    have hR1 : Rc Φ (enc z0) z.cells.toList := by
      simp only [valsE, List.append_nil] at hRz h4
      simp only [Rr] at hRz
      obtain ⟨us, ws, e1, e2, e3, rfl⟩ := hRz
      rw [List.append_nil] at e1
      rw [h4, e1]; exact e3
    have hRr : Rr Φ inf.size ((List.replicate n z0).map enc) (Builtin.zeroCells z.cells n).toList := by
      rw [List.map_replicate, zeros_go]
      exact Rr.rep hR1 (by rw [Array.length_toList]; exact hzs') _
    have k2 := k1 w.heap.size (grownCap w n 0 e') (Builtin.zeroCells z.cells n).toList (H.cons (e := .r _ _ _) hRr) env (by
      unfold gzM; simp only; rw [hp]; exact drwOk.sub (k := .ops all l :: k') (fSub_add rfl) hdr)
    unfold gzM at k2
    rw [hp, hd, List.length_replicate] at k2
    unfold Oper.wp
    rw [hex]
    have hg : w.grownBy (w.drew.alloc (.cells (Builtin.zeroCells z.cells n ++ Builtin.zeroCells z.cells (grownCap w n 0 e' - n)) e')) none :=
      ⟨rfl, rfl, rfl, by show w.heap.size ≤ (w.heap.push _).size; simp, fun k hk _ => Below.heap_alloc w.drew _ k hk⟩
    refine k2 β _ _ (h.newRow (w' := w.drew.alloc _) ⟨hlen, .inr ⟨w.heap.size, _, _, rfl, Nat.zero_le _, heap_alloc_new w.drew _, hc1, hc2, ?_, ?_⟩⟩ hg (fun k hk => by simp [Value.ownBlock] at hk; omega) o'.dst (.inr rfl) (bd_add h.bd o'.dst rfl))
    · rw [Array.size_append, size_zeroCells, size_zeroCells, hzs', ← Nat.add_mul]
      congr 1
      omega
    · rw [Array.toList_append, ← hlen, List.take_left]
  · simp at hr
/-- The part of none. -/
theorem W.nsl (q : Nat) (k : W Γ Q Φ (putM (GM Γ Φ q m) (.v (.slice none 0 0))) o K) (sz : Nat) (h : slOp Γ.P 0 (GM Γ Φ q m) = some (.slice none 0 0, sz, 0, 0, 0) := by kernel_rfl) : W Γ Q Φ m o K := by
  refine ⟨fun r hr => AtM.go q ?_⟩
  have k1 := k.run r hr
  refine AtM.slice h (Int.le_refl 0) (Int.le_refl 0) (by omega) (Nat.le_refl _) fun B' e1 _ => ?_
  have e2 := e1 rfl
  subst e2
  simpa using k1
end
end Go.Sx
