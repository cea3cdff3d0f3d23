/- SyX: maps: the walk's rules. General: no program. -/
import Derived.Test.YtgkjblbmiooedaaSyW
namespace Go.Sx
open Go.RowKit

section
variable {A R : Type} {Γ : Ctx} {Q : R → QT} {Φ : Phi} {m : MS} {o : Option A} {K : A → Option R}
variable {κ V : Type} {kv : κ → Value} {eq : κ → κ → Bool} {vv : V → Value} {kt et : TypeId}

theorem run_zero_of {P : Program} {t : TypeId} {z : Value} (h : (P.info? t).bind (·.zero) = some z) (w : World) : (zeroValue t).run P w = .ok z w := by
  cases hi : P.info? t with
  | none => rw [hi] at h; cases h
  | some inf =>
    rw [hi] at h
    simp only [Option.bind_some] at h
    simp [zeroValue, typeInfo, hi, h, Result.andThen]

/-- a new map -/
def mkmM (m : MS) (g t : Nat) : MS := ⟨popM m, ⟨(m.s.put (dstM m) (.v (.map (some g)))).fr, m.s.hp ++ [.o (.map (some g)) 0 [] t 0]⟩⟩
def isMkm (m : MS) : Bool :=
  match opM m with
  | some o => match o.op with
    | .makeMap _ none => true
    | _ => false
  | none => false
theorem W.mkm (q t : Nat) (k : ∀ g, W Γ Q Φ (mkmM (GM Γ Φ q m) g t) o K) (h : isMkm (GM Γ Φ q m) = true := by kernel_rfl) : W Γ Q Φ m o K := by
  refine ⟨fun r hr => AtM.go q ?_⟩
  have k1 := fun g => (k g).run r hr
  simp only [GM] at k1 h
  generalize goM Γ.P Γ.md.isNone Φ q m = m1 at k1 h ⊢
  unfold isMkm at h
  split at h
  · rename_i o' ho
    split at h
    · rename_i t' hop
      obtain ⟨all, l, k', hk, hw, hp, hd⟩ := opM_spec ho
      obtain ⟨fs, S⟩ := m1
      simp only at hk hw k1; subst hk
      intro env hdr β a w hst
      show wpList _ _ _ _ a w
      unfold wpList
      rw [if_pos (wanted_of hst hw)]
      left
      have k2 := k1 w.heap.size env (by unfold mkmM; simp only; rw [hp]; exact drwOk.sub (k := .ops all l :: k') (fSub_add rfl) hdr)
      unfold mkmM at k2
      rw [hp, hd] at k2
      have hex : (execOp a.eval o').run Γ.P w = .ok (.value (.map (some w.heap.size))) (w.alloc (.map #[] 0)) := by
        unfold execOp; rw [hop]
        simp [run_makeMap]
      unfold Oper.wp
      rw [hex]
      refine k2 β _ _ (hst.newO (V := .map (some w.heap.size)) (n := 0) (xs := []) (t := t) (sz := 0) ⟨rfl, #[], 0, heap_alloc_new w _, ⟨rfl, fun j e he => by simp at he, rfl⟩⟩ (World.grownBy_alloc w _ none) (fun k hk => by cases hk; exact Nat.le_refl _) o'.dst (.inr rfl) (bd_add hst.bd o'.dst rfl))
    · cases h
  · cases h

variable {es : List (κ × V)} {g n t tt : Nat} {x : κ} {z v : V} {ksv vsv : SV}

theorem ksv_eval {β : Nat → Nat} {S : SS} {a : Act} {w : World} (h : St Γ Φ β S a w) {ko : Operand} (hk : S.get ko = ksv) (hok : ksv.ok 0 = true) (hu : ksv.isU = false) {u : Value} (hd : den (fun _ => 0) ksv = u) : a.eval ko = u := by
  have h1 := (h.eval ko).known (by rw [hk]; rintro rfl; cases hu)
  rw [h1, hk, ← hd]
  exact den_congr (n := 0) (fun i hi => by omega) _ hok

def lkM (m : MS) : Option (TypeId × SV × SV × Bool) :=
  match opM m with
  | some o => match o.op with
    | .lookup t mo ko ok => some (t, m.s.get mo, m.s.get ko, ok)
    | _ => none
  | none => none
def lkV (ok : Bool) (v : Value) (b : Bool) : Value := if ok then .tuple #[v, .bool b] else v
theorem W.mlk (q i : Nat) {ok : Bool} (hK : KeyOk Γ.P kt kv eq) (k : W Γ Q Φ (putM (GM Γ Φ q m) (.v (lkV ok (vv ((mget eq es x).getD z)) (mget eq es x).isSome))) o K)
    (h : lkM (GM Γ Φ q m) = some (t, .v (.map (some g)), ksv, ok) := by kernel_rfl) (hi : (GM Γ Φ q m).s.hp[i]? = some (.o (.map (some g)) n (mcs kv vv es) tt 0) := by kernel_rfl) (hok : ksv.ok 0 = true := by kernel_rfl) (hkn : ksv.isU = false := by kernel_rfl) (hd : den (fun _ => 0) ksv = kv x := by kernel_rfl)
    (hu : Γ.P.underlying t = some (.map kt et) := by kernel_rfl) (hz : (Γ.P.info? et).bind (·.zero) = some (vv z) := by kernel_rfl) : W Γ Q Φ m o K := by
  refine ⟨fun r hr => AtM.go q ?_⟩
  unfold lkM at h
  split at h
  · rename_i o' ho
    split at h
    · rename_i t' mo ko ok' hop
      simp only [Option.some.injEq, Prod.mk.injEq] at h
      obtain ⟨rfl, hmo, hko, rfl⟩ := h
      refine AtM.val ho (.v (lkV ok' (vv ((mget eq es x).getD z)) (mget eq es x).isSome)) rfl (fun β a w hst => ⟨_, ?_, .inr rfl⟩) (k.run r hr)
      obtain ⟨_, arr, clock, hb, hM⟩ := hst.own.o i _ _ _ _ _ hi
      unfold execOp; rw [hop]
      have hrun := run_lookup_of hK hu (run_zero_of hz w) hb hM x ok'
      simp only [fits_v hst hmo, ksv_eval hst hko hok hkn hd, Sem.run_bind, hrun, Result.andThen_ok]
      rfl
    · cases h
  · cases h

theorem W.mlkE (q i : Nat) {u : V} (hv : (mget eq es x).getD z = u) (hK : KeyOk Γ.P kt kv eq) (k : W Γ Q Φ (putM (GM Γ Φ q m) (.v (vv u))) o K)
    (h : lkM (GM Γ Φ q m) = some (t, .v (.map (some g)), ksv, false) := by kernel_rfl) (hi : (GM Γ Φ q m).s.hp[i]? = some (.o (.map (some g)) n (mcs kv vv es) tt 0) := by kernel_rfl) (hok : ksv.ok 0 = true := by kernel_rfl) (hkn : ksv.isU = false := by kernel_rfl) (hd : den (fun _ => 0) ksv = kv x := by kernel_rfl)
    (hu : Γ.P.underlying t = some (.map kt et) := by kernel_rfl) (hz : (Γ.P.info? et).bind (·.zero) = some (vv z) := by kernel_rfl) : W Γ Q Φ m o K :=
  W.mlk (ok := false) q i hK (by subst hv; exact k) h hi hok hkn hd hu hz

theorem St.mapTo {β : Nat → Nat} {S : SS} {a : Act} {w : World} (h : St Γ Φ β S a w) {i : Nat} {xs xs' : List Value} (hi : S.hp[i]? = some (.o (.map (some g)) n xs tt 0)) {arr : Array MapEntry} {clock : Nat} (hM : MapAt arr clock xs') (d : Option Tmp) {y : SV} {u : Value} (hx : Fits β y u)
    (hb : ({ fr := (S.put d y).fr, hp := S.hp.set i (.o (.map (some g)) n xs' tt 0) } : SS).bd = true) : St Γ Φ β { fr := (S.put d y).fr, hp := S.hp.set i (.o (.map (some g)) n xs' tt 0) } (a.put d u) (w.putObj g (.map arr clock)) := by
  obtain ⟨_, arr0, clock0, hb0, _⟩ := h.own.o i _ _ _ _ _ hi
  have ho : OwnsO (w.putObj g (.map arr clock)) tt 0 (.map (some g)) n xs' := ⟨rfl, arr, clock, World.putObj_heap_same (lt_of_heap hb0), hM⟩
  have hg : w.grownBy (w.putObj g (.map arr clock)) (oBlock (.map (some g))) := by
    refine ⟨rfl, rfl, rfl, ?_, ?_⟩
    · rw [World.putObj_size]; exact Nat.le_refl _
    · intro k hk hne
      refine World.putObj_heap_other ?_
      intro e
      exact hne (by rw [e]; rfl)
  exact h.rowTo (V := .map (some g)) hi ho hg (.inl rfl) d hx hb
theorem bd_setm {S : SS} (h : S.bd = true) (d : Option Tmp) {y : SV} (hy : SV.bd S.hp.length y = true) (i : Nat) {b : Blk} (hb : b.isO = true) : ({ fr := (S.put d y).fr, hp := S.hp.set i b } : SS).bd = true := by
  have h1 := put_bd h d (x := y) hy
  unfold SS.bd at h1 ⊢
  rw [put_hp] at h1
  rw [Bool.and_eq_true] at h1 ⊢
  simp only [List.length_set]
  refine ⟨h1.1, List.all_eq_true.2 fun x hx => ?_⟩
  rcases List.mem_or_eq_of_mem_set hx with hx | rfl
  · exact List.all_eq_true.1 h1.2 x hx
  · cases x <;> first | rfl | cases hb

def mapM (m : MS) (i g n : Nat) (xs : List Value) (tt : Nat) (y : SV) : MS := ⟨popM m, ⟨(m.s.put (dstM m) y).fr, m.s.hp.set i (.o (.map (some g)) n xs tt 0)⟩⟩
def upM (m : MS) : Option (TypeId × SV × SV × SV) :=
  match opM m with
  | some o => match o.op with
    | .mapUpdate t mo ko vo => some (t, m.s.get mo, m.s.get ko, m.s.get vo)
    | _ => none
  | none => none
theorem W.mup (q i : Nat) {F : List (κ × V) → Option A} (hK : KeyOk Γ.P kt kv eq) (k : ∀ l, W Γ Q Φ (mapM (GM Γ Φ q m) i g n (mcs kv vv l) tt (.v undef)) (F l) K)
    (h : upM (GM Γ Φ q m) = some (t, .v (.map (some g)), ksv, vsv) := by kernel_rfl) (hi : (GM Γ Φ q m).s.hp[i]? = some (.o (.map (some g)) n (mcs kv vv es) tt 0) := by kernel_rfl) (hok : ksv.ok 0 = true := by kernel_rfl) (hkn : ksv.isU = false := by kernel_rfl) (hd : den (fun _ => 0) ksv = kv x := by kernel_rfl)
    (hok' : vsv.ok 0 = true := by kernel_rfl) (hkn' : vsv.isU = false := by kernel_rfl) (hd' : den (fun _ => 0) vsv = vv v := by kernel_rfl) (hu : Γ.P.underlying t = some (.map kt et) := by kernel_rfl) : W Γ Q Φ m (bd1 (mput eq x v es) F) K := by
  refine ⟨fun r hr => AtM.go q ?_⟩
  have k1 := (k (mput eq x v es)).run r hr
  simp only [GM] at k1 h hi
  generalize goM Γ.P Γ.md.isNone Φ q m = m1 at k1 h hi ⊢
  unfold upM at h
  split at h
  · rename_i o' ho
    split at h
    · rename_i t' mo ko vo hop
      simp only [Option.some.injEq, Prod.mk.injEq] at h
      obtain ⟨rfl, hmo, hko, hvo⟩ := h
      obtain ⟨all, l, k', hk, hw, hp, hdd⟩ := opM_spec ho
      obtain ⟨fs, S⟩ := m1
      simp only at hk hw hi hmo hko hvo; subst hk
      intro env hdr β a w hst
      show wpList _ _ _ _ a w
      unfold wpList
      rw [if_pos (wanted_of hst hw)]
      left
      have k2 := k1 env (drwOk.sub (fSub_set rfl) (drwOk_popM hdr))
      unfold mapM at k2
      rw [hp, hdd] at k2
      obtain ⟨_, arr, clock, hb, hM⟩ := hst.own.o i _ _ _ _ _ hi
      obtain ⟨arr', clock', hrun, hM'⟩ := run_update_of hK hu hb hM x v
      have hex : (execOp a.eval o').run Γ.P w = .ok .skip (w.putObj g (.map arr' clock')) := by
        unfold execOp; rw [hop]
        simp only [fits_v hst hmo, ksv_eval hst hko hok hkn hd, ksv_eval hst hvo hok' hkn' hd', Sem.run_bind, hrun, Result.andThen_ok]
        rfl
      unfold Oper.wp
      rw [hex]
      exact k2 β _ _ (hst.mapTo hi hM' o'.dst (.inr rfl) (bd_setm hst.bd _ rfl i rfl))
    · cases h
  · cases h

def meM (m : MS) : Option (TypeId × SV × SV) :=
  match opM m with
  | some o => match o.op with
    | .mapEntry t mo ko => some (t, m.s.get mo, m.s.get ko)
    | _ => none
  | none => none
theorem W.men (q i : Nat) {F : List (κ × V) → Option A} (hK : KeyOk Γ.P kt kv eq) (k : ∀ l sp v0, mfind eq x l 0 = some (sp, v0) → (mget eq l x).getD z = (mget eq es x).getD z → W Γ Q Φ (mapM (GM Γ Φ q m) i g n (mcs kv vv l) tt (.v (.tuple #[vv ((mget eq es x).getD z), .int .i64 (sp : Nat)]))) (F l) K)
    (h : meM (GM Γ Φ q m) = some (t, .v (.map (some g)), ksv) := by kernel_rfl) (hi : (GM Γ Φ q m).s.hp[i]? = some (.o (.map (some g)) n (mcs kv vv es) tt 0) := by kernel_rfl) (hok : ksv.ok 0 = true := by kernel_rfl) (hkn : ksv.isU = false := by kernel_rfl) (hd : den (fun _ => 0) ksv = kv x := by kernel_rfl)
    (hu : Γ.P.underlying t = some (.map kt et) := by kernel_rfl) (hz : (Γ.P.info? et).bind (·.zero) = some (vv z) := by kernel_rfl) : W Γ Q Φ m (bd1 (mtch eq x z es) F) K := by
  refine ⟨fun r hr => AtM.go q ?_⟩
  have k1 := fun sp v0 hs => (k (mtch eq x z es) sp v0 hs (by
    have h1 := mfind_get (eq := eq) x (mtch eq x z es) 0
    rw [hs] at h1
    unfold mtch at hs h1 ⊢
    cases hq : mget eq es x with
    | some u => simp [hq]
    | none =>
      rw [hq] at h1
      simp only [Option.isSome_none, Bool.false_eq_true, if_false] at h1 ⊢
      rw [← h1]
      simp only [Option.map_some, Option.getD_some, Option.getD_none]
      have hf : ∀ (es : List (κ × V)) (i : Nat), mget eq es x = none → mfind eq x (es ++ [(x, z)]) i = some (sp, v0) → v0 = z := by
        intro es
        induction es with
        | nil =>
          intro i _ hm
          simp only [List.nil_append] at hm
          unfold mfind at hm
          split at hm
          · simp only [Option.some.injEq, Prod.mk.injEq] at hm; exact hm.2.symm
          · cases hm
        | cons p es ih =>
          intro i hn hm
          unfold mget at hn
          rw [List.find?_cons] at hn
          simp only [List.cons_append] at hm
          unfold mfind at hm
          by_cases hx : eq x p.1 = true
          · simp [hx] at hn
          · simp only [hx] at hn
            rw [if_neg hx] at hm
            exact ih (i + 1) hn hm
      rw [hq] at hs
      simp only [Option.isSome_none, Bool.false_eq_true, if_false] at hs
      exact hf es 0 hq hs)).run r hr
  simp only [GM] at k1 h hi
  generalize goM Γ.P Γ.md.isNone Φ q m = m1 at k1 h hi ⊢
  unfold meM at h
  split at h
  · rename_i o' ho
    split at h
    · rename_i t' mo ko hop
      simp only [Option.some.injEq, Prod.mk.injEq] at h
      obtain ⟨rfl, hmo, hko⟩ := h
      obtain ⟨all, l, k', hk, hw, hp, hdd⟩ := opM_spec ho
      obtain ⟨fs, S⟩ := m1
      simp only at hk hw hi hmo hko; subst hk
      intro env hdr β a w hst
      show wpList _ _ _ _ a w
      unfold wpList
      rw [if_pos (wanted_of hst hw)]
      left
      obtain ⟨_, arr, clock, hb, hM⟩ := hst.own.o i _ _ _ _ _ hi
      obtain ⟨arr', clock', sp, v0, hrun, hM', hs⟩ := run_entry_of hK hu (run_zero_of hz w) hb hM x
      have k2 := k1 sp v0 hs env (drwOk.sub (fSub_set rfl) (drwOk_popM hdr))
      unfold mapM at k2
      rw [hp, hdd] at k2
      have hex : (execOp a.eval o').run Γ.P w = .ok (.value (.tuple #[vv ((mget eq es x).getD z), .int .i64 (sp : Nat)])) (w.putObj g (.map arr' clock')) := by
        unfold execOp; rw [hop]
        simp only [fits_v hst hmo, ksv_eval hst hko hok hkn hd, Sem.run_bind, hrun, Result.andThen_ok]
        rfl
      unfold Oper.wp
      rw [hex]
      exact k2 β _ _ (hst.mapTo hi hM' o'.dst (.inr rfl) (bd_setm hst.bd _ rfl i rfl))
    · cases h
  · cases h

def esM (m : MS) : Option (SV × SV × SV) :=
  match opM m with
  | some o => match o.op with
    | .entryStore _ mo so vo => some (m.s.get mo, m.s.get so, m.s.get vo)
    | _ => none
  | none => none
theorem W.mes (q i : Nat) {sp : Nat} {v0 : V} {F : List (κ × V) → Option A} (hK : KeyOk Γ.P kt kv eq) (hs : mfind eq x es 0 = some (sp, v0)) (k : ∀ l, W Γ Q Φ (mapM (GM Γ Φ q m) i g n (mcs kv vv l) tt (.v undef)) (F l) K)
    (h : esM (GM Γ Φ q m) = some (.v (.map (some g)), .v (.int .i64 (sp : Nat)), vsv) := by kernel_rfl) (hi : (GM Γ Φ q m).s.hp[i]? = some (.o (.map (some g)) n (mcs kv vv es) tt 0) := by kernel_rfl)
    (hok' : vsv.ok 0 = true := by kernel_rfl) (hkn' : vsv.isU = false := by kernel_rfl) (hd' : den (fun _ => 0) vsv = vv v := by kernel_rfl) : W Γ Q Φ m (bd1 (mput eq x v es) F) K := by
  refine ⟨fun r hr => AtM.go q ?_⟩
  have k1 := (k (mput eq x v es)).run r hr
  simp only [GM] at k1 h hi
  generalize goM Γ.P Γ.md.isNone Φ q m = m1 at k1 h hi ⊢
  unfold esM at h
  split at h
  · rename_i o' ho
    split at h
    · rename_i t' mo so vo hop
      simp only [Option.some.injEq, Prod.mk.injEq] at h
      obtain ⟨hmo, hso, hvo⟩ := h
      obtain ⟨all, l, k', hk, hw, hp, hdd⟩ := opM_spec ho
      obtain ⟨fs, S⟩ := m1
      simp only at hk hw hi hmo hso hvo; subst hk
      intro env hdr β a w hst
      show wpList _ _ _ _ a w
      unfold wpList
      rw [if_pos (wanted_of hst hw)]
      left
      have k2 := k1 env (drwOk.sub (fSub_set rfl) (drwOk_popM hdr))
      unfold mapM at k2
      rw [hp, hdd] at k2
      obtain ⟨_, arr, clock, hb, hM⟩ := hst.own.o i _ _ _ _ _ hi
      obtain ⟨arr', clock', hrun, hM'⟩ := run_estore_of (t := t') hK hb hM hs v
      have hex : (execOp a.eval o').run Γ.P w = .ok .skip (w.putObj g (.map arr' clock')) := by
        unfold execOp; rw [hop]
        simp only [fits_v hst hmo, fits_v hst hso, ksv_eval hst hvo hok' hkn' hd', Sem.run_bind, hrun, Result.andThen_ok]
        rfl
      unfold Oper.wp
      rw [hex]
      exact k2 β _ _ (hst.mapTo hi hM' o'.dst (.inr rfl) (bd_setm hst.bd _ rfl i rfl))
    · cases h
  · cases h
end
end Go.Sx
