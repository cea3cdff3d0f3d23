/- SyG: functions that put off a closure which recovers. General: no program. -/
import Derived.Test.YtgkjblbmiooedaaSyF
import Derived.Test.YtgkjblbmiooedaaSxG
namespace Go.Sx
open Go.RowKit

/-- A step that is no draw. -/
def calmM (m : MS) : Bool := match m.k with
  | .code (.region _ _ true) :: _ => false
  | .drw _ _ _ _ :: _ => false
  | _ => true
/-- As AtM, where nothing is drawn: then what is asked of a panic is free. -/
def AtN (Γ : Ctx) (Q : QT) (Φ : Phi) (m : MS) : Prop := noDrw m.k = true → At Γ Φ m.s (exits Γ.P none Q m.k .normal)
def goN (P : Program) (Φ : Phi) : Nat → MS → MS
  | 0, m => m
  | n + 1, m => match calmM m, stepM P true Φ m with
    | true, some m' => goN P Φ n m'
    | _, _ => m
theorem noDrw_pop (id : Nat) : ∀ k k', popTo id k = some k' → noDrw k = true → noDrw k' = true
  | [], _, h, _ => by cases h
  | .blk j :: k, k', h, hd => by
    unfold popTo at h
    split at h
    · cases h; exact hd
    · exact noDrw_pop id k k' h hd
  | .ops _ _ :: k, k', h, hd => noDrw_pop id k k' h hd
  | .code _ :: k, k', h, hd => noDrw_pop id k k' h hd
  | .scp :: k, k', h, hd => noDrw_pop id k k' h hd
  | .lp _ :: k, k', h, hd => noDrw_pop id k k' h hd
  | .drw _ _ _ _ :: k, k', h, hd => by cases hd

section
variable {Γ : Ctx} {Φ : Phi} {m m' : MS} {Q : QT}
theorem stepN_sound (hc : calmM m = true) (h : stepM Γ.P true Φ m = some m') (k : AtN Γ Q Φ m') : AtN Γ Q Φ m := by
  obtain ⟨fs, S⟩ := m
  intro hd
  unfold stepM at h
  split at h <;> simp only at * <;> subst_vars
  · cases h; exact At.seqI (k hd)
  · split at h
    · cases h; exact (k hd).imp fun a w q => region_fe (md := none) (fun hm => absurd rfl hm) rfl q
    · cases h
  · cases hc
  · split at h
    · rename_i hc; cases h; exact At.condI_t hc (k hd)
    · rename_i hc; cases h; exact At.condI_f hc (k hd)
    · cases h
  · cases h; exact At.blockI (k hd)
  · cases h; exact At.skipI (k hd)
  · cases h; exact (k hd).imp fun a w q => wpIn_label q
  · cases h; exact (k hd).imp fun a w q => wpIn_fe_none rfl (wp_scope_straight (wp_of_fe rfl q))
  · cases h
    intro β a w h b k' cs hro hb hr
    obtain ⟨e, a', w', hq, harr⟩ := k hd β a w h b k' cs hro hb hr
    exact ⟨e, a', w', hq, .of_steps (.one (fenced_calm hb hr rfl) stepR_loop) harr⟩
  · rename_i id k'
    obtain ⟨k2, hk, rfl⟩ := Option.map_eq_some_iff.1 h
    exact (k (noDrw_pop id k' k2 hk hd)).imp fun a w q => wpIn_exit (exits_pop Γ.P none Q id k' k2 hk a w q)
  · rename_i all k'; cases h; exact At.nil (P := Γ.P) (ops := all) (k hd)
  · rename_i all o l k'
    obtain ⟨s', hs, rfl⟩ := Option.map_eq_some_iff.1 h
    intro β a w h
    exact At.step hs (k hd) β a w h
  · cases h; exact k hd
  · cases h; exact k hd
  · cases hc
  · cases hc
  · cases h
theorem AtN.go (n : Nat) (k : AtN Γ Q Φ (goN Γ.P Φ n m)) : AtN Γ Q Φ m := by
  induction n generalizing m with
  | zero => exact k
  | succ n ih =>
    unfold goN at k
    split at k
    · rename_i m' hc h; exact stepN_sound hc h (ih k)
    · exact k
end

structure WN {A R : Type} (Γ : Ctx) (Q : R → QT) (Φ : Phi) (m : MS) (o : Option A) (K : A → Option R) : Prop where
  run : ∀ r, o.bind K = some r → AtN Γ (Q r) Φ m
abbrev GN (Γ : Ctx) (Φ : Phi) (q : Nat) (m : MS) : MS := goN Γ.P Φ q m

theorem CallG.WN {R : Type} {Φ : Phi} {P : Program} {f : FuncId} {args : List SV} {hp : List Blk} {post : R → Post} {o : Option R} {fn : Func} (hf : P.funcs[f]? = some fn)
    (k : ∀ E G β0, WN ⟨P, E, G, Φ, β0, hp.length, [], none⟩ (fun r => bodyPostD P fn (RetR ⟨P, E, G, Φ, β0, hp.length, [], none⟩ (post r))) Φ ⟨[.code (bodyC fn)], ⟨args ++ List.replicate (fn.ntmps - args.length) (.v undef), hp⟩⟩ o some)
    (hb : fn.body.isSome = true := by kernel_rfl) (hbd : ({ fr := args ++ List.replicate (fn.ntmps - args.length) (.v undef), hp } : SS).bd = true := by kernel_rfl) :
    ∀ r, o = some r → CallG P f args hp Φ (post r) := by
  intro r hr
  have hb' : fn.body = some (bodyC fn) := by unfold bodyC; cases h : fn.body with | none => rw [h] at hb; cases hb | some c => rfl
  intro β w hs ho
  refine calls_of_wp_defers hf hb' ?_
  have h1 := (mat_map (β := β) args).append (mat_v (β := β) (List.replicate (fn.ntmps - args.length) undef))
  have hk := (k w (gOf β hp) β).run r (by rw [hr]; rfl) rfl
  refine (wpIn_wide (n := 0)).1 (hk β _ w ⟨?_, rfl, ho, hs, fun i b k hi hk => .inr ⟨i, b, hi, hk⟩, ⟨rfl, rfl, rfl, Nat.le_refl _, fun _ _ _ => rfl⟩, ⟨fun _ _ h => h, fun _ _ _ => rfl⟩, hbd, fun _ _ => rfl, Nat.le_refl _⟩)
  simpa using h1

section
variable {A R : Type} {Γ : Ctx} {Q : R → QT} {Φ : Phi} {m : MS} {o : Option A} {K : A → Option R} {L : List En}

theorem WN.tr (q j n sz : Nat) (vs : List Value) (k : ∀ g, WN Γ Q Φ (rowM (GN Γ Φ q m) j g n vs (tyB j (GN Γ Φ q m)) sz) o K)
    (hi : (GN Γ Φ q m).s.hp[j]? = some (.c (vs.map .v) (tyB j (GN Γ Φ q m))) := by kernel_rfl) (hl : vs.length = n * sz := by rfl) (hn : Nat.ble n 4000000 = true := by rfl)
    (hb : ∀ g, (toRow (GN Γ Φ q m).s j g n vs (tyB j (GN Γ Φ q m)) sz).bd = true := by (intro g; kernel_rfl)) : WN Γ Q Φ m o K := ⟨fun r hr =>
  AtN.go q fun hd => At.toRow j n vs sz hi rfl hl (by unfold maxLen; have := Nat.le_of_ble_eq_true hn; omega) fun g => ⟨_, rfl, hb g, (k g).run r hr hd⟩⟩

theorem WN.nl (q : Nat) (t sz : Nat) (k : WN Γ Q Φ (addH (GN Γ Φ q m) (.o (.slice none 0 0) 0 [] t sz)) o K) : WN Γ Q Φ m o K := ⟨fun r hr =>
  AtN.go q fun hd β a w h => by
    have hb := h.bd
    refine At.nilrow t sz _ rfl ?_ (k.run r hr hd) β a w h
    unfold SS.bd at hb ⊢
    rw [Bool.and_eq_true] at hb ⊢
    simp only [List.length_append, List.all_append, Bool.and_eq_true]
    refine ⟨?_, ?_, rfl⟩
    · rw [List.all_eq_true]; intro x hx; exact bd_le (Nat.le_add_right _ _) (List.all_eq_true.1 hb.1 x hx)
    · rw [List.all_eq_true]; intro x hx; exact blk_le (Nat.le_add_right _ _) (List.all_eq_true.1 hb.2 x hx)⟩
/-- A known box is told by its address. -/
def unfM (m : MS) (i g : Nat) : MS := ⟨m.k, ⟨SV.nmL i g m.s.fr, m.s.hp⟩⟩
def gOfF (i : Nat) (m : MS) : Nat := match m.s.hp[i]? with | some (.f g _ _) => g | _ => 0
def isFb (i : Nat) (m : MS) : Bool := match m.s.hp[i]? with | some (.f _ _ _) => true | _ => false
theorem isFb_spec {i : Nat} (h : isFb i m = true) : ∃ cs t, m.s.hp[i]? = some (.f (gOfF i m) cs t) := by
  unfold isFb at h
  unfold gOfF
  split at h
  · rename_i g cs t hi; exact ⟨cs, t, by rw [hi]⟩
  · cases h
theorem At.unf {X : Act → World → Prop} {S : SS} {i g : Nat} {cs : List Value} {t : TypeId} (hi : S.hp[i]? = some (.f g cs t)) (hb : (⟨SV.nmL i g S.fr, S.hp⟩ : SS).bd = true) (k : At Γ Φ ⟨SV.nmL i g S.fr, S.hp⟩ X) : At Γ Φ S X :=
  fun β a w h => k β a w ⟨mat_nm (h.own.f i g cs t hi).1 h.fr, h.df, h.own, h.sto, h.lo, h.keep, h.phi, hb, h.pin, h.len⟩
theorem WN.unf (q i : Nat) (k : WN Γ Q Φ (unfM (GN Γ Φ q m) i (gOfF i (GN Γ Φ q m))) o K) (hi : isFb i (GN Γ Φ q m) = true := by kernel_rfl)
    (hb : (unfM (GN Γ Φ q m) i (gOfF i (GN Γ Φ q m))).s.bd = true := by kernel_rfl) : WN Γ Q Φ m o K := ⟨fun r hr =>
  AtN.go q fun hd => by
    obtain ⟨cs, t, hi⟩ := isFb_spec hi
    exact At.unf hi hb (k.run r hr hd)⟩

def deM (m : MS) : Option (FuncId × List SV) :=
  match opM m with
  | some o => match o.op with
    | .defer { callee := .value fo, args, argTypes := _ } => match args.toList, o.dst, fnOf (m.s.get fo) with
      | [], none, some (f, [], caps) => some (f, caps)
      | _, _, _ => none
    | _ => none
  | none => none
theorem AtN.defer {Q : QT} {cl : FuncId} {caps : Array Value} (h : deM m = some (cl, caps.toList.map .v)) (k1 : AtN { Γ with df := { target := .fn (.func cl) caps, args := #[] } :: Γ.df } Q Φ ⟨popM m, m.s⟩) : AtN Γ Q Φ m := by
  intro hd
  unfold deM at h
  split at h
  · rename_i o' ho
    split at h
    · rename_i fo args aty hop
      split at h
      · rename_i f caps' ha hdst hfn
        simp only [Option.some.injEq, Prod.mk.injEq] at h
        obtain ⟨rfl, rfl⟩ := h
        obtain ⟨all, l, k', hk, hw, hp, _⟩ := opM_spec ho
        obtain ⟨fs, S⟩ := m
        simp only at hk hw hfn hd; subst hk
        have ha' : args = #[] := by apply Array.ext'; exact ha
        subst ha'
        have k2 := k1 (by rw [hp]; exact hd)
        rw [hp] at k2
        exact At.defer hop hdst hw hfn k2
      · cases h
    · cases h
  · cases h
theorem WN.defer (q : Nat) (cl : FuncId) (caps : Array Value) (k : WN { Γ with df := { target := .fn (.func cl) caps, args := #[] } :: Γ.df } Q Φ ⟨popM (GN Γ Φ q m), (GN Γ Φ q m).s⟩ o K)
    (h : deM (GN Γ Φ q m) = some (cl, caps.toList.map .v) := by kernel_rfl) : WN Γ Q Φ m o K := ⟨fun r hr => AtN.go q (AtN.defer h (k.run r hr))⟩

/- a store into a row of the call's own -/
def oG (i : Nat) (m : MS) : Nat := match m.s.hp[i]? with | some (.o (.slice (some ⟨g, _, _⟩) _ _) _ _ _ _) => g | _ => 0
def oN (i : Nat) (m : MS) : Nat := match m.s.hp[i]? with | some (.o _ n _ _ _) => n | _ => 0
def oC (i : Nat) (m : MS) : Nat := match m.s.hp[i]? with | some (.o (.slice _ _ c) _ _ _ _) => c | _ => 0
def oX (i : Nat) (m : MS) : List Value := match m.s.hp[i]? with | some (.o _ _ xs _ _) => xs | _ => []
def oE (i : Nat) (m : MS) : Nat := match m.s.hp[i]? with | some (.o _ _ _ e _) => e | _ => 0
def oZ (i : Nat) (m : MS) : Nat := match m.s.hp[i]? with | some (.o _ _ _ _ z) => z | _ => 0
def stoP (m : MS) : Option (TypeId × SV × SV) :=
  match opM m with
  | some o => match o.op with
    | .store t p y => some (t, m.s.get p, m.s.get y)
    | _ => none
  | none => none
def stoT (m : MS) : TypeId := match stoP m with | some (t, _, _) => t | none => 0
def stoY (m : MS) : SV := match stoP m with | some (_, _, y) => y | none => .u
def stoOff (m : MS) : Nat := match stoP m with | some (_, .v (.pointer (some ⟨_, off, _⟩)), _) => off | _ => 0
def stoVals (m : MS) : List Value := match (stoY m).cells with | some cs => cs.map (fun x => match x with | .v x => x | _ => undef) | none => []
def stoM (m : MS) (i : Nat) : MS := ⟨popM m, ⟨(m.s.put (dstM m) (.v undef)).fr, m.s.hp.set i (.o (.slice (some ⟨oG i m, 0, none⟩) (oN i m) (oC i m)) (oN i m) ((oX i m).take (stoOff m) ++ stoVals m ++ (oX i m).drop (stoOff m + (stoVals m).length)) (oE i m) (oZ i m))⟩⟩
structure StoOk (P : Program) (m : MS) (i : Nat) : Prop where
  h : stoP m = some (stoT m, .v (.pointer (some ⟨oG i m, stoOff m, none⟩)), stoY m)
  y : (stoY m).cells = some ((stoVals m).map .v)
  row : m.s.hp[i]? = some (.o (.slice (some ⟨oG i m, 0, none⟩) (oN i m) (oC i m)) (oN i m) (oX i m) (oE i m) (oZ i m))
  one : (stoVals m).all (fun u => u.oneCell') = true
  sz : szT P (stoT m) = some (stoVals m).length
  fit : Nat.ble (stoOff m + (stoVals m).length) (oX i m).length = true
  bd : (stoM m i).s.bd = true
theorem At.stoM {Q : QT} {md : Option Nat} {i : Nat} (h : StoOk Γ.P m i) (k : At Γ Φ (stoM m i).s (exits Γ.P md Q (stoM m i).k .normal)) : At Γ Φ m.s (exits Γ.P md Q m.k .normal) := by
  have h1 := h.h
  unfold stoP at h1
  split at h1
  · rename_i o ho
    split at h1
    · rename_i t p y hop
      simp only [Option.some.injEq, Prod.mk.injEq] at h1
      obtain ⟨e1, e2, e3⟩ := h1
      obtain ⟨all, l, k', hk, hw, hp, hd⟩ := opM_spec ho
      have hbd := h.bd
      unfold Go.Sx.stoM at k hbd
      rw [hp, hd] at k
      rw [hd] at hbd
      have hy := h.y
      rw [← e3] at hy
      have hsz := h.sz
      rw [← e1] at hsz
      rw [hk]
      exact At.strow hop hw e2 i h.row (stoVals m) hy (List.all_eq_true.1 h.one) hsz (Nat.le_of_ble_eq_true h.fit) (by unfold putH; rw [if_pos hbd]) k
    · cases h1
  · cases h1
theorem noDrw_popM (m : MS) : noDrw (popM m) = noDrw m.k := by
  unfold popM
  split
  · rename_i h; rw [h]; rfl
  · rfl
theorem WN.sto (q i : Nat) (k : WN Γ Q Φ (stoM (GN Γ Φ q m) i) o K) (h : StoOk Γ.P (GN Γ Φ q m) i := by exact ⟨by kernel_rfl, by kernel_rfl, by kernel_rfl, by kernel_rfl, by kernel_rfl, by kernel_rfl, by kernel_rfl⟩) : WN Γ Q Φ m o K :=
  ⟨fun r hr => AtN.go q fun hd => At.stoM h (k.run r hr (by show noDrw (popM _) = true; rw [noDrw_popM]; exact hd))⟩
theorem W.sto (q i : Nat) (k : W Γ Q Φ (stoM (GM Γ Φ q m) i) o K) (h : StoOk Γ.P (GM Γ Φ q m) i := by exact ⟨by kernel_rfl, by kernel_rfl, by kernel_rfl, by kernel_rfl, by kernel_rfl, by kernel_rfl, by kernel_rfl⟩) : W Γ Q Φ m o K :=
  ⟨fun r hr => AtM.go q fun env hd => At.stoM h (k r hr env (by
    have h1 : drwOk Φ (GM Γ Φ q m).s (popM (GM Γ Φ q m)) := by
      unfold popM
      split
      · rename_i hk; rw [hk] at hd; exact hd
      · exact hd
    exact drwOk.sub (fSub_set rfl) h1))⟩
end
end Go.Sx
