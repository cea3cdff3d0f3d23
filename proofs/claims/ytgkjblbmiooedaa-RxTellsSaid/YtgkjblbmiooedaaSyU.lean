/- SyU: addresses within rows of the call's own: reads, stores. General: no program. -/
import Derived.Test.YtgkjblbmiooedaaSyT
namespace Go.Sx
open Go.RowKit

section
variable {A R : Type} {Γ : Ctx} {Q : R → QT} {Φ : Phi} {m : MS} {o : Option A} {K : A → Option R} {L : List En}
variable {α : Type} {enc : α → D} {xs : List α} {vs : List Value} {z : Int} {sz n c : Nat} {B : Option Addr} {t : TypeId} {e : α}

/-- A part that there is. -/
theorem W.ixg {F : α → Option A} (k : ∀ e, 0 ≤ z → xs[z.toNat]? = some e → W Γ Q Φ m (F e) K) : W Γ Q Φ m (ixd xs z F) K := ⟨fun r hr => by
  unfold ixd at hr
  split at hr
  · rename_i h0
    split at hr
    · rename_i e he; exact k e h0 he r hr
    · simp at hr
  · simp at hr⟩

theorem AtM.intro {Q : QT} (k : ∀ β a w, St Γ Φ β m.s a w → AtM Γ Q Φ m) : AtM Γ Q Φ m := fun env hdr β a w h => k β a w h env hdr β a w h

/-- An address within a row of the call's own. -/
theorem W.ixo (q i p : Nat) (kd : IntKind) (he0 : 0 ≤ z) (he : xs[z.toNat]? = some e) (H : Reps Φ L) (k : ∀ pv, Reps Φ (.ap B (z.toNat * sz) pv :: L) → W Γ Q Φ (putM (GM Γ Φ q m) (.v pv)) o K)
    (hp : L[p]? = some (.r sz (xs.map enc) vs) := by rfl) (hi : (GM Γ Φ q m).s.hp[i]? = some (.o (.slice B n c) n vs t sz) := by kernel_rfl) (h : ixM Γ.P (GM Γ Φ q m) = some (.slice B n c, sz, kd, z) := by kernel_rfl) (hsz : 0 < sz := by decide) : W Γ Q Φ m o K := by
  refine ⟨fun r hr => AtM.go q (AtM.intro fun β a w hst => ?_)⟩
  obtain ⟨o', t', x, ix, e', ho, hop, hu, hs, hx, hz⟩ := ixM_spec h
  have hrr : Rr Φ sz (xs.map enc) vs := H.get p hp
  have hvl := hrr.len
  rw [List.length_map] at hvl
  have hlt := lt_get he
  obtain ⟨h1, h2⟩ := hst.own.o i _ n vs t sz hi
  have hn : n = xs.length := by rw [hvl] at h1; exact (Nat.eq_of_mul_eq_mul_right hsz h1).symm
  rcases h2 with ⟨hv, hn0⟩ | ⟨g, cap, cur, hv, _, hg, h3, h4, h5, h6⟩
  · omega
  · injection hv with hv1 hv2 hv3
    subst hv1
    exact AtM.val ho (.v (.pointer (some ⟨g, 0 + z.toNat * sz, none⟩))) rfl (Val.idx hop hu hs hx hz he0 (by omega)) (k _ (H.cons (e := .ap _ _ _) ⟨g, rfl, by rw [Nat.zero_add]⟩) r hr)

def faoM (P : Program) (m : MS) : Option (Value × Nat) :=
  match opM m with
  | some o => match o.op with
    | .fieldAddr t x f => match m.s.get x, offT P t f with
      | .v v, some (k, _) => some (v, k)
      | _, _ => none
    | _ => none
  | none => none
theorem W.fao (q p : Nat) {off kk : Nat} {v : Value} (H : Reps Φ L) (k : ∀ pv, Reps Φ (.ap B (off + kk) pv :: L) → W Γ Q Φ (putM (GM Γ Φ q m) (.v pv)) o K) (hp : L[p]? = some (.ap B off v) := by rfl) (h : faoM Γ.P (GM Γ Φ q m) = some (v, kk) := by kernel_rfl) : W Γ Q Φ m o K := by
  refine ⟨fun r hr => AtM.go q ?_⟩
  unfold faoM at h
  repeat' split at h
  all_goals first | cases h; done | skip
  rename_i o' ho _ t' x f hop _ _ v' kk' ty hx hoff
  cases h
  obtain ⟨g, rfl, rfl⟩ : ∃ g, B = some ⟨g, 0, none⟩ ∧ v = .pointer (some ⟨g, off, none⟩) := H.get p hp
  refine AtM.val ho (.v (.pointer (some ⟨g, off + kk, none⟩))) rfl (fun β a w0 hst => ⟨_, ?_, .inr rfl⟩) (k _ (H.cons (e := .ap _ _ _) ⟨g, rfl, rfl⟩) r hr)
  unfold execOp; rw [hop]
  simp only [fits_v hst hx, Sem.run_bind, run_fieldAt hoff, Result.andThen_ok, Sem.run_pure]
  rfl

theorem drwOk_popM {S : SS} (h : drwOk Φ S m.k) : drwOk Φ S (popM m) := by
  unfold popM
  split
  · rename_i hk; rw [hk] at h; exact h
  · exact h
theorem fSub_dead {fr : List SV} {hp : List Blk} {i : Nat} : fSub ⟨fr, hp.set i .dead⟩ ⟨fr, hp⟩ := by
  intro j g cs t hj
  simp only [List.getElem?_set] at hj
  split at hj
  · split at hj <;> cases hj
  · exact hj

theorem Ra.append {Φ : Phi} : ∀ {l l' : List D} {ws ws' : List Value}, Ra Φ l ws → Ra Φ l' ws' → Ra Φ (l ++ l') (ws ++ ws')
  | [], _, _, _, h, h' => by simp only [Ra] at h; subst h; exact h'
  | x :: l, l', _, ws', h, h' => by
    simp only [Ra] at h
    obtain ⟨u, us, rfl, h1, h2⟩ := h
    simp only [List.cons_append, Ra]
    exact ⟨u, us ++ ws', rfl, h1, h2.append h'⟩
theorem Ra.slice {Φ : Phi} {l : List D} {ws : List Value} (k n : Nat) (h : Ra Φ l ws) : Ra Φ ((l.drop k).take n) ((ws.drop k).take n) := Ra.take n (Ra.drop k h)

/-- A read at such an address: of a part, or a field of it. -/
theorem W.ldo (q i p p2 : Nat) (bs : List Bool) {x : D} {kk : Nat} {v : Value} (he : xs[z.toNat]? = some e) (H : Reps Φ L)
    (k : VrAll bs fun us => Reps Φ (cellEn x.cells us ++ L) → W Γ Q Φ (putM (GM Γ Φ q m) (ldSV (aggM Γ.P (GM Γ Φ q m)) (cellSV x.cells us))) o K)
    (hx : x.cells = ((enc e).cells.drop kk).take x.cells.length := by kernel_rfl) (hp : L[p]? = some (.r sz (xs.map enc) vs) := by rfl) (hp2 : L[p2]? = some (.ap B (z.toNat * sz + kk) v) := by rfl) (hi : (GM Γ Φ q m).s.hp[i]? = some (.o (.slice B n c) n vs t sz) := by kernel_rfl)
    (h : ldM Γ.P x.cells (GM Γ Φ q m) = some v := by kernel_rfl) (hb : vrs x.cells = bs := by kernel_rfl) (hsz : 0 < sz := by decide) : W Γ Q Φ m o K := by
  refine ⟨fun r hr => AtM.go q ?_⟩
  have hrr : Rr Φ sz (xs.map enc) vs := H.get p hp
  have hvl := hrr.len
  rw [List.length_map] at hvl
  have hlt := lt_get he
  have hpos : 0 < vs.length := by rw [hvl]; exact Nat.mul_pos (by omega) hsz
  obtain ⟨us0, hul, hrc, hget⟩ := hrr.get (i := z.toNat) (x := enc e) (by rw [List.getElem?_map, he]; rfl)
  obtain ⟨g, rfl, rfl⟩ : ∃ g, B = some ⟨g, 0, none⟩ ∧ v = .pointer (some ⟨g, z.toNat * sz + kk, none⟩) := H.get p2 hp2
  have hk := VrAll.get k
  have hrc2 : Rc Φ x ((us0.drop kk).take x.cells.length) := by
    refine Rc.of_cells ?_
    have := hrc.cells.slice kk x.cells.length
    rwa [← hx] at this
  change ldM Γ.P x.cells (goM Γ.P Γ.md.isNone Φ q m) = _ at h
  change (goM Γ.P Γ.md.isNone Φ q m).s.hp[i]? = _ at hi
  change ∀ us : List Vr, us.map Vr.isS = bs → Reps Φ (cellEn x.cells us ++ L) → W Γ Q Φ (putM (goM Γ.P Γ.md.isNone Φ q m) (ldSV (aggM Γ.P (goM Γ.P Γ.md.isNone Φ q m)) (cellSV x.cells us))) o K at hk
  generalize goM Γ.P Γ.md.isNone Φ q m = m1 at h hi hk ⊢
  obtain ⟨ks, fr, hp1⟩ := m1
  intro env hdr
  refine At.lent i hi hpos (fun Φ1 hle hR back => ?_)
  have hM : AtM Γ (Q r) Φ1 ⟨ks, ⟨fr, hp1.set i .dead⟩⟩ := by
    obtain ⟨b, off, cs, tt, zz, hbb, hΦ1, hcs⟩ := hR hpos
    cases hbb
    refine AtM.ld2 (ws := (us0.drop kk).take x.cells.length) (fun _ => ⟨g, _, cs, tt, zz, rfl, hΦ1, fun j u hj => ?_⟩) hrc2 h fun us hus hus2 => ?_
    · have h1 : us0[kk + j]? = some u := by
        rw [List.getElem?_take] at hj
        split at hj
        · rwa [List.getElem?_drop] at hj
        · cases hj
      have h2 := hcs _ _ (hget _ _ h1)
      rw [Nat.zero_add] at h2
      rw [Nat.add_assoc]; exact h2
    have hk2 := (hk us (hus.trans hb) (hus2.app H)).run r hr
    rw [aggM_hp Γ.P ks fr (hp1.set i .dead) hp1]
    obtain ⟨e1, e2⟩ := putM_hp ks fr (hp1.set i .dead) hp1 (ldSV (aggM Γ.P ⟨ks, ⟨fr, hp1⟩⟩) (cellSV x.cells us))
    rw [putM_eq ks fr (hp1.set i .dead), e1, e2]
    rw [putM_eq ks fr hp1] at hk2
    have hd3 : ∀ S', fSub S' ⟨fr, hp1⟩ → drwOk Φ S' (putM ⟨ks, ⟨fr, hp1⟩⟩ (ldSV (aggM Γ.P ⟨ks, ⟨fr, hp1⟩⟩) (cellSV x.cells us))).k := fun S' hs => drwOk_popM (m := ⟨ks, ⟨fr, hp1⟩⟩) (drwOk.sub hs hdr)
    generalize (putM ⟨ks, ⟨fr, hp1⟩⟩ (ldSV (aggM Γ.P ⟨ks, ⟨fr, hp1⟩⟩) (cellSV x.cells us))).k = k3 at hk2 hd3 ⊢
    generalize (putM ⟨ks, ⟨fr, hp1⟩⟩ (ldSV (aggM Γ.P ⟨ks, ⟨fr, hp1⟩⟩) (cellSV x.cells us))).s.fr = fr3 at hk2 ⊢
    intro env' hdr'
    by_cases hbd : (⟨fr3, hp1⟩ : SS).bd = true
    · exact back fr3 _ (hk2 env (hd3 _ (fSub.of_hp rfl))) hbd
    · exact fun β a w h => absurd (bd_undead hi h.bd) hbd
  exact hM env (drwOk.mono hle fSub_dead hdr)

def sroM (m : MS) (i : Nat) (V : Value) (n : Nat) (us : List Value) (t sz : Nat) : MS := ⟨popM m, ⟨(m.s.put (dstM m) (.v undef)).fr, m.s.hp.set i (.o V n us t sz)⟩⟩
/-- A store at such an address: of a part, or a field of it. -/
theorem W.sro (q i p p2 : Nat) {y : α} {kk : Nat} {v : Value} {ds : List D} {us : List Value} {es : List En} {F : List α → Option A} (he : xs[z.toNat]? = some e) (ps : List Nat) (H : Reps Φ L)
    (k : ∀ (l : List α) vs', Reps Φ (.r sz (l.map enc) vs' :: L) → W Γ Q Φ (sroM (GM Γ Φ q m) i (.slice B n c) n vs' t sz) (F l) K) (hv : RaOk ds us es) (hes : ps.map (L[·]?) = es.map some := by rfl)
    (hy : ∀ e : α, (enc e).cells.length = sz := by (intro _; kernel_rfl)) (hx : (enc y).cells = (enc e).cells.take kk ++ ds ++ (enc e).cells.drop (kk + ds.length) := by kernel_rfl)
    (hp : L[p]? = some (.r sz (xs.map enc) vs) := by rfl) (hp2 : L[p2]? = some (.ap B (z.toNat * sz + kk) v) := by rfl) (hi : (GM Γ Φ q m).s.hp[i]? = some (.o (.slice B n c) n vs t sz) := by kernel_rfl)
    (h : (stoP (GM Γ Φ q m)).map (fun x => (x.2.1, x.2.2.cells, szT Γ.P x.1)) = some (.v v, some (us.map .v), some us.length) := by kernel_rfl) (hone : us.all (fun u => u.oneCell') = true := by kernel_rfl) (hkk : Nat.ble (kk + us.length) sz = true := by kernel_rfl)
    (hbd : ∀ vs', (sroM (GM Γ Φ q m) i (.slice B n c) n vs' t sz).s.bd = true := by (intro _; kernel_rfl)) : W Γ Q Φ m (std xs z y F) K := by
  refine ⟨fun r hr => AtM.go q ?_⟩
  have hrr : Rr Φ sz (xs.map enc) vs := H.get p hp
  have hvl := hrr.len
  rw [List.length_map] at hvl
  have hlt := lt_get he
  have hds : ds.length = us.length := by
    have := (hv.ra (H.sub ps hes)).len; exact this.symm
  obtain ⟨us0, hul, hrc, hget⟩ := hrr.get (i := z.toNat) (x := enc e) (by rw [List.getElem?_map, he]; rfl)
  have hkl := Nat.le_of_ble_eq_true hkk
  have hz : z.toNat * sz + sz ≤ vs.length := by
    rw [hvl]
    have : (z.toNat + 1) * sz ≤ xs.length * sz := Nat.mul_le_mul_right _ (by omega)
    rw [Nat.add_mul, Nat.one_mul] at this
    exact this
  unfold std at hr
  split at hr
  · rename_i hz0
    obtain ⟨g, rfl, rfl⟩ : ∃ g, B = some ⟨g, 0, none⟩ ∧ v = .pointer (some ⟨g, z.toNat * sz + kk, none⟩) := H.get p2 hp2
    have hry : Rc Φ (enc y) (us0.take kk ++ us ++ us0.drop (kk + us.length)) := by
      refine Rc.of_cells ?_
      rw [hx, hds]
      have hra := hrc.cells
      exact ((hra.take kk).append (hv.ra (H.sub ps hes))).append (hra.drop (kk + us.length))
    have hnew := hrr.set (i := z.toNat) (by rw [List.length_map]; exact hlt) hry (by simp only [List.length_append, List.length_take, List.length_drop]; omega)
    have hvs' : vs.take (z.toNat * sz) ++ (us0.take kk ++ us ++ us0.drop (kk + us.length)) ++ vs.drop (z.toNat * sz + (us0.take kk ++ us ++ us0.drop (kk + us.length)).length) = vs.take (z.toNat * sz + kk) ++ us ++ vs.drop (z.toNat * sz + kk + us.length) := by
      have hseg : us0 = (vs.drop (z.toNat * sz)).take sz := by
        apply List.ext_getElem?
        intro j
        rw [List.getElem?_take]
        split
        · rename_i hj
          rw [List.getElem?_drop]
          have hj2 : j < us0.length := by omega
          rw [List.getElem?_eq_getElem hj2, hget j _ (List.getElem?_eq_getElem hj2)]
        · rw [List.getElem?_eq_none (by omega)]
      have hlen : (us0.take kk ++ us ++ us0.drop (kk + us.length)).length = sz := by simp only [List.length_append, List.length_take, List.length_drop]; omega
      rw [hlen]
      apply List.ext_getElem?
      intro j
      simp only [List.getElem?_append, List.length_append, List.length_take, List.length_drop, List.getElem?_take, List.getElem?_drop, hseg]
      by_cases h1 : j < z.toNat * sz
      · have e1 : j < min (z.toNat * sz) vs.length + (min kk (min sz (vs.length - z.toNat * sz)) + us.length + (min sz (vs.length - z.toNat * sz) - (kk + us.length))) := by omega
        have e2 : j < min (z.toNat * sz) vs.length := by omega
        have e3 : j < min (z.toNat * sz + kk) vs.length + us.length := by omega
        have e4 : j < min (z.toNat * sz + kk) vs.length := by omega
        simp only [e1, e2, e3, e4, h1, if_true, show j < z.toNat * sz + kk by omega]
      · by_cases h2 : j < z.toNat * sz + kk
        · have e1 : j < min (z.toNat * sz) vs.length + (min kk (min sz (vs.length - z.toNat * sz)) + us.length + (min sz (vs.length - z.toNat * sz) - (kk + us.length))) := by omega
          have e2 : ¬ j < min (z.toNat * sz) vs.length := by omega
          have e3 : j < min (z.toNat * sz + kk) vs.length + us.length := by omega
          have e4 : j < min (z.toNat * sz + kk) vs.length := by omega
          have e5 : j - min (z.toNat * sz) vs.length < min kk (min sz (vs.length - z.toNat * sz)) + us.length := by omega
          have e6 : j - min (z.toNat * sz) vs.length < min kk (min sz (vs.length - z.toNat * sz)) := by omega
          have e7 : j - min (z.toNat * sz) vs.length < kk := by omega
          have e8 : j - min (z.toNat * sz) vs.length < sz := by omega
          simp only [e1, e2, e3, e4, e5, e6, e7, e8, h2, if_true, if_false]
          congr 1; omega
        · by_cases h3 : j < z.toNat * sz + kk + us.length
          · have e1 : j < min (z.toNat * sz) vs.length + (min kk (min sz (vs.length - z.toNat * sz)) + us.length + (min sz (vs.length - z.toNat * sz) - (kk + us.length))) := by omega
            have e2 : ¬ j < min (z.toNat * sz) vs.length := by omega
            have e3 : j < min (z.toNat * sz + kk) vs.length + us.length := by omega
            have e4 : ¬ j < min (z.toNat * sz + kk) vs.length := by omega
            have e5 : j - min (z.toNat * sz) vs.length < min kk (min sz (vs.length - z.toNat * sz)) + us.length := by omega
            have e6 : ¬ j - min (z.toNat * sz) vs.length < min kk (min sz (vs.length - z.toNat * sz)) := by omega
            simp only [e1, e2, e3, e4, e5, e6, if_true, if_false]
            congr 1; omega
          · by_cases h4 : j < z.toNat * sz + sz
            · have e1 : j < min (z.toNat * sz) vs.length + (min kk (min sz (vs.length - z.toNat * sz)) + us.length + (min sz (vs.length - z.toNat * sz) - (kk + us.length))) := by omega
              have e2 : ¬ j < min (z.toNat * sz) vs.length := by omega
              have e3 : ¬ j < min (z.toNat * sz + kk) vs.length + us.length := by omega
              have e5 : ¬ j - min (z.toNat * sz) vs.length < min kk (min sz (vs.length - z.toNat * sz)) + us.length := by omega
              have e7 : kk + us.length + (j - min (z.toNat * sz) vs.length - (min kk (min sz (vs.length - z.toNat * sz)) + us.length)) < sz := by omega
              simp only [e1, e2, e3, e5, e7, if_true, if_false]
              congr 1; omega
            · have e1 : ¬ j < min (z.toNat * sz) vs.length + (min kk (min sz (vs.length - z.toNat * sz)) + us.length + (min sz (vs.length - z.toNat * sz) - (kk + us.length))) := by omega
              have e3 : ¬ j < min (z.toNat * sz + kk) vs.length + us.length := by omega
              simp only [e1, e3, if_false]
              congr 1; omega
    rw [hvs', ← List.map_set] at hnew
    have hk := (k (xs.set z.toNat y) _ (H.cons (e := .r _ _ _) hnew)).run r hr
    have hbd' := hbd (vs.take (z.toNat * sz + kk) ++ us ++ vs.drop (z.toNat * sz + kk + us.length))
    simp only [GM] at hk hbd' h hi
    generalize goM Γ.P Γ.md.isNone Φ q m = m1 at h hi hk hbd' ⊢
    obtain ⟨⟨ty, pp, yy⟩, hsp, hq⟩ := Option.map_eq_some_iff.1 h
    simp only [Prod.mk.injEq] at hq
    obtain ⟨hq1, hq2, hq3⟩ := hq
    unfold stoP at hsp
    split at hsp
    · rename_i o' ho
      split at hsp
      · rename_i ty' pp' yy' hop
        simp only [Option.some.injEq, Prod.mk.injEq] at hsp
        obtain ⟨rfl, rfl, rfl⟩ := hsp
        obtain ⟨all, l, k', hks, hw, hpm, hdm⟩ := opM_spec ho
        obtain ⟨fs, S⟩ := m1
        simp only at hks hw hi hq1 hq2; subst hks
        intro env hdr
        have hk2 := hk env (drwOk.sub (fSub_set rfl) (drwOk_popM hdr))
        unfold sroM at hk2 hbd'
        rw [hpm, hdm] at hk2
        rw [hdm] at hbd'
        exact At.strow hop hw hq1 i hi us hq2 (List.all_eq_true.1 hone) hq3 (by omega) (by unfold putH; simp only at hbd'; rw [if_pos hbd']) hk2
      · cases hsp
    · cases hsp
  · simp at hr

/- a row's length, told by what it holds -/
def relM (m : MS) (i : Nat) (V : Value) (n : Nat) (us : List Value) (t sz : Nat) (ds : List Nat) : MS := ⟨m.k, ⟨setVs ds V m.s.fr, m.s.hp.set i (.o V n us t sz)⟩⟩
theorem relM_id {i : Nat} {V : Value} {us : List Value} {ds : List Nat} (hi : m.s.hp[i]? = some (.o V n us t sz)) (hds : ds.map (m.s.fr[·]?) = ds.map (fun _ => some (.v V))) : relM m i V n us t sz ds = m := by
  obtain ⟨k, fr, hp⟩ := m
  unfold relM
  simp only at hi hds ⊢
  rw [setVs_id hds]
  congr 2
  apply List.ext_getElem?
  intro j
  rw [List.getElem?_set]
  split
  · rename_i e; subst e
    have hlt := lt_get hi
    rw [if_pos hlt, hi]
  · rfl
theorem W.rln (q i : Nat) (ds : List Nat) {n n' : Nat} (hn : n = n') (k : W Γ Q Φ (relM (GM Γ Φ q m) i (.slice B n' c) n' vs t sz ds) o K)
    (hi : (GM Γ Φ q m).s.hp[i]? = some (.o (.slice B n c) n vs t sz) := by kernel_rfl) (hds : ds.map ((GM Γ Φ q m).s.fr[·]?) = ds.map (fun _ => some (.v (.slice B n c))) := by kernel_rfl) : W Γ Q Φ m o K := ⟨fun r hr => by
  subst hn
  rw [relM_id hi hds] at k
  exact AtM.go q (k.run r hr)⟩
theorem W.rel (q i p : Nat) (ds : List Nat) {l : List α} (H : Reps Φ L) (k : W Γ Q Φ (relM (GM Γ Φ q m) i (.slice B l.length c) l.length vs t sz ds) o K) (hp : L[p]? = some (.r sz (l.map enc) vs) := by rfl)
    (hi : (GM Γ Φ q m).s.hp[i]? = some (.o (.slice B n c) n vs t sz) := by kernel_rfl) (hds : ds.map ((GM Γ Φ q m).s.fr[·]?) = ds.map (fun _ => some (.v (.slice B n c))) := by kernel_rfl) (hsz : 0 < sz := by decide) : W Γ Q Φ m o K := by
  refine ⟨fun r hr => AtM.go q (AtM.intro fun β a w hst => ?_)⟩
  have hrr : Rr Φ sz (l.map enc) vs := H.get p hp
  have hvl := hrr.len
  rw [List.length_map] at hvl
  obtain ⟨h1, _⟩ := hst.own.o i _ n vs t sz hi
  have hn : n = l.length := by rw [hvl] at h1; exact (Nat.eq_of_mul_eq_mul_right hsz h1).symm
  subst hn
  rw [relM_id hi hds] at k
  exact k.run r hr
def lnd (a b : Nat) (X : Option A) : Option A := if a = b then X else none
theorem W.lnd {a b : Nat} (k : a = b → W Γ Q Φ m o K) : W Γ Q Φ m (Sx.lnd a b o) K := ⟨fun r hr => by
  unfold Sx.lnd at hr
  split at hr
  · rename_i h; exact k h r hr
  · cases hr⟩
end
end Go.Sx
