/- SyT: rows of the call's own that are read where they lie. General: no program. -/
import Derived.Test.YtgkjblbmiooedaaSyS
namespace Go.Sx
open Go.RowKit

section
variable {A R : Type} {Γ : Ctx} {Q : R → QT} {Φ : Phi} {m : MS} {o : Option A} {K : A → Option R} {L : List En}

/-- For a while a row of the call's own is one that stays. -/
theorem At.lent {S : SS} {X : Act → World → Prop} (i : Nat) {B : Option Addr} {n c : Nat} {xs : List Value} {t : TypeId} {sz : Nat} (hi : S.hp[i]? = some (.o (.slice B n c) n xs t sz)) (hpos : 0 < xs.length)
    (k : ∀ Φ1, PhiLe 0 Φ Φ1 → RdC Φ1 B xs → (∀ fr X, At Γ Φ ⟨fr, S.hp⟩ X → (⟨fr, S.hp⟩ : SS).bd = true → At Γ Φ1 ⟨fr, S.hp.set i .dead⟩ X) → At Γ Φ1 ⟨S.fr, S.hp.set i .dead⟩ X) : At Γ Φ S X := by
  intro β a w h
  obtain ⟨h1, h2⟩ := h.own.o i _ n xs t sz hi
  have hlt := lt_get hi
  rcases h2 with ⟨hv, hn0⟩ | ⟨g, cap, cur, hv, _, hg, h3, h4, h5, h6⟩
  · rw [h1, hn0] at hpos; simp at hpos
  injection hv with hv1 hv2 hv3
  subst hv1 hv3
  have hgo : (Blk.o (.slice (some ⟨g, 0, none⟩) n c) n xs t sz).bid β i = some g := rfl
  have hΦg : Φ g = none := h.own.phi i _ g hi hgo
  have hlo := h.lo i _ g hi hgo
  have hsplit : ∀ {j : Nat} {y : Blk}, (S.hp.set i .dead)[j]? = some y → (j ≠ i ∧ S.hp[j]? = some y) ∨ y = .dead := by
    intro j y hj
    rw [List.getElem?_set] at hj
    by_cases e : i = j
    · subst e; simp [hlt] at hj; exact .inr hj.symm
    · rw [if_neg e] at hj; exact .inl ⟨fun e' => e e'.symm, hj⟩
  have hjoin : ∀ {j : Nat} {y : Blk}, j ≠ i → S.hp[j]? = some y → (S.hp.set i .dead)[j]? = some y := by
    intro j y hj hy
    rw [List.getElem?_set, if_neg (fun e => hj e.symm)]; exact hy
  have hne : ∀ (j : Nat) (y : Blk) (q : Nat), j ≠ i → S.hp[j]? = some y → y.bid β j = some q → q ≠ g := by
    rintro j y q hj hy hq rfl
    exact hj (h.own.inj _ _ _ _ _ hy hi hq hgo)
  obtain ⟨Φ1, hΦ1⟩ : ∃ Φ1 : Phi, Φ1 = fun b => if b = g then some (.cells cur t (0, 0)) else Φ b := ⟨_, rfl⟩
  have h1g : Φ1 g = some (.cells cur t (0, 0)) := by rw [hΦ1]; show (if _ then _ else _) = _; rw [if_pos rfl]
  have h1o : ∀ b, b ≠ g → Φ1 b = Φ b := fun b hb => by rw [hΦ1]; show (if _ then _ else _) = _; rw [if_neg hb]
  have hle1 : ∀ b cs, Φ b = some cs → Φ1 b = some cs := fun b cs hb => by rw [h1o b (by rintro rfl; rw [hΦg] at hb; cases hb)]; exact hb
  have hst1 : St Γ Φ1 β ⟨S.fr, S.hp.set i .dead⟩ a w := by
    refine ⟨h.fr, h.df, ⟨?_, ?_, ?_, ?_, ?_⟩, ?_, ?_, h.keep, ⟨fun b cs hb => hle1 b cs (h.phi.1 b cs hb), fun b hb hn => ?_⟩, ?_, h.pin, by simp only [List.length_set]; exact h.len⟩
    · intro j cs t' hj
      rcases hsplit hj with ⟨_, hj⟩ | he
      · exact h.own.c j cs t' hj
      · cases he
    · intro j v q ys t' s hj
      rcases hsplit hj with ⟨_, hj⟩ | he
      · exact h.own.o j v q ys t' s hj
      · cases he
    · intro p q bp bq kk hp hq lp lq
      rcases hsplit hp with ⟨_, hp⟩ | rfl
      · rcases hsplit hq with ⟨_, hq⟩ | rfl
        · exact h.own.inj p q bp bq kk hp hq lp lq
        · cases lq
      · cases lp
    · intro p b kk hp hk
      rcases hsplit hp with ⟨hpi, hp⟩ | rfl
      · rw [h1o kk (hne p b kk hpi hp hk)]; exact h.own.phi p b kk hp hk
      · cases hk
    · intro j g' cs t' hj
      rcases hsplit hj with ⟨_, hj⟩ | he
      · exact ⟨(h.own.f j g' cs t' hj).1, hle1 _ _ (h.own.f j g' cs t' hj).2⟩
      · cases he
    · intro b cs hb
      by_cases e : b = g
      · subst e; rw [h1g] at hb; cases hb; exact ⟨hg, rfl⟩
      · rw [h1o b e] at hb; exact h.sto b cs hb
    · intro p b kk hp hk
      rcases hsplit hp with ⟨_, hp⟩ | rfl
      · exact h.lo p b kk hp hk
      · cases hk
    · rw [h1o b (by
        rintro rfl
        rcases hlo with h' | h'
        · omega
        · exact hn h')]
      exact h.phi.2 b hb hn
    · have := h.bd
      unfold SS.bd at this ⊢
      rw [Bool.and_eq_true] at this ⊢
      simp only [List.length_set]
      refine ⟨this.1, List.all_eq_true.2 fun x hx => ?_⟩
      rcases List.mem_or_eq_of_mem_set hx with hx | rfl
      · exact List.all_eq_true.1 this.2 x hx
      · rfl
  refine k Φ1 ⟨hle1, fun _ h => absurd h (Nat.not_lt_zero _)⟩ (fun _ => ⟨g, 0, cur, t, (0, 0), rfl, h1g, fun j u hj => ?_⟩) ?_ β a w hst1
  · rw [← h6, List.getElem?_take] at hj
    split at hj
    · rw [Nat.zero_add]; simpa using hj
    · cases hj
  · intro fr X hX hbd β' a' w' h'
    refine hX β' a' w' ?_
    have hdead : ∀ (j : Nat) (y : Blk), S.hp[j]? = some y → (j ≠ i ∧ (S.hp.set i .dead)[j]? = some y) ∨ (j = i ∧ y = .o (.slice (some ⟨g, 0, none⟩) n c) n xs t sz) := by
      intro j y hj
      by_cases e : j = i
      · subst e; rw [hi] at hj; cases hj; exact .inr ⟨rfl, rfl⟩
      · exact .inl ⟨e, hjoin e hj⟩
    have hne' : ∀ (j : Nat) (y : Blk) (q : Nat), (S.hp.set i .dead)[j]? = some y → y.bid β' j = some q → q ≠ g := by
      rintro j y q hy hq rfl
      have := h'.own.phi j y q hy hq
      rw [h1g] at this; cases this
    refine ⟨h'.fr, h'.df, ⟨?_, ?_, ?_, ?_, ?_⟩, fun b cs hb => h'.sto b cs (hle1 b cs hb), ?_, h'.keep, h.phi, hbd, h'.pin, by have := h'.len; simp only [List.length_set] at this; exact this⟩
    · intro j cs t' hj
      rcases hdead j _ hj with ⟨_, hj⟩ | ⟨_, he⟩
      · exact h'.own.c j cs t' hj
      · cases he
    · intro j v q ys t' s hj
      rcases hdead j _ hj with ⟨_, hj⟩ | ⟨_, he⟩
      · exact h'.own.o j v q ys t' s hj
      · cases he
        exact ⟨h1, .inr ⟨g, c, cur, rfl, Nat.zero_le _, (h'.sto g _ h1g).1, h3, h4, h5, h6⟩⟩
    · intro p q bp bq kk hp hq lp lq
      rcases hdead p _ hp with ⟨_, hp'⟩ | ⟨rfl, rfl⟩ <;> rcases hdead q _ hq with ⟨_, hq'⟩ | ⟨rfl, rfl⟩
      · exact h'.own.inj p q bp bq kk hp' hq' lp lq
      · cases lq; exact absurd rfl (hne' p _ _ hp' lp)
      · cases lp; exact absurd rfl (hne' q _ _ hq' lq)
      · rfl
    · intro p b kk hp hk
      rcases hdead p _ hp with ⟨_, hp'⟩ | ⟨rfl, rfl⟩
      · rw [← h1o kk (hne' p b kk hp' hk)]; exact h'.own.phi p b kk hp' hk
      · cases hk; exact hΦg
    · intro j g' cs t' hj
      have := h.own.f j g' cs t' hj
      rcases hdead j _ hj with ⟨_, hj'⟩ | ⟨_, he⟩
      · exact ⟨(h'.own.f j g' cs t' hj').1, this.2⟩
      · cases he
    · intro p b kk hp hk
      rcases hdead p _ hp with ⟨_, hp'⟩ | ⟨rfl, rfl⟩
      · exact h'.lo p b kk hp' hk
      · cases hk; exact hlo

/-- A read of what a pointer points to, whose parts stay by another's word. -/
theorem AtM.ld2 {Q : QT} {Φ1 : Phi} {x : D} {b off : Nat} {ws : List Value} (hR : RdC Φ1 (some ⟨b, off, none⟩) ws) (hrc : Rc Φ x ws) (h : ldM Γ.P x.cells m = some (.pointer (some ⟨b, off, none⟩))) (k : ∀ us : List Vr, us.map Vr.isS = vrs x.cells → Reps Φ (cellEn x.cells us) → AtM Γ Q Φ1 (putM m (ldSV (aggM Γ.P m) (cellSV x.cells us)))) : AtM Γ Q Φ1 m := by
  obtain ⟨o, t, q, d, ho, hop, hq, hu, hs, hne, hag, hagm⟩ := ldM_spec h
  have hra := hrc.cells
  have hwl := hra.len
  obtain ⟨us, h1, h2, h3⟩ := hra.open
  have hk := k us h1 h3
  rw [hagm] at hk
  have hok : ∀ l : List Value, SV.okL 0 (l.map SV.v) = true := fun l => all_okL 0 _ (by intro y hy; obtain ⟨z, _, rfl⟩ := List.mem_map.1 hy; rfl)
  have hpos : 0 < ws.length := by omega
  rcases Bool.eq_false_or_eq_true (aggD d) with hd | hd
  · rw [hd] at hk
    have hl : ldB Γ.P t (ws.map .v) 0 = some (.agg (ws.map .v)) := ldB_vals hu (by rw [hs, hwl]) hd
    refine AtM.val ho (.agg (ws.map .v)) ?_ (Val.ldB hop hR hpos 0 off rfl hq _ hl) (by rw [h2]; exact hk)
    simp only [SV.ok]; exact hok ws
  · rw [hd] at hk
    have h11 : ws.length = 1 := by
      rw [hwl]
      rcases hag with h | h
      · rw [hd] at h; cases h
      · exact h
    obtain ⟨u, rfl⟩ := List.length_eq_one_iff.1 h11
    have hl : ldB Γ.P t ([u].map .v) 0 = some (.v u) := by unfold ldB; rw [hu, hs]; simp only [hd]; rfl
    refine AtM.val ho (.v u) rfl (Val.ldB hop hR hpos 0 off rfl hq _ hl) ?_
    rw [← h2] at hk
    exact hk

theorem opM_hp (k : List Fr) (fr : List SV) (hp hp' : List Blk) : opM ⟨k, ⟨fr, hp⟩⟩ = opM ⟨k, ⟨fr, hp'⟩⟩ := rfl
theorem putM_hp (k : List Fr) (fr : List SV) (hp hp' : List Blk) (x : SV) : (putM ⟨k, ⟨fr, hp⟩⟩ x).k = (putM ⟨k, ⟨fr, hp'⟩⟩ x).k ∧ (putM ⟨k, ⟨fr, hp⟩⟩ x).s.fr = (putM ⟨k, ⟨fr, hp'⟩⟩ x).s.fr := by
  refine ⟨rfl, ?_⟩
  unfold putM dstM
  rw [opM_hp k fr hp hp']
  simp only
  cases (opM ⟨k, ⟨fr, hp'⟩⟩).bind (·.dst) <;> rfl
theorem putM_eq (k : List Fr) (fr : List SV) (hp : List Blk) (x : SV) : putM ⟨k, ⟨fr, hp⟩⟩ x = ⟨(putM ⟨k, ⟨fr, hp⟩⟩ x).k, ⟨(putM ⟨k, ⟨fr, hp⟩⟩ x).s.fr, hp⟩⟩ := by
  have h : (putM ⟨k, ⟨fr, hp⟩⟩ x).s.hp = hp := put_hp _ _ _
  generalize putM ⟨k, ⟨fr, hp⟩⟩ x = m at h ⊢
  obtain ⟨a, b, c⟩ := m
  simp only at h; subst h; rfl
theorem ldM_hp (P : Program) (l : List D) (k : List Fr) (fr : List SV) (hp hp' : List Blk) : ldM P l ⟨k, ⟨fr, hp⟩⟩ = ldM P l ⟨k, ⟨fr, hp'⟩⟩ := rfl
theorem aggM_hp (P : Program) (k : List Fr) (fr : List SV) (hp hp' : List Blk) : aggM P ⟨k, ⟨fr, hp⟩⟩ = aggM P ⟨k, ⟨fr, hp'⟩⟩ := rfl
theorem bd_undead {fr : List SV} {hp : List Blk} {i : Nat} {v : Value} {n : Nat} {xs : List Value} {t : TypeId} {sz : Nat} (hi : hp[i]? = some (.o v n xs t sz)) (h : (⟨fr, hp.set i .dead⟩ : SS).bd = true) : (⟨fr, hp⟩ : SS).bd = true := by
  unfold SS.bd at h ⊢
  rw [Bool.and_eq_true] at h ⊢
  simp only [List.length_set] at h
  refine ⟨h.1, List.all_eq_true.2 fun x hx => ?_⟩
  obtain ⟨j, hj⟩ := List.mem_iff_getElem?.1 hx
  by_cases e : j = i
  · subst e; rw [hi] at hj; cases hj; rfl
  · exact List.all_eq_true.1 h.2 x (List.mem_of_getElem? (i := j) (by rw [List.getElem?_set, if_neg (fun q => e q.symm)]; exact hj))

/-- A part of a row of the call's own is read: its address, then what lies there. -/
theorem W.rdo (q i p : Nat) (kd : IntKind) (bs : List Bool) {α : Type} {enc : α → D} {xs : List α} {vs : List Value} {F : α → Option A} {z : Int} {sz n c : Nat} {B : Option Addr} {t : TypeId} (H : Reps Φ L)
    (k : ∀ e pv, VrAll bs fun us => Reps Φ (cellEn (enc e).cells us ++ L) → W Γ Q Φ (putM (putM (GM Γ Φ q m) (.v pv)) (ldSV (aggM Γ.P (putM (GM Γ Φ q m) (.v pv))) (cellSV (enc e).cells us))) (F e) K)
    (hp : L[p]? = some (.r sz (xs.map enc) vs) := by rfl) (hi : (GM Γ Φ q m).s.hp[i]? = some (.o (.slice B n c) n vs t sz) := by kernel_rfl) (h : ixM Γ.P (GM Γ Φ q m) = some (.slice B n c, sz, kd, z) := by kernel_rfl) (hsz : 0 < sz := by decide)
    (h2 : ∀ e pv, ldM Γ.P (enc e).cells (putM (GM Γ Φ q m) (.v pv)) = some pv := by (intro _ _; kernel_rfl)) (hb : ∀ e, vrs (enc e).cells = bs := by (intro _; kernel_rfl)) (hd : noDrw (GM Γ Φ q m).k = true := by kernel_rfl) : W Γ Q Φ m (ixd xs z F) K := by
  refine ⟨fun r hr => ?_⟩
  refine AtM.go q ?_
  have hi' : (goM Γ.P Γ.md.isNone Φ q m).s.hp[i]? = some (.o (.slice B n c) n vs t sz) := hi
  have h' : ixM Γ.P (goM Γ.P Γ.md.isNone Φ q m) = some (.slice B n c, sz, kd, z) := h
  unfold ixd at hr
  split at hr
  · rename_i h0
    split at hr
    · rename_i e he
      have hrr : Rr Φ sz (xs.map enc) vs := H.get p hp
      have hlt := lt_get he
      have hvl := hrr.len
      rw [List.length_map] at hvl
      obtain ⟨us0, hul, hrc, hget⟩ := hrr.get (i := z.toNat) (x := enc e) (by rw [List.getElem?_map, he]; rfl)
      have hpos : 0 < vs.length := by rw [hvl]; exact Nat.mul_pos (by omega) hsz
      have hk := k e
      have h2' : ∀ pv, ldM Γ.P (enc e).cells (putM (goM Γ.P Γ.md.isNone Φ q m) (.v pv)) = some pv := h2 e
      have hd' : noDrw (goM Γ.P Γ.md.isNone Φ q m).k = true := hd
      change ∀ pv, VrAll bs fun us => Reps Φ (cellEn (enc e).cells us ++ L) → W Γ Q Φ (putM (putM (goM Γ.P Γ.md.isNone Φ q m) (.v pv)) (ldSV (aggM Γ.P (putM (goM Γ.P Γ.md.isNone Φ q m) (.v pv))) (cellSV (enc e).cells us))) (F e) K at hk
      generalize goM Γ.P Γ.md.isNone Φ q m = m1 at hi' h' hk h2' hd' ⊢
      obtain ⟨ks, S⟩ := m1
      obtain ⟨fr, hp1⟩ := S
      have h'' : ixM Γ.P ⟨ks, ⟨fr, hp1.set i .dead⟩⟩ = some (.slice B n c, sz, kd, z) := h'
      obtain ⟨o1, t1, x1, ix, e1, ho, hop, hu, hs, hx, hz⟩ := ixM_spec h''
      intro env hdr β a w hst
      have hn : n = xs.length := by
        have h1 := (hst.own.o i _ n vs t sz hi').1
        rw [hvl] at h1
        exact (Nat.eq_of_mul_eq_mul_right hsz h1).symm
      refine At.lent i hi' hpos (fun Φ1 hle hR back => ?_) β a w hst
      obtain ⟨b, off, cs, tt, zz, rfl, hΦ1, hcs⟩ := hR hpos
      have hk1 := VrAll.get (hk (.pointer (some ⟨b, off + z.toNat * sz, none⟩)))
      have h21 := h2' (.pointer (some ⟨b, off + z.toNat * sz, none⟩))
      have hM : AtM Γ (Q r) Φ1 ⟨ks, ⟨fr, hp1.set i .dead⟩⟩ := by
        refine AtM.val ho (.v (.pointer (some ⟨b, off + z.toNat * sz, none⟩))) rfl (Val.idx hop hu hs hx hz h0 (by omega)) ?_
        obtain ⟨e1, e2⟩ := putM_hp ks fr (hp1.set i .dead) hp1 (.v (.pointer (some ⟨b, off + z.toNat * sz, none⟩)))
        rw [putM_eq ks fr (hp1.set i .dead), e1, e2]
        rw [putM_eq ks fr hp1] at h21 hk1
        have hd2 : noDrw (putM ⟨ks, ⟨fr, hp1⟩⟩ (.v (.pointer (some ⟨b, off + z.toNat * sz, none⟩)))).k = true := (noDrw_popM _).trans hd'
        generalize (putM ⟨ks, ⟨fr, hp1⟩⟩ (.v (.pointer (some ⟨b, off + z.toNat * sz, none⟩)))).k = k2 at h21 hk1 hd2 ⊢
        generalize (putM ⟨ks, ⟨fr, hp1⟩⟩ (.v (.pointer (some ⟨b, off + z.toNat * sz, none⟩)))).s.fr = fr2 at h21 hk1 ⊢
        refine AtM.ld2 (ws := us0) (fun _ => ⟨b, _, cs, tt, zz, rfl, hΦ1, fun j u hj => by rw [Nat.add_assoc]; exact hcs _ _ (hget j u hj)⟩) hrc h21 fun us hus hus2 => ?_
        have hk2 := (hk1 us (hus.trans (hb e)) (hus2.app H)).run r hr
        rw [aggM_hp Γ.P k2 fr2 (hp1.set i .dead) hp1]
        obtain ⟨e1, e2⟩ := putM_hp k2 fr2 (hp1.set i .dead) hp1 (ldSV (aggM Γ.P ⟨k2, ⟨fr2, hp1⟩⟩) (cellSV (enc e).cells us))
        rw [putM_eq k2 fr2 (hp1.set i .dead), e1, e2]
        rw [putM_eq k2 fr2 hp1] at hk2
        have hd3 : noDrw (putM ⟨k2, ⟨fr2, hp1⟩⟩ (ldSV (aggM Γ.P ⟨k2, ⟨fr2, hp1⟩⟩) (cellSV (enc e).cells us))).k = true := (noDrw_popM _).trans hd2
        generalize (putM ⟨k2, ⟨fr2, hp1⟩⟩ (ldSV (aggM Γ.P ⟨k2, ⟨fr2, hp1⟩⟩) (cellSV (enc e).cells us))).k = k3 at hk2 hd3 ⊢
        generalize (putM ⟨k2, ⟨fr2, hp1⟩⟩ (ldSV (aggM Γ.P ⟨k2, ⟨fr2, hp1⟩⟩) (cellSV (enc e).cells us))).s.fr = fr3 at hk2 ⊢
        intro env' hdr'
        by_cases hbd : (⟨fr3, hp1⟩ : SS).bd = true
        · exact back fr3 _ (hk2 env (drwOk.none hd3)) hbd
        · exact fun β a w h => absurd (bd_undead hi' h.bd) hbd
      exact hM env (drwOk.none hd')
    · simp at hr
  · simp at hr
end
end Go.Sx
