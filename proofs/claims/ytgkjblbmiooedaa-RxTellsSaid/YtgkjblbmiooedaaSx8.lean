/- Sx8: calls. General: no program. -/
import Derived.Test.YtgkjblbmiooedaaSx7
namespace Go.Sx
open Go.RowKit

def fnOf : SV → Option (FuncId × List SV × List SV)
  | .v (.func (.func f) first caps) => some (f, first.toList.map .v, caps.toList.map .v)
  | .fn (.func f) caps => some (f, [], caps)
  | _ => none

/-- The caller's number of the callee's block j: handed in, or new. -/
def inR (idx : List Nat) (j : Nat) : Nat := idx.getD j 0
def outR (idx : List Nat) (n : Nat) (j : Nat) : Nat := if j < idx.length then idx.getD j 0 else n + (j - idx.length)

def setMany (hp : List Blk) : List Nat → List Blk → List Blk
  | i :: idx, b :: bs => setMany (hp.set i b) idx bs
  | _, _ => hp

def mergeS (S : SS) (idx : List Nat) (d : Option Tmp) (x : SV) (hp' : List Blk) : SS :=
  { fr := (S.put d (x.ren (outR idx S.hp.length))).fr
    hp := setMany S.hp idx ((hp'.take idx.length).map (Blk.ren (outR idx S.hp.length))) ++ (hp'.drop idx.length).map (Blk.ren (outR idx S.hp.length)) }
def mergeP (S : SS) (idx : List Nat) (hp' : List Blk) : SS :=
  { fr := S.fr
    hp := setMany S.hp idx ((hp'.take idx.length).map (Blk.ren (outR idx S.hp.length))) ++ (hp'.drop idx.length).map (Blk.ren (outR idx S.hp.length)) }

theorem setMany_length : ∀ (idx : List Nat) (bs hp : List Blk), (setMany hp idx bs).length = hp.length
  | [], _, _ => by simp [setMany]
  | i :: idx, [], _ => by simp [setMany]
  | i :: idx, b :: bs, hp => by simp only [setMany]; rw [setMany_length idx bs, List.length_set]

theorem setMany_get : ∀ (idx : List Nat) (bs hp : List Blk) (i : Nat) (b : Blk), idx.Nodup → idx.length = bs.length → (setMany hp idx bs)[i]? = some b →
    (i ∉ idx ∧ hp[i]? = some b) ∨ ∃ j : Nat, idx[j]? = some i ∧ bs[j]? = some b
  | [], bs, hp, i, b, _, _, h => by simp only [setMany] at h; exact .inl ⟨by simp, h⟩
  | k :: idx, [], hp, i, b, _, hl, h => by simp at hl
  | k :: idx, c :: bs, hp, i, b, hn, hl, h => by
    simp only [setMany] at h
    rw [List.nodup_cons] at hn
    rcases setMany_get idx bs (hp.set k c) i b hn.2 (by simpa using hl) h with ⟨hi, hb⟩ | ⟨j, hj, hb⟩
    · rw [List.getElem?_set] at hb
      by_cases e : k = i
      · subst e
        simp only [if_true] at hb
        split at hb
        · cases hb
          exact .inr ⟨0, rfl, rfl⟩
        · cases hb
      · rw [if_neg e] at hb
        exact .inl ⟨by simp [hi]; exact fun e' => e e'.symm, hb⟩
    · exact .inr ⟨j + 1, hj, hb⟩


section
variable {Γ : Ctx} {Φ : Phi} {S S' : SS} {Q : Exit → Act → World → Prop}

/-- The world behind a call, told in the caller's numbers. -/
theorem St.called {β : Nat → Nat} {a : Act} {w w' : World} (h : St Γ Φ β S a w) {idx : List Nat} {hpI : List Blk} (hnd : idx.Nodup) (hlen : idx.length = hpI.length)
    (hsub : ∀ (j i : Nat), idx[j]? = some i → ∃ b : Blk, hpI[j]? = some b ∧ S.hp[i]? = some (b.ren (inR idx)))
    {Φ' : Phi} {β' : Nat → Nat} {hp' : List Blk}
    (h4 : hpI.length ≤ hp'.length) (h5 : ∀ i, i < hpI.length → β' i = β (inR idx i)) (h6 : Own β' hp' Φ' w') (h7 : Sto Φ' w') (h8 : Keep (gOf (fun i => β (inR idx i)) hpI) w w') (h9 : PhiG (gOf (fun i => β (inR idx i)) hpI) w.heap.size Φ Φ')
    (h10 : ∀ (i : Nat) (b : Blk) (k : Nat), hp'[i]? = some b → b.bid β' i = some k → w.heap.size ≤ k ∨ ∃ i, gOf (fun i => β (inR idx i)) hpI i k)
    (a' : Act) (fr' : List SV) (hdf : a'.defers = Γ.df) (hfr : ∀ β₁, (∀ i, i < S.hp.length → β₁ i = β i) → (∀ j, j < hp'.length → β₁ (outR idx S.hp.length j) = β' j) → Mat β₁ fr' a'.tmps.toList)
    (hp₁ : List Blk) (hhp : hp₁ = setMany S.hp idx ((hp'.take idx.length).map (Blk.ren (outR idx S.hp.length))) ++ (hp'.drop idx.length).map (Blk.ren (outR idx S.hp.length)))
    (hbd : ({ fr := fr', hp := hp₁ } : SS).bd = true) (hbd' : hp'.all (Blk.bd hp'.length) = true) :
    ∃ β₁, St Γ Φ' β₁ { fr := fr', hp := hp₁ } a' w' := by
  have hidx : ∀ (j i : Nat), idx[j]? = some i → i < S.hp.length := by
    intro j i hj
    obtain ⟨b, _, hb⟩ := hsub j i hj
    rcases Nat.lt_or_ge i S.hp.length with hlt | hge
    · exact hlt
    · rw [List.getElem?_eq_none hge] at hb; cases hb
  let β₁ : Nat → Nat := fun i => if i < S.hp.length then β i else β' (idx.length + (i - S.hp.length))
  have e1 : ∀ i, i < S.hp.length → β₁ i = β i := fun i hi => if_pos hi
  have e2 : ∀ j, j < hp'.length → β₁ (outR idx S.hp.length j) = β' j := by
    intro j hj
    unfold outR
    by_cases hjm : j < idx.length
    · rw [if_pos hjm]
      have hget : idx[j]? = some (idx.getD j 0) := by rw [List.getElem?_eq_getElem hjm, List.getD, List.getElem?_eq_getElem hjm]; rfl
      rw [e1 _ (hidx j _ hget), h5 j (by omega)]
      rfl
    · rw [if_neg hjm]
      show (if _ then _ else _) = _
      rw [if_neg (by omega)]
      congr 1
      omega
  have hmat : ∀ {cs : List SV} {vs : List Value}, cs.all (SV.bd hp'.length) = true → Mat β' cs vs → Mat β₁ (SV.renL (outR idx S.hp.length) cs) vs := by
    intro cs vs hcs hm
    exact mat_ren.2 (hm.congr (n := hp'.length) (fun i hi => (e2 i hi).symm) hcs)
  have hl1 : ((hp'.take idx.length).map (Blk.ren (outR idx S.hp.length))).length = idx.length := by
    rw [List.length_map, List.length_take]; omega
  -- each block is an old one that was not handed in, or one of the callee's
  have hsplit : ∀ {i : Nat} {y : Blk}, hp₁[i]? = some y → (i < S.hp.length ∧ i ∉ idx ∧ S.hp[i]? = some y) ∨ ∃ (j : Nat) (b : Blk), hp'[j]? = some b ∧ y = b.ren (outR idx S.hp.length) ∧ i = outR idx S.hp.length j := by
    intro i y hi
    rw [hhp, List.getElem?_append] at hi
    split at hi
    · rename_i hlt
      rw [setMany_length] at hlt
      rcases setMany_get idx _ S.hp i y hnd hl1.symm hi with ⟨hni, hy⟩ | ⟨j, hj, hy⟩
      · exact .inl ⟨hlt, hni, hy⟩
      · right
        rw [List.getElem?_map] at hy
        have hjm : j < idx.length := by
          rcases Nat.lt_or_ge j idx.length with h' | h'
          · exact h'
          · rw [List.getElem?_eq_none h'] at hj; cases hj
        cases hb : (hp'.take idx.length)[j]? with
        | none => rw [hb] at hy; cases hy
        | some b =>
          rw [hb] at hy
          cases hy
          rw [List.getElem?_take, if_pos hjm] at hb
          refine ⟨j, b, hb, rfl, ?_⟩
          unfold outR
          rw [if_pos hjm, List.getD, hj]
          rfl
    · rename_i hge
      rw [setMany_length] at hge hi
      right
      rw [List.getElem?_map, List.getElem?_drop] at hi
      cases hb : hp'[idx.length + (i - S.hp.length)]? with
      | none => rw [hb] at hi; cases hi
      | some b =>
        rw [hb] at hi
        cases hi
        refine ⟨_, b, hb, rfl, ?_⟩
        unfold outR
        rw [if_neg (by omega)]
        omega
  have hltj : ∀ {j : Nat} {b : Blk}, hp'[j]? = some b → j < hp'.length := by
    intro j b hb
    rcases Nat.lt_or_ge j hp'.length with h' | h'
    · exact h'
    · rw [List.getElem?_eq_none h'] at hb; cases hb
  have hbid : ∀ {j : Nat} {b : Blk}, hp'[j]? = some b → (b.ren (outR idx S.hp.length)).bid β₁ (outR idx S.hp.length j) = b.bid β' j := by
    intro j b hb
    cases b <;> simp only [Blk.ren, Blk.bid]
    rw [e2 j (hltj hb)]
  have hbid0 : ∀ {i : Nat} {b : Blk}, i < S.hp.length → b.bid β₁ i = b.bid β i := fun hi => bid_congr (e1 _ hi) _
  -- the blocks that were handed in, told by the caller
  have hG : ∀ j k, gOf (fun i => β (inR idx i)) hpI j k → ∃ (i : Nat) (b : Blk), idx[j]? = some i ∧ S.hp[i]? = some b ∧ b.bid β i = some k := by
    rintro j k ⟨b, hb, hk⟩
    have hjm : j < idx.length := by
      rw [hlen]
      rcases Nat.lt_or_ge j hpI.length with h' | h'
      · exact h'
      · rw [List.getElem?_eq_none h'] at hb; cases hb
    obtain ⟨b', hb', hS⟩ := hsub j idx[j] (List.getElem?_eq_getElem hjm)
    rw [hb] at hb'
    cases hb'
    refine ⟨_, _, List.getElem?_eq_getElem hjm, hS, ?_⟩
    have hr : inR idx j = idx[j] := by unfold inR; rw [List.getD, List.getElem?_eq_getElem hjm]; rfl
    cases b <;> simp only [Blk.ren, Blk.bid] at hk ⊢
    · exact hk
    · rw [← hr]; exact hk
    · exact hk
    · exact hk
  -- an old block that was not handed in stays
  have hold : ∀ {i : Nat} {b : Blk} {k : Nat}, i ∉ idx → S.hp[i]? = some b → b.bid β i = some k → w'.heap[k]? = w.heap[k]? := by
    intro i b k hni hb hk
    refine h8.block k (h.own.lt hb hk) fun hg => ?_
    obtain ⟨j, hg⟩ := hg
    obtain ⟨i', b', hj, hb', hk'⟩ := hG j k hg
    have := h.own.inj i i' b b' k hb hb' hk hk'
    subst this
    exact hni (List.mem_of_getElem? hj)
  refine ⟨β₁, ⟨hfr β₁ e1 e2, hdf, ⟨?_, ?_, ?_, ?_, fun i g cs t hi => by
    rcases hsplit hi with ⟨hlt, hni, hi⟩ | ⟨j, b, hb, he, rfl⟩
    · rw [e1 i hlt]; exact ⟨(h.own.f i g cs t hi).1, h9.1 _ _ (h.own.f i g cs t hi).2⟩
    · cases b with
      | f g' cs' t' =>
        simp only [Blk.ren, Blk.f.injEq] at he
        obtain ⟨rfl, rfl, rfl⟩ := he
        rw [e2 j (hltj hb)]
        exact h6.f j g cs t hb
      | dead => cases he
      | c cs' t' => cases he
      | o v n xs t' sz => cases he⟩, h7, ?_, ?_, ?_, hbd, fun i hi => by rw [e1 i (by have := h.len; omega)]; exact h.pin i hi, ?_⟩⟩
  · intro i cs t hi
    rcases hsplit hi with ⟨hlt, hni, hi⟩ | ⟨j, b, hb, he, rfl⟩
    · obtain ⟨vs, hv, hm⟩ := h.own.c i cs t hi
      rw [e1 i hlt]
      exact ⟨vs, by rw [hold hni hi rfl]; exact hv, hm.congr (n := S.hp.length) (fun i hi => (e1 i hi).symm) (SS.bd_hp h.bd hi)⟩
    · cases b with
      | c cs' t' =>
        simp only [Blk.ren, Blk.c.injEq] at he
        obtain ⟨rfl, rfl⟩ := he
        obtain ⟨vs, hv, hm⟩ := h6.c j cs' t hb
        rw [e2 j (hltj hb)]
        exact ⟨vs, hv, hmat (List.all_eq_true.1 hbd' _ (List.mem_of_getElem? hb)) hm⟩
      | dead => cases he
      | f => cases he
      | o v n xs t' sz => cases he
  · intro i v n xs t sz hi
    rcases hsplit hi with ⟨hlt, hni, hi⟩ | ⟨j, b, hb, he, rfl⟩
    · exact ownsO_keep (h.own.o i v n xs t sz hi) fun g hg => hold hni hi hg
    · cases b with
      | o v' n' xs' t' sz' =>
        simp only [Blk.ren, Blk.o.injEq] at he
        obtain ⟨rfl, rfl, rfl, rfl, rfl⟩ := he
        exact h6.o j v n xs t sz hb
      | dead => cases he
      | f => cases he
      | c cs t' => cases he
  · intro i j bi bj k hi hj li lj
    rcases hsplit hi with ⟨hlt, hni, hi⟩ | ⟨p, b, hb, rfl, rfl⟩ <;> rcases hsplit hj with ⟨hlt', hni', hj⟩ | ⟨q, b', hb', rfl, rfl⟩
    · rw [hbid0 hlt] at li
      rw [hbid0 hlt'] at lj
      exact h.own.inj i j bi bj k hi hj li lj
    · rw [hbid0 hlt] at li
      rw [hbid hb'] at lj
      rcases h10 q b' k hb' lj with hk | ⟨jj, hk⟩
      · have := h.own.lt hi li; omega
      · obtain ⟨i', b2, hj', hb2, hk2⟩ := hG jj k hk
        have := h.own.inj i i' bi b2 k hi hb2 li hk2
        subst this
        exact absurd (List.mem_of_getElem? hj') hni
    · rw [hbid hb] at li
      rw [hbid0 hlt'] at lj
      rcases h10 p b k hb li with hk | ⟨jj, hk⟩
      · have := h.own.lt hj lj; omega
      · obtain ⟨i', b2, hj', hb2, hk2⟩ := hG jj k hk
        have := h.own.inj j i' bj b2 k hj hb2 lj hk2
        subst this
        exact absurd (List.mem_of_getElem? hj') hni'
    · rw [hbid hb] at li
      rw [hbid hb'] at lj
      rw [h6.inj p q b b' k hb hb' li lj]
  · intro i y k hi hy
    rcases hsplit hi with ⟨hlt, hni, hi⟩ | ⟨j, b, hb, rfl, rfl⟩
    · rw [hbid0 hlt] at hy
      rw [h9.2 k (h.own.lt hi hy) (by
        rintro ⟨j', hg⟩
        obtain ⟨i', b2, hj', hb2, hk2⟩ := hG j' k hg
        have := h.own.inj i i' y b2 k hi hb2 hy hk2
        subst this
        exact hni (List.mem_of_getElem? hj'))]
      exact h.own.phi i y k hi hy
    · rw [hbid hb] at hy
      exact h6.phi j b k hb hy
  · intro i y k hi hy
    rcases hsplit hi with ⟨hlt, hni, hi⟩ | ⟨j, b, hb, rfl, rfl⟩
    · rw [hbid0 hlt] at hy
      exact h.lo i y k hi hy
    · rw [hbid hb] at hy
      rcases h10 j b k hb hy with hk | ⟨jj, hk⟩
      · exact .inl (Nat.le_trans h.keep.size hk)
      · obtain ⟨i', b2, hj', hb2, hk2⟩ := hG jj k hk
        exact h.lo i' b2 k hb2 hk2
  · refine ⟨h8.os.trans h.keep.os, h8.tape.trans h.keep.tape, h8.output.trans h.keep.output, Nat.le_trans h.keep.size h8.size, fun k hk hn => ?_⟩
    rw [← h.keep.block k hk hn]
    refine h8.block k (Nat.lt_of_lt_of_le hk h.keep.size) fun hg => ?_
    obtain ⟨j', hg⟩ := hg
    obtain ⟨i', b2, hj', hb2, hk2⟩ := hG j' k hg
    rcases h.lo i' b2 k hb2 hk2 with h' | h'
    · omega
    · exact hn h'
  · refine ⟨fun b cs hb => h9.1 b cs (h.phi.1 b cs hb), fun b hb hn => ?_⟩
    rw [h9.2 b (Nat.lt_of_lt_of_le hb h.keep.size) (by
      rintro ⟨j', hg⟩
      obtain ⟨i', b2, hj', hb2, hk2⟩ := hG j' b hg
      rcases h.lo i' b2 b hb2 hk2 with h' | h'
      · omega
      · exact hn h')]
    exact h.phi.2 b hb hn
  · show Γ.n ≤ hp₁.length
    rw [hhp, List.length_append, setMany_length]
    have := h.len
    omega

theorem sub_own {β : Nat → Nat} {w : World} (h : Own β S.hp Φ w) {idx : List Nat} {hpI : List Blk} (hnd : idx.Nodup) (hlen : idx.length = hpI.length)
    (hsub : ∀ (j i : Nat), idx[j]? = some i → ∃ b : Blk, hpI[j]? = some b ∧ S.hp[i]? = some (b.ren (inR idx))) : Own (fun i => β (inR idx i)) hpI Φ w := by
  have hget : ∀ {j : Nat} {b : Blk}, hpI[j]? = some b → idx[j]? = some (inR idx j) ∧ S.hp[inR idx j]? = some (b.ren (inR idx)) := by
    intro j b hb
    have hjm : j < idx.length := by
      rw [hlen]
      rcases Nat.lt_or_ge j hpI.length with h' | h'
      · exact h'
      · rw [List.getElem?_eq_none h'] at hb; cases hb
    have hr : inR idx j = idx[j] := by unfold inR; rw [List.getD, List.getElem?_eq_getElem hjm]; rfl
    have hj : idx[j]? = some (inR idx j) := by rw [hr]; exact List.getElem?_eq_getElem hjm
    obtain ⟨b', hb', hS⟩ := hsub j _ hj
    rw [hb] at hb'
    cases hb'
    exact ⟨hj, hS⟩
  have hbid : ∀ {j : Nat} (b : Blk), (b.ren (inR idx)).bid β (inR idx j) = b.bid (fun i => β (inR idx i)) j := by
    intro j b; cases b <;> rfl
  refine ⟨?_, ?_, ?_, ?_, fun i g cs t hi => h.f _ g cs t (hget hi).2⟩
  · intro i cs t hi
    obtain ⟨vs, hv, hm⟩ := h.c _ _ t (hget hi).2
    exact ⟨vs, hv, mat_ren.1 hm⟩
  · intro i v n xs t sz hi
    exact h.o _ v n xs t sz (hget hi).2
  · intro i j bi bj k hi hj li lj
    have := h.inj _ _ _ _ k (hget hi).2 (hget hj).2 ((hbid bi).trans li) ((hbid bj).trans lj)
    have h1 := (hget hi).1
    have h2 := (hget hj).1
    rw [this] at h1
    have hi' : i < idx.length := by
      rcases Nat.lt_or_ge i idx.length with h' | h'
      · exact h'
      · rw [List.getElem?_eq_none h'] at h1; cases h1
    exact (List.getElem?_inj hi' hnd).1 (h1.trans h2.symm)
  · intro i b k hi hk
    exact h.phi _ _ k (hget hi).2 ((hbid b).trans hk)

theorem SS.hp_bd (h : S.bd = true) : S.hp.all (Blk.bd S.hp.length) = true := by
  unfold SS.bd at h; rw [Bool.and_eq_true] at h; exact h.2

theorem ok_ren {ρ : Nat → Nat} {n m : Nat} (h : ∀ i, i < n → ρ i < m) : ∀ x : SV, x.ok n = true → (x.ren ρ).ok m = true := by
  intro x
  refine SV.rec (motive_1 := fun x => x.ok n = true → (x.ren ρ).ok m = true) (motive_2 := fun l => SV.okL n l = true → SV.okL m (SV.renL ρ l) = true) ?_ ?_ ?_ ?_ ?_ ?_ ?_ ?_ ?_ ?_ x
  · intro h; cases h
  · intro _ _; rfl
  · intro i off hx; simp only [SV.ok, decide_eq_true_eq] at hx; simp only [SV.ren, SV.ok, decide_eq_true_eq]; exact h i hx
  · intro i off len cap hx; simp only [SV.ok, decide_eq_true_eq] at hx; simp only [SV.ren, SV.ok, decide_eq_true_eq]; exact h i hx
  · intro f l ih hx; exact ih hx
  · intro l ih hx; exact ih hx
  · intro l ih hx; exact ih hx
  · intro t x ih hx; exact ih hx
  · intro _; rfl
  · intro x l ih1 ih2 hx
    simp only [SV.okL, Bool.and_eq_true] at hx
    simp only [SV.renL, SV.okL, Bool.and_eq_true]
    exact ⟨ih1 hx.1, ih2 hx.2⟩

/-- A call: the callee by its contract; 'idx': the caller's blocks that it is handed. -/
theorem At.call {ops : Array Oper} {rest : List Oper} {o : Oper} {fo : Operand} {args : Array Operand} {argTypes : Array TypeId} (ho : o.op = .call { callee := .value fo, args, argTypes })
    (hw : wantS ops S o = some true) (f : FuncId) (first caps : List SV) (hfn : fnOf (S.get fo) = some (f, first, caps)) (fn : Func) (hf : Γ.P.funcs[f]? = some fn) (hbody : fn.body.isSome = true) (hname : (fn.name == "runtime.NumGoroutine") = false)
    (idx : List Nat) (av : List SV) (hpI : List Blk) (hav : first ++ args.toList.map S.get ++ caps = av.map (SV.ren (inR idx))) (hu : av.any SV.isU = false)
    (hnd : idx.Nodup) (hlen : idx.length = hpI.length) (hsub : ∀ (j i : Nat), idx[j]? = some i → ∃ b : Blk, hpI[j]? = some b ∧ S.hp[i]? = some (b.ren (inR idx)))
    {post : Post} (hC : CallG Γ.P f av hpI Φ post)
    (kr : ∀ Φ' x hp', PhiLe 0 Φ Φ' → post Φ' (.ret x) hp' → hpI.length ≤ hp'.length → (mergeS S idx o.dst x hp').bd = true ∧ At Γ Φ' (mergeS S idx o.dst x hp') (wpList Γ.P ops Q rest))
    (kp : ∀ Φ' ch hp', PhiLe 0 Φ Φ' → post Φ' (.pan ch) hp' → hpI.length ≤ hp'.length → (mergeP S idx hp').bd = true ∧ At Γ Φ' (mergeP S idx hp') (Q (.panic ch))) :
    At Γ Φ S (wpList Γ.P ops Q (o :: rest)) := by
  intro β a w h
  unfold wpList
  rw [if_pos (wanted_of h hw)]
  left
  have hown := sub_own h.own hnd hlen hsub
  have hcall := hC (fun i => β (inR idx i)) w h.sto hown
  -- the arguments are what the contract says
  have hargs : ∃ av', (args.toList.map a.eval) = av' ∧ (denL β first ++ av' ++ denL β caps) = av.map (den fun i => β (inR idx i)) := by
    refine ⟨_, rfl, ?_⟩
    have h1 : args.toList.map a.eval = (args.toList.map S.get).map (den β) := by
      rw [List.map_map]
      refine List.map_congr_left fun x hx => ?_
      refine (h.eval x).known fun hxu => ?_
      have hmem : S.get x ∈ av.map (SV.ren (inR idx)) := by
        rw [← hav]
        exact List.mem_append_left _ (List.mem_append_right _ (List.mem_map.2 ⟨x, hx, rfl⟩))
      rw [hxu] at hmem
      obtain ⟨y, hy, hyu⟩ := List.mem_map.1 hmem
      have : y = .u := ren_u.1 hyu
      subst this
      have := List.any_eq_false.1 hu _ hy
      simp [SV.isU] at this
    rw [h1, denL_eq, denL_eq, ← List.map_append, ← List.map_append, hav, List.map_map]
    refine List.map_congr_left fun y _ => ?_
    exact den_ren β (inR idx) y
  obtain ⟨av', hav', hargs⟩ := hargs
  have hrun : (execOp a.eval o).run Γ.P w = .ok (.enter f (av.map (den fun i => β (inR idx i))).toArray) w := by
    unfold execOp
    rw [ho]
    have hdef : ∃ fa ca : Array Value, a.eval fo = .func (.func f) fa ca ∧ fa.toList = denL β first ∧ ca.toList = denL β caps := by
      cases hg : S.get fo with
      | v z =>
        rw [hg] at hfn
        cases z with
        | func k fa ca =>
          cases k with
          | func f' =>
            simp only [fnOf, Option.some.injEq, Prod.mk.injEq] at hfn
            obtain ⟨rfl, rfl, rfl⟩ := hfn
            refine ⟨fa, ca, fits_v h hg, ?_, ?_⟩
            · rw [denL_eq, List.map_map]; exact (List.map_id _).symm
            · rw [denL_eq, List.map_map]; exact (List.map_id _).symm
          | _ => simp [fnOf] at hfn
        | _ => simp [fnOf] at hfn
      | fn k l =>
        rw [hg] at hfn
        cases k with
        | func f' =>
          simp only [fnOf, Option.some.injEq, Prod.mk.injEq] at hfn
          obtain ⟨rfl, rfl, rfl⟩ := hfn
          exact ⟨#[], (denL β l).toArray, ((h.eval fo).known (by rw [hg]; simp)).trans (by rw [hg]; rfl), rfl, by simp⟩
        | _ => simp [fnOf] at hfn
      | _ => rw [hg] at hfn; simp [fnOf] at hfn
    obtain ⟨fa, ca, hfe, hfa, hca⟩ := hdef
    have hb : fn.body.isNone = false := by cases hq : fn.body <;> simp_all
    simp only [resolve, hfe, Deferred.ofValue, Sem.run_bind, Sem.run_pure, Result.andThen_ok, invoke, callFunc, run_program, hf, hname, hb]
    simp only [Bool.false_eq_true, if_false, Sem.run_pure]
    congr 2
    apply Array.ext'
    have hargs' : denL β first ++ args.toList.map a.eval ++ denL β caps = av.map (den fun i => β (inR idx i)) := by rw [hav']; exact hargs
    rw [← hargs', ← hfa, ← hca]
    simp
  unfold Oper.wp
  rw [hrun]
  refine hcall.mono fun e w' hR => ?_
  obtain ⟨Φ', β', hp', es, h1, h2, h3, h4, h5, h6, h7, h8, h9, h10, h11⟩ := hR
  have hle : PhiLe 0 Φ Φ' := ⟨h9.1, fun _ h => by omega⟩
  cases es with
  | ret x =>
    obtain ⟨hbd, hk⟩ := kr Φ' x hp' hle h11 h4
    have he : e = .returned (den β' x) := h1
    subst he
    obtain ⟨β₁, hst⟩ := h.called hnd hlen hsub h4 h5 h6 h7 h8 h9 h10 (a.put o.dst (den β' x)) (mergeS S idx o.dst x hp').fr (by rw [Act.put_df]; exact h.df) (fun β₁ e1 e2 => by
      refine (h.fr.congr (n := S.hp.length) (fun i hi => (e1 i hi).symm) (SS.bd_fr h.bd)).put o.dst ?_
      right
      rw [den_ren]
      exact den_congr (n := hp'.length) (fun i hi => (e2 i hi).symm) x h2) _ rfl hbd h3
    exact hk β₁ _ _ hst
  | pan ch =>
    obtain ⟨hbd, hk⟩ := kp Φ' ch hp' hle h11 h4
    have he : e = .panicked ch := h1
    subst he
    obtain ⟨β₁, hst⟩ := h.called hnd hlen hsub h4 h5 h6 h7 h8 h9 h10 a S.fr h.df (fun β₁ e1 e2 => h.fr.congr (n := S.hp.length) (fun i hi => (e1 i hi).symm) (SS.bd_fr h.bd)) _ rfl hbd h3
    exact hk β₁ _ _ hst
end
end Go.Sx
