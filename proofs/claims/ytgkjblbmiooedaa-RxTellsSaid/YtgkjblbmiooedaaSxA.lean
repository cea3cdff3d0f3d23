/- SxA: append, slices, rows that are let go, panics. General: no program. -/
import Derived.Test.YtgkjblbmiooedaaSx9
namespace Go.Sx
open Go.RowKit

section
variable {Γ : Ctx} {Φ : Phi} {S S' : SS} {Q : Exit → Act → World → Prop} {ops : Array Oper} {rest : List Oper} {o : Oper}

/-- A row of the call's own has another owner now, in its block or a new one. -/
theorem St.rowTo {β : Nat → Nat} {a : Act} {w w' : World} (h : St Γ Φ β S a w) {i n n' : Nat} {V V' : Value} {xs xs' : List Value} {e : TypeId} {sz : Nat} (hi : S.hp[i]? = some (.o V n xs e sz))
    (hown : OwnsO w' e sz V' n' xs') (hg : w.grownBy w' (oBlock V)) (hb' : oBlock V' = oBlock V ∨ oBlock V' = some w.heap.size)
    (d : Option Tmp) {x : SV} {v : Value} (hx : Fits β x v) (hb : ({ fr := (S.put d x).fr, hp := S.hp.set i (.o V' n' xs' e sz) } : SS).bd = true) :
    St Γ Φ β { fr := (S.put d x).fr, hp := S.hp.set i (.o V' n' xs' e sz) } (a.put d v) w' := by
  have hlt := lt_get hi
  have hsplit : ∀ {j : Nat} {y : Blk}, (S.hp.set i (.o V' n' xs' e sz))[j]? = some y → (j ≠ i ∧ S.hp[j]? = some y) ∨ (j = i ∧ y = .o V' n' xs' e sz) := by
    intro j y hj
    rw [List.getElem?_set] at hj
    by_cases e : i = j
    · subst e; simp [hlt] at hj; exact .inr ⟨rfl, hj.symm⟩
    · rw [if_neg e] at hj; exact .inl ⟨fun e' => e e'.symm, hj⟩
  have hkeep : ∀ {j : Nat} {y : Blk} {k : Nat}, j ≠ i → S.hp[j]? = some y → y.bid β j = some k → w'.heap[k]? = w.heap[k]? := fun hj hy hl =>
    hg.block _ (h.own.lt hy hl) fun e => hj (h.own.inj _ _ _ _ _ hy hi hl e.symm)
  have hnew : ∀ {k : Nat}, oBlock V' = some k → oBlock V = some k ∨ k = w.heap.size := fun hk => by
    rcases hb' with h1 | h1
    · exact .inl (h1 ▸ hk)
    · right; rw [h1] at hk; cases hk; rfl
  refine ⟨h.fr.put d hx, by rw [Act.put_df]; exact h.df, ⟨?_, ?_, ?_, ?_, fun j g cs t hj => by
    rcases hsplit hj with ⟨_, hj⟩ | ⟨rfl, he⟩
    · exact h.own.f j g cs t hj
    · cases he⟩, ?_, ?_, ?_, h.phi, hb, h.pin, by rw [List.length_set]; exact h.len⟩
  · intro j cs t hj
    rcases hsplit hj with ⟨hji, hj⟩ | ⟨rfl, he⟩
    · obtain ⟨vs, hv, hm⟩ := h.own.c j cs t hj
      exact ⟨vs, by rw [hkeep hji hj rfl]; exact hv, hm⟩
    · cases he
  · intro j v q ys t s hj
    rcases hsplit hj with ⟨hji, hj⟩ | ⟨rfl, he⟩
    · exact ownsO_keep (h.own.o j v q ys t s hj) fun k hk => hkeep hji hj hk
    · cases he; exact hown
  · intro p q bp bq k hp hq lp lq
    rcases hsplit hp with ⟨hpi, hp'⟩ | ⟨hpi, ep⟩ <;> rcases hsplit hq with ⟨hqi, hq'⟩ | ⟨hqi, eq⟩
    · exact h.own.inj p q bp bq k hp' hq' lp lq
    · subst eq
      rcases hnew lq with h1 | h1
      · exact absurd (h.own.inj _ _ _ _ _ hp' hi lp h1) hpi
      · have := h.own.lt hp' lp; omega
    · subst ep
      rcases hnew lp with h1 | h1
      · exact absurd (h.own.inj _ _ _ _ _ hq' hi lq h1) hqi
      · have := h.own.lt hq' lq; omega
    · rw [hpi, hqi]
  · intro p b k hp hk
    rcases hsplit hp with ⟨hpi, hp'⟩ | ⟨hpi, ep⟩
    · exact h.own.phi p b k hp' hk
    · subst ep
      rcases hnew hk with h1 | h1
      · exact h.own.phi i _ k hi h1
      · cases hΦ : Φ k with
        | none => rfl
        | some cs =>
          obtain ⟨hz, hzq⟩ := h.sto _ _ hΦ
          have := lt_of_heap hz
          omega
  · intro k cs hk
    obtain ⟨hz, hzq⟩ := h.sto k cs hk
    refine ⟨?_, hzq⟩
    rw [hg.block k (lt_of_heap hz) fun e => by rw [h.own.phi i _ k hi e.symm] at hk; cases hk]
    exact hz
  · intro p b k hp hk
    rcases hsplit hp with ⟨hpi, hp'⟩ | ⟨hpi, ep⟩
    · exact h.lo p b k hp' hk
    · subst ep hpi
      rcases hnew hk with h1 | h1
      · exact h.lo p _ k hi h1
      · exact .inl (by rw [h1]; exact h.keep.size)
  · refine ⟨hg.os.trans h.keep.os, hg.tape.trans h.keep.tape, hg.output.trans h.keep.output, Nat.le_trans h.keep.size hg.size, fun k hk hn => ?_⟩
    rw [← h.keep.block k hk hn]
    refine hg.block k (Nat.lt_of_lt_of_le hk h.keep.size) fun e => ?_
    rcases h.lo i _ k hi e.symm with h1 | h1
    · omega
    · exact hn h1

/-- Where what is appended lies. -/
def Src (Γ : Ctx) (Φ : Phi) (S : SS) (x : Operand) (m : Nat) (news : List Value) : Prop :=
  ∀ β a w, St Γ Φ β S a w → ∃ A c, a.eval x = .slice A m c ∧ (0 < news.length → ∃ ad, A = some ad ∧ ∀ (j : Nat) (u : Value), news[j]? = some u → w.cell? (ad.add j) = some u)

theorem Src.phi {x : Operand} {A : Option Addr} {m c : Nat} {news : List Value} (hx : S.get x = .v (.slice A m c)) (h : RdC Φ A news) : Src Γ Φ S x m news := fun β a w hs => by
  refine ⟨A, c, fits_v hs hx, fun hp => ?_⟩
  obtain ⟨b, off, cs, t, z, rfl, hb, hc⟩ := h hp
  refine ⟨_, rfl, fun j u hj => ?_⟩
  obtain ⟨hz, hzq⟩ := hs.sto b _ hb
  rw [add_none, cell_of_row w b (off + j) cs t z hz]
  exact hc j u hj

theorem Src.row {x : Operand} {A : Option Addr} {m c : Nat} {news : List Value} {e : TypeId} {sz : Nat} (j : Nat) (hx : S.get x = .v (.slice A m c)) (hj : S.hp[j]? = some (.o (.slice A m c) m news e sz)) : Src Γ Φ S x m news := fun β a w hs => by
  refine ⟨A, c, fits_v hs hx, fun hp => ?_⟩
  obtain ⟨h1, h2⟩ := hs.own.o j _ m news e sz hj
  rcases h2 with ⟨h2, h3⟩ | ⟨g, cap, cur, hv, _, hg, h3, h4, h5, h6⟩
  · rw [h3] at h1; simp at h1; rw [h1] at hp; simp at hp
  · injection hv with hv1 hv2 hv3
    subst hv1 hv3
    refine ⟨_, rfl, fun k u hk => ?_⟩
    rw [add_none, Nat.zero_add, cell_of_row w g k cur e (0, 0) hg]
    rw [← h6, List.getElem?_take] at hk
    split at hk
    · simpa using hk
    · cases hk

theorem Src.cells {x : Operand} {i off m c : Nat} {news : List Value} {cs : List SV} {e : TypeId} (hx : S.get x = .s i off m c) (hi : S.hp[i]? = some (.c cs e)) (hn : ∀ (j : Nat) (u : Value), news[j]? = some u → cs[off + j]? = some (.v u)) : Src Γ Φ S x m news := fun β a w hs => by
  have hxe : a.eval x = .slice (some ⟨β i, off, none⟩) m c := ((hs.eval x).known (by rw [hx]; simp)).trans (by rw [hx]; rfl)
  refine ⟨_, c, hxe, fun hp => ⟨_, rfl, fun j u hj => ?_⟩⟩
  obtain ⟨vs, hv, hm⟩ := hs.own.c i cs e hi
  obtain ⟨v, hv', hf⟩ := hm.get (hn j u hj)
  have : v = u := (hf.known (by simp)).trans rfl
  subst this
  rw [add_none, cell_of_row w _ _ vs e (0, 0) hv]
  simpa using hv'

theorem run_append_of_nil {P : Program} {w : World} {base t ty e : Nat} {i : TypeInfo} {size : Nat} (ht : P.underlying t = some (.slice e)) (hi : P.info? e = some i)
    {v : Value} {n : Nat} {xs : List Value} (hown : w.ownsRow base e size v n xs) (c : Nat) : (Builtin.append_ #[t, t] ty #[v, .slice none 0 c]).run P w = .ok v w := by
  rcases hown.2 with ⟨rfl, rfl⟩ | ⟨g, cap, cur, rfl, _, _, hnc, _⟩
  · simp [Builtin.append_, run_underlying ht, sizeOf, typeInfo, hi, Builtin.lenOf, Builtin.firstCells]
  · simp [Builtin.append_, run_underlying ht, sizeOf, typeInfo, hi, Builtin.lenOf, Builtin.firstCells, hnc, storeCells]

theorem own_form {w : World} {base e sz n : Nat} {V : Value} {xs : List Value} (h : w.ownsRow base e sz V n xs) : ∃ A c, V = .slice A n c ∧ n ≤ c ∧ c ≤ maxLen ∧ (0 < n → ∃ g, A = some ⟨g, 0, none⟩) := by
  rcases h.2 with ⟨rfl, rfl⟩ | ⟨g, cap, cur, rfl, _, _, h3, h4, _⟩
  · exact ⟨none, 0, rfl, Nat.le_refl _, by simp [maxLen], fun h => by omega⟩
  · exact ⟨_, cap, rfl, h3, h4, fun _ => ⟨g, rfl⟩⟩

/-- append onto a row of the call's own. -/
theorem At.append {s x : Operand} {t : TypeId} (ho : o.op = .call { callee := .builtin .append, args := #[s, x], argTypes := #[t, t] }) (hw : wantS ops S o = some true)
    {e : TypeId} {inf : TypeInfo} {z : Value} {sz : Nat} (hu : Γ.P.underlying t = some (.slice e)) (hinf : Γ.P.info? e = some inf) (hz : inf.zero = some z) (hsz : inf.size = sz) (hzs : z.cells.size = sz) (hpos : 0 < sz)
    (i : Nat) {V : Value} {n : Nat} {xs : List Value} (hs : S.get s = .v V) (hi : S.hp[i]? = some (.o V n xs e sz)) (m : Nat) (news : List Value) (hsrc : Src Γ Φ S x m news) (hlen : news.length = m * sz) (hone : ∀ u ∈ news, u.oneCell' = true)
    (h63 : n + m ≤ maxLen) (hbytes : (n + m) * inf.bytes ≤ 140737488355328)
    (k : ∀ (A' : Option Addr) (c' : Nat), n + m ≤ c' → c' ≤ maxLen → (0 < n + m → ∃ g, A' = some ⟨g, 0, none⟩) → ∃ S', putH S o.dst (.v (.slice A' (n + m) c')) i (.o (.slice A' (n + m) c') (n + m) (xs ++ news) e sz) = some S' ∧ At Γ Φ S' (wpList Γ.P ops Q rest)) :
    At Γ Φ S (wpList Γ.P ops Q (o :: rest)) := by
  intro β a w h
  unfold wpList
  rw [if_pos (wanted_of h hw)]
  left
  obtain ⟨A, c, hxe, hsrc⟩ := hsrc β a w h
  have hown := (h.own.o i V n xs e sz hi).rowp hpos
  have key : ∃ V' w', (Builtin.append_ #[t, t] o.type #[V, .slice A m c]).run Γ.P w = .ok V' w' ∧ w'.ownsRow 0 e sz V' (n + m) (xs ++ news) ∧ w.grownBy w' V.ownBlock ∧ (V'.ownBlock = V.ownBlock ∨ V'.ownBlock = some w.heap.size) := by
    cases A with
    | none =>
      have hm : m = 0 := by
        rcases Nat.eq_zero_or_pos m with h0 | h0
        · exact h0
        · obtain ⟨ad, he, _⟩ := hsrc (by rw [hlen]; exact Nat.mul_pos h0 hpos)
          cases he
      subst hm
      have hn : news = [] := List.eq_nil_of_length_eq_zero (by simpa using hlen)
      subst hn
      exact ⟨V, w, run_append_of_nil hu hinf hown c, by simpa using hown, World.grownBy.refl w _, .inl rfl⟩
    | some ad =>
      have hcells : ∀ (j : Nat) (u : Value), news[j]? = some u → w.cell? (ad.add j) = some u := by
        intro j u hj
        obtain ⟨ad', he, hc⟩ := hsrc (by have := lt_get hj; omega)
        cases he
        exact hc j u hj
      obtain ⟨V', w', hr, h2, h3, _, h5⟩ := run_append_own_at (P := Γ.P) w 0 t o.type e inf z sz inf.bytes hu hinf hz hsz rfl hzs hpos V n xs hown ad m c news hlen hcells hone h63 hbytes (Nat.zero_le _)
      exact ⟨V', w', hr, h2, h3, h5⟩
  obtain ⟨V', w', hr, h2, h3, h5⟩ := key
  obtain ⟨A', c', rfl, hc', hm', hg'⟩ := own_form h2
  obtain ⟨S', hS, hk⟩ := k A' c' hc' hm' hg'
  obtain ⟨rfl, hb⟩ := putH_some hS
  have hex : (execOp a.eval o).run Γ.P w = .ok (.value (.slice A' (n + m) c')) w' := by
    unfold execOp; rw [ho]
    simp only [resolve, invoke, builtin, Sem.run_bind, Sem.run_pure, Result.andThen_ok, List.map_toArray, List.map_cons, List.map_nil, fits_v h hs, hxe, hr]
  unfold Oper.wp
  rw [hex]
  have e1 := (OwnsO.of_row hown).2
  exact hk β _ _ (h.rowTo hi (OwnsO.of_row h2).1 (by rw [e1]; exact h3) (by rw [e1]; exact h5) o.dst (.inr rfl) hb)

/-- A row of the call's own that is not empty has an address. -/
theorem At.row_some {X : Act → World → Prop} (i : Nat) {A : Option Addr} {n c : Nat} {xs : List Value} {e : TypeId} {sz : Nat} (hi : S.hp[i]? = some (.o (.slice A n c) n xs e sz)) (hn : 0 < n) (k : ∀ g, A = some ⟨g, 0, none⟩ → At Γ Φ S X) : At Γ Φ S X := fun β a w h => by
  obtain ⟨A', c', hv, _, _, hg⟩ := own_form (h.own.o i _ n xs e sz hi)
  injection hv with hv1 hv2 hv3
  subst hv1
  obtain ⟨g, hg⟩ := hg hn
  exact k g hg β a w h

/-- Parts of slices. -/
theorem At.slice {t : TypeId} {x : Operand} {lo hi mx : Option Operand} (ho : o.op = .slice t x lo hi mx) (hw : wantS ops S o = some true) {e : TypeId} (hu : Γ.P.underlying t = some (.slice e)) {sz : Nat} (hsz : szT Γ.P e = some sz)
    {A : Option Addr} {n c : Nat} (hx : S.get x = .v (.slice A n c)) (l h' m : Nat)
    (hl : match lo with | none => l = 0 | some q => ∃ kd, S.get q = .v (.int kd l)) (hh : match hi with | none => h' = n ∧ mx = none | some q => ∃ kd, S.get q = .v (.int kd h')) (hm : match mx with | none => m = c | some q => ∃ kd, S.get q = .v (.int kd m))
    (h1 : l ≤ h') (h2 : h' ≤ m) (h3 : m ≤ c)
    (k : ∀ A' : Option Addr, (l = 0 → A' = A) → (l < m → A' = A.map fun a => a.add (l * sz)) → ∃ S', putB S o.dst (.v (.slice A' (h' - l) (m - l))) = some S' ∧ At Γ Φ S' (wpList Γ.P ops Q rest)) : At Γ Φ S (wpList Γ.P ops Q (o :: rest)) := by
  obtain ⟨S', hS, hk⟩ := k (if m = l then A else A.map fun a => a.add (l * sz)) (fun h0 => by
    subst h0
    split
    · rfl
    · cases A with
      | none => rfl
      | some a => simp [Addr.add]) (fun h0 => by rw [if_neg (by omega)])
  refine At.val hw _ hS (fun β a w h => ⟨_, ?_, .inr rfl⟩) hk
  unfold execOp; rw [ho]
  have hbound : ∀ (q : Operand) (kd : IntKind) (i y : Nat) (code : BoundsCode), S.get q = .v (.int kd i) → i ≤ y → (Instr.sliceBound (a.eval q) y code).run Γ.P w = .ok i w := by
    intro q kd i y code hq hi
    simp only [Instr.sliceBound, fits_v h hq, asIntOf, Sem.run_bind, Sem.run_pure, Result.andThen_ok]
    rw [if_pos ⟨by omega, by omega⟩]
    simp
  have hb : (Instr.sliceBounds true n c (lo.map a.eval) (hi.map a.eval) (mx.map a.eval)).run Γ.P w = .ok (l, h', m) w := by
    have hlow : ∀ code : BoundsCode, (do let l ← (match lo.map a.eval with | some v => Instr.sliceBound v h' code | none => pure 0); pure (l, h', m) : Sem (Nat × Nat × Nat)).run Γ.P w = .ok (l, h', m) w := by
      intro c1
      cases lo with
      | none => simp only at hl; subst hl; rfl
      | some q =>
        obtain ⟨kd, hq⟩ := hl
        simp only [Option.map_some, Sem.run_bind, hbound q kd l h' c1 hq h1, Result.andThen_ok, Sem.run_pure]
    cases mx with
    | none =>
      simp only at hm
      subst hm
      cases hi with
      | none =>
        obtain ⟨rfl, _⟩ := hh
        have := hlow .sliceB
        cases lo <;> simpa [Instr.sliceBounds] using this
      | some q =>
        obtain ⟨kd, hq⟩ := hh
        have := hlow .sliceB
        have hb1 := hbound q kd h' m .sliceAcap hq h2
        cases lo <;> simpa [Instr.sliceBounds, hb1] using this
    | some q' =>
      obtain ⟨kd', hq'⟩ := hm
      have hb0 := hbound q' kd' m c .slice3Acap hq' h3
      cases hi with
      | none => cases hh.2
      | some q =>
        obtain ⟨kd, hq⟩ := hh
        have := hlow .slice3C
        have hb1 := hbound q kd h' m .slice3B hq h2
        cases lo <;> simpa [Instr.sliceBounds, hb0, hb1] using this
  simp only [Instr.sliceAt, fits_v h hx, Sem.run_bind, run_underlying hu, Result.andThen_ok, Instr.slice]
  simp only [hb, Result.andThen_ok, run_sizeOf' hsz, Sem.run_pure, den]

/- A block of the call's own gets its number told. -/
mutual
def SV.nm (i g : Nat) : SV → SV
  | .u => .u
  | .v x => .v x
  | .p j off => if j = i then .v (.pointer (some ⟨g, off, none⟩)) else .p j off
  | .s j off len cap => if j = i then .v (.slice (some ⟨g, off, none⟩) len cap) else .s j off len cap
  | .fn f caps => .fn f (SV.nmL i g caps)
  | .agg l => .agg (SV.nmL i g l)
  | .tup l => .tup (SV.nmL i g l)
  | .ifc t x => .ifc t (SV.nm i g x)
def SV.nmL (i g : Nat) : List SV → List SV
  | [] => []
  | x :: l => SV.nm i g x :: SV.nmL i g l
end
mutual
theorem den_nm {β : Nat → Nat} {i g : Nat} (h : β i = g) : ∀ x : SV, den β (x.nm i g) = den β x
  | .u => rfl
  | .v _ => rfl
  | .p j off => by
    simp only [SV.nm]
    split
    · rename_i e; subst e; simp [den, h]
    · rfl
  | .s j off len cap => by
    simp only [SV.nm]
    split
    · rename_i e; subst e; simp [den, h]
    · rfl
  | .fn _ caps => by simp only [SV.nm, den, denL_nm h caps]
  | .agg l => by simp only [SV.nm, den, denL_nm h l]
  | .tup l => by simp only [SV.nm, den, denL_nm h l]
  | .ifc _ x => by simp only [SV.nm, den, den_nm h x]
theorem denL_nm {β : Nat → Nat} {i g : Nat} (h : β i = g) : ∀ l : List SV, denL β (SV.nmL i g l) = denL β l
  | [] => rfl
  | x :: l => by simp only [SV.nmL, denL, den_nm h x, denL_nm h l]
end
theorem nmL_eq (i g : Nat) (l : List SV) : SV.nmL i g l = l.map (SV.nm i g) := by
  induction l with
  | nil => rfl
  | cons x l ih => simp [SV.nmL, ih]
theorem nm_u {i g : Nat} {x : SV} : x.nm i g = .u ↔ x = .u := by
  cases x <;> simp [SV.nm] <;> split <;> simp
theorem mat_nm {β : Nat → Nat} {i g : Nat} (h : β i = g) {cs : List SV} {vs : List Value} (hm : Mat β cs vs) : Mat β (SV.nmL i g cs) vs := by
  rw [nmL_eq]
  refine ⟨by simpa using hm.1, fun k c v hc hv => ?_⟩
  rw [List.getElem?_map] at hc
  cases hk : cs[k]? with
  | none => rw [hk] at hc; cases hc
  | some c' =>
    rw [hk] at hc
    cases hc
    rcases hm.2 k c' v hk hv with rfl | rfl
    · exact .inl rfl
    · exact .inr (den_nm h c').symm

def Blk.nm (i g : Nat) : Blk → Blk
  | .c cs t => .c (SV.nmL i g cs) t
  | b => b

/-- A block of known cells becomes a row. -/
def toRow (S : SS) (i g : Nat) (n : Nat) (xs : List Value) (t : TypeId) (sz : Nat) : SS :=
  { fr := SV.nmL i g S.fr, hp := (S.hp.map (Blk.nm i g)).set i (.o (.slice (some ⟨g, 0, none⟩) n n) n xs t sz) }

theorem At.toRow {X : Act → World → Prop} (i n : Nat) (xs : List Value) {cs : List SV} {t : TypeId} (sz : Nat) (hi : S.hp[i]? = some (.c cs t)) (hc : cs = xs.map .v) (hl : xs.length = n * sz) (hn : n ≤ maxLen)
    (k : ∀ g, ∃ S', toRow S i g n xs t sz = S' ∧ S'.bd = true ∧ At Γ Φ S' X) : At Γ Φ S X := fun β a w h => by
  obtain ⟨S', rfl, hb, hk⟩ := k (β i)
  have hlt := lt_get hi
  obtain ⟨vs, hv, hm⟩ := h.own.c i cs t hi
  have hvs : vs.toList = xs := by
    have := fits_any hm (by rw [hc]; simp [SV.isU])
    rw [this, hc, List.map_map]
    exact List.map_id _
  have hsplit : ∀ {j : Nat} {y : Blk}, ((S.hp.map (Blk.nm i (β i))).set i (.o (.slice (some ⟨β i, 0, none⟩) n n) n xs t sz))[j]? = some y → (∃ b, j ≠ i ∧ S.hp[j]? = some b ∧ y = b.nm i (β i)) ∨ (j = i ∧ y = .o (.slice (some ⟨β i, 0, none⟩) n n) n xs t sz) := by
    intro j y hj
    rw [List.getElem?_set] at hj
    by_cases e : i = j
    · subst e; simp [hlt] at hj; exact .inr ⟨rfl, hj.symm⟩
    · rw [if_neg e, List.getElem?_map] at hj
      cases hb : S.hp[j]? with
      | none => rw [hb] at hj; cases hj
      | some b => rw [hb] at hj; cases hj; exact .inl ⟨b, fun e' => e e'.symm, rfl, rfl⟩
  have hbid : ∀ (b : Blk) (j : Nat), (b.nm i (β i)).bid β j = b.bid β j := by intro b j; cases b <;> rfl
  have hold : ∀ {j : Nat} {y : Blk} {k : Nat}, ((S.hp.map (Blk.nm i (β i))).set i (.o (.slice (some ⟨β i, 0, none⟩) n n) n xs t sz))[j]? = some y → y.bid β j = some k → ∃ b, S.hp[j]? = some b ∧ b.bid β j = some k := by
    intro j y k hj hk
    rcases hsplit hj with ⟨b, _, hb, rfl⟩ | ⟨rfl, rfl⟩
    · exact ⟨b, hb, by rw [← hbid]; exact hk⟩
    · exact ⟨_, hi, hk⟩
  refine hk β a w ⟨mat_nm rfl h.fr, h.df, ⟨?_, ?_, ?_, ?_, fun j g cs' t' hj => by
    rcases hsplit hj with ⟨b, hji, hb, he⟩ | ⟨rfl, he⟩
    · cases b with
      | f => cases he; exact h.own.f j _ _ _ hb
      | dead => cases he
      | c => cases he
      | o => cases he
    · cases he⟩, h.sto, ?_, h.keep, h.phi, hb, h.pin, by simp only [Go.Sx.toRow, List.length_set, List.length_map]; exact h.len⟩
  · intro j cs' t' hj
    rcases hsplit hj with ⟨b, hji, hb, he⟩ | ⟨rfl, he⟩
    · cases b with
      | c cs'' t'' =>
        simp only [Blk.nm, Blk.c.injEq] at he
        obtain ⟨rfl, rfl⟩ := he
        obtain ⟨vs', hv', hm'⟩ := h.own.c j cs'' t' hb
        exact ⟨vs', hv', mat_nm rfl hm'⟩
      | dead => cases he
      | f => cases he
      | o => cases he
    · cases he
  · intro j v q ys t' s hj
    rcases hsplit hj with ⟨b, hji, hb, he⟩ | ⟨rfl, he⟩
    · cases b with
      | o v' q' ys' t'' s' => cases he; exact h.own.o j v q ys t' s hb
      | dead => cases he
      | f => cases he
      | c => cases he
    · cases he
      refine ⟨hl, .inr ⟨β j, n, vs, rfl, Nat.zero_le _, hv, Nat.le_refl _, hn, ?_, ?_⟩⟩
      · rw [← hl, ← hvs]; simp
      · rw [hvs, List.take_of_length_le (by omega)]
  · intro p q bp bq kk hp hq lp lq
    obtain ⟨b1, h1, l1⟩ := hold hp lp
    obtain ⟨b2, h2, l2⟩ := hold hq lq
    exact h.own.inj p q b1 b2 kk h1 h2 l1 l2
  · intro p b kk hp hk'
    obtain ⟨b1, h1, l1⟩ := hold hp hk'
    exact h.own.phi p b1 kk h1 l1
  · intro p b kk hp hk'
    obtain ⟨b1, h1, l1⟩ := hold hp hk'
    exact h.lo p b1 kk h1 l1

/-- A row of the call's own stays as it is from here on. -/
theorem At.freeze {X : Act → World → Prop} (i : Nat) {A : Option Addr} {n c : Nat} {xs : List Value} {e : TypeId} {sz : Nat} (hi : S.hp[i]? = some (.o (.slice A n c) n xs e sz)) 
    (hS : putH S none .u i .dead = some S') (k : ∀ Φ', PhiLe 0 Φ Φ' → RdC Φ' A xs → At Γ Φ' S' X) : At Γ Φ S X := fun β a w h => by
  obtain ⟨rfl, hb⟩ := putH_some hS
  obtain ⟨h1, h2⟩ := h.own.o i _ n xs e sz hi
  have hlt := lt_get hi
  have hsplit : ∀ {j : Nat} {y : Blk}, (S.hp.set i .dead)[j]? = some y → (j ≠ i ∧ S.hp[j]? = some y) ∨ y = .dead := by
    intro j y hj
    rw [List.getElem?_set] at hj
    by_cases e : i = j
    · subst e; simp [hlt] at hj; exact .inr hj.symm
    · rw [if_neg e] at hj; exact .inl ⟨fun e' => e e'.symm, hj⟩
  have mk : ∀ Φ' : Phi, PhiG Γ.G Γ.E.heap.size Φ Φ' → Sto Φ' w → (∀ (j : Nat) (y : Blk) (q : Nat), j ≠ i → S.hp[j]? = some y → y.bid β j = some q → Φ' q = none) → St Γ Φ' β { fr := (S.put none .u).fr, hp := S.hp.set i .dead } a w := by
    intro Φ' hle hsto hno
    refine ⟨h.fr, h.df, ⟨?_, ?_, ?_, ?_, fun j g' cs t hj => by
      rcases hsplit hj with ⟨_, hj⟩ | he
      · exact ⟨(h.own.f j g' cs t hj).1, hle.1 _ _ (h.own.f j g' cs t hj).2⟩
      · cases he⟩, hsto, ?_, h.keep, ⟨fun b cs hb => hle.1 b cs (h.phi.1 b cs hb), fun b hb hn => by rw [hle.2 b hb hn]; exact h.phi.2 b hb hn⟩, hb, h.pin, by simp only [List.length_set]; exact h.len⟩
    · intro j cs t hj
      rcases hsplit hj with ⟨_, hj⟩ | he
      · exact h.own.c j cs t hj
      · cases he
    · intro j v q ys t s hj
      rcases hsplit hj with ⟨_, hj⟩ | he
      · exact h.own.o j v q ys t s hj
      · cases he
    · intro p q bp bq kk hp hq lp lq
      rcases hsplit hp with ⟨_, hp⟩ | rfl
      · rcases hsplit hq with ⟨_, hq⟩ | rfl
        · exact h.own.inj p q bp bq kk hp hq lp lq
        · cases lq
      · cases lp
    · intro p b kk hp hk
      rcases hsplit hp with ⟨hpi, hp⟩ | rfl
      · exact hno p b kk hpi hp hk
      · cases hk
    · intro p b kk hp hk
      rcases hsplit hp with ⟨hpi, hp⟩ | rfl
      · exact h.lo p b kk hp hk
      · cases hk
  rcases h2 with ⟨hv, hn0⟩ | ⟨g, cap, cur, hv, _, hg, h3, h4, h5, h6⟩
  · have hx : xs = [] := List.eq_nil_of_length_eq_zero (by rw [h1, hn0]; simp)
    subst hx
    exact k Φ (PhiLe.refl 0 Φ) RdC.nil β a w (mk Φ ⟨fun _ _ h => h, fun _ _ _ => rfl⟩ h.sto fun j y q hj hy hq => h.own.phi j y q hy hq)
  · injection hv with hv1 hv2 hv3
    subst hv1 hv3
    have hgo : (Blk.o (.slice (some ⟨g, 0, none⟩) n c) n xs e sz).bid β i = some g := rfl
    have hle : PhiG Γ.G Γ.E.heap.size Φ (fun b => if b = g then some (.cells cur e (0, 0)) else Φ b) := by
      refine ⟨fun b cs hb => ?_, fun b hb hn => by
        show (if _ then _ else _) = _
        rw [if_neg (by
          rintro rfl
          rcases h.lo i _ b hi hgo with h' | h'
          · omega
          · exact hn h')]⟩
      show (if _ then _ else _) = _
      rw [if_neg (by rintro rfl; rw [h.own.phi i _ _ hi hgo] at hb; cases hb)]
      exact hb
    refine k _ ⟨hle.1, fun _ h => by omega⟩ (fun _ => ⟨g, 0, cur, e, (0, 0), rfl, by show (if _ then _ else _) = _; rw [if_pos rfl], fun j u hj => ?_⟩) β a w (mk _ hle ?_ ?_)
    · rw [← h6, List.getElem?_take] at hj
      split at hj
      · rw [Nat.zero_add]; simpa using hj
      · cases hj
    · intro b cs hb
      replace hb : (if b = g then some (Obj.cells cur e (0, 0)) else Φ b) = some cs := hb
      split at hb
      · rename_i e'; cases hb; exact ⟨by rw [e']; exact hg, rfl⟩
      · exact h.sto b cs hb
    · intro j y q hj hy hq
      show (if _ then _ else _) = _
      rw [if_neg (by rintro rfl; exact hj (h.own.inj _ _ _ _ _ hy hi hq hgo))]
      exact h.own.phi j y q hy hq

theorem At.panic {x : Operand} (ho : o.op = .panic x) (hw : wantS ops S o = some true) {t : TypeId} {y : Value} (hx : S.get x = .v (.iface t y)) (k : At Γ Φ S (Q (.panic [{ v := .iface t y, recovered := false }]))) : At Γ Φ S (wpList Γ.P ops Q (o :: rest)) := by
  intro β a w h
  unfold wpList
  rw [if_pos (wanted_of h hw)]
  left
  have hex : (execOp a.eval o).run Γ.P w = .halt (.panic (.iface t y)) w := by
    unfold execOp; rw [ho]
    simp [Instr.panic, fits_v h hx]
  unfold Oper.wp
  rw [hex]
  exact k β a w h
end
end Go.Sx
