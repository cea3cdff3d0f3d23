/- SxF: new rows, copies, least of two. General: no program. -/
import Derived.Test.YtgkjblbmiooedaaSxE
import Derived.Laws.OwnMore
import Derived.Lib.AppendZeros
namespace Go.Sx
open Go.RowKit

theorem one_lits (l : List Value) (h : l.all (fun u => u.oneCell') = true) : ∀ u ∈ l, u.oneCell' = true := List.all_eq_true.1 h
theorem src_lits (cs : List SV) (l : List Value) {off : Nat} (h : (cs.drop off).take l.length = l.map .v) : ∀ (j : Nat) (u : Value), l[j]? = some u → cs[off + j]? = some (.v u) := by
  intro j u hj
  have h1 : ((cs.drop off).take l.length)[j]? = some (.v u) := by rw [h, List.getElem?_map, hj]; rfl
  rw [List.getElem?_take, if_pos (lt_get hj), List.getElem?_drop] at h1
  exact h1

section
variable {Γ : Ctx} {Φ Φ0 : Phi} {S S' : SS} {Q : Exit → Act → World → Prop} {ops : Array Oper} {rest : List Oper} {o : Oper}

/-- A new row, in a world that has grown. -/
theorem St.newO {β : Nat → Nat} {a : Act} {w w' : World} (h : St Γ Φ β S a w) {V : Value} {n : Nat} {xs : List Value} {t : TypeId} {sz : Nat} (hown : OwnsO w' t sz V n xs) (hg : w.grownBy w' none)
    (hV : ∀ k, oBlock V = some k → w.heap.size ≤ k) (d : Option Tmp) {x : SV} {v : Value} (hx : Fits β x v) (hb : ({ fr := (S.put d x).fr, hp := S.hp ++ [.o V n xs t sz] } : SS).bd = true) :
    St Γ Φ β { fr := (S.put d x).fr, hp := S.hp ++ [.o V n xs t sz] } (a.put d v) w' := by
  have hold : ∀ {k : Nat}, k < w.heap.size → w'.heap[k]? = w.heap[k]? := fun hk => hg.block _ hk (by simp)
  have hobj : ∀ {k : Nat} {x : Obj}, w.heap[k]? = some x → w'.heap[k]? = some x := fun hk => (hold (lt_of_heap hk)).trans hk
  refine ⟨h.fr.put d hx, by rw [Act.put_df]; exact h.df, ⟨?_, ?_, ?_, ?_, fun i g cs t' hi => by
    rcases get_append hi with ⟨_, hi⟩ | ⟨_, he⟩
    · exact h.own.f i g cs t' hi
    · cases he⟩, ?_, ?_, ⟨hg.os.trans h.keep.os, hg.tape.trans h.keep.tape, hg.output.trans h.keep.output, Nat.le_trans h.keep.size hg.size, ?_⟩, h.phi, hb, h.pin, by have := h.len; simp; omega⟩
  · intro i cs t' hi
    rcases get_append hi with ⟨_, hi⟩ | ⟨_, he⟩
    · obtain ⟨vs, hv, hm⟩ := h.own.c i cs t' hi
      exact ⟨vs, hobj hv, hm⟩
    · cases he
  · intro i v' n' xs' t' sz' hi
    rcases get_append hi with ⟨_, hi⟩ | ⟨_, he⟩
    · exact ownsO_keep (h.own.o i v' n' xs' t' sz' hi) fun g hg' => hold (h.own.lt hi hg')
    · cases he; exact hown
  · intro i j bi bj k hi hj li lj
    rcases get_append hi with ⟨hlt, hi⟩ | ⟨rfl, he⟩ <;> rcases get_append hj with ⟨hlt', hj⟩ | ⟨rfl, he'⟩
    · exact h.own.inj i j bi bj k hi hj li lj
    · subst he'
      have := hV k lj
      have := h.own.lt hi li
      omega
    · subst he
      have := hV k li
      have := h.own.lt hj lj
      omega
    · rfl
  · intro i y k hi hy
    rcases get_append hi with ⟨_, hi⟩ | ⟨rfl, he⟩
    · exact h.own.phi i y k hi hy
    · subst he
      have h1 := hV k hy
      cases hΦ : Φ k with
      | none => rfl
      | some cs =>
        obtain ⟨hz, hzq⟩ := h.sto _ _ hΦ
        have := lt_of_heap hz
        omega
  · intro k cs hk
    obtain ⟨hz, hzq⟩ := h.sto k cs hk
    exact ⟨hobj hz, hzq⟩
  · intro i y k hi hy
    rcases get_append hi with ⟨_, hi⟩ | ⟨rfl, he⟩
    · exact h.lo i y k hi hy
    · subst he
      exact .inl (Nat.le_trans h.keep.size (hV k hy))
  · intro k hk hn
    rw [hold (Nat.lt_of_lt_of_le hk h.keep.size)]
    exact h.keep.block k hk hn
theorem St.newRow {β : Nat → Nat} {a : Act} {w w' : World} (h : St Γ Φ β S a w) {V : Value} {n : Nat} {xs : List Value} {t : TypeId} {sz : Nat} (hown : w'.ownsRow 0 t sz V n xs) (hg : w.grownBy w' none)
    (hV : ∀ k, V.ownBlock = some k → w.heap.size ≤ k) (d : Option Tmp) {x : SV} {v : Value} (hx : Fits β x v) (hb : ({ fr := (S.put d x).fr, hp := S.hp ++ [.o V n xs t sz] } : SS).bd = true) :
    St Γ Φ β { fr := (S.put d x).fr, hp := S.hp ++ [.o V n xs t sz] } (a.put d v) w' :=
  h.newO (OwnsO.of_row hown).1 hg (fun k hk => hV k (by rw [← (OwnsO.of_row hown).2]; exact hk)) d hx hb

theorem grownBy_same (w : World) : w.grownBy w none := ⟨rfl, rfl, rfl, Nat.le_refl _, fun _ _ _ => rfl⟩

/-- A nil slice is a row of the call's own. -/
theorem At.nilrow {X : Act → World → Prop} (t sz : Nat) (S' : SS) (hS : ({ fr := S.fr, hp := S.hp ++ [.o (.slice none 0 0) 0 [] t sz] } : SS) = S') (hb : S'.bd = true) (k : At Γ Φ S' X) : At Γ Φ S X := by
  subst hS
  intro β a w h
  exact k β a w (h.newRow (d := none) (x := .u) (v := undef) ⟨by simp, .inl ⟨rfl, rfl⟩⟩ (grownBy_same w) (fun k hk => by cases hk) (.inl rfl) hb)

theorem run_min2 {P : Program} {argTypes : Array TypeId} {t : TypeId} {k : IntKind} {x y z : Int} (hz : (if y < x then y else x) = z) (w : World) : (Builtin.min_ argTypes t #[.int k x, .int k y]).run P w = .ok (.int k z) w := by
  subst hz
  simp [Builtin.min_, Builtin.min2, List.foldlM]
theorem run_max2 {P : Program} {argTypes : Array TypeId} {t : TypeId} {k : IntKind} {x y z : Int} (hz : (if x < y then y else x) = z) (w : World) : (Builtin.max_ argTypes t #[.int k x, .int k y]).run P w = .ok (.int k z) w := by
  subst hz
  simp [Builtin.max_, Builtin.max2, List.foldlM]

theorem Val.min {x y : Operand} {argTypes : Array TypeId} (ho : o.op = .call { callee := .builtin .min, args := #[x, y], argTypes }) {k : IntKind} {a b z : Int} (hx : S.get x = .v (.int k a)) (hy : S.get y = .v (.int k b)) (hz : (if b < a then b else a) = z) : Val Γ Φ S o (.v (.int k z)) := fun β c w h => by
  refine ⟨_, ?_, .inr rfl⟩
  unfold execOp; rw [ho]
  simp only [resolve, invoke, builtin, Sem.run_bind, Sem.run_pure, Result.andThen_ok, List.map_toArray, List.map_cons, List.map_nil, fits_v h hx, fits_v h hy, run_min2 hz, den]
theorem Val.max {x y : Operand} {argTypes : Array TypeId} (ho : o.op = .call { callee := .builtin .max, args := #[x, y], argTypes }) {k : IntKind} {a b z : Int} (hx : S.get x = .v (.int k a)) (hy : S.get y = .v (.int k b)) (hz : (if a < b then b else a) = z) : Val Γ Φ S o (.v (.int k z)) := fun β c w h => by
  refine ⟨_, ?_, .inr rfl⟩
  unfold execOp; rw [ho]
  simp only [resolve, invoke, builtin, Sem.run_bind, Sem.run_pure, Result.andThen_ok, List.map_toArray, List.map_cons, List.map_nil, fits_v h hx, fits_v h hy, run_max2 hz, den]
theorem Val.cap {x : Operand} {t e : TypeId} (ho : o.op = .call { callee := .builtin .cap, args := #[x], argTypes := #[t] }) (hu : Γ.P.underlying t = some (.slice e)) {A : Option Addr} {n c : Nat} (hx : S.get x = .v (.slice A n c)) : Val Γ Φ S o (.v (.int .i64 c)) := fun β a w h => by
  refine ⟨_, ?_, .inr rfl⟩
  unfold execOp; rw [ho]
  simp [resolve, invoke, builtin, fits_v h hx, Builtin.cap_, run_underlying hu, goInt, den]

/-- make([]T, n) -/
theorem At.makeS {t e : TypeId} {x y : Operand} (ho : o.op = .makeSlice t x y) (hw : wantS ops S o = some true) {inf : TypeInfo} {z : Value} {sz : Nat} (hu : Γ.P.underlying t = some (.slice e)) (hinf : Γ.P.info? e = some inf) (hz : inf.zero = some z) (hsz : inf.size = sz)
    {kd kd' : IntKind} (n : Nat) (hx : S.get x = .v (.int kd n)) (hy : S.get y = .v (.int kd' n)) (hbytes : inf.bytes * n ≤ 281474976710656) (h63 : n ≤ maxLen) (hcells : n * sz ≤ 16777216)
    (k : ∀ g (zs : List Value), zs.length = n * sz → ∃ S', ({ fr := (S.put o.dst (.v (.slice (some ⟨g, 0, none⟩) n n))).fr, hp := S.hp ++ [.o (.slice (some ⟨g, 0, none⟩) n n) n zs e sz] } : SS) = S' ∧ S'.bd = true ∧ At Γ Φ S' (wpList Γ.P ops Q rest)) :
    At Γ Φ S (wpList Γ.P ops Q (o :: rest)) := by
  intro β a w h
  unfold wpList
  rw [if_pos (wanted_of h hw)]
  left
  obtain ⟨w', hr, hown, hg⟩ := run_makeSlice_full (P := Γ.P) (w := w) 0 t e inf z sz hu hinf hz hsz kd kd' n hcells hbytes h63 (Nat.zero_le _)
  obtain ⟨S', rfl, hb, hk⟩ := k w.heap.size _ hown.1
  have hex : (execOp a.eval o).run Γ.P w = .ok (.value (.slice (some ⟨w.heap.size, 0, none⟩) n n)) w' := by
    unfold execOp; rw [ho]
    simp [fits_v h hx, fits_v h hy, hr]
  unfold Oper.wp
  rw [hex]
  exact hk β _ _ (h.newRow hown hg (fun k hk => by simp [Value.ownBlock] at hk; omega) o.dst (.inr rfl) hb)

/-- copy over a whole row of the call's own. -/
theorem At.copyrow {d s : Operand} {t t' : TypeId} (ho : o.op = .call { callee := .builtin .copy, args := #[d, s], argTypes := #[t, t'] }) (hw : wantS ops S o = some true)
    {e : TypeId} {sz : Nat} (hu : Γ.P.underlying t = some (.slice e)) (hsz : szT Γ.P e = some sz) (i : Nat) {g n c : Nat} {xs : List Value} (hd : S.get d = .v (.slice (some ⟨g, 0, none⟩) n c)) (hi : S.hp[i]? = some (.o (.slice (some ⟨g, 0, none⟩) n c) n xs e sz))
    (news : List Value) (hsrc : Src Γ Φ S s n news) (hlen : news.length = n * sz) (hone : ∀ u ∈ news, u.oneCell' = true)
    (hS : putH S o.dst (.v (.int .i64 n)) i (.o (.slice (some ⟨g, 0, none⟩) n c) n news e sz) = some S') (k : At Γ Φ S' (wpList Γ.P ops Q rest)) :
    At Γ Φ S (wpList Γ.P ops Q (o :: rest)) := by
  obtain ⟨rfl, hb⟩ := putH_some hS
  intro β a w h
  unfold wpList
  rw [if_pos (wanted_of h hw)]
  left
  obtain ⟨A, cc, hxe, hcells⟩ := hsrc β a w h
  obtain ⟨cur, hg, hnc, hcm, hcs, htk, hln⟩ := own_cells h.own hi
  have hfc : (Builtin.firstCells sz n (.slice A n cc)).run Γ.P w = .ok news.toArray w := by
    cases A with
    | none =>
      have : news = [] := by
        cases hn : news with
        | nil => rfl
        | cons u l =>
          obtain ⟨ad, he, _⟩ := hcells (by rw [hn]; simp)
          cases he
      rw [this]
      exact run_firstCells_none w sz n n cc
    | some ad =>
      refine run_firstCells_some w sz n ad n cc news hlen fun j v hj => ?_
      obtain ⟨ad', he, hc⟩ := hcells (Nat.lt_of_le_of_lt (Nat.zero_le _) (lt_get hj))
      cases he
      exact hc j v hj
  have hrun := run_storeCells_at Γ.P g 0 e news 0 cur w hg (by rw [hlen, hcs]; simpa using Nat.mul_le_mul_right _ hnc) hone
  have hex : (execOp a.eval o).run Γ.P w = .ok (.value (goInt n)) (w.setRow g (cur.toList.take (0 + 0) ++ news ++ cur.toList.drop (0 + 0 + news.length)).toArray) := by
    unfold execOp; rw [ho]
    simp only [resolve, invoke, builtin, Sem.run_bind, Sem.run_pure, Result.andThen_ok, List.map_toArray, List.map_cons, List.map_nil, fits_v h hd, hxe]
    simp only [Builtin.copy_, List.getElem?_toArray, List.getElem?_cons_zero, List.getElem?_cons_succ, Sem.run_bind, run_underlying hu, Result.andThen_ok, Builtin.lenOf, Sem.run_pure, Nat.min_self, run_sizeOf' hsz, hfc]
    simp only [Nat.add_zero] at hrun ⊢
    simp [hrun]
  unfold Oper.wp
  rw [hex]
  refine k β _ _ (h.setBlk (b' := .o (.slice (some ⟨g, 0, none⟩) n c) n news e sz) hi rfl hg rfl (fun cs t' hb => by cases hb) ?_ o.dst (.inr rfl) hb)
  intro v' n' xs' t' sz' hb
  cases hb
  refine ⟨hlen, .inr ⟨g, c, _, rfl, Nat.zero_le _, setRow_same w g _ cur _ hg, hnc, hcm, ?_, ?_⟩⟩
  · simp only [List.size_toArray, List.length_append, List.length_take, List.length_drop, Array.length_toList]
    have := Nat.mul_le_mul_right sz hnc
    omega
  · simp only [Nat.add_zero, List.take_zero, List.nil_append]
    rw [← hlen, List.take_left]

/-- append(nil, make([]T, n)...) -/
theorem At.growz {s x : Operand} {t tn e : TypeId} (ho : o.op = .call { callee := .builtin .append, args := #[s, x], argTypes := #[t, tn] }) (hw : wantS ops S o = some true) {inf : TypeInfo} {z : Value} {sz : Nat} {kn : IntKind} (hu : Γ.P.underlying t = some (.slice e)) (hun : Γ.P.underlying tn = some (.int kn))
    (hinf : Γ.P.info? e = some inf) (hz : inf.zero = some z) (hsz : inf.size = sz) (hzs : z.cells.size = sz) (hpos : 0 < sz) {kd : IntKind} (n : Nat) (hs : S.get s = .v (.slice none 0 0)) (hx : S.get x = .v (.int kd n)) (h0 : 0 < n) (h63 : n ≤ maxLen) (hbytes : n * inf.bytes ≤ 281474976710656)
    (k : ∀ g c (zs : List Value), n ≤ c → c ≤ maxLen → zs.length = n * sz → ∃ S', ({ fr := (S.put o.dst (.v (.slice (some ⟨g, 0, none⟩) n c))).fr, hp := S.hp ++ [.o (.slice (some ⟨g, 0, none⟩) n c) n zs e sz] } : SS) = S' ∧ S'.bd = true ∧ At Γ Φ S' (wpList Γ.P ops Q rest)) :
    At Γ Φ S (wpList Γ.P ops Q (o :: rest)) := by
  intro β a w h
  unfold wpList
  rw [if_pos (wanted_of h hw)]
  left
  have hr := Lib.run_append_nil_zeros (P := Γ.P) w t tn o.type e inf z kd kn hu hun hinf hz n h0 (by omega) (by unfold maxLen at h63; omega) hbytes
  have hc1 := grownCap_ge w n 0 e
  have hc2 := grownCap_le_maxLen w n 0 e h63
  have hlen : (Builtin.zeroCells z.cells n).toList.length = n * sz := by rw [Array.length_toList, size_zeroCells, hzs]
  obtain ⟨S', rfl, hb, hk⟩ := k w.heap.size (grownCap w n 0 e) (Builtin.zeroCells z.cells n).toList hc1 hc2 hlen
  have hex : (execOp a.eval o).run Γ.P w = .ok (.value (.slice (some ⟨w.heap.size, 0, none⟩) n (grownCap w n 0 e))) (w.drew.alloc (.cells (Builtin.zeroCells z.cells n ++ Builtin.zeroCells z.cells (grownCap w n 0 e - n)) e)) := by
    unfold execOp; rw [ho]
    simp only [resolve, invoke, builtin, Sem.run_bind, Sem.run_pure, Result.andThen_ok, List.map_toArray, List.map_cons, List.map_nil, fits_v h hs, fits_v h hx, hr]
  unfold Oper.wp
  rw [hex]
  have hg : w.grownBy (w.drew.alloc (.cells (Builtin.zeroCells z.cells n ++ Builtin.zeroCells z.cells (grownCap w n 0 e - n)) e)) none :=
    ⟨rfl, rfl, rfl, by show w.heap.size ≤ (w.heap.push _).size; simp, fun k hk _ => Below.heap_alloc w.drew _ k hk⟩
  refine hk β _ _ (h.newRow (w' := w.drew.alloc _) ⟨hlen, .inr ⟨w.heap.size, _, _, rfl, Nat.zero_le _, heap_alloc_new w.drew _, hc1, hc2, ?_, ?_⟩⟩ hg (fun k hk => by simp [Value.ownBlock] at hk; omega) o.dst (.inr rfl) hb)
  · rw [Array.size_append, size_zeroCells, size_zeroCells, hzs, ← Nat.add_mul]
    congr 1
    omega
  · rw [Array.toList_append, ← hlen, List.take_left]
end
end Go.Sx
