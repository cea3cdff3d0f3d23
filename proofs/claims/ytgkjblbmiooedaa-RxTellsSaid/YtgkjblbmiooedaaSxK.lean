/- SxK: from what a row is handed to what a contract asks, and back. General: no program. -/
import Derived.Test.YtgkjblbmiooedaaSxH
import Derived.ProofKit
namespace Go.Sx
open Go.RowKit Go.WideShapes Go.ChangeShapes

/-- All that lies in cells. -/
def phiOf (W : World) : Phi := fun b => match W.heap[b]? with | some (.cells cs t z) => some (.cells cs t z) | _ => none
theorem phiOf_sto (W : World) : Sto (phiOf W) W := by
  intro b cs h
  unfold phiOf at h
  split at h
  · rename_i cs' t z hb; cases h; exact ⟨hb, rfl⟩
  · cases h

theorem row_cells {α : Type} {en : α → List Value} {sz : Nat} (hsz : ∀ x, (en x).length = sz) {cs : Array Value} : ∀ (xs : List α) (off : Nat), (∀ i x, xs[i]? = some x → ∀ r u, (en x)[r]? = some u → cs[off + i * sz + r]? = some u) → ∀ j u, (xs.flatMap en)[j]? = some u → cs[off + j]? = some u
  | [], _, _, j, u, h => by simp at h
  | x :: xs, off, hx, j, u, h => by
    rw [List.flatMap_cons] at h
    by_cases hj : j < sz
    · rw [List.getElem?_append_left (by rw [hsz]; exact hj)] at h
      have := hx 0 x rfl j u h
      simpa using this
    · rw [List.getElem?_append_right (by rw [hsz]; omega), hsz] at h
      have := row_cells hsz xs (off + sz) (fun i y hy r v hv => by
        have := hx (i + 1) y (by simpa using hy) r v hv
        rw [show off + sz + i * sz + r = off + (i + 1) * sz + r from by rw [Nat.add_mul]; omega]
        exact this) (j - sz) u h
      rw [show off + j = off + sz + (j - sz) from by omega]
      exact this
theorem choose_list {α : Type} {R : Nat → α → Prop} : ∀ n, (∀ i, i < n → ∃ x, R i x) → ∃ xs : List α, xs.length = n ∧ ∀ i x, xs[i]? = some x → R i x
  | 0, _ => ⟨[], rfl, fun i x h => by simp at h⟩
  | n + 1, h => by
    obtain ⟨xs, hl, hx⟩ := choose_list n fun i hi => h i (by omega)
    obtain ⟨y, hy⟩ := h n (by omega)
    refine ⟨xs ++ [y], by simp [hl], fun i x hi => ?_⟩
    by_cases hin : i < n
    · rw [List.getElem?_append_left (by omega)] at hi; exact hx i x hi
    · rw [List.getElem?_append_right (by omega)] at hi
      have : i - xs.length = 0 := by
        rcases Nat.eq_zero_or_pos (i - xs.length) with h0 | h0
        · exact h0
        · rw [List.getElem?_eq_none (by simp; omega)] at hi; cases hi
      rw [this] at hi
      cases hi
      rw [show i = n from by omega]
      exact hy

section
variable {H : Type} {enc : TypeId × Value → H} {P : Program} {W : World} {sp : Nat → Bool}

theorem cells_get {a : Addr} {n : Nat} {cs : List Value} (h : W.cells? 0 a n = some cs) : cs.length = n ∧ ∀ r u, cs[r]? = some u → W.cell? (a.add r) = some u := by
  unfold World.cells? at h
  rw [if_pos (Nat.zero_le _)] at h
  refine ⟨by simpa using mapM_some_length h, fun r u hr => ?_⟩
  have hlt : r < n := by
    have := mapM_some_length h
    simp at this
    rw [← this]; exact lt_get hr
  have := mapM_some_get h r r (by simp [hlt])
  rw [this, hr]
theorem cell_phi {a : Addr} {u : Value} (h : W.cell? a = some u) : ∃ cs t z, phiOf W a.block = some (.cells cs t z) ∧ a.spot = none ∧ cs[a.off]? = some u := by
  unfold World.cell? at h
  split at h
  · rename_i c t z hb
    split at h
    · cases h
    · rename_i hs
      refine ⟨c, t, z, by unfold phiOf; rw [hb], by simpa using hs, h⟩
  · cases h

/-- A slice that reads as data: its row. -/
theorem open_rows {t e : TypeId} {sz : Nat} {α : Type} {en : α → List Value} {G : α → Prop} (ht : P.underlying t = some (.slice e)) (hc : P.cellsOf e = sz) (hs : 0 < sz) (hsz : ∀ x, (en x).length = sz)
    (hel : ∀ (n : Nat) (cs : List Value) (y : DataW H × List MemPlace), DataW.trod enc P W 0 sp true n e cs = some y → ∃ x, en x = cs ∧ G x) {fuel : Nat} {cs : List Value} {y : DataW H × List MemPlace} (h : DataW.trod enc P W 0 sp true fuel t cs = some y) :
    ∃ (A : Option Addr) (xs : List α) (c : Nat), cs = [.slice A xs.length c] ∧ RdC (phiOf W) A (xs.flatMap en) ∧ xs.length ≤ c ∧ c ≤ maxLen ∧ ∀ x ∈ xs, G x := by
  rcases DataW.trod_slice ht h with ⟨rfl, _⟩ | ⟨a, len, cap, elems, rest, n, _, rfl, _, _, hl, hm, hlen, hel1, _⟩
  · exact ⟨none, [], 0, rfl, RdC.nil, Nat.le_refl _, by unfold maxLen; omega, fun x hx => by cases hx⟩
  · have hch : ∀ i, i < len → ∃ x : α, (∀ r u, (en x)[r]? = some u → W.cell? ((a.add (i * sz)).add r) = some u) ∧ G x := by
      intro i hi
      have h1 := hel1 i hi
      rw [hc] at h1
      have hsome : ∃ z, elems[i]? = some z := ⟨elems[i]'(by omega), List.getElem?_eq_getElem (by omega)⟩
      obtain ⟨z, hz⟩ := hsome
      rw [hz, Option.bind_eq_some_iff] at h1
      obtain ⟨cs, h2, h3⟩ := h1
      obtain ⟨x, rfl, hg⟩ := hel n cs z h3
      exact ⟨x, (cells_get h2).2, hg⟩
    obtain ⟨xs, hxl, hx⟩ := choose_list len hch
    refine ⟨some a, xs, cap, by rw [hxl], ?_, by omega, hm, fun x hxm => ?_⟩
    · intro hpos
      have hne : 0 < len := by
        rcases Nat.eq_zero_or_pos len with h0 | h0
        · rw [h0, List.length_eq_zero_iff] at hxl; rw [hxl] at hpos; simp at hpos
        · exact h0
      obtain ⟨x0, hx0⟩ : ∃ x, xs[0]? = some x := ⟨xs[0]'(by omega), List.getElem?_eq_getElem (by omega)⟩
      obtain ⟨u0, hu0⟩ : ∃ u, (en x0)[0]? = some u := ⟨(en x0)[0]'(by rw [hsz]; exact hs), List.getElem?_eq_getElem (by rw [hsz]; exact hs)⟩
      have h0 := (hx 0 x0 hx0).1 0 u0 hu0
      rw [Nat.zero_mul] at h0
      have ha : (a.add 0).add 0 = a := by simp [Addr.add]
      rw [ha] at h0
      obtain ⟨arr, at_, az, hphi, hspot, _⟩ := cell_phi h0
      refine ⟨a.block, a.off, arr, at_, az, by cases a; simp_all, hphi, ?_⟩
      refine row_cells hsz xs a.off fun i x hi r u hr => ?_
      have h1 := (hx i x hi).1 r u hr
      obtain ⟨arr', _, _, hphi', _, hg⟩ := cell_phi h1
      have hb : ((a.add (i * sz)).add r).block = a.block := by unfold Addr.add; split <;> split <;> rfl
      have ho : ((a.add (i * sz)).add r).off = a.off + i * sz + r := by unfold Addr.add; split <;> split <;> simp_all
      rw [hb, hphi] at hphi'
      cases hphi'
      rw [ho] at hg
      exact hg
    · obtain ⟨i, hi⟩ := List.mem_iff_getElem?.1 hxm
      exact (hx i x hi).2

/-- A reading stays where all that was there stays. -/
theorem trodAll_stays (hl : laidOutB P = true) {W' : World} (hb : Below W.heap.size W W') : ∀ (ts : List TypeId) (vs : List Value) (ds : List (DataW H)) (ps : List MemPlace), (∀ t ∈ ts, P.readableRec t = true ∧ t < P.types.size) → (∀ x ∈ ps, x.block < W.heap.size) →
    DataW.TrodAll enc P W 0 (fun _ => true) true ts vs ds ps → ∀ sp' : Nat → Bool, (∀ p ∈ ps, sp' p.block = true) → DataW.TrodAll enc P W' 0 sp' true ts vs ds ps
  | [], [], [], ps, _, _, h, _, _ => h
  | t :: ts, v :: vs, d :: ds, ps, hr, hlt, h, sp', hsp => by
    obtain ⟨p, q, h1, h2, rfl⟩ := h
    refine ⟨p, q, ?_, trodAll_stays hl hb ts vs ds q (fun t ht => hr t (by simp [ht])) (fun x hx => hlt x (by simp [hx])) h2 sp' (fun x hx => hsp x (by simp [hx])), rfl⟩
    exact WideElems.Trod_stays hl (hr t (by simp)).1 (hr t (by simp)).2 h1 (fun x hx => hb.same (hlt x (by simp [hx]))) (fun x hx => hsp x (by simp [hx]))
  | [], _ :: _, _, _, _, _, h, _, _ => by simp [DataW.TrodAll] at h
  | [], [], _ :: _, _, _, _, h, _, _ => by simp [DataW.TrodAll] at h
  | _ :: _, [], _, _, _, _, h, _, _ => by simp [DataW.TrodAll] at h
  | _ :: _, _ :: _, [], _, _, _, h, _, _ => by simp [DataW.TrodAll] at h

theorem post_of_below {f : Func} {s : ChangeSpec} {apart fresh handsOn again : Bool} {W W' : World} {args : Array Value} {v : Value} {ds gs : List (DataW H)} {before pa pv : List MemPlace}
    (hW : DataW.Whole enc P f.params.toList s.vars apart W args.toList ds gs before)
    (hres : ∀ (b : Nat) (sp : Nat → Bool) (hd : Bool), DataW.TrodAll enc P W' b sp hd f.resultTypes.toList (v.resultList f.resultTypes.size) (s.fn H (ds ++ gs)).results [])
    (hargs : ∀ sp : Nat → Bool, (∀ p ∈ before, sp p.block = true) → DataW.TrodAll enc P W' 0 sp true f.params.toList args.toList (s.fn H (ds ++ gs)).args pa)
    (hvars : ∀ sp : Nat → Bool, (∀ p ∈ before, sp p.block = true) → DataW.TrodVars enc P W' sp s.vars (s.fn H (ds ++ gs)).vars pv)
    (hps : before = pa ++ pv) (hb : Below W.heap.size W W')
    (hok : ∀ (j : Nat) (t : TypeId) (r : Value), f.resultTypes[j]? = some t → (v.resultList f.resultTypes.size)[j]? = some r → Value.okWide P W' .any 0 t r) :
    s.post enc P f apart fresh handsOn again W args v W' := by
  have hlt : ∀ p ∈ before, p.block < W.heap.size := fun p hp => hW.lt p hp
  have hold : ∀ p ∈ before, (fun b => decide (b < W.heap.size)) p.block = true := fun p hp => by simpa using hlt p hp
  refine ⟨ds, gs, before, [], pa, pv, hW, hres _ _ _, hargs _ hold, hvars _ hold, World.keptBut_mono (fun p hp => ⟨hp, ?_⟩) (hb.frame (· ∈ before)), fun _ => ?_⟩
  · rw [hps, List.mem_append] at hp
    exact Or.inr hp
  · obtain ⟨_, _, _, _, _, hz, hn⟩ := hW
    refine ⟨hok, _, _, ([] ++ pa) ++ pv, ⟨[] ++ pa, pv, trodAll_append (hargs _ (fun _ _ => rfl)) (hres _ _ _), hvars _ (fun _ _ => rfl), rfl, ?_, ?_⟩, ?_⟩
    · intro b off hp
      have hin : MemPlace.cell b off ∈ before := by rw [hps]; simpa using hp
      rw [hb.frozen (hlt _ hin)]
      exact hz b off hin
    · intro ha
      have := hn ha
      rw [hps] at this
      simpa using this
    · intro p hp _
      rw [hps]
      simpa using hp

/-- A law that only reads, and returns true, by its contract. -/
theorem said_of_call {fn : Func} {f : FuncId} {s : ChangeSpec} {apart fresh handsOn again : Bool} {args : Array Value} {ds gs : List (DataW H)} {before : List MemPlace} {tb : TypeId}
    (hl : laidOutB P = true) (hvars : s.vars = []) (hres : fn.resultTypes = #[tb]) (hb : P.underlying tb = some .bool) (hr : ∀ t ∈ fn.params.toList, P.readableRec t = true ∧ t < P.types.size)
    (hW : DataW.Whole enc P fn.params.toList s.vars apart W args.toList ds gs before) (hfn : s.fn H (ds ++ []) = { results := [.lit (.bool true)], args := ds })
    {as : List SV} {T : Type} {F : T → Phi → Prop} (hargs : args = (as.map (den fun _ => 0)).toArray) (hC : CallR P f as [] (phiOf W) T (fun _ => .v (.bool true)) (fun _ => []) F) :
    Calls P f args W fun e W' => ∃ v, e = .returned v ∧ s.post enc P fn apart fresh handsOn again W args v W' := by
  rw [hargs]
  refine (hC (fun _ => 0) W (phiOf_sto W) ⟨fun i cs t hi => by simp at hi, fun i v n xs t sz hi => by simp at hi, fun i j bi bj k hi => by simp at hi, fun i b k hi => by simp at hi, fun i g cs t hi => by simp at hi⟩).mono fun e W' hR => ?_
  obtain ⟨Φ', β', hp', es, h1, h2, h3, h4, h5, h6, h7, h8, h9, h10, t, rfl, rfl, hF⟩ := hR
  have he : e = .returned (.bool true) := h1
  have hbel : Below W.heap.size W W' := ⟨h8.os, h8.tape, h8.output, h8.size, fun k hk => h8.block k hk (by rintro ⟨i, b, hb, _⟩; simp at hb)⟩
  refine ⟨_, he, ?_⟩
  have hlt : ∀ p ∈ before, p.block < W.heap.size := fun p hp => hW.lt p hp
  obtain ⟨p, q, hA, hV, hpq, hz, hn⟩ := id hW
  rw [hvars] at hV
  obtain ⟨rfl, rfl⟩ := trodVars_none hV
  rw [List.append_nil] at hpq
  subst hpq
  rw [← hargs]
  refine post_of_below (pa := before) (pv := []) hW ?_ ?_ ?_ (by simp) hbel (ok_one hres rfl (okWide_bool_mk hb true))
  · intro b sp hd
    rw [hfn, hres]
    exact trodAll_mk1 (shut_bool hb true)
  · intro sp hsp
    rw [hfn]
    exact trodAll_stays hl hbel _ _ _ _ hr hlt hA sp hsp
  · intro sp _
    rw [hvars, hfn]
    rfl
end
end Go.Sx
