/- Sx0: a symbolic executor over frames and memory blocks of a call's own: its states, and what they say of the model's frame and world. General: no program. -/
import Derived.WalkKit
namespace Go.Sx
open Go.RowKit

inductive SV where
  | u
  | v (x : Value)
  | p (i off : Nat)
  | s (i off len cap : Nat)
  | fn (f : Fn) (caps : List SV)
  | agg (l : List SV)
  | tup (l : List SV)
  | ifc (t : TypeId) (x : SV)

instance : Inhabited SV := ⟨.u⟩

mutual
def den (β : Nat → Nat) : SV → Value
  | .u => undef
  | .v x => x
  | .p i off => .pointer (some ⟨β i, off, none⟩)
  | .s i off len cap => .slice (some ⟨β i, off, none⟩) len cap
  | .fn f caps => .func f #[] (denL β caps).toArray
  | .agg l => .agg (denL β l).toArray
  | .tup l => .tuple (denL β l).toArray
  | .ifc t x => .iface t (den β x)
def denL (β : Nat → Nat) : List SV → List Value
  | [] => []
  | x :: l => den β x :: denL β l
end

theorem denL_eq (β : Nat → Nat) (l : List SV) : denL β l = l.map (den β) := by
  induction l with
  | nil => rfl
  | cons x l ih => simp [denL, ih]

/- All own blocks named are below n, and nothing unknown lies inside. -/
mutual
def SV.ok (n : Nat) : SV → Bool
  | .u => false
  | .v _ => true
  | .p i _ => decide (i < n)
  | .s i _ _ _ => decide (i < n)
  | .fn _ caps => SV.okL n caps
  | .agg l => SV.okL n l
  | .tup l => SV.okL n l
  | .ifc _ x => SV.ok n x
def SV.okL (n : Nat) : List SV → Bool
  | [] => true
  | x :: l => SV.ok n x && SV.okL n l
end

def SV.bd (n : Nat) : SV → Bool
  | .u => true
  | x => x.ok n

mutual
theorem den_congr {β β' : Nat → Nat} {n : Nat} (h : ∀ i, i < n → β i = β' i) : ∀ x : SV, x.ok n = true → den β x = den β' x
  | .u, hx => by simp [SV.ok] at hx
  | .v _, _ => rfl
  | .p i off, hx => by simp [SV.ok] at hx; simp [den, h i hx]
  | .s i off len cap, hx => by simp [SV.ok] at hx; simp [den, h i hx]
  | .fn f caps, hx => by simp only [SV.ok] at hx; simp only [den, denL_congr h caps hx]
  | .agg l, hx => by simp only [SV.ok] at hx; simp only [den, denL_congr h l hx]
  | .tup l, hx => by simp only [SV.ok] at hx; simp only [den, denL_congr h l hx]
  | .ifc t x, hx => by simp only [SV.ok] at hx; simp only [den, den_congr h x hx]
theorem denL_congr {β β' : Nat → Nat} {n : Nat} (h : ∀ i, i < n → β i = β' i) : ∀ l : List SV, SV.okL n l = true → denL β l = denL β' l
  | [], _ => rfl
  | x :: l, hx => by
    simp only [SV.okL, Bool.and_eq_true] at hx
    simp only [denL, den_congr h x hx.1, denL_congr h l hx.2]
end

/-- A value fits what is known of it. -/
def Fits (β : Nat → Nat) (x : SV) (v : Value) : Prop := x = .u ∨ v = den β x

theorem Fits.known {β : Nat → Nat} {x : SV} {v : Value} (h : Fits β x v) (hx : x ≠ .u) : v = den β x := h.resolve_left hx

theorem Fits.congr {β β' : Nat → Nat} {n : Nat} (h : ∀ i, i < n → β i = β' i) {x : SV} {v : Value} (hx : x.bd n = true) (hf : Fits β x v) : Fits β' x v := by
  rcases hf with rfl | rfl
  · exact .inl rfl
  · cases x with
    | u => exact .inl rfl
    | _ => exact .inr (den_congr h _ hx)

/-- A row of values fits a row of what is known. -/
def Mat (β : Nat → Nat) (cs : List SV) (vs : List Value) : Prop := vs.length = cs.length ∧ ∀ (k : Nat) (c : SV) (v : Value), cs[k]? = some c → vs[k]? = some v → Fits β c v

inductive Blk where
  | dead
  | c (cells : List SV) (t : TypeId)
  | f (g : Nat) (cells : List Value) (t : TypeId)
  | o (v : Value) (n : Nat) (xs : List Value) (t : TypeId) (sz : Nat)

/-- The block of a row, or of a map. -/
def oBlock : Value → Option Nat
  | .map (some g) => some g
  | v => v.ownBlock
/-- A map's entries, in the order in which they came: keys, and what stands there. -/
structure MapAt (arr : Array MapEntry) (clock : Nat) (xs : List Value) : Prop where
  xs : arr.toList.flatMap (fun e => [e.key, e.val]) = xs
  born : ∀ (j : Nat) (e : MapEntry), arr[j]? = some e → e.born = j
  clock : clock = arr.size
/-- A row of the call's own, or a map. -/
def OwnsO (w : World) (t : TypeId) (sz : Nat) (v : Value) (n : Nat) (xs : List Value) : Prop :=
  match v with
  | .map (some g) => sz = 0 ∧ ∃ arr clock, w.heap[g]? = some (.map arr clock) ∧ MapAt arr clock xs
  | v => w.ownsRow 0 t sz v n xs

/-- The memory block that it is about. -/
def Blk.bid (β : Nat → Nat) (i : Nat) : Blk → Option Nat
  | .dead => none
  | .f _ _ _ => none
  | .c _ _ => some (β i)
  | .o v _ _ _ _ => oBlock v

def Blk.bd (n : Nat) : Blk → Bool
  | .c cells _ => cells.all (SV.bd n)
  | _ => true

structure SS where
  fr : List SV
  hp : List Blk

def SS.bd (S : SS) : Bool := S.fr.all (SV.bd S.hp.length) && S.hp.all (Blk.bd S.hp.length)

/-- What lies in the blocks that stay. -/
abbrev Phi := Nat → Option Obj
def stillO : Obj → Bool
  | .cells _ _ _ => true
  | .map _ _ => true
  | _ => false
def Sto (Φ : Phi) (w : World) : Prop := ∀ b o, Φ b = some o → w.heap[b]? = some o ∧ stillO o = true
/-- The same, but for the blocks of G. -/
def PhiG (G : Nat → Nat → Prop) (n : Nat) (Φ Φ' : Phi) : Prop := (∀ b cs, Φ b = some cs → Φ' b = some cs) ∧ ∀ b, b < n → (¬ ∃ i, G i b) → Φ' b = Φ b
def PhiLe (n : Nat) (Φ Φ' : Phi) : Prop := (∀ b cs, Φ b = some cs → Φ' b = some cs) ∧ ∀ b, b < n → Φ' b = Φ b

structure Own (β : Nat → Nat) (hp : List Blk) (Φ : Phi) (w : World) : Prop where
  c : ∀ (i : Nat) (cs : List SV) (t : TypeId), hp[i]? = some (Blk.c cs t) → ∃ vs : Array Value, w.heap[β i]? = some (.cells vs t (0, 0)) ∧ Mat β cs vs.toList
  o : ∀ (i : Nat) (v : Value) (n : Nat) (xs : List Value) (t : TypeId) (sz : Nat), hp[i]? = some (Blk.o v n xs t sz) → OwnsO w t sz v n xs
  inj : ∀ (i j : Nat) (bi bj : Blk) (k : Nat), hp[i]? = some bi → hp[j]? = some bj → bi.bid β i = some k → bj.bid β j = some k → i = j
  phi : ∀ (i : Nat) (b : Blk) (k : Nat), hp[i]? = some b → b.bid β i = some k → Φ k = none
  f : ∀ (i g : Nat) (cs : List Value) (t : TypeId), hp[i]? = some (Blk.f g cs t) → β i = g ∧ Φ g = some (.cells cs.toArray t (0, 0))

structure Keep (G : Nat → Nat → Prop) (E w : World) : Prop where
  os : w.os = E.os
  tape : w.tape = E.tape
  output : w.output = E.output
  size : E.heap.size ≤ w.heap.size
  block : ∀ k, k < E.heap.size → (¬ ∃ i, G i k) → w.heap[k]? = E.heap[k]?

structure Ctx where
  P : Program
  E : World
  G : Nat → Nat → Prop
  Φ0 : Phi
  β0 : Nat → Nat
  n : Nat
  df : List Deferred := []
  md : Option Nat := none

structure St (Γ : Ctx) (Φ : Phi) (β : Nat → Nat) (S : SS) (a : Act) (w : World) : Prop where
  fr : Mat β S.fr a.tmps.toList
  df : a.defers = Γ.df
  own : Own β S.hp Φ w
  sto : Sto Φ w
  lo : ∀ (i : Nat) (b : Blk) (k : Nat), S.hp[i]? = some b → b.bid β i = some k → Γ.E.heap.size ≤ k ∨ ∃ j, Γ.G j k
  keep : Keep Γ.G Γ.E w
  phi : PhiG Γ.G Γ.E.heap.size Γ.Φ0 Φ
  bd : S.bd = true
  pin : ∀ i, i < Γ.n → β i = Γ.β0 i
  len : Γ.n ≤ S.hp.length

/-- From every frame and world that are so, X holds. -/
def At (Γ : Ctx) (Φ : Phi) (S : SS) (X : Act → World → Prop) : Prop := ∀ β a w, St Γ Φ β S a w → X a w

def SS.get (S : SS) : Operand → SV
  | .tmp t => S.fr.getD t .u
  | .const v => .v v
  | .global g => .v (.pointer (some ⟨g, 0, none⟩))
  | .func f => .v (.func (.func f) #[] #[])

def SS.put (S : SS) (d : Option Tmp) (x : SV) : SS :=
  match d with
  | some d => { S with fr := S.fr.set d x }
  | none => S

theorem Mat.get {β : Nat → Nat} {cs : List SV} {vs : List Value} (h : Mat β cs vs) {k : Nat} {c : SV} (hc : cs[k]? = some c) : ∃ v, vs[k]? = some v ∧ Fits β c v := by
  have hk : k < cs.length := by
    rcases Nat.lt_or_ge k cs.length with h | h
    · exact h
    · rw [List.getElem?_eq_none h] at hc; cases hc
  have hv : k < vs.length := by rw [h.1]; exact hk
  exact ⟨vs[k], List.getElem?_eq_getElem hv, h.2 k c _ hc (List.getElem?_eq_getElem hv)⟩

theorem St.eval {Γ : Ctx} {Φ : Phi} {β : Nat → Nat} {S : SS} {a : Act} {w : World} (h : St Γ Φ β S a w) (x : Operand) : Fits β (S.get x) (a.eval x) := by
  cases x with
  | const v => exact .inr rfl
  | global g => exact .inr rfl
  | func f => exact .inr rfl
  | tmp t =>
    simp only [SS.get, Act.eval]
    cases hc : S.fr[t]? with
    | none => exact .inl (by simp [List.getD, hc])
    | some c =>
      obtain ⟨v, hv, hf⟩ := h.fr.get hc
      have : a.tmps.getD t undef = v := by
        rw [Array.getElem?_toList] at hv
        simp [hv]
      rw [this, List.getD, hc]
      exact hf

theorem Mat.set {β : Nat → Nat} {cs : List SV} {vs : List Value} (h : Mat β cs vs) (d : Nat) {x : SV} {v : Value} (hx : Fits β x v) : Mat β (cs.set d x) (vs.set d v) := by
  refine ⟨by simp [h.1], fun k c u hc hu => ?_⟩
  rw [List.getElem?_set] at hc hu
  by_cases e : d = k
  · subst e
    simp only [if_true] at hc hu
    split at hc
    · split at hu
      · cases hc; cases hu; exact hx
      · cases hu
    · cases hc
  · rw [if_neg e] at hc hu
    exact h.2 k c u hc hu

theorem Mat.put {β : Nat → Nat} {S : SS} {a : Act} (h : Mat β S.fr a.tmps.toList) (d : Option Tmp) {x : SV} {v : Value} (hx : Fits β x v) : Mat β (S.put d x).fr (a.put d v).tmps.toList := by
  cases d with
  | none => exact h
  | some d =>
    simp only [SS.put, Act.put, Array.toList_setIfInBounds]
    exact h.set d hx

theorem Mat.congr {β β' : Nat → Nat} {n : Nat} (hb : ∀ i, i < n → β i = β' i) {cs : List SV} {vs : List Value} (h : Mat β cs vs) (hn : cs.all (SV.bd n) = true) : Mat β' cs vs := by
  refine ⟨h.1, fun k c v hc hv => (h.2 k c v hc hv).congr hb ?_⟩
  rw [List.all_eq_true] at hn
  exact hn c (List.mem_of_getElem? hc)

theorem Act.put_df {a : Act} {d : Option Tmp} {v : Value} : (a.put d v).defers = a.defers := by cases d <;> rfl

theorem put_hp (S : SS) (d : Option Tmp) (x : SV) : (S.put d x).hp = S.hp := by cases d <;> rfl

/-- An operation that only tells a value. -/
theorem St.put {Γ : Ctx} {Φ : Phi} {β : Nat → Nat} {S : SS} {a : Act} {w : World} (h : St Γ Φ β S a w) (d : Option Tmp) {x : SV} {v : Value} (hx : Fits β x v) (hb : (S.put d x).bd = true) :
    St Γ Φ β (S.put d x) (a.put d v) w :=
  ⟨h.fr.put d hx, by rw [Act.put_df]; exact h.df, by rw [put_hp]; exact h.own, h.sto, by rw [put_hp]; exact h.lo, h.keep, h.phi, hb, h.pin, by rw [put_hp]; exact h.len⟩

def upd (β : Nat → Nat) (n b : Nat) : Nat → Nat := fun i => if i = n then b else β i
theorem upd_lt (β : Nat → Nat) (n b : Nat) : ∀ i, i < n → β i = upd β n b i := fun i hi => by unfold upd; rw [if_neg (by omega)]

theorem heap_alloc_new (w : World) (o : Obj) : (w.alloc o).heap[w.heap.size]? = some o := by
  show (w.heap.push o)[w.heap.size]? = _
  simp
theorem heap_alloc_old {w : World} {o : Obj} {k : Nat} {x : Obj} (h : w.heap[k]? = some x) : (w.alloc o).heap[k]? = some x := by
  have hk : k < w.heap.size := by
    rcases Nat.lt_or_ge k w.heap.size with h' | h'
    · exact h'
    · rw [Array.getElem?_eq_none h'] at h; cases h
  rw [Below.heap_alloc w o k hk]; exact h
theorem lt_of_heap {w : World} {k : Nat} {x : Obj} (h : w.heap[k]? = some x) : k < w.heap.size := by
  rcases Nat.lt_or_ge k w.heap.size with h' | h'
  · exact h'
  · rw [Array.getElem?_eq_none h'] at h; cases h

theorem SS.bd_fr {S : SS} (h : S.bd = true) : S.fr.all (SV.bd S.hp.length) = true := by
  unfold SS.bd at h; rw [Bool.and_eq_true] at h; exact h.1
theorem SS.bd_hp {S : SS} (h : S.bd = true) {i : Nat} {cs : List SV} {t : TypeId} (hi : S.hp[i]? = some (.c cs t)) : cs.all (SV.bd S.hp.length) = true := by
  unfold SS.bd at h
  rw [Bool.and_eq_true, List.all_eq_true] at h
  have := (List.all_eq_true.1 h.2) _ (List.mem_of_getElem? hi)
  exact this

theorem OwnsO.obj {w : World} {t sz n g : Nat} {v : Value} {xs : List Value} (h : OwnsO w t sz v n xs) (hb : oBlock v = some g) : ∃ x, w.heap[g]? = some x ∧ stillO x = true := by
  unfold OwnsO at h
  split at h
  · cases hb
    obtain ⟨_, arr, clock, h1, _⟩ := h
    exact ⟨_, h1, rfl⟩
  · rename_i hv
    have hb' : v.ownBlock = some g := by
      unfold oBlock at hb
      split at hb
      · exact absurd rfl (hv _)
      · exact hb
    obtain ⟨_, hr⟩ := h
    rcases hr with ⟨rfl, _⟩ | ⟨g', cap, cur, rfl, _, hg, _⟩
    · cases hb'
    · simp only [Value.ownBlock, Option.some.injEq] at hb'
      subst hb'
      exact ⟨_, hg, rfl⟩
theorem OwnsO.of_row {w : World} {t sz n : Nat} {v : Value} {xs : List Value} (h : w.ownsRow 0 t sz v n xs) : OwnsO w t sz v n xs ∧ oBlock v = v.ownBlock := by
  have h' := h
  obtain ⟨_, hr⟩ := h
  rcases hr with ⟨rfl, _⟩ | ⟨g', cap, cur, rfl, _, hg, _⟩ <;> exact ⟨h', rfl⟩
theorem OwnsO.row {w : World} {t sz n : Nat} {v : Value} {xs : List Value} (h : OwnsO w t sz v n xs) (hv : ∀ g, v ≠ .map (some g)) : w.ownsRow 0 t sz v n xs := by
  unfold OwnsO at h
  split at h
  · exact absurd rfl (hv _)
  · exact h
theorem OwnsO.rowp {w : World} {t sz n : Nat} {v : Value} {xs : List Value} (h : OwnsO w t sz v n xs) (hp : 0 < sz) : w.ownsRow 0 t sz v n xs := h.row fun g hg => by
  subst hg
  have := h.1
  omega
theorem Own.lt {β : Nat → Nat} {hp : List Blk} {Φ : Phi} {w : World} (h : Own β hp Φ w) {i : Nat} {b : Blk} {k : Nat} (hi : hp[i]? = some b) (hl : b.bid β i = some k) : k < w.heap.size := by
  cases b with
  | dead => cases hl
  | f g cs t => cases hl
  | c cs t => cases hl; obtain ⟨vs, hv, _⟩ := h.c i cs t hi; exact lt_of_heap hv
  | o v n xs t sz =>
    obtain ⟨x, hx, _⟩ := (h.o i v n xs t sz hi).obj hl
    exact lt_of_heap hx

theorem Keep.alloc {G : Nat → Nat → Prop} {E w : World} (h : Keep G E w) (o : Obj) : Keep G E (w.alloc o) :=
  ⟨h.os, h.tape, h.output, by have := h.size; simp; omega, fun k hk hg => by
    rw [Below.heap_alloc w o k (by have := h.size; omega)]; exact h.block k hk hg⟩

theorem ownsRow_keep {w w' : World} {base t sz n : Nat} {v : Value} {xs : List Value} (h : w.ownsRow base t sz v n xs) (hk : ∀ g, v.ownBlock = some g → w'.heap[g]? = w.heap[g]?) : w'.ownsRow base t sz v n xs := by
  obtain ⟨h1, h2⟩ := h
  refine ⟨h1, ?_⟩
  rcases h2 with h2 | ⟨g, cap, cur, hv, hb, hg, r⟩
  · exact .inl h2
  · exact .inr ⟨g, cap, cur, hv, hb, by rw [hk g (by rw [hv]; rfl)]; exact hg, r⟩

theorem ownsO_keep {w w' : World} {t sz n : Nat} {v : Value} {xs : List Value} (h : OwnsO w t sz v n xs) (hk : ∀ g, oBlock v = some g → w'.heap[g]? = w.heap[g]?) : OwnsO w' t sz v n xs := by
  unfold OwnsO at h ⊢
  split
  · obtain ⟨h0, arr, clock, h1, h2⟩ := h
    exact ⟨h0, arr, clock, (hk _ rfl).trans h1, h2⟩
  · rename_i hv
    split at h
    · exact absurd rfl (hv _)
    · refine ownsRow_keep h fun g hg => hk g ?_
      unfold oBlock
      split
      · exact absurd rfl (hv _)
      · exact hg
theorem bid_congr {β β' : Nat → Nat} {i : Nat} (h : β i = β' i) (b : Blk) : b.bid β i = b.bid β' i := by
  cases b <;> simp [Blk.bid, h]

theorem get_append {α : Type} {l : List α} {b y : α} {i : Nat} (hi : (l ++ [b])[i]? = some y) : (i < l.length ∧ l[i]? = some y) ∨ (i = l.length ∧ y = b) := by
  rw [List.getElem?_append] at hi
  split at hi
  · exact .inl ⟨by assumption, hi⟩
  · rename_i hge
    right
    have : i - l.length = 0 := by
      rcases Nat.eq_zero_or_pos (i - l.length) with h0 | h0
      · exact h0
      · rw [List.getElem?_eq_none (by simp; omega)] at hi; cases hi
    rw [this] at hi
    simp at hi
    exact ⟨by omega, hi.symm⟩

/-- A new block. -/
theorem St.alloc {Γ : Ctx} {Φ : Phi} {β : Nat → Nat} {S : SS} {a : Act} {w : World} (h : St Γ Φ β S a w) (d : Option Tmp) (cs : List SV) (t : TypeId) (vs : Array Value) {x : SV} {v : Value}
    (hx : Fits (upd β S.hp.length w.heap.size) x v) (hm : Mat (upd β S.hp.length w.heap.size) cs vs.toList)
    (hb : ({ fr := (S.put d x).fr, hp := S.hp ++ [.c cs t] } : SS).bd = true) :
    St Γ Φ (upd β S.hp.length w.heap.size) { fr := (S.put d x).fr, hp := S.hp ++ [.c cs t] } (a.put d v) (w.alloc (.cells vs t)) := by
  have hβ := upd_lt β S.hp.length w.heap.size
  have hnew : upd β S.hp.length w.heap.size S.hp.length = w.heap.size := by simp [upd]
  refine ⟨(h.fr.congr hβ (SS.bd_fr h.bd)).put d hx, by rw [Act.put_df]; exact h.df, ⟨?_, ?_, ?_, ?_, fun i g cs' t' hi => by
    rcases get_append hi with ⟨hlt, hi⟩ | ⟨rfl, he⟩
    · rw [← hβ i hlt]; exact h.own.f i g cs' t' hi
    · cases he⟩, ?_, ?_, h.keep.alloc _, h.phi, hb, fun i hi => by rw [← hβ i (by have := h.len; omega)]; exact h.pin i hi, by have := h.len; simp; omega⟩
  · intro i cs' t' hi
    rcases get_append hi with ⟨hlt, hi⟩ | ⟨rfl, he⟩
    · obtain ⟨vs', hv, hm'⟩ := h.own.c i cs' t' hi
      rw [← hβ i hlt]
      exact ⟨vs', heap_alloc_old hv, hm'.congr hβ (SS.bd_hp h.bd hi)⟩
    · cases he
      rw [hnew]
      exact ⟨vs, heap_alloc_new w _, hm⟩
  · intro i v' n xs t' sz hi
    rcases get_append hi with ⟨hlt, hi⟩ | ⟨rfl, he⟩
    · refine ownsO_keep (h.own.o i v' n xs t' sz hi) fun g hg => ?_
      exact Below.heap_alloc w _ g (h.own.lt hi hg)
    · cases he
  · intro i j bi bj k hi hj li lj
    rcases get_append hi with ⟨hlt, hi⟩ | ⟨rfl, he⟩ <;> rcases get_append hj with ⟨hlt', hj⟩ | ⟨rfl, he'⟩
    · rw [← bid_congr (hβ i hlt)] at li
      rw [← bid_congr (hβ j hlt')] at lj
      exact h.own.inj i j bi bj k hi hj li lj
    · subst he'
      simp only [Blk.bid, hnew, Option.some.injEq] at lj
      rw [← bid_congr (hβ i hlt)] at li
      have := h.own.lt hi li
      omega
    · subst he
      simp only [Blk.bid, hnew, Option.some.injEq] at li
      rw [← bid_congr (hβ j hlt')] at lj
      have := h.own.lt hj lj
      omega
    · rfl
  · intro i y k hi hy
    rcases get_append hi with ⟨hlt, hi⟩ | ⟨rfl, he⟩
    · rw [← bid_congr (hβ i hlt)] at hy; exact h.own.phi i y k hi hy
    · subst he
      simp only [Blk.bid, hnew, Option.some.injEq] at hy
      subst hy
      cases hΦ : Φ w.heap.size with
      | none => rfl
      | some cs =>
        obtain ⟨hz, hzq⟩ := h.sto _ _ hΦ
        have := lt_of_heap hz
        omega
  · intro k cs hk
    obtain ⟨hz, hzq⟩ := h.sto k cs hk
    exact ⟨heap_alloc_old hz, hzq⟩
  · intro i y k hi hy
    rcases get_append hi with ⟨hlt, hi⟩ | ⟨rfl, he⟩
    · rw [← bid_congr (hβ i hlt)] at hy; exact h.lo i y k hi hy
    · subst he
      simp only [Blk.bid, hnew, Option.some.injEq] at hy
      subst hy
      exact .inl h.keep.size

end Go.Sx
