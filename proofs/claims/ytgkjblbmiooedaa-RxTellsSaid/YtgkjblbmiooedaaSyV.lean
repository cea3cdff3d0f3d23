/- SyV: maps of the call's own. General: no program. -/
import Derived.Test.YtgkjblbmiooedaaSyU
import Derived.MapFrom
namespace Go.Sx
open Go.RowKit

/- association lists -/
def mget {κ V : Type} (eq : κ → κ → Bool) (es : List (κ × V)) (x : κ) : Option V := (es.find? fun p => eq x p.1).map (·.2)
def mput {κ V : Type} (eq : κ → κ → Bool) (x : κ) (v : V) : List (κ × V) → List (κ × V)
  | [] => [(x, v)]
  | p :: es => if eq x p.1 then (p.1, v) :: es else p :: mput eq x v es
def mtch {κ V : Type} (eq : κ → κ → Bool) (x : κ) (z : V) (es : List (κ × V)) : List (κ × V) := if (mget eq es x).isSome then es else es ++ [(x, z)]
/-- Entries as cells. -/
def mcs {κ V : Type} (kv : κ → Value) (vv : V → Value) (es : List (κ × V)) : List Value := es.flatMap fun p => [kv p.1, vv p.2]

structure KeyOk (P : Program) (kt : TypeId) {κ : Type} (kv : κ → Value) (eq : κ → κ → Bool) : Prop where
  now : ∀ d, P.underlying kt = some d → ∀ x y b, Instr.sameNow d (kv x) (kv y) = some b → b = eq x y
  run : ∀ x y w, (Op.equal kt (kv x) (kv y)).run P w = .ok (eq x y) w
  chk : ∀ e x w, (Instr.checkKey e 10000 kt (kv x)).run P w = .ok () w
  law : ∀ x y, eq x y = true → x = y
  bits : ∀ x, Instr.sameBits 10000 (kv x) (kv x) = true
  und : ∃ d, P.underlying kt = some d
  refl : ∀ x, eq x x = true

section
variable {P : Program} {kt : TypeId} {κ V : Type} {kv : κ → Value} {eq : κ → κ → Bool} {vv : V → Value}

/-- Where a key stands. -/
def mfind (eq : κ → κ → Bool) (x : κ) : List (κ × V) → Nat → Option (Nat × V)
  | [], _ => none
  | p :: es, i => if eq x p.1 then some (i, p.2) else mfind eq x es (i + 1)
theorem mfind_get (x : κ) : ∀ (es : List (κ × V)) (i : Nat), (mfind eq x es i).map (·.2) = mget eq es x
  | [], _ => rfl
  | p :: es, i => by
    unfold mfind mget
    rw [List.find?_cons]
    by_cases h : eq x p.1
    · simp [h]
    · simp only [h, if_false, Bool.false_eq_true]
      exact mfind_get x es (i + 1)

theorem mcs_cons {p : κ × V} {es : List (κ × V)} {l : List MapEntry} (h : l.flatMap (fun e => [e.key, e.val]) = mcs kv vv (p :: es)) : ∃ e l', l = e :: l' ∧ e.key = kv p.1 ∧ e.val = vv p.2 ∧ l'.flatMap (fun e => [e.key, e.val]) = mcs kv vv es := by
  cases l with
  | nil => simp [mcs] at h
  | cons e l' =>
    simp only [mcs, List.flatMap_cons, List.cons_append, List.nil_append, List.cons.injEq] at h
    exact ⟨e, l', rfl, h.1, h.2.1, h.2.2⟩
theorem mcs_nil {l : List MapEntry} (h : l.flatMap (fun e => [e.key, e.val]) = mcs kv vv ([] : List (κ × V))) : l = [] := by
  cases l with
  | nil => rfl
  | cons e l' => simp [mcs] at h

theorem findNow_of (K : KeyOk P kt kv eq) {d : TypeDesc} (hd : P.underlying kt = some d) (x : κ) : ∀ (es : List (κ × V)) (l : List MapEntry) (i : Nat) (r : Option (Nat × Value)), l.flatMap (fun e => [e.key, e.val]) = mcs kv vv es → Instr.findNow d (kv x) l i = some r → r = (mfind eq x es i).map fun p => (p.1, vv p.2)
  | [], l, i, r, h, hr => by
    rw [mcs_nil h] at hr
    simp only [Instr.findNow, Option.some.injEq] at hr
    subst hr; rfl
  | p :: es, l, i, r, h, hr => by
    obtain ⟨e, l', rfl, h1, h2, h3⟩ := mcs_cons h
    unfold Instr.findNow at hr
    rw [h1] at hr
    unfold mfind
    split at hr
    · rename_i hs
      rw [← K.now d hd _ _ _ hs]
      simp only [Option.some.injEq] at hr
      rw [← hr, h2]; rfl
    · rename_i hs
      rw [← K.now d hd _ _ _ hs]
      exact findNow_of K hd x es l' (i + 1) r h3 hr
    · cases hr
theorem findAsking_of (K : KeyOk P kt kv eq) (x : κ) (w : World) : ∀ (es : List (κ × V)) (l : List MapEntry) (i : Nat), l.flatMap (fun e => [e.key, e.val]) = mcs kv vv es → (Instr.findAsking kt (kv x) l i).run P w = .ok ((mfind eq x es i).map fun p => (p.1, vv p.2)) w
  | [], l, i, h => by
    rw [mcs_nil h]; rfl
  | p :: es, l, i, h => by
    obtain ⟨e, l', rfl, h1, h2, h3⟩ := mcs_cons h
    unfold Instr.findAsking mfind
    rw [h1, Sem.run_bind, K.run, Result.andThen_ok]
    cases eq x p.1 with
    | true => simp [h2]
    | false => simpa using findAsking_of K x w es l' (i + 1) h3
theorem findKey_of (K : KeyOk P kt kv eq) (x : κ) (w : World) (es : List (κ × V)) (l : List MapEntry) (h : l.flatMap (fun e => [e.key, e.val]) = mcs kv vv es) : (Instr.findKey kt (kv x) l).run P w = .ok ((mfind eq x es 0).map fun p => (p.1, vv p.2)) w := by
  obtain ⟨d, hd⟩ := K.und
  unfold Instr.findKey
  rw [Sem.run_bind, run_underlying hd, Result.andThen_ok]
  split
  · rename_i r hr
    rw [findNow_of K hd x es l 0 r h hr]; rfl
  · exact findAsking_of K x w es l 0 h

theorem mfind_mput {x : κ} {v : V} {f : MapEntry → MapEntry} (hf : ∀ e, (f e).val = vv v) (hk : ∀ (p : κ × V) (e : MapEntry), eq x p.1 = true → e.key = kv p.1 → (f e).key = kv p.1) : ∀ (es : List (κ × V)) (l : List MapEntry) (i j : Nat) (v0 : V), l.flatMap (fun e => [e.key, e.val]) = mcs kv vv es → mfind eq x es i = some (j, v0) →
    ∃ d, j = i + d ∧ d < l.length ∧ (l.modify d f).flatMap (fun e => [e.key, e.val]) = mcs kv vv (mput eq x v es)
  | [], l, i, j, v0, h, hm => by cases hm
  | p :: es, l, i, j, v0, h, hm => by
    obtain ⟨e, l', rfl, h1, h2, h3⟩ := mcs_cons h
    unfold mfind at hm
    unfold mput
    by_cases hx : eq x p.1 = true
    · rw [if_pos hx] at hm ⊢
      simp only [Option.some.injEq, Prod.mk.injEq] at hm
      refine ⟨0, by omega, by simp, ?_⟩
      simp only [List.modify_zero_cons, List.flatMap_cons, mcs, hf, hk p e hx h1, h3]
    · rw [if_neg hx] at hm ⊢
      obtain ⟨d, hd1, hd2, hd3⟩ := mfind_mput hf hk es l' (i + 1) j v0 h3 hm
      refine ⟨d + 1, by omega, by simpa using hd2, ?_⟩
      simp only [List.modify_succ_cons, List.flatMap_cons, mcs, h1, h2] at hd3 ⊢
      rw [hd3]
theorem mfind_none {x : κ} {v : V} : ∀ (es : List (κ × V)) (i : Nat), mfind eq x es i = none → mput eq x v es = es ++ [(x, v)] ∧ mget eq es x = none
  | [], _, _ => ⟨rfl, rfl⟩
  | p :: es, i, h => by
    unfold mfind at h
    unfold mput mget
    rw [List.find?_cons]
    by_cases hx : eq x p.1 = true
    · rw [if_pos hx] at h; cases h
    · rw [if_neg hx] at h ⊢
      obtain ⟨h1, h2⟩ := mfind_none es (i + 1) h
      unfold mget at h2
      exact ⟨by rw [h1]; rfl, by simp only [hx]; exact h2⟩
theorem mcs_append (es fs : List (κ × V)) : mcs kv vv (es ++ fs) = mcs kv vv es ++ mcs kv vv fs := by unfold mcs; rw [List.flatMap_append]

theorem MapAt.push {arr : Array MapEntry} {clock : Nat} {es : List (κ × V)} (h : MapAt arr clock (mcs kv vv es)) (x : κ) (v : V) : MapAt (arr.push { key := kv x, val := vv v, born := clock }) (clock + 1) (mcs kv vv (es ++ [(x, v)])) := by
  refine ⟨?_, fun j e he => ?_, by rw [h.clock]; simp⟩
  · rw [Array.toList_push, List.flatMap_append, h.xs, mcs_append]; rfl
  · rw [Array.getElem?_push] at he
    split at he
    · rename_i hj
      cases he; rw [hj]; exact h.clock
    · exact h.born j e he
theorem MapAt.set {arr : Array MapEntry} {clock : Nat} {es : List (κ × V)} (h : MapAt arr clock (mcs kv vv es)) {f : MapEntry → MapEntry} {x : κ} {v v0 : V} {j : Nat} (hf : ∀ e, (f e).val = vv v) (hk : ∀ (p : κ × V) (e : MapEntry), eq x p.1 = true → e.key = kv p.1 → (f e).key = kv p.1) (hb : ∀ e, (f e).born = e.born) (hm : mfind eq x es 0 = some (j, v0)) :
    MapAt (arr.modify j f) clock (mcs kv vv (mput eq x v es)) := by
  obtain ⟨d, hd1, hd2, hd3⟩ := mfind_mput hf hk es arr.toList 0 j v0 h.xs hm
  rw [Nat.zero_add] at hd1; subst hd1
  refine ⟨by rw [Array.toList_modify]; exact hd3, fun i e he => ?_, by rw [Array.size_modify]; exact h.clock⟩
  rw [Array.getElem?_modify] at he
  split at he
  · obtain ⟨e0, h0, rfl⟩ := Option.map_eq_some_iff.1 he
    rw [hb]; exact h.born i e0 h0
  · exact h.born i e he
/-- The same entry, with its key laid anew. -/
theorem MapAt.same {arr : Array MapEntry} {clock : Nat} {es : List (κ × V)} (h : MapAt arr clock (mcs kv vv es)) {f : MapEntry → MapEntry} {x : κ} {v0 : V} {j : Nat} (hf : ∀ e, (f e).val = e.val) (hk : ∀ (p : κ × V) (e : MapEntry), eq x p.1 = true → e.key = kv p.1 → (f e).key = kv p.1) (hb : ∀ e, (f e).born = e.born) (hm : mfind eq x es 0 = some (j, v0)) :
    MapAt (arr.modify j f) clock (mcs kv vv es) := by
  have key : ∀ (es : List (κ × V)) (l : List MapEntry) (i j : Nat) (v0 : V), l.flatMap (fun e => [e.key, e.val]) = mcs kv vv es → mfind eq x es i = some (j, v0) → ∃ d, j = i + d ∧ (l.modify d f).flatMap (fun e => [e.key, e.val]) = mcs kv vv es := by
    intro es
    induction es with
    | nil => intro l i j v0 _ hm; cases hm
    | cons p es ih =>
      intro l i j v0 h hm
      obtain ⟨e, l', rfl, h1, h2, h3⟩ := mcs_cons h
      unfold mfind at hm
      by_cases hx : eq x p.1 = true
      · rw [if_pos hx] at hm
        simp only [Option.some.injEq, Prod.mk.injEq] at hm
        refine ⟨0, by omega, ?_⟩
        simp only [List.modify_zero_cons, List.flatMap_cons, mcs, hf, hk p e hx h1, h2, h3]
      · rw [if_neg hx] at hm
        obtain ⟨d, hd1, hd3⟩ := ih l' (i + 1) j v0 h3 hm
        refine ⟨d + 1, by omega, ?_⟩
        simp only [List.modify_succ_cons, List.flatMap_cons, mcs, h1, h2] at hd3 ⊢
        rw [hd3]
  obtain ⟨d, hd1, hd3⟩ := key es arr.toList 0 j v0 h.xs hm
  rw [Nat.zero_add] at hd1; subst hd1
  refine ⟨by rw [Array.toList_modify]; exact hd3, fun i e he => ?_, by rw [Array.size_modify]; exact h.clock⟩
  rw [Array.getElem?_modify] at he
  split at he
  · obtain ⟨e0, h0, rfl⟩ := Option.map_eq_some_iff.1 he
    rw [hb]; exact h.born i e0 h0
  · exact h.born i e he
theorem mfind_key {x : κ} (K : KeyOk P kt kv eq) : ∀ (es : List (κ × V)) (l : List MapEntry) (i j : Nat) (v0 : V), l.flatMap (fun e => [e.key, e.val]) = mcs kv vv es → mfind eq x es i = some (j, v0) → ∃ d, j = i + d ∧ ∃ e, l[d]? = some e ∧ e.key = kv x ∧ e.val = vv v0
  | [], l, i, j, v0, h, hm => by cases hm
  | p :: es, l, i, j, v0, h, hm => by
    obtain ⟨e, l', rfl, h1, h2, h3⟩ := mcs_cons h
    unfold mfind at hm
    by_cases hx : eq x p.1 = true
    · rw [if_pos hx] at hm
      simp only [Option.some.injEq, Prod.mk.injEq] at hm
      exact ⟨0, by omega, e, rfl, by rw [h1, K.law x p.1 hx], by rw [h2, hm.2]⟩
    · rw [if_neg hx] at hm
      obtain ⟨d, hd1, e', he', h4⟩ := mfind_key K es l' (i + 1) j v0 h3 hm
      exact ⟨d + 1, by omega, e', by simpa using he', h4⟩

variable {t et : TypeId} {w : World} {g : Nat} {arr : Array MapEntry} {clock : Nat} {es : List (κ × V)} {z : V}

theorem keyStays (K : KeyOk P kt kv eq) (x : κ) (w : World) : (Instr.keyThatStays (kv x) (kv x)).run P w = .ok (kv x) w := by
  simp [Instr.keyThatStays, K.bits x]
theorem run_lookup_of (K : KeyOk P kt kv eq) (hu : P.underlying t = some (.map kt et)) (hz : (zeroValue et).run P w = .ok (vv z) w) (hb : w.heap[g]? = some (.map arr clock)) (h : MapAt arr clock (mcs kv vv es)) (x : κ) (ok : Bool) :
    (Instr.lookup t (.map (some g)) (kv x) ok).run P w = .ok (if ok then .tuple #[vv ((mget eq es x).getD z), .bool (mget eq es x).isSome] else vv ((mget eq es x).getD z)) w := by
  have hf := findKey_of K x w es arr.toList h.xs
  rw [← mfind_get x es 0]
  simp only [Instr.lookup, Sem.run_bind, run_underlying hu, Result.andThen_ok, MapKept.run_getObj_map hb, Sem.run_pure, K.chk, hf]
  cases mfind eq x es 0 with
  | none => cases ok <;> simp [hz, Result.andThen]
  | some p => cases ok <;> simp
theorem run_update_of (K : KeyOk P kt kv eq) (hu : P.underlying t = some (.map kt et)) (hb : w.heap[g]? = some (.map arr clock)) (h : MapAt arr clock (mcs kv vv es)) (x : κ) (v : V) :
    ∃ arr' clock', (Instr.mapUpdate t (.map (some g)) (kv x) (vv v)).run P w = .ok () (w.putObj g (.map arr' clock')) ∧ MapAt arr' clock' (mcs kv vv (mput eq x v es)) := by
  have hf := findKey_of K x w es arr.toList h.xs
  cases hm : mfind eq x es 0 with
  | none =>
    rw [hm] at hf
    refine ⟨_, _, ?_, by rw [(mfind_none es 0 hm).1]; exact h.push x v⟩
    simp only [Instr.mapUpdate, Sem.run_bind, run_underlying hu, Result.andThen_ok, MapKept.run_getObj_map hb, K.chk, hf]
    simp [MapKept.run_setObj_map _ hb]
    rfl
  | some p =>
    obtain ⟨j, v0⟩ := p
    rw [hm] at hf
    obtain ⟨d, hd, e, he, hek, _⟩ := mfind_key K es arr.toList 0 j v0 h.xs hm
    rw [Nat.zero_add] at hd; subst hd
    have he' : arr[j]? = some e := by simpa using he
    refine ⟨arr.modify j fun e => { e with key := kv x, val := vv v }, clock, ?_, h.set (x := x) (fun _ => rfl) (fun p e hx _ => by rw [K.law x p.1 hx]) (fun _ => rfl) hm⟩
    simp only [Instr.mapUpdate, Sem.run_bind, run_underlying hu, Result.andThen_ok, MapKept.run_getObj_map hb, K.chk, hf, Option.map_some, he', Option.getD_some, hek, keyStays K x, MapKept.run_setObj_map _ hb]
    rfl
theorem run_entry_of (K : KeyOk P kt kv eq) (hu : P.underlying t = some (.map kt et)) (hz : (zeroValue et).run P w = .ok (vv z) w) (hb : w.heap[g]? = some (.map arr clock)) (h : MapAt arr clock (mcs kv vv es)) (x : κ) :
    ∃ arr' clock' sp v0, (Instr.mapEntry t (.map (some g)) (kv x)).run P w = .ok (.tuple #[vv ((mget eq es x).getD z), .int .i64 (sp : Nat)]) (w.putObj g (.map arr' clock')) ∧ MapAt arr' clock' (mcs kv vv (mtch eq x z es)) ∧ mfind eq x (mtch eq x z es) 0 = some (sp, v0) := by
  have hf := findKey_of K x w es arr.toList h.xs
  have hg := mfind_get (eq := eq) x es 0
  cases hm : mfind eq x es 0 with
  | none =>
    rw [hm] at hf
    have hn := (mfind_none (v := z) es 0 hm).2
    have hsp : ∀ (es : List (κ × V)) (i : Nat), mfind eq x es i = none → eq x x = true → mfind eq x (es ++ [(x, z)]) i = some (i + es.length, z) := by
      intro es
      induction es with
      | nil => intro i _ hx; simp [mfind, hx]
      | cons p es ih =>
        intro i hm hx
        unfold mfind at hm
        by_cases hxp : eq x p.1 = true
        · rw [if_pos hxp] at hm; cases hm
        · rw [if_neg hxp] at hm
          simp only [List.cons_append]
          unfold mfind
          rw [if_neg hxp, ih (i + 1) hm hx]
          simp only [List.length_cons, Option.some.injEq, Prod.mk.injEq, and_true]; omega
    have hxx : eq x x = true := K.refl x
    have hcl : clock = es.length := by
      rw [h.clock]
      have hl := congrArg List.length h.xs
      have e1 : ∀ l : List MapEntry, (l.flatMap fun e => [e.key, e.val]).length = l.length * 2 := by intro l; induction l with | nil => rfl | cons a l ih => simp only [List.flatMap_cons, List.length_append, ih, List.length_cons, List.length_nil]; omega
      have e2 : ∀ es : List (κ × V), (mcs kv vv es).length = es.length * 2 := by intro es; induction es with | nil => rfl | cons a l ih => unfold mcs at ih ⊢; simp only [List.flatMap_cons, List.length_append, ih, List.length_cons, List.length_nil]; omega
      rw [e1, e2] at hl
      simp at hl; omega
    refine ⟨arr.push { key := kv x, val := vv z, born := clock }, clock + 1, clock, z, ?_, ?_, ?_⟩
    · simp only [Instr.mapEntry, Sem.run_bind, run_underlying hu, Result.andThen_ok, MapKept.run_getObj_map hb, K.chk, hf]
      simp [hz, MapKept.run_setObj_map _ hb, Result.andThen, hn]
      exact ⟨rfl, rfl⟩
    · unfold mtch; rw [hn]; exact h.push x z
    · unfold mtch; rw [hn, hcl]
      have := hsp es 0 hm hxx
      simpa using this
  | some p =>
    obtain ⟨j, v0⟩ := p
    rw [hm] at hf hg
    obtain ⟨d, hd, e, he, hek, hev⟩ := mfind_key K es arr.toList 0 j v0 h.xs hm
    rw [Nat.zero_add] at hd; subst hd
    have he' : arr[j]? = some e := by simpa using he
    refine ⟨arr.modify j fun e => { e with key := kv x }, clock, j, v0, ?_, ?_, ?_⟩
    · simp only [Instr.mapEntry, Sem.run_bind, run_underlying hu, Result.andThen_ok, MapKept.run_getObj_map hb, K.chk, hf, Option.map_some, he', Option.getD_some, hek, keyStays K x, MapKept.run_setObj_map _ hb, Sem.run_pure, goInt, h.born j e he', ← hg]
      rfl
    · unfold mtch; rw [← hg]
      exact h.same (x := x) (fun _ => rfl) (fun p e hx _ => by rw [K.law x p.1 hx]) (fun _ => rfl) hm
    · unfold mtch; rw [← hg]; exact hm
theorem run_estore_of (K : KeyOk P kt kv eq) (hb : w.heap[g]? = some (.map arr clock)) (h : MapAt arr clock (mcs kv vv es)) {x : κ} {sp : Nat} {v0 : V} (hm : mfind eq x es 0 = some (sp, v0)) (v : V) :
    ∃ arr' clock', (Instr.entryStore t (.map (some g)) (.int .i64 (sp : Nat)) (vv v)).run P w = .ok () (w.putObj g (.map arr' clock')) ∧ MapAt arr' clock' (mcs kv vv (mput eq x v es)) := by
  obtain ⟨d, hd, e, he, hek, hev⟩ := mfind_key K es arr.toList 0 sp v0 h.xs hm
  rw [Nat.zero_add] at hd; subst hd
  have he' : arr[sp]? = some e := by simpa using he
  have hfi : arr.findIdx? (fun e => (e.born : Int) == (sp : Int)) = some sp := by
    rw [Array.findIdx?_eq_some_iff_getElem]
    have hlt : sp < arr.size := by
      rcases Nat.lt_or_ge sp arr.size with h1 | h1
      · exact h1
      · rw [Array.getElem?_eq_none h1] at he'; cases he'
    refine ⟨hlt, ?_, fun j hj => ?_⟩
    · have := h.born sp _ (Array.getElem?_eq_getElem hlt)
      simp [this]
    · have := h.born j _ (Array.getElem?_eq_getElem (Nat.lt_trans hj hlt))
      simp [this]; omega
  refine ⟨arr.modify sp fun e => { e with val := vv v }, clock, ?_, h.set (x := x) (fun _ => rfl) (fun p e _ h => h) (fun _ => rfl) hm⟩
  simp only [Instr.entryStore, Sem.run_bind, MapKept.run_getObj_map hb, Result.andThen_ok]
  simp [asInt, asIntOf, hfi, MapKept.run_setObj_map _ hb, Result.andThen]
  rfl
end
end Go.Sx
