/- Rx4: where trees begin, in plain Lean. -/
import Derived.Test.YtgkjblbmiooedaaRx3
import Derived.Test.YtgkjblbmiooedaaSxJ
namespace Go.Sx

/-- Where the trees begin that end at each place. -/
def bgs : List Nd → Nat → List Int → List Int
  | [], _, _ => []
  | n :: l, i, st => (if 0 < ar n then st.getD (st.length - ar n) 0 else (i : Int)) :: bgs l (i + 1) (st.take (st.length - ar n) ++ [if 0 < ar n then st.getD (st.length - ar n) 0 else (i : Int)])
def bg (nds : List Nd) (i : Nat) : Int := (bgs nds 0 []).getD i 0
theorem bgs_step {nds : List Nd} {i : Nat} {e : Nd} {st : List Int} {b : Int} (he : nds[i]? = some e) (hb : b = if 0 < ar e then st.getD (st.length - ar e) 0 else (i : Int)) : bgs (nds.drop i) i st = b :: bgs (nds.drop (i + 1)) (i + 1) (st.take (st.length - ar e) ++ [b]) := by
  rw [drop_of_get he, bgs, hb]
theorem bgs_next {nds : List Nd} {i : Nat} {e : Nd} {st : List Int} {b : Int} (he : nds[i]? = some e) (hb : b = if 0 < ar e then st.getD (st.length - ar e) 0 else (i : Int)) (h : ∀ j, (bgs nds 0 [])[i + j]? = (bgs (nds.drop i) i st)[j]?) :
    ∀ j, (bgs nds 0 [])[i + 1 + j]? = (bgs (nds.drop (i + 1)) (i + 1) (st.take (st.length - ar e) ++ [b]))[j]? := by
  intro j
  have := h (j + 1)
  rw [bgs_step he hb, List.getElem?_cons_succ] at this
  rw [← this]
  congr 1
  omega
theorem bgs_at {nds : List Nd} {i : Nat} {e : Nd} {st : List Int} {b : Int} (he : nds[i]? = some e) (hb : b = if 0 < ar e then st.getD (st.length - ar e) 0 else (i : Int)) (h : ∀ j, (bgs nds 0 [])[i + j]? = (bgs (nds.drop i) i st)[j]?) : bg nds i = b := by
  have := h 0
  rw [bgs_step he hb, Nat.add_zero, List.getElem?_cons_zero] at this
  unfold bg
  exact getD_get this 0

/-- The two parts of a range over a function that stands in a body. -/
def findRF : Code → Option (Code × Code)
  | .seq x y => (findRF x).orElse fun _ => findRF y
  | .block _ c => findRF c
  | .rangeFunc _ _ a b => some (a, b)
  | _ => none

def bgN (nds : List Nd) (i : Nat) : Nat := (bg nds i).toNat
theorem bgs_bd : ∀ (l : List Nd) (i : Nat) (st : List Int), (∀ v ∈ st, 0 ≤ v ∧ v ≤ (i : Int)) → ∀ (j : Nat) (b : Int), (bgs l i st)[j]? = some b → 0 ≤ b ∧ b ≤ ((i + j : Nat) : Int)
  | [], i, st, _, j, b, h => by simp [bgs] at h
  | n :: l, i, st, hst, j, b, h => by
    have hb : 0 ≤ (if 0 < ar n then st.getD (st.length - ar n) 0 else (i : Int)) ∧ (if 0 < ar n then st.getD (st.length - ar n) 0 else (i : Int)) ≤ (i : Int) := by
      split
      · cases hq : st[st.length - ar n]? with
        | none => rw [List.getD, hq]; simp
        | some v => rw [getD_get hq]; exact hst v (List.mem_of_getElem? hq)
      · omega
    rw [bgs] at h
    cases j with
    | zero =>
      rw [List.getElem?_cons_zero] at h
      cases h
      simpa using hb
    | succ j =>
      rw [List.getElem?_cons_succ] at h
      have := bgs_bd l (i + 1) _ (fun v hv => by
        rcases List.mem_append.1 hv with hv | hv
        · have := hst v (List.mem_of_mem_take hv); omega
        · simp only [List.mem_singleton] at hv; rw [hv]; omega) j b h
      omega
theorem bg_nat (nds : List Nd) (i : Nat) : bg nds i = (bgN nds i : Int) ∧ bgN nds i ≤ i := by
  have h : 0 ≤ bg nds i ∧ bg nds i ≤ (i : Int) := by
    unfold bg
    cases hq : (bgs nds 0 [])[i]? with
    | none => rw [List.getD, hq]; simp
    | some v =>
      rw [getD_get hq]
      have := bgs_bd nds 0 [] (fun v h => by cases h) i v hq
      omega
  unfold bgN
  omega
/-- Some of the nodes. -/
def sub (nds : List Nd) (a b : Nat) : List Nd := (nds.drop a).take (b - a)
theorem sub_len {nds : List Nd} {a b : Nat} (h : b ≤ nds.length) : (sub nds a b).length = b - a := by unfold sub; simp; omega
theorem sub_row {Φ : Phi} {A A' : Option Addr} {nds : List Nd} {a b c : Nat} (hc : nds.length ≤ c) (hA : a < c → A' = A.map fun x => x.add (a * 7)) (h : NdsAt Φ A nds) : NdsAt Φ A' (sub nds a b) :=
  nds_take (row_drop (enc := Nd.cells) (sz := 7) (fun _ => rfl) hc hA h) _
theorem sub_wf {nds : List Nd} {a b : Nat} (h : ∀ n ∈ nds, n.wf) : ∀ n ∈ sub nds a b, n.wf := fun n hn => h n (List.mem_of_mem_drop (List.mem_of_mem_take hn))


/-- Where the m-th part from behind ends. -/
def pen (nds : List Nd) (last : Nat) : Nat → Nat
  | 0 => last
  | m + 1 => bgN nds (pen nds last m - 1)
theorem pen_le (nds : List Nd) (last : Nat) : ∀ m, pen nds last m ≤ last
  | 0 => Nat.le_refl _
  | m + 1 => by
    have h1 := pen_le nds last m
    have h2 := (bg_nat nds (pen nds last m - 1)).2
    simp only [pen]
    omega
/-- The parts, from behind. -/
def prt (nds : List Nd) (last k : Nat) : List (List Nd) := (List.range k).map fun m => sub nds (pen nds last (m + 1)) (pen nds last m)
theorem prt_succ (nds : List Nd) (last k : Nat) : prt nds last (k + 1) = prt nds last k ++ [sub nds (pen nds last (k + 1)) (pen nds last k)] := by
  unfold prt; rw [List.range_succ, List.map_append]; rfl
theorem pt_step {ps : List Pt} {nds : List Nd} {last : Nat} {A : Option Addr} {c : Nat} (h : ps.map Pt.nds = prt nds last ps.length) : (ps ++ [(⟨A, sub nds (pen nds last (ps.length + 1)) (pen nds last ps.length), c⟩ : Pt)]).map Pt.nds = prt nds last (ps ++ [(⟨A, sub nds (pen nds last (ps.length + 1)) (pen nds last ps.length), c⟩ : Pt)]).length := by
  rw [List.map_append, h, List.length_append]
  exact (prt_succ nds last ps.length).symm
theorem pts_snoc {Φ : Phi} {ps : List Pt} {A : Option Addr} {ys : List Nd} {c : Nat} (h : Pts Φ ps) (hn : NdsAt Φ A ys) : Pts Φ (ps ++ [(⟨A, ys, c⟩ : Pt)]) := by
  intro p hp
  rcases List.mem_append.1 hp with hp | hp
  · exact h p hp
  · simp only [List.mem_singleton] at hp; rw [hp]; exact hn
theorem pts_rev {Φ : Phi} {ps : List Pt} (h : Pts Φ ps) : Pts Φ ps.reverse := fun p hp => h p (List.mem_reverse.1 hp)
theorem encPt_len (ps : List Pt) : (ps.flatMap Pt.enc).length = ps.length := by rw [flat_len (sz := 1) (fun _ => rfl)]; omega
theorem chk_pos {nds : List Nd} (h : chk nds 0 0 = none) : 0 < nds.length := by
  cases nds with
  | nil => cases h
  | cons => simp


/-- How many parts the root has. -/
def rootK (nds : List Nd) : Nat := ((nds[nds.length - 1]?).map ar).getD 0
theorem rootK_eq {nds : List Nd} {e : Nd} (h : nds[nds.length - 1]? = some e) : rootK nds = ar e := by unfold rootK; rw [h]; rfl
theorem chk_may : ∀ (l : List Nd) (t : Int) (i : Nat), chk l t i = none → ∀ n ∈ l, n.may = true
  | [], _, _, _, n, h => by cases h
  | n :: l, t, i, hc, m, hm => by
    rw [chk] at hc
    split at hc
    · rename_i h
      rcases List.mem_cons.1 hm with rfl | hm
      · exact h.1
      · exact chk_may l _ _ hc m hm
    · cases hc
theorem root_may {nds : List Nd} {e : Nd} {i : Nat} (h : chk nds 0 0 = none) (he : nds[i]? = some e) : e.may = true := chk_may nds 0 0 h e (List.mem_of_getElem? he)

end Go.Sx
