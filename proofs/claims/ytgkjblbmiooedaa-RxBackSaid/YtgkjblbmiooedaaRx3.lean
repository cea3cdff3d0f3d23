/- Rx3: rows of trees, in plain Lean. -/
import Derived.Test.YtgkjblbmiooedaaRx2
namespace Go.Sx

/-- A slice of nodes, as it lies in a row of slices. -/
structure Pt where
  A : Option Addr
  nds : List Nd
  c : Nat
def Pt.enc (p : Pt) : List Value := [.slice p.A p.nds.length p.c]
theorem enc_one (ps : List Pt) : ∀ u ∈ ps.flatMap Pt.enc, u.oneCell' = true := by
  intro u hu
  obtain ⟨n, _, hn⟩ := List.mem_flatMap.1 hu
  exact one_lits n.enc rfl u hn
/-- Where all these lie. -/
def Pts (Φ : Phi) (ps : List Pt) : Prop := ∀ p ∈ ps, NdsAt Φ p.A p.nds
theorem Pts.mono {Φ Φ' : Phi} {ps : List Pt} {n : Nat} (h : Pts Φ ps) (hle : PhiLe n Φ Φ') : Pts Φ' ps := fun p hp => (h p hp).mono hle
/-- The nodes of all of them. -/
def jn (ps : List Pt) : List Nd := ps.flatMap Pt.nds
theorem jn_take {ps : List Pt} {i : Nat} {e : Pt} (h : ps[i]? = some e) : jn (ps.take (i + 1)) = jn (ps.take i) ++ e.nds := by
  rw [take_succ_get h, jn, List.flatMap_append]; simp [jn]
theorem jn_end {ps : List Pt} {i : Nat} (h : ps.length ≤ i) : jn (ps.take i) = jn ps := by rw [List.take_of_length_le h]
theorem jn_len {ps : List Pt} (h : ∀ p ∈ ps, p.nds.length ≤ 1000) (i : Nat) : (jn (ps.take i)).length ≤ 1000 * i := by
  induction i with
  | zero => simp [jn]
  | succ i ih =>
    cases he : ps[i]? with
    | none =>
      rw [List.getElem?_eq_none_iff] at he
      rw [List.take_of_length_le (by omega)]
      rw [List.take_of_length_le (by omega)] at ih
      omega
    | some e =>
      rw [jn_take he, List.length_append]
      have := h e (List.mem_of_getElem? he)
      omega
theorem nds_append (a b : List Nd) : (a ++ b).flatMap Nd.cells = a.flatMap Nd.cells ++ b.flatMap Nd.cells := List.flatMap_append
theorem all_take_step {ps : List Pt} {i : Nat} {e : Pt} (he : ps[i]? = some e) (h : ∀ p ∈ ps.take i, chk p.nds 0 0 = none) (h1 : chk e.nds 0 0 = none) : ∀ p ∈ ps.take (i + 1), chk p.nds 0 0 = none := by
  rw [take_succ_get he]
  intro p hp
  rcases List.mem_append.1 hp with hp | hp
  · exact h p hp
  · simp only [List.mem_singleton] at hp; rw [hp]; exact h1

def emptyN : Nd := ⟨2, 0, 0, 0, 0, 0, 0⟩
theorem emptyN_wf : emptyN.wf := ⟨by decide, by decide, ⟨by decide, by decide⟩, ⟨by decide, by decide⟩, ⟨by decide, by decide⟩, ⟨by decide, by decide⟩⟩
/-- The norm of a node's tree, where the norms of its parts are known. -/
def nrmk (n : Nd) (vs : List (List Nd)) : List Nd := if n.kind = 9 ∧ n.mx = 0 then [emptyN] else vs.flatten ++ [n]
def nrm (n : Nd) (ps : List Pt) : List Nd := nrmk n (ps.map Pt.nds)
theorem jn_eq (ps : List Pt) : jn ps = (ps.map Pt.nds).flatten := by unfold jn; rw [List.flatMap_def]
theorem nrm_t {n : Nd} {ps : List Pt} (h : n.kind = 9 ∧ n.mx = 0) : nrm n ps = [emptyN] := by unfold nrm nrmk; rw [if_pos h]
theorem nrm_f {n : Nd} {ps : List Pt} (h : ¬ (n.kind = 9 ∧ n.mx = 0)) : nrm n ps = jn ps ++ [n] := by unfold nrm nrmk; rw [if_neg h, jn_eq]
theorem nrm_len (n : Nd) (ps : List Pt) : (nrm n ps).length ≤ (jn ps).length + 1 := by
  by_cases h : n.kind = 9 ∧ n.mx = 0
  · rw [nrm_t h]; simp
  · rw [nrm_f h]; simp
theorem nrm_wf {n : Nd} {ps : List Pt} (hn : n.wf) (h : ∀ p ∈ ps, ∀ m ∈ p.nds, m.wf) : ∀ m ∈ nrm n ps, m.wf := by
  by_cases hk : n.kind = 9 ∧ n.mx = 0
  · rw [nrm_t hk]; intro m hm; simp only [List.mem_singleton] at hm; rw [hm]; exact emptyN_wf
  · rw [nrm_f hk]
    intro m hm
    rcases List.mem_append.1 hm with hm | hm
    · obtain ⟨p, hp, hm⟩ := List.mem_flatMap.1 hm
      exact h p hp m hm
    · simp only [List.mem_singleton] at hm; rw [hm]; exact hn
theorem jn_append (a b : List Pt) : jn (a ++ b) = jn a ++ jn b := List.flatMap_append
theorem jn_mem_le {ps : List Pt} {p : Pt} (h : p ∈ ps) : p.nds.length ≤ (jn ps).length := by
  induction ps with
  | nil => cases h
  | cons q ps ih =>
    have : jn (q :: ps) = q.nds ++ jn ps := rfl
    rw [this, List.length_append]
    rcases List.mem_cons.1 h with rfl | h
    · omega
    · have := ih h; omega
theorem jn_split (st : List Pt) (L : Nat) : (jn (st.take L)).length + (jn (st.drop L)).length = (jn st).length := by
  rw [← List.length_append, ← jn_append, List.take_append_drop]


theorem norm_step {nds : List Nd} {i : Nat} {e : Nd} {st : List Pt} {A : Option Addr} {c : Nat} {X : List (List Nd)} (he : nds[i]? = some e) (h : foldS nrmk (nds.drop i) (st.map Pt.nds) = X) :
    foldS nrmk (nds.drop (i + 1)) ((st.take (st.length - ar e) ++ [(⟨A, nrm e (st.drop (st.length - ar e)), c⟩ : Pt)]).map Pt.nds) = X := by
  rw [← h, foldS_step he, List.map_append, List.length_map, ← List.map_take, ← List.map_drop]
  rfl
theorem pts_step {Φ : Phi} {st : List Pt} {L : Nat} {A : Option Addr} {ys : List Nd} {c : Nat} (h : Pts Φ st) (hn : NdsAt Φ A ys) : Pts Φ (st.take L ++ [(⟨A, ys, c⟩ : Pt)]) := by
  intro p hp
  rcases List.mem_append.1 hp with hp | hp
  · exact h p (List.mem_of_mem_take hp)
  · simp only [List.mem_singleton] at hp; rw [hp]; exact hn
theorem jn_step {st : List Pt} {L i : Nat} {A : Option Addr} {e : Nd} {c : Nat} (h : (jn st).length ≤ i) : (jn (st.take L ++ [(⟨A, nrm e (st.drop L), c⟩ : Pt)])).length ≤ i + 1 := by
  have h1 := jn_split st L
  have h2 := nrm_len e (st.drop L)
  rw [jn_append, List.length_append]
  have h3 : jn [(⟨A, nrm e (st.drop L), c⟩ : Pt)] = nrm e (st.drop L) := by simp [jn]
  rw [h3]
  omega
theorem wf_step {st : List Pt} {L : Nat} {A : Option Addr} {e : Nd} {c : Nat} (he : e.wf) (h : ∀ p ∈ st, ∀ m ∈ p.nds, m.wf) : ∀ p ∈ st.take L ++ [(⟨A, nrm e (st.drop L), c⟩ : Pt)], ∀ m ∈ p.nds, m.wf := by
  intro p hp
  rcases List.mem_append.1 hp with hp | hp
  · exact h p (List.mem_of_mem_take hp)
  · simp only [List.mem_singleton] at hp; rw [hp]; exact nrm_wf he fun q hq => h q (List.mem_of_mem_drop hq)
theorem norm_end {nds : List Nd} {i : Nat} {st : List Pt} {e : Pt} (hi : nds.length ≤ i) (h : foldS nrmk (nds.drop i) (st.map Pt.nds) = foldS nrmk nds []) (he : st[0]? = some e) : e.nds = foldR nrmk nds := by
  rw [foldR, ← h, foldS_end hi]
  exact (headD_get (by rw [List.getElem?_map, he]; rfl)).symm

end Go.Sx
