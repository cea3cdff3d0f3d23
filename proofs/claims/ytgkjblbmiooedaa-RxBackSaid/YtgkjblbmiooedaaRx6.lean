/- Rx6: trees that a row is handed. General: no program. -/
import Derived.Test.YtgkjblbmiooedaaSxK
import Derived.OpenShut
import Derived.Test.YtgkjblbmiooedaaRx3
namespace Go.Sx
open Go.RowKit Go.WideShapes Go.ChangeShapes

/-- Where the types of a tree stand. -/
structure NdTypes (P : Program) (ti tu ta tn : TypeId) : Prop where
  i : P.underlying ti = some (.int .i64)
  u : P.underlying tu = some (.int .u64)
  a : P.underlying ta = some (.array 4 tu)
  n : ∃ fs : Array Field, P.underlying tn = some (.struct fs) ∧ fs.size = 4 ∧ (∃ f, fs[0]? = some f ∧ f.type = ti ∧ f.offset = 0) ∧ (∃ f, fs[1]? = some f ∧ f.type = ta ∧ f.offset = 1) ∧ (∃ f, fs[2]? = some f ∧ f.type = ti ∧ f.offset = 5) ∧ (∃ f, fs[3]? = some f ∧ f.type = ti ∧ f.offset = 6)
  ci : P.cellsOf ti = 1
  cu : P.cellsOf tu = 1
  ca : P.cellsOf ta = 4
  cn : P.cellsOf tn = 7

theorem len1 {α : Type} {l : List α} (h : l.length = 1) : ∃ a, l = [a] := by
  match l, h with
  | [a], _ => exact ⟨a, rfl⟩
theorem len4 {α : Type} {l : List α} (h : l.length = 4) : ∃ a b c d, l = [a, b, c, d] := by
  match l, h with
  | [a, b, c, d], _ => exact ⟨a, b, c, d, rfl⟩
theorem len7 {α : Type} {l : List α} (h : l.length = 7) : ∃ a b c d e f g, l = [a, b, c, d, e, f, g] := by
  match l, h with
  | [a, b, c, d, e, f, g], _ => exact ⟨a, b, c, d, e, f, g, rfl⟩

section
variable {H : Type} {enc : TypeId × Value → H} {P : Program} {W : World} {sp : Nat → Bool} {ti tu ta tn : TypeId}
theorem open_nd (hT : NdTypes P ti tu ta tn) (n : Nat) (cs : List Value) (y : DataW H × List MemPlace) (h : DataW.trod enc P W 0 sp true n tn cs = some y) : ∃ x : Nd, x.cells = cs ∧ x.wf := by
  obtain ⟨fs, hfs, hsz, ⟨f0, g0, t0, o0⟩, ⟨f1, g1, t1, o1⟩, ⟨f2, g2, t2, o2⟩, ⟨f3, g3, t3, o3⟩⟩ := hT.n
  obtain ⟨xs, m, _, _, hl, hxl, hx⟩ := DataW.trod_struct hfs h
  rw [hT.cn] at hl
  obtain ⟨c0, c1, c2, c3, c4, c5, c6, rfl⟩ := len7 hl
  rw [hsz] at hxl
  obtain ⟨x0, x1, x2, x3, rfl⟩ := len4 hxl
  have e0 := hx 0 f0 g0
  have e1 := hx 1 f1 g1
  have e2 := hx 2 f2 g2
  have e3 := hx 3 f3 g3
  rw [t0, o0, hT.ci] at e0
  rw [t1, o1, hT.ca] at e1
  rw [t2, o2, hT.ci] at e2
  rw [t3, o3, hT.ci] at e3
  obtain ⟨k, h0, _, w0⟩ := DataW.trod_int hT.i e0
  obtain ⟨mn, h2, _, w2⟩ := DataW.trod_int hT.i e2
  obtain ⟨mx, h3, _, w3⟩ := DataW.trod_int hT.i e3
  obtain ⟨as, m', _, _, _, hal, ha⟩ := DataW.trod_array hT.a e1
  rw [hT.cu] at ha
  obtain ⟨a0, a1, a2, a3, rfl⟩ := len4 hal
  obtain ⟨s0, q0, _, v0⟩ := DataW.trod_int hT.u (ha 0 (by omega))
  obtain ⟨s1, q1, _, v1⟩ := DataW.trod_int hT.u (ha 1 (by omega))
  obtain ⟨s2, q2, _, v2⟩ := DataW.trod_int hT.u (ha 2 (by omega))
  obtain ⟨s3, q3, _, v3⟩ := DataW.trod_int hT.u (ha 3 (by omega))
  simp at h0 h2 h3 q0 q1 q2 q3
  subst h0 h2 h3 q0 q1 q2 q3
  refine ⟨⟨k, s0, s1, s2, s3, mn, mx⟩, rfl, ?_⟩
  have b0 := bounds_i64 w0
  have u0 := bounds_u64 v0
  have u1 := bounds_u64 v1
  have u2 := bounds_u64 v2
  have u3 := bounds_u64 v3
  exact ⟨b0.1, b0.2, u0, u1, u2, u3⟩
/-- A tree. -/
theorem open_tree {tr : TypeId} (hT : NdTypes P ti tu ta tn) (hr : P.underlying tr = some (.slice tn)) {fuel : Nat} {cs : List Value} {y : DataW H × List MemPlace} (h : DataW.trod enc P W 0 sp true fuel tr cs = some y) :
    ∃ (A : Option Addr) (nds : List Nd) (c : Nat), cs = [.slice A nds.length c] ∧ NdsAt (phiOf W) A nds ∧ nds.length ≤ c ∧ c ≤ maxLen ∧ ∀ n ∈ nds, n.wf :=
  open_rows hr hT.cn (by omega) (fun _ => rfl) (open_nd hT) h
/-- A row of trees. -/
theorem open_trees {tr tp : TypeId} (hT : NdTypes P ti tu ta tn) (hr : P.underlying tr = some (.slice tn)) (hp : P.underlying tp = some (.slice tr)) (hc : P.cellsOf tr = 1) {fuel : Nat} {cs : List Value} {y : DataW H × List MemPlace} (h : DataW.trod enc P W 0 sp true fuel tp cs = some y) :
    ∃ (A : Option Addr) (ps : List Pt) (c : Nat), cs = [.slice A ps.length c] ∧ RdC (phiOf W) A (ps.flatMap Pt.enc) ∧ ps.length ≤ c ∧ c ≤ maxLen ∧ Pts (phiOf W) ps ∧ (∀ p ∈ ps, p.nds.length ≤ p.c ∧ p.c ≤ maxLen) ∧ ∀ p ∈ ps, ∀ n ∈ p.nds, n.wf := by
  obtain ⟨A, ps, c, h1, h2, h3, h4, h5⟩ := open_rows (en := Pt.enc) (G := fun p => NdsAt (phiOf W) p.A p.nds ∧ (p.nds.length ≤ p.c ∧ p.c ≤ maxLen) ∧ ∀ n ∈ p.nds, n.wf) hp hc (by omega) (fun _ => rfl) (fun n cs y hy => by
    obtain ⟨A, nds, c, rfl, g2, g3, g4, g5⟩ := open_tree hT hr hy
    exact ⟨⟨A, nds, c⟩, rfl, g2, ⟨g3, g4⟩, g5⟩) h
  exact ⟨A, ps, c, h1, h2, h3, h4, fun p hp => (h5 p hp).1, fun p hp => (h5 p hp).2.1, fun p hp => (h5 p hp).2.2⟩
/-- One node, by value. -/
theorem open_node {base : Nat} {v : Value} {d : DataW H} {ps : List MemPlace} (hT : NdTypes P ti tu ta tn) (hv : Value.okWide P W .any base tn v) (h : DataW.Trod enc P W 0 sp true tn v d ps) : ∃ n : Nd, v = .agg n.cells.toArray ∧ n.wf := by
  obtain ⟨fs, hfs, _⟩ := hT.n
  obtain ⟨cs, rfl, _⟩ := okWide_struct hfs hv
  obtain ⟨fuel, h⟩ := h
  obtain ⟨n, hn, hw⟩ := open_nd hT _ _ _ h
  refine ⟨n, ?_, hw⟩
  rw [hn]
  rfl
theorem cells_slice {base : Nat} {t e : TypeId} {v : Value} (ht : P.underlying t = some (.slice e)) (hv : Value.okWide P W .any base t v) {A : Option Addr} {n c : Nat} (h : v.cells.toList = [.slice A n c]) : v = .slice A n c := by
  obtain ⟨a, l, c', rfl⟩ := okWide_slice ht hv
  simpa [Value.cells] using h
end
end Go.Sx
