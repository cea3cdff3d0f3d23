/- Rx0: trees in rows of nodes, in plain Lean. -/
import Derived.Test.YtgkjblbmiooedaaSxG
namespace Go.Sx

structure Nd where
  kind : Int
  s0 : Int
  s1 : Int
  s2 : Int
  s3 : Int
  mn : Int
  mx : Int
deriving DecidableEq

def Nd.cells (n : Nd) : List Value := [.int .i64 n.kind, .int .u64 n.s0, .int .u64 n.s1, .int .u64 n.s2, .int .u64 n.s3, .int .i64 n.mn, .int .i64 n.mx]
theorem Nd.cells_len (n : Nd) : n.cells.length = 7 := rfl

/- shorter words, for the walks -/
abbrev vI (z : Int) : SV := .v (.int .i64 z)
abbrev vU (z : Int) : SV := .v (.int .u64 z)
abbrev vB (b : Bool) : SV := .v (.bool b)
abbrev vS (A : Option Addr) (n c : Nat) : SV := .v (.slice A n c)
abbrev vP (g o : Nat) : SV := .v (.pointer (some ⟨g, o, none⟩))
abbrev vF (f : Nat) : SV := .v (.func (.func f) #[] #[])
abbrev aS (g o : Nat) : Option Addr := some ⟨g, o, none⟩
abbrev nV (k a b c d m n : Int) : List SV := [vI k, vU a, vU b, vU c, vU d, vI m, vI n]
abbrev uV (a b c d : Int) : List SV := [vU a, vU b, vU c, vU d]
abbrev Nd.sv (n : Nd) : List SV := [vI n.kind, vU n.s0, vU n.s1, vU n.s2, vU n.s3, vI n.mn, vI n.mx]
abbrev Nd.su (n : Nd) : List SV := [vU n.s0, vU n.s1, vU n.s2, vU n.s3]
theorem bleT {a b : Nat} (h : Nat.ble a b = true) : a ≤ b := Nat.le_of_ble_eq_true h

def u64ok (z : Int) : Prop := 0 ≤ z ∧ z ≤ 18446744073709551615
/-- The numbers of a node are those of a machine. -/
structure Nd.wf (n : Nd) : Prop where
  k1 : -9223372036854775808 ≤ n.kind
  k2 : n.kind ≤ 9223372036854775807
  s0 : u64ok n.s0
  s1 : u64ok n.s1
  s2 : u64ok n.s2
  s3 : u64ok n.s3

def arity (k : Int) : Int :=
  if k = 1 ∨ k = 2 ∨ k = 3 then 0 else if k = 4 ∨ k = 5 then 2 else if k = 6 ∨ k = 7 ∨ k = 8 ∨ k = 9 then 1 else -1

def Nd.noset (n : Nd) : Bool := n.s0 == 0 && n.s1 == 0 && n.s2 == 0 && n.s3 == 0
/-- Whether a node may be. -/
def Nd.may (n : Nd) : Bool :=
  decide (0 ≤ arity n.kind) && ((n.kind == 3) == !n.noset) &&
  (if n.kind = 9 then decide (0 ≤ n.mn) && decide (n.mn ≤ 255) && (n.mx == -1 || (decide (n.mn ≤ n.mx) && decide (n.mx ≤ 255))) else n.mn == 0 && n.mx == 0)

theorem get_some {α : Type} {l : List α} {i : Nat} (h : i < l.length) : ∃ x, l[i]? = some x := ⟨l[i], List.getElem?_eq_getElem h⟩

/-- Which node is the first with which a row is no tree; how many trees there are behind it all. -/
def chk : List Nd → Int → Nat → Option Nat
  | [], t, i => if t = 1 then none else some i
  | n :: l, t, i => if n.may = true ∧ arity n.kind ≤ t then chk l (t - arity n.kind + 1) (i + 1) else some i
def isTree (l : List Nd) : Bool := chk l 0 0 == none

/- bits counted -/
def ocI (x : Int) : Int :=
  let y1 := bAdd .u64 (bAnd .u64 (bShr .u64 x 1) 6148914691236517205) (bAnd .u64 x 6148914691236517205)
  let y2 := bAdd .u64 (bAnd .u64 (bShr .u64 y1 2) 3689348814741910323) (bAnd .u64 y1 3689348814741910323)
  let y3 := bAnd .u64 (bAdd .u64 (bShr .u64 y2 4) y2) 1085102592571150095
  let y4 := bAdd .u64 y3 (bShr .u64 y3 8)
  let y5 := bAdd .u64 y4 (bShr .u64 y4 16)
  let y6 := bAdd .u64 y5 (bShr .u64 y5 32)
  bAnd .i64 (bCv .i64 y6) 127


def setC (a0 a1 a2 a3 : Int) : Nat → Int
  | 0 => 0
  | 1 => 0 + ocI a0
  | 2 => 0 + ocI a0 + ocI a1
  | 3 => 0 + ocI a0 + ocI a1 + ocI a2
  | _ => 0 + ocI a0 + ocI a1 + ocI a2 + ocI a3


def Nd.plain (n : Nd) : Bool := n.noset && (n.mn == 0 && n.mx == 0)
def Nd.reps (n : Nd) : Bool := n.noset && (decide (0 ≤ n.mn) && decide (n.mn ≤ 255) && (n.mx == -1 || (decide (n.mn ≤ n.mx) && decide (n.mx ≤ 255))))
def Nd.isset (n : Nd) : Bool := (n.mn == 0 && n.mx == 0) && !n.noset
/-- How many parts the kind has; 0 if there is no such kind. -/
def kar (k : Int) : Int := if k = 4 ∨ k = 5 then 2 else if k = 6 ∨ k = 7 ∨ k = 8 ∨ k = 9 then 1 else 0
theorem kar_of_arity {k : Int} (h : 0 ≤ arity k) : kar k = arity k := by grind [kar, arity]
theorem Nd.may_of (n : Nd) : n.may = (if n.kind = 1 ∨ n.kind = 2 ∨ n.kind = 4 ∨ n.kind = 5 ∨ n.kind = 6 ∨ n.kind = 7 ∨ n.kind = 8 then n.plain else if n.kind = 3 then n.isset else if n.kind = 9 then n.reps else false) := by
  have hk : n.kind = 1 ∨ n.kind = 2 ∨ n.kind = 3 ∨ n.kind = 4 ∨ n.kind = 5 ∨ n.kind = 6 ∨ n.kind = 7 ∨ n.kind = 8 ∨ n.kind = 9 ∨ (n.kind ≠ 1 ∧ n.kind ≠ 2 ∧ n.kind ≠ 3 ∧ n.kind ≠ 4 ∧ n.kind ≠ 5 ∧ n.kind ≠ 6 ∧ n.kind ≠ 7 ∧ n.kind ≠ 8 ∧ n.kind ≠ 9) := by omega
  unfold Nd.may Nd.plain Nd.isset Nd.reps
  generalize n.noset = z
  rcases hk with h | h | h | h | h | h | h | h | h | ⟨h1, h2, h3, h4, h5, h6, h7, h8, h9⟩
  all_goals first
    | (simp [h, arity]; done)
    | (simp [h, arity]; cases z <;> simp; done)
    | (cases z <;> simp [h, arity]; done)
    | (simp [arity, h1, h2, h3, h4, h5, h6, h7, h8, h9]; done)

end Go.Sx
