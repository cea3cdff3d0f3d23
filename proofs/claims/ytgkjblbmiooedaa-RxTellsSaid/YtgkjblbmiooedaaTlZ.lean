/- TlZ: the plain law of trees. No program but what its functions tell. -/
import Derived.Test.YtgkjblbmiooedaaTlF
import Derived.Test.YtgkjblbmiooedaaSxG
import Derived.KernelRfl
import Derived.Test.YtgkjblbmiooedaaSxK
import Derived.OpenShut
namespace Go.Sx

structure Nd where
  kind : Int
  s0 : Int
  s1 : Int
  s2 : Int
  s3 : Int
  mn : Int
  mx : Int
deriving DecidableEq

def Nd.cells (n : Nd) : List Value := [.int .i64 n.kind, .int .u64 n.s0, .int .u64 n.s1, .int .u64 n.s2, .int .u64 n.s3, .int .i64 n.mn, .int .i64 n.mx]
theorem Nd.cells_len (n : Nd) : n.cells.length = 7 := rfl

/- shorter words, for the walks -/
abbrev vI (z : Int) : SV := .v (.int .i64 z)
abbrev vU (z : Int) : SV := .v (.int .u64 z)
abbrev vB (b : Bool) : SV := .v (.bool b)
abbrev vS (A : Option Addr) (n c : Nat) : SV := .v (.slice A n c)
abbrev vP (g o : Nat) : SV := .v (.pointer (some ⟨g, o, none⟩))
abbrev vF (f : Nat) : SV := .v (.func (.func f) #[] #[])
abbrev aS (g o : Nat) : Option Addr := some ⟨g, o, none⟩
abbrev nV (k a b c d m n : Int) : List SV := [vI k, vU a, vU b, vU c, vU d, vI m, vI n]
abbrev uV (a b c d : Int) : List SV := [vU a, vU b, vU c, vU d]
abbrev Nd.sv (n : Nd) : List SV := [vI n.kind, vU n.s0, vU n.s1, vU n.s2, vU n.s3, vI n.mn, vI n.mx]
abbrev Nd.su (n : Nd) : List SV := [vU n.s0, vU n.s1, vU n.s2, vU n.s3]
theorem bleT {a b : Nat} (h : Nat.ble a b = true) : a ≤ b := Nat.le_of_ble_eq_true h

def u64ok (z : Int) : Prop := 0 ≤ z ∧ z ≤ 18446744073709551615
/-- The numbers of a node are those of a machine. -/
structure Nd.wf (n : Nd) : Prop where
  k1 : -9223372036854775808 ≤ n.kind
  k2 : n.kind ≤ 9223372036854775807
  s0 : u64ok n.s0
  s1 : u64ok n.s1
  s2 : u64ok n.s2
  s3 : u64ok n.s3

def arity (k : Int) : Int :=
  if k = 1 ∨ k = 2 ∨ k = 3 then 0 else if k = 4 ∨ k = 5 then 2 else if k = 6 ∨ k = 7 ∨ k = 8 ∨ k = 9 then 1 else -1

def Nd.noset (n : Nd) : Bool := n.s0 == 0 && n.s1 == 0 && n.s2 == 0 && n.s3 == 0
/-- Whether a node may be. -/
def Nd.may (n : Nd) : Bool :=
  decide (0 ≤ arity n.kind) && ((n.kind == 3) == !n.noset) &&
  (if n.kind = 9 then decide (0 ≤ n.mn) && decide (n.mn ≤ 255) && (n.mx == -1 || (decide (n.mn ≤ n.mx) && decide (n.mx ≤ 255))) else n.mn == 0 && n.mx == 0)

theorem get_some {α : Type} {l : List α} {i : Nat} (h : i < l.length) : ∃ x, l[i]? = some x := ⟨l[i], List.getElem?_eq_getElem h⟩

/-- Which node is the first with which a row is no tree; how many trees there are behind it all. -/
def chk : List Nd → Int → Nat → Option Nat
  | [], t, i => if t = 1 then none else some i
  | n :: l, t, i => if n.may = true ∧ arity n.kind ≤ t then chk l (t - arity n.kind + 1) (i + 1) else some i
def isTree (l : List Nd) : Bool := chk l 0 0 == none

/- bits counted -/
def ocI (x : Int) : Int :=
  let y1 := bAdd .u64 (bAnd .u64 (bShr .u64 x 1) 6148914691236517205) (bAnd .u64 x 6148914691236517205)
  let y2 := bAdd .u64 (bAnd .u64 (bShr .u64 y1 2) 3689348814741910323) (bAnd .u64 y1 3689348814741910323)
  let y3 := bAnd .u64 (bAdd .u64 (bShr .u64 y2 4) y2) 1085102592571150095
  let y4 := bAdd .u64 y3 (bShr .u64 y3 8)
  let y5 := bAdd .u64 y4 (bShr .u64 y4 16)
  let y6 := bAdd .u64 y5 (bShr .u64 y5 32)
  bAnd .i64 (bCv .i64 y6) 127


def setC (a0 a1 a2 a3 : Int) : Nat → Int
  | 0 => 0
  | 1 => 0 + ocI a0
  | 2 => 0 + ocI a0 + ocI a1
  | 3 => 0 + ocI a0 + ocI a1 + ocI a2
  | _ => 0 + ocI a0 + ocI a1 + ocI a2 + ocI a3


def Nd.plain (n : Nd) : Bool := n.noset && (n.mn == 0 && n.mx == 0)
def Nd.reps (n : Nd) : Bool := n.noset && (decide (0 ≤ n.mn) && decide (n.mn ≤ 255) && (n.mx == -1 || (decide (n.mn ≤ n.mx) && decide (n.mx ≤ 255))))
def Nd.isset (n : Nd) : Bool := (n.mn == 0 && n.mx == 0) && !n.noset
/-- How many parts the kind has; 0 if there is no such kind. -/
def kar (k : Int) : Int := if k = 4 ∨ k = 5 then 2 else if k = 6 ∨ k = 7 ∨ k = 8 ∨ k = 9 then 1 else 0
theorem kar_of_arity {k : Int} (h : 0 ≤ arity k) : kar k = arity k := by grind [kar, arity]
theorem Nd.may_of (n : Nd) : n.may = (if n.kind = 1 ∨ n.kind = 2 ∨ n.kind = 4 ∨ n.kind = 5 ∨ n.kind = 6 ∨ n.kind = 7 ∨ n.kind = 8 then n.plain else if n.kind = 3 then n.isset else if n.kind = 9 then n.reps else false) := by
  have hk : n.kind = 1 ∨ n.kind = 2 ∨ n.kind = 3 ∨ n.kind = 4 ∨ n.kind = 5 ∨ n.kind = 6 ∨ n.kind = 7 ∨ n.kind = 8 ∨ n.kind = 9 ∨ (n.kind ≠ 1 ∧ n.kind ≠ 2 ∧ n.kind ≠ 3 ∧ n.kind ≠ 4 ∧ n.kind ≠ 5 ∧ n.kind ≠ 6 ∧ n.kind ≠ 7 ∧ n.kind ≠ 8 ∧ n.kind ≠ 9) := by omega
  unfold Nd.may Nd.plain Nd.isset Nd.reps
  generalize n.noset = z
  rcases hk with h | h | h | h | h | h | h | h | h | ⟨h1, h2, h3, h4, h5, h6, h7, h8, h9⟩
  all_goals first
    | (simp [h, arity]; done)
    | (simp [h, arity]; cases z <;> simp; done)
    | (cases z <;> simp [h, arity]; done)
    | (simp [arity, h1, h2, h3, h4, h5, h6, h7, h8, h9]; done)

end Go.Sx
namespace Go.Sx

theorem and_split (h l mh ml : Nat) (hl : l < 256) (hml : ml < 256) : (l + 256 * h) &&& (ml + 256 * mh) = (l &&& ml) + 256 * (h &&& mh) := by
  have h1 : ((l + 256 * h) &&& (ml + 256 * mh)) / 2 ^ 8 = (l + 256 * h) / 2 ^ 8 &&& (ml + 256 * mh) / 2 ^ 8 := Nat.and_div_two_pow
  have h2 : ((l + 256 * h) &&& (ml + 256 * mh)) % 2 ^ 8 = (l + 256 * h) % 2 ^ 8 &&& (ml + 256 * mh) % 2 ^ 8 := Nat.and_mod_two_pow
  have e1 : (l + 256 * h) / 2 ^ 8 = h := by omega
  have e2 : (ml + 256 * mh) / 2 ^ 8 = mh := by omega
  have e3 : (l + 256 * h) % 2 ^ 8 = l := by omega
  have e4 : (ml + 256 * mh) % 2 ^ 8 = ml := by omega
  rw [e1, e2] at h1
  rw [e3, e4] at h2
  omega

def valB : List Nat → Nat
  | [] => 0
  | b :: l => b + 256 * valB l

def s1 (m x : Nat) : Nat := (x / 2 &&& m) + (x &&& m)
def s2 (m x : Nat) : Nat := (x / 4 &&& m) + (x &&& m)
def s3 (m x : Nat) : Nat := (x / 16 + x) &&& m

theorem b1 : ∀ l, l < 256 → ∀ b, b < 2 → ((l / 2 + b * 128) &&& 85) = (l / 2 &&& 85) := by decide +kernel
theorem b2 : ∀ l, l < 256 → ∀ b, b < 4 → ((l / 4 + b * 64) &&& 51) = (l / 4 &&& 51) := by decide +kernel
def nib (b : Nat) : Prop := b % 16 ≤ 4 ∧ b / 16 ≤ 4
theorem b3 : ∀ l, l < 256 → l % 16 ≤ 4 → l / 16 ≤ 4 → ∀ b, b < 5 → ((l / 16 + b * 16 + l) &&& 15) = ((l / 16 + l) &&& 15) := by decide +kernel
theorem b4 : ∀ l, l < 256 → (s1 85 l < 256) ∧ (s2 51 (s1 85 l) < 256) ∧ s2 51 (s1 85 l) % 16 ≤ 4 ∧ s2 51 (s1 85 l) / 16 ≤ 4 ∧ s3 15 (s2 51 (s1 85 l)) ≤ 8 ∧ (s3 15 (s2 51 (s1 85 l)) = 0 → l = 0) ∧ (l = 0 → s3 15 (s2 51 (s1 85 l)) = 0) := by decide +kernel

theorem S1 : ∀ bs : List Nat, (∀ b ∈ bs, b < 256) → s1 (valB (bs.map fun _ => 85)) (valB bs) = valB (bs.map (s1 85))
  | [], _ => rfl
  | b :: l, h => by
    have hb := h b (by simp)
    have ih := S1 l fun c hc => h c (by simp [hc])
    simp only [List.map_cons, valB]
    rw [← ih]
    unfold s1
    rw [and_split _ _ _ _ hb (by decide)]
    have e : (b + 256 * valB l) / 2 = (b / 2 + (valB l % 2) * 128) + 256 * (valB l / 2) := by omega
    rw [e, and_split _ _ _ _ (by omega) (by decide), b1 b hb _ (by omega)]
    omega
theorem S2 : ∀ bs : List Nat, (∀ b ∈ bs, b < 256) → s2 (valB (bs.map fun _ => 51)) (valB bs) = valB (bs.map (s2 51))
  | [], _ => rfl
  | b :: l, h => by
    have hb := h b (by simp)
    have ih := S2 l fun c hc => h c (by simp [hc])
    simp only [List.map_cons, valB]
    rw [← ih]
    unfold s2
    rw [and_split _ _ _ _ hb (by decide)]
    have e : (b + 256 * valB l) / 4 = (b / 4 + (valB l % 4) * 64) + 256 * (valB l / 4) := by omega
    rw [e, and_split _ _ _ _ (by omega) (by decide), b2 b hb _ (by omega)]
    omega
theorem nib_head : ∀ bs : List Nat, (∀ b ∈ bs, b < 256 ∧ b % 16 ≤ 4 ∧ b / 16 ≤ 4) → valB bs % 16 < 5
  | [], _ => by simp [valB]
  | b :: l, h => by
    have hb := h b (by simp)
    simp only [valB]
    omega
theorem S3 : ∀ bs : List Nat, (∀ b ∈ bs, b < 256 ∧ b % 16 ≤ 4 ∧ b / 16 ≤ 4) → s3 (valB (bs.map fun _ => 15)) (valB bs) = valB (bs.map (s3 15))
  | [], _ => rfl
  | b :: l, h => by
    have hb := h b (by simp)
    have ih := S3 l fun c hc => h c (by simp [hc])
    have hn := nib_head l fun c hc => h c (by simp [hc])
    simp only [List.map_cons, valB]
    rw [← ih]
    unfold s3
    have e : (b + 256 * valB l) / 16 + (b + 256 * valB l) = (b / 16 + (valB l % 16) * 16 + b) + 256 * (valB l / 16 + valB l) := by omega
    rw [e, and_split _ _ _ _ (by omega) (by decide), b3 b hb.1 hb.2.1 hb.2.2 _ hn]

def bytesOf : Nat → Nat → List Nat
  | 0, _ => []
  | n + 1, x => x % 256 :: bytesOf n (x / 256)
theorem bytesOf_lt : ∀ n x, ∀ b ∈ bytesOf n x, b < 256
  | 0, _, b, h => by simp [bytesOf] at h
  | n + 1, x, b, h => by
    simp only [bytesOf, List.mem_cons] at h
    rcases h with rfl | h
    · omega
    · exact bytesOf_lt n _ b h
theorem bytesOf_val : ∀ n x, x < 256 ^ n → valB (bytesOf n x) = x
  | 0, x, h => by simp at h; subst h; rfl
  | n + 1, x, h => by
    simp only [bytesOf, valB]
    rw [bytesOf_val n (x / 256) (by rw [Nat.pow_succ] at h; omega)]
    omega

theorem bAnd_nat (a b : Nat) (ha : a < 18446744073709551616) (hb : b < 18446744073709551616) : bAnd .u64 a b = ((a &&& b : Nat) : Int) := by
  have h1 : (a &&& b) ≤ a := Nat.and_le_left
  have e : (BitVec.ofInt 64 (a : Int) &&& BitVec.ofInt 64 (b : Int)).toNat = a &&& b := by
    rw [BitVec.toNat_and, BitVec.toNat_ofInt, BitVec.toNat_ofInt]
    have e1 : ((a : Int) % ((2 ^ 64 : Nat) : Int)).toNat = a := by omega
    have e2 : ((b : Int) % ((2 ^ 64 : Nat) : Int)).toNat = b := by omega
    rw [e1, e2]
  show IntKind.u64.wrap ((BitVec.ofInt 64 (a : Int) &&& BitVec.ofInt 64 (b : Int)).toNat : Int) = _
  rw [e]
  simp [IntKind.wrap, IntKind.bits, IntKind.signed]
  omega
theorem bAndi_nat (a b : Nat) (ha : a < 9223372036854775808) (hb : b < 9223372036854775808) : bAnd .i64 a b = ((a &&& b : Nat) : Int) := by
  have h1 : (a &&& b) ≤ a := Nat.and_le_left
  have e : (BitVec.ofInt 64 (a : Int) &&& BitVec.ofInt 64 (b : Int)).toNat = a &&& b := by
    rw [BitVec.toNat_and, BitVec.toNat_ofInt, BitVec.toNat_ofInt]
    have e1 : ((a : Int) % ((2 ^ 64 : Nat) : Int)).toNat = a := by omega
    have e2 : ((b : Int) % ((2 ^ 64 : Nat) : Int)).toNat = b := by omega
    rw [e1, e2]
  show IntKind.i64.wrap ((BitVec.ofInt 64 (a : Int) &&& BitVec.ofInt 64 (b : Int)).toNat : Int) = _
  rw [e]
  simp [IntKind.wrap, IntKind.bits, IntKind.signed]
  omega
theorem bAdd_nat (a b : Nat) (h : a + b < 18446744073709551616) : bAdd .u64 a b = ((a + b : Nat) : Int) := by
  unfold bAdd
  simp [IntKind.wrap, IntKind.bits, IntKind.signed]
  omega
theorem bCv_nat (a : Nat) (h : a < 9223372036854775808) : bCv .i64 a = (a : Int) := by
  unfold bCv
  simp [IntKind.wrap, IntKind.bits, IntKind.signed]
  omega
theorem bShr_nat (a n d : Nat) (hd : 2 ^ min n 64 = d) : bShr .u64 a n = ((a / d : Nat) : Int) := by
  show Int.fdiv a (2 ^ min n 64) = _
  have : ((2 : Int) ^ min n 64) = (d : Int) := by rw [← hd]; simp
  rw [this, Int.fdiv_eq_ediv_of_nonneg _ (by omega)]
  rfl

theorem and_lt' (a b n : Nat) (h : b < n) : a &&& b < n := Nat.lt_of_le_of_lt Nat.and_le_right h
def val8 (d0 d1 d2 d3 d4 d5 d6 d7 : Nat) : Nat := d0 + 256 * (d1 + 256 * (d2 + 256 * (d3 + 256 * (d4 + 256 * (d5 + 256 * (d6 + 256 * d7))))))

theorem oc_mid (c0 c1 c2 c3 c4 c5 c6 c7 n : Nat) (hb : ∀ b ∈ [c0, c1, c2, c3, c4, c5, c6, c7], b < 256) (hv : valB [c0, c1, c2, c3, c4, c5, c6, c7] = n) :
    s3 1085102592571150095 (s2 3689348814741910323 (s1 6148914691236517205 n)) = valB ([c0, c1, c2, c3, c4, c5, c6, c7].map fun c => s3 15 (s2 51 (s1 85 c))) := by
  have y1 := S1 _ hb
  have hm1 : valB ([c0, c1, c2, c3, c4, c5, c6, c7].map fun _ => 85) = 6148914691236517205 := by simp [valB]
  rw [hm1, hv] at y1
  have hb1 : ∀ b ∈ [c0, c1, c2, c3, c4, c5, c6, c7].map (s1 85), b < 256 := by
    intro b hb'
    obtain ⟨c, hc, rfl⟩ := List.mem_map.1 hb'
    exact (b4 c (hb c hc)).1
  have y2 := S2 _ hb1
  have hm2 : valB (([c0, c1, c2, c3, c4, c5, c6, c7].map (s1 85)).map fun _ => 51) = 3689348814741910323 := by simp [valB]
  rw [hm2] at y2
  have hb2 : ∀ b ∈ ([c0, c1, c2, c3, c4, c5, c6, c7].map (s1 85)).map (s2 51), b < 256 ∧ b % 16 ≤ 4 ∧ b / 16 ≤ 4 := by
    intro b hb'
    rw [List.map_map] at hb'
    obtain ⟨c, hc, rfl⟩ := List.mem_map.1 hb'
    have := b4 c (hb c hc)
    exact ⟨this.2.1, this.2.2.1, this.2.2.2.1⟩
  have y3 := S3 _ hb2
  have hm3 : valB ((([c0, c1, c2, c3, c4, c5, c6, c7].map (s1 85)).map (s2 51)).map fun _ => 15) = 1085102592571150095 := by simp [valB]
  rw [hm3] at y3
  rw [y1, y2, y3]
  rfl

theorem z8 (c0 c1 c2 c3 c4 c5 c6 c7 : Nat) (h : c0 + 256 * (c1 + 256 * (c2 + 256 * (c3 + 256 * (c4 + 256 * (c5 + 256 * (c6 + 256 * (c7 + 256 * 0))))))) = 0) : c0 = 0 ∧ c1 = 0 ∧ c2 = 0 ∧ c3 = 0 ∧ c4 = 0 ∧ c5 = 0 ∧ c6 = 0 ∧ c7 = 0 := by
  have z : ∀ a b : Nat, a + 256 * b = 0 → a = 0 ∧ b = 0 := by intro a b h; omega
  obtain ⟨q0, h⟩ := z _ _ h
  obtain ⟨q1, h⟩ := z _ _ h
  obtain ⟨q2, h⟩ := z _ _ h
  obtain ⟨q3, h⟩ := z _ _ h
  obtain ⟨q4, h⟩ := z _ _ h
  obtain ⟨q5, h⟩ := z _ _ h
  obtain ⟨q6, h⟩ := z _ _ h
  obtain ⟨q7, h⟩ := z _ _ h
  exact ⟨q0, q1, q2, q3, q4, q5, q6, q7⟩
theorem oc_pieces (n : Nat) (h : n < 18446744073709551616) : ∃ d0 d1 d2 d3 d4 d5 d6 d7 : Nat, s3 1085102592571150095 (s2 3689348814741910323 (s1 6148914691236517205 n)) = val8 d0 d1 d2 d3 d4 d5 d6 d7 ∧
    d0 ≤ 8 ∧ d1 ≤ 8 ∧ d2 ≤ 8 ∧ d3 ≤ 8 ∧ d4 ≤ 8 ∧ d5 ≤ 8 ∧ d6 ≤ 8 ∧ d7 ≤ 8 ∧ (d0 + d1 + d2 + d3 + d4 + d5 + d6 + d7 = 0 ↔ n = 0) := by
  have hb := bytesOf_lt 8 n
  have hv := bytesOf_val 8 n (by simpa using h)
  simp only [bytesOf] at hb hv
  have hm := oc_mid _ _ _ _ _ _ _ _ n hb hv
  generalize n % 256 = c0 at *
  generalize n / 256 % 256 = c1 at *
  generalize n / 256 / 256 % 256 = c2 at *
  generalize n / 256 / 256 / 256 % 256 = c3 at *
  generalize n / 256 / 256 / 256 / 256 % 256 = c4 at *
  generalize n / 256 / 256 / 256 / 256 / 256 % 256 = c5 at *
  generalize n / 256 / 256 / 256 / 256 / 256 / 256 % 256 = c6 at *
  generalize n / 256 / 256 / 256 / 256 / 256 / 256 / 256 % 256 = c7 at *
  have f0 := (b4 c0 (hb c0 (by simp))).2.2.2.2
  have f1 := (b4 c1 (hb c1 (by simp))).2.2.2.2
  have f2 := (b4 c2 (hb c2 (by simp))).2.2.2.2
  have f3 := (b4 c3 (hb c3 (by simp))).2.2.2.2
  have f4 := (b4 c4 (hb c4 (by simp))).2.2.2.2
  have f5 := (b4 c5 (hb c5 (by simp))).2.2.2.2
  have f6 := (b4 c6 (hb c6 (by simp))).2.2.2.2
  have f7 := (b4 c7 (hb c7 (by simp))).2.2.2.2
  refine ⟨s3 15 (s2 51 (s1 85 c0)), s3 15 (s2 51 (s1 85 c1)), s3 15 (s2 51 (s1 85 c2)), s3 15 (s2 51 (s1 85 c3)), s3 15 (s2 51 (s1 85 c4)), s3 15 (s2 51 (s1 85 c5)), s3 15 (s2 51 (s1 85 c6)), s3 15 (s2 51 (s1 85 c7)), hm, f0.1, f1.1, f2.1, f3.1, f4.1, f5.1, f6.1, f7.1, ?_⟩
  clear hm hb h
  simp only [valB] at hv
  constructor
  · intro h0
    simp only [Nat.add_eq_zero_iff] at h0
    obtain ⟨⟨⟨⟨⟨⟨⟨q0, q1⟩, q2⟩, q3⟩, q4⟩, q5⟩, q6⟩, q7⟩ := h0
    rw [← hv, f0.2.1 q0, f1.2.1 q1, f2.2.1 q2, f3.2.1 q3, f4.2.1 q4, f5.2.1 q5, f6.2.1 q6, f7.2.1 q7]
  · intro h0
    rw [h0] at hv
    obtain ⟨q0, q1, q2, q3, q4, q5, q6, q7⟩ := z8 _ _ _ _ _ _ _ _ hv
    rw [f0.2.2 q0, f1.2.2 q1, f2.2.2 q2, f3.2.2 q3, f4.2.2 q4, f5.2.2 q5, f6.2.2 q6, f7.2.2 q7]

theorem dv (m a r : Nat) (h : a < m) : (a + m * r) / m = r := by
  rw [Nat.add_mul_div_left _ _ (by omega), Nat.div_eq_of_lt h, Nat.zero_add]
theorem id4 (d0 d1 d2 d3 d4 d5 d6 d7 : Nat) : val8 d0 d1 d2 d3 d4 d5 d6 d7 + (d1 + 256 * (d2 + 256 * (d3 + 256 * (d4 + 256 * (d5 + 256 * (d6 + 256 * d7)))))) =
    ((d0 + d1) + 256 * (d1 + d2)) + 65536 * ((d2 + d3) + 256 * ((d3 + d4) + 256 * ((d4 + d5) + 256 * ((d5 + d6) + 256 * ((d6 + d7) + 256 * d7))))) := by
  unfold val8; omega
theorem id5 (d0 d1 d2 d3 d4 d5 d6 d7 : Nat) : ((d0 + d1) + 256 * (d1 + d2)) + 65536 * ((d2 + d3) + 256 * ((d3 + d4) + 256 * ((d4 + d5) + 256 * ((d5 + d6) + 256 * ((d6 + d7) + 256 * d7))))) + ((d2 + d3) + 256 * ((d3 + d4) + 256 * ((d4 + d5) + 256 * ((d5 + d6) + 256 * ((d6 + d7) + 256 * d7))))) =
    ((d0 + d1 + d2 + d3) + 256 * ((d1 + d2 + d3 + d4) + 256 * ((d2 + d3 + d4 + d5) + 256 * (d3 + d4 + d5 + d6)))) + 4294967296 * ((d4 + d5 + d6 + d7) + 256 * ((d5 + d6 + d7) + 256 * ((d6 + d7) + 256 * d7))) := by
  omega
theorem id6 (a r r2 b r' : Nat) (h : a + b < 128) : (a + 256 * r + 4294967296 * r2 + (b + 256 * r')) % 128 = a + b := by omega

theorem oc_sum (z3 d0 d1 d2 d3 d4 d5 d6 d7 : Nat) (h : z3 = val8 d0 d1 d2 d3 d4 d5 d6 d7) (h0 : d0 ≤ 8) (h1 : d1 ≤ 8) (h2 : d2 ≤ 8) (h3 : d3 ≤ 8) (h4 : d4 ≤ 8) (h5 : d5 ≤ 8) (h6 : d6 ≤ 8) (h7 : d7 ≤ 8) :
    ((z3 + z3 / 256) + (z3 + z3 / 256) / 65536 + ((z3 + z3 / 256) + (z3 + z3 / 256) / 65536) / 4294967296) % 128 = d0 + d1 + d2 + d3 + d4 + d5 + d6 + d7 := by
  have q3 : z3 / 256 = d1 + 256 * (d2 + 256 * (d3 + 256 * (d4 + 256 * (d5 + 256 * (d6 + 256 * d7))))) := by
    rw [h]; unfold val8; generalize d1 + 256 * (d2 + 256 * (d3 + 256 * (d4 + 256 * (d5 + 256 * (d6 + 256 * d7))))) = r; exact dv 256 d0 r (by omega)
  have q4 : z3 + z3 / 256 = ((d0 + d1) + 256 * (d1 + d2)) + 65536 * ((d2 + d3) + 256 * ((d3 + d4) + 256 * ((d4 + d5) + 256 * ((d5 + d6) + 256 * ((d6 + d7) + 256 * d7))))) := by
    rw [q3, h]; exact id4 d0 d1 d2 d3 d4 d5 d6 d7
  rw [q4]
  have q5 := dv 65536 ((d0 + d1) + 256 * (d1 + d2)) ((d2 + d3) + 256 * ((d3 + d4) + 256 * ((d4 + d5) + 256 * ((d5 + d6) + 256 * ((d6 + d7) + 256 * d7))))) (by clear q3 q4 h; omega)
  rw [q5, id5]
  have q7 := dv 4294967296 ((d0 + d1 + d2 + d3) + 256 * ((d1 + d2 + d3 + d4) + 256 * ((d2 + d3 + d4 + d5) + 256 * (d3 + d4 + d5 + d6)))) ((d4 + d5 + d6 + d7) + 256 * ((d5 + d6 + d7) + 256 * ((d6 + d7) + 256 * d7))) (by clear q3 q4 q5 h; omega)
  rw [q7, id6 _ _ _ _ _ (by clear q3 q4 q5 q7 h; omega)]
  clear q3 q4 q5 q7 h
  omega

theorem ocI_nat (n : Nat) (h : n < 18446744073709551616) : ∃ c : Nat, ocI n = (c : Int) ∧ c ≤ 64 ∧ (c = 0 ↔ n = 0) := by
  obtain ⟨d0, d1, d2, d3, d4, d5, d6, d7, hz, g0, g1, g2, g3, g4, g5, g6, g7, hn⟩ := oc_pieces n h
  have hs1 : s1 6148914691236517205 n < 18446744073709551616 := by
    unfold s1
    have h1 := and_lt' (n / 2) 6148914691236517205 6148914691236517206 (by omega)
    have h2 := and_lt' n 6148914691236517205 6148914691236517206 (by omega)
    omega
  generalize hg1 : s1 6148914691236517205 n = z1 at hz hs1
  have hs2 : s2 3689348814741910323 z1 < 9223372036854775808 := by
    unfold s2
    have h1 := and_lt' (z1 / 4) 3689348814741910323 3689348814741910324 (by omega)
    have h2 := and_lt' z1 3689348814741910323 3689348814741910324 (by omega)
    omega
  generalize hg2 : s2 3689348814741910323 z1 = z2 at hz hs2
  have hs3 : s3 1085102592571150095 z2 < 1085102592571150096 := and_lt' _ _ _ (by omega)
  generalize hg3 : s3 1085102592571150095 z2 = z3 at hz hs3
  have e1 : bAdd .u64 (bAnd .u64 (bShr .u64 n 1) 6148914691236517205) (bAnd .u64 n 6148914691236517205) = (z1 : Int) := by
    rw [bShr_nat n 1 2 rfl]
    have a1 := bAnd_nat (n / 2) 6148914691236517205 (by omega) (by omega)
    have a2 := bAnd_nat n 6148914691236517205 (by omega) (by omega)
    simp only [Int.cast_ofNat_Int] at a1 a2
    rw [a1, a2, bAdd_nat _ _ (by unfold s1 at hg1; omega), ← hg1]; rfl
  have e2 : bAdd .u64 (bAnd .u64 (bShr .u64 z1 2) 3689348814741910323) (bAnd .u64 z1 3689348814741910323) = (z2 : Int) := by
    rw [bShr_nat z1 2 4 rfl]
    have a1 := bAnd_nat (z1 / 4) 3689348814741910323 (by omega) (by omega)
    have a2 := bAnd_nat z1 3689348814741910323 (by omega) (by omega)
    simp only [Int.cast_ofNat_Int] at a1 a2
    rw [a1, a2, bAdd_nat _ _ (by unfold s2 at hg2; omega), ← hg2]; rfl
  have e3 : bAnd .u64 (bAdd .u64 (bShr .u64 z2 4) z2) 1085102592571150095 = (z3 : Int) := by
    rw [bShr_nat z2 4 16 rfl, bAdd_nat _ _ (by omega)]
    have a1 := bAnd_nat (z2 / 16 + z2) 1085102592571150095 (by omega) (by omega)
    simp only [Int.cast_ofNat_Int] at a1
    rw [a1, ← hg3]; rfl
  have hsum := oc_sum z3 d0 d1 d2 d3 d4 d5 d6 d7 hz g0 g1 g2 g3 g4 g5 g6 g7
  clear hz hg1 hg2 hg3 hs1 hs2
  have e4 : bAdd .u64 z3 (bShr .u64 z3 8) = ((z3 + z3 / 256 : Nat) : Int) := by
    clear hsum
    rw [bShr_nat z3 8 256 rfl, bAdd_nat _ _ (by omega)]
  have hl4 : z3 + z3 / 256 < 2 * 1085102592571150096 := by clear hsum; omega
  generalize z3 + z3 / 256 = z4 at e4 hsum hl4
  have e5 : bAdd .u64 z4 (bShr .u64 z4 16) = ((z4 + z4 / 65536 : Nat) : Int) := by
    clear hsum
    rw [bShr_nat z4 16 65536 rfl, bAdd_nat _ _ (by omega)]
  have hl5 : z4 + z4 / 65536 < 3 * 1085102592571150096 := by clear hsum; omega
  generalize z4 + z4 / 65536 = z5 at e5 hsum hl5
  have e6 : bAdd .u64 z5 (bShr .u64 z5 32) = ((z5 + z5 / 4294967296 : Nat) : Int) := by
    clear hsum
    rw [bShr_nat z5 32 4294967296 rfl, bAdd_nat _ _ (by omega)]
  have hl6 : z5 + z5 / 4294967296 < 9223372036854775808 := by clear hsum; omega
  generalize z5 + z5 / 4294967296 = z6 at e6 hsum hl6
  have e7 : bAnd .i64 (bCv .i64 (z6 : Int)) 127 = ((z6 % 128 : Nat) : Int) := by
    clear hsum
    rw [bCv_nat z6 (by omega)]
    have a1 := bAndi_nat z6 127 (by omega) (by omega)
    simp only [Int.cast_ofNat_Int] at a1
    rw [a1]
    have : z6 &&& 127 = z6 % 2 ^ 7 := Nat.and_two_pow_sub_one_eq_mod z6 7
    rw [this]
  refine ⟨z6 % 128, ?_, ?_, ?_⟩
  · unfold ocI
    simp only [e1, e2, e3, e4, e5, e6, e7]
  · rw [hsum]; omega
  · rw [hsum]; exact hn

theorem ocI_spec (x : Int) (h : u64ok x) : 0 ≤ ocI x ∧ ocI x ≤ 64 ∧ (ocI x = 0 ↔ x = 0) := by
  obtain ⟨h0, h1⟩ := h
  obtain ⟨n, rfl⟩ := Int.eq_ofNat_of_zero_le h0
  obtain ⟨c, hc, hc1, hc2⟩ := ocI_nat n (by omega)
  rw [hc]
  omega

theorem setC_pos (n : Nd) (h : n.wf) : (setC n.s0 n.s1 n.s2 n.s3 4 > 0 ↔ n.noset = false) ∧ 0 ≤ setC n.s0 n.s1 n.s2 n.s3 4 := by
  have h0 := ocI_spec _ h.s0
  have h1 := ocI_spec _ h.s1
  have h2 := ocI_spec _ h.s2
  have h3 := ocI_spec _ h.s3
  simp only [setC, Nd.noset]
  generalize ocI n.s0 = c0 at *
  generalize ocI n.s1 = c1 at *
  generalize ocI n.s2 = c2 at *
  generalize ocI n.s3 = c3 at *
  refine ⟨?_, by omega⟩
  rw [Bool.eq_false_iff, ne_eq, Bool.and_eq_true, Bool.and_eq_true, Bool.and_eq_true, beq_iff_eq, beq_iff_eq, beq_iff_eq, beq_iff_eq, ← h0.2.2, ← h1.2.2, ← h2.2.2, ← h3.2.2]
  omega


theorem kar_bd (k : Int) : 0 ≤ kar k ∧ kar k ≤ 2 := by unfold kar; split <;> (try split) <;> omega
theorem drop_of_get {α : Type} {l : List α} {i : Nat} {e : α} (h : l[i]? = some e) : l.drop i = e :: l.drop (i + 1) := by
  obtain ⟨hi, rfl⟩ := List.getElem?_eq_some_iff.1 h
  exact List.drop_eq_getElem_cons hi
theorem arity_of_may {n : Nd} (h : n.may = true) : arity n.kind = kar n.kind := by
  refine (kar_of_arity ?_).symm
  unfold Nd.may at h
  simp only [Bool.and_eq_true, decide_eq_true_eq] at h
  exact h.1.1
theorem chk_step {nds : List Nd} {i : Nat} {e : Nd} {t : Int} (he : nds[i]? = some e) (hm : e.may = true) (ht : ¬ kar e.kind > t) : chk (nds.drop i) t i = chk (nds.drop (i + 1)) (t - (kar e.kind - 1)) (i + 1) := by
  rw [drop_of_get he, chk, if_pos ⟨hm, by rw [arity_of_may hm]; omega⟩, arity_of_may hm]
  congr 1
  omega
theorem chk_bad {nds : List Nd} {i : Nat} {e : Nd} {t : Int} (he : nds[i]? = some e) (h : e.may = false ∨ kar e.kind > t) : chk (nds.drop i) t i = some i := by
  rw [drop_of_get he, chk, if_neg]
  rintro ⟨hm, ha⟩
  rw [arity_of_may hm] at ha
  rcases h with h | h
  · rw [hm] at h; cases h
  · omega
theorem chk_end {nds : List Nd} {i : Nat} {t : Int} (h : nds.length ≤ i) : chk (nds.drop i) t i = if t = 1 then none else some i := by
  rw [List.drop_of_length_le h]; rfl
/-- What Check tells. -/
def chkR (nds : List Nd) : Int × Int := match chk nds 0 0 with
  | none => (0, 0)
  | some i => (i, 140)
/-- What the reference's Check tells. -/
def chkZ (nds : List Nd) : Int := match chk nds 0 0 with
  | none => -1
  | some i => i
/-- A row of nodes as it lies in memory. -/
abbrev NdsAt (Φ : Phi) (A : Option Addr) (nds : List Nd) : Prop := RdC Φ A (nds.flatMap Nd.cells)
theorem nds_pos {nds : List Nd} (h : 0 < nds.length) : 0 < (nds.flatMap Nd.cells).length := by rw [flat_len Nd.cells_len]; omega

theorem Nd.may_no {n : Nd} (h : ¬ (1 ≤ n.kind ∧ n.kind ≤ 9)) : n.may = false := by
  rw [Nd.may_of, if_neg (by omega), if_neg (by omega), if_neg (by omega)]
theorem Nd.kind_of_may {n : Nd} (h : n.may = true) : 1 ≤ n.kind ∧ n.kind ≤ 9 := by
  by_cases hk : 1 ≤ n.kind ∧ n.kind ≤ 9
  · exact hk
  · rw [Nd.may_no hk] at h; cases h

theorem arity_bd (k : Int) : -1 ≤ arity k ∧ arity k ≤ 2 := by unfold arity; split <;> (try split) <;> (try split) <;> omega
theorem take_succ_get {α : Type} {l : List α} {i : Nat} {e : α} (h : l[i]? = some e) : l.take (i + 1) = l.take i ++ [e] := by
  rw [List.take_add_one, h]; rfl
theorem same_step {α : Type} {xs ys : List α} {i : Nat} {a b : α} (h : xs.take i = ys.take i) (ha : xs[i]? = some a) (hb : ys[i]? = some b) (he : a = b) : xs.take (i + 1) = ys.take (i + 1) := by
  rw [take_succ_get ha, take_succ_get hb, h, he]
theorem same_bad {α : Type} {xs ys : List α} {i : Nat} {a b : α} (ha : xs[i]? = some a) (hb : ys[i]? = some b) (he : a ≠ b) : ¬ xs = ys := by
  rintro rfl
  rw [ha] at hb
  exact he (Option.some.inj hb)
theorem same_end {α : Type} {xs ys : List α} {i : Nat} (hi : i ≤ xs.length) (h1 : xs.length ≤ i) (h2 : xs.length = ys.length) (h : xs.take i = ys.take i) : xs = ys := by
  rw [List.take_of_length_le h1, List.take_of_length_le (by omega)] at h
  exact h
theorem nd_neq (a b : Nd) : (!((a.kind == b.kind) && (((a.s0 == b.s0) && ((a.s1 == b.s1) && ((a.s2 == b.s2) && ((a.s3 == b.s3) && true)))) && ((a.mn == b.mn) && ((a.mx == b.mx) && true))))) = decide (a ≠ b) := by
  obtain ⟨a1, a2, a3, a4, a5, a6, a7⟩ := a
  obtain ⟨b1, b2, b3, b4, b5, b6, b7⟩ := b
  rw [Bool.eq_iff_iff]
  simp [Bool.and_eq_true]
  grind

theorem nds_one (nds : List Nd) : ∀ u ∈ nds.flatMap Nd.cells, u.oneCell' = true := by
  intro u hu
  obtain ⟨n, _, hn⟩ := List.mem_flatMap.1 hu
  revert u
  exact fun u _ hn => one_lits n.cells rfl u hn

theorem chkR_ok {nds : List Nd} (h : chk nds 0 0 = none) : chkR nds = (0, 0) := by rw [chkR, h]
theorem chkR_no {nds : List Nd} {i : Nat} (h : chk nds 0 0 = some i) : chkR nds = ((i : Int), 140) := by rw [chkR, h]
theorem flat_take {α : Type} {enc : α → List Value} {sz : Nat} (hsz : ∀ x, (enc x).length = sz) : ∀ (xs : List α) (n : Nat), (xs.take n).flatMap enc = (xs.flatMap enc).take (n * sz)
  | [], n => by simp
  | x :: xs, 0 => by simp
  | x :: xs, n + 1 => by
    have h1 : (n + 1) * sz = (enc x).length + n * sz := by rw [hsz, Nat.succ_mul]; omega
    rw [List.take_succ_cons, List.flatMap_cons, List.flatMap_cons, flat_take hsz xs n, h1, List.take_length_add_append]
theorem take_le {α : Type} {l : List α} {m : Nat} (h : l.length ≤ m) (n : Nat) : (l.take n).length ≤ m := by simp only [List.length_take]; omega

end Go.Sx
namespace Go.Sx

theorem wIn {z : Int} (h : -9223372036854775808 ≤ z) (h2 : z ≤ 9223372036854775807) : w z = z := by
  unfold w
  exact wrapI h h2
theorem wNat {n : Nat} (h : n ≤ 4000000) : w (n : Int) = n := wIn (by omega) (by omega)
theorem ixd_nat {α A : Type} {xs : List α} {i : Nat} {e : α} {F : α → Option A} (h : xs[i]? = some e) : ixd xs (i : Int) F = F e := by
  unfold ixd
  rw [if_pos (by omega)]
  simp only [Int.toNat_natCast, h]
theorem oc (x : Int) : math_bits_OnesCount64 x = some (ocI x) := rfl

structure swf (s : Ar4_dI_u64) : Prop where
  s0 : u64ok s.e0
  s1 : u64ok s.e1
  s2 : u64ok s.e2
  s3 : u64ok s.e3
def s0 : Ar4_dI_u64 := ⟨0, 0, 0, 0⟩
theorem set_cnt {s : Ar4_dI_u64} (h : swf s) : ∃ c, set_Count 100 s = some c ∧ 0 ≤ c ∧ (c = 0 ↔ s = s0) := by
  have h0 := ocI_spec _ h.s0
  have h1 := ocI_spec _ h.s1
  have h2 := ocI_spec _ h.s2
  have h3 := ocI_spec _ h.s3
  refine ⟨ocI s.e0 + ocI s.e1 + ocI s.e2 + ocI s.e3, ?_, by omega, ?_⟩
  · have e1 : w (ocI s.e0) = ocI s.e0 := wIn (by omega) (by omega)
    have e2 : w (ocI s.e0 + ocI s.e1) = ocI s.e0 + ocI s.e1 := wIn (by omega) (by omega)
    have e3 : w (ocI s.e0 + ocI s.e1 + ocI s.e2) = ocI s.e0 + ocI s.e1 + ocI s.e2 := wIn (by omega) (by omega)
    have e4 : w (ocI s.e0 + ocI s.e1 + ocI s.e2 + ocI s.e3) = ocI s.e0 + ocI s.e1 + ocI s.e2 + ocI s.e3 := wIn (by omega) (by omega)
    simp [set_Count, set_Count_L0, oc, Lo.k]
    rw [e1, e2, e3, e4]
  · obtain ⟨a, b, c, d⟩ := s
    simp only [s0, Ar4_dI_u64.mk.injEq] at *
    omega

def arI (k : Int) : Int := if k = 4 ∨ k = 5 then 2 else if k = 6 ∨ k = 7 ∨ k = 8 ∨ k = 9 then 1 else 0
def ar (e : TNode) : Nat := (arI e.Kind).toNat
theorem arI_ar (e : TNode) : arI e.Kind = (ar e : Int) := by unfold ar arI; split <;> (try split) <;> rfl
theorem ar_le (e : TNode) : ar e ≤ 2 := by unfold ar arI; split <;> (try split) <;> decide
def mayB (e : TNode) : Bool := ((rx_known 100 e).getD (0, false)).2
theorem known_of {e : TNode} (h : swf e.Set) : rx_known 100 e = some ((ar e : Int), mayB e) ∧ (mayB e = true → 1 ≤ e.Kind ∧ e.Kind ≤ 9 ∧ (e.Kind = 3 → e.Set ≠ s0)) := by
  rw [← arI_ar]
  have key : ∃ b, rx_known 100 e = some (arI e.Kind, b) ∧ (b = true → 1 ≤ e.Kind ∧ e.Kind ≤ 9 ∧ (e.Kind = 3 → e.Set ≠ s0)) := by
    obtain ⟨c, hc, hc0, hcs⟩ := set_cnt h
    by_cases h1 : e.Kind < 1
    · refine ⟨false, ?_, by simp⟩
      unfold rx_known arI
      simp only [h1, decide_true, if_true]
      rw [if_neg (by omega), if_neg (by omega)]
    · by_cases h9 : e.Kind > 9
      · refine ⟨false, ?_, by simp⟩
        unfold rx_known arI
        simp only [h1, h9, decide_true, decide_false, if_true, if_false, Bool.false_eq_true]
        rw [if_neg (by omega), if_neg (by omega)]
      · have hk : e.Kind = 1 ∨ e.Kind = 2 ∨ e.Kind = 3 ∨ e.Kind = 4 ∨ e.Kind = 5 ∨ e.Kind = 6 ∨ e.Kind = 7 ∨ e.Kind = 8 ∨ e.Kind = 9 := by omega
        have hk4 : ∃ b, rx_kinds_4 100 e = some b ∧ (b = true → e.Set ≠ s0) := by
          unfold rx_kinds_4
          split
          · rw [hc]
            refine ⟨_, rfl, fun h hs => ?_⟩
            have := hcs.2 hs
            simp at h
            omega
          · exact ⟨false, rfl, by simp⟩
        obtain ⟨b4, hb4, hs4⟩ := hk4
        obtain ⟨bp, hbp⟩ : ∃ b, rx_plain e = some b := ⟨_, rfl⟩
        obtain ⟨br, hbr⟩ : ∃ b, rx_repeats e = some b := by
          unfold rx_repeats
          (repeat' split) <;> exact ⟨_, rfl⟩
        rcases hk with hk | hk | hk | hk | hk | hk | hk | hk | hk
        case inr.inr.inl => exact ⟨b4, by simp [rx_known, hk, rx_kinds, hb4, arI], fun h => ⟨by omega, by omega, fun _ => hs4 h⟩⟩
        case inr.inr.inr.inr.inr.inr.inr.inr => exact ⟨br, by simp [rx_known, hk, rx_kinds, hbr, arI], fun h => ⟨by omega, by omega, fun _ => by omega⟩⟩
        all_goals exact ⟨bp, by simp [rx_known, hk, rx_kinds, hbp, arI], fun h => ⟨by omega, by omega, fun _ => by omega⟩⟩
  obtain ⟨b, hb, hk⟩ := key
  have hm : mayB e = b := by unfold mayB; rw [hb]; rfl
  rw [hm]
  exact ⟨hb, hk⟩
end Go.Sx
namespace Go.Sx

/-- A row of nodes is one tree, behind t trees. -/
def Ok : List TNode → Nat → Prop
  | [], t => t = 1
  | e :: l, t => mayB e = true ∧ ar e ≤ t ∧ Ok l (t - ar e + 1)
def rwf (r : List TNode) : Prop := ∀ e ∈ r, swf e.Set
theorem drop_get {α : Type} {l : List α} {i : Nat} {e : α} (h : l[i]? = some e) : l.drop i = e :: l.drop (i + 1) := by
  have hlt : i < l.length := by
    rcases Nat.lt_or_ge i l.length with h' | h'
    · exact h'
    · rw [List.getElem?_eq_none h'] at h; cases h
  rw [List.getElem?_eq_getElem hlt] at h
  rw [List.drop_eq_getElem_cons hlt]
  cases h; rfl
theorem get_at {α : Type} {l : List α} {i : Nat} (h : i < l.length) : ∃ e, l[i]? = some e := ⟨l[i], List.getElem?_eq_getElem h⟩
theorem w1 {i : Nat} (h : i ≤ 3000000) : w ((i : Int) + 1) = ((i + 1 : Nat) : Int) := by rw [wIn (by omega) (by omega)]; omega

theorem check_loop {r : List TNode} (hw : rwf r) (hl : r.length ≤ 1000000) : ∀ (k i t m : Nat), r.length - i = k → i ≤ r.length → t ≤ i → k < m →
    (Ok (r.drop i) t ∧ rx_Check_L0 100 r m ((t : Int), (i : Int)) = some (.ex 1)) ∨ (¬ Ok (r.drop i) t ∧ ((∃ j, rx_Check_L0 100 r m ((t : Int), (i : Int)) = some (.rt (j, 140))) ∨ ∃ z, z ≠ 1 ∧ rx_Check_L0 100 r m ((t : Int), (i : Int)) = some (.ex z))) := by
  intro k
  induction k with
  | zero =>
    intro i t m hk hi ht hm
    obtain ⟨m, rfl⟩ : ∃ m', m = m' + 1 := ⟨m - 1, by omega⟩
    have hd : r.drop i = [] := List.drop_of_length_le (by omega)
    have hc : ¬ ((i : Int) < (r.length : Int)) := by omega
    have hE : rx_Check_L0 100 r (m + 1) ((t : Int), (i : Int)) = some (.ex (t : Int)) := by
      unfold rx_Check_L0; simp only [hc, decide_false, if_false, Bool.false_eq_true]
    rw [hd, hE]
    by_cases h1 : t = 1
    · left; subst h1; exact ⟨rfl, rfl⟩
    · right; exact ⟨h1, .inr ⟨t, by omega, rfl⟩⟩
  | succ k ih =>
    intro i t m hk hi ht hm
    obtain ⟨m, rfl⟩ : ∃ m', m = m' + 1 := ⟨m - 1, by omega⟩
    obtain ⟨e, he⟩ := get_at (l := r) (i := i) (by omega)
    obtain ⟨hkn, _⟩ := known_of (hw e (List.mem_of_getElem? he))
    have hc : (i : Int) < (r.length : Int) := by omega
    have ha := ar_le e
    have hstep : rx_Check_L0 100 r (m + 1) ((t : Int), (i : Int)) = if (!mayB e) = true then some (.rt ((i : Int), 140)) else if decide ((ar e : Int) > (t : Int)) = true then some (.rt ((i : Int), 140)) else rx_Check_L0 100 r m ((w ((t : Int) - (w ((ar e : Int) - 1)))), (w ((i : Int) + 1))) := by
      conv => lhs; unfold rx_Check_L0
      simp only [hc, decide_true, if_true, ixd_nat he, hkn, Option.bind_some]
    rw [hstep, drop_get he]
    unfold Ok
    by_cases hm1 : mayB e = true
    · rw [if_neg (by simp [hm1])]
      by_cases ht1 : ar e ≤ t
      · rw [if_neg (by simp; omega)]
        have e1 : w ((t : Int) - (w ((ar e : Int) - 1))) = ((t - ar e + 1 : Nat) : Int) := by
          rw [wIn (z := (ar e : Int) - 1) (by omega) (by omega), wIn (by omega) (by omega)]; omega
        rw [e1, w1 (by omega)]
        rcases ih (i + 1) (t - ar e + 1) m (by omega) (by omega) (by omega) (by omega) with ⟨h1, h2⟩ | ⟨h1, h2⟩
        · exact .inl ⟨⟨hm1, ht1, h1⟩, h2⟩
        · exact .inr ⟨fun h => h1 h.2.2, h2⟩
      · rw [if_pos (by simp; omega)]
        exact .inr ⟨fun h => ht1 h.2.1, .inl ⟨_, rfl⟩⟩
    · rw [if_pos (by simpa using hm1)]
      exact .inr ⟨fun h => hm1 h.1, .inl ⟨_, rfl⟩⟩

theorem check_of {r : List TNode} (hw : rwf r) (hl : r.length ≤ 90) : (Ok r 0 ∧ rx_Check 100 r = some (0, 0)) ∨ (¬ Ok r 0 ∧ ∃ j, rx_Check 100 r = some (j, 140)) := by
  unfold rx_Check
  rcases check_loop hw (by omega) r.length 0 0 100 (by omega) (by omega) (by omega) (by omega) with ⟨h1, h2⟩ | ⟨h1, ⟨j, h2⟩ | ⟨z, hz, h2⟩⟩
  · left
    refine ⟨h1, ?_⟩
    have h2' : rx_Check_L0 100 r 100 (0, 0) = _ := h2
    rw [h2']; rfl
  · right
    refine ⟨h1, j, ?_⟩
    have h2' : rx_Check_L0 100 r 100 (0, 0) = _ := h2
    rw [h2']; rfl
  · right
    refine ⟨h1, (r.length : Int), ?_⟩
    have h2' : rx_Check_L0 100 r 100 (0, 0) = _ := h2
    rw [h2']
    simp [Lo.k, hz]
theorem of_ok {r : List TNode} (hw : rwf r) (hl : r.length ≤ 90) (h : Ok r 0) : rx_of 100 r = some (.ok r) := by
  rcases check_of hw hl with ⟨_, h2⟩ | ⟨h1, _⟩
  · unfold rx_of; rw [h2]; rfl
  · exact absurd h h1
theorem of_no {r : List TNode} (hw : rwf r) (hl : r.length ≤ 90) (h : ¬ Ok r 0) : rx_of 100 r = some (.pan 140) := by
  rcases check_of hw hl with ⟨h1, _⟩ | ⟨_, j, h2⟩
  · exact absurd h1 h
  · unfold rx_of; rw [h2]; rfl

/- from the leaves on, on a pile -/
def fol {α : Type} (mk : TNode → List α → α) : List TNode → List α → List α
  | [], st => st
  | n :: l, st => fol mk l (st.take (st.length - ar n) ++ [mk n (st.drop (st.length - ar n))])
theorem fol_append {α : Type} (mk : TNode → List α → α) : ∀ (a b : List TNode) (st : List α), fol mk (a ++ b) st = fol mk b (fol mk a st)
  | [], _, _ => rfl
  | n :: a, b, st => by simp only [List.cons_append, fol]; exact fol_append mk a b _
/-- A row that lays one thing on the pile, whatever lies there. -/
structure Gd (b : List TNode) : Prop where
  pos : b ≠ []
  lay : ∀ (α : Type) (mk : TNode → List α → α), ∃ v, ∀ st, fol mk b st = st ++ [v]
  ok : ∀ (t : Nat) (l : List TNode), Ok l (t + 1) → Ok (b ++ l) t
theorem Gd.tree {b : List TNode} (h : Gd b) : Ok b 0 := by
  have := h.ok 0 [] rfl
  rwa [List.append_nil] at this
theorem Gd.open {α : Type} {mk : TNode → List α → α} : ∀ {bs : List (List TNode)}, (∀ b ∈ bs, Gd b) → ∃ vs : List α, (∀ st, fol mk bs.flatten st = st ++ vs) ∧ bs.map (fun b => fol mk b []) = vs.map (fun v => [v])
  | [], _ => ⟨[], fun st => by simp [fol], rfl⟩
  | b :: bs, h => by
    obtain ⟨v, hv⟩ := (h b List.mem_cons_self).lay α mk
    obtain ⟨vs, h2, h3⟩ := Gd.open (mk := mk) (bs := bs) fun b hb => h b (List.mem_cons_of_mem _ hb)
    refine ⟨v :: vs, fun st => ?_, ?_⟩
    · rw [List.flatten_cons, fol_append, hv, h2]; simp
    · rw [List.map_cons, List.map_cons, h3, hv]; rfl
theorem Gd.oks : ∀ {bs : List (List TNode)}, (∀ b ∈ bs, Gd b) → ∀ (t : Nat) (l : List TNode), Ok l (t + bs.length) → Ok (bs.flatten ++ l) t
  | [], _, t, l, h => by simpa using h
  | b :: bs, h, t, l, hl => by
    rw [List.flatten_cons, List.append_assoc]
    refine (h b List.mem_cons_self).ok t _ (Gd.oks (fun b hb => h b (List.mem_cons_of_mem _ hb)) (t + 1) l ?_)
    rw [List.length_cons] at hl
    rw [show t + 1 + bs.length = t + (bs.length + 1) by omega]; exact hl
theorem Gd.lenV {α : Type} {bs : List (List TNode)} {mk : TNode → List α → α} {vs : List α} (h : bs.map (fun b => fol mk b []) = vs.map (fun v => [v])) : vs.length = bs.length := by
  have := congrArg List.length h
  simpa using this.symm
/-- A node over rows. -/
theorem Gd.node {bs : List (List TNode)} {n : TNode} (h : ∀ b ∈ bs, Gd b) (hn : bs.length = ar n) (hm : mayB n = true) : Gd (bs.flatten ++ [n]) := by
  refine ⟨by simp, fun α mk => ?_, fun t l hl => ?_⟩
  · obtain ⟨vs, h2, h3⟩ := Gd.open (mk := mk) h
    have h1 := Gd.lenV h3
    refine ⟨mk n vs, fun st => ?_⟩
    rw [fol_append, h2]
    simp only [fol, List.length_append, h1, hn]
    rw [show st.length + ar n - ar n = st.length by omega, List.take_left, List.drop_left]
  · rw [List.append_assoc]
    refine Gd.oks h t _ ⟨hm, by omega, ?_⟩
    rw [show t + bs.length - ar n + 1 = t + 1 by omega]; exact hl
def rowm (n : TNode) (bs : List (List TNode)) : List TNode := bs.flatten ++ [n]
/-- What lies on the pile behind the first part of a row. -/
theorem piles : ∀ (a b : List TNode) (S : List (List TNode)), (∀ b ∈ S, Gd b) → Ok (a ++ b) S.length → (∀ x ∈ fol rowm a S, Gd x) ∧ (fol rowm a S).flatten = S.flatten ++ a ∧ Ok b (fol rowm a S).length
  | [], b, S, hS, h => ⟨hS, by simp [fol], h⟩
  | n :: a, b, S, hS, h => by
    simp only [List.cons_append] at h
    unfold Ok at h
    obtain ⟨hm, h2, h3⟩ := h
    have hG : Gd (rowm n (S.drop (S.length - ar n))) := Gd.node (fun b hb => hS b (List.mem_of_mem_drop hb)) (by rw [List.length_drop]; omega) hm
    obtain ⟨h4, h5, h6⟩ := piles a b (S.take (S.length - ar n) ++ [rowm n (S.drop (S.length - ar n))]) (fun b hb => by
      rcases List.mem_append.1 hb with hb | hb
      · exact hS b (List.mem_of_mem_take hb)
      · simp only [List.mem_singleton] at hb; rw [hb]; exact hG) (by simp only [List.length_append, List.length_take, List.length_cons, List.length_nil]; rw [show min (S.length - ar n) S.length + (0 + 1) = S.length - ar n + 1 by omega]; exact h3)
    refine ⟨h4, ?_, h6⟩
    simp only [fol]
    rw [h5]
    simp only [rowm, List.flatten_append, List.flatten_cons, List.flatten_nil, List.append_nil, List.append_assoc]
    rw [← List.append_assoc, ← List.flatten_append, List.take_append_drop]
    simp
/-- A tree: its parts, its root. -/
theorem tree_parts {r : List TNode} (h : Ok r 0) : ∃ (bs : List (List TNode)) (n : TNode), r = bs.flatten ++ [n] ∧ (∀ b ∈ bs, Gd b) ∧ bs.length = ar n ∧ mayB n = true := by
  have hne : r ≠ [] := by rintro rfl; cases h
  obtain ⟨a, n, rfl⟩ : ∃ a n, r = a ++ [n] := ⟨r.dropLast, r.getLast hne, (List.dropLast_concat_getLast hne).symm⟩
  obtain ⟨h1, h2, h3⟩ := piles a [n] [] (fun b hb => by cases hb) h
  unfold Ok at h3
  obtain ⟨hm, h4, h5⟩ := h3
  unfold Ok at h5
  exact ⟨_, n, by rw [h2]; rfl, h1, by omega, hm⟩
theorem tree_gd {r : List TNode} (h : Ok r 0) : Gd r := by
  obtain ⟨bs, n, rfl, h1, h2, h3⟩ := tree_parts h
  exact Gd.node h1 h2 h3
theorem ok_all : ∀ {l : List TNode} {t : Nat}, Ok l t → ∀ e ∈ l, mayB e = true
  | [], _, _, e, h => by cases h
  | x :: l, t, h, e, he => by
    unfold Ok at h
    rcases List.mem_cons.1 he with rfl | he
    · exact h.1
    · exact ok_all h.2.2 e he
end Go.Sx
namespace Go.Sx

def mostI (l : List Int) : Int := l.foldl max 0
def dmk (_ : TNode) (l : List Int) : Int := mostI l + 1
theorem mostI_bd {l : List Int} {b : Int} (hb : 0 ≤ b) (h : ∀ v ∈ l, v ≤ b) : 0 ≤ mostI l ∧ mostI l ≤ b := by
  have key : ∀ (l : List Int) (a : Int), 0 ≤ a → a ≤ b → (∀ v ∈ l, v ≤ b) → 0 ≤ l.foldl max a ∧ l.foldl max a ≤ b := by
    intro l
    induction l with
    | nil => intro a h0 h1 _; exact ⟨h0, h1⟩
    | cons x l ih =>
      intro a h0 h1 hl
      exact ih (max a x) (by omega) (by have := hl x List.mem_cons_self; omega) fun v hv => hl v (List.mem_cons_of_mem _ hv)
  exact key l 0 (Int.le_refl _) hb h
theorem mostI_take {l : List Int} {i : Nat} {e : Int} (h : l[i]? = some e) : mostI (l.take (i + 1)) = max (mostI (l.take i)) e := by
  rw [take_succ_get h]; unfold mostI; rw [List.foldl_append]; rfl
theorem mx_eq (a b : Int) : mx a b = max a b := by unfold mx; (try split) <;> omega

theorem dep_loop {l : List Int} (hl : l.length ≤ 1000000) : ∀ (k i m : Nat), l.length - i = k → i ≤ l.length → k < m → rx_Depth_1_L0 100 l m (mostI (l.take i), (i : Int)) = some (.ex (mostI l)) := by
  intro k
  induction k with
  | zero =>
    intro i m hk hi hm
    obtain ⟨m, rfl⟩ : ∃ m', m = m' + 1 := ⟨m - 1, by omega⟩
    unfold rx_Depth_1_L0
    have hc : ¬ ((i : Int) < (l.length : Int)) := by omega
    simp only [hc, decide_false, if_false, Bool.false_eq_true]
    rw [List.take_of_length_le (by omega)]
  | succ k ih =>
    intro i m hk hi hm
    obtain ⟨m, rfl⟩ : ∃ m', m = m' + 1 := ⟨m - 1, by omega⟩
    obtain ⟨e, he⟩ := get_at (l := l) (i := i) (by omega)
    have hc : (i : Int) < (l.length : Int) := by omega
    unfold rx_Depth_1_L0
    simp only [hc, decide_true, if_true, ixd_nat he, mx_eq]
    rw [← mostI_take he, w1 (by omega)]
    exact ih (i + 1) m (by omega) (by omega) (by omega)
theorem dep1 {l : List Int} (e : TNode) (hl : l.length ≤ 90) (hb : ∀ v ∈ l, v ≤ 1000) : rx_Depth_1 100 e l = some (dmk e l) := by
  unfold rx_Depth_1
  have h := dep_loop (l := l) (by omega) l.length 0 100 (by omega) (by omega) (by omega)
  have h' : rx_Depth_1_L0 100 l 100 (0, 0) = _ := h
  rw [h']
  have := mostI_bd (b := 1000) (by omega) hb
  simp only [Option.bind_some, Lo.k, dmk]
  rw [wIn (by omega) (by omega)]

theorem sld_hi {α A : Type} {xs : List α} {k : Nat} {F : List α → Option A} (h : k ≤ xs.length) : sld xs ((xs.length - k : Nat) : Int) (xs.length : Int) F = F (xs.drop (xs.length - k)) := by
  unfold sld
  rw [if_pos (by omega)]
  simp only [Int.toNat_natCast, List.take_length]
theorem sld_lo {α A : Type} {xs : List α} {k : Nat} {F : List α → Option A} (h : k ≤ xs.length) : sld xs 0 (k : Int) F = F (xs.take k) := by
  unfold sld
  rw [if_pos (by omega)]
  simp
theorem wSub {a b : Nat} (h : b ≤ a) (ha : a ≤ 3000000) : w ((a : Int) - (b : Int)) = ((a - b : Nat) : Int) := by rw [wIn (by omega) (by omega)]; omega

theorem fold_loop {r : List TNode} (hw : rwf r) (hl : r.length ≤ 90) : ∀ (k i m : Nat) (st : List Int), r.length - i = k → i ≤ r.length → k < m → st.length ≤ i → (∀ v ∈ st, v ≤ (i : Int)) → Ok (r.drop i) st.length →
    rx_folded_int__1_L0 100 r m (st, (i : Int)) = some (.ex (fol dmk (r.drop i) st)) ∧ ∀ v ∈ fol dmk (r.drop i) st, v ≤ (r.length : Int) := by
  intro k
  induction k with
  | zero =>
    intro i m st hk hi hm hsl hst hok
    obtain ⟨m, rfl⟩ : ∃ m', m = m' + 1 := ⟨m - 1, by omega⟩
    unfold rx_folded_int__1_L0
    have hc : ¬ ((i : Int) < (r.length : Int)) := by omega
    simp only [hc, decide_false, if_false, Bool.false_eq_true]
    rw [List.drop_of_length_le (by omega)]
    exact ⟨rfl, fun v hv => by have := hst v hv; omega⟩
  | succ k ih =>
    intro i m st hk hi hm hsl hst hok
    obtain ⟨m, rfl⟩ : ∃ m', m = m' + 1 := ⟨m - 1, by omega⟩
    obtain ⟨e, he⟩ := get_at (l := r) (i := i) (by omega)
    obtain ⟨hkn, _⟩ := known_of (hw e (List.mem_of_getElem? he))
    have hc : (i : Int) < (r.length : Int) := by omega
    rw [drop_get he] at hok ⊢
    unfold Ok at hok
    obtain ⟨hm1, ha, hok⟩ := hok
    have hdv : ∀ v ∈ st.drop (st.length - ar e), v ≤ (i : Int) := fun v hv => hst v (List.mem_of_mem_drop hv)
    have hd1 := dep1 (l := st.drop (st.length - ar e)) e (by rw [List.length_drop]; omega) (fun v hv => by have := hdv v hv; omega)
    have hlen : (st.take (st.length - ar e) ++ [dmk e (st.drop (st.length - ar e))]).length = st.length - ar e + 1 := by simp only [List.length_append, List.length_take, List.length_cons, List.length_nil]; omega
    have hstep : rx_folded_int__1_L0 100 r (m + 1) (st, (i : Int)) = rx_folded_int__1_L0 100 r m (st.take (st.length - ar e) ++ [dmk e (st.drop (st.length - ar e))], ((i + 1 : Nat) : Int)) := by
      conv => lhs; unfold rx_folded_int__1_L0
      simp only [hc, decide_true, if_true, ixd_nat he, hkn, Option.bind_some]
      rw [wSub ha (by omega), sld_hi ha, hd1]
      simp only [Option.bind_some]
      rw [sld_lo (by omega)]
      unfold apd
      rw [if_pos (by omega), w1 (by omega)]
    rw [hstep]
    simp only [fol]
    refine ih (i + 1) m _ (by omega) (by omega) (by omega) (by rw [hlen]; omega) (fun v hv => ?_) (by rw [hlen]; exact hok)
    rcases List.mem_append.1 hv with hv | hv
    · have := hst v (List.mem_of_mem_take hv); omega
    · simp only [List.mem_singleton] at hv
      have := mostI_bd (b := (i : Int)) (by omega) hdv
      rw [hv, dmk]; omega

theorem depth_of {r : List TNode} (hw : rwf r) (hl : r.length ≤ 90) (h : Ok r 0) : ∃ v, fol dmk r [] = [v] ∧ rx_Depth 100 r = some (v, 0) ∧ v ≤ (r.length : Int) := by
  obtain ⟨v, hv⟩ := (tree_gd h).lay Int dmk
  have hv' : fol dmk r [] = [v] := hv []
  obtain ⟨h1, h2⟩ := fold_loop hw hl r.length 0 100 [] (by omega) (by omega) (by omega) (by simp) (by simp) h
  rw [List.drop_zero, hv'] at h1 h2
  have h1' : rx_folded_int__1_L0 100 r 100 ([], 0) = _ := h1
  refine ⟨v, hv', ?_, h2 v (by simp)⟩
  unfold rx_Depth rx_folded_int rx_tries_int rx_folded_int__1
  rw [of_ok hw hl h]
  simp only [Option.bind_some, Ex.k, h1', Lo.k]
  rfl
theorem rwf.part {a b : List TNode} (h : rwf b) (hs : ∀ e ∈ a, e ∈ b) : rwf a := fun e he => h e (hs e he)
end Go.Sx
namespace Go.Sx

theorem w01 : w (0 + 1) = 1 := by rw [wIn (by omega) (by omega)]; rfl
theorem w11 : w (1 + 1) = 2 := by rw [wIn (by omega) (by omega)]; rfl
theorem idx2 (n m : Nat) (k a : Int) : slices_Index_sint_int_L0 n [k, k] a (m + 3) 0 = if a = k then some (.rt 0) else some (.ex ()) := by
  by_cases h : a = k
  · subst h; simp [slices_Index_sint_int_L0, ixd]
  · have hw' : w 1 = 1 := wIn (by omega) (by omega)
    have hw2 : w 2 = 2 := wIn (by omega) (by omega)
    simp [slices_Index_sint_int_L0, ixd, h, hw', hw2]
theorem idx1 (n m : Nat) (k a : Int) : slices_Index_sint_int_L0 n [k] a (m + 2) 0 = if a = k then some (.rt 0) else some (.ex ()) := by
  by_cases h : a = k
  · subst h; simp [slices_Index_sint_int_L0, ixd]
  · have hw' : w 1 = 1 := wIn (by omega) (by omega)
    simp [slices_Index_sint_int_L0, ixd, h, hw']
theorem cont2 (k a : Int) : slices_Contains_sint_int 100 [k, k] a = some (a == k) := by
  unfold slices_Contains_sint_int slices_Index_sint_int
  rw [show slices_Index_sint_int_L0 100 [k, k] a 100 0 = _ from idx2 100 97 k a]
  by_cases h : a = k <;> simp [h, Lo.k]
theorem cont1 (k a : Int) : slices_Contains_sint_int 100 [k] a = some (a == k) := by
  unfold slices_Contains_sint_int slices_Index_sint_int
  rw [show slices_Index_sint_int_L0 100 [k] a 100 0 = _ from idx1 100 98 k a]
  by_cases h : a = k <;> simp [h, Lo.k]

theorem count_loop {r : List TNode} {ks : List Int} {p : TNode → Bool} (hp : (ks = [] ∧ ∀ e, p e = true) ∨ (ks ≠ [] ∧ ∀ e : TNode, slices_Contains_sint_int 100 ks e.Kind = some (p e))) (hl : r.length ≤ 90) : ∀ (k i m c : Nat), r.length - i = k → i ≤ r.length → k < m → c ≤ i →
    rx_Count_1_L0 100 ks r m ((c : Int), (i : Int)) = some (.ex ((c + (r.drop i).countP p : Nat) : Int)) := by
  intro k
  induction k with
  | zero =>
    intro i m c hk hi hm hc0
    obtain ⟨m, rfl⟩ : ∃ m', m = m' + 1 := ⟨m - 1, by omega⟩
    unfold rx_Count_1_L0
    have hc : ¬ ((i : Int) < (r.length : Int)) := by omega
    simp only [hc, decide_false, if_false, Bool.false_eq_true]
    rw [List.drop_of_length_le (by omega)]; rfl
  | succ k ih =>
    intro i m c hk hi hm hc0
    obtain ⟨m, rfl⟩ : ∃ m', m = m' + 1 := ⟨m - 1, by omega⟩
    obtain ⟨e, he⟩ := get_at (l := r) (i := i) (by omega)
    have hc : (i : Int) < (r.length : Int) := by omega
    unfold rx_Count_1_L0
    simp only [hc, decide_true, if_true, ixd_nat he]
    rw [drop_get he, List.countP_cons, w1 (i := i) (by omega), w1 (i := c) (by omega)]
    rcases hp with ⟨rfl, hp⟩ | ⟨hne, hp⟩
    · simp only [List.length_nil, hp e, if_true]
      rw [if_pos (by rfl), ih (i + 1) m (c + 1) (by omega) (by omega) (by omega) (by omega)]
      congr 3; omega
    · rw [if_neg (by cases ks with | nil => exact absurd rfl hne | cons a l => simp only [List.length_cons, beq_iff_eq]; omega), hp e]
      simp only [Option.bind_some]
      cases hpe : p e with
      | true =>
        simp only [if_true]
        rw [ih (i + 1) m (c + 1) (by omega) (by omega) (by omega) (by omega)]
        congr 3; omega
      | false =>
        simp only [Bool.false_eq_true, if_false]
        rw [ih (i + 1) m c (by omega) (by omega) (by omega) (by omega)]
        congr 3
theorem count_of {r : List TNode} {ks : List Int} {p : TNode → Bool} (hw : rwf r) (hl : r.length ≤ 90) (h : Ok r 0) (hp : (ks = [] ∧ ∀ e, p e = true) ∨ (ks ≠ [] ∧ ∀ e : TNode, slices_Contains_sint_int 100 ks e.Kind = some (p e))) : rx_Count 100 r ks = some (((r.countP p : Nat) : Int), 0) := by
  have h1 := count_loop hp hl r.length 0 100 0 (by omega) (by omega) (by omega) (by omega)
  have h1' : rx_Count_1_L0 100 ks r 100 (0, 0) = _ := h1
  unfold rx_Count rx_tries_int_v1 rx_Count_1
  rw [of_ok hw hl h]
  simp only [Option.bind_some, Ex.k, h1', Lo.k, List.drop_zero, Nat.zero_add]

theorem eqk_iff {x y : Ar4_dI_u64} : eqk_24 x y = true ↔ x = y := by
  cases x; cases y; simp [eqk_24]
instance : DecidableEq Ar4_dI_u64 := fun x y => if h : eqk_24 x y = true then isTrue (eqk_iff.1 h) else isFalse (fun e => h (eqk_iff.2 e))
theorem mget_cons {κ V : Type} {eq : κ → κ → Bool} {p : κ × V} {es : List (κ × V)} {x : κ} : mget eq (p :: es) x = if eq x p.1 = true then some p.2 else mget eq es x := by
  unfold mget; rw [List.find?_cons]
  by_cases h : eq x p.1 = true <;> simp [h]
theorem get_put (s : Ar4_dI_u64) (v : Int) (s' : Ar4_dI_u64) : ∀ l : List (Ar4_dI_u64 × Int), (mget eqk_24 (mput eqk_24 s v l) s').getD 0 = if s' = s then v else (mget eqk_24 l s').getD 0
  | [] => by
    unfold mput; rw [mget_cons]
    by_cases h : s' = s
    · rw [if_pos (eqk_iff.2 h), if_pos h]; rfl
    · rw [if_neg (fun h' => h (eqk_iff.1 h')), if_neg h]
  | p :: l => by
    unfold mput
    by_cases hs : s = p.1
    · rw [if_pos (eqk_iff.2 hs), mget_cons, mget_cons]
      by_cases h : s' = s
      · rw [if_pos (eqk_iff.2 (h.trans hs)), if_pos h]; rfl
      · have h2 : ¬ eqk_24 s' p.1 = true := fun h' => h ((eqk_iff.1 h').trans hs.symm)
        simp only [h2, h, if_false, Bool.false_eq_true]
    · rw [if_neg (fun h' => hs (eqk_iff.1 h')), mget_cons, mget_cons]
      by_cases h2 : s' = p.1
      · have h : ¬ s' = s := fun h => hs (h.symm.trans h2)
        rw [if_pos (eqk_iff.2 h2), if_pos (eqk_iff.2 h2), if_neg h]
      · have h3 : ¬ eqk_24 s' p.1 = true := fun h' => h2 (eqk_iff.1 h')
        rw [if_neg h3, if_neg h3]
        exact get_put s v s' l
theorem get_tch (s s' : Ar4_dI_u64) (l : List (Ar4_dI_u64 × Int)) : (mget eqk_24 (mtch eqk_24 s 0 l) s').getD 0 = (mget eqk_24 l s').getD 0 := by
  unfold mtch
  split
  · rfl
  · rename_i hn
    have hn' : mget eqk_24 l s = none := by simpa using hn
    have key : ∀ l : List (Ar4_dI_u64 × Int), (mget eqk_24 (l ++ [(s, 0)]) s').getD 0 = (mget eqk_24 l s').getD 0 := by
      intro l
      induction l with
      | nil =>
        simp only [List.nil_append]
        rw [mget_cons]
        split <;> rfl
      | cons p l ih =>
        simp only [List.cons_append]
        rw [mget_cons, mget_cons]
        split
        · rfl
        · exact ih
    exact key l

def k3 (e : TNode) : Bool := e.Kind == 3
/-- What is known of the sets that were told. -/
structure SInv (r : List TNode) (i : Nat) (met : List (Ar4_dI_u64 × Int)) (out : List Ar4_dI_u64) : Prop where
  mem : ∀ s, s ∈ out ↔ 1 ≤ (mget eqk_24 met s).getD 0
  bd : ∀ s, 0 ≤ (mget eqk_24 met s).getD 0 ∧ (mget eqk_24 met s).getD 0 ≤ (i : Int)
  nd : out.Nodup
  ok : ∀ s ∈ out, swf s ∧ s ≠ s0
  le : out.length ≤ (r.take i).countP k3
  z : out = [] ↔ (r.take i).countP k3 = 0
theorem sets_loop {r : List TNode} (hw : rwf r) (hl : r.length ≤ 90) (hm0 : ∀ e ∈ r, mayB e = true) : ∀ (k i m : Nat) (met : List (Ar4_dI_u64 × Int)) (out : List Ar4_dI_u64), r.length - i = k → i ≤ r.length → k < m → SInv r i met out →
    ∃ out' met', rx_Sets_1_L0 100 r m (met, out, (i : Int)) = some (.ex out') ∧ SInv r r.length met' out' := by
  intro k
  induction k with
  | zero =>
    intro i m met out hk hi hm hI
    obtain ⟨m, rfl⟩ : ∃ m', m = m' + 1 := ⟨m - 1, by omega⟩
    refine ⟨out, met, ?_, by have : i = r.length := by omega
                             rw [this] at hI; exact hI⟩
    unfold rx_Sets_1_L0
    have hc : ¬ ((i : Int) < (r.length : Int)) := by omega
    simp only [hc, decide_false, if_false, Bool.false_eq_true]
  | succ k ih =>
    intro i m met out hk hi hm hI
    obtain ⟨m, rfl⟩ : ∃ m', m = m' + 1 := ⟨m - 1, by omega⟩
    obtain ⟨e, he⟩ := get_at (l := r) (i := i) (by omega)
    have hc : (i : Int) < (r.length : Int) := by omega
    have hem := List.mem_of_getElem? he
    have hcnt : (r.take (i + 1)).countP k3 = (r.take i).countP k3 + (if k3 e = true then 1 else 0) := by
      rw [take_succ_get he, List.countP_append, List.countP_cons, List.countP_nil]; omega
    unfold rx_Sets_1_L0
    simp only [hc, decide_true, if_true, ixd_nat he]
    rw [w1 (i := i) (by omega)]
    by_cases h3 : e.Kind = 3
    · have hk3 : k3 e = true := by simp [k3, h3]
      rw [if_pos hk3] at hcnt
      rw [if_neg (by simp [h3])]
      simp only [bd1]
      have hb := hI.bd e.Set
      rw [get_put, if_pos rfl]
      have hv : w ((mget eqk_24 met e.Set).getD 0 + 1) = (mget eqk_24 met e.Set).getD 0 + 1 := wIn (by omega) (by omega)
      rw [hv]
      have hnew : ∀ s', (mget eqk_24 (mput eqk_24 e.Set ((mget eqk_24 met e.Set).getD 0 + 1) (mtch eqk_24 e.Set 0 met)) s').getD 0 = if s' = e.Set then (mget eqk_24 met e.Set).getD 0 + 1 else (mget eqk_24 met s').getD 0 := fun s' => by rw [get_put, get_tch]
      have hbd : ∀ s', 0 ≤ (mget eqk_24 (mput eqk_24 e.Set ((mget eqk_24 met e.Set).getD 0 + 1) (mtch eqk_24 e.Set 0 met)) s').getD 0 ∧ (mget eqk_24 (mput eqk_24 e.Set ((mget eqk_24 met e.Set).getD 0 + 1) (mtch eqk_24 e.Set 0 met)) s').getD 0 ≤ ((i + 1 : Nat) : Int) := fun s' => by
        rw [hnew]
        have := hI.bd s'
        split <;> omega
      by_cases hin : e.Set ∈ out
      · have h1 := (hI.mem e.Set).1 hin
        rw [if_neg (by simp only [beq_iff_eq]; omega)]
        refine ih (i + 1) m _ out (by omega) (by omega) (by omega) ⟨fun s => ?_, hbd, hI.nd, hI.ok, by have := hI.le; omega, ?_⟩
        · rw [hnew, hI.mem]
          split
          · rename_i hs; subst hs; omega
          · rfl
        · rw [hcnt]
          exact ⟨(fun h => by rw [h] at hin; cases hin), (fun h => by omega)⟩
      · have h1 : ¬ 1 ≤ (mget eqk_24 met e.Set).getD 0 := fun h => hin ((hI.mem e.Set).2 h)
        rw [if_pos (by simp only [beq_iff_eq]; omega)]
        have hle := hI.le
        have hcl : (r.take i).countP k3 ≤ i := Nat.le_trans List.countP_le_length (by rw [List.length_take]; omega)
        unfold apd
        rw [if_pos (by simp only [List.length_append, List.length_cons, List.length_nil]; omega)]
        refine ih (i + 1) m _ (out ++ [e.Set]) (by omega) (by omega) (by omega) ⟨fun s => ?_, hbd, ?_, ?_, (by rw [hcnt]; simp only [List.length_append, List.length_cons, List.length_nil]; omega), ?_⟩
        · rw [hnew, List.mem_append, hI.mem, List.mem_singleton]
          split
          · rename_i hs; subst hs; exact ⟨fun _ => by omega, fun _ => .inr rfl⟩
          · rename_i hs; simp [hs]
        · rw [List.nodup_append]
          exact ⟨hI.nd, by simp, fun a ha b hb => by simp only [List.mem_singleton] at hb; subst hb; rintro rfl; exact hin ha⟩
        · intro s hs
          rcases List.mem_append.1 hs with hs | hs
          · exact hI.ok s hs
          · simp only [List.mem_singleton] at hs
            subst hs
            exact ⟨hw e hem, ((known_of (hw e hem)).2 (hm0 e hem)).2.2 h3⟩
        · rw [hcnt]
          exact ⟨(fun h => by simp at h), (fun h => by omega)⟩
    · have hk3 : k3 e = false := by simp [k3, h3]
      rw [if_neg (by simp [hk3])] at hcnt
      rw [if_pos (by simp [h3])]
      exact ih (i + 1) m met out (by omega) (by omega) (by omega) ⟨hI.mem, fun s => by have := hI.bd s; omega, hI.nd, hI.ok, by rw [hcnt]; exact hI.le, by rw [hcnt]; exact hI.z⟩
theorem sets_of {r : List TNode} (hw : rwf r) (hl : r.length ≤ 90) (h : Ok r 0) : ∃ out, rx_Sets 100 r = some (out, 0) ∧ out.Nodup ∧ (∀ s ∈ out, swf s ∧ s ≠ s0) ∧ out.length ≤ r.countP k3 ∧ (out = [] ↔ r.countP k3 = 0) := by
  obtain ⟨out, met, h1, hI⟩ := sets_loop hw hl (ok_all h) r.length 0 100 [] [] (by omega) (by omega) (by omega) ⟨(fun s => by simp [mget]), (fun s => by simp [mget]), List.nodup_nil, (fun s hs => by cases hs), (by simp), (by simp)⟩
  have h1' : rx_Sets_1_L0 100 r 100 ([], [], 0) = _ := h1
  have hle := hI.le
  have hz := hI.z
  rw [List.take_length] at hle hz
  refine ⟨out, ?_, hI.nd, hI.ok, hle, hz⟩
  unfold rx_Sets rx_tries_sSet rx_Sets_1
  rw [of_ok hw hl h]
  simp only [Option.bind_some, Ex.k, h1', Lo.k]
theorem sets_no {r : List TNode} (hw : rwf r) (hl : r.length ≤ 90) (h : ¬ Ok r 0) : rx_Sets 100 r = some ([], 140) := by
  unfold rx_Sets rx_tries_sSet rx_Sets_1
  rw [of_no hw hl h]
  rfl
end Go.Sx
namespace Go.Sx

/-- Where rows behind one another begin. -/
def offs : Nat → List (List TNode) → List Int
  | _, [] => []
  | o, b :: bs => (o : Int) :: offs (o + b.length) bs
theorem offs_len : ∀ (o : Nat) (S : List (List TNode)), (offs o S).length = S.length
  | _, [] => rfl
  | o, b :: bs => by simp only [offs, List.length_cons, offs_len]
theorem offs_app : ∀ (o : Nat) (S : List (List TNode)) (k : Nat) (x : List TNode), k ≤ S.length → offs o (S.take k ++ [x]) = (offs o S).take k ++ [((o + (S.take k).flatten.length : Nat) : Int)]
  | o, S, 0, x, _ => by simp [offs]
  | o, b :: bs, k + 1, x, h => by
    simp only [List.take_succ_cons, List.cons_append, offs, List.flatten_cons, List.length_append]
    rw [offs_app (o + b.length) bs k x (by simpa using h)]
    rw [show o + b.length + (bs.take k).flatten.length = o + (b.length + (bs.take k).flatten.length) by omega]
  | o, [], k + 1, x, h => by simp at h
theorem offs_get : ∀ (o : Nat) (S : List (List TNode)) (k : Nat), k < S.length → (offs o S)[k]? = some ((o + (S.take k).flatten.length : Nat) : Int)
  | o, b :: bs, 0, _ => by simp [offs]
  | o, b :: bs, k + 1, h => by
    simp only [offs, List.getElem?_cons_succ, List.take_succ_cons, List.flatten_cons, List.length_append]
    rw [offs_get (o + b.length) bs k (by simpa using h)]
    rw [show o + b.length + (bs.take k).flatten.length = o + (b.length + (bs.take k).flatten.length) by omega]
  | o, [], k, h => by simp at h

def stk (r : List TNode) (i : Nat) : List (List TNode) := fol rowm (r.take i) []
theorem stk_succ {r : List TNode} {i : Nat} {e : TNode} (he : r[i]? = some e) : stk r (i + 1) = (stk r i).take ((stk r i).length - ar e) ++ [rowm e ((stk r i).drop ((stk r i).length - ar e))] := by
  unfold stk; rw [take_succ_get he, fol_append]; rfl
theorem stk_of {r : List TNode} (h : Ok r 0) (i : Nat) : (∀ b ∈ stk r i, Gd b) ∧ (stk r i).flatten = r.take i ∧ Ok (r.drop i) (stk r i).length := by
  have := piles (r.take i) (r.drop i) [] (fun b hb => by cases hb) (by rw [List.take_append_drop]; exact h)
  refine ⟨this.1, ?_, this.2.2⟩
  have h2 := this.2.1
  rw [List.flatten_nil, List.nil_append] at h2
  exact h2
/-- Where the tree begins whose root stands at i. -/
def beg (r : List TNode) (i : Nat) (e : TNode) : Nat := ((stk r i).take ((stk r i).length - ar e)).flatten.length

theorem nodes_loop {r : List TNode} (hw : rwf r) (hl : r.length ≤ 90) (h : Ok r 0) {at_ : Nat} {e0 : TNode} (he0 : r[at_]? = some e0) : ∀ (k i m : Nat), at_ - i = k → i ≤ at_ → k < m →
    rx_tree_nodes_1_L0 100 ⟨r⟩ (yOf (rx_tree_begin_R0 100 (at_ : Int))) m (offs 0 (stk r i), (i : Int), .go 0) = some (.ex (.rt ((beg r at_ e0 : Nat) : Int))) := by
  have hat := lt_get he0
  intro k
  induction k with
  | zero =>
    intro i m hk hi hm
    have hia : i = at_ := by omega
    subst hia
    obtain ⟨m, rfl⟩ : ∃ m', m = m' + 1 := ⟨m - 1, by omega⟩
    obtain ⟨hkn, _⟩ := known_of (hw e0 (List.mem_of_getElem? he0))
    obtain ⟨hS1, hS2, hS3⟩ := stk_of h i
    rw [drop_get he0] at hS3
    unfold Ok at hS3
    obtain ⟨hm1, ha, _⟩ := hS3
    have hSl : (stk r i).length ≤ i := by
      have hf := congrArg List.length hS2
      have hle : ∀ S : List (List TNode), (∀ b ∈ S, Gd b) → S.length ≤ S.flatten.length := by
        intro S
        induction S with
        | nil => intro _; simp
        | cons b S ih =>
          intro hS
          have h1 := (hS b List.mem_cons_self).pos
          have h2 : 0 < b.length := List.length_pos_iff.2 h1
          have := ih fun b hb => hS b (List.mem_cons_of_mem _ hb)
          simp only [List.length_cons, List.flatten_cons, List.length_append]; omega
      have := hle _ hS1
      rw [hf, List.length_take] at this; omega
    have hc : (i : Int) < (r.length : Int) := by omega
    have hlen := offs_len 0 (stk r i)
    unfold rx_tree_nodes_1_L0
    simp only [hc, decide_true, if_true, ixd_nat he0, hkn, Option.bind_some]
    rw [hlen, wSub ha (by omega)]
    by_cases h0 : ar e0 = 0
    · rw [if_neg (by simp [h0]), h0, Nat.sub_zero]
      rw [sld_lo (by rw [hlen]; exact Nat.le_refl _)]
      unfold apd
      rw [if_pos (by simp only [List.length_append, List.length_take, hlen, List.length_cons, List.length_nil]; omega)]
      have hbg : beg r i e0 = i := by
        unfold beg
        rw [h0, Nat.sub_zero, List.take_length, hS2, List.length_take]; omega
      simp [yOf, rx_tree_begin_R0, Rd.jump, yk, hbg]
    · rw [if_pos (by simp; omega), ixd_nat (offs_get 0 (stk r i) ((stk r i).length - ar e0) (by omega)), Nat.zero_add]
      rw [sld_lo (by rw [hlen]; omega)]
      unfold apd
      rw [if_pos (by simp only [List.length_append, List.length_take, hlen, List.length_cons, List.length_nil]; omega)]
      simp [yOf, rx_tree_begin_R0, Rd.jump, yk, beg]
  | succ k ih =>
    intro i m hk hi hm
    obtain ⟨m, rfl⟩ : ∃ m', m = m' + 1 := ⟨m - 1, by omega⟩
    obtain ⟨e, he⟩ := get_at (l := r) (i := i) (by omega)
    obtain ⟨hkn, _⟩ := known_of (hw e (List.mem_of_getElem? he))
    obtain ⟨hS1, hS2, hS3⟩ := stk_of h i
    rw [drop_get he] at hS3
    unfold Ok at hS3
    obtain ⟨hm1, ha, _⟩ := hS3
    have hSl : (stk r i).length ≤ i := by
      have hf := congrArg List.length hS2
      have hle : ∀ S : List (List TNode), (∀ b ∈ S, Gd b) → S.length ≤ S.flatten.length := by
        intro S
        induction S with
        | nil => intro _; simp
        | cons b S ih =>
          intro hS
          have h1 := (hS b List.mem_cons_self).pos
          have h2 : 0 < b.length := List.length_pos_iff.2 h1
          have := ih fun b hb => hS b (List.mem_cons_of_mem _ hb)
          simp only [List.length_cons, List.flatten_cons, List.length_append]; omega
      have := hle _ hS1
      rw [hf, List.length_take] at this; omega
    have hc : (i : Int) < (r.length : Int) := by omega
    have hlen := offs_len 0 (stk r i)
    have hnext := ih (i + 1) m (by omega) (by omega) (by omega)
    rw [stk_succ he, offs_app 0 _ _ _ (by omega), Nat.zero_add] at hnext
    have hne : ¬ ((i : Int) = (at_ : Int)) := by omega
    unfold rx_tree_nodes_1_L0
    simp only [hc, decide_true, if_true, ixd_nat he, hkn, Option.bind_some]
    rw [hlen, wSub ha (by omega), w1 (by omega)]
    by_cases h0 : ar e = 0
    · rw [if_neg (by simp [h0]), h0, Nat.sub_zero]
      rw [h0, Nat.sub_zero, List.take_length (l := stk r i), hS2, List.length_take, show min i r.length = i by omega] at hnext
      rw [sld_lo (by rw [hlen]; exact Nat.le_refl _)]
      unfold apd
      rw [if_pos (by simp only [List.length_append, List.length_take, hlen, List.length_cons, List.length_nil]; omega)]
      simp [yOf, rx_tree_begin_R0, Rd.jump, yk, hne]
      simpa [yOf] using hnext
    · rw [if_pos (by simp; omega), ixd_nat (offs_get 0 (stk r i) ((stk r i).length - ar e) (by omega)), Nat.zero_add]
      rw [sld_lo (by rw [hlen]; omega)]
      unfold apd
      rw [if_pos (by simp only [List.length_append, List.length_take, hlen, List.length_cons, List.length_nil]; omega)]
      simp [yOf, rx_tree_begin_R0, Rd.jump, yk, hne]
      simpa [yOf] using hnext
theorem begin_of {r : List TNode} (hw : rwf r) (hl : r.length ≤ 90) (h : Ok r 0) {i : Nat} {e : TNode} (he : r[i]? = some e) : rx_tree_begin 100 ⟨r⟩ (i : Int) = some ((beg r i e : Nat) : Int) := by
  have hat := lt_get he
  have h1 := nodes_loop hw hl h he i 0 100 (by omega) (by omega) (by omega)
  have h1' : rx_tree_nodes_1_L0 100 ⟨r⟩ (yOf (rx_tree_begin_R0 100 (i : Int))) 100 ([], 0, .go 0) = _ := h1
  unfold rx_tree_begin rx_tree_nodes rx_tree_nodes_1
  simp only [Option.bind_some, h1', Lo.k, Rd.k]
end Go.Sx
namespace Go.Sx

theorem cut_of {r : List TNode} {a b : Nat} (hl : r.length ≤ 90) (hab : a ≤ b) (hb : b ≤ r.length) : rx_tree_cut ⟨r⟩ (a : Int) (b : Int) = some ((r.take b).drop a) := by
  unfold rx_tree_cut
  rw [wSub hab (by omega)]
  unfold mkd sld cpf sl3
  have h1 : ((r.take b).drop a).length = b - a := by simp only [List.length_drop, List.length_take]; omega
  rw [if_pos (by omega)]
  dsimp only
  rw [if_pos (by omega)]
  simp only [Int.toNat_natCast]
  rw [if_pos (by simp only [List.length_replicate, h1]), if_pos (by rw [h1])]

/-- A tree lays itself on the pile of rows. -/
theorem Gd.self {b : List TNode} (h : Gd b) : ∀ st, fol rowm b st = st ++ [b] := by
  obtain ⟨v, hv⟩ := h.lay _ rowm
  have h2 := (piles b [] [] (fun b hb => by cases hb) (by rw [List.append_nil]; exact h.tree)).2.1
  rw [hv []] at h2
  simp at h2
  intro st
  rw [hv, h2]
theorem Gd.selfs : ∀ {bs : List (List TNode)}, (∀ b ∈ bs, Gd b) → ∀ st, fol rowm bs.flatten st = st ++ bs
  | [], _, st => by simp [fol]
  | b :: bs, h, st => by
    rw [List.flatten_cons, fol_append, (h b List.mem_cons_self).self, Gd.selfs fun b hb => h b (List.mem_cons_of_mem _ hb)]; simp

/-- Where a part begins. -/
theorem beg_part {pre : List (List TNode)} {p rest : List TNode} (hpre : ∀ b ∈ pre, Gd b) (hp : Gd p) :
    ∃ i e, i + 1 = pre.flatten.length + p.length ∧ (pre.flatten ++ p ++ rest)[i]? = some e ∧ beg (pre.flatten ++ p ++ rest) i e = pre.flatten.length := by
  obtain ⟨bs, n, rfl, hb, hbl, _⟩ := tree_parts hp.tree
  refine ⟨pre.flatten.length + bs.flatten.length, n, by simp; omega, ?_, ?_⟩
  · rw [List.append_assoc, List.getElem?_append_right (by omega), List.append_assoc, List.getElem?_append_right (by omega)]
    rw [show pre.flatten.length + bs.flatten.length - pre.flatten.length - bs.flatten.length = 0 by omega]
    rfl
  · have ht : (pre.flatten ++ (bs.flatten ++ [n]) ++ rest).take (pre.flatten.length + bs.flatten.length) = pre.flatten ++ bs.flatten := by
      rw [show pre.flatten ++ (bs.flatten ++ [n]) ++ rest = (pre.flatten ++ bs.flatten) ++ ([n] ++ rest) by simp, ← List.length_append, List.take_left]
    unfold beg stk
    rw [ht, fol_append, Gd.selfs hpre, Gd.selfs hb, List.nil_append, List.length_append, hbl]
    rw [show pre.length + ar n - ar n = pre.length by omega, List.take_left]

theorem rv0 : slices_Reverse_sRx_Rx 100 [] = some [] := by kernel_rfl
theorem rv1 (a : List TNode) : slices_Reverse_sRx_Rx 100 [a] = some [a] := by kernel_rfl
theorem rv2 (a b : List TNode) : slices_Reverse_sRx_Rx 100 [a, b] = some [b, a] := by kernel_rfl
theorem reverse_of (l : List (List TNode)) (h : l.length ≤ 2) : slices_Reverse_sRx_Rx 100 l = some l.reverse := by
  match l, h with
  | [], _ => exact rv0
  | [a], _ => exact rv1 a
  | [a, b], _ => exact rv2 a b

theorem parts_loop {r : List TNode} (hw : rwf r) (hl : r.length ≤ 90) (h : Ok r 0) {bs : List (List TNode)} {n : TNode} (hr : r = bs.flatten ++ [n]) (hb : ∀ b ∈ bs, Gd b) (hbl : bs.length = ar n) {bb : Bool} : ∀ (k m : Nat), k ≤ bs.length → k < m →
    rx_Parts_1_L0 100 r ((ar n : Int), bb) m ((bs.drop k).reverse, ((bs.take k).flatten.length : Int)) = some (.ex bs.reverse) := by
  intro k
  induction k with
  | zero =>
    intro m hk hm
    obtain ⟨m, rfl⟩ : ∃ m', m = m' + 1 := ⟨m - 1, by omega⟩
    unfold rx_Parts_1_L0
    simp only [List.drop_zero, List.length_reverse, hbl]
    rw [if_neg (by simp)]
  | succ k ih =>
    intro m hk hm
    obtain ⟨m, rfl⟩ : ∃ m', m = m' + 1 := ⟨m - 1, by omega⟩
    obtain ⟨p, hp⟩ := get_at (l := bs) (i := k) (by omega)
    have hpg := hb p (List.mem_of_getElem? hp)
    have hpre : ∀ b ∈ bs.take k, Gd b := fun b hb' => hb b (List.mem_of_mem_take hb')
    have htk : (bs.take (k + 1)).flatten = (bs.take k).flatten ++ p := by rw [take_succ_get hp]; simp
    have hrr : r = (bs.take k).flatten ++ p ++ ((bs.drop (k + 1)).flatten ++ [n]) := by
      rw [hr, ← htk, ← List.append_assoc, ← List.flatten_append, List.take_append_drop]
    obtain ⟨i, e, hi, hge, hbg⟩ := beg_part (rest := (bs.drop (k + 1)).flatten ++ [n]) hpre hpg
    rw [← hrr] at hge hbg
    have hrl : (bs.take k).flatten.length + p.length ≤ r.length := by rw [hrr]; simp only [List.length_append]; omega
    have hpp := List.length_pos_iff.2 hpg.pos
    have ha := ar_le n
    unfold rx_Parts_1_L0
    rw [if_pos (by simp only [List.length_reverse, List.length_drop, decide_eq_true_eq]; omega)]
    rw [htk, List.length_append]
    have hwi : w ((((bs.take k).flatten.length + p.length : Nat) : Int) - 1) = (i : Int) := by rw [wIn (by omega) (by omega)]; omega
    rw [hwi, begin_of hw hl h hge, hbg]
    simp only [Option.bind_some]
    rw [cut_of hl (by omega) hrl]
    simp only [Option.bind_some]
    have hcut : (r.take ((bs.take k).flatten.length + p.length)).drop ((bs.take k).flatten.length) = p := by
      rw [hrr, ← List.length_append, List.take_left, List.drop_left]
    rw [hcut]
    unfold apd
    rw [if_pos (by simp only [List.length_append, List.length_reverse, List.length_drop, List.length_cons, List.length_nil]; omega)]
    have hrev : (bs.drop (k + 1)).reverse ++ [p] = (bs.drop k).reverse := by rw [drop_get hp, List.reverse_cons]
    rw [hrev]
    exact ih m (by omega) (by omega)
theorem parts_of {r : List TNode} (hw : rwf r) (hl : r.length ≤ 90) (h : Ok r 0) {bs : List (List TNode)} {n : TNode} (hr : r = bs.flatten ++ [n]) (hb : ∀ b ∈ bs, Gd b) (hbl : bs.length = ar n) : rx_Parts 100 r = some (bs, 0) := by
  have ha := ar_le n
  have hrl : r.length = bs.flatten.length + 1 := by rw [hr]; simp
  have hn : r[r.length - 1]? = some n := by
    rw [hrl, Nat.add_sub_cancel, hr, List.getElem?_append_right (Nat.le_refl _), Nat.sub_self]; rfl
  have hlw : w ((r.length : Int) - 1) = ((r.length - 1 : Nat) : Int) := by rw [wIn (by omega) (by omega)]; omega
  have h1 := parts_loop hw hl h hr hb hbl (bb := mayB n) bs.length 100 (Nat.le_refl _) (by omega)
  rw [List.drop_length, List.reverse_nil, List.take_length, show bs.flatten.length = r.length - 1 by omega] at h1
  unfold rx_Parts rx_tries_sRx rx_Parts_1
  rw [of_ok hw hl h]
  simp only [Option.bind_some, Ex.k, hlw, ixd_nat hn, (known_of (hw n (List.mem_of_getElem? hn))).1, h1, Lo.k]
  rw [reverse_of _ (by rw [List.length_reverse]; omega), List.reverse_reverse]
  rfl
end Go.Sx
namespace Go.Sx

theorem own_of (x : List TNode) : law04_own x = some (x.take 60) := by
  unfold law04_own mn sld slices_Clone_Rx_Node apd
  by_cases h : (60 : Int) < (x.length : Int)
  · rw [if_pos h, if_pos (by omega)]
    have hl : (x.take 60).length ≤ 60 := by rw [List.length_take]; omega
    simp only [List.nil_append]
    rw [if_pos (by simp; omega)]
    simp
  · rw [if_neg h, if_pos (by omega)]
    simp only [List.nil_append, Int.toNat_natCast, List.take_length]
    rw [if_pos (by simp; omega)]
    simp only [Option.bind_some, Int.toNat_zero, List.drop_zero]
    rw [List.take_of_length_le (by omega)]
theorem wakes_ok : law04_wakes 100 = some true := by kernel_rfl

theorem ar_ref {k : Int} (h1 : 1 ≤ k) (h2 : k ≤ 9) : ref04_Arity k = some (arI k) := by
  have hk : k = 1 ∨ k = 2 ∨ k = 3 ∨ k = 4 ∨ k = 5 ∨ k = 6 ∨ k = 7 ∨ k = 8 ∨ k = 9 := by omega
  rcases hk with rfl | rfl | rfl | rfl | rfl | rfl | rfl | rfl | rfl <;> rfl
theorem ar_out {k : Int} (h : k < 1 ∨ 9 < k) : ref04_Arity k = some (-1) := by
  unfold ref04_Arity
  have e1 : (k == 1) = false := by simp; omega
  have e2 : (k == 2) = false := by simp; omega
  have e3 : (k == 3) = false := by simp; omega
  have e4 : (k == 4) = false := by simp; omega
  have e5 : (k == 5) = false := by simp; omega
  have e6 : (k == 6) = false := by simp; omega
  have e7 : (k == 7) = false := by simp; omega
  have e8 : (k == 8) = false := by simp; omega
  have e9 : (k == 9) = false := by simp; omega
  simp [e1, e2, e3, e4, e5, e6, e7, e8, e9]
theorem node_of {e : TNode} (h : swf e.Set) : ref04_Node e = some (mayB e) := by
  obtain ⟨c, hc, hc0, hcs⟩ := set_cnt h
  obtain ⟨K, s, mn, mx⟩ := e
  simp only at h hc hcs
  by_cases h0 : K < 1 ∨ 9 < K
  · unfold ref04_Node mayB
    simp only [ar_out h0]
    have : rx_known 100 ⟨K, s, mn, mx⟩ = some (0, false) := by
      unfold rx_known
      rcases h0 with h0 | h0
      · simp only [h0, decide_true, if_true]
      · have h1 : ¬ K < 1 := by omega
        have h2 : K > 9 := h0
        simp only [h1, h2, decide_false, decide_true, if_true, if_false, Bool.false_eq_true]
    rw [this]
    simp
  · have hz : ((s.e0 == 0) && ((s.e1 == 0) && ((s.e2 == 0) && ((s.e3 == 0) && true)))) = decide (c = 0) := by
      rw [Bool.eq_iff_iff]
      simp only [Bool.and_eq_true, beq_iff_eq, decide_eq_true_eq, and_true, hcs]
      obtain ⟨a, b, c, d⟩ := s
      simp [s0]
    unfold ref04_Node
    have har := ar_ref (k := K) (by omega) (by omega)
    simp only [har, hz, Option.bind_some]
    have hn : ¬ arI K < 0 := by unfold arI; (repeat' split) <;> omega
    simp only [hn, decide_false, Bool.false_eq_true, if_false]
    have hk : K = 1 ∨ K = 2 ∨ K = 3 ∨ K = 4 ∨ K = 5 ∨ K = 6 ∨ K = 7 ∨ K = 8 ∨ K = 9 := by omega
    rcases hk with rfl | rfl | rfl | rfl | rfl | rfl | rfl | rfl | rfl
    case inr.inr.inl =>
      simp only [mayB, rx_known, rx_kinds, rx_kinds_4, hc]
      by_cases h : c = 0 <;> by_cases h1 : mn = 0 <;> by_cases h2 : mx = 0 <;> simp [h, h1, h2]
      omega
    case inr.inr.inr.inr.inr.inr.inr.inr =>
      simp only [mayB, rx_known, rx_kinds, rx_repeats, hz]
      by_cases h : c = 0 <;> by_cases h1 : 0 ≤ mn <;> by_cases h2 : mn ≤ 255 <;> by_cases h3 : mx = -1 <;> by_cases h4 : mn ≤ mx <;> simp [h, h1, h2, h3, h4]
    all_goals
      simp only [mayB, rx_known, rx_kinds, rx_plain, hz]
      by_cases h : c = 0 <;> by_cases h1 : mn = 0 <;> by_cases h2 : mx = 0 <;> simp [h, h1, h2]

/-- Both say the same place. -/
theorem check_sim {r : List TNode} (hw : rwf r) (hl : r.length ≤ 90) : ∀ (k i t m : Nat), r.length - i = k → i ≤ r.length → t ≤ i → k < m →
    (∃ z : Int, rx_Check_L0 100 r m ((t : Int), (i : Int)) = some (.ex z) ∧ ref04_Check_L0 100 r m ((t : Int), (i : Int)) = some (.ex z)) ∨ (∃ j : Nat, rx_Check_L0 100 r m ((t : Int), (i : Int)) = some (.rt ((j : Int), 140)) ∧ ref04_Check_L0 100 r m ((t : Int), (i : Int)) = some (.rt (j : Int))) := by
  intro k
  induction k with
  | zero =>
    intro i t m hk hi ht hm
    obtain ⟨m, rfl⟩ : ∃ m', m = m' + 1 := ⟨m - 1, by omega⟩
    have hc : ¬ ((i : Int) < (r.length : Int)) := by omega
    refine .inl ⟨t, ?_, ?_⟩
    · unfold rx_Check_L0; simp only [hc, decide_false, if_false, Bool.false_eq_true]
    · unfold ref04_Check_L0; simp only [hc, decide_false, if_false, Bool.false_eq_true]
  | succ k ih =>
    intro i t m hk hi ht hm
    obtain ⟨m, rfl⟩ : ∃ m', m = m' + 1 := ⟨m - 1, by omega⟩
    obtain ⟨e, he⟩ := get_at (l := r) (i := i) (by omega)
    obtain ⟨hkn, hkk⟩ := known_of (hw e (List.mem_of_getElem? he))
    have hnd := node_of (hw e (List.mem_of_getElem? he))
    have hc : (i : Int) < (r.length : Int) := by omega
    have ha := ar_le e
    unfold rx_Check_L0 ref04_Check_L0
    simp only [hc, decide_true, if_true, ixd_nat he, hkn, hnd, Option.bind_some]
    by_cases hm1 : mayB e = true
    · obtain ⟨k1, k2, _⟩ := hkk hm1
      simp only [hm1, Bool.not_true, Bool.false_eq_true, if_false, ar_ref k1 k2, arI_ar, Option.bind_some]
      by_cases ht1 : ar e ≤ t
      · have hgt : ¬ ((ar e : Int) > (t : Int)) := by omega
        simp only [hgt, decide_false, Bool.false_eq_true, if_false]
        have e1 : w ((t : Int) - (w ((ar e : Int) - 1))) = ((t - ar e + 1 : Nat) : Int) := by
          rw [wIn (z := (ar e : Int) - 1) (by omega) (by omega), wIn (by omega) (by omega)]; omega
        have e2 : w ((w ((t : Int) - (ar e : Int))) + 1) = ((t - ar e + 1 : Nat) : Int) := by
          rw [wIn (z := (t : Int) - (ar e : Int)) (by omega) (by omega), wIn (by omega) (by omega)]; omega
        rw [e1, e2, w1 (by omega)]
        exact ih (i + 1) (t - ar e + 1) m (by omega) (by omega) (by omega) (by omega)
      · have hgt : (ar e : Int) > (t : Int) := by omega
        simp only [hgt, decide_true, if_true]
        exact .inr ⟨i, rfl, rfl⟩
    · have hm2 : mayB e = false := by simpa using hm1
      simp only [hm2, Bool.not_false, if_true]
      exact .inr ⟨i, rfl, rfl⟩
theorem rcheck_of {r : List TNode} (hw : rwf r) (hl : r.length ≤ 90) : (Ok r 0 ∧ rx_Check 100 r = some (0, 0) ∧ ref04_Check 100 r = some (-1)) ∨ (¬ Ok r 0 ∧ ∃ j : Nat, rx_Check 100 r = some ((j : Int), 140) ∧ ref04_Check 100 r = some (j : Int)) := by
  have hsim : (∃ z : Int, rx_Check_L0 100 r 100 (0, 0) = some (.ex z) ∧ ref04_Check_L0 100 r 100 (0, 0) = some (.ex z)) ∨ (∃ j : Nat, rx_Check_L0 100 r 100 (0, 0) = some (.rt ((j : Int), 140)) ∧ ref04_Check_L0 100 r 100 (0, 0) = some (.rt (j : Int))) := check_sim hw hl r.length 0 0 100 (by omega) (by omega) (by omega) (by omega)
  have hchk := check_of hw hl
  rcases hsim with ⟨z, h1, h2⟩ | ⟨j, h1, h2⟩
  · have a1 : rx_Check 100 r = some (if z = 1 then (0, 0) else ((r.length : Int), 140)) := by
      unfold rx_Check; rw [h1]
      by_cases hz : z = 1 <;> simp [Lo.k, hz]
    have a2 : ref04_Check 100 r = some (if z = 1 then -1 else (r.length : Int)) := by
      unfold ref04_Check; rw [h2]
      by_cases hz : z = 1 <;> simp [Lo.k, hz]
    rcases hchk with ⟨g1, g2⟩ | ⟨g1, j, g2⟩
    · left
      rw [a1] at g2
      by_cases hz : z = 1
      · rw [if_pos hz] at a1 a2; exact ⟨g1, a1, a2⟩
      · rw [if_neg hz] at g2; simp at g2
    · right
      rw [a1] at g2
      by_cases hz : z = 1
      · rw [if_pos hz] at g2; simp at g2
      · rw [if_neg hz] at a1 a2; exact ⟨g1, r.length, a1, a2⟩
  · have a1 : rx_Check 100 r = some ((j : Int), 140) := by unfold rx_Check; rw [h1]; rfl
    have a2 : ref04_Check 100 r = some (j : Int) := by unfold ref04_Check; rw [h2]; rfl
    rcases hchk with ⟨_, g2⟩ | ⟨g1, _, _⟩
    · rw [a1] at g2; simp at g2
    · exact .inr ⟨g1, j, a1, a2⟩
end Go.Sx
namespace Go.Sx

theorem gd_len : ∀ {S : List (List TNode)}, (∀ b ∈ S, Gd b) → S.length ≤ S.flatten.length
  | [], _ => by simp
  | b :: S, hS => by
    have h2 : 0 < b.length := List.length_pos_iff.2 (hS b List.mem_cons_self).pos
    have := gd_len (S := S) fun b hb => hS b (List.mem_cons_of_mem _ hb)
    simp only [List.length_cons, List.flatten_cons, List.length_append]; omega
theorem may_ar {e : TNode} (h : swf e.Set) (hm : mayB e = true) : ref04_Arity e.Kind = some (ar e : Int) := by
  obtain ⟨k1, k2, _⟩ := (known_of h).2 hm
  rw [ar_ref k1 k2, arI_ar]
theorem rbegin_loop {p pre rest : List TNode} (hp : Ok p 0) (hw : rwf p) (hl : (pre ++ p ++ rest).length ≤ 1000) (n : Nat) : ∀ (i m : Nat), i < p.length → i < m → ref04_begin_L0 n (pre ++ p ++ rest) m (((stk p (i + 1)).length : Int), ((pre.length + i : Nat) : Int)) = some (.rt (pre.length : Int)) := by
  intro i
  induction i with
  | zero =>
    intro m hi hm
    obtain ⟨m, rfl⟩ : ∃ m', m = m' + 1 := ⟨m - 1, by omega⟩
    obtain ⟨e, he⟩ := get_at (l := p) (i := 0) hi
    have hget : (pre ++ p ++ rest)[pre.length + 0]? = some e := by
      rw [List.append_assoc, List.getElem?_append_right (by omega), List.getElem?_append_left (by omega)]
      rw [show pre.length + 0 - pre.length = 0 by omega]; exact he
    have hS := stk_of hp 0
    rw [drop_get he] at hS
    have hS3 := hS.2.2
    unfold Ok at hS3
    have hs0 : stk p 0 = [] := by unfold stk; simp [fol]
    have hs1 := congrArg List.length (stk_succ he)
    rw [hs0] at hs1 hS3
    have ha : ar e = 0 := by have := hS3.2.1; simpa using this
    have hm1 := hS3.1
    unfold ref04_begin_L0
    rw [if_pos (by simp), ixd_nat hget, may_ar (hw e (List.mem_of_getElem? he)) hm1, hs1, ha]
    simp only [Option.bind_some]
    rw [if_pos (by simp [w, IntKind.wrap]; rfl)]
    simp
  | succ i ih =>
    intro m hi hm
    obtain ⟨m, rfl⟩ : ∃ m', m = m' + 1 := ⟨m - 1, by omega⟩
    obtain ⟨e, he⟩ := get_at (l := p) (i := i + 1) hi
    have hget : (pre ++ p ++ rest)[pre.length + (i + 1)]? = some e := by
      rw [List.append_assoc, List.getElem?_append_right (by omega), List.getElem?_append_left (by omega)]
      rw [show pre.length + (i + 1) - pre.length = i + 1 by omega]; exact he
    obtain ⟨hS1, hS2, hS3⟩ := stk_of hp (i + 1)
    rw [drop_get he] at hS3
    unfold Ok at hS3
    obtain ⟨hm1, ha, _⟩ := hS3
    have hs1 := congrArg List.length (stk_succ he)
    simp only [List.length_append, List.length_take, List.length_cons, List.length_nil] at hs1
    have hle := gd_len hS1
    rw [hS2, List.length_take] at hle
    have hl' : p.length ≤ 1000 := by simp only [List.length_append] at hl; omega
    have hpl : pre.length ≤ 1000 := by simp only [List.length_append] at hl; omega
    have hpos : 0 < (stk p (i + 1)).length := by
      rcases Nat.eq_zero_or_pos (stk p (i + 1)).length with h0 | h0
      · rw [List.length_eq_zero_iff] at h0
        rw [h0] at hS2
        have := congrArg List.length hS2
        simp only [List.flatten_nil, List.length_nil, List.length_take] at this
        omega
      · exact h0
    have hneed : w ((w (((stk p (i + 1 + 1)).length : Int) - 1)) + (ar e : Int)) = ((stk p (i + 1)).length : Int) := by
      rw [wIn (z := ((stk p (i + 1 + 1)).length : Int) - 1) (by omega) (by omega), wIn (by omega) (by omega)]; omega
    unfold ref04_begin_L0
    rw [if_pos (by simp; omega), ixd_nat hget, may_ar (hw e (List.mem_of_getElem? he)) hm1]
    simp only [Option.bind_some]
    rw [hneed, if_neg (by simp only [beq_iff_eq]; omega), show w (((pre.length + (i + 1) : Nat) : Int) - 1) = ((pre.length + i : Nat) : Int) by rw [wIn (by omega) (by omega)]; omega]
    exact ih m (by omega) (by omega)
theorem rbegin_of {p pre rest : List TNode} (hp : Ok p 0) (hw : rwf p) (hl : (pre ++ p ++ rest).length ≤ 1000) {n i : Nat} (hn : p.length ≤ n) (hi : i + 1 = pre.length + p.length) : ref04_begin n (pre ++ p ++ rest) (i : Int) = some (pre.length : Int) := by
  have hne : 0 < p.length := List.length_pos_iff.2 (by rintro rfl; cases hp)
  have h1 := rbegin_loop hp hw hl n (p.length - 1) n (by omega) (by omega)
  have hlast : (stk p (p.length - 1 + 1)).length = 1 := by
    have := (stk_of hp (p.length - 1 + 1)).2.2
    rw [List.drop_of_length_le (by omega)] at this
    exact this
  rw [hlast, show pre.length + (p.length - 1) = i by omega] at h1
  unfold ref04_begin
  have h1' : ref04_begin_L0 n (pre ++ p ++ rest) n (1, (i : Int)) = _ := h1
  rw [h1']
  rfl
theorem flat_mem {b : List TNode} : ∀ {bs : List (List TNode)}, b ∈ bs → b.length ≤ bs.flatten.length
  | [], h => by cases h
  | c :: l, h => by
    simp only [List.flatten_cons, List.length_append]
    rcases List.mem_cons.1 h with rfl | h
    · omega
    · have := flat_mem h; omega
theorem rwf.bit {r b : List TNode} {bs : List (List TNode)} {n : TNode} (hw : rwf r) (hr : r = bs.flatten ++ [n]) (hb : b ∈ bs) : rwf b := hw.part fun e he => by
  rw [hr]; exact List.mem_append.2 (.inl (List.mem_flatten.2 ⟨b, hb, he⟩))
theorem len_bit {r b : List TNode} {bs : List (List TNode)} {n : TNode} (hr : r = bs.flatten ++ [n]) (hb : b ∈ bs) : b.length + 1 ≤ r.length := by
  have := flat_mem hb
  rw [hr, List.length_append, List.length_singleton]; omega
theorem rparts_of {r : List TNode} (hw : rwf r) (hl : r.length ≤ 90) {bs : List (List TNode)} {nd : TNode} (hr : r = bs.flatten ++ [nd]) (hb : ∀ b ∈ bs, Gd b) (hbl : bs.length = ar nd) (hm : mayB nd = true) {n : Nat} (hn : r.length ≤ n) : ref04_Parts n r = some bs := by
  have hrl : r.length = bs.flatten.length + 1 := by rw [hr]; simp
  have hgn : r[r.length - 1]? = some nd := by
    rw [hrl, Nat.add_sub_cancel, hr, List.getElem?_append_right (Nat.le_refl _), Nat.sub_self]; rfl
  have hlw : w ((r.length : Int) - 1) = ((r.length - 1 : Nat) : Int) := by rw [wIn (by omega) (by omega)]; omega
  have hnw : swf nd.Set := hw nd (List.mem_of_getElem? hgn)
  have ha := ar_le nd
  have htk : r.take (r.length - 1) = bs.flatten := by rw [hrl, Nat.add_sub_cancel, hr, List.take_left]
  unfold ref04_Parts
  rw [hlw, ixd_nat hgn, may_ar hnw hm]
  simp only [Option.bind_some]
  have h3 : ar nd = 0 ∨ ar nd = 1 ∨ ar nd = 2 := by omega
  rcases h3 with h3 | h3 | h3
  · rw [h3, if_neg (by simp), if_neg (by simp)]
    rw [h3, List.length_eq_zero_iff] at hbl
    rw [hbl]
  · rw [h3, if_pos (by simp), sld_lo (by omega), htk]
    obtain ⟨b, rfl⟩ := List.length_eq_one_iff.1 (hbl.trans h3)
    unfold apd
    rw [if_pos (by simp at hrl ⊢; omega)]
    simp
  · rw [h3, if_neg (by simp), if_pos (by simp)]
    obtain ⟨b0, b1, rfl⟩ : ∃ b0 b1, bs = [b0, b1] := by
      match bs, hbl.trans h3 with
      | [a, b], _ => exact ⟨a, b, rfl⟩
    have hr2 : r = b0 ++ b1 ++ [nd] := by rw [hr]; simp
    simp only [List.flatten_cons, List.flatten_nil, List.append_nil, List.length_append] at hrl
    have h1 := (hb b1 (by simp))
    have hp1 : 0 < b1.length := List.length_pos_iff.2 h1.pos
    have hbg := rbegin_of (pre := b0) (rest := [nd]) h1.tree (hw.bit hr (by simp)) (by rw [← hr2]; omega) (n := n) (i := r.length - 2) (by omega) (by omega)
    rw [← hr2] at hbg
    have hw2 : w (((r.length - 1 : Nat) : Int) - 1) = ((r.length - 2 : Nat) : Int) := by rw [wIn (by omega) (by omega)]; omega
    rw [hw2, hbg]
    simp only [Option.bind_some]
    rw [sld_lo (by omega)]
    have hs : ∀ F : List TNode → Option (List (List TNode)), sld r (b0.length : Int) ((r.length - 1 : Nat) : Int) F = F b1 := by
      intro F
      unfold sld
      rw [if_pos (by omega)]
      simp only [Int.toNat_natCast]
      rw [htk]
      simp
    rw [hs]
    have ht0 : r.take b0.length = b0 := by rw [hr2, List.append_assoc, List.take_left]
    rw [ht0]
    unfold apd
    simp only [List.nil_append]
    rw [if_pos (by omega), if_pos (by omega)]
end Go.Sx
namespace Go.Sx

theorem open_at {α : Type} {mk : TNode → List α → α} {bs : List (List TNode)} {vs : List α} (h : bs.map (fun b => fol mk b []) = vs.map (fun v => [v])) {i : Nat} {b : List TNode} (hi : bs[i]? = some b) : ∃ v, vs[i]? = some v ∧ fol mk b [] = [v] := by
  have h3 := congrArg (·[i]?) h
  simp only [List.getElem?_map, hi, Option.map_some] at h3
  cases hvi : vs[i]? with
  | none => rw [hvi] at h3; cases h3
  | some u =>
    rw [hvi] at h3
    simp only [Option.map_some, Option.some.injEq] at h3
    exact ⟨u, rfl, h3⟩
theorem fol_top {α : Type} {mk : TNode → List α → α} {bs : List (List TNode)} {vs : List α} {nd : TNode} (h1 : ∀ st, fol mk bs.flatten st = st ++ vs) (h2 : vs.length = ar nd) : fol mk (bs.flatten ++ [nd]) [] = [mk nd vs] := by
  rw [fol_append, h1]
  simp only [fol, List.nil_append, h2, Nat.sub_self, List.take_zero, List.drop_zero]

theorem rdep_loop {self : List TNode → Option Int} {n : Nat} {bs : List (List TNode)} {vs : List Int} (hl : bs.length ≤ 90) (hd : ∀ (i : Nat) (b : List TNode), bs[i]? = some b → ∃ v : Int, vs[i]? = some v ∧ self b = some v) (hv : vs.length = bs.length) : ∀ (k i m : Nat), bs.length - i = k → i ≤ bs.length → k < m →
    ref04_Depth_L0 self n bs m (mostI (vs.take i), (i : Int)) = some (.ex (mostI vs)) := by
  intro k
  induction k with
  | zero =>
    intro i m hk hi hm
    obtain ⟨m, rfl⟩ : ∃ m', m = m' + 1 := ⟨m - 1, by omega⟩
    unfold ref04_Depth_L0
    rw [if_neg (by simp; omega), List.take_of_length_le (by omega)]
  | succ k ih =>
    intro i m hk hi hm
    obtain ⟨m, rfl⟩ : ∃ m', m = m' + 1 := ⟨m - 1, by omega⟩
    obtain ⟨b, hb⟩ := get_at (l := bs) (i := i) (by omega)
    obtain ⟨v, hv1, hv2⟩ := hd i b hb
    have := ih (i + 1) m (by omega) (by omega) (by omega)
    rw [mostI_take hv1] at this
    unfold ref04_Depth_L0
    rw [if_pos (by simp; omega), ixd_nat hb, hv2]
    simp only [Option.bind_some]
    rw [w1 (by omega)]
    split
    · rename_i h
      simp only [decide_eq_true_eq] at h
      rw [show max (mostI (vs.take i)) v = v by omega] at this
      exact this
    · rename_i h
      simp only [decide_eq_true_eq] at h
      rw [show max (mostI (vs.take i)) v = mostI (vs.take i) by omega] at this
      exact this
theorem rdepth_of : ∀ (k : Nat) {r : List TNode}, r.length ≤ k → rwf r → r.length ≤ 90 → Ok r 0 → ∀ n, r.length + 3 ≤ n → ∃ v, fol dmk r [] = [v] ∧ ref04_Depth n r = some v ∧ v ≤ (r.length : Int)
  | 0, r, hk, _, _, h, _, _ => by
    rw [List.length_eq_zero_iff.1 (Nat.le_zero.1 hk)] at h; cases h
  | k + 1, r, hk, hw, hl, h, n, hn => by
    obtain ⟨n, rfl⟩ : ∃ n', n = n' + 1 := ⟨n - 1, by omega⟩
    obtain ⟨bs, nd, hr, hb, hbl, hmn⟩ := tree_parts h
    obtain ⟨vs, hvs1, hvs2⟩ := Gd.open (mk := dmk) hb
    have hvl := Gd.lenV hvs2
    have ha := ar_le nd
    have hsub : ∀ (i : Nat) (b : List TNode), bs[i]? = some b → ∃ v : Int, vs[i]? = some v ∧ ref04_Depth n b = some v ∧ v ≤ (b.length : Int) := by
      intro i b hi
      obtain ⟨v, hv, hf⟩ := open_at hvs2 hi
      have hm := List.mem_of_getElem? hi
      have hlb := len_bit hr hm
      obtain ⟨u, h1, h2, h3⟩ := rdepth_of k (r := b) (by omega) (hw.bit hr hm) (by omega) (hb b hm).tree n (by omega)
      rw [hf] at h1
      simp only [List.cons.injEq, and_true] at h1
      subst h1
      exact ⟨v, hv, h2, h3⟩
    have hL := rdep_loop (n := n) (by omega) (fun i b hi => by obtain ⟨v, h1, h2, _⟩ := hsub i b hi; exact ⟨v, h1, h2⟩) hvl bs.length 0 n (by omega) (by omega) (by have := gd_len hb; have : bs.flatten.length + 1 = r.length := (by rw [hr]; simp); omega)
    have hL' : ref04_Depth_L0 (ref04_Depth n) n bs n (0, 0) = _ := hL
    have hbd := mostI_bd (l := vs) (b := (r.length : Int) - 1) (by have : bs.flatten.length + 1 = r.length := (by rw [hr]; simp); omega) (fun v hv => by
      obtain ⟨i, hi⟩ := List.mem_iff_getElem?.1 hv
      have hlt := lt_get hi
      obtain ⟨b, hbi⟩ := get_at (l := bs) (i := i) (by omega)
      obtain ⟨u, h1, _, h3⟩ := hsub i b hbi
      rw [hi] at h1
      cases h1
      have := len_bit hr (List.mem_of_getElem? hbi)
      omega)
    refine ⟨dmk nd vs, by rw [hr]; exact fol_top hvs1 (by omega), ?_, by unfold dmk; omega⟩
    unfold ref04_Depth
    rw [rparts_of hw hl hr hb hbl hmn (by omega)]
    simp only [Option.bind_some, hL', Lo.k]
    rw [wIn (by omega) (by omega)]
    rfl
theorem rdepth {r : List TNode} (hw : rwf r) (hl : r.length ≤ 90) (h : Ok r 0) {v : Int} (hv : rx_Depth 100 r = some (v, 0)) : ref04_Depth 100 r = some v := by
  obtain ⟨u, h1, h2, _⟩ := depth_of hw hl h
  obtain ⟨x, h3, h4, _⟩ := rdepth_of r.length (Nat.le_refl _) hw hl h 100 (by omega)
  rw [h1] at h3
  rw [hv] at h2
  simp only [List.cons.injEq, and_true, Option.some.injEq, Prod.mk.injEq] at h2 h3
  rw [h4, ← h3, ← h2]

/- counts -/
theorem idx_loop {ks : List Int} {a : Int} (hl : ks.length ≤ 90) : ∀ (k i m : Nat), ks.length - i = k → i ≤ ks.length → k < m →
    ((ks.drop i).contains a = true ∧ ∃ j : Nat, slices_Index_sint_int_L0 100 ks a m (i : Int) = some (.rt (j : Int))) ∨ ((ks.drop i).contains a = false ∧ slices_Index_sint_int_L0 100 ks a m (i : Int) = some (.ex ())) := by
  intro k
  induction k with
  | zero =>
    intro i m hk hi hm
    obtain ⟨m, rfl⟩ : ∃ m', m = m' + 1 := ⟨m - 1, by omega⟩
    refine .inr ⟨by rw [List.drop_of_length_le (by omega)]; rfl, ?_⟩
    unfold slices_Index_sint_int_L0
    rw [if_neg (by simp; omega)]
  | succ k ih =>
    intro i m hk hi hm
    obtain ⟨m, rfl⟩ : ∃ m', m = m' + 1 := ⟨m - 1, by omega⟩
    obtain ⟨e, he⟩ := get_at (l := ks) (i := i) (by omega)
    unfold slices_Index_sint_int_L0
    rw [if_pos (by simp; omega), ixd_nat he, drop_get he, List.contains_cons]
    by_cases h : a = e
    · rw [if_pos (by simp [h])]
      exact .inl ⟨by simp [h], i, rfl⟩
    · rw [if_neg (by simp [h]), w1 (by omega), show (a == e) = false by simp [h], Bool.false_or]
      exact ih (i + 1) m (by omega) (by omega) (by omega)
theorem cont_of {ks : List Int} (hl : ks.length ≤ 90) (a : Int) : slices_Contains_sint_int 100 ks a = some (ks.contains a) := by
  have h := idx_loop (a := a) hl ks.length 0 100 (by omega) (by omega) (by omega)
  rw [List.drop_zero] at h
  have h' : (ks.contains a = true ∧ ∃ j : Nat, slices_Index_sint_int_L0 100 ks a 100 0 = some (.rt (j : Int))) ∨ (ks.contains a = false ∧ slices_Index_sint_int_L0 100 ks a 100 0 = some (.ex ())) := h
  unfold slices_Contains_sint_int slices_Index_sint_int
  rcases h' with ⟨h1, j, h2⟩ | ⟨h1, h2⟩
  · rw [h2, h1]; simp [Lo.k]
  · rw [h2, h1]; simp [Lo.k]
def kp (ks : List Int) (e : TNode) : Bool := ks.isEmpty || ks.contains e.Kind
theorem rcnt1 {ks : List Int} {e : TNode} (hl : ks.length ≤ 90) : ∀ (k i m : Nat) (b : Bool), ks.length - i = k → i ≤ ks.length → k < m →
    ref04_Count_L1 100 ks e m (b, (i : Int)) = some (.ex (b || (ks.drop i).contains e.Kind)) := by
  intro k
  induction k with
  | zero =>
    intro i m b hk hi hm
    obtain ⟨m, rfl⟩ : ∃ m', m = m' + 1 := ⟨m - 1, by omega⟩
    unfold ref04_Count_L1
    rw [if_neg (by simp; omega), List.drop_of_length_le (by omega)]
    simp
  | succ k ih =>
    intro i m b hk hi hm
    obtain ⟨m, rfl⟩ : ∃ m', m = m' + 1 := ⟨m - 1, by omega⟩
    obtain ⟨x, hx⟩ := get_at (l := ks) (i := i) (by omega)
    unfold ref04_Count_L1
    rw [if_pos (by simp; omega), ixd_nat hx, drop_get hx, List.contains_cons, w1 (by omega)]
    cases b
    · simp only [Bool.false_eq_true, if_false, Bool.false_or]
      exact ih (i + 1) m _ (by omega) (by omega) (by omega)
    · simp only [if_true, Bool.true_or]
      have := ih (i + 1) m true (by omega) (by omega) (by omega)
      simpa using this
theorem rcnt0 {r : List TNode} {ks : List Int} (hk90 : ks.length ≤ 90) (hl : r.length ≤ 90) : ∀ (k i m c : Nat), r.length - i = k → i ≤ r.length → k < m → c ≤ i →
    ref04_Count_L0 100 r ks m ((c : Int), (i : Int)) = some (.ex ((c + (r.drop i).countP (kp ks) : Nat) : Int)) := by
  intro k
  induction k with
  | zero =>
    intro i m c hk hi hm hc
    obtain ⟨m, rfl⟩ : ∃ m', m = m' + 1 := ⟨m - 1, by omega⟩
    unfold ref04_Count_L0
    rw [if_neg (by simp; omega), List.drop_of_length_le (by omega)]; rfl
  | succ k ih =>
    intro i m c hk hi hm hc
    obtain ⟨m, rfl⟩ : ∃ m', m = m' + 1 := ⟨m - 1, by omega⟩
    obtain ⟨e, he⟩ := get_at (l := r) (i := i) (by omega)
    have h1 := rcnt1 (e := e) hk90 ks.length 0 100 ((ks.length : Int) == 0) (by omega) (by omega) (by omega)
    rw [List.drop_zero] at h1
    have hkp : (((ks.length : Int) == 0) || ks.contains e.Kind) = kp ks e := by
      unfold kp; congr 1
      cases ks with
      | nil => rfl
      | cons a l =>
        simp only [List.length_cons, List.isEmpty_cons, beq_eq_false_iff_ne]; omega
    rw [hkp] at h1
    have h1' : ref04_Count_L1 100 ks e 100 (((ks.length : Int) == 0), 0) = _ := h1
    unfold ref04_Count_L0
    rw [if_pos (by simp; omega), ixd_nat he, h1']
    simp only [Option.bind_some, Lo.k]
    rw [drop_get he, List.countP_cons, w1 (i := i) (by omega), w1 (i := c) (by omega)]
    cases hpe : kp ks e with
    | true =>
      simp only [if_true]
      rw [ih (i + 1) m (c + 1) (by omega) (by omega) (by omega) (by omega)]
      congr 3; omega
    | false =>
      simp only [Bool.false_eq_true, if_false]
      rw [ih (i + 1) m c (by omega) (by omega) (by omega) (by omega)]
      congr 3
theorem rcount_of {r : List TNode} {ks : List Int} (hk90 : ks.length ≤ 90) (hl : r.length ≤ 90) : ref04_Count 100 r ks = some ((r.countP (kp ks) : Nat) : Int) := by
  have h := rcnt0 hk90 hl r.length 0 100 0 (by omega) (by omega) (by omega) (by omega)
  have h' : ref04_Count_L0 100 r ks 100 (0, 0) = _ := h
  unfold ref04_Count
  rw [h']
  simp [Lo.k]
theorem counts_of {r : List TNode} {ks : List Int} (hw : rwf r) (hk90 : ks.length ≤ 90) (hl : r.length ≤ 90) (h : Ok r 0) : rx_Count 100 r ks = some (((r.countP (kp ks) : Nat) : Int), 0) := by
  refine count_of hw hl h ?_
  cases ks with
  | nil => exact .inl ⟨rfl, fun e => by simp [kp]⟩
  | cons a l => exact .inr ⟨by simp, fun e => by rw [cont_of hk90]; simp [kp]⟩
end Go.Sx
namespace Go.Sx

def nmk (e : TNode) (l : List Bool) : Bool :=
  if e.Kind = 2 ∨ e.Kind = 6 ∨ e.Kind = 8 then true else if e.Kind = 4 then l.getD 0 false && l.getD 1 false else if e.Kind = 5 then l.getD 0 false || l.getD 1 false else if e.Kind = 7 then l.getD 0 false else if e.Kind = 9 then e.Min == 0 || l.getD 0 false else false
theorem nul1 {e : TNode} {l : List Bool} (h1 : 1 ≤ e.Kind) (h9 : e.Kind ≤ 9) (hl : l.length = ar e) : rx_Nullable_1 e l = some (nmk e l) := by
  obtain ⟨K, s, mn, mx⟩ := e
  simp only at h1 h9
  have hk : K = 1 ∨ K = 2 ∨ K = 3 ∨ K = 4 ∨ K = 5 ∨ K = 6 ∨ K = 7 ∨ K = 8 ∨ K = 9 := by omega
  rcases hk with rfl | rfl | rfl | rfl | rfl | rfl | rfl | rfl | rfl
  case inr.inr.inr.inl =>
    match l, hl with
    | [a, b], _ => cases a <;> cases b <;> rfl
  case inr.inr.inr.inr.inl =>
    match l, hl with
    | [a, b], _ => cases a <;> cases b <;> rfl
  case inr.inr.inr.inr.inr.inr.inl =>
    match l, hl with
    | [a], _ => cases a <;> rfl
  case inr.inr.inr.inr.inr.inr.inr.inr =>
    match l, hl with
    | [a], _ => 
      by_cases hm : mn = 0 <;> cases a <;> simp [rx_Nullable_1, rx_kinds, rx_kinds_7, nmk, hm, ixd]
  all_goals rfl
theorem nul_loop {r : List TNode} (hw : rwf r) (hl : r.length ≤ 90) : ∀ (k i m : Nat) (st : List Bool), r.length - i = k → i ≤ r.length → k < m → st.length ≤ i → Ok (r.drop i) st.length →
    rx_folded_bool__1_L0 100 r m (st, (i : Int)) = some (.ex (fol nmk (r.drop i) st)) := by
  intro k
  induction k with
  | zero =>
    intro i m st hk hi hm hsl hok
    obtain ⟨m, rfl⟩ : ∃ m', m = m' + 1 := ⟨m - 1, by omega⟩
    unfold rx_folded_bool__1_L0
    rw [if_neg (by simp; omega), List.drop_of_length_le (by omega)]
    rfl
  | succ k ih =>
    intro i m st hk hi hm hsl hok
    obtain ⟨m, rfl⟩ : ∃ m', m = m' + 1 := ⟨m - 1, by omega⟩
    obtain ⟨e, he⟩ := get_at (l := r) (i := i) (by omega)
    obtain ⟨hkn, hkk⟩ := known_of (hw e (List.mem_of_getElem? he))
    rw [drop_get he] at hok ⊢
    unfold Ok at hok
    obtain ⟨hm1, ha, hok⟩ := hok
    obtain ⟨k1, k9, _⟩ := hkk hm1
    have hd1 := nul1 (l := st.drop (st.length - ar e)) k1 k9 (by rw [List.length_drop]; omega)
    have hlen : (st.take (st.length - ar e) ++ [nmk e (st.drop (st.length - ar e))]).length = st.length - ar e + 1 := by simp only [List.length_append, List.length_take, List.length_cons, List.length_nil]; omega
    unfold rx_folded_bool__1_L0
    rw [if_pos (by simp; omega), ixd_nat he, hkn]
    simp only [Option.bind_some]
    rw [wSub ha (by omega), sld_hi ha, hd1]
    simp only [Option.bind_some]
    rw [sld_lo (by omega)]
    unfold apd
    rw [if_pos (by omega), w1 (by omega)]
    simp only [fol]
    exact ih (i + 1) m _ (by omega) (by omega) (by omega) (by rw [hlen]; omega) (by rw [hlen]; exact hok)
theorem null_of {r : List TNode} (hw : rwf r) (hl : r.length ≤ 90) (h : Ok r 0) : ∃ v, fol nmk r [] = [v] ∧ rx_Nullable 100 r = some (v, 0) := by
  obtain ⟨v, hv⟩ := (tree_gd h).lay Bool nmk
  have hv' : fol nmk r [] = [v] := hv []
  have h1 := nul_loop hw hl r.length 0 100 [] (by omega) (by omega) (by omega) (by simp) h
  rw [List.drop_zero, hv'] at h1
  have h1' : rx_folded_bool__1_L0 100 r 100 ([], 0) = _ := h1
  refine ⟨v, hv', ?_⟩
  unfold rx_Nullable rx_folded_bool rx_tries_bool rx_folded_bool__1
  rw [of_ok hw hl h]
  simp only [Option.bind_some, Ex.k, h1', Lo.k]
  rfl
theorem rnull_of : ∀ (k : Nat) {r : List TNode}, r.length ≤ k → rwf r → r.length ≤ 90 → Ok r 0 → ∀ n, r.length + 3 ≤ n → ∃ v, fol nmk r [] = [v] ∧ ref04_Nullable n r = some v
  | 0, r, hk, _, _, h, _, _ => by
    rw [List.length_eq_zero_iff.1 (Nat.le_zero.1 hk)] at h; cases h
  | k + 1, r, hk, hw, hl, h, n, hn => by
    obtain ⟨n, rfl⟩ : ∃ n', n = n' + 1 := ⟨n - 1, by omega⟩
    obtain ⟨bs, nd, hr, hb, hbl, hmn⟩ := tree_parts h
    obtain ⟨vs, hvs1, hvs2⟩ := Gd.open (mk := nmk) hb
    have hvl := Gd.lenV hvs2
    have hsub : ∀ (i : Nat) (b : List TNode), bs[i]? = some b → ∃ v : Bool, vs[i]? = some v ∧ ref04_Nullable n b = some v := by
      intro i b hi
      obtain ⟨v, hv, hf⟩ := open_at hvs2 hi
      have hm := List.mem_of_getElem? hi
      have hlb := len_bit hr hm
      obtain ⟨u, h1, h2⟩ := rnull_of k (r := b) (by omega) (hw.bit hr hm) (by omega) (hb b hm).tree n (by omega)
      rw [hf] at h1
      simp only [List.cons.injEq, and_true] at h1
      subst h1
      exact ⟨v, hv, h2⟩
    refine ⟨nmk nd vs, by rw [hr]; exact fol_top hvs1 (by omega), ?_⟩
    have hrl : r.length = bs.flatten.length + 1 := by rw [hr]; simp
    have hgn : r[r.length - 1]? = some nd := by
      rw [hrl, Nat.add_sub_cancel, hr, List.getElem?_append_right (Nat.le_refl _), Nat.sub_self]; rfl
    have hlw : w ((r.length : Int) - 1) = ((r.length - 1 : Nat) : Int) := by rw [wIn (by omega) (by omega)]; omega
    obtain ⟨k1, k9, _⟩ := (known_of (hw nd (List.mem_of_getElem? hgn))).2 hmn
    unfold ref04_Nullable
    rw [rparts_of hw hl hr hb hbl hmn (by omega)]
    simp only [Option.bind_some]
    rw [hlw, ixd_nat hgn]
    clear hr hgn hb hvs1 hvs2
    obtain ⟨K, s, mn, mx⟩ := nd
    simp only at k1 k9
    have hK : K = 1 ∨ K = 2 ∨ K = 3 ∨ K = 4 ∨ K = 5 ∨ K = 6 ∨ K = 7 ∨ K = 8 ∨ K = 9 := by omega
    rcases hK with rfl | rfl | rfl | rfl | rfl | rfl | rfl | rfl | rfl
    case inr.inr.inr.inl =>
      match bs, hbl, vs, hvl with
      | [b0, b1], _, [v0, v1], _ =>
        obtain ⟨x0, e0, s0⟩ := hsub 0 b0 rfl
        obtain ⟨x1, e1, s1⟩ := hsub 1 b1 rfl
        cases e0; cases e1
        cases v0 <;> cases v1 <;> simp [ixd, s0, s1, nmk]
    case inr.inr.inr.inr.inl =>
      match bs, hbl, vs, hvl with
      | [b0, b1], _, [v0, v1], _ =>
        obtain ⟨x0, e0, s0⟩ := hsub 0 b0 rfl
        obtain ⟨x1, e1, s1⟩ := hsub 1 b1 rfl
        cases e0; cases e1
        cases v0 <;> cases v1 <;> simp [ixd, s0, s1, nmk]
    case inr.inr.inr.inr.inr.inr.inl =>
      match bs, hbl, vs, hvl with
      | [b0], _, [v0], _ =>
        obtain ⟨x0, e0, s0⟩ := hsub 0 b0 rfl
        cases e0
        cases v0 <;> simp [ixd, s0, nmk]
    case inr.inr.inr.inr.inr.inr.inr.inr =>
      match bs, hbl, vs, hvl with
      | [b0], _, [v0], _ =>
        obtain ⟨x0, e0, s0⟩ := hsub 0 b0 rfl
        cases e0
        by_cases hm : mn = 0 <;> cases v0 <;> simp [ixd, s0, nmk, hm]
    all_goals simp [nmk]
theorem rnull {r : List TNode} (hw : rwf r) (hl : r.length ≤ 90) (h : Ok r 0) {v : Bool} (hv : rx_Nullable 100 r = some (v, 0)) : ref04_Nullable 100 r = some v := by
  obtain ⟨u, h1, h2⟩ := null_of hw hl h
  obtain ⟨x, h3, h4⟩ := rnull_of r.length (Nat.le_refl _) hw hl h 100 (by omega)
  rw [h1] at h3
  rw [hv] at h2
  simp only [List.cons.injEq, and_true, Option.some.injEq, Prod.mk.injEq] at h2 h3
  rw [h4, ← h3, ← h2]

/- sets -/
def dd : List TNode → List Ar4_dI_u64 → List Ar4_dI_u64
  | [], out => out
  | e :: l, out => dd l (if e.Kind = 3 ∧ e.Set ∉ out then out ++ [e.Set] else out)
theorem dd_loop {r : List TNode} (hl : r.length ≤ 90) : ∀ (k i m : Nat) (met : List (Ar4_dI_u64 × Int)) (out : List Ar4_dI_u64), r.length - i = k → i ≤ r.length → k < m → (∀ s, s ∈ out ↔ 1 ≤ (mget eqk_24 met s).getD 0) → (∀ s, 0 ≤ (mget eqk_24 met s).getD 0 ∧ (mget eqk_24 met s).getD 0 ≤ (i : Int)) → out.length ≤ i →
    rx_Sets_1_L0 100 r m (met, out, (i : Int)) = some (.ex (dd (r.drop i) out)) := by
  intro k
  induction k with
  | zero =>
    intro i m met out hk hi hm _ _ _
    obtain ⟨m, rfl⟩ : ∃ m', m = m' + 1 := ⟨m - 1, by omega⟩
    unfold rx_Sets_1_L0
    rw [if_neg (by simp; omega), List.drop_of_length_le (by omega)]
    rfl
  | succ k ih =>
    intro i m met out hk hi hm hmem hbd hol
    obtain ⟨m, rfl⟩ : ∃ m', m = m' + 1 := ⟨m - 1, by omega⟩
    obtain ⟨e, he⟩ := get_at (l := r) (i := i) (by omega)
    unfold rx_Sets_1_L0
    rw [if_pos (by simp; omega), ixd_nat he, drop_get he, w1 (i := i) (by omega)]
    unfold dd
    by_cases h3 : e.Kind = 3
    · rw [if_neg (by simp [h3])]
      simp only [bd1]
      have hb := hbd e.Set
      rw [get_put, if_pos rfl]
      have hv : w ((mget eqk_24 met e.Set).getD 0 + 1) = (mget eqk_24 met e.Set).getD 0 + 1 := wIn (by omega) (by omega)
      rw [hv]
      have hnew : ∀ s', (mget eqk_24 (mput eqk_24 e.Set ((mget eqk_24 met e.Set).getD 0 + 1) (mtch eqk_24 e.Set 0 met)) s').getD 0 = if s' = e.Set then (mget eqk_24 met e.Set).getD 0 + 1 else (mget eqk_24 met s').getD 0 := fun s' => by rw [get_put, get_tch]
      have hbd' : ∀ s', 0 ≤ (mget eqk_24 (mput eqk_24 e.Set ((mget eqk_24 met e.Set).getD 0 + 1) (mtch eqk_24 e.Set 0 met)) s').getD 0 ∧ (mget eqk_24 (mput eqk_24 e.Set ((mget eqk_24 met e.Set).getD 0 + 1) (mtch eqk_24 e.Set 0 met)) s').getD 0 ≤ ((i + 1 : Nat) : Int) := fun s' => by
        rw [hnew]
        have := hbd s'
        split <;> omega
      by_cases hin : e.Set ∈ out
      · have h1 := (hmem e.Set).1 hin
        rw [if_neg (by simp only [beq_iff_eq]; omega), if_neg (fun h => h.2 hin)]
        refine ih (i + 1) m _ out (by omega) (by omega) (by omega) (fun s => ?_) hbd' (by omega)
        rw [hnew, hmem]
        split
        · rename_i hs; subst hs; omega
        · rfl
      · have h1 : ¬ 1 ≤ (mget eqk_24 met e.Set).getD 0 := fun h => hin ((hmem e.Set).2 h)
        rw [if_pos (by simp only [beq_iff_eq]; omega), if_pos ⟨h3, hin⟩]
        unfold apd
        rw [if_pos (by simp only [List.length_append, List.length_cons, List.length_nil]; omega)]
        refine ih (i + 1) m _ (out ++ [e.Set]) (by omega) (by omega) (by omega) (fun s => ?_) hbd' (by simp; omega)
        rw [hnew, List.mem_append, hmem, List.mem_singleton]
        split
        · rename_i hs; subst hs; exact ⟨fun _ => by omega, fun _ => .inr rfl⟩
        · rename_i hs; simp [hs]
    · rw [if_pos (by simp [h3]), if_neg (fun h => h3 h.1)]
      exact ih (i + 1) m met out (by omega) (by omega) (by omega) hmem (fun s => by have := hbd s; omega) (by omega)
theorem setsd {r : List TNode} (hw : rwf r) (hl : r.length ≤ 90) (h : Ok r 0) : rx_Sets 100 r = some (dd r [], 0) := by
  have h1 := dd_loop hl r.length 0 100 [] [] (by omega) (by omega) (by omega) (fun s => by simp [mget]) (fun s => by simp [mget]) (by simp)
  have h1' : rx_Sets_1_L0 100 r 100 ([], [], 0) = _ := h1
  unfold rx_Sets rx_tries_sSet rx_Sets_1
  rw [of_ok hw hl h]
  simp only [Option.bind_some, Ex.k, h1', Lo.k, List.drop_zero]
theorem rset1 {out : List Ar4_dI_u64} {e : TNode} (hl : out.length ≤ 90) : ∀ (k i m : Nat) (b : Bool), out.length - i = k → i ≤ out.length → k < m →
    ref04_Sets_L1 100 out e m (b, (i : Int)) = some (.ex (b || decide (e.Set ∈ out.drop i))) := by
  intro k
  induction k with
  | zero =>
    intro i m b hk hi hm
    obtain ⟨m, rfl⟩ : ∃ m', m = m' + 1 := ⟨m - 1, by omega⟩
    unfold ref04_Sets_L1
    rw [if_neg (by simp; omega), List.drop_of_length_le (by omega)]
    simp
  | succ k ih =>
    intro i m b hk hi hm
    obtain ⟨m, rfl⟩ : ∃ m', m = m' + 1 := ⟨m - 1, by omega⟩
    obtain ⟨x, hx⟩ := get_at (l := out) (i := i) (by omega)
    unfold ref04_Sets_L1
    rw [if_pos (by simp; omega), ixd_nat hx, drop_get hx, w1 (by omega)]
    have hq : ((x.e0 == e.Set.e0) && ((x.e1 == e.Set.e1) && ((x.e2 == e.Set.e2) && ((x.e3 == e.Set.e3) && true)))) = decide (e.Set = x) := by
      have := eqk_iff (x := x) (y := e.Set)
      unfold eqk_24 at this
      rw [Bool.eq_iff_iff, this, decide_eq_true_eq]
      exact eq_comm
    cases b
    · simp only [Bool.false_eq_true, if_false, Bool.false_or]
      rw [hq, ih (i + 1) m _ (by omega) (by omega) (by omega)]
      simp only [List.mem_cons]
      congr 2
      by_cases h1 : e.Set = x <;> simp [h1]
    · simp only [if_true, Bool.true_or]
      have := ih (i + 1) m true (by omega) (by omega) (by omega)
      simpa using this
theorem rset0 {r : List TNode} (hl : r.length ≤ 90) : ∀ (k i m : Nat) (out : List Ar4_dI_u64), r.length - i = k → i ≤ r.length → k < m → out.length ≤ i →
    ref04_Sets_L0 100 r m (out, (i : Int)) = some (.ex (dd (r.drop i) out)) := by
  intro k
  induction k with
  | zero =>
    intro i m out hk hi hm _
    obtain ⟨m, rfl⟩ : ∃ m', m = m' + 1 := ⟨m - 1, by omega⟩
    unfold ref04_Sets_L0
    rw [if_neg (by simp; omega), List.drop_of_length_le (by omega)]
    rfl
  | succ k ih =>
    intro i m out hk hi hm hol
    obtain ⟨m, rfl⟩ : ∃ m', m = m' + 1 := ⟨m - 1, by omega⟩
    obtain ⟨e, he⟩ := get_at (l := r) (i := i) (by omega)
    have h1 := rset1 (e := e) (out := out) (by omega) out.length 0 100 (e.Kind != 3) (by omega) (by omega) (by omega)
    rw [List.drop_zero] at h1
    have h1' : ref04_Sets_L1 100 out e 100 ((e.Kind != 3), 0) = _ := h1
    unfold ref04_Sets_L0
    rw [if_pos (by simp; omega), ixd_nat he, h1', drop_get he, w1 (by omega)]
    simp only [Option.bind_some, Lo.k]
    unfold dd
    by_cases h3 : e.Kind = 3 ∧ e.Set ∉ out
    · rw [if_pos (by simp [h3.1, h3.2]), if_pos h3]
      unfold apd
      rw [if_pos (by simp only [List.length_append, List.length_cons, List.length_nil]; omega)]
      exact ih (i + 1) m _ (by omega) (by omega) (by omega) (by simp; omega)
    · rw [if_neg (by
        intro hh
        simp only [Bool.not_eq_true', Bool.or_eq_false_iff, bne_eq_false_iff_eq, decide_eq_false_iff_not] at hh
        exact h3 hh), if_neg h3]
      exact ih (i + 1) m _ (by omega) (by omega) (by omega) (by omega)
theorem rsets_of {r : List TNode} (hl : r.length ≤ 90) : ref04_Sets 100 r = some (dd r []) := by
  have h1 := rset0 hl r.length 0 100 [] (by omega) (by omega) (by omega) (by simp)
  have h1' : ref04_Sets_L0 100 r 100 ([], 0) = _ := h1
  unfold ref04_Sets
  rw [h1']
  simp [Lo.k]
theorem dd_len : ∀ (r : List TNode) (out : List Ar4_dI_u64), (dd r out).length ≤ out.length + r.length
  | [], out => by simp [dd]
  | e :: l, out => by
    unfold dd
    by_cases h : e.Kind = 3 ∧ e.Set ∉ out
    · rw [if_pos h]
      have := dd_len l (out ++ [e.Set])
      simp only [List.length_append, List.length_cons, List.length_nil] at this ⊢
      omega
    · rw [if_neg h]
      have := dd_len l out
      simp only [List.length_cons]
      omega
end Go.Sx
namespace Go.Sx

def ndE : TNode := ⟨2, ⟨0, 0, 0, 0⟩, 0, 0⟩
def nrm (e : TNode) (l : List (List TNode)) : List TNode := if e.Kind = 9 ∧ e.Max = 0 then [ndE] else l.flatten ++ [e]
theorem flatT {l : List (List TNode)} {i : Nat} {e : List TNode} (h : l[i]? = some e) : (l.take (i + 1)).flatten = (l.take i).flatten ++ e := by
  rw [take_succ_get h, List.flatten_append]; simp
theorem flat_sub (l : List (List TNode)) (i : Nat) : (l.take i).flatten.length ≤ l.flatten.length := by
  have h := congrArg (fun l => List.length (List.flatten l)) (List.take_append_drop i l)
  simp only [List.flatten_append, List.length_append] at h
  omega
theorem cat0 {l : List (List TNode)} (hl : l.length ≤ 90) (hf : l.flatten.length ≤ 1000) : ∀ (k i m : Nat), l.length - i = k → i ≤ l.length → k < m →
    slices_Concat_Rx_Node_L0 100 l m (((l.take i).flatten.length : Int), (i : Int)) = some (.ex (l.flatten.length : Int)) := by
  intro k
  induction k with
  | zero =>
    intro i m hk hi hm
    obtain ⟨m, rfl⟩ : ∃ m', m = m' + 1 := ⟨m - 1, by omega⟩
    unfold slices_Concat_Rx_Node_L0
    rw [if_neg (by simp; omega), List.take_of_length_le (by omega)]
  | succ k ih =>
    intro i m hk hi hm
    obtain ⟨m, rfl⟩ : ∃ m', m = m' + 1 := ⟨m - 1, by omega⟩
    obtain ⟨x, hx⟩ := get_at (l := l) (i := i) (by omega)
    have h2 := flatT hx
    have h3 := flat_sub l (i + 1)
    have h4 := congrArg List.length h2
    rw [List.length_append] at h4
    have h5 : w (((l.take i).flatten.length : Int) + (x.length : Int)) = ((l.take (i + 1)).flatten.length : Int) := by rw [wIn (by omega) (by omega)]; omega
    unfold slices_Concat_Rx_Node_L0
    rw [if_pos (by simp; omega), ixd_nat hx, h5, if_neg (by simp), w1 (by omega)]
    exact ih (i + 1) m (by omega) (by omega) (by omega)
theorem cat1 {l : List (List TNode)} (hl : l.length ≤ 90) (hf : l.flatten.length ≤ 1000) : ∀ (k i m : Nat), l.length - i = k → i ≤ l.length → k < m →
    slices_Concat_Rx_Node_L1 100 l m ((l.take i).flatten, (i : Int)) = some (.ex l.flatten) := by
  intro k
  induction k with
  | zero =>
    intro i m hk hi hm
    obtain ⟨m, rfl⟩ : ∃ m', m = m' + 1 := ⟨m - 1, by omega⟩
    unfold slices_Concat_Rx_Node_L1
    rw [if_neg (by simp; omega), List.take_of_length_le (by omega)]
  | succ k ih =>
    intro i m hk hi hm
    obtain ⟨m, rfl⟩ : ∃ m', m = m' + 1 := ⟨m - 1, by omega⟩
    obtain ⟨x, hx⟩ := get_at (l := l) (i := i) (by omega)
    have h2 := flatT hx
    have h3 := flat_sub l (i + 1)
    unfold slices_Concat_Rx_Node_L1
    rw [if_pos (by simp; omega), ixd_nat hx, ← h2, w1 (by omega)]
    unfold apd
    rw [if_pos (by omega)]
    exact ih (i + 1) m (by omega) (by omega) (by omega)
theorem grow_of {n : Nat} (h : n ≤ 1000) : slices_Grow_Rx_Node (n : Int) = some [] := by
  unfold slices_Grow_Rx_Node
  rw [if_neg (by simp), Int.sub_zero, wNat (by omega)]
  by_cases h0 : n = 0
  · subst h0; rfl
  · rw [if_pos (by simp; omega)]
    unfold gz sld
    rw [if_pos (by omega)]
    dsimp only
    rw [if_pos (by omega)]
    simp
theorem cat_of {l : List (List TNode)} (hl : l.length ≤ 90) (hf : l.flatten.length ≤ 1000) : slices_Concat_Rx_Node 100 l = some l.flatten := by
  have h0 := cat0 hl hf l.length 0 100 (by omega) (by omega) (by omega)
  have h1 := cat1 hl hf l.length 0 100 (by omega) (by omega) (by omega)
  have h0' : slices_Concat_Rx_Node_L0 100 l 100 (0, 0) = _ := h0
  have h1' : slices_Concat_Rx_Node_L1 100 l 100 ([], 0) = _ := h1
  unfold slices_Concat_Rx_Node
  rw [h0']
  simp only [Option.bind_some, Lo.k, grow_of hf, h1']
theorem nrm1 {e : TNode} {l : List (List TNode)} (hl : l.length ≤ 90) (hf : l.flatten.length ≤ 1000) : rx_Norm_1 100 e l = some (nrm e l) := by
  unfold rx_Norm_1 nrm
  rw [cat_of hl hf]
  simp only [Option.bind_some]
  unfold apd
  by_cases h : e.Kind = 9 ∧ e.Max = 0
  · rw [if_pos (by simp [h.1]), if_pos (by simp [h.2]), if_pos h]; rfl
  · rw [if_neg h]
    by_cases h1 : e.Kind = 9
    · rw [if_pos (by simp [h1]), if_neg (by simp only [beq_iff_eq]; exact fun h2 => h ⟨h1, h2⟩), if_pos (by simp only [List.length_append, List.length_singleton]; omega)]
    · rw [if_neg (by simp [h1]), if_pos (by simp only [List.length_append, List.length_singleton]; omega)]
theorem nrm_len (e : TNode) (l : List (List TNode)) : (nrm e l).length ≤ l.flatten.length + 1 := by
  unfold nrm
  split
  · simp
  · simp
theorem nrm_loop {r : List TNode} (hw : rwf r) (hl : r.length ≤ 90) : ∀ (k i m : Nat) (st : List (List TNode)), r.length - i = k → i ≤ r.length → k < m → st.length ≤ i → st.flatten.length ≤ i → Ok (r.drop i) st.length →
    rx_folded_Rx__1_L0 100 r m (st, (i : Int)) = some (.ex (fol nrm (r.drop i) st)) := by
  intro k
  induction k with
  | zero =>
    intro i m st hk hi hm hsl hfl hok
    obtain ⟨m, rfl⟩ : ∃ m', m = m' + 1 := ⟨m - 1, by omega⟩
    unfold rx_folded_Rx__1_L0
    rw [if_neg (by simp; omega), List.drop_of_length_le (by omega)]
    rfl
  | succ k ih =>
    intro i m st hk hi hm hsl hfl hok
    obtain ⟨m, rfl⟩ : ∃ m', m = m' + 1 := ⟨m - 1, by omega⟩
    obtain ⟨e, he⟩ := get_at (l := r) (i := i) (by omega)
    obtain ⟨hkn, hkk⟩ := known_of (hw e (List.mem_of_getElem? he))
    rw [drop_get he] at hok ⊢
    unfold Ok at hok
    obtain ⟨hm1, ha, hok⟩ := hok
    have hsp := congrArg (fun l => List.length (List.flatten l)) (List.take_append_drop (st.length - ar e) st)
    simp only [List.flatten_append, List.length_append] at hsp
    have hd1 := nrm1 (e := e) (l := st.drop (st.length - ar e)) (by rw [List.length_drop]; omega) (by omega)
    have hnl := nrm_len e (st.drop (st.length - ar e))
    have hlen : (st.take (st.length - ar e) ++ [nrm e (st.drop (st.length - ar e))]).length = st.length - ar e + 1 := by simp only [List.length_append, List.length_take, List.length_cons, List.length_nil]; omega
    unfold rx_folded_Rx__1_L0
    rw [if_pos (by simp; omega), ixd_nat he, hkn]
    simp only [Option.bind_some]
    rw [wSub ha (by omega), sld_hi ha, hd1]
    simp only [Option.bind_some]
    rw [sld_lo (by omega)]
    unfold apd
    rw [if_pos (by omega), w1 (by omega)]
    simp only [fol]
    exact ih (i + 1) m _ (by omega) (by omega) (by omega) (by rw [hlen]; omega) (by simp only [List.flatten_append, List.length_append, List.flatten_cons, List.flatten_nil, List.append_nil]; omega) (by rw [hlen]; exact hok)
theorem norm_of {r : List TNode} (hw : rwf r) (hl : r.length ≤ 90) (h : Ok r 0) : ∃ v, fol nrm r [] = [v] ∧ rx_Norm 100 r = some (v, 0) := by
  obtain ⟨v, hv⟩ := (tree_gd h).lay (List TNode) nrm
  have hv' : fol nrm r [] = [v] := hv []
  have h1 := nrm_loop hw hl r.length 0 100 [] (by omega) (by omega) (by omega) (by simp) (by simp) h
  rw [List.drop_zero, hv'] at h1
  have h1' : rx_folded_Rx__1_L0 100 r 100 ([], 0) = _ := h1
  refine ⟨v, hv', ?_⟩
  unfold rx_Norm rx_folded_Rx rx_tries_Rx_v2 rx_folded_Rx__1
  rw [of_ok hw hl h]
  simp only [Option.bind_some, Ex.k, h1', Lo.k]
  rfl
theorem join0 {n : Nat} {l : List (List TNode)} (hl : l.length ≤ 90) (hf : l.flatten.length ≤ 1000) : ∀ (k i m : Nat), l.length - i = k → i ≤ l.length → k < m →
    ref04_Join_L0 n l m ((l.take i).flatten, (i : Int)) = some (.ex l.flatten) := by
  intro k
  induction k with
  | zero =>
    intro i m hk hi hm
    obtain ⟨m, rfl⟩ : ∃ m', m = m' + 1 := ⟨m - 1, by omega⟩
    unfold ref04_Join_L0
    rw [if_neg (by simp; omega), List.take_of_length_le (by omega)]
  | succ k ih =>
    intro i m hk hi hm
    obtain ⟨m, rfl⟩ : ∃ m', m = m' + 1 := ⟨m - 1, by omega⟩
    obtain ⟨x, hx⟩ := get_at (l := l) (i := i) (by omega)
    have h2 := flatT hx
    have h3 := flat_sub l (i + 1)
    unfold ref04_Join_L0
    rw [if_pos (by simp; omega), ixd_nat hx, ← h2, w1 (by omega)]
    unfold apd
    rw [if_pos (by omega)]
    exact ih (i + 1) m (by omega) (by omega) (by omega)
theorem rjoin_of {n : Nat} {nd : TNode} {l : List (List TNode)} (hn : l.length < n) (hl : l.length ≤ 90) (hf : l.flatten.length ≤ 1000) : ref04_Join n nd l = some (l.flatten ++ [nd]) := by
  have h1 := join0 (n := n) hl hf l.length 0 n (by omega) (by omega) (by omega)
  have h1' : ref04_Join_L0 n l n ([], 0) = _ := h1
  unfold ref04_Join
  rw [h1']
  simp only [Option.bind_some, Lo.k]
  unfold apd
  rw [if_pos (by simp only [List.length_append, List.length_singleton]; omega)]
theorem rnl0 {self : List TNode → Option (List TNode)} {n : Nat} {bs vs : List (List TNode)} (hl : bs.length ≤ 90) (hd : ∀ (i : Nat) (b : List TNode), bs[i]? = some b → ∃ v, vs[i]? = some v ∧ self b = some v) (hv : vs.length = bs.length) : ∀ (k i m : Nat), bs.length - i = k → i ≤ bs.length → k < m →
    ref04_Norm_L0 self n bs m (vs.take i, (i : Int)) = some (.ex vs) := by
  intro k
  induction k with
  | zero =>
    intro i m hk hi hm
    obtain ⟨m, rfl⟩ : ∃ m', m = m' + 1 := ⟨m - 1, by omega⟩
    unfold ref04_Norm_L0
    rw [if_neg (by simp; omega), List.take_of_length_le (by omega)]
  | succ k ih =>
    intro i m hk hi hm
    obtain ⟨m, rfl⟩ : ∃ m', m = m' + 1 := ⟨m - 1, by omega⟩
    obtain ⟨b, hb⟩ := get_at (l := bs) (i := i) (by omega)
    obtain ⟨v, hv1, hv2⟩ := hd i b hb
    unfold ref04_Norm_L0
    rw [if_pos (by simp; omega), ixd_nat hb, hv2]
    simp only [Option.bind_some]
    rw [← take_succ_get hv1, w1 (by omega)]
    unfold apd
    rw [if_pos (by rw [List.length_take]; omega)]
    exact ih (i + 1) m (by omega) (by omega) (by omega)
theorem rnl_same (self : List TNode → Option (List TNode)) (n : Nat) (bs : List (List TNode)) : ∀ (m : Nat) (x : List (List TNode) × Int), ref04_Norm_L1 self n bs m x = ref04_Norm_L0 self n bs m x
  | 0, x => by unfold ref04_Norm_L1 ref04_Norm_L0; rfl
  | m + 1, (a, b) => by
    unfold ref04_Norm_L1 ref04_Norm_L0
    simp only [rnl_same self n bs m]
theorem rnorm_of : ∀ (k : Nat) {r : List TNode}, r.length ≤ k → rwf r → r.length ≤ 90 → Ok r 0 → ∀ n, r.length + 3 ≤ n → ∃ v, fol nrm r [] = [v] ∧ ref04_Norm n r = some v ∧ v.length ≤ r.length
  | 0, r, hk, _, _, h, _, _ => by
    rw [List.length_eq_zero_iff.1 (Nat.le_zero.1 hk)] at h; cases h
  | k + 1, r, hk, hw, hl, h, n, hn => by
    obtain ⟨n, rfl⟩ : ∃ n', n = n' + 1 := ⟨n - 1, by omega⟩
    obtain ⟨bs, nd, hr, hb, hbl, hmn⟩ := tree_parts h
    obtain ⟨vs, hvs1, hvs2⟩ := Gd.open (mk := nrm) hb
    have hvl := Gd.lenV hvs2
    have ha := ar_le nd
    have hsub : ∀ (i : Nat) (b : List TNode), bs[i]? = some b → ∃ v, vs[i]? = some v ∧ ref04_Norm n b = some v ∧ v.length ≤ b.length := by
      intro i b hi
      obtain ⟨v, hv, hf⟩ := open_at hvs2 hi
      have hm := List.mem_of_getElem? hi
      have hlb := len_bit hr hm
      obtain ⟨u, h1, h2, h3⟩ := rnorm_of k (r := b) (by omega) (hw.bit hr hm) (by omega) (hb b hm).tree n (by omega)
      rw [hf] at h1
      simp only [List.cons.injEq, and_true] at h1
      subst h1
      exact ⟨v, hv, h2, h3⟩
    have hrl : r.length = bs.flatten.length + 1 := by rw [hr]; simp
    have hflat : vs.flatten.length ≤ bs.flatten.length := by
      have key : ∀ (bs vs : List (List TNode)), vs.length = bs.length → (∀ (i : Nat) (b : List TNode), bs[i]? = some b → ∃ v, vs[i]? = some v ∧ v.length ≤ b.length) → vs.flatten.length ≤ bs.flatten.length := by
        intro bs
        induction bs with
        | nil => intro vs hv _; rw [List.length_eq_zero_iff.1 hv]; simp
        | cons b bs ih =>
          intro vs hv hh
          match vs, hv with
          | v :: vs, hv =>
            obtain ⟨u, e, h1⟩ := hh 0 b rfl
            cases e
            have := ih vs (by simpa using hv) fun i c hc => hh (i + 1) c hc
            simp only [List.flatten_cons, List.length_append]; omega
      exact key bs vs hvl fun i b hi => by obtain ⟨v, h1, _, h3⟩ := hsub i b hi; exact ⟨v, h1, h3⟩
    have hL := rnl0 (n := n) (by omega) (fun i b hi => by obtain ⟨v, h1, h2, _⟩ := hsub i b hi; exact ⟨v, h1, h2⟩) hvl bs.length 0 n (by omega) (by omega) (by have := gd_len hb; omega)
    have hL' : ref04_Norm_L0 (ref04_Norm n) n bs n ([], 0) = _ := hL
    have hbg := gd_len hb
    have hJ := rjoin_of (n := n) (nd := nd) (l := vs) (by omega) (by omega) (by omega)
    have hnl := nrm_len nd vs
    refine ⟨nrm nd vs, by rw [hr]; exact fol_top hvs1 (by omega), ?_, by omega⟩
    have hgn : r[r.length - 1]? = some nd := by
      rw [hrl, Nat.add_sub_cancel, hr, List.getElem?_append_right (Nat.le_refl _), Nat.sub_self]; rfl
    have hlw : w ((r.length : Int) - 1) = ((r.length - 1 : Nat) : Int) := by rw [wIn (by omega) (by omega)]; omega
    unfold ref04_Norm
    rw [hlw, ixd_nat hgn, rparts_of hw hl hr hb hbl hmn (by omega)]
    simp only [Option.bind_some, rnl_same, hL', Lo.k, hJ]
    unfold nrm
    by_cases h9 : nd.Kind = 9 ∧ nd.Max = 0
    · rw [if_pos h9, if_pos (by simp [h9.1]), if_pos (by simp [h9.2])]; rfl
    · rw [if_neg h9]
      by_cases h1 : nd.Kind = 9
      · rw [if_pos (by simp [h1]), if_neg (by simp only [beq_iff_eq]; exact fun h2 => h9 ⟨h1, h2⟩)]
      · rw [if_neg (by simp [h1])]
theorem rnorm {r : List TNode} (hw : rwf r) (hl : r.length ≤ 90) (h : Ok r 0) : ∃ v, rx_Norm 100 r = some (v, 0) ∧ ref04_Norm 100 r = some v ∧ v.length ≤ r.length := by
  obtain ⟨u, h1, h2⟩ := norm_of hw hl h
  obtain ⟨x, h3, h4, h5⟩ := rnorm_of r.length (Nat.le_refl _) hw hl h 100 (by omega)
  rw [h1] at h3
  simp only [List.cons.injEq, and_true] at h3
  subst h3
  exact ⟨u, h2, h4, h5⟩
end Go.Sx
namespace Go.Sx

theorem same0 {a : List TNode} (hl : a.length ≤ 90) : ∀ (k i m : Nat), a.length - i = k → i ≤ a.length → k < m → ref04_Same_L0 100 a a m (i : Int) = some (.ex ()) := by
  intro k
  induction k with
  | zero =>
    intro i m hk hi hm
    obtain ⟨m, rfl⟩ : ∃ m', m = m' + 1 := ⟨m - 1, by omega⟩
    unfold ref04_Same_L0
    rw [if_neg (by simp; omega)]
  | succ k ih =>
    intro i m hk hi hm
    obtain ⟨m, rfl⟩ : ∃ m', m = m' + 1 := ⟨m - 1, by omega⟩
    obtain ⟨x, hx⟩ := get_at (l := a) (i := i) (by omega)
    unfold ref04_Same_L0
    rw [if_pos (by simp; omega), ixd_nat hx, ixd_nat hx, if_neg (by simp), w1 (by omega)]
    exact ih (i + 1) m (by omega) (by omega) (by omega)
theorem same_refl {a : List TNode} (hl : a.length ≤ 90) : ref04_Same 100 a a = some true := by
  have h := same0 hl a.length 0 100 (by omega) (by omega) (by omega)
  have h' : ref04_Same_L0 100 a a 100 0 = _ := h
  unfold ref04_Same
  rw [if_neg (by simp), h']
  rfl
theorem sset0 {a : List Ar4_dI_u64} (hl : a.length ≤ 90) : ∀ (k i m : Nat), a.length - i = k → i ≤ a.length → k < m → slices_Equal_sSet_Set_L0 100 a a m (i : Int) = some (.ex ()) := by
  intro k
  induction k with
  | zero =>
    intro i m hk hi hm
    obtain ⟨m, rfl⟩ : ∃ m', m = m' + 1 := ⟨m - 1, by omega⟩
    unfold slices_Equal_sSet_Set_L0
    rw [if_neg (by simp; omega)]
  | succ k ih =>
    intro i m hk hi hm
    obtain ⟨m, rfl⟩ : ∃ m', m = m' + 1 := ⟨m - 1, by omega⟩
    obtain ⟨x, hx⟩ := get_at (l := a) (i := i) (by omega)
    unfold slices_Equal_sSet_Set_L0
    rw [if_pos (by simp; omega), ixd_nat hx, ixd_nat hx, if_neg (by simp), w1 (by omega)]
    exact ih (i + 1) m (by omega) (by omega) (by omega)
theorem sset_refl {a : List Ar4_dI_u64} (hl : a.length ≤ 90) : slices_Equal_sSet_Set 100 a a = some true := by
  have h := sset0 hl a.length 0 100 (by omega) (by omega) (by omega)
  have h' : slices_Equal_sSet_Set_L0 100 a a 100 0 = _ := h
  unfold slices_Equal_sSet_Set
  rw [if_neg (by simp), h']
  rfl
theorem sint0 {a : List Int} (hl : a.length ≤ 90) : ∀ (k i m : Nat), a.length - i = k → i ≤ a.length → k < m → slices_Equal_sint_int_L0 100 a a m (i : Int) = some (.ex ()) := by
  intro k
  induction k with
  | zero =>
    intro i m hk hi hm
    obtain ⟨m, rfl⟩ : ∃ m', m = m' + 1 := ⟨m - 1, by omega⟩
    unfold slices_Equal_sint_int_L0
    rw [if_neg (by simp; omega)]
  | succ k ih =>
    intro i m hk hi hm
    obtain ⟨m, rfl⟩ : ∃ m', m = m' + 1 := ⟨m - 1, by omega⟩
    obtain ⟨x, hx⟩ := get_at (l := a) (i := i) (by omega)
    unfold slices_Equal_sint_int_L0
    rw [if_pos (by simp; omega), ixd_nat hx, ixd_nat hx, if_neg (by simp), w1 (by omega)]
    exact ih (i + 1) m (by omega) (by omega) (by omega)
theorem sint_refl {a : List Int} (hl : a.length ≤ 90) : slices_Equal_sint_int 100 a a = some true := by
  have h := sint0 hl a.length 0 100 (by omega) (by omega) (by omega)
  have h' : slices_Equal_sint_int_L0 100 a a 100 0 = _ := h
  unfold slices_Equal_sint_int
  rw [if_neg (by simp), h']
  rfl
theorem wipe0 {x : List TNode × Int} (hl : x.1.length ≤ 90) : ∀ (k i m : Nat) (l : List TNode), x.1.length - i = k → i ≤ x.1.length → k < m → l.length = x.1.length → law04_RxTells_L0 100 x m (l, (i : Int)) = some (.ex ()) := by
  intro k
  induction k with
  | zero =>
    intro i m l hk hi hm _
    obtain ⟨m, rfl⟩ : ∃ m', m = m' + 1 := ⟨m - 1, by omega⟩
    unfold law04_RxTells_L0
    rw [if_neg (by simp; omega)]
  | succ k ih =>
    intro i m l hk hi hm hll
    obtain ⟨m, rfl⟩ : ∃ m', m = m' + 1 := ⟨m - 1, by omega⟩
    obtain ⟨y, hy⟩ := get_at (l := l) (i := i) (by omega)
    unfold law04_RxTells_L0
    rw [if_pos (by simp; omega), ixd_nat hy]
    unfold std
    rw [if_pos (by omega), w1 (by omega)]
    exact ih (i + 1) m _ (by omega) (by omega) (by omega) (by rw [List.length_set]; exact hll)
theorem take_mn {α : Type} (y : List α) {F : List α → Option Bool} : sld y 0 (mn (y.length : Int) 6) F = F (y.take 6) := by
  unfold sld mn
  by_cases h : (6 : Int) < (y.length : Int)
  · rw [if_pos h, if_pos (by omega)]; rfl
  · rw [if_neg h, if_pos (by omega)]
    simp only [Int.toNat_natCast, List.take_length, Int.toNat_zero, List.drop_zero]
    rw [List.take_of_length_le (by omega)]
/-- The law. -/
theorem tells_law {x : List TNode} {y : List Int} (hx : rwf x) : law04_RxTells 100 x y = some true := by
  have hw : rwf (x.take 60) := hx.part fun e he => List.mem_of_mem_take he
  have hl : (x.take 60).length ≤ 90 := by rw [List.length_take]; omega
  have hk : (y.take 6).length ≤ 90 := by rw [List.length_take]; omega
  unfold law04_RxTells
  rw [wakes_ok, own_of]
  simp only [Option.bind_some, Bool.not_true, Bool.false_eq_true, if_false]
  rw [take_mn]
  have hcl : slices_Clone_sint_int (y.take 6) = some (y.take 6) := by
    unfold slices_Clone_sint_int apd
    rw [if_pos (by simp only [List.nil_append]; omega)]; rfl
  rw [hcl]
  simp only [Option.bind_some]
  have hend : sld y 0 ((y.take 6).length : Int) (fun l483 => (slices_Equal_sint_int 100 (y.take 6) l483).bind fun x486 => some x486) = some true := by
    rw [sld_lo (by rw [List.length_take]; omega)]
    have : y.take (y.take 6).length = y.take 6 := by
      rw [List.length_take]
      rcases Nat.le_total 6 y.length with h | h
      · rw [Nat.min_eq_left h]
      · rw [Nat.min_eq_right h, List.take_length, List.take_of_length_le h]
    rw [this, sint_refl hk]
    rfl
  rw [hend]
  generalize y.take 6 = ks at hk
  generalize x.take 60 = r at hw hl
  rcases rcheck_of hw hl with ⟨h, _, hc⟩ | ⟨h, j, _, hc⟩
  · obtain ⟨d, _, hd, _⟩ := depth_of hw hl h
    obtain ⟨b, _, hb⟩ := null_of hw hl h
    obtain ⟨v, hv, hv2, hvl⟩ := rnorm hw hl h
    have hdl := dd_len r []
    have hwp := wipe0 (x := (v, 0)) (by simp only; omega) v.length 0 100 v (by simp) (by simp) (by omega) rfl
    have hwp' : law04_RxTells_L0 100 (v, 0) 100 (v, 0) = _ := hwp
    rw [hd, counts_of hw hk hl h, hb, setsd hw hl h, hv]
    simp only [Option.bind_some, hc]
    rw [if_neg (by simp), if_neg (by simp), if_neg (by simp), if_neg (by simp), if_neg (by simp), if_neg (by simp), rdepth hw hl h hd]
    simp only [Option.bind_some]
    rw [if_neg (by simp), rcount_of hk hl]
    simp only [Option.bind_some]
    rw [if_neg (by simp), rnull hw hl h hb]
    simp only [Option.bind_some]
    rw [if_neg (by simp), rsets_of hl]
    simp only [Option.bind_some]
    rw [sset_refl (by simp at hdl; omega)]
    simp only [Option.bind_some]
    rw [if_neg (by simp), hv2]
    simp only [Option.bind_some]
    rw [same_refl (by omega)]
    simp only [Option.bind_some]
    rw [if_neg (by simp), hwp']
    simp only [Option.bind_some, Lo.k]
    rw [same_refl hl]
    rfl
  · have n1 : rx_Depth 100 r = some (0, 140) := by unfold rx_Depth rx_folded_int rx_tries_int rx_folded_int__1; rw [of_no hw hl h]; rfl
    have n2 : rx_Count 100 r ks = some (0, 140) := by unfold rx_Count rx_tries_int_v1 rx_Count_1; rw [of_no hw hl h]; rfl
    have n3 : rx_Nullable 100 r = some (false, 140) := by unfold rx_Nullable rx_folded_bool rx_tries_bool rx_folded_bool__1; rw [of_no hw hl h]; rfl
    have n4 : rx_Norm 100 r = some ([], 140) := by unfold rx_Norm rx_folded_Rx rx_tries_Rx_v2 rx_folded_Rx__1; rw [of_no hw hl h]; rfl
    rw [n1, n2, n3, sets_no hw hl h, n4]
    simp only [Option.bind_some, hc]
    rw [if_pos (by simp)]
    rfl
end Go.Sx
namespace Go.Sx
open Go.RowKit Go.WideShapes Go.ChangeShapes

/-- Where the types of a tree stand. -/
structure NdTypes (P : Program) (ti tu ta tn : TypeId) : Prop where
  i : P.underlying ti = some (.int .i64)
  u : P.underlying tu = some (.int .u64)
  a : P.underlying ta = some (.array 4 tu)
  n : ∃ fs : Array Field, P.underlying tn = some (.struct fs) ∧ fs.size = 4 ∧ (∃ f, fs[0]? = some f ∧ f.type = ti ∧ f.offset = 0) ∧ (∃ f, fs[1]? = some f ∧ f.type = ta ∧ f.offset = 1) ∧ (∃ f, fs[2]? = some f ∧ f.type = ti ∧ f.offset = 5) ∧ (∃ f, fs[3]? = some f ∧ f.type = ti ∧ f.offset = 6)
  ci : P.cellsOf ti = 1
  cu : P.cellsOf tu = 1
  ca : P.cellsOf ta = 4
  cn : P.cellsOf tn = 7

theorem len4 {α : Type} {l : List α} (h : l.length = 4) : ∃ a b c d, l = [a, b, c, d] := by
  match l, h with
  | [a, b, c, d], _ => exact ⟨a, b, c, d, rfl⟩
theorem len7 {α : Type} {l : List α} (h : l.length = 7) : ∃ a b c d e f g, l = [a, b, c, d, e, f, g] := by
  match l, h with
  | [a, b, c, d, e, f, g], _ => exact ⟨a, b, c, d, e, f, g, rfl⟩
def TNode.en (x : TNode) : List Value := [.int .i64 x.Kind, .int .u64 x.Set.e0, .int .u64 x.Set.e1, .int .u64 x.Set.e2, .int .u64 x.Set.e3, .int .i64 x.Min, .int .i64 x.Max]

section
variable {H : Type} {enc : TypeId × Value → H} {P : Program} {W : World} {sp : Nat → Bool} {ti tu ta tn : TypeId}
theorem open_nd (hT : NdTypes P ti tu ta tn) (n : Nat) (cs : List Value) (y : DataW H × List MemPlace) (h : DataW.trod enc P W 0 sp true n tn cs = some y) : ∃ x : TNode, x.en = cs ∧ swf x.Set := by
  obtain ⟨fs, hfs, hsz, ⟨f0, g0, t0, o0⟩, ⟨f1, g1, t1, o1⟩, ⟨f2, g2, t2, o2⟩, ⟨f3, g3, t3, o3⟩⟩ := hT.n
  obtain ⟨xs, m, _, _, hl, hxl, hx⟩ := DataW.trod_struct hfs h
  rw [hT.cn] at hl
  obtain ⟨c0, c1, c2, c3, c4, c5, c6, rfl⟩ := len7 hl
  rw [hsz] at hxl
  obtain ⟨x0, x1, x2, x3, rfl⟩ := len4 hxl
  have e0 := hx 0 f0 g0
  have e1 := hx 1 f1 g1
  have e2 := hx 2 f2 g2
  have e3 := hx 3 f3 g3
  rw [t0, o0, hT.ci] at e0
  rw [t1, o1, hT.ca] at e1
  rw [t2, o2, hT.ci] at e2
  rw [t3, o3, hT.ci] at e3
  obtain ⟨k, h0, _, w0⟩ := DataW.trod_int hT.i e0
  obtain ⟨mn, h2, _, w2⟩ := DataW.trod_int hT.i e2
  obtain ⟨mx, h3, _, w3⟩ := DataW.trod_int hT.i e3
  obtain ⟨as, m', _, _, _, hal, ha⟩ := DataW.trod_array hT.a e1
  rw [hT.cu] at ha
  obtain ⟨a0, a1, a2, a3, rfl⟩ := len4 hal
  obtain ⟨s0, q0, _, v0⟩ := DataW.trod_int hT.u (ha 0 (by omega))
  obtain ⟨s1, q1, _, v1⟩ := DataW.trod_int hT.u (ha 1 (by omega))
  obtain ⟨s2, q2, _, v2⟩ := DataW.trod_int hT.u (ha 2 (by omega))
  obtain ⟨s3, q3, _, v3⟩ := DataW.trod_int hT.u (ha 3 (by omega))
  simp at h0 h2 h3 q0 q1 q2 q3
  subst h0 h2 h3 q0 q1 q2 q3
  exact ⟨⟨k, ⟨s0, s1, s2, s3⟩, mn, mx⟩, rfl, ⟨bounds_u64 v0, bounds_u64 v1, bounds_u64 v2, bounds_u64 v3⟩⟩
theorem rr_nodes {Φ : Phi} : ∀ xs : List TNode, Rr Φ 7 (xs.map TNode.d) (xs.flatMap TNode.en)
  | [] => by simp [Rr]
  | x :: xs => by
    simp only [List.map_cons, List.flatMap_cons, Rr]
    refine ⟨x.en, xs.flatMap TNode.en, rfl, rfl, ?_, rr_nodes xs⟩
    simp [TNode.d, TNode.en, Rc, Ra]
/-- A tree. -/
theorem open_tree {tr : TypeId} (hT : NdTypes P ti tu ta tn) (hr : P.underlying tr = some (.slice tn)) {fuel : Nat} {cs : List Value} {y : DataW H × List MemPlace} (h : DataW.trod enc P W 0 sp true fuel tr cs = some y) :
    ∃ (A : Option Addr) (nds : List TNode) (c : Nat), cs = [.slice A nds.length c] ∧ Reps (phiOf W) [.d (.row 7 nds.length (nds.map TNode.d)) (.slice A nds.length c)] ∧ rwf nds := by
  obtain ⟨A, nds, c, h1, h2, h3, _, h5⟩ := open_rows (en := TNode.en) (G := fun x => swf x.Set) hr hT.cn (by omega) (fun _ => rfl) (open_nd hT) h
  refine ⟨A, nds, c, h1, ⟨?_, trivial⟩, h5⟩
  show Rc _ _ _
  simp only [Rc]
  exact ⟨by rw [List.length_map], A, c, _, rfl, h3, h2, rr_nodes nds⟩
theorem cells_slice {base : Nat} {t e : TypeId} {v : Value} (ht : P.underlying t = some (.slice e)) (hv : Value.okWide P W .any base t v) {A : Option Addr} {n c : Nat} (h : v.cells.toList = [.slice A n c]) : v = .slice A n c := by
  obtain ⟨a, l, c', rfl⟩ := okWide_slice ht hv
  simpa [Value.cells] using h
end
section
variable {H : Type} {enc : TypeId × Value → H} {P : Program} {W : World} {sp : Nat → Bool}
theorem rr_ints {Φ : Phi} : ∀ xs : List Int, Rr Φ 1 (xs.map (dI .i64)) (xs.flatMap fun z => [.int .i64 z])
  | [] => by simp [Rr]
  | x :: xs => by
    simp only [List.map_cons, List.flatMap_cons, Rr]
    refine ⟨[.int .i64 x], xs.flatMap fun z => [.int .i64 z], rfl, rfl, ?_, rr_ints xs⟩
    simp [dI, Rc]
/-- A row of numbers. -/
theorem open_ints {ti tr : TypeId} (hi : P.underlying ti = some (.int .i64)) (hc : P.cellsOf ti = 1) (hr : P.underlying tr = some (.slice ti)) {fuel : Nat} {cs : List Value} {y : DataW H × List MemPlace} (h : DataW.trod enc P W 0 sp true fuel tr cs = some y) :
    ∃ (A : Option Addr) (xs : List Int) (c : Nat), cs = [.slice A xs.length c] ∧ Reps (phiOf W) [.d (.row 1 xs.length (xs.map (dI .i64))) (.slice A xs.length c)] := by
  obtain ⟨A, xs, c, h1, h2, h3, _, _⟩ := open_rows (en := fun z : Int => [Value.int .i64 z]) (G := fun _ => True) hr hc (by omega) (fun _ => rfl) (fun n cs y h => by
    obtain ⟨k, h0, _, _⟩ := DataW.trod_int hi h
    exact ⟨k, h0.symm, trivial⟩) h
  refine ⟨A, xs, c, h1, ⟨?_, trivial⟩⟩
  show Rc _ _ _
  simp only [Rc]
  exact ⟨by rw [List.length_map], A, c, _, rfl, h3, h2, rr_ints xs⟩
end
end Go.Sx
