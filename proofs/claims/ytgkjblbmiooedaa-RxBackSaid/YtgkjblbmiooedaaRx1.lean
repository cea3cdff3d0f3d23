/- Rx1: bits counted, in plain Lean. -/
import Derived.Test.YtgkjblbmiooedaaRx0
namespace Go.Sx

theorem and_split (h l mh ml : Nat) (hl : l < 256) (hml : ml < 256) : (l + 256 * h) &&& (ml + 256 * mh) = (l &&& ml) + 256 * (h &&& mh) := by
  have h1 : ((l + 256 * h) &&& (ml + 256 * mh)) / 2 ^ 8 = (l + 256 * h) / 2 ^ 8 &&& (ml + 256 * mh) / 2 ^ 8 := Nat.and_div_two_pow
  have h2 : ((l + 256 * h) &&& (ml + 256 * mh)) % 2 ^ 8 = (l + 256 * h) % 2 ^ 8 &&& (ml + 256 * mh) % 2 ^ 8 := Nat.and_mod_two_pow
  have e1 : (l + 256 * h) / 2 ^ 8 = h := by omega
  have e2 : (ml + 256 * mh) / 2 ^ 8 = mh := by omega
  have e3 : (l + 256 * h) % 2 ^ 8 = l := by omega
  have e4 : (ml + 256 * mh) % 2 ^ 8 = ml := by omega
  rw [e1, e2] at h1
  rw [e3, e4] at h2
  omega

def valB : List Nat → Nat
  | [] => 0
  | b :: l => b + 256 * valB l

def s1 (m x : Nat) : Nat := (x / 2 &&& m) + (x &&& m)
def s2 (m x : Nat) : Nat := (x / 4 &&& m) + (x &&& m)
def s3 (m x : Nat) : Nat := (x / 16 + x) &&& m

theorem b1 : ∀ l, l < 256 → ∀ b, b < 2 → ((l / 2 + b * 128) &&& 85) = (l / 2 &&& 85) := by decide +kernel
theorem b2 : ∀ l, l < 256 → ∀ b, b < 4 → ((l / 4 + b * 64) &&& 51) = (l / 4 &&& 51) := by decide +kernel
def nib (b : Nat) : Prop := b % 16 ≤ 4 ∧ b / 16 ≤ 4
theorem b3 : ∀ l, l < 256 → l % 16 ≤ 4 → l / 16 ≤ 4 → ∀ b, b < 5 → ((l / 16 + b * 16 + l) &&& 15) = ((l / 16 + l) &&& 15) := by decide +kernel
theorem b4 : ∀ l, l < 256 → (s1 85 l < 256) ∧ (s2 51 (s1 85 l) < 256) ∧ s2 51 (s1 85 l) % 16 ≤ 4 ∧ s2 51 (s1 85 l) / 16 ≤ 4 ∧ s3 15 (s2 51 (s1 85 l)) ≤ 8 ∧ (s3 15 (s2 51 (s1 85 l)) = 0 → l = 0) ∧ (l = 0 → s3 15 (s2 51 (s1 85 l)) = 0) := by decide +kernel

theorem S1 : ∀ bs : List Nat, (∀ b ∈ bs, b < 256) → s1 (valB (bs.map fun _ => 85)) (valB bs) = valB (bs.map (s1 85))
  | [], _ => rfl
  | b :: l, h => by
    have hb := h b (by simp)
    have ih := S1 l fun c hc => h c (by simp [hc])
    simp only [List.map_cons, valB]
    rw [← ih]
    unfold s1
    rw [and_split _ _ _ _ hb (by decide)]
    have e : (b + 256 * valB l) / 2 = (b / 2 + (valB l % 2) * 128) + 256 * (valB l / 2) := by omega
    rw [e, and_split _ _ _ _ (by omega) (by decide), b1 b hb _ (by omega)]
    omega
theorem S2 : ∀ bs : List Nat, (∀ b ∈ bs, b < 256) → s2 (valB (bs.map fun _ => 51)) (valB bs) = valB (bs.map (s2 51))
  | [], _ => rfl
  | b :: l, h => by
    have hb := h b (by simp)
    have ih := S2 l fun c hc => h c (by simp [hc])
    simp only [List.map_cons, valB]
    rw [← ih]
    unfold s2
    rw [and_split _ _ _ _ hb (by decide)]
    have e : (b + 256 * valB l) / 4 = (b / 4 + (valB l % 4) * 64) + 256 * (valB l / 4) := by omega
    rw [e, and_split _ _ _ _ (by omega) (by decide), b2 b hb _ (by omega)]
    omega
theorem nib_head : ∀ bs : List Nat, (∀ b ∈ bs, b < 256 ∧ b % 16 ≤ 4 ∧ b / 16 ≤ 4) → valB bs % 16 < 5
  | [], _ => by simp [valB]
  | b :: l, h => by
    have hb := h b (by simp)
    simp only [valB]
    omega
theorem S3 : ∀ bs : List Nat, (∀ b ∈ bs, b < 256 ∧ b % 16 ≤ 4 ∧ b / 16 ≤ 4) → s3 (valB (bs.map fun _ => 15)) (valB bs) = valB (bs.map (s3 15))
  | [], _ => rfl
  | b :: l, h => by
    have hb := h b (by simp)
    have ih := S3 l fun c hc => h c (by simp [hc])
    have hn := nib_head l fun c hc => h c (by simp [hc])
    simp only [List.map_cons, valB]
    rw [← ih]
    unfold s3
    have e : (b + 256 * valB l) / 16 + (b + 256 * valB l) = (b / 16 + (valB l % 16) * 16 + b) + 256 * (valB l / 16 + valB l) := by omega
    rw [e, and_split _ _ _ _ (by omega) (by decide), b3 b hb.1 hb.2.1 hb.2.2 _ hn]

def bytesOf : Nat → Nat → List Nat
  | 0, _ => []
  | n + 1, x => x % 256 :: bytesOf n (x / 256)
theorem bytesOf_lt : ∀ n x, ∀ b ∈ bytesOf n x, b < 256
  | 0, _, b, h => by simp [bytesOf] at h
  | n + 1, x, b, h => by
    simp only [bytesOf, List.mem_cons] at h
    rcases h with rfl | h
    · omega
    · exact bytesOf_lt n _ b h
theorem bytesOf_val : ∀ n x, x < 256 ^ n → valB (bytesOf n x) = x
  | 0, x, h => by simp at h; subst h; rfl
  | n + 1, x, h => by
    simp only [bytesOf, valB]
    rw [bytesOf_val n (x / 256) (by rw [Nat.pow_succ] at h; omega)]
    omega

theorem bAnd_nat (a b : Nat) (ha : a < 18446744073709551616) (hb : b < 18446744073709551616) : bAnd .u64 a b = ((a &&& b : Nat) : Int) := by
  have h1 : (a &&& b) ≤ a := Nat.and_le_left
  have e : (BitVec.ofInt 64 (a : Int) &&& BitVec.ofInt 64 (b : Int)).toNat = a &&& b := by
    rw [BitVec.toNat_and, BitVec.toNat_ofInt, BitVec.toNat_ofInt]
    have e1 : ((a : Int) % ((2 ^ 64 : Nat) : Int)).toNat = a := by omega
    have e2 : ((b : Int) % ((2 ^ 64 : Nat) : Int)).toNat = b := by omega
    rw [e1, e2]
  show IntKind.u64.wrap ((BitVec.ofInt 64 (a : Int) &&& BitVec.ofInt 64 (b : Int)).toNat : Int) = _
  rw [e]
  simp [IntKind.wrap, IntKind.bits, IntKind.signed]
  omega
theorem bAndi_nat (a b : Nat) (ha : a < 9223372036854775808) (hb : b < 9223372036854775808) : bAnd .i64 a b = ((a &&& b : Nat) : Int) := by
  have h1 : (a &&& b) ≤ a := Nat.and_le_left
  have e : (BitVec.ofInt 64 (a : Int) &&& BitVec.ofInt 64 (b : Int)).toNat = a &&& b := by
    rw [BitVec.toNat_and, BitVec.toNat_ofInt, BitVec.toNat_ofInt]
    have e1 : ((a : Int) % ((2 ^ 64 : Nat) : Int)).toNat = a := by omega
    have e2 : ((b : Int) % ((2 ^ 64 : Nat) : Int)).toNat = b := by omega
    rw [e1, e2]
  show IntKind.i64.wrap ((BitVec.ofInt 64 (a : Int) &&& BitVec.ofInt 64 (b : Int)).toNat : Int) = _
  rw [e]
  simp [IntKind.wrap, IntKind.bits, IntKind.signed]
  omega
theorem bAdd_nat (a b : Nat) (h : a + b < 18446744073709551616) : bAdd .u64 a b = ((a + b : Nat) : Int) := by
  unfold bAdd
  simp [IntKind.wrap, IntKind.bits, IntKind.signed]
  omega
theorem bCv_nat (a : Nat) (h : a < 9223372036854775808) : bCv .i64 a = (a : Int) := by
  unfold bCv
  simp [IntKind.wrap, IntKind.bits, IntKind.signed]
  omega
theorem bShr_nat (a n d : Nat) (hd : 2 ^ min n 64 = d) : bShr .u64 a n = ((a / d : Nat) : Int) := by
  show Int.fdiv a (2 ^ min n 64) = _
  have : ((2 : Int) ^ min n 64) = (d : Int) := by rw [← hd]; simp
  rw [this, Int.fdiv_eq_ediv_of_nonneg _ (by omega)]
  rfl

theorem and_lt' (a b n : Nat) (h : b < n) : a &&& b < n := Nat.lt_of_le_of_lt Nat.and_le_right h
def val8 (d0 d1 d2 d3 d4 d5 d6 d7 : Nat) : Nat := d0 + 256 * (d1 + 256 * (d2 + 256 * (d3 + 256 * (d4 + 256 * (d5 + 256 * (d6 + 256 * d7))))))

theorem oc_mid (c0 c1 c2 c3 c4 c5 c6 c7 n : Nat) (hb : ∀ b ∈ [c0, c1, c2, c3, c4, c5, c6, c7], b < 256) (hv : valB [c0, c1, c2, c3, c4, c5, c6, c7] = n) :
    s3 1085102592571150095 (s2 3689348814741910323 (s1 6148914691236517205 n)) = valB ([c0, c1, c2, c3, c4, c5, c6, c7].map fun c => s3 15 (s2 51 (s1 85 c))) := by
  have y1 := S1 _ hb
  have hm1 : valB ([c0, c1, c2, c3, c4, c5, c6, c7].map fun _ => 85) = 6148914691236517205 := by simp [valB]
  rw [hm1, hv] at y1
  have hb1 : ∀ b ∈ [c0, c1, c2, c3, c4, c5, c6, c7].map (s1 85), b < 256 := by
    intro b hb'
    obtain ⟨c, hc, rfl⟩ := List.mem_map.1 hb'
    exact (b4 c (hb c hc)).1
  have y2 := S2 _ hb1
  have hm2 : valB (([c0, c1, c2, c3, c4, c5, c6, c7].map (s1 85)).map fun _ => 51) = 3689348814741910323 := by simp [valB]
  rw [hm2] at y2
  have hb2 : ∀ b ∈ ([c0, c1, c2, c3, c4, c5, c6, c7].map (s1 85)).map (s2 51), b < 256 ∧ b % 16 ≤ 4 ∧ b / 16 ≤ 4 := by
    intro b hb'
    rw [List.map_map] at hb'
    obtain ⟨c, hc, rfl⟩ := List.mem_map.1 hb'
    have := b4 c (hb c hc)
    exact ⟨this.2.1, this.2.2.1, this.2.2.2.1⟩
  have y3 := S3 _ hb2
  have hm3 : valB ((([c0, c1, c2, c3, c4, c5, c6, c7].map (s1 85)).map (s2 51)).map fun _ => 15) = 1085102592571150095 := by simp [valB]
  rw [hm3] at y3
  rw [y1, y2, y3]
  rfl

theorem z8 (c0 c1 c2 c3 c4 c5 c6 c7 : Nat) (h : c0 + 256 * (c1 + 256 * (c2 + 256 * (c3 + 256 * (c4 + 256 * (c5 + 256 * (c6 + 256 * (c7 + 256 * 0))))))) = 0) : c0 = 0 ∧ c1 = 0 ∧ c2 = 0 ∧ c3 = 0 ∧ c4 = 0 ∧ c5 = 0 ∧ c6 = 0 ∧ c7 = 0 := by
  have z : ∀ a b : Nat, a + 256 * b = 0 → a = 0 ∧ b = 0 := by intro a b h; omega
  obtain ⟨q0, h⟩ := z _ _ h
  obtain ⟨q1, h⟩ := z _ _ h
  obtain ⟨q2, h⟩ := z _ _ h
  obtain ⟨q3, h⟩ := z _ _ h
  obtain ⟨q4, h⟩ := z _ _ h
  obtain ⟨q5, h⟩ := z _ _ h
  obtain ⟨q6, h⟩ := z _ _ h
  obtain ⟨q7, h⟩ := z _ _ h
  exact ⟨q0, q1, q2, q3, q4, q5, q6, q7⟩
theorem oc_pieces (n : Nat) (h : n < 18446744073709551616) : ∃ d0 d1 d2 d3 d4 d5 d6 d7 : Nat, s3 1085102592571150095 (s2 3689348814741910323 (s1 6148914691236517205 n)) = val8 d0 d1 d2 d3 d4 d5 d6 d7 ∧
    d0 ≤ 8 ∧ d1 ≤ 8 ∧ d2 ≤ 8 ∧ d3 ≤ 8 ∧ d4 ≤ 8 ∧ d5 ≤ 8 ∧ d6 ≤ 8 ∧ d7 ≤ 8 ∧ (d0 + d1 + d2 + d3 + d4 + d5 + d6 + d7 = 0 ↔ n = 0) := by
  have hb := bytesOf_lt 8 n
  have hv := bytesOf_val 8 n (by simpa using h)
  simp only [bytesOf] at hb hv
  have hm := oc_mid _ _ _ _ _ _ _ _ n hb hv
  generalize n % 256 = c0 at *
  generalize n / 256 % 256 = c1 at *
  generalize n / 256 / 256 % 256 = c2 at *
  generalize n / 256 / 256 / 256 % 256 = c3 at *
  generalize n / 256 / 256 / 256 / 256 % 256 = c4 at *
  generalize n / 256 / 256 / 256 / 256 / 256 % 256 = c5 at *
  generalize n / 256 / 256 / 256 / 256 / 256 / 256 % 256 = c6 at *
  generalize n / 256 / 256 / 256 / 256 / 256 / 256 / 256 % 256 = c7 at *
  have f0 := (b4 c0 (hb c0 (by simp))).2.2.2.2
  have f1 := (b4 c1 (hb c1 (by simp))).2.2.2.2
  have f2 := (b4 c2 (hb c2 (by simp))).2.2.2.2
  have f3 := (b4 c3 (hb c3 (by simp))).2.2.2.2
  have f4 := (b4 c4 (hb c4 (by simp))).2.2.2.2
  have f5 := (b4 c5 (hb c5 (by simp))).2.2.2.2
  have f6 := (b4 c6 (hb c6 (by simp))).2.2.2.2
  have f7 := (b4 c7 (hb c7 (by simp))).2.2.2.2
  refine ⟨s3 15 (s2 51 (s1 85 c0)), s3 15 (s2 51 (s1 85 c1)), s3 15 (s2 51 (s1 85 c2)), s3 15 (s2 51 (s1 85 c3)), s3 15 (s2 51 (s1 85 c4)), s3 15 (s2 51 (s1 85 c5)), s3 15 (s2 51 (s1 85 c6)), s3 15 (s2 51 (s1 85 c7)), hm, f0.1, f1.1, f2.1, f3.1, f4.1, f5.1, f6.1, f7.1, ?_⟩
  clear hm hb h
  simp only [valB] at hv
  constructor
  · intro h0
    simp only [Nat.add_eq_zero_iff] at h0
    obtain ⟨⟨⟨⟨⟨⟨⟨q0, q1⟩, q2⟩, q3⟩, q4⟩, q5⟩, q6⟩, q7⟩ := h0
    rw [← hv, f0.2.1 q0, f1.2.1 q1, f2.2.1 q2, f3.2.1 q3, f4.2.1 q4, f5.2.1 q5, f6.2.1 q6, f7.2.1 q7]
  · intro h0
    rw [h0] at hv
    obtain ⟨q0, q1, q2, q3, q4, q5, q6, q7⟩ := z8 _ _ _ _ _ _ _ _ hv
    rw [f0.2.2 q0, f1.2.2 q1, f2.2.2 q2, f3.2.2 q3, f4.2.2 q4, f5.2.2 q5, f6.2.2 q6, f7.2.2 q7]

theorem dv (m a r : Nat) (h : a < m) : (a + m * r) / m = r := by
  rw [Nat.add_mul_div_left _ _ (by omega), Nat.div_eq_of_lt h, Nat.zero_add]
theorem id4 (d0 d1 d2 d3 d4 d5 d6 d7 : Nat) : val8 d0 d1 d2 d3 d4 d5 d6 d7 + (d1 + 256 * (d2 + 256 * (d3 + 256 * (d4 + 256 * (d5 + 256 * (d6 + 256 * d7)))))) =
    ((d0 + d1) + 256 * (d1 + d2)) + 65536 * ((d2 + d3) + 256 * ((d3 + d4) + 256 * ((d4 + d5) + 256 * ((d5 + d6) + 256 * ((d6 + d7) + 256 * d7))))) := by
  unfold val8; omega
theorem id5 (d0 d1 d2 d3 d4 d5 d6 d7 : Nat) : ((d0 + d1) + 256 * (d1 + d2)) + 65536 * ((d2 + d3) + 256 * ((d3 + d4) + 256 * ((d4 + d5) + 256 * ((d5 + d6) + 256 * ((d6 + d7) + 256 * d7))))) + ((d2 + d3) + 256 * ((d3 + d4) + 256 * ((d4 + d5) + 256 * ((d5 + d6) + 256 * ((d6 + d7) + 256 * d7))))) =
    ((d0 + d1 + d2 + d3) + 256 * ((d1 + d2 + d3 + d4) + 256 * ((d2 + d3 + d4 + d5) + 256 * (d3 + d4 + d5 + d6)))) + 4294967296 * ((d4 + d5 + d6 + d7) + 256 * ((d5 + d6 + d7) + 256 * ((d6 + d7) + 256 * d7))) := by
  omega
theorem id6 (a r r2 b r' : Nat) (h : a + b < 128) : (a + 256 * r + 4294967296 * r2 + (b + 256 * r')) % 128 = a + b := by omega

theorem oc_sum (z3 d0 d1 d2 d3 d4 d5 d6 d7 : Nat) (h : z3 = val8 d0 d1 d2 d3 d4 d5 d6 d7) (h0 : d0 ≤ 8) (h1 : d1 ≤ 8) (h2 : d2 ≤ 8) (h3 : d3 ≤ 8) (h4 : d4 ≤ 8) (h5 : d5 ≤ 8) (h6 : d6 ≤ 8) (h7 : d7 ≤ 8) :
    ((z3 + z3 / 256) + (z3 + z3 / 256) / 65536 + ((z3 + z3 / 256) + (z3 + z3 / 256) / 65536) / 4294967296) % 128 = d0 + d1 + d2 + d3 + d4 + d5 + d6 + d7 := by
  have q3 : z3 / 256 = d1 + 256 * (d2 + 256 * (d3 + 256 * (d4 + 256 * (d5 + 256 * (d6 + 256 * d7))))) := by
    rw [h]; unfold val8; generalize d1 + 256 * (d2 + 256 * (d3 + 256 * (d4 + 256 * (d5 + 256 * (d6 + 256 * d7))))) = r; exact dv 256 d0 r (by omega)
  have q4 : z3 + z3 / 256 = ((d0 + d1) + 256 * (d1 + d2)) + 65536 * ((d2 + d3) + 256 * ((d3 + d4) + 256 * ((d4 + d5) + 256 * ((d5 + d6) + 256 * ((d6 + d7) + 256 * d7))))) := by
    rw [q3, h]; exact id4 d0 d1 d2 d3 d4 d5 d6 d7
  rw [q4]
  have q5 := dv 65536 ((d0 + d1) + 256 * (d1 + d2)) ((d2 + d3) + 256 * ((d3 + d4) + 256 * ((d4 + d5) + 256 * ((d5 + d6) + 256 * ((d6 + d7) + 256 * d7))))) (by clear q3 q4 h; omega)
  rw [q5, id5]
  have q7 := dv 4294967296 ((d0 + d1 + d2 + d3) + 256 * ((d1 + d2 + d3 + d4) + 256 * ((d2 + d3 + d4 + d5) + 256 * (d3 + d4 + d5 + d6)))) ((d4 + d5 + d6 + d7) + 256 * ((d5 + d6 + d7) + 256 * ((d6 + d7) + 256 * d7))) (by clear q3 q4 q5 h; omega)
  rw [q7, id6 _ _ _ _ _ (by clear q3 q4 q5 q7 h; omega)]
  clear q3 q4 q5 q7 h
  omega

theorem ocI_nat (n : Nat) (h : n < 18446744073709551616) : ∃ c : Nat, ocI n = (c : Int) ∧ c ≤ 64 ∧ (c = 0 ↔ n = 0) := by
  obtain ⟨d0, d1, d2, d3, d4, d5, d6, d7, hz, g0, g1, g2, g3, g4, g5, g6, g7, hn⟩ := oc_pieces n h
  have hs1 : s1 6148914691236517205 n < 18446744073709551616 := by
    unfold s1
    have h1 := and_lt' (n / 2) 6148914691236517205 6148914691236517206 (by omega)
    have h2 := and_lt' n 6148914691236517205 6148914691236517206 (by omega)
    omega
  generalize hg1 : s1 6148914691236517205 n = z1 at hz hs1
  have hs2 : s2 3689348814741910323 z1 < 9223372036854775808 := by
    unfold s2
    have h1 := and_lt' (z1 / 4) 3689348814741910323 3689348814741910324 (by omega)
    have h2 := and_lt' z1 3689348814741910323 3689348814741910324 (by omega)
    omega
  generalize hg2 : s2 3689348814741910323 z1 = z2 at hz hs2
  have hs3 : s3 1085102592571150095 z2 < 1085102592571150096 := and_lt' _ _ _ (by omega)
  generalize hg3 : s3 1085102592571150095 z2 = z3 at hz hs3
  have e1 : bAdd .u64 (bAnd .u64 (bShr .u64 n 1) 6148914691236517205) (bAnd .u64 n 6148914691236517205) = (z1 : Int) := by
    rw [bShr_nat n 1 2 rfl]
    have a1 := bAnd_nat (n / 2) 6148914691236517205 (by omega) (by omega)
    have a2 := bAnd_nat n 6148914691236517205 (by omega) (by omega)
    simp only [Int.cast_ofNat_Int] at a1 a2
    rw [a1, a2, bAdd_nat _ _ (by unfold s1 at hg1; omega), ← hg1]; rfl
  have e2 : bAdd .u64 (bAnd .u64 (bShr .u64 z1 2) 3689348814741910323) (bAnd .u64 z1 3689348814741910323) = (z2 : Int) := by
    rw [bShr_nat z1 2 4 rfl]
    have a1 := bAnd_nat (z1 / 4) 3689348814741910323 (by omega) (by omega)
    have a2 := bAnd_nat z1 3689348814741910323 (by omega) (by omega)
    simp only [Int.cast_ofNat_Int] at a1 a2
    rw [a1, a2, bAdd_nat _ _ (by unfold s2 at hg2; omega), ← hg2]; rfl
  have e3 : bAnd .u64 (bAdd .u64 (bShr .u64 z2 4) z2) 1085102592571150095 = (z3 : Int) := by
    rw [bShr_nat z2 4 16 rfl, bAdd_nat _ _ (by omega)]
    have a1 := bAnd_nat (z2 / 16 + z2) 1085102592571150095 (by omega) (by omega)
    simp only [Int.cast_ofNat_Int] at a1
    rw [a1, ← hg3]; rfl
  have hsum := oc_sum z3 d0 d1 d2 d3 d4 d5 d6 d7 hz g0 g1 g2 g3 g4 g5 g6 g7
  clear hz hg1 hg2 hg3 hs1 hs2
  have e4 : bAdd .u64 z3 (bShr .u64 z3 8) = ((z3 + z3 / 256 : Nat) : Int) := by
    clear hsum
    rw [bShr_nat z3 8 256 rfl, bAdd_nat _ _ (by omega)]
  have hl4 : z3 + z3 / 256 < 2 * 1085102592571150096 := by clear hsum; omega
  generalize z3 + z3 / 256 = z4 at e4 hsum hl4
  have e5 : bAdd .u64 z4 (bShr .u64 z4 16) = ((z4 + z4 / 65536 : Nat) : Int) := by
    clear hsum
    rw [bShr_nat z4 16 65536 rfl, bAdd_nat _ _ (by omega)]
  have hl5 : z4 + z4 / 65536 < 3 * 1085102592571150096 := by clear hsum; omega
  generalize z4 + z4 / 65536 = z5 at e5 hsum hl5
  have e6 : bAdd .u64 z5 (bShr .u64 z5 32) = ((z5 + z5 / 4294967296 : Nat) : Int) := by
    clear hsum
    rw [bShr_nat z5 32 4294967296 rfl, bAdd_nat _ _ (by omega)]
  have hl6 : z5 + z5 / 4294967296 < 9223372036854775808 := by clear hsum; omega
  generalize z5 + z5 / 4294967296 = z6 at e6 hsum hl6
  have e7 : bAnd .i64 (bCv .i64 (z6 : Int)) 127 = ((z6 % 128 : Nat) : Int) := by
    clear hsum
    rw [bCv_nat z6 (by omega)]
    have a1 := bAndi_nat z6 127 (by omega) (by omega)
    simp only [Int.cast_ofNat_Int] at a1
    rw [a1]
    have : z6 &&& 127 = z6 % 2 ^ 7 := Nat.and_two_pow_sub_one_eq_mod z6 7
    rw [this]
  refine ⟨z6 % 128, ?_, ?_, ?_⟩
  · unfold ocI
    simp only [e1, e2, e3, e4, e5, e6, e7]
  · rw [hsum]; omega
  · rw [hsum]; exact hn

theorem ocI_spec (x : Int) (h : u64ok x) : 0 ≤ ocI x ∧ ocI x ≤ 64 ∧ (ocI x = 0 ↔ x = 0) := by
  obtain ⟨h0, h1⟩ := h
  obtain ⟨n, rfl⟩ := Int.eq_ofNat_of_zero_le h0
  obtain ⟨c, hc, hc1, hc2⟩ := ocI_nat n (by omega)
  rw [hc]
  omega

theorem setC_pos (n : Nd) (h : n.wf) : (setC n.s0 n.s1 n.s2 n.s3 4 > 0 ↔ n.noset = false) ∧ 0 ≤ setC n.s0 n.s1 n.s2 n.s3 4 := by
  have h0 := ocI_spec _ h.s0
  have h1 := ocI_spec _ h.s1
  have h2 := ocI_spec _ h.s2
  have h3 := ocI_spec _ h.s3
  simp only [setC, Nd.noset]
  generalize ocI n.s0 = c0 at *
  generalize ocI n.s1 = c1 at *
  generalize ocI n.s2 = c2 at *
  generalize ocI n.s3 = c3 at *
  refine ⟨?_, by omega⟩
  rw [Bool.eq_false_iff, ne_eq, Bool.and_eq_true, Bool.and_eq_true, Bool.and_eq_true, beq_iff_eq, beq_iff_eq, beq_iff_eq, beq_iff_eq, ← h0.2.2, ← h1.2.2, ← h2.2.2, ← h3.2.2]
  omega


theorem kar_bd (k : Int) : 0 ≤ kar k ∧ kar k ≤ 2 := by unfold kar; split <;> (try split) <;> omega
theorem drop_of_get {α : Type} {l : List α} {i : Nat} {e : α} (h : l[i]? = some e) : l.drop i = e :: l.drop (i + 1) := by
  obtain ⟨hi, rfl⟩ := List.getElem?_eq_some_iff.1 h
  exact List.drop_eq_getElem_cons hi
theorem arity_of_may {n : Nd} (h : n.may = true) : arity n.kind = kar n.kind := by
  refine (kar_of_arity ?_).symm
  unfold Nd.may at h
  simp only [Bool.and_eq_true, decide_eq_true_eq] at h
  exact h.1.1
theorem chk_step {nds : List Nd} {i : Nat} {e : Nd} {t : Int} (he : nds[i]? = some e) (hm : e.may = true) (ht : ¬ kar e.kind > t) : chk (nds.drop i) t i = chk (nds.drop (i + 1)) (t - (kar e.kind - 1)) (i + 1) := by
  rw [drop_of_get he, chk, if_pos ⟨hm, by rw [arity_of_may hm]; omega⟩, arity_of_may hm]
  congr 1
  omega
theorem chk_bad {nds : List Nd} {i : Nat} {e : Nd} {t : Int} (he : nds[i]? = some e) (h : e.may = false ∨ kar e.kind > t) : chk (nds.drop i) t i = some i := by
  rw [drop_of_get he, chk, if_neg]
  rintro ⟨hm, ha⟩
  rw [arity_of_may hm] at ha
  rcases h with h | h
  · rw [hm] at h; cases h
  · omega
theorem chk_end {nds : List Nd} {i : Nat} {t : Int} (h : nds.length ≤ i) : chk (nds.drop i) t i = if t = 1 then none else some i := by
  rw [List.drop_of_length_le h]; rfl
/-- What Check tells. -/
def chkR (nds : List Nd) : Int × Int := match chk nds 0 0 with
  | none => (0, 0)
  | some i => (i, 140)
/-- What the reference's Check tells. -/
def chkZ (nds : List Nd) : Int := match chk nds 0 0 with
  | none => -1
  | some i => i
/-- A row of nodes as it lies in memory. -/
abbrev NdsAt (Φ : Phi) (A : Option Addr) (nds : List Nd) : Prop := RdC Φ A (nds.flatMap Nd.cells)
theorem nds_pos {nds : List Nd} (h : 0 < nds.length) : 0 < (nds.flatMap Nd.cells).length := by rw [flat_len Nd.cells_len]; omega

theorem Nd.may_no {n : Nd} (h : ¬ (1 ≤ n.kind ∧ n.kind ≤ 9)) : n.may = false := by
  rw [Nd.may_of, if_neg (by omega), if_neg (by omega), if_neg (by omega)]
theorem Nd.kind_of_may {n : Nd} (h : n.may = true) : 1 ≤ n.kind ∧ n.kind ≤ 9 := by
  by_cases hk : 1 ≤ n.kind ∧ n.kind ≤ 9
  · exact hk
  · rw [Nd.may_no hk] at h; cases h

theorem arity_bd (k : Int) : -1 ≤ arity k ∧ arity k ≤ 2 := by unfold arity; split <;> (try split) <;> (try split) <;> omega
theorem take_succ_get {α : Type} {l : List α} {i : Nat} {e : α} (h : l[i]? = some e) : l.take (i + 1) = l.take i ++ [e] := by
  rw [List.take_add_one, h]; rfl
theorem same_step {α : Type} {xs ys : List α} {i : Nat} {a b : α} (h : xs.take i = ys.take i) (ha : xs[i]? = some a) (hb : ys[i]? = some b) (he : a = b) : xs.take (i + 1) = ys.take (i + 1) := by
  rw [take_succ_get ha, take_succ_get hb, h, he]
theorem same_bad {α : Type} {xs ys : List α} {i : Nat} {a b : α} (ha : xs[i]? = some a) (hb : ys[i]? = some b) (he : a ≠ b) : ¬ xs = ys := by
  rintro rfl
  rw [ha] at hb
  exact he (Option.some.inj hb)
theorem same_end {α : Type} {xs ys : List α} {i : Nat} (hi : i ≤ xs.length) (h1 : xs.length ≤ i) (h2 : xs.length = ys.length) (h : xs.take i = ys.take i) : xs = ys := by
  rw [List.take_of_length_le h1, List.take_of_length_le (by omega)] at h
  exact h
theorem nd_neq (a b : Nd) : (!((a.kind == b.kind) && (((a.s0 == b.s0) && ((a.s1 == b.s1) && ((a.s2 == b.s2) && ((a.s3 == b.s3) && true)))) && ((a.mn == b.mn) && ((a.mx == b.mx) && true))))) = decide (a ≠ b) := by
  obtain ⟨a1, a2, a3, a4, a5, a6, a7⟩ := a
  obtain ⟨b1, b2, b3, b4, b5, b6, b7⟩ := b
  rw [Bool.eq_iff_iff]
  simp [Bool.and_eq_true]
  grind

theorem nds_one (nds : List Nd) : ∀ u ∈ nds.flatMap Nd.cells, u.oneCell' = true := by
  intro u hu
  obtain ⟨n, _, hn⟩ := List.mem_flatMap.1 hu
  revert u
  exact fun u _ hn => one_lits n.cells rfl u hn

theorem chkR_ok {nds : List Nd} (h : chk nds 0 0 = none) : chkR nds = (0, 0) := by rw [chkR, h]
theorem chkR_no {nds : List Nd} {i : Nat} (h : chk nds 0 0 = some i) : chkR nds = ((i : Int), 140) := by rw [chkR, h]
theorem nds_nil {Φ : Phi} {nds : List Nd} (h : NdsAt Φ none nds) : nds = [] := by
  cases nds with
  | nil => rfl
  | cons n l =>
    obtain ⟨b, off, cs, hA, _⟩ := h (nds_pos (by simp))
    cases hA

theorem flat_take {α : Type} {enc : α → List Value} {sz : Nat} (hsz : ∀ x, (enc x).length = sz) : ∀ (xs : List α) (n : Nat), (xs.take n).flatMap enc = (xs.flatMap enc).take (n * sz)
  | [], n => by simp
  | x :: xs, 0 => by simp
  | x :: xs, n + 1 => by
    have h1 : (n + 1) * sz = (enc x).length + n * sz := by rw [hsz, Nat.succ_mul]; omega
    rw [List.take_succ_cons, List.flatMap_cons, List.flatMap_cons, flat_take hsz xs n, h1, List.take_length_add_append]
theorem nds_take {Φ : Phi} {A : Option Addr} {nds : List Nd} (h : NdsAt Φ A nds) (n : Nat) : NdsAt Φ A (nds.take n) := by
  unfold NdsAt
  rw [flat_take Nd.cells_len]
  exact h.take _
theorem take_le {α : Type} {l : List α} {m : Nat} (h : l.length ≤ m) (n : Nat) : (l.take n).length ≤ m := by simp only [List.length_take]; omega

end Go.Sx
