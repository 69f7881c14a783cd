/- Words of 64 bits that tell whole numbers: what adding, subtracting, multiplying, comparing and cutting them gives. -/
import Ieee.Arith
import Derived.Laws.ComplexArith
set_option linter.unusedVariables false
set_option linter.unusedSimpArgs false
namespace Go.Proofs.YtjcpghecflbpjaaX
open Ieee

theorem log2_lt_of {m k : Nat} (h : m < 2 ^ k) (hm : m ≠ 0) : m.log2 < k := (Nat.log2_lt hm).2 h

theorem log2_sl (n d : Nat) (hn : n ≠ 0) : (n <<< d).log2 = n.log2 + d := by
  rw [Nat.shiftLeft_eq]
  induction d with
  | zero => simp
  | succ d ih => rw [Nat.pow_succ, ← Nat.mul_assoc, Nat.mul_comm, Nat.log2_two_mul (Nat.mul_ne_zero hn (by have := Nat.two_pow_pos d; omega)), ih]; omega
theorem dleast : double.leastPlace = -1074 := by rfl
theorem dbin : double.binade = 2 ^ 52 := by rfl
theorem dinf : double.infRung = 2047 * 2 ^ 52 := by rfl
theorem dsign : double.signWeight = 2 ^ 63 := by rfl

/-- The word of a whole number: its sign, its magnitude (below 2^53). -/
def W (s : Bool) (n : Nat) : Nat := double.nearest s n 0

theorem cut_zero (s : Bool) (n : Nat) : Toward.even.cut s n 0 = n := by
  unfold Toward.cut
  simp [Nat.min_eq_left, Nat.mod_one]

theorem cut_exact (s : Bool) (n d : Nat) (hn : n ≠ 0) : Toward.even.cut s (n <<< d) d = n := by
  have hl : (n <<< d).log2 = n.log2 + d := log2_sl n d hn
  unfold Toward.cut
  have hm : min d ((n <<< d).log2 + 2) = d := by rw [hl]; omega
  rw [hm]
  have h1 : 1 <<< d = 2 ^ d := by rw [Nat.shiftLeft_eq, Nat.one_mul]
  have h2 : (n <<< d) % 2 ^ d = 0 := by rw [Nat.shiftLeft_eq]; exact Nat.mul_mod_left ..
  have h3 : (n <<< d) / 2 ^ d = n := by rw [Nat.shiftLeft_eq]; exact Nat.mul_div_cancel _ (Nat.two_pow_pos d)
  have h4 : 0 < 2 ^ d := Nat.two_pow_pos d
  simp only [h1, h2, h3]
  have : decide (2 ^ d < 2 * 0) = false := by simp
  rw [this]
  have h5 : (2 ^ d == 2 * 0) = false := by rw [beq_eq_false_iff_ne]; omega
  simp only [h5]
  simp

/-- A whole number told at any place is the same word. -/
theorem nearest_shift (s : Bool) (n k : Nat) (hn : n < 2 ^ 53) (p : Int) (hp : p = -(k : Int)) : double.nearest s (n <<< k) p = W s n := by
  unfold W Format.nearest
  by_cases h0 : n = 0
  · subst h0; simp
  have h1 : n <<< k ≠ 0 := by rw [Nat.shiftLeft_eq]; have := Nat.two_pow_pos k; exact Nat.mul_ne_zero h0 (by omega)
  rw [if_neg h1, if_neg h0]
  have hl : (n <<< k).log2 = n.log2 + k := log2_sl n k h0
  have hlt : n.log2 < 53 := log2_lt_of hn h0
  rw [dleast, hl]
  have hfb : (double.fractionBits : Int) = 52 := rfl
  rw [hfb]
  have ha : max (p + ((n.log2 + k : Nat) : Int) - 52) (-1074) = (n.log2 : Int) - 52 := by omega
  have hb : max ((0 : Int) + (n.log2 : Int) - 52) (-1074) = (n.log2 : Int) - 52 := by omega
  simp only [ha, hb]
  have hq : ((n.log2 : Int) - 52 - 0).toNat = 0 := by omega
  rw [hq, cut_zero]
  by_cases hk : p ≤ (n.log2 : Int) - 52
  · have hz : (p - ((n.log2 : Int) - 52)).toNat = 0 := by omega
    rw [hz]
    obtain ⟨d, hd⟩ : ∃ d : Nat, ((n.log2 : Int) - 52 - p).toNat = d := ⟨_, rfl⟩
    have hkd : k = (0 - ((n.log2 : Int) - 52)).toNat + d := by omega
    rw [hd, hkd, Nat.shiftLeft_add, Nat.shiftLeft_zero, cut_exact]
    rw [Nat.shiftLeft_eq]; exact Nat.mul_ne_zero h0 (by have := Nat.two_pow_pos (0 - ((n.log2 : Int) - 52)).toNat; omega)
  · have hz : ((n.log2 : Int) - 52 - p).toNat = 0 := by omega
    rw [hz, cut_zero, ← Nat.shiftLeft_add]
    have : k + (p - ((n.log2 : Int) - 52)).toNat = (0 - ((n.log2 : Int) - 52)).toNat := by omega
    rw [this]

theorem top_digit (n l : Nat) (hlo : 2 ^ l ≤ n) (hhi : n < 2 ^ (l + 1)) (hl : l ≤ 52) : 2 ^ 52 ≤ n <<< (52 - l) ∧ n <<< (52 - l) < 2 ^ 53 := by
  rw [Nat.shiftLeft_eq]
  have a : 2 ^ l * 2 ^ (52 - l) = 2 ^ 52 := by rw [← Nat.pow_add, show l + (52 - l) = 52 by omega]
  have b : 2 ^ (l + 1) * 2 ^ (52 - l) = 2 ^ 53 := by rw [← Nat.pow_add, show l + 1 + (52 - l) = 53 by omega]
  exact ⟨a ▸ Nat.mul_le_mul_right _ hlo, b ▸ Nat.mul_lt_mul_of_pos_right hhi (Nat.two_pow_pos _)⟩

theorem word_parts (s : Bool) (r : Nat) (h : r < 2 ^ 63) : double.word s r / 2 ^ 63 % 2 = s.toNat ∧ double.word s r % 2 ^ 63 = r := by
  unfold Format.word
  rw [dsign]
  cases s
  · simp only [Bool.false_eq_true, if_false, Bool.toNat_false]
    omega
  · simp only [if_true, Bool.toNat_true]
    omega

/-- What the word of a whole number reads as. -/
theorem read_W (s : Bool) (n : Nat) (hn : n < 2 ^ 53) (h0 : n ≠ 0) : double.read (W s n) = .number s (n <<< (52 - n.log2)) ((n.log2 : Int) - 52) := by
  have hlt : n.log2 < 53 := log2_lt_of hn h0
  have hlo : 2 ^ n.log2 ≤ n := Nat.log2_self_le h0
  have hhi : n < 2 ^ (n.log2 + 1) := Nat.lt_log2_self
  unfold W Format.nearest
  rw [if_neg h0, dleast, dbin, dinf]
  have hfb : (double.fractionBits : Int) = 52 := rfl
  rw [hfb]
  have hb : max ((0 : Int) + (n.log2 : Int) - 52) (-1074) = (n.log2 : Int) - 52 := by omega
  simp only [hb]
  have hq : ((n.log2 : Int) - 52 - 0).toNat = 0 := by omega
  rw [hq, cut_zero]
  have e1 : (0 - ((n.log2 : Int) - 52)).toNat = 52 - n.log2 := by omega
  have e2 : ((n.log2 : Int) - 52 - -1074).toNat = n.log2 + 1022 := by omega
  rw [e1, e2]
  obtain ⟨hk1, hk2⟩ := top_digit n n.log2 hlo hhi (by omega)
  generalize n <<< (52 - n.log2) = m at *
  generalize n.log2 = l at *
  clear hlo hhi hn h0 hb hq e1 e2 hfb
  have hmin : min ((l + 1022) * 2 ^ 52 + m) (2047 * 2 ^ 52) = (l + 1022) * 2 ^ 52 + m := by omega
  rw [hmin]
  have hw := word_parts s ((l + 1022) * 2 ^ 52 + m) (by omega)
  unfold Format.read
  rw [dsign, dbin, dinf, dleast]
  simp only [hw.1, hw.2]
  rw [if_neg (by omega), if_pos (by omega)]
  have e3 : ((l + 1022) * 2 ^ 52 + m) / 2 ^ 52 = l + 1023 := by omega
  have e4 : ((l + 1022) * 2 ^ 52 + m) % 2 ^ 52 = m - 2 ^ 52 := by omega
  rw [e3, e4]
  have e5 : 2 ^ 52 + (m - 2 ^ 52) = m := by omega
  rw [e5]
  have e6 : (-1074 : Int) + ((l + 1023 - 1 : Nat) : Int) = (l : Int) - 52 := by omega
  rw [e6]
  cases s <;> rfl

theorem read_W0 (s : Bool) : double.read (W s 0) = .number s 0 (-1074) := by cases s <;> rfl

/-- As one form. -/
theorem read_W' (s : Bool) (n : Nat) (hn : n < 2 ^ 53) : ∃ k : Nat, ∃ p : Int, double.read (W s n) = .number s (n <<< k) p ∧ p = -(k : Int) := by
  by_cases h0 : n = 0
  · subst h0; exact ⟨1074, _, by rw [read_W0]; simp, rfl⟩
  · exact ⟨52 - n.log2, _, read_W s n hn h0, by have := log2_lt_of hn h0; omega⟩

/-- A word tells a whole number (of a zero: either sign). -/
def IsF (b : Nat) (z : Int) : Prop := ∃ s n, n < 2 ^ 53 ∧ b = W s n ∧ z = signed s n 0

theorem signed_shift (s : Bool) (n k d : Nat) : signed s (n <<< k) d = signed s n 0 * 2 ^ (k + d) := by
  unfold signed
  cases s <;> simp [Nat.shiftLeft_eq, Int.pow_add, Int.mul_assoc, Int.neg_mul]

theorem signed_abs (s : Bool) (n : Nat) : (signed s n 0).natAbs = n := by
  unfold signed
  cases s <;> simp

theorem signed_of (z : Int) : signed (decide (z < 0)) z.natAbs 0 = z := by
  unfold signed
  by_cases h : z < 0
  · simp [h]; omega
  · simp [h]; omega

/-- A sum that is a whole number at a place below 0 is written as that number's word. -/
theorem write_sum (s : Bool) (z : Int) (k : Nat) (h : z.natAbs < 2 ^ 53) (p : Int) (hp : p = -(k : Int)) : double.write (.number s (z * 2 ^ k).natAbs p) = W s z.natAbs := by
  unfold Format.write
  have : (z * 2 ^ k).natAbs = z.natAbs <<< k := by
    rw [Int.natAbs_mul, Nat.shiftLeft_eq, Int.natAbs_pow]
    rfl
  simp only [this]
  exact nearest_shift s _ k h p hp

theorem sum_data (s t : Bool) (m n : Nat) (i j : Nat) (h : (signed s m 0 + signed t n 0).natAbs < 2 ^ 53) :
    ∃ u, ((Datum.number s (m <<< i) (-(i : Int))).sum (.number t (n <<< j) (-(j : Int)))).map double.write = some (W u (signed s m 0 + signed t n 0).natAbs) ∧
      ((signed s m 0 + signed t n 0) ≠ 0 → u = decide (signed s m 0 + signed t n 0 < 0)) := by
  unfold Datum.sum
  obtain ⟨b, hb⟩ : ∃ b : Nat, min (-(i : Int)) (-(j : Int)) = -(b : Int) ∧ i ≤ b ∧ j ≤ b := ⟨max i j, by omega, by omega, by omega⟩
  obtain ⟨hb, hi, hj⟩ := hb
  simp only [hb, Option.map_some]
  have e1 : (-(i : Int) - -(b : Int)).toNat = b - i := by omega
  have e2 : (-(j : Int) - -(b : Int)).toNat = b - j := by omega
  rw [e1, e2, signed_shift, signed_shift, show i + (b - i) = b by omega, show j + (b - j) = b by omega, ← Int.add_mul]
  generalize signed s m 0 + signed t n 0 = z at *
  refine ⟨_, congrArg some (write_sum _ z b h _ rfl), fun hz => ?_⟩
  have hp : (0 : Int) < 2 ^ b := Int.pow_pos (by omega)
  have h1 : z * 2 ^ b ≠ 0 := Int.mul_ne_zero hz (by omega)
  rw [if_neg h1]
  by_cases hn : z < 0
  · have := Int.mul_neg_of_neg_of_pos hn hp
    simp [hn, this]
  · have := Int.mul_nonneg (show 0 ≤ z by omega) (show (0 : Int) ≤ 2 ^ b by omega)
    simp [hn, this]

theorem signed_u (u : Bool) (z : Int) (h : z ≠ 0 → u = decide (z < 0)) : z = signed u z.natAbs 0 := by
  by_cases hz : z = 0
  · subst hz; cases u <;> rfl
  · rw [h hz]; exact (signed_of z).symm

theorem IsF.add {x y : Nat} {a b : Int} (hx : IsF x a) (hy : IsF y b) (h : (a + b).natAbs < 2 ^ 53) : ∃ r, double.add x y = some r ∧ IsF r (a + b) := by
  obtain ⟨s, m, hm, rfl, rfl⟩ := hx
  obtain ⟨t, n, hn, rfl, rfl⟩ := hy
  obtain ⟨i, p, ep, rfl⟩ := read_W' s m hm
  obtain ⟨j, q, eq, rfl⟩ := read_W' t n hn
  obtain ⟨u, h1, h2⟩ := sum_data s t m n i j h
  refine ⟨_, ?_, u, _, h, rfl, signed_u u _ h2⟩
  unfold Format.add
  rw [ep, eq]
  exact h1

theorem IsF.sub {x y : Nat} {a b : Int} (hx : IsF x a) (hy : IsF y b) (h : (a - b).natAbs < 2 ^ 53) : ∃ r, double.sub x y = some r ∧ IsF r (a - b) := by
  obtain ⟨s, m, hm, rfl, rfl⟩ := hx
  obtain ⟨t, n, hn, rfl, rfl⟩ := hy
  obtain ⟨i, p, ep, rfl⟩ := read_W' s m hm
  obtain ⟨j, q, eq, rfl⟩ := read_W' t n hn
  have ht : signed (!t) n 0 = - signed t n 0 := by unfold signed; cases t <;> simp
  have hz : signed s m 0 - signed t n 0 = signed s m 0 + signed (!t) n 0 := by rw [ht]; omega
  rw [hz] at h ⊢
  obtain ⟨u, h1, h2⟩ := sum_data s (!t) m n i j h
  refine ⟨_, ?_, u, _, h, rfl, signed_u u _ h2⟩
  unfold Format.sub
  rw [ep, eq]
  exact h1

theorem IsF.mul {x y : Nat} {a b : Int} (hx : IsF x a) (hy : IsF y b) (h : (a * b).natAbs < 2 ^ 53) : ∃ r, double.mul x y = some r ∧ IsF r (a * b) := by
  obtain ⟨s, m, hm, rfl, rfl⟩ := hx
  obtain ⟨t, n, hn, rfl, rfl⟩ := hy
  obtain ⟨i, p, ep, rfl⟩ := read_W' s m hm
  obtain ⟨j, q, eq, rfl⟩ := read_W' t n hn
  have hab : (signed s m 0 * signed t n 0).natAbs = m * n := by rw [Int.natAbs_mul, signed_abs, signed_abs]
  rw [hab] at h
  refine ⟨W (s ^^ t) (m * n), ?_, s ^^ t, m * n, h, rfl, ?_⟩
  · unfold Format.mul
    rw [ep, eq]
    unfold Datum.product
    simp only [Option.map_some]
    have : m <<< i * n <<< j = (m * n) <<< (i + j) := by
      simp only [Nat.shiftLeft_eq, Nat.pow_add]
      rw [Nat.mul_mul_mul_comm]
    rw [this]
    exact congrArg some (nearest_shift _ _ _ h _ (by omega))
  · unfold signed
    cases s <;> cases t <;> simp [Int.neg_mul, Int.mul_neg]

theorem cmp_lt {a b : Int} (h : a < b) : compare a b = .lt := by simp [compare, compareOfLessAndEq, h]
theorem cmp_gt {a b : Int} (h : b < a) : compare a b = .gt := by
  simp [compare, compareOfLessAndEq, show ¬ a < b by omega, show ¬ a = b by omega]

theorem IsF.order {x y : Nat} {a b : Int} (hx : IsF x a) (hy : IsF y b) : double.order x y = some (compare a b) := by
  obtain ⟨s, m, hm, rfl, rfl⟩ := hx
  obtain ⟨t, n, hn, rfl, rfl⟩ := hy
  obtain ⟨i, p, ep, rfl⟩ := read_W' s m hm
  obtain ⟨j, q, eq, rfl⟩ := read_W' t n hn
  unfold Format.order
  rw [ep, eq]
  unfold Datum.order
  obtain ⟨b, hb, hi, hj⟩ : ∃ b : Nat, min (-(i : Int)) (-(j : Int)) = -(b : Int) ∧ i ≤ b ∧ j ≤ b := ⟨max i j, by omega, by omega, by omega⟩
  simp only [hb]
  have e1 : (-(i : Int) - -(b : Int)).toNat = b - i := by omega
  have e2 : (-(j : Int) - -(b : Int)).toNat = b - j := by omega
  rw [e1, e2, signed_shift, signed_shift, show i + (b - i) = b by omega, show j + (b - j) = b by omega]
  generalize signed s m 0 = x
  generalize signed t n 0 = y
  have hp : (0 : Int) < 2 ^ b := Int.pow_pos (by omega)
  congr 1
  rcases Int.lt_trichotomy x y with h | h | h
  · have := Int.mul_lt_mul_of_pos_right h hp
    rw [cmp_lt h, cmp_lt this]
  · subst h; simp
  · have := Int.mul_lt_mul_of_pos_right h hp
    rw [cmp_gt h, cmp_gt this]

theorem cut_exact_zero (s : Bool) (n d : Nat) : Toward.zero.cut s (n <<< d) d = n := by
  unfold Toward.cut
  simp only [Bool.toNat_false, Nat.add_zero]
  by_cases h0 : n = 0
  · subst h0; simp
  · rw [log2_sl n d h0, show min d (n.log2 + d + 2) = d by omega, Nat.shiftLeft_eq, Nat.shiftLeft_eq, Nat.one_mul]
    exact Nat.mul_div_cancel _ (Nat.two_pow_pos d)

theorem IsF.toInt {x : Nat} {a : Int} (hx : IsF x a) : (double.read x).toInt .zero = some a := by
  obtain ⟨s, m, hm, rfl, rfl⟩ := hx
  obtain ⟨i, p, ep, rfl⟩ := read_W' s m hm
  rw [ep]
  unfold Datum.toInt Datum.integral
  simp only
  have e1 : (-(-(i : Int))).toNat = i := by omega
  have e2 : (-(i : Int)).toNat = 0 := by omega
  rw [e1, e2, Nat.shiftLeft_zero, cut_exact_zero]

theorem IsF.ofInt (z : Int) (h : z.natAbs < 2 ^ 53) : IsF (double.write (.number (decide (z < 0)) z.natAbs 0)) z :=
  ⟨_, _, h, rfl, (signed_of z).symm⟩
theorem IsF.nought : IsF 0 0 := ⟨false, 0, by decide, by rfl, by rfl⟩
theorem IsF.one : IsF 4607182418800017408 1 := ⟨false, 1, by decide, by rfl, by rfl⟩

theorem xor_top (r : Nat) (h : r < 2 ^ 63) : r ^^^ 2 ^ 63 = 2 ^ 63 + r := by
  apply Nat.eq_of_testBit_eq
  intro i
  rw [Nat.testBit_xor, Nat.testBit_two_pow]
  rcases Nat.lt_trichotomy i 63 with hi | hi | hi
  · rw [Nat.testBit_two_pow_add_gt hi, show decide (63 = i) = false from decide_eq_false (by omega), Bool.xor_false]
  · subst hi
    rw [Nat.testBit_two_pow_add_eq, show decide (63 = 63) = true from rfl, Bool.xor_true]
  · have h1 : r.testBit i = false := Nat.testBit_lt_two_pow (Nat.lt_of_lt_of_le h (Nat.pow_le_pow_right (by omega) (by omega)))
    have h2 : (2 ^ 63 + r).testBit i = false := Nat.testBit_lt_two_pow (Nat.lt_of_lt_of_le (show 2 ^ 63 + r < 2 ^ 64 by omega) (Nat.pow_le_pow_right (by omega) (by omega)))
    rw [h1, h2, show decide (63 = i) = false from decide_eq_false (by omega)]
    rfl
theorem W_rung (n : Nat) : ∃ r, r < 2 ^ 63 ∧ ∀ s, W s n = double.word s r := by
  by_cases h : n = 0
  · exact ⟨0, by decide, fun s => by unfold W Format.nearest; rw [if_pos h]⟩
  · refine ⟨min ((max ((0 : Int) + n.log2 - double.fractionBits) double.leastPlace - double.leastPlace).toNat * double.binade + Toward.even.cut false (n <<< ((0 : Int) - max ((0 : Int) + n.log2 - double.fractionBits) double.leastPlace).toNat) (max ((0 : Int) + n.log2 - double.fractionBits) double.leastPlace - 0).toNat) double.infRung, ?_, fun s => ?_⟩
    · exact Nat.lt_of_le_of_lt (Nat.min_le_right _ _) (by rw [dinf]; decide)
    · unfold W Format.nearest
      rw [if_neg h]
      rfl
theorem IsF.neg {x : Nat} {a : Int} (h : IsF x a) : IsF (x ^^^ 2 ^ 63) (-a) := by
  obtain ⟨s, m, hm, rfl, rfl⟩ := h
  obtain ⟨r, hr, hw⟩ := W_rung m
  refine ⟨!s, m, hm, ?_, ?_⟩
  · rw [hw, hw]
    unfold Format.word
    rw [dsign]
    cases s
    · simp only [Bool.false_eq_true, if_false, Bool.not_false, if_true]
      exact xor_top r hr
    · simp only [if_true, Bool.not_true, Bool.false_eq_true, if_false]
      rw [← xor_top r hr, Nat.xor_assoc, Nat.xor_self, Nat.xor_zero]
  · unfold signed
    cases s <;> simp

/-- The two parts of a point. -/
def IsC (re im : Nat) (a b : Int) : Prop := IsF re a ∧ IsF im b
theorem mul_of {re im c d : Nat} {a b x y : Int} (h : IsC re im a b) (k : IsC c d x y) (hab : a.natAbs ≤ 4294967296 ∧ b.natAbs ≤ 4294967296) (hxy : x.natAbs ≤ 65536 ∧ y.natAbs ≤ 65536) :
    ∃ r i, Go.cMulBits re im c d = some (r, i) ∧ IsC r i (a * x - b * y) (a * y + b * x) := by
  have bd : ∀ {p q : Int}, p.natAbs ≤ 4294967296 → q.natAbs ≤ 65536 → (p * q).natAbs ≤ 281474976710656 := by
    intro p q hp hq
    rw [Int.natAbs_mul]
    calc p.natAbs * q.natAbs ≤ 4294967296 * 65536 := Nat.mul_le_mul hp hq
      _ = 281474976710656 := by decide
  have l53 : ∀ n : Nat, n ≤ 562949953421312 → n < 2 ^ 53 := fun n hn => by omega
  have b1 := bd hab.1 hxy.1
  have b2 := bd hab.2 hxy.2
  have b3 := bd hab.1 hxy.2
  have b4 := bd hab.2 hxy.1
  obtain ⟨ac, e1, h1⟩ := h.1.mul k.1 (l53 _ (by omega))
  obtain ⟨bd, e2, h2⟩ := h.2.mul k.2 (l53 _ (by omega))
  obtain ⟨r, e3, h3⟩ := h1.sub h2 (l53 _ (by omega))
  obtain ⟨ad, e4, h4⟩ := h.1.mul k.2 (l53 _ (by omega))
  obtain ⟨bc, e5, h5⟩ := h.2.mul k.1 (l53 _ (by omega))
  obtain ⟨i, e6, h6⟩ := h4.add h5 (l53 _ (by omega))
  refine ⟨r, i, ?_, h3, h6⟩
  unfold Go.cMulBits
  have f1 : Go.floatBits .mul .f64 re c = some ac := e1
  have f2 : Go.floatBits .mul .f64 im d = some bd := e2
  have f3 : Go.floatBits .sub .f64 ac bd = some r := e3
  have f4 : Go.floatBits .mul .f64 re d = some ad := e4
  have f5 : Go.floatBits .mul .f64 im c = some bc := e5
  have f6 : Go.floatBits .add .f64 ad bc = some i := e6
  rw [f1, Option.bind_some, f2, Option.bind_some, f3, Option.bind_some, f4, Option.bind_some, f5, Option.bind_some, f6, Option.bind_some]
theorem mul_i {re im : Nat} {a b : Int} (h : IsC re im a b) (hab : a.natAbs ≤ 4294967296 ∧ b.natAbs ≤ 4294967296) : ∃ r i, Go.cMulBits re im 0 4607182418800017408 = some (r, i) ∧ IsC r i (-b) a := by
  obtain ⟨r, i, e, h1, h2⟩ := mul_of h ⟨IsF.nought, IsF.one⟩ hab ⟨by decide, by decide⟩
  refine ⟨r, i, e, ?_, ?_⟩
  · have : a * 0 - b * 1 = -b := by omega
    rwa [this] at h1
  · have : a * 1 + b * 0 = a := by omega
    rwa [this] at h2
end Go.Proofs.YtjcpghecflbpjaaX
