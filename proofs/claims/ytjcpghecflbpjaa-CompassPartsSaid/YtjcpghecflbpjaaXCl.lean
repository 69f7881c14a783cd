import Derived.Test.YtjcpghecflbpjaaXCw
namespace Go.Proofs.YtjcpghecflbpjaaX
open Go Go.RowKit Go.Proofs.YtjcpghecflbpjaaW.PrintWords
set_option linter.unusedVariables false
theorem tI_mul (m : Nat) (a b k : Int) : tI m (a * k) (b * k) = ((tI m a b).1 * k, (tI m a b).2 * k) := by
  induction m with
  | zero => rfl
  | succ m ih => simp only [tI, ih, Int.neg_mul]
theorem pos_mul (a k : Int) (hk : 1 ≤ k) : (a * k > 0 ↔ a > 0) ∧ (a * k ≥ 0 ↔ a ≥ 0) ∧ (a * k < 0 ↔ a < 0) ∧ (a * k ≤ 0 ↔ a ≤ 0) := by
  rcases Int.lt_trichotomy a 0 with h | h | h
  · have := Int.mul_neg_of_neg_of_pos h (show (0 : Int) < k by omega)
    omega
  · subst h; rw [Int.zero_mul]; omega
  · have := Int.mul_pos h (show (0 : Int) < k by omega)
    omega
theorem quI_mul (a b k : Int) (hk : 1 ≤ k) : quI (a * k) (b * k) = quI a b := by
  unfold quI
  have h1 := pos_mul a k hk
  have h2 := pos_mul b k hk
  simp only [h1.1, h1.2.1, h1.2.2.1, h1.2.2.2, h2.1, h2.2.1, h2.2.2.1, h2.2.2.2]
theorem paI_mul (a b n k : Int) (hk : 1 ≤ k) : paI (a * k) (b * k) n = paI a b n := by
  unfold paI
  split
  · rfl
  · simp only [quI_mul a b k hk, tI_mul]
    generalize quI a b = q
    generalize tI _ a b = p
    obtain ⟨x, y⟩ := p
    dsimp only
    have e : x * k + y * k = (x + y) * k := by rw [Int.add_mul]
    rw [e]
    by_cases h : x + y = 0
    · rw [h, Int.zero_mul]; rfl
    · have h2 : ¬ (x + y) * k = 0 := by
        intro hh
        rcases Int.mul_eq_zero.1 hh with h3 | h3 <;> omega
      rw [if_neg h, if_neg h2]
      have e1 : (q * ((x + y) * k) + y * k) * n = ((q * (x + y) + y) * n) * k := by
        rw [← Int.mul_assoc, ← Int.add_mul, Int.mul_right_comm]
      have e2 : 4 * ((x + y) * k) = (4 * (x + y)) * k := by rw [Int.mul_assoc]
      rw [e1, e2, Int.mul_ediv_mul_of_pos_left _ _ (by omega)]

/-- The four quarters. -/
theorem qui_cases (a b : Int) : (a = 0 ∧ b = 0 ∧ quI a b = 0 ∧ tI ((-(quI a b)) % 4).toNat a b = (0, 0)) ∨ (a > 0 ∧ b ≥ 0 ∧ quI a b = 0 ∧ tI ((-(quI a b)) % 4).toNat a b = (a, b)) ∨
    (b > 0 ∧ a ≤ 0 ∧ quI a b = 1 ∧ tI ((-(quI a b)) % 4).toNat a b = (b, -a)) ∨ (a < 0 ∧ b ≤ 0 ∧ quI a b = 2 ∧ tI ((-(quI a b)) % 4).toNat a b = (-a, -b)) ∨
    (b < 0 ∧ a ≥ 0 ∧ quI a b = 3 ∧ tI ((-(quI a b)) % 4).toNat a b = (-b, a)) := by
  have t0 : tI ((-(0 : Int)) % 4).toNat a b = (a, b) := rfl
  have t1 : tI ((-(1 : Int)) % 4).toNat a b = (b, -a) := by show (- -b, -a) = _; rw [Int.neg_neg]
  have t2 : tI ((-(2 : Int)) % 4).toNat a b = (-a, -b) := rfl
  have t3 : tI ((-(3 : Int)) % 4).toNat a b = (-b, a) := rfl
  by_cases h1 : a > 0 ∧ b ≥ 0
  · have e : quI a b = 0 := if_pos h1
    rw [e]; exact .inr (.inl ⟨h1.1, h1.2, rfl, t0⟩)
  by_cases h2 : b > 0 ∧ a ≤ 0
  · have e : quI a b = 1 := by unfold quI; rw [if_neg h1, if_pos h2]
    rw [e]; exact .inr (.inr (.inl ⟨h2.1, h2.2, rfl, t1⟩))
  by_cases h3 : a < 0 ∧ b ≤ 0
  · have e : quI a b = 2 := by unfold quI; rw [if_neg h1, if_neg h2, if_pos h3]
    rw [e]; exact .inr (.inr (.inr (.inl ⟨h3.1, h3.2, rfl, t2⟩)))
  by_cases h4 : b < 0 ∧ a ≥ 0
  · have e : quI a b = 3 := by unfold quI; rw [if_neg h1, if_neg h2, if_neg h3, if_pos h4]
    rw [e]; exact .inr (.inr (.inr (.inr ⟨h4.1, h4.2, rfl, t3⟩)))
  · have e : quI a b = 0 := by unfold quI; rw [if_neg h1, if_neg h2, if_neg h3, if_neg h4]
    obtain ⟨rfl, rfl⟩ : a = 0 ∧ b = 0 := by omega
    rw [e]; exact .inl ⟨rfl, rfl, rfl, t0⟩
theorem div_bd (q x y n : Int) (hq : 0 ≤ q ∧ q ≤ 3) (hx : 0 < x) (hy : 0 ≤ y) (hn : 1 ≤ n) : 0 ≤ (q * (x + y) + y) * n / (4 * (x + y)) ∧ (q * (x + y) + y) * n / (4 * (x + y)) < n := by
  have e0 := Int.mul_nonneg hq.1 (show 0 ≤ x + y by omega)
  have e1 := Int.mul_le_mul_of_nonneg_right hq.2 (show 0 ≤ x + y by omega)
  refine ⟨Int.ediv_nonneg (Int.mul_nonneg (by omega) (by omega)) (by omega), Int.ediv_lt_of_lt_mul (by omega) ?_⟩
  rw [Int.mul_comm n]
  exact Int.mul_lt_mul_of_pos_right (by omega) (by omega)
theorem paI_bd (a b n : Int) : (paI a b n).2 ≠ 0 ∨ (0 ≤ (paI a b n).1 ∧ (paI a b n).1 < n) := by
  unfold paI
  by_cases hn : n < 1 ∨ n > 64
  · rw [if_pos hn]; exact .inl (by decide)
  rw [if_neg hn]
  dsimp only
  right
  rcases qui_cases a b with ⟨h1, h2, e, t⟩ | ⟨h1, h2, e, t⟩ | ⟨h1, h2, e, t⟩ | ⟨h1, h2, e, t⟩ | ⟨h1, h2, e, t⟩ <;> rw [t, e] <;> dsimp only
  · rw [if_pos (by decide)]; dsimp only; omega
  all_goals
    rw [if_neg (by omega)]
    exact div_bd _ _ _ n (by omega) (by omega) (by omega) (by omega)
theorem scales_true (a b n m : Int) (ha : -128 ≤ a ∧ a ≤ 127) (hb : -128 ≤ b ∧ b ≤ 127) (h0 : -9223372036854775808 ≤ n) (h1 : n ≤ 9223372036854775807) (hm : 0 ≤ m ∧ m ≤ 255) (w : World) :
    Calls Try.prog 6 #[.int .i8 a, .int .i8 b, .int .i64 n, .int .u8 m] w fun e w' => e = .returned (.bool true) ∧ Below w.heap.size w w' :=
  scales_calls a b n m ha hb h0 h1 hm (paI_mul a b n _ (by omega)) (paI_bd a b n) w

theorem four_div (q x y k : Int) (hx : 0 < x) (hy : 0 ≤ y) (hk : 1 ≤ k) : (q * (x + y) + y) * (4 * k) / (4 * (x + y)) = q * k + y * k / (x + y) ∧ 0 ≤ y * k / (x + y) ∧ y * k / (x + y) < k := by
  refine ⟨?_, Int.ediv_nonneg (Int.mul_nonneg hy (by omega)) (by omega), Int.ediv_lt_of_lt_mul (by omega) ?_⟩
  · have e : (q * (x + y) + y) * (4 * k) = 4 * (y * k + (q * k) * (x + y)) := by
      rw [Int.mul_left_comm, Int.add_mul, Int.add_comm (y * k), Int.mul_right_comm]
    rw [e, Int.mul_ediv_mul_of_pos _ _ (show (0 : Int) < 4 by omega), Int.add_mul_ediv_right _ _ (by omega), Int.add_comm]
  · rw [Int.mul_comm k]
    exact Int.mul_lt_mul_of_pos_right (by omega) (by omega)
theorem paI_four (a b k : Int) (hk : 1 ≤ k ∧ k ≤ 16) (h : ¬ (a = 0 ∧ b = 0)) : ∃ y, 0 ≤ y ∧ y < k ∧ paI a b (4 * k) = (quI a b * k + y, 0) ∧ paI (-b) a (4 * k) = ((quI a b + 1) % 4 * k + y, 0) := by
  have hn : ¬ (4 * k < 1 ∨ 4 * k > 64) := by omega
  have key : ∀ x y : Int, 0 < x → 0 ≤ y → ∀ a' b' q : Int, quI a' b' = q → tI ((-(quI a' b')) % 4).toNat a' b' = (x, y) → paI a' b' (4 * k) = (q * k + y * k / (x + y), 0) := by
    intro x y hx hy a' b' q e t
    unfold paI
    rw [if_neg hn]
    dsimp only
    rw [t, e]
    dsimp only
    rw [if_neg (by omega), (four_div q x y k hx hy hk.1).1]
  rcases qui_cases a b with ⟨h1, h2, e, t⟩ | ⟨h1, h2, e, t⟩ | ⟨h1, h2, e, t⟩ | ⟨h1, h2, e, t⟩ | ⟨h1, h2, e, t⟩ <;>
  rcases qui_cases (-b) a with ⟨g1, g2, f, u⟩ | ⟨g1, g2, f, u⟩ | ⟨g1, g2, f, u⟩ | ⟨g1, g2, f, u⟩ | ⟨g1, g2, f, u⟩
  all_goals first
    | (exfalso; omega)
    | (rw [Int.neg_neg] at u; have d := four_div 0 _ _ k (by omega) (by omega) hk.1; refine ⟨_, d.2.1, d.2.2, key _ _ (by omega) (by omega) a b _ rfl t, ?_⟩; rw [key _ _ (by omega) (by omega) (-b) a _ rfl u, e, f]; rfl)
    | (have d := fun (x y : Int) (hx : 0 < x) (hy : 0 ≤ y) => four_div 0 x y k hx hy hk.1; have d := d _ _ (show 0 < (tI ((-(quI a b)) % 4).toNat a b).1 by rw [t]; dsimp only; omega) (show 0 ≤ (tI ((-(quI a b)) % 4).toNat a b).2 by rw [t]; dsimp only; omega); rw [t] at d; refine ⟨_, d.2.1, d.2.2, key _ _ (by omega) (by omega) a b _ rfl t, ?_⟩; (try rw [Int.neg_neg] at u); rw [key _ _ (by omega) (by omega) (-b) a _ rfl u, e, f]; rfl)

theorem even_true (a b m : Int) (ha : -32768 ≤ a ∧ a ≤ 32767) (hb : -32768 ≤ b ∧ b ≤ 32767) (hm : 0 ≤ m ∧ m ≤ 255) (w : World) :
    Calls Try.prog 5 #[.int .i16 a, .int .i16 b, .int .u8 m] w fun e w' => e = .returned (.bool true) ∧ Below w.heap.size w w' := by
  refine even_calls a b m ha hb hm ?_ w
  intro h
  obtain ⟨k, hk⟩ : ∃ k, k = 1 + m % 16 := ⟨_, rfl⟩
  rw [← hk]
  have hk1 : 1 ≤ k ∧ k ≤ 16 := by omega
  obtain ⟨y, y0, y1, e1, e2⟩ := paI_four a b k hk1 h
  have hq := quI_bd a b
  rw [e1, e2]
  dsimp only
  generalize quI a b = q at hq ⊢
  clear e1 e2 hk
  have hc : q = 0 ∨ q = 1 ∨ q = 2 ∨ q = 3 := by omega
  refine ⟨rfl, rfl, ?_, ?_⟩
  · rcases hc with rfl | rfl | rfl | rfl
    · have e := Int.emod_eq_of_lt (show 0 ≤ 0 * k + y + k by omega) (show 0 * k + y + k < 4 * k by omega); show (1 : Int) * k + y = _; omega
    · have e := Int.emod_eq_of_lt (show 0 ≤ 1 * k + y + k by omega) (show 1 * k + y + k < 4 * k by omega); show (2 : Int) * k + y = _; omega
    · have e := Int.emod_eq_of_lt (show 0 ≤ 2 * k + y + k by omega) (show 2 * k + y + k < 4 * k by omega); show (3 : Int) * k + y = _; omega
    · have e := Int.emod_eq_of_lt y0 (show y < 4 * k by omega); have e2 := Int.add_emod_right y (4 * k); rw [show 3 * k + y + k = y + 4 * k by omega, e2, e]; show (0 : Int) * k + y = _; omega
  · rcases hc with rfl | rfl | rfl | rfl <;> omega
end Go.Proofs.YtjcpghecflbpjaaX
