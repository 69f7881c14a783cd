import Derived.Test.YtjcpghecflbpjaaXCp
namespace Go.Proofs.YtjcpghecflbpjaaX
open Go Go.RowKit Go.Proofs.YtjcpghecflbpjaaW.PrintWords
set_option linter.unusedVariables false
set_option maxRecDepth 100000
theorem c11 : IsC 4607182418800017408 4607182418800017408 1 1 := ⟨ofInt_isF 1 (by omega), ofInt_isF 1 (by omega)⟩
theorem c10 : IsC 4607182418800017408 0 1 0 := ⟨ofInt_isF 1 (by omega), ofInt_isF 0 (by omega)⟩
theorem c21 : IsC 4611686018427387904 4607182418800017408 2 1 := ⟨ofInt_isF 2 (by omega), ofInt_isF 1 (by omega)⟩
theorem fm1 : floatOfInt .f64 (-1) = 13830554455654793216 := by decide
theorem im1 : IsF 13830554455654793216 (-1) := fm1 ▸ ofInt_isF (-1) (by omega)
theorem cm12 : IsC 13830554455654793216 4611686018427387904 (-1) 2 := ⟨im1, ofInt_isF 2 (by omega)⟩
theorem cm10 : IsC 13830554455654793216 0 (-1) 0 := ⟨im1, ofInt_isF 0 (by omega)⟩
theorem c34 : IsC 4613937818241073152 4616189618054758400 3 4 := ⟨ofInt_isF 3 (by omega), ofInt_isF 4 (by omega)⟩
theorem p118 : paI 1 1 8 = (1, 0) := by decide
theorem p100 : paI 1 0 0 = (0, 2) := by decide
theorem k97 : keyL 2166136261 (txt ⟨#[97]⟩) = 3826002220 := by decide
theorem r97 : roI ⟨#[97]⟩ 64 = (57, 0) := by decide
theorem q10 : quI (-1) 0 = 2 := by decide
theorem n34 : (3 : Int) * 3 + 4 * 4 = 25 := by decide
theorem part118 (w : World) : Calls Try.prog 8 #[.complex .f64 4607182418800017408 4607182418800017408, .int .i64 8] w fun e w' => e = .returned (.tuple #[.int .i64 1, .int .i64 0]) ∧ w = w' := by
  have h := part_calls _ _ 1 1 8 c11 (by omega) (by omega) (by omega) (by omega) w
  rw [p118] at h
  exact h
theorem part100 (w : World) : Calls Try.prog 8 #[.complex .f64 4607182418800017408 0, .int .i64 0] w fun e w' => e = .returned (.tuple #[.int .i64 0, .int .i64 2]) ∧ w = w' := by
  have h := part_calls _ _ 1 0 0 c10 (by omega) (by omega) (by omega) (by omega) w
  rw [p100] at h
  exact h
set_option maxHeartbeats 800000 in
theorem works_calls (w : World) : Calls Try.prog 7 #[] w fun e w' => e = .returned (.bool true) ∧ Below w.heap.size w w' := by
  go_enter Try.func7, Try.ntmps7
  go_wp2_with (first
    | (go_at_call 8; (first | (with_reducible refine (part118 _).mono ?_) | (with_reducible refine (part100 _).mono ?_)); rintro e w' ⟨rfl, rfl⟩)
    | (go_at_call 11; refine (route_calls _ 64 (by decide) (by omega) (by omega) _).mono ?_; rintro e w1 ⟨rfl, hB⟩; have HB1 := Aside0.mk hB; clear hB; rw [r97])
    | (go_at_call 13; refine (turn_calls _ _ 2 1 1 c21 (by omega) (by omega) (by omega) _).mono ?_; rintro e w' ⟨r, i, rfl, hI, rfl⟩; have h1 : FloatKind.f64.format.order r 13830554455654793216 = some .eq := IsF.order hI.1 im1; have h2 : FloatKind.f64.format.order i 4611686018427387904 = some .eq := IsF.order hI.2 (ofInt_isF 2 (by omega)); clear hI)
    | (go_at_call 15; refine (quarter_calls _ _ (-1) 0 cm10 (by omega) _).mono ?_; rintro e w' ⟨rfl, rfl⟩; rw [q10])
    | (go_at_call 14; refine (norm_calls _ _ 3 4 c34 (by omega) (by omega) _).mono ?_; rintro e w' ⟨rfl, rfl⟩; rw [n34])
    | (go_at_call 16; refine (key_calls _ (by decide) _).mono ?_; rintro e w2 ⟨rfl, hB⟩; have HB2 := Aside0.mk hB; clear hB; rw [k97]))
  go_ret
  exact ⟨rfl, HB1.out.trans (HB2.out.mono HB1.out.size)⟩

/-! ### Scales -/
def IsPa (e : Ending) (p : Int × Int) : Prop := e = .returned (.tuple #[.int .i64 p.1, .int .i64 p.2])
theorem wrap_i16_id (n : Int) (h : -32768 ≤ n ∧ n ≤ 32767) : IntKind.i16.wrap n = n := by
  simp [IntKind.wrap, IntKind.bits, IntKind.signed]
  split <;> omega
theorem at_part_calls (a b n : Int) (re im : Nat) (h : IsC re im a b) (ha : a.natAbs ≤ 65536) (hb : b.natAbs ≤ 65536) (h0 : -9223372036854775808 ≤ n) (h1 : n ≤ 9223372036854775807) (w : World) :
    Calls Try.prog 8 #[.complex .f64 re im, .int .i64 n] w fun e w' => ∃ x y, (x, y) = paI a b n ∧ e = .returned (.tuple #[.int .i64 x, .int .i64 y]) ∧ w = w' :=
  (part_calls re im a b n h ha hb h0 h1 w).mono (fun e w' ⟨h1, h2⟩ => ⟨_, _, rfl, h1, h2⟩)
set_option maxHeartbeats 800000 in
theorem scales_calls (a b n m : Int) (ha : -128 ≤ a ∧ a ≤ 127) (hb : -128 ≤ b ∧ b ≤ 127) (h0 : -9223372036854775808 ≤ n) (h1 : n ≤ 9223372036854775807) (hm : 0 ≤ m ∧ m ≤ 255)
    (heq : paI (a * (1 + m % 200)) (b * (1 + m % 200)) n = paI a b n) (hbd : (paI a b n).2 ≠ 0 ∨ (0 ≤ (paI a b n).1 ∧ (paI a b n).1 < n)) (w : World) :
    Calls Try.prog 6 #[.int .i8 a, .int .i8 b, .int .i64 n, .int .u8 m] w fun e w' => e = .returned (.bool true) ∧ Below w.heap.size w w' := by
  obtain ⟨x, hx⟩ : ∃ x, x = (paI a b n).1 := ⟨_, rfl⟩
  obtain ⟨y, hy⟩ : ∃ y, y = (paI a b n).2 := ⟨_, rfl⟩
  obtain ⟨k, hk⟩ : ∃ k, k = 1 + m % 200 := ⟨_, rfl⟩
  rw [← hx, ← hy] at hbd
  rw [← hk] at heq
  have hk1 : 1 ≤ k ∧ k ≤ 200 := by omega
  obtain ⟨c, hc⟩ : ∃ c, c = a * k := ⟨_, rfl⟩
  obtain ⟨d, hd⟩ : ∃ d, d = b * k := ⟨_, rfl⟩
  rw [← hc, ← hd] at heq
  have hcb : -25600 ≤ c ∧ c ≤ 25400 := by
    have e1 := Int.mul_le_mul_of_nonneg_right ha.1 (show (0 : Int) ≤ k by omega)
    have e2 := Int.mul_le_mul_of_nonneg_right ha.2 (show (0 : Int) ≤ k by omega)
    omega
  have hdb : -25600 ≤ d ∧ d ≤ 25400 := by
    have e1 := Int.mul_le_mul_of_nonneg_right hb.1 (show (0 : Int) ≤ k by omega)
    have e2 := Int.mul_le_mul_of_nonneg_right hb.2 (show (0 : Int) ≤ k by omega)
    omega
  have HX := Aside0.mk hx
  have HY := Aside0.mk hy
  have HE := Aside0.mk heq
  have hT : Int.tmod m 200 = k - 1 := by rw [Int.tmod_eq_emod_of_nonneg hm.1]; omega
  have HC := Aside0.mk (show IntKind.i16.wrap (a * (1 + (k - 1))) = c by rw [show 1 + (k - 1) = k by omega, ← hc, wrap_i16_id c (by omega)])
  have HD := Aside0.mk (show IntKind.i16.wrap (b * (1 + (k - 1))) = d by rw [show 1 + (k - 1) = k by omega, ← hd, wrap_i16_id d (by omega)])
  clear heq hc hd hk hx hy
  go_enter Try.func6, Try.ntmps6
  go_wp2_with (first
    | (go_at_call 9; first
        | (with_reducible refine (at_calls a b (by omega) (by omega) _).mono ?_; rintro e w' ⟨r1, i1, rfl, hI, rfl⟩; have HI := Aside0.mk hI; clear hI)
        | (rw [HC.out, HD.out]; with_reducible refine (at_calls c d (by omega) (by omega) _).mono ?_; rintro e w' ⟨r2, i2, rfl, hI, rfl⟩; have HJ := Aside0.mk hI; clear hI))
    | (go_at_call 8; (first | (with_reducible refine (part_calls r1 i1 a b n HI.out (by omega) (by omega) h0 h1 _).mono ?_) | (with_reducible refine (part_calls r2 i2 c d n HJ.out (by omega) (by omega) h0 h1 _).mono ?_)); rintro e w' ⟨rfl, rfl⟩; (first | rw [HE.out] | skip); rw [← HX.out, ← HY.out])
    | (go_at_call 7; refine (works_calls _).mono ?_; rintro e w1 ⟨rfl, hB⟩; have HB := Aside0.mk hB; clear hB))
  all_goals (go_ret; exact ⟨rfl, HB.out⟩)

/-! ### Even -/
set_option maxHeartbeats 800000 in
theorem even_calls (a b m : Int) (ha : -32768 ≤ a ∧ a ≤ 32767) (hb : -32768 ≤ b ∧ b ≤ 32767) (hm : 0 ≤ m ∧ m ≤ 255)
    (h2 : ¬ (a = 0 ∧ b = 0) → (paI a b (4 * (1 + m % 16))).2 = 0 ∧ (paI (-b) a (4 * (1 + m % 16))).2 = 0 ∧ (paI (-b) a (4 * (1 + m % 16))).1 = ((paI a b (4 * (1 + m % 16))).1 + (1 + m % 16)) % (4 * (1 + m % 16)) ∧ 0 ≤ (paI a b (4 * (1 + m % 16))).1 ∧ (paI a b (4 * (1 + m % 16))).1 < 64) (w : World) :
    Calls Try.prog 5 #[.int .i16 a, .int .i16 b, .int .u8 m] w fun e w' => e = .returned (.bool true) ∧ Below w.heap.size w w' := by
  obtain ⟨k, hk⟩ : ∃ k, k = 1 + m % 16 := ⟨_, rfl⟩
  rw [← hk] at h2
  have hk1 : 1 ≤ k ∧ k ≤ 16 := by omega
  have hT : Int.tmod m 16 = k - 1 := by rw [Int.tmod_eq_emod_of_nonneg hm.1]; omega
  clear hk
  obtain ⟨x, hx⟩ : ∃ x, x = (paI a b (4 * k)).1 := ⟨_, rfl⟩
  obtain ⟨y, hy⟩ : ∃ y, y = (paI a b (4 * k)).2 := ⟨_, rfl⟩
  obtain ⟨z, hz⟩ : ∃ z, z = (paI (-b) a (4 * k)).1 := ⟨_, rfl⟩
  obtain ⟨u, hu⟩ : ∃ u, u = (paI (-b) a (4 * k)).2 := ⟨_, rfl⟩
  rw [← hx, ← hy, ← hz, ← hu] at h2
  have HX := Aside0.mk hx
  have HY := Aside0.mk hy
  have HZ := Aside0.mk hz
  have HU := Aside0.mk hu
  have HT1 := Aside0.mk (show tI (1 % 4 : Int).toNat a b = (-b, a) from rfl)
  clear hx hy hz hu
  by_cases h0 : a = 0 ∧ b = 0
  · obtain ⟨rfl, rfl⟩ := h0
    clear h2
    go_enter Try.func5, Try.ntmps5
    go_wp2_with (first
      | (go_at_call 7; refine (works_calls _).mono ?_; rintro e w1 ⟨rfl, hB⟩; have HB := Aside0.mk hB; clear hB))
    all_goals (go_ret; exact ⟨rfl, HB.out⟩)
  · obtain ⟨rfl, rfl, hzx, hx0, hx1⟩ := h2 h0
    have hT2 : Int.tmod (x + k) (4 * k) = z := by rw [Int.tmod_eq_emod_of_nonneg (by omega)]; exact hzx.symm
    have hk4 : 1 + (k - 1) = k := by omega
    have HZX := Aside0.mk hzx
    clear hzx h2
    by_cases ha0 : a = 0
    · subst ha0
      go_enter Try.func5, Try.ntmps5
      go_wp2_with (first
        | (go_at_call 9; with_reducible refine (at_calls 0 b (by omega) (by omega) _).mono ?_; rintro e w' ⟨r1, i1, rfl, hI, rfl⟩; have HI := Aside0.mk hI; clear hI)
        | (go_at_call 13; refine (turn_calls _ _ 0 b 1 HI.out (by omega) (by omega) (by omega) _).mono ?_; rintro e w' ⟨r2, i2, rfl, hI, rfl⟩; rw [HT1.out] at hI; have HJ := Aside0.mk (show IsC r2 i2 (-b) 0 from hI); clear hI)
        | (go_at_call 8; (first | (with_reducible refine (part_calls r1 i1 0 b (4 * k) HI.out (by omega) (by omega) (by omega) (by omega) _).mono ?_; rintro e w' ⟨rfl, rfl⟩; rw [← HX.out, ← HY.out]) | (with_reducible refine (part_calls r2 i2 (-b) 0 (4 * k) HJ.out (by omega) (by omega) (by omega) (by omega) _).mono ?_; rintro e w' ⟨rfl, rfl⟩; rw [← HZ.out, ← HU.out])))
        | (go_at_call 7; refine (works_calls _).mono ?_; rintro e w1 ⟨rfl, hB⟩; have HB := Aside0.mk hB; clear hB))
      all_goals (go_ret; exact ⟨rfl, HB.out⟩)
    · have hab : (a == 0) = false := beq_eq_false_iff_ne.2 ha0
      go_enter Try.func5, Try.ntmps5
      go_wp2_with (first
        | (go_at_call 9; with_reducible refine (at_calls a b (by omega) (by omega) _).mono ?_; rintro e w' ⟨r1, i1, rfl, hI, rfl⟩; have HI := Aside0.mk hI; clear hI)
        | (go_at_call 13; refine (turn_calls _ _ a b 1 HI.out (by omega) (by omega) (by omega) _).mono ?_; rintro e w' ⟨r2, i2, rfl, hI, rfl⟩; rw [HT1.out] at hI; have HJ := Aside0.mk (show IsC r2 i2 (-b) a from hI); clear hI)
        | (go_at_call 8; (first | (with_reducible refine (part_calls r1 i1 a b (4 * k) HI.out (by omega) (by omega) (by omega) (by omega) _).mono ?_; rintro e w' ⟨rfl, rfl⟩; rw [← HX.out, ← HY.out]) | (with_reducible refine (part_calls r2 i2 (-b) a (4 * k) HJ.out (by omega) (by omega) (by omega) (by omega) _).mono ?_; rintro e w' ⟨rfl, rfl⟩; rw [← HZ.out, ← HU.out])))
        | (go_at_call 7; refine (works_calls _).mono ?_; rintro e w1 ⟨rfl, hB⟩; have HB := Aside0.mk hB; clear hB))
      all_goals (go_ret; exact ⟨rfl, HB.out⟩)
end Go.Proofs.YtjcpghecflbpjaaX
