/- Four quarters are none; there and back; turned it lies as far and one quarter on. -/
import Derived.Test.YtjcpghecflbpjaaXCl
namespace Go.Proofs.YtjcpghecflbpjaaX
open Go Go.RowKit Go.Proofs.YtjcpghecflbpjaaW.PrintWords
set_option linter.unusedVariables false
theorem tI_add (x y : Nat) (a b : Int) : tI (x + y) a b = tI y (tI x a b).1 (tI x a b).2 := by
  induction y with
  | zero => rfl
  | succ y ih =>
    show (-(tI (x + y) a b).2, (tI (x + y) a b).1) = (-(tI y (tI x a b).1 (tI x a b).2).2, (tI y (tI x a b).1 (tI x a b).2).1)
    rw [ih]
theorem tI_four (a b : Int) : tI 4 a b = (a, b) := by
  show (- -a, - -b) = _
  rw [Int.neg_neg, Int.neg_neg]
theorem tI_mod (x : Nat) (a b : Int) : tI (x % 4) a b = tI x a b := by
  have h : ∀ q r : Nat, tI (q * 4 + r) a b = tI r a b := by
    intro q
    induction q with
    | zero => intro r; rw [Nat.zero_mul, Nat.zero_add]
    | succ q ih =>
      intro r
      rw [show (q + 1) * 4 + r = q * 4 + (4 + r) by omega, ih, tI_add, tI_four]
  have := h (x / 4) (x % 4)
  rw [← this]
  congr 1
  omega
theorem tI_of (x y : Nat) (a b : Int) (h : x % 4 = y % 4) : tI x a b = tI y a b := by rw [← tI_mod x, ← tI_mod y, h]
theorem rounds_plain (a b m n p q u v : Int) (hm : 0 ≤ m) (hn : 0 ≤ n) (hp : (p, q) = tI (m % 4).toNat a b) (hu : (u, v) = tI ((m + n) % 4).toNat a b) :
    tI ((4 * m) % 4).toNat a b = (a, b) ∧ tI (n % 4).toNat p q = (u, v) ∧ tI ((-m) % 4).toNat p q = (a, b) := by
  have e1 : p = (tI (m % 4).toNat a b).1 := by rw [← hp]
  have e2 : q = (tI (m % 4).toNat a b).2 := by rw [← hp]
  refine ⟨?_, ?_, ?_⟩
  · exact tI_of _ 0 a b (by omega)
  · rw [e1, e2, ← tI_add, hu]
    exact tI_of _ _ a b (by omega)
  · rw [e1, e2, ← tI_add]
    exact tI_of _ 0 a b (by omega)
theorem quI_next (a b : Int) (h : ¬ (a = 0 ∧ b = 0)) : quI (-b) a = (quI a b + 1) % 4 := by
  rcases qui_cases a b with ⟨h1, h2, e, t⟩ | ⟨h1, h2, e, t⟩ | ⟨h1, h2, e, t⟩ | ⟨h1, h2, e, t⟩ | ⟨h1, h2, e, t⟩ <;>
  rcases qui_cases (-b) a with ⟨g1, g2, f, u⟩ | ⟨g1, g2, f, u⟩ | ⟨g1, g2, f, u⟩ | ⟨g1, g2, f, u⟩ | ⟨g1, g2, f, u⟩ <;> first | (exfalso; omega) | (rw [e, f]; rfl)
theorem eqo {x y : Nat} {a : Int} (h : IsF x a) (k : IsF y a) : FloatKind.f64.format.order x y = some .eq := (h.order k).trans (congrArg some (cmp_eq rfl))
theorem norm_turn (a b : Int) : -b * -b + a * a = a * a + b * b := by rw [Int.neg_mul_neg]; omega
set_option maxHeartbeats 1600000 in
theorem rounds0 (m n : Int) (hm : 0 ≤ m ∧ m ≤ 255) (hn : 0 ≤ n ∧ n ≤ 255) (w : World) :
    Calls Try.prog 4 #[.int .i16 0, .int .i16 0, .int .u8 m, .int .u8 n] w fun e w' => e = .returned (.bool true) ∧ Below w.heap.size w w' := by
  obtain ⟨p, q, hp⟩ : ∃ p q, (p, q) = tI (m % 4).toNat 0 0 := ⟨_, _, rfl⟩
  obtain ⟨u, v, hu⟩ : ∃ u v, (u, v) = tI ((m + n) % 4).toNat 0 0 := ⟨_, _, rfl⟩
  have hr := rounds_plain 0 0 m n p q u v (by omega) (by omega) hp hu
  have hpb := tI_abs (m % 4).toNat 0 0
  rw [← hp] at hpb
  simp only at hpb
  have HR1 := Aside0.mk hr.1
  have HR2 := Aside0.mk hr.2.1
  have HR3 := Aside0.mk hr.2.2
  have HP := Aside0.mk hp
  have HU := Aside0.mk hu
  have HT1 := Aside0.mk (show tI (1 % 4 : Int).toNat 0 0 = (0, 0) from rfl)
  have HN := Aside0.mk (show (0 : Int) * 0 + 0 * 0 = (0 : Int) * 0 + 0 * 0 from rfl)
  have hpp : p.natAbs ≤ 32768 ∧ q.natAbs ≤ 32768 := by omega
  clear hp hu hr hpb
  go_enter Try.func4, Try.ntmps4
  go_wp2_with (first
      | (go_at_call 9; (with_reducible refine (at_calls 0 0 (by omega) (by omega) _).mono ?_); rintro e w' ⟨r0, i0, rfl, hI, rfl⟩; have HI := Aside0.mk hI; clear hI)
      | (go_at_call 13; first
        | ((with_reducible refine (turn_calls r0 i0 0 0 (4 * m) HI.out (by omega) (by omega) (by omega) _).mono ?_); rintro e w' ⟨r1, i1, rfl, hI, rfl⟩; rw [HR1.out] at hI; have o1 := eqo hI.1 HI.out.1; have o2 := eqo hI.2 HI.out.2; clear hI)
        | ((with_reducible refine (turn_calls r0 i0 0 0 m HI.out (by omega) (by omega) (by omega) _).mono ?_); rintro e w' ⟨rA, iA, rfl, hI, rfl⟩; rw [← HP.out] at hI; have HA := Aside0.mk (show IsC rA iA p q from hI); clear hI)
        | ((with_reducible refine (turn_calls rA iA p q n HA.out (by omega) (by omega) (by omega) _).mono ?_); rintro e w' ⟨rB, iB, rfl, hI, rfl⟩; rw [HR2.out] at hI; have HB := Aside0.mk (show IsC rB iB u v from hI); clear hI)
        | ((with_reducible refine (turn_calls r0 i0 0 0 (m + n) HI.out (by omega) (by omega) (by omega) _).mono ?_); rintro e w' ⟨r2, i2, rfl, hI, rfl⟩; rw [← HU.out] at hI; have o3 := eqo HB.out.1 hI.1; have o4 := eqo HB.out.2 hI.2; clear hI)
        | ((with_reducible refine (turn_calls rA iA p q (-m) HA.out (by omega) (by omega) (by omega) _).mono ?_); rintro e w' ⟨r3, i3, rfl, hI, rfl⟩; rw [HR3.out] at hI; have o5 := eqo hI.1 HI.out.1; have o6 := eqo hI.2 HI.out.2; clear hI)
        | ((with_reducible refine (turn_calls r0 i0 0 0 1 HI.out (by omega) (by omega) (by omega) _).mono ?_); rintro e w' ⟨rC, iC, rfl, hI, rfl⟩; rw [HT1.out] at hI; have HC := Aside0.mk (show IsC rC iC 0 0 from hI); clear hI))
      | (go_at_call 14; first
        | ((with_reducible refine (norm_calls rC iC 0 0 HC.out (by omega) (by omega) _).mono ?_); rintro e w' ⟨rfl, rfl⟩)
        | ((with_reducible refine (norm_calls r0 i0 0 0 HI.out (by omega) (by omega) _).mono ?_); rintro e w' ⟨rfl, rfl⟩))
      | (go_at_call 7; refine (works_calls _).mono ?_; rintro e w1 ⟨rfl, hB⟩; have HW := Aside0.mk hB; clear hB))
  all_goals (go_ret; exact ⟨rfl, HW.out⟩)
set_option maxHeartbeats 1600000 in
theorem rounds1 (m n b : Int) (hb : -32768 ≤ b ∧ b ≤ 32767) (hm : 0 ≤ m ∧ m ≤ 255) (hn : 0 ≤ n ∧ n ≤ 255) (hb0 : ¬ b = 0) (w : World) :
    Calls Try.prog 4 #[.int .i16 0, .int .i16 b, .int .u8 m, .int .u8 n] w fun e w' => e = .returned (.bool true) ∧ Below w.heap.size w w' := by
  obtain ⟨p, q, hp⟩ : ∃ p q, (p, q) = tI (m % 4).toNat 0 b := ⟨_, _, rfl⟩
  obtain ⟨u, v, hu⟩ : ∃ u v, (u, v) = tI ((m + n) % 4).toNat 0 b := ⟨_, _, rfl⟩
  have hr := rounds_plain 0 b m n p q u v (by omega) (by omega) hp hu
  have hpb := tI_abs (m % 4).toNat 0 b
  rw [← hp] at hpb
  simp only at hpb
  have HR1 := Aside0.mk hr.1
  have HR2 := Aside0.mk hr.2.1
  have HR3 := Aside0.mk hr.2.2
  have HP := Aside0.mk hp
  have HU := Aside0.mk hu
  have HT1 := Aside0.mk (show tI (1 % 4 : Int).toNat 0 b = ((-b), 0) from rfl)
  have HN := Aside0.mk (show (-b) * (-b) + 0 * 0 = 0 * 0 + b * b from norm_turn 0 b)
  obtain ⟨t, ht⟩ : ∃ t, t = quI 0 b := ⟨_, rfl⟩
  have hq1 := quI_next 0 b (by omega)
  have htb := quI_bd 0 b
  rw [← ht] at hq1 htb
  have hT2 : Int.tmod (t + 1) 4 = (t + 1) % 4 := Int.tmod_eq_emod_of_nonneg (by omega)
  have HQ0 := Aside0.mk (show quI 0 b = t from ht.symm)
  have HQ1 := Aside0.mk (show quI (-b) 0 = (t + 1) % 4 from hq1)
  clear ht hq1
  have hbb : (b == 0) = false := beq_eq_false_iff_ne.2 hb0
  clear hb0
  have hpp : p.natAbs ≤ 32768 ∧ q.natAbs ≤ 32768 := by omega
  clear hp hu hr hpb
  go_enter Try.func4, Try.ntmps4
  go_wp2_with (first
      | (go_at_call 9; (with_reducible refine (at_calls 0 b (by omega) (by omega) _).mono ?_); rintro e w' ⟨r0, i0, rfl, hI, rfl⟩; have HI := Aside0.mk hI; clear hI)
      | (go_at_call 13; first
        | ((with_reducible refine (turn_calls r0 i0 0 b (4 * m) HI.out (by omega) (by omega) (by omega) _).mono ?_); rintro e w' ⟨r1, i1, rfl, hI, rfl⟩; rw [HR1.out] at hI; have o1 := eqo hI.1 HI.out.1; have o2 := eqo hI.2 HI.out.2; clear hI)
        | ((with_reducible refine (turn_calls r0 i0 0 b m HI.out (by omega) (by omega) (by omega) _).mono ?_); rintro e w' ⟨rA, iA, rfl, hI, rfl⟩; rw [← HP.out] at hI; have HA := Aside0.mk (show IsC rA iA p q from hI); clear hI)
        | ((with_reducible refine (turn_calls rA iA p q n HA.out (by omega) (by omega) (by omega) _).mono ?_); rintro e w' ⟨rB, iB, rfl, hI, rfl⟩; rw [HR2.out] at hI; have HB := Aside0.mk (show IsC rB iB u v from hI); clear hI)
        | ((with_reducible refine (turn_calls r0 i0 0 b (m + n) HI.out (by omega) (by omega) (by omega) _).mono ?_); rintro e w' ⟨r2, i2, rfl, hI, rfl⟩; rw [← HU.out] at hI; have o3 := eqo HB.out.1 hI.1; have o4 := eqo HB.out.2 hI.2; clear hI)
        | ((with_reducible refine (turn_calls rA iA p q (-m) HA.out (by omega) (by omega) (by omega) _).mono ?_); rintro e w' ⟨r3, i3, rfl, hI, rfl⟩; rw [HR3.out] at hI; have o5 := eqo hI.1 HI.out.1; have o6 := eqo hI.2 HI.out.2; clear hI)
        | ((with_reducible refine (turn_calls r0 i0 0 b 1 HI.out (by omega) (by omega) (by omega) _).mono ?_); rintro e w' ⟨rC, iC, rfl, hI, rfl⟩; rw [HT1.out] at hI; have HC := Aside0.mk (show IsC rC iC (-b) 0 from hI); clear hI))
      | (go_at_call 14; first
        | ((with_reducible refine (norm_calls rC iC (-b) 0 HC.out (by omega) (by omega) _).mono ?_); rintro e w' ⟨rfl, rfl⟩; rw [HN.out])
        | ((with_reducible refine (norm_calls r0 i0 0 b HI.out (by omega) (by omega) _).mono ?_); rintro e w' ⟨rfl, rfl⟩))
      | (go_at_call 15; first
        | ((with_reducible refine (quarter_calls rC iC (-b) 0 HC.out (by omega) _).mono ?_); rintro e w' ⟨rfl, rfl⟩; rw [HQ1.out])
        | ((with_reducible refine (quarter_calls r0 i0 0 b HI.out (by omega) _).mono ?_); rintro e w' ⟨rfl, rfl⟩; rw [HQ0.out]))
      | (go_at_call 7; refine (works_calls _).mono ?_; rintro e w1 ⟨rfl, hB⟩; have HW := Aside0.mk hB; clear hB))
  all_goals (go_ret; exact ⟨rfl, HW.out⟩)
set_option maxHeartbeats 1600000 in
theorem rounds2 (m n a b : Int) (ha : -32768 ≤ a ∧ a ≤ 32767) (hb : -32768 ≤ b ∧ b ≤ 32767) (hm : 0 ≤ m ∧ m ≤ 255) (hn : 0 ≤ n ∧ n ≤ 255) (ha0 : ¬ a = 0) (w : World) :
    Calls Try.prog 4 #[.int .i16 a, .int .i16 b, .int .u8 m, .int .u8 n] w fun e w' => e = .returned (.bool true) ∧ Below w.heap.size w w' := by
  obtain ⟨p, q, hp⟩ : ∃ p q, (p, q) = tI (m % 4).toNat a b := ⟨_, _, rfl⟩
  obtain ⟨u, v, hu⟩ : ∃ u v, (u, v) = tI ((m + n) % 4).toNat a b := ⟨_, _, rfl⟩
  have hr := rounds_plain a b m n p q u v (by omega) (by omega) hp hu
  have hpb := tI_abs (m % 4).toNat a b
  rw [← hp] at hpb
  simp only at hpb
  have HR1 := Aside0.mk hr.1
  have HR2 := Aside0.mk hr.2.1
  have HR3 := Aside0.mk hr.2.2
  have HP := Aside0.mk hp
  have HU := Aside0.mk hu
  have HT1 := Aside0.mk (show tI (1 % 4 : Int).toNat a b = ((-b), a) from rfl)
  have HN := Aside0.mk (show (-b) * (-b) + a * a = a * a + b * b from norm_turn a b)
  obtain ⟨t, ht⟩ : ∃ t, t = quI a b := ⟨_, rfl⟩
  have hq1 := quI_next a b (by omega)
  have htb := quI_bd a b
  rw [← ht] at hq1 htb
  have hT2 : Int.tmod (t + 1) 4 = (t + 1) % 4 := Int.tmod_eq_emod_of_nonneg (by omega)
  have HQ0 := Aside0.mk (show quI a b = t from ht.symm)
  have HQ1 := Aside0.mk (show quI (-b) a = (t + 1) % 4 from hq1)
  clear ht hq1
  have hab : (a == 0) = false := beq_eq_false_iff_ne.2 ha0
  clear ha0
  have hpp : p.natAbs ≤ 32768 ∧ q.natAbs ≤ 32768 := by omega
  clear hp hu hr hpb
  go_enter Try.func4, Try.ntmps4
  go_wp2_with (first
      | (go_at_call 9; (with_reducible refine (at_calls a b (by omega) (by omega) _).mono ?_); rintro e w' ⟨r0, i0, rfl, hI, rfl⟩; have HI := Aside0.mk hI; clear hI)
      | (go_at_call 13; first
        | ((with_reducible refine (turn_calls r0 i0 a b (4 * m) HI.out (by omega) (by omega) (by omega) _).mono ?_); rintro e w' ⟨r1, i1, rfl, hI, rfl⟩; rw [HR1.out] at hI; have o1 := eqo hI.1 HI.out.1; have o2 := eqo hI.2 HI.out.2; clear hI)
        | ((with_reducible refine (turn_calls r0 i0 a b m HI.out (by omega) (by omega) (by omega) _).mono ?_); rintro e w' ⟨rA, iA, rfl, hI, rfl⟩; rw [← HP.out] at hI; have HA := Aside0.mk (show IsC rA iA p q from hI); clear hI)
        | ((with_reducible refine (turn_calls rA iA p q n HA.out (by omega) (by omega) (by omega) _).mono ?_); rintro e w' ⟨rB, iB, rfl, hI, rfl⟩; rw [HR2.out] at hI; have HB := Aside0.mk (show IsC rB iB u v from hI); clear hI)
        | ((with_reducible refine (turn_calls r0 i0 a b (m + n) HI.out (by omega) (by omega) (by omega) _).mono ?_); rintro e w' ⟨r2, i2, rfl, hI, rfl⟩; rw [← HU.out] at hI; have o3 := eqo HB.out.1 hI.1; have o4 := eqo HB.out.2 hI.2; clear hI)
        | ((with_reducible refine (turn_calls rA iA p q (-m) HA.out (by omega) (by omega) (by omega) _).mono ?_); rintro e w' ⟨r3, i3, rfl, hI, rfl⟩; rw [HR3.out] at hI; have o5 := eqo hI.1 HI.out.1; have o6 := eqo hI.2 HI.out.2; clear hI)
        | ((with_reducible refine (turn_calls r0 i0 a b 1 HI.out (by omega) (by omega) (by omega) _).mono ?_); rintro e w' ⟨rC, iC, rfl, hI, rfl⟩; rw [HT1.out] at hI; have HC := Aside0.mk (show IsC rC iC (-b) a from hI); clear hI))
      | (go_at_call 14; first
        | ((with_reducible refine (norm_calls rC iC (-b) a HC.out (by omega) (by omega) _).mono ?_); rintro e w' ⟨rfl, rfl⟩; rw [HN.out])
        | ((with_reducible refine (norm_calls r0 i0 a b HI.out (by omega) (by omega) _).mono ?_); rintro e w' ⟨rfl, rfl⟩))
      | (go_at_call 15; first
        | ((with_reducible refine (quarter_calls rC iC (-b) a HC.out (by omega) _).mono ?_); rintro e w' ⟨rfl, rfl⟩; rw [HQ1.out])
        | ((with_reducible refine (quarter_calls r0 i0 a b HI.out (by omega) _).mono ?_); rintro e w' ⟨rfl, rfl⟩; rw [HQ0.out]))
      | (go_at_call 7; refine (works_calls _).mono ?_; rintro e w1 ⟨rfl, hB⟩; have HW := Aside0.mk hB; clear hB))
  all_goals (go_ret; exact ⟨rfl, HW.out⟩)
theorem rounds_true (a b m n : Int) (ha : -32768 ≤ a ∧ a ≤ 32767) (hb : -32768 ≤ b ∧ b ≤ 32767) (hm : 0 ≤ m ∧ m ≤ 255) (hn : 0 ≤ n ∧ n ≤ 255) (w : World) :
    Calls Try.prog 4 #[.int .i16 a, .int .i16 b, .int .u8 m, .int .u8 n] w fun e w' => e = .returned (.bool true) ∧ Below w.heap.size w w' := by
  by_cases ha0 : a = 0
  · subst ha0
    by_cases hb0 : b = 0
    · subst hb0
      exact rounds0 m n hm hn w
    · exact rounds1 m n b hb hm hn hb0 w
  · exact rounds2 m n a b ha hb hm hn ha0 w
end Go.Proofs.YtjcpghecflbpjaaX
