/- The calls of package compass: points of whole numbers as complex numbers. -/
import Derived.Test.YtjcpghecflbpjaaProg
import Derived.Test.YtjcpghecflbpjaaWMore
import Derived.Test.YtjcpghecflbpjaaXFl
import Derived.Laws.BitsLemmas
import Derived.Laws.FloatArith
import Derived.Laws.ComplexArith
import Derived.Laws.Cover2
import Derived.Laws.Cover3
import Derived.WalkLawsBesides
import Derived.WalkKit
import Derived.Deep.LoopGhost
import Derived.KernelRfl
import Derived.Lib.ConvBytes
import Derived.Below
set_option linter.unusedVariables false
set_option linter.unusedSimpArgs false
namespace Go.Proofs.YtjcpghecflbpjaaX
open Go Go.RowKit Go.Proofs.YtjcpghecflbpjaaW.PrintWords

/-- By quarters. -/
def tI (n : Nat) (a b : Int) : Int × Int := match n with
  | 0 => (a, b)
  | n + 1 => let p := tI n a b; (-p.2, p.1)
theorem tI_abs (n : Nat) (a b : Int) : ((tI n a b).1.natAbs = a.natAbs ∧ (tI n a b).2.natAbs = b.natAbs) ∨ ((tI n a b).1.natAbs = b.natAbs ∧ (tI n a b).2.natAbs = a.natAbs) := by
  induction n with
  | zero => exact .inl ⟨rfl, rfl⟩
  | succ n ih =>
    simp only [tI, Int.natAbs_neg]
    rcases ih with ⟨h1, h2⟩ | ⟨h1, h2⟩
    · exact .inr ⟨h2, h1⟩
    · exact .inl ⟨h2, h1⟩
theorem and3 (n : Int) (h0 : -9223372036854775808 ≤ n) (h1 : n ≤ 9223372036854775807) : Go.bits .and .i64 n 3 = n % 4 := by
  show IntKind.i64.wrap ((BitVec.ofInt 64 n &&& BitVec.ofInt 64 3).toNat : Int) = _
  have e : (BitVec.ofInt 64 n &&& BitVec.ofInt 64 3).toNat = (n % 4).toNat := by
    rw [BitVec.toNat_and]
    have h3 : (BitVec.ofInt 64 3).toNat = 2 ^ 2 - 1 := by decide
    rw [h3, Nat.and_two_pow_sub_one_eq_mod, BitVec.toNat_ofInt]
    omega
  rw [e, IntKind.wrap_i64]
  omega
def isC2 (re im : Nat) (p : Int × Int) : Prop := IsC re im p.1 p.2

set_option maxHeartbeats 800000 in
theorem turn_calls (re im : Nat) (a b n : Int) (h : IsC re im a b) (hab : a.natAbs ≤ 4294967296 ∧ b.natAbs ≤ 4294967296) (h0 : -9223372036854775808 ≤ n) (h1 : n ≤ 9223372036854775807) (w : World) :
    Calls Try.prog 13 #[.complex .f64 re im, .int .i64 n] w fun e w' => ∃ r i, e = .returned (.complex .f64 r i) ∧ isC2 r i (tI (n % 4).toNat a b) ∧ w = w' := by
  obtain ⟨m, hm⟩ : ∃ m : Nat, n % 4 = (m : Int) := ⟨(n % 4).toNat, by omega⟩
  have hm4 : m < 4 := by omega
  have HM := Aside0.mk (show (n % 4).toNat = m by omega)
  have hand : Go.bits .and .i64 n 3 = (m : Int) := by rw [and3 n h0 h1, hm]
  have HH := Aside0.mk h
  clear h hm
  go_enter Try.func13, Try.ntmps13
  go_wp2
  go_loopg [0, 7] m (fun g v0 v7 w' => ∃ (j : Nat) (r i : Nat), v7 = .int .i64 j ∧ j + g = m ∧ v0 = .complex .f64 r i ∧ Aside0 (isC2 r i (tI j a b)) ∧ w' = w)
  case atStart => exact ⟨0, re, im, rfl, by omega, rfl, ⟨HH.out⟩, rfl⟩
  case round =>
    obtain ⟨j, r, i, rfl, hj, rfl, HI, rfl⟩ := hrel
    by_cases hlt : j < m
    · have hb := tI_abs j a b
      obtain ⟨r', i', e, hI⟩ := mul_i HI.out (by omega)
      have hmul : ∀ W : World, (binOp .mul 27 (.complex .f64 r i) (.complex .f64 0 4607182418800017408)).run Try.prog W = .ok (.complex .f64 r' i') W := fun W => run_complex_mul W 27 r i 0 4607182418800017408 r' i' e
      have HI2 := Aside0.mk (show isC2 r' i' (tI (j + 1) a b) from hI)
      clear hI e hb
      go_wp2
      go_roundg (gk - 1)
      case measure => omega
      case rel => exact ⟨j + 1, r', i', by go_num, by omega, rfl, HI2, rfl⟩
    · have hjm : j = m := by omega
      subst hjm
      go_wp2
      go_ret
      exact ⟨r, i, rfl, by rw [HM.out]; exact HI.out, rfl⟩

/-! ### which quarter -/
theorem order_gt {x : Nat} {a : Int} (h : IsF x a) : FloatKind.f64.format.order x 0 = some (compare a 0) := h.order IsF.nought
def quI (a b : Int) : Int := if a > 0 ∧ b ≥ 0 then 0 else if b > 0 ∧ a ≤ 0 then 1 else if a < 0 ∧ b ≤ 0 then 2 else if b < 0 ∧ a ≥ 0 then 3 else 0
/-- The first turn back by which a point lies in the first quarter, from one on. -/
def inFirst (p : Int × Int) : Bool := decide (p.1 > 0 ∧ p.2 ≥ 0)

theorem cmp_eq {a b : Int} (h : a = b) : compare a b = .eq := by subst h; simp
theorem quarter_first (a b : Int) (j : Nat) (hj : j < 4) (h : ∀ q : Nat, q < j → inFirst (tI ((-(q : Int)) % 4).toNat a b) = false) (hi : inFirst (tI ((-(j : Int)) % 4).toNat a b) = true) : quI a b = j := by
  have t0 : ((-((0 : Nat) : Int)) % 4).toNat = 0 := by decide
  have t1 : ((-((1 : Nat) : Int)) % 4).toNat = 3 := by decide
  have t2 : ((-((2 : Nat) : Int)) % 4).toNat = 2 := by decide
  have t3 : ((-((3 : Nat) : Int)) % 4).toNat = 1 := by decide
  have hc : j = 0 ∨ j = 1 ∨ j = 2 ∨ j = 3 := by omega
  rcases hc with rfl | rfl | rfl | rfl
  · rw [t0] at hi
    simp only [tI, inFirst] at hi
    replace hi := of_decide_eq_true hi
    unfold quI
    rw [if_pos hi]; rfl
  · have h0 := h 0 (by omega)
    rw [t0] at h0; rw [t1] at hi
    simp only [tI, inFirst] at hi h0
    replace hi := of_decide_eq_true hi
    replace h0 := of_decide_eq_false h0
    unfold quI
    rw [if_neg h0, if_pos (by omega)]; rfl
  · have h0 := h 0 (by omega)
    have h1 := h 1 (by omega)
    rw [t0] at h0; rw [t1] at h1; rw [t2] at hi
    simp only [tI, inFirst] at hi h0 h1
    replace hi := of_decide_eq_true hi
    replace h0 := of_decide_eq_false h0
    replace h1 := of_decide_eq_false h1
    unfold quI
    rw [if_neg h0, if_neg (by omega), if_pos (by omega)]; rfl
  · have h0 := h 0 (by omega)
    have h1 := h 1 (by omega)
    have h2 := h 2 (by omega)
    rw [t0] at h0; rw [t1] at h1; rw [t2] at h2; rw [t3] at hi
    simp only [tI, inFirst] at hi h0 h1 h2
    replace hi := of_decide_eq_true hi
    replace h0 := of_decide_eq_false h0
    replace h1 := of_decide_eq_false h1
    replace h2 := of_decide_eq_false h2
    unfold quI
    rw [if_neg h0, if_neg (by omega), if_neg (by omega), if_pos (by omega)]; rfl
theorem quarter_none (a b : Int) (h : ∀ q : Nat, q < 4 → inFirst (tI ((-(q : Int)) % 4).toNat a b) = false) : quI a b = 0 := by
  have t0 : ((-((0 : Nat) : Int)) % 4).toNat = 0 := by decide
  have t1 : ((-((1 : Nat) : Int)) % 4).toNat = 3 := by decide
  have t2 : ((-((2 : Nat) : Int)) % 4).toNat = 2 := by decide
  have t3 : ((-((3 : Nat) : Int)) % 4).toNat = 1 := by decide
  have h0 := h 0 (by omega)
  have h1 := h 1 (by omega)
  have h2 := h 2 (by omega)
  have h3 := h 3 (by omega)
  rw [t0] at h0; rw [t1] at h1; rw [t2] at h2; rw [t3] at h3
  simp only [tI, inFirst] at h0 h1 h2 h3
  replace h0 := of_decide_eq_false h0
  replace h1 := of_decide_eq_false h1
  replace h2 := of_decide_eq_false h2
  replace h3 := of_decide_eq_false h3
  unfold quI
  rw [if_neg h0, if_neg (by omega), if_neg (by omega), if_neg (by omega)]

set_option maxHeartbeats 1600000 in
theorem quarter_calls (re im : Nat) (a b : Int) (h : IsC re im a b) (hab : a.natAbs ≤ 4294967296 ∧ b.natAbs ≤ 4294967296) (w : World) :
    Calls Try.prog 15 #[.complex .f64 re im] w fun e w' => e = .returned (.int .i64 (quI a b)) ∧ w = w' := by
  have HH := Aside0.mk h
  clear h
  go_enter Try.func15, Try.ntmps15
  go_wp2
  go_loopg [5] 4 (fun g v5 w' => ∃ (j : Nat), v5 = .int .i64 j ∧ j + g = 4 ∧ Aside0 (∀ q : Nat, q < j → inFirst (tI ((-(q : Int)) % 4).toNat a b) = false) ∧ w' = w)
  case atStart => exact ⟨0, rfl, rfl, ⟨fun q hq => absurd hq (by omega)⟩, rfl⟩
  case round =>
    obtain ⟨j, rfl, hj, HI, rfl⟩ := hrel
    by_cases hlt : j < 4
    · obtain ⟨p, hp⟩ : ∃ p, p = tI ((-(j : Int)) % 4).toNat a b := ⟨_, rfl⟩
      have HP := Aside0.mk hp
      by_cases h1 : p.1 > 0 ∧ p.2 ≥ 0
      · have hq : quI a b = j := quarter_first a b j hlt HI.out (by rw [← hp]; exact decide_eq_true h1)
        have HQ := Aside0.mk hq
        obtain ⟨h1, h2⟩ := h1
        clear hp hq
        rcases Int.lt_or_eq_of_le h2 with h2 | h2
        all_goals
          have H1 := Aside0.mk h1
          have H2 := Aside0.mk h2
          clear h1 h2
          go_wp2_with (go_at_call 13; refine (turn_calls re im a b (-(j : Int)) HH.out hab (by omega) (by omega) _).mono ?_; rintro e w' ⟨r, i, rfl, hI, rfl⟩; rw [← HP.out] at hI; have ho1 : FloatKind.f64.format.order r 0 = some .gt := (order_gt hI.1).trans (congrArg some (cmp_gt H1.out)); have ho2 := (order_gt hI.2).trans (congrArg some (by first | exact cmp_gt H2.out | exact cmp_eq H2.out.symm)); have HI2 := Aside0.mk hI; clear hI)
          go_ret
          exact ⟨by rw [HQ.out]; rfl, rfl⟩
      · have hq : inFirst (tI ((-(j : Int)) % 4).toNat a b) = false := by rw [← hp]; exact decide_eq_false h1
        have HQ := Aside0.mk (show ∀ q : Nat, q < j + 1 → inFirst (tI ((-(q : Int)) % 4).toNat a b) = false from fun q hq2 => by
          rcases Nat.lt_or_ge q j with h | h
          · exact HI.out q h
          · obtain rfl : q = j := by omega
            exact hq)
        clear hp hq
        by_cases h3 : p.1 > 0
        · have h4 : p.2 < 0 := by omega
          have H3 := Aside0.mk h3
          have H4 := Aside0.mk h4
          clear h1 h3 h4
          go_wp2_with (go_at_call 13; refine (turn_calls re im a b (-(j : Int)) HH.out hab (by omega) (by omega) _).mono ?_; rintro e w' ⟨r, i, rfl, hI, rfl⟩; rw [← HP.out] at hI; have ho1 : FloatKind.f64.format.order r 0 = some .gt := (order_gt hI.1).trans (congrArg some (cmp_gt H3.out)); have ho2 := (order_gt hI.2).trans (congrArg some (cmp_lt H4.out)); have HI2 := Aside0.mk hI; clear hI)
          go_roundg (gk - 1)
          case measure => omega
          case rel => exact ⟨j + 1, by go_num, by omega, HQ, rfl⟩
        · clear h1
          have h5 : p.1 = 0 ∨ p.1 < 0 := by omega
          clear h3
          rcases h5 with h3 | h3
          all_goals
            have H3 := Aside0.mk h3
            clear h3
            go_wp2_with (go_at_call 13; refine (turn_calls re im a b (-(j : Int)) HH.out hab (by omega) (by omega) _).mono ?_; rintro e w' ⟨r, i, rfl, hI, rfl⟩; rw [← HP.out] at hI; have ho1 := (order_gt hI.1).trans (congrArg some (by first | exact cmp_lt H3.out | exact cmp_eq H3.out)); have HI2 := Aside0.mk hI; clear hI)
            go_roundg (gk - 1)
            case measure => omega
            case rel => exact ⟨j + 1, by go_num, by omega, HQ, rfl⟩
    · obtain rfl : j = 4 := by omega
      have HQ := Aside0.mk (quarter_none a b HI.out)
      go_wp2
      go_ret
      exact ⟨by rw [HQ.out]; rfl, rfl⟩

/-! ### points, how far, which part -/
theorem ofInt_isF (z : Int) (h : z.natAbs < 2 ^ 53) : IsF (floatOfInt .f64 z) z := IsF.ofInt z h
theorem toInt_isF {x : Nat} {a : Int} (h : IsF x a) (hb : -9223372036854775808 ≤ a ∧ a ≤ 9223372036854775807) : floatToIntVal .f64 x .i64 = some a := by
  unfold floatToIntVal
  rw [show (FloatKind.f64.decode x).toInt .zero = some a from h.toInt]
  simp only
  rw [if_pos (show IntKind.i64.min ≤ a ∧ a ≤ IntKind.i64.max from hb)]

set_option maxHeartbeats 400000 in
theorem at_calls (a b : Int) (ha : a.natAbs ≤ 65536) (hb : b.natAbs ≤ 65536) (w : World) :
    Calls Try.prog 9 #[.int .i16 a, .int .i16 b] w fun e w' => ∃ r i, e = .returned (.complex .f64 r i) ∧ IsC r i a b ∧ w = w' := by
  have HF := Aside0.mk (show IsC (floatOfInt .f64 a) (floatOfInt .f64 b) a b from ⟨ofInt_isF a (by omega), ofInt_isF b (by omega)⟩)
  have hc : ∀ (v : Int) (W : World), (convert 22 41 (.int .i16 v)).run Try.prog W = .ok (.float .f64 (floatOfInt .f64 v)) W := fun v W => run_convert_int_float W 22 41 .i16 .f64 v (by rw [Try.underlying22]; rfl) Try.underlying41
  go_enter Try.func9, Try.ntmps9
  go_wp2
  go_ret
  exact ⟨_, _, rfl, HF.out, rfl⟩

theorem wrap_i16 (n : Int) : -32768 ≤ IntKind.i16.wrap n ∧ IntKind.i16.wrap n ≤ 32767 := by
  simp [IntKind.wrap, IntKind.bits, IntKind.signed]
  split <;> omega
set_option maxHeartbeats 400000 in
theorem point_calls (k : Int) (h0 : 0 ≤ k) (h1 : k < 4294967296) (w : World) :
    Calls Try.prog 19 #[.int .u32 k] w fun e w' => ∃ r i, e = .returned (.complex .f64 r i) ∧ IsC r i (IntKind.i16.wrap k) (IntKind.i16.wrap (k / 65536)) ∧ w = w' := by
  have b1 := wrap_i16 k
  have b2 := wrap_i16 (k / 65536)
  have HF := Aside0.mk (show IsC (floatOfInt .f64 (IntKind.i16.wrap k)) (floatOfInt .f64 (IntKind.i16.wrap (k / 65536))) (IntKind.i16.wrap k) (IntKind.i16.wrap (k / 65536)) from ⟨ofInt_isF _ (by omega), ofInt_isF _ (by omega)⟩)
  clear b1 b2
  have hc : ∀ (v : Int) (W : World), (convert 22 41 (.int .i16 v)).run Try.prog W = .ok (.float .f64 (floatOfInt .f64 v)) W := fun v W => run_convert_int_float W 22 41 .i16 .f64 v (by rw [Try.underlying22]; rfl) Try.underlying41
  go_enter Try.func19, Try.ntmps19
  go_wp2
  go_ret
  exact ⟨_, _, rfl, HF.out, rfl⟩

set_option maxHeartbeats 400000 in
theorem norm_calls (re im : Nat) (a b : Int) (h : IsC re im a b) (ha : a.natAbs ≤ 65536) (hb : b.natAbs ≤ 65536) (w : World) :
    Calls Try.prog 14 #[.complex .f64 re im] w fun e w' => e = .returned (.int .i64 (a * a + b * b)) ∧ w = w' := by
  have hn : IsC re (im ^^^ 2 ^ 63) a (-b) := ⟨h.1, h.2.neg⟩
  obtain ⟨r, i, e, hI⟩ := mul_of h hn ⟨by omega, by omega⟩ ⟨by omega, by rw [Int.natAbs_neg]; omega⟩
  have hmul : ∀ W : World, (binOp .mul 27 (.complex .f64 re im) (.complex .f64 re (im ^^^ 2 ^ 63))).run Try.prog W = .ok (.complex .f64 r i) W := fun W => run_complex_mul W 27 re im re (im ^^^ 2 ^ 63) r i e
  have hneg : Op.unary .neg (.float .f64 im) = pure (.float .f64 (im ^^^ 2 ^ 63)) := rfl
  have haa : (a * a).natAbs ≤ 4294967296 := by rw [Int.natAbs_mul]; exact Nat.mul_le_mul ha ha
  have hbb : (b * b).natAbs ≤ 4294967296 := by rw [Int.natAbs_mul]; exact Nat.mul_le_mul hb hb
  have heq : a * a - b * -b = a * a + b * b := by rw [Int.mul_neg]; omega
  have hr : IsF r (a * a + b * b) := by rw [← heq]; exact hI.1
  have hcv : ∀ W : World, (convert 41 2 (.float .f64 r)).run Try.prog W = .ok (.int .i64 (a * a + b * b)) W := fun W => run_convert_float_int W 41 2 .f64 .i64 r _ (by rw [Try.underlying41]; rfl) Try.underlying2 (toInt_isF hr (by omega))
  clear h hn hI haa hbb heq hr e
  go_enter Try.func14, Try.ntmps14
  go_wp2
  go_ret
  exact ⟨rfl, rfl⟩

theorem quI_bd (a b : Int) : 0 ≤ quI a b ∧ quI a b ≤ 3 := by
  unfold quI
  repeat' split
  all_goals omega
theorem quI_first (a b : Int) : (0 < (tI ((-(quI a b)) % 4).toNat a b).1 ∧ 0 ≤ (tI ((-(quI a b)) % 4).toNat a b).2) ∨ (a = 0 ∧ b = 0 ∧ tI ((-(quI a b)) % 4).toNat a b = (0, 0)) := by
  have t0 : ((-(0 : Int)) % 4).toNat = 0 := by decide
  have t1 : ((-(1 : Int)) % 4).toNat = 3 := by decide
  have t2 : ((-(2 : Int)) % 4).toNat = 2 := by decide
  have t3 : ((-(3 : Int)) % 4).toNat = 1 := by decide
  unfold quI
  by_cases c0 : a > 0 ∧ b ≥ 0
  · rw [if_pos c0, t0]
    exact .inl c0
  · rw [if_neg c0]
    by_cases c1 : b > 0 ∧ a ≤ 0
    · rw [if_pos c1, t1]
      left
      simp only [tI]
      omega
    · rw [if_neg c1]
      by_cases c2 : a < 0 ∧ b ≤ 0
      · rw [if_pos c2, t2]
        left
        simp only [tI]
        omega
      · rw [if_neg c2]
        by_cases c3 : b < 0 ∧ a ≥ 0
        · rw [if_pos c3, t3]
          left
          simp only [tI]
          omega
        · rw [if_neg c3, t0]
          right
          have : a = 0 := by omega
          have : b = 0 := by omega
          subst a; subst b
          exact ⟨rfl, rfl, rfl⟩
/-- Which part a point lies in, and an error. -/
def paI (a b n : Int) : Int × Int :=
  if n < 1 ∨ n > 64 then (0, 2) else
  let q := quI a b
  let p := tI ((-q) % 4).toNat a b
  if p.1 + p.2 = 0 then (0, 0) else ((q * (p.1 + p.2) + p.2) * n / (4 * (p.1 + p.2)), 0)

theorem w64_ {x : Int} (h0 : -9223372036854775808 ≤ x) (h1 : x ≤ 9223372036854775807) : wrap64 x = x := by
  unfold wrap64
  omega
theorem part_num {q p1 p2 n : Int} (d1 : 0 ≤ q) (d2 : q ≤ 3) (c1 : 0 ≤ p1) (c2 : 0 ≤ p2) (c3 : p1 ≤ 65536) (c4 : p2 ≤ 65536) (hn1 : 1 ≤ n) (hn2 : n ≤ 64) :
    wrap64 ((wrap64 (wrap64 (wrap64 (q * (p1 + p2)) + p2) * n)).tdiv (4 * (p1 + p2))) = (q * (p1 + p2) + p2) * n / (4 * (p1 + p2)) := by
  have x0 : 0 ≤ q * (p1 + p2) := Int.mul_nonneg d1 (by omega)
  have x1 : q * (p1 + p2) ≤ 3 * 131072 := Int.mul_le_mul d2 (by omega) (by omega) (by omega)
  obtain ⟨y, hy⟩ : ∃ y, y = q * (p1 + p2) + p2 := ⟨_, rfl⟩
  have y0 : 0 ≤ y := by omega
  have y1 : y ≤ 524288 := by omega
  have z0 : 0 ≤ y * n := Int.mul_nonneg y0 (by omega)
  have z1 : y * n ≤ 524288 * 64 := Int.mul_le_mul y1 hn2 (by omega) (by omega)
  rw [w64_ (x := q * (p1 + p2)) (by omega) (by omega), ← hy, w64_ (x := y) (by omega) (by omega), w64_ (x := y * n) (by omega) (by omega), Int.tdiv_eq_ediv_of_nonneg z0]
  obtain ⟨s, hs⟩ : ∃ s, s = 4 * (p1 + p2) := ⟨_, rfl⟩
  rw [← hs]
  have s0 : 0 ≤ s := by omega
  have k0 : 0 ≤ y * n / s := Int.ediv_nonneg z0 s0
  have k1 : y * n / s ≤ y * n := Int.ediv_le_self _ z0
  exact w64_ (by omega) (by omega)

set_option maxHeartbeats 1600000 in
theorem part_calls (re im : Nat) (a b n : Int) (h : IsC re im a b) (ha : a.natAbs ≤ 65536) (hb : b.natAbs ≤ 65536) (h0 : -9223372036854775808 ≤ n) (h1 : n ≤ 9223372036854775807) (w : World) :
    Calls Try.prog 8 #[.complex .f64 re im, .int .i64 n] w fun e w' => e = .returned (.tuple #[.int .i64 (paI a b n).1, .int .i64 (paI a b n).2]) ∧ w = w' := by
  have HH := Aside0.mk h
  clear h
  by_cases hn : n < 1 ∨ n > 64
  · have HP := Aside0.mk (show paI a b n = (0, 2) by unfold paI; rw [if_pos hn])
    rcases (show n < 1 ∨ (1 ≤ n ∧ 64 < n) by omega) with h2 | ⟨h2, h3⟩
    all_goals
      clear hn
      go_enter Try.func8, Try.ntmps8
      go_wp2
      go_ret2
      exact ⟨by rw [HP.out]; rfl, rfl⟩
  · obtain ⟨q, hq⟩ : ∃ q, q = quI a b := ⟨_, rfl⟩
    obtain ⟨p1, p2, hp⟩ : ∃ p1 p2, (p1, p2) = tI ((-q) % 4).toNat a b := ⟨_, _, rfl⟩
    have hqb := quI_bd a b
    have hf := quI_first a b
    have hab := tI_abs ((-q) % 4).toNat a b
    rw [← hq] at hqb hf
    rw [← hp] at hf hab
    simp only at hf hab
    have HQ := Aside0.mk hq
    have HP := Aside0.mk hp
    have hpa : paI a b n = if p1 + p2 = 0 then (0, 0) else ((q * (p1 + p2) + p2) * n / (4 * (p1 + p2)), 0) := by
      unfold paI
      rw [if_neg hn]
      dsimp only
      rw [← hq, ← hp]
    have HPA := Aside0.mk hpa
    have hp12 : 0 ≤ p1 ∧ 0 ≤ p2 ∧ p1 ≤ 65536 ∧ p2 ≤ 65536 := by
      rcases hf with ⟨x, y⟩ | ⟨_, _, x⟩
      · omega
      · injection x with x y
        omega
    clear hq hp hpa hf hab
    obtain ⟨hn1, hn2⟩ : 1 ≤ n ∧ n ≤ 64 := by omega
    obtain ⟨c1, c2, c3, c4⟩ := hp12
    obtain ⟨d1, d2⟩ := hqb
    clear hn
    by_cases hs : p1 + p2 = 0
    · have e1 : p1 = 0 := by omega
      have e2 : p2 = 0 := by omega
      subst e1
      subst e2
      go_enter Try.func8, Try.ntmps8
      go_wp2_with (first | (go_at_call 15; refine (quarter_calls re im a b HH.out (by omega) _).mono ?_; rintro e w' ⟨rfl, rfl⟩; rw [← HQ.out]) | (go_at_call 13; refine (turn_calls re im a b (-q) HH.out (by omega) (by omega) (by omega) _).mono ?_; rintro e w' ⟨r, i, rfl, hI, rfl⟩; rw [← HP.out] at hI; have hcv1 : ∀ W : World, (convert 41 2 (.float .f64 r)).run Try.prog W = .ok (.int .i64 0) W := fun W => run_convert_float_int W 41 2 .f64 .i64 r _ (by rw [Try.underlying41]; rfl) Try.underlying2 (toInt_isF hI.1 (by omega)); have hcv2 : ∀ W : World, (convert 41 2 (.float .f64 i)).run Try.prog W = .ok (.int .i64 0) W := fun W => run_convert_float_int W 41 2 .f64 .i64 i _ (by rw [Try.underlying41]; rfl) Try.underlying2 (toInt_isF hI.2 (by omega)); clear hI))
      go_ret2
      exact ⟨by rw [HPA.out]; rfl, rfl⟩
    · have hs1 : 1 ≤ p1 + p2 := by omega
      have hsb : ((p1 + p2) == 0) = false := beq_eq_false_iff_ne.2 hs
      clear hs
      go_enter Try.func8, Try.ntmps8
      go_wp2_with (first | (go_at_call 15; refine (quarter_calls re im a b HH.out (by omega) _).mono ?_; rintro e w' ⟨rfl, rfl⟩; rw [← HQ.out]) | (go_at_call 13; refine (turn_calls re im a b (-q) HH.out (by omega) (by omega) (by omega) _).mono ?_; rintro e w' ⟨r, i, rfl, hI, rfl⟩; rw [← HP.out] at hI; have hcv1 : ∀ W : World, (convert 41 2 (.float .f64 r)).run Try.prog W = .ok (.int .i64 p1) W := fun W => run_convert_float_int W 41 2 .f64 .i64 r _ (by rw [Try.underlying41]; rfl) Try.underlying2 (toInt_isF hI.1 (by show -9223372036854775808 ≤ p1 ∧ p1 ≤ 9223372036854775807; omega)); have hcv2 : ∀ W : World, (convert 41 2 (.float .f64 i)).run Try.prog W = .ok (.int .i64 p2) W := fun W => run_convert_float_int W 41 2 .f64 .i64 i _ (by rw [Try.underlying41]; rfl) Try.underlying2 (toInt_isF hI.2 (by show -9223372036854775808 ≤ p2 ∧ p2 ≤ 9223372036854775807; omega)); clear hI))
      go_ret2
      have hnum := part_num d1 d2 c1 c2 c3 c4 hn1 hn2
      have hne : ¬ p1 + p2 = 0 := by omega
      exact ⟨by
        rw [HPA.out, if_neg hne]
        dsimp only
        rw [← hnum]
        rfl, rfl⟩

/-! ### a text's key -/
def keyStep (k c : Int) : Int := (Go.bits .xor .u32 k c * 16777619) % 4294967296
def keyL (k : Int) (l : List Int) : Int := l.foldl keyStep k
def txt (s : ByteArray) : List Int := s.data.toList.map fun b => (b.toNat : Int)
theorem keyStep_bd (k c : Int) : 0 ≤ keyStep k c ∧ keyStep k c < 4294967296 := by
  unfold keyStep
  omega
theorem keyL_bd : ∀ (l : List Int) (k : Int), 0 ≤ k ∧ k < 4294967296 → 0 ≤ keyL k l ∧ keyL k l < 4294967296
  | [], _, h => h
  | c :: r, k, _ => keyL_bd r (keyStep k c) (keyStep_bd k c)
theorem keyL_snoc (k : Int) (l : List Int) (c : Int) : keyL k (l ++ [c]) = keyStep (keyL k l) c := by
  unfold keyL
  rw [List.foldl_append]
  rfl
theorem bytesWorld_below (w : World) (e : TypeId) (s : ByteArray) : Below w.heap.size w (Lib.bytesWorld w e s) :=
  ⟨rfl, rfl, rfl, by rw [Lib.bytesWorld_size]; omega, fun i hi => Lib.bytesWorld_at_old w e s i hi⟩
set_option maxHeartbeats 800000 in
theorem key_calls (s : ByteArray) (hs : s.size ≤ 140737488351232) (w : World) :
    Calls Try.prog 16 #[.string s] w fun e w' => e = .returned (.int .u32 (keyL 2166136261 (txt s))) ∧ Below w.heap.size w w' := by
  have hconv := Lib.run_convert_string_bytes (P := Try.prog) w 9 47 5 s Try.underlying9 Try.underlying47 Try.underlying5
  have HL := Aside0.mk (show (txt s).length = s.size by simp [txt])
  go_enter Try.func16, Try.ntmps16
  go_wp2
  go_loopg [3, 9] s.size (fun g v3 v9 w' => ∃ (j : Nat), v9 = .int .i64 j ∧ j + g = s.size ∧ v3 = .int .u32 (keyL 2166136261 ((txt s).take j)) ∧ w' = Lib.bytesWorld w 5 s)
  case atStart => exact ⟨0, rfl, by omega, rfl, rfl⟩
  case round =>
    obtain ⟨j, rfl, hj, rfl, rfl⟩ := hrel
    clear hconv
    by_cases hlt : j < s.size
    · have hc := Lib.bytesWorld_cell w 5 s j hlt
      have hk := keyL_bd ((txt s).take j) 2166136261 (by omega)
      obtain ⟨c, hcc⟩ : ∃ c : Int, c = (((s.data.toList.getD j 0).toNat : Nat) : Int) := ⟨_, rfl⟩
      have hcb : 0 ≤ c ∧ c < 256 := by
        have := (s.data.toList.getD j 0).toNat_lt
        omega
      rw [← hcc] at hc
      have HT := Aside0.mk (show (txt s).take (j + 1) = (txt s).take j ++ [c] by
        rw [List.take_succ_eq_append_getElem (by rw [HL.out]; exact hlt)]
        congr 1
        rw [hcc]
        have h2 : j < s.data.toList.length := by simpa using hlt
        simp only [txt, List.getElem_map, List.getD_eq_getElem?_getD, List.getElem?_eq_getElem h2]
        rfl)
      clear hcc
      go_wp2
      go_roundg (gk - 1)
      case measure => omega
      case rel => exact ⟨j + 1, by go_num, by omega, by rw [HT.out, keyL_snoc]; rfl, rfl⟩
    · have HT := Aside0.mk (show (txt s).take j = txt s from List.take_of_length_le (by rw [HL.out]; omega))
      go_wp2
      go_ret
      exact ⟨by rw [HT.out] <;> rfl, bytesWorld_below w 5 s⟩

/-! ### a name's partition -/
def roI (s : ByteArray) (n : Int) : Int × Int :=
  let k := keyL 2166136261 (txt s)
  paI (IntKind.i16.wrap k) (IntKind.i16.wrap (k / 65536)) n
set_option maxHeartbeats 800000 in
theorem route_calls (s : ByteArray) (n : Int) (hs : s.size ≤ 140737488351232) (h0 : -9223372036854775808 ≤ n) (h1 : n ≤ 9223372036854775807) (w : World) :
    Calls Try.prog 11 #[.string s, .int .i64 n] w fun e w' => e = .returned (.tuple #[.int .i64 (roI s n).1, .int .i64 (roI s n).2]) ∧ Below w.heap.size w w' := by
  obtain ⟨k, hk⟩ : ∃ k, k = keyL 2166136261 (txt s) := ⟨_, rfl⟩
  have hkb : 0 ≤ k ∧ k < 4294967296 := by rw [hk]; exact keyL_bd (txt s) 2166136261 (by omega)
  have b1 := wrap_i16 k
  have b2 := wrap_i16 (k / 65536)
  have HR := Aside0.mk (show roI s n = paI (IntKind.i16.wrap k) (IntKind.i16.wrap (k / 65536)) n by rw [hk]; rfl)
  obtain ⟨a, ha⟩ : ∃ a, a = IntKind.i16.wrap k := ⟨_, rfl⟩
  obtain ⟨b, hb⟩ : ∃ b, b = IntKind.i16.wrap (k / 65536) := ⟨_, rfl⟩
  rw [← ha] at b1
  rw [← hb] at b2
  have HA := Aside0.mk ha
  have HB := Aside0.mk hb
  have HK := Aside0.mk hk
  clear ha hb hk
  go_enter Try.func11, Try.ntmps11
  go_wp2_with (first | (go_at_call 16; refine (key_calls s hs _).mono ?_; rintro e w1 ⟨rfl, hB⟩; have HW := Aside0.mk hB; clear hB; rw [← HK.out]) | (go_at_call 19; refine (point_calls k hkb.1 hkb.2 _).mono ?_; rintro e w' ⟨r, i, rfl, hI, rfl⟩; rw [← HA.out, ← HB.out] at hI; have HI := Aside0.mk hI; clear hI) | (go_at_call 8; refine (part_calls r i a b n HI.out (by omega) (by omega) h0 h1 _).mono ?_; rintro e w' ⟨rfl, rfl⟩))
  go_ret2
  exact ⟨by rw [HR.out, ← HA.out, ← HB.out] <;> rfl, HW.out⟩
end Go.Proofs.YtjcpghecflbpjaaX
