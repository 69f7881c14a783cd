/- Which part a point, and a name, belongs to: the reference's answers are the program's. -/
import Derived.Test.YtjcpghecflbpjaaXCr
import Derived.Test.YtjcpghecflbpjaaXCompassPartsx1
namespace Go.Proofs.YtjcpghecflbpjaaX
open Go Go.RowKit Go.Proofs.YtjcpghecflbpjaaW.PrintWords Go.Proofs.Ytjcpghecflbpjaa.XCompassParts
set_option linter.unusedVariables false
set_option linter.unusedSimpArgs false
set_option maxRecDepth 100000

theorem ref_quarter (a b : Int) (k : Nat) : funicularref03_Quarter.f (k + 3) a b = some (quI a b) := by
  unfold funicularref03_Quarter.f quI
  by_cases h1 : a > 0
  · rw [if_pos h1]
    by_cases h2 : b ≥ 0
    · rw [if_pos ⟨h1, h2⟩]; simp [funicularref03_Quarter.j0, h2]
    · rw [if_neg (by omega), if_neg (by omega), if_neg (by omega), if_pos (by omega)]
      simp [funicularref03_Quarter.j0, funicularref03_Quarter.j1, funicularref03_Quarter.j2, show ¬ 0 ≤ b by omega, show ¬ b > 0 by omega, show ¬ a < 0 by omega, show b < 0 by omega, show a ≥ 0 by omega]
  · rw [if_neg h1]
    by_cases h2 : b > 0
    · rw [if_neg (by omega), if_pos (by omega)]
      simp [funicularref03_Quarter.j0, funicularref03_Quarter.j1, funicularref03_Quarter.j2, show b > 0 by omega, show a ≤ 0 by omega]
    · by_cases h3 : a < 0
      · rw [if_neg (by omega), if_neg (by omega), if_pos (by omega)]
        simp [funicularref03_Quarter.j0, funicularref03_Quarter.j1, funicularref03_Quarter.j2, show ¬ b > 0 by omega, h3, show b ≤ 0 by omega]
      · by_cases h4 : b < 0
        · rw [if_neg (by omega), if_neg (by omega), if_neg (by omega), if_pos (by omega)]
          simp [funicularref03_Quarter.j0, funicularref03_Quarter.j1, funicularref03_Quarter.j2, show ¬ b > 0 by omega, h3, h4, show a ≥ 0 by omega]
        · rw [if_neg (by omega), if_neg (by omega), if_neg (by omega), if_neg (by omega)]
          simp [funicularref03_Quarter.j0, funicularref03_Quarter.j1, funicularref03_Quarter.j2, show ¬ b > 0 by omega, h3, h4]
theorem ref_turn (a b q : Int) (ha : a.natAbs ≤ 32768) (hb : b.natAbs ≤ 32768) (hq : 0 ≤ q ∧ q ≤ 3) : funicularref03_Turn.f a b (wrap64 (-q)) = some (tI ((-q) % 4).toNat a b) := by
  have hc : q = 0 ∨ q = 1 ∨ q = 2 ∨ q = 3 := by omega
  have ea : wrap64 (-a) = -a := w64_ (by omega) (by omega)
  have eb : wrap64 (-b) = -b := w64_ (by omega) (by omega)
  rcases hc with rfl | rfl | rfl | rfl
  · have e : (Int.tmod (wrap64 ((Int.tmod (wrap64 (-0)) 4) + 4)) 4) = 0 := by decide +kernel
    unfold funicularref03_Turn.f
    rw [e, if_neg (by decide), if_neg (by decide), if_neg (by decide)]
    rfl
  · have e : (Int.tmod (wrap64 ((Int.tmod (wrap64 (-1)) 4) + 4)) 4) = 3 := by decide +kernel
    unfold funicularref03_Turn.f
    rw [e, if_neg (by decide), if_neg (by decide), if_pos rfl, ea]
    show some (b, -a) = some (- -b, -a)
    rw [Int.neg_neg]
  · have e : (Int.tmod (wrap64 ((Int.tmod (wrap64 (-2)) 4) + 4)) 4) = 2 := by decide +kernel
    unfold funicularref03_Turn.f
    rw [e, if_neg (by decide), if_pos rfl, ea, eb]
    rfl
  · have e : (Int.tmod (wrap64 ((Int.tmod (wrap64 (-3)) 4) + 4)) 4) = 1 := by decide +kernel
    unfold funicularref03_Turn.f
    rw [e, if_pos rfl, eb]
    rfl
theorem ref_loop (n q c d : Int) (hn : 1 ≤ n ∧ n ≤ 64) (hq : 0 ≤ q ∧ q ≤ 3) (hc : 0 ≤ c ∧ c ≤ 65536) (hd : 0 ≤ d ∧ d ≤ 65536) (hs : 0 < c + d) (v : Int) (hv0 : 0 ≤ v)
    (hv : v = (q * (c + d) + d) * n / (4 * (c + d))) : ∀ (j k : Nat), v ≤ j → j ≤ 64 → j < k → funicularref03_Part.l0 k n q c d j = some (v, 0) := by
  obtain ⟨s, hse⟩ : ∃ s, s = c + d := ⟨_, rfl⟩
  rw [← hse] at hv hs
  have hs2 : s ≤ 131072 := by omega
  have e1 : wrap64 (c + d) = s := by rw [← hse]; exact w64_ (by omega) (by omega)
  have x0 : 0 ≤ q * s := Int.mul_nonneg hq.1 (by omega)
  have x1 : q * s ≤ 3 * 131072 := Int.mul_le_mul hq.2 (by omega) (by omega) (by omega)
  have e2 : wrap64 (q * s) = q * s := w64_ (by omega) (by omega)
  obtain ⟨y, hy⟩ : ∃ y, y = q * s + d := ⟨_, rfl⟩
  rw [← hy] at hv
  have y0 : 0 ≤ y := by omega
  have y1 : y ≤ 524288 := by omega
  have e3 : wrap64 (q * s + d) = y := by rw [← hy]; exact w64_ (by omega) (by omega)
  have z0 : 0 ≤ y * n := Int.mul_nonneg y0 (by omega)
  have z1 : y * n ≤ 524288 * 64 := Int.mul_le_mul y1 hn.2 (by omega) (by omega)
  have e4 : wrap64 (n * y) = y * n := by rw [Int.mul_comm]; exact w64_ (by omega) (by omega)
  obtain ⟨X, hX⟩ : ∃ X, X = y * n := ⟨_, rfl⟩
  rw [← hX] at hv e4
  clear hX z0 z1 hy x0 x1 hse
  intro j
  induction j with
  | zero =>
    intro k hvj _ hk
    obtain ⟨k, rfl⟩ : ∃ m, k = m + 1 := ⟨k - 1, by omega⟩
    simp only [funicularref03_Part.l0]
    rw [if_neg (by omega)]
    have : v = 0 := by omega
    rw [this]
  | succ j ih =>
    intro k hvj hj hk
    obtain ⟨k, rfl⟩ : ∃ m, k = m + 1 := ⟨k - 1, by omega⟩
    simp only [funicularref03_Part.l0]
    have f1 : wrap64 (4 * ((j + 1 : Nat) : Int)) = 4 * ((j + 1 : Nat) : Int) := w64_ (by omega) (by omega)
    have f0 : 0 ≤ 4 * ((j + 1 : Nat) : Int) * s := Int.mul_nonneg (by omega) (by omega)
    have f3 : 4 * ((j + 1 : Nat) : Int) * s ≤ 256 * 131072 := Int.mul_le_mul (by omega) (by omega) (by omega) (by omega)
    have f2 : wrap64 (4 * ((j + 1 : Nat) : Int) * s) = 4 * ((j + 1 : Nat) : Int) * s := w64_ (by omega) (by omega)
    have f4 : wrap64 (((j + 1 : Nat) : Int) - 1) = (j : Int) := by rw [w64_ (by omega) (by omega)]; omega
    have f5 : 4 * ((j + 1 : Nat) : Int) * s = ((j + 1 : Nat) : Int) * (4 * s) := by rw [Int.mul_comm 4, Int.mul_assoc]
    rw [if_pos (by omega), e1, e2, e3, e4, f1, f2, f4]
    by_cases h : 4 * ((j + 1 : Nat) : Int) * s ≤ X
    · rw [if_pos h]
      have g : ((j + 1 : Nat) : Int) ≤ X / (4 * s) := (Int.le_ediv_iff_mul_le (by omega)).2 (by rw [← f5]; exact h)
      have : v = ((j + 1 : Nat) : Int) := by omega
      rw [this]
    · rw [if_neg h]
      have g : ¬ ((j + 1 : Nat) : Int) ≤ X / (4 * s) := fun h2 => h (by rw [f5]; exact (Int.le_ediv_iff_mul_le (by omega)).1 h2)
      exact ih k (by omega) (by omega) (by omega)
theorem ref_part (a b n : Int) (ha : a.natAbs ≤ 32768) (hb : b.natAbs ≤ 32768) (k : Nat) : funicularref03_Part.f (k + 100) a b n = some (paI a b n) := by
  unfold funicularref03_Part.f
  by_cases h1 : n < 1
  · rw [if_pos h1]
    unfold paI
    rw [if_pos (by omega)]
    show funicularref03_Part.j0 (k + 99 + 1) a b n true = _
    simp only [funicularref03_Part.j0]; rfl
  rw [if_neg h1]
  by_cases h2 : n > 64
  · rw [decide_eq_true h2]
    unfold paI
    rw [if_pos (by omega)]
    show funicularref03_Part.j0 (k + 99 + 1) a b n true = _
    simp only [funicularref03_Part.j0]; rfl
  rw [decide_eq_false h2]
  show funicularref03_Part.j0 (k + 99 + 1) a b n false = _
  simp only [funicularref03_Part.j0]
  rw [if_neg (by decide)]
  have hqb := quI_bd a b
  have hab := tI_abs ((-(quI a b)) % 4).toNat a b
  by_cases h3 : a = 0 ∧ b = 0
  · obtain ⟨rfl, rfl⟩ := h3
    rw [if_pos rfl]
    show funicularref03_Part.j1 (k + 98 + 1) 0 0 n true = _
    simp only [funicularref03_Part.j1]
    rw [if_pos trivial]
    unfold paI
    rw [if_neg (by omega)]; rfl
  have e : (if a = 0 then (funicularref03_Part.j1 (k + 99) a b n (b == 0)) else (funicularref03_Part.j1 (k + 99) a b n false)) = funicularref03_Part.j1 (k + 99) a b n false := by
    by_cases h4 : a = 0
    · rw [if_pos h4, beq_eq_false_iff_ne.2 (by omega)]
    · rw [if_neg h4]
  rw [e]
  show funicularref03_Part.j1 (k + 98 + 1) a b n false = _
  simp only [funicularref03_Part.j1]
  rw [if_neg (by decide), show k + 98 = (k + 95) + 3 by omega, ref_quarter, Option.bind_some, ref_turn a b _ ha hb hqb, Option.bind_some]
  have hpa : paI a b n = ((quI a b * ((tI ((-(quI a b)) % 4).toNat a b).1 + (tI ((-(quI a b)) % 4).toNat a b).2) + (tI ((-(quI a b)) % 4).toNat a b).2) * n / (4 * ((tI ((-(quI a b)) % 4).toNat a b).1 + (tI ((-(quI a b)) % 4).toNat a b).2)), 0) := by
    unfold paI
    rw [if_neg (by omega)]
    dsimp only
    rcases quI_first a b with ⟨g1, g2⟩ | ⟨g1, g2, _⟩
    · rw [if_neg (by omega)]
    · omega
  have hbd := paI_bd a b n
  rw [hpa] at hbd ⊢
  dsimp only at hbd
  obtain ⟨g1, g2⟩ : 0 < (tI ((-(quI a b)) % 4).toNat a b).1 ∧ 0 ≤ (tI ((-(quI a b)) % 4).toNat a b).2 := by
    rcases quI_first a b with h | ⟨g1, g2, _⟩
    · exact h
    · omega
  obtain ⟨j, hj⟩ : ∃ j : Nat, n - 1 = (j : Int) := ⟨(n - 1).toNat, by omega⟩
  rw [show wrap64 (n - 1) = (j : Int) by rw [← hj]; exact w64_ (by omega) (by omega)]
  refine ref_loop n _ _ _ (by omega) hqb ⟨by omega, by omega⟩ ⟨by omega, by omega⟩ (by omega) _ ?_ rfl j _ ?_ (by omega) (by omega)
  · rcases hbd with h | h
    · exact absurd rfl h
    · exact h.1
  · rcases hbd with h | h
    · exact absurd rfl h
    · omega
theorem ref_parts (k : Int) (h0 : 0 ≤ k) (h1 : k < 4294967296) : funicularref03_Parts.f k = some (IntKind.i16.wrap k, IntKind.i16.wrap (k / 65536)) := by
  have e1 : Int.tmod k 65536 = k % 65536 := Int.tmod_eq_emod_of_nonneg h0
  have e2 : Int.tdiv k 65536 = k / 65536 := Int.tdiv_eq_ediv_of_nonneg h0
  have e3 : wrap64 (k % 65536) = k % 65536 := w64_ (by omega) (by omega)
  have e4 : wrap64 (k % 65536 - 65536) = k % 65536 - 65536 := w64_ (by omega) (by omega)
  have e5 : (k / 65536) % 4294967296 = k / 65536 := by omega
  have w1 : IntKind.i16.wrap k = if k % 65536 ≥ 32768 then k % 65536 - 65536 else k % 65536 := by
    simp [IntKind.wrap, IntKind.bits, IntKind.signed]
    all_goals (split <;> split <;> omega)
  have w2 : IntKind.i16.wrap (k / 65536) = if k / 65536 ≥ 32768 then k / 65536 - 65536 else k / 65536 := by
    simp [IntKind.wrap, IntKind.bits, IntKind.signed]
    all_goals (split <;> split <;> omega)
  unfold funicularref03_Parts.f
  rw [e1, e2, e3, e4, e5, w1, w2]
  split <;> split <;> rfl

/-! ### the key -/
theorem xor_low (x c : Nat) (hc : c < 256) : x ^^^ c = x - x % 256 + (x % 256 ^^^ c) ∧ x % 256 ^^^ c < 256 := by
  have h1 : (x ^^^ c) % 2 ^ 8 = (x % 2 ^ 8) ^^^ (c % 2 ^ 8) := Nat.xor_mod_two_pow
  have h2 : (x ^^^ c) / 2 ^ 8 = (x / 2 ^ 8) ^^^ (c / 2 ^ 8) := Nat.xor_div_two_pow
  have h3 : c % 2 ^ 8 = c := Nat.mod_eq_of_lt hc
  have h4 : c / 2 ^ 8 = 0 := Nat.div_eq_of_lt hc
  rw [h3] at h1
  rw [h4, Nat.xor_zero] at h2
  have h5 : x % 256 ^^^ c < 2 ^ 8 := Nat.xor_lt_two_pow (by omega) hc
  refine ⟨?_, by omega⟩
  rw [show (2 : Nat) ^ 8 = 256 from rfl] at h1 h2
  omega
theorem bits_xor_nat (k : IntKind) (x y : Nat) (hk : k = .u32 ∨ k = .u64) (hx : x < 2 ^ 32) (hy : y < 2 ^ 32) : Go.bits .xor k (x : Int) (y : Int) = ((x ^^^ y : Nat) : Int) := by
  have h : x ^^^ y < 2 ^ 32 := Nat.xor_lt_two_pow hx hy
  rcases hk with rfl | rfl
  · show IntKind.u32.wrap ((BitVec.ofInt 32 x ^^^ BitVec.ofInt 32 y).toNat : Int) = _
    rw [BitVec.toNat_xor, BitVec.toNat_ofInt, BitVec.toNat_ofInt]
    have e1 : ((x : Int) % ((2 ^ 32 : Nat) : Int)).toNat = x := by omega
    have e2 : ((y : Int) % ((2 ^ 32 : Nat) : Int)).toNat = y := by omega
    rw [e1, e2]
    show (((x ^^^ y : Nat) : Int)) % 4294967296 = _
    omega
  · show IntKind.u64.wrap ((BitVec.ofInt 64 x ^^^ BitVec.ofInt 64 y).toNat : Int) = _
    rw [BitVec.toNat_xor, BitVec.toNat_ofInt, BitVec.toNat_ofInt]
    have e1 : ((x : Int) % ((2 ^ 64 : Nat) : Int)).toNat = x := by omega
    have e2 : ((y : Int) % ((2 ^ 64 : Nat) : Int)).toNat = y := by omega
    rw [e1, e2]
    show (((x ^^^ y : Nat) : Int)) % 18446744073709551616 = _
    omega
theorem u64w {x : Int} (h0 : 0 ≤ x) (h1 : x < 18446744073709551616) : IntKind.u64.wrap x = x := by
  show x % 18446744073709551616 = x
  omega
theorem ref_step (x c : Int) (hx : 0 ≤ x ∧ x < 4294967296) (hc : 0 ≤ c ∧ c ≤ 255) :
    Int.tmod (IntKind.u64.wrap ((IntKind.u64.wrap ((IntKind.u64.wrap (x - (Int.tmod x 256))) + (Go.bits .xor .u64 (Int.tmod x 256) (IntKind.u64.wrap c)))) * 16777619)) 4294967296 = keyStep x c := by
  obtain ⟨n, rfl⟩ : ∃ n : Nat, x = n := ⟨x.toNat, by omega⟩
  obtain ⟨d, rfl⟩ : ∃ d : Nat, c = d := ⟨c.toNat, by omega⟩
  have hl := xor_low n d (by omega)
  have e1 : Int.tmod (n : Int) 256 = ((n % 256 : Nat) : Int) := by rw [Int.tmod_eq_emod_of_nonneg hx.1]; omega
  unfold keyStep
  rw [e1, u64w (x := (d : Int)) (by omega) (by omega), bits_xor_nat .u64 _ _ (.inr rfl) (by omega) (by omega), bits_xor_nat .u32 n d (.inl rfl) (by omega) (by omega)]
  rw [u64w (x := (n : Int) - ((n % 256 : Nat) : Int)) (by omega) (by omega)]
  have hle : n % 256 ≤ n := Nat.mod_le _ _
  rw [u64w (x := (n : Int) - ((n % 256 : Nat) : Int) + ((n % 256 ^^^ d : Nat) : Int)) (by omega) (by omega)]
  have e2 : (n : Int) - ((n % 256 : Nat) : Int) + ((n % 256 ^^^ d : Nat) : Int) = ((n ^^^ d : Nat) : Int) := by rw [hl.1]; omega
  have h32 : n ^^^ d < 2 ^ 32 := Nat.xor_lt_two_pow (by omega) (by omega)
  rw [e2, u64w (by omega) (by omega), Int.tmod_eq_emod_of_nonneg (by omega)]
theorem ref_key_l (s : ByteArray) (hs : s.size ≤ 140737488351232) : ∀ (d k : Nat) (i x : Int), 0 ≤ i → i + d = s.size → 0 ≤ x ∧ x < 4294967296 → d < k →
    funicularref03_Key.l0 k s x i = some (keyL x ((txt s).drop i.toNat)) := by
  intro d
  induction d with
  | zero =>
    intro k i x h0 h1 hx hk
    obtain ⟨k, rfl⟩ : ∃ m, k = m + 1 := ⟨k - 1, by omega⟩
    simp only [funicularref03_Key.l0]
    rw [if_neg (by omega), List.drop_of_length_le (by simp [txt]; omega)]
    show some (x % 4294967296) = some x
    congr 1; omega
  | succ d ih =>
    intro k i x h0 h1 hx hk
    obtain ⟨k, rfl⟩ : ∃ m, k = m + 1 := ⟨k - 1, by omega⟩
    simp only [funicularref03_Key.l0]
    have hb := bt_range s i
    rw [if_pos (by omega), if_pos h0, w64_ (x := i + 1) (by omega) (by omega), ref_step x _ hx ⟨hb.1, hb.2⟩]
    have hst := keyStep_bd x (bt s i)
    rw [ih k (i + 1) _ (by omega) (by omega) hst (by omega)]
    have hlt : i.toNat < (txt s).length := by simp [txt]; omega
    rw [List.drop_eq_getElem_cons hlt, show (i + 1).toNat = i.toNat + 1 by omega]
    have hc : (txt s)[i.toNat] = bt s i := by
      have := bt_at s i (by omega)
      rw [← this]
      simp only [txt, List.getElem_map]
      rfl
    rw [hc]
    rfl
theorem ref_key (s : ByteArray) (hs : s.size ≤ 140737488351232) (k : Nat) (hk : s.size < k) : funicularref03_Key.f k s = some (keyL 2166136261 (txt s)) := by
  unfold funicularref03_Key.f
  rw [ref_key_l s hs s.size k 0 2166136261 (by omega) (by omega) (by omega) hk]
  rfl
theorem ref_route (s : ByteArray) (n : Int) (hs : s.size ≤ 140737488351232) : funicularref03_Route.f (s.size + 101) s n = some (roI s n) := by
  unfold funicularref03_Route.f roI
  have hb := keyL_bd (txt s) 2166136261 (by omega)
  have w1 := wrap_i16 (keyL 2166136261 (txt s))
  have w2 := wrap_i16 (keyL 2166136261 (txt s) / 65536)
  rw [ref_key s hs _ (by omega), Option.bind_some, ref_parts _ hb.1 hb.2, Option.bind_some]
  dsimp only
  rw [show s.size + 101 = (s.size + 1) + 100 by omega, ref_part _ _ _ (by omega) (by omega), Option.bind_some]

theorem below_d {w w1 : World} {n : Nat} (h : Below (w.drewN n).heap.size (w.drewN n) w1) : Below w.heap.size w w1 := ⟨h.os, h.tape, h.output, h.size, h.block⟩
theorem below_d' {w w1 : World} {n : Nat} {B : Nat} (h : Below B w w1) : Below B w (w1.drewN n) := ⟨h.os, h.tape, h.output, h.size, h.block⟩
set_option maxHeartbeats 1600000 in
theorem parts_true (a b n : Int) (s : ByteArray) (ha : -32768 ≤ a ∧ a ≤ 32767) (hb : -32768 ≤ b ∧ b ≤ 32767) (hn : -9223372036854775808 ≤ n ∧ n ≤ 9223372036854775807) (hs : s.size ≤ 140737488351232) (w : World) :
    Calls Try.prog 3 #[.int .i16 a, .int .i16 b, .int .i64 n, .string s] w fun e w' => e = .returned (.bool true) ∧ Below w.heap.size w w' := by
  by_cases h5 : (s.size : Int) ≤ 5000
  · obtain ⟨x, y, hp⟩ : ∃ x y, (x, y) = paI a b n := ⟨_, _, rfl⟩
    obtain ⟨p, q, hr⟩ : ∃ p q, (p, q) = roI s n := ⟨_, _, rfl⟩
    have HX := Aside0.mk (show (paI a b n).1 = x by rw [← hp])
    have HY := Aside0.mk (show (paI a b n).2 = y by rw [← hp])
    have HP := Aside0.mk (show (roI s n).1 = p by rw [← hr])
    have HQ := Aside0.mk (show (roI s n).2 = q by rw [← hr])
    have R1 := Aside0.mk (show funicularref03_Part.f 100 a b n = some (x, y) by rw [hp]; exact ref_part a b n (by omega) (by omega) 0)
    have R2 := Aside0.mk (show funicularref03_Route.f (s.size + 101) s n = some (p, q) by rw [hr]; exact ref_route s n hs)
    clear hp hr
    obtain ⟨hn0, hn1⟩ := hn
    go_enter Try.func3, Try.ntmps3
    go_wp2_with (first
      | (go_at_call 9; (with_reducible refine (at_calls a b (by omega) (by omega) _).mono ?_); rintro e w' ⟨r0, i0, rfl, hI, rfl⟩; have HI := Aside0.mk hI; clear hI)
      | (go_at_call 8; (with_reducible refine (part_calls r0 i0 a b n HI.out (by omega) (by omega) hn0 hn1 _).mono ?_); rintro e w' ⟨rfl, rfl⟩; rw [HX.out, HY.out])
      | (go_at_call 10; (with_reducible refine (funicularref03_Part.calls 100 a b n x y _ R1.out).mono ?_); rintro e w' ⟨rfl, ⟨nd, rfl⟩⟩)
      | (go_at_call 11; (with_reducible refine (route_calls s n hs hn0 hn1 _).mono ?_); rintro e w1 ⟨rfl, hB⟩; have HB1 := Aside0.mk (below_d hB); clear hB; rw [HP.out, HQ.out])
      | (go_at_call 12; (with_reducible refine (funicularref03_Route.calls (s.size + 101) s n p q _ R2.out).mono ?_); rintro e w' ⟨rfl, ⟨ne, rfl⟩⟩)
      | (go_at_call 7; refine (works_calls _).mono ?_; rintro e w2 ⟨rfl, hB⟩; have HB2 := Aside0.mk (below_d hB); clear hB))
    all_goals (go_ret; exact ⟨rfl, HB1.out.trans (HB2.out.mono HB1.out.size)⟩)
  · go_enter Try.func3, Try.ntmps3
    go_wp2_with (first
      | (go_at_call 7; refine (works_calls _).mono ?_; rintro e w2 ⟨rfl, hB⟩; have HB2 := Aside0.mk hB; clear hB))
    all_goals (go_ret; exact ⟨rfl, HB2.out⟩)
end Go.Proofs.YtjcpghecflbpjaaX
