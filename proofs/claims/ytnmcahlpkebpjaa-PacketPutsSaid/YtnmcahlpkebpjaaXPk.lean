/- Numbers and texts as bytes, read: ReadUint, ReadBytes, as what they are. Conditions: the bytes are bytes. -/
import Derived.Test.YtnmcahlpkebpjaaProg
import Derived.Test.YtnmcahlpkebpjaaWMore
import Derived.Test.YtnmcahlpkebpjaaXW
import Derived.Laws.BitsLemmas
import Derived.WalkKit
import Derived.WalkLawsBesides
import Derived.WalkSpells
import Derived.Deep.LoopGhost
import Derived.Deep.QuietTactic
import Derived.BigQuiet
import Derived.KernelRfl
import Derived.Below
import Derived.Outline
import Derived.Lib.SliceRun
set_option linter.unusedVariables false
set_option linter.unusedSimpArgs false
namespace Go.Proofs.YtnmcahlpkebpjaaX
open Go Go.RowKit Go.Proofs.YtnmcahlpkebpjaaW.PrintWords
def IsB (l : List Int) : Prop := ∀ x, x ∈ l → 0 ≤ x ∧ x < 256
theorem IsB.at_ {l : List Int} (h : IsB l) {i : Int} (h0 : 0 ≤ i) (h1 : i < l.length) : 0 ≤ rd l i ∧ rd l i < 256 := by
  unfold rd
  have hlt : i.toNat < l.length := by omega
  rw [List.getD_eq_getElem?_getD, List.getElem?_eq_getElem hlt]
  exact h _ (List.getElem_mem hlt)
theorem IsB.drop {l : List Int} (h : IsB l) (n : Nat) : IsB (l.drop n) := fun x hx => h x (List.mem_of_mem_drop hx)
theorem IsB.take {l : List Int} (h : IsB l) (n : Nat) : IsB (l.take n) := fun x hx => h x (List.mem_of_mem_take hx)
theorem info5b : (Try.prog.info? 5).map (fun i => (i.zero, i.size, i.bytes)) = some (some (.int .u8 0), 1, 1) := by kernel_rfl

/-- A number read, from byte i on, n being what was read. -/
def ruGo (l : List Int) : Nat → Nat → Int → Int × List Int × Int
  | 0, _, _ => (0, [], 5)
  | f + 1, i, n =>
    if i < l.length then
      if i = 9 ∧ 1 < rd l i then (0, [], 2)
      else if rd l i < 128 then (if rd l i = 0 ∧ 0 < i then (0, [], 2) else (n + rd l i * 2 ^ (7 * i), l.drop (i + 1), 0))
      else ruGo l f (i + 1) (n + (rd l i - 128) * 2 ^ (7 * i))
    else (0, [], 5)
def ruP (l : List Int) : Int × List Int × Int := ruGo l 10 0 0
theorem pow7 (i : Nat) (h : i ≤ 9) : (2 : Int) ^ (7 * i) = ((2 ^ (7 * i) : Nat) : Int) ∧ 2 ^ (7 * i) ≤ 9223372036854775808 ∧ 1 ≤ 2 ^ (7 * i) ∧ (i ≤ 8 → 2 ^ (7 * i) ≤ 72057594037927936) := by
  have hc : i = 0 ∨ i = 1 ∨ i = 2 ∨ i = 3 ∨ i = 4 ∨ i = 5 ∨ i = 6 ∨ i = 7 ∨ i = 8 ∨ i = 9 := by omega
  rcases hc with rfl | rfl | rfl | rfl | rfl | rfl | rfl | rfl | rfl | rfl <;> decide
theorem or_nat (n c : Nat) (i : Nat) (hn : n < 2 ^ i) : n ||| c * 2 ^ i = n + c * 2 ^ i := by
  rw [Nat.or_comm, ← Nat.shiftLeft_eq, ← Nat.shiftLeft_add_eq_or_of_lt hn, Nat.add_comm]
theorem bits_or_nat (x y : Nat) (hx : x < 2 ^ 64) (hy : y < 2 ^ 64) : Go.bits .or .u64 (x : Int) (y : Int) = ((x ||| y : Nat) : Int) := by
  have h : x ||| y < 2 ^ 64 := Nat.or_lt_two_pow hx hy
  show IntKind.u64.wrap ((BitVec.ofInt 64 x ||| BitVec.ofInt 64 y).toNat : Int) = _
  rw [BitVec.toNat_or, BitVec.toNat_ofInt, BitVec.toNat_ofInt]
  have e1 : ((x : Int) % ((2 ^ 64 : Nat) : Int)).toNat = x := by omega
  have e2 : ((y : Int) % ((2 ^ 64 : Nat) : Int)).toNat = y := by omega
  rw [e1, e2]
  show (((x ||| y : Nat) : Int)) % 18446744073709551616 = _
  omega
theorem bits_and127 (x : Nat) (hx : x < 2 ^ 64) : Go.bits .and .u64 (x : Int) 127 = ((x % 128 : Nat) : Int) := by
  show IntKind.u64.wrap ((BitVec.ofInt 64 x &&& BitVec.ofInt 64 127).toNat : Int) = _
  have h3 : (BitVec.ofInt 64 127).toNat = 2 ^ 7 - 1 := by decide
  rw [BitVec.toNat_and, BitVec.toNat_ofInt, h3]
  have e1 : ((x : Int) % ((2 ^ 64 : Nat) : Int)).toNat = x := by omega
  rw [e1, Nat.and_two_pow_sub_one_eq_mod]
  show (((x % 2 ^ 7 : Nat) : Int)) % 18446744073709551616 = _
  have : x % 2 ^ 7 = x % 128 := rfl
  omega
theorem and127 (c : Int) (hc : 0 ≤ c ∧ c < 256) : Go.bits .and .u64 c 127 = c % 128 := by
  obtain ⟨d, rfl⟩ : ∃ d : Nat, c = d := ⟨c.toNat, by omega⟩
  rw [bits_and127 d (by omega)]; omega
/-- A digit laid on. -/
theorem or_digit (n c : Int) (i : Nat) (hi : i ≤ 9) (hn : 0 ≤ n ∧ n < 2 ^ (7 * i)) (hc : 0 ≤ c ∧ c ≤ 127) (h9 : i = 9 → c ≤ 1) :
    IntKind.u64.wrap (c * 2 ^ (7 * i)) = c * 2 ^ (7 * i) ∧ Go.bits .or .u64 n (c * 2 ^ (7 * i)) = n + c * 2 ^ (7 * i) ∧ (i ≤ 8 → 0 ≤ n + c * 2 ^ (7 * i) ∧ n + c * 2 ^ (7 * i) < 2 ^ (7 * (i + 1))) ∧ 0 ≤ n + c * 2 ^ (7 * i) ∧ n + c * 2 ^ (7 * i) < 18446744073709551616 := by
  obtain ⟨m, rfl⟩ : ∃ m : Nat, n = m := ⟨n.toNat, by omega⟩
  obtain ⟨d, rfl⟩ : ∃ d : Nat, c = d := ⟨c.toNat, by omega⟩
  obtain ⟨p1, p2, p3, p4⟩ := pow7 i hi
  have hs : (2 : Int) ^ (7 * (i + 1)) = 2 ^ (7 * i) * 128 := by rw [Nat.mul_add, Int.pow_add]; rfl
  rw [hs]
  rw [p1] at hn ⊢
  have hm : m < 2 ^ (7 * i) := by omega
  have hor := or_nat m d (7 * i) hm
  generalize 2 ^ (7 * i) = q at *
  have e : (d : Int) * (q : Int) = ((d * q : Nat) : Int) := by rw [Int.natCast_mul]
  have hb : d * q ≤ 127 * q := Nat.mul_le_mul_right q (by omega)
  have hd : d * q < 2 ^ 64 := by
    by_cases h : i = 9
    · have h1 := h9 h
      have : d * q ≤ 1 * q := Nat.mul_le_mul_right q (by omega)
      omega
    · have := p4 (by omega)
      omega
  rw [e, bits_or_nat m (d * q) (by omega) hd, hor]
  refine ⟨?_, by omega, fun _ => by omega, by omega, ?_⟩
  · show ((d * q : Nat) : Int) % 18446744073709551616 = _
    omega
  · by_cases h : i = 9
    · have h1 := h9 h
      have : d * q ≤ 1 * q := Nat.mul_le_mul_right q (by omega)
      omega
    · have := p4 (by omega)
      omega

def RuPost (A : Option Addr) (l : List Int) (r : Int × List Int × Int) (w : World) (e : Ending) (w' : World) : Prop :=
  ∃ A1 c1, e = .returned (.tuple #[.int .u64 r.1, .slice A1 r.2.1.length c1, .int .i64 r.2.2]) ∧ r.2.1.length ≤ c1 ∧ (∀ W : World, Kd.C (Kd.int .u8) W A l.length l → Kd.C (Kd.int .u8) W A1 r.2.1.length r.2.1) ∧ Drawn0 w w'
theorem C_nil8 (W : World) : Kd.C (Kd.int .u8) W none ([] : List Int).length [] := Kd.C_nil _ W
theorem ruPost_nil (A : Option Addr) (l : List Int) (n x : Int) (w w' : World) (h : Drawn0 w w') : RuPost A l (n, [], x) w (.returned (.tuple #[.int .u64 n, .slice none 0 0, .int .i64 x])) w' :=
  ⟨none, 0, rfl, Nat.le_refl _, fun W _ => C_nil8 W, h⟩
set_option maxHeartbeats 1600000 in
set_option maxRecDepth 100000 in
theorem ru_calls (A : Option Addr) (c : Nat) (l : List Int) (hb : IsB l) (w : World) (hr : Kd.C (Kd.int .u8) w A l.length l) (hc : l.length ≤ c) :
    Calls Try.prog 45 #[.slice A l.length c] w (RuPost A l (ruP l) w) := by
  have hmax : l.length ≤ 9223372036854775807 := hr.2.1
  have HR := Aside0.mk hr
  have HB := Aside0.mk hb
  clear hr hb
  obtain ⟨m, hm, hm2⟩ : ∃ m : Nat, (if 10 < (l.length : Int) then 10 else (l.length : Int)) = (m : Int) ∧ m = min l.length 10 := ⟨min l.length 10, by split <;> omega, rfl⟩
  have hm10 : m ≤ 10 := by omega
  have hml : m ≤ l.length := by omega
  have HM := Aside0.mk hm2
  clear hm2
  go_enter Try.func45, Try.ntmps45
  go_wp2
  go_loopg [5, 11] 10 (fun g v5 v11 w' => ∃ (j : Nat) (n : Int), v11 = .int .i64 j ∧ v5 = .int .u64 n ∧ j ≤ m ∧ g + j = 10 ∧ Aside0 (0 ≤ n ∧ n < 2 ^ (7 * j) ∧ ruP l = ruGo l g j n) ∧ w' = w)
  case atStart => exact ⟨0, 0, rfl, rfl, by omega, rfl, ⟨by omega, by decide, rfl⟩, rfl⟩
  case round =>
    obtain ⟨j, n, rfl, rfl, hjm, hgj, HN, rfl⟩ := hrel
    by_cases hlt : j < m
    · obtain ⟨x, hx⟩ : ∃ x, x = rd l j := ⟨_, rfl⟩
      have hxb := HB.out.at_ (i := j) (by omega) (by omega)
      rw [← hx] at hxb
      obtain ⟨hx0, hx1⟩ := hxb
      have hj9 : j ≤ 9 := by omega
      obtain ⟨ad, rfl, hcell⟩ := Kd.at_int HR.out j (by omega) (by omega)
      rw [← hx, Int.toNat_natCast] at hcell
      obtain ⟨g, rfl⟩ : ∃ q, gk = q + 1 := ⟨gk - 1, by omega⟩
      have hgo := HN.out.2.2
      simp only [ruGo] at hgo
      rw [if_pos (by omega), ← hx] at hgo
      have HX := Aside0.mk hx
      clear hx
      have hand := and127 x ⟨hx0, hx1⟩
      by_cases c9 : j = 9 ∧ 1 < x
      · rw [if_pos c9] at hgo
        have HG := Aside0.mk hgo
        clear hgo
        have hj9b : ((j : Int) == 9) = true := by simp; omega
        have c9b : decide (1 < x) = true := decide_eq_true c9.2
        clear c9 hj9
        go_wp2
        go_ret3
        rw [HG.out]
        exact ruPost_nil _ _ _ _ _ _ (Drawn0.refl _)
      · rw [if_neg c9] at hgo
        have HD := Aside0.mk (or_digit n (x % 128) j hj9 ⟨HN.out.1, HN.out.2.1⟩ ⟨by omega, by omega⟩ (fun h => by omega))
        have hw7 : IntKind.i64.wrap (7 * (j : Int)) = 7 * (j : Int) := by rw [IntKind.wrap_i64]; omega
        have ht7 : (7 * (j : Int)).toNat = 7 * j := by omega
        obtain ⟨q, hq⟩ : ∃ q : Int, q = x % 128 * 2 ^ (7 * j) := ⟨_, rfl⟩
        obtain ⟨n2, hn2⟩ : ∃ n2 : Int, n2 = n + q := ⟨_, rfl⟩
        have hd1 : IntKind.u64.wrap (x % 128 * 2 ^ (7 * j)) = q := by rw [HD.out.1, hq]
        have hd2 : Go.bits .or .u64 n q = n2 := by rw [hq, HD.out.2.1, hn2, hq]
        have HQ := Aside0.mk hq
        have HN2 := Aside0.mk hn2
        have HW7 := Aside0.mk hw7
        clear hq hn2 hw7
        have hc9 : (j = 9 ∧ x ≤ 1) ∨ j ≠ 9 := by omega
        clear c9
        by_cases c128 : x < 128
        · rw [if_pos c128] at hgo
          by_cases c0 : x = 0 ∧ 0 < j
          · rw [if_pos c0] at hgo
            have HG := Aside0.mk hgo
            clear hgo
            have c0b : (x == 0) = true := by simp; omega
            have c0c : decide (0 < j) = true := decide_eq_true (by omega)
            rcases hc9 with ⟨h9, h1⟩ | h9
            · have hj9b : ((j : Int) == 9) = true := by simp; omega
              clear c0 h9
              go_wp2
              go_ret3
              rw [HG.out]
              exact ruPost_nil _ _ _ _ _ _ (Drawn0.refl _)
            · have hj9b : ((j : Int) == 9) = false := by simp; omega
              clear c0 h9
              go_wp2
              go_ret3
              rw [HG.out]
              exact ruPost_nil _ _ _ _ _ _ (Drawn0.refl _)
          · rw [if_neg c0] at hgo
            have HG := Aside0.mk hgo
            clear hgo
            obtain ⟨i5, hi5, _, hsz5, _⟩ := info_parts info5b
            have hcut := cut_from (P := Try.prog) 27 5 .i64 Try.underlying27 hi5 1 hsz5 (some ad) l.length c ((j : Int) + 1) (by omega) (by omega)
            have hj1 : IntKind.i64.wrap ((j : Int) + 1) = (j : Int) + 1 := by rw [IntKind.wrap_i64]; omega
            have hjt : ((j : Int) + 1).toNat = j + 1 := by omega
            rw [hjt] at hcut
            obtain ⟨A1, hA1⟩ : ∃ A1, A1 = (if c = j + 1 then (some ad) else (some ad : Option Addr).map (·.add ((j + 1) * 1))) := ⟨_, rfl⟩
            rw [← hA1] at hcut
            have HA1 := Aside0.mk hA1
            clear hA1 hjt hi5 hsz5
            rcases hc9 with ⟨h9, h1⟩ | h9
            · have hj9b : ((j : Int) == 9) = true := by simp; omega
              have hx1b : decide (1 < x) = false := decide_eq_false (by omega)
              by_cases hx0' : x = 0
              · have c0b : (x == 0) = true := by simp; omega
                have c0c : decide (0 < j) = false := decide_eq_false (by omega)
                clear c0 h9 hx0' h1
                go_wp2
                repeat (go_quiet (fail); try go_wp2)
                go_ret3
                rw [HG.out]
                refine ⟨A1, c - (j + 1), ?_, ?_, ?_, by repeat (first | exact Drawn0.refl _ | apply Drawn0.step)⟩
                · show Ending.returned (.tuple #[.int .u64 n2, .slice A1 (l.length - (j + 1)) (c - (j + 1)), .int .i64 0]) = _
                  rw [HN2.out, HQ.out, show x % 128 = x by omega, List.length_drop]
                · rw [List.length_drop]; omega
                · intro W hW
                  rw [HA1.out]
                  exact Kd.C_drop hW (by omega) hc
              · have c0b : (x == 0) = false := by simp; omega
                clear c0 h9 hx0' h1
                go_wp2
                repeat (go_quiet (fail); try go_wp2)
                go_ret3
                rw [HG.out]
                refine ⟨A1, c - (j + 1), ?_, ?_, ?_, by repeat (first | exact Drawn0.refl _ | apply Drawn0.step)⟩
                · show Ending.returned (.tuple #[.int .u64 n2, .slice A1 (l.length - (j + 1)) (c - (j + 1)), .int .i64 0]) = _
                  rw [HN2.out, HQ.out, show x % 128 = x by omega, List.length_drop]
                · rw [List.length_drop]; omega
                · intro W hW
                  rw [HA1.out]
                  exact Kd.C_drop hW (by omega) hc
            · have hj9b : ((j : Int) == 9) = false := by simp; omega
              by_cases hx0' : x = 0
              · have c0b : (x == 0) = true := by simp; omega
                have c0c : decide (0 < j) = false := decide_eq_false (by omega)
                clear c0 h9 hx0'
                go_wp2
                repeat (go_quiet (fail); try go_wp2)
                go_ret3
                rw [HG.out]
                refine ⟨A1, c - (j + 1), ?_, ?_, ?_, by repeat (first | exact Drawn0.refl _ | apply Drawn0.step)⟩
                · show Ending.returned (.tuple #[.int .u64 n2, .slice A1 (l.length - (j + 1)) (c - (j + 1)), .int .i64 0]) = _
                  rw [HN2.out, HQ.out, show x % 128 = x by omega, List.length_drop]
                · rw [List.length_drop]; omega
                · intro W hW
                  rw [HA1.out]
                  exact Kd.C_drop hW (by omega) hc
              · have c0b : (x == 0) = false := by simp; omega
                clear c0 h9 hx0'
                go_wp2
                repeat (go_quiet (fail); try go_wp2)
                go_ret3
                rw [HG.out]
                refine ⟨A1, c - (j + 1), ?_, ?_, ?_, by repeat (first | exact Drawn0.refl _ | apply Drawn0.step)⟩
                · show Ending.returned (.tuple #[.int .u64 n2, .slice A1 (l.length - (j + 1)) (c - (j + 1)), .int .i64 0]) = _
                  rw [HN2.out, HQ.out, show x % 128 = x by omega, List.length_drop]
                · rw [List.length_drop]; omega
                · intro W hW
                  rw [HA1.out]
                  exact Kd.C_drop hW (by omega) hc
        · rw [if_neg c128] at hgo
          have HG := Aside0.mk hgo
          clear hgo
          have h9 : j ≠ 9 := by omega
          have hj9b : ((j : Int) == 9) = false := by simp; omega
          have hj8 : j ≤ 8 := by omega
          have HD8 := Aside0.mk (HD.out.2.2.1 hj8)
          clear h9 hc9 hj8
          go_wp2
          go_roundg g
          case measure => omega
          case rel =>
            refine ⟨j + 1, n2, by go_num, rfl, by omega, by omega, ⟨?_, ?_, ?_⟩, rfl⟩
            · rw [HN2.out, HQ.out]; exact HD8.out.1
            · rw [HN2.out, HQ.out]; exact HD8.out.2
            · rw [HN2.out, HQ.out, HG.out, show x % 128 = x - 128 by omega]
    · have hG : ruP l = (0, [], 5) := by
        rw [HN.out.2.2]
        cases gk with
        | zero => rfl
        | succ g =>
          simp only [ruGo]
          rw [if_neg (by have := HM.out; omega)]
      have HG := Aside0.mk hG
      clear hG
      go_wp2
      go_ret3
      rw [HG.out]
      exact ruPost_nil _ _ _ _ _ _ (Drawn0.refl _)

/-! ### texts -/
def rbP (l : List Int) : List Int × List Int × Int :=
  if (ruP l).2.2 = 0 then (if (ruP l).1 > ((ruP l).2.1.length : Int) then ([], [], 5) else ((ruP l).2.1.take (ruP l).1.toNat, (ruP l).2.1.drop (ruP l).1.toNat, 0)) else ([], [], (ruP l).2.2)
def RbPost (A : Option Addr) (l : List Int) (r : List Int × List Int × Int) (w : World) (e : Ending) (w' : World) : Prop :=
  ∃ A1 c1 A2 c2, e = .returned (.tuple #[.slice A1 r.1.length c1, .slice A2 r.2.1.length c2, .int .i64 r.2.2]) ∧ r.1.length ≤ c1 ∧ r.2.1.length ≤ c2 ∧ (∀ W : World, Kd.C (Kd.int .u8) W A l.length l → Kd.C (Kd.int .u8) W A1 r.1.length r.1) ∧ (∀ W : World, Kd.C (Kd.int .u8) W A l.length l → Kd.C (Kd.int .u8) W A2 r.2.1.length r.2.1) ∧ Drawn0 w w'
theorem rbPost_nil (A : Option Addr) (l : List Int) (x : Int) (w w' : World) (h : Drawn0 w w') : RbPost A l ([], [], x) w (.returned (.tuple #[.slice none 0 0, .slice none 0 0, .int .i64 x])) w' :=
  ⟨none, 0, none, 0, rfl, Nat.le_refl _, Nat.le_refl _, fun W _ => C_nil8 W, fun W _ => C_nil8 W, h⟩
theorem ruGo_nn (l : List Int) (hb : IsB l) : ∀ (f i : Nat) (n : Int), i + f = 10 → 0 ≤ n → n < 2 ^ (7 * i) → 0 ≤ (ruGo l f i n).1 ∧ (ruGo l f i n).1 < 18446744073709551616 := by
  intro f
  induction f with
  | zero => intro i n _ _ _; exact ⟨Int.le_refl _, by show (0 : Int) < _; decide⟩
  | succ f ih =>
    intro i n hi h0 h1
    simp only [ruGo]
    by_cases hl : i < l.length
    · rw [if_pos hl]
      have hx := hb.at_ (i := i) (by omega) (by omega)
      generalize rd l i = x at hx
      by_cases c9 : i = 9 ∧ 1 < x
      · rw [if_pos c9]; exact ⟨Int.le_refl _, by show (0 : Int) < _; decide⟩
      · rw [if_neg c9]
        have hd := or_digit n (x % 128) i (by omega) ⟨h0, h1⟩ ⟨by omega, by omega⟩ (fun h => by omega)
        by_cases c1 : x < 128
        · rw [if_pos c1]
          by_cases c2 : x = 0 ∧ 0 < i
          · rw [if_pos c2]; exact ⟨Int.le_refl _, by show (0 : Int) < _; decide⟩
          · rw [if_neg c2]
            have := hd.2.2.2
            rw [show x % 128 = x by omega] at this
            exact this
        · rw [if_neg c1]
          have h8 := hd.2.2.1 (by omega)
          rw [show x % 128 = x - 128 by omega] at h8
          exact ih (i + 1) _ (by omega) h8.1 h8.2
    · rw [if_neg hl]; exact ⟨Int.le_refl _, by show (0 : Int) < _; decide⟩
theorem ruP_nn (l : List Int) (hb : IsB l) : 0 ≤ (ruP l).1 ∧ (ruP l).1 < 18446744073709551616 := ruGo_nn l hb 10 0 0 rfl (by omega) (by decide)
theorem ruGo_len (l : List Int) : ∀ (f i : Nat) (n : Int), (ruGo l f i n).2.1.length ≤ l.length := by
  intro f
  induction f with
  | zero => intro i n; exact Nat.zero_le _
  | succ f ih =>
    intro i n
    simp only [ruGo]
    repeat' split
    all_goals first
      | exact Nat.zero_le _
      | (show (l.drop (i + 1)).length ≤ _; rw [List.length_drop]; omega)
      | exact ih _ _
theorem ruP_len (l : List Int) : (ruP l).2.1.length ≤ l.length := ruGo_len l 10 0 0
theorem ruGo_B (l : List Int) (hb : IsB l) : ∀ (f i : Nat) (n : Int), IsB (ruGo l f i n).2.1 := by
  intro f
  induction f with
  | zero => intro i n x hx; cases hx
  | succ f ih =>
    intro i n
    simp only [ruGo]
    repeat' split
    all_goals first
      | exact fun x hx => by cases hx
      | exact hb.drop (i + 1)
      | exact ih _ _
theorem ruP_B (l : List Int) (hb : IsB l) : IsB (ruP l).2.1 := ruGo_B l hb 10 0 0
set_option maxHeartbeats 1600000 in
set_option maxRecDepth 100000 in
theorem rb_calls (A : Option Addr) (c : Nat) (l : List Int) (hb : IsB l) (w : World) (hr : Kd.C (Kd.int .u8) w A l.length l) (hc : l.length ≤ c) :
    Calls Try.prog 50 #[.slice A l.length c] w (RbPost A l (rbP l) w) := by
  obtain ⟨n, hn⟩ : ∃ n, n = (ruP l).1 := ⟨_, rfl⟩
  obtain ⟨t, ht⟩ : ∃ t, t = (ruP l).2.1 := ⟨_, rfl⟩
  obtain ⟨x, hx⟩ : ∃ x, x = (ruP l).2.2 := ⟨_, rfl⟩
  have hnn := ruP_nn l hb
  rw [← hn] at hnn
  have hrb : rbP l = if x = 0 then (if n > (t.length : Int) then ([], [], 5) else (t.take n.toNat, t.drop n.toNat, 0)) else ([], [], x) := by
    unfold rbP
    rw [← hn, ← ht, ← hx]
  have htl : t.length ≤ 9223372036854775807 := by have := ruP_len l; rw [← ht] at this; exact Nat.le_trans this hr.2.1
  have HR := Aside0.mk hr
  have HB := Aside0.mk hb
  have HN := Aside0.mk hn
  have HT := Aside0.mk ht
  have HX := Aside0.mk hx
  obtain ⟨hn0, hn1⟩ := hnn
  clear hr hb hn ht hx
  by_cases c0 : x = 0
  · subst c0
    rw [if_pos rfl] at hrb
    by_cases c1 : n > (t.length : Int)
    · rw [if_pos c1] at hrb
      have HRB := Aside0.mk hrb
      clear hrb
      go_enter Try.func50, Try.ntmps50
      go_wp2_with (go_at_call 45; ((with_reducible refine (ru_calls A c l HB.out _ HR.out hc).mono ?_); rintro e w' ⟨A1, c1, rfl, hc1, hwin, ⟨nd, rfl⟩⟩; rw [← HN.out, ← HT.out, ← HX.out]; rw [← HT.out] at hc1 hwin; have HWIN := Aside0.mk hwin; clear hwin))
      go_ret3
      rw [HRB.out]
      exact rbPost_nil _ _ _ _ _ (by repeat (first | exact Drawn0.refl _ | apply Drawn0.step))
    · rw [if_neg c1] at hrb
      have HRB := Aside0.mk hrb
      clear hrb
      obtain ⟨i5, hi5, _, hsz5, _⟩ := info_parts info5b
      go_enter Try.func50, Try.ntmps50
      go_wp2_with (go_at_call 45; ((with_reducible refine (ru_calls A c l HB.out _ HR.out hc).mono ?_); rintro e w' ⟨A1, k1, rfl, hc1, hwin, ⟨nd, rfl⟩⟩; rw [← HN.out, ← HT.out, ← HX.out]; rw [← HT.out] at hc1 hwin; have HWIN := Aside0.mk hwin; clear hwin; have hcut1 := cut_to3 (P := Try.prog) 27 5 .u64 .u64 Try.underlying27 hi5 1 hsz5 A1 t.length k1 n hn0 (by omega) hc1; have hcut2 := cut_from (P := Try.prog) 27 5 .u64 Try.underlying27 hi5 1 hsz5 A1 t.length k1 n hn0 (by omega); obtain ⟨A2, hA2⟩ : ∃ A2, A2 = (if k1 = n.toNat then A1 else A1.map (·.add (n.toNat * 1))) := ⟨_, rfl⟩; rw [← hA2] at hcut2; have HA2 := Aside0.mk hA2; clear hA2))
      repeat (go_quiet (fail); try go_wp2)
      go_ret3
      rw [HRB.out]
      refine ⟨A1, n.toNat, A2, k1 - n.toNat, ?_, ?_, ?_, ?_, ?_, by repeat (first | exact Drawn0.refl _ | apply Drawn0.step)⟩
      · have e : (t.take n.toNat).length = n.toNat := by rw [List.length_take]; omega
        rw [e, List.length_drop]; rfl
      · rw [List.length_take]; omega
      · rw [List.length_drop]; omega
      · intro W hW
        exact Kd.C_take (HWIN.out W hW) (by omega)
      · intro W hW
        rw [HA2.out]
        exact Kd.C_drop (HWIN.out W hW) (by omega) hc1
  · rw [if_neg c0] at hrb
    have HRB := Aside0.mk hrb
    clear hrb
    have c0b : (x == 0) = false := by simp; omega
    clear c0
    go_enter Try.func50, Try.ntmps50
    go_wp2_with (go_at_call 45; ((with_reducible refine (ru_calls A c l HB.out _ HR.out hc).mono ?_); rintro e w' ⟨A1, c1, rfl, hc1, hwin, ⟨nd, rfl⟩⟩; rw [← HN.out, ← HT.out, ← HX.out]; rw [← HT.out] at hc1 hwin; have HWIN := Aside0.mk hwin; clear hwin))
    go_ret3
    rw [HRB.out]
    exact rbPost_nil _ _ _ _ _ (by repeat (first | exact Drawn0.refl _ | apply Drawn0.step))

/-! ### a copy of bytes -/
set_option maxHeartbeats 1600000 in
set_option maxRecDepth 100000 in
theorem clone8_calls (A : Option Addr) (c : Nat) (l : List Int) (hl : l.length ≤ 140737488351232) (w : World) (hr : Kd.C (Kd.int .u8) w A l.length l) (hc : l.length ≤ c) :
    Calls Try.prog 51 #[.slice A l.length c] w fun e w' => ∃ v : Value, e = .returned v ∧ Kd.R (Kd.int .u8) 5 w' w.heap.size (fun _ => True) v l ∧ Below w.heap.size w w' := by
  have HR := Aside0.mk hr
  clear hr
  cases A with
  | none =>
    obtain rfl : l = [] := by
      rcases Nat.eq_zero_or_pos l.length with h0 | h0
      · exact List.eq_nil_of_length_eq_zero h0
      · obtain ⟨ad, h, _⟩ := HR.out.2.2 h0
        cases h
    have heq : ∀ W : World, (binOp .eql 27 (.slice none 0 c) (.slice none 0 0)).run Try.prog W = .ok (.bool true) W := fun W => Lib.run_eql_slice_nil (P := Try.prog) W 27 5 none _ c 0 0 Try.underlying27
    show Calls Try.prog 51 #[.slice none 0 c] w _
    go_enter Try.func51, Try.ntmps51
    go_wp2
    go_ret
    exact ⟨_, rfl, Kd.R_nil _ _ _ _ _, Below.refl _ _⟩
  | some ad =>
    have heq : ∀ W : World, (binOp .eql 27 (.slice (some ad) l.length c) (.slice none 0 0)).run Try.prog W = .ok (.bool false) W := fun W => Lib.run_eql_slice_nil (P := Try.prog) W 27 5 (some ad) _ c 0 0 Try.underlying27
    go_enter Try.func51, Try.ntmps51
    go_wp2_with (at_builtin; go_loud (refine Kd.R_append_rows (Kd.int .u8) (w0 := w) w.heap.size rfl (.tmp 5) (.tmp 6) 27 5 (.int .u8 0) 1 rfl Try.underlying27 info5b rfl (by decide) (by omega) _ [] l _ _ _ (fun _ => True) (fun _ => False) rfl rfl ?aO ?aR (fun _ _ h => h) (fun _ h => h.elim) (fun _ _ => trivial) ?aB ?aS ?aL ?_; (case aO => exact Kd.R_of_own (own_lit w w.heap.size 5 .u8 [] (Nat.le_refl _) (by simp)) (fun _ _ => trivial)); (case aR => exact Kd.C_below HR.out (below_alloc (Below.refl _ _) _)); (case aB => exact below_alloc (Below.refl _ _) _); (case aS => first | omega | (simp; done) | (simp; omega)); (case aL => first | omega | (simp; done) | (simp; omega)); intro v1 w1 ho hb hg hat; have HO := Aside0.mk ho; have HBL := Aside0.mk hb; clear ho hb hg hat))
    go_ret
    exact ⟨_, rfl, HO.out, HBL.out⟩
end Go.Proofs.YtnmcahlpkebpjaaX
