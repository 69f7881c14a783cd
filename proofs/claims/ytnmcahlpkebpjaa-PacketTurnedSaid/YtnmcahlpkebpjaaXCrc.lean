/- The sum over bytes as words of 32 bits: what one byte does, over more bytes, and that what differs stays apart. -/
import Derived.Test.YtnmcahlpkebpjaaWMore
import Derived.Laws.BitsLemmas
set_option linter.unusedVariables false
set_option linter.unusedSimpArgs false
namespace Go.Proofs.YtnmcahlpkebpjaaX
open Go Go.RowKit

section
open Go.Proofs.YtnmcahlpkebpjaaW.PrintWords
theorem Ev.yes {α : Type} {c : Prop} [Decidable c] {g f : Nat → Option α} {r : α} (hc : c) (h : Ev g r) : Ev (fun k => if c then g k else f k) r := Ev.congr (fun _ => if_pos hc) h
theorem Ev.no {α : Type} {c : Prop} [Decidable c] {g f : Nat → Option α} {r : α} (hc : ¬ c) (h : Ev f r) : Ev (fun k => if c then g k else f k) r := Ev.congr (fun _ => if_neg hc) h
theorem Ev.some_bind {α β : Type} {x : α} {f : Nat → α → Option β} {r : β} (h : Ev (fun k => f k x) r) : Ev (fun k => (some x).bind (f k)) r := h
end

def i32 (b : BitVec 32) : Int := (b.toNat : Int)
theorem i32_nonneg (b : BitVec 32) : 0 ≤ i32 b := Int.natCast_nonneg _
theorem i32_lt (b : BitVec 32) : i32 b < 4294967296 := by
  have := b.isLt
  unfold i32
  omega
theorem i32_inj {a b : BitVec 32} (h : i32 a = i32 b) : a = b := BitVec.eq_of_toNat_eq (Int.ofNat.inj h)
theorem ofInt_i32 (b : BitVec 32) : BitVec.ofInt 32 (i32 b) = b := by
  unfold i32
  rw [BitVec.ofInt_natCast]
  simp
theorem i32_ofInt (x : Int) (h0 : 0 ≤ x) (h1 : x < 4294967296) : i32 (BitVec.ofInt 32 x) = x := by
  obtain ⟨n, rfl⟩ := Int.eq_ofNat_of_zero_le h0
  unfold i32
  rw [BitVec.ofInt_natCast, BitVec.toNat_ofNat]
  omega
theorem wrap_u32_toNat (r : BitVec 32) : IntKind.u32.wrap (r.toNat : Int) = i32 r := by
  rw [IntKind.wrap_u32]
  have := r.isLt
  unfold i32
  omega
theorem bits_xor (a b : BitVec 32) : Go.bits .xor .u32 (i32 a) (i32 b) = i32 (a ^^^ b) := by
  show IntKind.u32.wrap ((BitVec.ofInt 32 (i32 a) ^^^ BitVec.ofInt 32 (i32 b)).toNat : Int) = _
  rw [ofInt_i32, ofInt_i32, wrap_u32_toNat]
theorem bits_and (a b : BitVec 32) : Go.bits .and .u32 (i32 a) (i32 b) = i32 (a &&& b) := by
  show IntKind.u32.wrap ((BitVec.ofInt 32 (i32 a) &&& BitVec.ofInt 32 (i32 b)).toNat : Int) = _
  rw [ofInt_i32, ofInt_i32, wrap_u32_toNat]
theorem i32_half (a : BitVec 32) : (i32 a : Int) / (2 : Int) = i32 (a >>> 1) := by
  unfold i32
  rw [BitVec.toNat_ushiftRight, Nat.shiftRight_eq_div_pow]
  simp

/-- One bit. -/
def rnd (s : BitVec 32) : BitVec 32 := if s &&& 1#32 = 1#32 then (s >>> 1) ^^^ 3988292384#32 else s >>> 1
def rnds : Nat → BitVec 32 → BitVec 32
  | 0, s => s
  | n + 1, s => rnds n (rnd s)
/-- One byte. -/
def byte8 (s : BitVec 32) (c : Int) : BitVec 32 := rnds 8 (s ^^^ BitVec.ofInt 32 c)
def upd (s : BitVec 32) (l : List Int) : BitVec 32 := l.foldl byte8 s
/-- The sum that goes on over more bytes. -/
def crcU (s : BitVec 32) (l : List Int) : BitVec 32 := ~~~ (upd (~~~ s) l)
theorem upd_append (s : BitVec 32) (a b : List Int) : upd s (a ++ b) = upd (upd s a) b := List.foldl_append ..
theorem crcU_append (s : BitVec 32) (a b : List Int) : crcU s (a ++ b) = crcU (crcU s a) b := by
  unfold crcU
  rw [upd_append, BitVec.not_not]

theorem bit0 (s : BitVec 32) : (s &&& 1#32 = 1#32) ↔ s.getLsbD 0 = true := by
  constructor
  · intro h
    have := congrArg (fun b => b.getLsbD 0) h
    simpa using this
  · intro h
    apply BitVec.eq_of_getLsbD_eq
    intro i hi
    rw [BitVec.getLsbD_and]
    rcases Nat.eq_zero_or_pos i with rfl | hp
    · simp [h]
    · have : (1#32).getLsbD i = false := by
        rw [BitVec.getLsbD_one]; simp; omega
      simp [this]

theorem rnd_top (s : BitVec 32) : (rnd s).getLsbD 31 = s.getLsbD 0 := by
  unfold rnd
  by_cases h : s &&& 1#32 = 1#32
  · rw [if_pos h, BitVec.getLsbD_xor, BitVec.getLsbD_ushiftRight, (bit0 s).1 h]
    simp
  · rw [if_neg h, BitVec.getLsbD_ushiftRight]
    have h0 : s.getLsbD 0 = false := by
      cases hq : s.getLsbD 0 with
      | false => rfl
      | true => exact absurd ((bit0 s).2 hq) h
    rw [h0]
    simp

theorem xor_cancel {a b c : BitVec 32} (h : a ^^^ c = b ^^^ c) : a = b := by
  have := congrArg (· ^^^ c) h
  simpa [BitVec.xor_assoc] using this
theorem rnd_inj {a b : BitVec 32} (h : rnd a = rnd b) : a = b := by
  have h0 : a.getLsbD 0 = b.getLsbD 0 := by rw [← rnd_top, ← rnd_top, h]
  have hs : a >>> 1 = b >>> 1 := by
    unfold rnd at h
    by_cases ha : a &&& 1#32 = 1#32
    · have hb : b &&& 1#32 = 1#32 := (bit0 b).2 (by rw [← h0]; exact (bit0 a).1 ha)
      rw [if_pos ha, if_pos hb] at h
      exact xor_cancel h
    · have hb : ¬ b &&& 1#32 = 1#32 := fun hb => ha ((bit0 a).2 (by rw [h0]; exact (bit0 b).1 hb))
      rw [if_neg ha, if_neg hb] at h
      exact h
  apply BitVec.eq_of_getLsbD_eq
  intro i hi
  rcases Nat.eq_zero_or_pos i with rfl | hp
  · exact h0
  · have := congrArg (fun c => c.getLsbD (i - 1)) hs
    simp only [BitVec.getLsbD_ushiftRight] at this
    rwa [show 1 + (i - 1) = i by omega] at this
theorem rnds_inj : ∀ (n : Nat) {a b : BitVec 32}, rnds n a = rnds n b → a = b
  | 0, _, _, h => h
  | n + 1, _, _, h => rnd_inj (rnds_inj n h)
theorem byte8_inj {a b : BitVec 32} {c : Int} (h : byte8 a c = byte8 b c) : a = b := xor_cancel (rnds_inj 8 h)
theorem upd_inj : ∀ (l : List Int) {a b : BitVec 32}, upd a l = upd b l → a = b
  | [], _, _, h => h
  | c :: r, a, b, h => byte8_inj (upd_inj r (a := byte8 a c) (b := byte8 b c) h)
theorem byte_word {c d : Int} (hc : 0 ≤ c) (hc' : c < 4294967296) (hd : 0 ≤ d) (hd' : d < 4294967296) (h : BitVec.ofInt 32 c = BitVec.ofInt 32 d) : c = d := by
  rw [← i32_ofInt c hc hc', ← i32_ofInt d hd hd', h]
theorem byte8_byte {s : BitVec 32} {c d : Int} (hc : 0 ≤ c) (hc' : c < 4294967296) (hd : 0 ≤ d) (hd' : d < 4294967296) (h : byte8 s c = byte8 s d) : c = d := by
  have := rnds_inj 8 h
  rw [BitVec.xor_comm s, BitVec.xor_comm s] at this
  exact byte_word hc hc' hd hd' (xor_cancel this)
/-- A byte that is turned turns the sum. -/
theorem upd_byte (s : BitVec 32) (a b : List Int) {c d : Int} (hc : 0 ≤ c) (hc' : c < 4294967296) (hd : 0 ≤ d) (hd' : d < 4294967296) (h : upd s (a ++ c :: b) = upd s (a ++ d :: b)) : c = d := by
  rw [upd_append, upd_append] at h
  exact byte8_byte hc hc' hd hd' (upd_inj b (a := byte8 (upd s a) c) (b := byte8 (upd s a) d) h)
theorem crcU_byte (s : BitVec 32) (a b : List Int) {c d : Int} (hc : 0 ≤ c) (hc' : c < 4294967296) (hd : 0 ≤ d) (hd' : d < 4294967296) (h : crcU s (a ++ c :: b) = crcU s (a ++ d :: b)) : c = d := by
  unfold crcU at h
  exact upd_byte _ a b hc hc' hd hd' (by simpa using congrArg (~~~ ·) h)
end Go.Proofs.YtnmcahlpkebpjaaX
