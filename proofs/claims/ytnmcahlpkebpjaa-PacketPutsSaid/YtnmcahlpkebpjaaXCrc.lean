/- The sum over bytes as words of 32 bits: what one byte does, over more bytes, and that what differs stays apart. -/
import Derived.Test.YtnmcahlpkebpjaaWMore
import Derived.Laws.BitsLemmas
set_option linter.unusedVariables false
set_option linter.unusedSimpArgs false
namespace Go.Proofs.YtnmcahlpkebpjaaX
open Go Go.RowKit

section
open Go.Proofs.YtnmcahlpkebpjaaW.PrintWords
theorem Ev.yes {α : Type} {c : Prop} [Decidable c] {g f : Nat → Option α} {r : α} (hc : c) (h : Ev g r) : Ev (fun k => if c then g k else f k) r := Ev.congr (fun _ => if_pos hc) h
theorem Ev.no {α : Type} {c : Prop} [Decidable c] {g f : Nat → Option α} {r : α} (hc : ¬ c) (h : Ev f r) : Ev (fun k => if c then g k else f k) r := Ev.congr (fun _ => if_neg hc) h
theorem Ev.some_bind {α β : Type} {x : α} {f : Nat → α → Option β} {r : β} (h : Ev (fun k => f k x) r) : Ev (fun k => (some x).bind (f k)) r := h
end

def i32 (b : BitVec 32) : Int := (b.toNat : Int)
theorem i32_nonneg (b : BitVec 32) : 0 ≤ i32 b := Int.natCast_nonneg _
theorem i32_lt (b : BitVec 32) : i32 b < 4294967296 := by
  have := b.isLt
  unfold i32
  omega
theorem i32_inj {a b : BitVec 32} (h : i32 a = i32 b) : a = b := BitVec.eq_of_toNat_eq (Int.ofNat.inj h)
theorem ofInt_i32 (b : BitVec 32) : BitVec.ofInt 32 (i32 b) = b := by
  unfold i32
  rw [BitVec.ofInt_natCast]
  simp
theorem i32_ofInt (x : Int) (h0 : 0 ≤ x) (h1 : x < 4294967296) : i32 (BitVec.ofInt 32 x) = x := by
  obtain ⟨n, rfl⟩ := Int.eq_ofNat_of_zero_le h0
  unfold i32
  rw [BitVec.ofInt_natCast, BitVec.toNat_ofNat]
  omega
theorem wrap_u32_toNat (r : BitVec 32) : IntKind.u32.wrap (r.toNat : Int) = i32 r := by
  rw [IntKind.wrap_u32]
  have := r.isLt
  unfold i32
  omega
theorem bits_xor (a b : BitVec 32) : Go.bits .xor .u32 (i32 a) (i32 b) = i32 (a ^^^ b) := by
  show IntKind.u32.wrap ((BitVec.ofInt 32 (i32 a) ^^^ BitVec.ofInt 32 (i32 b)).toNat : Int) = _
  rw [ofInt_i32, ofInt_i32, wrap_u32_toNat]
theorem bits_and (a b : BitVec 32) : Go.bits .and .u32 (i32 a) (i32 b) = i32 (a &&& b) := by
  show IntKind.u32.wrap ((BitVec.ofInt 32 (i32 a) &&& BitVec.ofInt 32 (i32 b)).toNat : Int) = _
  rw [ofInt_i32, ofInt_i32, wrap_u32_toNat]
theorem i32_half (a : BitVec 32) : (i32 a : Int) / (2 : Int) = i32 (a >>> 1) := by
  unfold i32
  rw [BitVec.toNat_ushiftRight, Nat.shiftRight_eq_div_pow]
  simp

/-- One bit. -/
def rnd (s : BitVec 32) : BitVec 32 := if s &&& 1#32 = 1#32 then (s >>> 1) ^^^ 3988292384#32 else s >>> 1
def rnds : Nat → BitVec 32 → BitVec 32
  | 0, s => s
  | n + 1, s => rnds n (rnd s)
/-- One byte. -/
def byte8 (s : BitVec 32) (c : Int) : BitVec 32 := rnds 8 (s ^^^ BitVec.ofInt 32 c)
def upd (s : BitVec 32) (l : List Int) : BitVec 32 := l.foldl byte8 s
/-- The sum that goes on over more bytes. -/
def crcU (s : BitVec 32) (l : List Int) : BitVec 32 := ~~~ (upd (~~~ s) l)
theorem bit0 (s : BitVec 32) : (s &&& 1#32 = 1#32) ↔ s.getLsbD 0 = true := by
  constructor
  · intro h
    have := congrArg (fun b => b.getLsbD 0) h
    simpa using this
  · intro h
    apply BitVec.eq_of_getLsbD_eq
    intro i hi
    rw [BitVec.getLsbD_and]
    rcases Nat.eq_zero_or_pos i with rfl | hp
    · simp [h]
    · have : (1#32).getLsbD i = false := by
        rw [BitVec.getLsbD_one]; simp; omega
      simp [this]

end Go.Proofs.YtnmcahlpkebpjaaX
