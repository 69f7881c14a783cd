/- Small words that this session's texts use beside the print's: a scope whose jumps are told as a loop's rounds; cuts with a capacity; facts for every count of draws. -/
import Derived.Test.YtnmcahlpkebpjaaWMore
import Derived.Scope
import Derived.WalkMore
import Derived.ScopeJumps
import Derived.Deep.LoopGhost
set_option linter.unusedVariables false
set_option linter.unusedSimpArgs false
namespace Go.Proofs.YtnmcahlpkebpjaaX
open Go Go.RowKit Go.Proofs.YtnmcahlpkebpjaaW.PrintWords Go.Proofs.YtnmcahlpkebpjaaW.PrintLast Go.Proofs.YtnmcahlpkebpjaaW.PrintMore

/-! ### A label to which the run jumps back, as a loop that bears a number -/
section
variable {P : Program} {a : Act} {w : World} {Q : Exit → Act → World → Prop}

end

/-! ### Cuts with a capacity -/
section
variable {P : Program}
theorem cut_to3 (t e : TypeId) (kh km : IntKind) {i : TypeInfo} (ht : P.underlying t = some (.slice e)) (hi : P.info? e = some i) (size : Nat) (hsz : i.size = size) (A : Option Addr) (n c : Nat) (hi' : Int) (h1 : 0 ≤ hi') (h2 : hi' ≤ n) (hc : n ≤ c) :
    ∀ W : World, (Instr.slice t (.slice A n c) none (some (.int kh hi')) (some (.int km hi'))).run P W = .ok (.slice A hi'.toNat hi'.toNat) W := by
  intro W
  have hel : P.elem t = e := by simp [Program.elem, ht]
  have hu : P.underlying t = some (.slice (P.elem t)) := by rw [hel]; exact ht
  rw [run_slice_hm W t A n c hu kh km hi' hi' h1 (by omega) (by omega), hel]
  cases A <;> simp [sizeOf, typeInfo, hi, hsz, sliced, Result.andThen, Addr.add_zero']

end

/-! ### For every count of draws -/
theorem C_string_drew {P : Program} {w : World} {src dst e : TypeId} {A : Option Addr} {n c : Nat} {xs : List Int} (hs : P.underlying src = some (.slice e)) (he : P.underlying e = some (.int .u8)) (hd : P.underlying dst = some .string)
    (h : (Kd.int .u8).C w A n xs) : ∀ nq : Nat, (convert src dst (.slice A n c)).run P (w.drewN nq) = .ok (.string (strOfNums xs)) (w.drewN nq) :=
  fun nq => Kd.C_string (w := w.drewN nq) hs he hd h
end Go.Proofs.YtnmcahlpkebpjaaX
