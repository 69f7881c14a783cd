/- Small words that this session's texts use beside the print's: a scope whose jumps are told as a loop's rounds; cuts with a capacity; facts for every count of draws. -/
import Derived.Test.YtnmcahlpkebpjaaWMore
import Derived.Scope
import Derived.WalkMore
import Derived.ScopeJumps
import Derived.Deep.LoopGhost
set_option linter.unusedVariables false
set_option linter.unusedSimpArgs false
namespace Go.Proofs.YtnmcahlpkebpjaaX
open Go Go.RowKit Go.Proofs.YtnmcahlpkebpjaaW.PrintWords Go.Proofs.YtnmcahlpkebpjaaW.PrintLast Go.Proofs.YtnmcahlpkebpjaaW.PrintMore

/-! ### A label to which the run jumps back, as a loop that bears a number -/
section
variable {P : Program} {a : Act} {w : World} {Q : Exit → Act → World → Prop}

theorem wp_scope_ghost {c rest : Code} (l : Nat) (hf : findLabel c l = some (Code.skip.seq rest))
    (first : ∀ L : Act → World → Prop, (∀ (I : Nat → Act → World → Prop) (n₀ : Nat) (a : Act) (w : World), I n₀ a w →
      (∀ n a w, I n a w → ∀ (J : Nat → Act → World → Prop) (K : Act → World → Prop), (∀ k a' w', I k a' w' → J k a' w') → (∀ a' w', Handed J n a' w' → K a' w') → rest.wp P (Exit.jump l K Q) a w) →
      rest.wp P (Exit.jump l L Q) a w) → c.wp P (Exit.jump l L Q) a w) : (Code.scope c).wp P Q a w := by
  let Rd : (Nat → Act → World → Prop) → Prop := fun I => ∀ n a w, I n a w → ∀ (J : Nat → Act → World → Prop) (K : Act → World → Prop), (∀ k a' w', I k a' w' → J k a' w') → (∀ a' w', Handed J n a' w' → K a' w') → rest.wp P (Exit.jump l K Q) a w
  let H : Nat → Act → World → Prop := fun n a w => ∃ I, Rd I ∧ I n a w
  have jm : ∀ {K K' : Act → World → Prop} {a w}, (∀ a w, K a w → K' a w) → rest.wp P (Exit.jump l K Q) a w → rest.wp P (Exit.jump l K' Q) a w := by
    intro K K' a w hk h
    refine wp_mono h ?_
    intro e a w hq
    cases e with
    | goto l' => exact ⟨hq.1, hk _ _ hq.2⟩
    | normal => exact hq
    | exit id => exact hq
    | ret => exact hq
    | panic ch => exact hq
    | outgrown => exact hq
  refine wp_scope_jumps l (fun a w => ∃ n, H n a w) (fun a w => leastOf (fun n => H n a w)) hf ?_ ?_
  · refine first _ fun I n₀ a w h₀ rd => ?_
    refine jm ?_ (rd n₀ a w h₀ I (fun a' w' => ∃ n', n' < n₀ ∧ I n' a' w') (fun _ _ _ q => q) (fun _ _ q => q))
    rintro a w ⟨n', _, h⟩
    exact ⟨n', I, rd, h⟩
  · intro a w hJ
    obtain ⟨I, rd, hI⟩ := (leastOf_spec hJ).1
    refine wp_seq (wp_skip (show rest.wp P _ a w from ?_))
    refine jm ?_ (rd _ a w hI I (fun a' w' => ∃ n', n' < leastOf (fun n => H n a w) ∧ I n' a' w') (fun _ _ _ q => q) (fun _ _ q => q))
    rintro a' w' ⟨n', hlt, h⟩
    have hH : H n' a' w' := ⟨I, rd, h⟩
    exact ⟨⟨n', hH⟩, Nat.lt_of_le_of_lt ((leastOf_spec ⟨n', hH⟩).2 n' hH) hlt⟩
end

/-! ### Cuts with a capacity -/
section
variable {P : Program}
theorem cut_mid3 (t e : TypeId) (kl kh km : IntKind) {i : TypeInfo} (ht : P.underlying t = some (.slice e)) (hi : P.info? e = some i) (size : Nat) (hsz : i.size = size) (A : Option Addr) (n c : Nat) (lo hi' : Int) (c1 : Nat) (hc1 : c1 = hi'.toNat - lo.toNat) (h0 : 0 ≤ lo) (h1 : lo ≤ hi') (h2 : hi' ≤ n) (hc : n ≤ c) :
    ∀ W : World, (Instr.slice t (.slice A n c) (some (.int kl lo)) (some (.int kh hi')) (some (.int km hi'))).run P W = .ok (.slice (if hi'.toNat = lo.toNat then A else A.map (·.add (lo.toNat * size))) (hi'.toNat - lo.toNat) c1) W := by
  subst hc1
  intro W
  have hel : P.elem t = e := by simp [Program.elem, ht]
  have hu : P.underlying t = some (.slice (P.elem t)) := by rw [hel]; exact ht
  rw [run_slice_lhm W t A n c hu kl kh km lo hi' hi' h0 h1 (by omega) (by omega), hel]
  simp [sizeOf, typeInfo, hi, hsz, sliced, Result.andThen]

theorem cut_to3 (t e : TypeId) (kh km : IntKind) {i : TypeInfo} (ht : P.underlying t = some (.slice e)) (hi : P.info? e = some i) (size : Nat) (hsz : i.size = size) (A : Option Addr) (n c : Nat) (hi' : Int) (h1 : 0 ≤ hi') (h2 : hi' ≤ n) (hc : n ≤ c) :
    ∀ W : World, (Instr.slice t (.slice A n c) none (some (.int kh hi')) (some (.int km hi'))).run P W = .ok (.slice A hi'.toNat hi'.toNat) W := by
  intro W
  have hel : P.elem t = e := by simp [Program.elem, ht]
  have hu : P.underlying t = some (.slice (P.elem t)) := by rw [hel]; exact ht
  rw [run_slice_hm W t A n c hu kh km hi' hi' h1 (by omega) (by omega), hel]
  cases A <;> simp [sizeOf, typeInfo, hi, hsz, sliced, Result.andThen, Addr.add_zero']

theorem C_mid3 {α : Type} {k : Kd α} {w : World} {A : Option Addr} {xs : List α} {lo hi : Nat} (h : k.C w A xs.length xs) (h1 : lo ≤ hi) (h2 : hi ≤ xs.length) :
    k.C w (if hi = lo then A else A.map (·.add (lo * k.sz))) ((xs.take hi).drop lo).length ((xs.take hi).drop lo) := by
  have hl : (xs.take hi).length = hi := by rw [List.length_take]; omega
  exact Kd.C_drop (Kd.C_take h h2) (by omega) (by omega)
theorem F_mid3 {α : Type} {d : Kd α} {W : World} {ok : Nat → Prop} {A : Option Addr} {xs : List α} {lo hi : Nat} (h : Kd.F d W ok A xs.length xs) (h1 : lo ≤ hi) (h2 : hi ≤ xs.length) :
    Kd.F d W ok (if hi = lo then A else A.map (·.add (lo * d.sz))) ((xs.take hi).drop lo).length ((xs.take hi).drop lo) := Kd.F_imp h (fun _ hC => C_mid3 hC h1 h2)
end

/-! ### For every count of draws -/
theorem C_string_drew {P : Program} {w : World} {src dst e : TypeId} {A : Option Addr} {n c : Nat} {xs : List Int} (hs : P.underlying src = some (.slice e)) (he : P.underlying e = some (.int .u8)) (hd : P.underlying dst = some .string)
    (h : (Kd.int .u8).C w A n xs) : ∀ nq : Nat, (convert src dst (.slice A n c)).run P (w.drewN nq) = .ok (.string (strOfNums xs)) (w.drewN nq) :=
  fun nq => Kd.C_string (w := w.drewN nq) hs he hd h
end Go.Proofs.YtnmcahlpkebpjaaX
