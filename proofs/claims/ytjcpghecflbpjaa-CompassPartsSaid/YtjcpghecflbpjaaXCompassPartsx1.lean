-- written by xprint (wip/tools): a program of this session that goes on from the kit's print
import Derived.Test.YtjcpghecflbpjaaXCompassPartsx0
namespace Go.Proofs.Ytjcpghecflbpjaa.XCompassParts
open Go.Proofs.YtjcpghecflbpjaaX
open Go.RowKit Go.Proofs.YtjcpghecflbpjaaW.PrintWords Go.Proofs.YtjcpghecflbpjaaW.PrintLast Go.Proofs.YtjcpghecflbpjaaW.PrintMore
attribute [local go_sem] max2_int min2_int max_two min_two max_three min_three max_four min_four   -- for this text's walks alone
set_option linter.unusedVariables false
set_option linter.unusedSimpArgs false

-- NOT PRINTED: function 13 (compass_Turn)

-- NOT PRINTED: function 15 (compass_Quarter)

-- NOT PRINTED: function 8 (compass_Part)

-- NOT PRINTED: function 16 (compass_Key)

-- NOT PRINTED: function 19 (compass_Point)

-- NOT PRINTED: function 11 (compass_Route)

-- NOT PRINTED: function 14 (compass_Norm)

-- NOT PRINTED: function 7 (funicularlaw03_works)

-- NOT PRINTED: function 9 (funicularlaw03_at)

/-! ### funicularref03_Quarter: function 17 -/
mutual
def funicularref03_Quarter.j0 : Nat → Int → Int → Bool → Option (Int)
  | 0, _, _, _ => none
  | k + 1, x0, x1, x10 => if x10 = true then (some 0) else (if x1 > 0 then (funicularref03_Quarter.j1 k x0 x1 (decide (x0 ≤ 0))) else (funicularref03_Quarter.j1 k x0 x1 false))
def funicularref03_Quarter.j1 : Nat → Int → Int → Bool → Option (Int)
  | 0, _, _, _ => none
  | k + 1, x0, x1, x16 => if x16 = true then (some 1) else (if x0 < 0 then (funicularref03_Quarter.j2 k x0 x1 (decide (x1 ≤ 0))) else (funicularref03_Quarter.j2 k x0 x1 false))
def funicularref03_Quarter.j2 : Nat → Int → Int → Bool → Option (Int)
  | 0, _, _, _ => none
  | k + 1, x0, x1, x22 => if x22 = true then (some 2) else (if x1 < 0 then (if x0 ≥ 0 then (some 3) else (some 0)) else (some 0))
end
def funicularref03_Quarter.f (k : Nat) (a0 : Int) (a1 : Int) : Option (Int) := if a0 > 0 then (funicularref03_Quarter.j0 k a0 a1 (decide (a1 ≥ 0))) else (funicularref03_Quarter.j0 k a0 a1 false)
theorem funicularref03_Quarter.mono_l : ∀ k, (∀ y0 y1 y2, LeO (funicularref03_Quarter.j0 k y0 y1 y2) (funicularref03_Quarter.j0 (k + 1) y0 y1 y2)) ∧ (∀ y0 y1 y2, LeO (funicularref03_Quarter.j1 k y0 y1 y2) (funicularref03_Quarter.j1 (k + 1) y0 y1 y2)) ∧ (∀ y0 y1 y2, LeO (funicularref03_Quarter.j2 k y0 y1 y2) (funicularref03_Quarter.j2 (k + 1) y0 y1 y2))
  | 0 => ⟨fun _ _ _ r h => by simp [funicularref03_Quarter.j0] at h, fun _ _ _ r h => by simp [funicularref03_Quarter.j1] at h, fun _ _ _ r h => by simp [funicularref03_Quarter.j2] at h⟩
  | k + 1 => by
    obtain ⟨ih0, ih1, ih2⟩ := funicularref03_Quarter.mono_l k
    refine ⟨?_, ?_, ?_⟩
    · intro y0 y1 y2
      unfold funicularref03_Quarter.j0
      repeat' first
      | (with_reducible exact ih0 _ _ _)
      | (with_reducible exact ih1 _ _ _)
      | (with_reducible exact ih2 _ _ _)
      | (with_reducible exact LeO.refl _)
      | (with_reducible exact LeO.none _)
      | (with_reducible refine LeO.ite ?_ ?_)
      | (with_reducible refine LeO.bind ?_ (fun _ => ?_))
      | exact ih0 _ _ _
      | exact ih1 _ _ _
      | exact ih2 _ _ _
      | exact LeO.none _
      | refine LeO.ite ?_ ?_
      | refine LeO.bind ?_ (fun _ => ?_)
    · intro y0 y1 y2
      unfold funicularref03_Quarter.j1
      repeat' first
      | (with_reducible exact ih0 _ _ _)
      | (with_reducible exact ih1 _ _ _)
      | (with_reducible exact ih2 _ _ _)
      | (with_reducible exact LeO.refl _)
      | (with_reducible exact LeO.none _)
      | (with_reducible refine LeO.ite ?_ ?_)
      | (with_reducible refine LeO.bind ?_ (fun _ => ?_))
      | exact ih0 _ _ _
      | exact ih1 _ _ _
      | exact ih2 _ _ _
      | exact LeO.none _
      | refine LeO.ite ?_ ?_
      | refine LeO.bind ?_ (fun _ => ?_)
    · intro y0 y1 y2
      unfold funicularref03_Quarter.j2
      repeat' first
      | (with_reducible exact ih0 _ _ _)
      | (with_reducible exact ih1 _ _ _)
      | (with_reducible exact ih2 _ _ _)
      | (with_reducible exact LeO.refl _)
      | (with_reducible exact LeO.none _)
      | (with_reducible refine LeO.ite ?_ ?_)
      | (with_reducible refine LeO.bind ?_ (fun _ => ?_))
      | exact ih0 _ _ _
      | exact ih1 _ _ _
      | exact ih2 _ _ _
      | exact LeO.none _
      | refine LeO.ite ?_ ?_
      | refine LeO.bind ?_ (fun _ => ?_)
theorem funicularref03_Quarter.mono : ∀ a0 a1 k, LeO (funicularref03_Quarter.f k a0 a1) (funicularref03_Quarter.f (k + 1) a0 a1) := by
  intro a0 a1 k
  obtain ⟨ih0, ih1, ih2⟩ := funicularref03_Quarter.mono_l k
  unfold funicularref03_Quarter.f
  repeat' first
      | (with_reducible exact ih0 _ _ _)
      | (with_reducible exact ih1 _ _ _)
      | (with_reducible exact ih2 _ _ _)
      | (with_reducible exact LeO.refl _)
      | (with_reducible exact LeO.none _)
      | (with_reducible refine LeO.ite ?_ ?_)
      | (with_reducible refine LeO.bind ?_ (fun _ => ?_))
      | exact ih0 _ _ _
      | exact ih1 _ _ _
      | exact ih2 _ _ _
      | exact LeO.none _
      | refine LeO.ite ?_ ?_
      | refine LeO.bind ?_ (fun _ => ?_)
set_option maxHeartbeats 8000000 in
set_option maxRecDepth 100000 in
theorem funicularref03_Quarter.calls (k : Nat) (a0 : Int) (a1 : Int) (r : Int) (w : World) (h : funicularref03_Quarter.f k a0 a1 = some r) :
    Calls Try.prog 17 #[.int .i64 a0, .int .i64 a1] w fun e w' => e = .returned (.int .i64 r) ∧ Drawn0 w w' := by
  have H : (if a0 > 0 then (funicularref03_Quarter.j0 k a0 a1 (decide (a1 ≥ 0))) else (funicularref03_Quarter.j0 k a0 a1 false)) = some r := h
  clear h
  have HC3 := Aside0.mk H
  clear H
  go_enter Try.func17, Try.ntmps17
  go_upto_region 1 with (fail)
  go_cut [10] (fun v10 wc => ∃ (kq : Nat) (x10_2 : Bool), v10 = .bool x10_2 ∧ Aside0 (funicularref03_Quarter.j0 kq a0 a1 x10_2 = some r) ∧ Aside0 (kq ≤ k) ∧ Drawn0 w wc)
  case first =>
    have H := HC3.out
    clear HC3
    by_cases c4 : a0 > 0
    · rw [if_pos c4] at H
      have c4b0 : decide (0 < a0) = true := decide_eq_true c4
      clear c4
      (first | rw [c4b0] | (simp only [i64_w, i32_w]; rw [c4b0]) | skip)
      have H' := Aside0.mk H
      clear H
      go_wp2
      go_meet
      case rel => exact ⟨_, (decide (a1 ≥ 0)), (by first | rfl | (simp; done) | (simp [*]; done)), H', ⟨by first | omega | exact Nat.le_refl _⟩, by repeat (first | exact Drawn0.refl _ | apply Drawn0.step)⟩
    · rw [if_neg c4] at H
      have c4b0 : decide (0 < a0) = false := decide_eq_false c4
      clear c4
      (first | rw [c4b0] | (simp only [i64_w, i32_w]; rw [c4b0]) | skip)
      have H' := Aside0.mk H
      clear H
      go_wp2
      go_meet
      case rel => exact ⟨_, (false), (by first | rfl | (simp; done) | (simp [*]; done)), H', ⟨by first | omega | exact Nat.le_refl _⟩, by repeat (first | exact Drawn0.refl _ | apply Drawn0.step)⟩
  case rest =>
    clear HC3
    try clear c1
    try clear p2
    try clear c4
    try clear c4b0
    obtain ⟨kq, x10_2, rfl, HA, HJ2, ⟨mc2, rfl⟩⟩ := hcut
    cases kq with
    | zero => exact absurd HA.out (by simp [funicularref03_Quarter.j0])
    | succ kj2 =>
      have H := HA.out
      clear HA
      simp only [funicularref03_Quarter.j0] at H
      by_cases c5 : x10_2 = true
      · subst c5
        have H1 : (some 0) = some r := by rw [if_pos rfl] at H; exact H
        clear H
        have H := H1
        clear H1
        obtain rfl := Option.some.inj H
        go_wp2
        go_ret
        exact ⟨by first | rfl | (simp; done) | (simp [*]; done), by repeat (first | exact Drawn0.refl _ | apply Drawn0.step)⟩
      · replace c5 := Bool.eq_false_iff.mpr c5
        subst c5
        have H1 : (if a1 > 0 then (funicularref03_Quarter.j1 kj2 a0 a1 (decide (a0 ≤ 0))) else (funicularref03_Quarter.j1 kj2 a0 a1 false)) = some r := by rw [if_neg (show ¬ (false = true) by decide)] at H; exact H
        clear H
        have H := H1
        clear H1
        have HC6 := Aside0.mk H
        clear H
        go_upto_region 3 with (fail)
        go_cut [16] (fun v16 wc => ∃ (kq : Nat) (x16_5 : Bool), v16 = .bool x16_5 ∧ Aside0 (funicularref03_Quarter.j1 kq a0 a1 x16_5 = some r) ∧ Aside0 (kq ≤ kj2) ∧ Drawn0 w wc)
        case first =>
          have H := HC6.out
          clear HC6
          by_cases c7 : a1 > 0
          · rw [if_pos c7] at H
            have c7b0 : decide (0 < a1) = true := decide_eq_true c7
            clear c7
            (first | rw [c7b0] | (simp only [i64_w, i32_w]; rw [c7b0]) | skip)
            have H' := Aside0.mk H
            clear H
            go_wp2
            go_meet
            case rel => exact ⟨_, (decide (a0 ≤ 0)), (by first | rfl | (simp; done) | (simp [*]; done)), H', ⟨by have := HJ2.out; first | omega | exact Nat.le_refl _⟩, by repeat (first | exact Drawn0.refl _ | apply Drawn0.step)⟩
          · rw [if_neg c7] at H
            have c7b0 : decide (0 < a1) = false := decide_eq_false c7
            clear c7
            (first | rw [c7b0] | (simp only [i64_w, i32_w]; rw [c7b0]) | skip)
            have H' := Aside0.mk H
            clear H
            go_wp2
            go_meet
            case rel => exact ⟨_, (false), (by first | rfl | (simp; done) | (simp [*]; done)), H', ⟨by have := HJ2.out; first | omega | exact Nat.le_refl _⟩, by repeat (first | exact Drawn0.refl _ | apply Drawn0.step)⟩
        case rest =>
          clear HC6
          try clear c1
          try clear c2
          try clear p2
          try clear c4
          try clear c4b0
          try clear c5
          try clear c7
          try clear c7b0
          try clear p2
          obtain ⟨kq, x16_5, rfl, HA, HJ5, ⟨mc5, rfl⟩⟩ := hcut
          cases kq with
          | zero => exact absurd HA.out (by simp [funicularref03_Quarter.j1])
          | succ kj5 =>
            have H := HA.out
            clear HA
            simp only [funicularref03_Quarter.j1] at H
            by_cases c8 : x16_5 = true
            · subst c8
              have H1 : (some 1) = some r := by rw [if_pos rfl] at H; exact H
              clear H
              have H := H1
              clear H1
              obtain rfl := Option.some.inj H
              go_wp2
              go_ret
              exact ⟨by first | rfl | (simp; done) | (simp [*]; done), by repeat (first | exact Drawn0.refl _ | apply Drawn0.step)⟩
            · replace c8 := Bool.eq_false_iff.mpr c8
              subst c8
              have H1 : (if a0 < 0 then (funicularref03_Quarter.j2 kj5 a0 a1 (decide (a1 ≤ 0))) else (funicularref03_Quarter.j2 kj5 a0 a1 false)) = some r := by rw [if_neg (show ¬ (false = true) by decide)] at H; exact H
              clear H
              have H := H1
              clear H1
              have HC9 := Aside0.mk H
              clear H
              go_upto_region 5 with (fail)
              go_cut [22] (fun v22 wc => ∃ (kq : Nat) (x22_8 : Bool), v22 = .bool x22_8 ∧ Aside0 (funicularref03_Quarter.j2 kq a0 a1 x22_8 = some r) ∧ Aside0 (kq ≤ kj5) ∧ Drawn0 w wc)
              case first =>
                have H := HC9.out
                clear HC9
                by_cases c10 : a0 < 0
                · rw [if_pos c10] at H
                  have c10b0 : decide (a0 < 0) = true := decide_eq_true c10
                  clear c10
                  (first | rw [c10b0] | (simp only [i64_w, i32_w]; rw [c10b0]) | skip)
                  have H' := Aside0.mk H
                  clear H
                  go_wp2
                  go_meet
                  case rel => exact ⟨_, (decide (a1 ≤ 0)), (by first | rfl | (simp; done) | (simp [*]; done)), H', ⟨by have := HJ2.out; have := HJ5.out; first | omega | exact Nat.le_refl _⟩, by repeat (first | exact Drawn0.refl _ | apply Drawn0.step)⟩
                · rw [if_neg c10] at H
                  have c10b0 : decide (a0 < 0) = false := decide_eq_false c10
                  clear c10
                  (first | rw [c10b0] | (simp only [i64_w, i32_w]; rw [c10b0]) | skip)
                  have H' := Aside0.mk H
                  clear H
                  go_wp2
                  go_meet
                  case rel => exact ⟨_, (false), (by first | rfl | (simp; done) | (simp [*]; done)), H', ⟨by have := HJ2.out; have := HJ5.out; first | omega | exact Nat.le_refl _⟩, by repeat (first | exact Drawn0.refl _ | apply Drawn0.step)⟩
              case rest =>
                clear HC9
                try clear c1
                try clear c2
                try clear p2
                try clear c4
                try clear c4b0
                try clear c5
                try clear c7
                try clear c7b0
                try clear c8
                try clear c10
                try clear c10b0
                try clear p2
                obtain ⟨kq, x22_8, rfl, HA, HJ8, ⟨mc8, rfl⟩⟩ := hcut
                cases kq with
                | zero => exact absurd HA.out (by simp [funicularref03_Quarter.j2])
                | succ kj8 =>
                  have H := HA.out
                  clear HA
                  simp only [funicularref03_Quarter.j2] at H
                  by_cases c11 : x22_8 = true
                  · subst c11
                    have H1 : (some 2) = some r := by rw [if_pos rfl] at H; exact H
                    clear H
                    have H := H1
                    clear H1
                    obtain rfl := Option.some.inj H
                    go_wp2
                    go_ret
                    exact ⟨by first | rfl | (simp; done) | (simp [*]; done), by repeat (first | exact Drawn0.refl _ | apply Drawn0.step)⟩
                  · replace c11 := Bool.eq_false_iff.mpr c11
                    subst c11
                    have H1 : (if a1 < 0 then (if a0 ≥ 0 then (some 3) else (some 0)) else (some 0)) = some r := by rw [if_neg (show ¬ (false = true) by decide)] at H; exact H
                    clear H
                    have H := H1
                    clear H1
                    by_cases c12 : a1 < 0
                    · rw [if_pos c12] at H
                      have c12b0 : decide (a1 < 0) = true := decide_eq_true c12
                      clear c12
                      by_cases c13 : a0 ≥ 0
                      · rw [if_pos c13] at H
                        have c13b0 : decide (0 ≤ a0) = true := decide_eq_true c13
                        clear c13
                        obtain rfl := Option.some.inj H
                        go_wp2
                        go_ret
                        exact ⟨by first | rfl | (simp; done) | (simp [*]; done), by repeat (first | exact Drawn0.refl _ | apply Drawn0.step)⟩
                      · rw [if_neg c13] at H
                        have c13b0 : decide (0 ≤ a0) = false := decide_eq_false c13
                        clear c13
                        obtain rfl := Option.some.inj H
                        go_wp2
                        go_ret
                        exact ⟨by first | rfl | (simp; done) | (simp [*]; done), by repeat (first | exact Drawn0.refl _ | apply Drawn0.step)⟩
                    · rw [if_neg c12] at H
                      have c12b0 : decide (a1 < 0) = false := decide_eq_false c12
                      clear c12
                      obtain rfl := Option.some.inj H
                      go_wp2
                      go_ret
                      exact ⟨by first | rfl | (simp; done) | (simp [*]; done), by repeat (first | exact Drawn0.refl _ | apply Drawn0.step)⟩

/-! ### funicularref03_Turn: function 18 -/
def funicularref03_Turn.f (a0 : Int) (a1 : Int) (a2 : Int) : Option (Int × Int) := if (Int.tmod (wrap64 ((Int.tmod a2 4) + 4)) 4) = 1 then (some (wrap64 (-a1), a0)) else (if (Int.tmod (wrap64 ((Int.tmod a2 4) + 4)) 4) = 2 then (some (wrap64 (-a0), wrap64 (-a1))) else (if (Int.tmod (wrap64 ((Int.tmod a2 4) + 4)) 4) = 3 then (some (a1, wrap64 (-a0))) else (some (a0, a1))))
set_option maxHeartbeats 8000000 in
set_option maxRecDepth 100000 in
theorem funicularref03_Turn.calls (a0 : Int) (a1 : Int) (a2 : Int) (r1 : Int) (r2 : Int) (w : World) (h : funicularref03_Turn.f a0 a1 a2 = some (r1, r2)) :
    Calls Try.prog 18 #[.int .i64 a0, .int .i64 a1, .int .i64 a2] w fun e w' => e = .returned (.tuple #[.int .i64 r1, .int .i64 r2]) ∧ Drawn0 w w' := by
  have H : (if (Int.tmod (wrap64 ((Int.tmod a2 4) + 4)) 4) = 1 then (some (wrap64 (-a1), a0)) else (if (Int.tmod (wrap64 ((Int.tmod a2 4) + 4)) 4) = 2 then (some (wrap64 (-a0), wrap64 (-a1))) else (if (Int.tmod (wrap64 ((Int.tmod a2 4) + 4)) 4) = 3 then (some (a1, wrap64 (-a0))) else (some (a0, a1))))) = some (r1, r2) := h
  clear h
  by_cases c4 : (Int.tmod (wrap64 ((Int.tmod a2 4) + 4)) 4) = 1
  · rw [if_pos c4] at H
    have c4b0 : ((Int.tmod (wrap64 ((Int.tmod a2 4) + 4)) 4) == 1) = true := beq_iff_eq.mpr c4
    have c4b1 : ((Int.tmod (wrap64 ((Int.tmod a2 4) + 4)) 4) != 1) = false := bne_eq_false_iff_eq.mpr c4
    clear c4
    simp only [Option.some.injEq, Prod.mk.injEq] at H
    obtain ⟨rfl, rfl⟩ := H
    go_enter Try.func18, Try.ntmps18
    go_wp2
    go_ret2
    exact ⟨by first | rfl | (simp; done) | (simp [*]; done), by repeat (first | exact Drawn0.refl _ | apply Drawn0.step)⟩
  · rw [if_neg c4] at H
    have c4b0 : ((Int.tmod (wrap64 ((Int.tmod a2 4) + 4)) 4) == 1) = false := beq_eq_false_iff_ne.mpr c4
    have c4b1 : ((Int.tmod (wrap64 ((Int.tmod a2 4) + 4)) 4) != 1) = true := bne_iff_ne.mpr c4
    by_cases c5 : (Int.tmod (wrap64 ((Int.tmod a2 4) + 4)) 4) = 2
    · rw [if_pos c5] at H
      have c5b0 : ((Int.tmod (wrap64 ((Int.tmod a2 4) + 4)) 4) == 2) = true := beq_iff_eq.mpr c5
      have c5b1 : ((Int.tmod (wrap64 ((Int.tmod a2 4) + 4)) 4) != 2) = false := bne_eq_false_iff_eq.mpr c5
      clear c5
      simp only [Option.some.injEq, Prod.mk.injEq] at H
      obtain ⟨rfl, rfl⟩ := H
      go_enter Try.func18, Try.ntmps18
      go_wp2
      go_ret2
      exact ⟨by first | rfl | (simp; done) | (simp [*]; done), by repeat (first | exact Drawn0.refl _ | apply Drawn0.step)⟩
    · rw [if_neg c5] at H
      have c5b0 : ((Int.tmod (wrap64 ((Int.tmod a2 4) + 4)) 4) == 2) = false := beq_eq_false_iff_ne.mpr c5
      have c5b1 : ((Int.tmod (wrap64 ((Int.tmod a2 4) + 4)) 4) != 2) = true := bne_iff_ne.mpr c5
      by_cases c6 : (Int.tmod (wrap64 ((Int.tmod a2 4) + 4)) 4) = 3
      · rw [if_pos c6] at H
        have c6b0 : ((Int.tmod (wrap64 ((Int.tmod a2 4) + 4)) 4) == 3) = true := beq_iff_eq.mpr c6
        have c6b1 : ((Int.tmod (wrap64 ((Int.tmod a2 4) + 4)) 4) != 3) = false := bne_eq_false_iff_eq.mpr c6
        clear c6
        simp only [Option.some.injEq, Prod.mk.injEq] at H
        obtain ⟨rfl, rfl⟩ := H
        go_enter Try.func18, Try.ntmps18
        go_wp2
        go_ret2
        exact ⟨by first | rfl | (simp; done) | (simp [*]; done), by repeat (first | exact Drawn0.refl _ | apply Drawn0.step)⟩
      · rw [if_neg c6] at H
        have c6b0 : ((Int.tmod (wrap64 ((Int.tmod a2 4) + 4)) 4) == 3) = false := beq_eq_false_iff_ne.mpr c6
        have c6b1 : ((Int.tmod (wrap64 ((Int.tmod a2 4) + 4)) 4) != 3) = true := bne_iff_ne.mpr c6
        simp only [Option.some.injEq, Prod.mk.injEq] at H
        obtain ⟨rfl, rfl⟩ := H
        go_enter Try.func18, Try.ntmps18
        go_wp2
        go_ret2
        exact ⟨by first | rfl | (simp; done) | (simp [*]; done), by repeat (first | exact Drawn0.refl _ | apply Drawn0.step)⟩

/-! ### funicularref03_Part: function 10 -/
mutual
def funicularref03_Part.j0 : Nat → Int → Int → Int → Bool → Option (Int × Int)
  | 0, _, _, _, _ => none
  | k + 1, x0, x1, x2, x17 => if x17 = true then (some (0, 2)) else (if x0 = 0 then (funicularref03_Part.j1 k x0 x1 x2 (x1 == 0)) else (funicularref03_Part.j1 k x0 x1 x2 false))
def funicularref03_Part.j1 : Nat → Int → Int → Int → Bool → Option (Int × Int)
  | 0, _, _, _, _ => none
  | k + 1, x0, x1, x2, x23 => if x23 = true then (some (0, 0)) else ((funicularref03_Quarter.f k x0 x1).bind fun t101 => ((funicularref03_Turn.f x0 x1 (wrap64 (-t101))).bind fun bt102 => (funicularref03_Part.l0 k x2 t101 bt102.1 bt102.2 (wrap64 (x2 - 1)))))
def funicularref03_Part.l0 : Nat → Int → Int → Int → Int → Int → Option (Int × Int)
  | 0, _, _, _, _, _ => none
  | k + 1, x2, x8, x9, x10, x11 => if x11 > 0 then (if (wrap64 ((wrap64 (4 * x11)) * (wrap64 (x9 + x10)))) ≤ (wrap64 (x2 * (wrap64 ((wrap64 (x8 * (wrap64 (x9 + x10)))) + x10)))) then (some (x11, 0)) else (funicularref03_Part.l0 k x2 x8 x9 x10 (wrap64 (x11 - 1)))) else (some (0, 0))
end
def funicularref03_Part.f (k : Nat) (a0 : Int) (a1 : Int) (a2 : Int) : Option (Int × Int) := if a2 < 1 then (funicularref03_Part.j0 k a0 a1 a2 true) else (funicularref03_Part.j0 k a0 a1 a2 (decide (a2 > 64)))
theorem funicularref03_Part.mono_l : ∀ k, (∀ y0 y1 y2 y3, LeO (funicularref03_Part.j0 k y0 y1 y2 y3) (funicularref03_Part.j0 (k + 1) y0 y1 y2 y3)) ∧ (∀ y0 y1 y2 y3, LeO (funicularref03_Part.j1 k y0 y1 y2 y3) (funicularref03_Part.j1 (k + 1) y0 y1 y2 y3)) ∧ (∀ y0 y1 y2 y3 y4, LeO (funicularref03_Part.l0 k y0 y1 y2 y3 y4) (funicularref03_Part.l0 (k + 1) y0 y1 y2 y3 y4))
  | 0 => ⟨fun _ _ _ _ r h => by simp [funicularref03_Part.j0] at h, fun _ _ _ _ r h => by simp [funicularref03_Part.j1] at h, fun _ _ _ _ _ r h => by simp [funicularref03_Part.l0] at h⟩
  | k + 1 => by
    obtain ⟨ih0, ih1, ih2⟩ := funicularref03_Part.mono_l k
    refine ⟨?_, ?_, ?_⟩
    · intro y0 y1 y2 y3
      unfold funicularref03_Part.j0
      repeat' first
      | (with_reducible exact ih0 _ _ _ _)
      | (with_reducible exact ih1 _ _ _ _)
      | (with_reducible exact ih2 _ _ _ _ _)
      | (with_reducible exact funicularref03_Quarter.mono _ _ _)
      | (with_reducible exact LeO.refl _)
      | (with_reducible exact LeO.none _)
      | (with_reducible refine LeO.ite ?_ ?_)
      | (with_reducible refine LeO.bind ?_ (fun _ => ?_))
      | exact ih0 _ _ _ _
      | exact ih1 _ _ _ _
      | exact ih2 _ _ _ _ _
      | exact funicularref03_Quarter.mono _ _ _
      | exact LeO.none _
      | refine LeO.ite ?_ ?_
      | refine LeO.bind ?_ (fun _ => ?_)
    · intro y0 y1 y2 y3
      unfold funicularref03_Part.j1
      repeat' first
      | (with_reducible exact ih0 _ _ _ _)
      | (with_reducible exact ih1 _ _ _ _)
      | (with_reducible exact ih2 _ _ _ _ _)
      | (with_reducible exact funicularref03_Quarter.mono _ _ _)
      | (with_reducible exact LeO.refl _)
      | (with_reducible exact LeO.none _)
      | (with_reducible refine LeO.ite ?_ ?_)
      | (with_reducible refine LeO.bind ?_ (fun _ => ?_))
      | exact ih0 _ _ _ _
      | exact ih1 _ _ _ _
      | exact ih2 _ _ _ _ _
      | exact funicularref03_Quarter.mono _ _ _
      | exact LeO.none _
      | refine LeO.ite ?_ ?_
      | refine LeO.bind ?_ (fun _ => ?_)
    · intro y0 y1 y2 y3 y4
      unfold funicularref03_Part.l0
      repeat' first
      | (with_reducible exact ih0 _ _ _ _)
      | (with_reducible exact ih1 _ _ _ _)
      | (with_reducible exact ih2 _ _ _ _ _)
      | (with_reducible exact funicularref03_Quarter.mono _ _ _)
      | (with_reducible exact LeO.refl _)
      | (with_reducible exact LeO.none _)
      | (with_reducible refine LeO.ite ?_ ?_)
      | (with_reducible refine LeO.bind ?_ (fun _ => ?_))
      | exact ih0 _ _ _ _
      | exact ih1 _ _ _ _
      | exact ih2 _ _ _ _ _
      | exact funicularref03_Quarter.mono _ _ _
      | exact LeO.none _
      | refine LeO.ite ?_ ?_
      | refine LeO.bind ?_ (fun _ => ?_)
theorem funicularref03_Part.mono : ∀ a0 a1 a2 k, LeO (funicularref03_Part.f k a0 a1 a2) (funicularref03_Part.f (k + 1) a0 a1 a2) := by
  intro a0 a1 a2 k
  obtain ⟨ih0, ih1, ih2⟩ := funicularref03_Part.mono_l k
  unfold funicularref03_Part.f
  repeat' first
      | (with_reducible exact ih0 _ _ _ _)
      | (with_reducible exact ih1 _ _ _ _)
      | (with_reducible exact ih2 _ _ _ _ _)
      | (with_reducible exact funicularref03_Quarter.mono _ _ _)
      | (with_reducible exact LeO.refl _)
      | (with_reducible exact LeO.none _)
      | (with_reducible refine LeO.ite ?_ ?_)
      | (with_reducible refine LeO.bind ?_ (fun _ => ?_))
      | exact ih0 _ _ _ _
      | exact ih1 _ _ _ _
      | exact ih2 _ _ _ _ _
      | exact funicularref03_Quarter.mono _ _ _
      | exact LeO.none _
      | refine LeO.ite ?_ ?_
      | refine LeO.bind ?_ (fun _ => ?_)
set_option maxHeartbeats 8000000 in
set_option maxRecDepth 100000 in
theorem funicularref03_Part.calls (k : Nat) (a0 : Int) (a1 : Int) (a2 : Int) (r1 : Int) (r2 : Int) (w : World) (h : funicularref03_Part.f k a0 a1 a2 = some (r1, r2)) :
    Calls Try.prog 10 #[.int .i64 a0, .int .i64 a1, .int .i64 a2] w fun e w' => e = .returned (.tuple #[.int .i64 r1, .int .i64 r2]) ∧ Drawn0 w w' := by
  have H : (if a2 < 1 then (funicularref03_Part.j0 k a0 a1 a2 true) else (funicularref03_Part.j0 k a0 a1 a2 (decide (a2 > 64)))) = some (r1, r2) := h
  clear h
  have HC4 := Aside0.mk H
  clear H
  go_enter Try.func10, Try.ntmps10
  go_upto_region 1 with (fail)
  go_cut [17] (fun v17 wc => ∃ (kq : Nat) (x17_3 : Bool), v17 = .bool x17_3 ∧ Aside0 (funicularref03_Part.j0 kq a0 a1 a2 x17_3 = some (r1, r2)) ∧ Aside0 (kq ≤ k) ∧ Drawn0 w wc)
  case first =>
    have H := HC4.out
    clear HC4
    by_cases c5 : a2 < 1
    · rw [if_pos c5] at H
      have c5b0 : decide (a2 < 1) = true := decide_eq_true c5
      clear c5
      (first | rw [c5b0] | (simp only [i64_w, i32_w]; rw [c5b0]) | skip)
      have H' := Aside0.mk H
      clear H
      go_wp2
      go_meet
      case rel => exact ⟨_, (true), (by first | rfl | (simp; done) | (simp [*]; done)), H', ⟨by first | omega | exact Nat.le_refl _⟩, by repeat (first | exact Drawn0.refl _ | apply Drawn0.step)⟩
    · rw [if_neg c5] at H
      have c5b0 : decide (a2 < 1) = false := decide_eq_false c5
      clear c5
      (first | rw [c5b0] | (simp only [i64_w, i32_w]; rw [c5b0]) | skip)
      have H' := Aside0.mk H
      clear H
      go_wp2
      go_meet
      case rel => exact ⟨_, (decide (a2 > 64)), (by first | rfl | (simp; done) | (simp [*]; done)), H', ⟨by first | omega | exact Nat.le_refl _⟩, by repeat (first | exact Drawn0.refl _ | apply Drawn0.step)⟩
  case rest =>
    clear HC4
    try clear c1
    try clear p2
    try clear c5
    try clear c5b0
    obtain ⟨kq, x17_3, rfl, HA, HJ3, ⟨mc3, rfl⟩⟩ := hcut
    cases kq with
    | zero => exact absurd HA.out (by simp [funicularref03_Part.j0])
    | succ kj3 =>
      have H := HA.out
      clear HA
      simp only [funicularref03_Part.j0] at H
      by_cases c6 : x17_3 = true
      · subst c6
        have H1 : (some (0, 2)) = some (r1, r2) := by rw [if_pos rfl] at H; exact H
        clear H
        have H := H1
        clear H1
        simp only [Option.some.injEq, Prod.mk.injEq] at H
        obtain ⟨rfl, rfl⟩ := H
        go_wp2
        go_ret2
        exact ⟨by first | rfl | (simp; done) | (simp [*]; done), by repeat (first | exact Drawn0.refl _ | apply Drawn0.step)⟩
      · replace c6 := Bool.eq_false_iff.mpr c6
        subst c6
        have H1 : (if a0 = 0 then (funicularref03_Part.j1 kj3 a0 a1 a2 (a1 == 0)) else (funicularref03_Part.j1 kj3 a0 a1 a2 false)) = some (r1, r2) := by rw [if_neg (show ¬ (false = true) by decide)] at H; exact H
        clear H
        have H := H1
        clear H1
        have HC7 := Aside0.mk H
        clear H
        go_upto_region 3 with (fail)
        go_cut [23] (fun v23 wc => ∃ (kq : Nat) (x23_6 : Bool), v23 = .bool x23_6 ∧ Aside0 (funicularref03_Part.j1 kq a0 a1 a2 x23_6 = some (r1, r2)) ∧ Aside0 (kq ≤ kj3) ∧ Drawn0 w wc)
        case first =>
          have H := HC7.out
          clear HC7
          by_cases c8 : a0 = 0
          · rw [if_pos c8] at H
            have c8b0 : (a0 == 0) = true := beq_iff_eq.mpr c8
            have c8b1 : (a0 != 0) = false := bne_eq_false_iff_eq.mpr c8
            clear c8
            (first | rw [c8b0] | (simp only [i64_w, i32_w]; rw [c8b0]) | skip)
            have H' := Aside0.mk H
            clear H
            go_wp2
            go_meet
            case rel => exact ⟨_, ((a1 == 0)), (by first | rfl | (simp; done) | (simp [*]; done)), H', ⟨by have := HJ3.out; first | omega | exact Nat.le_refl _⟩, by repeat (first | exact Drawn0.refl _ | apply Drawn0.step)⟩
          · rw [if_neg c8] at H
            have c8b0 : (a0 == 0) = false := beq_eq_false_iff_ne.mpr c8
            have c8b1 : (a0 != 0) = true := bne_iff_ne.mpr c8
            (first | rw [c8b0] | (simp only [i64_w, i32_w]; rw [c8b0]) | skip)
            have H' := Aside0.mk H
            clear H
            go_wp2
            go_meet
            case rel => exact ⟨_, (false), (by first | rfl | (simp; done) | (simp [*]; done)), H', ⟨by have := HJ3.out; first | omega | exact Nat.le_refl _⟩, by repeat (first | exact Drawn0.refl _ | apply Drawn0.step)⟩
        case rest =>
          clear HC7
          try clear c1
          try clear p2
          try clear c3
          try clear c5
          try clear c5b0
          try clear c6
          try clear c8
          try clear c8b0
          try clear c8b1
          try clear p2
          obtain ⟨kq, x23_6, rfl, HA, HJ6, ⟨mc6, rfl⟩⟩ := hcut
          cases kq with
          | zero => exact absurd HA.out (by simp [funicularref03_Part.j1])
          | succ kj6 =>
            have H := HA.out
            clear HA
            simp only [funicularref03_Part.j1] at H
            by_cases c9 : x23_6 = true
            · subst c9
              have H1 : (some (0, 0)) = some (r1, r2) := by rw [if_pos rfl] at H; exact H
              clear H
              have H := H1
              clear H1
              simp only [Option.some.injEq, Prod.mk.injEq] at H
              obtain ⟨rfl, rfl⟩ := H
              go_wp2
              go_ret2
              exact ⟨by first | rfl | (simp; done) | (simp [*]; done), by repeat (first | exact Drawn0.refl _ | apply Drawn0.step)⟩
            · replace c9 := Bool.eq_false_iff.mpr c9
              subst c9
              have H1 : ((funicularref03_Quarter.f kj6 a0 a1).bind fun t101 => ((funicularref03_Turn.f a0 a1 (wrap64 (-t101))).bind fun bt102 => (funicularref03_Part.l0 kj6 a2 t101 bt102.1 bt102.2 (wrap64 (a2 - 1))))) = some (r1, r2) := by rw [if_neg (show ¬ (false = true) by decide)] at H; exact H
              clear H
              have H := H1
              clear H1
              replace H := Option.bind_eq_some_iff.mp H
              obtain ⟨t101, A100, H⟩ := H
              replace H : ((funicularref03_Turn.f a0 a1 (wrap64 (-t101))).bind fun bt102 => (funicularref03_Part.l0 kj6 a2 t101 bt102.1 bt102.2 (wrap64 (a2 - 1)))) = some (r1, r2) := H
              have A10 := Aside0.mk A100
              clear A100
              replace H := Option.bind_eq_some_iff.mp H
              obtain ⟨⟨t102, t103⟩, A110, H⟩ := H
              replace H : (funicularref03_Part.l0 kj6 a2 t101 t102 t103 (wrap64 (a2 - 1))) = some (r1, r2) := H
              have A11 := Aside0.mk A110
              clear A110
              have H' := Aside0.mk H
              clear H
              go_wp2_with (first | ((with_reducible refine gate_callee (f := 17) rfl ?_); refine goesL_ (some 26) rfl rfl Try.func17 (by kernel_rfl) rfl #[.int .i64 a0, .int .i64 a1] rfl (by (try simp only [List.map_toArray, List.map_cons, List.map_nil]); first | done | rfl | (simp only [List.length_drop, List.length_take]; rfl)) ?_; (with_reducible refine (funicularref03_Quarter.calls kj6 a0 a1 t101 _ A10.out).mono ?_); rintro e w' ⟨rfl, ⟨nd, rfl⟩⟩; refine ⟨_, rfl, ?_⟩) | ((with_reducible refine gate_callee (f := 18) rfl ?_); refine goesL_ (some 32) rfl rfl Try.func18 (by kernel_rfl) rfl #[.int .i64 a0, .int .i64 a1, .int .i64 (wrap64 (-t101))] rfl (by (try simp only [List.map_toArray, List.map_cons, List.map_nil]); first | done | rfl | (simp only [List.length_drop, List.length_take]; rfl)) ?_; (with_reducible refine (funicularref03_Turn.calls a0 a1 (wrap64 (-t101)) t102 t103 _ A11.out).mono ?_); rintro e w' ⟨rfl, ⟨nd, rfl⟩⟩; refine ⟨_, rfl, ?_⟩))
              go_loopg [11] kj6 (fun kq v11 w' => ∃ (x11_3 : Int), v11 = .int .i64 x11_3 ∧ Aside0 (funicularref03_Part.l0 kq a2 t101 t102 t103 x11_3 = some (r1, r2)) ∧ Aside0 (kq ≤ kj6) ∧ Drawn0 w w')
              case atStart => exact ⟨(wrap64 (a2 - 1)), (by first | rfl | (simp; done) | (simp [*]; done)), H', ⟨Nat.le_refl _⟩, by repeat (first | exact Drawn0.refl _ | apply Drawn0.step)⟩
              case round =>
                clear H'
                try clear c1
                try clear p2
                try clear c3
                try clear c5
                try clear c5b0
                try clear c6
                try clear p6
                try clear c8
                try clear c8b0
                try clear c8b1
                try clear c9
                try clear c10
                try clear p2
                obtain ⟨x11_3, rfl, HA, HK3, ⟨m3, rfl⟩⟩ := hrel
                cases gk with
                | zero => exact absurd HA.out (by simp [funicularref03_Part.l0])
                | succ k3 =>
                  have H := HA.out
                  clear HA
                  simp only [funicularref03_Part.l0] at H
                  by_cases c12 : x11_3 > 0
                  · rw [if_pos c12] at H
                    have c12b0 : decide (0 < x11_3) = true := decide_eq_true c12
                    clear c12
                    by_cases c13 : (wrap64 ((wrap64 (4 * x11_3)) * (wrap64 (t102 + t103)))) ≤ (wrap64 (a2 * (wrap64 ((wrap64 (t101 * (wrap64 (t102 + t103)))) + t103))))
                    · rw [if_pos c13] at H
                      have c13b0 : decide ((wrap64 ((wrap64 (4 * x11_3)) * (wrap64 (t102 + t103)))) ≤ (wrap64 (a2 * (wrap64 ((wrap64 (t101 * (wrap64 (t102 + t103)))) + t103))))) = true := decide_eq_true c13
                      clear c13
                      simp only [Option.some.injEq, Prod.mk.injEq] at H
                      obtain ⟨rfl, rfl⟩ := H
                      go_wp2
                      go_ret2
                      exact ⟨by first | rfl | (simp; done) | (simp [*]; done), by repeat (first | exact Drawn0.refl _ | apply Drawn0.step)⟩
                    · rw [if_neg c13] at H
                      have c13b0 : decide ((wrap64 ((wrap64 (4 * x11_3)) * (wrap64 (t102 + t103)))) ≤ (wrap64 (a2 * (wrap64 ((wrap64 (t101 * (wrap64 (t102 + t103)))) + t103))))) = false := decide_eq_false c13
                      clear c13
                      have H' := Aside0.mk H
                      clear H
                      go_wp2
                      go_roundg k3
                      case measure => have := HJ3.out; have := HJ6.out; have := HK3.out; omega
                      case rel => exact ⟨(wrap64 (x11_3 - 1)), (by first | rfl | (simp; done) | (simp [*]; done)), H', ⟨by have := HJ3.out; have := HJ6.out; have := HK3.out; omega⟩, by repeat (first | exact Drawn0.refl _ | apply Drawn0.step)⟩
                  · rw [if_neg c12] at H
                    have c12b0 : decide (0 < x11_3) = false := decide_eq_false c12
                    clear c12
                    simp only [Option.some.injEq, Prod.mk.injEq] at H
                    obtain ⟨rfl, rfl⟩ := H
                    go_wp2
                    go_ret2
                    exact ⟨by first | rfl | (simp; done) | (simp [*]; done), by repeat (first | exact Drawn0.refl _ | apply Drawn0.step)⟩

/-! ### funicularref03_Parts: function 20 -/
def funicularref03_Parts.f (a0 : Int) : Option (Int × Int) := if (wrap64 (Int.tmod a0 65536)) ≥ 32768 then (if ((Int.tdiv a0 65536) % 4294967296) ≥ 32768 then (some (wrap64 ((wrap64 (Int.tmod a0 65536)) - 65536), ((Int.tdiv a0 65536) % 4294967296) - 65536)) else (some (wrap64 ((wrap64 (Int.tmod a0 65536)) - 65536), (Int.tdiv a0 65536) % 4294967296))) else (if ((Int.tdiv a0 65536) % 4294967296) ≥ 32768 then (some (wrap64 (Int.tmod a0 65536), ((Int.tdiv a0 65536) % 4294967296) - 65536)) else (some (wrap64 (Int.tmod a0 65536), (Int.tdiv a0 65536) % 4294967296)))
set_option maxHeartbeats 8000000 in
set_option maxRecDepth 100000 in
theorem funicularref03_Parts.calls (a0 : Int) (r1 : Int) (r2 : Int) (w : World) (h : funicularref03_Parts.f a0 = some (r1, r2)) :
    Calls Try.prog 20 #[.int .u32 a0] w fun e w' => e = .returned (.tuple #[.int .i64 r1, .int .i64 r2]) ∧ Drawn0 w w' := by
  have H : (if (wrap64 (Int.tmod a0 65536)) ≥ 32768 then (if ((Int.tdiv a0 65536) % 4294967296) ≥ 32768 then (some (wrap64 ((wrap64 (Int.tmod a0 65536)) - 65536), ((Int.tdiv a0 65536) % 4294967296) - 65536)) else (some (wrap64 ((wrap64 (Int.tmod a0 65536)) - 65536), (Int.tdiv a0 65536) % 4294967296))) else (if ((Int.tdiv a0 65536) % 4294967296) ≥ 32768 then (some (wrap64 (Int.tmod a0 65536), ((Int.tdiv a0 65536) % 4294967296) - 65536)) else (some (wrap64 (Int.tmod a0 65536), (Int.tdiv a0 65536) % 4294967296)))) = some (r1, r2) := h
  clear h
  by_cases c2 : (wrap64 (Int.tmod a0 65536)) ≥ 32768
  · rw [if_pos c2] at H
    have c2b0 : decide (32768 ≤ (wrap64 (Int.tmod a0 65536))) = true := decide_eq_true c2
    clear c2
    by_cases c3 : ((Int.tdiv a0 65536) % 4294967296) ≥ 32768
    · rw [if_pos c3] at H
      have c3b0 : decide (32768 ≤ ((Int.tdiv a0 65536) % 4294967296)) = true := decide_eq_true c3
      clear c3
      simp only [Option.some.injEq, Prod.mk.injEq] at H
      obtain ⟨rfl, rfl⟩ := H
      go_enter Try.func20, Try.ntmps20
      go_wp2
      go_ret2
      exact ⟨by first | rfl | (simp; done) | (simp [*]; done), by repeat (first | exact Drawn0.refl _ | apply Drawn0.step)⟩
    · rw [if_neg c3] at H
      have c3b0 : decide (32768 ≤ ((Int.tdiv a0 65536) % 4294967296)) = false := decide_eq_false c3
      clear c3
      simp only [Option.some.injEq, Prod.mk.injEq] at H
      obtain ⟨rfl, rfl⟩ := H
      go_enter Try.func20, Try.ntmps20
      go_wp2
      go_ret2
      exact ⟨by first | rfl | (simp; done) | (simp [*]; done), by repeat (first | exact Drawn0.refl _ | apply Drawn0.step)⟩
  · rw [if_neg c2] at H
    have c2b0 : decide (32768 ≤ (wrap64 (Int.tmod a0 65536))) = false := decide_eq_false c2
    clear c2
    by_cases c4 : ((Int.tdiv a0 65536) % 4294967296) ≥ 32768
    · rw [if_pos c4] at H
      have c4b0 : decide (32768 ≤ ((Int.tdiv a0 65536) % 4294967296)) = true := decide_eq_true c4
      clear c4
      simp only [Option.some.injEq, Prod.mk.injEq] at H
      obtain ⟨rfl, rfl⟩ := H
      go_enter Try.func20, Try.ntmps20
      go_wp2
      go_ret2
      exact ⟨by first | rfl | (simp; done) | (simp [*]; done), by repeat (first | exact Drawn0.refl _ | apply Drawn0.step)⟩
    · rw [if_neg c4] at H
      have c4b0 : decide (32768 ≤ ((Int.tdiv a0 65536) % 4294967296)) = false := decide_eq_false c4
      clear c4
      simp only [Option.some.injEq, Prod.mk.injEq] at H
      obtain ⟨rfl, rfl⟩ := H
      go_enter Try.func20, Try.ntmps20
      go_wp2
      go_ret2
      exact ⟨by first | rfl | (simp; done) | (simp [*]; done), by repeat (first | exact Drawn0.refl _ | apply Drawn0.step)⟩

/-! ### funicularref03_Key: function 21 -/
def funicularref03_Key.l0 : Nat → ByteArray → Int → Int → Option (Int)
  | 0, _, _, _ => none
  | k + 1, x0, x3, x4 => if x4 < (x0.size : Int) then (if 0 ≤ x4 then (funicularref03_Key.l0 k x0 (Int.tmod (IntKind.u64.wrap ((IntKind.u64.wrap ((IntKind.u64.wrap (x3 - (Int.tmod x3 256))) + (Go.bits .xor .u64 (Int.tmod x3 256) (IntKind.u64.wrap (bt x0 x4))))) * 16777619)) 4294967296) (wrap64 (x4 + 1))) else (none)) else (some ((x3) % 4294967296))
def funicularref03_Key.f (k : Nat) (a0 : ByteArray) : Option (Int) := funicularref03_Key.l0 k a0 2166136261 0
theorem funicularref03_Key.mono_l : ∀ k, (∀ y0 y1 y2, LeO (funicularref03_Key.l0 k y0 y1 y2) (funicularref03_Key.l0 (k + 1) y0 y1 y2))
  | 0 => fun _ _ _ r h => by simp [funicularref03_Key.l0] at h
  | k + 1 => by
    have ih0 := funicularref03_Key.mono_l k
    · intro y0 y1 y2
      unfold funicularref03_Key.l0
      repeat' first
      | (with_reducible exact ih0 _ _ _)
      | (with_reducible exact LeO.refl _)
      | (with_reducible exact LeO.none _)
      | (with_reducible refine LeO.ite ?_ ?_)
      | (with_reducible refine LeO.bind ?_ (fun _ => ?_))
      | exact ih0 _ _ _
      | exact LeO.none _
      | refine LeO.ite ?_ ?_
      | refine LeO.bind ?_ (fun _ => ?_)
theorem funicularref03_Key.mono : ∀ a0 k, LeO (funicularref03_Key.f k a0) (funicularref03_Key.f (k + 1) a0) := by
  intro a0 k
  have ih0 := funicularref03_Key.mono_l k
  unfold funicularref03_Key.f
  repeat' first
      | (with_reducible exact ih0 _ _ _)
      | (with_reducible exact LeO.refl _)
      | (with_reducible exact LeO.none _)
      | (with_reducible refine LeO.ite ?_ ?_)
      | (with_reducible refine LeO.bind ?_ (fun _ => ?_))
      | exact ih0 _ _ _
      | exact LeO.none _
      | refine LeO.ite ?_ ?_
      | refine LeO.bind ?_ (fun _ => ?_)
set_option maxHeartbeats 8000000 in
set_option maxRecDepth 100000 in
theorem funicularref03_Key.calls (k : Nat) (a0 : ByteArray) (r : Int) (w : World) (h : funicularref03_Key.f k a0 = some r) :
    Calls Try.prog 21 #[.string a0] w fun e w' => e = .returned (.int .u32 r) ∧ Drawn0 w w' := by
  have H : (funicularref03_Key.l0 k a0 2166136261 0) = some r := h
  clear h
  have H' := Aside0.mk H
  clear H
  go_enter Try.func21, Try.ntmps21
  go_wp2
  go_loopg [3, 4] k (fun kq v3 v4 w' => ∃ (x3_1 : Int) (x4_1 : Int), v3 = .int .u64 x3_1 ∧ v4 = .int .i64 x4_1 ∧ Aside0 (funicularref03_Key.l0 kq a0 x3_1 x4_1 = some r) ∧ Aside0 (kq ≤ k) ∧ Drawn0 w w')
  case atStart => exact ⟨(2166136261), (0), (by first | rfl | (simp; done) | (simp [*]; done)), (by first | rfl | (simp; done) | (simp [*]; done)), H', ⟨Nat.le_refl _⟩, by repeat (first | exact Drawn0.refl _ | apply Drawn0.step)⟩
  case round =>
    clear H'
    obtain ⟨x3_1, x4_1, rfl, rfl, HA, HK1, ⟨m1, rfl⟩⟩ := hrel
    cases gk with
    | zero => exact absurd HA.out (by simp [funicularref03_Key.l0])
    | succ k1 =>
      have H := HA.out
      clear HA
      simp only [funicularref03_Key.l0] at H
      by_cases c2 : x4_1 < (a0.size : Int)
      · rw [if_pos c2] at H
        have c2b0 : decide (x4_1 < (a0.size : Int)) = true := decide_eq_true c2
        clear c2
        by_cases c3 : 0 ≤ x4_1
        · rw [if_pos c3] at H
          have c3b0 : decide (0 ≤ x4_1) = true := decide_eq_true c3
          clear c3
          have H' := Aside0.mk H
          clear H
          have p4 : 0 ≤ (x4_1 : Int) := of_decide_eq_true (by first | (with_reducible assumption) | assumption)
          have q4 : x4_1 < (a0.size : Int) := of_decide_eq_true (by first | (with_reducible assumption) | assumption)
          have hx4 := bt_at a0 x4_1
          replace p4 := eq_true p4
          replace q4 := eq_true q4
          go_wp2
          go_roundg k1
          case measure => have := HK1.out; omega
          case rel => exact ⟨(Int.tmod (IntKind.u64.wrap ((IntKind.u64.wrap ((IntKind.u64.wrap (x3_1 - (Int.tmod x3_1 256))) + (Go.bits .xor .u64 (Int.tmod x3_1 256) (IntKind.u64.wrap (bt a0 x4_1))))) * 16777619)) 4294967296), (wrap64 (x4_1 + 1)), (by first | rfl | (simp; done) | (simp [*]; done)), (by first | rfl | (simp; done) | (simp [*]; done)), H', ⟨by have := HK1.out; omega⟩, by repeat (first | exact Drawn0.refl _ | apply Drawn0.step)⟩
        · rw [if_neg c3] at H
          exact absurd H (by simp)
      · rw [if_neg c2] at H
        have c2b0 : decide (x4_1 < (a0.size : Int)) = false := decide_eq_false c2
        clear c2
        obtain rfl := Option.some.inj H
        go_wp2
        go_ret
        exact ⟨by first | rfl | (simp; done) | (simp [*]; done), by repeat (first | exact Drawn0.refl _ | apply Drawn0.step)⟩

/-! ### funicularref03_Route: function 12 -/
def funicularref03_Route.f (k : Nat) (a0 : ByteArray) (a1 : Int) : Option (Int × Int) := (funicularref03_Key.f k a0).bind fun t104 => ((funicularref03_Parts.f t104).bind fun bt105 => ((funicularref03_Part.f k bt105.1 bt105.2 a1).bind fun bt107 => (some (bt107.1, bt107.2))))
theorem funicularref03_Route.mono : ∀ a0 a1 k, LeO (funicularref03_Route.f k a0 a1) (funicularref03_Route.f (k + 1) a0 a1) := by
  intro a0 a1 k
  unfold funicularref03_Route.f
  repeat' first
      | (with_reducible exact funicularref03_Key.mono _ _)
      | (with_reducible exact funicularref03_Part.mono _ _ _ _)
      | (with_reducible exact LeO.refl _)
      | (with_reducible exact LeO.none _)
      | (with_reducible refine LeO.ite ?_ ?_)
      | (with_reducible refine LeO.bind ?_ (fun _ => ?_))
      | exact funicularref03_Key.mono _ _
      | exact funicularref03_Part.mono _ _ _ _
      | exact LeO.none _
      | refine LeO.ite ?_ ?_
      | refine LeO.bind ?_ (fun _ => ?_)
set_option maxHeartbeats 8000000 in
set_option maxRecDepth 100000 in
theorem funicularref03_Route.calls (k : Nat) (a0 : ByteArray) (a1 : Int) (r1 : Int) (r2 : Int) (w : World) (h : funicularref03_Route.f k a0 a1 = some (r1, r2)) :
    Calls Try.prog 12 #[.string a0, .int .i64 a1] w fun e w' => e = .returned (.tuple #[.int .i64 r1, .int .i64 r2]) ∧ Drawn0 w w' := by
  have H : ((funicularref03_Key.f k a0).bind fun t104 => ((funicularref03_Parts.f t104).bind fun bt105 => ((funicularref03_Part.f k bt105.1 bt105.2 a1).bind fun bt107 => (some (bt107.1, bt107.2))))) = some (r1, r2) := h
  clear h
  replace H := Option.bind_eq_some_iff.mp H
  obtain ⟨t104, A30, H⟩ := H
  replace H : ((funicularref03_Parts.f t104).bind fun bt105 => ((funicularref03_Part.f k bt105.1 bt105.2 a1).bind fun bt107 => (some (bt107.1, bt107.2)))) = some (r1, r2) := H
  have A3 := Aside0.mk A30
  clear A30
  replace H := Option.bind_eq_some_iff.mp H
  obtain ⟨⟨t105, t106⟩, A40, H⟩ := H
  replace H : ((funicularref03_Part.f k t105 t106 a1).bind fun bt107 => (some (bt107.1, bt107.2))) = some (r1, r2) := H
  have A4 := Aside0.mk A40
  clear A40
  replace H := Option.bind_eq_some_iff.mp H
  obtain ⟨⟨t107, t108⟩, A50, H⟩ := H
  replace H : (some (t107, t108)) = some (r1, r2) := H
  have A5 := Aside0.mk A50
  clear A50
  simp only [Option.some.injEq, Prod.mk.injEq] at H
  obtain ⟨rfl, rfl⟩ := H
  go_enter Try.func12, Try.ntmps12
  go_wp2_with (first | ((with_reducible refine gate_callee (f := 21) rfl ?_); refine goesL_ (some 10) rfl rfl Try.func21 (by kernel_rfl) rfl #[.string a0] rfl (by (try simp only [List.map_toArray, List.map_cons, List.map_nil]); first | done | rfl | (simp only [List.length_drop, List.length_take]; rfl)) ?_; (with_reducible refine (funicularref03_Key.calls k a0 t104 _ A3.out).mono ?_); rintro e w' ⟨rfl, ⟨nd, rfl⟩⟩; refine ⟨_, rfl, ?_⟩) | ((with_reducible refine gate_callee (f := 20) rfl ?_); refine goesL_ (some 11) rfl rfl Try.func20 (by kernel_rfl) rfl #[.int .u32 t104] rfl (by (try simp only [List.map_toArray, List.map_cons, List.map_nil]); first | done | rfl | (simp only [List.length_drop, List.length_take]; rfl)) ?_; (with_reducible refine (funicularref03_Parts.calls t104 t105 t106 _ A4.out).mono ?_); rintro e w' ⟨rfl, ⟨nd, rfl⟩⟩; refine ⟨_, rfl, ?_⟩) | ((with_reducible refine gate_callee (f := 10) rfl ?_); refine goesL_ (some 17) rfl rfl Try.func10 (by kernel_rfl) rfl #[.int .i64 t105, .int .i64 t106, .int .i64 a1] rfl (by (try simp only [List.map_toArray, List.map_cons, List.map_nil]); first | done | rfl | (simp only [List.length_drop, List.length_take]; rfl)) ?_; (with_reducible refine (funicularref03_Part.calls k t105 t106 a1 t107 t108 _ A5.out).mono ?_); rintro e w' ⟨rfl, ⟨nd, rfl⟩⟩; refine ⟨_, rfl, ?_⟩))
  go_ret2
  exact ⟨by first | rfl | (simp; done) | (simp [*]; done), by repeat (first | exact Drawn0.refl _ | apply Drawn0.step)⟩

-- NOT PRINTED: function 3 (funicularlaw03_CompassParts)

end Go.Proofs.Ytjcpghecflbpjaa.XCompassParts
