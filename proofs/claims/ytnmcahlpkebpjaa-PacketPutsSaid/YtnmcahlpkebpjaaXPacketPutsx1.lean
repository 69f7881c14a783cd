-- written by xprint (wip/tools): a program of this session that goes on from the kit's print
import Derived.Test.YtnmcahlpkebpjaaXPacketPutsx0
namespace Go.Proofs.Ytnmcahlpkebpjaa.XPacketPuts
open Go.Proofs.YtnmcahlpkebpjaaX
open Go.RowKit Go.Proofs.YtnmcahlpkebpjaaW.PrintWords Go.Proofs.YtnmcahlpkebpjaaW.PrintLast Go.Proofs.YtnmcahlpkebpjaaW.PrintMore
attribute [local go_sem] max2_int min2_int max_two min_two max_three min_three max_four min_four   -- for this text's walks alone
set_option linter.unusedVariables false
set_option linter.unusedSimpArgs false

/-! ### funicularref17_Weight: function 21 -/
mutual
def funicularref17_Weight.l0 : Nat → List (S51) → Int → Int → Int → Option (Int)
 | 0, _, _, _, _ => none
 | k + 1, x0, x1, x5, x6 => if x6 < (x0.length : Int) then (funicularref17_Weight.j1 k x0 x1 x5 x6 (decide (x5 ≤ x1))) else (funicularref17_Weight.j1 k x0 x1 x5 x6 false)
def funicularref17_Weight.j1 : Nat → List (S51) → Int → Int → Int → Bool → Option (Int)
 | 0, _, _, _, _, _ => none
 | k + 1, x0, x1, x5, x6, x16 => if x16 = true then (if 0 ≤ x6 then (if x6 < (x0.length : Int) then (funicularref17_Weight.l1 k x0 x1 (wrap64 ((wrap64 (x5 + 1)) + (wrap64 ((((rd_T51 x0 x6).f10).length : Int) / 20)))) x6 0) else (none)) else (none)) else (some x5)
def funicularref17_Weight.l1 : Nat → List (S51) → Int → Int → Int → Int → Option (Int)
 | 0, _, _, _, _, _ => none
 | k + 1, x0, x1, x5, x6, x7 => if 0 ≤ x6 then (if x6 < (x0.length : Int) then (if x7 < (((rd_T51 x0 x6).f9).length : Int) then (if x5 ≤ x1 then (if 0 ≤ x7 then (funicularref17_Weight.l1 k x0 x1 (wrap64 ((wrap64 (x5 + 1)) + (wrap64 ((((rd_T48 ((rd_T51 x0 x6).f9) x7).f1).length : Int) / 20)))) x6 (wrap64 (x7 + 1))) else (none)) else (funicularref17_Weight.l0 k x0 x1 x5 (wrap64 (x6 + 1)))) else (funicularref17_Weight.l0 k x0 x1 x5 (wrap64 (x6 + 1)))) else (none)) else (none)
end
def funicularref17_Weight.f (k : Nat) (l0 : List (S51)) (a1 : Int) : Option (Int) := funicularref17_Weight.l0 k l0 a1 0 0
theorem funicularref17_Weight.mono_l : ∀ k, (∀ y0 y1 y2 y3, LeO (funicularref17_Weight.l0 k y0 y1 y2 y3) (funicularref17_Weight.l0 (k + 1) y0 y1 y2 y3)) ∧ (∀ y0 y1 y2 y3 y4, LeO (funicularref17_Weight.j1 k y0 y1 y2 y3 y4) (funicularref17_Weight.j1 (k + 1) y0 y1 y2 y3 y4)) ∧ (∀ y0 y1 y2 y3 y4, LeO (funicularref17_Weight.l1 k y0 y1 y2 y3 y4) (funicularref17_Weight.l1 (k + 1) y0 y1 y2 y3 y4))
 | 0 => ⟨fun _ _ _ _ r h => by simp [funicularref17_Weight.l0] at h, fun _ _ _ _ _ r h => by simp [funicularref17_Weight.j1] at h, fun _ _ _ _ _ r h => by simp [funicularref17_Weight.l1] at h⟩
 | k + 1 => by
  obtain ⟨ih0, ih1, ih2⟩ := funicularref17_Weight.mono_l k
  refine ⟨?_, ?_, ?_⟩
  ·intro y0 y1 y2 y3
   unfold funicularref17_Weight.l0
   repeat' first
   | (with_reducible exact ih0 _ _ _ _)
   | (with_reducible exact ih1 _ _ _ _ _)
   | (with_reducible exact ih2 _ _ _ _ _)
   | (with_reducible exact LeO.refl _)
   | (with_reducible exact LeO.none _)
   | (with_reducible refine LeO.ite ?_ ?_)
   | (with_reducible refine LeO.bind ?_ (fun _ => ?_))
   | exact ih0 _ _ _ _
   | exact ih1 _ _ _ _ _
   | exact ih2 _ _ _ _ _
   | exact LeO.none _
   | refine LeO.ite ?_ ?_
   | refine LeO.bind ?_ (fun _ => ?_)
  ·intro y0 y1 y2 y3 y4
   unfold funicularref17_Weight.j1
   repeat' first
   | (with_reducible exact ih0 _ _ _ _)
   | (with_reducible exact ih1 _ _ _ _ _)
   | (with_reducible exact ih2 _ _ _ _ _)
   | (with_reducible exact LeO.refl _)
   | (with_reducible exact LeO.none _)
   | (with_reducible refine LeO.ite ?_ ?_)
   | (with_reducible refine LeO.bind ?_ (fun _ => ?_))
   | exact ih0 _ _ _ _
   | exact ih1 _ _ _ _ _
   | exact ih2 _ _ _ _ _
   | exact LeO.none _
   | refine LeO.ite ?_ ?_
   | refine LeO.bind ?_ (fun _ => ?_)
  ·intro y0 y1 y2 y3 y4
   unfold funicularref17_Weight.l1
   repeat' first
   | (with_reducible exact ih0 _ _ _ _)
   | (with_reducible exact ih1 _ _ _ _ _)
   | (with_reducible exact ih2 _ _ _ _ _)
   | (with_reducible exact LeO.refl _)
   | (with_reducible exact LeO.none _)
   | (with_reducible refine LeO.ite ?_ ?_)
   | (with_reducible refine LeO.bind ?_ (fun _ => ?_))
   | exact ih0 _ _ _ _
   | exact ih1 _ _ _ _ _
   | exact ih2 _ _ _ _ _
   | exact LeO.none _
   | refine LeO.ite ?_ ?_
   | refine LeO.bind ?_ (fun _ => ?_)
theorem funicularref17_Weight.mono : ∀ a0 a1 k, LeO (funicularref17_Weight.f k a0 a1) (funicularref17_Weight.f (k + 1) a0 a1) := by
 intro a0 a1 k
 obtain ⟨ih0, ih1, ih2⟩ := funicularref17_Weight.mono_l k
 unfold funicularref17_Weight.f
 repeat' first
   | (with_reducible exact ih0 _ _ _ _)
   | (with_reducible exact ih1 _ _ _ _ _)
   | (with_reducible exact ih2 _ _ _ _ _)
   | (with_reducible exact LeO.refl _)
   | (with_reducible exact LeO.none _)
   | (with_reducible refine LeO.ite ?_ ?_)
   | (with_reducible refine LeO.bind ?_ (fun _ => ?_))
   | exact ih0 _ _ _ _
   | exact ih1 _ _ _ _ _
   | exact ih2 _ _ _ _ _
   | exact LeO.none _
   | refine LeO.ite ?_ ?_
   | refine LeO.bind ?_ (fun _ => ?_)
set_option maxHeartbeats 8000000 in
set_option maxRecDepth 100000 in
theorem funicularref17_Weight.calls (k : Nat) (A0 : Option Addr) (c0 : Nat) (l0 : List (S51)) (a1 : Int) (r : Int) (w : World) (hr0 : Kd.C k51 w A0 l0.length l0) (hc0 : l0.length ≤ c0) (h : funicularref17_Weight.f k l0 a1 = some r) :
  Calls Try.prog 21 #[.slice A0 l0.length c0, .int .i64 a1] w fun e w' => e = .returned (.int .i64 r) ∧ Drawn0 w w' := by
 have HR0 := Aside0.mk hr0
 have HC0 := Aside0.mk hc0
 clear hr0 hc0
 have H : (funicularref17_Weight.l0 k l0 a1 0 0) = some r := h
 clear h
 have H' := Aside0.mk H
 clear H
 go_enter Try.func21, Try.ntmps21
 go_wp2
 go_loopg [5, 6] k (fun kq v5 v6 w' => ∃ (x5_1 : Int) (x6_1 : Int), v5 = .int .i64 x5_1 ∧ v6 = .int .i64 x6_1 ∧ Aside0 (funicularref17_Weight.l0 kq l0 a1 x5_1 x6_1 = some r) ∧ Aside0 (kq ≤ k) ∧ Drawn0 w w')
 case atStart => exact ⟨(0), (0), (by first | rfl | (simp; done) | (simp [*]; done)), (by first | rfl | (simp; done) | (simp [*]; done)), H', ⟨Nat.le_refl _⟩, by repeat (first | exact Drawn0.refl _ | apply Drawn0.step)⟩
 case round =>
  clear H'
  try clear c2
  try clear p2
  obtain ⟨x5_1, x6_1, rfl, rfl, HA, HK1, ⟨m1, rfl⟩⟩ := hrel
  cases gk with
  | zero => exact absurd HA.out (by simp [funicularref17_Weight.l0])
  | succ k1 =>
   have H := HA.out
   clear HA
   simp only [funicularref17_Weight.l0] at H
   have HC3 := Aside0.mk H
   clear H
   go_upto_region 3 with (fail)
   go_cut [16] (fun v16 wc => ∃ (kq : Nat) (x16_2 : Bool), v16 = .bool x16_2 ∧ Aside0 (funicularref17_Weight.j1 kq l0 a1 x5_1 x6_1 x16_2 = some r) ∧ Aside0 (kq ≤ k1) ∧ Drawn0 w wc)
   case first =>
    have H := HC3.out
    clear HC3
    by_cases c4 : x6_1 < (l0.length : Int)
    ·rw [if_pos c4] at H
     have c4b0 : decide (x6_1 < (l0.length : Int)) = true := decide_eq_true c4
     clear c4
     (first | rw [c4b0] | (simp only [i64_w, i32_w]; rw [c4b0]) | skip)
     have H' := Aside0.mk H
     clear H
     go_wp2
     go_meet
     case rel => exact ⟨_, (decide (x5_1 ≤ a1)), (by first | rfl | (simp; done) | (simp [*]; done)), H', ⟨by have := HK1.out; first | omega | exact Nat.le_refl _⟩, by repeat (first | exact Drawn0.refl _ | apply Drawn0.step)⟩
    ·rw [if_neg c4] at H
     have c4b0 : decide (x6_1 < (l0.length : Int)) = false := decide_eq_false c4
     clear c4
     (first | rw [c4b0] | (simp only [i64_w, i32_w]; rw [c4b0]) | skip)
     have H' := Aside0.mk H
     clear H
     go_wp2
     go_meet
     case rel => exact ⟨_, (false), (by first | rfl | (simp; done) | (simp [*]; done)), H', ⟨by have := HK1.out; first | omega | exact Nat.le_refl _⟩, by repeat (first | exact Drawn0.refl _ | apply Drawn0.step)⟩
   case rest =>
    clear HC3
    try clear c2
    try clear p2
    try clear c4
    try clear c4b0
    try clear p2
    obtain ⟨kq, x16_2, rfl, HA, HJ2, ⟨mc2, rfl⟩⟩ := hcut
    cases kq with
    | zero => exact absurd HA.out (by simp [funicularref17_Weight.j1])
    | succ kj2 =>
     have H := HA.out
     clear HA
     simp only [funicularref17_Weight.j1] at H
     by_cases c5 : x16_2 = true
     ·subst c5
      have H1 : (if 0 ≤ x6_1 then (if x6_1 < (l0.length : Int) then (funicularref17_Weight.l1 kj2 l0 a1 (wrap64 ((wrap64 (x5_1 + 1)) + (wrap64 ((((rd_T51 l0 x6_1).f10).length : Int) / 20)))) x6_1 0) else (none)) else (none)) = some r := by rw [if_pos rfl] at H; exact H
      clear H
      have H := H1
      clear H1
      by_cases c6 : 0 ≤ x6_1
      ·rw [if_pos c6] at H
       have c6b0 : decide (0 ≤ x6_1) = true := decide_eq_true c6
       clear c6
       by_cases c7 : x6_1 < (l0.length : Int)
       ·rw [if_pos c7] at H
        have c7b0 : decide (x6_1 < (l0.length : Int)) = true := decide_eq_true c7
        clear c7
        have H' := Aside0.mk H
        clear H
        have p101 : 0 ≤ (x6_1 : Int) := of_decide_eq_true (by first | (with_reducible assumption) | assumption)
        have q101 : x6_1 < (l0.length : Int) := of_decide_eq_true (by first | (with_reducible assumption) | assumption)
        obtain ⟨ad101, A101_9, c101_9, A101_10, c101_10, e101, hx101_0, hx101_1, hx101_2, hx101_3, hx101_4, hx101_5, hx101_6, hx101_7, hx101_8, hx101_9, hx101_10, hl101_9, hi101_9, hl101_10, hi101_10⟩ := at_T51 HR0.out x6_1 p101 q101
        cases e101
        have HR101_9 := Aside0.mk hi101_9
        have HC101_9 := Aside0.mk hl101_9
        clear hi101_9 hl101_9
        have HR101_10 := Aside0.mk hi101_10
        have HC101_10 := Aside0.mk hl101_10
        clear hi101_10 hl101_10
        replace p101 := eq_true p101
        replace q101 := eq_true q101
        go_wp2
        go_loopg [5, 7] kj2 (fun kq v5 v7 w' => ∃ (x5_3 : Int) (x7_3 : Int), v5 = .int .i64 x5_3 ∧ v7 = .int .i64 x7_3 ∧ Aside0 (funicularref17_Weight.l1 kq l0 a1 x5_3 x6_1 x7_3 = some r) ∧ Aside0 (kq ≤ kj2) ∧ Drawn0 w w')
        case atStart => exact ⟨(wrap64 ((wrap64 (x5_1 + 1)) + (wrap64 ((((rd_T51 l0 x6_1).f10).length : Int) / 20)))), (0), (by first | rfl | (simp; done) | (simp [*]; done)), (by first | rfl | (simp; done) | (simp [*]; done)), H', ⟨Nat.le_refl _⟩, by repeat (first | exact Drawn0.refl _ | apply Drawn0.step)⟩
        case round =>
         clear H'
         try clear c1
         try clear p1
         try clear q1
         try clear hx1
         try clear c2
         try clear p2
         try clear c4
         try clear c4b0
         try clear c5
         try clear c6
         try clear c6b0
         try clear p6
         try clear c7
         try clear c7b0
         try clear hx101_0
         try clear hx101_1
         try clear hx101_10
         try clear hx101_2
         try clear hx101_3
         try clear hx101_4
         try clear hx101_5
         try clear hx101_6
         try clear hx101_7
         try clear hx101_8
         try clear hx101_9
         try clear p101
         try clear p2
         try clear q101
         obtain ⟨x5_3, x7_3, rfl, rfl, HA, HK3, ⟨m3, rfl⟩⟩ := hrel
         cases gk with
         | zero => exact absurd HA.out (by simp [funicularref17_Weight.l1])
         | succ k3 =>
          have H := HA.out
          clear HA
          simp only [funicularref17_Weight.l1] at H
          by_cases c8 : 0 ≤ x6_1
          ·rw [if_pos c8] at H
           have c8b0 : decide (0 ≤ x6_1) = true := decide_eq_true c8
           clear c8
           by_cases c9 : x6_1 < (l0.length : Int)
           ·rw [if_pos c9] at H
            have c9b0 : decide (x6_1 < (l0.length : Int)) = true := decide_eq_true c9
            clear c9
            by_cases c10 : x7_3 < (((rd_T51 l0 x6_1).f9).length : Int)
            ·rw [if_pos c10] at H
             have c10b0 : decide (x7_3 < (((rd_T51 l0 x6_1).f9).length : Int)) = true := decide_eq_true c10
             clear c10
             by_cases c11 : x5_3 ≤ a1
             ·rw [if_pos c11] at H
              have c11b0 : decide (x5_3 ≤ a1) = true := decide_eq_true c11
              clear c11
              by_cases c12 : 0 ≤ x7_3
              ·rw [if_pos c12] at H
               have c12b0 : decide (0 ≤ x7_3) = true := decide_eq_true c12
               clear c12
               have H' := Aside0.mk H
               clear H
               have p102 : 0 ≤ (x6_1 : Int) := of_decide_eq_true (by first | (with_reducible assumption) | assumption)
               have q102 : x6_1 < (l0.length : Int) := of_decide_eq_true (by first | (with_reducible assumption) | assumption)
               obtain ⟨ad102, A102_9, c102_9, A102_10, c102_10, e102, hx102_0, hx102_1, hx102_2, hx102_3, hx102_4, hx102_5, hx102_6, hx102_7, hx102_8, hx102_9, hx102_10, hl102_9, hi102_9, hl102_10, hi102_10⟩ := at_T51 HR0.out x6_1 p102 q102
               obtain rfl : ad101 = ad102 := (by injection e102)
               have HR102_9 := Aside0.mk hi102_9
               have HC102_9 := Aside0.mk hl102_9
               clear hi102_9 hl102_9
               have HR102_10 := Aside0.mk hi102_10
               have HC102_10 := Aside0.mk hl102_10
               clear hi102_10 hl102_10
               replace p102 := eq_true p102
               replace q102 := eq_true q102
               have p103 : 0 ≤ (x6_1 : Int) := of_decide_eq_true (by first | (with_reducible assumption) | assumption)
               have q103 : x6_1 < (l0.length : Int) := of_decide_eq_true (by first | (with_reducible assumption) | assumption)
               obtain ⟨ad103, A103_9, c103_9, A103_10, c103_10, e103, hx103_0, hx103_1, hx103_2, hx103_3, hx103_4, hx103_5, hx103_6, hx103_7, hx103_8, hx103_9, hx103_10, hl103_9, hi103_9, hl103_10, hi103_10⟩ := at_T51 HR0.out x6_1 p103 q103
               obtain rfl : ad101 = ad103 := (by injection e103)
               have HR103_9 := Aside0.mk hi103_9
               have HC103_9 := Aside0.mk hl103_9
               clear hi103_9 hl103_9
               have HR103_10 := Aside0.mk hi103_10
               have HC103_10 := Aside0.mk hl103_10
               clear hi103_10 hl103_10
               replace p103 := eq_true p103
               replace q103 := eq_true q103
               have ea_ := Option.some.inj (hx102_9.symm.trans hx103_9)
               injection ea_ with ea_ en_ ec_
               subst ea_
               subst ec_
               clear en_
               have ea_ := Option.some.inj (hx102_10.symm.trans hx103_10)
               injection ea_ with ea_ en_ ec_
               subst ea_
               subst ec_
               clear en_
               have p104 : 0 ≤ (x7_3 : Int) := of_decide_eq_true (by first | (with_reducible assumption) | assumption)
               have q104 : x7_3 < (((rd_T51 l0 x6_1).f9).length : Int) := of_decide_eq_true (by first | (with_reducible assumption) | assumption)
               obtain ⟨ad104, A104_1, c104_1, e104, hx104_0, hx104_1, hl104_1, hi104_1⟩ := at_T48 HR103_9.out x7_3 p104 q104
               cases e104
               have HR104_1 := Aside0.mk hi104_1
               have HC104_1 := Aside0.mk hl104_1
               clear hi104_1 hl104_1
               replace p104 := eq_true p104
               replace q104 := eq_true q104
               go_wp2
               go_roundg k3
               case measure => have := HK1.out; have := HJ2.out; have := HK3.out; omega
               case rel => exact ⟨(wrap64 ((wrap64 (x5_3 + 1)) + (wrap64 ((((rd_T48 ((rd_T51 l0 x6_1).f9) x7_3).f1).length : Int) / 20)))), (wrap64 (x7_3 + 1)), (by first | rfl | (simp; done) | (simp [*]; done)), (by first | rfl | (simp; done) | (simp [*]; done)), H', ⟨by have := HK1.out; have := HJ2.out; have := HK3.out; omega⟩, by repeat (first | exact Drawn0.refl _ | apply Drawn0.step)⟩
              ·rw [if_neg c12] at H
               exact absurd H (by simp)
             ·rw [if_neg c11] at H
              have c11b0 : decide (x5_3 ≤ a1) = false := decide_eq_false c11
              clear c11
              have H' := Aside0.mk H
              clear H
              have p102 : 0 ≤ (x6_1 : Int) := of_decide_eq_true (by first | (with_reducible assumption) | assumption)
              have q102 : x6_1 < (l0.length : Int) := of_decide_eq_true (by first | (with_reducible assumption) | assumption)
              obtain ⟨ad102, A102_9, c102_9, A102_10, c102_10, e102, hx102_0, hx102_1, hx102_2, hx102_3, hx102_4, hx102_5, hx102_6, hx102_7, hx102_8, hx102_9, hx102_10, hl102_9, hi102_9, hl102_10, hi102_10⟩ := at_T51 HR0.out x6_1 p102 q102
              obtain rfl : ad101 = ad102 := (by injection e102)
              have HR102_9 := Aside0.mk hi102_9
              have HC102_9 := Aside0.mk hl102_9
              clear hi102_9 hl102_9
              have HR102_10 := Aside0.mk hi102_10
              have HC102_10 := Aside0.mk hl102_10
              clear hi102_10 hl102_10
              replace p102 := eq_true p102
              replace q102 := eq_true q102
              go_wp2
              go_roundg k3
              case measure => have := HK1.out; have := HJ2.out; have := HK3.out; omega
              case rel => exact ⟨(x5_3), (wrap64 (x6_1 + 1)), (by first | rfl | (simp; done) | (simp [*]; done)), (by first | rfl | (simp; done) | (simp [*]; done)), H', ⟨by have := HK1.out; have := HJ2.out; have := HK3.out; omega⟩, by repeat (first | exact Drawn0.refl _ | apply Drawn0.step)⟩
            ·rw [if_neg c10] at H
             have c10b0 : decide (x7_3 < (((rd_T51 l0 x6_1).f9).length : Int)) = false := decide_eq_false c10
             clear c10
             have H' := Aside0.mk H
             clear H
             have p102 : 0 ≤ (x6_1 : Int) := of_decide_eq_true (by first | (with_reducible assumption) | assumption)
             have q102 : x6_1 < (l0.length : Int) := of_decide_eq_true (by first | (with_reducible assumption) | assumption)
             obtain ⟨ad102, A102_9, c102_9, A102_10, c102_10, e102, hx102_0, hx102_1, hx102_2, hx102_3, hx102_4, hx102_5, hx102_6, hx102_7, hx102_8, hx102_9, hx102_10, hl102_9, hi102_9, hl102_10, hi102_10⟩ := at_T51 HR0.out x6_1 p102 q102
             obtain rfl : ad101 = ad102 := (by injection e102)
             have HR102_9 := Aside0.mk hi102_9
             have HC102_9 := Aside0.mk hl102_9
             clear hi102_9 hl102_9
             have HR102_10 := Aside0.mk hi102_10
             have HC102_10 := Aside0.mk hl102_10
             clear hi102_10 hl102_10
             replace p102 := eq_true p102
             replace q102 := eq_true q102
             go_wp2
             go_roundg k3
             case measure => have := HK1.out; have := HJ2.out; have := HK3.out; omega
             case rel => exact ⟨(x5_3), (wrap64 (x6_1 + 1)), (by first | rfl | (simp; done) | (simp [*]; done)), (by first | rfl | (simp; done) | (simp [*]; done)), H', ⟨by have := HK1.out; have := HJ2.out; have := HK3.out; omega⟩, by repeat (first | exact Drawn0.refl _ | apply Drawn0.step)⟩
           ·rw [if_neg c9] at H
            exact absurd H (by simp)
          ·rw [if_neg c8] at H
           exact absurd H (by simp)
       ·rw [if_neg c7] at H
        exact absurd H (by simp)
      ·rw [if_neg c6] at H
       exact absurd H (by simp)
     ·replace c5 := Bool.eq_false_iff.mpr c5
      subst c5
      have H1 : (some x5_1) = some r := by rw [if_neg (show ¬ (false = true) by decide)] at H; exact H
      clear H
      have H := H1
      clear H1
      obtain rfl := Option.some.inj H
      go_wp2
      go_ret
      exact ⟨by first | rfl | (simp; done) | (simp [*]; done), by repeat (first | exact Drawn0.refl _ | apply Drawn0.step)⟩

/-! ### funicularlaw17_light: function 8 -/
def funicularlaw17_light.f (k : Nat) (l0 : List (S51)) : Option (Bool) := (funicularref17_Weight.f k l0 300).bind fun t105 => (some (decide (t105 ≤ 300)))
theorem funicularlaw17_light.mono : ∀ a0 k, LeO (funicularlaw17_light.f k a0) (funicularlaw17_light.f (k + 1) a0) := by
 intro a0 k
 unfold funicularlaw17_light.f
 repeat' first
   | (with_reducible exact funicularref17_Weight.mono _ _ _)
   | (with_reducible exact LeO.refl _)
   | (with_reducible exact LeO.none _)
   | (with_reducible refine LeO.ite ?_ ?_)
   | (with_reducible refine LeO.bind ?_ (fun _ => ?_))
   | exact funicularref17_Weight.mono _ _ _
   | exact LeO.none _
   | refine LeO.ite ?_ ?_
   | refine LeO.bind ?_ (fun _ => ?_)
set_option maxHeartbeats 8000000 in
set_option maxRecDepth 100000 in
theorem funicularlaw17_light.calls (k : Nat) (A0 : Option Addr) (c0 : Nat) (l0 : List (S51)) (r : Bool) (w : World) (hr0 : Kd.C k51 w A0 l0.length l0) (hc0 : l0.length ≤ c0) (h : funicularlaw17_light.f k l0 = some r) :
  Calls Try.prog 8 #[.slice A0 l0.length c0] w fun e w' => e = .returned (.bool r) ∧ Drawn0 w w' := by
 have HR0 := Aside0.mk hr0
 have HC0 := Aside0.mk hc0
 clear hr0 hc0
 have H : ((funicularref17_Weight.f k l0 300).bind fun t105 => (some (decide (t105 ≤ 300)))) = some r := h
 clear h
 replace H := Option.bind_eq_some_iff.mp H
 obtain ⟨t105, A20, H⟩ := H
 replace H : (some (decide (t105 ≤ 300))) = some r := H
 have A2 := Aside0.mk A20
 clear A20
 obtain rfl := Option.some.inj H
 go_enter Try.func8, Try.ntmps8
 go_wp2_with (first | ((with_reducible refine gate_callee (f := 21) rfl ?_); refine goesL_ (some 4) rfl rfl Try.func21 (by kernel_rfl) rfl #[.slice A0 l0.length c0, .int .i64 300] rfl (by (try simp only [List.map_toArray, List.map_cons, List.map_nil]); first | done | rfl | (simp only [List.length_drop, List.length_take]; rfl)) ?_; (with_reducible refine (funicularref17_Weight.calls k _ _ l0 300 t105 _ ?side1 ?side2 A2.out).mono ?_); (case side1 => repeat (first | exact HR0.out | (with_reducible refine Kd.C_alloc ?_ _) | (with_reducible refine Kd.C_drewN ?_ _) | (with_reducible refine Kd.C_drew ?_))); (case side2 => exact HC0.out); rintro e w' ⟨rfl, ⟨nd, rfl⟩⟩; refine ⟨_, rfl, ?_⟩))
 go_ret
 exact ⟨by first | rfl | (simp; done) | (simp [*]; done), by repeat (first | exact Drawn0.refl _ | apply Drawn0.step)⟩

/-! ### packet_node: function 28 -/
def packet_node.f (a0 : Int) : Option (Bool) := if a0 ≥ 1 then (some (decide (a0 ≤ 7))) else (some false)
set_option maxHeartbeats 8000000 in
set_option maxRecDepth 100000 in
theorem packet_node.calls (a0 : Int) (r : Bool) (w : World) (h : packet_node.f a0 = some r) :
  Calls Try.prog 28 #[.int .i64 a0] w fun e w' => e = .returned (.bool r) ∧ Drawn0 w w' := by
 have H : (if a0 ≥ 1 then (some (decide (a0 ≤ 7))) else (some false)) = some r := h
 clear h
 by_cases c2 : a0 ≥ 1
 ·rw [if_pos c2] at H
  have c2b0 : decide (1 ≤ a0) = true := decide_eq_true c2
  clear c2
  obtain rfl := Option.some.inj H
  go_enter Try.func28, Try.ntmps28
  go_wp2
  go_ret
  exact ⟨by first | rfl | (simp; done) | (simp [*]; done), by repeat (first | exact Drawn0.refl _ | apply Drawn0.step)⟩
 ·rw [if_neg c2] at H
  have c2b0 : decide (1 ≤ a0) = false := decide_eq_false c2
  clear c2
  obtain rfl := Option.some.inj H
  go_enter Try.func28, Try.ntmps28
  go_wp2
  go_ret
  exact ⟨by first | rfl | (simp; done) | (simp [*]; done), by repeat (first | exact Drawn0.refl _ | apply Drawn0.step)⟩

-- passed over: function 49 (api_Entry_49)

-- passed over: function 42 (api_Entry_42)

/-! ### packet_msg: function 29 -/
def entOk (x : S48) : Bool := decide (1 ≤ x.f0) && decide (x.f0 ≤ 1099511627776) && decide (x.f1.length ≤ 65536)
def inI (n : Int) : Bool := decide (0 ≤ n) && decide (n ≤ 1099511627776)
def msgOk (m : S51) : Bool := ((((((((inI m.f4 && inI m.f5) && inI m.f6) && inI m.f7) && decide (1 ≤ m.f0 ∧ m.f0 ≤ 7)) && decide (0 ≤ m.f1 ∧ m.f1 < 64)) && decide (m.f9.length ≤ 8)) && decide (m.f10.length ≤ 65536)) && m.f9.all entOk)
set_option maxHeartbeats 1600000 in
theorem entry_calls (x : S48) (A : Option Addr) (c : Nat) (w : World) :
  Calls Try.prog 44 #[.agg #[.int .i64 x.f0, .slice A x.f1.length c]] w fun e w' => e = .returned (.bool (entOk x)) ∧ Below w.heap.size w w' := by
 obtain ⟨t, d⟩ := x
 obtain ⟨n, hn⟩ : ∃ n, n = d.length := ⟨_, rfl⟩
 have he : entOk ⟨t, d⟩ = (decide (1 ≤ t) && decide (t ≤ 1099511627776) && decide (n ≤ 65536)) := by rw [hn]; rfl
 rw [he]
 show Calls Try.prog 44 #[.agg #[.int .i64 t, .slice A d.length c]] w _
 rw [← hn]
 clear he hn
 by_cases h1 : 1 ≤ t
 ·have b1 := decide_eq_true h1
  by_cases h2 : t ≤ 1099511627776
  ·have b2 := decide_eq_true h2
   by_cases h3 : n ≤ 65536
   ·have b3 := decide_eq_true h3
    rw [b1, b2, b3]
    have H3 := Aside0.mk h3
    clear h1 h2 h3
    go_enter Try.func44, Try.ntmps44
    go_wp2
    go_ret
    exact ⟨by first | rfl | (simp; done) | (have := H3.out; simp; omega) | (simp [*]; done), below_alloc (Below.refl _ _) _⟩
   ·have b3 := decide_eq_false h3
    rw [b1, b2, b3]
    have H3 := Aside0.mk h3
    clear h1 h2 h3
    go_enter Try.func44, Try.ntmps44
    go_wp2
    go_ret
    exact ⟨by first | rfl | (simp; done) | (have := H3.out; simp; omega) | (simp [*]; done), below_alloc (Below.refl _ _) _⟩
  ·have b2 := decide_eq_false h2
   rw [b1, b2]
   clear h1 h2
   go_enter Try.func44, Try.ntmps44
   go_wp2
   go_ret
   exact ⟨by first | rfl | (simp; done) | (have := H3.out; simp; omega) | (simp [*]; done), below_alloc (Below.refl _ _) _⟩
 ·have b1 := decide_eq_false h1
  rw [b1]
  clear h1
  go_enter Try.func44, Try.ntmps44
  go_wp2
  go_ret
  exact ⟨by first | rfl | (simp; done) | (have := H3.out; simp; omega) | (simp [*]; done), below_alloc (Below.refl _ _) _⟩
set_option maxHeartbeats 800000 in
theorem clos_calls (x : S48) (A : Option Addr) (c : Nat) (w : World) :
  Calls Try.prog 43 #[.agg #[.int .i64 x.f0, .slice A x.f1.length c]] w fun e w' => e = .returned (.bool (!entOk x)) ∧ Below w.heap.size w w' := by
 go_enter Try.func43, Try.ntmps43
 go_wp2_with (go_at_call 44; ((with_reducible refine (entry_calls x A c _).mono ?_); rintro e w1 ⟨rfl, hB⟩; have HB := Aside0.mk hB; clear hB))
 go_ret
 exact ⟨rfl, below_then (below_alloc (Below.refl _ _) _) (by simp) HB.out⟩

def idxP : List S48 → Nat → Int
 | [], _ => -1
 | x :: r, i => if entOk x = true then idxP r (i + 1) else i
theorem idxP_cons (x : S48) (r : List S48) (i : Nat) : idxP (x :: r) i = if entOk x = true then idxP r (i + 1) else (i : Int) := rfl
theorem idxP_iff : ∀ (l : List S48) (i : Nat), decide (idxP l i ≥ 0) = !l.all entOk
 | [], i => rfl
 | x :: r, i => by
  unfold idxP
  by_cases h : entOk x = true
  ·rw [if_pos h, idxP_iff r (i + 1), List.all_cons, h, Bool.true_and]
  ·rw [if_neg h, List.all_cons, Bool.eq_false_iff.mpr h]
   simp
set_option maxHeartbeats 1600000 in
theorem idx_calls (l : List S48) (A : Option Addr) (c : Nat) (w : World) (hr : Kd.C k48 w A l.length l) (hc : l.length ≤ c) :
  Calls Try.prog 49 #[.slice A l.length c, .func (.func 43) #[] #[]] w fun e w' => e = .returned (.int .i64 (idxP l 0)) ∧ Below w.heap.size w w' := by
 have hmax : l.length ≤ 9223372036854775807 := hr.2.1
 have HR := Aside0.mk hr
 clear hr
 go_enter Try.func49, Try.ntmps49
 go_wp2
 go_loopg [8] l.length (fun g v8 w' => ∃ (j : Nat), v8 = .int .i64 j ∧ g + j = l.length ∧ Aside0 (idxP l 0 = idxP (l.drop j) j) ∧ Aside0 (Below w.heap.size w w'))
 case atStart => exact ⟨0, rfl, rfl, ⟨rfl⟩, ⟨Below.refl _ _⟩⟩
 case round =>
  obtain ⟨j, rfl, hj, HI, HB⟩ := hrel
  by_cases hlt : j < l.length
  ·have hat := at_T48 (Kd.C_below HR.out HB.out) (j : Int) (by omega) (by omega)
   rw [Int.toNat_natCast] at hat
   obtain ⟨ad, A1, c1, rfl, h0, h1, hl1, _⟩ := hat
   have hid := HI.out
   rw [List.drop_eq_getElem_cons hlt, idxP_cons] at hid
   have hx : rd_T48 l (j : Int) = l[j] := by
    unfold rd_T48
    rw [Int.toNat_natCast, List.getD_eq_getElem?_getD, List.getElem?_eq_getElem hlt]; rfl
   rw [hx] at h0 h1 hl1
   obtain ⟨x, hxx⟩ : ∃ x, x = l[j] := ⟨_, rfl⟩
   rw [← hxx] at h0 h1 hl1 hid
   clear hx hxx
   by_cases hok : entOk x = true
   ·rw [if_pos hok] at hid
    have HID := Aside0.mk hid
    have hok2 : (!entOk x) = false := by rw [hok]; rfl
    have HOK := Aside0.mk hok2
    clear hid hok hok2
    go_wp2_with (go_at_call 43; ((with_reducible refine (clos_calls x A1 c1 _).mono ?_); rintro e w1 ⟨rfl, hB⟩; rw [HOK.out]; have HB1 := Aside0.mk hB; clear hB))
    go_roundg (gk - 1)
    case measure => omega
    case rel => exact ⟨j + 1, by go_num, by omega, HID, ⟨below_then HB.out HB.out.size HB1.out⟩⟩
   ·rw [if_neg hok] at hid
    have HID := Aside0.mk hid
    have hok2 : (!entOk x) = true := by rw [Bool.eq_false_iff.mpr hok]; rfl
    have HOK := Aside0.mk hok2
    clear hid hok hok2
    go_wp2_with (go_at_call 43; ((with_reducible refine (clos_calls x A1 c1 _).mono ?_); rintro e w1 ⟨rfl, hB⟩; rw [HOK.out]; have HB1 := Aside0.mk hB; clear hB))
    go_ret
    exact ⟨by rw [HID.out] <;> rfl, below_then HB.out HB.out.size HB1.out⟩
  ·have hid := HI.out
   rw [List.drop_of_length_le (by omega)] at hid
   have HID := Aside0.mk hid
   clear hid
   go_wp2
   go_ret
   exact ⟨by rw [HID.out] <;> rfl, HB.out⟩
set_option maxHeartbeats 800000 in
theorem has_calls (l : List S48) (A : Option Addr) (c : Nat) (w : World) (hr : Kd.C k48 w A l.length l) (hc : l.length ≤ c) :
  Calls Try.prog 42 #[.slice A l.length c, .func (.func 43) #[] #[]] w fun e w' => e = .returned (.bool (!l.all entOk)) ∧ Below w.heap.size w w' := by
 have HI := Aside0.mk (idxP_iff l 0)
 obtain ⟨i, hi⟩ : ∃ i, i = idxP l 0 := ⟨_, rfl⟩
 have HE := Aside0.mk hi
 rw [← hi] at HI
 clear hi
 go_enter Try.func42, Try.ntmps42
 go_wp2_with (go_at_call 49; ((with_reducible refine (idx_calls l A c _ hr hc).mono ?_); rintro e w1 ⟨rfl, hB⟩; rw [← HE.out]; have HB1 := Aside0.mk hB; clear hB))
 go_ret
 exact ⟨by rw [← HI.out]; first | rfl | (simp; done), HB1.out⟩

set_option maxHeartbeats 3200000 in
set_option maxRecDepth 100000 in
theorem pmsg_calls (m : S51) (A : Option Addr) (c : Nat) (B : Option Addr) (d : Nat) (w : World) (hr : Kd.C k48 w A m.f9.length m.f9) (hc : m.f9.length ≤ c) (hd : m.f10.length ≤ d) (hm : m.f10.length ≤ 9223372036854775807) :
  Calls Try.prog 29 #[.agg #[.int .i64 m.f0, .int .i64 m.f1, .int .i64 m.f2, .int .i64 m.f3, .int .i64 m.f4, .int .i64 m.f5, .int .i64 m.f6, .int .i64 m.f7, .bool m.f8, .slice A m.f9.length c, .slice B m.f10.length d]] w fun e w' => e = .returned (.bool (msgOk m)) ∧ Below w.heap.size w w' := by
 obtain ⟨a0, a1, a2, a3, a4, a5, a6, a7, a8, l9, l10⟩ := m
 dsimp only at hr hc hd hm ⊢
 have hm9 : l9.length ≤ 9223372036854775807 := hr.2.1
 have HR := Aside0.mk hr
 obtain ⟨r, hrr⟩ : ∃ r, r = msgOk ⟨a0, a1, a2, a3, a4, a5, a6, a7, a8, l9, l10⟩ := ⟨_, rfl⟩
 rw [← hrr]
 have HRR := Aside0.mk hrr
 clear hr hrr
 have FIN := Aside0.mk (show ∀ (b : Bool) (W : World), msgOk ⟨a0, a1, a2, a3, a4, a5, a6, a7, a8, l9, l10⟩ = b → Below w.heap.size w W → Ending.returned (.bool b) = .returned (.bool r) ∧ Below w.heap.size w W from fun b W h1 h2 => ⟨by rw [HRR.out, h1], h2⟩)
 have N := fun (x : Int) (h : x < 0 ∨ 1099511627776 < x) => show inI x = false by unfold inI; simp; omega
 have Y := fun (x : Int) (h : 0 ≤ x ∧ x ≤ 1099511627776) => show inI x = true by unfold inI; simp; omega
 have NN := Aside0.mk N
 have YY := Aside0.mk Y
 clear N Y
 go_enter Try.func29, Try.ntmps29
 go_wp2_with fail
 refine wp_loop_rounds 5 ?_
 rw [rounds_succ]
 go_wp2
 all_goals (first | (go_ret; exact FIN.out false _ (by have := NN.out a4 (by omega); simp [msgOk, this]) (below_alloc (below_alloc (Below.refl _ _) _) _)) | skip)
 have I4 := Aside0.mk (YY.out a4 (by omega))
 rw [rounds_succ]
 go_wp2
 all_goals (first | (go_ret; exact FIN.out false _ (by have := NN.out a5 (by omega); simp [msgOk, this]) (below_alloc (below_alloc (Below.refl _ _) _) _)) | skip)
 have I5 := Aside0.mk (YY.out a5 (by omega))
 rw [rounds_succ]
 go_wp2
 all_goals (first | (go_ret; exact FIN.out false _ (by have := NN.out a6 (by omega); simp [msgOk, this]) (below_alloc (below_alloc (Below.refl _ _) _) _)) | skip)
 have I6 := Aside0.mk (YY.out a6 (by omega))
 rw [rounds_succ]
 go_wp2
 all_goals (first | (go_ret; exact FIN.out false _ (by have := NN.out a7 (by omega); simp [msgOk, this]) (below_alloc (below_alloc (Below.refl _ _) _) _)) | skip)
 have I7 := Aside0.mk (YY.out a7 (by omega))
 rw [rounds_succ]
 go_wp2_with (go_at_call 42; ((with_reducible refine (has_calls l9 A c _ (Kd.C_below HR.out (below_alloc (below_alloc (Below.refl _ _) _) _)) hc).mono ?_); rintro e w1 ⟨rfl, hB⟩; have HB := Aside0.mk hB; clear hB))
 all_goals first
  | (go_ret; exact FIN.out false _ (by unfold msgOk; dsimp only; rw [show decide (1 ≤ a0 ∧ a0 ≤ 7) = false from decide_eq_false (by omega)]; simp) (below_alloc (below_alloc (Below.refl _ _) _) _))
  | (go_ret; exact FIN.out false _ (by unfold msgOk; dsimp only; rw [show decide (0 ≤ a1 ∧ a1 < 64) = false from decide_eq_false (by omega)]; simp) (below_alloc (below_alloc (Below.refl _ _) _) _))
  | (go_ret; exact FIN.out false _ (by unfold msgOk; dsimp only; rw [show decide (l9.length ≤ 8) = false from decide_eq_false (by omega)]; simp) (below_alloc (below_alloc (Below.refl _ _) _) _))
  | (go_ret; exact FIN.out false _ (by unfold msgOk; dsimp only; rw [show decide (l10.length ≤ 65536) = false from decide_eq_false (by omega)]; simp) (below_alloc (below_alloc (Below.refl _ _) _) _))
  | (go_ret; exact FIN.out (l9.all entOk) _ (by unfold msgOk; dsimp only; rw [I4.out, I5.out, I6.out, I7.out, show decide (1 ≤ a0 ∧ a0 ≤ 7) = true from decide_eq_true (by omega), show decide (0 ≤ a1 ∧ a1 < 64) = true from decide_eq_true (by omega), show decide (l9.length ≤ 8) = true from decide_eq_true (by omega), show decide (l10.length ≤ 65536) = true from decide_eq_true (by omega)]; simp) (below_then (below_alloc (below_alloc (Below.refl _ _) _) _) (by simp; omega) HB.out))
def packet_msg.f (a0_0 : Int) (a0_1 : Int) (a0_2 : Int) (a0_3 : Int) (a0_4 : Int) (a0_5 : Int) (a0_6 : Int) (a0_7 : Int) (a0_8 : Bool) (l0_9 : List (S48)) (l0_10 : List Int) : Option (Bool) := some (msgOk ⟨a0_0, a0_1, a0_2, a0_3, a0_4, a0_5, a0_6, a0_7, a0_8, l0_9, l0_10⟩)
theorem packet_msg.calls (a0_0 : Int) (a0_1 : Int) (a0_2 : Int) (a0_3 : Int) (a0_4 : Int) (a0_5 : Int) (a0_6 : Int) (a0_7 : Int) (a0_8 : Bool) (A0_9 : Option Addr) (c0_9 : Nat) (l0_9 : List (S48)) (A0_10 : Option Addr) (c0_10 : Nat) (l0_10 : List Int) (r : Bool) (w : World) (hr0_9 : Kd.C k48 w A0_9 l0_9.length l0_9) (hc0_9 : l0_9.length ≤ c0_9) (hr0_10 : Kd.C (Kd.int .u8) w A0_10 l0_10.length l0_10) (hc0_10 : l0_10.length ≤ c0_10) (h : packet_msg.f a0_0 a0_1 a0_2 a0_3 a0_4 a0_5 a0_6 a0_7 a0_8 l0_9 l0_10 = some r) :
  Calls Try.prog 29 #[.agg #[.int .i64 a0_0, .int .i64 a0_1, .int .i64 a0_2, .int .i64 a0_3, .int .i64 a0_4, .int .i64 a0_5, .int .i64 a0_6, .int .i64 a0_7, .bool a0_8, .slice A0_9 l0_9.length c0_9, .slice A0_10 l0_10.length c0_10]] w fun e w' => e = .returned (.bool r) ∧ Below w.heap.size w w' := by
 have c := pmsg_calls ⟨a0_0, a0_1, a0_2, a0_3, a0_4, a0_5, a0_6, a0_7, a0_8, l0_9, l0_10⟩ A0_9 c0_9 A0_10 c0_10 w hr0_9 hc0_9 hc0_10 hr0_10.2.1
 rw [Option.some.inj h] at c
 exact c

end Go.Proofs.Ytnmcahlpkebpjaa.XPacketPuts
