-- written by xprint (wip/tools): a program of this session that goes on from the kit's print
import Derived.Test.YtnmcahlpkebpjaaXPacketPutsx0
import Derived.Test.YtnmcahlpkebpjaaXPacketPutsx2
import Derived.Test.YtnmcahlpkebpjaaXPacketPutsx3
namespace Go.Proofs.Ytnmcahlpkebpjaa.XPacketPuts
open Go.Proofs.YtnmcahlpkebpjaaX
open Go.RowKit Go.Proofs.YtnmcahlpkebpjaaW.PrintWords Go.Proofs.YtnmcahlpkebpjaaW.PrintLast Go.Proofs.YtnmcahlpkebpjaaW.PrintMore
attribute [local go_sem] max2_int min2_int max_two min_two max_three min_three max_four min_four   -- for this text's walks alone
set_option linter.unusedVariables false
set_option linter.unusedSimpArgs false

/-! ### packet_Put: function 10 -/
mutual
def packet_Put.l0 : Nat → List Int → List (S51) → Int → Int → Option (List Int × Int)
 | 0, _, _, _, _ => none
 | k + 1, x5, x26, x27, x28 => if x28 < x27 then (if 0 ≤ x28 then (if x28 < (x26.length : Int) then ((packet_yes.f ((rd_T51 x26 x28).f8)).bind fun t147 => ((packet_numbers.f k x5 (([(rd_T51 x26 x28).f0, (rd_T51 x26 x28).f1, (rd_T51 x26 x28).f4, (rd_T51 x26 x28).f5, (rd_T51 x26 x28).f6, (rd_T51 x26 x28).f7, t147, (((rd_T51 x26 x28).f9).length : Int)] : List Int))).bind fun t151 => (packet_Put.l1 k t151 x26 x27 x28 ((rd_T51 x26 x28).f9) (((rd_T51 x26 x28).f9).length : Int) 0 ((rd_T51 x26 x28).f0) ((rd_T51 x26 x28).f1) ((rd_T51 x26 x28).f2) ((rd_T51 x26 x28).f3) ((rd_T51 x26 x28).f4) ((rd_T51 x26 x28).f5) ((rd_T51 x26 x28).f6) ((rd_T51 x26 x28).f7) ((rd_T51 x26 x28).f8) ((rd_T51 x26 x28).f9) ((rd_T51 x26 x28).f10)))) else (none)) else (none)) else ((crc_Sum.f k x5).bind fun t138 => ((some (([(t138) % 256, (t138 / 256) % 256, (t138 / 65536) % 256, (t138 / 16777216) % 256] : List Int) : List Int)).bind fun y139 => (if x5.length + y139.length < 140737488355328 then (some ((x5 ++ y139), 0)) else (none))))
def packet_Put.l1 : Nat → List Int → List (S51) → Int → Int → List (S48) → Int → Int → Int → Int → Int → Int → Int → Int → Int → Int → Bool → List (S48) → List Int → Option (List Int × Int)
 | 0, _, _, _, _, _, _, _, _, _, _, _, _, _, _, _, _, _, _ => none
 | k + 1, x5, x26, x27, x28, x54, x55, x56, x147000, x147001, x147002, x147003, x147004, x147005, x147006, x147007, x147008, x147009, x147010 => if x56 < x55 then (if 0 ≤ x56 then (if x56 < (x54.length : Int) then ((packet_numbers.f k x5 (([(rd_T48 x54 x56).f0] : List Int))).bind fun t159 => ((pack_Bytes.f k t159 ((rd_T48 x54 x56).f1)).bind fun t162 => (packet_Put.l1 k t162 x26 x27 x28 x54 x55 (wrap64 (x56 + 1)) x147000 x147001 x147002 x147003 x147004 x147005 x147006 x147007 x147008 x147009 x147010))) else (none)) else (none)) else ((pack_Bytes.f k x5 x147010).bind fun t165 => (packet_Put.l0 k t165 x26 x27 (wrap64 (x28 + 1))))
end
def packet_Put.f (k : Nat) (a0_0 : Int) (a0_1 : Int) (l0_2 : List (S51)) : Option (List Int × Int) := (packet_Check.f k a0_0 a0_1 l0_2).bind fun t131 => (if t131 = 0 then ((packet_numbers.f k ([] : List Int) (([a0_0, a0_1, (l0_2.length : Int)] : List Int))).bind fun t135 => (packet_Put.l0 k t135 l0_2 (l0_2.length : Int) 0)) else (some (([] : List Int), t131)))
theorem packet_Put.mono_l : ∀ k, (∀ y0 y1 y2 y3, LeO (packet_Put.l0 k y0 y1 y2 y3) (packet_Put.l0 (k + 1) y0 y1 y2 y3)) ∧ (∀ y0 y1 y2 y3 y4 y5 y6 y7 y8 y9 y10 y11 y12 y13 y14 y15 y16 y17, LeO (packet_Put.l1 k y0 y1 y2 y3 y4 y5 y6 y7 y8 y9 y10 y11 y12 y13 y14 y15 y16 y17) (packet_Put.l1 (k + 1) y0 y1 y2 y3 y4 y5 y6 y7 y8 y9 y10 y11 y12 y13 y14 y15 y16 y17))
 | 0 => ⟨fun _ _ _ _ r h => by simp [packet_Put.l0] at h, fun _ _ _ _ _ _ _ _ _ _ _ _ _ _ _ _ _ _ r h => by simp [packet_Put.l1] at h⟩
 | k + 1 => by
  obtain ⟨ih0, ih1⟩ := packet_Put.mono_l k
  refine ⟨?_, ?_⟩
  ·intro y0 y1 y2 y3
   unfold packet_Put.l0
   repeat' first
   | (with_reducible exact ih0 _ _ _ _)
   | (with_reducible exact ih1 _ _ _ _ _ _ _ _ _ _ _ _ _ _ _ _ _ _)
   | (with_reducible exact crc_Sum.mono _ _)
   | (with_reducible exact pack_Bytes.mono _ _ _)
   | (with_reducible exact packet_Check.mono _ _ _ _)
   | (with_reducible exact packet_numbers.mono _ _ _)
   | (with_reducible exact LeO.refl _)
   | (with_reducible exact LeO.none _)
   | (with_reducible refine LeO.ite ?_ ?_)
   | (with_reducible refine LeO.bind ?_ (fun _ => ?_))
   | exact ih0 _ _ _ _
   | exact ih1 _ _ _ _ _ _ _ _ _ _ _ _ _ _ _ _ _ _
   | exact crc_Sum.mono _ _
   | exact pack_Bytes.mono _ _ _
   | exact packet_Check.mono _ _ _ _
   | exact packet_numbers.mono _ _ _
   | exact LeO.none _
   | refine LeO.ite ?_ ?_
   | refine LeO.bind ?_ (fun _ => ?_)
  ·intro y0 y1 y2 y3 y4 y5 y6 y7 y8 y9 y10 y11 y12 y13 y14 y15 y16 y17
   unfold packet_Put.l1
   repeat' first
   | (with_reducible exact ih0 _ _ _ _)
   | (with_reducible exact ih1 _ _ _ _ _ _ _ _ _ _ _ _ _ _ _ _ _ _)
   | (with_reducible exact crc_Sum.mono _ _)
   | (with_reducible exact pack_Bytes.mono _ _ _)
   | (with_reducible exact packet_Check.mono _ _ _ _)
   | (with_reducible exact packet_numbers.mono _ _ _)
   | (with_reducible exact LeO.refl _)
   | (with_reducible exact LeO.none _)
   | (with_reducible refine LeO.ite ?_ ?_)
   | (with_reducible refine LeO.bind ?_ (fun _ => ?_))
   | exact ih0 _ _ _ _
   | exact ih1 _ _ _ _ _ _ _ _ _ _ _ _ _ _ _ _ _ _
   | exact crc_Sum.mono _ _
   | exact pack_Bytes.mono _ _ _
   | exact packet_Check.mono _ _ _ _
   | exact packet_numbers.mono _ _ _
   | exact LeO.none _
   | refine LeO.ite ?_ ?_
   | refine LeO.bind ?_ (fun _ => ?_)
theorem packet_Put.mono : ∀ a0 a1 a2 k, LeO (packet_Put.f k a0 a1 a2) (packet_Put.f (k + 1) a0 a1 a2) := by
 intro a0 a1 a2 k
 obtain ⟨ih0, ih1⟩ := packet_Put.mono_l k
 unfold packet_Put.f
 repeat' first
   | (with_reducible exact ih0 _ _ _ _)
   | (with_reducible exact ih1 _ _ _ _ _ _ _ _ _ _ _ _ _ _ _ _ _ _)
   | (with_reducible exact crc_Sum.mono _ _)
   | (with_reducible exact pack_Bytes.mono _ _ _)
   | (with_reducible exact packet_Check.mono _ _ _ _)
   | (with_reducible exact packet_numbers.mono _ _ _)
   | (with_reducible exact LeO.refl _)
   | (with_reducible exact LeO.none _)
   | (with_reducible refine LeO.ite ?_ ?_)
   | (with_reducible refine LeO.bind ?_ (fun _ => ?_))
   | exact ih0 _ _ _ _
   | exact ih1 _ _ _ _ _ _ _ _ _ _ _ _ _ _ _ _ _ _
   | exact crc_Sum.mono _ _
   | exact pack_Bytes.mono _ _ _
   | exact packet_Check.mono _ _ _ _
   | exact packet_numbers.mono _ _ _
   | exact LeO.none _
   | refine LeO.ite ?_ ?_
   | refine LeO.bind ?_ (fun _ => ?_)
def packet_Put.T8 : Bool × List (List Nat × List Nat) := (true, [([], []), ([], []), ([1], [1]), ([], []), ([3], [3]), ([], []), ([5], [5]), ([], []), ([7], [7]), ([], []), ([9], [9]), ([], []), ([11], [11]), ([], []), ([13], [13]), ([14], [14]), ([], []), ([16], [16]), ([17], [17]), ([2, 4, 6, 8, 10, 12, 15, 18], [2, 4, 6, 8, 10, 12, 15, 18]), ([0, 19, 15], [0, 19]), ([20, 20, 0, 1, 2, 3, 4, 5, 6, 7, 8, 9, 10, 11, 12, 13, 14, 15, 16, 17, 18, 19, 20], [0, 20])])
def packet_Put.B8 : List Nat := [0, 0, 2, 0, 8, 0, 32, 0, 128, 0, 512, 0, 2048, 0, 8192, 24576, 0, 65536, 196608, 524286, 1048575, 2097151]
theorem packet_Put.tab8 : rtab .any (opsOf Try.f10 8) = packet_Put.T8 := by kernel_rfl
theorem packet_Put.bits8 : waitsOk packet_Put.T8.2 packet_Put.B8 = true := by kernel_rfl
def packet_Put.T12 : Bool × List (List Nat × List Nat) := (true, [([], []), ([], []), ([1], [1]), ([2], [2]), ([0, 3], [0, 3]), ([], []), ([5], [5]), ([4, 6, 4], [4, 6]), ([7, 7, 0, 1, 2, 3, 4, 5, 6, 7], [0, 7])])
def packet_Put.B12 : List Nat := [0, 0, 2, 6, 15, 0, 32, 127, 255]
theorem packet_Put.tab12 : rtab .any (opsOf Try.f10 12) = packet_Put.T12 := by kernel_rfl
theorem packet_Put.bits12 : waitsOk packet_Put.T12.2 packet_Put.B12 = true := by kernel_rfl
set_option maxHeartbeats 8000000 in
set_option maxRecDepth 100000 in
theorem packet_Put.calls (k : Nat) (a0_0 : Int) (a0_1 : Int) (A0_2 : Option Addr) (c0_2 : Nat) (l0_2 : List (S51)) (r1 : List Int) (r2 : Int) (w : World) (hr0_2 : Kd.C k51 w A0_2 l0_2.length l0_2) (hc0_2 : l0_2.length ≤ c0_2) (h : packet_Put.f k a0_0 a0_1 l0_2 = some (r1, r2)) :
  Calls Try.prog 10 #[.agg #[.int .i64 a0_0, .int .i64 a0_1, .slice A0_2 l0_2.length c0_2]] w fun e w' => ∃ v0_ : Value, e = .returned (.tuple #[v0_, .int .i64 r2]) ∧ Kd.R (Kd.int .u8) 5 w' w.heap.size (fun _ => True) v0_ r1 ∧ Below w.heap.size w w' := by
 have hu24 := Try.underlying24
 have hu51 := Try.underlying51
 have hu48 := Try.underlying48
 have HR0_2 := Aside0.mk hr0_2
 have HC0_2 := Aside0.mk hc0_2
 clear hr0_2 hc0_2
 have HB := Aside0.mk (Below.refl w.heap.size w)
 have H : ((packet_Check.f k a0_0 a0_1 l0_2).bind fun t131 => (if t131 = 0 then ((packet_numbers.f k ([] : List Int) (([a0_0, a0_1, (l0_2.length : Int)] : List Int))).bind fun t135 => (packet_Put.l0 k t135 l0_2 (l0_2.length : Int) 0)) else (some (([] : List Int), t131)))) = some (r1, r2) := h
 clear h
 replace H := Option.bind_eq_some_iff.mp H
 obtain ⟨t131, A20, H⟩ := H
 replace H : (if t131 = 0 then ((packet_numbers.f k ([] : List Int) (([a0_0, a0_1, (l0_2.length : Int)] : List Int))).bind fun t135 => (packet_Put.l0 k t135 l0_2 (l0_2.length : Int) 0)) else (some (([] : List Int), t131))) = some (r1, r2) := H
 have A2 := Aside0.mk A20
 clear A20
 by_cases c3 : t131 = 0
 ·rw [if_pos c3] at H
  have c3b0 : (t131 == 0) = true := beq_iff_eq.mpr c3
  have c3b1 : (t131 != 0) = false := bne_eq_false_iff_eq.mpr c3
  clear c3
  obtain ⟨y132, hy132⟩ : ∃ y_ : List Int, y_ = (([a0_0, a0_1, (l0_2.length : Int)] : List Int)) := ⟨_, rfl⟩
  replace H : ((packet_numbers.f k ([] : List Int) y132).bind fun t135 => (packet_Put.l0 k t135 l0_2 (l0_2.length : Int) 0)) = some (r1, r2) := by first | (rw [hy132]; with_reducible exact H) | (have H2_ := (Option.bind_some _ _).symm.trans H; rw [hy132]; with_reducible exact H2_) | (have H2_ := (Option.bind_some _ _).symm.trans H; with_reducible exact H2_) | with_reducible exact H | (rw [hy132]; exact H) | exact H
  have Ny132 := Aside0.mk hy132
  clear hy132
  replace H := Option.bind_eq_some_iff.mp H
  obtain ⟨t135, A40, H⟩ := H
  replace H : (packet_Put.l0 k t135 l0_2 (l0_2.length : Int) 0) = some (r1, r2) := H
  have A4 := Aside0.mk A40
  clear A40
  have H' := Aside0.mk H
  clear H
  go_enter Try.func10, Try.ntmps10
  go_wp2_with (first | ((with_reducible refine gate_dst (N := 1) rfl ?_); refine box_event ?hg (N := 1) ?hd (cs := #[.int .i64 a0_0, .int .i64 a0_1, .slice A0_2 l0_2.length c0_2]) (t := 24) ?hr ?_; (case hd => rfl); (case hg => rfl); (case hr => first | (go_simp; done) | (go_simp; rfl)); intro gb130 hg w5 hbox hb; have n0_ := Aside0.mk (below_step (by repeat (first | (with_reducible first | exact HB.out | apply below_alloc | apply pw_below_drewN | apply below_drew1) | exact HB.out)) hb); have n1_ := Aside0.mk (hbox); have n2_ := Aside0.mk ((by rw [hg]; exact (below_size (by repeat (first | (with_reducible first | exact HB.out | apply below_alloc | apply pw_below_drewN | apply below_drew1) | exact HB.out))) : w.heap.size ≤ gb130)); have n3_ := Aside0.mk ((by rw [hg]; exact (below_size (by repeat (first | (with_reducible first | exact HB.out | apply below_alloc | apply pw_below_drewN | apply below_drew1) | exact HB.out))) : w.heap.size ≤ gb130)); clear HB; have HB := n0_; have BK130 := n1_; have GW130 := n2_; have GE130 := n3_; clear n0_ n1_ n2_ n3_; clear hb hbox hg; have hcz6_0 : w5.cell? ⟨gb130, 0, none⟩ = some (.int .i64 a0_0) := (blk_cell BK130.out 0).trans rfl; have hcz6_1 : w5.cell? ⟨gb130, 1, none⟩ = some (.int .i64 a0_1) := (blk_cell BK130.out 1).trans rfl; have hcz6_2 : w5.cell? ⟨gb130, 2, none⟩ = some (.slice A0_2 l0_2.length c0_2) := (blk_cell BK130.out 2).trans rfl; have hfz6_0 := blk_frozen BK130.out 0; have hfz6_1 := blk_frozen BK130.out 1; have hfz6_2 := blk_frozen BK130.out 2) | ((with_reducible refine gate_callee (f := 13) rfl ?_); refine goesL_ (some 12) rfl rfl Try.func13 (by kernel_rfl) rfl #[.agg #[.int .i64 a0_0, .int .i64 a0_1, .slice A0_2 l0_2.length c0_2]] rfl (by (try simp only [List.map_toArray, List.map_cons, List.map_nil]); first | done | rfl | (simp only [List.length_drop, List.length_take]; rfl)) ?_; (with_reducible refine (packet_Check.calls k a0_0 a0_1 _ _ l0_2 t131 _ ?side1 ?side2 A2.out).mono ?_); (case side1 => repeat (first | exact (Kd.C_below HR0_2.out HB.out) | (with_reducible refine Kd.C_alloc ?_ _) | (with_reducible refine Kd.C_drewN ?_ _) | (with_reducible refine Kd.C_drew ?_))); (case side2 => exact HC0_2.out); rintro e w7 ⟨rfl, hb⟩; refine ⟨_, rfl, ?_⟩; have n0_ := Aside0.mk (blk_below (g := gb130) (o := .cells #[.int .i64 a0_0, .int .i64 a0_1, .slice A0_2 l0_2.length c0_2] 24 (0, 0)) (by (with_reducible repeat (first | refine blk_drewN ?_ _ | refine blk_drew ?_ | refine blk_alloc ?_ _)); exact BK130.out) hb); have n1_ := Aside0.mk (below_step (by repeat (first | (with_reducible first | exact HB.out | apply below_alloc | apply pw_below_drewN | apply below_drew1 | refine below_set ?_ GE130.out) | exact HB.out)) hb); clear BK130; clear HB; have BK130 := n0_; have HB := n1_; clear n0_ n1_; (try clear hb); (try clear hb2); (try clear hk); (try clear hi); have hcz8_0 : w7.cell? ⟨gb130, 0, none⟩ = some (.int .i64 a0_0) := (blk_cell BK130.out 0).trans rfl; have hcz8_1 : w7.cell? ⟨gb130, 1, none⟩ = some (.int .i64 a0_1) := (blk_cell BK130.out 1).trans rfl; have hcz8_2 : w7.cell? ⟨gb130, 2, none⟩ = some (.slice A0_2 l0_2.length c0_2) := (blk_cell BK130.out 2).trans rfl; have hfz8_0 := blk_frozen BK130.out 0; have hfz8_1 := blk_frozen BK130.out 1; have hfz8_2 := blk_frozen BK130.out 2) | ((with_reducible refine gate_dst (N := 23) rfl ?_); refine Kd.R_lit (Kd.int .i64) _ 3 ?hg (N := 23) ?hd (xs := ([a0_0, a0_1, (l0_2.length : Int)] : List Int)) (inner := [.int .i64 a0_0, .int .i64 a0_1, .int .i64 (l0_2.length : Int)]) (ok := fun _ => True) (okp := fun _ => True) ?hr ?hp (fun _ hk => hk) trivial (Below.refl _ _) (Nat.le_refl _) (by simp) ?_; (case hd => rfl); (case hg => rfl); (case hr => first | (go_simp; done) | (go_simp; rfl)); (case hp => exact (Reps.one (show Kd.M (Kd.int .i64) _ _ _ a0_0 [.int .i64 a0_0] from rfl) (Reps.one (show Kd.M (Kd.int .i64) _ _ _ a0_1 [.int .i64 a0_1] from rfl) (Reps.one (show Kd.M (Kd.int .i64) _ _ _ (l0_2.length : Int) [.int .i64 (l0_2.length : Int)] from rfl) (Reps.none _ _))))); intro v133 w9 ho10 hb hg_ hnew_; clear hg_ hnew_; (first | rw [← Ny132.out] at ho10 | (simp only [Int.reduceToNat] at ho10; rw [← Ny132.out] at ho10)); have n0_ := Aside0.mk (Kd.R_lower ho10 (below_size (by repeat (first | (with_reducible first | exact HB.out | apply below_alloc | apply pw_below_drewN | apply below_drew1 | refine below_set ?_ GE130.out) | exact HB.out)))); have n1_ := Aside0.mk (blk_below (g := gb130) (o := .cells #[.int .i64 a0_0, .int .i64 a0_1, .slice A0_2 l0_2.length c0_2] 24 (0, 0)) (by (with_reducible repeat (first | refine blk_drewN ?_ _ | refine blk_drew ?_ | refine blk_alloc ?_ _)); exact BK130.out) hb); have n2_ := Aside0.mk (below_step (by repeat (first | (with_reducible first | exact HB.out | apply below_alloc | apply pw_below_drewN | apply below_drew1 | refine below_set ?_ GE130.out) | exact HB.out)) hb); clear BK130; clear HB; have HO134 := n0_; have BK130 := n1_; have HB := n2_; clear n0_ n1_ n2_; clear hb ho10; obtain ⟨Ao11, co11, eo11⟩ := Kd.R_slice HO134.out; subst eo11) | ((with_reducible refine gate_callee (f := 22) rfl ?_); refine goesL_ (some 24) rfl rfl Try.func22 (by kernel_rfl) rfl #[.slice none 0 0, .slice Ao11 y132.length co11] rfl (by (try simp only [List.map_toArray, List.map_cons, List.map_nil]); first | done | rfl | (simp only [List.length_drop, List.length_take]; rfl)) ?_; (refine (packet_numbers.calls k (fun k_ => some k_ = (.slice none 0 0 : Value).ownBlock) (.slice none 0 0) ([] : List Int) _ _ y132 t135 w _ ?side1 ?side2 ?side3 ?side4 A4.out).mono ?_); (case side1 => repeat (first | (with_reducible first | exact HB.out | apply below_alloc | apply pw_below_drewN | apply below_drew1 | refine below_set ?_ GE130.out) | exact HB.out)); (case side2 => exact Kd.R_nil _ _ _ _ _); (case side3 => exact Kd.C_kept_own (HO134.out) (fun k_ hk_ hs_ => (fun e_ => by simp [Value.ownBlock] at e_) hs_)); (case side4 => exact (Kd.R_reads' HO134.out).2.1); rintro e w12 ⟨v136, rfl, ho0, hb, hkp⟩; refine ⟨_, rfl, ?_⟩; have n0_ := Aside0.mk (blk_kept (by (with_reducible repeat (first | refine blk_drewN ?_ _ | refine blk_drew ?_ | refine blk_alloc ?_ _)); exact BK130.out) hkp (fun hs_ => (fun e_ => by simp [Value.ownBlock] at e_) hs_)); have n1_ := Aside0.mk (Kd.R_mono (ok' := fun k_ => True) (Kd.R_keptB (HO134.out) hkp (fun k_ hk_ hs_ => (fun e_ => by simp [Value.ownBlock] at e_) hs_)) (fun k_ hk_ => trivial)); have n2_ := Aside0.mk (Kd.R_mono (ok' := fun k_ => True) ho0 (fun k_ hk_ => trivial)); have n3_ := Aside0.mk (hb); clear BK130; clear HO134; clear HB; have BK130 := n0_; have HO134 := n1_; have HO137 := n2_; have HB := n3_; clear n0_ n1_ n2_ n3_; (try clear hb); (try clear hkp); (try clear ho0); have hcz13_0 : w12.cell? ⟨gb130, 0, none⟩ = some (.int .i64 a0_0) := (blk_cell BK130.out 0).trans rfl; have hcz13_1 : w12.cell? ⟨gb130, 1, none⟩ = some (.int .i64 a0_1) := (blk_cell BK130.out 1).trans rfl; have hcz13_2 : w12.cell? ⟨gb130, 2, none⟩ = some (.slice A0_2 l0_2.length c0_2) := (blk_cell BK130.out 2).trans rfl; have hfz13_0 := blk_frozen BK130.out 0; have hfz13_1 := blk_frozen BK130.out 1; have hfz13_2 := blk_frozen BK130.out 2))
  go_loopg [5, 28] k (fun kq v5 v28 w' => ∃ (x5_1 : List Int) (x28_1 : Int), v28 = .int .i64 x28_1 ∧ Aside0 (packet_Put.l0 kq x5_1 l0_2 (l0_2.length : Int) x28_1 = some (r1, r2)) ∧ Aside0 (kq ≤ k) ∧ Aside0 (Kd.R (Kd.int .u8) 5 w' w.heap.size (fun _ => True) v5 x5_1) ∧ Aside0 (w'.heap[gb130]? = some (.cells #[.int .i64 a0_0, .int .i64 a0_1, (.slice A0_2 l0_2.length c0_2)] 24 (0, 0))) ∧ Aside0 (Below w.heap.size w w'))
  case atStart => exact ⟨(t135), (0), (by first | rfl | (simp; done) | (simp [*]; done)), H', ⟨Nat.le_refl _⟩, ⟨by (with_reducible repeat (first | apply Kd.R_alloc | apply Kd.R_drewN | apply Kd.R_drew)); exact HO137.out⟩, ⟨by (with_reducible repeat (first | refine blk_drewN ?_ _ | refine blk_drew ?_ | refine blk_alloc ?_ _)); exact BK130.out⟩, ⟨by repeat (first | (with_reducible first | exact HB.out | apply below_alloc | apply pw_below_drewN | apply below_drew1 | refine below_set ?_ GE130.out) | exact HB.out)⟩⟩
  case round =>
   clear H'
   try clear c1
   try clear c2
   try clear p2
   try clear c3
   try clear c3b0
   try clear c3b1
   try clear c10
   try clear c13
   try clear hcz13_0
   try clear hcz13_1
   try clear hcz13_2
   try clear hcz6_0
   try clear hcz6_1
   try clear hcz6_2
   try clear hcz8_0
   try clear hcz8_1
   try clear hcz8_2
   try clear hfz13_0
   try clear hfz13_1
   try clear hfz13_2
   try clear hfz6_0
   try clear hfz6_1
   try clear hfz6_2
   try clear hfz8_0
   try clear hfz8_1
   try clear hfz8_2
   obtain ⟨x5_1, x28_1, rfl, HA, HK1, HO_5, BK130, HB⟩ := hrel
   cases gk with
   | zero => exact absurd HA.out (by simp [packet_Put.l0])
   | succ k1 =>
    have H := HA.out
    clear HA
    simp only [packet_Put.l0] at H
    by_cases c14 : x28_1 < (l0_2.length : Int)
    ·rw [if_pos c14] at H
     have c14b0 : decide (x28_1 < (l0_2.length : Int)) = true := decide_eq_true c14
     clear c14
     by_cases c15 : 0 ≤ x28_1
     ·rw [if_pos c15] at H
      have c15b0 : decide (0 ≤ x28_1) = true := decide_eq_true c15
      clear c15
      by_cases c16 : x28_1 < (l0_2.length : Int)
      ·rw [if_pos c16] at H
       have c16b0 : decide (x28_1 < (l0_2.length : Int)) = true := decide_eq_true c16
       clear c16
       replace H := Option.bind_eq_some_iff.mp H
       obtain ⟨t147, A170, H⟩ := H
       replace H : ((packet_numbers.f k1 x5_1 (([(rd_T51 l0_2 x28_1).f0, (rd_T51 l0_2 x28_1).f1, (rd_T51 l0_2 x28_1).f4, (rd_T51 l0_2 x28_1).f5, (rd_T51 l0_2 x28_1).f6, (rd_T51 l0_2 x28_1).f7, t147, (((rd_T51 l0_2 x28_1).f9).length : Int)] : List Int))).bind fun t151 => (packet_Put.l1 k1 t151 l0_2 (l0_2.length : Int) x28_1 ((rd_T51 l0_2 x28_1).f9) (((rd_T51 l0_2 x28_1).f9).length : Int) 0 ((rd_T51 l0_2 x28_1).f0) ((rd_T51 l0_2 x28_1).f1) ((rd_T51 l0_2 x28_1).f2) ((rd_T51 l0_2 x28_1).f3) ((rd_T51 l0_2 x28_1).f4) ((rd_T51 l0_2 x28_1).f5) ((rd_T51 l0_2 x28_1).f6) ((rd_T51 l0_2 x28_1).f7) ((rd_T51 l0_2 x28_1).f8) ((rd_T51 l0_2 x28_1).f9) ((rd_T51 l0_2 x28_1).f10))) = some (r1, r2) := H
       have A17 := Aside0.mk A170
       clear A170
       obtain ⟨y148, hy148⟩ : ∃ y_ : List Int, y_ = (([(rd_T51 l0_2 x28_1).f0, (rd_T51 l0_2 x28_1).f1, (rd_T51 l0_2 x28_1).f4, (rd_T51 l0_2 x28_1).f5, (rd_T51 l0_2 x28_1).f6, (rd_T51 l0_2 x28_1).f7, t147, (((rd_T51 l0_2 x28_1).f9).length : Int)] : List Int)) := ⟨_, rfl⟩
       replace H : ((packet_numbers.f k1 x5_1 y148).bind fun t151 => (packet_Put.l1 k1 t151 l0_2 (l0_2.length : Int) x28_1 ((rd_T51 l0_2 x28_1).f9) (((rd_T51 l0_2 x28_1).f9).length : Int) 0 ((rd_T51 l0_2 x28_1).f0) ((rd_T51 l0_2 x28_1).f1) ((rd_T51 l0_2 x28_1).f2) ((rd_T51 l0_2 x28_1).f3) ((rd_T51 l0_2 x28_1).f4) ((rd_T51 l0_2 x28_1).f5) ((rd_T51 l0_2 x28_1).f6) ((rd_T51 l0_2 x28_1).f7) ((rd_T51 l0_2 x28_1).f8) ((rd_T51 l0_2 x28_1).f9) ((rd_T51 l0_2 x28_1).f10))) = some (r1, r2) := by first | (rw [hy148]; with_reducible exact H) | (have H2_ := (Option.bind_some _ _).symm.trans H; rw [hy148]; with_reducible exact H2_) | (have H2_ := (Option.bind_some _ _).symm.trans H; with_reducible exact H2_) | with_reducible exact H | (rw [hy148]; exact H) | exact H
       have Ny148 := Aside0.mk hy148
       clear hy148
       replace H := Option.bind_eq_some_iff.mp H
       obtain ⟨t151, A180, H⟩ := H
       replace H : (packet_Put.l1 k1 t151 l0_2 (l0_2.length : Int) x28_1 ((rd_T51 l0_2 x28_1).f9) (((rd_T51 l0_2 x28_1).f9).length : Int) 0 ((rd_T51 l0_2 x28_1).f0) ((rd_T51 l0_2 x28_1).f1) ((rd_T51 l0_2 x28_1).f2) ((rd_T51 l0_2 x28_1).f3) ((rd_T51 l0_2 x28_1).f4) ((rd_T51 l0_2 x28_1).f5) ((rd_T51 l0_2 x28_1).f6) ((rd_T51 l0_2 x28_1).f7) ((rd_T51 l0_2 x28_1).f8) ((rd_T51 l0_2 x28_1).f9) ((rd_T51 l0_2 x28_1).f10)) = some (r1, r2) := H
       have A18 := Aside0.mk A180
       clear A180
       have H' := Aside0.mk H
       clear H
       have p145 : 0 ≤ (x28_1 : Int) := of_decide_eq_true (by first | (with_reducible assumption) | assumption)
       have q145 : x28_1 < (l0_2.length : Int) := of_decide_eq_true (by first | (with_reducible assumption) | assumption)
       obtain ⟨ad145, A145_9, c145_9, A145_10, c145_10, e145, hx145_0, hx145_1, hx145_2, hx145_3, hx145_4, hx145_5, hx145_6, hx145_7, hx145_8, hx145_9, hx145_10, hl145_9, hi145_9, hl145_10, hi145_10⟩ := at_T51 HR0_2.out x28_1 p145 q145
       cases e145
       replace hx145_0 := (HB.out.cell (World.block_lt_of_cell? w _ hx145_0)).trans hx145_0
       replace hx145_1 := (HB.out.cell (World.block_lt_of_cell? w _ hx145_1)).trans hx145_1
       replace hx145_2 := (HB.out.cell (World.block_lt_of_cell? w _ hx145_2)).trans hx145_2
       replace hx145_3 := (HB.out.cell (World.block_lt_of_cell? w _ hx145_3)).trans hx145_3
       replace hx145_4 := (HB.out.cell (World.block_lt_of_cell? w _ hx145_4)).trans hx145_4
       replace hx145_5 := (HB.out.cell (World.block_lt_of_cell? w _ hx145_5)).trans hx145_5
       replace hx145_6 := (HB.out.cell (World.block_lt_of_cell? w _ hx145_6)).trans hx145_6
       replace hx145_7 := (HB.out.cell (World.block_lt_of_cell? w _ hx145_7)).trans hx145_7
       replace hx145_8 := (HB.out.cell (World.block_lt_of_cell? w _ hx145_8)).trans hx145_8
       replace hx145_9 := (HB.out.cell (World.block_lt_of_cell? w _ hx145_9)).trans hx145_9
       replace hx145_10 := (HB.out.cell (World.block_lt_of_cell? w _ hx145_10)).trans hx145_10
       have HR145_9 := Aside0.mk hi145_9
       have HC145_9 := Aside0.mk hl145_9
       clear hi145_9 hl145_9
       have HR145_10 := Aside0.mk hi145_10
       have HC145_10 := Aside0.mk hl145_10
       clear hi145_10 hl145_10
       replace p145 := eq_true p145
       replace q145 := eq_true q145
       try go_wp2_with (first | ((with_reducible refine gate_dst (N := 7) rfl ?_); refine box_event ?hg (N := 7) ?hd (cs := #[.int .i64 0, .int .i64 0, .int .i64 0, .int .i64 0, .int .i64 0, .int .i64 0, .int .i64 0, .int .i64 0, .bool false, .slice none 0 0, .slice none 0 0]) (t := 51) ?hr ?_; (case hd => rfl); (case hg => rfl); (case hr => first | (go_simp; done) | (go_simp; rfl)); intro gb146 hg w19 hbox hb; have n0_ := Aside0.mk (Kd.R_below (by (with_reducible repeat (first | apply Kd.R_alloc | apply Kd.R_drewN | apply Kd.R_drew)); exact HO_5.out) hb); have n1_ := Aside0.mk (blk_below (g := gb130) (o := .cells #[.int .i64 a0_0, .int .i64 a0_1, .slice (some ad145) l0_2.length c0_2] 24 (0, 0)) (by (with_reducible repeat (first | refine blk_drewN ?_ _ | refine blk_drew ?_ | refine blk_alloc ?_ _)); exact BK130.out) hb); have n2_ := Aside0.mk (below_step (by repeat (first | (with_reducible first | exact HB.out | apply below_alloc | apply pw_below_drewN | apply below_drew1 | refine below_set ?_ GE130.out) | exact HB.out)) hb); have n3_ := Aside0.mk (hbox); have n4_ := Aside0.mk ((by rw [hg]; exact (below_size (by repeat (first | (with_reducible first | exact HB.out | apply below_alloc | apply pw_below_drewN | apply below_drew1 | refine below_set ?_ GE130.out) | exact HB.out))) : w.heap.size ≤ gb146)); have n5_ := Aside0.mk ((by rw [hg]; exact (below_size (by repeat (first | (with_reducible first | exact HB.out | apply below_alloc | apply pw_below_drewN | apply below_drew1 | refine below_set ?_ GE130.out) | exact HB.out))) : w.heap.size ≤ gb146)); have n6_ := Aside0.mk ((by rw [hg]; exact Nat.ne_of_lt (blk_lt (g := gb130) (o := .cells #[.int .i64 a0_0, .int .i64 a0_1, .slice (some ad145) l0_2.length c0_2] 24 (0, 0)) (by (with_reducible repeat (first | refine blk_drewN ?_ _ | refine blk_drew ?_ | refine blk_alloc ?_ _)); exact BK130.out)) : gb130 ≠ gb146)); have n7_ := Aside0.mk ((by rw [hg]; exact Nat.ne_of_gt (blk_lt (g := gb130) (o := .cells #[.int .i64 a0_0, .int .i64 a0_1, .slice (some ad145) l0_2.length c0_2] 24 (0, 0)) (by (with_reducible repeat (first | refine blk_drewN ?_ _ | refine blk_drew ?_ | refine blk_alloc ?_ _)); exact BK130.out)) : gb146 ≠ gb130)); clear HO_5; clear BK130; clear HB; have HO_5 := n0_; have BK130 := n1_; have HB := n2_; have BK146 := n3_; have GW146 := n4_; have GE146 := n5_; have NB130_146 := n6_; have NB146_130 := n7_; clear n0_ n1_ n2_ n3_ n4_ n5_ n6_ n7_; clear hb hbox hg; have hnb20 := NB146_130.out; have hnc20 := NB130_146.out; have hcz21_0 : w19.cell? ⟨gb146, 0, none⟩ = some (.int .i64 0) := (blk_cell BK146.out 0).trans rfl; have hcz21_1 : w19.cell? ⟨gb146, 1, none⟩ = some (.int .i64 0) := (blk_cell BK146.out 1).trans rfl; have hcz21_2 : w19.cell? ⟨gb146, 2, none⟩ = some (.int .i64 0) := (blk_cell BK146.out 2).trans rfl; have hcz21_3 : w19.cell? ⟨gb146, 3, none⟩ = some (.int .i64 0) := (blk_cell BK146.out 3).trans rfl; have hcz21_4 : w19.cell? ⟨gb146, 4, none⟩ = some (.int .i64 0) := (blk_cell BK146.out 4).trans rfl; have hcz21_5 : w19.cell? ⟨gb146, 5, none⟩ = some (.int .i64 0) := (blk_cell BK146.out 5).trans rfl; have hcz21_6 : w19.cell? ⟨gb146, 6, none⟩ = some (.int .i64 0) := (blk_cell BK146.out 6).trans rfl; have hcz21_7 : w19.cell? ⟨gb146, 7, none⟩ = some (.int .i64 0) := (blk_cell BK146.out 7).trans rfl; have hcz21_8 : w19.cell? ⟨gb146, 8, none⟩ = some (.bool false) := (blk_cell BK146.out 8).trans rfl; have hcz21_9 : w19.cell? ⟨gb146, 9, none⟩ = some (.slice none 0 0) := (blk_cell BK146.out 9).trans rfl; have hcz21_10 : w19.cell? ⟨gb146, 10, none⟩ = some (.slice none 0 0) := (blk_cell BK146.out 10).trans rfl; have hfz21_0 := blk_frozen BK146.out 0; have hfz21_1 := blk_frozen BK146.out 1; have hfz21_2 := blk_frozen BK146.out 2; have hfz21_3 := blk_frozen BK146.out 3; have hfz21_4 := blk_frozen BK146.out 4; have hfz21_5 := blk_frozen BK146.out 5; have hfz21_6 := blk_frozen BK146.out 6; have hfz21_7 := blk_frozen BK146.out 7; have hfz21_8 := blk_frozen BK146.out 8; have hfz21_9 := blk_frozen BK146.out 9; have hfz21_10 := blk_frozen BK146.out 10))
       have n0_ : Aside0 (Kd.R (Kd.int .u8) 5 (((((((((((w19.setCell ⟨gb146, 0, none⟩ (.int .i64 ((rd_T51 l0_2 x28_1).f0))).setCell ⟨gb146, 1, none⟩ (.int .i64 ((rd_T51 l0_2 x28_1).f1))).setCell ⟨gb146, 2, none⟩ (.int .i64 ((rd_T51 l0_2 x28_1).f2))).setCell ⟨gb146, 3, none⟩ (.int .i64 ((rd_T51 l0_2 x28_1).f3))).setCell ⟨gb146, 4, none⟩ (.int .i64 ((rd_T51 l0_2 x28_1).f4))).setCell ⟨gb146, 5, none⟩ (.int .i64 ((rd_T51 l0_2 x28_1).f5))).setCell ⟨gb146, 6, none⟩ (.int .i64 ((rd_T51 l0_2 x28_1).f6))).setCell ⟨gb146, 7, none⟩ (.int .i64 ((rd_T51 l0_2 x28_1).f7))).setCell ⟨gb146, 8, none⟩ (.bool ((rd_T51 l0_2 x28_1).f8))).setCell ⟨gb146, 9, none⟩ (.slice A145_9 ((rd_T51 l0_2 x28_1).f9).length c145_9)).setCell ⟨gb146, 10, none⟩ (.slice A145_10 ((rd_T51 l0_2 x28_1).f10).length c145_10)) w.heap.size (fun _ => True) u5 x5_1) := ⟨by (with_reducible repeat (first | apply Kd.R_alloc | apply Kd.R_drewN | apply Kd.R_drew)); exact Kd.R_mono (Kd.R_far (p := ⟨gb146, 10, none⟩) (Kd.R_far (p := ⟨gb146, 9, none⟩) (Kd.R_far (p := ⟨gb146, 8, none⟩) (Kd.R_far (p := ⟨gb146, 7, none⟩) (Kd.R_far (p := ⟨gb146, 6, none⟩) (Kd.R_far (p := ⟨gb146, 5, none⟩) (Kd.R_far (p := ⟨gb146, 4, none⟩) (Kd.R_far (p := ⟨gb146, 3, none⟩) (Kd.R_far (p := ⟨gb146, 2, none⟩) (Kd.R_far (p := ⟨gb146, 1, none⟩) (Kd.R_far (p := ⟨gb146, 0, none⟩) (Kd.R_types HO_5.out BK146.out (by decide)) (fun _ hk => hk.2) (.int .i64 ((rd_T51 l0_2 x28_1).f0))) (fun _ hk => hk.2) (.int .i64 ((rd_T51 l0_2 x28_1).f1))) (fun _ hk => hk.2) (.int .i64 ((rd_T51 l0_2 x28_1).f2))) (fun _ hk => hk.2) (.int .i64 ((rd_T51 l0_2 x28_1).f3))) (fun _ hk => hk.2) (.int .i64 ((rd_T51 l0_2 x28_1).f4))) (fun _ hk => hk.2) (.int .i64 ((rd_T51 l0_2 x28_1).f5))) (fun _ hk => hk.2) (.int .i64 ((rd_T51 l0_2 x28_1).f6))) (fun _ hk => hk.2) (.int .i64 ((rd_T51 l0_2 x28_1).f7))) (fun _ hk => hk.2) (.bool ((rd_T51 l0_2 x28_1).f8))) (fun _ hk => hk.2) (.slice A145_9 ((rd_T51 l0_2 x28_1).f9).length c145_9)) (fun _ hk => hk.2) (.slice A145_10 ((rd_T51 l0_2 x28_1).f10).length c145_10)) (fun _ hk => trivial)⟩
       have n1_ : Aside0 ((((((((((((w19.setCell ⟨gb146, 0, none⟩ (.int .i64 ((rd_T51 l0_2 x28_1).f0))).setCell ⟨gb146, 1, none⟩ (.int .i64 ((rd_T51 l0_2 x28_1).f1))).setCell ⟨gb146, 2, none⟩ (.int .i64 ((rd_T51 l0_2 x28_1).f2))).setCell ⟨gb146, 3, none⟩ (.int .i64 ((rd_T51 l0_2 x28_1).f3))).setCell ⟨gb146, 4, none⟩ (.int .i64 ((rd_T51 l0_2 x28_1).f4))).setCell ⟨gb146, 5, none⟩ (.int .i64 ((rd_T51 l0_2 x28_1).f5))).setCell ⟨gb146, 6, none⟩ (.int .i64 ((rd_T51 l0_2 x28_1).f6))).setCell ⟨gb146, 7, none⟩ (.int .i64 ((rd_T51 l0_2 x28_1).f7))).setCell ⟨gb146, 8, none⟩ (.bool ((rd_T51 l0_2 x28_1).f8))).setCell ⟨gb146, 9, none⟩ (.slice A145_9 ((rd_T51 l0_2 x28_1).f9).length c145_9)).setCell ⟨gb146, 10, none⟩ (.slice A145_10 ((rd_T51 l0_2 x28_1).f10).length c145_10)).heap[gb130]? = some (.cells #[.int .i64 a0_0, .int .i64 a0_1, .slice (some ad145) l0_2.length c0_2] 24 (0, 0))) := ⟨by (with_reducible repeat (first | refine blk_drewN ?_ _ | refine blk_drew ?_ | refine blk_alloc ?_ _)); refine blk_far ?_ NB130_146.out _; (with_reducible repeat (first | refine blk_drewN ?_ _ | refine blk_drew ?_ | refine blk_alloc ?_ _)); refine blk_far ?_ NB130_146.out _; (with_reducible repeat (first | refine blk_drewN ?_ _ | refine blk_drew ?_ | refine blk_alloc ?_ _)); refine blk_far ?_ NB130_146.out _; (with_reducible repeat (first | refine blk_drewN ?_ _ | refine blk_drew ?_ | refine blk_alloc ?_ _)); refine blk_far ?_ NB130_146.out _; (with_reducible repeat (first | refine blk_drewN ?_ _ | refine blk_drew ?_ | refine blk_alloc ?_ _)); refine blk_far ?_ NB130_146.out _; (with_reducible repeat (first | refine blk_drewN ?_ _ | refine blk_drew ?_ | refine blk_alloc ?_ _)); refine blk_far ?_ NB130_146.out _; (with_reducible repeat (first | refine blk_drewN ?_ _ | refine blk_drew ?_ | refine blk_alloc ?_ _)); refine blk_far ?_ NB130_146.out _; (with_reducible repeat (first | refine blk_drewN ?_ _ | refine blk_drew ?_ | refine blk_alloc ?_ _)); refine blk_far ?_ NB130_146.out _; (with_reducible repeat (first | refine blk_drewN ?_ _ | refine blk_drew ?_ | refine blk_alloc ?_ _)); refine blk_far ?_ NB130_146.out _; (with_reducible repeat (first | refine blk_drewN ?_ _ | refine blk_drew ?_ | refine blk_alloc ?_ _)); refine blk_far ?_ NB130_146.out _; (with_reducible repeat (first | refine blk_drewN ?_ _ | refine blk_drew ?_ | refine blk_alloc ?_ _)); refine blk_far ?_ NB130_146.out _; (with_reducible repeat (first | refine blk_drewN ?_ _ | refine blk_drew ?_ | refine blk_alloc ?_ _)); exact BK130.out⟩
       have n2_ : Aside0 ((((((((((((w19.setCell ⟨gb146, 0, none⟩ (.int .i64 ((rd_T51 l0_2 x28_1).f0))).setCell ⟨gb146, 1, none⟩ (.int .i64 ((rd_T51 l0_2 x28_1).f1))).setCell ⟨gb146, 2, none⟩ (.int .i64 ((rd_T51 l0_2 x28_1).f2))).setCell ⟨gb146, 3, none⟩ (.int .i64 ((rd_T51 l0_2 x28_1).f3))).setCell ⟨gb146, 4, none⟩ (.int .i64 ((rd_T51 l0_2 x28_1).f4))).setCell ⟨gb146, 5, none⟩ (.int .i64 ((rd_T51 l0_2 x28_1).f5))).setCell ⟨gb146, 6, none⟩ (.int .i64 ((rd_T51 l0_2 x28_1).f6))).setCell ⟨gb146, 7, none⟩ (.int .i64 ((rd_T51 l0_2 x28_1).f7))).setCell ⟨gb146, 8, none⟩ (.bool ((rd_T51 l0_2 x28_1).f8))).setCell ⟨gb146, 9, none⟩ (.slice A145_9 ((rd_T51 l0_2 x28_1).f9).length c145_9)).setCell ⟨gb146, 10, none⟩ (.slice A145_10 ((rd_T51 l0_2 x28_1).f10).length c145_10)).heap[gb146]? = some (.cells #[.int .i64 ((rd_T51 l0_2 x28_1).f0), .int .i64 ((rd_T51 l0_2 x28_1).f1), .int .i64 ((rd_T51 l0_2 x28_1).f2), .int .i64 ((rd_T51 l0_2 x28_1).f3), .int .i64 ((rd_T51 l0_2 x28_1).f4), .int .i64 ((rd_T51 l0_2 x28_1).f5), .int .i64 ((rd_T51 l0_2 x28_1).f6), .int .i64 ((rd_T51 l0_2 x28_1).f7), .bool ((rd_T51 l0_2 x28_1).f8), .slice A145_9 ((rd_T51 l0_2 x28_1).f9).length c145_9, .slice A145_10 ((rd_T51 l0_2 x28_1).f10).length c145_10] 51 (0, 0))) := ⟨by (with_reducible repeat (first | refine blk_drewN ?_ _ | refine blk_drew ?_ | refine blk_alloc ?_ _)); refine blk_put (cs := #[.int .i64 ((rd_T51 l0_2 x28_1).f0), .int .i64 ((rd_T51 l0_2 x28_1).f1), .int .i64 ((rd_T51 l0_2 x28_1).f2), .int .i64 ((rd_T51 l0_2 x28_1).f3), .int .i64 ((rd_T51 l0_2 x28_1).f4), .int .i64 ((rd_T51 l0_2 x28_1).f5), .int .i64 ((rd_T51 l0_2 x28_1).f6), .int .i64 ((rd_T51 l0_2 x28_1).f7), .bool ((rd_T51 l0_2 x28_1).f8), .slice A145_9 ((rd_T51 l0_2 x28_1).f9).length c145_9, .slice none 0 0]) ?_ 10 _ rfl; (with_reducible repeat (first | refine blk_drewN ?_ _ | refine blk_drew ?_ | refine blk_alloc ?_ _)); refine blk_put (cs := #[.int .i64 ((rd_T51 l0_2 x28_1).f0), .int .i64 ((rd_T51 l0_2 x28_1).f1), .int .i64 ((rd_T51 l0_2 x28_1).f2), .int .i64 ((rd_T51 l0_2 x28_1).f3), .int .i64 ((rd_T51 l0_2 x28_1).f4), .int .i64 ((rd_T51 l0_2 x28_1).f5), .int .i64 ((rd_T51 l0_2 x28_1).f6), .int .i64 ((rd_T51 l0_2 x28_1).f7), .bool ((rd_T51 l0_2 x28_1).f8), .slice none 0 0, .slice none 0 0]) ?_ 9 _ rfl; (with_reducible repeat (first | refine blk_drewN ?_ _ | refine blk_drew ?_ | refine blk_alloc ?_ _)); refine blk_put (cs := #[.int .i64 ((rd_T51 l0_2 x28_1).f0), .int .i64 ((rd_T51 l0_2 x28_1).f1), .int .i64 ((rd_T51 l0_2 x28_1).f2), .int .i64 ((rd_T51 l0_2 x28_1).f3), .int .i64 ((rd_T51 l0_2 x28_1).f4), .int .i64 ((rd_T51 l0_2 x28_1).f5), .int .i64 ((rd_T51 l0_2 x28_1).f6), .int .i64 ((rd_T51 l0_2 x28_1).f7), .bool false, .slice none 0 0, .slice none 0 0]) ?_ 8 _ rfl; (with_reducible repeat (first | refine blk_drewN ?_ _ | refine blk_drew ?_ | refine blk_alloc ?_ _)); refine blk_put (cs := #[.int .i64 ((rd_T51 l0_2 x28_1).f0), .int .i64 ((rd_T51 l0_2 x28_1).f1), .int .i64 ((rd_T51 l0_2 x28_1).f2), .int .i64 ((rd_T51 l0_2 x28_1).f3), .int .i64 ((rd_T51 l0_2 x28_1).f4), .int .i64 ((rd_T51 l0_2 x28_1).f5), .int .i64 ((rd_T51 l0_2 x28_1).f6), .int .i64 0, .bool false, .slice none 0 0, .slice none 0 0]) ?_ 7 _ rfl; (with_reducible repeat (first | refine blk_drewN ?_ _ | refine blk_drew ?_ | refine blk_alloc ?_ _)); refine blk_put (cs := #[.int .i64 ((rd_T51 l0_2 x28_1).f0), .int .i64 ((rd_T51 l0_2 x28_1).f1), .int .i64 ((rd_T51 l0_2 x28_1).f2), .int .i64 ((rd_T51 l0_2 x28_1).f3), .int .i64 ((rd_T51 l0_2 x28_1).f4), .int .i64 ((rd_T51 l0_2 x28_1).f5), .int .i64 0, .int .i64 0, .bool false, .slice none 0 0, .slice none 0 0]) ?_ 6 _ rfl; (with_reducible repeat (first | refine blk_drewN ?_ _ | refine blk_drew ?_ | refine blk_alloc ?_ _)); refine blk_put (cs := #[.int .i64 ((rd_T51 l0_2 x28_1).f0), .int .i64 ((rd_T51 l0_2 x28_1).f1), .int .i64 ((rd_T51 l0_2 x28_1).f2), .int .i64 ((rd_T51 l0_2 x28_1).f3), .int .i64 ((rd_T51 l0_2 x28_1).f4), .int .i64 0, .int .i64 0, .int .i64 0, .bool false, .slice none 0 0, .slice none 0 0]) ?_ 5 _ rfl; (with_reducible repeat (first | refine blk_drewN ?_ _ | refine blk_drew ?_ | refine blk_alloc ?_ _)); refine blk_put (cs := #[.int .i64 ((rd_T51 l0_2 x28_1).f0), .int .i64 ((rd_T51 l0_2 x28_1).f1), .int .i64 ((rd_T51 l0_2 x28_1).f2), .int .i64 ((rd_T51 l0_2 x28_1).f3), .int .i64 0, .int .i64 0, .int .i64 0, .int .i64 0, .bool false, .slice none 0 0, .slice none 0 0]) ?_ 4 _ rfl; (with_reducible repeat (first | refine blk_drewN ?_ _ | refine blk_drew ?_ | refine blk_alloc ?_ _)); refine blk_put (cs := #[.int .i64 ((rd_T51 l0_2 x28_1).f0), .int .i64 ((rd_T51 l0_2 x28_1).f1), .int .i64 ((rd_T51 l0_2 x28_1).f2), .int .i64 0, .int .i64 0, .int .i64 0, .int .i64 0, .int .i64 0, .bool false, .slice none 0 0, .slice none 0 0]) ?_ 3 _ rfl; (with_reducible repeat (first | refine blk_drewN ?_ _ | refine blk_drew ?_ | refine blk_alloc ?_ _)); refine blk_put (cs := #[.int .i64 ((rd_T51 l0_2 x28_1).f0), .int .i64 ((rd_T51 l0_2 x28_1).f1), .int .i64 0, .int .i64 0, .int .i64 0, .int .i64 0, .int .i64 0, .int .i64 0, .bool false, .slice none 0 0, .slice none 0 0]) ?_ 2 _ rfl; (with_reducible repeat (first | refine blk_drewN ?_ _ | refine blk_drew ?_ | refine blk_alloc ?_ _)); refine blk_put (cs := #[.int .i64 ((rd_T51 l0_2 x28_1).f0), .int .i64 0, .int .i64 0, .int .i64 0, .int .i64 0, .int .i64 0, .int .i64 0, .int .i64 0, .bool false, .slice none 0 0, .slice none 0 0]) ?_ 1 _ rfl; (with_reducible repeat (first | refine blk_drewN ?_ _ | refine blk_drew ?_ | refine blk_alloc ?_ _)); refine blk_put (cs := #[.int .i64 0, .int .i64 0, .int .i64 0, .int .i64 0, .int .i64 0, .int .i64 0, .int .i64 0, .int .i64 0, .bool false, .slice none 0 0, .slice none 0 0]) ?_ 0 _ rfl; (with_reducible repeat (first | refine blk_drewN ?_ _ | refine blk_drew ?_ | refine blk_alloc ?_ _)); exact BK146.out⟩
       have n3_ : Aside0 (Below w.heap.size w (((((((((((w19.setCell ⟨gb146, 0, none⟩ (.int .i64 ((rd_T51 l0_2 x28_1).f0))).setCell ⟨gb146, 1, none⟩ (.int .i64 ((rd_T51 l0_2 x28_1).f1))).setCell ⟨gb146, 2, none⟩ (.int .i64 ((rd_T51 l0_2 x28_1).f2))).setCell ⟨gb146, 3, none⟩ (.int .i64 ((rd_T51 l0_2 x28_1).f3))).setCell ⟨gb146, 4, none⟩ (.int .i64 ((rd_T51 l0_2 x28_1).f4))).setCell ⟨gb146, 5, none⟩ (.int .i64 ((rd_T51 l0_2 x28_1).f5))).setCell ⟨gb146, 6, none⟩ (.int .i64 ((rd_T51 l0_2 x28_1).f6))).setCell ⟨gb146, 7, none⟩ (.int .i64 ((rd_T51 l0_2 x28_1).f7))).setCell ⟨gb146, 8, none⟩ (.bool ((rd_T51 l0_2 x28_1).f8))).setCell ⟨gb146, 9, none⟩ (.slice A145_9 ((rd_T51 l0_2 x28_1).f9).length c145_9)).setCell ⟨gb146, 10, none⟩ (.slice A145_10 ((rd_T51 l0_2 x28_1).f10).length c145_10))) := ⟨by repeat (first | (with_reducible first | exact HB.out | apply below_alloc | apply pw_below_drewN | apply below_drew1 | refine below_set ?_ GE130.out | refine below_set ?_ GE146.out) | exact HB.out)⟩
       (try clear HO_5)
       (try clear BK130)
       (try clear BK146)
       (try clear HB)
       generalize (((((((((((w19.setCell ⟨gb146, 0, none⟩ (.int .i64 ((rd_T51 l0_2 x28_1).f0))).setCell ⟨gb146, 1, none⟩ (.int .i64 ((rd_T51 l0_2 x28_1).f1))).setCell ⟨gb146, 2, none⟩ (.int .i64 ((rd_T51 l0_2 x28_1).f2))).setCell ⟨gb146, 3, none⟩ (.int .i64 ((rd_T51 l0_2 x28_1).f3))).setCell ⟨gb146, 4, none⟩ (.int .i64 ((rd_T51 l0_2 x28_1).f4))).setCell ⟨gb146, 5, none⟩ (.int .i64 ((rd_T51 l0_2 x28_1).f5))).setCell ⟨gb146, 6, none⟩ (.int .i64 ((rd_T51 l0_2 x28_1).f6))).setCell ⟨gb146, 7, none⟩ (.int .i64 ((rd_T51 l0_2 x28_1).f7))).setCell ⟨gb146, 8, none⟩ (.bool ((rd_T51 l0_2 x28_1).f8))).setCell ⟨gb146, 9, none⟩ (.slice A145_9 ((rd_T51 l0_2 x28_1).f9).length c145_9)).setCell ⟨gb146, 10, none⟩ (.slice A145_10 ((rd_T51 l0_2 x28_1).f10).length c145_10)) = w22 at n0_ n1_ n2_ n3_ ⊢
       have HO_5 := n0_
       have BK130 := n1_
       have BK146 := n2_
       have HB := n3_
       clear n0_ n1_ n2_ n3_
       have n0_ := Aside0.mk (Kd.R_drew HO_5.out)
       have n1_ := Aside0.mk (blk_drew BK130.out)
       have n2_ := Aside0.mk (blk_drew BK146.out)
       have n3_ := Aside0.mk (below_drew1 HB.out)
       clear HO_5
       clear BK130
       clear BK146
       clear HB
       have HO_5 := n0_
       have BK130 := n1_
       have BK146 := n2_
       have HB := n3_
       clear n0_ n1_ n2_ n3_
       refine start_ (n := 22) (S := fun w' => w'.cell? ⟨gb146, 0, none⟩ = some (.int .i64 ((rd_T51 l0_2 x28_1).f0)) ∧ w'.cell? ⟨gb146, 1, none⟩ = some (.int .i64 ((rd_T51 l0_2 x28_1).f1)) ∧ w'.cell? ⟨gb146, 2, none⟩ = some (.int .i64 ((rd_T51 l0_2 x28_1).f2)) ∧ w'.cell? ⟨gb146, 3, none⟩ = some (.int .i64 ((rd_T51 l0_2 x28_1).f3)) ∧ w'.cell? ⟨gb146, 4, none⟩ = some (.int .i64 ((rd_T51 l0_2 x28_1).f4)) ∧ w'.cell? ⟨gb146, 5, none⟩ = some (.int .i64 ((rd_T51 l0_2 x28_1).f5)) ∧ w'.cell? ⟨gb146, 6, none⟩ = some (.int .i64 ((rd_T51 l0_2 x28_1).f6)) ∧ w'.cell? ⟨gb146, 7, none⟩ = some (.int .i64 ((rd_T51 l0_2 x28_1).f7)) ∧ w'.cell? ⟨gb146, 8, none⟩ = some (.bool ((rd_T51 l0_2 x28_1).f8)) ∧ w'.cell? ⟨gb146, 9, none⟩ = some (.slice A145_9 ((rd_T51 l0_2 x28_1).f9).length c145_9) ∧ w'.cell? ⟨gb146, 10, none⟩ = some (.slice A145_10 ((rd_T51 l0_2 x28_1).f10).length c145_10)) (ds := []) #[false, false, false, false, false, false, false, false, false, false, false, false, false, false, false, false, false, false, false, false, false, false] (by kernel_rfl) rfl rfl ⟨(blk_cell BK146.out 0).trans rfl, (blk_cell BK146.out 1).trans rfl, (blk_cell BK146.out 2).trans rfl, (blk_cell BK146.out 3).trans rfl, (blk_cell BK146.out 4).trans rfl, (blk_cell BK146.out 5).trans rfl, (blk_cell BK146.out 6).trans rfl, (blk_cell BK146.out 7).trans rfl, (blk_cell BK146.out 8).trans rfl, (blk_cell BK146.out 9).trans rfl, (blk_cell BK146.out 10).trans rfl⟩ (fun hHeld => ?_); refine with_tabW packet_Put.tab8 packet_Put.bits8 (fun HT_ HW_ => ?_)
       generalize w22.drew = w23 at HO_5 BK130 BK146 HB hHeld ⊢
       refine pure_ (i := 0) (N := some 32) (v := ?_) (a' := ?_) #[true, false, false, false, false, false, false, false, false, false, false, false, false, false, false, false, false, false, false, false, false, false] rfl rfl (any_of HT_.out (by kernel_rfl)) (fun _ _ _ h => h) (Or.inl ⟨by rfl, ?_⟩) ?_ ?_
       rotate_left
       ·intro w'
        go_simp
        with_reducible rfl
       rotate_left
       ·simp only [Act.put, List.setIfInBounds_toArray, List.set_cons_zero, List.set_cons_succ, i64_w, i32_w]
        rfl
       refine pure_ (i := 1) (N := some 33) (v := ?_) (a' := ?_) #[true, true, false, false, false, false, false, false, false, false, false, false, false, false, false, false, false, false, false, false, false, false] rfl rfl (any_of HT_.out (by kernel_rfl)) (fun _ _ _ h => h) (Or.inl ⟨by rfl, ?_⟩) ?_ ?_
       rotate_left
       ·intro w'
        go_simp
        with_reducible rfl
       rotate_left
       ·simp only [Act.put, List.setIfInBounds_toArray, List.set_cons_zero, List.set_cons_succ, i64_w, i32_w]
        rfl
       refine pure_ (i := 3) (N := some 35) (v := ?_) (a' := ?_) #[true, true, false, true, false, false, false, false, false, false, false, false, false, false, false, false, false, false, false, false, false, false] rfl rfl (any_of HT_.out (by kernel_rfl)) (fun _ _ _ h => h) (Or.inl ⟨by rfl, ?_⟩) ?_ ?_
       rotate_left
       ·intro w'
        go_simp
        with_reducible rfl
       rotate_left
       ·simp only [Act.put, List.setIfInBounds_toArray, List.set_cons_zero, List.set_cons_succ, i64_w, i32_w]
        rfl
       refine pure_ (i := 5) (N := some 37) (v := ?_) (a' := ?_) #[true, true, false, true, false, true, false, false, false, false, false, false, false, false, false, false, false, false, false, false, false, false] rfl rfl (any_of HT_.out (by kernel_rfl)) (fun _ _ _ h => h) (Or.inl ⟨by rfl, ?_⟩) ?_ ?_
       rotate_left
       ·intro w'
        go_simp
        with_reducible rfl
       rotate_left
       ·simp only [Act.put, List.setIfInBounds_toArray, List.set_cons_zero, List.set_cons_succ, i64_w, i32_w]
        rfl
       refine pure_ (i := 7) (N := some 39) (v := ?_) (a' := ?_) #[true, true, false, true, false, true, false, true, false, false, false, false, false, false, false, false, false, false, false, false, false, false] rfl rfl (any_of HT_.out (by kernel_rfl)) (fun _ _ _ h => h) (Or.inl ⟨by rfl, ?_⟩) ?_ ?_
       rotate_left
       ·intro w'
        go_simp
        with_reducible rfl
       rotate_left
       ·simp only [Act.put, List.setIfInBounds_toArray, List.set_cons_zero, List.set_cons_succ, i64_w, i32_w]
        rfl
       refine pure_ (i := 9) (N := some 41) (v := ?_) (a' := ?_) #[true, true, false, true, false, true, false, true, false, true, false, false, false, false, false, false, false, false, false, false, false, false] rfl rfl (any_of HT_.out (by kernel_rfl)) (fun _ _ _ h => h) (Or.inl ⟨by rfl, ?_⟩) ?_ ?_
       rotate_left
       ·intro w'
        go_simp
        with_reducible rfl
       rotate_left
       ·simp only [Act.put, List.setIfInBounds_toArray, List.set_cons_zero, List.set_cons_succ, i64_w, i32_w]
        rfl
       refine pure_ (i := 11) (N := some 43) (v := ?_) (a' := ?_) #[true, true, false, true, false, true, false, true, false, true, false, true, false, false, false, false, false, false, false, false, false, false] rfl rfl (any_of HT_.out (by kernel_rfl)) (fun _ _ _ h => h) (Or.inl ⟨by rfl, ?_⟩) ?_ ?_
       rotate_left
       ·intro w'
        go_simp
        with_reducible rfl
       rotate_left
       ·simp only [Act.put, List.setIfInBounds_toArray, List.set_cons_zero, List.set_cons_succ, i64_w, i32_w]
        rfl
       refine pure_ (i := 13) (N := some 45) (v := ?_) (a' := ?_) #[true, true, false, true, false, true, false, true, false, true, false, true, false, true, false, false, false, false, false, false, false, false] rfl rfl (any_of HT_.out (by kernel_rfl)) (fun _ _ _ h => h) (Or.inl ⟨by rfl, ?_⟩) ?_ ?_
       rotate_left
       ·intro w'
        go_simp
        with_reducible rfl
       rotate_left
       ·simp only [Act.put, List.setIfInBounds_toArray, List.set_cons_zero, List.set_cons_succ, i64_w, i32_w]
        rfl
       refine pure_ (i := 16) (N := some 48) (v := ?_) (a' := ?_) #[true, true, false, true, false, true, false, true, false, true, false, true, false, true, false, false, true, false, false, false, false, false] rfl rfl (any_of HT_.out (by kernel_rfl)) (fun _ _ _ h => h) (Or.inl ⟨by rfl, ?_⟩) ?_ ?_
       rotate_left
       ·intro w'
        go_simp
        with_reducible rfl
       rotate_left
       ·simp only [Act.put, List.setIfInBounds_toArray, List.set_cons_zero, List.set_cons_succ, i64_w, i32_w]
        rfl
       refine take_ (i := 2) (N := some 34) (v := ?_) (a' := ?_) #[true, true, true, true, false, true, false, true, false, true, false, true, false, true, false, false, true, false, false, false, false, false] rfl rfl (take_ofW HT_.out HW_.out (by kernel_rfl)) (fun _ _ _ h => h) (Or.inl ⟨by rfl, ?_⟩) hHeld ?_ ?_
       rotate_left
       ·rintro w' ⟨s0, s1, s2, s3, s4, s5, s6, s7, s8, s9, s10⟩
        go_simp
        with_reducible rfl
       rotate_left
       ·simp only [Act.put, List.setIfInBounds_toArray, List.set_cons_zero, List.set_cons_succ, i64_w, i32_w]
        rfl
       refine take_ (i := 4) (N := some 36) (v := ?_) (a' := ?_) #[true, true, true, true, true, true, false, true, false, true, false, true, false, true, false, false, true, false, false, false, false, false] rfl rfl (take_ofW HT_.out HW_.out (by kernel_rfl)) (fun _ _ _ h => h) (Or.inl ⟨by rfl, ?_⟩) hHeld ?_ ?_
       rotate_left
       ·rintro w' ⟨s0, s1, s2, s3, s4, s5, s6, s7, s8, s9, s10⟩
        go_simp
        with_reducible rfl
       rotate_left
       ·simp only [Act.put, List.setIfInBounds_toArray, List.set_cons_zero, List.set_cons_succ, i64_w, i32_w]
        rfl
       refine take_ (i := 6) (N := some 38) (v := ?_) (a' := ?_) #[true, true, true, true, true, true, true, true, false, true, false, true, false, true, false, false, true, false, false, false, false, false] rfl rfl (take_ofW HT_.out HW_.out (by kernel_rfl)) (fun _ _ _ h => h) (Or.inl ⟨by rfl, ?_⟩) hHeld ?_ ?_
       rotate_left
       ·rintro w' ⟨s0, s1, s2, s3, s4, s5, s6, s7, s8, s9, s10⟩
        go_simp
        with_reducible rfl
       rotate_left
       ·simp only [Act.put, List.setIfInBounds_toArray, List.set_cons_zero, List.set_cons_succ, i64_w, i32_w]
        rfl
       refine take_ (i := 8) (N := some 40) (v := ?_) (a' := ?_) #[true, true, true, true, true, true, true, true, true, true, false, true, false, true, false, false, true, false, false, false, false, false] rfl rfl (take_ofW HT_.out HW_.out (by kernel_rfl)) (fun _ _ _ h => h) (Or.inl ⟨by rfl, ?_⟩) hHeld ?_ ?_
       rotate_left
       ·rintro w' ⟨s0, s1, s2, s3, s4, s5, s6, s7, s8, s9, s10⟩
        go_simp
        with_reducible rfl
       rotate_left
       ·simp only [Act.put, List.setIfInBounds_toArray, List.set_cons_zero, List.set_cons_succ, i64_w, i32_w]
        rfl
       refine take_ (i := 10) (N := some 42) (v := ?_) (a' := ?_) #[true, true, true, true, true, true, true, true, true, true, true, true, false, true, false, false, true, false, false, false, false, false] rfl rfl (take_ofW HT_.out HW_.out (by kernel_rfl)) (fun _ _ _ h => h) (Or.inl ⟨by rfl, ?_⟩) hHeld ?_ ?_
       rotate_left
       ·rintro w' ⟨s0, s1, s2, s3, s4, s5, s6, s7, s8, s9, s10⟩
        go_simp
        with_reducible rfl
       rotate_left
       ·simp only [Act.put, List.setIfInBounds_toArray, List.set_cons_zero, List.set_cons_succ, i64_w, i32_w]
        rfl
       refine take_ (i := 12) (N := some 44) (v := ?_) (a' := ?_) #[true, true, true, true, true, true, true, true, true, true, true, true, true, true, false, false, true, false, false, false, false, false] rfl rfl (take_ofW HT_.out HW_.out (by kernel_rfl)) (fun _ _ _ h => h) (Or.inl ⟨by rfl, ?_⟩) hHeld ?_ ?_
       rotate_left
       ·rintro w' ⟨s0, s1, s2, s3, s4, s5, s6, s7, s8, s9, s10⟩
        go_simp
        with_reducible rfl
       rotate_left
       ·simp only [Act.put, List.setIfInBounds_toArray, List.set_cons_zero, List.set_cons_succ, i64_w, i32_w]
        rfl
       refine take_ (i := 14) (N := some 46) (v := ?_) (a' := ?_) #[true, true, true, true, true, true, true, true, true, true, true, true, true, true, true, false, true, false, false, false, false, false] rfl rfl (take_ofW HT_.out HW_.out (by kernel_rfl)) (fun _ _ _ h => h) (Or.inl ⟨by rfl, ?_⟩) hHeld ?_ ?_
       rotate_left
       ·rintro w' ⟨s0, s1, s2, s3, s4, s5, s6, s7, s8, s9, s10⟩
        go_simp
        with_reducible rfl
       rotate_left
       ·simp only [Act.put, List.setIfInBounds_toArray, List.set_cons_zero, List.set_cons_succ, i64_w, i32_w]
        rfl
       refine take_ (i := 17) (N := some 49) (v := ?_) (a' := ?_) #[true, true, true, true, true, true, true, true, true, true, true, true, true, true, true, false, true, true, false, false, false, false] rfl rfl (take_ofW HT_.out HW_.out (by kernel_rfl)) (fun _ _ _ h => h) (Or.inl ⟨by rfl, ?_⟩) hHeld ?_ ?_
       rotate_left
       ·rintro w' ⟨s0, s1, s2, s3, s4, s5, s6, s7, s8, s9, s10⟩
        go_simp
        with_reducible rfl
       rotate_left
       ·simp only [Act.put, List.setIfInBounds_toArray, List.set_cons_zero, List.set_cons_succ, i64_w, i32_w]
        rfl
       refine pure_ (i := 18) (N := some 50) (v := ?_) (a' := ?_) #[true, true, true, true, true, true, true, true, true, true, true, true, true, true, true, false, true, true, true, false, false, false] rfl rfl (any_of HT_.out (by kernel_rfl)) (fun _ _ _ h => h) (Or.inl ⟨by rfl, ?_⟩) ?_ ?_
       rotate_left
       ·intro w'
        go_simp
        with_reducible rfl
       rotate_left
       ·simp only [Act.put, List.setIfInBounds_toArray, List.set_cons_zero, List.set_cons_succ, i64_w, i32_w]
        rfl
       refine one_ (i := 15) (N := some 47) #[true, true, true, true, true, true, true, true, true, true, true, true, true, true, true, true, true, true, true, false, false, false] rfl rfl (one_of HT_.out (by kernel_rfl)) (by decide) (fun K hK => ?_)
       refine goes_ Try.func23 (by kernel_rfl) rfl #[.bool ((rd_T51 l0_2 x28_1).f8)] (by rfl) rfl rfl (by (try simp only [List.map_toArray, List.map_cons, List.map_nil]); first | done | rfl | (simp only [List.length_drop, List.length_take]; rfl)) ?_
       with_reducible refine (packet_yes.calls ((rd_T51 l0_2 x28_1).f8) t147 _ A17.out).mono ?_
       rintro e w' ⟨rfl, ⟨nd, rfl⟩⟩
       refine ⟨_, rfl, ?_⟩
       refine hK.out _ _ ⟨(blk_cell BK146.out 0).trans rfl, (blk_cell BK146.out 1).trans rfl, (blk_cell BK146.out 2).trans rfl, (blk_cell BK146.out 3).trans rfl, (blk_cell BK146.out 4).trans rfl, (blk_cell BK146.out 5).trans rfl, (blk_cell BK146.out 6).trans rfl, (blk_cell BK146.out 7).trans rfl, (blk_cell BK146.out 8).trans rfl, (blk_cell BK146.out 9).trans rfl, (blk_cell BK146.out 10).trans rfl⟩ (fun hHeld => ?_)
       clear hK K
       refine norm_ (a' := ?_) ?_ ?_
       rotate_left
       ·show Act.put _ (some 47) _ = _
        simp only [Act.put, List.setIfInBounds_toArray, List.set_cons_zero, List.set_cons_succ, i64_w, i32_w]
        rfl
       refine one_ (i := 19) (N := some 51) #[true, true, true, true, true, true, true, true, true, true, true, true, true, true, true, true, true, true, true, true, false, false] rfl rfl (one_of HT_.out (by kernel_rfl)) (by decide) (fun K hK => ?_)
       refine Kd.R_lit_step (Kd.int .i64) _ 3 ?hg (N := 51) ?hd (xs := ([(rd_T51 l0_2 x28_1).f0, (rd_T51 l0_2 x28_1).f1, (rd_T51 l0_2 x28_1).f4, (rd_T51 l0_2 x28_1).f5, (rd_T51 l0_2 x28_1).f6, (rd_T51 l0_2 x28_1).f7, t147, (((rd_T51 l0_2 x28_1).f9).length : Int)] : List Int)) (inner := [.int .i64 ((rd_T51 l0_2 x28_1).f0), .int .i64 ((rd_T51 l0_2 x28_1).f1), .int .i64 ((rd_T51 l0_2 x28_1).f4), .int .i64 ((rd_T51 l0_2 x28_1).f5), .int .i64 ((rd_T51 l0_2 x28_1).f6), .int .i64 ((rd_T51 l0_2 x28_1).f7), .int .i64 t147, .int .i64 (((rd_T51 l0_2 x28_1).f9).length : Int)]) (ok := fun _ => True) (okp := fun _ => True) ?hr ?hp (fun _ hk => hk) trivial (Below.refl _ _) (Nat.le_refl _) (by simp) ?_; (case hd => rfl); (case hg => rfl); (case hr => first | (go_simp; done) | (go_simp; rfl)); (case hp => exact (Reps.one (show Kd.M (Kd.int .i64) _ _ _ ((rd_T51 l0_2 x28_1).f0) [.int .i64 ((rd_T51 l0_2 x28_1).f0)] from rfl) (Reps.one (show Kd.M (Kd.int .i64) _ _ _ ((rd_T51 l0_2 x28_1).f1) [.int .i64 ((rd_T51 l0_2 x28_1).f1)] from rfl) (Reps.one (show Kd.M (Kd.int .i64) _ _ _ ((rd_T51 l0_2 x28_1).f4) [.int .i64 ((rd_T51 l0_2 x28_1).f4)] from rfl) (Reps.one (show Kd.M (Kd.int .i64) _ _ _ ((rd_T51 l0_2 x28_1).f5) [.int .i64 ((rd_T51 l0_2 x28_1).f5)] from rfl) (Reps.one (show Kd.M (Kd.int .i64) _ _ _ ((rd_T51 l0_2 x28_1).f6) [.int .i64 ((rd_T51 l0_2 x28_1).f6)] from rfl) (Reps.one (show Kd.M (Kd.int .i64) _ _ _ ((rd_T51 l0_2 x28_1).f7) [.int .i64 ((rd_T51 l0_2 x28_1).f7)] from rfl) (Reps.one (show Kd.M (Kd.int .i64) _ _ _ t147 [.int .i64 t147] from rfl) (Reps.one (show Kd.M (Kd.int .i64) _ _ _ (((rd_T51 l0_2 x28_1).f9).length : Int) [.int .i64 (((rd_T51 l0_2 x28_1).f9).length : Int)] from rfl) (Reps.none _ _))))))))))
       intro v149 w24 ho25 hb hg_ hnew_
       clear hg_ hnew_
       (first | rw [← Ny148.out] at ho25 | (simp only [Int.reduceToNat] at ho25; rw [← Ny148.out] at ho25))
       have n0_ := Aside0.mk (Kd.R_below (by (with_reducible repeat (first | apply Kd.R_alloc | apply Kd.R_drewN | apply Kd.R_drew)); exact HO_5.out) hb)
       have n1_ := Aside0.mk (Kd.R_lower ho25 (below_size (by repeat (first | (with_reducible first | exact HB.out | apply below_alloc | apply pw_below_drewN | apply below_drew1 | refine below_set ?_ GE130.out | refine below_set ?_ GE146.out) | exact HB.out))))
       have n2_ := Aside0.mk (blk_below (g := gb130) (o := .cells #[.int .i64 a0_0, .int .i64 a0_1, .slice (some ad145) l0_2.length c0_2] 24 (0, 0)) (by (with_reducible repeat (first | refine blk_drewN ?_ _ | refine blk_drew ?_ | refine blk_alloc ?_ _)); exact BK130.out) hb)
       have n3_ := Aside0.mk (blk_below (g := gb146) (o := .cells #[.int .i64 ((rd_T51 l0_2 x28_1).f0), .int .i64 ((rd_T51 l0_2 x28_1).f1), .int .i64 ((rd_T51 l0_2 x28_1).f2), .int .i64 ((rd_T51 l0_2 x28_1).f3), .int .i64 ((rd_T51 l0_2 x28_1).f4), .int .i64 ((rd_T51 l0_2 x28_1).f5), .int .i64 ((rd_T51 l0_2 x28_1).f6), .int .i64 ((rd_T51 l0_2 x28_1).f7), .bool ((rd_T51 l0_2 x28_1).f8), .slice A145_9 ((rd_T51 l0_2 x28_1).f9).length c145_9, .slice A145_10 ((rd_T51 l0_2 x28_1).f10).length c145_10] 51 (0, 0)) (by (with_reducible repeat (first | refine blk_drewN ?_ _ | refine blk_drew ?_ | refine blk_alloc ?_ _)); exact BK146.out) hb)
       have n4_ := Aside0.mk (below_step (by repeat (first | (with_reducible first | exact HB.out | apply below_alloc | apply pw_below_drewN | apply below_drew1 | refine below_set ?_ GE130.out | refine below_set ?_ GE146.out) | exact HB.out)) hb)
       clear HO_5
       clear BK130
       clear BK146
       clear HB
       have HO_5 := n0_
       have HO150 := n1_
       have BK130 := n2_
       have BK146 := n3_
       have HB := n4_
       clear n0_ n1_ n2_ n3_ n4_
       clear hb ho25
       obtain ⟨Ao26, co26, eo26⟩ := Kd.R_slice HO_5.out
       (first | subst eo26 | (injection eo26 with f1_ f2_ f3_; have f4_ := f1_.symm; have f5_ := f3_.symm; clear f1_ f2_ f3_; subst f4_; subst f5_))
       obtain ⟨Ao27, co27, eo27⟩ := Kd.R_slice HO150.out
       (first | subst eo27 | (injection eo27 with f1_ f2_ f3_; have f4_ := f1_.symm; have f5_ := f3_.symm; clear f1_ f2_ f3_; subst f4_; subst f5_))
       refine hK.out _ _ ⟨(blk_cell BK146.out 0).trans rfl, (blk_cell BK146.out 1).trans rfl, (blk_cell BK146.out 2).trans rfl, (blk_cell BK146.out 3).trans rfl, (blk_cell BK146.out 4).trans rfl, (blk_cell BK146.out 5).trans rfl, (blk_cell BK146.out 6).trans rfl, (blk_cell BK146.out 7).trans rfl, (blk_cell BK146.out 8).trans rfl, (blk_cell BK146.out 9).trans rfl, (blk_cell BK146.out 10).trans rfl⟩ (fun hHeld => ?_)
       clear hK K
       refine norm_ (a' := ?_) ?_ ?_
       rotate_left
       ·show Act.put _ (some 51) _ = _
        simp only [Act.put, List.setIfInBounds_toArray, List.set_cons_zero, List.set_cons_succ, i64_w, i32_w]
        rfl
       refine one_ (i := 20) (N := some 52) #[true, true, true, true, true, true, true, true, true, true, true, true, true, true, true, true, true, true, true, true, true, false] rfl rfl (one_of HT_.out (by kernel_rfl)) (by decide) (fun K hK => ?_)
       refine goes_ Try.func22 (by kernel_rfl) rfl #[.slice Ao26 x5_1.length co26, .slice Ao27 y148.length co27] (by rfl) rfl rfl (by (try simp only [List.map_toArray, List.map_cons, List.map_nil]); first | done | rfl | (simp only [List.length_drop, List.length_take]; rfl)) ?_
       with_reducible refine (packet_numbers.calls k1 (fun k_ => some k_ = (.slice Ao26 x5_1.length co26 : Value).ownBlock) (.slice Ao26 x5_1.length co26) x5_1 _ _ y148 t151 w _ ?side1 ?side2 ?side3 ?side4 A18.out).mono ?_
       (case side1 => repeat (first | (with_reducible first | exact HB.out | apply below_alloc | apply pw_below_drewN | apply below_drew1 | refine below_set ?_ GE130.out | refine below_set ?_ GE146.out) | exact HB.out))
       (case side2 => exact Kd.R_tight rfl HO_5.out)
       (case side3 => exact Kd.C_kept_own ((Kd.R_apart' HO150.out (Kd.R_typed HO_5.out) (by decide))) (fun k_ hk_ hs_ => (hk_.2) hs_))
       (case side4 => exact (Kd.R_reads' HO150.out).2.1)
       rintro e w28 ⟨v152, rfl, ho0, hb, hkp⟩
       refine ⟨_, rfl, ?_⟩
       have n0_ := Aside0.mk (blk_kept (by (with_reducible repeat (first | refine blk_drewN ?_ _ | refine blk_drew ?_ | refine blk_alloc ?_ _)); exact BK130.out) hkp (fun hs_ => (fun e_ => (Kd.R_ne HO_5.out BK130.out (by decide)) e_) hs_))
       have n1_ := Aside0.mk (blk_kept (by (with_reducible repeat (first | refine blk_drewN ?_ _ | refine blk_drew ?_ | refine blk_alloc ?_ _)); exact BK146.out) hkp (fun hs_ => (fun e_ => (Kd.R_ne HO_5.out BK146.out (by decide)) e_) hs_))
       have n2_ := Aside0.mk (Kd.R_mono (ok' := fun k_ => True) (Kd.R_keptB ((Kd.R_apart' HO150.out (Kd.R_typed HO_5.out) (by decide))) hkp (fun k_ hk_ hs_ => (hk_.2) hs_)) (fun k_ hk_ => trivial))
       have n3_ := Aside0.mk (Kd.R_mono (ok' := fun k_ => True) ho0 (fun k_ hk_ => trivial))
       have n4_ := Aside0.mk (hb)
       clear BK130
       clear BK146
       clear HO150
       clear HB
       clear HO_5
       have BK130 := n0_
       have BK146 := n1_
       have HO150 := n2_
       have HO153 := n3_
       have HB := n4_
       clear n0_ n1_ n2_ n3_ n4_
       (try clear hb)
       (try clear hkp)
       (try clear ho0)
       refine hK.out _ _ ⟨(blk_cell BK146.out 0).trans rfl, (blk_cell BK146.out 1).trans rfl, (blk_cell BK146.out 2).trans rfl, (blk_cell BK146.out 3).trans rfl, (blk_cell BK146.out 4).trans rfl, (blk_cell BK146.out 5).trans rfl, (blk_cell BK146.out 6).trans rfl, (blk_cell BK146.out 7).trans rfl, (blk_cell BK146.out 8).trans rfl, (blk_cell BK146.out 9).trans rfl, (blk_cell BK146.out 10).trans rfl⟩ (fun hHeld => ?_)
       clear hK K
       refine norm_ (a' := ?_) ?_ ?_
       rotate_left
       ·show Act.put _ (some 52) _ = _
        simp only [Act.put, List.setIfInBounds_toArray, List.set_cons_zero, List.set_cons_succ, i64_w, i32_w]
        rfl
       refine pure_ (i := 21) (N := some 5) (v := ?_) (a' := ?_) #[true, true, true, true, true, true, true, true, true, true, true, true, true, true, true, true, true, true, true, true, true, true] rfl rfl (any_of HT_.out (by kernel_rfl)) (fun _ _ _ h => h) (Or.inl ⟨by rfl, ?_⟩) ?_ ?_
       rotate_left
       ·intro w'
        go_simp
        with_reducible rfl
       rotate_left
       ·simp only [Act.put, List.setIfInBounds_toArray, List.set_cons_zero, List.set_cons_succ, i64_w, i32_w]
        rfl
       refine done_ (done_of HT_.out (by kernel_rfl)) ?_
       have hcz29_0 : w28.cell? ⟨gb146, 0, none⟩ = some (.int .i64 ((rd_T51 l0_2 x28_1).f0)) := (blk_cell BK146.out 0).trans rfl
       have hcz29_1 : w28.cell? ⟨gb146, 1, none⟩ = some (.int .i64 ((rd_T51 l0_2 x28_1).f1)) := (blk_cell BK146.out 1).trans rfl
       have hcz29_2 : w28.cell? ⟨gb146, 2, none⟩ = some (.int .i64 ((rd_T51 l0_2 x28_1).f2)) := (blk_cell BK146.out 2).trans rfl
       have hcz29_3 : w28.cell? ⟨gb146, 3, none⟩ = some (.int .i64 ((rd_T51 l0_2 x28_1).f3)) := (blk_cell BK146.out 3).trans rfl
       have hcz29_4 : w28.cell? ⟨gb146, 4, none⟩ = some (.int .i64 ((rd_T51 l0_2 x28_1).f4)) := (blk_cell BK146.out 4).trans rfl
       have hcz29_5 : w28.cell? ⟨gb146, 5, none⟩ = some (.int .i64 ((rd_T51 l0_2 x28_1).f5)) := (blk_cell BK146.out 5).trans rfl
       have hcz29_6 : w28.cell? ⟨gb146, 6, none⟩ = some (.int .i64 ((rd_T51 l0_2 x28_1).f6)) := (blk_cell BK146.out 6).trans rfl
       have hcz29_7 : w28.cell? ⟨gb146, 7, none⟩ = some (.int .i64 ((rd_T51 l0_2 x28_1).f7)) := (blk_cell BK146.out 7).trans rfl
       have hcz29_8 : w28.cell? ⟨gb146, 8, none⟩ = some (.bool ((rd_T51 l0_2 x28_1).f8)) := (blk_cell BK146.out 8).trans rfl
       have hcz29_9 : w28.cell? ⟨gb146, 9, none⟩ = some (.slice A145_9 ((rd_T51 l0_2 x28_1).f9).length c145_9) := (blk_cell BK146.out 9).trans rfl
       have hcz29_10 : w28.cell? ⟨gb146, 10, none⟩ = some (.slice A145_10 ((rd_T51 l0_2 x28_1).f10).length c145_10) := (blk_cell BK146.out 10).trans rfl
       have hfz29_0 := blk_frozen BK146.out 0
       have hfz29_1 := blk_frozen BK146.out 1
       have hfz29_2 := blk_frozen BK146.out 2
       have hfz29_3 := blk_frozen BK146.out 3
       have hfz29_4 := blk_frozen BK146.out 4
       have hfz29_5 := blk_frozen BK146.out 5
       have hfz29_6 := blk_frozen BK146.out 6
       have hfz29_7 := blk_frozen BK146.out 7
       have hfz29_8 := blk_frozen BK146.out 8
       have hfz29_9 := blk_frozen BK146.out 9
       have hfz29_10 := blk_frozen BK146.out 10
       try go_wp2
       go_loopg [5, 56] k1 (fun kq v5 v56 w' => ∃ (x5_2 : List Int) (x56_2 : Int), v56 = .int .i64 x56_2 ∧ Aside0 (packet_Put.l1 kq x5_2 l0_2 (l0_2.length : Int) x28_1 ((rd_T51 l0_2 x28_1).f9) (((rd_T51 l0_2 x28_1).f9).length : Int) x56_2 ((rd_T51 l0_2 x28_1).f0) ((rd_T51 l0_2 x28_1).f1) ((rd_T51 l0_2 x28_1).f2) ((rd_T51 l0_2 x28_1).f3) ((rd_T51 l0_2 x28_1).f4) ((rd_T51 l0_2 x28_1).f5) ((rd_T51 l0_2 x28_1).f6) ((rd_T51 l0_2 x28_1).f7) ((rd_T51 l0_2 x28_1).f8) ((rd_T51 l0_2 x28_1).f9) ((rd_T51 l0_2 x28_1).f10) = some (r1, r2)) ∧ Aside0 (kq ≤ k1) ∧ Aside0 (Kd.R (Kd.int .u8) 5 w' w.heap.size (fun _ => True) v5 x5_2) ∧ Aside0 (w'.heap[gb130]? = some (.cells #[.int .i64 a0_0, .int .i64 a0_1, (.slice (some ad145) l0_2.length c0_2)] 24 (0, 0))) ∧ Aside0 (w'.heap[gb146]? = some (.cells #[.int .i64 ((rd_T51 l0_2 x28_1).f0), .int .i64 ((rd_T51 l0_2 x28_1).f1), .int .i64 ((rd_T51 l0_2 x28_1).f2), .int .i64 ((rd_T51 l0_2 x28_1).f3), .int .i64 ((rd_T51 l0_2 x28_1).f4), .int .i64 ((rd_T51 l0_2 x28_1).f5), .int .i64 ((rd_T51 l0_2 x28_1).f6), .int .i64 ((rd_T51 l0_2 x28_1).f7), .bool ((rd_T51 l0_2 x28_1).f8), (.slice A145_9 ((rd_T51 l0_2 x28_1).f9).length c145_9), (.slice A145_10 ((rd_T51 l0_2 x28_1).f10).length c145_10)] 51 (0, 0))) ∧ Aside0 (Below w.heap.size w w'))
       case atStart => exact ⟨(t151), (0), (by first | rfl | (simp; done) | (simp [*]; done)), H', ⟨Nat.le_refl _⟩, ⟨by (with_reducible repeat (first | apply Kd.R_alloc | apply Kd.R_drewN | apply Kd.R_drew)); exact HO153.out⟩, ⟨by (with_reducible repeat (first | refine blk_drewN ?_ _ | refine blk_drew ?_ | refine blk_alloc ?_ _)); exact BK130.out⟩, ⟨by (with_reducible repeat (first | refine blk_drewN ?_ _ | refine blk_drew ?_ | refine blk_alloc ?_ _)); exact BK146.out⟩, ⟨by repeat (first | (with_reducible first | exact HB.out | apply below_alloc | apply pw_below_drewN | apply below_drew1 | refine below_set ?_ GE130.out | refine below_set ?_ GE146.out) | exact HB.out)⟩⟩
       case round =>
        clear H'
        try clear c1
        try clear p1
        try clear q1
        try clear hx1
        try clear c2
        try clear p2
        try clear c3
        try clear c3b0
        try clear c3b1
        try clear c10
        try clear c13
        try clear c14
        try clear c14b0
        try clear p14
        try clear q14
        try clear hx14
        try clear c15
        try clear c15b0
        try clear c16
        try clear c16b0
        try clear c20
        try clear c22
        try clear c23
        try clear hcz13_0
        try clear hcz13_1
        try clear hcz13_2
        try clear hcz21_0
        try clear hcz21_1
        try clear hcz21_10
        try clear hcz21_2
        try clear hcz21_3
        try clear hcz21_4
        try clear hcz21_5
        try clear hcz21_6
        try clear hcz21_7
        try clear hcz21_8
        try clear hcz21_9
        try clear hcz29_0
        try clear hcz29_1
        try clear hcz29_10
        try clear hcz29_2
        try clear hcz29_3
        try clear hcz29_4
        try clear hcz29_5
        try clear hcz29_6
        try clear hcz29_7
        try clear hcz29_8
        try clear hcz29_9
        try clear hcz6_0
        try clear hcz6_1
        try clear hcz6_2
        try clear hcz8_0
        try clear hcz8_1
        try clear hcz8_2
        try clear hfz13_0
        try clear hfz13_1
        try clear hfz13_2
        try clear hfz21_0
        try clear hfz21_1
        try clear hfz21_10
        try clear hfz21_2
        try clear hfz21_3
        try clear hfz21_4
        try clear hfz21_5
        try clear hfz21_6
        try clear hfz21_7
        try clear hfz21_8
        try clear hfz21_9
        try clear hfz29_0
        try clear hfz29_1
        try clear hfz29_10
        try clear hfz29_2
        try clear hfz29_3
        try clear hfz29_4
        try clear hfz29_5
        try clear hfz29_6
        try clear hfz29_7
        try clear hfz29_8
        try clear hfz29_9
        try clear hfz6_0
        try clear hfz6_1
        try clear hfz6_2
        try clear hfz8_0
        try clear hfz8_1
        try clear hfz8_2
        try clear hx145_0
        try clear hx145_1
        try clear hx145_10
        try clear hx145_2
        try clear hx145_3
        try clear hx145_4
        try clear hx145_5
        try clear hx145_6
        try clear hx145_7
        try clear hx145_8
        try clear hx145_9
        try clear p145
        try clear p2
        try clear q145
        obtain ⟨x5_2, x56_2, rfl, HA, HK2, HO_5, BK130, BK146, HB⟩ := hrel
        cases gk with
        | zero => exact absurd HA.out (by simp [packet_Put.l1])
        | succ k2 =>
         have H := HA.out
         clear HA
         simp only [packet_Put.l1] at H
         by_cases c30 : x56_2 < (((rd_T51 l0_2 x28_1).f9).length : Int)
         ·rw [if_pos c30] at H
          have c30b0 : decide (x56_2 < (((rd_T51 l0_2 x28_1).f9).length : Int)) = true := decide_eq_true c30
          clear c30
          by_cases c31 : 0 ≤ x56_2
          ·rw [if_pos c31] at H
           have c31b0 : decide (0 ≤ x56_2) = true := decide_eq_true c31
           clear c31
           by_cases c32 : x56_2 < (((rd_T51 l0_2 x28_1).f9).length : Int)
           ·rw [if_pos c32] at H
            have c32b0 : decide (x56_2 < (((rd_T51 l0_2 x28_1).f9).length : Int)) = true := decide_eq_true c32
            clear c32
            obtain ⟨y156, hy156⟩ : ∃ y_ : List Int, y_ = (([(rd_T48 ((rd_T51 l0_2 x28_1).f9) x56_2).f0] : List Int)) := ⟨_, rfl⟩
            replace H : ((packet_numbers.f k2 x5_2 y156).bind fun t159 => ((pack_Bytes.f k2 t159 ((rd_T48 ((rd_T51 l0_2 x28_1).f9) x56_2).f1)).bind fun t162 => (packet_Put.l1 k2 t162 l0_2 (l0_2.length : Int) x28_1 ((rd_T51 l0_2 x28_1).f9) (((rd_T51 l0_2 x28_1).f9).length : Int) (wrap64 (x56_2 + 1)) ((rd_T51 l0_2 x28_1).f0) ((rd_T51 l0_2 x28_1).f1) ((rd_T51 l0_2 x28_1).f2) ((rd_T51 l0_2 x28_1).f3) ((rd_T51 l0_2 x28_1).f4) ((rd_T51 l0_2 x28_1).f5) ((rd_T51 l0_2 x28_1).f6) ((rd_T51 l0_2 x28_1).f7) ((rd_T51 l0_2 x28_1).f8) ((rd_T51 l0_2 x28_1).f9) ((rd_T51 l0_2 x28_1).f10)))) = some (r1, r2) := by first | (rw [hy156]; with_reducible exact H) | (have H2_ := (Option.bind_some _ _).symm.trans H; rw [hy156]; with_reducible exact H2_) | (have H2_ := (Option.bind_some _ _).symm.trans H; with_reducible exact H2_) | with_reducible exact H | (rw [hy156]; exact H) | exact H
            have Ny156 := Aside0.mk hy156
            clear hy156
            replace H := Option.bind_eq_some_iff.mp H
            obtain ⟨t159, A330, H⟩ := H
            replace H : ((pack_Bytes.f k2 t159 ((rd_T48 ((rd_T51 l0_2 x28_1).f9) x56_2).f1)).bind fun t162 => (packet_Put.l1 k2 t162 l0_2 (l0_2.length : Int) x28_1 ((rd_T51 l0_2 x28_1).f9) (((rd_T51 l0_2 x28_1).f9).length : Int) (wrap64 (x56_2 + 1)) ((rd_T51 l0_2 x28_1).f0) ((rd_T51 l0_2 x28_1).f1) ((rd_T51 l0_2 x28_1).f2) ((rd_T51 l0_2 x28_1).f3) ((rd_T51 l0_2 x28_1).f4) ((rd_T51 l0_2 x28_1).f5) ((rd_T51 l0_2 x28_1).f6) ((rd_T51 l0_2 x28_1).f7) ((rd_T51 l0_2 x28_1).f8) ((rd_T51 l0_2 x28_1).f9) ((rd_T51 l0_2 x28_1).f10))) = some (r1, r2) := H
            have A33 := Aside0.mk A330
            clear A330
            replace H := Option.bind_eq_some_iff.mp H
            obtain ⟨t162, A340, H⟩ := H
            replace H : (packet_Put.l1 k2 t162 l0_2 (l0_2.length : Int) x28_1 ((rd_T51 l0_2 x28_1).f9) (((rd_T51 l0_2 x28_1).f9).length : Int) (wrap64 (x56_2 + 1)) ((rd_T51 l0_2 x28_1).f0) ((rd_T51 l0_2 x28_1).f1) ((rd_T51 l0_2 x28_1).f2) ((rd_T51 l0_2 x28_1).f3) ((rd_T51 l0_2 x28_1).f4) ((rd_T51 l0_2 x28_1).f5) ((rd_T51 l0_2 x28_1).f6) ((rd_T51 l0_2 x28_1).f7) ((rd_T51 l0_2 x28_1).f8) ((rd_T51 l0_2 x28_1).f9) ((rd_T51 l0_2 x28_1).f10)) = some (r1, r2) := H
            have A34 := Aside0.mk A340
            clear A340
            have H' := Aside0.mk H
            clear H
            have p154 : 0 ≤ (x56_2 : Int) := of_decide_eq_true (by first | (with_reducible assumption) | assumption)
            have q154 : x56_2 < (((rd_T51 l0_2 x28_1).f9).length : Int) := of_decide_eq_true (by first | (with_reducible assumption) | assumption)
            obtain ⟨ad154, A154_1, c154_1, e154, hx154_0, hx154_1, hl154_1, hi154_1⟩ := at_T48 HR145_9.out x56_2 p154 q154
            cases e154
            replace hx154_0 := (HB.out.cell (World.block_lt_of_cell? w _ hx154_0)).trans hx154_0
            replace hx154_1 := (HB.out.cell (World.block_lt_of_cell? w _ hx154_1)).trans hx154_1
            have HR154_1 := Aside0.mk hi154_1
            have HC154_1 := Aside0.mk hl154_1
            clear hi154_1 hl154_1
            replace p154 := eq_true p154
            replace q154 := eq_true q154
            try go_wp2_with (first | ((with_reducible refine gate_dst (N := 9) rfl ?_); refine box_event ?hg (N := 9) ?hd (cs := #[.int .i64 0, .slice none 0 0]) (t := 48) ?hr ?_; (case hd => rfl); (case hg => rfl); (case hr => first | (go_simp; done) | (go_simp; rfl)); intro gb155 hg w35 hbox hb; have n0_ := Aside0.mk (Kd.R_below (by (with_reducible repeat (first | apply Kd.R_alloc | apply Kd.R_drewN | apply Kd.R_drew)); exact HO_5.out) hb); have n1_ := Aside0.mk (blk_below (g := gb130) (o := .cells #[.int .i64 a0_0, .int .i64 a0_1, .slice (some ad145) l0_2.length c0_2] 24 (0, 0)) (by (with_reducible repeat (first | refine blk_drewN ?_ _ | refine blk_drew ?_ | refine blk_alloc ?_ _)); exact BK130.out) hb); have n2_ := Aside0.mk (blk_below (g := gb146) (o := .cells #[.int .i64 ((rd_T51 l0_2 x28_1).f0), .int .i64 ((rd_T51 l0_2 x28_1).f1), .int .i64 ((rd_T51 l0_2 x28_1).f2), .int .i64 ((rd_T51 l0_2 x28_1).f3), .int .i64 ((rd_T51 l0_2 x28_1).f4), .int .i64 ((rd_T51 l0_2 x28_1).f5), .int .i64 ((rd_T51 l0_2 x28_1).f6), .int .i64 ((rd_T51 l0_2 x28_1).f7), .bool ((rd_T51 l0_2 x28_1).f8), .slice (some ad154) ((rd_T51 l0_2 x28_1).f9).length c145_9, .slice A145_10 ((rd_T51 l0_2 x28_1).f10).length c145_10] 51 (0, 0)) (by (with_reducible repeat (first | refine blk_drewN ?_ _ | refine blk_drew ?_ | refine blk_alloc ?_ _)); exact BK146.out) hb); have n3_ := Aside0.mk (below_step (by repeat (first | (with_reducible first | exact HB.out | apply below_alloc | apply pw_below_drewN | apply below_drew1 | refine below_set ?_ GE130.out | refine below_set ?_ GE146.out) | exact HB.out)) hb); have n4_ := Aside0.mk (hbox); have n5_ := Aside0.mk ((by rw [hg]; exact (below_size (by repeat (first | (with_reducible first | exact HB.out | apply below_alloc | apply pw_below_drewN | apply below_drew1 | refine below_set ?_ GE130.out | refine below_set ?_ GE146.out) | exact HB.out))) : w.heap.size ≤ gb155)); have n6_ := Aside0.mk ((by rw [hg]; exact (below_size (by repeat (first | (with_reducible first | exact HB.out | apply below_alloc | apply pw_below_drewN | apply below_drew1 | refine below_set ?_ GE130.out | refine below_set ?_ GE146.out) | exact HB.out))) : w.heap.size ≤ gb155)); have n7_ := Aside0.mk ((by rw [hg]; exact Nat.ne_of_lt (blk_lt (g := gb130) (o := .cells #[.int .i64 a0_0, .int .i64 a0_1, .slice (some ad145) l0_2.length c0_2] 24 (0, 0)) (by (with_reducible repeat (first | refine blk_drewN ?_ _ | refine blk_drew ?_ | refine blk_alloc ?_ _)); exact BK130.out)) : gb130 ≠ gb155)); have n8_ := Aside0.mk ((by rw [hg]; exact Nat.ne_of_gt (blk_lt (g := gb130) (o := .cells #[.int .i64 a0_0, .int .i64 a0_1, .slice (some ad145) l0_2.length c0_2] 24 (0, 0)) (by (with_reducible repeat (first | refine blk_drewN ?_ _ | refine blk_drew ?_ | refine blk_alloc ?_ _)); exact BK130.out)) : gb155 ≠ gb130)); have n9_ := Aside0.mk ((by rw [hg]; exact Nat.ne_of_lt (blk_lt (g := gb146) (o := .cells #[.int .i64 ((rd_T51 l0_2 x28_1).f0), .int .i64 ((rd_T51 l0_2 x28_1).f1), .int .i64 ((rd_T51 l0_2 x28_1).f2), .int .i64 ((rd_T51 l0_2 x28_1).f3), .int .i64 ((rd_T51 l0_2 x28_1).f4), .int .i64 ((rd_T51 l0_2 x28_1).f5), .int .i64 ((rd_T51 l0_2 x28_1).f6), .int .i64 ((rd_T51 l0_2 x28_1).f7), .bool ((rd_T51 l0_2 x28_1).f8), .slice (some ad154) ((rd_T51 l0_2 x28_1).f9).length c145_9, .slice A145_10 ((rd_T51 l0_2 x28_1).f10).length c145_10] 51 (0, 0)) (by (with_reducible repeat (first | refine blk_drewN ?_ _ | refine blk_drew ?_ | refine blk_alloc ?_ _)); exact BK146.out)) : gb146 ≠ gb155)); have n10_ := Aside0.mk ((by rw [hg]; exact Nat.ne_of_gt (blk_lt (g := gb146) (o := .cells #[.int .i64 ((rd_T51 l0_2 x28_1).f0), .int .i64 ((rd_T51 l0_2 x28_1).f1), .int .i64 ((rd_T51 l0_2 x28_1).f2), .int .i64 ((rd_T51 l0_2 x28_1).f3), .int .i64 ((rd_T51 l0_2 x28_1).f4), .int .i64 ((rd_T51 l0_2 x28_1).f5), .int .i64 ((rd_T51 l0_2 x28_1).f6), .int .i64 ((rd_T51 l0_2 x28_1).f7), .bool ((rd_T51 l0_2 x28_1).f8), .slice (some ad154) ((rd_T51 l0_2 x28_1).f9).length c145_9, .slice A145_10 ((rd_T51 l0_2 x28_1).f10).length c145_10] 51 (0, 0)) (by (with_reducible repeat (first | refine blk_drewN ?_ _ | refine blk_drew ?_ | refine blk_alloc ?_ _)); exact BK146.out)) : gb155 ≠ gb146)); clear HO_5; clear BK130; clear BK146; clear HB; have HO_5 := n0_; have BK130 := n1_; have BK146 := n2_; have HB := n3_; have BK155 := n4_; have GW155 := n5_; have GE155 := n6_; have NB130_155 := n7_; have NB155_130 := n8_; have NB146_155 := n9_; have NB155_146 := n10_; clear n0_ n1_ n2_ n3_ n4_ n5_ n6_ n7_ n8_ n9_ n10_; clear hb hbox hg; have hnb36 := NB155_130.out; have hnc36 := NB130_155.out; have hnb37 := NB155_146.out; have hnc37 := NB146_155.out; have hcz38_0 : w35.cell? ⟨gb155, 0, none⟩ = some (.int .i64 0) := (blk_cell BK155.out 0).trans rfl; have hcz38_1 : w35.cell? ⟨gb155, 1, none⟩ = some (.slice none 0 0) := (blk_cell BK155.out 1).trans rfl; have hfz38_0 := blk_frozen BK155.out 0; have hfz38_1 := blk_frozen BK155.out 1))
            have n0_ : Aside0 (Kd.R (Kd.int .u8) 5 ((w35.setCell ⟨gb155, 0, none⟩ (.int .i64 ((rd_T48 ((rd_T51 l0_2 x28_1).f9) x56_2).f0))).setCell ⟨gb155, 1, none⟩ (.slice A154_1 ((rd_T48 ((rd_T51 l0_2 x28_1).f9) x56_2).f1).length c154_1)) w.heap.size (fun _ => True) u5 x5_2) := ⟨by (with_reducible repeat (first | apply Kd.R_alloc | apply Kd.R_drewN | apply Kd.R_drew)); exact Kd.R_mono (Kd.R_far (p := ⟨gb155, 1, none⟩) (Kd.R_far (p := ⟨gb155, 0, none⟩) (Kd.R_types HO_5.out BK155.out (by decide)) (fun _ hk => hk.2) (.int .i64 ((rd_T48 ((rd_T51 l0_2 x28_1).f9) x56_2).f0))) (fun _ hk => hk.2) (.slice A154_1 ((rd_T48 ((rd_T51 l0_2 x28_1).f9) x56_2).f1).length c154_1)) (fun _ hk => trivial)⟩
            have n1_ : Aside0 (((w35.setCell ⟨gb155, 0, none⟩ (.int .i64 ((rd_T48 ((rd_T51 l0_2 x28_1).f9) x56_2).f0))).setCell ⟨gb155, 1, none⟩ (.slice A154_1 ((rd_T48 ((rd_T51 l0_2 x28_1).f9) x56_2).f1).length c154_1)).heap[gb130]? = some (.cells #[.int .i64 a0_0, .int .i64 a0_1, .slice (some ad145) l0_2.length c0_2] 24 (0, 0))) := ⟨by (with_reducible repeat (first | refine blk_drewN ?_ _ | refine blk_drew ?_ | refine blk_alloc ?_ _)); refine blk_far ?_ NB130_155.out _; (with_reducible repeat (first | refine blk_drewN ?_ _ | refine blk_drew ?_ | refine blk_alloc ?_ _)); refine blk_far ?_ NB130_155.out _; (with_reducible repeat (first | refine blk_drewN ?_ _ | refine blk_drew ?_ | refine blk_alloc ?_ _)); exact BK130.out⟩
            have n2_ : Aside0 (((w35.setCell ⟨gb155, 0, none⟩ (.int .i64 ((rd_T48 ((rd_T51 l0_2 x28_1).f9) x56_2).f0))).setCell ⟨gb155, 1, none⟩ (.slice A154_1 ((rd_T48 ((rd_T51 l0_2 x28_1).f9) x56_2).f1).length c154_1)).heap[gb146]? = some (.cells #[.int .i64 ((rd_T51 l0_2 x28_1).f0), .int .i64 ((rd_T51 l0_2 x28_1).f1), .int .i64 ((rd_T51 l0_2 x28_1).f2), .int .i64 ((rd_T51 l0_2 x28_1).f3), .int .i64 ((rd_T51 l0_2 x28_1).f4), .int .i64 ((rd_T51 l0_2 x28_1).f5), .int .i64 ((rd_T51 l0_2 x28_1).f6), .int .i64 ((rd_T51 l0_2 x28_1).f7), .bool ((rd_T51 l0_2 x28_1).f8), .slice (some ad154) ((rd_T51 l0_2 x28_1).f9).length c145_9, .slice A145_10 ((rd_T51 l0_2 x28_1).f10).length c145_10] 51 (0, 0))) := ⟨by (with_reducible repeat (first | refine blk_drewN ?_ _ | refine blk_drew ?_ | refine blk_alloc ?_ _)); refine blk_far ?_ NB146_155.out _; (with_reducible repeat (first | refine blk_drewN ?_ _ | refine blk_drew ?_ | refine blk_alloc ?_ _)); refine blk_far ?_ NB146_155.out _; (with_reducible repeat (first | refine blk_drewN ?_ _ | refine blk_drew ?_ | refine blk_alloc ?_ _)); exact BK146.out⟩
            have n3_ : Aside0 (((w35.setCell ⟨gb155, 0, none⟩ (.int .i64 ((rd_T48 ((rd_T51 l0_2 x28_1).f9) x56_2).f0))).setCell ⟨gb155, 1, none⟩ (.slice A154_1 ((rd_T48 ((rd_T51 l0_2 x28_1).f9) x56_2).f1).length c154_1)).heap[gb155]? = some (.cells #[.int .i64 ((rd_T48 ((rd_T51 l0_2 x28_1).f9) x56_2).f0), .slice A154_1 ((rd_T48 ((rd_T51 l0_2 x28_1).f9) x56_2).f1).length c154_1] 48 (0, 0))) := ⟨by (with_reducible repeat (first | refine blk_drewN ?_ _ | refine blk_drew ?_ | refine blk_alloc ?_ _)); refine blk_put (cs := #[.int .i64 ((rd_T48 ((rd_T51 l0_2 x28_1).f9) x56_2).f0), .slice none 0 0]) ?_ 1 _ rfl; (with_reducible repeat (first | refine blk_drewN ?_ _ | refine blk_drew ?_ | refine blk_alloc ?_ _)); refine blk_put (cs := #[.int .i64 0, .slice none 0 0]) ?_ 0 _ rfl; (with_reducible repeat (first | refine blk_drewN ?_ _ | refine blk_drew ?_ | refine blk_alloc ?_ _)); exact BK155.out⟩
            have n4_ : Aside0 (Below w.heap.size w ((w35.setCell ⟨gb155, 0, none⟩ (.int .i64 ((rd_T48 ((rd_T51 l0_2 x28_1).f9) x56_2).f0))).setCell ⟨gb155, 1, none⟩ (.slice A154_1 ((rd_T48 ((rd_T51 l0_2 x28_1).f9) x56_2).f1).length c154_1))) := ⟨by repeat (first | (with_reducible first | exact HB.out | apply below_alloc | apply pw_below_drewN | apply below_drew1 | refine below_set ?_ GE130.out | refine below_set ?_ GE146.out | refine below_set ?_ GE155.out) | exact HB.out)⟩
            (try clear HO_5)
            (try clear BK130)
            (try clear BK146)
            (try clear BK155)
            (try clear HB)
            generalize ((w35.setCell ⟨gb155, 0, none⟩ (.int .i64 ((rd_T48 ((rd_T51 l0_2 x28_1).f9) x56_2).f0))).setCell ⟨gb155, 1, none⟩ (.slice A154_1 ((rd_T48 ((rd_T51 l0_2 x28_1).f9) x56_2).f1).length c154_1)) = w39 at n0_ n1_ n2_ n3_ n4_ ⊢
            have HO_5 := n0_
            have BK130 := n1_
            have BK146 := n2_
            have BK155 := n3_
            have HB := n4_
            clear n0_ n1_ n2_ n3_ n4_
            have n0_ := Aside0.mk (Kd.R_drew HO_5.out)
            have n1_ := Aside0.mk (blk_drew BK130.out)
            have n2_ := Aside0.mk (blk_drew BK146.out)
            have n3_ := Aside0.mk (blk_drew BK155.out)
            have n4_ := Aside0.mk (below_drew1 HB.out)
            clear HO_5
            clear BK130
            clear BK146
            clear BK155
            clear HB
            have HO_5 := n0_
            have BK130 := n1_
            have BK146 := n2_
            have BK155 := n3_
            have HB := n4_
            clear n0_ n1_ n2_ n3_ n4_
            refine start_ (n := 9) (S := fun w' => w'.cell? ⟨gb155, 0, none⟩ = some (.int .i64 ((rd_T48 ((rd_T51 l0_2 x28_1).f9) x56_2).f0)) ∧ w'.cell? ⟨gb155, 1, none⟩ = some (.slice A154_1 ((rd_T48 ((rd_T51 l0_2 x28_1).f9) x56_2).f1).length c154_1)) (ds := []) #[false, false, false, false, false, false, false, false, false] (by kernel_rfl) rfl rfl ⟨(blk_cell BK155.out 0).trans rfl, (blk_cell BK155.out 1).trans rfl⟩ (fun hHeld => ?_); refine with_tabW packet_Put.tab12 packet_Put.bits12 (fun HT_ HW_ => ?_)
            generalize w39.drew = w40 at HO_5 BK130 BK146 BK155 HB hHeld ⊢
            refine pure_ (i := 0) (N := some 60) (v := ?_) (a' := ?_) #[true, false, false, false, false, false, false, false, false] rfl rfl (any_of HT_.out (by kernel_rfl)) (fun _ _ _ h => h) (Or.inl ⟨by rfl, ?_⟩) ?_ ?_
            rotate_left
            ·intro w'
             go_simp
             with_reducible rfl
            rotate_left
            ·simp only [Act.put, List.setIfInBounds_toArray, List.set_cons_zero, List.set_cons_succ, i64_w, i32_w]
             rfl
            refine pure_ (i := 1) (N := some 61) (v := ?_) (a' := ?_) #[true, true, false, false, false, false, false, false, false] rfl rfl (any_of HT_.out (by kernel_rfl)) (fun _ _ _ h => h) (Or.inl ⟨by rfl, ?_⟩) ?_ ?_
            rotate_left
            ·intro w'
             go_simp
             with_reducible rfl
            rotate_left
            ·simp only [Act.put, List.setIfInBounds_toArray, List.set_cons_zero, List.set_cons_succ, i64_w, i32_w]
             rfl
            refine pure_ (i := 5) (N := some 65) (v := ?_) (a' := ?_) #[true, true, false, false, false, true, false, false, false] rfl rfl (any_of HT_.out (by kernel_rfl)) (fun _ _ _ h => h) (Or.inl ⟨by rfl, ?_⟩) ?_ ?_
            rotate_left
            ·intro w'
             go_simp
             with_reducible rfl
            rotate_left
            ·simp only [Act.put, List.setIfInBounds_toArray, List.set_cons_zero, List.set_cons_succ, i64_w, i32_w]
             rfl
            refine take_ (i := 2) (N := some 62) (v := ?_) (a' := ?_) #[true, true, true, false, false, true, false, false, false] rfl rfl (take_ofW HT_.out HW_.out (by kernel_rfl)) (fun _ _ _ h => h) (Or.inl ⟨by rfl, ?_⟩) hHeld ?_ ?_
            rotate_left
            ·rintro w' ⟨s0, s1⟩
             go_simp
             with_reducible rfl
            rotate_left
            ·simp only [Act.put, List.setIfInBounds_toArray, List.set_cons_zero, List.set_cons_succ, i64_w, i32_w]
             rfl
            refine take_ (i := 6) (N := some 66) (v := ?_) (a' := ?_) #[true, true, true, false, false, true, true, false, false] rfl rfl (take_ofW HT_.out HW_.out (by kernel_rfl)) (fun _ _ _ h => h) (Or.inl ⟨by rfl, ?_⟩) hHeld ?_ ?_
            rotate_left
            ·rintro w' ⟨s0, s1⟩
             go_simp
             with_reducible rfl
            rotate_left
            ·simp only [Act.put, List.setIfInBounds_toArray, List.set_cons_zero, List.set_cons_succ, i64_w, i32_w]
             rfl
            refine one_ (i := 3) (N := some 63) #[true, true, true, true, false, true, true, false, false] rfl rfl (one_of HT_.out (by kernel_rfl)) (by decide) (fun K hK => ?_)
            refine Kd.R_lit_step (Kd.int .i64) _ 3 ?hg (N := 63) ?hd (xs := ([(rd_T48 ((rd_T51 l0_2 x28_1).f9) x56_2).f0] : List Int)) (inner := [.int .i64 ((rd_T48 ((rd_T51 l0_2 x28_1).f9) x56_2).f0)]) (ok := fun _ => True) (okp := fun _ => True) ?hr ?hp (fun _ hk => hk) trivial (Below.refl _ _) (Nat.le_refl _) (by simp) ?_; (case hd => rfl); (case hg => rfl); (case hr => first | (go_simp; done) | (go_simp; rfl)); (case hp => exact (Reps.one (show Kd.M (Kd.int .i64) _ _ _ ((rd_T48 ((rd_T51 l0_2 x28_1).f9) x56_2).f0) [.int .i64 ((rd_T48 ((rd_T51 l0_2 x28_1).f9) x56_2).f0)] from rfl) (Reps.none _ _)))
            intro v157 w41 ho42 hb hg_ hnew_
            clear hg_ hnew_
            (first | rw [← Ny156.out] at ho42 | (simp only [Int.reduceToNat] at ho42; rw [← Ny156.out] at ho42))
            have n0_ := Aside0.mk (Kd.R_below (by (with_reducible repeat (first | apply Kd.R_alloc | apply Kd.R_drewN | apply Kd.R_drew)); exact HO_5.out) hb)
            have n1_ := Aside0.mk (Kd.R_lower ho42 (below_size (by repeat (first | (with_reducible first | exact HB.out | apply below_alloc | apply pw_below_drewN | apply below_drew1 | refine below_set ?_ GE130.out | refine below_set ?_ GE146.out | refine below_set ?_ GE155.out) | exact HB.out))))
            have n2_ := Aside0.mk (blk_below (g := gb130) (o := .cells #[.int .i64 a0_0, .int .i64 a0_1, .slice (some ad145) l0_2.length c0_2] 24 (0, 0)) (by (with_reducible repeat (first | refine blk_drewN ?_ _ | refine blk_drew ?_ | refine blk_alloc ?_ _)); exact BK130.out) hb)
            have n3_ := Aside0.mk (blk_below (g := gb146) (o := .cells #[.int .i64 ((rd_T51 l0_2 x28_1).f0), .int .i64 ((rd_T51 l0_2 x28_1).f1), .int .i64 ((rd_T51 l0_2 x28_1).f2), .int .i64 ((rd_T51 l0_2 x28_1).f3), .int .i64 ((rd_T51 l0_2 x28_1).f4), .int .i64 ((rd_T51 l0_2 x28_1).f5), .int .i64 ((rd_T51 l0_2 x28_1).f6), .int .i64 ((rd_T51 l0_2 x28_1).f7), .bool ((rd_T51 l0_2 x28_1).f8), .slice (some ad154) ((rd_T51 l0_2 x28_1).f9).length c145_9, .slice A145_10 ((rd_T51 l0_2 x28_1).f10).length c145_10] 51 (0, 0)) (by (with_reducible repeat (first | refine blk_drewN ?_ _ | refine blk_drew ?_ | refine blk_alloc ?_ _)); exact BK146.out) hb)
            have n4_ := Aside0.mk (blk_below (g := gb155) (o := .cells #[.int .i64 ((rd_T48 ((rd_T51 l0_2 x28_1).f9) x56_2).f0), .slice A154_1 ((rd_T48 ((rd_T51 l0_2 x28_1).f9) x56_2).f1).length c154_1] 48 (0, 0)) (by (with_reducible repeat (first | refine blk_drewN ?_ _ | refine blk_drew ?_ | refine blk_alloc ?_ _)); exact BK155.out) hb)
            have n5_ := Aside0.mk (below_step (by repeat (first | (with_reducible first | exact HB.out | apply below_alloc | apply pw_below_drewN | apply below_drew1 | refine below_set ?_ GE130.out | refine below_set ?_ GE146.out | refine below_set ?_ GE155.out) | exact HB.out)) hb)
            clear HO_5
            clear BK130
            clear BK146
            clear BK155
            clear HB
            have HO_5 := n0_
            have HO158 := n1_
            have BK130 := n2_
            have BK146 := n3_
            have BK155 := n4_
            have HB := n5_
            clear n0_ n1_ n2_ n3_ n4_ n5_
            clear hb ho42
            obtain ⟨Ao43, co43, eo43⟩ := Kd.R_slice HO_5.out
            (first | subst eo43 | (injection eo43 with f1_ f2_ f3_; have f4_ := f1_.symm; have f5_ := f3_.symm; clear f1_ f2_ f3_; subst f4_; subst f5_))
            obtain ⟨Ao44, co44, eo44⟩ := Kd.R_slice HO158.out
            (first | subst eo44 | (injection eo44 with f1_ f2_ f3_; have f4_ := f1_.symm; have f5_ := f3_.symm; clear f1_ f2_ f3_; subst f4_; subst f5_))
            refine hK.out _ _ ⟨(blk_cell BK155.out 0).trans rfl, (blk_cell BK155.out 1).trans rfl⟩ (fun hHeld => ?_)
            clear hK K
            refine norm_ (a' := ?_) ?_ ?_
            rotate_left
            ·show Act.put _ (some 63) _ = _
             simp only [Act.put, List.setIfInBounds_toArray, List.set_cons_zero, List.set_cons_succ, i64_w, i32_w]
             rfl
            refine one_ (i := 4) (N := some 64) #[true, true, true, true, true, true, true, false, false] rfl rfl (one_of HT_.out (by kernel_rfl)) (by decide) (fun K hK => ?_)
            refine goes_ Try.func22 (by kernel_rfl) rfl #[.slice Ao43 x5_2.length co43, .slice Ao44 y156.length co44] (by rfl) rfl rfl (by (try simp only [List.map_toArray, List.map_cons, List.map_nil]); first | done | rfl | (simp only [List.length_drop, List.length_take]; rfl)) ?_
            with_reducible refine (packet_numbers.calls k2 (fun k_ => some k_ = (.slice Ao43 x5_2.length co43 : Value).ownBlock) (.slice Ao43 x5_2.length co43) x5_2 _ _ y156 t159 w _ ?side1 ?side2 ?side3 ?side4 A33.out).mono ?_
            (case side1 => repeat (first | (with_reducible first | exact HB.out | apply below_alloc | apply pw_below_drewN | apply below_drew1 | refine below_set ?_ GE130.out | refine below_set ?_ GE146.out | refine below_set ?_ GE155.out) | exact HB.out))
            (case side2 => exact Kd.R_tight rfl HO_5.out)
            (case side3 => exact Kd.C_kept_own ((Kd.R_apart' HO158.out (Kd.R_typed HO_5.out) (by decide))) (fun k_ hk_ hs_ => (hk_.2) hs_))
            (case side4 => exact (Kd.R_reads' HO158.out).2.1)
            rintro e w45 ⟨v160, rfl, ho0, hb, hkp⟩
            refine ⟨_, rfl, ?_⟩
            have n0_ := Aside0.mk (blk_kept (by (with_reducible repeat (first | refine blk_drewN ?_ _ | refine blk_drew ?_ | refine blk_alloc ?_ _)); exact BK130.out) hkp (fun hs_ => (fun e_ => (Kd.R_ne HO_5.out BK130.out (by decide)) e_) hs_))
            have n1_ := Aside0.mk (blk_kept (by (with_reducible repeat (first | refine blk_drewN ?_ _ | refine blk_drew ?_ | refine blk_alloc ?_ _)); exact BK146.out) hkp (fun hs_ => (fun e_ => (Kd.R_ne HO_5.out BK146.out (by decide)) e_) hs_))
            have n2_ := Aside0.mk (blk_kept (by (with_reducible repeat (first | refine blk_drewN ?_ _ | refine blk_drew ?_ | refine blk_alloc ?_ _)); exact BK155.out) hkp (fun hs_ => (fun e_ => (Kd.R_ne HO_5.out BK155.out (by decide)) e_) hs_))
            have n3_ := Aside0.mk (Kd.R_mono (ok' := fun k_ => True) (Kd.R_keptB ((Kd.R_apart' HO158.out (Kd.R_typed HO_5.out) (by decide))) hkp (fun k_ hk_ hs_ => (hk_.2) hs_)) (fun k_ hk_ => trivial))
            have n4_ := Aside0.mk (Kd.R_mono (ok' := fun k_ => True) ho0 (fun k_ hk_ => trivial))
            have n5_ := Aside0.mk (hb)
            clear BK130
            clear BK146
            clear BK155
            clear HO158
            clear HB
            clear HO_5
            have BK130 := n0_
            have BK146 := n1_
            have BK155 := n2_
            have HO158 := n3_
            have HO161 := n4_
            have HB := n5_
            clear n0_ n1_ n2_ n3_ n4_ n5_
            (try clear hb)
            (try clear hkp)
            (try clear ho0)
            obtain ⟨Ao46, co46, eo46⟩ := Kd.R_slice HO161.out
            (first | subst eo46 | (injection eo46 with f1_ f2_ f3_; have f4_ := f1_.symm; have f5_ := f3_.symm; clear f1_ f2_ f3_; subst f4_; subst f5_))
            refine hK.out _ _ ⟨(blk_cell BK155.out 0).trans rfl, (blk_cell BK155.out 1).trans rfl⟩ (fun hHeld => ?_)
            clear hK K
            refine norm_ (a' := ?_) ?_ ?_
            rotate_left
            ·show Act.put _ (some 64) _ = _
             simp only [Act.put, List.setIfInBounds_toArray, List.set_cons_zero, List.set_cons_succ, i64_w, i32_w]
             rfl
            refine one_ (i := 7) (N := some 67) #[true, true, true, true, true, true, true, true, false] rfl rfl (one_of HT_.out (by kernel_rfl)) (by decide) (fun K hK => ?_)
            refine goes_ Try.func24 (by kernel_rfl) rfl #[.slice Ao46 t159.length co46, .slice A154_1 ((rd_T48 ((rd_T51 l0_2 x28_1).f9) x56_2).f1).length c154_1] (by rfl) rfl rfl (by (try simp only [List.map_toArray, List.map_cons, List.map_nil]); first | done | rfl | (simp only [List.length_drop, List.length_take]; rfl)) ?_
            with_reducible refine (pack_Bytes.calls k2 (fun k_ => some k_ = (.slice Ao46 t159.length co46 : Value).ownBlock) (.slice Ao46 t159.length co46) t159 _ _ ((rd_T48 ((rd_T51 l0_2 x28_1).f9) x56_2).f1) t162 w _ ?side1 ?side2 ?side3 ?side4 A34.out).mono ?_
            (case side1 => repeat (first | (with_reducible first | exact HB.out | apply below_alloc | apply pw_below_drewN | apply below_drew1 | refine below_set ?_ GE130.out | refine below_set ?_ GE146.out | refine below_set ?_ GE155.out) | exact HB.out))
            (case side2 => exact Kd.R_tight rfl HO161.out)
            (case side3 => exact Kd.C_kept_came (Kd.heap_int .u8) HR154_1.out (by repeat (first | (with_reducible first | exact HB.out | apply below_alloc | apply pw_below_drewN | apply below_drew1 | refine below_set ?_ GE130.out | refine below_set ?_ GE146.out | refine below_set ?_ GE155.out) | exact HB.out)) (fun k_ hs_ => (fun e_ => Kd.R_base HO161.out k_ e_.symm) hs_))
            (case side4 => exact HC154_1.out)
            rintro e w47 ⟨v163, rfl, ho0, hb, hkp⟩
            refine ⟨_, rfl, ?_⟩
            have n0_ := Aside0.mk (blk_kept (by (with_reducible repeat (first | refine blk_drewN ?_ _ | refine blk_drew ?_ | refine blk_alloc ?_ _)); exact BK130.out) hkp (fun hs_ => (fun e_ => (Kd.R_ne HO161.out BK130.out (by decide)) e_) hs_))
            have n1_ := Aside0.mk (blk_kept (by (with_reducible repeat (first | refine blk_drewN ?_ _ | refine blk_drew ?_ | refine blk_alloc ?_ _)); exact BK146.out) hkp (fun hs_ => (fun e_ => (Kd.R_ne HO161.out BK146.out (by decide)) e_) hs_))
            have n2_ := Aside0.mk (blk_kept (by (with_reducible repeat (first | refine blk_drewN ?_ _ | refine blk_drew ?_ | refine blk_alloc ?_ _)); exact BK155.out) hkp (fun hs_ => (fun e_ => (Kd.R_ne HO161.out BK155.out (by decide)) e_) hs_))
            have n3_ := Aside0.mk (Kd.R_mono (ok' := fun k_ => True) (Kd.R_keptB ((Kd.R_apart' HO158.out (Kd.R_typed HO161.out) (by decide))) hkp (fun k_ hk_ hs_ => (hk_.2) hs_)) (fun k_ hk_ => trivial))
            have n4_ := Aside0.mk (Kd.R_mono (ok' := fun k_ => True) ho0 (fun k_ hk_ => trivial))
            have n5_ := Aside0.mk (hb)
            clear BK130
            clear BK146
            clear BK155
            clear HO158
            clear HB
            clear HO161
            have BK130 := n0_
            have BK146 := n1_
            have BK155 := n2_
            have HO158 := n3_
            have HO164 := n4_
            have HB := n5_
            clear n0_ n1_ n2_ n3_ n4_ n5_
            (try clear hb)
            (try clear hkp)
            (try clear ho0)
            refine hK.out _ _ ⟨(blk_cell BK155.out 0).trans rfl, (blk_cell BK155.out 1).trans rfl⟩ (fun hHeld => ?_)
            clear hK K
            refine norm_ (a' := ?_) ?_ ?_
            rotate_left
            ·show Act.put _ (some 67) _ = _
             simp only [Act.put, List.setIfInBounds_toArray, List.set_cons_zero, List.set_cons_succ, i64_w, i32_w]
             rfl
            refine pure_ (i := 8) (N := some 5) (v := ?_) (a' := ?_) #[true, true, true, true, true, true, true, true, true] rfl rfl (any_of HT_.out (by kernel_rfl)) (fun _ _ _ h => h) (Or.inl ⟨by rfl, ?_⟩) ?_ ?_
            rotate_left
            ·intro w'
             go_simp
             with_reducible rfl
            rotate_left
            ·simp only [Act.put, List.setIfInBounds_toArray, List.set_cons_zero, List.set_cons_succ, i64_w, i32_w]
             rfl
            refine done_ (done_of HT_.out (by kernel_rfl)) ?_
            try go_wp2
            go_roundg k2
            case measure => have := HK1.out; have := HK2.out; omega
            case rel => exact ⟨(t162), (wrap64 (x56_2 + 1)), (by first | rfl | (simp; done) | (simp [*]; done)), H', ⟨by have := HK1.out; have := HK2.out; omega⟩, ⟨by (with_reducible repeat (first | apply Kd.R_alloc | apply Kd.R_drewN | apply Kd.R_drew)); exact HO164.out⟩, ⟨by (with_reducible repeat (first | refine blk_drewN ?_ _ | refine blk_drew ?_ | refine blk_alloc ?_ _)); exact BK130.out⟩, ⟨by (with_reducible repeat (first | refine blk_drewN ?_ _ | refine blk_drew ?_ | refine blk_alloc ?_ _)); exact BK146.out⟩, ⟨by repeat (first | (with_reducible first | exact HB.out | apply below_alloc | apply pw_below_drewN | apply below_drew1 | refine below_set ?_ GE130.out | refine below_set ?_ GE146.out | refine below_set ?_ GE155.out) | exact HB.out)⟩⟩
           ·rw [if_neg c32] at H
            exact absurd H (by simp)
          ·rw [if_neg c31] at H
           exact absurd H (by simp)
         ·rw [if_neg c30] at H
          have c30b0 : decide (x56_2 < (((rd_T51 l0_2 x28_1).f9).length : Int)) = false := decide_eq_false c30
          clear c30
          replace H := Option.bind_eq_some_iff.mp H
          obtain ⟨t165, A480, H⟩ := H
          replace H : (packet_Put.l0 k2 t165 l0_2 (l0_2.length : Int) (wrap64 (x28_1 + 1))) = some (r1, r2) := H
          have A48 := Aside0.mk A480
          clear A480
          have H' := Aside0.mk H
          clear H
          have hnb49 := NB146_130.out
          have hnc49 := NB130_146.out
          have hcz50_0 : wr.cell? ⟨gb146, 0, none⟩ = some (.int .i64 ((rd_T51 l0_2 x28_1).f0)) := (blk_cell BK146.out 0).trans rfl
          have hcz50_1 : wr.cell? ⟨gb146, 1, none⟩ = some (.int .i64 ((rd_T51 l0_2 x28_1).f1)) := (blk_cell BK146.out 1).trans rfl
          have hcz50_2 : wr.cell? ⟨gb146, 2, none⟩ = some (.int .i64 ((rd_T51 l0_2 x28_1).f2)) := (blk_cell BK146.out 2).trans rfl
          have hcz50_3 : wr.cell? ⟨gb146, 3, none⟩ = some (.int .i64 ((rd_T51 l0_2 x28_1).f3)) := (blk_cell BK146.out 3).trans rfl
          have hcz50_4 : wr.cell? ⟨gb146, 4, none⟩ = some (.int .i64 ((rd_T51 l0_2 x28_1).f4)) := (blk_cell BK146.out 4).trans rfl
          have hcz50_5 : wr.cell? ⟨gb146, 5, none⟩ = some (.int .i64 ((rd_T51 l0_2 x28_1).f5)) := (blk_cell BK146.out 5).trans rfl
          have hcz50_6 : wr.cell? ⟨gb146, 6, none⟩ = some (.int .i64 ((rd_T51 l0_2 x28_1).f6)) := (blk_cell BK146.out 6).trans rfl
          have hcz50_7 : wr.cell? ⟨gb146, 7, none⟩ = some (.int .i64 ((rd_T51 l0_2 x28_1).f7)) := (blk_cell BK146.out 7).trans rfl
          have hcz50_8 : wr.cell? ⟨gb146, 8, none⟩ = some (.bool ((rd_T51 l0_2 x28_1).f8)) := (blk_cell BK146.out 8).trans rfl
          have hcz50_9 : wr.cell? ⟨gb146, 9, none⟩ = some (.slice A145_9 ((rd_T51 l0_2 x28_1).f9).length c145_9) := (blk_cell BK146.out 9).trans rfl
          have hcz50_10 : wr.cell? ⟨gb146, 10, none⟩ = some (.slice A145_10 ((rd_T51 l0_2 x28_1).f10).length c145_10) := (blk_cell BK146.out 10).trans rfl
          have hfz50_0 := blk_frozen BK146.out 0
          have hfz50_1 := blk_frozen BK146.out 1
          have hfz50_2 := blk_frozen BK146.out 2
          have hfz50_3 := blk_frozen BK146.out 3
          have hfz50_4 := blk_frozen BK146.out 4
          have hfz50_5 := blk_frozen BK146.out 5
          have hfz50_6 := blk_frozen BK146.out 6
          have hfz50_7 := blk_frozen BK146.out 7
          have hfz50_8 := blk_frozen BK146.out 8
          have hfz50_9 := blk_frozen BK146.out 9
          have hfz50_10 := blk_frozen BK146.out 10
          obtain ⟨Ao51, co51, eo51⟩ := Kd.R_slice HO_5.out
          subst eo51
          go_wp2_with (first | ((with_reducible refine gate_callee (f := 24) rfl ?_); refine goesL_ (some 72) rfl rfl Try.func24 (by kernel_rfl) rfl #[.slice Ao51 x5_2.length co51, .slice A145_10 ((rd_T51 l0_2 x28_1).f10).length c145_10] rfl (by (try simp only [List.map_toArray, List.map_cons, List.map_nil]); first | done | rfl | (simp only [List.length_drop, List.length_take]; rfl)) ?_; (with_reducible refine (pack_Bytes.calls k2 (fun k_ => some k_ = (.slice Ao51 x5_2.length co51 : Value).ownBlock) (.slice Ao51 x5_2.length co51) x5_2 _ _ ((rd_T51 l0_2 x28_1).f10) t165 w _ ?side1 ?side2 ?side3 ?side4 A48.out).mono ?_); (case side1 => repeat (first | (with_reducible first | exact HB.out | apply below_alloc | apply pw_below_drewN | apply below_drew1 | refine below_set ?_ GE130.out | refine below_set ?_ GE146.out) | exact HB.out)); (case side2 => exact Kd.R_tight rfl HO_5.out); (case side3 => exact Kd.C_kept_came (Kd.heap_int .u8) HR145_10.out (by repeat (first | (with_reducible first | exact HB.out | apply below_alloc | apply pw_below_drewN | apply below_drew1 | refine below_set ?_ GE130.out | refine below_set ?_ GE146.out) | exact HB.out)) (fun k_ hs_ => (fun e_ => Kd.R_base HO_5.out k_ e_.symm) hs_)); (case side4 => exact HC145_10.out); rintro e w52 ⟨v166, rfl, ho0, hb, hkp⟩; refine ⟨_, rfl, ?_⟩; have n0_ := Aside0.mk (blk_kept (by (with_reducible repeat (first | refine blk_drewN ?_ _ | refine blk_drew ?_ | refine blk_alloc ?_ _)); exact BK130.out) hkp (fun hs_ => (fun e_ => (Kd.R_ne HO_5.out BK130.out (by decide)) e_) hs_)); have n1_ := Aside0.mk (blk_kept (by (with_reducible repeat (first | refine blk_drewN ?_ _ | refine blk_drew ?_ | refine blk_alloc ?_ _)); exact BK146.out) hkp (fun hs_ => (fun e_ => (Kd.R_ne HO_5.out BK146.out (by decide)) e_) hs_)); have n2_ := Aside0.mk (Kd.R_mono (ok' := fun k_ => True) ho0 (fun k_ hk_ => trivial)); have n3_ := Aside0.mk (hb); clear BK130; clear BK146; clear HB; clear HO_5; have BK130 := n0_; have BK146 := n1_; have HO167 := n2_; have HB := n3_; clear n0_ n1_ n2_ n3_; (try clear hb); (try clear hkp); (try clear ho0)))
          go_roundg k2
          case measure => have := HK1.out; have := HK2.out; omega
          case rel => exact ⟨(t165), (wrap64 (x28_1 + 1)), (by first | rfl | (simp; done) | (simp [*]; done)), H', ⟨by have := HK1.out; have := HK2.out; omega⟩, ⟨by (with_reducible repeat (first | apply Kd.R_alloc | apply Kd.R_drewN | apply Kd.R_drew)); exact HO167.out⟩, ⟨by (with_reducible repeat (first | refine blk_drewN ?_ _ | refine blk_drew ?_ | refine blk_alloc ?_ _)); exact BK130.out⟩, ⟨by repeat (first | (with_reducible first | exact HB.out | apply below_alloc | apply pw_below_drewN | apply below_drew1 | refine below_set ?_ GE130.out | refine below_set ?_ GE146.out) | exact HB.out)⟩⟩
      ·rw [if_neg c16] at H
       exact absurd H (by simp)
     ·rw [if_neg c15] at H
      exact absurd H (by simp)
    ·rw [if_neg c14] at H
     have c14b0 : decide (x28_1 < (l0_2.length : Int)) = false := decide_eq_false c14
     clear c14
     replace H := Option.bind_eq_some_iff.mp H
     obtain ⟨t138, A530, H⟩ := H
     replace H : ((some (([(t138) % 256, (t138 / 256) % 256, (t138 / 65536) % 256, (t138 / 16777216) % 256] : List Int) : List Int)).bind fun y139 => (if x5_1.length + y139.length < 140737488355328 then (some ((x5_1 ++ y139), 0)) else (none))) = some (r1, r2) := H
     have A53 := Aside0.mk A530
     clear A530
     obtain ⟨y139, hy139⟩ : ∃ y_ : List Int, y_ = (([(t138) % 256, (t138 / 256) % 256, (t138 / 65536) % 256, (t138 / 16777216) % 256] : List Int)) := ⟨_, rfl⟩
     replace H : (if x5_1.length + y139.length < 140737488355328 then (some ((x5_1 ++ y139), 0)) else (none)) = some (r1, r2) := by first | (rw [hy139]; with_reducible exact H) | (have H2_ := (Option.bind_some _ _).symm.trans H; rw [hy139]; with_reducible exact H2_) | (have H2_ := (Option.bind_some _ _).symm.trans H; with_reducible exact H2_) | with_reducible exact H | (rw [hy139]; exact H) | exact H
     have Ny139 := Aside0.mk hy139
     clear hy139
     by_cases c54 : x5_1.length + y139.length < 140737488355328
     ·rw [if_pos c54] at H
      have LMc54 := Aside0.mk c54
      clear c54
      obtain ⟨y142, hy142⟩ : ∃ y_ : List Int, y_ = (x5_1 ++ y139) := ⟨_, rfl⟩
      replace H : (some (y142, 0)) = some (r1, r2) := by first | (rw [hy142]; with_reducible exact H) | (have H2_ := (Option.bind_some _ _).symm.trans H; rw [hy142]; with_reducible exact H2_) | (have H2_ := (Option.bind_some _ _).symm.trans H; with_reducible exact H2_) | with_reducible exact H | (rw [hy142]; exact H) | exact H
      have Ny142 := Aside0.mk hy142
      clear hy142
      simp only [Option.some.injEq, Prod.mk.injEq] at H
      obtain ⟨rfl, rfl⟩ := H
      obtain ⟨Ao55, co55, eo55⟩ := Kd.R_slice HO_5.out
      subst eo55
      go_wp2_with (first | ((with_reducible refine gate_callee (f := 25) rfl ?_); refine goesL_ (some 75) rfl rfl Try.func25 (by kernel_rfl) rfl #[.slice Ao55 x5_1.length co55] rfl (by (try simp only [List.map_toArray, List.map_cons, List.map_nil]); first | done | rfl | (simp only [List.length_drop, List.length_take]; rfl)) ?_; (with_reducible refine (crc_Sum.calls k1 _ _ x5_1 t138 _ ?side1 ?side2 A53.out).mono ?_); (case side1 => repeat (first | exact (Kd.R_reads' HO_5.out).2.2 | (with_reducible refine Kd.C_alloc ?_ _) | (with_reducible refine Kd.C_drewN ?_ _) | (with_reducible refine Kd.C_drew ?_))); (case side2 => exact (Kd.R_reads' HO_5.out).2.1); rintro e w' ⟨rfl, ⟨nd, rfl⟩⟩; refine ⟨_, rfl, ?_⟩) | ((with_reducible refine gate_dst (N := 88) rfl ?_); refine Kd.R_lit (Kd.int .u8) _ 5 ?hg (N := 88) ?hd (xs := ([(t138) % 256, (t138 / 256) % 256, (t138 / 65536) % 256, (t138 / 16777216) % 256] : List Int)) (inner := [.int .u8 ((t138) % 256), .int .u8 ((t138 / 256) % 256), .int .u8 ((t138 / 65536) % 256), .int .u8 ((t138 / 16777216) % 256)]) (ok := fun _ => True) (okp := fun _ => True) ?hr ?hp (fun _ hk => hk) trivial (Below.refl _ _) (Nat.le_refl _) (by simp) ?_; (case hd => rfl); (case hg => rfl); (case hr => first | (go_simp; done) | (go_simp; rfl)); (case hp => exact (Reps.one (show Kd.M (Kd.int .u8) _ _ _ ((t138) % 256) [.int .u8 ((t138) % 256)] from rfl) (Reps.one (show Kd.M (Kd.int .u8) _ _ _ ((t138 / 256) % 256) [.int .u8 ((t138 / 256) % 256)] from rfl) (Reps.one (show Kd.M (Kd.int .u8) _ _ _ ((t138 / 65536) % 256) [.int .u8 ((t138 / 65536) % 256)] from rfl) (Reps.one (show Kd.M (Kd.int .u8) _ _ _ ((t138 / 16777216) % 256) [.int .u8 ((t138 / 16777216) % 256)] from rfl) (Reps.none _ _)))))); intro v140 w56 ho57 hb hg_ hnew_; clear hg_ hnew_; (first | rw [← Ny139.out] at ho57 | (simp only [Int.reduceToNat] at ho57; rw [← Ny139.out] at ho57)); have n0_ := Aside0.mk (Kd.R_elder' (by (with_reducible repeat (first | apply Kd.R_alloc | apply Kd.R_drewN | apply Kd.R_drew)); exact HO_5.out) (Kd.R_base ho57) hb); have n1_ := Aside0.mk (Kd.R_lower (Kd.R_new' ho57 (Kd.R_lt (by (with_reducible repeat (first | apply Kd.R_alloc | apply Kd.R_drewN | apply Kd.R_drew)); exact HO_5.out))) (below_size (by repeat (first | (with_reducible first | exact HB.out | apply below_alloc | apply pw_below_drewN | apply below_drew1 | refine below_set ?_ GE130.out) | exact HB.out)))); have n2_ := Aside0.mk (blk_below (g := gb130) (o := .cells #[.int .i64 a0_0, .int .i64 a0_1, .slice A0_2 l0_2.length c0_2] 24 (0, 0)) (by (with_reducible repeat (first | refine blk_drewN ?_ _ | refine blk_drew ?_ | refine blk_alloc ?_ _)); exact BK130.out) hb); have n3_ := Aside0.mk (below_step (by repeat (first | (with_reducible first | exact HB.out | apply below_alloc | apply pw_below_drewN | apply below_drew1 | refine below_set ?_ GE130.out) | exact HB.out)) hb); clear HO_5; clear BK130; clear HB; have HO_5 := n0_; have HO141 := n1_; have BK130 := n2_; have HB := n3_; clear n0_ n1_ n2_ n3_; clear hb ho57; obtain ⟨Ao59, co59, eo59⟩ := Kd.R_slice HO141.out; subst eo59) | ((with_reducible refine gate_builtin (b := .append) (xs := #[.tmp 76, .tmp 88]) rfl ?_); at_builtin; refine Kd.R_append_rows (Kd.int .u8) (w0 := w) w.heap.size rfl (.tmp 76) (.tmp 88) 27 5 (.int .u8 0) 1 rfl Try.underlying27 info5 rfl (by decide) (by omega) (.slice Ao55 x5_1.length co55) x5_1 y139 _ _ _ (fun k_ => some k_ ≠ (.slice Ao59 y139.length co59 : Value).ownBlock) (fun _ => False) rfl rfl ?aO ?aR (fun _ _ h => h) (fun _ h => h.elim) ?aF ?aB ?aS ?aL ?_; (case aR => repeat (first | exact (Kd.R_reads' HO141.out).2.2 | (with_reducible refine Kd.C_alloc ?_ _) | (with_reducible refine Kd.C_drewN ?_ _) | (with_reducible refine Kd.C_drew ?_))); (case aB => exact (by repeat (first | (with_reducible first | exact HB.out | apply below_alloc | apply pw_below_drewN | apply below_drew1 | refine below_set ?_ GE130.out) | exact HB.out))); (case aF => exact (fun k_ hk => Kd.fresh' (Kd.R_lt (by (with_reducible repeat (first | apply Kd.R_alloc | apply Kd.R_drewN | apply Kd.R_drew)); exact HO141.out)) k_ hk)); (case aO => exact (by (with_reducible repeat (first | apply Kd.R_alloc | apply Kd.R_drewN | apply Kd.R_drew)); exact Kd.R_mono HO_5.out (fun _ hk => hk.2))); (case aS => exact (below_size (by repeat (first | (with_reducible first | exact HB.out | apply below_alloc | apply pw_below_drewN | apply below_drew1 | refine below_set ?_ GE130.out) | exact HB.out)))); (case aL => have := LMc54.out; omega); intro v143 w58 ho hb hg hat; rw [← Ny142.out] at ho; have n0_ := Aside0.mk (blk_grown (g := gb130) (o := .cells #[.int .i64 a0_0, .int .i64 a0_1, .slice A0_2 l0_2.length c0_2] 24 (0, 0)) (by (with_reducible repeat (first | refine blk_drewN ?_ _ | refine blk_drew ?_ | refine blk_alloc ?_ _)); exact BK130.out) hg (Kd.R_ne HO_5.out BK130.out (by decide))); have n1_ := Aside0.mk (Kd.R_after (ok := (fun _ => True)) (by (with_reducible repeat (first | apply Kd.R_alloc | apply Kd.R_drewN | apply Kd.R_drew)); exact HO141.out) hg hat); have n2_ := Aside0.mk (hb); have n3_ := Aside0.mk (ho); clear BK130; clear HO141; clear HB; clear HO_5; have BK130 := n0_; have HO141 := n1_; have HB := n2_; have HO144 := n3_; clear n0_ n1_ n2_ n3_; clear ho hb hg hat))
      go_ret2
      exact ⟨_, by first | rfl | (simp [errW_none, errW_some] <;> rfl) | (simp [*, errW_none, errW_some] <;> rfl), by (with_reducible repeat (first | apply Kd.R_alloc | apply Kd.R_drewN | apply Kd.R_drew)); exact Kd.R_mono HO144.out (fun _ hk => trivial), by repeat (first | (with_reducible first | exact HB.out | apply below_alloc | apply pw_below_drewN | apply below_drew1 | refine below_set ?_ GE130.out) | exact HB.out)⟩
     ·rw [if_neg c54] at H
      exact absurd H (by simp)
 ·rw [if_neg c3] at H
  have c3b0 : (t131 == 0) = false := beq_eq_false_iff_ne.mpr c3
  have c3b1 : (t131 != 0) = true := bne_iff_ne.mpr c3
  simp only [Option.some.injEq, Prod.mk.injEq] at H
  obtain ⟨rfl, rfl⟩ := H
  go_enter Try.func10, Try.ntmps10
  go_wp2_with (first | ((with_reducible refine gate_dst (N := 1) rfl ?_); refine box_event ?hg (N := 1) ?hd (cs := #[.int .i64 a0_0, .int .i64 a0_1, .slice A0_2 l0_2.length c0_2]) (t := 24) ?hr ?_; (case hd => rfl); (case hg => rfl); (case hr => first | (go_simp; done) | (go_simp; rfl)); intro gb130 hg w60 hbox hb; have n0_ := Aside0.mk (below_step (by repeat (first | (with_reducible first | exact HB.out | apply below_alloc | apply pw_below_drewN | apply below_drew1) | exact HB.out)) hb); have n1_ := Aside0.mk (hbox); have n2_ := Aside0.mk ((by rw [hg]; exact (below_size (by repeat (first | (with_reducible first | exact HB.out | apply below_alloc | apply pw_below_drewN | apply below_drew1) | exact HB.out))) : w.heap.size ≤ gb130)); have n3_ := Aside0.mk ((by rw [hg]; exact (below_size (by repeat (first | (with_reducible first | exact HB.out | apply below_alloc | apply pw_below_drewN | apply below_drew1) | exact HB.out))) : w.heap.size ≤ gb130)); clear HB; have HB := n0_; have BK130 := n1_; have GW130 := n2_; have GE130 := n3_; clear n0_ n1_ n2_ n3_; clear hb hbox hg; have hcz61_0 : w60.cell? ⟨gb130, 0, none⟩ = some (.int .i64 a0_0) := (blk_cell BK130.out 0).trans rfl; have hcz61_1 : w60.cell? ⟨gb130, 1, none⟩ = some (.int .i64 a0_1) := (blk_cell BK130.out 1).trans rfl; have hcz61_2 : w60.cell? ⟨gb130, 2, none⟩ = some (.slice A0_2 l0_2.length c0_2) := (blk_cell BK130.out 2).trans rfl; have hfz61_0 := blk_frozen BK130.out 0; have hfz61_1 := blk_frozen BK130.out 1; have hfz61_2 := blk_frozen BK130.out 2) | ((with_reducible refine gate_callee (f := 13) rfl ?_); refine goesL_ (some 12) rfl rfl Try.func13 (by kernel_rfl) rfl #[.agg #[.int .i64 a0_0, .int .i64 a0_1, .slice A0_2 l0_2.length c0_2]] rfl (by (try simp only [List.map_toArray, List.map_cons, List.map_nil]); first | done | rfl | (simp only [List.length_drop, List.length_take]; rfl)) ?_; (with_reducible refine (packet_Check.calls k a0_0 a0_1 _ _ l0_2 t131 _ ?side1 ?side2 A2.out).mono ?_); (case side1 => repeat (first | exact (Kd.C_below HR0_2.out HB.out) | (with_reducible refine Kd.C_alloc ?_ _) | (with_reducible refine Kd.C_drewN ?_ _) | (with_reducible refine Kd.C_drew ?_))); (case side2 => exact HC0_2.out); rintro e w62 ⟨rfl, hb⟩; refine ⟨_, rfl, ?_⟩; have n0_ := Aside0.mk (blk_below (g := gb130) (o := .cells #[.int .i64 a0_0, .int .i64 a0_1, .slice A0_2 l0_2.length c0_2] 24 (0, 0)) (by (with_reducible repeat (first | refine blk_drewN ?_ _ | refine blk_drew ?_ | refine blk_alloc ?_ _)); exact BK130.out) hb); have n1_ := Aside0.mk (below_step (by repeat (first | (with_reducible first | exact HB.out | apply below_alloc | apply pw_below_drewN | apply below_drew1 | refine below_set ?_ GE130.out) | exact HB.out)) hb); clear BK130; clear HB; have BK130 := n0_; have HB := n1_; clear n0_ n1_; (try clear hb); (try clear hb2); (try clear hk); (try clear hi)))
  go_ret2
  exact ⟨_, by first | rfl | (simp [errW_none, errW_some] <;> rfl) | (simp [*, errW_none, errW_some] <;> rfl), by first | exact Kd.R_nil _ _ _ _ _ | exact Kd.N_nil _ _ _ _ _ | exact Kd.V_nil _ _ _ _ _ | exact Kd.Q_nil _ _ _ _ _ | exact Kd.S_nil _ _ _ _ _, by repeat (first | (with_reducible first | exact HB.out | apply below_alloc | apply pw_below_drewN | apply below_drew1 | refine below_set ?_ GE130.out) | exact HB.out)⟩

end Go.Proofs.Ytnmcahlpkebpjaa.XPacketPuts
