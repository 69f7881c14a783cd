-- written by xprint (wip/tools): a program of this session that goes on from the kit's print
import Derived.Test.YtnmcahlpkebpjaaXPacketTogetherx0
import Derived.Test.YtnmcahlpkebpjaaXPacketTogetherx1
import Derived.Test.YtnmcahlpkebpjaaXPacketTogetherx8
import Derived.Test.YtnmcahlpkebpjaaXPacketTogetherx9
namespace Go.Proofs.Ytnmcahlpkebpjaa.XPacketTogether
open Go.Proofs.YtnmcahlpkebpjaaX
open Go.RowKit Go.Proofs.YtnmcahlpkebpjaaW.PrintWords Go.Proofs.YtnmcahlpkebpjaaW.PrintLast Go.Proofs.YtnmcahlpkebpjaaW.PrintMore
attribute [local go_sem] max2_int min2_int max_two min_two max_three min_three max_four min_four   -- for this text's walks alone
set_option linter.unusedVariables false
set_option linter.unusedSimpArgs false

/-! ### funicularlaw17_PacketTogether: function 7 -/
def funicularlaw17_PacketTogether.l0 : Nat → Int → List (S51) → List (S24) → Int → Int → Option (Bool)
  | 0, _, _, _, _, _ => none
  | k + 1, x0, x1, x5, x6, x7 => if x7 < (x5.length : Int) then (if 0 ≤ x7 then (if ((rd_T24 x5 x7).f0) = x0 then (if ((rd_T24 x5 x7).f1) = x0 then (some false) else (if x7 > 0 then (if 0 ≤ (wrap64 (x7 - 1)) then (if (wrap64 (x7 - 1)) < (x5.length : Int) then (if ((rd_T24 x5 (wrap64 (x7 - 1))).f1) ≥ ((rd_T24 x5 x7).f1) then (some false) else (funicularlaw17_PacketTogether.l0 k x0 x1 x5 (wrap64 (x6 + (((rd_T24 x5 x7).f2).length : Int))) (wrap64 (x7 + 1)))) else (none)) else (none)) else (funicularlaw17_PacketTogether.l0 k x0 x1 x5 (wrap64 (x6 + (((rd_T24 x5 x7).f2).length : Int))) (wrap64 (x7 + 1))))) else (some false)) else (none)) else (if x6 ≤ (x1.length : Int) then ((funicularlaw17_works.f).bind fun t216 => (some t216)) else (some false))
def funicularlaw17_PacketTogether.f (k : Nat) (a0 : Int) (l1 : List (S51)) : Option (Bool) := (funicularlaw17_light.f k l1).bind fun t202 => (if t202 = true then ((packet_Together.f k a0 l1).bind fun t204 => ((funicularref17_Together.f k a0 l1).bind fun t207 => ((funicularref17_SameAll.f k t204 t207).bind fun t210 => (if t210 = true then (funicularlaw17_PacketTogether.l0 k a0 l1 t204 0 0) else (some false))))) else ((funicularlaw17_works.f).bind fun t203 => (some t203)))
theorem funicularlaw17_PacketTogether.mono_l : ∀ k, (∀ y0 y1 y2 y3 y4, LeO (funicularlaw17_PacketTogether.l0 k y0 y1 y2 y3 y4) (funicularlaw17_PacketTogether.l0 (k + 1) y0 y1 y2 y3 y4))
  | 0 => fun _ _ _ _ _ r h => by simp [funicularlaw17_PacketTogether.l0] at h
  | k + 1 => by
    have ih0 := funicularlaw17_PacketTogether.mono_l k
    · intro y0 y1 y2 y3 y4
      unfold funicularlaw17_PacketTogether.l0
      repeat' first
      | (with_reducible exact ih0 _ _ _ _ _)
      | (with_reducible exact funicularlaw17_light.mono _ _)
      | (with_reducible exact funicularref17_SameAll.mono _ _ _)
      | (with_reducible exact funicularref17_Together.mono _ _ _)
      | (with_reducible exact packet_Together.mono _ _ _)
      | (with_reducible exact LeO.refl _)
      | (with_reducible exact LeO.none _)
      | (with_reducible refine LeO.ite ?_ ?_)
      | (with_reducible refine LeO.bind ?_ (fun _ => ?_))
      | exact ih0 _ _ _ _ _
      | exact funicularlaw17_light.mono _ _
      | exact funicularref17_SameAll.mono _ _ _
      | exact funicularref17_Together.mono _ _ _
      | exact packet_Together.mono _ _ _
      | exact LeO.none _
      | refine LeO.ite ?_ ?_
      | refine LeO.bind ?_ (fun _ => ?_)
theorem funicularlaw17_PacketTogether.mono : ∀ a0 a1 k, LeO (funicularlaw17_PacketTogether.f k a0 a1) (funicularlaw17_PacketTogether.f (k + 1) a0 a1) := by
  intro a0 a1 k
  have ih0 := funicularlaw17_PacketTogether.mono_l k
  unfold funicularlaw17_PacketTogether.f
  repeat' first
      | (with_reducible exact ih0 _ _ _ _ _)
      | (with_reducible exact funicularlaw17_light.mono _ _)
      | (with_reducible exact funicularref17_SameAll.mono _ _ _)
      | (with_reducible exact funicularref17_Together.mono _ _ _)
      | (with_reducible exact packet_Together.mono _ _ _)
      | (with_reducible exact LeO.refl _)
      | (with_reducible exact LeO.none _)
      | (with_reducible refine LeO.ite ?_ ?_)
      | (with_reducible refine LeO.bind ?_ (fun _ => ?_))
      | exact ih0 _ _ _ _ _
      | exact funicularlaw17_light.mono _ _
      | exact funicularref17_SameAll.mono _ _ _
      | exact funicularref17_Together.mono _ _ _
      | exact packet_Together.mono _ _ _
      | exact LeO.none _
      | refine LeO.ite ?_ ?_
      | refine LeO.bind ?_ (fun _ => ?_)
set_option maxHeartbeats 8000000 in
set_option maxRecDepth 100000 in
theorem funicularlaw17_PacketTogether.calls (k : Nat) (a0 : Int) (A1 : Option Addr) (c1 : Nat) (l1 : List (S51)) (r : Bool) (w : World) (hr1 : Kd.C k51 w A1 l1.length l1) (hc1 : l1.length ≤ c1) (h : funicularlaw17_PacketTogether.f k a0 l1 = some r) :
    Calls Try.prog 7 #[.int .i64 a0, .slice A1 l1.length c1] w fun e w' => e = .returned (.bool r) ∧ Below w.heap.size w w' := by
  have HR1 := Aside0.mk hr1
  have HC1 := Aside0.mk hc1
  clear hr1 hc1
  have HB := Aside0.mk (Below.refl w.heap.size w)
  have H : ((funicularlaw17_light.f k l1).bind fun t202 => (if t202 = true then ((packet_Together.f k a0 l1).bind fun t204 => ((funicularref17_Together.f k a0 l1).bind fun t207 => ((funicularref17_SameAll.f k t204 t207).bind fun t210 => (if t210 = true then (funicularlaw17_PacketTogether.l0 k a0 l1 t204 0 0) else (some false))))) else ((funicularlaw17_works.f).bind fun t203 => (some t203)))) = some r := h
  clear h
  replace H := Option.bind_eq_some_iff.mp H
  obtain ⟨t202, A30, H⟩ := H
  replace H : (if t202 = true then ((packet_Together.f k a0 l1).bind fun t204 => ((funicularref17_Together.f k a0 l1).bind fun t207 => ((funicularref17_SameAll.f k t204 t207).bind fun t210 => (if t210 = true then (funicularlaw17_PacketTogether.l0 k a0 l1 t204 0 0) else (some false))))) else ((funicularlaw17_works.f).bind fun t203 => (some t203))) = some r := H
  have A3 := Aside0.mk A30
  clear A30
  by_cases c4 : t202 = true
  · subst c4
    have H1 : ((packet_Together.f k a0 l1).bind fun t204 => ((funicularref17_Together.f k a0 l1).bind fun t207 => ((funicularref17_SameAll.f k t204 t207).bind fun t210 => (if t210 = true then (funicularlaw17_PacketTogether.l0 k a0 l1 t204 0 0) else (some false))))) = some r := by rw [if_pos rfl] at H; exact H
    clear H
    have H := H1
    clear H1
    replace H := Option.bind_eq_some_iff.mp H
    obtain ⟨t204, A50, H⟩ := H
    replace H : ((funicularref17_Together.f k a0 l1).bind fun t207 => ((funicularref17_SameAll.f k t204 t207).bind fun t210 => (if t210 = true then (funicularlaw17_PacketTogether.l0 k a0 l1 t204 0 0) else (some false)))) = some r := H
    have A5 := Aside0.mk A50
    clear A50
    replace H := Option.bind_eq_some_iff.mp H
    obtain ⟨t207, A60, H⟩ := H
    replace H : ((funicularref17_SameAll.f k t204 t207).bind fun t210 => (if t210 = true then (funicularlaw17_PacketTogether.l0 k a0 l1 t204 0 0) else (some false))) = some r := H
    have A6 := Aside0.mk A60
    clear A60
    replace H := Option.bind_eq_some_iff.mp H
    obtain ⟨t210, A70, H⟩ := H
    replace H : (if t210 = true then (funicularlaw17_PacketTogether.l0 k a0 l1 t204 0 0) else (some false)) = some r := H
    have A7 := Aside0.mk A70
    clear A70
    by_cases c8 : t210 = true
    · subst c8
      have H1 : (funicularlaw17_PacketTogether.l0 k a0 l1 t204 0 0) = some r := by rw [if_pos rfl] at H; exact H
      clear H
      have H := H1
      clear H1
      have H' := Aside0.mk H
      clear H
      go_enter Try.func7, Try.ntmps7
      go_wp2_with (first | (go_at_call 8; (with_reducible refine (funicularlaw17_light.calls k _ _ l1 true _ ?side1 ?side2 A3.out).mono ?_); (case side1 => repeat (first | exact HR1.out | (with_reducible refine Kd.C_alloc ?_ _) | (with_reducible refine Kd.C_drewN ?_ _) | (with_reducible refine Kd.C_drew ?_))); (case side2 => exact HC1.out); rintro e w' ⟨rfl, ⟨nd, rfl⟩⟩; (try first | exact ⟨rfl, _, World.drewN_drewN _ _ _⟩ | exact ⟨rfl, _, Eq.trans (World.drewN_drewN _ _ _) (congrArg (World.drewN _) (Nat.add_assoc _ _ _))⟩)) | (go_at_call 18; (with_reducible refine (packet_Together.calls k a0 (fun k_ => k_ < w.heap.size) _ _ l1 t204 _ ?side1 A5.out).mono ?_); (case side1 => exact Kd.V_mk HC1.out (Kd.F_below (Kd.C_F k51_heap HR1.out) (by repeat (first | (with_reducible first | exact HB.out | apply below_alloc | apply pw_below_drewN | apply below_drew1) | exact HB.out)))); rintro e w9 ⟨v205, rfl, ho0, hb⟩; have n0_ := Aside0.mk (Kd.N_lower (Kd.N_mono (ok' := fun k_ => True) ho0 (fun k_ hk_ => trivial)) (below_size (by repeat (first | (with_reducible first | exact HB.out | apply below_alloc | apply pw_below_drewN | apply below_drew1) | exact HB.out)))); have n1_ := Aside0.mk (below_step (by repeat (first | (with_reducible first | exact HB.out | apply below_alloc | apply pw_below_drewN | apply below_drew1) | exact HB.out)) hb); clear HB; have HO206 := n0_; have HB := n1_; clear n0_ n1_; (try clear hb); (try clear hb2); (try clear hk); (try clear hi); (try clear ho0)) | (go_at_call 20; (with_reducible refine (funicularref17_Together.calls k a0 (fun k_ => k_ < w.heap.size) _ _ l1 t207 _ ?side1 A6.out).mono ?_); (case side1 => exact Kd.V_mk HC1.out (Kd.F_below (Kd.C_F k51_heap HR1.out) (by repeat (first | (with_reducible first | exact HB.out | apply below_alloc | apply pw_below_drewN | apply below_drew1) | exact HB.out)))); rintro e w10 ⟨v208, rfl, ho0, hb⟩; have n0_ := Aside0.mk (Kd.N_elder' (by (with_reducible repeat (first | apply Kd.N_alloc | apply Kd.N_drewN | apply Kd.N_drew)); exact HO206.out) (Kd.N_base ho0) hb); have n1_ := Aside0.mk (Kd.N_lower (Kd.N_mono (ok' := fun k_ => some k_ ≠ (v205 : Value).ownBlock) ho0 (fun k_ hk_ => Or.elim hk_ (fun hs_ => fun e_ => Nat.not_le.2 hs_ (Kd.N_base HO206.out k_ e_.symm)) (fun hn_ => (Kd.fresh' (Kd.N_lt (by (with_reducible repeat (first | apply Kd.N_alloc | apply Kd.N_drewN | apply Kd.N_drew)); exact HO206.out)) k_ hn_)))) (below_size (by repeat (first | (with_reducible first | exact HB.out | apply below_alloc | apply pw_below_drewN | apply below_drew1) | exact HB.out)))); have n2_ := Aside0.mk (below_step (by repeat (first | (with_reducible first | exact HB.out | apply below_alloc | apply pw_below_drewN | apply below_drew1) | exact HB.out)) hb); clear HO206; clear HB; have HO206 := n0_; have HO209 := n1_; have HB := n2_; clear n0_ n1_ n2_; (try clear hb); (try clear hb2); (try clear hk); (try clear hi); (try clear ho0); obtain ⟨Ao11, co11, eo11⟩ := Kd.N_slice HO206.out; subst eo11; obtain ⟨Ao12, co12, eo12⟩ := Kd.N_slice HO209.out; subst eo12) | (go_at_call 19; (with_reducible refine (funicularref17_SameAll.calls k _ _ t204 _ _ t207 true _ ?side1 ?side2 ?side3 ?side4 A7.out).mono ?_); (case side1 => repeat (first | exact (Kd.N_reads' HO206.out).2.2 | (with_reducible refine Kd.C_alloc ?_ _) | (with_reducible refine Kd.C_drewN ?_ _) | (with_reducible refine Kd.C_drew ?_))); (case side2 => exact (Kd.N_reads' HO206.out).2.1); (case side3 => repeat (first | exact (Kd.N_reads' HO209.out).2.2 | (with_reducible refine Kd.C_alloc ?_ _) | (with_reducible refine Kd.C_drewN ?_ _) | (with_reducible refine Kd.C_drew ?_))); (case side4 => exact (Kd.N_reads' HO209.out).2.1); rintro e w13 ⟨rfl, hb⟩; have n0_ := Aside0.mk (Kd.N_below (by (with_reducible repeat (first | apply Kd.N_alloc | apply Kd.N_drewN | apply Kd.N_drew)); exact HO206.out) hb); have n1_ := Aside0.mk (Kd.N_below (by (with_reducible repeat (first | apply Kd.N_alloc | apply Kd.N_drewN | apply Kd.N_drew)); exact HO209.out) hb); have n2_ := Aside0.mk (below_step (by repeat (first | (with_reducible first | exact HB.out | apply below_alloc | apply pw_below_drewN | apply below_drew1) | exact HB.out)) hb); clear HO206; clear HO209; clear HB; have HO206 := n0_; have HO209 := n1_; have HB := n2_; clear n0_ n1_ n2_; (try clear hb); (try clear hb2); (try clear hk); (try clear hi)))
      repeat (go_quiet (first | (go_at_call 8; (with_reducible refine (funicularlaw17_light.calls k _ _ l1 true _ ?side1 ?side2 A3.out).mono ?_); (case side1 => repeat (first | exact HR1.out | (with_reducible refine Kd.C_alloc ?_ _) | (with_reducible refine Kd.C_drewN ?_ _) | (with_reducible refine Kd.C_drew ?_))); (case side2 => exact HC1.out); rintro e w' ⟨rfl, ⟨nd, rfl⟩⟩; (try first | exact ⟨rfl, _, World.drewN_drewN _ _ _⟩ | exact ⟨rfl, _, Eq.trans (World.drewN_drewN _ _ _) (congrArg (World.drewN _) (Nat.add_assoc _ _ _))⟩)) | (go_at_call 18; (with_reducible refine (packet_Together.calls k a0 (fun k_ => k_ < w.heap.size) _ _ l1 t204 _ ?side1 A5.out).mono ?_); (case side1 => exact Kd.V_mk HC1.out (Kd.F_below (Kd.C_F k51_heap HR1.out) (by repeat (first | (with_reducible first | exact HB.out | apply below_alloc | apply pw_below_drewN | apply below_drew1) | exact HB.out)))); rintro e w9 ⟨v205, rfl, ho0, hb⟩; have n0_ := Aside0.mk (Kd.N_lower (Kd.N_mono (ok' := fun k_ => True) ho0 (fun k_ hk_ => trivial)) (below_size (by repeat (first | (with_reducible first | exact HB.out | apply below_alloc | apply pw_below_drewN | apply below_drew1) | exact HB.out)))); have n1_ := Aside0.mk (below_step (by repeat (first | (with_reducible first | exact HB.out | apply below_alloc | apply pw_below_drewN | apply below_drew1) | exact HB.out)) hb); clear HB; have HO206 := n0_; have HB := n1_; clear n0_ n1_; (try clear hb); (try clear hb2); (try clear hk); (try clear hi); (try clear ho0)) | (go_at_call 20; (with_reducible refine (funicularref17_Together.calls k a0 (fun k_ => k_ < w.heap.size) _ _ l1 t207 _ ?side1 A6.out).mono ?_); (case side1 => exact Kd.V_mk HC1.out (Kd.F_below (Kd.C_F k51_heap HR1.out) (by repeat (first | (with_reducible first | exact HB.out | apply below_alloc | apply pw_below_drewN | apply below_drew1) | exact HB.out)))); rintro e w10 ⟨v208, rfl, ho0, hb⟩; have n0_ := Aside0.mk (Kd.N_elder' (by (with_reducible repeat (first | apply Kd.N_alloc | apply Kd.N_drewN | apply Kd.N_drew)); exact HO206.out) (Kd.N_base ho0) hb); have n1_ := Aside0.mk (Kd.N_lower (Kd.N_mono (ok' := fun k_ => some k_ ≠ (v205 : Value).ownBlock) ho0 (fun k_ hk_ => Or.elim hk_ (fun hs_ => fun e_ => Nat.not_le.2 hs_ (Kd.N_base HO206.out k_ e_.symm)) (fun hn_ => (Kd.fresh' (Kd.N_lt (by (with_reducible repeat (first | apply Kd.N_alloc | apply Kd.N_drewN | apply Kd.N_drew)); exact HO206.out)) k_ hn_)))) (below_size (by repeat (first | (with_reducible first | exact HB.out | apply below_alloc | apply pw_below_drewN | apply below_drew1) | exact HB.out)))); have n2_ := Aside0.mk (below_step (by repeat (first | (with_reducible first | exact HB.out | apply below_alloc | apply pw_below_drewN | apply below_drew1) | exact HB.out)) hb); clear HO206; clear HB; have HO206 := n0_; have HO209 := n1_; have HB := n2_; clear n0_ n1_ n2_; (try clear hb); (try clear hb2); (try clear hk); (try clear hi); (try clear ho0); obtain ⟨Ao11, co11, eo11⟩ := Kd.N_slice HO206.out; subst eo11; obtain ⟨Ao12, co12, eo12⟩ := Kd.N_slice HO209.out; subst eo12) | (go_at_call 19; (with_reducible refine (funicularref17_SameAll.calls k _ _ t204 _ _ t207 true _ ?side1 ?side2 ?side3 ?side4 A7.out).mono ?_); (case side1 => repeat (first | exact (Kd.N_reads' HO206.out).2.2 | (with_reducible refine Kd.C_alloc ?_ _) | (with_reducible refine Kd.C_drewN ?_ _) | (with_reducible refine Kd.C_drew ?_))); (case side2 => exact (Kd.N_reads' HO206.out).2.1); (case side3 => repeat (first | exact (Kd.N_reads' HO209.out).2.2 | (with_reducible refine Kd.C_alloc ?_ _) | (with_reducible refine Kd.C_drewN ?_ _) | (with_reducible refine Kd.C_drew ?_))); (case side4 => exact (Kd.N_reads' HO209.out).2.1); rintro e w13 ⟨rfl, hb⟩; have n0_ := Aside0.mk (Kd.N_below (by (with_reducible repeat (first | apply Kd.N_alloc | apply Kd.N_drewN | apply Kd.N_drew)); exact HO206.out) hb); have n1_ := Aside0.mk (Kd.N_below (by (with_reducible repeat (first | apply Kd.N_alloc | apply Kd.N_drewN | apply Kd.N_drew)); exact HO209.out) hb); have n2_ := Aside0.mk (below_step (by repeat (first | (with_reducible first | exact HB.out | apply below_alloc | apply pw_below_drewN | apply below_drew1) | exact HB.out)) hb); clear HO206; clear HO209; clear HB; have HO206 := n0_; have HO209 := n1_; have HB := n2_; clear n0_ n1_ n2_; (try clear hb); (try clear hb2); (try clear hk); (try clear hi))); try go_wp2_with (first | (go_at_call 8; (with_reducible refine (funicularlaw17_light.calls k _ _ l1 true _ ?side1 ?side2 A3.out).mono ?_); (case side1 => repeat (first | exact HR1.out | (with_reducible refine Kd.C_alloc ?_ _) | (with_reducible refine Kd.C_drewN ?_ _) | (with_reducible refine Kd.C_drew ?_))); (case side2 => exact HC1.out); rintro e w' ⟨rfl, ⟨nd, rfl⟩⟩; (try first | exact ⟨rfl, _, World.drewN_drewN _ _ _⟩ | exact ⟨rfl, _, Eq.trans (World.drewN_drewN _ _ _) (congrArg (World.drewN _) (Nat.add_assoc _ _ _))⟩)) | (go_at_call 18; (with_reducible refine (packet_Together.calls k a0 (fun k_ => k_ < w.heap.size) _ _ l1 t204 _ ?side1 A5.out).mono ?_); (case side1 => exact Kd.V_mk HC1.out (Kd.F_below (Kd.C_F k51_heap HR1.out) (by repeat (first | (with_reducible first | exact HB.out | apply below_alloc | apply pw_below_drewN | apply below_drew1) | exact HB.out)))); rintro e w9 ⟨v205, rfl, ho0, hb⟩; have n0_ := Aside0.mk (Kd.N_lower (Kd.N_mono (ok' := fun k_ => True) ho0 (fun k_ hk_ => trivial)) (below_size (by repeat (first | (with_reducible first | exact HB.out | apply below_alloc | apply pw_below_drewN | apply below_drew1) | exact HB.out)))); have n1_ := Aside0.mk (below_step (by repeat (first | (with_reducible first | exact HB.out | apply below_alloc | apply pw_below_drewN | apply below_drew1) | exact HB.out)) hb); clear HB; have HO206 := n0_; have HB := n1_; clear n0_ n1_; (try clear hb); (try clear hb2); (try clear hk); (try clear hi); (try clear ho0)) | (go_at_call 20; (with_reducible refine (funicularref17_Together.calls k a0 (fun k_ => k_ < w.heap.size) _ _ l1 t207 _ ?side1 A6.out).mono ?_); (case side1 => exact Kd.V_mk HC1.out (Kd.F_below (Kd.C_F k51_heap HR1.out) (by repeat (first | (with_reducible first | exact HB.out | apply below_alloc | apply pw_below_drewN | apply below_drew1) | exact HB.out)))); rintro e w10 ⟨v208, rfl, ho0, hb⟩; have n0_ := Aside0.mk (Kd.N_elder' (by (with_reducible repeat (first | apply Kd.N_alloc | apply Kd.N_drewN | apply Kd.N_drew)); exact HO206.out) (Kd.N_base ho0) hb); have n1_ := Aside0.mk (Kd.N_lower (Kd.N_mono (ok' := fun k_ => some k_ ≠ (v205 : Value).ownBlock) ho0 (fun k_ hk_ => Or.elim hk_ (fun hs_ => fun e_ => Nat.not_le.2 hs_ (Kd.N_base HO206.out k_ e_.symm)) (fun hn_ => (Kd.fresh' (Kd.N_lt (by (with_reducible repeat (first | apply Kd.N_alloc | apply Kd.N_drewN | apply Kd.N_drew)); exact HO206.out)) k_ hn_)))) (below_size (by repeat (first | (with_reducible first | exact HB.out | apply below_alloc | apply pw_below_drewN | apply below_drew1) | exact HB.out)))); have n2_ := Aside0.mk (below_step (by repeat (first | (with_reducible first | exact HB.out | apply below_alloc | apply pw_below_drewN | apply below_drew1) | exact HB.out)) hb); clear HO206; clear HB; have HO206 := n0_; have HO209 := n1_; have HB := n2_; clear n0_ n1_ n2_; (try clear hb); (try clear hb2); (try clear hk); (try clear hi); (try clear ho0); obtain ⟨Ao11, co11, eo11⟩ := Kd.N_slice HO206.out; subst eo11; obtain ⟨Ao12, co12, eo12⟩ := Kd.N_slice HO209.out; subst eo12) | (go_at_call 19; (with_reducible refine (funicularref17_SameAll.calls k _ _ t204 _ _ t207 true _ ?side1 ?side2 ?side3 ?side4 A7.out).mono ?_); (case side1 => repeat (first | exact (Kd.N_reads' HO206.out).2.2 | (with_reducible refine Kd.C_alloc ?_ _) | (with_reducible refine Kd.C_drewN ?_ _) | (with_reducible refine Kd.C_drew ?_))); (case side2 => exact (Kd.N_reads' HO206.out).2.1); (case side3 => repeat (first | exact (Kd.N_reads' HO209.out).2.2 | (with_reducible refine Kd.C_alloc ?_ _) | (with_reducible refine Kd.C_drewN ?_ _) | (with_reducible refine Kd.C_drew ?_))); (case side4 => exact (Kd.N_reads' HO209.out).2.1); rintro e w13 ⟨rfl, hb⟩; have n0_ := Aside0.mk (Kd.N_below (by (with_reducible repeat (first | apply Kd.N_alloc | apply Kd.N_drewN | apply Kd.N_drew)); exact HO206.out) hb); have n1_ := Aside0.mk (Kd.N_below (by (with_reducible repeat (first | apply Kd.N_alloc | apply Kd.N_drewN | apply Kd.N_drew)); exact HO209.out) hb); have n2_ := Aside0.mk (below_step (by repeat (first | (with_reducible first | exact HB.out | apply below_alloc | apply pw_below_drewN | apply below_drew1) | exact HB.out)) hb); clear HO206; clear HO209; clear HB; have HO206 := n0_; have HO209 := n1_; have HB := n2_; clear n0_ n1_ n2_; (try clear hb); (try clear hb2); (try clear hk); (try clear hi))))
      go_loopg [6, 7] k (fun kq v6 v7 w' => ∃ (x6_1 : Int) (x7_1 : Int), v6 = .int .i64 x6_1 ∧ v7 = .int .i64 x7_1 ∧ Aside0 (funicularlaw17_PacketTogether.l0 kq a0 l1 t204 x6_1 x7_1 = some r) ∧ Aside0 (kq ≤ k) ∧ Aside0 (Kd.N k24 24 w' w.heap.size (fun _ => True) (.slice Ao11 t204.length co11) t204) ∧ Aside0 (Below w.heap.size w w'))
      case atStart => exact ⟨(0), (0), (by first | rfl | (simp; done) | (simp [*]; done)), (by first | rfl | (simp; done) | (simp [*]; done)), H', ⟨Nat.le_refl _⟩, ⟨by (with_reducible repeat (first | apply Kd.N_alloc | apply Kd.N_drewN | apply Kd.N_drew)); exact Kd.N_mono HO206.out (fun _ hk => trivial)⟩, ⟨by repeat (first | (with_reducible first | exact HB.out | apply below_alloc | apply pw_below_drewN | apply below_drew1) | exact HB.out)⟩⟩
      case round =>
        clear H'
        try clear c1
        try clear p2
        try clear c4
        try clear c7
        try clear c8
        obtain ⟨x6_1, x7_1, rfl, rfl, HA, HK1, HO_5, HB⟩ := hrel
        cases gk with
        | zero => exact absurd HA.out (by simp [funicularlaw17_PacketTogether.l0])
        | succ k1 =>
          have H := HA.out
          clear HA
          simp only [funicularlaw17_PacketTogether.l0] at H
          by_cases c14 : x7_1 < (t204.length : Int)
          · rw [if_pos c14] at H
            have c14b0 : decide (x7_1 < (t204.length : Int)) = true := decide_eq_true c14
            clear c14
            by_cases c15 : 0 ≤ x7_1
            · rw [if_pos c15] at H
              have c15b0 : decide (0 ≤ x7_1) = true := decide_eq_true c15
              clear c15
              by_cases c16 : ((rd_T24 t204 x7_1).f0) = a0
              · rw [if_pos c16] at H
                have c16b0 : (((rd_T24 t204 x7_1).f0) == a0) = true := beq_iff_eq.mpr c16
                have c16b1 : (((rd_T24 t204 x7_1).f0) != a0) = false := bne_eq_false_iff_eq.mpr c16
                clear c16
                by_cases c17 : ((rd_T24 t204 x7_1).f1) = a0
                · rw [if_pos c17] at H
                  have c17b0 : (((rd_T24 t204 x7_1).f1) == a0) = true := beq_iff_eq.mpr c17
                  have c17b1 : (((rd_T24 t204 x7_1).f1) != a0) = false := bne_eq_false_iff_eq.mpr c17
                  clear c17
                  obtain rfl := Option.some.inj H
                  have p211 : 0 ≤ (x7_1 : Int) := of_decide_eq_true (by first | (with_reducible assumption) | assumption)
                  have q211 : x7_1 < (t204.length : Int) := of_decide_eq_true (by first | (with_reducible assumption) | assumption)
                  obtain ⟨ad211, A211_2, c211_2, e211, hx211_0, hx211_1, hx211_2, hl211_2, hi211_2⟩ := at_T24 (Kd.N_reads' HO_5.out).2.2 x7_1 p211 q211
                  cases e211
                  obtain ⟨ce211, hce211, hMe211, hcc211⟩ := Kd.N_get HO_5.out z24 x7_1 p211 (by first | exact q211 | exact of_decide_eq_true (by first | (with_reducible assumption) | assumption) | (have e_ := (Kd.N_reads' HO_5.out).1; omega))
                  obtain ⟨ua211_2, uc211_2, rfl, ul211_2, ge211_2⟩ := k24_openF hMe211
                  have hv211_2 := hcc211 2 _ rfl
                  rw [add_field _ _ 2 (by omega)] at hv211_2
                  replace hv211_2 := Option.some.inj (hv211_2.symm.trans hx211_2)
                  injection hv211_2 with hva_ hvn_ hvc_
                  rw [hva_] at ge211_2
                  rw [hvc_] at ul211_2
                  have HL211_2 := Aside0.mk (show Kd.V k51 51 _ w.heap.size _ _ ((rd_T24 t204 x7_1).f2) from Kd.V_mk ul211_2 ge211_2)
                  clear hva_ hvn_ hvc_ ge211_2 ul211_2
                  clear hcc211 hce211
                  have HR211_2 := Aside0.mk hi211_2
                  have HC211_2 := Aside0.mk hl211_2
                  clear hi211_2 hl211_2
                  replace p211 := eq_true p211
                  replace q211 := eq_true q211
                  have p212 : 0 ≤ (x7_1 : Int) := of_decide_eq_true (by first | (with_reducible assumption) | assumption)
                  have q212 : x7_1 < (t204.length : Int) := of_decide_eq_true (by first | (with_reducible assumption) | assumption)
                  obtain ⟨ad212, A212_2, c212_2, e212, hx212_0, hx212_1, hx212_2, hl212_2, hi212_2⟩ := at_T24 (Kd.N_reads' HO_5.out).2.2 x7_1 p212 q212
                  obtain rfl : ad211 = ad212 := (by injection e212)
                  obtain ⟨ce212, hce212, hMe212, hcc212⟩ := Kd.N_get HO_5.out z24 x7_1 p212 (by first | exact q212 | exact of_decide_eq_true (by first | (with_reducible assumption) | assumption) | (have e_ := (Kd.N_reads' HO_5.out).1; omega))
                  obtain ⟨ua212_2, uc212_2, rfl, ul212_2, ge212_2⟩ := k24_openF hMe212
                  have hv212_2 := hcc212 2 _ rfl
                  rw [add_field _ _ 2 (by omega)] at hv212_2
                  replace hv212_2 := Option.some.inj (hv212_2.symm.trans hx212_2)
                  injection hv212_2 with hva_ hvn_ hvc_
                  rw [hva_] at ge212_2
                  rw [hvc_] at ul212_2
                  have HL212_2 := Aside0.mk (show Kd.V k51 51 _ w.heap.size _ _ ((rd_T24 t204 x7_1).f2) from Kd.V_mk ul212_2 ge212_2)
                  clear hva_ hvn_ hvc_ ge212_2 ul212_2
                  clear hcc212 hce212
                  have HR212_2 := Aside0.mk hi212_2
                  have HC212_2 := Aside0.mk hl212_2
                  clear hi212_2 hl212_2
                  replace p212 := eq_true p212
                  replace q212 := eq_true q212
                  have ea_ := Option.some.inj (hx211_2.symm.trans hx212_2)
                  injection ea_ with ea_ en_ ec_
                  subst ea_
                  subst ec_
                  clear en_
                  have p213 : 0 ≤ (x7_1 : Int) := of_decide_eq_true (by first | (with_reducible assumption) | assumption)
                  have q213 : x7_1 < (t204.length : Int) := of_decide_eq_true (by first | (with_reducible assumption) | assumption)
                  obtain ⟨ad213, A213_2, c213_2, e213, hx213_0, hx213_1, hx213_2, hl213_2, hi213_2⟩ := at_T24 (Kd.N_reads' HO_5.out).2.2 x7_1 p213 q213
                  obtain rfl : ad211 = ad213 := (by injection e213)
                  obtain ⟨ce213, hce213, hMe213, hcc213⟩ := Kd.N_get HO_5.out z24 x7_1 p213 (by first | exact q213 | exact of_decide_eq_true (by first | (with_reducible assumption) | assumption) | (have e_ := (Kd.N_reads' HO_5.out).1; omega))
                  obtain ⟨ua213_2, uc213_2, rfl, ul213_2, ge213_2⟩ := k24_openF hMe213
                  have hv213_2 := hcc213 2 _ rfl
                  rw [add_field _ _ 2 (by omega)] at hv213_2
                  replace hv213_2 := Option.some.inj (hv213_2.symm.trans hx213_2)
                  injection hv213_2 with hva_ hvn_ hvc_
                  rw [hva_] at ge213_2
                  rw [hvc_] at ul213_2
                  have HL213_2 := Aside0.mk (show Kd.V k51 51 _ w.heap.size _ _ ((rd_T24 t204 x7_1).f2) from Kd.V_mk ul213_2 ge213_2)
                  clear hva_ hvn_ hvc_ ge213_2 ul213_2
                  clear hcc213 hce213
                  have HR213_2 := Aside0.mk hi213_2
                  have HC213_2 := Aside0.mk hl213_2
                  clear hi213_2 hl213_2
                  replace p213 := eq_true p213
                  replace q213 := eq_true q213
                  have ea_ := Option.some.inj (hx211_2.symm.trans hx213_2)
                  injection ea_ with ea_ en_ ec_
                  subst ea_
                  subst ec_
                  clear en_
                  go_wp2
                  repeat (go_quiet (fail); try go_wp2)
                  go_ret
                  exact ⟨by first | rfl | (simp [errW_none, errW_some] <;> rfl) | (simp [*, errW_none, errW_some] <;> rfl), by repeat (first | (with_reducible first | exact HB.out | apply below_alloc | apply pw_below_drewN | apply below_drew1) | exact HB.out)⟩
                · rw [if_neg c17] at H
                  have c17b0 : (((rd_T24 t204 x7_1).f1) == a0) = false := beq_eq_false_iff_ne.mpr c17
                  have c17b1 : (((rd_T24 t204 x7_1).f1) != a0) = true := bne_iff_ne.mpr c17
                  by_cases c18 : x7_1 > 0
                  · rw [if_pos c18] at H
                    have c18b0 : decide (0 < x7_1) = true := decide_eq_true c18
                    clear c18
                    obtain ⟨ji19, hji19⟩ : ∃ j_ : Int, (wrap64 (x7_1 - 1)) = j_ := ⟨_, rfl⟩
                    replace H : (if 0 ≤ (ji19) then (if (ji19) < (t204.length : Int) then (if ((rd_T24 t204 (ji19)).f1) ≥ ((rd_T24 t204 x7_1).f1) then (some false) else (funicularlaw17_PacketTogether.l0 k1 a0 l1 t204 (wrap64 (x6_1 + (((rd_T24 t204 x7_1).f2).length : Int))) (wrap64 (x7_1 + 1)))) else (none)) else (none)) = some r := by first | (rw [hji19] at H; exact H) | (simp only [hji19] at H ⊢; exact H)
                    have hji19w : (IntKind.i64.wrap (x7_1 - 1)) = ji19 := (i64_w _).trans hji19
                    by_cases c20 : 0 ≤ (ji19)
                    · rw [if_pos c20] at H
                      have c20b0 : decide (0 ≤ (ji19)) = true := decide_eq_true c20
                      clear c20
                      by_cases c21 : (ji19) < (t204.length : Int)
                      · rw [if_pos c21] at H
                        have c21b0 : decide ((ji19) < (t204.length : Int)) = true := decide_eq_true c21
                        clear c21
                        by_cases c22 : ((rd_T24 t204 (ji19)).f1) ≥ ((rd_T24 t204 x7_1).f1)
                        · rw [if_pos c22] at H
                          have c22b0 : decide (((rd_T24 t204 x7_1).f1) ≤ ((rd_T24 t204 (ji19)).f1)) = true := decide_eq_true c22
                          clear c22
                          obtain rfl := Option.some.inj H
                          have p211 : 0 ≤ (x7_1 : Int) := of_decide_eq_true (by first | (with_reducible assumption) | assumption)
                          have q211 : x7_1 < (t204.length : Int) := of_decide_eq_true (by first | (with_reducible assumption) | assumption)
                          obtain ⟨ad211, A211_2, c211_2, e211, hx211_0, hx211_1, hx211_2, hl211_2, hi211_2⟩ := at_T24 (Kd.N_reads' HO_5.out).2.2 x7_1 p211 q211
                          cases e211
                          obtain ⟨ce211, hce211, hMe211, hcc211⟩ := Kd.N_get HO_5.out z24 x7_1 p211 (by first | exact q211 | exact of_decide_eq_true (by first | (with_reducible assumption) | assumption) | (have e_ := (Kd.N_reads' HO_5.out).1; omega))
                          obtain ⟨ua211_2, uc211_2, rfl, ul211_2, ge211_2⟩ := k24_openF hMe211
                          have hv211_2 := hcc211 2 _ rfl
                          rw [add_field _ _ 2 (by omega)] at hv211_2
                          replace hv211_2 := Option.some.inj (hv211_2.symm.trans hx211_2)
                          injection hv211_2 with hva_ hvn_ hvc_
                          rw [hva_] at ge211_2
                          rw [hvc_] at ul211_2
                          have HL211_2 := Aside0.mk (show Kd.V k51 51 _ w.heap.size _ _ ((rd_T24 t204 x7_1).f2) from Kd.V_mk ul211_2 ge211_2)
                          clear hva_ hvn_ hvc_ ge211_2 ul211_2
                          clear hcc211 hce211
                          have HR211_2 := Aside0.mk hi211_2
                          have HC211_2 := Aside0.mk hl211_2
                          clear hi211_2 hl211_2
                          replace p211 := eq_true p211
                          replace q211 := eq_true q211
                          have p212 : 0 ≤ (x7_1 : Int) := of_decide_eq_true (by first | (with_reducible assumption) | assumption)
                          have q212 : x7_1 < (t204.length : Int) := of_decide_eq_true (by first | (with_reducible assumption) | assumption)
                          obtain ⟨ad212, A212_2, c212_2, e212, hx212_0, hx212_1, hx212_2, hl212_2, hi212_2⟩ := at_T24 (Kd.N_reads' HO_5.out).2.2 x7_1 p212 q212
                          obtain rfl : ad211 = ad212 := (by injection e212)
                          obtain ⟨ce212, hce212, hMe212, hcc212⟩ := Kd.N_get HO_5.out z24 x7_1 p212 (by first | exact q212 | exact of_decide_eq_true (by first | (with_reducible assumption) | assumption) | (have e_ := (Kd.N_reads' HO_5.out).1; omega))
                          obtain ⟨ua212_2, uc212_2, rfl, ul212_2, ge212_2⟩ := k24_openF hMe212
                          have hv212_2 := hcc212 2 _ rfl
                          rw [add_field _ _ 2 (by omega)] at hv212_2
                          replace hv212_2 := Option.some.inj (hv212_2.symm.trans hx212_2)
                          injection hv212_2 with hva_ hvn_ hvc_
                          rw [hva_] at ge212_2
                          rw [hvc_] at ul212_2
                          have HL212_2 := Aside0.mk (show Kd.V k51 51 _ w.heap.size _ _ ((rd_T24 t204 x7_1).f2) from Kd.V_mk ul212_2 ge212_2)
                          clear hva_ hvn_ hvc_ ge212_2 ul212_2
                          clear hcc212 hce212
                          have HR212_2 := Aside0.mk hi212_2
                          have HC212_2 := Aside0.mk hl212_2
                          clear hi212_2 hl212_2
                          replace p212 := eq_true p212
                          replace q212 := eq_true q212
                          have ea_ := Option.some.inj (hx211_2.symm.trans hx212_2)
                          injection ea_ with ea_ en_ ec_
                          subst ea_
                          subst ec_
                          clear en_
                          have p213 : 0 ≤ (x7_1 : Int) := of_decide_eq_true (by first | (with_reducible assumption) | assumption)
                          have q213 : x7_1 < (t204.length : Int) := of_decide_eq_true (by first | (with_reducible assumption) | assumption)
                          obtain ⟨ad213, A213_2, c213_2, e213, hx213_0, hx213_1, hx213_2, hl213_2, hi213_2⟩ := at_T24 (Kd.N_reads' HO_5.out).2.2 x7_1 p213 q213
                          obtain rfl : ad211 = ad213 := (by injection e213)
                          obtain ⟨ce213, hce213, hMe213, hcc213⟩ := Kd.N_get HO_5.out z24 x7_1 p213 (by first | exact q213 | exact of_decide_eq_true (by first | (with_reducible assumption) | assumption) | (have e_ := (Kd.N_reads' HO_5.out).1; omega))
                          obtain ⟨ua213_2, uc213_2, rfl, ul213_2, ge213_2⟩ := k24_openF hMe213
                          have hv213_2 := hcc213 2 _ rfl
                          rw [add_field _ _ 2 (by omega)] at hv213_2
                          replace hv213_2 := Option.some.inj (hv213_2.symm.trans hx213_2)
                          injection hv213_2 with hva_ hvn_ hvc_
                          rw [hva_] at ge213_2
                          rw [hvc_] at ul213_2
                          have HL213_2 := Aside0.mk (show Kd.V k51 51 _ w.heap.size _ _ ((rd_T24 t204 x7_1).f2) from Kd.V_mk ul213_2 ge213_2)
                          clear hva_ hvn_ hvc_ ge213_2 ul213_2
                          clear hcc213 hce213
                          have HR213_2 := Aside0.mk hi213_2
                          have HC213_2 := Aside0.mk hl213_2
                          clear hi213_2 hl213_2
                          replace p213 := eq_true p213
                          replace q213 := eq_true q213
                          have ea_ := Option.some.inj (hx211_2.symm.trans hx213_2)
                          injection ea_ with ea_ en_ ec_
                          subst ea_
                          subst ec_
                          clear en_
                          have p214 : 0 ≤ ((ji19) : Int) := of_decide_eq_true (by first | (with_reducible assumption) | assumption)
                          have q214 : (ji19) < (t204.length : Int) := of_decide_eq_true (by first | (with_reducible assumption) | assumption)
                          obtain ⟨ad214, A214_2, c214_2, e214, hx214_0, hx214_1, hx214_2, hl214_2, hi214_2⟩ := at_T24 (Kd.N_reads' HO_5.out).2.2 (ji19) p214 q214
                          obtain rfl : ad211 = ad214 := (by injection e214)
                          obtain ⟨ce214, hce214, hMe214, hcc214⟩ := Kd.N_get HO_5.out z24 (ji19) p214 (by first | exact q214 | exact of_decide_eq_true (by first | (with_reducible assumption) | assumption) | (have e_ := (Kd.N_reads' HO_5.out).1; omega))
                          obtain ⟨ua214_2, uc214_2, rfl, ul214_2, ge214_2⟩ := k24_openF hMe214
                          have hv214_2 := hcc214 2 _ rfl
                          rw [add_field _ _ 2 (by omega)] at hv214_2
                          replace hv214_2 := Option.some.inj (hv214_2.symm.trans hx214_2)
                          injection hv214_2 with hva_ hvn_ hvc_
                          rw [hva_] at ge214_2
                          rw [hvc_] at ul214_2
                          have HL214_2 := Aside0.mk (show Kd.V k51 51 _ w.heap.size _ _ ((rd_T24 t204 (ji19)).f2) from Kd.V_mk ul214_2 ge214_2)
                          clear hva_ hvn_ hvc_ ge214_2 ul214_2
                          clear hcc214 hce214
                          have HR214_2 := Aside0.mk hi214_2
                          have HC214_2 := Aside0.mk hl214_2
                          clear hi214_2 hl214_2
                          replace p214 := eq_true p214
                          replace q214 := eq_true q214
                          have p215 : 0 ≤ (x7_1 : Int) := of_decide_eq_true (by first | (with_reducible assumption) | assumption)
                          have q215 : x7_1 < (t204.length : Int) := of_decide_eq_true (by first | (with_reducible assumption) | assumption)
                          obtain ⟨ad215, A215_2, c215_2, e215, hx215_0, hx215_1, hx215_2, hl215_2, hi215_2⟩ := at_T24 (Kd.N_reads' HO_5.out).2.2 x7_1 p215 q215
                          obtain rfl : ad211 = ad215 := (by injection e215)
                          obtain ⟨ce215, hce215, hMe215, hcc215⟩ := Kd.N_get HO_5.out z24 x7_1 p215 (by first | exact q215 | exact of_decide_eq_true (by first | (with_reducible assumption) | assumption) | (have e_ := (Kd.N_reads' HO_5.out).1; omega))
                          obtain ⟨ua215_2, uc215_2, rfl, ul215_2, ge215_2⟩ := k24_openF hMe215
                          have hv215_2 := hcc215 2 _ rfl
                          rw [add_field _ _ 2 (by omega)] at hv215_2
                          replace hv215_2 := Option.some.inj (hv215_2.symm.trans hx215_2)
                          injection hv215_2 with hva_ hvn_ hvc_
                          rw [hva_] at ge215_2
                          rw [hvc_] at ul215_2
                          have HL215_2 := Aside0.mk (show Kd.V k51 51 _ w.heap.size _ _ ((rd_T24 t204 x7_1).f2) from Kd.V_mk ul215_2 ge215_2)
                          clear hva_ hvn_ hvc_ ge215_2 ul215_2
                          clear hcc215 hce215
                          have HR215_2 := Aside0.mk hi215_2
                          have HC215_2 := Aside0.mk hl215_2
                          clear hi215_2 hl215_2
                          replace p215 := eq_true p215
                          replace q215 := eq_true q215
                          have ea_ := Option.some.inj (hx211_2.symm.trans hx215_2)
                          injection ea_ with ea_ en_ ec_
                          subst ea_
                          subst ec_
                          clear en_
                          go_wp2
                          repeat (go_quiet (fail); try go_wp2)
                          go_ret
                          exact ⟨by first | rfl | (simp [errW_none, errW_some] <;> rfl) | (simp only [← hji19]; first | rfl | (simp [errW_none, errW_some] <;> rfl)) | (simp [*, errW_none, errW_some] <;> rfl), by repeat (first | (with_reducible first | exact HB.out | apply below_alloc | apply pw_below_drewN | apply below_drew1) | exact HB.out)⟩
                        · rw [if_neg c22] at H
                          have c22b0 : decide (((rd_T24 t204 x7_1).f1) ≤ ((rd_T24 t204 (ji19)).f1)) = false := decide_eq_false c22
                          clear c22
                          have H' := Aside0.mk H
                          clear H
                          have p211 : 0 ≤ (x7_1 : Int) := of_decide_eq_true (by first | (with_reducible assumption) | assumption)
                          have q211 : x7_1 < (t204.length : Int) := of_decide_eq_true (by first | (with_reducible assumption) | assumption)
                          obtain ⟨ad211, A211_2, c211_2, e211, hx211_0, hx211_1, hx211_2, hl211_2, hi211_2⟩ := at_T24 (Kd.N_reads' HO_5.out).2.2 x7_1 p211 q211
                          cases e211
                          obtain ⟨ce211, hce211, hMe211, hcc211⟩ := Kd.N_get HO_5.out z24 x7_1 p211 (by first | exact q211 | exact of_decide_eq_true (by first | (with_reducible assumption) | assumption) | (have e_ := (Kd.N_reads' HO_5.out).1; omega))
                          obtain ⟨ua211_2, uc211_2, rfl, ul211_2, ge211_2⟩ := k24_openF hMe211
                          have hv211_2 := hcc211 2 _ rfl
                          rw [add_field _ _ 2 (by omega)] at hv211_2
                          replace hv211_2 := Option.some.inj (hv211_2.symm.trans hx211_2)
                          injection hv211_2 with hva_ hvn_ hvc_
                          rw [hva_] at ge211_2
                          rw [hvc_] at ul211_2
                          have HL211_2 := Aside0.mk (show Kd.V k51 51 _ w.heap.size _ _ ((rd_T24 t204 x7_1).f2) from Kd.V_mk ul211_2 ge211_2)
                          clear hva_ hvn_ hvc_ ge211_2 ul211_2
                          clear hcc211 hce211
                          have HR211_2 := Aside0.mk hi211_2
                          have HC211_2 := Aside0.mk hl211_2
                          clear hi211_2 hl211_2
                          replace p211 := eq_true p211
                          replace q211 := eq_true q211
                          have p212 : 0 ≤ (x7_1 : Int) := of_decide_eq_true (by first | (with_reducible assumption) | assumption)
                          have q212 : x7_1 < (t204.length : Int) := of_decide_eq_true (by first | (with_reducible assumption) | assumption)
                          obtain ⟨ad212, A212_2, c212_2, e212, hx212_0, hx212_1, hx212_2, hl212_2, hi212_2⟩ := at_T24 (Kd.N_reads' HO_5.out).2.2 x7_1 p212 q212
                          obtain rfl : ad211 = ad212 := (by injection e212)
                          obtain ⟨ce212, hce212, hMe212, hcc212⟩ := Kd.N_get HO_5.out z24 x7_1 p212 (by first | exact q212 | exact of_decide_eq_true (by first | (with_reducible assumption) | assumption) | (have e_ := (Kd.N_reads' HO_5.out).1; omega))
                          obtain ⟨ua212_2, uc212_2, rfl, ul212_2, ge212_2⟩ := k24_openF hMe212
                          have hv212_2 := hcc212 2 _ rfl
                          rw [add_field _ _ 2 (by omega)] at hv212_2
                          replace hv212_2 := Option.some.inj (hv212_2.symm.trans hx212_2)
                          injection hv212_2 with hva_ hvn_ hvc_
                          rw [hva_] at ge212_2
                          rw [hvc_] at ul212_2
                          have HL212_2 := Aside0.mk (show Kd.V k51 51 _ w.heap.size _ _ ((rd_T24 t204 x7_1).f2) from Kd.V_mk ul212_2 ge212_2)
                          clear hva_ hvn_ hvc_ ge212_2 ul212_2
                          clear hcc212 hce212
                          have HR212_2 := Aside0.mk hi212_2
                          have HC212_2 := Aside0.mk hl212_2
                          clear hi212_2 hl212_2
                          replace p212 := eq_true p212
                          replace q212 := eq_true q212
                          have ea_ := Option.some.inj (hx211_2.symm.trans hx212_2)
                          injection ea_ with ea_ en_ ec_
                          subst ea_
                          subst ec_
                          clear en_
                          have p213 : 0 ≤ (x7_1 : Int) := of_decide_eq_true (by first | (with_reducible assumption) | assumption)
                          have q213 : x7_1 < (t204.length : Int) := of_decide_eq_true (by first | (with_reducible assumption) | assumption)
                          obtain ⟨ad213, A213_2, c213_2, e213, hx213_0, hx213_1, hx213_2, hl213_2, hi213_2⟩ := at_T24 (Kd.N_reads' HO_5.out).2.2 x7_1 p213 q213
                          obtain rfl : ad211 = ad213 := (by injection e213)
                          obtain ⟨ce213, hce213, hMe213, hcc213⟩ := Kd.N_get HO_5.out z24 x7_1 p213 (by first | exact q213 | exact of_decide_eq_true (by first | (with_reducible assumption) | assumption) | (have e_ := (Kd.N_reads' HO_5.out).1; omega))
                          obtain ⟨ua213_2, uc213_2, rfl, ul213_2, ge213_2⟩ := k24_openF hMe213
                          have hv213_2 := hcc213 2 _ rfl
                          rw [add_field _ _ 2 (by omega)] at hv213_2
                          replace hv213_2 := Option.some.inj (hv213_2.symm.trans hx213_2)
                          injection hv213_2 with hva_ hvn_ hvc_
                          rw [hva_] at ge213_2
                          rw [hvc_] at ul213_2
                          have HL213_2 := Aside0.mk (show Kd.V k51 51 _ w.heap.size _ _ ((rd_T24 t204 x7_1).f2) from Kd.V_mk ul213_2 ge213_2)
                          clear hva_ hvn_ hvc_ ge213_2 ul213_2
                          clear hcc213 hce213
                          have HR213_2 := Aside0.mk hi213_2
                          have HC213_2 := Aside0.mk hl213_2
                          clear hi213_2 hl213_2
                          replace p213 := eq_true p213
                          replace q213 := eq_true q213
                          have ea_ := Option.some.inj (hx211_2.symm.trans hx213_2)
                          injection ea_ with ea_ en_ ec_
                          subst ea_
                          subst ec_
                          clear en_
                          have p214 : 0 ≤ ((ji19) : Int) := of_decide_eq_true (by first | (with_reducible assumption) | assumption)
                          have q214 : (ji19) < (t204.length : Int) := of_decide_eq_true (by first | (with_reducible assumption) | assumption)
                          obtain ⟨ad214, A214_2, c214_2, e214, hx214_0, hx214_1, hx214_2, hl214_2, hi214_2⟩ := at_T24 (Kd.N_reads' HO_5.out).2.2 (ji19) p214 q214
                          obtain rfl : ad211 = ad214 := (by injection e214)
                          obtain ⟨ce214, hce214, hMe214, hcc214⟩ := Kd.N_get HO_5.out z24 (ji19) p214 (by first | exact q214 | exact of_decide_eq_true (by first | (with_reducible assumption) | assumption) | (have e_ := (Kd.N_reads' HO_5.out).1; omega))
                          obtain ⟨ua214_2, uc214_2, rfl, ul214_2, ge214_2⟩ := k24_openF hMe214
                          have hv214_2 := hcc214 2 _ rfl
                          rw [add_field _ _ 2 (by omega)] at hv214_2
                          replace hv214_2 := Option.some.inj (hv214_2.symm.trans hx214_2)
                          injection hv214_2 with hva_ hvn_ hvc_
                          rw [hva_] at ge214_2
                          rw [hvc_] at ul214_2
                          have HL214_2 := Aside0.mk (show Kd.V k51 51 _ w.heap.size _ _ ((rd_T24 t204 (ji19)).f2) from Kd.V_mk ul214_2 ge214_2)
                          clear hva_ hvn_ hvc_ ge214_2 ul214_2
                          clear hcc214 hce214
                          have HR214_2 := Aside0.mk hi214_2
                          have HC214_2 := Aside0.mk hl214_2
                          clear hi214_2 hl214_2
                          replace p214 := eq_true p214
                          replace q214 := eq_true q214
                          have p215 : 0 ≤ (x7_1 : Int) := of_decide_eq_true (by first | (with_reducible assumption) | assumption)
                          have q215 : x7_1 < (t204.length : Int) := of_decide_eq_true (by first | (with_reducible assumption) | assumption)
                          obtain ⟨ad215, A215_2, c215_2, e215, hx215_0, hx215_1, hx215_2, hl215_2, hi215_2⟩ := at_T24 (Kd.N_reads' HO_5.out).2.2 x7_1 p215 q215
                          obtain rfl : ad211 = ad215 := (by injection e215)
                          obtain ⟨ce215, hce215, hMe215, hcc215⟩ := Kd.N_get HO_5.out z24 x7_1 p215 (by first | exact q215 | exact of_decide_eq_true (by first | (with_reducible assumption) | assumption) | (have e_ := (Kd.N_reads' HO_5.out).1; omega))
                          obtain ⟨ua215_2, uc215_2, rfl, ul215_2, ge215_2⟩ := k24_openF hMe215
                          have hv215_2 := hcc215 2 _ rfl
                          rw [add_field _ _ 2 (by omega)] at hv215_2
                          replace hv215_2 := Option.some.inj (hv215_2.symm.trans hx215_2)
                          injection hv215_2 with hva_ hvn_ hvc_
                          rw [hva_] at ge215_2
                          rw [hvc_] at ul215_2
                          have HL215_2 := Aside0.mk (show Kd.V k51 51 _ w.heap.size _ _ ((rd_T24 t204 x7_1).f2) from Kd.V_mk ul215_2 ge215_2)
                          clear hva_ hvn_ hvc_ ge215_2 ul215_2
                          clear hcc215 hce215
                          have HR215_2 := Aside0.mk hi215_2
                          have HC215_2 := Aside0.mk hl215_2
                          clear hi215_2 hl215_2
                          replace p215 := eq_true p215
                          replace q215 := eq_true q215
                          have ea_ := Option.some.inj (hx211_2.symm.trans hx215_2)
                          injection ea_ with ea_ en_ ec_
                          subst ea_
                          subst ec_
                          clear en_
                          go_wp2
                          repeat (go_quiet (fail); try go_wp2)
                          go_roundg k1
                          case measure => have := HK1.out; omega
                          case rel => exact ⟨(wrap64 (x6_1 + (((rd_T24 t204 x7_1).f2).length : Int))), (wrap64 (x7_1 + 1)), (by first | rfl | (simp; done) | (simp [*]; done)), (by first | rfl | (simp; done) | (simp [*]; done)), H', ⟨by have := HK1.out; omega⟩, ⟨by (with_reducible repeat (first | apply Kd.N_alloc | apply Kd.N_drewN | apply Kd.N_drew)); exact HO_5.out⟩, ⟨by repeat (first | (with_reducible first | exact HB.out | apply below_alloc | apply pw_below_drewN | apply below_drew1) | exact HB.out)⟩⟩
                      · rw [if_neg c21] at H
                        exact absurd H (by simp)
                    · rw [if_neg c20] at H
                      exact absurd H (by simp)
                  · rw [if_neg c18] at H
                    have c18b0 : decide (0 < x7_1) = false := decide_eq_false c18
                    clear c18
                    have H' := Aside0.mk H
                    clear H
                    have p211 : 0 ≤ (x7_1 : Int) := of_decide_eq_true (by first | (with_reducible assumption) | assumption)
                    have q211 : x7_1 < (t204.length : Int) := of_decide_eq_true (by first | (with_reducible assumption) | assumption)
                    obtain ⟨ad211, A211_2, c211_2, e211, hx211_0, hx211_1, hx211_2, hl211_2, hi211_2⟩ := at_T24 (Kd.N_reads' HO_5.out).2.2 x7_1 p211 q211
                    cases e211
                    obtain ⟨ce211, hce211, hMe211, hcc211⟩ := Kd.N_get HO_5.out z24 x7_1 p211 (by first | exact q211 | exact of_decide_eq_true (by first | (with_reducible assumption) | assumption) | (have e_ := (Kd.N_reads' HO_5.out).1; omega))
                    obtain ⟨ua211_2, uc211_2, rfl, ul211_2, ge211_2⟩ := k24_openF hMe211
                    have hv211_2 := hcc211 2 _ rfl
                    rw [add_field _ _ 2 (by omega)] at hv211_2
                    replace hv211_2 := Option.some.inj (hv211_2.symm.trans hx211_2)
                    injection hv211_2 with hva_ hvn_ hvc_
                    rw [hva_] at ge211_2
                    rw [hvc_] at ul211_2
                    have HL211_2 := Aside0.mk (show Kd.V k51 51 _ w.heap.size _ _ ((rd_T24 t204 x7_1).f2) from Kd.V_mk ul211_2 ge211_2)
                    clear hva_ hvn_ hvc_ ge211_2 ul211_2
                    clear hcc211 hce211
                    have HR211_2 := Aside0.mk hi211_2
                    have HC211_2 := Aside0.mk hl211_2
                    clear hi211_2 hl211_2
                    replace p211 := eq_true p211
                    replace q211 := eq_true q211
                    have p212 : 0 ≤ (x7_1 : Int) := of_decide_eq_true (by first | (with_reducible assumption) | assumption)
                    have q212 : x7_1 < (t204.length : Int) := of_decide_eq_true (by first | (with_reducible assumption) | assumption)
                    obtain ⟨ad212, A212_2, c212_2, e212, hx212_0, hx212_1, hx212_2, hl212_2, hi212_2⟩ := at_T24 (Kd.N_reads' HO_5.out).2.2 x7_1 p212 q212
                    obtain rfl : ad211 = ad212 := (by injection e212)
                    obtain ⟨ce212, hce212, hMe212, hcc212⟩ := Kd.N_get HO_5.out z24 x7_1 p212 (by first | exact q212 | exact of_decide_eq_true (by first | (with_reducible assumption) | assumption) | (have e_ := (Kd.N_reads' HO_5.out).1; omega))
                    obtain ⟨ua212_2, uc212_2, rfl, ul212_2, ge212_2⟩ := k24_openF hMe212
                    have hv212_2 := hcc212 2 _ rfl
                    rw [add_field _ _ 2 (by omega)] at hv212_2
                    replace hv212_2 := Option.some.inj (hv212_2.symm.trans hx212_2)
                    injection hv212_2 with hva_ hvn_ hvc_
                    rw [hva_] at ge212_2
                    rw [hvc_] at ul212_2
                    have HL212_2 := Aside0.mk (show Kd.V k51 51 _ w.heap.size _ _ ((rd_T24 t204 x7_1).f2) from Kd.V_mk ul212_2 ge212_2)
                    clear hva_ hvn_ hvc_ ge212_2 ul212_2
                    clear hcc212 hce212
                    have HR212_2 := Aside0.mk hi212_2
                    have HC212_2 := Aside0.mk hl212_2
                    clear hi212_2 hl212_2
                    replace p212 := eq_true p212
                    replace q212 := eq_true q212
                    have ea_ := Option.some.inj (hx211_2.symm.trans hx212_2)
                    injection ea_ with ea_ en_ ec_
                    subst ea_
                    subst ec_
                    clear en_
                    have p213 : 0 ≤ (x7_1 : Int) := of_decide_eq_true (by first | (with_reducible assumption) | assumption)
                    have q213 : x7_1 < (t204.length : Int) := of_decide_eq_true (by first | (with_reducible assumption) | assumption)
                    obtain ⟨ad213, A213_2, c213_2, e213, hx213_0, hx213_1, hx213_2, hl213_2, hi213_2⟩ := at_T24 (Kd.N_reads' HO_5.out).2.2 x7_1 p213 q213
                    obtain rfl : ad211 = ad213 := (by injection e213)
                    obtain ⟨ce213, hce213, hMe213, hcc213⟩ := Kd.N_get HO_5.out z24 x7_1 p213 (by first | exact q213 | exact of_decide_eq_true (by first | (with_reducible assumption) | assumption) | (have e_ := (Kd.N_reads' HO_5.out).1; omega))
                    obtain ⟨ua213_2, uc213_2, rfl, ul213_2, ge213_2⟩ := k24_openF hMe213
                    have hv213_2 := hcc213 2 _ rfl
                    rw [add_field _ _ 2 (by omega)] at hv213_2
                    replace hv213_2 := Option.some.inj (hv213_2.symm.trans hx213_2)
                    injection hv213_2 with hva_ hvn_ hvc_
                    rw [hva_] at ge213_2
                    rw [hvc_] at ul213_2
                    have HL213_2 := Aside0.mk (show Kd.V k51 51 _ w.heap.size _ _ ((rd_T24 t204 x7_1).f2) from Kd.V_mk ul213_2 ge213_2)
                    clear hva_ hvn_ hvc_ ge213_2 ul213_2
                    clear hcc213 hce213
                    have HR213_2 := Aside0.mk hi213_2
                    have HC213_2 := Aside0.mk hl213_2
                    clear hi213_2 hl213_2
                    replace p213 := eq_true p213
                    replace q213 := eq_true q213
                    have ea_ := Option.some.inj (hx211_2.symm.trans hx213_2)
                    injection ea_ with ea_ en_ ec_
                    subst ea_
                    subst ec_
                    clear en_
                    go_wp2
                    repeat (go_quiet (fail); try go_wp2)
                    go_roundg k1
                    case measure => have := HK1.out; omega
                    case rel => exact ⟨(wrap64 (x6_1 + (((rd_T24 t204 x7_1).f2).length : Int))), (wrap64 (x7_1 + 1)), (by first | rfl | (simp; done) | (simp [*]; done)), (by first | rfl | (simp; done) | (simp [*]; done)), H', ⟨by have := HK1.out; omega⟩, ⟨by (with_reducible repeat (first | apply Kd.N_alloc | apply Kd.N_drewN | apply Kd.N_drew)); exact HO_5.out⟩, ⟨by repeat (first | (with_reducible first | exact HB.out | apply below_alloc | apply pw_below_drewN | apply below_drew1) | exact HB.out)⟩⟩
              · rw [if_neg c16] at H
                have c16b0 : (((rd_T24 t204 x7_1).f0) == a0) = false := beq_eq_false_iff_ne.mpr c16
                have c16b1 : (((rd_T24 t204 x7_1).f0) != a0) = true := bne_iff_ne.mpr c16
                obtain rfl := Option.some.inj H
                have p211 : 0 ≤ (x7_1 : Int) := of_decide_eq_true (by first | (with_reducible assumption) | assumption)
                have q211 : x7_1 < (t204.length : Int) := of_decide_eq_true (by first | (with_reducible assumption) | assumption)
                obtain ⟨ad211, A211_2, c211_2, e211, hx211_0, hx211_1, hx211_2, hl211_2, hi211_2⟩ := at_T24 (Kd.N_reads' HO_5.out).2.2 x7_1 p211 q211
                cases e211
                obtain ⟨ce211, hce211, hMe211, hcc211⟩ := Kd.N_get HO_5.out z24 x7_1 p211 (by first | exact q211 | exact of_decide_eq_true (by first | (with_reducible assumption) | assumption) | (have e_ := (Kd.N_reads' HO_5.out).1; omega))
                obtain ⟨ua211_2, uc211_2, rfl, ul211_2, ge211_2⟩ := k24_openF hMe211
                have hv211_2 := hcc211 2 _ rfl
                rw [add_field _ _ 2 (by omega)] at hv211_2
                replace hv211_2 := Option.some.inj (hv211_2.symm.trans hx211_2)
                injection hv211_2 with hva_ hvn_ hvc_
                rw [hva_] at ge211_2
                rw [hvc_] at ul211_2
                have HL211_2 := Aside0.mk (show Kd.V k51 51 _ w.heap.size _ _ ((rd_T24 t204 x7_1).f2) from Kd.V_mk ul211_2 ge211_2)
                clear hva_ hvn_ hvc_ ge211_2 ul211_2
                clear hcc211 hce211
                have HR211_2 := Aside0.mk hi211_2
                have HC211_2 := Aside0.mk hl211_2
                clear hi211_2 hl211_2
                replace p211 := eq_true p211
                replace q211 := eq_true q211
                have p212 : 0 ≤ (x7_1 : Int) := of_decide_eq_true (by first | (with_reducible assumption) | assumption)
                have q212 : x7_1 < (t204.length : Int) := of_decide_eq_true (by first | (with_reducible assumption) | assumption)
                obtain ⟨ad212, A212_2, c212_2, e212, hx212_0, hx212_1, hx212_2, hl212_2, hi212_2⟩ := at_T24 (Kd.N_reads' HO_5.out).2.2 x7_1 p212 q212
                obtain rfl : ad211 = ad212 := (by injection e212)
                obtain ⟨ce212, hce212, hMe212, hcc212⟩ := Kd.N_get HO_5.out z24 x7_1 p212 (by first | exact q212 | exact of_decide_eq_true (by first | (with_reducible assumption) | assumption) | (have e_ := (Kd.N_reads' HO_5.out).1; omega))
                obtain ⟨ua212_2, uc212_2, rfl, ul212_2, ge212_2⟩ := k24_openF hMe212
                have hv212_2 := hcc212 2 _ rfl
                rw [add_field _ _ 2 (by omega)] at hv212_2
                replace hv212_2 := Option.some.inj (hv212_2.symm.trans hx212_2)
                injection hv212_2 with hva_ hvn_ hvc_
                rw [hva_] at ge212_2
                rw [hvc_] at ul212_2
                have HL212_2 := Aside0.mk (show Kd.V k51 51 _ w.heap.size _ _ ((rd_T24 t204 x7_1).f2) from Kd.V_mk ul212_2 ge212_2)
                clear hva_ hvn_ hvc_ ge212_2 ul212_2
                clear hcc212 hce212
                have HR212_2 := Aside0.mk hi212_2
                have HC212_2 := Aside0.mk hl212_2
                clear hi212_2 hl212_2
                replace p212 := eq_true p212
                replace q212 := eq_true q212
                have ea_ := Option.some.inj (hx211_2.symm.trans hx212_2)
                injection ea_ with ea_ en_ ec_
                subst ea_
                subst ec_
                clear en_
                go_wp2
                repeat (go_quiet (fail); try go_wp2)
                go_ret
                exact ⟨by first | rfl | (simp [errW_none, errW_some] <;> rfl) | (simp [*, errW_none, errW_some] <;> rfl), by repeat (first | (with_reducible first | exact HB.out | apply below_alloc | apply pw_below_drewN | apply below_drew1) | exact HB.out)⟩
            · rw [if_neg c15] at H
              exact absurd H (by simp)
          · rw [if_neg c14] at H
            have c14b0 : decide (x7_1 < (t204.length : Int)) = false := decide_eq_false c14
            clear c14
            by_cases c23 : x6_1 ≤ (l1.length : Int)
            · rw [if_pos c23] at H
              have c23b0 : decide (x6_1 ≤ (l1.length : Int)) = true := decide_eq_true c23
              clear c23
              replace H := Option.bind_eq_some_iff.mp H
              obtain ⟨t216, A240, H⟩ := H
              replace H : (some t216) = some r := H
              have A24 := Aside0.mk A240
              clear A240
              obtain rfl := Option.some.inj H
              go_wp2_with (first | (go_at_call 9; (with_reducible refine (funicularlaw17_works.calls  t216 _ A24.out).mono ?_); rintro e w25 ⟨rfl, hb⟩; have n0_ := Aside0.mk (Kd.N_below (by (with_reducible repeat (first | apply Kd.N_alloc | apply Kd.N_drewN | apply Kd.N_drew)); exact HO_5.out) hb); have n1_ := Aside0.mk (below_step (by repeat (first | (with_reducible first | exact HB.out | apply below_alloc | apply pw_below_drewN | apply below_drew1) | exact HB.out)) hb); clear HO_5; clear HB; have HO_5 := n0_; have HB := n1_; clear n0_ n1_; (try clear hb); (try clear hb2); (try clear hk); (try clear hi)))
              repeat (go_quiet (first | (go_at_call 9; (with_reducible refine (funicularlaw17_works.calls  t216 _ A24.out).mono ?_); rintro e w25 ⟨rfl, hb⟩; have n0_ := Aside0.mk (Kd.N_below (by (with_reducible repeat (first | apply Kd.N_alloc | apply Kd.N_drewN | apply Kd.N_drew)); exact HO_5.out) hb); have n1_ := Aside0.mk (below_step (by repeat (first | (with_reducible first | exact HB.out | apply below_alloc | apply pw_below_drewN | apply below_drew1) | exact HB.out)) hb); clear HO_5; clear HB; have HO_5 := n0_; have HB := n1_; clear n0_ n1_; (try clear hb); (try clear hb2); (try clear hk); (try clear hi))); try go_wp2_with (first | (go_at_call 9; (with_reducible refine (funicularlaw17_works.calls  t216 _ A24.out).mono ?_); rintro e w25 ⟨rfl, hb⟩; have n0_ := Aside0.mk (Kd.N_below (by (with_reducible repeat (first | apply Kd.N_alloc | apply Kd.N_drewN | apply Kd.N_drew)); exact HO_5.out) hb); have n1_ := Aside0.mk (below_step (by repeat (first | (with_reducible first | exact HB.out | apply below_alloc | apply pw_below_drewN | apply below_drew1) | exact HB.out)) hb); clear HO_5; clear HB; have HO_5 := n0_; have HB := n1_; clear n0_ n1_; (try clear hb); (try clear hb2); (try clear hk); (try clear hi))))
              go_ret
              exact ⟨by first | rfl | (simp [errW_none, errW_some] <;> rfl) | (simp [*, errW_none, errW_some] <;> rfl), by repeat (first | (with_reducible first | exact HB.out | apply below_alloc | apply pw_below_drewN | apply below_drew1) | exact HB.out)⟩
            · rw [if_neg c23] at H
              have c23b0 : decide (x6_1 ≤ (l1.length : Int)) = false := decide_eq_false c23
              clear c23
              obtain rfl := Option.some.inj H
              go_wp2
              repeat (go_quiet (fail); try go_wp2)
              go_ret
              exact ⟨by first | rfl | (simp [errW_none, errW_some] <;> rfl) | (simp [*, errW_none, errW_some] <;> rfl), by repeat (first | (with_reducible first | exact HB.out | apply below_alloc | apply pw_below_drewN | apply below_drew1) | exact HB.out)⟩
    · replace c8 := Bool.eq_false_iff.mpr c8
      subst c8
      have H1 : (some false) = some r := by rw [if_neg (show ¬ (false = true) by decide)] at H; exact H
      clear H
      have H := H1
      clear H1
      obtain rfl := Option.some.inj H
      go_enter Try.func7, Try.ntmps7
      go_wp2_with (first | (go_at_call 8; (with_reducible refine (funicularlaw17_light.calls k _ _ l1 true _ ?side1 ?side2 A3.out).mono ?_); (case side1 => repeat (first | exact HR1.out | (with_reducible refine Kd.C_alloc ?_ _) | (with_reducible refine Kd.C_drewN ?_ _) | (with_reducible refine Kd.C_drew ?_))); (case side2 => exact HC1.out); rintro e w' ⟨rfl, ⟨nd, rfl⟩⟩; (try first | exact ⟨rfl, _, World.drewN_drewN _ _ _⟩ | exact ⟨rfl, _, Eq.trans (World.drewN_drewN _ _ _) (congrArg (World.drewN _) (Nat.add_assoc _ _ _))⟩)) | (go_at_call 18; (with_reducible refine (packet_Together.calls k a0 (fun k_ => k_ < w.heap.size) _ _ l1 t204 _ ?side1 A5.out).mono ?_); (case side1 => exact Kd.V_mk HC1.out (Kd.F_below (Kd.C_F k51_heap HR1.out) (by repeat (first | (with_reducible first | exact HB.out | apply below_alloc | apply pw_below_drewN | apply below_drew1) | exact HB.out)))); rintro e w26 ⟨v205, rfl, ho0, hb⟩; have n0_ := Aside0.mk (Kd.N_lower (Kd.N_mono (ok' := fun k_ => True) ho0 (fun k_ hk_ => trivial)) (below_size (by repeat (first | (with_reducible first | exact HB.out | apply below_alloc | apply pw_below_drewN | apply below_drew1) | exact HB.out)))); have n1_ := Aside0.mk (below_step (by repeat (first | (with_reducible first | exact HB.out | apply below_alloc | apply pw_below_drewN | apply below_drew1) | exact HB.out)) hb); clear HB; have HO206 := n0_; have HB := n1_; clear n0_ n1_; (try clear hb); (try clear hb2); (try clear hk); (try clear hi); (try clear ho0)) | (go_at_call 20; (with_reducible refine (funicularref17_Together.calls k a0 (fun k_ => k_ < w.heap.size) _ _ l1 t207 _ ?side1 A6.out).mono ?_); (case side1 => exact Kd.V_mk HC1.out (Kd.F_below (Kd.C_F k51_heap HR1.out) (by repeat (first | (with_reducible first | exact HB.out | apply below_alloc | apply pw_below_drewN | apply below_drew1) | exact HB.out)))); rintro e w27 ⟨v208, rfl, ho0, hb⟩; have n0_ := Aside0.mk (Kd.N_elder' (by (with_reducible repeat (first | apply Kd.N_alloc | apply Kd.N_drewN | apply Kd.N_drew)); exact HO206.out) (Kd.N_base ho0) hb); have n1_ := Aside0.mk (Kd.N_lower (Kd.N_mono (ok' := fun k_ => some k_ ≠ (v205 : Value).ownBlock) ho0 (fun k_ hk_ => Or.elim hk_ (fun hs_ => fun e_ => Nat.not_le.2 hs_ (Kd.N_base HO206.out k_ e_.symm)) (fun hn_ => (Kd.fresh' (Kd.N_lt (by (with_reducible repeat (first | apply Kd.N_alloc | apply Kd.N_drewN | apply Kd.N_drew)); exact HO206.out)) k_ hn_)))) (below_size (by repeat (first | (with_reducible first | exact HB.out | apply below_alloc | apply pw_below_drewN | apply below_drew1) | exact HB.out)))); have n2_ := Aside0.mk (below_step (by repeat (first | (with_reducible first | exact HB.out | apply below_alloc | apply pw_below_drewN | apply below_drew1) | exact HB.out)) hb); clear HO206; clear HB; have HO206 := n0_; have HO209 := n1_; have HB := n2_; clear n0_ n1_ n2_; (try clear hb); (try clear hb2); (try clear hk); (try clear hi); (try clear ho0); obtain ⟨Ao28, co28, eo28⟩ := Kd.N_slice HO206.out; subst eo28; obtain ⟨Ao29, co29, eo29⟩ := Kd.N_slice HO209.out; subst eo29) | (go_at_call 19; (with_reducible refine (funicularref17_SameAll.calls k _ _ t204 _ _ t207 false _ ?side1 ?side2 ?side3 ?side4 A7.out).mono ?_); (case side1 => repeat (first | exact (Kd.N_reads' HO206.out).2.2 | (with_reducible refine Kd.C_alloc ?_ _) | (with_reducible refine Kd.C_drewN ?_ _) | (with_reducible refine Kd.C_drew ?_))); (case side2 => exact (Kd.N_reads' HO206.out).2.1); (case side3 => repeat (first | exact (Kd.N_reads' HO209.out).2.2 | (with_reducible refine Kd.C_alloc ?_ _) | (with_reducible refine Kd.C_drewN ?_ _) | (with_reducible refine Kd.C_drew ?_))); (case side4 => exact (Kd.N_reads' HO209.out).2.1); rintro e w30 ⟨rfl, hb⟩; have n0_ := Aside0.mk (Kd.N_below (by (with_reducible repeat (first | apply Kd.N_alloc | apply Kd.N_drewN | apply Kd.N_drew)); exact HO206.out) hb); have n1_ := Aside0.mk (Kd.N_below (by (with_reducible repeat (first | apply Kd.N_alloc | apply Kd.N_drewN | apply Kd.N_drew)); exact HO209.out) hb); have n2_ := Aside0.mk (below_step (by repeat (first | (with_reducible first | exact HB.out | apply below_alloc | apply pw_below_drewN | apply below_drew1) | exact HB.out)) hb); clear HO206; clear HO209; clear HB; have HO206 := n0_; have HO209 := n1_; have HB := n2_; clear n0_ n1_ n2_; (try clear hb); (try clear hb2); (try clear hk); (try clear hi)))
      repeat (go_quiet (first | (go_at_call 8; (with_reducible refine (funicularlaw17_light.calls k _ _ l1 true _ ?side1 ?side2 A3.out).mono ?_); (case side1 => repeat (first | exact HR1.out | (with_reducible refine Kd.C_alloc ?_ _) | (with_reducible refine Kd.C_drewN ?_ _) | (with_reducible refine Kd.C_drew ?_))); (case side2 => exact HC1.out); rintro e w' ⟨rfl, ⟨nd, rfl⟩⟩; (try first | exact ⟨rfl, _, World.drewN_drewN _ _ _⟩ | exact ⟨rfl, _, Eq.trans (World.drewN_drewN _ _ _) (congrArg (World.drewN _) (Nat.add_assoc _ _ _))⟩)) | (go_at_call 18; (with_reducible refine (packet_Together.calls k a0 (fun k_ => k_ < w.heap.size) _ _ l1 t204 _ ?side1 A5.out).mono ?_); (case side1 => exact Kd.V_mk HC1.out (Kd.F_below (Kd.C_F k51_heap HR1.out) (by repeat (first | (with_reducible first | exact HB.out | apply below_alloc | apply pw_below_drewN | apply below_drew1) | exact HB.out)))); rintro e w26 ⟨v205, rfl, ho0, hb⟩; have n0_ := Aside0.mk (Kd.N_lower (Kd.N_mono (ok' := fun k_ => True) ho0 (fun k_ hk_ => trivial)) (below_size (by repeat (first | (with_reducible first | exact HB.out | apply below_alloc | apply pw_below_drewN | apply below_drew1) | exact HB.out)))); have n1_ := Aside0.mk (below_step (by repeat (first | (with_reducible first | exact HB.out | apply below_alloc | apply pw_below_drewN | apply below_drew1) | exact HB.out)) hb); clear HB; have HO206 := n0_; have HB := n1_; clear n0_ n1_; (try clear hb); (try clear hb2); (try clear hk); (try clear hi); (try clear ho0)) | (go_at_call 20; (with_reducible refine (funicularref17_Together.calls k a0 (fun k_ => k_ < w.heap.size) _ _ l1 t207 _ ?side1 A6.out).mono ?_); (case side1 => exact Kd.V_mk HC1.out (Kd.F_below (Kd.C_F k51_heap HR1.out) (by repeat (first | (with_reducible first | exact HB.out | apply below_alloc | apply pw_below_drewN | apply below_drew1) | exact HB.out)))); rintro e w27 ⟨v208, rfl, ho0, hb⟩; have n0_ := Aside0.mk (Kd.N_elder' (by (with_reducible repeat (first | apply Kd.N_alloc | apply Kd.N_drewN | apply Kd.N_drew)); exact HO206.out) (Kd.N_base ho0) hb); have n1_ := Aside0.mk (Kd.N_lower (Kd.N_mono (ok' := fun k_ => some k_ ≠ (v205 : Value).ownBlock) ho0 (fun k_ hk_ => Or.elim hk_ (fun hs_ => fun e_ => Nat.not_le.2 hs_ (Kd.N_base HO206.out k_ e_.symm)) (fun hn_ => (Kd.fresh' (Kd.N_lt (by (with_reducible repeat (first | apply Kd.N_alloc | apply Kd.N_drewN | apply Kd.N_drew)); exact HO206.out)) k_ hn_)))) (below_size (by repeat (first | (with_reducible first | exact HB.out | apply below_alloc | apply pw_below_drewN | apply below_drew1) | exact HB.out)))); have n2_ := Aside0.mk (below_step (by repeat (first | (with_reducible first | exact HB.out | apply below_alloc | apply pw_below_drewN | apply below_drew1) | exact HB.out)) hb); clear HO206; clear HB; have HO206 := n0_; have HO209 := n1_; have HB := n2_; clear n0_ n1_ n2_; (try clear hb); (try clear hb2); (try clear hk); (try clear hi); (try clear ho0); obtain ⟨Ao28, co28, eo28⟩ := Kd.N_slice HO206.out; subst eo28; obtain ⟨Ao29, co29, eo29⟩ := Kd.N_slice HO209.out; subst eo29) | (go_at_call 19; (with_reducible refine (funicularref17_SameAll.calls k _ _ t204 _ _ t207 false _ ?side1 ?side2 ?side3 ?side4 A7.out).mono ?_); (case side1 => repeat (first | exact (Kd.N_reads' HO206.out).2.2 | (with_reducible refine Kd.C_alloc ?_ _) | (with_reducible refine Kd.C_drewN ?_ _) | (with_reducible refine Kd.C_drew ?_))); (case side2 => exact (Kd.N_reads' HO206.out).2.1); (case side3 => repeat (first | exact (Kd.N_reads' HO209.out).2.2 | (with_reducible refine Kd.C_alloc ?_ _) | (with_reducible refine Kd.C_drewN ?_ _) | (with_reducible refine Kd.C_drew ?_))); (case side4 => exact (Kd.N_reads' HO209.out).2.1); rintro e w30 ⟨rfl, hb⟩; have n0_ := Aside0.mk (Kd.N_below (by (with_reducible repeat (first | apply Kd.N_alloc | apply Kd.N_drewN | apply Kd.N_drew)); exact HO206.out) hb); have n1_ := Aside0.mk (Kd.N_below (by (with_reducible repeat (first | apply Kd.N_alloc | apply Kd.N_drewN | apply Kd.N_drew)); exact HO209.out) hb); have n2_ := Aside0.mk (below_step (by repeat (first | (with_reducible first | exact HB.out | apply below_alloc | apply pw_below_drewN | apply below_drew1) | exact HB.out)) hb); clear HO206; clear HO209; clear HB; have HO206 := n0_; have HO209 := n1_; have HB := n2_; clear n0_ n1_ n2_; (try clear hb); (try clear hb2); (try clear hk); (try clear hi))); try go_wp2_with (first | (go_at_call 8; (with_reducible refine (funicularlaw17_light.calls k _ _ l1 true _ ?side1 ?side2 A3.out).mono ?_); (case side1 => repeat (first | exact HR1.out | (with_reducible refine Kd.C_alloc ?_ _) | (with_reducible refine Kd.C_drewN ?_ _) | (with_reducible refine Kd.C_drew ?_))); (case side2 => exact HC1.out); rintro e w' ⟨rfl, ⟨nd, rfl⟩⟩; (try first | exact ⟨rfl, _, World.drewN_drewN _ _ _⟩ | exact ⟨rfl, _, Eq.trans (World.drewN_drewN _ _ _) (congrArg (World.drewN _) (Nat.add_assoc _ _ _))⟩)) | (go_at_call 18; (with_reducible refine (packet_Together.calls k a0 (fun k_ => k_ < w.heap.size) _ _ l1 t204 _ ?side1 A5.out).mono ?_); (case side1 => exact Kd.V_mk HC1.out (Kd.F_below (Kd.C_F k51_heap HR1.out) (by repeat (first | (with_reducible first | exact HB.out | apply below_alloc | apply pw_below_drewN | apply below_drew1) | exact HB.out)))); rintro e w26 ⟨v205, rfl, ho0, hb⟩; have n0_ := Aside0.mk (Kd.N_lower (Kd.N_mono (ok' := fun k_ => True) ho0 (fun k_ hk_ => trivial)) (below_size (by repeat (first | (with_reducible first | exact HB.out | apply below_alloc | apply pw_below_drewN | apply below_drew1) | exact HB.out)))); have n1_ := Aside0.mk (below_step (by repeat (first | (with_reducible first | exact HB.out | apply below_alloc | apply pw_below_drewN | apply below_drew1) | exact HB.out)) hb); clear HB; have HO206 := n0_; have HB := n1_; clear n0_ n1_; (try clear hb); (try clear hb2); (try clear hk); (try clear hi); (try clear ho0)) | (go_at_call 20; (with_reducible refine (funicularref17_Together.calls k a0 (fun k_ => k_ < w.heap.size) _ _ l1 t207 _ ?side1 A6.out).mono ?_); (case side1 => exact Kd.V_mk HC1.out (Kd.F_below (Kd.C_F k51_heap HR1.out) (by repeat (first | (with_reducible first | exact HB.out | apply below_alloc | apply pw_below_drewN | apply below_drew1) | exact HB.out)))); rintro e w27 ⟨v208, rfl, ho0, hb⟩; have n0_ := Aside0.mk (Kd.N_elder' (by (with_reducible repeat (first | apply Kd.N_alloc | apply Kd.N_drewN | apply Kd.N_drew)); exact HO206.out) (Kd.N_base ho0) hb); have n1_ := Aside0.mk (Kd.N_lower (Kd.N_mono (ok' := fun k_ => some k_ ≠ (v205 : Value).ownBlock) ho0 (fun k_ hk_ => Or.elim hk_ (fun hs_ => fun e_ => Nat.not_le.2 hs_ (Kd.N_base HO206.out k_ e_.symm)) (fun hn_ => (Kd.fresh' (Kd.N_lt (by (with_reducible repeat (first | apply Kd.N_alloc | apply Kd.N_drewN | apply Kd.N_drew)); exact HO206.out)) k_ hn_)))) (below_size (by repeat (first | (with_reducible first | exact HB.out | apply below_alloc | apply pw_below_drewN | apply below_drew1) | exact HB.out)))); have n2_ := Aside0.mk (below_step (by repeat (first | (with_reducible first | exact HB.out | apply below_alloc | apply pw_below_drewN | apply below_drew1) | exact HB.out)) hb); clear HO206; clear HB; have HO206 := n0_; have HO209 := n1_; have HB := n2_; clear n0_ n1_ n2_; (try clear hb); (try clear hb2); (try clear hk); (try clear hi); (try clear ho0); obtain ⟨Ao28, co28, eo28⟩ := Kd.N_slice HO206.out; subst eo28; obtain ⟨Ao29, co29, eo29⟩ := Kd.N_slice HO209.out; subst eo29) | (go_at_call 19; (with_reducible refine (funicularref17_SameAll.calls k _ _ t204 _ _ t207 false _ ?side1 ?side2 ?side3 ?side4 A7.out).mono ?_); (case side1 => repeat (first | exact (Kd.N_reads' HO206.out).2.2 | (with_reducible refine Kd.C_alloc ?_ _) | (with_reducible refine Kd.C_drewN ?_ _) | (with_reducible refine Kd.C_drew ?_))); (case side2 => exact (Kd.N_reads' HO206.out).2.1); (case side3 => repeat (first | exact (Kd.N_reads' HO209.out).2.2 | (with_reducible refine Kd.C_alloc ?_ _) | (with_reducible refine Kd.C_drewN ?_ _) | (with_reducible refine Kd.C_drew ?_))); (case side4 => exact (Kd.N_reads' HO209.out).2.1); rintro e w30 ⟨rfl, hb⟩; have n0_ := Aside0.mk (Kd.N_below (by (with_reducible repeat (first | apply Kd.N_alloc | apply Kd.N_drewN | apply Kd.N_drew)); exact HO206.out) hb); have n1_ := Aside0.mk (Kd.N_below (by (with_reducible repeat (first | apply Kd.N_alloc | apply Kd.N_drewN | apply Kd.N_drew)); exact HO209.out) hb); have n2_ := Aside0.mk (below_step (by repeat (first | (with_reducible first | exact HB.out | apply below_alloc | apply pw_below_drewN | apply below_drew1) | exact HB.out)) hb); clear HO206; clear HO209; clear HB; have HO206 := n0_; have HO209 := n1_; have HB := n2_; clear n0_ n1_ n2_; (try clear hb); (try clear hb2); (try clear hk); (try clear hi))))
      go_ret
      exact ⟨by first | rfl | (simp [errW_none, errW_some] <;> rfl) | (simp [*, errW_none, errW_some] <;> rfl), by repeat (first | (with_reducible first | exact HB.out | apply below_alloc | apply pw_below_drewN | apply below_drew1) | exact HB.out)⟩
  · replace c4 := Bool.eq_false_iff.mpr c4
    subst c4
    have H1 : ((funicularlaw17_works.f).bind fun t203 => (some t203)) = some r := by rw [if_neg (show ¬ (false = true) by decide)] at H; exact H
    clear H
    have H := H1
    clear H1
    replace H := Option.bind_eq_some_iff.mp H
    obtain ⟨t203, A310, H⟩ := H
    replace H : (some t203) = some r := H
    have A31 := Aside0.mk A310
    clear A310
    obtain rfl := Option.some.inj H
    go_enter Try.func7, Try.ntmps7
    go_wp2_with (first | (go_at_call 8; (with_reducible refine (funicularlaw17_light.calls k _ _ l1 false _ ?side1 ?side2 A3.out).mono ?_); (case side1 => repeat (first | exact HR1.out | (with_reducible refine Kd.C_alloc ?_ _) | (with_reducible refine Kd.C_drewN ?_ _) | (with_reducible refine Kd.C_drew ?_))); (case side2 => exact HC1.out); rintro e w' ⟨rfl, ⟨nd, rfl⟩⟩; (try first | exact ⟨rfl, _, World.drewN_drewN _ _ _⟩ | exact ⟨rfl, _, Eq.trans (World.drewN_drewN _ _ _) (congrArg (World.drewN _) (Nat.add_assoc _ _ _))⟩)) | (go_at_call 9; (with_reducible refine (funicularlaw17_works.calls  t203 _ A31.out).mono ?_); rintro e w32 ⟨rfl, hb⟩; have n0_ := Aside0.mk (below_step (by repeat (first | (with_reducible first | exact HB.out | apply below_alloc | apply pw_below_drewN | apply below_drew1) | exact HB.out)) hb); clear HB; have HB := n0_; clear n0_; (try clear hb); (try clear hb2); (try clear hk); (try clear hi)))
    repeat (go_quiet (first | (go_at_call 8; (with_reducible refine (funicularlaw17_light.calls k _ _ l1 false _ ?side1 ?side2 A3.out).mono ?_); (case side1 => repeat (first | exact HR1.out | (with_reducible refine Kd.C_alloc ?_ _) | (with_reducible refine Kd.C_drewN ?_ _) | (with_reducible refine Kd.C_drew ?_))); (case side2 => exact HC1.out); rintro e w' ⟨rfl, ⟨nd, rfl⟩⟩; (try first | exact ⟨rfl, _, World.drewN_drewN _ _ _⟩ | exact ⟨rfl, _, Eq.trans (World.drewN_drewN _ _ _) (congrArg (World.drewN _) (Nat.add_assoc _ _ _))⟩)) | (go_at_call 9; (with_reducible refine (funicularlaw17_works.calls  t203 _ A31.out).mono ?_); rintro e w32 ⟨rfl, hb⟩; have n0_ := Aside0.mk (below_step (by repeat (first | (with_reducible first | exact HB.out | apply below_alloc | apply pw_below_drewN | apply below_drew1) | exact HB.out)) hb); clear HB; have HB := n0_; clear n0_; (try clear hb); (try clear hb2); (try clear hk); (try clear hi))); try go_wp2_with (first | (go_at_call 8; (with_reducible refine (funicularlaw17_light.calls k _ _ l1 false _ ?side1 ?side2 A3.out).mono ?_); (case side1 => repeat (first | exact HR1.out | (with_reducible refine Kd.C_alloc ?_ _) | (with_reducible refine Kd.C_drewN ?_ _) | (with_reducible refine Kd.C_drew ?_))); (case side2 => exact HC1.out); rintro e w' ⟨rfl, ⟨nd, rfl⟩⟩; (try first | exact ⟨rfl, _, World.drewN_drewN _ _ _⟩ | exact ⟨rfl, _, Eq.trans (World.drewN_drewN _ _ _) (congrArg (World.drewN _) (Nat.add_assoc _ _ _))⟩)) | (go_at_call 9; (with_reducible refine (funicularlaw17_works.calls  t203 _ A31.out).mono ?_); rintro e w32 ⟨rfl, hb⟩; have n0_ := Aside0.mk (below_step (by repeat (first | (with_reducible first | exact HB.out | apply below_alloc | apply pw_below_drewN | apply below_drew1) | exact HB.out)) hb); clear HB; have HB := n0_; clear n0_; (try clear hb); (try clear hb2); (try clear hk); (try clear hi))))
    go_ret
    exact ⟨by first | rfl | (simp [errW_none, errW_some] <;> rfl) | (simp [*, errW_none, errW_some] <;> rfl), by repeat (first | (with_reducible first | exact HB.out | apply below_alloc | apply pw_below_drewN | apply below_drew1) | exact HB.out)⟩
def fineT48 (x : S48) : Prop := (Lit.int .i64 x.f0).wf = true ∧ (x.f1.length * 1 ≤ 140737488351232 ∧ ∀ y1 ∈ x.f1, (Lit.int .u8 y1).wf = true)
theorem opnT48 {H : Type} {enc : TypeId × Value → H} {W : World} {base : Nat} {spare : Nat → Bool} {held : Bool} : Opn enc Try.prog W base spare held 48 k48 fineT48 := Opn.struct (fine := fun p : (Int × List Int) => (Lit.int .i64 p.1).wf = true ∧ (p.2.length * 1 ≤ 140737488351232 ∧ ∀ y1 ∈ p.2, (Lit.int .u8 y1).wf = true)) (fun p : (Int × List Int) => ⟨p.1, p.2⟩) (fun _ => rfl) Try.underlying48 (by kernel_rfl) (OpnF.cons rfl (by kernel_rfl) rfl (Opn.int Try.underlying3) (OpnF.one rfl (by kernel_rfl) (Opn.slice (B := 1) Try.underlying27 (by kernel_rfl) (by kernel_rfl) (Opn.int Try.underlying5))))
def fineT51 (x : S51) : Prop := (Lit.int .i64 x.f0).wf = true ∧ (Lit.int .i64 x.f1).wf = true ∧ (Lit.int .i64 x.f2).wf = true ∧ (Lit.int .i64 x.f3).wf = true ∧ (Lit.int .i64 x.f4).wf = true ∧ (Lit.int .i64 x.f5).wf = true ∧ (Lit.int .i64 x.f6).wf = true ∧ (Lit.int .i64 x.f7).wf = true ∧ True ∧ (x.f9.length * 32 ≤ 140737488351232 ∧ ∀ y1 ∈ x.f9, fineT48 y1) ∧ (x.f10.length * 1 ≤ 140737488351232 ∧ ∀ y1 ∈ x.f10, (Lit.int .u8 y1).wf = true)
theorem opnT51 {H : Type} {enc : TypeId × Value → H} {W : World} {base : Nat} {spare : Nat → Bool} {held : Bool} : Opn enc Try.prog W base spare held 51 k51 fineT51 := Opn.struct (fine := fun p : (Int × Int × Int × Int × Int × Int × Int × Int × Bool × List S48 × List Int) => (Lit.int .i64 p.1).wf = true ∧ (Lit.int .i64 p.2.1).wf = true ∧ (Lit.int .i64 p.2.2.1).wf = true ∧ (Lit.int .i64 p.2.2.2.1).wf = true ∧ (Lit.int .i64 p.2.2.2.2.1).wf = true ∧ (Lit.int .i64 p.2.2.2.2.2.1).wf = true ∧ (Lit.int .i64 p.2.2.2.2.2.2.1).wf = true ∧ (Lit.int .i64 p.2.2.2.2.2.2.2.1).wf = true ∧ True ∧ (p.2.2.2.2.2.2.2.2.2.1.length * 32 ≤ 140737488351232 ∧ ∀ y1 ∈ p.2.2.2.2.2.2.2.2.2.1, fineT48 y1) ∧ (p.2.2.2.2.2.2.2.2.2.2.length * 1 ≤ 140737488351232 ∧ ∀ y1 ∈ p.2.2.2.2.2.2.2.2.2.2, (Lit.int .u8 y1).wf = true)) (fun p : (Int × Int × Int × Int × Int × Int × Int × Int × Bool × List S48 × List Int) => ⟨p.1, p.2.1, p.2.2.1, p.2.2.2.1, p.2.2.2.2.1, p.2.2.2.2.2.1, p.2.2.2.2.2.2.1, p.2.2.2.2.2.2.2.1, p.2.2.2.2.2.2.2.2.1, p.2.2.2.2.2.2.2.2.2.1, p.2.2.2.2.2.2.2.2.2.2⟩) (fun _ => rfl) Try.underlying51 (by kernel_rfl) (OpnF.cons rfl (by kernel_rfl) rfl (Opn.int Try.underlying3) (OpnF.cons rfl (by kernel_rfl) rfl (Opn.int Try.underlying3) (OpnF.cons rfl (by kernel_rfl) rfl (Opn.int Try.underlying3) (OpnF.cons rfl (by kernel_rfl) rfl (Opn.int Try.underlying3) (OpnF.cons rfl (by kernel_rfl) rfl (Opn.int Try.underlying3) (OpnF.cons rfl (by kernel_rfl) rfl (Opn.int Try.underlying3) (OpnF.cons rfl (by kernel_rfl) rfl (Opn.int Try.underlying3) (OpnF.cons rfl (by kernel_rfl) rfl (Opn.int Try.underlying3) (OpnF.cons rfl (by kernel_rfl) rfl (Opn.bool Try.underlying4) (OpnF.cons rfl (by kernel_rfl) rfl (Opn.slice (B := 32) Try.underlying49 (by kernel_rfl) (by kernel_rfl) opnT48) (OpnF.one rfl (by kernel_rfl) (Opn.slice (B := 1) Try.underlying27 (by kernel_rfl) (by kernel_rfl) (Opn.int Try.underlying5)))))))))))))

/-- THE ONE PURE STATEMENT of funicularlaw17_PacketTogether: yours. -/
def funicularlaw17_PacketTogether.Pure : Prop := ∀ (a0 : Int) (l1 : List (S51)), (Lit.int .i64 a0).wf = true → (l1.length * 120 ≤ 140737488351232 ∧ ∀ y1 ∈ l1, fineT51 y1) → ∃ k, funicularlaw17_PacketTogether.f k a0 l1 = some true
theorem funicularlaw17_PacketTogether.walk : True := trivial

end Go.Proofs.Ytnmcahlpkebpjaa.XPacketTogether
