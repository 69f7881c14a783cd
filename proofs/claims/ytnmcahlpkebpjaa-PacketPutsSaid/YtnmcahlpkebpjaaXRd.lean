/- A reader: bytes that are left, and the first error: its methods as what they are. -/
import Derived.Test.YtnmcahlpkebpjaaXPk
set_option linter.unusedVariables false
set_option linter.unusedSimpArgs false
namespace Go.Proofs.YtnmcahlpkebpjaaX
open Go Go.RowKit Go.Proofs.YtnmcahlpkebpjaaW.PrintWords Go.Proofs.YtnmcahlpkebpjaaW
/-- A call of a function value, as a step of a region that draws. -/
theorem goesF_ {P : Program} {ops : Array Oper} {Q : Exit → Act → World → Prop} {oi : Oper} {a : Act} {w : World} {K : Act → World → Prop} {E : Prop} {f : FuncId} {fn : Func} {x : Operand} {first cap : Array Value} {xs : Array Operand} {ts : Array TypeId} (hf : P.funcs[f]? = some fn) (hname : (fn.name == "runtime.NumGoroutine") = false) (hb : fn.body.isSome = true) (args : Array Value)
    (hw : Region.wanted oi (yielded ops a.tmps) = true) (hop : oi.op = .call { callee := .value x, args := xs, argTypes := ts }) (hx : a.eval x = .func (.func f) first cap) (hargs : first ++ xs.map a.eval ++ cap = args)
    (h : Calls P f args w fun e w' => ∃ v, e = .returned v ∧ K (a.put oi.dst v) w') : if Region.wanted oi (yielded ops a.tmps) = true then Oper.wp P oi a w K Q else E := by
  rw [if_pos hw]
  have he := PrintLast.enters_ hf hname hb args w
  unfold Oper.wp
  have hrun : (execOp a.eval oi).run P w = .ok (.enter f args) w := by
    unfold execOp
    simp [hop, resolve, Deferred.ofValue, invoke, hx, hargs, he]
  rw [hrun, Oper.upon_enter]
  refine h.mono fun e w'' hh => ?_
  obtain ⟨v, rfl, hk⟩ := hh
  exact hk
/-- A reader at block g of W; the bytes that are left came in by w0. -/
def RdS (w0 W : World) (g : Nat) (l : List Int) (e : Int) : Prop := ∃ A c, W.heap[g]? = some (.cells #[.slice A l.length c, .int .i64 e] 65 (0, 0)) ∧ w0.heap.size ≤ g ∧ l.length ≤ c ∧ IsB l ∧ l.length ≤ 140737488351232 ∧ Kd.C (Kd.int .u8) w0 A l.length l
section
variable {w0 W W1 : World} {g : Nat} {l : List Int} {e : Int}
theorem RdS.step (h : RdS w0 W g l e) (hw : W1.heap[g]? = W.heap[g]?) : RdS w0 W1 g l e := by
  obtain ⟨A, c, hb, r⟩ := h
  exact ⟨A, c, hw.trans hb, r⟩
theorem RdS.lt (h : RdS w0 W g l e) : g < W.heap.size := by
  obtain ⟨A, c, hb, r⟩ := h
  exact blk_lt hb
theorem RdS.ge (h : RdS w0 W g l e) : w0.heap.size ≤ g := by
  obtain ⟨A, c, hb, hg, r⟩ := h
  exact hg
theorem RdS.below (h : RdS w0 W g l e) (hw : Below W.heap.size W W1) : RdS w0 W1 g l e := h.step (hw.block g h.lt)
theorem RdS.drewN (h : RdS w0 W g l e) (n : Nat) : RdS w0 (W.drewN n) g l e := h
end
theorem rds_cell0 {W : World} {g : Nat} {A : Option Addr} {n c : Nat} {e : Int} (h : W.heap[g]? = some (.cells #[.slice A n c, .int .i64 e] 65 (0, 0))) : W.cell? ⟨g, 0, none⟩ = some (.slice A n c) := (blk_cell h 0).trans rfl
theorem rds_cell1 {W : World} {g : Nat} {A : Option Addr} {n c : Nat} {e : Int} (h : W.heap[g]? = some (.cells #[.slice A n c, .int .i64 e] 65 (0, 0))) : W.cell? ⟨g, 1, none⟩ = some (.int .i64 e) := (blk_cell h 1).trans rfl
theorem rds_set1 {W : World} {g : Nat} {A : Option Addr} {n c : Nat} {e x : Int} (h : W.heap[g]? = some (.cells #[.slice A n c, .int .i64 e] 65 (0, 0))) : (W.setCell ⟨g, 1, none⟩ (.int .i64 x)).heap[g]? = some (.cells #[.slice A n c, .int .i64 x] 65 (0, 0)) := by simpa using blk_set h 1 (.int .i64 x)
theorem rds_set0 {W : World} {g : Nat} {A B : Option Addr} {n c m d : Nat} {e : Int} (h : W.heap[g]? = some (.cells #[.slice A n c, .int .i64 e] 65 (0, 0))) : (W.setCell ⟨g, 0, none⟩ (.slice B m d)).heap[g]? = some (.cells #[.slice B m d, .int .i64 e] 65 (0, 0)) := by simpa using blk_set h 0 (.slice B m d)

/-- What a method leaves: the reader turned, all else as it was. -/
structure RdPost (w0 w : World) (g : Nat) (l : List Int) (e : Int) (w' : World) : Prop where
  st : RdS w0 w' g l e
  below : Below w0.heap.size w0 w'
  keep : KeepBut w w' g none

def failE (e x : Int) : Int := if e = 0 then x else e
set_option maxHeartbeats 800000 in
theorem fail_calls (g : Nat) (l : List Int) (e x : Int) (w0 w : World) (hI : RdS w0 w g l e) (hB : Below w0.heap.size w0 w) :
    Calls Try.prog 35 #[.pointer (some ⟨g, 0, none⟩), .int .i64 x] w fun en w' => en = .returned (.tuple #[]) ∧ RdPost w0 w g l (failE e x) w' := by
  obtain ⟨A, c, hb, hg, r⟩ := hI
  have hc1 := rds_cell1 hb
  have hf1 := blk_frozen hb 1
  have HBB := Aside0.mk hb
  have HR := Aside0.mk r
  have HBL := Aside0.mk hB
  have HGG := Aside0.mk hg
  clear hb r hB hg
  by_cases h0 : e = 0
  · subst h0
    go_enter Try.func35, Try.ntmps35
    go_wp2
    first | go_end0 | ((try simp only [Exit.inBlock, Exit.then]); refine bodyPost_ret (results_none rfl _ _ _) rfl ?_)
    refine ⟨by first | rfl | (simp; done), ⟨⟨A, c, rds_set1 HBB.out, HGG.out, HR.out⟩, HBL.out.setCell HGG.out _, ?_⟩⟩
    exact KeepBut.set_ (KeepBut.refl w g none) _ _
  · have hb : (e == 0) = false := by simp; omega
    have he : failE e x = e := if_neg h0
    have HE := Aside0.mk he
    clear h0 he
    go_enter Try.func35, Try.ntmps35
    go_wp2
    first | go_end0 | ((try simp only [Exit.inBlock, Exit.then]); refine bodyPost_ret (results_none rfl _ _ _) rfl ?_)
    refine ⟨by first | rfl | (simp; done), ⟨⟨A, c, ?_, HGG.out, HR.out⟩, HBL.out, KeepBut.refl w g none⟩⟩
    rw [HE.out]
    exact HBB.out

/-! ### the next number -/
def numP (most : Int) (l : List Int) (e : Int) : Int × List Int × Int :=
  if e = 0 then (if (ruP l).2.2 = 0 then (if (ruP l).1 > most then (0, (ruP l).2.1, 6) else ((ruP l).1, (ruP l).2.1, 0)) else (0, l, (ruP l).2.2)) else (0, l, e)
def NumPost (w0 w : World) (g : Nat) (r : Int × List Int × Int) (en : Ending) (w' : World) : Prop := en = .returned (.int .i64 r.1) ∧ RdPost w0 w g r.2.1 r.2.2 w'
theorem RdPost.refl {w0 w : World} {g : Nat} {l : List Int} {e : Int} (h : RdS w0 w g l e) (hB : Below w0.heap.size w0 w) : RdPost w0 w g l e w := ⟨h, hB, KeepBut.refl w g none⟩
theorem rest_ok {w0 : World} {A A1 : Option Addr} {c1 : Nat} {l : List Int} (hb : IsB l) (hl : l.length ≤ 140737488351232) (hr : Kd.C (Kd.int .u8) w0 A l.length l) (h1 : (ruP l).2.1.length ≤ c1) (hw : ∀ W : World, Kd.C (Kd.int .u8) W A l.length l → Kd.C (Kd.int .u8) W A1 (ruP l).2.1.length (ruP l).2.1) :
    (ruP l).2.1.length ≤ c1 ∧ IsB (ruP l).2.1 ∧ (ruP l).2.1.length ≤ 140737488351232 ∧ Kd.C (Kd.int .u8) w0 A1 (ruP l).2.1.length (ruP l).2.1 :=
  ⟨h1, ruP_B l hb, Nat.le_trans (ruP_len l) hl, hw w0 hr⟩
theorem RdPost.ofDrew {w0 w w' : World} {g n : Nat} {l : List Int} {e : Int} (h : RdPost w0 (w.drewN n) g l e w') : RdPost w0 w g l e w' := ⟨h.st, h.below, h.keep⟩
theorem RdPost.trans {w0 w w1 w2 : World} {g : Nat} {l l2 : List Int} {e e2 : Int} (h : RdPost w0 w g l e w1) (k : RdPost w0 w1 g l2 e2 w2) : RdPost w0 w g l2 e2 w2 := ⟨k.st, k.below, h.keep.trans k.keep (.inl rfl)⟩
theorem RdPost.store {w0 w w1 : World} {g c1 : Nat} {l t : List Int} {e : Int} {A1 : Option Addr} (h : RdPost w0 w g l e w1) (ok : t.length ≤ c1 ∧ IsB t ∧ t.length ≤ 140737488351232 ∧ Kd.C (Kd.int .u8) w0 A1 t.length t) : RdPost w0 w g t e (w1.setCell ⟨g, 0, none⟩ (.slice A1 t.length c1)) := by
  obtain ⟨A, c, hb, hg, r⟩ := h.st
  exact ⟨⟨A1, c1, rds_set0 hb, hg, ok⟩, h.below.setCell hg _, h.keep.set_ _ _⟩
set_option maxHeartbeats 1600000 in
set_option maxRecDepth 100000 in
theorem number_calls (g : Nat) (l : List Int) (e most : Int) (hm : 0 ≤ most ∧ most ≤ 1099511627776) (w0 w : World) (hI : RdS w0 w g l e) (hB : Below w0.heap.size w0 w) :
    Calls Try.prog 33 #[.pointer (some ⟨g, 0, none⟩), .int .i64 most] w (NumPost w0 w g (numP most l e)) := by
  have HI := Aside0.mk hI
  obtain ⟨A, c, hb, hg, hl, hby, hln, hr⟩ := hI
  have hc0 := rds_cell0 hb
  have hc1 := rds_cell1 hb
  have HG := Aside0.mk hg
  have HBY := Aside0.mk hby
  have HLN := Aside0.mk hln
  have HR := Aside0.mk hr
  have HB := Aside0.mk hB
  have HRW := Aside0.mk (Kd.C_below hr hB)
  obtain ⟨hm0, hm1⟩ := hm
  clear hb hg hby hln hr hB
  by_cases h0 : e = 0
  · subst h0
    obtain ⟨n, hn⟩ : ∃ n, n = (ruP l).1 := ⟨_, rfl⟩
    obtain ⟨t, ht⟩ : ∃ t, t = (ruP l).2.1 := ⟨_, rfl⟩
    obtain ⟨x, hx⟩ : ∃ x, x = (ruP l).2.2 := ⟨_, rfl⟩
    have hnn := ruP_nn l HBY.out
    have hnp : numP most l 0 = if x = 0 then (if n > most then (0, t, 6) else (n, t, 0)) else (0, l, x) := by
      unfold numP
      rw [if_pos rfl, ← hn, ← ht, ← hx]
    rw [← hn] at hnn
    obtain ⟨hn0, hn1⟩ := hnn
    have HN := Aside0.mk hn
    have HT := Aside0.mk ht
    have HX := Aside0.mk hx
    clear hn ht hx
    by_cases c0 : x = 0
    · subst c0
      rw [if_pos rfl] at hnp
      by_cases c1 : n > most
      · rw [if_pos c1] at hnp
        have HNP := Aside0.mk hnp
        clear hnp
        go_enter Try.func33, Try.ntmps33
        go_wp2_with (first
          | (go_at_call 45; ((with_reducible refine (ru_calls A c l HBY.out _ HRW.out hl).mono ?_); rintro e w' ⟨A1, k1, rfl, hl1, hwin, ⟨nd, rfl⟩⟩; have HOK := Aside0.mk (rest_ok HBY.out HLN.out HR.out hl1 hwin); rw [← HN.out, ← HT.out, ← HX.out]; rw [← HT.out] at HOK; clear hl1 hwin))
          | (go_at_call 35; first
            | ((with_reducible refine (fail_calls g l 0 0 w0 _ (HI.out.drewN _) (pw_below_drewN HB.out _)).mono ?_); rintro e w1 ⟨rfl, hP⟩; have HP := Aside0.mk hP; obtain ⟨A2, c2, hb2, _⟩ := hP.st; have hcz0 := rds_cell0 hb2; have hfz0 := blk_frozen hb2 0; clear hb2 hP)
            | ((with_reducible refine (fail_calls g t 0 6 w0 _ (HP.out.store HOK.out).st (HP.out.store HOK.out).below).mono ?_); rintro e w2 ⟨rfl, hP⟩; have HQ := Aside0.mk hP; clear hP)))
        go_ret
        rw [HNP.out]
        exact ⟨rfl, ((HP.out.store HOK.out).trans HQ.out).ofDrew⟩
      · rw [if_neg c1] at hnp
        have HNP := Aside0.mk hnp
        clear hnp
        go_enter Try.func33, Try.ntmps33
        go_wp2_with (first
          | (go_at_call 45; ((with_reducible refine (ru_calls A c l HBY.out _ HRW.out hl).mono ?_); rintro e w' ⟨A1, k1, rfl, hl1, hwin, ⟨nd, rfl⟩⟩; have HOK := Aside0.mk (rest_ok HBY.out HLN.out HR.out hl1 hwin); rw [← HN.out, ← HT.out, ← HX.out]; rw [← HT.out] at HOK; clear hl1 hwin))
          | (go_at_call 35; first
            | ((with_reducible refine (fail_calls g l 0 0 w0 _ (HI.out.drewN _) (pw_below_drewN HB.out _)).mono ?_); rintro e w1 ⟨rfl, hP⟩; have HP := Aside0.mk hP; obtain ⟨A2, c2, hb2, _⟩ := hP.st; have hcz0 := rds_cell0 hb2; have hfz0 := blk_frozen hb2 0; clear hb2 hP)
            | ((with_reducible refine (fail_calls g t 0 6 w0 _ (HP.out.store HOK.out).st (HP.out.store HOK.out).below).mono ?_); rintro e w2 ⟨rfl, hP⟩; have HQ := Aside0.mk hP; clear hP)))
        go_ret
        rw [HNP.out]
        exact ⟨rfl, (HP.out.store HOK.out).ofDrew⟩
    · rw [if_neg c0] at hnp
      have HNP := Aside0.mk hnp
      clear hnp
      have c0b : (x == 0) = false := by simp; omega
      clear c0
      go_enter Try.func33, Try.ntmps33
      go_wp2_with (first
        | (go_at_call 45; ((with_reducible refine (ru_calls A c l HBY.out _ HRW.out hl).mono ?_); rintro e w' ⟨A1, c1, rfl, hl1, hwin, ⟨nd, rfl⟩⟩; rw [← HN.out, ← HT.out, ← HX.out]; clear hl1 hwin))
        | (go_at_call 35; ((with_reducible refine (fail_calls g l 0 x w0 _ (HI.out.drewN _) (pw_below_drewN HB.out _)).mono ?_); rintro e w1 ⟨rfl, hP⟩; have HP := Aside0.mk hP; clear hP)))
      go_ret
      rw [HNP.out]
      exact ⟨rfl, HP.out.ofDrew⟩
  · have hnp : numP most l e = (0, l, e) := if_neg h0
    have HNP := Aside0.mk hnp
    have hb0 : (e == 0) = false := by simp; omega
    clear h0 hnp
    go_enter Try.func33, Try.ntmps33
    go_wp2
    go_ret
    rw [HNP.out]
    exact ⟨rfl, RdPost.refl HI.out HB.out⟩

/-! ### the next bytes -/
def bytesP (l : List Int) (e : Int) : List Int × List Int × Int :=
  if e = 0 then (if (rbP l).2.2 = 0 then ((rbP l).1, (rbP l).2.1, 0) else ([], l, (rbP l).2.2)) else ([], l, e)
def TextPost (w0 w : World) (g : Nat) (r : List Int × List Int × Int) (en : Ending) (w' : World) : Prop := ∃ v : Value, en = .returned v ∧ Kd.R (Kd.int .u8) 5 w' w.heap.size (fun _ => True) v r.1 ∧ RdPost w0 w g r.2.1 r.2.2 w'
theorem rbP_ok (l : List Int) (hb : IsB l) : (rbP l).1.length ≤ l.length ∧ (rbP l).2.1.length ≤ l.length ∧ IsB (rbP l).1 ∧ IsB (rbP l).2.1 := by
  have h1 := ruP_len l
  have h2 := ruP_B l hb
  have hn : ∀ x, x ∈ ([] : List Int) → 0 ≤ x ∧ x < 256 := fun x hx => by cases hx
  unfold rbP
  repeat' split
  all_goals first
    | exact ⟨Nat.zero_le _, Nat.zero_le _, hn, hn⟩
    | (refine ⟨?_, ?_, h2.take _, h2.drop _⟩
       · show (List.take _ _).length ≤ _
         rw [List.length_take]; omega
       · show (List.drop _ _).length ≤ _
         rw [List.length_drop]; omega)
theorem RdPost.thenBelow {w0 w w1 w2 : World} {g : Nat} {l : List Int} {e : Int} (h : RdPost w0 w g l e w1) (hb : Below w1.heap.size w1 w2) : RdPost w0 w g l e w2 :=
  ⟨h.st.below hb, below_then h.below h.below.size hb, h.keep.trans (KeepBut.of_below hb g none) (.inl rfl)⟩
set_option maxHeartbeats 1600000 in
set_option maxRecDepth 100000 in
theorem bytes_calls (g : Nat) (l : List Int) (e : Int) (w0 w : World) (hI : RdS w0 w g l e) (hB : Below w0.heap.size w0 w) :
    Calls Try.prog 46 #[.pointer (some ⟨g, 0, none⟩)] w (TextPost w0 w g (bytesP l e)) := by
  have HI := Aside0.mk hI
  obtain ⟨A, c, hb, hg, hl, hby, hln, hr⟩ := hI
  have hc0 := rds_cell0 hb
  have hc1 := rds_cell1 hb
  have HG := Aside0.mk hg
  have HBY := Aside0.mk hby
  have HLN := Aside0.mk hln
  have HR := Aside0.mk hr
  have HB := Aside0.mk hB
  have HRW := Aside0.mk (Kd.C_below hr hB)
  clear hb hg hby hln hr hB
  by_cases h0 : e = 0
  · subst h0
    obtain ⟨s, hn⟩ : ∃ n, n = (rbP l).1 := ⟨_, rfl⟩
    obtain ⟨t, ht⟩ : ∃ t, t = (rbP l).2.1 := ⟨_, rfl⟩
    obtain ⟨x, hx⟩ : ∃ x, x = (rbP l).2.2 := ⟨_, rfl⟩
    have hok := rbP_ok l HBY.out
    have hnp : bytesP l 0 = if x = 0 then (s, t, 0) else ([], l, x) := by
      unfold bytesP
      rw [if_pos rfl, ← hn, ← ht, ← hx]
    rw [← hn, ← ht] at hok
    have HN := Aside0.mk hn
    have HT := Aside0.mk ht
    have HX := Aside0.mk hx
    have HOK0 := Aside0.mk hok
    clear hn ht hx hok
    by_cases c0 : x = 0
    · subst c0
      rw [if_pos rfl] at hnp
      have HNP := Aside0.mk hnp
      clear hnp
      go_enter Try.func46, Try.ntmps46
      go_wp2_with (first
          | (go_at_call 50; ((with_reducible refine (rb_calls A c l HBY.out _ HRW.out hl).mono ?_); rintro e w' ⟨A1, k1, A3, k3, rfl, hl1, hl3, hwin, hwin3, ⟨nd, rfl⟩⟩; rw [← HN.out, ← HT.out, ← HX.out]; rw [← HN.out] at hl1 hwin; rw [← HT.out] at hl3 hwin3; have HOK := Aside0.mk (And.intro hl3 (And.intro HOK0.out.2.2.2 (And.intro (Nat.le_trans HOK0.out.2.1 HLN.out) (hwin3 w0 HR.out)))); have HS := Aside0.mk (hwin w0 HR.out); clear hl3 hwin hwin3))
          | (go_at_call 35; ((with_reducible refine (fail_calls g l 0 0 w0 _ (HI.out.drewN _) (pw_below_drewN HB.out _)).mono ?_); rintro e w1 ⟨rfl, hP⟩; have HP := Aside0.mk hP; obtain ⟨A2, c2, hb2, _⟩ := hP.st; have hcz0 := rds_cell0 hb2; have hfz0 := blk_frozen hb2 0; clear hb2 hP))
          | (go_at_call 51; ((with_reducible refine (clone8_calls A1 k1 s (Nat.le_trans HOK0.out.1 HLN.out) _ (Kd.C_below HS.out (HP.out.store HOK.out).below) hl1).mono ?_); rintro e w2 ⟨v, rfl, hR, hBel⟩; have HV := Aside0.mk hR; have HBEL := Aside0.mk hBel; clear hR hBel)))
      go_ret
      rw [HNP.out]
      exact ⟨v, rfl, Kd.R_lower HV.out (HP.out.store HOK.out).keep.1, ((HP.out.store HOK.out).thenBelow HBEL.out).ofDrew⟩
    · rw [if_neg c0] at hnp
      have HNP := Aside0.mk hnp
      clear hnp
      have c0b : (x == 0) = false := by simp; omega
      clear c0
      go_enter Try.func46, Try.ntmps46
      go_wp2_with (first
        | (go_at_call 50; ((with_reducible refine (rb_calls A c l HBY.out _ HRW.out hl).mono ?_); rintro e w' ⟨A1, k1, A3, k3, rfl, hl1, hl3, hwin, hwin3, ⟨nd, rfl⟩⟩; rw [← HN.out, ← HT.out, ← HX.out]; clear hl1 hl3 hwin hwin3))
        | (go_at_call 35; ((with_reducible refine (fail_calls g l 0 x w0 _ (HI.out.drewN _) (pw_below_drewN HB.out _)).mono ?_); rintro e w1 ⟨rfl, hP⟩; have HP := Aside0.mk hP; clear hP)))
      go_ret
      rw [HNP.out]
      exact ⟨_, rfl, Kd.R_nil _ _ _ _ _, HP.out.ofDrew⟩
  · have hnp : bytesP l e = ([], l, e) := if_neg h0
    have HNP := Aside0.mk hnp
    have hb0 : (e == 0) = false := by simp; omega
    clear h0 hnp
    go_enter Try.func46, Try.ntmps46
    go_wp2
    go_ret
    rw [HNP.out]
    exact ⟨_, rfl, Kd.R_nil _ _ _ _ _, RdPost.refl HI.out HB.out⟩

/-- A variable in memory, whole. -/
def Box (t : Nat) (W : World) (b : Nat) (cs : List Value) : Prop := W.heap[b]? = some (.cells cs.toArray t (0, 0))
section
variable {t b g : Nat} {cs : List Value} {W W1 w0 w : World} {l : List Int} {e : Int}
theorem Box.new (t : Nat) (W : World) (cs : List Value) (b : Nat) (h : b = W.heap.size) : Box t (W.alloc (.cells cs.toArray t)) b cs := by subst h; exact blk_new W _
theorem Box.set (h : Box t W b cs) (i : Nat) (u : Value) : Box t (W.setCell ⟨b, i, none⟩ u) b (cs.set i u) := by
  have := blk_set h i u
  rwa [List.setIfInBounds_toArray] at this
theorem Box.far (h : Box t W b cs) (c : Nat) (hne : b ≠ c) (i : Nat) (u : Value) : Box t (W.setCell ⟨c, i, none⟩ u) b cs := blk_far (p := ⟨c, i, none⟩) h hne u
theorem Box.alloc (h : Box t W b cs) (o : Obj) : Box t (W.alloc o) b cs := blk_alloc h o
theorem Box.lt (h : Box t W b cs) : b < W.heap.size := blk_lt h
theorem Box.cell (h : Box t W b cs) (i : Nat) : W.cell? ⟨b, i, none⟩ = cs[i]? := by
  rw [blk_cell h i]; simp
theorem Box.free (h : Box t W b cs) : ∀ i, W.frozen? ⟨b, i, none⟩ = false := fun i => blk_frozen h i
theorem Box.keep (h : Box t W b cs) (hk : KeepBut W W1 g none) (hne : b ≠ g) : Box t W1 b cs := (hk.2 b (blk_lt h) hne (by simp)).trans h
theorem Box.below (h : Box t W b cs) (hk : Below W.heap.size W W1) : Box t W1 b cs := (hk.block b (blk_lt h)).trans h
theorem RdPost.alloc (h : RdPost w0 w g l e W) (o : Obj) : RdPost w0 w g l e (W.alloc o) := h.thenBelow (below_alloc (Below.refl _ _) o)
theorem RdPost.drew (h : RdPost w0 w g l e W) : RdPost w0 w g l e W.drew := ⟨h.st, h.below.drew, h.keep⟩
theorem RdPost.grown (h : RdPost w0 w g l e W) {row : Option Nat} (hg : W.grownBy W1 row) (hlt : g < w.heap.size) (hr : ∀ k, row = some k → w.heap.size ≤ k) : RdPost w0 w g l e W1 :=
  ⟨h.st.step (hg.block g h.st.lt (fun he => by have := hr g he.symm; omega)), h.below.grown hg h.below.size (fun k hk => by have := hr k hk; have := h.st.ge; omega), ⟨Nat.le_trans h.keep.1 hg.size, fun i hi hne hn => (hg.block i (Nat.lt_of_lt_of_le hi h.keep.1) (fun he => by have := hr i he.symm; omega)).trans (h.keep.2 i hi hne hn)⟩⟩
theorem Box.grown (h : Box t W b cs) {row : Option Nat} (hg : W.grownBy W1 row) (hne : some b ≠ row) : Box t W1 b cs := blk_grown h hg hne
theorem RdPost.far (h : RdPost w0 w g l e W) (b : Nat) (hb : w.heap.size ≤ b) (hg : g < w.heap.size) (i : Nat) (u : Value) : RdPost w0 w g l e (W.setCell ⟨b, i, none⟩ u) :=
  ⟨h.st.step (Below.heap_setCell W ⟨b, i, none⟩ u g (by show g ≠ b; omega)), h.below.setCell (by have := h.st.ge; show w0.heap.size ≤ b; omega) u, keep_far h.keep hb u⟩
end

theorem number_calls' {g : Nat} {l l' : List Int} {e e' n most : Int} (h : numP most l e = (n, l', e')) (hm : 0 ≤ most ∧ most ≤ 1099511627776) {w0 w : World} (hI : RdS w0 w g l e) (hB : Below w0.heap.size w0 w) :
    Calls Try.prog 33 #[.pointer (some ⟨g, 0, none⟩), .int .i64 most] w fun en w' => en = .returned (.int .i64 n) ∧ RdPost w0 w g l' e' w' := by
  have c := number_calls g l e most hm w0 w hI hB
  rw [h] at c
  exact c
theorem bytes_calls' {g : Nat} {l l' s : List Int} {e e' : Int} (h : bytesP l e = (s, l', e')) {w0 w : World} (hI : RdS w0 w g l e) (hB : Below w0.heap.size w0 w) :
    Calls Try.prog 46 #[.pointer (some ⟨g, 0, none⟩)] w fun en w' => ∃ v : Value, en = .returned v ∧ Kd.R (Kd.int .u8) 5 w' w.heap.size (fun _ => True) v s ∧ RdPost w0 w g l' e' w' := by
  have c := bytes_calls g l e w0 w hI hB
  rw [h] at c
  exact c
theorem numP_bd {most : Int} {l l' : List Int} {e e' n : Int} (hb : IsB l) (hm : 0 ≤ most) (h : numP most l e = (n, l', e')) : 0 ≤ n ∧ n ≤ most := by
  have hn := ruP_nn l hb
  unfold numP at h
  by_cases h0 : e = 0
  · rw [if_pos h0] at h
    by_cases h1 : (ruP l).2.2 = 0
    · rw [if_pos h1] at h
      by_cases h2 : (ruP l).1 > most
      · rw [if_pos h2] at h; cases h; omega
      · rw [if_neg h2] at h; cases h; omega
    · rw [if_neg h1] at h; cases h; omega
  · rw [if_neg h0] at h; cases h; omega

/-- A row laid as a literal. -/
theorem R_newlit {α : Type} (d : Kd α) (W : World) (base e : Nat) {xs : List α} {inner : List Value} {ok okp : Nat → Prop} (hrep : Reps (d.M W base okp) d.sz xs inner) (hok : ∀ k, okp k → ok k) (hfresh : ok W.heap.size) (hbase : base ≤ W.heap.size) (hm : xs.length ≤ 9223372036854775807) :
    d.R e (W.alloc (.cells inner.toArray e)) base ok (.slice (some ⟨W.heap.size, 0, none⟩) xs.length xs.length) xs := by
  refine ⟨fun k hk => ?_, inner, ?_, ?_⟩
  · have : W.heap.size = k := by simpa [Value.ownBlock] using hk
    subst this
    exact hfresh
  · have h2 := World.ownsRow_lit (base := base) (e := e) (size := d.sz) W inner.toArray xs.length hbase (by simpa [maxLen] using hm) (by simpa using hrep.1)
    simpa using h2
  · refine hrep.imp_ (fun p c hp => d.M_mono (fun k hk => ⟨hok k hk.1, fun he => ?_⟩) (Kd.M_below (d.M_bound hp) (below_alloc (Below.refl _ _) _)))
    have h3 : k = W.heap.size := by simpa [Value.ownBlock] using he
    have := hk.2.2.1
    omega
theorem reps_one {α : Type} {R : α → List Value → Prop} {size : Nat} {p : α} {c : List Value} (h : R p c) (hc : c.length = size) : Reps R size [p] c := by
  have := Reps.snoc (Reps.none R size) h hc
  simpa using this
end Go.Proofs.YtnmcahlpkebpjaaX
