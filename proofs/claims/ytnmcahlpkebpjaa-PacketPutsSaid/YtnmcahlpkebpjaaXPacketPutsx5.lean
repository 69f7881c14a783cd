-- written by xprint (wip/tools): a program of this session that goes on from the kit's print
import Derived.Test.YtnmcahlpkebpjaaXPacketPutsx0
import Derived.Test.YtnmcahlpkebpjaaXPacketPutsx2
import Derived.Test.YtnmcahlpkebpjaaXPacketPutsx3
namespace Go.Proofs.Ytnmcahlpkebpjaa.XPacketPuts
open Go.Proofs.YtnmcahlpkebpjaaX
open Go.RowKit Go.Proofs.YtnmcahlpkebpjaaW.PrintWords Go.Proofs.YtnmcahlpkebpjaaW.PrintLast Go.Proofs.YtnmcahlpkebpjaaW.PrintMore
attribute [local go_sem] max2_int min2_int max_two min_two max_three min_three max_four min_four   -- for this text's walks alone
set_option linter.unusedVariables false
set_option linter.unusedSimpArgs false

/-! ### bytes_Equal: function 32 -/
def bytes_Equal.f (l0 : List Int) (l1 : List Int) : Option (Bool) := some ((strOfNums l0).toList == (strOfNums l1).toList)
set_option maxHeartbeats 8000000 in
set_option maxRecDepth 100000 in
theorem bytes_Equal.calls (A0 : Option Addr) (c0 : Nat) (l0 : List Int) (A1 : Option Addr) (c1 : Nat) (l1 : List Int) (r : Bool) (w : World) (hr0 : Kd.C (Kd.int .u8) w A0 l0.length l0) (hc0 : l0.length ≤ c0) (hr1 : Kd.C (Kd.int .u8) w A1 l1.length l1) (hc1 : l1.length ≤ c1) (h : bytes_Equal.f l0 l1 = some r) :
  Calls Try.prog 32 #[.slice A0 l0.length c0, .slice A1 l1.length c1] w fun e w' => e = .returned (.bool r) ∧ Drawn0 w w' := by
 have HR0 := Aside0.mk hr0
 have HC0 := Aside0.mk hc0
 clear hr0 hc0
 have HR1 := Aside0.mk hr1
 have HC1 := Aside0.mk hc1
 clear hr1 hc1
 have H : (some ((strOfNums l0).toList == (strOfNums l1).toList)) = some r := h
 clear h
 obtain rfl := Option.some.inj H
 have hcv3 := Kd.C_string (P := Try.prog) (A := A0) (c := c0) Try.underlying27 Try.underlying5 Try.underlying9 HR0.out
 have hcv4 := C_string_drew (P := Try.prog) (A := A0) (c := c0) Try.underlying27 Try.underlying5 Try.underlying9 HR0.out
 have hcv5 := Kd.C_string (P := Try.prog) (A := A1) (c := c1) Try.underlying27 Try.underlying5 Try.underlying9 HR1.out
 have hcv6 := C_string_drew (P := Try.prog) (A := A1) (c := c1) Try.underlying27 Try.underlying5 Try.underlying9 HR1.out
 go_enter Try.func32, Try.ntmps32
 go_wp2
 go_ret
 exact ⟨by first | rfl | (simp; done) | (simp [*]; done), by repeat (first | exact Drawn0.refl _ | apply Drawn0.step)⟩

-- passed over: function 35 (packet_reader_fail)

-- passed over: function 45 (pack_ReadUint)

-- passed over: function 33 (packet_reader_number)

-- passed over: function 50 (pack_ReadBytes)

-- passed over: function 51 (slices_Clone_byte_byte)

-- passed over: function 46 (packet_reader_bytes)

-- passed over: function 34 (packet_reader_msg)

/-! ### packet_Read: function 15 -/
def entsP : Nat → List Int → Int → List S48 → List S48 × List Int × Int
 | 0, l, e, acc => (acc, l, e)
 | f + 1, l, e, acc =>
  if e = 0 then
   let t := numP 1099511627776 l e
   let d := bytesP t.2.1 t.2.2
   entsP f d.2.1 d.2.2 (acc ++ [⟨t.1, d.1⟩])
  else (acc, l, e)
def msgP (fr tt : Int) (l : List Int) (e : Int) : S51 × List Int × Int :=
 let a0 := numP 7 l e
 let a1 := numP 64 a0.2.1 a0.2.2
 let a2 := numP 1099511627776 a1.2.1 a1.2.2
 let a3 := numP 1099511627776 a2.2.1 a2.2.2
 let a4 := numP 1099511627776 a3.2.1 a3.2.2
 let a5 := numP 1099511627776 a4.2.1 a4.2.2
 let a6 := numP 1 a5.2.1 a5.2.2
 let a7 := numP 8 a6.2.1 a6.2.2
 let es := entsP a7.1.toNat a7.2.1 a7.2.2 []
 let d := bytesP es.2.1 es.2.2
 (⟨a0.1, a1.1, fr, tt, a2.1, a3.1, a4.1, a5.1, decide (a6.1 = 1), es.1, d.1⟩, d.2.1, d.2.2)
theorem infoX48 : (Try.prog.info? 48).map (fun i => (i.zero, i.size, i.bytes)) = some (some (.agg #[(.int .i64 0), (.slice none 0 0)]), 2, 32) := by kernel_rfl
set_option maxHeartbeats 8000000 in
set_option maxRecDepth 100000 in
theorem msg_calls (g : Nat) (l : List Int) (e fr tt : Int) (w0 w : World) (hI : RdS w0 w g l e) (hB : Below w0.heap.size w0 w) :
  Calls Try.prog 34 #[.pointer (some ⟨g, 0, none⟩), .int .i64 fr, .int .i64 tt] w fun en w' => ∃ cs : List Value, en = .returned (.agg cs.toArray) ∧ k51.M w' w.heap.size (fun _ => True) (msgP fr tt l e).1 cs ∧ RdPost w0 w g (msgP fr tt l e).2.1 (msgP fr tt l e).2.2 w' := by
 have P0 := Aside0.mk (RdPost.refl hI hB)
 have hlt := hI.lt
 have hmf : ∀ (fn : Fn) (first cap : Array Value) (w : World), (Instr.makeFunc fn first cap).run Try.prog w = .ok (.func fn first cap) w := fun _ _ _ _ => rfl
 clear hI hB
 obtain ⟨a0, l1, e1, h0⟩ : ∃ a b c, numP 7 l e = (a, b, c) := ⟨_, _, _, rfl⟩
 have H0 := Aside0.mk h0
 obtain ⟨a1, l2, e2, h1⟩ : ∃ a b c, numP 64 l1 e1 = (a, b, c) := ⟨_, _, _, rfl⟩
 have H1 := Aside0.mk h1
 obtain ⟨a2, l3, e3, h2⟩ : ∃ a b c, numP 1099511627776 l2 e2 = (a, b, c) := ⟨_, _, _, rfl⟩
 have H2 := Aside0.mk h2
 obtain ⟨a3, l4, e4, h3⟩ : ∃ a b c, numP 1099511627776 l3 e3 = (a, b, c) := ⟨_, _, _, rfl⟩
 have H3 := Aside0.mk h3
 obtain ⟨a4, l5, e5, h4⟩ : ∃ a b c, numP 1099511627776 l4 e4 = (a, b, c) := ⟨_, _, _, rfl⟩
 have H4 := Aside0.mk h4
 obtain ⟨a5, l6, e6, h5⟩ : ∃ a b c, numP 1099511627776 l5 e5 = (a, b, c) := ⟨_, _, _, rfl⟩
 have H5 := Aside0.mk h5
 obtain ⟨a6, l7, e7, h6⟩ : ∃ a b c, numP 1 l6 e6 = (a, b, c) := ⟨_, _, _, rfl⟩
 have H6 := Aside0.mk h6
 obtain ⟨a7, l8, e8, h7⟩ : ∃ a b c, numP 8 l7 e7 = (a, b, c) := ⟨_, _, _, rfl⟩
 have H7 := Aside0.mk h7
 obtain ⟨es, l9, e9, h8⟩ : ∃ a b c, entsP a7.toNat l8 e8 [] = (a, b, c) := ⟨_, _, _, rfl⟩
 obtain ⟨d, l10, e10, h9⟩ : ∃ a b c, bytesP l9 e9 = (a, b, c) := ⟨_, _, _, rfl⟩
 have hres : msgP fr tt l e = (⟨a0, a1, fr, tt, a2, a3, a4, a5, decide (a6 = 1), es, d⟩, l10, e10) := by
  simp only [msgP, h0, h1, h2, h3, h4, h5, h6, h7, h8, h9]
 have H8 := Aside0.mk h8
 have H9 := Aside0.mk h9
 rw [hres]
 clear hres h0 h1 h2 h3 h4 h5 h6 h7 h8 h9
 go_enter Try.func34, Try.ntmps34
 go_wp2_with fail
 have Q0 := Aside0.mk ((P0.out.alloc (.cells #[.int .i64 0, .int .i64 0, .int .i64 0, .int .i64 0, .int .i64 0, .int .i64 0, .int .i64 0, .int .i64 0, .bool false, .slice none 0 0, .slice none 0 0] 51)).alloc (.cells #[.int .i64 0, .int .i64 0, .int .i64 fr, .int .i64 tt, .int .i64 0, .int .i64 0, .int .i64 0, .int .i64 0, .bool false, .slice none 0 0, .slice none 0 0] 51))
 have B0 := Aside0.mk (Box.new 51 (w.alloc (.cells #[.int .i64 0, .int .i64 0, .int .i64 0, .int .i64 0, .int .i64 0, .int .i64 0, .int .i64 0, .int .i64 0, .bool false, .slice none 0 0, .slice none 0 0] 51)) [.int .i64 0, .int .i64 0, .int .i64 fr, .int .i64 tt, .int .i64 0, .int .i64 0, .int .i64 0, .int .i64 0, .bool false, .slice none 0 0, .slice none 0 0] (w.heap.size + 1) (by simp))
 have Z0 := Aside0.mk ((Box.new 51 w [.int .i64 0, .int .i64 0, .int .i64 0, .int .i64 0, .int .i64 0, .int .i64 0, .int .i64 0, .int .i64 0, .bool false, .slice none 0 0, .slice none 0 0] w.heap.size rfl).alloc (.cells #[.int .i64 0, .int .i64 0, .int .i64 fr, .int .i64 tt, .int .i64 0, .int .i64 0, .int .i64 0, .int .i64 0, .bool false, .slice none 0 0, .slice none 0 0] 51))
 refine (number_calls' H0.out ⟨by omega, by omega⟩ Q0.out.st Q0.out.below).mono ?_
 rintro en W1 ⟨rfl, hP⟩
 have Q1 := Aside0.mk (Q0.out.trans hP)
 have B1 := Aside0.mk (B0.out.keep hP.keep (by omega))
 have Z1 := Aside0.mk (Z0.out.keep hP.keep (by omega))
 clear hP Q0 B0 Z0
 go_wp2_with fail
 refine (number_calls' H1.out ⟨by omega, by omega⟩ Q1.out.st Q1.out.below).mono ?_
 rintro en W2 ⟨rfl, hP⟩
 have Q2 := Aside0.mk (Q1.out.trans hP)
 have B2 := Aside0.mk (B1.out.keep hP.keep (by omega))
 have Z2 := Aside0.mk (Z1.out.keep hP.keep (by omega))
 clear hP Q1 B1 Z1
 have hx0 : W2.cell? ⟨w.heap.size + 1, 0, none⟩ = some (.int .i64 0) := B2.out.cell 0
 have hx1 : W2.cell? ⟨w.heap.size + 1, 1, none⟩ = some (.int .i64 0) := B2.out.cell 1
 have hfr : ∀ i, W2.frozen? ⟨w.heap.size + 1, i, none⟩ = false := B2.out.free
 go_wp2_with fail
 clear hx0 hx1 hfr
 have Q2s := Aside0.mk ((Q2.out.far (w.heap.size + 1) (by omega) hlt 0 (.int .i64 a0)).far (w.heap.size + 1) (by omega) hlt 1 (.int .i64 a1))
 have B2s := Aside0.mk ((B2.out.set 0 (.int .i64 a0)).set 1 (.int .i64 a1))
 have Z2s := Aside0.mk ((Z2.out.far (w.heap.size + 1) (by omega) 0 (.int .i64 a0)).far (w.heap.size + 1) (by omega) 1 (.int .i64 a1))
 clear Q2 B2 Z2
 refine (number_calls' H2.out ⟨by omega, by omega⟩ Q2s.out.st Q2s.out.below).mono ?_
 rintro en W3 ⟨rfl, hP⟩
 have Q3 := Aside0.mk (Q2s.out.trans hP)
 have B3 := Aside0.mk (B2s.out.keep hP.keep (by omega))
 have Z3 := Aside0.mk (Z2s.out.keep hP.keep (by omega))
 clear hP Q2s B2s Z2s
 go_wp2_with fail
 refine (number_calls' H3.out ⟨by omega, by omega⟩ Q3.out.st Q3.out.below).mono ?_
 rintro en W4 ⟨rfl, hP⟩
 have Q4 := Aside0.mk (Q3.out.trans hP)
 have B4 := Aside0.mk (B3.out.keep hP.keep (by omega))
 have Z4 := Aside0.mk (Z3.out.keep hP.keep (by omega))
 clear hP Q3 B3 Z3
 go_wp2_with fail
 refine (number_calls' H4.out ⟨by omega, by omega⟩ Q4.out.st Q4.out.below).mono ?_
 rintro en W5 ⟨rfl, hP⟩
 have Q5 := Aside0.mk (Q4.out.trans hP)
 have B5 := Aside0.mk (B4.out.keep hP.keep (by omega))
 have Z5 := Aside0.mk (Z4.out.keep hP.keep (by omega))
 clear hP Q4 B4 Z4
 go_wp2_with fail
 refine (number_calls' H5.out ⟨by omega, by omega⟩ Q5.out.st Q5.out.below).mono ?_
 rintro en W6 ⟨rfl, hP⟩
 have Q6 := Aside0.mk (Q5.out.trans hP)
 have B6 := Aside0.mk (B5.out.keep hP.keep (by omega))
 have Z6 := Aside0.mk (Z5.out.keep hP.keep (by omega))
 clear hP Q5 B5 Z5
 have hx4 : W6.cell? ⟨w.heap.size + 1, 4, none⟩ = some (.int .i64 0) := B6.out.cell 4
 have hx5 : W6.cell? ⟨w.heap.size + 1, 5, none⟩ = some (.int .i64 0) := B6.out.cell 5
 have hx6 : W6.cell? ⟨w.heap.size + 1, 6, none⟩ = some (.int .i64 0) := B6.out.cell 6
 have hx7 : W6.cell? ⟨w.heap.size + 1, 7, none⟩ = some (.int .i64 0) := B6.out.cell 7
 have hfr : ∀ i, W6.frozen? ⟨w.heap.size + 1, i, none⟩ = false := B6.out.free
 go_wp2_with fail
 clear hx4 hx5 hx6 hx7 hfr
 have Q6s := Aside0.mk ((((Q6.out.far (w.heap.size + 1) (by omega) hlt 4 (.int .i64 a2)).far (w.heap.size + 1) (by omega) hlt 5 (.int .i64 a3)).far (w.heap.size + 1) (by omega) hlt 6 (.int .i64 a4)).far (w.heap.size + 1) (by omega) hlt 7 (.int .i64 a5))
 have B6s := Aside0.mk ((((B6.out.set 4 (.int .i64 a2)).set 5 (.int .i64 a3)).set 6 (.int .i64 a4)).set 7 (.int .i64 a5))
 have Z6s := Aside0.mk ((((Z6.out.far (w.heap.size + 1) (by omega) 4 (.int .i64 a2)).far (w.heap.size + 1) (by omega) 5 (.int .i64 a3)).far (w.heap.size + 1) (by omega) 6 (.int .i64 a4)).far (w.heap.size + 1) (by omega) 7 (.int .i64 a5))
 clear Q6 B6 Z6
 refine (number_calls' H6.out ⟨by omega, by omega⟩ Q6s.out.st Q6s.out.below).mono ?_
 rintro en W7 ⟨rfl, hP⟩
 have Q7 := Aside0.mk (Q6s.out.trans hP)
 have B7 := Aside0.mk (B6s.out.keep hP.keep (by omega))
 have Z7 := Aside0.mk (Z6s.out.keep hP.keep (by omega))
 clear hP Q6s B6s Z6s
 have hx8 : W7.cell? ⟨w.heap.size + 1, 8, none⟩ = some (.bool false) := B7.out.cell 8
 have hfr : ∀ i, W7.frozen? ⟨w.heap.size + 1, i, none⟩ = false := B7.out.free
 go_wp2_with fail
 clear hx8 hfr
 have Q7s := Aside0.mk (Q7.out.far (w.heap.size + 1) (by omega) hlt 8 (.bool (a6 == 1)))
 have B7s := Aside0.mk (B7.out.set 8 (.bool (a6 == 1)))
 have Z7s := Aside0.mk (Z7.out.far (w.heap.size + 1) (by omega) 8 (.bool (a6 == 1)))
 clear Q7 B7 Z7
 have ha7 : 0 ≤ a7 ∧ a7 ≤ 8 := by
  obtain ⟨_, _, _, _, _, hby, _⟩ := Q7s.out.st
  exact numP_bd hby (by omega) H7.out
 obtain ⟨n, rfl⟩ : ∃ n : Nat, a7 = n := ⟨a7.toNat, by omega⟩
 have H8' := Aside0.mk (show entsP n l8 e8 [] = (es, l9, e9) from H8.out)
 clear H8
 refine (number_calls' H7.out ⟨by omega, by omega⟩ Q7s.out.st Q7s.out.below).mono ?_
 rintro en W8 ⟨rfl, hP⟩
 have Q8 := Aside0.mk (Q7s.out.trans hP)
 have B8 := Aside0.mk (B7s.out.keep hP.keep (by omega))
 have Z8 := Aside0.mk (Z7s.out.keep hP.keep (by omega))
 clear hP Q7s B7s Z7s
 go_wp2_with fail
 go_loopg [10] n (fun gq v10 w' => ∃ (j : Nat) (lc : List Int) (ec : Int) (acc : List S48) (v9 : Value), v10 = .int .i64 j ∧ gq + j = n ∧ Aside0 (entsP gq lc ec acc = (es, l9, e9)) ∧ Aside0 (RdPost w0 w g lc ec w') ∧ Aside0 (Box 51 w' (w.heap.size + 1) [.int .i64 a0, .int .i64 a1, .int .i64 fr, .int .i64 tt, .int .i64 a2, .int .i64 a3, .int .i64 a4, .int .i64 a5, .bool (a6 == 1), v9, .slice none 0 0]) ∧ Aside0 (Box 51 w' w.heap.size [.int .i64 0, .int .i64 0, .int .i64 0, .int .i64 0, .int .i64 0, .int .i64 0, .int .i64 0, .int .i64 0, .bool false, .slice none 0 0, .slice none 0 0]) ∧ Aside0 (k48.R 48 w' w.heap.size (fun k => k ≠ g ∧ k ≠ w.heap.size + 1 ∧ k ≠ w.heap.size) v9 acc) ∧ Aside0 (acc.length + gq ≤ 8))
 case atStart => exact ⟨0, l8, e8, [], .slice none 0 0, rfl, rfl, H8', Q8, B8, Z8, ⟨Kd.R_nil _ _ _ _ _⟩, ⟨by simp; omega⟩⟩
 case round =>
  clear H8' Q8 B8 Z8
  obtain ⟨j, lc, ec, acc, v9, rfl, hj, HE, HQ, HBX, HZ, HO, HL⟩ := hrel
  obtain ⟨A9, c9, rfl⟩ := Kd.R_slice HO.out
  obtain ⟨A, c, hb, hg⟩ := HQ.out.st
  have hc1 := rds_cell1 hb
  clear hb hg
  by_cases hex : gk = 0 ∨ ec ≠ 0
  ·have hent : (acc, lc, ec) = (es, l9, e9) := by
    rw [← HE.out]
    rcases hex with h | h
    ·subst h; rfl
    ·cases gk with
     | zero => rfl
     | succ m => simp only [entsP]; rw [if_neg h]
   simp only [Prod.mk.injEq] at hent
   obtain ⟨rfl, rfl, rfl⟩ := hent
   clear HE HL
   have hcase : (decide (j < n) = false) ∨ (decide (j < n) = true ∧ (ec == 0) = false) := by
    by_cases hh : j < n
    ·refine .inr ⟨decide_eq_true hh, ?_⟩
     have : ec ≠ 0 := by rcases hex with h | h; omega; exact h
     simpa using this
    ·exact .inl (decide_eq_false hh)
   clear hex
   rcases hcase with hd1 | ⟨hd1, hd2⟩
   all_goals
    go_wp2_with fail
    refine (bytes_calls' H9.out HQ.out.st HQ.out.below).mono ?_
    rintro en WA ⟨vd, rfl, hR, hP⟩
    obtain ⟨AD, cD, rfl⟩ := Kd.R_slice hR
    have QA := Aside0.mk (HQ.out.trans hP)
    have BA := Aside0.mk (HBX.out.keep hP.keep (by omega))
    have ZA := Aside0.mk (HZ.out.keep hP.keep (by omega))
    have OA := Aside0.mk (Kd.R_keep HO.out hP.keep (fun k hk => hk.1))
    have VD := Aside0.mk (Kd.R_lower (Kd.R_bound hR) HQ.out.keep.1)
    have hsz := hP.keep.1
    have hbs := HBX.out.lt
    clear hP hR HQ HBX HZ HO hc1
    have hx0 : WA.cell? ⟨w.heap.size + 1, 0, none⟩ = some (.int .i64 a0) := BA.out.cell 0
    have hx1 : WA.cell? ⟨w.heap.size + 1, 1, none⟩ = some (.int .i64 a1) := BA.out.cell 1
    have hx2 : WA.cell? ⟨w.heap.size + 1, 2, none⟩ = some (.int .i64 fr) := BA.out.cell 2
    have hx3 : WA.cell? ⟨w.heap.size + 1, 3, none⟩ = some (.int .i64 tt) := BA.out.cell 3
    have hx4 : WA.cell? ⟨w.heap.size + 1, 4, none⟩ = some (.int .i64 a2) := BA.out.cell 4
    have hx5 : WA.cell? ⟨w.heap.size + 1, 5, none⟩ = some (.int .i64 a3) := BA.out.cell 5
    have hx6 : WA.cell? ⟨w.heap.size + 1, 6, none⟩ = some (.int .i64 a4) := BA.out.cell 6
    have hx7 : WA.cell? ⟨w.heap.size + 1, 7, none⟩ = some (.int .i64 a5) := BA.out.cell 7
    have hx8 : WA.cell? ⟨w.heap.size + 1, 8, none⟩ = some (.bool (a6 == 1)) := BA.out.cell 8
    have hx9 : WA.cell? ⟨w.heap.size + 1, 9, none⟩ = some (.slice A9 acc.length c9) := BA.out.cell 9
    have hx10 : WA.cell? ⟨w.heap.size + 1, 10, none⟩ = some (.slice none 0 0) := BA.out.cell 10
    have hz0 : WA.cell? ⟨w.heap.size, 0, none⟩ = some (.int .i64 0) := ZA.out.cell 0
    have hz1 : WA.cell? ⟨w.heap.size, 1, none⟩ = some (.int .i64 0) := ZA.out.cell 1
    have hz2 : WA.cell? ⟨w.heap.size, 2, none⟩ = some (.int .i64 0) := ZA.out.cell 2
    have hz3 : WA.cell? ⟨w.heap.size, 3, none⟩ = some (.int .i64 0) := ZA.out.cell 3
    have hz4 : WA.cell? ⟨w.heap.size, 4, none⟩ = some (.int .i64 0) := ZA.out.cell 4
    have hz5 : WA.cell? ⟨w.heap.size, 5, none⟩ = some (.int .i64 0) := ZA.out.cell 5
    have hz6 : WA.cell? ⟨w.heap.size, 6, none⟩ = some (.int .i64 0) := ZA.out.cell 6
    have hz7 : WA.cell? ⟨w.heap.size, 7, none⟩ = some (.int .i64 0) := ZA.out.cell 7
    have hz8 : WA.cell? ⟨w.heap.size, 8, none⟩ = some (.bool false) := ZA.out.cell 8
    have hz9 : WA.cell? ⟨w.heap.size, 9, none⟩ = some (.slice none 0 0) := ZA.out.cell 9
    have hz10 : WA.cell? ⟨w.heap.size, 10, none⟩ = some (.slice none 0 0) := ZA.out.cell 10
    have hfr : ∀ i, WA.frozen? ⟨w.heap.size + 1, i, none⟩ = false := BA.out.free
    have hfz : ∀ i, WA.frozen? ⟨w.heap.size, i, none⟩ = false := ZA.out.free
    go_wp2_with fail
    refine bodyPost_ret (v := .agg #[.int .i64 a0, .int .i64 a1, .int .i64 fr, .int .i64 tt, .int .i64 a2, .int .i64 a3, .int .i64 a4, .int .i64 a5, .bool (a6 == 1), .slice A9 acc.length c9, .slice AD d.length cD]) (by simp [results, Try.results34, go_sem, *]) rfl ⟨[.int .i64 a0, .int .i64 a1, .int .i64 fr, .int .i64 tt, .int .i64 a2, .int .i64 a3, .int .i64 a4, .int .i64 a5, .bool (a6 == 1), .slice A9 acc.length c9, .slice AD d.length cD], rfl, ?_, ?_⟩
    ·have HK : ∀ W : World, Kept WA W (fun k => k = w.heap.size + 1 ∨ k = w.heap.size) → k51.M W w.heap.size (fun _ => True) ⟨a0, a1, fr, tt, a2, a3, a4, a5, decide (a6 = 1), acc, d⟩ [.int .i64 a0, .int .i64 a1, .int .i64 fr, .int .i64 tt, .int .i64 a2, .int .i64 a3, .int .i64 a4, .int .i64 a5, .bool (a6 == 1), .slice A9 acc.length c9, .slice AD d.length cD] := fun W hk =>
      k51_mkM W w.heap.size (fun _ => True) ⟨a0, a1, fr, tt, a2, a3, a4, a5, decide (a6 = 1), acc, d⟩ (Kd.R_mono (Kd.R_kept OA.out hk (fun k hk => by omega)) (fun _ _ => trivial)) (Kd.R_mono (Kd.R_kept VD.out hk (fun k hk => by have := hk.2.1; omega)) (fun _ _ => trivial))
     refine HK _ ?_
     repeat (first | (with_reducible exact Kept.refl _ _) | refine Kept.setCell ?_ (.inl (by simp)) _)
    ·repeat (first | (with_reducible exact QA.out) | refine RdPost.far ?_ _ (by omega) hlt _ _)
  ·obtain ⟨m, rfl⟩ : ∃ m, gk = m + 1 := ⟨gk - 1, by omega⟩
   obtain rfl : ec = 0 := by omega
   obtain ⟨t, lt, et, ht⟩ : ∃ a b c, numP 1099511627776 lc 0 = (a, b, c) := ⟨_, _, _, rfl⟩
   obtain ⟨dd, lb, eb, hd⟩ : ∃ a b c, bytesP lt et = (a, b, c) := ⟨_, _, _, rfl⟩
   have hen := HE.out
   simp only [entsP, if_true, ht, hd] at hen
   have HEN := Aside0.mk hen
   have HT := Aside0.mk ht
   have HD := Aside0.mk hd
   have hd1 : decide (j < n) = true := decide_eq_true (by omega)
   have hsw : wr.cell? ⟨w.heap.size + 1, 9, none⟩ = some (.slice A9 acc.length c9) := HBX.out.cell 9
   clear hex HE ht hd hen
   have hbg : w.heap.size + 1 ≠ g := by omega
   have hzg : w.heap.size ≠ g := by omega
   have BD40 : (0 : Int) ≤ 1099511627776 ∧ (1099511627776 : Int) ≤ 1099511627776 := by omega
   go_wp2_with fail
   go_region_law (first
     | (refine' goesF_ Try.func33 ?hnm ?hbd #[.pointer (some ⟨g, 0, none⟩), .int .i64 1099511627776] ?hw ?hop ?hx ?har ?_; (case hop => rfl); (case hw => rfl); (case hx => rfl); (case har => simp [Act.eval]); (case hnm => rfl); (case hbd => rfl); refine (number_calls' HT.out BD40 HQ.out.drew.st HQ.out.drew.below).mono ?_; rintro en WB ⟨rfl, hP⟩; refine ⟨_, rfl, ?_⟩; have QB := Aside0.mk (HQ.out.drew.trans hP); have BB := Aside0.mk (HBX.out.keep hP.keep hbg); have ZB := Aside0.mk (HZ.out.keep hP.keep hzg); have OB := Aside0.mk (Kd.R_keep HO.out hP.keep (fun k hk => hk.1)); have hsB : WB.cell? ⟨w.heap.size + 1, 9, none⟩ = some (.slice A9 acc.length c9) := BB.out.cell 9; clear hP)
     | (refine' goesF_ Try.func46 ?hnm ?hbd #[.pointer (some ⟨g, 0, none⟩)] ?hw ?hop ?hx ?har ?_; (case hop => rfl); (case hw => rfl); (case hx => rfl); (case har => simp [Act.eval]); (case hnm => rfl); (case hbd => rfl); refine (bytes_calls' HD.out QB.out.st QB.out.below).mono ?_; rintro en WC ⟨vd, rfl, hR, hP⟩; refine ⟨_, rfl, ?_⟩; obtain ⟨AD, cD, rfl⟩ := Kd.R_slice hR; have QC := Aside0.mk (QB.out.trans hP); have BC := Aside0.mk (BB.out.keep hP.keep hbg); have ZC := Aside0.mk (ZB.out.keep hP.keep hzg); have OC := Aside0.mk (Kd.R_keep OB.out hP.keep (fun k hk => hk.1)); have VC := Aside0.mk (Kd.R_lower (Kd.R_bound hR) QB.out.keep.1); have hsC : WC.cell? ⟨w.heap.size + 1, 9, none⟩ = some (.slice A9 acc.length c9) := BC.out.cell 9; have hsC2 : ∀ o : Obj, (WC.alloc o).cell? ⟨w.heap.size + 1, 9, none⟩ = some (.slice A9 acc.length c9) := (fun o => (BC.out.alloc o).cell 9); clear hP hR)
     | ((refine Kd.R_append_step k48 w.heap.size ?hw (.tmp 53) (.tmp 59) 49 48 (.agg #[.int .i64 0, .slice none 0 0]) 32 ?ho Try.underlying49 infoX48 rfl ?hs0 ?hb0 (.slice A9 acc.length c9) acc ⟨t, dd⟩ [.int .i64 t, .slice AD dd.length cD] (fun k => k ≠ g ∧ k ≠ w.heap.size + 1 ∧ k ≠ w.heap.size) _ ?hs ?hx (k48_mkM _ _ _ ⟨t, dd⟩ VC.out) ?aK ?aF OC.out (Below.refl _ _) ?aB ?aL ?_; (case hw => rfl); (case ho => rfl); (case hs0 => decide); (case hb0 => decide); (case hs => rfl); (case hx => rfl); (case aK => (intro k hk; have h1 := hk.2.1; have h2 := QB.out.keep.1; have h3 := BB.out.lt; exact ⟨⟨by omega, by omega, by omega⟩, fun he => by have := Kd.R_lt OB.out k he.symm; omega⟩)); (case aF => (intro k hk; have h2 := QC.out.keep.1; have h3 := BC.out.lt; exact ⟨by omega, by omega, by omega⟩)); (case aB => exact QC.out.keep.1); (case aL => (have := HL.out; omega)); intro v1 W9 ho hb hgr hat; obtain ⟨A1, c1, rfl⟩ := Kd.R_slice ho; have QD := Aside0.mk (QC.out.grown hgr hlt (fun k hk => by have := Kd.R_base OC.out k hk; omega)); have BD := Aside0.mk (BC.out.grown hgr (fun he => (OC.out.1 _ he.symm).2.1 rfl)); have ZD := Aside0.mk (ZC.out.grown hgr (fun he => (OC.out.1 _ he.symm).2.2 rfl)); have OD := Aside0.mk ho; have hsD : W9.cell? ⟨w.heap.size + 1, 9, none⟩ = some (.slice A9 acc.length c9) := BD.out.cell 9; have hfD : ∀ i, W9.frozen? ⟨w.heap.size + 1, i, none⟩ = false := BD.out.free; clear ho hb hgr hat)))
   all_goals
    go_wp2_with fail
    go_roundg m
    case measure => omega
    case rel =>
     refine ⟨j + 1, lb, eb, acc ++ [⟨t, dd⟩], .slice A1 (acc.length + 1) c1, by go_num, by omega, HEN, ⟨?_⟩, ⟨?_⟩, ⟨?_⟩, ⟨?_⟩, ⟨?_⟩⟩
     ·exact QD.out.far (w.heap.size + 1) (by omega) hlt 9 _
     ·exact BD.out.set 9 _
     ·exact ZD.out.far (w.heap.size + 1) (by omega) 9 _
     ·have ho := Kd.R_far (p := ⟨w.heap.size + 1, 9, none⟩) OD.out (fun k hk => hk.2.1) (.slice A1 (acc.length + 1) c1)
      rw [List.length_append] at ho
      exact ho
     ·have := HL.out; simp; omega
def msgsP : Nat → Int → Int → List Int → Int → List S51 → List S51 × List Int × Int
 | 0, _, _, l, e, acc => (acc, l, e)
 | f + 1, fr, tt, l, e, acc =>
  if e = 0 then
   let m := msgP fr tt l e
   msgsP f fr tt m.2.1 m.2.2 (acc ++ [m.1])
  else (acc, l, e)
/-- What is read of the bytes ahead of the sum: from, to, messages; what is left; the first error. -/
def packP (b : List Int) : Int × Int × List S51 × List Int × Int :=
 let a0 := numP 7 b 0
 let a1 := numP 7 a0.2.1 a0.2.2
 let a2 := numP 256 a1.2.1 a1.2.2
 let ms := msgsP a2.1.toNat a0.1 a1.1 a2.2.1 a2.2.2 []
 (a0.1, a1.1, ms.1, if ms.2.2 = 0 ∧ 0 < ms.2.1.length then (ms.2.1, 3) else (ms.2.1, ms.2.2))
def isB (l : List Int) : Bool := l.all fun x => decide (0 ≤ x) && decide (x < 256)
theorem isB_iff (l : List Int) : isB l = true ↔ IsB l := by
 unfold isB IsB
 rw [List.all_eq_true]
 constructor
 ·intro h x hx
  have := h x hx
  simpa using this
 ·intro h x hx
  have := h x hx
  simpa using this
def sumL (s : Int) : List Int := [s % 256, s / 256 % 256, s / 65536 % 256, s / 16777216 % 256]
def packet_Read.f (k : Nat) (l0 : List Int) : Option (Int × Int × List S51 × Int) :=
 if isB l0 = true ∧ l0.length ≤ 140737488351232 then
  if l0.length < 4 then some (0, 0, [], 5) else
  (crc_Sum.f k (l0.take (l0.length - 4))).bind fun s =>
  (bytes_Equal.f (l0.drop (l0.length - 4)) (sumL s)).bind fun q =>
  if q = true then
   let p := packP (l0.take (l0.length - 4))
   if p.2.2.2.2 = 0 then (packet_Check.f k p.1 p.2.1 p.2.2.1).bind fun c => if c = 0 then some (p.1, p.2.1, p.2.2.1, 0) else some (0, 0, [], c)
   else some (0, 0, [], p.2.2.2.2)
  else some (0, 0, [], 4)
 else none
theorem packet_Read.mono : ∀ a0 k, LeO (packet_Read.f k a0) (packet_Read.f (k + 1) a0) := by
 intro a0 k
 unfold packet_Read.f
 dsimp only
 repeat' first
   | (with_reducible exact crc_Sum.mono _ _)
   | (with_reducible exact packet_Check.mono _ _ _ _)
   | (with_reducible exact LeO.refl _)
   | (with_reducible exact LeO.none _)
   | (with_reducible refine LeO.ite ?_ ?_)
   | (with_reducible refine LeO.bind ?_ (fun _ => ?_))
theorem info51b : (Try.prog.info? 51).map (fun i => (i.zero, i.size, i.bytes)) = some (some (.agg #[(.int .i64 0), (.int .i64 0), (.int .i64 0), (.int .i64 0), (.int .i64 0), (.int .i64 0), (.int .i64 0), (.int .i64 0), (.bool false), (.slice none 0 0), (.slice none 0 0)]), 11, 120) := by kernel_rfl
theorem lit_C (W : World) (xs : List Int) (hm : xs.length ≤ 9223372036854775807) : Kd.C (Kd.int .u8) (W.alloc (.cells (nums .u8 xs).toArray 5)) (some ⟨W.heap.size, 0, none⟩) xs.length xs := (Kd.R_reads' (Kd.R_of_own (h1 := fun _ => rfl) (own_lit W W.heap.size 5 .u8 xs (Nat.le_refl _) hm) (ok := fun _ => True) (fun _ _ => trivial))).2.2
theorem msg_calls' {g : Nat} {l l' : List Int} {e e' fr tt : Int} {m : S51} (h : msgP fr tt l e = (m, l', e')) {w0 w : World} (hI : RdS w0 w g l e) (hB : Below w0.heap.size w0 w) :
  Calls Try.prog 34 #[.pointer (some ⟨g, 0, none⟩), .int .i64 fr, .int .i64 tt] w fun en w' => ∃ cs : List Value, en = .returned (.agg cs.toArray) ∧ k51.M w' w.heap.size (fun _ => True) m cs ∧ RdPost w0 w g l' e' w' := by
 have c := msg_calls g l e fr tt w0 w hI hB
 rw [h] at c
 exact c
def ReadPost (w : World) (r : Int × Int × List S51 × Int) (e : Ending) (w' : World) : Prop := ∃ v2_ : Value, e = .returned (.tuple #[.agg #[.int .i64 r.1, .int .i64 r.2.1, v2_], .int .i64 r.2.2.2]) ∧ Kd.R k51 51 w' w.heap.size (fun _ => True) v2_ r.2.2.1 ∧ Below w.heap.size w w'
set_option maxHeartbeats 16000000 in
set_option maxRecDepth 100000 in
theorem read_calls (k : Nat) (A0 : Option Addr) (c0 : Nat) (l0 : List Int) (r : Int × Int × List S51 × Int) (w : World) (hr0 : Kd.C (Kd.int .u8) w A0 l0.length l0) (hc0 : l0.length ≤ c0) (h : packet_Read.f k l0 = some r) :
  Calls Try.prog 15 #[.slice A0 l0.length c0] w (ReadPost w r) := by
 have hmax : l0.length ≤ 9223372036854775807 := hr0.2.1
 have HR := Aside0.mk hr0
 clear hr0
 unfold packet_Read.f at h
 by_cases hB : isB l0 = true ∧ l0.length ≤ 140737488351232
 case neg => rw [if_neg hB] at h; cases h
 rw [if_pos hB] at h
 have hby := (isB_iff l0).1 hB.1
 have hln := hB.2
 have HBY := Aside0.mk hby
 clear hB hby
 by_cases h4 : l0.length < 4
 ·rw [if_pos h4] at h
  cases h
  have h4b : decide ((l0.length : Int) < 4) = true := decide_eq_true (by omega)
  have h4c : decide (l0.length < 4) = true := decide_eq_true h4
  clear h4
  go_enter Try.func15, Try.ntmps15
  go_wp2
  refine bodyPost_ret (v := .tuple #[.agg #[.int .i64 0, .int .i64 0, .slice none 0 0], .int .i64 5]) (by simp [results, Try.results15, go_sem]) rfl ⟨_, rfl, Kd.R_nil _ _ _ _ _, ?_⟩
  repeat (first | (with_reducible exact Below.refl _ _) | (refine Below.setCell ?_ (by simp) _) | (refine below_alloc ?_ _))
 rw [if_neg h4] at h
 obtain ⟨n, hn⟩ : ∃ n : Nat, n = l0.length - 4 := ⟨_, rfl⟩
 rw [← hn] at h
 have hn4 : l0.length = n + 4 := by omega
 obtain ⟨s, hs, h⟩ := Option.bind_eq_some_iff.1 h
 obtain ⟨q, hq, h⟩ := Option.bind_eq_some_iff.1 h
 have HS := Aside0.mk hs
 have HQ := Aside0.mk hq
 have h4b : decide ((l0.length : Int) < 4) = false := decide_eq_false (by omega)
 have h4c : decide (l0.length < 4) = false := decide_eq_false h4
 obtain ⟨i5, hi5, _, hsz5, _⟩ := info_parts info5b
 have hsub : IntKind.i64.wrap ((l0.length : Int) - 4) = (n : Int) := by rw [IntKind.wrap_i64]; omega
 have hsub2 : (l0.length : Int) - 4 = (n : Int) := by omega
 have hcut1 := cut_to (P := Try.prog) 27 5 .i64 Try.underlying27 hi5 A0 l0.length c0 (n : Int) (by omega) (by omega) hc0
 rw [Int.toNat_natCast] at hcut1
 obtain ⟨A2, hA2⟩ : ∃ A2, A2 = Option.map (fun x : Addr => x.add n) A0 := ⟨_, rfl⟩
 have hd4 : l0.length - n = 4 := by omega
 have hk1 := Kd.C_take HR.out (m := n) (by omega)
 have hk2 := Kd.C_drop HR.out (m := n) (by omega) hc0
 rw [show (Kd.int .u8).sz = 1 from rfl, if_neg (by omega), Nat.mul_one, ← hA2] at hk2
 obtain ⟨b, hb⟩ : ∃ b, b = l0.take n := ⟨_, rfl⟩
 obtain ⟨sm, hsm⟩ : ∃ sm, sm = l0.drop n := ⟨_, rfl⟩
 have hbl : b.length = n := by rw [hb, List.length_take]; omega
 have hsl : sm.length = 4 := by rw [hsm, List.length_drop]; omega
 rw [← hb] at hk1 HS h
 rw [← hsm] at hk2 HQ
 have HBB := Aside0.mk (show IsB b from hb ▸ HBY.out.take n)
 have HK1 := Aside0.mk hk1
 have HK2 := Aside0.mk hk2
 have HBL := Aside0.mk hbl
 have HSL := Aside0.mk hsl
 have hc0n : n ≤ c0 := by omega
 have hc24 : 4 ≤ c0 - n := by omega
 have HA2 := Aside0.mk hA2
 clear hs hq hb hsm hbl hsl hk1 hk2 hA2 hi5 hsz5 h4 hn hd4
 have H := Aside0.mk h
 clear h
 go_enter Try.func15, Try.ntmps15
 go_wp2_with fail
 repeat (go_quiet (fail); try go_wp2_with fail)
 have hcrc := fun (W : World) (hW : Below w.heap.size w W) => crc_Sum.calls k A0 c0 b s W (Kd.C_below HK1.out hW) (by rw [HBL.out]; exact hc0n) HS.out
 rw [HBL.out] at hcrc
 have hz := below_alloc (Below.refl w.heap.size w) (.cells #[.int .i64 0, .int .i64 0, .slice none 0 0] 24)
 refine (hcrc _ (by repeat (first | (with_reducible exact hz) | (refine pw_below_drewN ?_ _)))).mono ?_
 rintro en W1 ⟨rfl, ⟨m1, rfl⟩⟩
 clear hcrc
 go_wp2_with fail
 rw [← HA2.out]
 obtain ⟨WL, hWL⟩ : ∃ WL : World, WL = (w.alloc (.cells #[.int .i64 0, .int .i64 0, .slice none 0 0] 24)).drewN (nq + m1) := ⟨_, rfl⟩
 rw [← hWL]
 have hszL : WL.heap.size = w.heap.size + 1 := by rw [hWL]; simp
 have hbL : Below w.heap.size w WL := by rw [hWL]; exact pw_below_drewN hz _
 have hZL : Box 24 WL w.heap.size [.int .i64 0, .int .i64 0, .slice none 0 0] := by rw [hWL]; exact Box.new 24 w _ _ rfl
 have HBL2 := Aside0.mk hbL
 have HZL := Aside0.mk hZL
 clear hWL hz hbL hZL
 have heq := bytes_Equal.calls A2 (c0 - n) sm (some ⟨w.heap.size + 1, 0, none⟩) 4 (sumL s) q (WL.alloc (.cells #[.int .u8 (s % 256), .int .u8 (s / 256 % 256), .int .u8 (s / 65536 % 256), .int .u8 (s / 16777216 % 256)] 5)) (Kd.C_below HK2.out (below_then HBL2.out (by omega) (below_alloc (Below.refl _ _) _))) (by rw [HSL.out]; exact hc24) (by rw [← hszL]; exact lit_C WL (sumL s) (by show 4 ≤ _; omega)) (Nat.le_refl _) HQ.out
 rw [HSL.out] at heq
 refine heq.mono ?_
 rintro en W2 ⟨rfl, hd2⟩
 have hb2 := hd2.below
 have Z2 := Aside0.mk ((HZL.out.alloc (.cells #[.int .u8 (s % 256), .int .u8 (s / 256 % 256), .int .u8 (s / 65536 % 256), .int .u8 (s / 16777216 % 256)] 5)).below hb2)
 have B2 := Aside0.mk (below_then (below_then HBL2.out (by omega) (below_alloc (Below.refl _ _) (.cells #[.int .u8 (s % 256), .int .u8 (s / 256 % 256), .int .u8 (s / 65536 % 256), .int .u8 (s / 16777216 % 256)] 5))) (by simp; omega) hb2)
 have hsz2 : w.heap.size + 2 ≤ W2.heap.size := by have := hb2.size; simp at this; omega
 clear heq hd2 hb2 HZL HBL2 hszL HQ
 cases q with
 | false =>
  have hF := H.out
  rw [if_neg (by decide)] at hF
  cases hF
  have hz0 : W2.cell? ⟨w.heap.size, 0, none⟩ = some (.int .i64 0) := Z2.out.cell 0
  have hz1 : W2.cell? ⟨w.heap.size, 1, none⟩ = some (.int .i64 0) := Z2.out.cell 1
  have hz2 : W2.cell? ⟨w.heap.size, 2, none⟩ = some (.slice none 0 0) := Z2.out.cell 2
  have hfz : ∀ i, W2.frozen? ⟨w.heap.size, i, none⟩ = false := Z2.out.free
  go_wp2_with fail
  refine bodyPost_ret (v := .tuple #[.agg #[.int .i64 0, .int .i64 0, .slice none 0 0], .int .i64 4]) (by simp [results, Try.results15, go_sem, *]) rfl ⟨_, rfl, Kd.R_nil _ _ _ _ _, ?_⟩
  repeat (first | (with_reducible exact B2.out) | (refine Below.setCell ?_ (by simp) _))
 | true =>
  have hT := H.out
  rw [if_pos rfl] at hT
  obtain ⟨a0, l1, e1, h0⟩ : ∃ a b' c, numP 7 b 0 = (a, b', c) := ⟨_, _, _, rfl⟩
  obtain ⟨a1, l2, e2, h1⟩ : ∃ a b' c, numP 7 l1 e1 = (a, b', c) := ⟨_, _, _, rfl⟩
  obtain ⟨a2, l3, e3, h2⟩ : ∃ a b' c, numP 256 l2 e2 = (a, b', c) := ⟨_, _, _, rfl⟩
  obtain ⟨es, l4, e4, h3⟩ : ∃ a b' c, msgsP a2.toNat a0 a1 l3 e3 [] = (a, b', c) := ⟨_, _, _, rfl⟩
  have hp : packP b = (a0, a1, es, if e4 = 0 ∧ 0 < l4.length then (l4, 3) else (l4, e4)) := by
   simp only [packP, h0, h1, h2, h3]
  rw [hp] at hT
  dsimp only at hT
  have HT := Aside0.mk hT
  have H0 := Aside0.mk h0
  have H1 := Aside0.mk h1
  have H2 := Aside0.mk h2
  have H3 := Aside0.mk h3
  clear H hT hp h0 h1 h2 h3
  go_wp2_with fail
  have S0 : RdS w (W2.alloc (.cells #[.slice A0 n c0, .int .i64 0] 65)) W2.heap.size b 0 := ⟨A0, c0, by rw [HBL.out]; exact blk_new W2 _, by omega, by rw [HBL.out]; exact hc0n, HBB.out, by rw [HBL.out]; omega, HK1.out⟩
  obtain ⟨g, hg⟩ : ∃ g, g = W2.heap.size := ⟨_, rfl⟩
  obtain ⟨WS, hWS⟩ : ∃ WS : World, WS = W2.alloc (.cells #[.slice A0 n c0, .int .i64 0] 65) := ⟨_, rfl⟩
  rw [← hg, ← hWS] at S0
  rw [← hg, ← hWS]
  have BS : Below w.heap.size w WS := by rw [hWS]; exact below_then B2.out B2.out.size (below_alloc (Below.refl _ _) _)
  have ZS := Aside0.mk (show Box 24 WS w.heap.size [.int .i64 0, .int .i64 0, .slice none 0 0] by rw [hWS]; exact Z2.out.alloc _)
  have hgS : g < WS.heap.size := by rw [hWS, hg]; simp
  have hzg : w.heap.size ≠ g := by omega
  have BS' := Aside0.mk BS.size
  have hzS : w.heap.size < WS.heap.size := by rw [hWS]; simp; omega
  have P0 := Aside0.mk (RdPost.refl S0 BS)
  clear S0 BS hWS hg Z2 B2 hsz2
  refine (number_calls' H0.out ⟨by omega, by omega⟩ P0.out.st P0.out.below).mono ?_
  rintro en W3 ⟨rfl, hP⟩
  have Q1 := Aside0.mk (P0.out.trans hP)
  clear hP P0
  go_wp2_with fail
  refine (number_calls' H1.out ⟨by omega, by omega⟩ Q1.out.st Q1.out.below).mono ?_
  rintro en W4 ⟨rfl, hP⟩
  have Q2 := Aside0.mk (Q1.out.trans hP)
  clear hP Q1
  go_wp2_with fail
  obtain ⟨pb, hpb⟩ : ∃ p, p = W4.heap.size := ⟨_, rfl⟩
  obtain ⟨W5, hW5⟩ : ∃ W : World, W = W4.alloc (.cells #[.int .i64 a0, .int .i64 a1, .slice none 0 0] 24) := ⟨_, rfl⟩
  have BX5 := Aside0.mk (show Box 24 W5 pb [.int .i64 a0, .int .i64 a1, .slice none 0 0] by rw [hW5]; exact Box.new 24 W4 _ pb hpb)
  have Q3 := Aside0.mk (show RdPost w WS g l2 e2 W5 by rw [hW5]; exact Q2.out.alloc _)
  have hpbS : WS.heap.size ≤ pb := by rw [hpb]; exact Q2.out.keep.1
  rw [← hpb, ← hW5]
  clear hpb hW5 Q2
  have hpg : pb ≠ g := by omega
  refine (number_calls' H2.out ⟨by omega, by omega⟩ Q3.out.st Q3.out.below).mono ?_
  rintro en W6 ⟨rfl, hP⟩
  have Q4 := Aside0.mk (Q3.out.trans hP)
  have BX6 := Aside0.mk (BX5.out.keep hP.keep hpg)
  have ha2 : 0 ≤ a2 ∧ a2 ≤ 256 := by
   obtain ⟨_, _, _, _, _, hby, _⟩ := Q3.out.st
   exact numP_bd hby (by omega) H2.out
  clear hP Q3 BX5
  obtain ⟨N, rfl⟩ : ∃ N : Nat, a2 = N := ⟨a2.toNat, by omega⟩
  have H3' := Aside0.mk (show msgsP N a0 a1 l3 e3 [] = (es, l4, e4) from H3.out)
  clear H3
  go_wp2_with fail
  go_loopg [9] N (fun gq v9 w' => ∃ (j : Nat) (lc : List Int) (ec : Int) (acc : List S51) (v2 : Value), v9 = .int .i64 j ∧ gq + j = N ∧ Aside0 (msgsP gq a0 a1 lc ec acc = (es, l4, e4)) ∧ Aside0 (RdPost w WS g lc ec w') ∧ Aside0 (Box 24 w' pb [.int .i64 a0, .int .i64 a1, v2]) ∧ Aside0 (k51.R 51 w' WS.heap.size (fun k => k ≠ g ∧ k ≠ pb) v2 acc) ∧ Aside0 (acc.length + gq ≤ 256))
  case atStart => exact ⟨0, l3, e3, [], .slice none 0 0, rfl, rfl, H3', Q4, BX6, ⟨Kd.R_nil _ _ _ _ _⟩, ⟨by simp; omega⟩⟩
  case round =>
   clear H3' Q4 BX6
   obtain ⟨j, lc, ec, acc, v2, rfl, hj, HE, HQ, HBX, HO, HL⟩ := hrel
   obtain ⟨AV, cV, rfl⟩ := Kd.R_slice HO.out
   obtain ⟨A, c, hb, hg, hlc, _⟩ := HQ.out.st
   have hc1 := rds_cell1 hb
   have hc0b := rds_cell0 hb
   clear hb hg
   by_cases hex : gk = 0 ∨ ec ≠ 0
   ·have hent : (acc, lc, ec) = (es, l4, e4) := by
     rw [← HE.out]
     rcases hex with h | h
     ·subst h; rfl
     ·cases gk with
      | zero => rfl
      | succ m => simp only [msgsP]; rw [if_neg h]
    simp only [Prod.mk.injEq] at hent
    obtain ⟨rfl, rfl, rfl⟩ := hent
    clear HE HL
    have hcase : (decide (j < N) = false) ∨ (decide (j < N) = true ∧ (ec == 0) = false) := by
     by_cases hh : j < N
     ·refine .inr ⟨decide_eq_true hh, ?_⟩
      have : ec ≠ 0 := by rcases hex with h | h; omega; exact h
      simpa using this
     ·exact .inl (decide_eq_false hh)
    clear hex
    have ZW := Aside0.mk (ZS.out.keep HQ.out.keep hzg)
    have BW := Aside0.mk (below_then (B := w.heap.size) HQ.out.below HQ.out.below.size (Below.refl _ wr))
    have hH := HT.out
    have hz0 : wr.cell? ⟨w.heap.size, 0, none⟩ = some (.int .i64 0) := ZW.out.cell 0
    have hz1 : wr.cell? ⟨w.heap.size, 1, none⟩ = some (.int .i64 0) := ZW.out.cell 1
    have hz2 : wr.cell? ⟨w.heap.size, 2, none⟩ = some (.slice none 0 0) := ZW.out.cell 2
    have hfz : ∀ i, wr.frozen? ⟨w.heap.size, i, none⟩ = false := ZW.out.free
    by_cases he : ec = 0
    ·subst he
     have hd1 : decide (j < N) = false := by
      rcases hcase with h | ⟨_, h⟩
      ·exact h
      ·exact absurd h (by decide)
     clear hcase
     by_cases hl : 0 < lc.length
     ·rw [if_pos (show (0 : Int) = 0 ∧ 0 < lc.length from ⟨rfl, hl⟩)] at hH
      dsimp only at hH
      rw [if_neg (by decide)] at hH
      cases hH
      have hlb : decide (0 < (lc.length : Int)) = true := decide_eq_true (by omega)
      have hlc2 : decide (0 < lc.length) = true := decide_eq_true hl
      clear hl
      go_wp2_with fail
      refine (fail_calls g lc 0 3 w _ HQ.out.st HQ.out.below).mono ?_
      rintro en WF ⟨rfl, hP⟩
      have hA : RdPost w wr g lc 3 WF := hP
      obtain ⟨AF, cF, hbF, _⟩ := hA.st
      have ZF := Aside0.mk (ZW.out.keep hA.keep hzg)
      have BF := Aside0.mk (below_then (B := w.heap.size) hA.below hA.below.size (Below.refl _ WF))
      clear hP
      clear hA
      have hfF := rds_cell1 hbF
      clear hbF
      have hz0F : WF.cell? ⟨w.heap.size, 0, none⟩ = some (.int .i64 0) := ZF.out.cell 0
      have hz1F : WF.cell? ⟨w.heap.size, 1, none⟩ = some (.int .i64 0) := ZF.out.cell 1
      have hz2F : WF.cell? ⟨w.heap.size, 2, none⟩ = some (.slice none 0 0) := ZF.out.cell 2
      have hfzF : ∀ i, WF.frozen? ⟨w.heap.size, i, none⟩ = false := ZF.out.free
      go_wp2_with fail
      go_region
      all_goals
       go_wp2_with fail
       refine bodyPost_ret (v := .tuple #[.agg #[.int .i64 0, .int .i64 0, .slice none 0 0], .int .i64 3]) (by simp [results, Try.results15, go_sem, *]) rfl ⟨_, rfl, Kd.R_nil _ _ _ _ _, ?_⟩
       repeat (first | (with_reducible exact BF.out) | (refine Below.setCell ?_ (by simp) _) | (refine Below.drew ?_) | (refine pw_below_drewN ?_ _))
     ·rw [if_neg (show ¬ ((0 : Int) = 0 ∧ 0 < lc.length) from fun h => hl h.2)] at hH
      dsimp only at hH
      rw [if_pos rfl] at hH
      obtain ⟨ck, hck, hH⟩ := Option.bind_eq_some_iff.1 hH
      have hlb : decide (0 < (lc.length : Int)) = false := decide_eq_false (by omega)
      have hlc2 : decide (0 < lc.length) = false := decide_eq_false hl
      clear hl
      have hs0 : wr.cell? ⟨pb, 0, none⟩ = some (.int .i64 a0) := HBX.out.cell 0
      have hs1 : wr.cell? ⟨pb, 1, none⟩ = some (.int .i64 a1) := HBX.out.cell 1
      have hs2 : wr.cell? ⟨pb, 2, none⟩ = some (.slice AV acc.length cV) := HBX.out.cell 2
      have HCK := Aside0.mk hck
      have HH := Aside0.mk hH
      clear hck hH
      go_wp2_with fail
      refine (packet_Check.calls k a0 a1 AV cV acc ck _ (Kd.R_reads' HO.out).2.2 (Kd.R_reads' HO.out).2.1 HCK.out).mono ?_
      rintro en WK ⟨rfl, hBK⟩
      have QK := Aside0.mk (HQ.out.thenBelow hBK)
      have ZK := Aside0.mk (ZW.out.below hBK)
      have BK := Aside0.mk (HBX.out.below hBK)
      have OK_ := Aside0.mk (Kd.R_below HO.out hBK)
      obtain ⟨AK, cK, hbK, _⟩ := QK.out.st
      have hcK1 := rds_cell1 hbK
      clear hBK hbK hs0 hs1 hs2
      go_wp2_with fail
      refine (fail_calls g lc 0 ck w _ QK.out.st QK.out.below).mono ?_
      rintro en WF ⟨rfl, hP⟩
      have hA : RdPost w WK g lc ck WF := by
       have e : failE 0 ck = ck := if_pos rfl
       rw [e] at hP
       exact hP
      obtain ⟨AF, cF, hbF, _⟩ := hA.st
      have ZF := Aside0.mk (ZK.out.keep hA.keep hzg)
      have BF := Aside0.mk (below_then (B := w.heap.size) hA.below hA.below.size (Below.refl _ WF))
      have XF := Aside0.mk (BK.out.keep hA.keep hpg)
      have OF := Aside0.mk (Kd.R_lower (Kd.R_bound (Kd.R_keep OK_.out hA.keep (fun k hk => hk.1))) BS'.out)
      clear hP
      by_cases hck0 : ck = 0
      ·subst hck0
       have hR := HH.out
       rw [if_pos rfl] at hR
       cases hR
       clear hA
       have hfF := rds_cell1 hbF
       clear hbF
       have hz0F : WF.cell? ⟨w.heap.size, 0, none⟩ = some (.int .i64 0) := ZF.out.cell 0
       have hz1F : WF.cell? ⟨w.heap.size, 1, none⟩ = some (.int .i64 0) := ZF.out.cell 1
       have hz2F : WF.cell? ⟨w.heap.size, 2, none⟩ = some (.slice none 0 0) := ZF.out.cell 2
       have hfzF : ∀ i, WF.frozen? ⟨w.heap.size, i, none⟩ = false := ZF.out.free
       have hs0 : WF.cell? ⟨pb, 0, none⟩ = some (.int .i64 a0) := XF.out.cell 0
       have hs1 : WF.cell? ⟨pb, 1, none⟩ = some (.int .i64 a1) := XF.out.cell 1
       have hs2 : WF.cell? ⟨pb, 2, none⟩ = some (.slice AV acc.length cV) := XF.out.cell 2
       go_wp2_with fail
       refine bodyPost_ret (v := .tuple #[.agg #[.int .i64 a0, .int .i64 a1, .slice AV acc.length cV], .int .i64 0]) (by simp [results, Try.results15, go_sem, *]) rfl ⟨_, rfl, ?_, ?_⟩
       ·have HK : ∀ W : World, Kept WF W (fun k => k = w.heap.size) → Kd.R k51 51 W w.heap.size (fun _ => True) (.slice AV acc.length cV) acc := fun W hk => Kd.R_mono (Kd.R_kept OF.out hk (fun k hk => by have := hk.2.1; omega)) (fun _ _ => trivial)
        refine HK _ ?_
        repeat (first | (with_reducible exact Kept.refl _ _) | refine Kept.setCell ?_ (.inl (by simp)) _)
       ·repeat (first | (with_reducible exact BF.out) | (refine Below.setCell ?_ (by simp) _) | (refine Below.drew ?_) | (refine pw_below_drewN ?_ _))
      ·have hR := HH.out
       rw [if_neg hck0] at hR
       cases hR
       have heb : (ck == 0) = false := by simpa using hck0
       have heb2 : (ck != 0) = true := by simpa using hck0
       clear hck0
       clear hA
       have hfF := rds_cell1 hbF
       clear hbF
       have hz0F : WF.cell? ⟨w.heap.size, 0, none⟩ = some (.int .i64 0) := ZF.out.cell 0
       have hz1F : WF.cell? ⟨w.heap.size, 1, none⟩ = some (.int .i64 0) := ZF.out.cell 1
       have hz2F : WF.cell? ⟨w.heap.size, 2, none⟩ = some (.slice none 0 0) := ZF.out.cell 2
       have hfzF : ∀ i, WF.frozen? ⟨w.heap.size, i, none⟩ = false := ZF.out.free
       go_wp2_with fail
       go_region
       all_goals
        go_wp2_with fail
        refine bodyPost_ret (v := .tuple #[.agg #[.int .i64 0, .int .i64 0, .slice none 0 0], .int .i64 ck]) (by simp [results, Try.results15, go_sem, *]) rfl ⟨_, rfl, Kd.R_nil _ _ _ _ _, ?_⟩
        repeat (first | (with_reducible exact BF.out) | (refine Below.setCell ?_ (by simp) _) | (refine Below.drew ?_) | (refine pw_below_drewN ?_ _))
    ·rw [if_neg (show ¬ (ec = 0 ∧ 0 < lc.length) from fun h => he h.1)] at hH
     dsimp only at hH
     rw [if_neg he] at hH
     cases hH
     have heb : (ec == 0) = false := by simpa using he
     have heb2 : (ec != 0) = true := by simpa using he
     clear he
     rcases hcase with hd1 | ⟨hd1, hd2⟩
     all_goals
      go_wp2_with fail
      go_region
      all_goals
       go_wp2_with fail
       refine bodyPost_ret (v := .tuple #[.agg #[.int .i64 0, .int .i64 0, .slice none 0 0], .int .i64 ec]) (by simp [results, Try.results15, go_sem, *]) rfl ⟨_, rfl, Kd.R_nil _ _ _ _ _, ?_⟩
       repeat (first | (with_reducible exact BW.out) | (refine Below.setCell ?_ (by simp) _) | (refine Below.drew ?_) | (refine pw_below_drewN ?_ _))
   ·obtain ⟨M, rfl⟩ : ∃ M, gk = M + 1 := ⟨gk - 1, by omega⟩
    obtain rfl : ec = 0 := by omega
    obtain ⟨m, lb, eb, hm⟩ : ∃ a b' c, msgP a0 a1 lc 0 = (a, b', c) := ⟨_, _, _, rfl⟩
    have hen := HE.out
    simp only [msgsP, if_true, hm] at hen
    have HEN := Aside0.mk hen
    have HM := Aside0.mk hm
    have hd1 : decide (j < N) = true := decide_eq_true (by omega)
    have hs0 : wr.cell? ⟨pb, 0, none⟩ = some (.int .i64 a0) := HBX.out.cell 0
    have hs1 : wr.cell? ⟨pb, 1, none⟩ = some (.int .i64 a1) := HBX.out.cell 1
    have hs2 : wr.cell? ⟨pb, 2, none⟩ = some (.slice AV acc.length cV) := HBX.out.cell 2
    clear hex HE hm hen
    go_wp2_with fail
    go_region_law (first
     | (refine' goesF_ Try.func34 ?hnm ?hbd #[.pointer (some ⟨g, 0, none⟩), .int .i64 a0, .int .i64 a1] ?hw ?hop ?hx ?har ?_; (case hop => rfl); (case hw => rfl); (case hx => rfl); (case har => simp [Act.eval]); (case hnm => rfl); (case hbd => rfl); refine (msg_calls' HM.out HQ.out.drew.st HQ.out.drew.below).mono ?_; rintro en WC ⟨cs, rfl, hM, hP⟩; obtain ⟨v9, v10, rfl, g9, g10⟩ := k51_openM hM; obtain ⟨A9, C9, rfl⟩ := Kd.R_slice g9; obtain ⟨A10, C10, rfl⟩ := Kd.R_slice g10; refine ⟨_, rfl, ?_⟩; have QC := Aside0.mk (HQ.out.drew.trans hP); have BC := Aside0.mk (HBX.out.keep hP.keep hpg); have OC := Aside0.mk (Kd.R_keep HO.out hP.keep (fun k hk => hk.1)); have VC := Aside0.mk (k51.M_lower HQ.out.keep.1 (k51.M_bound hM)); have hsC : WC.cell? ⟨pb, 2, none⟩ = some (.slice AV acc.length cV) := BC.out.cell 2; have hsC2 : ∀ o : Obj, (WC.alloc o).cell? ⟨pb, 2, none⟩ = some (.slice AV acc.length cV) := (fun o => (BC.out.alloc o).cell 2); clear hP g9 g10 hM)
     | ((refine Kd.R_append_step k51 WS.heap.size ?hw (.tmp 65) (.tmp 72) 22 51 (.agg #[.int .i64 0, .int .i64 0, .int .i64 0, .int .i64 0, .int .i64 0, .int .i64 0, .int .i64 0, .int .i64 0, .bool false, .slice none 0 0, .slice none 0 0]) 120 ?ho Try.underlying22 info51b rfl ?hs0 ?hb0 (.slice AV acc.length cV) acc m [.int .i64 m.f0, .int .i64 m.f1, .int .i64 m.f2, .int .i64 m.f3, .int .i64 m.f4, .int .i64 m.f5, .int .i64 m.f6, .int .i64 m.f7, .bool m.f8, .slice A9 m.f9.length C9, .slice A10 m.f10.length C10] (fun k => k ≠ g ∧ k ≠ pb) _ ?hs ?hx VC.out ?aK ?aF OC.out (Below.refl _ _) ?aB ?aL ?_; (case hw => rfl); (case ho => rfl); (case hs0 => decide); (case hb0 => decide); (case hs => rfl); (case hx => rfl); (case aK => (intro k hk; have h1 := hk.2.1; have h2 := HQ.out.keep.1; have h3 := HBX.out.lt; exact ⟨⟨by omega, by omega⟩, fun he => by have := Kd.R_lt HO.out k he.symm; omega⟩)); (case aF => (intro k hk; have h2 := QC.out.keep.1; have h3 := BC.out.lt; exact ⟨by omega, by omega⟩)); (case aB => exact QC.out.keep.1); (case aL => (have := HL.out; omega)); intro v1 W9 ho hb hgr hat; obtain ⟨A1, c1, rfl⟩ := Kd.R_slice ho; have QD := Aside0.mk (QC.out.grown hgr hgS (fun k hk => by have := Kd.R_base OC.out k hk; omega)); have BD := Aside0.mk (BC.out.grown hgr (fun he => (OC.out.1 _ he.symm).2 rfl)); have OD := Aside0.mk ho; have hsD : W9.cell? ⟨pb, 2, none⟩ = some (.slice AV acc.length cV) := BD.out.cell 2; have hfD : ∀ i, W9.frozen? ⟨pb, i, none⟩ = false := BD.out.free; clear ho hb hgr hat)))
    all_goals
     go_wp2_with fail
     go_roundg M
     case measure => omega
     case rel =>
      refine ⟨j + 1, lb, eb, acc ++ [m], .slice A1 (acc.length + 1) c1, by go_num, by omega, HEN, ⟨?_⟩, ⟨?_⟩, ⟨?_⟩, ⟨?_⟩⟩
      ·exact QD.out.far pb hpbS hgS 2 _
      ·exact BD.out.set 2 _
      ·have ho := Kd.R_far (p := ⟨pb, 2, none⟩) OD.out (fun k hk => hk.2) (.slice A1 (acc.length + 1) c1)
       rw [List.length_append] at ho
       exact ho
      ·have := HL.out; simp; omega
theorem packet_Read.calls (k : Nat) (A0 : Option Addr) (c0 : Nat) (l0 : List Int) (r1 : Int) (r2 : Int) (r3 : List (S51)) (r4 : Int) (w : World) (hr0 : Kd.C (Kd.int .u8) w A0 l0.length l0) (hc0 : l0.length ≤ c0) (h : packet_Read.f k l0 = some (r1, r2, r3, r4)) :
  Calls Try.prog 15 #[.slice A0 l0.length c0] w fun e w' => ∃ v2_ : Value, e = .returned (.tuple #[.agg #[.int .i64 r1, .int .i64 r2, v2_], .int .i64 r4]) ∧ Kd.R k51 51 w' w.heap.size (fun _ => True) v2_ r3 ∧ Below w.heap.size w w' :=
 read_calls k A0 c0 l0 (r1, r2, r3, r4) w hr0 hc0 h

end Go.Proofs.Ytnmcahlpkebpjaa.XPacketPuts
