/- The plain law FrameFlips: what the printed functions of the program and of the statement compute answers true, at every input within the row's own bounds. -/
import Derived.Test.YtjjdbakmhdjakaaXFrameFlipsx2
import Derived.Test.YtjjdbakmhdjakaaXCrc
set_option linter.unusedVariables false
set_option linter.unusedSimpArgs false
namespace Go.Proofs.Ytjjdbakmhdjakaa.Pure
open Go.RowKit Go.Proofs.Ytjjdbakmhdjakaa.XFrameFlips Go.Proofs.YtjjdbakmhdjakaaX Go.Proofs.YtjjdbakmhdjakaaW.PrintWords Go.Proofs.YtjjdbakmhdjakaaW.PrintLast

abbrev Byt (l : List Int) : Prop := ∀ c ∈ l, 0 ≤ c ∧ c < 256

theorem w64 {x : Int} (h0 : -9223372036854775808 ≤ x) (h1 : x ≤ 9223372036854775807) : wrap64 x = x := by
  unfold wrap64
  omega
theorem rd_get {l : List Int} {i : Nat} (h : i < l.length) : rd l (i : Int) = l[i] := by
  unfold rd
  rw [Int.toNat_natCast, List.getD_eq_getElem?_getD, List.getElem?_eq_getElem h]
  rfl

/-! ### the sum -/
theorem upd_l1 (x10 : List Int) (x11 x12 : Int) (r : Int) : ∀ (n : Nat) (j : Int) (s : BitVec 32), j + n = 8 → 0 ≤ j →
    Ev (fun k => crc_Update.l0 k (i32 (rnds n s)) x10 x11 (wrap64 (x12 + 1))) r → Ev (fun k => crc_Update.l1 k (i32 s) x10 x11 x12 j) r
  | 0, j, s, hj, h0, h => Ev.step (fun k => by
      simp only [crc_Update.l1]
      rw [if_neg (by omega)]
      rfl) h
  | n + 1, j, s, hj, h0, h => by
    have ih := upd_l1 x10 x11 x12 r n (j + 1) (rnd s) (by omega) (by omega) h
    refine Ev.step (fun k => ?_) ih
    simp only [crc_Update.l1]
    rw [if_pos (by omega), w64 (by omega) (by omega)]
    have hb : Go.bits .and .u32 (i32 s) 1 = i32 (s &&& 1#32) := bits_and s 1#32
    by_cases hc : s &&& 1#32 = 1#32
    · have hx : Go.bits .xor .u32 (i32 (s >>> 1)) 3988292384 = i32 ((s >>> 1) ^^^ 3988292384#32) := bits_xor (s >>> 1) 3988292384#32
      rw [if_pos (by rw [hb, hc]; rfl), i32_half, hx]
      unfold rnd
      rw [if_pos hc]
    · rw [if_neg (by rw [hb]; exact fun h => hc (i32_inj (b := 1#32) h)), i32_half]
      unfold rnd
      rw [if_neg hc]

theorem upd_l0 (l : List Int) (hb : Byt l) (hl : l.length ≤ 140737488355328) : ∀ (n i : Nat) (s : BitVec 32), i + n = l.length →
    Ev (fun k => crc_Update.l0 k (i32 s) l (l.length : Int) (i : Int)) (i32 (~~~ (upd s (l.drop i))))
  | 0, i, s, hi => by
    have hd : l.drop i = [] := List.drop_eq_nil_of_le (by omega)
    refine Ev.step (f := fun _ => some (i32 (~~~ (upd s (l.drop i))))) (fun k => ?_) (Ev.now _)
    simp only [crc_Update.l0]
    rw [if_neg (by omega), hd]
    have hx : Go.bits .xor .u32 4294967295 (i32 s) = i32 (4294967295#32 ^^^ s) := bits_xor 4294967295#32 s
    rw [hx]
    congr 2
  | n + 1, i, s, hi => by
    have hlt : i < l.length := by omega
    have ih := upd_l0 l hb hl n (i + 1) (byte8 s l[i]) (by omega)
    have hd : l.drop i = l[i] :: l.drop (i + 1) := List.drop_eq_getElem_cons hlt
    have hbi := hb l[i] (List.getElem_mem hlt)
    rw [hd]
    have h1 := upd_l1 l (l.length : Int) (i : Int) (i32 (~~~ (upd s (l[i] :: l.drop (i + 1))))) 8 0 (s ^^^ BitVec.ofInt 32 l[i]) (by omega) (by omega) (by
      rw [w64 (by omega) (by omega)]
      exact ih)
    refine Ev.step (fun k => ?_) h1
    simp only [crc_Update.l0]
    rw [if_pos (by omega), if_pos (by omega), if_pos (by omega), rd_get hlt]
    have hm : l[i] % 4294967296 = i32 (BitVec.ofInt 32 l[i]) := by
      rw [i32_ofInt _ (by omega) (by omega)]
      omega
    rw [hm, bits_xor]

theorem crc_up (s : BitVec 32) (l : List Int) (hb : Byt l) (hl : l.length ≤ 140737488355328) : Ev (fun k => crc_Update.f k (i32 s) l) (i32 (crcU s l)) := by
  have h := upd_l0 l hb hl l.length 0 (~~~ s) (by omega)
  refine Ev.congr (fun k => ?_) h
  unfold crc_Update.f
  have hx : Go.bits .xor .u32 4294967295 (i32 s) = i32 (4294967295#32 ^^^ s) := bits_xor 4294967295#32 s
  rw [hx]
  congr 2
theorem crc_su (l : List Int) (hb : Byt l) (hl : l.length ≤ 140737488355328) : Ev (fun k => crc_Sum.f k l) (i32 (crcU 0#32 l)) := by
  have h := crc_up 0#32 l hb hl
  exact Ev.bind (f := fun _ t => some t) h (Ev.now _)

/-! ### four bytes -/
theorem or_add (i : Nat) (a b : Nat) (ha : a < 2 ^ i) (hl : a + b * 2 ^ i < 4294967296) : Go.bits .or .u32 (a : Int) ((b * 2 ^ i : Nat) : Int) = ((a + b * 2 ^ i : Nat) : Int) := by
  have h1 : a < 2 ^ 32 := by omega
  have h2 : b * 2 ^ i < 2 ^ 32 := by omega
  have h := (bits_nat .u32 32 (by decide) (fun n h0 h1 => by rw [IntKind.wrap_u32]; omega) a (b * 2 ^ i) h1 h2).2
  rw [h]
  congr 1
  rw [Nat.or_comm, Nat.mul_comm b, ← Nat.two_pow_add_eq_or_of_lt ha b]
  omega

/-- The number that four bytes are. -/
def g4 (l : List Int) : Int := rd l 0 + 256 * rd l 1 + 65536 * rd l 2 + 16777216 * rd l 3

theorem rd_byt {l : List Int} (hb : Byt l) {i : Nat} (h : i < l.length) : 0 ≤ rd l (i : Int) ∧ rd l (i : Int) < 256 := by
  rw [rd_get h]
  exact hb _ (List.getElem_mem h)

theorem get_of (l : List Int) (hb : Byt l) (h : 4 ≤ l.length) : frame_get.f l = some (g4 l) := by
  have b0 : 0 ≤ rd l 0 ∧ rd l 0 < 256 := rd_byt hb (i := 0) (by omega)
  have b1 : 0 ≤ rd l 1 ∧ rd l 1 < 256 := rd_byt hb (i := 1) (by omega)
  have b2 : 0 ≤ rd l 2 ∧ rd l 2 < 256 := rd_byt hb (i := 2) (by omega)
  have b3 : 0 ≤ rd l 3 ∧ rd l 3 < 256 := rd_byt hb (i := 3) (by omega)
  unfold frame_get.f g4
  rw [if_pos (by omega), if_pos (by omega), if_pos (by omega), if_pos (by omega)]
  obtain ⟨x0, e0⟩ := Int.eq_ofNat_of_zero_le b0.1
  obtain ⟨x1, e1⟩ := Int.eq_ofNat_of_zero_le b1.1
  obtain ⟨x2, e2⟩ := Int.eq_ofNat_of_zero_le b2.1
  obtain ⟨x3, e3⟩ := Int.eq_ofNat_of_zero_le b3.1
  rw [e0, e1, e2, e3]
  have c0 : ((x0 : Int)) % 4294967296 = (x0 : Int) := by omega
  have c1 : (((x1 : Int)) % 4294967296 * 256) % 4294967296 = ((x1 * 2 ^ 8 : Nat) : Int) := by omega
  have c2 : (((x2 : Int)) % 4294967296 * 65536) % 4294967296 = ((x2 * 2 ^ 16 : Nat) : Int) := by omega
  have c3 : (((x3 : Int)) % 4294967296 * 16777216) % 4294967296 = ((x3 * 2 ^ 24 : Nat) : Int) := by omega
  rw [c0, c1, c2, c3, or_add 8 x0 x1 (by omega) (by omega), or_add 16 (x0 + x1 * 2 ^ 8) x2 (by omega) (by omega), or_add 24 (x0 + x1 * 2 ^ 8 + x2 * 2 ^ 16) x3 (by omega) (by omega)]
  congr 1
  omega

/-- A number as four bytes. -/
def le4 (n : Int) : List Int := [n % 256, n / 256 % 256, n / 65536 % 256, n / 16777216 % 256]
theorem le4_len (n : Int) : (le4 n).length = 4 := rfl
theorem le4_byt (n : Int) : Byt (le4 n) := by
  intro c hc
  simp only [le4, List.mem_cons, List.mem_nil_iff, or_false] at hc
  rcases hc with rfl | rfl | rfl | rfl <;> omega
theorem g4_le4 (n : Int) (r : List Int) (h0 : 0 ≤ n) (h1 : n < 4294967296) : g4 (le4 n ++ r) = n := by
  show n % 256 + 256 * (n / 256 % 256) + 65536 * (n / 65536 % 256) + 16777216 * (n / 16777216 % 256) = n
  omega
theorem put_of (l : List Int) (a : Int) (h : l.length + 4 < 140737488355328) : frame_put.f l a = some (l ++ le4 a) := by
  unfold frame_put.f
  simp only [Option.bind_some]
  rw [if_pos (by simpa using h)]
  rfl

/-! ### a record's bytes -/
def sumOf (r : List Int) : BitVec 32 := crcU 0#32 (le4 r.length ++ r)
def enc (r : List Int) : List Int := le4 r.length ++ (le4 (i32 (sumOf r)) ++ r)
theorem enc_len (r : List Int) : (enc r).length = 8 + r.length := by
  simp only [enc, List.length_append, le4_len]
  omega
theorem byt_append {a b : List Int} (ha : Byt a) (hb : Byt b) : Byt (a ++ b) := by
  intro c hc
  rcases List.mem_append.1 hc with h | h
  · exact ha c h
  · exact hb c h
theorem enc_byt {r : List Int} (h : Byt r) : Byt (enc r) := byt_append (le4_byt _) (byt_append (le4_byt _) h)

theorem Put_of (b r : List Int) (hr : Byt r) (hl : b.length + r.length ≤ 1000000) : Ev (fun k => frame_Put.f k b r) (b ++ enc r) := by
  have hn : ((r.length : Int)) % 4294967296 = (r.length : Int) := by omega
  have hs := crc_su (le4 r.length) (le4_byt _) (by rw [le4_len]; omega)
  have hu := crc_up (crcU 0#32 (le4 r.length)) r hr (by omega)
  rw [← crcU_append] at hu
  unfold frame_Put.f
  rw [hn, put_of [] _ (by simp)]
  simp only [Option.bind_some, List.nil_append]
  refine Ev.yes (by rw [le4_len]; omega) ?_
  refine Ev.bind hs ?_
  refine Ev.bind hu ?_
  rw [put_of _ _ (by simp only [List.length_append, le4_len]; omega)]
  refine Ev.some_bind (f := fun _ t149 => if t149.length + r.length < 140737488355328 then some (t149 ++ r) else none) ?_
  have hlim : (b ++ le4 (r.length : Int) ++ le4 (i32 (crcU 0#32 (le4 (r.length : Int) ++ r)))).length + r.length < 140737488355328 := by
    simp only [List.length_append, le4_len]
    omega
  refine Ev.yes hlim ?_
  have e : b ++ le4 (r.length : Int) ++ le4 (i32 (crcU 0#32 (le4 (r.length : Int) ++ r))) ++ r = b ++ enc r := by
    simp only [enc, sumOf, List.append_assoc]
  rw [e]
  exact Ev.now _

/-! ### records, one behind the other -/
def recs (l : List (List Int)) : List Int := l.flatMap enc
theorem recs_nil : recs [] = [] := rfl
theorem recs_cons (r : List Int) (l : List (List Int)) : recs (r :: l) = enc r ++ recs l := rfl
theorem recs_append (a b : List (List Int)) : recs (a ++ b) = recs a ++ recs b := List.flatMap_append ..
def tot : List (List Int) → Nat
  | [] => 0
  | r :: l => r.length + tot l
theorem tot_append (a b : List (List Int)) : tot (a ++ b) = tot a + tot b := by
  induction a with
  | nil => simp [tot]
  | cons r l ih => simp only [List.cons_append, tot, ih]; omega
theorem recs_len (l : List (List Int)) : (recs l).length = 8 * l.length + tot l := by
  induction l with
  | nil => rfl
  | cons r l ih =>
    rw [recs_cons, List.length_append, ih, enc_len]
    simp only [tot, List.length_cons]
    omega
abbrev Byts (l : List (List Int)) : Prop := ∀ r ∈ l, Byt r
theorem recs_byt {l : List (List Int)} (h : Byts l) : Byt (recs l) := by
  intro c hc
  obtain ⟨r, hr, hcr⟩ := List.mem_flatMap.1 hc
  exact enc_byt (h r hr) c hcr
theorem rdL_get {l : List (List Int)} {i : Nat} (h : i < l.length) : rd_L1 l (i : Int) = l[i] := by
  unfold rd_L1
  rw [Int.toNat_natCast, List.getD_eq_getElem?_getD, List.getElem?_eq_getElem h]
  rfl

theorem written_l0 (l : List (List Int)) (hb : Byts l) (hn : l.length ≤ 100) (ht : tot l ≤ 1000) : ∀ (n i : Nat), i + n = l.length →
    Ev (fun k => funicularlaw05_written.l0 k l (recs (l.take i)) (i : Int)) (recs l)
  | 0, i, hi => by
    have hd : l.take i = l := List.take_of_length_le (by omega)
    rw [hd]
    refine Ev.step (f := fun _ => some (recs l)) (fun k => ?_) (Ev.now _)
    simp only [funicularlaw05_written.l0]
    rw [if_neg (by omega)]
  | n + 1, i, hi => by
    have hlt : i < l.length := by omega
    have ih := written_l0 l hb hn ht n (i + 1) (by omega)
    have hs : l.take (i + 1) = l.take i ++ [l[i]] := List.take_succ_eq_append_getElem hlt
    have htl : tot (l.take i) + (l[i].length + tot (l.drop (i + 1))) = tot l := by
      have : l = l.take i ++ l[i] :: l.drop (i + 1) := by rw [← List.drop_eq_getElem_cons hlt, List.take_append_drop]
      conv => rhs; rw [this]
      rw [tot_append]
      rfl
    have hp := Put_of (recs (l.take i)) l[i] (hb _ (List.getElem_mem hlt)) (by
      rw [recs_len, List.length_take]
      omega)
    have he : recs (l.take i) ++ enc l[i] = recs (l.take (i + 1)) := by
      rw [hs, recs_append, recs_cons, recs_nil, List.append_nil]
    rw [he] at hp
    refine Ev.step (f := fun k => (frame_Put.f k (recs (l.take i)) (rd_L1 l (i : Int))).bind fun t => funicularlaw05_written.l0 k l t (wrap64 ((i : Int) + 1))) (fun k => ?_) ?_
    · simp only [funicularlaw05_written.l0]
      rw [if_pos (by omega), if_pos (by omega)]
    · rw [rdL_get hlt]
      refine Ev.bind hp ?_
      rw [w64 (by omega) (by omega)]
      exact ih
theorem written_of (l : List (List Int)) (hb : Byts l) (hn : l.length ≤ 100) (ht : tot l ≤ 1000) : Ev (fun k => funicularlaw05_written.f k l) (recs l) :=
  written_l0 l hb hn ht l.length 0 (by omega)

/-! ### scanning -/
theorem g4_bd {l : List Int} (hb : Byt l) (h : 4 ≤ l.length) : 0 ≤ g4 l ∧ g4 l < 4294967296 := by
  have b0 : 0 ≤ rd l 0 ∧ rd l 0 < 256 := rd_byt hb (i := 0) (by omega)
  have b1 : 0 ≤ rd l 1 ∧ rd l 1 < 256 := rd_byt hb (i := 1) (by omega)
  have b2 : 0 ≤ rd l 2 ∧ rd l 2 < 256 := rd_byt hb (i := 2) (by omega)
  have b3 : 0 ≤ rd l 3 ∧ rd l 3 < 256 := rd_byt hb (i := 3) (by omega)
  unfold g4
  omega
/-- The record that a row begins with, as far as its length tells. -/
def body (u : List Int) : List Int := (u.drop 8).take (g4 u).toNat
/-- The sum that a row's first record has. -/
def sumAt (u : List Int) : BitVec 32 := crcU 0#32 (u.take 4 ++ body u)
theorem byt_drop {l : List Int} (hb : Byt l) (n : Nat) : Byt (l.drop n) := fun c hc => hb c (List.mem_of_mem_drop hc)
theorem byt_take {l : List Int} (hb : Byt l) (n : Nat) : Byt (l.take n) := fun c hc => hb c (List.mem_of_mem_take hc)

/-- Nothing whole is at the beginning. -/
def stuck (u : List Int) : Prop := u.length < 8 ∨ (u.length : Int) - 8 < g4 u ∨ g4 (u.drop 4) ≠ i32 (sumAt u)

theorem scan_stop (x0 : List Int) (out : List (List Int)) (at_ : Nat) (hb : Byt x0) (hx : x0.length ≤ 1000000) (ha : at_ ≤ x0.length) (h : stuck (x0.drop at_)) :
    Ev (fun k => frame_Scan.l0 k x0 out (at_ : Int)) (out, (at_ : Int)) := by
  have hul : (x0.drop at_).length = x0.length - at_ := List.length_drop
  by_cases h8 : (x0.drop at_).length < 8
  · refine Ev.step (f := fun _ => some (out, (at_ : Int))) (fun k => ?_) (Ev.now _)
    simp only [frame_Scan.l0]
    rw [w64 (by omega) (by omega), if_pos (by omega)]
  · have hbu := byt_drop hb at_
    have hg := get_of (x0.drop at_) hbu (by omega)
    obtain ⟨n, hn⟩ := Int.eq_ofNat_of_zero_le (g4_bd hbu (by omega)).1
    have hn2 := (g4_bd hbu (by omega)).2
    rw [hn] at hg hn2
    by_cases h9 : ((x0.drop at_).length : Int) - 8 < (n : Int)
    · refine Ev.step (f := fun _ => some (out, (at_ : Int))) (fun k => ?_) (Ev.now _)
      simp only [frame_Scan.l0]
      rw [w64 (x := (x0.length : Int) - (at_ : Int)) (by omega) (by omega), if_neg (by omega), if_pos (by omega), if_pos (by omega), Int.toNat_natCast, hg, Option.bind_some, w64 (x := (n : Int)) (by omega) (by omega), w64 (by omega) (by omega), if_pos (by omega)]
    · have hs : g4 ((x0.drop at_).drop 4) ≠ i32 (sumAt (x0.drop at_)) := by
        rcases h with h | h | h
        · exact absurd h h8
        · rw [hn] at h; exact absurd h h9
        · exact h
      have hbody : (x0.take ((at_ : Int) + 8 + (n : Int)).toNat).drop ((at_ : Int) + 8).toNat = body (x0.drop at_) := by
        rw [show ((at_ : Int) + 8 + (n : Int)).toNat = at_ + 8 + n by omega, show ((at_ : Int) + 8).toNat = at_ + 8 by omega, List.drop_take, body, hn, Int.toNat_natCast, List.drop_drop]
        congr 1
        omega
      have hhead : (x0.take ((at_ : Int) + 4).toNat).drop at_ = (x0.drop at_).take 4 := by
        rw [show ((at_ : Int) + 4).toNat = at_ + 4 by omega, List.drop_take]
        congr 1
        omega
      have hg2 := get_of (x0.drop ((at_ : Int) + 4).toNat) (byt_drop hb _) (by rw [List.length_drop]; omega)
      rw [show ((at_ : Int) + 4).toNat = at_ + 4 by omega, ← List.drop_drop] at hg2
      have hsu := crc_su ((x0.drop at_).take 4) (byt_take hbu 4) (by rw [List.length_take]; omega)
      have hup := crc_up (crcU 0#32 ((x0.drop at_).take 4)) (body (x0.drop at_)) (byt_take (byt_drop hbu 8) _) (by rw [body, List.length_take, List.length_drop]; omega)
      rw [← crcU_append] at hup
      refine Ev.step (f := fun k => (crc_Sum.f k ((x0.drop at_).take 4)).bind fun t130 => (crc_Update.f k t130 (body (x0.drop at_))).bind fun t131 =>
        if g4 ((x0.drop at_).drop 4) = t131 then (if out.length < 5864062014805 then frame_Scan.l0 k x0 (out ++ [body (x0.drop at_)]) (wrap64 ((at_ : Int) + wrap64 (8 + (n : Int)))) else none) else some (out, (at_ : Int))) (fun k => ?_) ?_
      · simp only [frame_Scan.l0]
        rw [w64 (x := (x0.length : Int) - (at_ : Int)) (by omega) (by omega), if_neg (by omega), if_pos (by omega), if_pos (by omega), Int.toNat_natCast, hg, Option.bind_some, w64 (x := (n : Int)) (by omega) (by omega), w64 (x := (x0.length : Int) - (at_ : Int) - 8) (by omega) (by omega), if_neg (by omega), w64 (x := (at_ : Int) + 8) (by omega) (by omega), if_pos (by omega),
          w64 (x := (at_ : Int) + 8 + (n : Int)) (by omega) (by omega), if_pos (by omega), if_pos (by omega), Option.bind_some, w64 (x := (at_ : Int) + 4) (by omega) (by omega), if_pos (by omega), if_pos (by omega),
          show ((at_ : Int) + 4).toNat = at_ + 4 by omega, ← List.drop_drop, hg2, Option.bind_some, if_pos (by omega), hbody, ← hhead, show ((at_ : Int) + 4).toNat = at_ + 4 by omega]
      · refine Ev.bind hsu (Ev.bind hup (Ev.no hs (Ev.now _)))

theorem scan_go (x0 : List Int) (out : List (List Int)) (at_ : Nat) (r : List (List Int) × Int) (hb : Byt x0) (hx : x0.length ≤ 1000000) (ha : at_ ≤ x0.length) (hout : out.length ≤ 1000000) (n : Nat) (hn : g4 (x0.drop at_) = (n : Int)) (h8 : 8 + n ≤ (x0.drop at_).length)
    (hs : g4 ((x0.drop at_).drop 4) = i32 (sumAt (x0.drop at_))) (h : Ev (fun k => frame_Scan.l0 k x0 (out ++ [body (x0.drop at_)]) ((at_ + (8 + n) : Nat) : Int)) r) :
    Ev (fun k => frame_Scan.l0 k x0 out (at_ : Int)) r := by
  have hul : (x0.drop at_).length = x0.length - at_ := List.length_drop
  have hbu := byt_drop hb at_
  have hg := get_of (x0.drop at_) hbu (by omega)
  rw [hn] at hg
  have hbody : (x0.take ((at_ : Int) + 8 + (n : Int)).toNat).drop ((at_ : Int) + 8).toNat = body (x0.drop at_) := by
    rw [show ((at_ : Int) + 8 + (n : Int)).toNat = at_ + 8 + n by omega, show ((at_ : Int) + 8).toNat = at_ + 8 by omega, List.drop_take, body, hn, Int.toNat_natCast, List.drop_drop]
    congr 1
    omega
  have hhead : (x0.take ((at_ : Int) + 4).toNat).drop at_ = (x0.drop at_).take 4 := by
    rw [show ((at_ : Int) + 4).toNat = at_ + 4 by omega, List.drop_take]
    congr 1
    omega
  have hg2 := get_of (x0.drop ((at_ : Int) + 4).toNat) (byt_drop hb _) (by rw [List.length_drop]; omega)
  rw [show ((at_ : Int) + 4).toNat = at_ + 4 by omega, ← List.drop_drop] at hg2
  have hsu := crc_su ((x0.drop at_).take 4) (byt_take hbu 4) (by rw [List.length_take]; omega)
  have hup := crc_up (crcU 0#32 ((x0.drop at_).take 4)) (body (x0.drop at_)) (byt_take (byt_drop hbu 8) _) (by rw [body, List.length_take, List.length_drop]; omega)
  rw [← crcU_append] at hup
  refine Ev.step (f := fun k => (crc_Sum.f k ((x0.drop at_).take 4)).bind fun t130 => (crc_Update.f k t130 (body (x0.drop at_))).bind fun t131 =>
    if g4 ((x0.drop at_).drop 4) = t131 then (if out.length < 5864062014805 then frame_Scan.l0 k x0 (out ++ [body (x0.drop at_)]) (wrap64 ((at_ : Int) + wrap64 (8 + (n : Int)))) else none) else some (out, (at_ : Int))) (fun k => ?_) ?_
  · simp only [frame_Scan.l0]
    rw [w64 (x := (x0.length : Int) - (at_ : Int)) (by omega) (by omega), if_neg (by omega), if_pos (by omega), if_pos (by omega), Int.toNat_natCast, hg, Option.bind_some, w64 (x := (n : Int)) (by omega) (by omega), w64 (x := (x0.length : Int) - (at_ : Int) - 8) (by omega) (by omega), if_neg (by omega), w64 (x := (at_ : Int) + 8) (by omega) (by omega), if_pos (by omega),
      w64 (x := (at_ : Int) + 8 + (n : Int)) (by omega) (by omega), if_pos (by omega), if_pos (by omega), Option.bind_some, w64 (x := (at_ : Int) + 4) (by omega) (by omega), if_pos (by omega), if_pos (by omega),
      show ((at_ : Int) + 4).toNat = at_ + 4 by omega, ← List.drop_drop, hg2, Option.bind_some, if_pos (by omega), hbody, ← hhead, show ((at_ : Int) + 4).toNat = at_ + 4 by omega]
  · refine Ev.bind hsu (Ev.bind hup (Ev.yes hs (Ev.yes (by omega) ?_)))
    rw [w64 (x := 8 + (n : Int)) (by omega) (by omega), w64 (by omega) (by omega), show ((at_ : Int) + (8 + (n : Int))) = ((at_ + (8 + n) : Nat) : Int) by omega]
    exact h

theorem enc_parts (r t : List Int) (hr : r.length < 1000000) : g4 (enc r ++ t) = (r.length : Int) ∧ body (enc r ++ t) = r ∧ g4 ((enc r ++ t).drop 4) = i32 (sumOf r) ∧ (enc r ++ t).take 4 = le4 r.length := by
  have e : enc r ++ t = le4 r.length ++ (le4 (i32 (sumOf r)) ++ (r ++ t)) := by simp only [enc, List.append_assoc]
  have h1 : g4 (enc r ++ t) = (r.length : Int) := by rw [e]; exact g4_le4 _ _ (by omega) (by omega)
  refine ⟨h1, ?_, ?_, ?_⟩
  · rw [body, h1, Int.toNat_natCast, e, ← List.append_assoc]
    rw [List.drop_append_of_le_length (by simp [le4_len]), List.drop_eq_nil_of_le (by simp [le4_len]), List.nil_append, List.take_left]
  · rw [e, List.drop_append_of_le_length (by simp [le4_len]), List.drop_eq_nil_of_le (by simp [le4_len]), List.nil_append]
    exact g4_le4 _ _ (i32_nonneg _) (i32_lt _)
  · rw [e, List.take_append_of_le_length (by simp [le4_len]), List.take_of_length_le (by simp [le4_len])]

theorem scan_recs (x0 t : List Int) (hb : Byt x0) (hx : x0.length ≤ 1000000) (ht : stuck t) : ∀ (ls : List (List Int)) (out : List (List Int)) (pre : List Int), x0 = pre ++ (recs ls ++ t) → out.length + ls.length ≤ 1000000 →
    Ev (fun k => frame_Scan.l0 k x0 out (pre.length : Int)) (out ++ ls, ((pre.length + (recs ls).length : Nat) : Int))
  | [], out, pre, he, ho => by
    have hd : x0.drop pre.length = t := by rw [he, List.drop_left, recs_nil, List.nil_append]
    have := scan_stop x0 out pre.length hb hx (by rw [he, List.length_append]; omega) (by rw [hd]; exact ht)
    rw [List.append_nil, recs_nil]
    exact this
  | r :: ls, out, pre, he, ho => by
    have hd : x0.drop pre.length = enc r ++ (recs ls ++ t) := by rw [he, List.drop_left, recs_cons, List.append_assoc]
    have hlen : x0.length = pre.length + ((enc r).length + ((recs ls).length + t.length)) := by rw [he]; simp only [List.length_append, recs_cons]; omega
    rw [enc_len] at hlen
    obtain ⟨p1, p2, p3, p4⟩ := enc_parts r (recs ls ++ t) (by omega)
    have ih := scan_recs x0 t hb hx ht ls (out ++ [r]) (pre ++ enc r) (by rw [he, recs_cons]; simp only [List.append_assoc]) (by simp only [List.length_append, List.length_cons, List.length_nil] at ho ⊢; omega)
    simp only [List.length_cons] at ho
    refine scan_go x0 out pre.length _ hb hx (by omega) (by omega) r.length (by rw [hd]; exact p1) (by rw [hd, List.length_append, enc_len]; omega) (by rw [hd, p3, sumAt, p2, p4]; rfl) ?_
    rw [hd, p2]
    have e1 : (pre ++ enc r).length = pre.length + (8 + r.length) := by rw [List.length_append, enc_len]
    rw [e1] at ih
    have e2 : (out ++ [r]) ++ ls = out ++ r :: ls := by simp
    have e3 : pre.length + (8 + r.length) + (recs ls).length = pre.length + (recs (r :: ls)).length := by rw [recs_cons, List.length_append, enc_len]; omega
    rw [e2, e3] at ih
    exact ih

/-- What is scanned of whole records with something behind that begins with none. -/
theorem scan_of (ls : List (List Int)) (t : List Int) (hb : Byt (recs ls ++ t)) (hx : (recs ls ++ t).length ≤ 1000000) (ht : stuck t) : Ev (fun k => frame_Scan.f k (recs ls ++ t)) (ls, ((recs ls).length : Int)) := by
  have hl : ls.length ≤ 1000000 := by
    have := recs_len ls
    rw [List.length_append] at hx
    omega
  have h := scan_recs (recs ls ++ t) t hb hx ht ls [] [] rfl (by simpa using hl)
  simp only [List.nil_append, List.length_nil, Nat.zero_add] at h
  exact h

/-! ### the statement's own small functions -/
theorem same_all_l0 (a : List (List Int)) (hn : a.length ≤ 100) : ∀ (n i : Nat), i + n = a.length → Ev (fun k => funicularref05_SameAll.l0 k a a (i : Int)) true
  | 0, i, hi => Ev.step (f := fun _ => some true) (fun k => by
      simp only [funicularref05_SameAll.l0]
      rw [if_neg (by omega)]) (Ev.now _)
  | n + 1, i, hi => by
    have ih := same_all_l0 a hn n (i + 1) (by omega)
    refine Ev.step (fun k => ?_) ih
    simp only [funicularref05_SameAll.l0]
    rw [if_pos (by omega), if_pos (by omega), if_pos (by omega), if_pos trivial, w64 (by omega) (by omega)]
    rfl
theorem same_all (a : List (List Int)) (hn : a.length ≤ 100) : Ev (fun k => funicularref05_SameAll.f k a a) true := by
  have h := same_all_l0 a hn a.length 0 (by omega)
  refine Ev.congr (fun k => ?_) h
  unfold funicularref05_SameAll.f
  rw [if_pos rfl]
  rfl

theorem light_l0 (l : List (List Int)) (hn : l.length ≤ 60) (hl : ∀ r ∈ l, r.length ≤ 140737488351232) : ∀ (n i : Nat), i + n = l.length → tot (l.take i) ≤ 600 →
    ∃ b, Ev (fun k => funicularlaw05_light.l0 k l (tot (l.take i) : Int) (i : Int)) b ∧ (b = true → tot l ≤ 600)
  | 0, i, hi, ht => by
    have hd : l.take i = l := List.take_of_length_le (by omega)
    rw [hd] at ht ⊢
    refine ⟨true, Ev.step (f := fun _ => some true) (fun k => ?_) (Ev.now _), fun _ => ht⟩
    simp only [funicularlaw05_light.l0]
    rw [if_neg (by omega)]
  | n + 1, i, hi, ht => by
    have hlt : i < l.length := by omega
    have hr := hl _ (List.getElem_mem hlt)
    have hs : tot (l.take (i + 1)) = tot (l.take i) + l[i].length := by
      rw [List.take_succ_eq_append_getElem hlt, tot_append]
      rfl
    by_cases h : 600 < tot (l.take i) + l[i].length
    · refine ⟨false, Ev.step (f := fun _ => some false) (fun k => ?_) (Ev.now _), fun h => by cases h⟩
      simp only [funicularlaw05_light.l0]
      rw [if_pos (by omega), if_pos (by omega), rdL_get hlt, w64 (by omega) (by omega), if_pos (by omega)]
    · obtain ⟨b, hb, h2⟩ := light_l0 l hn hl n (i + 1) (by omega) (by omega)
      refine ⟨b, Ev.step (fun k => ?_) hb, h2⟩
      simp only [funicularlaw05_light.l0]
      rw [if_pos (by omega), if_pos (by omega), rdL_get hlt, w64 (x := (tot (l.take i) : Int) + (l[i].length : Int)) (by omega) (by omega), if_neg (by omega), w64 (by omega) (by omega), hs]
      rfl
theorem light_of (l : List (List Int)) (hl : ∀ r ∈ l, r.length ≤ 140737488351232) : ∃ b, Ev (fun k => funicularlaw05_light.f k l) b ∧ (b = true → l.length ≤ 60 ∧ tot l ≤ 600) := by
  by_cases hn : 60 < l.length
  · refine ⟨false, Ev.congr (fun k => ?_) (Ev.now false), fun h => by cases h⟩
    unfold funicularlaw05_light.f
    rw [if_pos (by omega)]
  · obtain ⟨b, hb, h2⟩ := light_l0 l (by omega) hl l.length 0 (by omega) (by simp [tot])
    refine ⟨b, Ev.congr (fun k => ?_) hb, fun h => ⟨by omega, h2 h⟩⟩
    unfold funicularlaw05_light.f
    rw [if_neg (by omega)]
    rfl

theorem same_refl (a : List Int) : funicularref02_Same.f a a = some true := by
  unfold funicularref02_Same.f
  simp

theorem works_of : Ev (fun k => funicularlaw05_works.f k) true := by
  have b12 : Byt [1, 2] := by intro c hc; simp at hc; omega
  have b0 : Byt [] := by intro c hc; cases hc
  have h1 := Put_of [] [1, 2] b12 (by simp)
  have h2 := Put_of (enc [1, 2]) [] b0 (by rw [enc_len]; simp)
  have hr : enc [1, 2] ++ enc [] = recs [[1, 2], []] := by simp [recs]
  have hrb : Byts [[1, 2], []] := by
    intro r hr
    simp only [List.mem_cons, List.mem_nil_iff, or_false] at hr
    rcases hr with rfl | rfl
    · exact b12
    · exact b0
  have hlen : (recs [[1, 2], []]).length = 18 := by rw [recs_len]; rfl
  have h3 := scan_of [[1, 2], []] [9] (byt_append (recs_byt hrb) (by intro c hc; simp at hc; omega)) (by rw [List.length_append, hlen]; simp) (.inl (by simp))
  unfold funicularlaw05_works.f
  refine Ev.bind h1 ?_
  refine Ev.bind h2 ?_
  rw [hr]
  refine Ev.yes (by rw [hlen]; omega) ?_
  refine Ev.bind h3 ?_
  refine Ev.yes (by rw [hlen]; rfl) ?_
  refine Ev.yes rfl ?_
  refine Ev.yes (by rw [hlen]; rfl) ?_
  refine Ev.yes (by decide) ?_
  refine Ev.bind (a := true) ⟨0, fun _ _ => same_refl [1, 2]⟩ ?_
  refine Ev.yes rfl ?_
  refine Ev.yes (by decide) ?_
  exact ⟨0, fun _ _ => rfl⟩

theorem wf_u8 {c : Int} (h : (Lit.int .u8 c).wf = true) : 0 ≤ c ∧ c < 256 := by
  have e1 : IntKind.u8.min = 0 := rfl
  have e2 : IntKind.u8.max = 255 := rfl
  simp [Lit.wf, e1, e2] at h
  omega
theorem wrap_u64 (n : Int) : IntKind.u64.wrap n = n % 18446744073709551616 := by simp [IntKind.wrap, IntKind.bits, IntKind.signed]
/-- 'int(uint64(x) % uint64(m))', m a small count: a number below m. -/
theorem some_place (x : Int) (m : Nat) (h0 : 0 < m) (h1 : m ≤ 1000000000) : ∃ c : Nat, c < m ∧ wrap64 (Int.tmod (IntKind.u64.wrap x) (IntKind.u64.wrap (m : Int))) = (c : Int) := by
  rw [wrap_u64, wrap_u64]
  have e : (m : Int) % 18446744073709551616 = (m : Int) := by omega
  have hx : 0 ≤ x % 18446744073709551616 := by omega
  rw [e, Int.tmod_eq_emod_of_nonneg hx]
  have h2 := Int.emod_nonneg (x % 18446744073709551616) (show (m : Int) ≠ 0 by omega)
  have h3 := Int.emod_lt_of_pos (x % 18446744073709551616) (show (0 : Int) < (m : Int) by omega)
  obtain ⟨c, hc⟩ := Int.eq_ofNat_of_zero_le h2
  refine ⟨c, by omega, ?_⟩
  rw [hc]
  exact w64 (by omega) (by omega)

theorem mem_tot {l : List (List Int)} {r : List Int} (h : r ∈ l) : r.length ≤ tot l := by
  induction l with
  | nil => cases h
  | cons q l ih =>
    simp only [tot]
    rcases List.mem_cons.1 h with rfl | h
    · omega
    · have := ih h
      omega
theorem tot_take (l : List (List Int)) (m : Nat) : tot (l.take m) ≤ tot l := by
  conv => rhs; rw [← List.take_append_drop m l]
  rw [tot_append]
  omega


/-! ### a byte that is turned -/
theorem xor_byte (b a : Int) (hb : 0 ≤ b ∧ b < 256) (ha : 0 ≤ a ∧ a < 256) (h0 : a ≠ 0) : 0 ≤ Go.bits .xor .u8 b a ∧ Go.bits .xor .u8 b a < 256 ∧ Go.bits .xor .u8 b a ≠ b := by
  have e : Go.bits .xor .u8 b a = ((BitVec.ofInt 8 b ^^^ BitVec.ofInt 8 a).toNat : Int) := by
    show IntKind.u8.wrap ((BitVec.ofInt 8 b ^^^ BitVec.ofInt 8 a).toNat : Int) = _
    rw [IntKind.wrap_u8]
    have := (BitVec.ofInt 8 b ^^^ BitVec.ofInt 8 a).isLt
    omega
  have hlt := (BitVec.ofInt 8 b ^^^ BitVec.ofInt 8 a).isLt
  rw [e]
  refine ⟨Int.natCast_nonneg _, by omega, fun h => h0 ?_⟩
  obtain ⟨x, rfl⟩ := Int.eq_ofNat_of_zero_le hb.1
  obtain ⟨y, rfl⟩ := Int.eq_ofNat_of_zero_le ha.1
  have h2 : BitVec.ofInt 8 (x : Int) ^^^ BitVec.ofInt 8 (y : Int) = BitVec.ofInt 8 (x : Int) := by
    apply BitVec.eq_of_toNat_eq
    have h3 := Int.ofNat.inj h
    rw [h3, BitVec.ofInt_natCast, BitVec.toNat_ofNat]
    omega
  have h4 : BitVec.ofInt 8 (y : Int) = 0#8 := by
    have := congrArg (BitVec.ofInt 8 (x : Int) ^^^ ·) h2
    simpa [← BitVec.xor_assoc] using this
  have h5 := congrArg BitVec.toNat h4
  rw [BitVec.ofInt_natCast, BitVec.toNat_ofNat] at h5
  simp at h5
  omega

theorem g4_set (l : List Int) (i : Nat) (b : Int) (hi : i < 4) (hl : 4 ≤ l.length) (hb : l.getD i 0 ≠ b) (hbb : 0 ≤ b ∧ b < 256) (hlb : Byt l) : g4 (l.set i b) ≠ g4 l := by
  have b0 : 0 ≤ rd l 0 ∧ rd l 0 < 256 := rd_byt hlb (i := 0) (by omega)
  have b1 : 0 ≤ rd l 1 ∧ rd l 1 < 256 := rd_byt hlb (i := 1) (by omega)
  have b2 : 0 ≤ rd l 2 ∧ rd l 2 < 256 := rd_byt hlb (i := 2) (by omega)
  have b3 : 0 ≤ rd l 3 ∧ rd l 3 < 256 := rd_byt hlb (i := 3) (by omega)
  match l, hl with
  | x0 :: x1 :: x2 :: x3 :: r, _ =>
    have c0 : rd (x0 :: x1 :: x2 :: x3 :: r) 0 = x0 := rfl
    have c1 : rd (x0 :: x1 :: x2 :: x3 :: r) 1 = x1 := rfl
    have c2 : rd (x0 :: x1 :: x2 :: x3 :: r) 2 = x2 := rfl
    have c3 : rd (x0 :: x1 :: x2 :: x3 :: r) 3 = x3 := rfl
    rw [c0] at b0; rw [c1] at b1; rw [c2] at b2; rw [c3] at b3
    have hi4 : i = 0 ∨ i = 1 ∨ i = 2 ∨ i = 3 := by omega
    rcases hi4 with rfl | rfl | rfl | rfl
    · have hb' : x0 ≠ b := hb
      show b + 256 * x1 + 65536 * x2 + 16777216 * x3 ≠ x0 + 256 * x1 + 65536 * x2 + 16777216 * x3
      omega
    · have hb' : x1 ≠ b := hb
      show x0 + 256 * b + 65536 * x2 + 16777216 * x3 ≠ x0 + 256 * x1 + 65536 * x2 + 16777216 * x3
      omega
    · have hb' : x2 ≠ b := hb
      show x0 + 256 * x1 + 65536 * b + 16777216 * x3 ≠ x0 + 256 * x1 + 65536 * x2 + 16777216 * x3
      omega
    · have hb' : x3 ≠ b := hb
      show x0 + 256 * x1 + 65536 * x2 + 16777216 * b ≠ x0 + 256 * x1 + 65536 * x2 + 16777216 * x3
      omega

theorem set_split {l : List Int} {i : Nat} (h : i < l.length) (b : Int) : l = l.take i ++ l.getD i 0 :: l.drop (i + 1) ∧ l.set i b = l.take i ++ b :: l.drop (i + 1) := by
  have e : l.getD i 0 = l[i] := by rw [List.getD_eq_getElem?_getD, List.getElem?_eq_getElem h]; rfl
  constructor
  · rw [e, ← List.drop_eq_getElem_cons h, List.take_append_drop]
  · exact List.set_eq_take_append_cons_drop .. |>.trans (by rw [if_pos h])

/-- A record of which a byte behind its length is turned, with whatever behind, begins with no record. -/
theorem flip_stuck (r t : List Int) (p : Nat) (b : Int) (hr : Byt r) (ht : Byt t) (hl : r.length < 1000000) (hp : p < 4 + r.length) (hb : 0 ≤ b ∧ b < 256) (hne : (le4 (i32 (sumOf r)) ++ r).getD p 0 ≠ b) :
    stuck (le4 r.length ++ ((le4 (i32 (sumOf r)) ++ r).set p b ++ t)) := by
  have hg : g4 (le4 r.length ++ ((le4 (i32 (sumOf r)) ++ r).set p b ++ t)) = (r.length : Int) := g4_le4 _ _ (by omega) (by omega)
  have d4 : (le4 r.length ++ ((le4 (i32 (sumOf r)) ++ r).set p b ++ t)).drop 4 = (le4 (i32 (sumOf r)) ++ r).set p b ++ t := by
    rw [List.drop_append_of_le_length (by simp [le4_len]), List.drop_eq_nil_of_le (by simp [le4_len]), List.nil_append]
  have t4 : (le4 r.length ++ ((le4 (i32 (sumOf r)) ++ r).set p b ++ t)).take 4 = le4 r.length := by
    rw [List.take_append_of_le_length (by simp [le4_len]), List.take_of_length_le (by simp [le4_len])]
  refine .inr (.inr ?_)
  rw [d4]
  have d8 : (le4 r.length ++ ((le4 (i32 (sumOf r)) ++ r).set p b ++ t)).drop 8 = ((le4 (i32 (sumOf r)) ++ r).set p b ++ t).drop 4 := by
    rw [show 8 = 4 + 4 by rfl, ← List.drop_drop, d4]
  unfold sumAt body
  rw [t4, d8, hg, Int.toNat_natCast]
  by_cases h4 : p < 4
  · have e : (le4 (i32 (sumOf r)) ++ r).set p b = (le4 (i32 (sumOf r))).set p b ++ r := by rw [List.set_append_left _ _ (by rw [le4_len]; exact h4)]
    rw [e]
    have hsl : ((le4 (i32 (sumOf r))).set p b).length = 4 := by rw [List.length_set, le4_len]
    have e2 : (((le4 (i32 (sumOf r))).set p b ++ r ++ t).drop 4).take r.length = r := by
      rw [List.append_assoc, List.drop_append_of_le_length (by omega), List.drop_eq_nil_of_le (by omega), List.nil_append, List.take_left]
    rw [e2]
    have e3 : (le4 (i32 (sumOf r)) ++ (r ++ t)).set p b = (le4 (i32 (sumOf r))).set p b ++ r ++ t := by rw [List.set_append_left _ _ (by rw [le4_len]; exact h4), List.append_assoc]
    rw [← e3]
    have hg3 : g4 (le4 (i32 (sumOf r)) ++ (r ++ t)) = i32 (sumOf r) := g4_le4 _ _ (i32_nonneg _) (i32_lt _)
    have hn : (le4 (i32 (sumOf r)) ++ (r ++ t)).getD p 0 ≠ b := by
      rw [List.getD_eq_getElem?_getD, List.getElem?_append_left (by rw [le4_len]; exact h4)]
      rw [List.getD_eq_getElem?_getD, List.getElem?_append_left (by rw [le4_len]; exact h4)] at hne
      exact hne
    have := g4_set _ p b h4 (by rw [List.length_append, le4_len]; omega) hn hb (byt_append (le4_byt _) (byt_append hr ht))
    rw [hg3] at this
    exact this
  · have e : (le4 (i32 (sumOf r)) ++ r).set p b = le4 (i32 (sumOf r)) ++ r.set (p - 4) b := by rw [List.set_append_right _ _ (by rw [le4_len]; omega), le4_len]
    rw [e, List.append_assoc, g4_le4 _ _ (i32_nonneg _) (i32_lt _)]
    have e2 : ((le4 (i32 (sumOf r)) ++ (r.set (p - 4) b ++ t)).drop 4).take r.length = r.set (p - 4) b := by
      rw [List.drop_append_of_le_length (by simp [le4_len]), List.drop_eq_nil_of_le (by simp [le4_len]), List.nil_append]
      have : r.length = (r.set (p - 4) b).length := by rw [List.length_set]
      rw [this, List.take_left]
    rw [e2]
    have hp2 : p - 4 < r.length := by omega
    obtain ⟨s1, s2⟩ := set_split hp2 b
    have hn : r.getD (p - 4) 0 ≠ b := by
      rw [List.getD_eq_getElem?_getD, List.getElem?_append_right (by rw [le4_len]; omega), le4_len] at hne
      rw [List.getD_eq_getElem?_getD]
      exact hne
    have hrb : 0 ≤ r.getD (p - 4) 0 ∧ r.getD (p - 4) 0 < 256 := by
      rw [List.getD_eq_getElem?_getD, List.getElem?_eq_getElem hp2]
      exact hr _ (List.getElem_mem hp2)
    intro h
    apply hn
    have h2 := i32_inj h
    unfold sumOf at h2
    rw [s2] at h2
    have h3 : crcU 0#32 ((le4 r.length ++ r.take (p - 4)) ++ r.getD (p - 4) 0 :: r.drop (p - 4 + 1)) = crcU 0#32 ((le4 r.length ++ r.take (p - 4)) ++ b :: r.drop (p - 4 + 1)) := by
      rw [List.append_assoc, ← s1, List.append_assoc]
      exact h2
    exact crcU_byte 0#32 _ _ (by omega) (by omega) (by omega) (by omega) h3

/-- A BYTE THAT IS TURNED is never scanned as part of a record. -/
theorem FrameFlips : funicularlaw05_FrameFlips.Pure := by
  intro l0 a1 a2 a3 hl _ _ hw3
  have hb : Byts l0 := fun r hr c hc => wf_u8 ((hl.2 r hr).2 c hc)
  have ha3 := wf_u8 hw3
  obtain ⟨b, hb1, hb2⟩ := light_of l0 (fun r hr => by have := (hl.2 r hr).1; omega)
  refine Ev.rounds (?_ : Ev (fun k => funicularlaw05_FrameFlips.f k l0 a1 a2 a3) true)
  have hyes : Ev (fun k => funicularlaw05_FrameFlips.j0 k l0 a1 a2 a3 true) true :=
    Ev.step (f := fun k => (funicularlaw05_works.f k).bind fun t => some t) (fun k => by simp only [funicularlaw05_FrameFlips.j0]; rw [if_pos trivial]) (Ev.bind works_of (Ev.now _))
  unfold funicularlaw05_FrameFlips.f
  refine Ev.bind hb1 ?_
  cases b with
  | false => exact Ev.no (by simp) hyes
  | true =>
    refine Ev.yes rfl ?_
    obtain ⟨hn, ht⟩ := hb2 rfl
    by_cases h0 : (l0.length : Int) = 0
    · exact Ev.yes h0 hyes
    · refine Ev.no h0 ?_
      by_cases hz : a3 = 0
      · rw [hz] at hyes ⊢
        exact hyes
      · have hzb : (a3 == 0) = false := beq_eq_false_iff_ne.2 hz
        rw [hzb]
        have hlen := recs_len l0
        obtain ⟨w, hw1, hw2⟩ := some_place a1 l0.length (by omega) (by omega)
        have hwr : l0.getD w [] = l0[w] := by rw [List.getD_eq_getElem?_getD, List.getElem?_eq_getElem hw1]; rfl
        obtain ⟨r, hr⟩ : ∃ r, r = l0[w] := ⟨_, rfl⟩
        have hrm : r ∈ l0 := by rw [hr]; exact List.getElem_mem hw1
        have hrt := mem_tot hrm
        have hrb := hb r hrm
        have hsplit : l0 = l0.take w ++ r :: l0.drop (w + 1) := by rw [hr, ← List.drop_eq_getElem_cons hw1, List.take_append_drop]
        have hrecs : recs l0 = recs (l0.take w) ++ (enc r ++ recs (l0.drop (w + 1))) := by
          conv => lhs; rw [hsplit]
          rw [recs_append, recs_cons]
        obtain ⟨c, hc1, hc2⟩ := some_place a2 (4 + r.length) (by omega) (by omega)
        have hw4 : wrap64 (4 + (r.length : Int)) = ((4 + r.length : Nat) : Int) := by rw [w64 (by omega) (by omega)]; rfl
        have htt := tot_take l0 w
        have hll : (recs l0).length = (recs (l0.take w)).length + (8 + r.length + (recs (l0.drop (w + 1))).length) := by rw [hrecs, List.length_append, List.length_append, enc_len]
        have hrd : rd_L1 l0 (w : Int) = r := by rw [rdL_get hw1, hr]
        have hk0 : wrap64 (wrap64 (((recs (l0.take w)).length : Int) + 4) + (c : Int)) = (((recs (l0.take w)).length + (4 + c) : Nat) : Int) := by
          rw [w64 (x := ((recs (l0.take w)).length : Int) + 4) (by omega) (by omega), w64 (by omega) (by omega)]
          omega
        have hk := Aside0.mk hk0
        have hw2 := Aside0.mk hw2
        have hc2 := Aside0.mk hc2
        have hw4 := Aside0.mk hw4
        clear hk0
        have hwt := written_of (l0.take w) (fun r hr => hb r (List.mem_of_mem_take hr)) (by rw [List.length_take]; omega) (by omega)
        have hwa := written_of l0 hb (by omega) (by omega)
        have hwl : (l0.take w).length = w := by rw [List.length_take]; omega
        -- the byte that is turned
        have hin : (recs (l0.take w)).length + (4 + c) < (recs l0).length := by omega
        obtain ⟨x, hx0⟩ : ∃ x, x = rd (recs l0) (((recs (l0.take w)).length + (4 + c) : Nat) : Int) := ⟨_, rfl⟩
        have hxb : 0 ≤ x ∧ x < 256 := by rw [hx0]; exact rd_byt (recs_byt hb) hin
        have hx := Aside0.mk hx0
        clear hx0
        obtain ⟨y, hy0⟩ : ∃ y, y = Go.bits .xor .u8 x a3 := ⟨_, rfl⟩
        have hxy := xor_byte x a3 hxb ha3 hz
        rw [← hy0] at hxy
        have hy := Aside0.mk hy0
        clear hy0
        have henc : enc r ++ recs (l0.drop (w + 1)) = le4 r.length ++ ((le4 (i32 (sumOf r)) ++ r) ++ recs (l0.drop (w + 1))) := by simp only [enc, List.append_assoc]
        have hset : (recs l0).set ((recs (l0.take w)).length + (4 + c)) y = recs (l0.take w) ++ (le4 r.length ++ ((le4 (i32 (sumOf r)) ++ r).set c y ++ recs (l0.drop (w + 1)))) := by
          rw [hrecs, List.set_append_right _ _ (by omega), henc, List.set_append_right _ _ (by rw [le4_len]; omega), List.set_append_left _ _ (by rw [List.length_append, le4_len, le4_len]; omega), le4_len]
          congr 4
          omega
        have hxg : (le4 (i32 (sumOf r)) ++ r).getD c 0 = x := by
          rw [hx.out, rd_get hin]
          have hg : (recs l0)[(recs (l0.take w)).length + (4 + c)]? = some (recs l0)[(recs (l0.take w)).length + (4 + c)] := List.getElem?_eq_getElem hin
          obtain ⟨z, hzz⟩ : ∃ z, z = (recs l0)[(recs (l0.take w)).length + (4 + c)]'hin := ⟨_, rfl⟩
          rw [← hzz] at hg ⊢
          rw [hrecs, henc, List.getElem?_append_right (by omega), List.getElem?_append_right (by rw [le4_len]; omega), List.getElem?_append_left (by rw [List.length_append, le4_len, le4_len]; omega), le4_len] at hg
          rw [List.getD_eq_getElem?_getD, show c = (recs (l0.take w)).length + (4 + c) - (recs (l0.take w)).length - 4 by omega, hg]
          rfl
        have hst := flip_stuck r (recs (l0.drop (w + 1))) c y hrb (recs_byt (fun r hr => hb r (List.mem_of_mem_drop hr))) (by omega) hc1 ⟨hxy.1, hxy.2.1⟩ (by rw [hxg]; exact fun h => hxy.2.2 h.symm)
        have hbs : Byt ((recs l0).set ((recs (l0.take w)).length + (4 + c)) y) := by
          intro q hq
          rcases List.mem_or_eq_of_mem_set hq with h | rfl
          · exact recs_byt hb q h
          · exact ⟨hxy.1, hxy.2.1⟩
        have hscan := scan_of (l0.take w) _ (by rw [← hset]; exact hbs) (by rw [← hset, List.length_set]; omega) hst
        rw [← hset] at hscan
        refine Ev.step (f := fun k => (funicularlaw05_written.f k (l0.take w)).bind fun t189 => (funicularlaw05_written.f k l0).bind fun t192 => if (t192.length : Int) ≤ (wrap64 (wrap64 ((t189.length : Int) + 4) + (c : Int))) then some false else
          if ([] : List Int).length + t192.length < 140737488355328 then (if 0 ≤ (wrap64 (wrap64 ((t189.length : Int) + 4) + (c : Int))) then (if (wrap64 (wrap64 ((t189.length : Int) + 4) + (c : Int))) < (([] ++ t192 : List Int).length : Int) then
            (frame_Scan.f k (([] ++ t192 : List Int).set (wrap64 (wrap64 ((t189.length : Int) + 4) + (c : Int))).toNat (Go.bits .xor .u8 (rd ([] ++ t192) (wrap64 (wrap64 ((t189.length : Int) + 4) + (c : Int)))) a3))).bind fun bt => if bt.2 = (t189.length : Int) then (funicularref05_SameAll.f k bt.1 (l0.take w)).bind fun t209 => (if t209 = true then (funicularlaw05_works.f k).bind fun t210 => some t210 else some false) else some false
            else none) else none) else none) (fun k => ?_) ?_
        · simp only [funicularlaw05_FrameFlips.j0]
          rw [if_neg (by simp), hw2.out, if_neg (by rw [wrap_u64]; omega), if_pos (by omega), if_pos (by omega), Int.toNat_natCast, Option.bind_some]
          congr 1
          funext t189
          congr 1
          funext t192
          rw [if_pos (by omega), hrd, hw4.out, hc2.out, if_neg (by rw [wrap_u64]; omega), Option.bind_some]
        · refine Ev.bind hwt ?_
          refine Ev.bind hwa ?_
          rw [hk.out]
          refine Ev.no (by omega) ?_
          refine Ev.yes (by simp only [List.length_nil]; omega) ?_
          rw [List.nil_append]
          refine Ev.yes (by omega) ?_
          refine Ev.yes (by omega) ?_
          rw [Int.toNat_natCast, ← hx.out, ← hy.out]
          refine Ev.bind hscan ?_
          refine Ev.yes rfl ?_
          refine Ev.bind (same_all (l0.take w) (by omega)) ?_
          exact Ev.yes rfl (Ev.bind works_of (Ev.now _))

end Go.Proofs.Ytjjdbakmhdjakaa.Pure
