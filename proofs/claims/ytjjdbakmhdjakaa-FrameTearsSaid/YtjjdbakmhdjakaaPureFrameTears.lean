/- The plain law FrameTears: what the printed functions of the program and of the statement compute answers true, at every input within the row's own bounds. -/
import Derived.Test.YtjjdbakmhdjakaaXFrameTearsx3
import Derived.Test.YtjjdbakmhdjakaaXCrc
set_option linter.unusedVariables false
set_option linter.unusedSimpArgs false
namespace Go.Proofs.Ytjjdbakmhdjakaa.Pure
open Go.RowKit Go.Proofs.Ytjjdbakmhdjakaa.XFrameTears Go.Proofs.YtjjdbakmhdjakaaX Go.Proofs.YtjjdbakmhdjakaaW.PrintWords Go.Proofs.YtjjdbakmhdjakaaW.PrintLast

abbrev Byt (l : List Int) : Prop := ∀ c ∈ l, 0 ≤ c ∧ c < 256

theorem w64 {x : Int} (h0 : -9223372036854775808 ≤ x) (h1 : x ≤ 9223372036854775807) : wrap64 x = x := by
  unfold wrap64
  omega
theorem rd_get {l : List Int} {i : Nat} (h : i < l.length) : rd l (i : Int) = l[i] := by
  unfold rd
  rw [Int.toNat_natCast, List.getD_eq_getElem?_getD, List.getElem?_eq_getElem h]
  rfl

/-! ### the sum -/
theorem upd_l1 (x10 : List Int) (x11 x12 : Int) (r : Int) : ∀ (n : Nat) (j : Int) (s : BitVec 32), j + n = 8 → 0 ≤ j →
    Ev (fun k => crc_Update.l0 k (i32 (rnds n s)) x10 x11 (wrap64 (x12 + 1))) r → Ev (fun k => crc_Update.l1 k (i32 s) x10 x11 x12 j) r
  | 0, j, s, hj, h0, h => Ev.step (fun k => by
      simp only [crc_Update.l1]
      rw [if_neg (by omega)]
      rfl) h
  | n + 1, j, s, hj, h0, h => by
    have ih := upd_l1 x10 x11 x12 r n (j + 1) (rnd s) (by omega) (by omega) h
    refine Ev.step (fun k => ?_) ih
    simp only [crc_Update.l1]
    rw [if_pos (by omega), w64 (by omega) (by omega)]
    have hb : Go.bits .and .u32 (i32 s) 1 = i32 (s &&& 1#32) := bits_and s 1#32
    by_cases hc : s &&& 1#32 = 1#32
    · have hx : Go.bits .xor .u32 (i32 (s >>> 1)) 3988292384 = i32 ((s >>> 1) ^^^ 3988292384#32) := bits_xor (s >>> 1) 3988292384#32
      rw [if_pos (by rw [hb, hc]; rfl), i32_half, hx]
      unfold rnd
      rw [if_pos hc]
    · rw [if_neg (by rw [hb]; exact fun h => hc (i32_inj (b := 1#32) h)), i32_half]
      unfold rnd
      rw [if_neg hc]

theorem upd_l0 (l : List Int) (hb : Byt l) (hl : l.length ≤ 140737488355328) : ∀ (n i : Nat) (s : BitVec 32), i + n = l.length →
    Ev (fun k => crc_Update.l0 k (i32 s) l (l.length : Int) (i : Int)) (i32 (~~~ (upd s (l.drop i))))
  | 0, i, s, hi => by
    have hd : l.drop i = [] := List.drop_eq_nil_of_le (by omega)
    refine Ev.step (f := fun _ => some (i32 (~~~ (upd s (l.drop i))))) (fun k => ?_) (Ev.now _)
    simp only [crc_Update.l0]
    rw [if_neg (by omega), hd]
    have hx : Go.bits .xor .u32 4294967295 (i32 s) = i32 (4294967295#32 ^^^ s) := bits_xor 4294967295#32 s
    rw [hx]
    congr 2
  | n + 1, i, s, hi => by
    have hlt : i < l.length := by omega
    have ih := upd_l0 l hb hl n (i + 1) (byte8 s l[i]) (by omega)
    have hd : l.drop i = l[i] :: l.drop (i + 1) := List.drop_eq_getElem_cons hlt
    have hbi := hb l[i] (List.getElem_mem hlt)
    rw [hd]
    have h1 := upd_l1 l (l.length : Int) (i : Int) (i32 (~~~ (upd s (l[i] :: l.drop (i + 1))))) 8 0 (s ^^^ BitVec.ofInt 32 l[i]) (by omega) (by omega) (by
      rw [w64 (by omega) (by omega)]
      exact ih)
    refine Ev.step (fun k => ?_) h1
    simp only [crc_Update.l0]
    rw [if_pos (by omega), if_pos (by omega), if_pos (by omega), rd_get hlt]
    have hm : l[i] % 4294967296 = i32 (BitVec.ofInt 32 l[i]) := by
      rw [i32_ofInt _ (by omega) (by omega)]
      omega
    rw [hm, bits_xor]

theorem crc_up (s : BitVec 32) (l : List Int) (hb : Byt l) (hl : l.length ≤ 140737488355328) : Ev (fun k => crc_Update.f k (i32 s) l) (i32 (crcU s l)) := by
  have h := upd_l0 l hb hl l.length 0 (~~~ s) (by omega)
  refine Ev.congr (fun k => ?_) h
  unfold crc_Update.f
  have hx : Go.bits .xor .u32 4294967295 (i32 s) = i32 (4294967295#32 ^^^ s) := bits_xor 4294967295#32 s
  rw [hx]
  congr 2
theorem crc_su (l : List Int) (hb : Byt l) (hl : l.length ≤ 140737488355328) : Ev (fun k => crc_Sum.f k l) (i32 (crcU 0#32 l)) := by
  have h := crc_up 0#32 l hb hl
  exact Ev.bind (f := fun _ t => some t) h (Ev.now _)

/-! ### four bytes -/
theorem or_add (i : Nat) (a b : Nat) (ha : a < 2 ^ i) (hl : a + b * 2 ^ i < 4294967296) : Go.bits .or .u32 (a : Int) ((b * 2 ^ i : Nat) : Int) = ((a + b * 2 ^ i : Nat) : Int) := by
  have h1 : a < 2 ^ 32 := by omega
  have h2 : b * 2 ^ i < 2 ^ 32 := by omega
  have h := (bits_nat .u32 32 (by decide) (fun n h0 h1 => by rw [IntKind.wrap_u32]; omega) a (b * 2 ^ i) h1 h2).2
  rw [h]
  congr 1
  rw [Nat.or_comm, Nat.mul_comm b, ← Nat.two_pow_add_eq_or_of_lt ha b]
  omega

/-- The number that four bytes are. -/
def g4 (l : List Int) : Int := rd l 0 + 256 * rd l 1 + 65536 * rd l 2 + 16777216 * rd l 3

theorem rd_byt {l : List Int} (hb : Byt l) {i : Nat} (h : i < l.length) : 0 ≤ rd l (i : Int) ∧ rd l (i : Int) < 256 := by
  rw [rd_get h]
  exact hb _ (List.getElem_mem h)

theorem get_of (l : List Int) (hb : Byt l) (h : 4 ≤ l.length) : frame_get.f l = some (g4 l) := by
  have b0 : 0 ≤ rd l 0 ∧ rd l 0 < 256 := rd_byt hb (i := 0) (by omega)
  have b1 : 0 ≤ rd l 1 ∧ rd l 1 < 256 := rd_byt hb (i := 1) (by omega)
  have b2 : 0 ≤ rd l 2 ∧ rd l 2 < 256 := rd_byt hb (i := 2) (by omega)
  have b3 : 0 ≤ rd l 3 ∧ rd l 3 < 256 := rd_byt hb (i := 3) (by omega)
  unfold frame_get.f g4
  rw [if_pos (by omega), if_pos (by omega), if_pos (by omega), if_pos (by omega)]
  obtain ⟨x0, e0⟩ := Int.eq_ofNat_of_zero_le b0.1
  obtain ⟨x1, e1⟩ := Int.eq_ofNat_of_zero_le b1.1
  obtain ⟨x2, e2⟩ := Int.eq_ofNat_of_zero_le b2.1
  obtain ⟨x3, e3⟩ := Int.eq_ofNat_of_zero_le b3.1
  rw [e0, e1, e2, e3]
  have c0 : ((x0 : Int)) % 4294967296 = (x0 : Int) := by omega
  have c1 : (((x1 : Int)) % 4294967296 * 256) % 4294967296 = ((x1 * 2 ^ 8 : Nat) : Int) := by omega
  have c2 : (((x2 : Int)) % 4294967296 * 65536) % 4294967296 = ((x2 * 2 ^ 16 : Nat) : Int) := by omega
  have c3 : (((x3 : Int)) % 4294967296 * 16777216) % 4294967296 = ((x3 * 2 ^ 24 : Nat) : Int) := by omega
  rw [c0, c1, c2, c3, or_add 8 x0 x1 (by omega) (by omega), or_add 16 (x0 + x1 * 2 ^ 8) x2 (by omega) (by omega), or_add 24 (x0 + x1 * 2 ^ 8 + x2 * 2 ^ 16) x3 (by omega) (by omega)]
  congr 1
  omega

/-- A number as four bytes. -/
def le4 (n : Int) : List Int := [n % 256, n / 256 % 256, n / 65536 % 256, n / 16777216 % 256]
theorem le4_len (n : Int) : (le4 n).length = 4 := rfl
theorem le4_byt (n : Int) : Byt (le4 n) := by
  intro c hc
  simp only [le4, List.mem_cons, List.mem_nil_iff, or_false] at hc
  rcases hc with rfl | rfl | rfl | rfl <;> omega
theorem g4_le4 (n : Int) (r : List Int) (h0 : 0 ≤ n) (h1 : n < 4294967296) : g4 (le4 n ++ r) = n := by
  show n % 256 + 256 * (n / 256 % 256) + 65536 * (n / 65536 % 256) + 16777216 * (n / 16777216 % 256) = n
  omega
theorem put_of (l : List Int) (a : Int) (h : l.length + 4 < 140737488355328) : frame_put.f l a = some (l ++ le4 a) := by
  unfold frame_put.f
  simp only [Option.bind_some]
  rw [if_pos (by simpa using h)]
  rfl

/-! ### a record's bytes -/
def sumOf (r : List Int) : BitVec 32 := crcU 0#32 (le4 r.length ++ r)
def enc (r : List Int) : List Int := le4 r.length ++ (le4 (i32 (sumOf r)) ++ r)
theorem enc_len (r : List Int) : (enc r).length = 8 + r.length := by
  simp only [enc, List.length_append, le4_len]
  omega
theorem byt_append {a b : List Int} (ha : Byt a) (hb : Byt b) : Byt (a ++ b) := by
  intro c hc
  rcases List.mem_append.1 hc with h | h
  · exact ha c h
  · exact hb c h
theorem enc_byt {r : List Int} (h : Byt r) : Byt (enc r) := byt_append (le4_byt _) (byt_append (le4_byt _) h)

theorem Put_of (b r : List Int) (hr : Byt r) (hl : b.length + r.length ≤ 1000000) : Ev (fun k => frame_Put.f k b r) (b ++ enc r) := by
  have hn : ((r.length : Int)) % 4294967296 = (r.length : Int) := by omega
  have hs := crc_su (le4 r.length) (le4_byt _) (by rw [le4_len]; omega)
  have hu := crc_up (crcU 0#32 (le4 r.length)) r hr (by omega)
  rw [← crcU_append] at hu
  unfold frame_Put.f
  rw [hn, put_of [] _ (by simp)]
  simp only [Option.bind_some, List.nil_append]
  refine Ev.yes (by rw [le4_len]; omega) ?_
  refine Ev.bind hs ?_
  refine Ev.bind hu ?_
  rw [put_of _ _ (by simp only [List.length_append, le4_len]; omega)]
  refine Ev.some_bind (f := fun _ t149 => if t149.length + r.length < 140737488355328 then some (t149 ++ r) else none) ?_
  have hlim : (b ++ le4 (r.length : Int) ++ le4 (i32 (crcU 0#32 (le4 (r.length : Int) ++ r)))).length + r.length < 140737488355328 := by
    simp only [List.length_append, le4_len]
    omega
  refine Ev.yes hlim ?_
  have e : b ++ le4 (r.length : Int) ++ le4 (i32 (crcU 0#32 (le4 (r.length : Int) ++ r))) ++ r = b ++ enc r := by
    simp only [enc, sumOf, List.append_assoc]
  rw [e]
  exact Ev.now _

/-! ### records, one behind the other -/
def recs (l : List (List Int)) : List Int := l.flatMap enc
theorem recs_nil : recs [] = [] := rfl
theorem recs_cons (r : List Int) (l : List (List Int)) : recs (r :: l) = enc r ++ recs l := rfl
theorem recs_append (a b : List (List Int)) : recs (a ++ b) = recs a ++ recs b := List.flatMap_append ..
def tot : List (List Int) → Nat
  | [] => 0
  | r :: l => r.length + tot l
theorem tot_append (a b : List (List Int)) : tot (a ++ b) = tot a + tot b := by
  induction a with
  | nil => simp [tot]
  | cons r l ih => simp only [List.cons_append, tot, ih]; omega
theorem recs_len (l : List (List Int)) : (recs l).length = 8 * l.length + tot l := by
  induction l with
  | nil => rfl
  | cons r l ih =>
    rw [recs_cons, List.length_append, ih, enc_len]
    simp only [tot, List.length_cons]
    omega
abbrev Byts (l : List (List Int)) : Prop := ∀ r ∈ l, Byt r
theorem recs_byt {l : List (List Int)} (h : Byts l) : Byt (recs l) := by
  intro c hc
  obtain ⟨r, hr, hcr⟩ := List.mem_flatMap.1 hc
  exact enc_byt (h r hr) c hcr
theorem rdL_get {l : List (List Int)} {i : Nat} (h : i < l.length) : rd_L1 l (i : Int) = l[i] := by
  unfold rd_L1
  rw [Int.toNat_natCast, List.getD_eq_getElem?_getD, List.getElem?_eq_getElem h]
  rfl

theorem written_l0 (l : List (List Int)) (hb : Byts l) (hn : l.length ≤ 100) (ht : tot l ≤ 1000) : ∀ (n i : Nat), i + n = l.length →
    Ev (fun k => funicularlaw05_written.l0 k l (recs (l.take i)) (i : Int)) (recs l)
  | 0, i, hi => by
    have hd : l.take i = l := List.take_of_length_le (by omega)
    rw [hd]
    refine Ev.step (f := fun _ => some (recs l)) (fun k => ?_) (Ev.now _)
    simp only [funicularlaw05_written.l0]
    rw [if_neg (by omega)]
  | n + 1, i, hi => by
    have hlt : i < l.length := by omega
    have ih := written_l0 l hb hn ht n (i + 1) (by omega)
    have hs : l.take (i + 1) = l.take i ++ [l[i]] := List.take_succ_eq_append_getElem hlt
    have htl : tot (l.take i) + (l[i].length + tot (l.drop (i + 1))) = tot l := by
      have : l = l.take i ++ l[i] :: l.drop (i + 1) := by rw [← List.drop_eq_getElem_cons hlt, List.take_append_drop]
      conv => rhs; rw [this]
      rw [tot_append]
      rfl
    have hp := Put_of (recs (l.take i)) l[i] (hb _ (List.getElem_mem hlt)) (by
      rw [recs_len, List.length_take]
      omega)
    have he : recs (l.take i) ++ enc l[i] = recs (l.take (i + 1)) := by
      rw [hs, recs_append, recs_cons, recs_nil, List.append_nil]
    rw [he] at hp
    refine Ev.step (f := fun k => (frame_Put.f k (recs (l.take i)) (rd_L1 l (i : Int))).bind fun t => funicularlaw05_written.l0 k l t (wrap64 ((i : Int) + 1))) (fun k => ?_) ?_
    · simp only [funicularlaw05_written.l0]
      rw [if_pos (by omega), if_pos (by omega)]
    · rw [rdL_get hlt]
      refine Ev.bind hp ?_
      rw [w64 (by omega) (by omega)]
      exact ih
theorem written_of (l : List (List Int)) (hb : Byts l) (hn : l.length ≤ 100) (ht : tot l ≤ 1000) : Ev (fun k => funicularlaw05_written.f k l) (recs l) :=
  written_l0 l hb hn ht l.length 0 (by omega)

/-! ### scanning -/
theorem g4_bd {l : List Int} (hb : Byt l) (h : 4 ≤ l.length) : 0 ≤ g4 l ∧ g4 l < 4294967296 := by
  have b0 : 0 ≤ rd l 0 ∧ rd l 0 < 256 := rd_byt hb (i := 0) (by omega)
  have b1 : 0 ≤ rd l 1 ∧ rd l 1 < 256 := rd_byt hb (i := 1) (by omega)
  have b2 : 0 ≤ rd l 2 ∧ rd l 2 < 256 := rd_byt hb (i := 2) (by omega)
  have b3 : 0 ≤ rd l 3 ∧ rd l 3 < 256 := rd_byt hb (i := 3) (by omega)
  unfold g4
  omega
/-- The record that a row begins with, as far as its length tells. -/
def body (u : List Int) : List Int := (u.drop 8).take (g4 u).toNat
/-- The sum that a row's first record has. -/
def sumAt (u : List Int) : BitVec 32 := crcU 0#32 (u.take 4 ++ body u)
theorem byt_drop {l : List Int} (hb : Byt l) (n : Nat) : Byt (l.drop n) := fun c hc => hb c (List.mem_of_mem_drop hc)
theorem byt_take {l : List Int} (hb : Byt l) (n : Nat) : Byt (l.take n) := fun c hc => hb c (List.mem_of_mem_take hc)

/-- Nothing whole is at the beginning. -/
def stuck (u : List Int) : Prop := u.length < 8 ∨ (u.length : Int) - 8 < g4 u ∨ g4 (u.drop 4) ≠ i32 (sumAt u)

theorem scan_stop (x0 : List Int) (out : List (List Int)) (at_ : Nat) (hb : Byt x0) (hx : x0.length ≤ 1000000) (ha : at_ ≤ x0.length) (h : stuck (x0.drop at_)) :
    Ev (fun k => frame_Scan.l0 k x0 out (at_ : Int)) (out, (at_ : Int)) := by
  have hul : (x0.drop at_).length = x0.length - at_ := List.length_drop
  by_cases h8 : (x0.drop at_).length < 8
  · refine Ev.step (f := fun _ => some (out, (at_ : Int))) (fun k => ?_) (Ev.now _)
    simp only [frame_Scan.l0]
    rw [w64 (by omega) (by omega), if_pos (by omega)]
  · have hbu := byt_drop hb at_
    have hg := get_of (x0.drop at_) hbu (by omega)
    obtain ⟨n, hn⟩ := Int.eq_ofNat_of_zero_le (g4_bd hbu (by omega)).1
    have hn2 := (g4_bd hbu (by omega)).2
    rw [hn] at hg hn2
    by_cases h9 : ((x0.drop at_).length : Int) - 8 < (n : Int)
    · refine Ev.step (f := fun _ => some (out, (at_ : Int))) (fun k => ?_) (Ev.now _)
      simp only [frame_Scan.l0]
      rw [w64 (x := (x0.length : Int) - (at_ : Int)) (by omega) (by omega), if_neg (by omega), if_pos (by omega), if_pos (by omega), Int.toNat_natCast, hg, Option.bind_some, w64 (x := (n : Int)) (by omega) (by omega), w64 (by omega) (by omega), if_pos (by omega)]
    · have hs : g4 ((x0.drop at_).drop 4) ≠ i32 (sumAt (x0.drop at_)) := by
        rcases h with h | h | h
        · exact absurd h h8
        · rw [hn] at h; exact absurd h h9
        · exact h
      have hbody : (x0.take ((at_ : Int) + 8 + (n : Int)).toNat).drop ((at_ : Int) + 8).toNat = body (x0.drop at_) := by
        rw [show ((at_ : Int) + 8 + (n : Int)).toNat = at_ + 8 + n by omega, show ((at_ : Int) + 8).toNat = at_ + 8 by omega, List.drop_take, body, hn, Int.toNat_natCast, List.drop_drop]
        congr 1
        omega
      have hhead : (x0.take ((at_ : Int) + 4).toNat).drop at_ = (x0.drop at_).take 4 := by
        rw [show ((at_ : Int) + 4).toNat = at_ + 4 by omega, List.drop_take]
        congr 1
        omega
      have hg2 := get_of (x0.drop ((at_ : Int) + 4).toNat) (byt_drop hb _) (by rw [List.length_drop]; omega)
      rw [show ((at_ : Int) + 4).toNat = at_ + 4 by omega, ← List.drop_drop] at hg2
      have hsu := crc_su ((x0.drop at_).take 4) (byt_take hbu 4) (by rw [List.length_take]; omega)
      have hup := crc_up (crcU 0#32 ((x0.drop at_).take 4)) (body (x0.drop at_)) (byt_take (byt_drop hbu 8) _) (by rw [body, List.length_take, List.length_drop]; omega)
      rw [← crcU_append] at hup
      refine Ev.step (f := fun k => (crc_Sum.f k ((x0.drop at_).take 4)).bind fun t130 => (crc_Update.f k t130 (body (x0.drop at_))).bind fun t131 =>
        if g4 ((x0.drop at_).drop 4) = t131 then (if out.length < 5864062014805 then frame_Scan.l0 k x0 (out ++ [body (x0.drop at_)]) (wrap64 ((at_ : Int) + wrap64 (8 + (n : Int)))) else none) else some (out, (at_ : Int))) (fun k => ?_) ?_
      · simp only [frame_Scan.l0]
        rw [w64 (x := (x0.length : Int) - (at_ : Int)) (by omega) (by omega), if_neg (by omega), if_pos (by omega), if_pos (by omega), Int.toNat_natCast, hg, Option.bind_some, w64 (x := (n : Int)) (by omega) (by omega), w64 (x := (x0.length : Int) - (at_ : Int) - 8) (by omega) (by omega), if_neg (by omega), w64 (x := (at_ : Int) + 8) (by omega) (by omega), if_pos (by omega),
          w64 (x := (at_ : Int) + 8 + (n : Int)) (by omega) (by omega), if_pos (by omega), if_pos (by omega), Option.bind_some, w64 (x := (at_ : Int) + 4) (by omega) (by omega), if_pos (by omega), if_pos (by omega),
          show ((at_ : Int) + 4).toNat = at_ + 4 by omega, ← List.drop_drop, hg2, Option.bind_some, if_pos (by omega), hbody, ← hhead, show ((at_ : Int) + 4).toNat = at_ + 4 by omega]
      · refine Ev.bind hsu (Ev.bind hup (Ev.no hs (Ev.now _)))

theorem scan_go (x0 : List Int) (out : List (List Int)) (at_ : Nat) (r : List (List Int) × Int) (hb : Byt x0) (hx : x0.length ≤ 1000000) (ha : at_ ≤ x0.length) (hout : out.length ≤ 1000000) (n : Nat) (hn : g4 (x0.drop at_) = (n : Int)) (h8 : 8 + n ≤ (x0.drop at_).length)
    (hs : g4 ((x0.drop at_).drop 4) = i32 (sumAt (x0.drop at_))) (h : Ev (fun k => frame_Scan.l0 k x0 (out ++ [body (x0.drop at_)]) ((at_ + (8 + n) : Nat) : Int)) r) :
    Ev (fun k => frame_Scan.l0 k x0 out (at_ : Int)) r := by
  have hul : (x0.drop at_).length = x0.length - at_ := List.length_drop
  have hbu := byt_drop hb at_
  have hg := get_of (x0.drop at_) hbu (by omega)
  rw [hn] at hg
  have hbody : (x0.take ((at_ : Int) + 8 + (n : Int)).toNat).drop ((at_ : Int) + 8).toNat = body (x0.drop at_) := by
    rw [show ((at_ : Int) + 8 + (n : Int)).toNat = at_ + 8 + n by omega, show ((at_ : Int) + 8).toNat = at_ + 8 by omega, List.drop_take, body, hn, Int.toNat_natCast, List.drop_drop]
    congr 1
    omega
  have hhead : (x0.take ((at_ : Int) + 4).toNat).drop at_ = (x0.drop at_).take 4 := by
    rw [show ((at_ : Int) + 4).toNat = at_ + 4 by omega, List.drop_take]
    congr 1
    omega
  have hg2 := get_of (x0.drop ((at_ : Int) + 4).toNat) (byt_drop hb _) (by rw [List.length_drop]; omega)
  rw [show ((at_ : Int) + 4).toNat = at_ + 4 by omega, ← List.drop_drop] at hg2
  have hsu := crc_su ((x0.drop at_).take 4) (byt_take hbu 4) (by rw [List.length_take]; omega)
  have hup := crc_up (crcU 0#32 ((x0.drop at_).take 4)) (body (x0.drop at_)) (byt_take (byt_drop hbu 8) _) (by rw [body, List.length_take, List.length_drop]; omega)
  rw [← crcU_append] at hup
  refine Ev.step (f := fun k => (crc_Sum.f k ((x0.drop at_).take 4)).bind fun t130 => (crc_Update.f k t130 (body (x0.drop at_))).bind fun t131 =>
    if g4 ((x0.drop at_).drop 4) = t131 then (if out.length < 5864062014805 then frame_Scan.l0 k x0 (out ++ [body (x0.drop at_)]) (wrap64 ((at_ : Int) + wrap64 (8 + (n : Int)))) else none) else some (out, (at_ : Int))) (fun k => ?_) ?_
  · simp only [frame_Scan.l0]
    rw [w64 (x := (x0.length : Int) - (at_ : Int)) (by omega) (by omega), if_neg (by omega), if_pos (by omega), if_pos (by omega), Int.toNat_natCast, hg, Option.bind_some, w64 (x := (n : Int)) (by omega) (by omega), w64 (x := (x0.length : Int) - (at_ : Int) - 8) (by omega) (by omega), if_neg (by omega), w64 (x := (at_ : Int) + 8) (by omega) (by omega), if_pos (by omega),
      w64 (x := (at_ : Int) + 8 + (n : Int)) (by omega) (by omega), if_pos (by omega), if_pos (by omega), Option.bind_some, w64 (x := (at_ : Int) + 4) (by omega) (by omega), if_pos (by omega), if_pos (by omega),
      show ((at_ : Int) + 4).toNat = at_ + 4 by omega, ← List.drop_drop, hg2, Option.bind_some, if_pos (by omega), hbody, ← hhead, show ((at_ : Int) + 4).toNat = at_ + 4 by omega]
  · refine Ev.bind hsu (Ev.bind hup (Ev.yes hs (Ev.yes (by omega) ?_)))
    rw [w64 (x := 8 + (n : Int)) (by omega) (by omega), w64 (by omega) (by omega), show ((at_ : Int) + (8 + (n : Int))) = ((at_ + (8 + n) : Nat) : Int) by omega]
    exact h

theorem enc_parts (r t : List Int) (hr : r.length < 1000000) : g4 (enc r ++ t) = (r.length : Int) ∧ body (enc r ++ t) = r ∧ g4 ((enc r ++ t).drop 4) = i32 (sumOf r) ∧ (enc r ++ t).take 4 = le4 r.length := by
  have e : enc r ++ t = le4 r.length ++ (le4 (i32 (sumOf r)) ++ (r ++ t)) := by simp only [enc, List.append_assoc]
  have h1 : g4 (enc r ++ t) = (r.length : Int) := by rw [e]; exact g4_le4 _ _ (by omega) (by omega)
  refine ⟨h1, ?_, ?_, ?_⟩
  · rw [body, h1, Int.toNat_natCast, e, ← List.append_assoc]
    rw [List.drop_append_of_le_length (by simp [le4_len]), List.drop_eq_nil_of_le (by simp [le4_len]), List.nil_append, List.take_left]
  · rw [e, List.drop_append_of_le_length (by simp [le4_len]), List.drop_eq_nil_of_le (by simp [le4_len]), List.nil_append]
    exact g4_le4 _ _ (i32_nonneg _) (i32_lt _)
  · rw [e, List.take_append_of_le_length (by simp [le4_len]), List.take_of_length_le (by simp [le4_len])]

theorem scan_recs (x0 t : List Int) (hb : Byt x0) (hx : x0.length ≤ 1000000) (ht : stuck t) : ∀ (ls : List (List Int)) (out : List (List Int)) (pre : List Int), x0 = pre ++ (recs ls ++ t) → out.length + ls.length ≤ 1000000 →
    Ev (fun k => frame_Scan.l0 k x0 out (pre.length : Int)) (out ++ ls, ((pre.length + (recs ls).length : Nat) : Int))
  | [], out, pre, he, ho => by
    have hd : x0.drop pre.length = t := by rw [he, List.drop_left, recs_nil, List.nil_append]
    have := scan_stop x0 out pre.length hb hx (by rw [he, List.length_append]; omega) (by rw [hd]; exact ht)
    rw [List.append_nil, recs_nil]
    exact this
  | r :: ls, out, pre, he, ho => by
    have hd : x0.drop pre.length = enc r ++ (recs ls ++ t) := by rw [he, List.drop_left, recs_cons, List.append_assoc]
    have hlen : x0.length = pre.length + ((enc r).length + ((recs ls).length + t.length)) := by rw [he]; simp only [List.length_append, recs_cons]; omega
    rw [enc_len] at hlen
    obtain ⟨p1, p2, p3, p4⟩ := enc_parts r (recs ls ++ t) (by omega)
    have ih := scan_recs x0 t hb hx ht ls (out ++ [r]) (pre ++ enc r) (by rw [he, recs_cons]; simp only [List.append_assoc]) (by simp only [List.length_append, List.length_cons, List.length_nil] at ho ⊢; omega)
    simp only [List.length_cons] at ho
    refine scan_go x0 out pre.length _ hb hx (by omega) (by omega) r.length (by rw [hd]; exact p1) (by rw [hd, List.length_append, enc_len]; omega) (by rw [hd, p3, sumAt, p2, p4]; rfl) ?_
    rw [hd, p2]
    have e1 : (pre ++ enc r).length = pre.length + (8 + r.length) := by rw [List.length_append, enc_len]
    rw [e1] at ih
    have e2 : (out ++ [r]) ++ ls = out ++ r :: ls := by simp
    have e3 : pre.length + (8 + r.length) + (recs ls).length = pre.length + (recs (r :: ls)).length := by rw [recs_cons, List.length_append, enc_len]; omega
    rw [e2, e3] at ih
    exact ih

/-- What is scanned of whole records with something behind that begins with none. -/
theorem scan_of (ls : List (List Int)) (t : List Int) (hb : Byt (recs ls ++ t)) (hx : (recs ls ++ t).length ≤ 1000000) (ht : stuck t) : Ev (fun k => frame_Scan.f k (recs ls ++ t)) (ls, ((recs ls).length : Int)) := by
  have hl : ls.length ≤ 1000000 := by
    have := recs_len ls
    rw [List.length_append] at hx
    omega
  have h := scan_recs (recs ls ++ t) t hb hx ht ls [] [] rfl (by simpa using hl)
  simp only [List.nil_append, List.length_nil, Nat.zero_add] at h
  exact h

/-! ### the statement's own small functions -/
theorem same_all_l0 (a : List (List Int)) (hn : a.length ≤ 100) : ∀ (n i : Nat), i + n = a.length → Ev (fun k => funicularref05_SameAll.l0 k a a (i : Int)) true
  | 0, i, hi => Ev.step (f := fun _ => some true) (fun k => by
      simp only [funicularref05_SameAll.l0]
      rw [if_neg (by omega)]) (Ev.now _)
  | n + 1, i, hi => by
    have ih := same_all_l0 a hn n (i + 1) (by omega)
    refine Ev.step (fun k => ?_) ih
    simp only [funicularref05_SameAll.l0]
    rw [if_pos (by omega), if_pos (by omega), if_pos (by omega), if_pos trivial, w64 (by omega) (by omega)]
    rfl
theorem same_all (a : List (List Int)) (hn : a.length ≤ 100) : Ev (fun k => funicularref05_SameAll.f k a a) true := by
  have h := same_all_l0 a hn a.length 0 (by omega)
  refine Ev.congr (fun k => ?_) h
  unfold funicularref05_SameAll.f
  rw [if_pos rfl]
  rfl

theorem light_l0 (l : List (List Int)) (hn : l.length ≤ 60) (hl : ∀ r ∈ l, r.length ≤ 140737488351232) : ∀ (n i : Nat), i + n = l.length → tot (l.take i) ≤ 600 →
    ∃ b, Ev (fun k => funicularlaw05_light.l0 k l (tot (l.take i) : Int) (i : Int)) b ∧ (b = true → tot l ≤ 600)
  | 0, i, hi, ht => by
    have hd : l.take i = l := List.take_of_length_le (by omega)
    rw [hd] at ht ⊢
    refine ⟨true, Ev.step (f := fun _ => some true) (fun k => ?_) (Ev.now _), fun _ => ht⟩
    simp only [funicularlaw05_light.l0]
    rw [if_neg (by omega)]
  | n + 1, i, hi, ht => by
    have hlt : i < l.length := by omega
    have hr := hl _ (List.getElem_mem hlt)
    have hs : tot (l.take (i + 1)) = tot (l.take i) + l[i].length := by
      rw [List.take_succ_eq_append_getElem hlt, tot_append]
      rfl
    by_cases h : 600 < tot (l.take i) + l[i].length
    · refine ⟨false, Ev.step (f := fun _ => some false) (fun k => ?_) (Ev.now _), fun h => by cases h⟩
      simp only [funicularlaw05_light.l0]
      rw [if_pos (by omega), if_pos (by omega), rdL_get hlt, w64 (by omega) (by omega), if_pos (by omega)]
    · obtain ⟨b, hb, h2⟩ := light_l0 l hn hl n (i + 1) (by omega) (by omega)
      refine ⟨b, Ev.step (fun k => ?_) hb, h2⟩
      simp only [funicularlaw05_light.l0]
      rw [if_pos (by omega), if_pos (by omega), rdL_get hlt, w64 (x := (tot (l.take i) : Int) + (l[i].length : Int)) (by omega) (by omega), if_neg (by omega), w64 (by omega) (by omega), hs]
      rfl
theorem light_of (l : List (List Int)) (hl : ∀ r ∈ l, r.length ≤ 140737488351232) : ∃ b, Ev (fun k => funicularlaw05_light.f k l) b ∧ (b = true → l.length ≤ 60 ∧ tot l ≤ 600) := by
  by_cases hn : 60 < l.length
  · refine ⟨false, Ev.congr (fun k => ?_) (Ev.now false), fun h => by cases h⟩
    unfold funicularlaw05_light.f
    rw [if_pos (by omega)]
  · obtain ⟨b, hb, h2⟩ := light_l0 l (by omega) hl l.length 0 (by omega) (by simp [tot])
    refine ⟨b, Ev.congr (fun k => ?_) hb, fun h => ⟨by omega, h2 h⟩⟩
    unfold funicularlaw05_light.f
    rw [if_neg (by omega)]
    rfl

theorem same_refl (a : List Int) : funicularref02_Same.f a a = some true := by
  unfold funicularref02_Same.f
  simp

theorem works_of : Ev (fun k => funicularlaw05_works.f k) true := by
  have b12 : Byt [1, 2] := by intro c hc; simp at hc; omega
  have b0 : Byt [] := by intro c hc; cases hc
  have h1 := Put_of [] [1, 2] b12 (by simp)
  have h2 := Put_of (enc [1, 2]) [] b0 (by rw [enc_len]; simp)
  have hr : enc [1, 2] ++ enc [] = recs [[1, 2], []] := by simp [recs]
  have hrb : Byts [[1, 2], []] := by
    intro r hr
    simp only [List.mem_cons, List.mem_nil_iff, or_false] at hr
    rcases hr with rfl | rfl
    · exact b12
    · exact b0
  have hlen : (recs [[1, 2], []]).length = 18 := by rw [recs_len]; rfl
  have h3 := scan_of [[1, 2], []] [9] (byt_append (recs_byt hrb) (by intro c hc; simp at hc; omega)) (by rw [List.length_append, hlen]; simp) (.inl (by simp))
  unfold funicularlaw05_works.f
  refine Ev.bind h1 ?_
  refine Ev.bind h2 ?_
  rw [hr]
  refine Ev.yes (by rw [hlen]; omega) ?_
  refine Ev.bind h3 ?_
  refine Ev.yes (by rw [hlen]; rfl) ?_
  refine Ev.yes rfl ?_
  refine Ev.yes (by rw [hlen]; rfl) ?_
  refine Ev.yes (by decide) ?_
  refine Ev.bind (a := true) ⟨0, fun _ _ => same_refl [1, 2]⟩ ?_
  refine Ev.yes rfl ?_
  refine Ev.yes (by decide) ?_
  exact ⟨0, fun _ _ => rfl⟩

theorem wf_u8 {c : Int} (h : (Lit.int .u8 c).wf = true) : 0 ≤ c ∧ c < 256 := by
  have e1 : IntKind.u8.min = 0 := rfl
  have e2 : IntKind.u8.max = 255 := rfl
  simp [Lit.wf, e1, e2] at h
  omega
theorem wrap_u64 (n : Int) : IntKind.u64.wrap n = n % 18446744073709551616 := by simp [IntKind.wrap, IntKind.bits, IntKind.signed]
/-- 'int(uint64(x) % uint64(m))', m a small count: a number below m. -/
theorem some_place (x : Int) (m : Nat) (h0 : 0 < m) (h1 : m ≤ 1000000000) : ∃ c : Nat, c < m ∧ wrap64 (Int.tmod (IntKind.u64.wrap x) (IntKind.u64.wrap (m : Int))) = (c : Int) := by
  rw [wrap_u64, wrap_u64]
  have e : (m : Int) % 18446744073709551616 = (m : Int) := by omega
  have hx : 0 ≤ x % 18446744073709551616 := by omega
  rw [e, Int.tmod_eq_emod_of_nonneg hx]
  have h2 := Int.emod_nonneg (x % 18446744073709551616) (show (m : Int) ≠ 0 by omega)
  have h3 := Int.emod_lt_of_pos (x % 18446744073709551616) (show (0 : Int) < (m : Int) by omega)
  obtain ⟨c, hc⟩ := Int.eq_ofNat_of_zero_le h2
  refine ⟨c, by omega, ?_⟩
  rw [hc]
  exact w64 (by omega) (by omega)

/-! ### torn anywhere -/
theorem tear (ls : List (List Int)) (hl : ∀ r ∈ ls, r.length < 1000000) : ∀ kk : Nat, kk ≤ (recs ls).length →
    ∃ m t, m ≤ ls.length ∧ (recs ls).take kk = recs (ls.take m) ++ t ∧ stuck t ∧ (recs (ls.take m)).length ≤ kk ∧ (m < ls.length → kk < (recs (ls.take m)).length + (8 + (ls.getD m []).length)) := by
  induction ls with
  | nil =>
    intro kk hk
    exact ⟨0, [], Nat.le_refl _, by simp [recs], .inl (by simp), by simp [recs], fun h => by simp at h⟩
  | cons r ls ih =>
    intro kk hk
    have hr := hl r List.mem_cons_self
    by_cases h : kk < (enc r).length
    · refine ⟨0, (recs (r :: ls)).take kk, by simp, by simp [recs], ?_, by simp [recs], fun _ => ?_⟩
      · have hlen : ((recs (r :: ls)).take kk).length = kk := by rw [List.length_take]; omega
        by_cases h8 : kk < 8
        · exact .inl (by omega)
        · refine .inr (.inl ?_)
          rw [enc_len] at h
          have e : (recs (r :: ls)).take kk = le4 r.length ++ ((le4 (i32 (sumOf r)) ++ (r ++ recs ls)).take (kk - 4)) := by
            have e1 : recs (r :: ls) = le4 r.length ++ (le4 (i32 (sumOf r)) ++ (r ++ recs ls)) := by rw [recs_cons]; simp only [enc, List.append_assoc]
            rw [e1, List.take_append, le4_len, List.take_of_length_le (by rw [le4_len]; omega)]
          rw [hlen, e, g4_le4 _ _ (by omega) (by omega)]
          omega
      · simp only [List.take_zero, recs_nil, List.length_nil, List.getD_cons_zero]
        rw [enc_len] at h
        omega
    · have hk2 : kk - (enc r).length ≤ (recs ls).length := by
        rw [recs_cons, List.length_append] at hk
        omega
      obtain ⟨m, t, h1, h2, h3, h4, h5⟩ := ih (fun r hr => hl r (List.mem_cons_of_mem _ hr)) _ hk2
      refine ⟨m + 1, t, by simpa using h1, ?_, h3, ?_, fun hm => ?_⟩
      · rw [recs_cons, List.take_append, List.take_of_length_le (by omega), h2, List.take_succ_cons, recs_cons, List.append_assoc]
      · rw [List.take_succ_cons, recs_cons, List.length_append]
        omega
      · have := h5 (by simpa using hm)
        rw [List.take_succ_cons, recs_cons, List.length_append, List.getD_cons_succ]
        omega

theorem mem_tot {l : List (List Int)} {r : List Int} (h : r ∈ l) : r.length ≤ tot l := by
  induction l with
  | nil => cases h
  | cons q l ih =>
    simp only [tot]
    rcases List.mem_cons.1 h with rfl | h
    · omega
    · have := ih h
      omega
theorem tot_take (l : List (List Int)) (m : Nat) : tot (l.take m) ≤ tot l := by
  conv => rhs; rw [← List.take_append_drop m l]
  rw [tot_append]
  omega

/-- TORN ANYWHERE: records that are cut short at any byte are the first ones of them. -/
theorem FrameTears : funicularlaw05_FrameTears.Pure := by
  intro l0 a1 hl _
  have hb : Byts l0 := fun r hr c hc => by
    exact wf_u8 ((hl.2 r hr).2 c hc)
  obtain ⟨b, hb1, hb2⟩ := light_of l0 (fun r hr => by have := (hl.2 r hr).1; omega)
  refine Ev.rounds (?_ : Ev (fun k => funicularlaw05_FrameTears.f k l0 a1) true)
  unfold funicularlaw05_FrameTears.f
  refine Ev.bind hb1 ?_
  cases b with
  | false => exact Ev.no (by simp) (Ev.bind works_of (Ev.now _))
  | true =>
    refine Ev.yes rfl ?_
    obtain ⟨hn, ht⟩ := hb2 rfl
    refine Ev.bind (written_of l0 hb (by omega) (by omega)) ?_
    have hlen := recs_len l0
    have hw : wrap64 (((recs l0).length : Int) + 1) = (((recs l0).length + 1 : Nat) : Int) := by rw [w64 (by omega) (by omega)]; rfl
    obtain ⟨c, hc1, hc2⟩ := some_place a1 ((recs l0).length + 1) (by omega) (by omega)
    rw [hw, hc2]
    refine Ev.no (by rw [wrap_u64]; omega) ?_
    refine Ev.yes (by omega) ?_
    refine Ev.yes (by omega) ?_
    rw [Int.toNat_natCast]
    obtain ⟨m, t, h1, h2, h3, h4, h5⟩ := tear l0 (fun r hr => by have := mem_tot hr; omega) c (by omega)
    have hbt : Byt ((recs l0).take c) := byt_take (recs_byt hb) c
    have hs := scan_of (l0.take m) t (by rw [← h2]; exact hbt) (by rw [← h2, List.length_take]; omega) h3
    rw [← h2] at hs
    have hml : (l0.take m).length = m := by rw [List.length_take]; omega
    refine Ev.bind hs ?_
    show Ev (fun n => if ((recs (l0.take m)).length : Int) > (c : Int) then _ else _) true
    refine Ev.no (by omega) ?_
    refine Ev.no (by show ¬ ((l0.take m).length : Int) > _; omega) ?_
    refine Ev.yes (by show (0 : Int) ≤ ((l0.take m).length : Int); omega) ?_
    refine Ev.yes (by show ((l0.take m).length : Int) ≤ _; omega) ?_
    have e1 : l0.take (((l0.take m).length : Int) : Int).toNat = l0.take m := by rw [Int.toNat_natCast, hml]
    show Ev (fun n => (funicularref05_SameAll.f n (l0.take m) (l0.take (((l0.take m).length : Int) : Int).toNat)).bind _) true
    rw [e1]
    refine Ev.bind (same_all _ (by omega)) ?_
    refine Ev.yes rfl ?_
    have htt := tot_take l0 m
    refine Ev.bind (written_of (l0.take m) (fun r hr => hb r (List.mem_of_mem_take hr)) (by omega) (by omega)) ?_
    refine Ev.yes (by show (0 : Int) ≤ ((recs (l0.take m)).length : Int); omega) ?_
    refine Ev.yes (by show ((recs (l0.take m)).length : Int) ≤ _; omega) ?_
    have e2 : (recs l0).take ((((recs (l0.take m)).length : Int)) : Int).toNat = recs (l0.take m) := by
      rw [Int.toNat_natCast]
      have e : recs l0 = recs (l0.take m) ++ recs (l0.drop m) := by rw [← recs_append, List.take_append_drop]
      rw [e, List.take_left]
    show Ev (fun n => (funicularref02_Same.f (recs (l0.take m)) ((recs l0).take ((((recs (l0.take m)).length : Int)) : Int).toNat)).bind _) true
    rw [e2, same_refl]
    refine Ev.some_bind ?_
    refine Ev.yes rfl ?_
    by_cases hm : m = l0.length
    · exact Ev.yes (by show ((l0.take m).length : Int) = _; omega) (Ev.bind works_of (Ev.now _))
    · refine Ev.no (by show ¬ ((l0.take m).length : Int) = _; omega) ?_
      refine Ev.yes (by show ((l0.take m).length : Int) < _; omega) ?_
      have hm2 : m < l0.length := by omega
      have h6 := h5 hm2
      have e3 : rd_L1 l0 ((l0.take m).length : Int) = l0.getD m [] := by rw [hml]; unfold rd_L1; rw [Int.toNat_natCast]
      have e4 : (l0.getD m []).length ≤ tot l0 := by
        rw [List.getD_eq_getElem?_getD, List.getElem?_eq_getElem hm2]
        exact mem_tot (List.getElem_mem hm2)
      refine Ev.yes (by
        show wrap64 (wrap64 (((recs (l0.take m)).length : Int) + 8) + ((rd_L1 l0 ((l0.take m).length : Int)).length : Int)) > (c : Int)
        rw [e3, w64 (x := ((recs (l0.take m)).length : Int) + 8) (by omega) (by omega), w64 (by omega) (by omega)]
        omega) ?_
      exact Ev.bind works_of (Ev.now _)

end Go.Proofs.Ytjjdbakmhdjakaa.Pure
