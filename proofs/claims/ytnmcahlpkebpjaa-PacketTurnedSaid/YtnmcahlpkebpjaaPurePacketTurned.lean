import Derived.Test.YtnmcahlpkebpjaaXPacketTurnedx9
import Derived.Test.YtnmcahlpkebpjaaXCrc
set_option linter.unusedVariables false
set_option linter.unusedSimpArgs false
namespace Go.Proofs.Ytnmcahlpkebpjaa.Pure
open Go.RowKit Go.Proofs.YtnmcahlpkebpjaaX Go.Proofs.Ytnmcahlpkebpjaa.XPacketTurned Go.Proofs.YtnmcahlpkebpjaaW.PrintWords Go.Proofs.YtnmcahlpkebpjaaW.PrintLast

theorem w64 {x : Int} (h0 : -9223372036854775808 ≤ x) (h1 : x ≤ 9223372036854775807) : wrap64 x = x := by
  unfold wrap64
  omega
theorem w64n {n : Nat} (h : n < 4611686018427387904) : wrap64 ((n : Int) + 1) = ((n + 1 : Nat) : Int) := by
  rw [w64 (by omega) (by omega)]
  rfl
theorem rd51 {l : List S51} {i : Nat} (h : i < l.length) : rd_T51 l (i : Int) = l[i] := by
  unfold rd_T51
  rw [Int.toNat_natCast, List.getD_eq_getElem?_getD, List.getElem?_eq_getElem h]
  rfl
theorem rd48 {l : List S48} {i : Nat} (h : i < l.length) : rd_T48 l (i : Int) = l[i] := by
  unfold rd_T48
  rw [Int.toNat_natCast, List.getD_eq_getElem?_getD, List.getElem?_eq_getElem h]
  rfl
theorem rd24 {l : List S24} {i : Nat} (h : i < l.length) : rd_T24 l (i : Int) = l[i] := by
  unfold rd_T24
  rw [Int.toNat_natCast, List.getD_eq_getElem?_getD, List.getElem?_eq_getElem h]
  rfl
theorem eta51 (m : S51) : (⟨m.f0, m.f1, m.f2, m.f3, m.f4, m.f5, m.f6, m.f7, m.f8, m.f9, m.f10⟩ : S51) = m := rfl

/-! ### light answers -/
def Tot {α : Type} (g : Nat → Option α) : Prop := ∃ r, Ev g r
theorem Tot.step {α : Type} {g f : Nat → Option α} (h : ∀ k, g (k + 1) = f k) (t : Tot f) : Tot g := t.elim fun r e => ⟨r, Ev.step h e⟩
theorem Tot.now {α : Type} (r : α) : Tot (fun _ => some r) := ⟨r, Ev.now r⟩
def weighL (x0 : List S51) : Prop := x0.length < 4611686018427387904 ∧ ∀ y ∈ x0, y.f9.length < 4611686018427387904
theorem weight_l1 (x0 : List S51) (hx : weighL x0) (x1 : Int) (n : Nat) (hn : n < x0.length) (K : ∀ x5, Tot (fun k => funicularref17_Weight.l0 k x0 x1 x5 ((n + 1 : Nat) : Int))) :
    ∀ (d m : Nat), m + d = x0[n].f9.length → ∀ x5, Tot (fun k => funicularref17_Weight.l1 k x0 x1 x5 (n : Int) (m : Int)) := by
  have h9 : x0[n].f9.length < 4611686018427387904 := hx.2 _ (List.getElem_mem hn)
  have hl := hx.1
  intro d
  induction d with
  | zero =>
    intro m hm x5
    refine Tot.step (fun k => ?_) (K x5)
    simp only [funicularref17_Weight.l1]
    rw [if_pos (by omega), if_pos (by omega), rd51 hn, if_neg (by omega), w64n (by omega)]
  | succ d ih =>
    intro m hm x5
    by_cases hc : x5 ≤ x1
    · refine Tot.step (fun k => ?_) (ih (m + 1) (by omega) (wrap64 ((wrap64 (x5 + 1)) + (wrap64 ((((rd_T48 ((rd_T51 x0 n).f9) m).f1).length : Int) / 20)))))
      simp only [funicularref17_Weight.l1]
      rw [if_pos (by omega), if_pos (by omega), rd51 hn, if_pos (by omega), if_pos hc, if_pos (by omega), w64n (n := m) (by omega)]
    · refine Tot.step (fun k => ?_) (K x5)
      simp only [funicularref17_Weight.l1]
      rw [if_pos (by omega), if_pos (by omega), rd51 hn, if_pos (by omega), if_neg hc, w64n (by omega)]
theorem weight_l0 (x0 : List S51) (hx : weighL x0) (x1 : Int) : ∀ (d n : Nat), n + d = x0.length → ∀ x5, Tot (fun k => funicularref17_Weight.l0 k x0 x1 x5 (n : Int)) := by
  intro d
  have hl := hx.1
  induction d with
  | zero =>
    intro n hn x5
    refine Tot.step (f := fun k => funicularref17_Weight.j1 k x0 x1 x5 n false) (fun k => ?_) (Tot.step (f := fun _ => some x5) (fun k => ?_) (Tot.now x5))
    · simp only [funicularref17_Weight.l0]
      rw [if_neg (by omega)]
    · simp only [funicularref17_Weight.j1]
      rw [if_neg (by decide)]
  | succ d ih =>
    intro n hn x5
    have hlt : n < x0.length := by omega
    by_cases hc : x5 ≤ x1
    · have t := weight_l1 x0 hx x1 n hlt (fun x5 => ih (n + 1) (by omega) x5) _ 0 (Nat.zero_add _) (wrap64 ((wrap64 (x5 + 1)) + (wrap64 ((((rd_T51 x0 n).f10).length : Int) / 20))))
      refine Tot.step (f := fun k => funicularref17_Weight.j1 k x0 x1 x5 n true) (fun k => ?_) (Tot.step (fun k => ?_) t)
      · simp only [funicularref17_Weight.l0]
        rw [if_pos (by omega), decide_eq_true hc]
      · simp only [funicularref17_Weight.j1]
        rw [if_pos (by decide), if_pos (by omega), if_pos (by omega)]
        rfl
    · refine Tot.step (f := fun k => funicularref17_Weight.j1 k x0 x1 x5 n false) (fun k => ?_) (Tot.step (f := fun _ => some x5) (fun k => ?_) (Tot.now x5))
      · simp only [funicularref17_Weight.l0]
        rw [if_pos (by omega), decide_eq_false hc]
      · simp only [funicularref17_Weight.j1]
        rw [if_neg (by decide)]
theorem light_tot (x0 : List S51) (hx : weighL x0) : Tot (fun k => funicularlaw17_light.f k x0) := by
  obtain ⟨r, e⟩ := weight_l0 x0 hx 300 _ 0 (Nat.zero_add _) 0
  exact ⟨_, Ev.bind (g := fun k => funicularref17_Weight.f k x0 300) e (Ev.now (decide (r ≤ 300)))⟩

/-! ### what is the same answers yes -/
theorem entries_self (l : List S48) (hl : l.length < 4611686018427387904) : ∀ (d n : Nat), n + d = l.length → Ev (fun k => funicularref13_Entries.l0 k l l (n : Int)) true := by
  intro d
  induction d with
  | zero =>
    intro n hn
    refine Ev.step (f := fun _ => some true) (fun k => ?_) (Ev.now true)
    simp only [funicularref13_Entries.l0]
    rw [if_neg (by omega)]
  | succ d ih =>
    intro n hn
    refine Ev.step (fun k => ?_) (ih (n + 1) (by omega))
    simp only [funicularref13_Entries.l0]
    rw [if_pos (by omega), if_pos (by omega), if_pos (by omega), if_pos trivial, if_pos trivial, w64n (by omega)]
theorem sameMsg_self (m : S51) (h9 : m.f9.length < 4611686018427387904) : Ev (fun k => funicularref15_SameMsg.f k m.f0 m.f1 m.f2 m.f3 m.f4 m.f5 m.f6 m.f7 m.f8 m.f9 m.f10 m.f0 m.f1 m.f2 m.f3 m.f4 m.f5 m.f6 m.f7 m.f8 m.f9 m.f10) true := by
  have h : Ev (fun k => funicularref13_Entries.f k m.f9 m.f9) true := Ev.congr (fun k => by unfold funicularref13_Entries.f; rw [if_pos rfl]; rfl) (entries_self m.f9 h9 _ 0 (Nat.zero_add _))
  refine Ev.congr (fun k => ?_) (Ev.bind (f := fun k t => if t = true then (some ((strOfNums m.f10).toList == (strOfNums m.f10).toList)) else some false) h (Ev.yes rfl (by rw [beq_self_eq_true]; exact Ev.now true)))
  unfold funicularref15_SameMsg.f
  rw [if_pos rfl, if_pos rfl, if_pos rfl, if_pos rfl, if_pos rfl, if_pos rfl, if_pos rfl, if_pos rfl, if_neg (by rw [bne_self_eq_false]; decide)]
theorem sameMsgs_self (l : List S51) (hl : weighL l) : Ev (fun k => funicularref15_SameMsgs.f k l l) true := by
  have key : ∀ (d n : Nat), n + d = l.length → Ev (fun k => funicularref15_SameMsgs.l0 k l l (n : Int)) true := by
    intro d
    have h1 := hl.1
    induction d with
    | zero =>
      intro n hn
      refine Ev.step (f := fun _ => some true) (fun k => ?_) (Ev.now true)
      simp only [funicularref15_SameMsgs.l0]
      rw [if_neg (by omega)]
    | succ d ih =>
      intro n hn
      have hlt : n < l.length := by omega
      have h9 := hl.2 _ (List.getElem_mem hlt)
      have hm := sameMsg_self l[n] h9
      refine Ev.step (fun k => ?_) (Ev.bind (f := fun k t => if t = true then (funicularref15_SameMsgs.l0 k l l (((n + 1 : Nat)) : Int)) else some false) hm (Ev.yes rfl (ih (n + 1) (by omega))))
      simp only [funicularref15_SameMsgs.l0]
      rw [if_pos (by omega), if_pos (by omega), if_pos (by omega), rd51 hlt, w64n (by omega)]
  exact Ev.congr (fun k => by unfold funicularref15_SameMsgs.f; rw [if_pos rfl]; rfl) (key _ 0 (Nat.zero_add _))

/-! ### the sum -/
theorem rd_get {l : List Int} {i : Nat} (h : i < l.length) : rd l (i : Int) = l[i] := by
  unfold rd
  rw [Int.toNat_natCast, List.getD_eq_getElem?_getD, List.getElem?_eq_getElem h]
  rfl
theorem upd_l1 (x10 : List Int) (x11 x12 : Int) (r : Int) : ∀ (n : Nat) (j : Int) (s : BitVec 32), j + n = 8 → 0 ≤ j →
    Ev (fun k => crc_Update.l0 k (i32 (rnds n s)) x10 x11 (wrap64 (x12 + 1))) r → Ev (fun k => crc_Update.l1 k (i32 s) x10 x11 x12 j) r
  | 0, j, s, hj, h0, h => Ev.step (fun k => by
      simp only [crc_Update.l1]
      rw [if_neg (by omega)]
      rfl) h
  | n + 1, j, s, hj, h0, h => by
    have ih := upd_l1 x10 x11 x12 r n (j + 1) (rnd s) (by omega) (by omega) h
    refine Ev.step (fun k => ?_) ih
    simp only [crc_Update.l1]
    rw [if_pos (by omega), w64 (by omega) (by omega)]
    have hb : Go.bits .and .u32 (i32 s) 1 = i32 (s &&& 1#32) := bits_and s 1#32
    by_cases hc : s &&& 1#32 = 1#32
    · have hx : Go.bits .xor .u32 (i32 (s >>> 1)) 3988292384 = i32 ((s >>> 1) ^^^ 3988292384#32) := bits_xor (s >>> 1) 3988292384#32
      rw [if_pos (by rw [hb, hc]; rfl), i32_half, hx]
      unfold rnd
      rw [if_pos hc]
    · rw [if_neg (by rw [hb]; exact fun h => hc (i32_inj (b := 1#32) h)), i32_half]
      unfold rnd
      rw [if_neg hc]
theorem upd_l0 (l : List Int) (hb : IsB l) (hl : l.length ≤ 140737488355328) : ∀ (n i : Nat) (s : BitVec 32), i + n = l.length →
    Ev (fun k => crc_Update.l0 k (i32 s) l (l.length : Int) (i : Int)) (i32 (~~~ (upd s (l.drop i))))
  | 0, i, s, hi => by
    have hd : l.drop i = [] := List.drop_eq_nil_of_le (by omega)
    refine Ev.step (f := fun _ => some (i32 (~~~ (upd s (l.drop i))))) (fun k => ?_) (Ev.now _)
    simp only [crc_Update.l0]
    rw [if_neg (by omega), hd]
    have hx : Go.bits .xor .u32 4294967295 (i32 s) = i32 (4294967295#32 ^^^ s) := bits_xor 4294967295#32 s
    rw [hx]
    congr 2
  | n + 1, i, s, hi => by
    have hlt : i < l.length := by omega
    have ih := upd_l0 l hb hl n (i + 1) (byte8 s l[i]) (by omega)
    have hd : l.drop i = l[i] :: l.drop (i + 1) := List.drop_eq_getElem_cons hlt
    have hbi := hb l[i] (List.getElem_mem hlt)
    rw [hd]
    have h1 := upd_l1 l (l.length : Int) (i : Int) (i32 (~~~ (upd s (l[i] :: l.drop (i + 1))))) 8 0 (s ^^^ BitVec.ofInt 32 l[i]) (by omega) (by omega) (by
      rw [w64 (by omega) (by omega)]
      exact ih)
    refine Ev.step (fun k => ?_) h1
    simp only [crc_Update.l0]
    rw [if_pos (by omega), if_pos (by omega), if_pos (by omega), rd_get hlt]
    have hm : l[i] % 4294967296 = i32 (BitVec.ofInt 32 l[i]) := by
      rw [i32_ofInt _ (by omega) (by omega)]
      omega
    rw [hm, bits_xor]
theorem crc_up (s : BitVec 32) (l : List Int) (hb : IsB l) (hl : l.length ≤ 140737488355328) : Ev (fun k => crc_Update.f k (i32 s) l) (i32 (crcU s l)) := by
  have h := upd_l0 l hb hl l.length 0 (~~~ s) (by omega)
  refine Ev.congr (fun k => ?_) h
  unfold crc_Update.f
  have hx : Go.bits .xor .u32 4294967295 (i32 s) = i32 (4294967295#32 ^^^ s) := bits_xor 4294967295#32 s
  rw [hx]
  congr 2
theorem crc_su (l : List Int) (hb : IsB l) (hl : l.length ≤ 140737488355328) : Ev (fun k => crc_Sum.f k l) (i32 (crcU 0#32 l)) := by
  have h := crc_up 0#32 l hb hl
  exact Ev.bind (f := fun _ t => some t) h (Ev.now _)

/-! ### bytes -/
theorem isB_nil : IsB [] := fun x hx => by cases hx
theorem isB_append {a b : List Int} (ha : IsB a) (hb : IsB b) : IsB (a ++ b) := fun x hx => (List.mem_append.mp hx).elim (ha x) (hb x)
theorem isB_one {a : Int} (h : 0 ≤ a ∧ a < 256) : IsB [a] := fun x hx => by
  rw [List.mem_singleton] at hx
  exact hx ▸ h
theorem u8_inj {a b : Int} (ha : 0 ≤ a ∧ a < 256) (hb : 0 ≤ b ∧ b < 256) (h : UInt8.ofNat a.toNat = UInt8.ofNat b.toNat) : a = b := by
  have h1 := congrArg UInt8.toNat h
  rw [UInt8.toNat_ofNat', UInt8.toNat_ofNat'] at h1
  omega
theorem map_u8_inj : ∀ (a b : List Int), IsB a → IsB b → (a.map fun n => UInt8.ofNat n.toNat) = (b.map fun n => UInt8.ofNat n.toNat) → a = b
  | [], [], _, _, _ => rfl
  | [], y :: b, _, _, h => by simp at h
  | x :: a, [], _, _, h => by simp at h
  | x :: a, y :: b, ha, hb, h => by
    rw [List.map_cons, List.map_cons] at h
    have h1 := List.cons.inj h
    rw [u8_inj (ha x (List.mem_cons_self ..)) (hb y (List.mem_cons_self ..)) h1.1, map_u8_inj a b (fun z hz => ha z (List.mem_cons_of_mem _ hz)) (fun z hz => hb z (List.mem_cons_of_mem _ hz)) h1.2]
theorem str_inj (a b : List Int) (ha : IsB a) (hb : IsB b) (h : (strOfNums a).toList = (strOfNums b).toList) : a = b := by
  rw [ByteArray.toList_eq, ByteArray.toList_eq] at h
  exact map_u8_inj a b ha hb h

/-! ### a number as bytes of seven bits -/
theorem or128 : ∀ b : Fin 256, Go.bits .or .u8 ((b.val : Nat) : Int) 128 = ((b.val % 128 + 128 : Nat) : Int) := by decide +kernel
theorem or128' (n : Int) (h : 0 ≤ n) : Go.bits .or .u8 (n % 256) 128 = n % 128 + 128 := by
  obtain ⟨m, rfl⟩ := Int.eq_ofNat_of_zero_le h
  have h1 := or128 ⟨m % 256, Nat.mod_lt _ (by decide)⟩
  have e1 : ((m : Int)) % 256 = ((m % 256 : Nat) : Int) := by omega
  rw [e1]
  rw [show ((m : Int) % 128 + 128) = ((m % 256 % 128 + 128 : Nat) : Int) by omega]
  exact h1
def leb : Nat → Int → List Int
  | 0, _ => []
  | f + 1, n => if n < 128 then [n] else (n % 128 + 128) :: leb f (n / 128)
theorem leb_len : ∀ (f : Nat) (n : Int), (leb f n).length ≤ f
  | 0, n => Nat.le_refl _
  | f + 1, n => by
    have := leb_len f (n / 128)
    simp only [leb]
    split
    · simp
    · rw [List.length_cons]
      omega
theorem leb_B : ∀ (f : Nat) (n : Int), 0 ≤ n → IsB (leb f n)
  | 0, n, _ => isB_nil
  | f + 1, n, h => by
    have ih := leb_B f (n / 128) (by omega)
    simp only [leb]
    split
    · exact isB_one (by omega)
    · exact isB_append (a := [_]) (isB_one (by omega)) ih
theorem uint_ev : ∀ (f : Nat) (n : Int) (x0 : List Int), 0 ≤ n → n < 128 ^ (f + 1) → x0.length + (f + 1) < 140737488355328 → Ev (fun k => pack_Uint.l0 k x0 n) (x0 ++ leb (f + 1) n)
  | 0, n, x0, h0, h1, hl => by
    refine Ev.step (f := fun _ => some (x0 ++ leb 1 n)) (fun k => ?_) (Ev.now _)
    have h2 : n < 128 := by simpa using h1
    simp only [pack_Uint.l0, leb]
    rw [if_neg (by omega), if_pos (by omega), if_pos h2]
    congr 3
    omega
  | f + 1, n, x0, h0, h1, hl => by
    by_cases hc : n < 128
    · refine Ev.step (f := fun _ => some (x0 ++ leb (f + 1 + 1) n)) (fun k => ?_) (Ev.now _)
      rw [leb]
      simp only [pack_Uint.l0]
      rw [if_neg (by omega), if_pos (by omega), if_pos hc]
      congr 3
      omega
    · have hp : n / 128 < 128 ^ (f + 1) := by
        rw [Int.pow_succ] at h1
        generalize (128 : Int) ^ (f + 1) = p at h1 ⊢
        omega
      have ih := uint_ev f (n / 128) (x0 ++ [n % 128 + 128]) (by omega) hp (by rw [List.length_append]; show x0.length + 1 + (f + 1) < _; omega)
      rw [List.append_assoc] at ih
      have e : leb (f + 1 + 1) n = (n % 128 + 128) :: leb (f + 1) (n / 128) := by rw [leb, if_neg hc]
      rw [e]
      refine Ev.step (fun k => ?_) ih
      simp only [pack_Uint.l0]
      rw [if_pos (by omega), if_pos (by omega), or128' n h0]
theorem ru_leb : ∀ (f i : Nat) (n acc : Int) (pre r : List Int), pre.length = i → i + (f + 1) = 10 → 0 ≤ n → (0 < i → 0 < n) → n * 2 ^ (7 * i) < 18446744073709551616 → n < 128 ^ (f + 1) →
    ruGo (pre ++ (leb (f + 1) n ++ r)) (f + 1) i acc = (acc + n * 2 ^ (7 * i), r, 0) := by
  have fin : ∀ (f i : Nat) (n acc : Int) (pre r : List Int), pre.length = i → i + (f + 1) = 10 → 0 ≤ n → (0 < i → 0 < n) → n * 2 ^ (7 * i) < 18446744073709551616 → n < 128 →
      ruGo (pre ++ ([n] ++ r)) (f + 1) i acc = (acc + n * 2 ^ (7 * i), r, 0) := by
    intro f i n acc pre r hp hi h0 hpos h64 hlt
    have hr : rd (pre ++ ([n] ++ r)) (i : Int) = n := by
      rw [rd_get (by simp; omega)]
      rw [List.getElem_append_right (by omega)]
      simp [hp]
    simp only [ruGo]
    rw [if_pos (by simp; omega), hr, if_neg (by
      rintro ⟨rfl, h⟩
      omega), if_pos hlt, if_neg (by
      rintro ⟨rfl, h⟩
      have := hpos h
      omega)]
    have hd : (pre ++ ([n] ++ r)).drop (i + 1) = r := by
      rw [← hp, List.drop_append, List.drop_eq_nil_of_le (by omega)]
      simp
    rw [hd]
  intro f
  induction f with
  | zero =>
    intro i n acc pre r hp hi h0 hpos h64 h1
    have h2 : n < 128 := by simpa using h1
    rw [leb, if_pos h2]
    exact fin 0 i n acc pre r hp hi h0 hpos h64 h2
  | succ f ih =>
    intro i n acc pre r hp hi h0 hpos h64 h1
    by_cases hc : n < 128
    · rw [leb, if_pos hc]
      exact fin (f + 1) i n acc pre r hp hi h0 hpos h64 hc
    · have hpw : n / 128 < 128 ^ (f + 1) := by
        rw [Int.pow_succ] at h1
        generalize (128 : Int) ^ (f + 1) = p at h1 ⊢
        omega
      have e : leb (f + 1 + 1) n = (n % 128 + 128) :: leb (f + 1) (n / 128) := by rw [leb, if_neg hc]
      rw [e]
      have e7 : (2 : Int) ^ (7 * (i + 1)) = 2 ^ (7 * i) * 128 := by
        rw [show 7 * (i + 1) = 7 * i + 7 by omega, Int.pow_add]
        rfl
      have hpp : (0 : Int) < 2 ^ (7 * i) := Int.pow_pos (by decide)
      have h64' : n / 128 * 2 ^ (7 * (i + 1)) < 18446744073709551616 := by
        rw [e7]
        generalize (2 : Int) ^ (7 * i) = p at hpp h64 ⊢
        have hn : n = n % 128 + n / 128 * 128 := by omega
        have : n * p = (n % 128) * p + n / 128 * (p * 128) := by
          conv => lhs; rw [hn]
          rw [Int.add_mul, Int.mul_assoc, Int.mul_comm 128 p]
        have hm : 0 ≤ (n % 128) * p := Int.mul_nonneg (by omega) (by omega)
        omega
      have hi' := ih (i + 1) (n / 128) (acc + (n % 128) * 2 ^ (7 * i)) (pre ++ [n % 128 + 128]) r (by rw [List.length_append]; show pre.length + 1 = _; omega) (by omega) (by omega) (fun _ => by omega) h64' hpw
      have hl : pre ++ ((n % 128 + 128) :: leb (f + 1) (n / 128) ++ r) = pre ++ [n % 128 + 128] ++ (leb (f + 1) (n / 128) ++ r) := by simp
      rw [hl]
      have hr : rd (pre ++ [n % 128 + 128] ++ (leb (f + 1) (n / 128) ++ r)) (i : Int) = n % 128 + 128 := by
        rw [rd_get (by simp; omega)]
        rw [List.getElem_append_left (by simp; omega), List.getElem_append_right (by omega)]
        simp [hp]
      rw [ruGo]
      rw [if_pos (by simp; omega), hr, if_neg (by
        rintro ⟨rfl, h⟩
        omega), if_neg (by omega)]
      rw [show n % 128 + 128 - 128 = n % 128 by omega, hi', e7]
      congr 1
      generalize (2 : Int) ^ (7 * i) = p
      have hn : n = n % 128 + n / 128 * 128 := by omega
      have : n * p = (n % 128) * p + n / 128 * (p * 128) := by
        conv => lhs; rw [hn]
        rw [Int.add_mul, Int.mul_assoc, Int.mul_comm 128 p]
      omega
def enc1 (n : Int) : List Int := leb 10 n
def Sm (n : Int) : Prop := 0 ≤ n ∧ n ≤ 1099511627776
theorem enc1_len (n : Int) : (enc1 n).length ≤ 10 := leb_len 10 n
theorem enc1_B {n : Int} (h : Sm n) : IsB (enc1 n) := leb_B 10 n h.1
theorem p10 : (1099511627776 : Int) < 128 ^ (9 + 1) := by decide
theorem ru_enc {n : Int} (h : Sm n) (r : List Int) : ruP (enc1 n ++ r) = (n, r, 0) := by
  have h1 := h.1
  have h2 := h.2
  have := ru_leb 9 0 n 0 [] r rfl rfl h.1 (fun h => absurd h (by decide)) (by show n * 1 < _; omega) (Int.lt_of_le_of_lt h.2 p10)
  show ruGo _ 10 0 0 = _
  rw [List.nil_append] at this
  rw [enc1, this]
  show ((0 : Int) + n * 1, r, (0 : Int)) = _
  rw [Int.mul_one, Int.zero_add]
theorem num_enc {n most : Int} (h : Sm n) (hm : n ≤ most) (r : List Int) : numP most (enc1 n ++ r) 0 = (n, r, 0) := by
  unfold numP
  rw [ru_enc h, if_pos rfl, if_pos rfl, if_neg (by show ¬ n > most; omega)]
theorem bytes_enc {b : List Int} (h : b.length ≤ 65536) (r : List Int) : bytesP (enc1 b.length ++ (b ++ r)) 0 = (b, r, 0) := by
  have h1 : rbP (enc1 b.length ++ (b ++ r)) = (b, r, 0) := by
    unfold rbP
    rw [ru_enc (n := (b.length : Int)) ⟨by omega, by omega⟩, if_pos rfl, if_neg (by
      show ¬ (b.length : Int) > ((b ++ r).length : Int)
      rw [List.length_append]
      omega)]
    show ((b ++ r).take (b.length : Int).toNat, (b ++ r).drop (b.length : Int).toNat, (0 : Int)) = _
    rw [Int.toNat_natCast, List.take_left, List.drop_left]
  unfold bytesP
  rw [h1, if_pos rfl, if_pos rfl]
theorem uwrap {n : Int} (h : Sm n) : IntKind.u64.wrap n = n := by
  have h1 := h.1
  have h2 := h.2
  rw [IntKind.wrap_u64]
  omega
theorem one_ev {n : Int} (h : Sm n) (x0 : List Int) (hl : x0.length + 10 < 140737488355328) : Ev (fun k => pack_Uint.f k x0 (IntKind.u64.wrap n)) (x0 ++ enc1 n) := by
  rw [uwrap h]
  exact uint_ev 9 n x0 h.1 (Int.lt_of_le_of_lt h.2 p10) hl
def encN : List Int → List Int
  | [] => []
  | n :: l => enc1 n ++ encN l
theorem encN_len : ∀ l : List Int, (encN l).length ≤ 10 * l.length
  | [] => Nat.le_refl _
  | n :: l => by
    have h1 := enc1_len n
    have h2 := encN_len l
    simp only [encN, List.length_append, List.length_cons]
    omega
theorem encN_B : ∀ l : List Int, (∀ x ∈ l, Sm x) → IsB (encN l)
  | [], _ => isB_nil
  | n :: l, h => isB_append (enc1_B (h n (List.mem_cons_self ..))) (encN_B l fun x hx => h x (List.mem_cons_of_mem _ hx))
theorem numbers_ev (xs : List Int) (hx : ∀ x ∈ xs, Sm x) (hn : xs.length ≤ 100) (x0 : List Int) (hl : x0.length + 10 * xs.length < 140737488355328) : Ev (fun k => packet_numbers.f k x0 xs) (x0 ++ encN xs) := by
  have key : ∀ (d n : Nat), n + d = xs.length → ∀ x0 : List Int, x0.length + 10 * d < 140737488355328 → Ev (fun k => packet_numbers.l0 k x0 xs (xs.length : Int) (n : Int)) (x0 ++ encN (xs.drop n)) := by
    intro d
    induction d with
    | zero =>
      intro n hn x0 hl
      refine Ev.step (f := fun _ => some (x0 ++ encN (xs.drop n))) (fun k => ?_) (Ev.now _)
      simp only [packet_numbers.l0]
      rw [if_neg (by omega), List.drop_eq_nil_of_le (by omega)]
      show _ = some (x0 ++ [])
      rw [List.append_nil]
    | succ d ih =>
      intro n hn x0 hl
      have hlt : n < xs.length := by omega
      have h1 := enc1_len xs[n]
      have hi := ih (n + 1) (by omega) (x0 ++ enc1 xs[n]) (by rw [List.length_append]; omega)
      have ho := one_ev (hx _ (List.getElem_mem hlt)) x0 (by omega)
      have hd : xs.drop n = xs[n] :: xs.drop (n + 1) := List.drop_eq_getElem_cons hlt
      rw [hd]
      show Ev _ (x0 ++ (enc1 xs[n] ++ encN (xs.drop (n + 1))))
      rw [← List.append_assoc]
      refine Ev.step (fun k => ?_) (Ev.bind (f := fun k t119 => packet_numbers.l0 k t119 xs (xs.length : Int) (((n + 1 : Nat)) : Int)) ho hi)
      simp only [packet_numbers.l0]
      rw [if_pos (by omega), if_pos (by omega), if_pos (by omega), rd_get hlt, w64n (by omega)]
  have := key xs.length 0 (Nat.zero_add _) x0 hl
  exact this
theorem pbytes_ev {b : List Int} (hb : b.length ≤ 65536) (x0 : List Int) (hl : x0.length + 100000 < 140737488355328) : Ev (fun k => pack_Bytes.f k x0 b) (x0 ++ (enc1 b.length ++ b)) := by
  have h := one_ev (n := (b.length : Int)) ⟨by omega, by omega⟩ x0 (by omega)
  have h1 := enc1_len (b.length : Int)
  refine Ev.congr (fun k => by unfold pack_Bytes.f; rfl) (Ev.bind (f := fun k t122 => if t122.length + b.length < 140737488355328 then (some (t122 ++ b)) else none) h ?_)
  refine Ev.yes (by rw [List.length_append]; omega) ?_
  rw [← List.append_assoc]
  exact Ev.now _

/-! ### what Put writes -/
def encE (e : S48) : List Int := enc1 e.f0 ++ (enc1 e.f1.length ++ e.f1)
def encEs : List S48 → List Int
  | [] => []
  | e :: l => encE e ++ encEs l
def yesI (b : Bool) : Int := if b = true then 1 else 0
def encM (m : S51) : List Int := encN [m.f0, m.f1, m.f4, m.f5, m.f6, m.f7, yesI m.f8, m.f9.length] ++ (encEs m.f9 ++ (enc1 m.f10.length ++ m.f10))
def encMs : List S51 → List Int
  | [] => []
  | m :: l => encM m ++ encMs l
def encB (fr tt : Int) (ms : List S51) : List Int := encN [fr, tt, ms.length] ++ encMs ms
def okE (e : S48) : Prop := entOk e = true ∧ IsB e.f1
def okM (fr tt : Int) (m : S51) : Prop := msgOk m = true ∧ m.f2 = fr ∧ m.f3 = tt ∧ IsB m.f10 ∧ ∀ e ∈ m.f9, IsB e.f1
theorem okE_sm {e : S48} (h : entOk e = true) : Sm e.f0 ∧ e.f1.length ≤ 65536 := by
  unfold entOk at h
  simp only [Bool.and_eq_true, decide_eq_true_eq] at h
  exact ⟨⟨by omega, by omega⟩, h.2⟩
theorem msgOk_all {m : S51} (h : msgOk m = true) : Sm m.f4 ∧ Sm m.f5 ∧ Sm m.f6 ∧ Sm m.f7 ∧ (1 ≤ m.f0 ∧ m.f0 ≤ 7) ∧ (0 ≤ m.f1 ∧ m.f1 < 64) ∧ m.f9.length ≤ 8 ∧ m.f10.length ≤ 65536 ∧ ∀ e ∈ m.f9, entOk e = true := by
  unfold msgOk inI at h
  simp only [Bool.and_eq_true, decide_eq_true_eq, List.all_eq_true] at h
  obtain ⟨⟨⟨⟨⟨⟨⟨⟨h4, h5⟩, h6⟩, h7⟩, h0⟩, h1⟩, h9⟩, h10⟩, he⟩ := h
  exact ⟨h4, h5, h6, h7, h0, h1, h9, h10, he⟩
theorem encE_len {e : S48} (h : entOk e = true) : (encE e).length ≤ 65556 := by
  have h1 := (okE_sm h).2
  have h2 := enc1_len e.f0
  have h3 := enc1_len (e.f1.length : Int)
  simp only [encE, List.length_append]
  omega
theorem encEs_len : ∀ l : List S48, (∀ e ∈ l, entOk e = true) → (encEs l).length ≤ 65556 * l.length
  | [], _ => Nat.le_refl _
  | e :: l, h => by
    have h1 := encE_len (h e (List.mem_cons_self ..))
    have h2 := encEs_len l fun x hx => h x (List.mem_cons_of_mem _ hx)
    simp only [encEs, List.length_append, List.length_cons]
    omega
theorem encM_len {m : S51} (h : msgOk m = true) : (encM m).length ≤ 600000 := by
  have ha := msgOk_all h
  have h1 := encEs_len m.f9 ha.2.2.2.2.2.2.2.2
  have h2 := encN_len [m.f0, m.f1, m.f4, m.f5, m.f6, m.f7, yesI m.f8, m.f9.length]
  have h3 := enc1_len (m.f10.length : Int)
  have h4 := ha.2.2.2.2.2.2.1
  have h5 := ha.2.2.2.2.2.2.2.1
  simp only [encM, List.length_append]
  simp only [List.length_cons, List.length_nil] at h2
  omega
theorem encEs_B : ∀ l : List S48, (∀ e ∈ l, entOk e = true) → (∀ e ∈ l, IsB e.f1) → IsB (encEs l)
  | [], _, _ => isB_nil
  | e :: l, h, hb => by
    have h1 := okE_sm (h e (List.mem_cons_self ..))
    exact isB_append (isB_append (enc1_B h1.1) (isB_append (enc1_B ⟨by omega, by omega⟩) (hb e (List.mem_cons_self ..)))) (encEs_B l (fun x hx => h x (List.mem_cons_of_mem _ hx)) fun x hx => hb x (List.mem_cons_of_mem _ hx))
theorem nums_sm {m : S51} (h : msgOk m = true) : ∀ x ∈ [m.f0, m.f1, m.f4, m.f5, m.f6, m.f7, yesI m.f8, (m.f9.length : Int)], Sm x := by
  obtain ⟨h4, h5, h6, h7, h0, h1, h9, h10, he⟩ := msgOk_all h
  intro x hx
  simp only [List.mem_cons, List.mem_nil_iff, or_false] at hx
  rcases hx with rfl | rfl | rfl | rfl | rfl | rfl | rfl | rfl
  · exact ⟨by omega, by omega⟩
  · exact ⟨by omega, by omega⟩
  · exact h4
  · exact h5
  · exact h6
  · exact h7
  · unfold yesI Sm
    split <;> omega
  · exact ⟨by omega, by omega⟩
theorem encM_B {fr tt : Int} {m : S51} (h : okM fr tt m) : IsB (encM m) := by
  have ha := msgOk_all h.1
  refine isB_append (encN_B _ (nums_sm h.1)) (isB_append (encEs_B _ ha.2.2.2.2.2.2.2.2 h.2.2.2.2) (isB_append (enc1_B ⟨by omega, ?_⟩) h.2.2.2.1))
  have := ha.2.2.2.2.2.2.2.1
  omega
theorem encMs_B {fr tt : Int} : ∀ l : List S51, (∀ m ∈ l, okM fr tt m) → IsB (encMs l)
  | [], _ => isB_nil
  | m :: l, h => isB_append (encM_B (h m (List.mem_cons_self ..))) (encMs_B l fun x hx => h x (List.mem_cons_of_mem _ hx))
theorem encMs_len {fr tt : Int} : ∀ l : List S51, (∀ m ∈ l, okM fr tt m) → (encMs l).length ≤ 600000 * l.length
  | [], _ => Nat.le_refl _
  | m :: l, h => by
    have h1 := encM_len (h m (List.mem_cons_self ..)).1
    have h2 := encMs_len l fun x hx => h x (List.mem_cons_of_mem _ hx)
    simp only [encMs, List.length_append, List.length_cons]
    omega
theorem sumL_B (s : Int) : IsB (sumL s) := by
  intro c hc
  simp only [sumL, List.mem_cons, List.mem_nil_iff, or_false] at hc
  rcases hc with rfl | rfl | rfl | rfl <;> omega
def encT (T : List Int) : List Int := T ++ sumL (i32 (crcU 0#32 T))
theorem put_l1 (ms : List S51) (i : Nat) (hi : i < 256) (m : S51) (ha : msgOk m = true) (R : List Int × Int) :
    ∀ (d n : Nat), n + d = m.f9.length → ∀ x5 : List Int, x5.length + 65556 * d + 200000 < 140737488355328 → Ev (fun k => packet_Put.l0 k (x5 ++ (encEs (m.f9.drop n) ++ (enc1 m.f10.length ++ m.f10))) ms (ms.length : Int) ((i + 1 : Nat) : Int)) R →
      Ev (fun k => packet_Put.l1 k x5 ms (ms.length : Int) (i : Int) m.f9 (m.f9.length : Int) (n : Int) m.f0 m.f1 m.f2 m.f3 m.f4 m.f5 m.f6 m.f7 m.f8 m.f9 m.f10) R := by
  obtain ⟨h4, h5, h6, h7, h0, h1, h9, h10, he⟩ := msgOk_all ha
  intro d
  induction d with
  | zero =>
    intro n hn x5 hl K
    have e0 : ∀ l : List Int, encEs [] ++ l = l := fun _ => rfl
    rw [List.drop_eq_nil_of_le (by omega), e0] at K
    have hb := pbytes_ev h10 x5 (by omega)
    refine Ev.step (fun k => ?_) (Ev.bind (f := fun k t165 => packet_Put.l0 k t165 ms (ms.length : Int) ((i + 1 : Nat) : Int)) hb K)
    simp only [packet_Put.l1]
    rw [if_neg (by omega), w64n (by omega)]
  | succ d ih =>
    intro n hn x5 hl K
    have hlt : n < m.f9.length := by omega
    have hok := he _ (List.getElem_mem hlt)
    have hsm := okE_sm hok
    have hel := encE_len hok
    have hd : m.f9.drop n = m.f9[n] :: m.f9.drop (n + 1) := List.drop_eq_getElem_cons hlt
    rw [hd] at K
    have e1 : x5 ++ (encEs (m.f9[n] :: m.f9.drop (n + 1)) ++ (enc1 m.f10.length ++ m.f10)) = (x5 ++ encE m.f9[n]) ++ (encEs (m.f9.drop (n + 1)) ++ (enc1 m.f10.length ++ m.f10)) := by
      simp only [encEs, List.append_assoc]
    rw [e1] at K
    have hi := ih (n + 1) (by omega) (x5 ++ encE m.f9[n]) (by rw [List.length_append]; omega) K
    have hn1 := numbers_ev [m.f9[n].f0] (fun x hx => by rw [List.mem_singleton] at hx; exact hx ▸ hsm.1) (by simp) x5 (by show x5.length + 10 * 1 < _; omega)
    have h1l := enc1_len m.f9[n].f0
    have e2 : encN [m.f9[n].f0] = enc1 m.f9[n].f0 := by show _ ++ [] = _; rw [List.append_nil]
    rw [e2] at hn1
    have hb1 := pbytes_ev hsm.2 (x5 ++ enc1 m.f9[n].f0) (by rw [List.length_append]; omega)
    rw [List.append_assoc] at hb1
    refine Ev.step (fun k => ?_) (Ev.bind (f := fun k t159 => (pack_Bytes.f k t159 m.f9[n].f1).bind fun t162 => packet_Put.l1 k t162 ms (ms.length : Int) (i : Int) m.f9 (m.f9.length : Int) ((n + 1 : Nat) : Int) m.f0 m.f1 m.f2 m.f3 m.f4 m.f5 m.f6 m.f7 m.f8 m.f9 m.f10) hn1 (Ev.bind (f := fun k t162 => packet_Put.l1 k t162 ms (ms.length : Int) (i : Int) m.f9 (m.f9.length : Int) ((n + 1 : Nat) : Int) m.f0 m.f1 m.f2 m.f3 m.f4 m.f5 m.f6 m.f7 m.f8 m.f9 m.f10) hb1 hi))
    simp only [packet_Put.l1]
    rw [if_pos (by omega), if_pos (by omega), if_pos (by omega), rd48 hlt, w64n (by omega)]
theorem yes_eq (b : Bool) : packet_yes.f b = some (yesI b) := by
  unfold packet_yes.f yesI
  cases b <;> rfl
theorem put_l0 (fr tt : Int) (ms : List S51) (hm : ms.length ≤ 256) (hok : ∀ m ∈ ms, okM fr tt m) : ∀ (d n : Nat), n + d = ms.length → ∀ x5 : List Int, IsB x5 → x5.length + 600000 * d + 200000 < 140737488355328 →
    Ev (fun k => packet_Put.l0 k x5 ms (ms.length : Int) (n : Int)) (encT (x5 ++ encMs (ms.drop n)), 0) := by
  intro d
  induction d with
  | zero =>
    intro n hn x5 hb hl
    rw [List.drop_eq_nil_of_le (by omega)]
    have hs := crc_su x5 hb (by omega)
    have e : x5 ++ encMs [] = x5 := List.append_nil _
    rw [e]
    refine Ev.step (fun k => ?_) (Ev.bind (f := fun k t138 => (if x5.length + (sumL t138).length < 140737488355328 then (some ((x5 ++ sumL t138), (0 : Int))) else (none))) hs (Ev.yes (by show x5.length + 4 < _; omega) (Ev.now _)))
    simp only [packet_Put.l0]
    rw [if_neg (by omega)]
    rfl
  | succ d ih =>
    intro n hn x5 hb hl
    have hlt : n < ms.length := by omega
    have ho := hok _ (List.getElem_mem hlt)
    have hml := encM_len ho.1
    have hmb := encM_B ho
    have hi := ih (n + 1) (by omega) (x5 ++ encM ms[n]) (isB_append hb hmb) (by rw [List.length_append]; omega)
    have hd : ms.drop n = ms[n] :: ms.drop (n + 1) := List.drop_eq_getElem_cons hlt
    rw [hd]
    have e1 : x5 ++ encMs (ms[n] :: ms.drop (n + 1)) = x5 ++ encM ms[n] ++ encMs (ms.drop (n + 1)) := by
      rw [encMs, List.append_assoc]
    rw [e1]
    have hnl := encN_len [ms[n].f0, ms[n].f1, ms[n].f4, ms[n].f5, ms[n].f6, ms[n].f7, yesI ms[n].f8, (ms[n].f9.length : Int)]
    simp only [List.length_cons, List.length_nil] at hnl
    have h9 := (msgOk_all ho.1).2.2.2.2.2.2.1
    have hn1 := numbers_ev [ms[n].f0, ms[n].f1, ms[n].f4, ms[n].f5, ms[n].f6, ms[n].f7, yesI ms[n].f8, (ms[n].f9.length : Int)] (nums_sm ho.1) (by simp) x5 (by simp only [List.length_cons, List.length_nil]; omega)
    have hK := put_l1 ms n (by omega) ms[n] ho.1 _ ms[n].f9.length 0 (Nat.zero_add _) (x5 ++ encN [ms[n].f0, ms[n].f1, ms[n].f4, ms[n].f5, ms[n].f6, ms[n].f7, yesI ms[n].f8, (ms[n].f9.length : Int)]) (by rw [List.length_append]; omega) (by
      rw [List.drop_zero, List.append_assoc]
      exact hi)
    refine Ev.step (fun k => ?_) (Ev.bind (f := fun k t151 => packet_Put.l1 k t151 ms (ms.length : Int) (n : Int) ms[n].f9 (ms[n].f9.length : Int) 0 ms[n].f0 ms[n].f1 ms[n].f2 ms[n].f3 ms[n].f4 ms[n].f5 ms[n].f6 ms[n].f7 ms[n].f8 ms[n].f9 ms[n].f10) hn1 hK)
    simp only [packet_Put.l0]
    rw [if_pos (by omega), if_pos (by omega), if_pos (by omega), rd51 hlt, yes_eq]
    rfl

/-! ### Check -/
def okP (fr tt : Int) (ms : List S51) : Prop := (1 ≤ fr ∧ fr ≤ 7) ∧ (1 ≤ tt ∧ tt ≤ 7) ∧ ms.length ≤ 256 ∧ ∀ m ∈ ms, msgOk m = true ∧ m.f2 = fr ∧ m.f3 = tt
theorem check_l0 (fr tt : Int) (ms : List S51) (hl : ms.length ≤ 256) : ∀ (d n : Nat), n + d = ms.length → (∀ (j : Nat) (h : j < ms.length), j < n → msgOk ms[j] = true ∧ ms[j].f2 = fr ∧ ms[j].f3 = tt) →
    ∃ c, Ev (fun k => packet_Check.l0 k ms (ms.length : Int) (n : Int) fr tt ms) c ∧ (c = 0 → ∀ m ∈ ms, msgOk m = true ∧ m.f2 = fr ∧ m.f3 = tt) := by
  intro d
  induction d with
  | zero =>
    intro n hn hb
    refine ⟨0, Ev.step (f := fun _ => some 0) (fun k => ?_) (Ev.now _), fun _ m hm => ?_⟩
    · simp only [packet_Check.l0]
      rw [if_neg (by omega)]
    · obtain ⟨j, hj, rfl⟩ := List.mem_iff_getElem.mp hm
      exact hb j hj (by omega)
  | succ d ih =>
    intro n hn hb
    have hlt : n < ms.length := by omega
    by_cases h2 : ms[n].f2 = fr
    · by_cases h3 : ms[n].f3 = tt
      · by_cases hk : msgOk ms[n] = true
        · obtain ⟨c, hc, hz⟩ := ih (n + 1) (by omega) (fun j hj hjn => by
            by_cases e : j = n
            · subst e
              exact ⟨hk, h2, h3⟩
            · exact hb j hj (by omega))
          refine ⟨c, Ev.step (fun k => ?_) hc, hz⟩
          simp only [packet_Check.l0]
          rw [if_pos (by omega), if_pos (by omega), if_pos (by omega), rd51 hlt, if_pos h2, if_pos h3]
          simp only [packet_msg.f, Option.bind_some, eta51]
          rw [if_pos hk, w64n (by omega)]
        · refine ⟨1, Ev.step (f := fun _ => some 1) (fun k => ?_) (Ev.now _), fun h => by cases h⟩
          simp only [packet_Check.l0]
          rw [if_pos (by omega), if_pos (by omega), if_pos (by omega), rd51 hlt, if_pos h2, if_pos h3]
          simp only [packet_msg.f, Option.bind_some, eta51]
          rw [if_neg hk]
      · refine ⟨1, Ev.step (f := fun _ => some 1) (fun k => ?_) (Ev.now _), fun h => by cases h⟩
        simp only [packet_Check.l0]
        rw [if_pos (by omega), if_pos (by omega), if_pos (by omega), rd51 hlt, if_pos h2, if_neg h3]
    · refine ⟨1, Ev.step (f := fun _ => some 1) (fun k => ?_) (Ev.now _), fun h => by cases h⟩
      simp only [packet_Check.l0]
      rw [if_pos (by omega), if_pos (by omega), if_pos (by omega), rd51 hlt, if_neg h2]
theorem node_eq (a : Int) : packet_node.f a = some (decide (1 ≤ a ∧ a ≤ 7)) := by
  unfold packet_node.f
  by_cases h : a ≥ 1
  · rw [if_pos h]
    congr 1
    by_cases h7 : a ≤ 7
    · rw [decide_eq_true h7, decide_eq_true ⟨h, h7⟩]
    · rw [decide_eq_false h7, decide_eq_false (fun c => h7 c.2)]
  · rw [if_neg h, decide_eq_false (fun c => h c.1)]
theorem check_ev (fr tt : Int) (ms : List S51) : ∃ c, Ev (fun k => packet_Check.f k fr tt ms) c ∧ (c = 0 → okP fr tt ms) := by
  have bad : Ev (fun k => packet_Check.j0 k true fr tt ms) 1 := Ev.step (f := fun _ => some 1) (fun k => by simp only [packet_Check.j0]; rw [if_pos trivial]) (Ev.now _)
  by_cases hf : 1 ≤ fr ∧ fr ≤ 7
  · by_cases ht : 1 ≤ tt ∧ tt ≤ 7
    · by_cases he : fr = tt
      · refine ⟨1, Ev.congr (fun k => ?_) bad, fun h => by cases h⟩
        unfold packet_Check.f
        rw [node_eq, node_eq, decide_eq_true hf, decide_eq_true ht, he]
        show packet_Check.j0 k (tt == tt) tt tt ms = packet_Check.j0 k true tt tt ms
        rw [beq_self_eq_true]
      · have hne : (fr == tt) = false := beq_eq_false_iff_ne.mpr he
        by_cases hl : ms.length ≤ 256
        · obtain ⟨c, hc, hz⟩ := check_l0 fr tt ms hl ms.length 0 (Nat.zero_add _) (fun j _ hj => absurd hj (Nat.not_lt_zero _))
          refine ⟨c, Ev.congr (fun k => ?_) (Ev.step (g := fun k => packet_Check.j0 k false fr tt ms) (fun k => ?_) hc), fun h => ⟨hf, ht, hl, hz h⟩⟩
          · unfold packet_Check.f
            rw [node_eq, node_eq, decide_eq_true hf, decide_eq_true ht, hne]
            rfl
          · simp only [packet_Check.j0]
            rw [if_neg (by decide), if_neg (by omega)]
            rfl
        · refine ⟨6, Ev.congr (fun k => ?_) (Ev.step (g := fun k => packet_Check.j0 k false fr tt ms) (f := fun _ => some 6) (fun k => ?_) (Ev.now _)), fun h => by cases h⟩
          · unfold packet_Check.f
            rw [node_eq, node_eq, decide_eq_true hf, decide_eq_true ht, hne]
            rfl
          · simp only [packet_Check.j0]
            rw [if_neg (by decide), if_pos (by omega)]
    · refine ⟨1, Ev.congr (fun k => ?_) bad, fun h => by cases h⟩
      unfold packet_Check.f
      rw [node_eq, node_eq, decide_eq_true hf, decide_eq_false ht]
      rfl
  · refine ⟨1, Ev.congr (fun k => ?_) bad, fun h => by cases h⟩
    unfold packet_Check.f
    rw [node_eq, decide_eq_false hf]
    rfl

/-! ### Put -/
def fineB (ms : List S51) : Prop := ∀ m ∈ ms, IsB m.f10 ∧ ∀ e ∈ m.f9, IsB e.f1
theorem okP_okM {fr tt : Int} {ms : List S51} (h : okP fr tt ms) (hb : fineB ms) : ∀ m ∈ ms, okM fr tt m := fun m hm => ⟨(h.2.2.2 m hm).1, (h.2.2.2 m hm).2.1, (h.2.2.2 m hm).2.2, (hb m hm).1, (hb m hm).2⟩
theorem three_sm {fr tt : Int} {ms : List S51} (h : okP fr tt ms) : ∀ x ∈ [fr, tt, (ms.length : Int)], Sm x := by
  obtain ⟨hf, ht, hl, _⟩ := h
  intro x hx
  simp only [List.mem_cons, List.mem_nil_iff, or_false] at hx
  rcases hx with rfl | rfl | rfl <;> exact ⟨by omega, by omega⟩
theorem encB_B {fr tt : Int} {ms : List S51} (h : okP fr tt ms) (hb : fineB ms) : IsB (encB fr tt ms) := isB_append (encN_B _ (three_sm h)) (encMs_B ms (okP_okM h hb))
theorem encB_len {fr tt : Int} {ms : List S51} (h : okP fr tt ms) (hb : fineB ms) : (encB fr tt ms).length ≤ 200000000 := by
  have h1 := encMs_len ms (okP_okM h hb)
  have h2 := encN_len [fr, tt, (ms.length : Int)]
  have h3 := h.2.2.1
  simp only [List.length_cons, List.length_nil] at h2
  simp only [encB, List.length_append]
  omega
theorem encT_B {T : List Int} (h : IsB T) : IsB (encT T) := isB_append h (sumL_B _)
theorem encT_len (T : List Int) : (encT T).length = T.length + 4 := by rw [encT, List.length_append]; rfl
theorem put_ev (fr tt : Int) (ms : List S51) (hb : fineB ms) : ∃ c, Ev (fun k => packet_Check.f k fr tt ms) c ∧ ((c = 0 ∧ okP fr tt ms ∧ Ev (fun k => packet_Put.f k fr tt ms) (encT (encB fr tt ms), 0)) ∨ (c ≠ 0 ∧ Ev (fun k => packet_Put.f k fr tt ms) ([], c))) := by
  obtain ⟨c, hc, hz⟩ := check_ev fr tt ms
  refine ⟨c, hc, ?_⟩
  by_cases h0 : c = 0
  · subst h0
    have ok := hz rfl
    have hl := ok.2.2.1
    refine .inl ⟨rfl, ok, ?_⟩
    have hn := numbers_ev [fr, tt, (ms.length : Int)] (three_sm ok) (by simp) [] (by simp)
    have h2 := encN_len [fr, tt, (ms.length : Int)]
    simp only [List.length_cons, List.length_nil] at h2
    have hp := put_l0 fr tt ms hl (okP_okM ok hb) ms.length 0 (Nat.zero_add _) ([] ++ encN [fr, tt, (ms.length : Int)]) (by rw [List.nil_append]; exact encN_B _ (three_sm ok)) (by rw [List.nil_append]; omega)
    rw [List.drop_zero] at hp
    refine Ev.congr (fun k => by unfold packet_Put.f; rfl) (Ev.bind (f := fun k t131 => (if t131 = 0 then ((packet_numbers.f k ([] : List Int) (([fr, tt, (ms.length : Int)] : List Int))).bind fun t135 => (packet_Put.l0 k t135 ms (ms.length : Int) 0)) else (some (([] : List Int), t131)))) hc (Ev.yes rfl (Ev.bind (f := fun k t135 => packet_Put.l0 k t135 ms (ms.length : Int) 0) hn hp)))
  · refine .inr ⟨h0, ?_⟩
    refine Ev.congr (fun k => by unfold packet_Put.f; rfl) (Ev.bind (f := fun k t131 => (if t131 = 0 then ((packet_numbers.f k ([] : List Int) (([fr, tt, (ms.length : Int)] : List Int))).bind fun t135 => (packet_Put.l0 k t135 ms (ms.length : Int) 0)) else (some (([] : List Int), t131)))) hc (Ev.no h0 (Ev.now _)))
theorem fine_B {ms : List S51} (h : ∀ y ∈ ms, fineT51 y) : fineB ms := by
  have u8 : ∀ y : Int, (Lit.int .u8 y).wf = true → 0 ≤ y ∧ y < 256 := by
    intro y hy
    have e1 : IntKind.u8.min = 0 := rfl
    have e2 : IntKind.u8.max = 255 := rfl
    simp [Lit.wf, e1, e2] at hy
    omega
  intro m hm
  have hf := (h m hm).2.2.2.2.2.2.2.2.2
  exact ⟨fun x hx => u8 x (hf.2.2 x hx), fun e he x hx => u8 x ((hf.1.2 e he).2.2 x hx)⟩
theorem fine_w {ms : List S51} (hl : ms.length * 120 ≤ 140737488351232) (h : ∀ y ∈ ms, fineT51 y) : weighL ms := ⟨by omega, fun y hy => by
  have := (h y hy).2.2.2.2.2.2.2.2.2.1.1
  omega⟩

/-! ### four bytes that are turned turn the sum -/
theorem rnd_eq (s : BitVec 32) : rnd s = (s >>> 1) ^^^ (if s.getLsbD 0 = true then 3988292384#32 else 0#32) := by
  unfold rnd
  by_cases h : s &&& 1#32 = 1#32
  · rw [if_pos h, if_pos ((bit0 s).1 h)]
  · rw [if_neg h, if_neg (fun c => h ((bit0 s).2 c)), BitVec.xor_zero]
theorem rnd_xor (a b : BitVec 32) : rnd (a ^^^ b) = rnd a ^^^ rnd b := by
  rw [rnd_eq, rnd_eq, rnd_eq, BitVec.getLsbD_xor]
  apply BitVec.eq_of_getLsbD_eq
  intro i hi
  cases a.getLsbD 0 <;> cases b.getLsbD 0 <;> simp [BitVec.getLsbD_xor, BitVec.getLsbD_ushiftRight] <;> cases a.getLsbD (1 + i) <;> cases b.getLsbD (1 + i) <;> simp
theorem rnds_xor : ∀ (n : Nat) (a b : BitVec 32), rnds n (a ^^^ b) = rnds n a ^^^ rnds n b
  | 0, _, _ => rfl
  | n + 1, a, b => by
    show rnds n (rnd (a ^^^ b)) = _
    rw [rnd_xor, rnds_xor n]
    rfl
theorem rnds_add : ∀ (m n : Nat) (s : BitVec 32), rnds (m + n) s = rnds n (rnds m s)
  | 0, n, s => by rw [Nat.zero_add]; rfl
  | m + 1, n, s => by
    rw [show m + 1 + n = m + n + 1 by omega]
    exact rnds_add m n (rnd s)
def bw (c i : Nat) : BitVec 32 := BitVec.ofNat 32 (c * 2 ^ i)
theorem bw8 : ∀ c : Fin 256, rnds 8 (bw c.val 8) = bw c.val 0 := by decide +kernel
theorem bw16 : ∀ c : Fin 256, rnds 16 (bw c.val 16) = bw c.val 0 := by decide +kernel
theorem bw24 : ∀ c : Fin 256, rnds 24 (bw c.val 24) = bw c.val 0 := by decide +kernel
def w4 (a b c d : Nat) : BitVec 32 := ((bw a 0 ^^^ bw b 8) ^^^ bw c 16) ^^^ bw d 24
theorem bw_int (c : Nat) : BitVec.ofInt 32 (c : Int) = bw c 0 := by
  unfold bw
  rw [BitVec.ofInt_natCast]
  congr 1
  omega
theorem upd4 (s : BitVec 32) (a b c d : Nat) (hb : b < 256) (hc : c < 256) (hd : d < 256) : upd s [(a : Int), (b : Int), (c : Int), (d : Int)] = rnds 32 (s ^^^ w4 a b c d) := by
  have e8 := bw8 ⟨b, hb⟩
  have e16 := bw16 ⟨c, hc⟩
  have e24 := bw24 ⟨d, hd⟩
  show byte8 (byte8 (byte8 (byte8 s (a : Int)) (b : Int)) (c : Int)) (d : Int) = _
  unfold byte8
  rw [bw_int, bw_int, bw_int, bw_int]
  dsimp only at e8 e16 e24
  rw [← e8, ← rnds_xor, ← rnds_add, ← e16, ← rnds_xor, ← rnds_add, ← e24, ← rnds_xor, ← rnds_add]
  unfold w4
  simp only [BitVec.xor_assoc]
theorem nat_disj (i a b : Nat) (h : a < 2 ^ i) : a ^^^ (b * 2 ^ i) = a + b * 2 ^ i := by
  apply Nat.eq_of_testBit_eq
  intro j
  rw [Nat.testBit_xor, Nat.add_comm, Nat.mul_comm b, Nat.testBit_two_pow_mul_add _ h, Nat.testBit_two_pow_mul]
  by_cases hj : j < i
  · rw [if_pos hj]
    have : decide (j ≥ i) = false := decide_eq_false (by omega)
    rw [this]
    simp
  · rw [if_neg hj]
    have h1 : decide (j ≥ i) = true := decide_eq_true (by omega)
    have h2 : a.testBit j = false := Nat.testBit_lt_two_pow (Nat.lt_of_lt_of_le h (Nat.pow_le_pow_right (by decide) (by omega)))
    rw [h1, h2]
    simp
theorem bv_xor (a b : Nat) (ha : a < 2 ^ 32) (hb : b < 2 ^ 32) : BitVec.ofNat 32 a ^^^ BitVec.ofNat 32 b = BitVec.ofNat 32 (a ^^^ b) := by
  have := Nat.xor_lt_two_pow ha hb
  apply BitVec.eq_of_toNat_eq
  rw [BitVec.toNat_xor, BitVec.toNat_ofNat, BitVec.toNat_ofNat, BitVec.toNat_ofNat, Nat.mod_eq_of_lt ha, Nat.mod_eq_of_lt hb, Nat.mod_eq_of_lt this]
theorem w4_sum (a b c d : Nat) (ha : a < 256) (hb : b < 256) (hc : c < 256) (hd : d < 256) : w4 a b c d = BitVec.ofNat 32 (a + b * 256 + c * 65536 + d * 16777216) := by
  unfold w4 bw
  have e1 : a * 2 ^ 0 = a := by omega
  rw [e1, bv_xor _ _ (by omega) (by omega), nat_disj 8 a b (by omega), bv_xor _ _ (by omega) (by omega), nat_disj 16 _ c (by omega), bv_xor _ _ (by omega) (by omega), nat_disj 24 _ d (by omega)]
theorem bw_xor (a b i : Nat) (ha : a * 2 ^ i < 2 ^ 32) (hb : b * 2 ^ i < 2 ^ 32) : bw (a ^^^ b) i = bw a i ^^^ bw b i := by
  unfold bw
  rw [bv_xor _ _ ha hb]
  congr 1
  rw [← Nat.shiftLeft_eq, ← Nat.shiftLeft_eq, ← Nat.shiftLeft_eq, Nat.shiftLeft_xor_distrib]
theorem w4_xor (a b c d x y z u : Nat) (ha : a < 256) (hb : b < 256) (hc : c < 256) (hd : d < 256) (hx : x < 256) (hy : y < 256) (hz : z < 256) (hu : u < 256) :
    w4 (a ^^^ x) (b ^^^ y) (c ^^^ z) (d ^^^ u) = w4 a b c d ^^^ w4 x y z u := by
  unfold w4
  rw [bw_xor a x 0 (by omega) (by omega), bw_xor b y 8 (by omega) (by omega), bw_xor c z 16 (by omega) (by omega), bw_xor d u 24 (by omega) (by omega)]
  apply BitVec.eq_of_getLsbD_eq
  intro i hi
  simp only [BitVec.getLsbD_xor]
  cases (bw a 0).getLsbD i <;> cases (bw b 8).getLsbD i <;> cases (bw c 16).getLsbD i <;> cases (bw d 24).getLsbD i <;> simp
theorem bits8 (a b : Nat) (ha : a < 256) (hb : b < 256) : Go.bits .xor .u8 (a : Int) (b : Int) = ((a ^^^ b : Nat) : Int) := by
  have h : a ^^^ b < 2 ^ 8 := Nat.xor_lt_two_pow ha hb
  show IntKind.u8.wrap ((BitVec.ofInt 8 a ^^^ BitVec.ofInt 8 b).toNat : Int) = _
  rw [BitVec.toNat_xor, BitVec.ofInt_natCast, BitVec.ofInt_natCast, BitVec.toNat_ofNat, BitVec.toNat_ofNat, Nat.mod_eq_of_lt ha, Nat.mod_eq_of_lt hb, IntKind.wrap_u8]
  omega

/-- What a list that ends with its own sum leaves. -/
theorem upd_encT (B : List Int) : upd (~~~ 0#32) (encT B) = rnds 32 (~~~ 0#32) := by
  unfold encT
  rw [upd_append]
  generalize hS : upd (~~~ 0#32) B = S
  have hc : crcU 0#32 B = ~~~ S := by unfold crcU; rw [hS]
  rw [hc]
  have hv := (~~~ S).isLt
  generalize hn : (~~~ S).toNat = n at hv
  have e : sumL (i32 (~~~ S)) = [((n % 256 : Nat) : Int), ((n / 256 % 256 : Nat) : Int), ((n / 65536 % 256 : Nat) : Int), ((n / 16777216 % 256 : Nat) : Int)] := by
    unfold sumL i32
    rw [hn]
    simp only [List.cons.injEq]
    refine ⟨by omega, by omega, by omega, by omega, trivial⟩
  rw [e, upd4 S _ _ _ _ (by omega) (by omega) (by omega), w4_sum _ _ _ _ (by omega) (by omega) (by omega) (by omega)]
  have en : n % 256 + n / 256 % 256 * 256 + n / 65536 % 256 * 65536 + n / 16777216 % 256 * 16777216 = n := by omega
  rw [en, ← hn, BitVec.ofNat_toNat, BitVec.setWidth_eq]
  congr 1
  apply BitVec.eq_of_getLsbD_eq
  intro i hi
  simp only [BitVec.getLsbD_xor, BitVec.getLsbD_not, hi, decide_true, Bool.true_and]
  cases S.getLsbD i <;> simp

theorem turned_ne (pre post : List Int) (a b c d m : Nat) (B B' : List Int) (ha : a < 256) (hb : b < 256) (hc : c < 256) (hd : d < 256) (hm0 : m ≠ 0) (hm : m < 4294967296)
    (h1 : pre ++ ((a : Int) :: (b : Int) :: (c : Int) :: (d : Int) :: post) = encT B)
    (h2 : pre ++ (((a ^^^ m % 256 : Nat) : Int) :: ((b ^^^ m / 256 % 256 : Nat) : Int) :: ((c ^^^ m / 65536 % 256 : Nat) : Int) :: ((d ^^^ m / 16777216 % 256 : Nat) : Int) :: post) = encT B') : False := by
  have k1 := upd_encT B
  have k2 := upd_encT B'
  rw [← h1] at k1
  rw [← h2, ← k1] at k2
  have x0 : a ^^^ m % 256 < 2 ^ 8 := Nat.xor_lt_two_pow ha (by omega)
  have x1 : b ^^^ m / 256 % 256 < 2 ^ 8 := Nat.xor_lt_two_pow hb (by omega)
  have x2 : c ^^^ m / 65536 % 256 < 2 ^ 8 := Nat.xor_lt_two_pow hc (by omega)
  have x3 : d ^^^ m / 16777216 % 256 < 2 ^ 8 := Nat.xor_lt_two_pow hd (by omega)
  have sp : ∀ (p q r s : Int), pre ++ (p :: q :: r :: s :: post) = pre ++ [p, q, r, s] ++ post := by
    intro p q r s
    simp
  rw [sp, sp, upd_append, upd_append, upd_append, upd_append] at k2
  have k3 := upd_inj post k2
  rw [upd4 _ _ _ _ _ x1 x2 x3, upd4 _ _ _ _ _ hb hc hd] at k3
  have k4 := rnds_inj 32 k3
  rw [BitVec.xor_comm _ (w4 _ _ _ _), BitVec.xor_comm _ (w4 a b c d)] at k4
  have k5 := xor_cancel k4
  rw [w4_xor _ _ _ _ _ _ _ _ ha hb hc hd (by omega) (by omega) (by omega) (by omega)] at k5
  have k6 : w4 (m % 256) (m / 256 % 256) (m / 65536 % 256) (m / 16777216 % 256) = 0#32 := by
    refine xor_cancel (c := w4 a b c d) ?_
    rw [BitVec.xor_comm, k5, BitVec.zero_xor]
  rw [w4_sum _ _ _ _ (by omega) (by omega) (by omega) (by omega)] at k6
  have en : m % 256 + m / 256 % 256 * 256 + m / 65536 % 256 * 65536 + m / 16777216 % 256 * 16777216 = m := by omega
  rw [en] at k6
  have k7 := congrArg BitVec.toNat k6
  rw [BitVec.toNat_ofNat] at k7
  have : (0#32).toNat = 0 := rfl
  omega

/-! ### the loop that turns, and Read of it -/
theorem wrap_u64 (n : Int) : IntKind.u64.wrap n = n % 18446744073709551616 := by simp [IntKind.wrap, IntKind.bits, IntKind.signed]
theorem some_place (x : Int) (m : Nat) (h0 : 0 < m) (h1 : m ≤ 1000000000) : ∃ c : Nat, c < m ∧ wrap64 (Int.tmod (IntKind.u64.wrap x) (IntKind.u64.wrap (m : Int))) = (c : Int) := by
  rw [wrap_u64, wrap_u64]
  have e : (m : Int) % 18446744073709551616 = (m : Int) := by omega
  have hx : 0 ≤ x % 18446744073709551616 := by omega
  rw [e, Int.tmod_eq_emod_of_nonneg hx]
  have h2 := Int.emod_nonneg (x % 18446744073709551616) (show (m : Int) ≠ 0 by omega)
  have h3 := Int.emod_lt_of_pos (x % 18446744073709551616) (show (0 : Int) < (m : Int) by omega)
  obtain ⟨c, hc⟩ := Int.eq_ofNat_of_zero_le h2
  refine ⟨c, by omega, ?_⟩
  rw [hc]
  exact w64 (by omega) (by omega)
theorem turn_step (x2 : Int) (pre r : List Int) (p : Nat) (hp : pre.length = p) (j : Nat) (hj : j < 4) (hr : j < r.length) (hl : p + r.length < 1000000000) (k : Nat) :
    funicularlaw17_PacketTurned.l0 (k + 1) x2 (p : Int) (pre ++ r) (j : Int) = funicularlaw17_PacketTurned.l0 k x2 (p : Int) (pre ++ r.set j (Go.bits .xor .u8 (rd r (j : Int)) ((shr .u32 x2 ((8 * j : Nat) : Int)) % 256))) ((j + 1 : Nat) : Int) := by
  have e1 : wrap64 ((p : Int) + (j : Int)) = ((p + j : Nat) : Int) := by
    rw [w64 (by omega) (by omega)]
    omega
  have e2 : wrap64 (8 * (j : Int)) = ((8 * j : Nat) : Int) := by
    rw [w64 (by omega) (by omega)]
    omega
  have e3 : rd (pre ++ r) ((p + j : Nat) : Int) = rd r (j : Int) := by
    rw [rd_get (by rw [List.length_append]; omega), rd_get hr, List.getElem_append_right (by omega)]
    congr 1
    omega
  simp only [funicularlaw17_PacketTurned.l0]
  rw [if_pos (by omega), e1, if_pos (by omega), if_pos (by rw [List.length_append]; omega), e2, if_pos (by omega), w64n (by omega), e3, Int.toNat_natCast]
  congr 1
  rw [List.set_append_right _ _ (by omega)]
  congr 2
  omega
theorem read_turned (T' : List Int) (hB : IsB T') (hl : 4 ≤ T'.length) (hl2 : T'.length ≤ 1000000000) (hne : ∀ B', T' ≠ encT B') : Ev (fun k => packet_Read.f k T') (0, 0, [], 4) := by
  have hs := crc_su (T'.take (T'.length - 4)) (hB.take _) (by rw [List.length_take]; omega)
  have hq : bytes_Equal.f (T'.drop (T'.length - 4)) (sumL (i32 (crcU 0#32 (T'.take (T'.length - 4))))) = some false := by
    unfold bytes_Equal.f
    congr 1
    rw [Bool.eq_false_iff]
    intro h
    have h1 := str_inj _ _ (hB.drop _) (sumL_B _) (eq_of_beq h)
    refine hne (T'.take (T'.length - 4)) ?_
    unfold encT
    rw [← h1, List.take_append_drop]
  refine Ev.congr (fun k => by unfold packet_Read.f; rw [if_pos ⟨(isB_iff _).mpr hB, by omega⟩, if_neg (by omega)]) (Ev.bind (f := fun k s => (bytes_Equal.f (T'.drop (T'.length - 4)) (sumL s)).bind fun q => if q = true then (if (packP (T'.take (T'.length - 4))).2.2.2.2 = 0 then (packet_Check.f k (packP (T'.take (T'.length - 4))).1 (packP (T'.take (T'.length - 4))).2.1 (packP (T'.take (T'.length - 4))).2.2.1).bind fun c => if c = 0 then some ((packP (T'.take (T'.length - 4))).1, (packP (T'.take (T'.length - 4))).2.1, (packP (T'.take (T'.length - 4))).2.2.1, (0 : Int)) else some (0, 0, [], c) else some (0, 0, [], (packP (T'.take (T'.length - 4))).2.2.2.2)) else some (0, 0, [], 4)) hs ?_)
  rw [hq]
  exact Ev.now _
theorem shr_nat (m i : Nat) (hi : i ≤ 32) : (shr .u32 (m : Int) (i : Int)) % 256 = ((m / 2 ^ i % 256 : Nat) : Int) := by
  unfold shr
  rw [Int.toNat_natCast, show min i IntKind.u32.bits = i from Nat.min_eq_left hi]
  have : (2 : Int) ^ i = ((2 ^ i : Nat) : Int) := by rw [Int.natCast_pow]; rfl
  rw [this, ← Int.natCast_ediv]
  omega
theorem turn_all (m : Nat) (hm0 : m ≠ 0) (hm : m < 4294967296) (B : List Int) (hB : IsB B) (hl : B.length ≤ 200000000) (p : Nat) (hp : p + 4 ≤ (encT B).length) (hw : Ev (fun _ : Nat => funicularlaw17_works.f) true) :
    Ev (fun k => funicularlaw17_PacketTurned.l0 k (m : Int) (p : Int) (encT B) 0) true := by
  have hTB := encT_B hB
  have hTl := encT_len B
  obtain ⟨pre, r, hpre, hsplit⟩ : ∃ pre r : List Int, pre.length = p ∧ encT B = pre ++ r := ⟨(encT B).take p, (encT B).drop p, by rw [List.length_take]; omega, (List.take_append_drop _ _).symm⟩
  have hrl : 4 ≤ r.length := by
    rw [hsplit, List.length_append] at hp
    omega
  match r, hrl, hsplit with
  | q0 :: q1 :: q2 :: q3 :: post, _, hsplit =>
    have hb : ∀ x ∈ (q0 :: q1 :: q2 :: q3 :: post), 0 ≤ x ∧ x < 256 := fun x hx => hTB x (by rw [hsplit]; exact List.mem_append_right _ hx)
    have b0 := hb q0 (by simp)
    have b1 := hb q1 (by simp)
    have b2 := hb q2 (by simp)
    have b3 := hb q3 (by simp)
    obtain ⟨a, rfl⟩ := Int.eq_ofNat_of_zero_le b0.1
    obtain ⟨b, rfl⟩ := Int.eq_ofNat_of_zero_le b1.1
    obtain ⟨c, rfl⟩ := Int.eq_ofNat_of_zero_le b2.1
    obtain ⟨d, rfl⟩ := Int.eq_ofNat_of_zero_le b3.1
    have ha : a < 256 := by omega
    have hb' : b < 256 := by omega
    have hc : c < 256 := by omega
    have hd : d < 256 := by omega
    have x0 : a ^^^ m % 256 < 2 ^ 8 := Nat.xor_lt_two_pow ha (by omega)
    have x1 : b ^^^ m / 256 % 256 < 2 ^ 8 := Nat.xor_lt_two_pow hb' (by omega)
    have x2 : c ^^^ m / 65536 % 256 < 2 ^ 8 := Nat.xor_lt_two_pow hc (by omega)
    have x3 : d ^^^ m / 16777216 % 256 < 2 ^ 8 := Nat.xor_lt_two_pow hd (by omega)
    have hlen : p + (post.length + 4) < 1000000000 := by
      have := congrArg List.length hsplit
      rw [List.length_append] at this
      simp only [List.length_cons] at this
      omega
    have y0 : Go.bits .xor .u8 (a : Int) ((shr .u32 (m : Int) ((8 * 0 : Nat) : Int)) % 256) = ((a ^^^ m % 256 : Nat) : Int) := by
      rw [shr_nat m (8 * 0) (by omega), show m / 2 ^ (8 * 0) % 256 = m % 256 by omega, bits8 _ _ ha (by omega)]
    have y1 : Go.bits .xor .u8 (b : Int) ((shr .u32 (m : Int) ((8 * 1 : Nat) : Int)) % 256) = ((b ^^^ m / 256 % 256 : Nat) : Int) := by
      rw [shr_nat m (8 * 1) (by omega), show m / 2 ^ (8 * 1) % 256 = m / 256 % 256 by omega, bits8 _ _ hb' (by omega)]
    have y2 : Go.bits .xor .u8 (c : Int) ((shr .u32 (m : Int) ((8 * 2 : Nat) : Int)) % 256) = ((c ^^^ m / 65536 % 256 : Nat) : Int) := by
      rw [shr_nat m (8 * 2) (by omega), show m / 2 ^ (8 * 2) % 256 = m / 65536 % 256 by omega, bits8 _ _ hc (by omega)]
    have y3 : Go.bits .xor .u8 (d : Int) ((shr .u32 (m : Int) ((8 * 3 : Nat) : Int)) % 256) = ((d ^^^ m / 16777216 % 256 : Nat) : Int) := by
      rw [shr_nat m (8 * 3) (by omega), show m / 2 ^ (8 * 3) % 256 = m / 16777216 % 256 by omega, bits8 _ _ hd (by omega)]
    let T' := pre ++ (((a ^^^ m % 256 : Nat) : Int) :: ((b ^^^ m / 256 % 256 : Nat) : Int) :: ((c ^^^ m / 65536 % 256 : Nat) : Int) :: ((d ^^^ m / 16777216 % 256 : Nat) : Int) :: post)
    have hT'B : IsB T' := by
      refine isB_append (fun x hx => hTB x (by rw [hsplit]; exact List.mem_append_left _ hx)) (fun x hx => ?_)
      simp only [List.mem_cons] at hx
      rcases hx with rfl | rfl | rfl | rfl | hx
      · omega
      · omega
      · omega
      · omega
      · exact hb x (by simp only [List.mem_cons]; exact .inr (.inr (.inr (.inr hx))))
    have hT'l : T'.length = p + (post.length + 4) := by
      show (pre ++ _).length = _
      rw [List.length_append, hpre]
      rfl
    have hr := read_turned T' hT'B (by omega) (by omega) (fun B' h => turned_ne pre post a b c d m B B' ha hb' hc hd hm0 hm hsplit.symm h)
    have fin : Ev (fun k => funicularlaw17_PacketTurned.l0 k (m : Int) (p : Int) T' ((3 + 1 : Nat) : Int)) true := by
      refine Ev.step (fun k => ?_) (Ev.bind (f := fun k bt203 => (if bt203.2.2.2 = 4 then ((funicularlaw17_works.f).bind fun t210 => (some t210)) else (some false))) hr (Ev.yes rfl (Ev.now true)))
      simp only [funicularlaw17_PacketTurned.l0]
      rw [if_neg (by omega)]
    rw [hsplit]
    refine Ev.step (fun k => turn_step (m : Int) pre _ p hpre 0 (by omega) (by simp) (by simp only [List.length_cons]; omega) k) ?_
    refine Ev.step (fun k => turn_step (m : Int) pre _ p hpre 1 (by omega) (by simp) (by simp only [List.length_set, List.length_cons]; omega) k) ?_
    refine Ev.step (fun k => turn_step (m : Int) pre _ p hpre 2 (by omega) (by simp) (by simp only [List.length_set, List.length_cons]; omega) k) ?_
    refine Ev.step (fun k => turn_step (m : Int) pre _ p hpre 3 (by omega) (by simp) (by simp only [List.length_set, List.length_cons]; omega) k) ?_
    refine Ev.congr (fun k => ?_) fin
    have z0 : rd ((a : Int) :: (b : Int) :: (c : Int) :: (d : Int) :: post) ((0 : Nat) : Int) = a := rfl
    rw [z0, y0]
    show funicularlaw17_PacketTurned.l0 k (m : Int) (p : Int) (pre ++ (((a ^^^ m % 256 : Nat) : Int) :: Go.bits .xor .u8 (b : Int) ((shr .u32 (m : Int) ((8 * 1 : Nat) : Int)) % 256) :: Go.bits .xor .u8 (c : Int) ((shr .u32 (m : Int) ((8 * 2 : Nat) : Int)) % 256) :: Go.bits .xor .u8 (d : Int) ((shr .u32 (m : Int) ((8 * 3 : Nat) : Int)) % 256) :: post)) ((3 + 1 : Nat) : Int) = _
    rw [y1, y2, y3]

theorem PacketTurned : funicularlaw17_PacketTurned.Pure := by
  intro x0 a1 a2 ⟨_, _, hl, hf⟩ _ hw2
  have hx := fine_w hl hf
  have hb := fine_B hf
  have hw : Ev (fun _ : Nat => funicularlaw17_works.f) true := Ev.now true
  have h2 : 0 ≤ a2 ∧ a2 < 4294967296 := by
    have e1 : IntKind.u32.min = 0 := rfl
    have e2 : IntKind.u32.max = 4294967295 := rfl
    simp [Lit.wf, e1, e2] at hw2
    omega
  refine Ev.rounds (g := fun k => funicularlaw17_PacketTurned.f k x0.f0 x0.f1 x0.f2 a1 a2) ?_
  obtain ⟨b, hlt⟩ := light_tot x0.f2 hx
  have out : Ev (fun k => funicularlaw17_PacketTurned.j0 k a1 a2 true x0.f0 x0.f1 x0.f2) true := Ev.step (f := fun _ => some true) (fun k => by simp only [funicularlaw17_PacketTurned.j0]; rw [if_pos trivial]; rfl) (Ev.now true)
  have out1 : ∀ T, Ev (fun k => funicularlaw17_PacketTurned.j1 k a1 a2 T true) true := fun T => Ev.step (f := fun _ => some true) (fun k => by simp only [funicularlaw17_PacketTurned.j1]; rw [if_pos trivial]; rfl) (Ev.now true)
  refine Ev.congr (fun k => by unfold funicularlaw17_PacketTurned.f; rfl) (Ev.bind (f := fun k t191 => (if t191 = true then (funicularlaw17_PacketTurned.j0 k a1 a2 (a2 == 0) x0.f0 x0.f1 x0.f2) else (funicularlaw17_PacketTurned.j0 k a1 a2 true x0.f0 x0.f1 x0.f2))) hlt ?_)
  cases b with
  | false => exact Ev.no (by decide) out
  | true =>
    refine Ev.yes rfl ?_
    by_cases hz : a2 = 0
    · rw [show (a2 == 0) = true from beq_iff_eq.mpr hz]
      exact out
    · rw [show (a2 == 0) = false from beq_eq_false_iff_ne.mpr hz]
      obtain ⟨c, hc, hp⟩ := put_ev x0.f0 x0.f1 x0.f2 hb
      rcases hp with ⟨rfl, ok, hp⟩ | ⟨hn, hp⟩
      · have hB := encB_B ok hb
        have hBl := encB_len ok hb
        have hTl := encT_len (encB x0.f0 x0.f1 x0.f2)
        have key : Ev (fun k => funicularlaw17_PacketTurned.j1 k a1 a2 (encT (encB x0.f0 x0.f1 x0.f2)) (decide (((encT (encB x0.f0 x0.f1 x0.f2)).length : Int) < 5))) true := by
          generalize encB x0.f0 x0.f1 x0.f2 = B at hB hBl hTl ⊢
          by_cases h5 : ((encT B).length : Int) < 5
          · rw [decide_eq_true h5]
            exact out1 _
          · rw [decide_eq_false h5]
            have e3 : wrap64 (((encT B).length : Int) - 3) = (((encT B).length - 3 : Nat) : Int) := by
              rw [w64 (by omega) (by omega)]
              omega
            obtain ⟨p, hp1, hp2⟩ := some_place a1 ((encT B).length - 3) (by omega) (by omega)
            obtain ⟨m, rfl⟩ := Int.eq_ofNat_of_zero_le h2.1
            have ht := turn_all m (by omega) (by omega) B hB hBl p (by omega) hw
            refine Ev.step (fun k => ?_) ht
            simp only [funicularlaw17_PacketTurned.j1]
            rw [if_neg (by decide), e3, if_neg (by rw [wrap_u64]; omega), if_pos (by show 0 + _ < _; omega), hp2, List.nil_append]
        refine Ev.step (fun k => ?_) (Ev.bind (f := fun k bt193 => (if bt193.2 = 0 then (funicularlaw17_PacketTurned.j1 k a1 a2 bt193.1 (decide ((bt193.1.length : Int) < 5))) else (funicularlaw17_PacketTurned.j1 k a1 a2 bt193.1 true))) hp (Ev.yes rfl key))
        simp only [funicularlaw17_PacketTurned.j0]
        rw [if_neg (by decide)]
      · refine Ev.step (fun k => ?_) (Ev.bind (f := fun k bt193 => (if bt193.2 = 0 then (funicularlaw17_PacketTurned.j1 k a1 a2 bt193.1 (decide ((bt193.1.length : Int) < 5))) else (funicularlaw17_PacketTurned.j1 k a1 a2 bt193.1 true))) hp (Ev.no hn (out1 _)))
        simp only [funicularlaw17_PacketTurned.j0]
        rw [if_neg (by decide)]

end Go.Proofs.Ytnmcahlpkebpjaa.Pure
