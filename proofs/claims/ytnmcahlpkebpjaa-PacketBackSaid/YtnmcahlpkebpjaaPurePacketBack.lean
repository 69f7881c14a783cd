import Derived.Test.YtnmcahlpkebpjaaXPacketBackx8
import Derived.Test.YtnmcahlpkebpjaaXCrc
set_option linter.unusedVariables false
set_option linter.unusedSimpArgs false
namespace Go.Proofs.Ytnmcahlpkebpjaa.Pure
open Go.RowKit Go.Proofs.YtnmcahlpkebpjaaX Go.Proofs.Ytnmcahlpkebpjaa.XPacketBack Go.Proofs.YtnmcahlpkebpjaaW.PrintWords Go.Proofs.YtnmcahlpkebpjaaW.PrintLast

theorem w64 {x : Int} (h0 : -9223372036854775808 ≤ x) (h1 : x ≤ 9223372036854775807) : wrap64 x = x := by
  unfold wrap64
  omega
theorem w64n {n : Nat} (h : n < 4611686018427387904) : wrap64 ((n : Int) + 1) = ((n + 1 : Nat) : Int) := by
  rw [w64 (by omega) (by omega)]
  rfl
theorem rd51 {l : List S51} {i : Nat} (h : i < l.length) : rd_T51 l (i : Int) = l[i] := by
  unfold rd_T51
  rw [Int.toNat_natCast, List.getD_eq_getElem?_getD, List.getElem?_eq_getElem h]
  rfl
theorem rd48 {l : List S48} {i : Nat} (h : i < l.length) : rd_T48 l (i : Int) = l[i] := by
  unfold rd_T48
  rw [Int.toNat_natCast, List.getD_eq_getElem?_getD, List.getElem?_eq_getElem h]
  rfl
theorem rd24 {l : List S24} {i : Nat} (h : i < l.length) : rd_T24 l (i : Int) = l[i] := by
  unfold rd_T24
  rw [Int.toNat_natCast, List.getD_eq_getElem?_getD, List.getElem?_eq_getElem h]
  rfl
theorem eta51 (m : S51) : (⟨m.f0, m.f1, m.f2, m.f3, m.f4, m.f5, m.f6, m.f7, m.f8, m.f9, m.f10⟩ : S51) = m := rfl

/-! ### light answers -/
def Tot {α : Type} (g : Nat → Option α) : Prop := ∃ r, Ev g r
theorem Tot.step {α : Type} {g f : Nat → Option α} (h : ∀ k, g (k + 1) = f k) (t : Tot f) : Tot g := t.elim fun r e => ⟨r, Ev.step h e⟩
theorem Tot.now {α : Type} (r : α) : Tot (fun _ => some r) := ⟨r, Ev.now r⟩
def weighL (x0 : List S51) : Prop := x0.length < 4611686018427387904 ∧ ∀ y ∈ x0, y.f9.length < 4611686018427387904
theorem weight_l1 (x0 : List S51) (hx : weighL x0) (x1 : Int) (n : Nat) (hn : n < x0.length) (K : ∀ x5, Tot (fun k => funicularref17_Weight.l0 k x0 x1 x5 ((n + 1 : Nat) : Int))) :
    ∀ (d m : Nat), m + d = x0[n].f9.length → ∀ x5, Tot (fun k => funicularref17_Weight.l1 k x0 x1 x5 (n : Int) (m : Int)) := by
  have h9 : x0[n].f9.length < 4611686018427387904 := hx.2 _ (List.getElem_mem hn)
  have hl := hx.1
  intro d
  induction d with
  | zero =>
    intro m hm x5
    refine Tot.step (fun k => ?_) (K x5)
    simp only [funicularref17_Weight.l1]
    rw [if_pos (by omega), if_pos (by omega), rd51 hn, if_neg (by omega), w64n (by omega)]
  | succ d ih =>
    intro m hm x5
    by_cases hc : x5 ≤ x1
    · refine Tot.step (fun k => ?_) (ih (m + 1) (by omega) (wrap64 ((wrap64 (x5 + 1)) + (wrap64 ((((rd_T48 ((rd_T51 x0 n).f9) m).f1).length : Int) / 20)))))
      simp only [funicularref17_Weight.l1]
      rw [if_pos (by omega), if_pos (by omega), rd51 hn, if_pos (by omega), if_pos hc, if_pos (by omega), w64n (n := m) (by omega)]
    · refine Tot.step (fun k => ?_) (K x5)
      simp only [funicularref17_Weight.l1]
      rw [if_pos (by omega), if_pos (by omega), rd51 hn, if_pos (by omega), if_neg hc, w64n (by omega)]
theorem weight_l0 (x0 : List S51) (hx : weighL x0) (x1 : Int) : ∀ (d n : Nat), n + d = x0.length → ∀ x5, Tot (fun k => funicularref17_Weight.l0 k x0 x1 x5 (n : Int)) := by
  intro d
  have hl := hx.1
  induction d with
  | zero =>
    intro n hn x5
    refine Tot.step (f := fun k => funicularref17_Weight.j1 k x0 x1 x5 n false) (fun k => ?_) (Tot.step (f := fun _ => some x5) (fun k => ?_) (Tot.now x5))
    · simp only [funicularref17_Weight.l0]
      rw [if_neg (by omega)]
    · simp only [funicularref17_Weight.j1]
      rw [if_neg (by decide)]
  | succ d ih =>
    intro n hn x5
    have hlt : n < x0.length := by omega
    by_cases hc : x5 ≤ x1
    · have t := weight_l1 x0 hx x1 n hlt (fun x5 => ih (n + 1) (by omega) x5) _ 0 (Nat.zero_add _) (wrap64 ((wrap64 (x5 + 1)) + (wrap64 ((((rd_T51 x0 n).f10).length : Int) / 20))))
      refine Tot.step (f := fun k => funicularref17_Weight.j1 k x0 x1 x5 n true) (fun k => ?_) (Tot.step (fun k => ?_) t)
      · simp only [funicularref17_Weight.l0]
        rw [if_pos (by omega), decide_eq_true hc]
      · simp only [funicularref17_Weight.j1]
        rw [if_pos (by decide), if_pos (by omega), if_pos (by omega)]
        rfl
    · refine Tot.step (f := fun k => funicularref17_Weight.j1 k x0 x1 x5 n false) (fun k => ?_) (Tot.step (f := fun _ => some x5) (fun k => ?_) (Tot.now x5))
      · simp only [funicularref17_Weight.l0]
        rw [if_pos (by omega), decide_eq_false hc]
      · simp only [funicularref17_Weight.j1]
        rw [if_neg (by decide)]
theorem light_tot (x0 : List S51) (hx : weighL x0) : Tot (fun k => funicularlaw17_light.f k x0) := by
  obtain ⟨r, e⟩ := weight_l0 x0 hx 300 _ 0 (Nat.zero_add _) 0
  exact ⟨_, Ev.bind (g := fun k => funicularref17_Weight.f k x0 300) e (Ev.now (decide (r ≤ 300)))⟩

/-! ### what is the same answers yes -/
theorem entries_self (l : List S48) (hl : l.length < 4611686018427387904) : ∀ (d n : Nat), n + d = l.length → Ev (fun k => funicularref13_Entries.l0 k l l (n : Int)) true := by
  intro d
  induction d with
  | zero =>
    intro n hn
    refine Ev.step (f := fun _ => some true) (fun k => ?_) (Ev.now true)
    simp only [funicularref13_Entries.l0]
    rw [if_neg (by omega)]
  | succ d ih =>
    intro n hn
    refine Ev.step (fun k => ?_) (ih (n + 1) (by omega))
    simp only [funicularref13_Entries.l0]
    rw [if_pos (by omega), if_pos (by omega), if_pos (by omega), if_pos trivial, if_pos trivial, w64n (by omega)]
theorem sameMsg_self (m : S51) (h9 : m.f9.length < 4611686018427387904) : Ev (fun k => funicularref15_SameMsg.f k m.f0 m.f1 m.f2 m.f3 m.f4 m.f5 m.f6 m.f7 m.f8 m.f9 m.f10 m.f0 m.f1 m.f2 m.f3 m.f4 m.f5 m.f6 m.f7 m.f8 m.f9 m.f10) true := by
  have h : Ev (fun k => funicularref13_Entries.f k m.f9 m.f9) true := Ev.congr (fun k => by unfold funicularref13_Entries.f; rw [if_pos rfl]; rfl) (entries_self m.f9 h9 _ 0 (Nat.zero_add _))
  refine Ev.congr (fun k => ?_) (Ev.bind (f := fun k t => if t = true then (some ((strOfNums m.f10).toList == (strOfNums m.f10).toList)) else some false) h (Ev.yes rfl (by rw [beq_self_eq_true]; exact Ev.now true)))
  unfold funicularref15_SameMsg.f
  rw [if_pos rfl, if_pos rfl, if_pos rfl, if_pos rfl, if_pos rfl, if_pos rfl, if_pos rfl, if_pos rfl, if_neg (by rw [bne_self_eq_false]; decide)]
theorem sameMsgs_self (l : List S51) (hl : weighL l) : Ev (fun k => funicularref15_SameMsgs.f k l l) true := by
  have key : ∀ (d n : Nat), n + d = l.length → Ev (fun k => funicularref15_SameMsgs.l0 k l l (n : Int)) true := by
    intro d
    have h1 := hl.1
    induction d with
    | zero =>
      intro n hn
      refine Ev.step (f := fun _ => some true) (fun k => ?_) (Ev.now true)
      simp only [funicularref15_SameMsgs.l0]
      rw [if_neg (by omega)]
    | succ d ih =>
      intro n hn
      have hlt : n < l.length := by omega
      have h9 := hl.2 _ (List.getElem_mem hlt)
      have hm := sameMsg_self l[n] h9
      refine Ev.step (fun k => ?_) (Ev.bind (f := fun k t => if t = true then (funicularref15_SameMsgs.l0 k l l (((n + 1 : Nat)) : Int)) else some false) hm (Ev.yes rfl (ih (n + 1) (by omega))))
      simp only [funicularref15_SameMsgs.l0]
      rw [if_pos (by omega), if_pos (by omega), if_pos (by omega), rd51 hlt, w64n (by omega)]
  exact Ev.congr (fun k => by unfold funicularref15_SameMsgs.f; rw [if_pos rfl]; rfl) (key _ 0 (Nat.zero_add _))

/-! ### the sum -/
theorem rd_get {l : List Int} {i : Nat} (h : i < l.length) : rd l (i : Int) = l[i] := by
  unfold rd
  rw [Int.toNat_natCast, List.getD_eq_getElem?_getD, List.getElem?_eq_getElem h]
  rfl
theorem upd_l1 (x10 : List Int) (x11 x12 : Int) (r : Int) : ∀ (n : Nat) (j : Int) (s : BitVec 32), j + n = 8 → 0 ≤ j →
    Ev (fun k => crc_Update.l0 k (i32 (rnds n s)) x10 x11 (wrap64 (x12 + 1))) r → Ev (fun k => crc_Update.l1 k (i32 s) x10 x11 x12 j) r
  | 0, j, s, hj, h0, h => Ev.step (fun k => by
      simp only [crc_Update.l1]
      rw [if_neg (by omega)]
      rfl) h
  | n + 1, j, s, hj, h0, h => by
    have ih := upd_l1 x10 x11 x12 r n (j + 1) (rnd s) (by omega) (by omega) h
    refine Ev.step (fun k => ?_) ih
    simp only [crc_Update.l1]
    rw [if_pos (by omega), w64 (by omega) (by omega)]
    have hb : Go.bits .and .u32 (i32 s) 1 = i32 (s &&& 1#32) := bits_and s 1#32
    by_cases hc : s &&& 1#32 = 1#32
    · have hx : Go.bits .xor .u32 (i32 (s >>> 1)) 3988292384 = i32 ((s >>> 1) ^^^ 3988292384#32) := bits_xor (s >>> 1) 3988292384#32
      rw [if_pos (by rw [hb, hc]; rfl), i32_half, hx]
      unfold rnd
      rw [if_pos hc]
    · rw [if_neg (by rw [hb]; exact fun h => hc (i32_inj (b := 1#32) h)), i32_half]
      unfold rnd
      rw [if_neg hc]
theorem upd_l0 (l : List Int) (hb : IsB l) (hl : l.length ≤ 140737488355328) : ∀ (n i : Nat) (s : BitVec 32), i + n = l.length →
    Ev (fun k => crc_Update.l0 k (i32 s) l (l.length : Int) (i : Int)) (i32 (~~~ (upd s (l.drop i))))
  | 0, i, s, hi => by
    have hd : l.drop i = [] := List.drop_eq_nil_of_le (by omega)
    refine Ev.step (f := fun _ => some (i32 (~~~ (upd s (l.drop i))))) (fun k => ?_) (Ev.now _)
    simp only [crc_Update.l0]
    rw [if_neg (by omega), hd]
    have hx : Go.bits .xor .u32 4294967295 (i32 s) = i32 (4294967295#32 ^^^ s) := bits_xor 4294967295#32 s
    rw [hx]
    congr 2
  | n + 1, i, s, hi => by
    have hlt : i < l.length := by omega
    have ih := upd_l0 l hb hl n (i + 1) (byte8 s l[i]) (by omega)
    have hd : l.drop i = l[i] :: l.drop (i + 1) := List.drop_eq_getElem_cons hlt
    have hbi := hb l[i] (List.getElem_mem hlt)
    rw [hd]
    have h1 := upd_l1 l (l.length : Int) (i : Int) (i32 (~~~ (upd s (l[i] :: l.drop (i + 1))))) 8 0 (s ^^^ BitVec.ofInt 32 l[i]) (by omega) (by omega) (by
      rw [w64 (by omega) (by omega)]
      exact ih)
    refine Ev.step (fun k => ?_) h1
    simp only [crc_Update.l0]
    rw [if_pos (by omega), if_pos (by omega), if_pos (by omega), rd_get hlt]
    have hm : l[i] % 4294967296 = i32 (BitVec.ofInt 32 l[i]) := by
      rw [i32_ofInt _ (by omega) (by omega)]
      omega
    rw [hm, bits_xor]
theorem crc_up (s : BitVec 32) (l : List Int) (hb : IsB l) (hl : l.length ≤ 140737488355328) : Ev (fun k => crc_Update.f k (i32 s) l) (i32 (crcU s l)) := by
  have h := upd_l0 l hb hl l.length 0 (~~~ s) (by omega)
  refine Ev.congr (fun k => ?_) h
  unfold crc_Update.f
  have hx : Go.bits .xor .u32 4294967295 (i32 s) = i32 (4294967295#32 ^^^ s) := bits_xor 4294967295#32 s
  rw [hx]
  congr 2
theorem crc_su (l : List Int) (hb : IsB l) (hl : l.length ≤ 140737488355328) : Ev (fun k => crc_Sum.f k l) (i32 (crcU 0#32 l)) := by
  have h := crc_up 0#32 l hb hl
  exact Ev.bind (f := fun _ t => some t) h (Ev.now _)

/-! ### bytes -/
theorem isB_nil : IsB [] := fun x hx => by cases hx
theorem isB_append {a b : List Int} (ha : IsB a) (hb : IsB b) : IsB (a ++ b) := fun x hx => (List.mem_append.mp hx).elim (ha x) (hb x)
theorem isB_one {a : Int} (h : 0 ≤ a ∧ a < 256) : IsB [a] := fun x hx => by
  rw [List.mem_singleton] at hx
  exact hx ▸ h
theorem u8_inj {a b : Int} (ha : 0 ≤ a ∧ a < 256) (hb : 0 ≤ b ∧ b < 256) (h : UInt8.ofNat a.toNat = UInt8.ofNat b.toNat) : a = b := by
  have h1 := congrArg UInt8.toNat h
  rw [UInt8.toNat_ofNat', UInt8.toNat_ofNat'] at h1
  omega
theorem map_u8_inj : ∀ (a b : List Int), IsB a → IsB b → (a.map fun n => UInt8.ofNat n.toNat) = (b.map fun n => UInt8.ofNat n.toNat) → a = b
  | [], [], _, _, _ => rfl
  | [], y :: b, _, _, h => by simp at h
  | x :: a, [], _, _, h => by simp at h
  | x :: a, y :: b, ha, hb, h => by
    rw [List.map_cons, List.map_cons] at h
    have h1 := List.cons.inj h
    rw [u8_inj (ha x (List.mem_cons_self ..)) (hb y (List.mem_cons_self ..)) h1.1, map_u8_inj a b (fun z hz => ha z (List.mem_cons_of_mem _ hz)) (fun z hz => hb z (List.mem_cons_of_mem _ hz)) h1.2]
theorem str_inj (a b : List Int) (ha : IsB a) (hb : IsB b) (h : (strOfNums a).toList = (strOfNums b).toList) : a = b := by
  rw [ByteArray.toList_eq, ByteArray.toList_eq] at h
  exact map_u8_inj a b ha hb h

/-! ### a number as bytes of seven bits -/
theorem or128 : ∀ b : Fin 256, Go.bits .or .u8 ((b.val : Nat) : Int) 128 = ((b.val % 128 + 128 : Nat) : Int) := by decide +kernel
theorem or128' (n : Int) (h : 0 ≤ n) : Go.bits .or .u8 (n % 256) 128 = n % 128 + 128 := by
  obtain ⟨m, rfl⟩ := Int.eq_ofNat_of_zero_le h
  have h1 := or128 ⟨m % 256, Nat.mod_lt _ (by decide)⟩
  have e1 : ((m : Int)) % 256 = ((m % 256 : Nat) : Int) := by omega
  rw [e1]
  rw [show ((m : Int) % 128 + 128) = ((m % 256 % 128 + 128 : Nat) : Int) by omega]
  exact h1
def leb : Nat → Int → List Int
  | 0, _ => []
  | f + 1, n => if n < 128 then [n] else (n % 128 + 128) :: leb f (n / 128)
theorem leb_len : ∀ (f : Nat) (n : Int), (leb f n).length ≤ f
  | 0, n => Nat.le_refl _
  | f + 1, n => by
    have := leb_len f (n / 128)
    simp only [leb]
    split
    · simp
    · rw [List.length_cons]
      omega
theorem leb_B : ∀ (f : Nat) (n : Int), 0 ≤ n → IsB (leb f n)
  | 0, n, _ => isB_nil
  | f + 1, n, h => by
    have ih := leb_B f (n / 128) (by omega)
    simp only [leb]
    split
    · exact isB_one (by omega)
    · exact isB_append (a := [_]) (isB_one (by omega)) ih
theorem uint_ev : ∀ (f : Nat) (n : Int) (x0 : List Int), 0 ≤ n → n < 128 ^ (f + 1) → x0.length + (f + 1) < 140737488355328 → Ev (fun k => pack_Uint.l0 k x0 n) (x0 ++ leb (f + 1) n)
  | 0, n, x0, h0, h1, hl => by
    refine Ev.step (f := fun _ => some (x0 ++ leb 1 n)) (fun k => ?_) (Ev.now _)
    have h2 : n < 128 := by simpa using h1
    simp only [pack_Uint.l0, leb]
    rw [if_neg (by omega), if_pos (by omega), if_pos h2]
    congr 3
    omega
  | f + 1, n, x0, h0, h1, hl => by
    by_cases hc : n < 128
    · refine Ev.step (f := fun _ => some (x0 ++ leb (f + 1 + 1) n)) (fun k => ?_) (Ev.now _)
      rw [leb]
      simp only [pack_Uint.l0]
      rw [if_neg (by omega), if_pos (by omega), if_pos hc]
      congr 3
      omega
    · have hp : n / 128 < 128 ^ (f + 1) := by
        rw [Int.pow_succ] at h1
        generalize (128 : Int) ^ (f + 1) = p at h1 ⊢
        omega
      have ih := uint_ev f (n / 128) (x0 ++ [n % 128 + 128]) (by omega) hp (by rw [List.length_append]; show x0.length + 1 + (f + 1) < _; omega)
      rw [List.append_assoc] at ih
      have e : leb (f + 1 + 1) n = (n % 128 + 128) :: leb (f + 1) (n / 128) := by rw [leb, if_neg hc]
      rw [e]
      refine Ev.step (fun k => ?_) ih
      simp only [pack_Uint.l0]
      rw [if_pos (by omega), if_pos (by omega), or128' n h0]
theorem ru_leb : ∀ (f i : Nat) (n acc : Int) (pre r : List Int), pre.length = i → i + (f + 1) = 10 → 0 ≤ n → (0 < i → 0 < n) → n * 2 ^ (7 * i) < 18446744073709551616 → n < 128 ^ (f + 1) →
    ruGo (pre ++ (leb (f + 1) n ++ r)) (f + 1) i acc = (acc + n * 2 ^ (7 * i), r, 0) := by
  have fin : ∀ (f i : Nat) (n acc : Int) (pre r : List Int), pre.length = i → i + (f + 1) = 10 → 0 ≤ n → (0 < i → 0 < n) → n * 2 ^ (7 * i) < 18446744073709551616 → n < 128 →
      ruGo (pre ++ ([n] ++ r)) (f + 1) i acc = (acc + n * 2 ^ (7 * i), r, 0) := by
    intro f i n acc pre r hp hi h0 hpos h64 hlt
    have hr : rd (pre ++ ([n] ++ r)) (i : Int) = n := by
      rw [rd_get (by simp; omega)]
      rw [List.getElem_append_right (by omega)]
      simp [hp]
    simp only [ruGo]
    rw [if_pos (by simp; omega), hr, if_neg (by
      rintro ⟨rfl, h⟩
      omega), if_pos hlt, if_neg (by
      rintro ⟨rfl, h⟩
      have := hpos h
      omega)]
    have hd : (pre ++ ([n] ++ r)).drop (i + 1) = r := by
      rw [← hp, List.drop_append, List.drop_eq_nil_of_le (by omega)]
      simp
    rw [hd]
  intro f
  induction f with
  | zero =>
    intro i n acc pre r hp hi h0 hpos h64 h1
    have h2 : n < 128 := by simpa using h1
    rw [leb, if_pos h2]
    exact fin 0 i n acc pre r hp hi h0 hpos h64 h2
  | succ f ih =>
    intro i n acc pre r hp hi h0 hpos h64 h1
    by_cases hc : n < 128
    · rw [leb, if_pos hc]
      exact fin (f + 1) i n acc pre r hp hi h0 hpos h64 hc
    · have hpw : n / 128 < 128 ^ (f + 1) := by
        rw [Int.pow_succ] at h1
        generalize (128 : Int) ^ (f + 1) = p at h1 ⊢
        omega
      have e : leb (f + 1 + 1) n = (n % 128 + 128) :: leb (f + 1) (n / 128) := by rw [leb, if_neg hc]
      rw [e]
      have e7 : (2 : Int) ^ (7 * (i + 1)) = 2 ^ (7 * i) * 128 := by
        rw [show 7 * (i + 1) = 7 * i + 7 by omega, Int.pow_add]
        rfl
      have hpp : (0 : Int) < 2 ^ (7 * i) := Int.pow_pos (by decide)
      have h64' : n / 128 * 2 ^ (7 * (i + 1)) < 18446744073709551616 := by
        rw [e7]
        generalize (2 : Int) ^ (7 * i) = p at hpp h64 ⊢
        have hn : n = n % 128 + n / 128 * 128 := by omega
        have : n * p = (n % 128) * p + n / 128 * (p * 128) := by
          conv => lhs; rw [hn]
          rw [Int.add_mul, Int.mul_assoc, Int.mul_comm 128 p]
        have hm : 0 ≤ (n % 128) * p := Int.mul_nonneg (by omega) (by omega)
        omega
      have hi' := ih (i + 1) (n / 128) (acc + (n % 128) * 2 ^ (7 * i)) (pre ++ [n % 128 + 128]) r (by rw [List.length_append]; show pre.length + 1 = _; omega) (by omega) (by omega) (fun _ => by omega) h64' hpw
      have hl : pre ++ ((n % 128 + 128) :: leb (f + 1) (n / 128) ++ r) = pre ++ [n % 128 + 128] ++ (leb (f + 1) (n / 128) ++ r) := by simp
      rw [hl]
      have hr : rd (pre ++ [n % 128 + 128] ++ (leb (f + 1) (n / 128) ++ r)) (i : Int) = n % 128 + 128 := by
        rw [rd_get (by simp; omega)]
        rw [List.getElem_append_left (by simp; omega), List.getElem_append_right (by omega)]
        simp [hp]
      rw [ruGo]
      rw [if_pos (by simp; omega), hr, if_neg (by
        rintro ⟨rfl, h⟩
        omega), if_neg (by omega)]
      rw [show n % 128 + 128 - 128 = n % 128 by omega, hi', e7]
      congr 1
      generalize (2 : Int) ^ (7 * i) = p
      have hn : n = n % 128 + n / 128 * 128 := by omega
      have : n * p = (n % 128) * p + n / 128 * (p * 128) := by
        conv => lhs; rw [hn]
        rw [Int.add_mul, Int.mul_assoc, Int.mul_comm 128 p]
      omega
def enc1 (n : Int) : List Int := leb 10 n
def Sm (n : Int) : Prop := 0 ≤ n ∧ n ≤ 1099511627776
theorem enc1_len (n : Int) : (enc1 n).length ≤ 10 := leb_len 10 n
theorem enc1_B {n : Int} (h : Sm n) : IsB (enc1 n) := leb_B 10 n h.1
theorem p10 : (1099511627776 : Int) < 128 ^ (9 + 1) := by decide
theorem ru_enc {n : Int} (h : Sm n) (r : List Int) : ruP (enc1 n ++ r) = (n, r, 0) := by
  have h1 := h.1
  have h2 := h.2
  have := ru_leb 9 0 n 0 [] r rfl rfl h.1 (fun h => absurd h (by decide)) (by show n * 1 < _; omega) (Int.lt_of_le_of_lt h.2 p10)
  show ruGo _ 10 0 0 = _
  rw [List.nil_append] at this
  rw [enc1, this]
  show ((0 : Int) + n * 1, r, (0 : Int)) = _
  rw [Int.mul_one, Int.zero_add]
theorem num_enc {n most : Int} (h : Sm n) (hm : n ≤ most) (r : List Int) : numP most (enc1 n ++ r) 0 = (n, r, 0) := by
  unfold numP
  rw [ru_enc h, if_pos rfl, if_pos rfl, if_neg (by show ¬ n > most; omega)]
theorem bytes_enc {b : List Int} (h : b.length ≤ 65536) (r : List Int) : bytesP (enc1 b.length ++ (b ++ r)) 0 = (b, r, 0) := by
  have h1 : rbP (enc1 b.length ++ (b ++ r)) = (b, r, 0) := by
    unfold rbP
    rw [ru_enc (n := (b.length : Int)) ⟨by omega, by omega⟩, if_pos rfl, if_neg (by
      show ¬ (b.length : Int) > ((b ++ r).length : Int)
      rw [List.length_append]
      omega)]
    show ((b ++ r).take (b.length : Int).toNat, (b ++ r).drop (b.length : Int).toNat, (0 : Int)) = _
    rw [Int.toNat_natCast, List.take_left, List.drop_left]
  unfold bytesP
  rw [h1, if_pos rfl, if_pos rfl]
theorem uwrap {n : Int} (h : Sm n) : IntKind.u64.wrap n = n := by
  have h1 := h.1
  have h2 := h.2
  rw [IntKind.wrap_u64]
  omega
theorem one_ev {n : Int} (h : Sm n) (x0 : List Int) (hl : x0.length + 10 < 140737488355328) : Ev (fun k => pack_Uint.f k x0 (IntKind.u64.wrap n)) (x0 ++ enc1 n) := by
  rw [uwrap h]
  exact uint_ev 9 n x0 h.1 (Int.lt_of_le_of_lt h.2 p10) hl
def encN : List Int → List Int
  | [] => []
  | n :: l => enc1 n ++ encN l
theorem encN_len : ∀ l : List Int, (encN l).length ≤ 10 * l.length
  | [] => Nat.le_refl _
  | n :: l => by
    have h1 := enc1_len n
    have h2 := encN_len l
    simp only [encN, List.length_append, List.length_cons]
    omega
theorem encN_B : ∀ l : List Int, (∀ x ∈ l, Sm x) → IsB (encN l)
  | [], _ => isB_nil
  | n :: l, h => isB_append (enc1_B (h n (List.mem_cons_self ..))) (encN_B l fun x hx => h x (List.mem_cons_of_mem _ hx))
theorem numbers_ev (xs : List Int) (hx : ∀ x ∈ xs, Sm x) (hn : xs.length ≤ 100) (x0 : List Int) (hl : x0.length + 10 * xs.length < 140737488355328) : Ev (fun k => packet_numbers.f k x0 xs) (x0 ++ encN xs) := by
  have key : ∀ (d n : Nat), n + d = xs.length → ∀ x0 : List Int, x0.length + 10 * d < 140737488355328 → Ev (fun k => packet_numbers.l0 k x0 xs (xs.length : Int) (n : Int)) (x0 ++ encN (xs.drop n)) := by
    intro d
    induction d with
    | zero =>
      intro n hn x0 hl
      refine Ev.step (f := fun _ => some (x0 ++ encN (xs.drop n))) (fun k => ?_) (Ev.now _)
      simp only [packet_numbers.l0]
      rw [if_neg (by omega), List.drop_eq_nil_of_le (by omega)]
      show _ = some (x0 ++ [])
      rw [List.append_nil]
    | succ d ih =>
      intro n hn x0 hl
      have hlt : n < xs.length := by omega
      have h1 := enc1_len xs[n]
      have hi := ih (n + 1) (by omega) (x0 ++ enc1 xs[n]) (by rw [List.length_append]; omega)
      have ho := one_ev (hx _ (List.getElem_mem hlt)) x0 (by omega)
      have hd : xs.drop n = xs[n] :: xs.drop (n + 1) := List.drop_eq_getElem_cons hlt
      rw [hd]
      show Ev _ (x0 ++ (enc1 xs[n] ++ encN (xs.drop (n + 1))))
      rw [← List.append_assoc]
      refine Ev.step (fun k => ?_) (Ev.bind (f := fun k t119 => packet_numbers.l0 k t119 xs (xs.length : Int) (((n + 1 : Nat)) : Int)) ho hi)
      simp only [packet_numbers.l0]
      rw [if_pos (by omega), if_pos (by omega), if_pos (by omega), rd_get hlt, w64n (by omega)]
  have := key xs.length 0 (Nat.zero_add _) x0 hl
  exact this
theorem pbytes_ev {b : List Int} (hb : b.length ≤ 65536) (x0 : List Int) (hl : x0.length + 100000 < 140737488355328) : Ev (fun k => pack_Bytes.f k x0 b) (x0 ++ (enc1 b.length ++ b)) := by
  have h := one_ev (n := (b.length : Int)) ⟨by omega, by omega⟩ x0 (by omega)
  have h1 := enc1_len (b.length : Int)
  refine Ev.congr (fun k => by unfold pack_Bytes.f; rfl) (Ev.bind (f := fun k t122 => if t122.length + b.length < 140737488355328 then (some (t122 ++ b)) else none) h ?_)
  refine Ev.yes (by rw [List.length_append]; omega) ?_
  rw [← List.append_assoc]
  exact Ev.now _

/-! ### what Put writes -/
def encE (e : S48) : List Int := enc1 e.f0 ++ (enc1 e.f1.length ++ e.f1)
def encEs : List S48 → List Int
  | [] => []
  | e :: l => encE e ++ encEs l
def yesI (b : Bool) : Int := if b = true then 1 else 0
def encM (m : S51) : List Int := encN [m.f0, m.f1, m.f4, m.f5, m.f6, m.f7, yesI m.f8, m.f9.length] ++ (encEs m.f9 ++ (enc1 m.f10.length ++ m.f10))
def encMs : List S51 → List Int
  | [] => []
  | m :: l => encM m ++ encMs l
def encB (fr tt : Int) (ms : List S51) : List Int := encN [fr, tt, ms.length] ++ encMs ms
def okE (e : S48) : Prop := entOk e = true ∧ IsB e.f1
def okM (fr tt : Int) (m : S51) : Prop := msgOk m = true ∧ m.f2 = fr ∧ m.f3 = tt ∧ IsB m.f10 ∧ ∀ e ∈ m.f9, IsB e.f1
theorem okE_sm {e : S48} (h : entOk e = true) : Sm e.f0 ∧ e.f1.length ≤ 65536 := by
  unfold entOk at h
  simp only [Bool.and_eq_true, decide_eq_true_eq] at h
  exact ⟨⟨by omega, by omega⟩, h.2⟩
theorem msgOk_all {m : S51} (h : msgOk m = true) : Sm m.f4 ∧ Sm m.f5 ∧ Sm m.f6 ∧ Sm m.f7 ∧ (1 ≤ m.f0 ∧ m.f0 ≤ 7) ∧ (0 ≤ m.f1 ∧ m.f1 < 64) ∧ m.f9.length ≤ 8 ∧ m.f10.length ≤ 65536 ∧ ∀ e ∈ m.f9, entOk e = true := by
  unfold msgOk inI at h
  simp only [Bool.and_eq_true, decide_eq_true_eq, List.all_eq_true] at h
  obtain ⟨⟨⟨⟨⟨⟨⟨⟨h4, h5⟩, h6⟩, h7⟩, h0⟩, h1⟩, h9⟩, h10⟩, he⟩ := h
  exact ⟨h4, h5, h6, h7, h0, h1, h9, h10, he⟩
theorem encE_len {e : S48} (h : entOk e = true) : (encE e).length ≤ 65556 := by
  have h1 := (okE_sm h).2
  have h2 := enc1_len e.f0
  have h3 := enc1_len (e.f1.length : Int)
  simp only [encE, List.length_append]
  omega
theorem encEs_len : ∀ l : List S48, (∀ e ∈ l, entOk e = true) → (encEs l).length ≤ 65556 * l.length
  | [], _ => Nat.le_refl _
  | e :: l, h => by
    have h1 := encE_len (h e (List.mem_cons_self ..))
    have h2 := encEs_len l fun x hx => h x (List.mem_cons_of_mem _ hx)
    simp only [encEs, List.length_append, List.length_cons]
    omega
theorem encM_len {m : S51} (h : msgOk m = true) : (encM m).length ≤ 600000 := by
  have ha := msgOk_all h
  have h1 := encEs_len m.f9 ha.2.2.2.2.2.2.2.2
  have h2 := encN_len [m.f0, m.f1, m.f4, m.f5, m.f6, m.f7, yesI m.f8, m.f9.length]
  have h3 := enc1_len (m.f10.length : Int)
  have h4 := ha.2.2.2.2.2.2.1
  have h5 := ha.2.2.2.2.2.2.2.1
  simp only [encM, List.length_append]
  simp only [List.length_cons, List.length_nil] at h2
  omega
theorem encEs_B : ∀ l : List S48, (∀ e ∈ l, entOk e = true) → (∀ e ∈ l, IsB e.f1) → IsB (encEs l)
  | [], _, _ => isB_nil
  | e :: l, h, hb => by
    have h1 := okE_sm (h e (List.mem_cons_self ..))
    exact isB_append (isB_append (enc1_B h1.1) (isB_append (enc1_B ⟨by omega, by omega⟩) (hb e (List.mem_cons_self ..)))) (encEs_B l (fun x hx => h x (List.mem_cons_of_mem _ hx)) fun x hx => hb x (List.mem_cons_of_mem _ hx))
theorem nums_sm {m : S51} (h : msgOk m = true) : ∀ x ∈ [m.f0, m.f1, m.f4, m.f5, m.f6, m.f7, yesI m.f8, (m.f9.length : Int)], Sm x := by
  obtain ⟨h4, h5, h6, h7, h0, h1, h9, h10, he⟩ := msgOk_all h
  intro x hx
  simp only [List.mem_cons, List.mem_nil_iff, or_false] at hx
  rcases hx with rfl | rfl | rfl | rfl | rfl | rfl | rfl | rfl
  · exact ⟨by omega, by omega⟩
  · exact ⟨by omega, by omega⟩
  · exact h4
  · exact h5
  · exact h6
  · exact h7
  · unfold yesI Sm
    split <;> omega
  · exact ⟨by omega, by omega⟩
theorem encM_B {fr tt : Int} {m : S51} (h : okM fr tt m) : IsB (encM m) := by
  have ha := msgOk_all h.1
  refine isB_append (encN_B _ (nums_sm h.1)) (isB_append (encEs_B _ ha.2.2.2.2.2.2.2.2 h.2.2.2.2) (isB_append (enc1_B ⟨by omega, ?_⟩) h.2.2.2.1))
  have := ha.2.2.2.2.2.2.2.1
  omega
theorem encMs_B {fr tt : Int} : ∀ l : List S51, (∀ m ∈ l, okM fr tt m) → IsB (encMs l)
  | [], _ => isB_nil
  | m :: l, h => isB_append (encM_B (h m (List.mem_cons_self ..))) (encMs_B l fun x hx => h x (List.mem_cons_of_mem _ hx))
theorem encMs_len {fr tt : Int} : ∀ l : List S51, (∀ m ∈ l, okM fr tt m) → (encMs l).length ≤ 600000 * l.length
  | [], _ => Nat.le_refl _
  | m :: l, h => by
    have h1 := encM_len (h m (List.mem_cons_self ..)).1
    have h2 := encMs_len l fun x hx => h x (List.mem_cons_of_mem _ hx)
    simp only [encMs, List.length_append, List.length_cons]
    omega
theorem sumL_B (s : Int) : IsB (sumL s) := by
  intro c hc
  simp only [sumL, List.mem_cons, List.mem_nil_iff, or_false] at hc
  rcases hc with rfl | rfl | rfl | rfl <;> omega
def encT (T : List Int) : List Int := T ++ sumL (i32 (crcU 0#32 T))
theorem put_l1 (ms : List S51) (i : Nat) (hi : i < 256) (m : S51) (ha : msgOk m = true) (R : List Int × Int) :
    ∀ (d n : Nat), n + d = m.f9.length → ∀ x5 : List Int, x5.length + 65556 * d + 200000 < 140737488355328 → Ev (fun k => packet_Put.l0 k (x5 ++ (encEs (m.f9.drop n) ++ (enc1 m.f10.length ++ m.f10))) ms (ms.length : Int) ((i + 1 : Nat) : Int)) R →
      Ev (fun k => packet_Put.l1 k x5 ms (ms.length : Int) (i : Int) m.f9 (m.f9.length : Int) (n : Int) m.f0 m.f1 m.f2 m.f3 m.f4 m.f5 m.f6 m.f7 m.f8 m.f9 m.f10) R := by
  obtain ⟨h4, h5, h6, h7, h0, h1, h9, h10, he⟩ := msgOk_all ha
  intro d
  induction d with
  | zero =>
    intro n hn x5 hl K
    have e0 : ∀ l : List Int, encEs [] ++ l = l := fun _ => rfl
    rw [List.drop_eq_nil_of_le (by omega), e0] at K
    have hb := pbytes_ev h10 x5 (by omega)
    refine Ev.step (fun k => ?_) (Ev.bind (f := fun k t165 => packet_Put.l0 k t165 ms (ms.length : Int) ((i + 1 : Nat) : Int)) hb K)
    simp only [packet_Put.l1]
    rw [if_neg (by omega), w64n (by omega)]
  | succ d ih =>
    intro n hn x5 hl K
    have hlt : n < m.f9.length := by omega
    have hok := he _ (List.getElem_mem hlt)
    have hsm := okE_sm hok
    have hel := encE_len hok
    have hd : m.f9.drop n = m.f9[n] :: m.f9.drop (n + 1) := List.drop_eq_getElem_cons hlt
    rw [hd] at K
    have e1 : x5 ++ (encEs (m.f9[n] :: m.f9.drop (n + 1)) ++ (enc1 m.f10.length ++ m.f10)) = (x5 ++ encE m.f9[n]) ++ (encEs (m.f9.drop (n + 1)) ++ (enc1 m.f10.length ++ m.f10)) := by
      simp only [encEs, List.append_assoc]
    rw [e1] at K
    have hi := ih (n + 1) (by omega) (x5 ++ encE m.f9[n]) (by rw [List.length_append]; omega) K
    have hn1 := numbers_ev [m.f9[n].f0] (fun x hx => by rw [List.mem_singleton] at hx; exact hx ▸ hsm.1) (by simp) x5 (by show x5.length + 10 * 1 < _; omega)
    have h1l := enc1_len m.f9[n].f0
    have e2 : encN [m.f9[n].f0] = enc1 m.f9[n].f0 := by show _ ++ [] = _; rw [List.append_nil]
    rw [e2] at hn1
    have hb1 := pbytes_ev hsm.2 (x5 ++ enc1 m.f9[n].f0) (by rw [List.length_append]; omega)
    rw [List.append_assoc] at hb1
    refine Ev.step (fun k => ?_) (Ev.bind (f := fun k t159 => (pack_Bytes.f k t159 m.f9[n].f1).bind fun t162 => packet_Put.l1 k t162 ms (ms.length : Int) (i : Int) m.f9 (m.f9.length : Int) ((n + 1 : Nat) : Int) m.f0 m.f1 m.f2 m.f3 m.f4 m.f5 m.f6 m.f7 m.f8 m.f9 m.f10) hn1 (Ev.bind (f := fun k t162 => packet_Put.l1 k t162 ms (ms.length : Int) (i : Int) m.f9 (m.f9.length : Int) ((n + 1 : Nat) : Int) m.f0 m.f1 m.f2 m.f3 m.f4 m.f5 m.f6 m.f7 m.f8 m.f9 m.f10) hb1 hi))
    simp only [packet_Put.l1]
    rw [if_pos (by omega), if_pos (by omega), if_pos (by omega), rd48 hlt, w64n (by omega)]
theorem yes_eq (b : Bool) : packet_yes.f b = some (yesI b) := by
  unfold packet_yes.f yesI
  cases b <;> rfl
theorem put_l0 (fr tt : Int) (ms : List S51) (hm : ms.length ≤ 256) (hok : ∀ m ∈ ms, okM fr tt m) : ∀ (d n : Nat), n + d = ms.length → ∀ x5 : List Int, IsB x5 → x5.length + 600000 * d + 200000 < 140737488355328 →
    Ev (fun k => packet_Put.l0 k x5 ms (ms.length : Int) (n : Int)) (encT (x5 ++ encMs (ms.drop n)), 0) := by
  intro d
  induction d with
  | zero =>
    intro n hn x5 hb hl
    rw [List.drop_eq_nil_of_le (by omega)]
    have hs := crc_su x5 hb (by omega)
    have e : x5 ++ encMs [] = x5 := List.append_nil _
    rw [e]
    refine Ev.step (fun k => ?_) (Ev.bind (f := fun k t138 => (if x5.length + (sumL t138).length < 140737488355328 then (some ((x5 ++ sumL t138), (0 : Int))) else (none))) hs (Ev.yes (by show x5.length + 4 < _; omega) (Ev.now _)))
    simp only [packet_Put.l0]
    rw [if_neg (by omega)]
    rfl
  | succ d ih =>
    intro n hn x5 hb hl
    have hlt : n < ms.length := by omega
    have ho := hok _ (List.getElem_mem hlt)
    have hml := encM_len ho.1
    have hmb := encM_B ho
    have hi := ih (n + 1) (by omega) (x5 ++ encM ms[n]) (isB_append hb hmb) (by rw [List.length_append]; omega)
    have hd : ms.drop n = ms[n] :: ms.drop (n + 1) := List.drop_eq_getElem_cons hlt
    rw [hd]
    have e1 : x5 ++ encMs (ms[n] :: ms.drop (n + 1)) = x5 ++ encM ms[n] ++ encMs (ms.drop (n + 1)) := by
      rw [encMs, List.append_assoc]
    rw [e1]
    have hnl := encN_len [ms[n].f0, ms[n].f1, ms[n].f4, ms[n].f5, ms[n].f6, ms[n].f7, yesI ms[n].f8, (ms[n].f9.length : Int)]
    simp only [List.length_cons, List.length_nil] at hnl
    have h9 := (msgOk_all ho.1).2.2.2.2.2.2.1
    have hn1 := numbers_ev [ms[n].f0, ms[n].f1, ms[n].f4, ms[n].f5, ms[n].f6, ms[n].f7, yesI ms[n].f8, (ms[n].f9.length : Int)] (nums_sm ho.1) (by simp) x5 (by simp only [List.length_cons, List.length_nil]; omega)
    have hK := put_l1 ms n (by omega) ms[n] ho.1 _ ms[n].f9.length 0 (Nat.zero_add _) (x5 ++ encN [ms[n].f0, ms[n].f1, ms[n].f4, ms[n].f5, ms[n].f6, ms[n].f7, yesI ms[n].f8, (ms[n].f9.length : Int)]) (by rw [List.length_append]; omega) (by
      rw [List.drop_zero, List.append_assoc]
      exact hi)
    refine Ev.step (fun k => ?_) (Ev.bind (f := fun k t151 => packet_Put.l1 k t151 ms (ms.length : Int) (n : Int) ms[n].f9 (ms[n].f9.length : Int) 0 ms[n].f0 ms[n].f1 ms[n].f2 ms[n].f3 ms[n].f4 ms[n].f5 ms[n].f6 ms[n].f7 ms[n].f8 ms[n].f9 ms[n].f10) hn1 hK)
    simp only [packet_Put.l0]
    rw [if_pos (by omega), if_pos (by omega), if_pos (by omega), rd51 hlt, yes_eq]
    rfl

/-! ### Check -/
def okP (fr tt : Int) (ms : List S51) : Prop := (1 ≤ fr ∧ fr ≤ 7) ∧ (1 ≤ tt ∧ tt ≤ 7) ∧ ms.length ≤ 256 ∧ ∀ m ∈ ms, msgOk m = true ∧ m.f2 = fr ∧ m.f3 = tt
theorem check_l0 (fr tt : Int) (ms : List S51) (hl : ms.length ≤ 256) : ∀ (d n : Nat), n + d = ms.length → (∀ (j : Nat) (h : j < ms.length), j < n → msgOk ms[j] = true ∧ ms[j].f2 = fr ∧ ms[j].f3 = tt) →
    ∃ c, Ev (fun k => packet_Check.l0 k ms (ms.length : Int) (n : Int) fr tt ms) c ∧ (c = 0 → ∀ m ∈ ms, msgOk m = true ∧ m.f2 = fr ∧ m.f3 = tt) := by
  intro d
  induction d with
  | zero =>
    intro n hn hb
    refine ⟨0, Ev.step (f := fun _ => some 0) (fun k => ?_) (Ev.now _), fun _ m hm => ?_⟩
    · simp only [packet_Check.l0]
      rw [if_neg (by omega)]
    · obtain ⟨j, hj, rfl⟩ := List.mem_iff_getElem.mp hm
      exact hb j hj (by omega)
  | succ d ih =>
    intro n hn hb
    have hlt : n < ms.length := by omega
    by_cases h2 : ms[n].f2 = fr
    · by_cases h3 : ms[n].f3 = tt
      · by_cases hk : msgOk ms[n] = true
        · obtain ⟨c, hc, hz⟩ := ih (n + 1) (by omega) (fun j hj hjn => by
            by_cases e : j = n
            · subst e
              exact ⟨hk, h2, h3⟩
            · exact hb j hj (by omega))
          refine ⟨c, Ev.step (fun k => ?_) hc, hz⟩
          simp only [packet_Check.l0]
          rw [if_pos (by omega), if_pos (by omega), if_pos (by omega), rd51 hlt, if_pos h2, if_pos h3]
          simp only [packet_msg.f, Option.bind_some, eta51]
          rw [if_pos hk, w64n (by omega)]
        · refine ⟨1, Ev.step (f := fun _ => some 1) (fun k => ?_) (Ev.now _), fun h => by cases h⟩
          simp only [packet_Check.l0]
          rw [if_pos (by omega), if_pos (by omega), if_pos (by omega), rd51 hlt, if_pos h2, if_pos h3]
          simp only [packet_msg.f, Option.bind_some, eta51]
          rw [if_neg hk]
      · refine ⟨1, Ev.step (f := fun _ => some 1) (fun k => ?_) (Ev.now _), fun h => by cases h⟩
        simp only [packet_Check.l0]
        rw [if_pos (by omega), if_pos (by omega), if_pos (by omega), rd51 hlt, if_pos h2, if_neg h3]
    · refine ⟨1, Ev.step (f := fun _ => some 1) (fun k => ?_) (Ev.now _), fun h => by cases h⟩
      simp only [packet_Check.l0]
      rw [if_pos (by omega), if_pos (by omega), if_pos (by omega), rd51 hlt, if_neg h2]
theorem node_eq (a : Int) : packet_node.f a = some (decide (1 ≤ a ∧ a ≤ 7)) := by
  unfold packet_node.f
  by_cases h : a ≥ 1
  · rw [if_pos h]
    congr 1
    by_cases h7 : a ≤ 7
    · rw [decide_eq_true h7, decide_eq_true ⟨h, h7⟩]
    · rw [decide_eq_false h7, decide_eq_false (fun c => h7 c.2)]
  · rw [if_neg h, decide_eq_false (fun c => h c.1)]
theorem check_ev (fr tt : Int) (ms : List S51) : ∃ c, Ev (fun k => packet_Check.f k fr tt ms) c ∧ (c = 0 → okP fr tt ms) := by
  have bad : Ev (fun k => packet_Check.j0 k true fr tt ms) 1 := Ev.step (f := fun _ => some 1) (fun k => by simp only [packet_Check.j0]; rw [if_pos trivial]) (Ev.now _)
  by_cases hf : 1 ≤ fr ∧ fr ≤ 7
  · by_cases ht : 1 ≤ tt ∧ tt ≤ 7
    · by_cases he : fr = tt
      · refine ⟨1, Ev.congr (fun k => ?_) bad, fun h => by cases h⟩
        unfold packet_Check.f
        rw [node_eq, node_eq, decide_eq_true hf, decide_eq_true ht, he]
        show packet_Check.j0 k (tt == tt) tt tt ms = packet_Check.j0 k true tt tt ms
        rw [beq_self_eq_true]
      · have hne : (fr == tt) = false := beq_eq_false_iff_ne.mpr he
        by_cases hl : ms.length ≤ 256
        · obtain ⟨c, hc, hz⟩ := check_l0 fr tt ms hl ms.length 0 (Nat.zero_add _) (fun j _ hj => absurd hj (Nat.not_lt_zero _))
          refine ⟨c, Ev.congr (fun k => ?_) (Ev.step (g := fun k => packet_Check.j0 k false fr tt ms) (fun k => ?_) hc), fun h => ⟨hf, ht, hl, hz h⟩⟩
          · unfold packet_Check.f
            rw [node_eq, node_eq, decide_eq_true hf, decide_eq_true ht, hne]
            rfl
          · simp only [packet_Check.j0]
            rw [if_neg (by decide), if_neg (by omega)]
            rfl
        · refine ⟨6, Ev.congr (fun k => ?_) (Ev.step (g := fun k => packet_Check.j0 k false fr tt ms) (f := fun _ => some 6) (fun k => ?_) (Ev.now _)), fun h => by cases h⟩
          · unfold packet_Check.f
            rw [node_eq, node_eq, decide_eq_true hf, decide_eq_true ht, hne]
            rfl
          · simp only [packet_Check.j0]
            rw [if_neg (by decide), if_pos (by omega)]
    · refine ⟨1, Ev.congr (fun k => ?_) bad, fun h => by cases h⟩
      unfold packet_Check.f
      rw [node_eq, node_eq, decide_eq_true hf, decide_eq_false ht]
      rfl
  · refine ⟨1, Ev.congr (fun k => ?_) bad, fun h => by cases h⟩
    unfold packet_Check.f
    rw [node_eq, decide_eq_false hf]
    rfl

/-! ### Put -/
def fineB (ms : List S51) : Prop := ∀ m ∈ ms, IsB m.f10 ∧ ∀ e ∈ m.f9, IsB e.f1
theorem okP_okM {fr tt : Int} {ms : List S51} (h : okP fr tt ms) (hb : fineB ms) : ∀ m ∈ ms, okM fr tt m := fun m hm => ⟨(h.2.2.2 m hm).1, (h.2.2.2 m hm).2.1, (h.2.2.2 m hm).2.2, (hb m hm).1, (hb m hm).2⟩
theorem three_sm {fr tt : Int} {ms : List S51} (h : okP fr tt ms) : ∀ x ∈ [fr, tt, (ms.length : Int)], Sm x := by
  obtain ⟨hf, ht, hl, _⟩ := h
  intro x hx
  simp only [List.mem_cons, List.mem_nil_iff, or_false] at hx
  rcases hx with rfl | rfl | rfl <;> exact ⟨by omega, by omega⟩
theorem encB_B {fr tt : Int} {ms : List S51} (h : okP fr tt ms) (hb : fineB ms) : IsB (encB fr tt ms) := isB_append (encN_B _ (three_sm h)) (encMs_B ms (okP_okM h hb))
theorem encB_len {fr tt : Int} {ms : List S51} (h : okP fr tt ms) (hb : fineB ms) : (encB fr tt ms).length ≤ 200000000 := by
  have h1 := encMs_len ms (okP_okM h hb)
  have h2 := encN_len [fr, tt, (ms.length : Int)]
  have h3 := h.2.2.1
  simp only [List.length_cons, List.length_nil] at h2
  simp only [encB, List.length_append]
  omega
theorem encT_B {T : List Int} (h : IsB T) : IsB (encT T) := isB_append h (sumL_B _)
theorem encT_len (T : List Int) : (encT T).length = T.length + 4 := by rw [encT, List.length_append]; rfl
theorem put_ev (fr tt : Int) (ms : List S51) (hb : fineB ms) : ∃ c, Ev (fun k => packet_Check.f k fr tt ms) c ∧ ((c = 0 ∧ okP fr tt ms ∧ Ev (fun k => packet_Put.f k fr tt ms) (encT (encB fr tt ms), 0)) ∨ (c ≠ 0 ∧ Ev (fun k => packet_Put.f k fr tt ms) ([], c))) := by
  obtain ⟨c, hc, hz⟩ := check_ev fr tt ms
  refine ⟨c, hc, ?_⟩
  by_cases h0 : c = 0
  · subst h0
    have ok := hz rfl
    have hl := ok.2.2.1
    refine .inl ⟨rfl, ok, ?_⟩
    have hn := numbers_ev [fr, tt, (ms.length : Int)] (three_sm ok) (by simp) [] (by simp)
    have h2 := encN_len [fr, tt, (ms.length : Int)]
    simp only [List.length_cons, List.length_nil] at h2
    have hp := put_l0 fr tt ms hl (okP_okM ok hb) ms.length 0 (Nat.zero_add _) ([] ++ encN [fr, tt, (ms.length : Int)]) (by rw [List.nil_append]; exact encN_B _ (three_sm ok)) (by rw [List.nil_append]; omega)
    rw [List.drop_zero] at hp
    refine Ev.congr (fun k => by unfold packet_Put.f; rfl) (Ev.bind (f := fun k t131 => (if t131 = 0 then ((packet_numbers.f k ([] : List Int) (([fr, tt, (ms.length : Int)] : List Int))).bind fun t135 => (packet_Put.l0 k t135 ms (ms.length : Int) 0)) else (some (([] : List Int), t131)))) hc (Ev.yes rfl (Ev.bind (f := fun k t135 => packet_Put.l0 k t135 ms (ms.length : Int) 0) hn hp)))
  · refine .inr ⟨h0, ?_⟩
    refine Ev.congr (fun k => by unfold packet_Put.f; rfl) (Ev.bind (f := fun k t131 => (if t131 = 0 then ((packet_numbers.f k ([] : List Int) (([fr, tt, (ms.length : Int)] : List Int))).bind fun t135 => (packet_Put.l0 k t135 ms (ms.length : Int) 0)) else (some (([] : List Int), t131)))) hc (Ev.no h0 (Ev.now _)))
theorem fine_B {ms : List S51} (h : ∀ y ∈ ms, fineT51 y) : fineB ms := by
  have u8 : ∀ y : Int, (Lit.int .u8 y).wf = true → 0 ≤ y ∧ y < 256 := by
    intro y hy
    have e1 : IntKind.u8.min = 0 := rfl
    have e2 : IntKind.u8.max = 255 := rfl
    simp [Lit.wf, e1, e2] at hy
    omega
  intro m hm
  have hf := (h m hm).2.2.2.2.2.2.2.2.2
  exact ⟨fun x hx => u8 x (hf.2.2 x hx), fun e he x hx => u8 x ((hf.1.2 e he).2.2 x hx)⟩
theorem fine_w {ms : List S51} (hl : ms.length * 120 ≤ 140737488351232) (h : ∀ y ∈ ms, fineT51 y) : weighL ms := ⟨by omega, fun y hy => by
  have := (h y hy).2.2.2.2.2.2.2.2.2.1.1
  omega⟩

/-! ### Read of what Put wrote -/
theorem ents_back : ∀ (es : List S48) (acc : List S48) (r : List Int), (∀ e ∈ es, entOk e = true) → entsP es.length (encEs es ++ r) 0 acc = (acc ++ es, r, 0)
  | [], acc, r, _ => by
    rw [List.append_nil]
    rfl
  | e :: es, acc, r, h => by
    have hk := okE_sm (h e (List.mem_cons_self ..))
    have ih := ents_back es (acc ++ [e]) r fun x hx => h x (List.mem_cons_of_mem _ hx)
    have e1 : encEs (e :: es) ++ r = enc1 e.f0 ++ (enc1 e.f1.length ++ (e.f1 ++ (encEs es ++ r))) := by
      simp only [encEs, encE, List.append_assoc]
    rw [e1, List.length_cons]
    simp only [entsP]
    rw [if_pos trivial, num_enc hk.1 hk.1.2]
    dsimp only
    rw [bytes_enc hk.2]
    dsimp only
    rw [show (⟨e.f0, e.f1⟩ : S48) = e from rfl, ih, List.append_assoc]
    rfl
theorem msg_back (fr tt : Int) (m : S51) (h : msgOk m = true) (h2 : m.f2 = fr) (h3 : m.f3 = tt) (r : List Int) : msgP fr tt (encM m ++ r) 0 = (m, r, 0) := by
  obtain ⟨h4, h5, h6, h7, h0, h1, h9, h10, he⟩ := msgOk_all h
  have hy : Sm (yesI m.f8) ∧ yesI m.f8 ≤ 1 ∧ decide (yesI m.f8 = 1) = m.f8 := by
    unfold yesI Sm
    cases m.f8 <;> decide
  have e1 : encM m ++ r = enc1 m.f0 ++ (enc1 m.f1 ++ (enc1 m.f4 ++ (enc1 m.f5 ++ (enc1 m.f6 ++ (enc1 m.f7 ++ (enc1 (yesI m.f8) ++ (enc1 m.f9.length ++ (encEs m.f9 ++ (enc1 m.f10.length ++ (m.f10 ++ r)))))))))) := by
    simp only [encM, encN, List.append_assoc, List.nil_append]
  rw [e1]
  simp only [msgP]
  rw [num_enc (n := m.f0) ⟨by omega, by omega⟩ h0.2]
  dsimp only
  rw [num_enc (n := m.f1) ⟨by omega, by omega⟩ (by omega)]
  dsimp only
  rw [num_enc h4 h4.2]
  dsimp only
  rw [num_enc h5 h5.2]
  dsimp only
  rw [num_enc h6 h6.2]
  dsimp only
  rw [num_enc h7 h7.2]
  dsimp only
  rw [num_enc hy.1 hy.2.1]
  dsimp only
  rw [num_enc (n := (m.f9.length : Int)) ⟨by omega, by omega⟩ (by omega)]
  dsimp only
  rw [Int.toNat_natCast, ents_back m.f9 [] _ he]
  dsimp only
  rw [bytes_enc h10]
  dsimp only
  rw [hy.2.2, List.nil_append]
  subst h2 h3
  rfl
theorem msgs_back (fr tt : Int) : ∀ (ms acc : List S51) (r : List Int), (∀ m ∈ ms, msgOk m = true ∧ m.f2 = fr ∧ m.f3 = tt) → msgsP ms.length fr tt (encMs ms ++ r) 0 acc = (acc ++ ms, r, 0)
  | [], acc, r, _ => by
    rw [List.append_nil]
    rfl
  | m :: ms, acc, r, h => by
    have hk := h m (List.mem_cons_self ..)
    have ih := msgs_back fr tt ms (acc ++ [m]) r fun x hx => h x (List.mem_cons_of_mem _ hx)
    have e1 : encMs (m :: ms) ++ r = encM m ++ (encMs ms ++ r) := by
      simp only [encMs, List.append_assoc]
    rw [e1, List.length_cons]
    simp only [msgsP]
    rw [if_pos trivial, msg_back fr tt m hk.1 hk.2.1 hk.2.2]
    dsimp only
    rw [ih, List.append_assoc]
    rfl
theorem pack_back {fr tt : Int} {ms : List S51} (h : okP fr tt ms) : packP (encB fr tt ms) = (fr, tt, ms, [], 0) := by
  obtain ⟨hf, ht, hl, hm⟩ := h
  have e1 : encB fr tt ms = enc1 fr ++ (enc1 tt ++ (enc1 ms.length ++ (encMs ms ++ []))) := by
    simp only [encB, encN, List.append_assoc, List.nil_append, List.append_nil]
  rw [e1]
  simp only [packP]
  rw [num_enc (n := fr) ⟨by omega, by omega⟩ hf.2]
  dsimp only
  rw [num_enc (n := tt) ⟨by omega, by omega⟩ ht.2]
  dsimp only
  rw [num_enc (n := (ms.length : Int)) ⟨by omega, by omega⟩ (by omega)]
  dsimp only
  rw [Int.toNat_natCast, msgs_back fr tt ms [] [] hm]
  dsimp only
  rw [if_neg (by rintro ⟨_, h⟩; exact absurd h (Nat.lt_irrefl _)), List.nil_append]
theorem read_back {fr tt : Int} {ms : List S51} (hb : fineB ms) (ok : okP fr tt ms) (hc : Ev (fun k => packet_Check.f k fr tt ms) 0) : Ev (fun k => packet_Read.f k (encT (encB fr tt ms))) (fr, tt, ms, 0) := by
  have hB := encB_B ok hb
  have hl := encB_len ok hb
  have ht := encT_len (encB fr tt ms)
  have htk : (encT (encB fr tt ms)).take ((encT (encB fr tt ms)).length - 4) = encB fr tt ms := by
    rw [ht, Nat.add_sub_cancel, encT, List.take_left]
  have hdr : (encT (encB fr tt ms)).drop ((encT (encB fr tt ms)).length - 4) = sumL (i32 (crcU 0#32 (encB fr tt ms))) := by
    rw [ht, Nat.add_sub_cancel, encT, List.drop_left]
  have hs := crc_su (encB fr tt ms) hB (by omega)
  have hp := pack_back ok
  refine Ev.congr (fun k => by unfold packet_Read.f; rw [if_pos ⟨(isB_iff _).mpr (encT_B hB), by omega⟩, if_neg (by omega), htk, hdr, hp]) (Ev.bind (f := fun k s => (bytes_Equal.f (sumL (i32 (crcU 0#32 (encB fr tt ms)))) (sumL s)).bind fun q => if q = true then (if ((0 : Int)) = 0 then (packet_Check.f k fr tt ms).bind fun c => if c = 0 then some (fr, tt, ms, (0 : Int)) else some (0, 0, [], c) else some (0, 0, [], 0)) else some (0, 0, [], 4)) hs ?_)
  have he : bytes_Equal.f (sumL (i32 (crcU 0#32 (encB fr tt ms)))) (sumL (i32 (crcU 0#32 (encB fr tt ms)))) = some true := by
    unfold bytes_Equal.f
    rw [beq_self_eq_true]
  rw [he]
  refine Ev.some_bind (f := fun k q => if q = true then (if ((0 : Int)) = 0 then (packet_Check.f k fr tt ms).bind fun c => if c = 0 then some (fr, tt, ms, (0 : Int)) else some (0, 0, [], c) else some (0, 0, [], 0)) else some (0, 0, [], 4)) (Ev.yes rfl (Ev.yes rfl (Ev.bind (f := fun k c => if c = 0 then some (fr, tt, ms, (0 : Int)) else some (0, 0, [], c)) hc (Ev.yes rfl (Ev.now _)))))

theorem PacketBack : funicularlaw17_PacketBack.Pure := by
  intro x0 ⟨_, _, hl, hf⟩
  have hx := fine_w hl hf
  have hb := fine_B hf
  refine Ev.rounds (g := fun k => funicularlaw17_PacketBack.f k x0.f0 x0.f1 x0.f2) ?_
  obtain ⟨b, hlt⟩ := light_tot x0.f2 hx
  refine Ev.congr (fun k => by unfold funicularlaw17_PacketBack.f; rfl) (Ev.bind (f := fun k t191 => (if t191 = true then ((packet_Put.f k x0.f0 x0.f1 x0.f2).bind fun bt193 => (if bt193.2 = 0 then ((packet_Read.f k bt193.1).bind fun bt197 => (if bt197.2.2.2 = 0 then ((funicularref17_Same.f k x0.f0 x0.f1 x0.f2 bt197.1 bt197.2.1 bt197.2.2.1).bind fun t204 => (if t204 = true then ((funicularlaw17_works.f).bind fun t205 => (some t205)) else (some false))) else (some false))) else (if (bt193.1.length : Int) = 0 then ((funicularlaw17_works.f).bind fun t206 => (some t206)) else (some false)))) else ((funicularlaw17_works.f).bind fun t192 => (some t192)))) hlt ?_)
  cases b with
  | false => exact Ev.no (by decide) (Ev.now true)
  | true =>
    refine Ev.yes rfl ?_
    obtain ⟨c, hc, hp⟩ := put_ev x0.f0 x0.f1 x0.f2 hb
    rcases hp with ⟨rfl, ok, hp⟩ | ⟨hn, hp⟩
    · refine Ev.bind (f := fun k bt193 => (if bt193.2 = 0 then ((packet_Read.f k bt193.1).bind fun bt197 => (if bt197.2.2.2 = 0 then ((funicularref17_Same.f k x0.f0 x0.f1 x0.f2 bt197.1 bt197.2.1 bt197.2.2.1).bind fun t204 => (if t204 = true then ((funicularlaw17_works.f).bind fun t205 => (some t205)) else (some false))) else (some false))) else (if (bt193.1.length : Int) = 0 then ((funicularlaw17_works.f).bind fun t206 => (some t206)) else (some false)))) hp ?_
      refine Ev.yes rfl ?_
      have hr := read_back hb ok hc
      refine Ev.bind (f := fun k bt197 => (if bt197.2.2.2 = 0 then ((funicularref17_Same.f k x0.f0 x0.f1 x0.f2 bt197.1 bt197.2.1 bt197.2.2.1).bind fun t204 => (if t204 = true then ((funicularlaw17_works.f).bind fun t205 => (some t205)) else (some false))) else (some false))) hr ?_
      refine Ev.yes rfl ?_
      have hs : Ev (fun k => funicularref17_Same.f k x0.f0 x0.f1 x0.f2 x0.f0 x0.f1 x0.f2) true := by
        refine Ev.congr (fun k => ?_) (sameMsgs_self x0.f2 hx)
        unfold funicularref17_Same.f
        rw [if_pos rfl, if_pos rfl]
        cases funicularref15_SameMsgs.f k x0.f2 x0.f2 <;> rfl
      exact Ev.bind (f := fun k t204 => (if t204 = true then ((funicularlaw17_works.f).bind fun t205 => (some t205)) else (some false))) hs (Ev.yes rfl (Ev.now true))
    · refine Ev.bind (f := fun k bt193 => (if bt193.2 = 0 then ((packet_Read.f k bt193.1).bind fun bt197 => (if bt197.2.2.2 = 0 then ((funicularref17_Same.f k x0.f0 x0.f1 x0.f2 bt197.1 bt197.2.1 bt197.2.2.1).bind fun t204 => (if t204 = true then ((funicularlaw17_works.f).bind fun t205 => (some t205)) else (some false))) else (some false))) else (if (bt193.1.length : Int) = 0 then ((funicularlaw17_works.f).bind fun t206 => (some t206)) else (some false)))) hp ?_
      exact Ev.no hn (Ev.yes rfl (Ev.now true))

end Go.Proofs.Ytnmcahlpkebpjaa.Pure
