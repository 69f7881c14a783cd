import Derived.Test.YtnmcahlpkebpjaaXPacketOncex12
import Derived.Test.YtnmcahlpkebpjaaXCrc
set_option linter.unusedVariables false
set_option linter.unusedSimpArgs false
namespace Go.Proofs.Ytnmcahlpkebpjaa.Pure
open Go.RowKit Go.Proofs.YtnmcahlpkebpjaaX Go.Proofs.Ytnmcahlpkebpjaa.XPacketOnce Go.Proofs.YtnmcahlpkebpjaaW.PrintWords Go.Proofs.YtnmcahlpkebpjaaW.PrintLast

theorem w64 {x : Int} (h0 : -9223372036854775808 ≤ x) (h1 : x ≤ 9223372036854775807) : wrap64 x = x := by
  unfold wrap64
  omega
theorem w64n {n : Nat} (h : n < 4611686018427387904) : wrap64 ((n : Int) + 1) = ((n + 1 : Nat) : Int) := by
  rw [w64 (by omega) (by omega)]
  rfl
theorem rd51 {l : List S51} {i : Nat} (h : i < l.length) : rd_T51 l (i : Int) = l[i] := by
  unfold rd_T51
  rw [Int.toNat_natCast, List.getD_eq_getElem?_getD, List.getElem?_eq_getElem h]
  rfl
theorem rd48 {l : List S48} {i : Nat} (h : i < l.length) : rd_T48 l (i : Int) = l[i] := by
  unfold rd_T48
  rw [Int.toNat_natCast, List.getD_eq_getElem?_getD, List.getElem?_eq_getElem h]
  rfl
theorem eta51 (m : S51) : (⟨m.f0, m.f1, m.f2, m.f3, m.f4, m.f5, m.f6, m.f7, m.f8, m.f9, m.f10⟩ : S51) = m := rfl

/-! ### light answers -/
def Tot {α : Type} (g : Nat → Option α) : Prop := ∃ r, Ev g r
theorem Tot.step {α : Type} {g f : Nat → Option α} (h : ∀ k, g (k + 1) = f k) (t : Tot f) : Tot g := t.elim fun r e => ⟨r, Ev.step h e⟩
theorem Tot.now {α : Type} (r : α) : Tot (fun _ => some r) := ⟨r, Ev.now r⟩
def weighL (x0 : List S51) : Prop := x0.length < 4611686018427387904 ∧ ∀ y ∈ x0, y.f9.length < 4611686018427387904
/-! ### what is the same answers yes -/
theorem entries_self (l : List S48) (hl : l.length < 4611686018427387904) : ∀ (d n : Nat), n + d = l.length → Ev (fun k => funicularref13_Entries.l0 k l l (n : Int)) true := by
  intro d
  induction d with
  | zero =>
    intro n hn
    refine Ev.step (f := fun _ => some true) (fun k => ?_) (Ev.now true)
    simp only [funicularref13_Entries.l0]
    rw [if_neg (by omega)]
  | succ d ih =>
    intro n hn
    refine Ev.step (fun k => ?_) (ih (n + 1) (by omega))
    simp only [funicularref13_Entries.l0]
    rw [if_pos (by omega), if_pos (by omega), if_pos (by omega), if_pos trivial, if_pos trivial, w64n (by omega)]
theorem sameMsg_self (m : S51) (h9 : m.f9.length < 4611686018427387904) : Ev (fun k => funicularref15_SameMsg.f k m.f0 m.f1 m.f2 m.f3 m.f4 m.f5 m.f6 m.f7 m.f8 m.f9 m.f10 m.f0 m.f1 m.f2 m.f3 m.f4 m.f5 m.f6 m.f7 m.f8 m.f9 m.f10) true := by
  have h : Ev (fun k => funicularref13_Entries.f k m.f9 m.f9) true := Ev.congr (fun k => by unfold funicularref13_Entries.f; rw [if_pos rfl]; rfl) (entries_self m.f9 h9 _ 0 (Nat.zero_add _))
  refine Ev.congr (fun k => ?_) (Ev.bind (f := fun k t => if t = true then (some ((strOfNums m.f10).toList == (strOfNums m.f10).toList)) else some false) h (Ev.yes rfl (by rw [beq_self_eq_true]; exact Ev.now true)))
  unfold funicularref15_SameMsg.f
  rw [if_pos rfl, if_pos rfl, if_pos rfl, if_pos rfl, if_pos rfl, if_pos rfl, if_pos rfl, if_pos rfl, if_neg (by rw [bne_self_eq_false]; decide)]
theorem sameMsgs_self (l : List S51) (hl : weighL l) : Ev (fun k => funicularref15_SameMsgs.f k l l) true := by
  have key : ∀ (d n : Nat), n + d = l.length → Ev (fun k => funicularref15_SameMsgs.l0 k l l (n : Int)) true := by
    intro d
    have h1 := hl.1
    induction d with
    | zero =>
      intro n hn
      refine Ev.step (f := fun _ => some true) (fun k => ?_) (Ev.now true)
      simp only [funicularref15_SameMsgs.l0]
      rw [if_neg (by omega)]
    | succ d ih =>
      intro n hn
      have hlt : n < l.length := by omega
      have h9 := hl.2 _ (List.getElem_mem hlt)
      have hm := sameMsg_self l[n] h9
      refine Ev.step (fun k => ?_) (Ev.bind (f := fun k t => if t = true then (funicularref15_SameMsgs.l0 k l l (((n + 1 : Nat)) : Int)) else some false) hm (Ev.yes rfl (ih (n + 1) (by omega))))
      simp only [funicularref15_SameMsgs.l0]
      rw [if_pos (by omega), if_pos (by omega), if_pos (by omega), rd51 hlt, w64n (by omega)]
  exact Ev.congr (fun k => by unfold funicularref15_SameMsgs.f; rw [if_pos rfl]; rfl) (key _ 0 (Nat.zero_add _))

/-! ### the sum -/
theorem rd_get {l : List Int} {i : Nat} (h : i < l.length) : rd l (i : Int) = l[i] := by
  unfold rd
  rw [Int.toNat_natCast, List.getD_eq_getElem?_getD, List.getElem?_eq_getElem h]
  rfl
theorem upd_l1 (x10 : List Int) (x11 x12 : Int) (r : Int) : ∀ (n : Nat) (j : Int) (s : BitVec 32), j + n = 8 → 0 ≤ j →
    Ev (fun k => crc_Update.l0 k (i32 (rnds n s)) x10 x11 (wrap64 (x12 + 1))) r → Ev (fun k => crc_Update.l1 k (i32 s) x10 x11 x12 j) r
  | 0, j, s, hj, h0, h => Ev.step (fun k => by
      simp only [crc_Update.l1]
      rw [if_neg (by omega)]
      rfl) h
  | n + 1, j, s, hj, h0, h => by
    have ih := upd_l1 x10 x11 x12 r n (j + 1) (rnd s) (by omega) (by omega) h
    refine Ev.step (fun k => ?_) ih
    simp only [crc_Update.l1]
    rw [if_pos (by omega), w64 (by omega) (by omega)]
    have hb : Go.bits .and .u32 (i32 s) 1 = i32 (s &&& 1#32) := bits_and s 1#32
    by_cases hc : s &&& 1#32 = 1#32
    · have hx : Go.bits .xor .u32 (i32 (s >>> 1)) 3988292384 = i32 ((s >>> 1) ^^^ 3988292384#32) := bits_xor (s >>> 1) 3988292384#32
      rw [if_pos (by rw [hb, hc]; rfl), i32_half, hx]
      unfold rnd
      rw [if_pos hc]
    · rw [if_neg (by rw [hb]; exact fun h => hc (i32_inj (b := 1#32) h)), i32_half]
      unfold rnd
      rw [if_neg hc]
theorem upd_l0 (l : List Int) (hb : IsB l) (hl : l.length ≤ 140737488355328) : ∀ (n i : Nat) (s : BitVec 32), i + n = l.length →
    Ev (fun k => crc_Update.l0 k (i32 s) l (l.length : Int) (i : Int)) (i32 (~~~ (upd s (l.drop i))))
  | 0, i, s, hi => by
    have hd : l.drop i = [] := List.drop_eq_nil_of_le (by omega)
    refine Ev.step (f := fun _ => some (i32 (~~~ (upd s (l.drop i))))) (fun k => ?_) (Ev.now _)
    simp only [crc_Update.l0]
    rw [if_neg (by omega), hd]
    have hx : Go.bits .xor .u32 4294967295 (i32 s) = i32 (4294967295#32 ^^^ s) := bits_xor 4294967295#32 s
    rw [hx]
    congr 2
  | n + 1, i, s, hi => by
    have hlt : i < l.length := by omega
    have ih := upd_l0 l hb hl n (i + 1) (byte8 s l[i]) (by omega)
    have hd : l.drop i = l[i] :: l.drop (i + 1) := List.drop_eq_getElem_cons hlt
    have hbi := hb l[i] (List.getElem_mem hlt)
    rw [hd]
    have h1 := upd_l1 l (l.length : Int) (i : Int) (i32 (~~~ (upd s (l[i] :: l.drop (i + 1))))) 8 0 (s ^^^ BitVec.ofInt 32 l[i]) (by omega) (by omega) (by
      rw [w64 (by omega) (by omega)]
      exact ih)
    refine Ev.step (fun k => ?_) h1
    simp only [crc_Update.l0]
    rw [if_pos (by omega), if_pos (by omega), if_pos (by omega), rd_get hlt]
    have hm : l[i] % 4294967296 = i32 (BitVec.ofInt 32 l[i]) := by
      rw [i32_ofInt _ (by omega) (by omega)]
      omega
    rw [hm, bits_xor]
theorem crc_up (s : BitVec 32) (l : List Int) (hb : IsB l) (hl : l.length ≤ 140737488355328) : Ev (fun k => crc_Update.f k (i32 s) l) (i32 (crcU s l)) := by
  have h := upd_l0 l hb hl l.length 0 (~~~ s) (by omega)
  refine Ev.congr (fun k => ?_) h
  unfold crc_Update.f
  have hx : Go.bits .xor .u32 4294967295 (i32 s) = i32 (4294967295#32 ^^^ s) := bits_xor 4294967295#32 s
  rw [hx]
  congr 2
theorem crc_su (l : List Int) (hb : IsB l) (hl : l.length ≤ 140737488355328) : Ev (fun k => crc_Sum.f k l) (i32 (crcU 0#32 l)) := by
  have h := crc_up 0#32 l hb hl
  exact Ev.bind (f := fun _ t => some t) h (Ev.now _)

/-! ### bytes -/
theorem isB_nil : IsB [] := fun x hx => by cases hx
theorem isB_append {a b : List Int} (ha : IsB a) (hb : IsB b) : IsB (a ++ b) := fun x hx => (List.mem_append.mp hx).elim (ha x) (hb x)
theorem isB_one {a : Int} (h : 0 ≤ a ∧ a < 256) : IsB [a] := fun x hx => by
  rw [List.mem_singleton] at hx
  exact hx ▸ h
/-! ### a number as bytes of seven bits -/
theorem or128 : ∀ b : Fin 256, Go.bits .or .u8 ((b.val : Nat) : Int) 128 = ((b.val % 128 + 128 : Nat) : Int) := by decide +kernel
theorem or128' (n : Int) (h : 0 ≤ n) : Go.bits .or .u8 (n % 256) 128 = n % 128 + 128 := by
  obtain ⟨m, rfl⟩ := Int.eq_ofNat_of_zero_le h
  have h1 := or128 ⟨m % 256, Nat.mod_lt _ (by decide)⟩
  have e1 : ((m : Int)) % 256 = ((m % 256 : Nat) : Int) := by omega
  rw [e1]
  rw [show ((m : Int) % 128 + 128) = ((m % 256 % 128 + 128 : Nat) : Int) by omega]
  exact h1
def leb : Nat → Int → List Int
  | 0, _ => []
  | f + 1, n => if n < 128 then [n] else (n % 128 + 128) :: leb f (n / 128)
theorem leb_len : ∀ (f : Nat) (n : Int), (leb f n).length ≤ f
  | 0, n => Nat.le_refl _
  | f + 1, n => by
    have := leb_len f (n / 128)
    simp only [leb]
    split
    · simp
    · rw [List.length_cons]
      omega
theorem leb_B : ∀ (f : Nat) (n : Int), 0 ≤ n → IsB (leb f n)
  | 0, n, _ => isB_nil
  | f + 1, n, h => by
    have ih := leb_B f (n / 128) (by omega)
    simp only [leb]
    split
    · exact isB_one (by omega)
    · exact isB_append (a := [_]) (isB_one (by omega)) ih
theorem uint_ev : ∀ (f : Nat) (n : Int) (x0 : List Int), 0 ≤ n → n < 128 ^ (f + 1) → x0.length + (f + 1) < 140737488355328 → Ev (fun k => pack_Uint.l0 k x0 n) (x0 ++ leb (f + 1) n)
  | 0, n, x0, h0, h1, hl => by
    refine Ev.step (f := fun _ => some (x0 ++ leb 1 n)) (fun k => ?_) (Ev.now _)
    have h2 : n < 128 := by simpa using h1
    simp only [pack_Uint.l0, leb]
    rw [if_neg (by omega), if_pos (by omega), if_pos h2]
    congr 3
    omega
  | f + 1, n, x0, h0, h1, hl => by
    by_cases hc : n < 128
    · refine Ev.step (f := fun _ => some (x0 ++ leb (f + 1 + 1) n)) (fun k => ?_) (Ev.now _)
      rw [leb]
      simp only [pack_Uint.l0]
      rw [if_neg (by omega), if_pos (by omega), if_pos hc]
      congr 3
      omega
    · have hp : n / 128 < 128 ^ (f + 1) := by
        rw [Int.pow_succ] at h1
        generalize (128 : Int) ^ (f + 1) = p at h1 ⊢
        omega
      have ih := uint_ev f (n / 128) (x0 ++ [n % 128 + 128]) (by omega) hp (by rw [List.length_append]; show x0.length + 1 + (f + 1) < _; omega)
      rw [List.append_assoc] at ih
      have e : leb (f + 1 + 1) n = (n % 128 + 128) :: leb (f + 1) (n / 128) := by rw [leb, if_neg hc]
      rw [e]
      refine Ev.step (fun k => ?_) ih
      simp only [pack_Uint.l0]
      rw [if_pos (by omega), if_pos (by omega), or128' n h0]
def enc1 (n : Int) : List Int := leb 10 n
def Sm (n : Int) : Prop := 0 ≤ n ∧ n ≤ 1099511627776
theorem enc1_len (n : Int) : (enc1 n).length ≤ 10 := leb_len 10 n
theorem enc1_B {n : Int} (h : Sm n) : IsB (enc1 n) := leb_B 10 n h.1
theorem p10 : (1099511627776 : Int) < 128 ^ (9 + 1) := by decide
theorem uwrap {n : Int} (h : Sm n) : IntKind.u64.wrap n = n := by
  have h1 := h.1
  have h2 := h.2
  rw [IntKind.wrap_u64]
  omega
theorem one_ev {n : Int} (h : Sm n) (x0 : List Int) (hl : x0.length + 10 < 140737488355328) : Ev (fun k => pack_Uint.f k x0 (IntKind.u64.wrap n)) (x0 ++ enc1 n) := by
  rw [uwrap h]
  exact uint_ev 9 n x0 h.1 (Int.lt_of_le_of_lt h.2 p10) hl
def encN : List Int → List Int
  | [] => []
  | n :: l => enc1 n ++ encN l
theorem encN_len : ∀ l : List Int, (encN l).length ≤ 10 * l.length
  | [] => Nat.le_refl _
  | n :: l => by
    have h1 := enc1_len n
    have h2 := encN_len l
    simp only [encN, List.length_append, List.length_cons]
    omega
theorem encN_B : ∀ l : List Int, (∀ x ∈ l, Sm x) → IsB (encN l)
  | [], _ => isB_nil
  | n :: l, h => isB_append (enc1_B (h n (List.mem_cons_self ..))) (encN_B l fun x hx => h x (List.mem_cons_of_mem _ hx))
theorem numbers_ev (xs : List Int) (hx : ∀ x ∈ xs, Sm x) (hn : xs.length ≤ 100) (x0 : List Int) (hl : x0.length + 10 * xs.length < 140737488355328) : Ev (fun k => packet_numbers.f k x0 xs) (x0 ++ encN xs) := by
  have key : ∀ (d n : Nat), n + d = xs.length → ∀ x0 : List Int, x0.length + 10 * d < 140737488355328 → Ev (fun k => packet_numbers.l0 k x0 xs (xs.length : Int) (n : Int)) (x0 ++ encN (xs.drop n)) := by
    intro d
    induction d with
    | zero =>
      intro n hn x0 hl
      refine Ev.step (f := fun _ => some (x0 ++ encN (xs.drop n))) (fun k => ?_) (Ev.now _)
      simp only [packet_numbers.l0]
      rw [if_neg (by omega), List.drop_eq_nil_of_le (by omega)]
      show _ = some (x0 ++ [])
      rw [List.append_nil]
    | succ d ih =>
      intro n hn x0 hl
      have hlt : n < xs.length := by omega
      have h1 := enc1_len xs[n]
      have hi := ih (n + 1) (by omega) (x0 ++ enc1 xs[n]) (by rw [List.length_append]; omega)
      have ho := one_ev (hx _ (List.getElem_mem hlt)) x0 (by omega)
      have hd : xs.drop n = xs[n] :: xs.drop (n + 1) := List.drop_eq_getElem_cons hlt
      rw [hd]
      show Ev _ (x0 ++ (enc1 xs[n] ++ encN (xs.drop (n + 1))))
      rw [← List.append_assoc]
      refine Ev.step (fun k => ?_) (Ev.bind (f := fun k t119 => packet_numbers.l0 k t119 xs (xs.length : Int) (((n + 1 : Nat)) : Int)) ho hi)
      simp only [packet_numbers.l0]
      rw [if_pos (by omega), if_pos (by omega), if_pos (by omega), rd_get hlt, w64n (by omega)]
  have := key xs.length 0 (Nat.zero_add _) x0 hl
  exact this
theorem pbytes_ev {b : List Int} (hb : b.length ≤ 65536) (x0 : List Int) (hl : x0.length + 100000 < 140737488355328) : Ev (fun k => pack_Bytes.f k x0 b) (x0 ++ (enc1 b.length ++ b)) := by
  have h := one_ev (n := (b.length : Int)) ⟨by omega, by omega⟩ x0 (by omega)
  have h1 := enc1_len (b.length : Int)
  refine Ev.congr (fun k => by unfold pack_Bytes.f; rfl) (Ev.bind (f := fun k t122 => if t122.length + b.length < 140737488355328 then (some (t122 ++ b)) else none) h ?_)
  refine Ev.yes (by rw [List.length_append]; omega) ?_
  rw [← List.append_assoc]
  exact Ev.now _

/-! ### what Put writes -/
def encE (e : S48) : List Int := enc1 e.f0 ++ (enc1 e.f1.length ++ e.f1)
def encEs : List S48 → List Int
  | [] => []
  | e :: l => encE e ++ encEs l
def yesI (b : Bool) : Int := if b = true then 1 else 0
def encM (m : S51) : List Int := encN [m.f0, m.f1, m.f4, m.f5, m.f6, m.f7, yesI m.f8, m.f9.length] ++ (encEs m.f9 ++ (enc1 m.f10.length ++ m.f10))
def encMs : List S51 → List Int
  | [] => []
  | m :: l => encM m ++ encMs l
def encB (fr tt : Int) (ms : List S51) : List Int := encN [fr, tt, ms.length] ++ encMs ms
def okM (fr tt : Int) (m : S51) : Prop := msgOk m = true ∧ m.f2 = fr ∧ m.f3 = tt ∧ IsB m.f10 ∧ ∀ e ∈ m.f9, IsB e.f1
theorem okE_sm {e : S48} (h : entOk e = true) : Sm e.f0 ∧ e.f1.length ≤ 65536 := by
  unfold entOk at h
  simp only [Bool.and_eq_true, decide_eq_true_eq] at h
  exact ⟨⟨by omega, by omega⟩, h.2⟩
theorem msgOk_all {m : S51} (h : msgOk m = true) : Sm m.f4 ∧ Sm m.f5 ∧ Sm m.f6 ∧ Sm m.f7 ∧ (1 ≤ m.f0 ∧ m.f0 ≤ 7) ∧ (0 ≤ m.f1 ∧ m.f1 < 64) ∧ m.f9.length ≤ 8 ∧ m.f10.length ≤ 65536 ∧ ∀ e ∈ m.f9, entOk e = true := by
  unfold msgOk inI at h
  simp only [Bool.and_eq_true, decide_eq_true_eq, List.all_eq_true] at h
  obtain ⟨⟨⟨⟨⟨⟨⟨⟨h4, h5⟩, h6⟩, h7⟩, h0⟩, h1⟩, h9⟩, h10⟩, he⟩ := h
  exact ⟨h4, h5, h6, h7, h0, h1, h9, h10, he⟩
theorem encE_len {e : S48} (h : entOk e = true) : (encE e).length ≤ 65556 := by
  have h1 := (okE_sm h).2
  have h2 := enc1_len e.f0
  have h3 := enc1_len (e.f1.length : Int)
  simp only [encE, List.length_append]
  omega
theorem encEs_len : ∀ l : List S48, (∀ e ∈ l, entOk e = true) → (encEs l).length ≤ 65556 * l.length
  | [], _ => Nat.le_refl _
  | e :: l, h => by
    have h1 := encE_len (h e (List.mem_cons_self ..))
    have h2 := encEs_len l fun x hx => h x (List.mem_cons_of_mem _ hx)
    simp only [encEs, List.length_append, List.length_cons]
    omega
theorem encM_len {m : S51} (h : msgOk m = true) : (encM m).length ≤ 600000 := by
  have ha := msgOk_all h
  have h1 := encEs_len m.f9 ha.2.2.2.2.2.2.2.2
  have h2 := encN_len [m.f0, m.f1, m.f4, m.f5, m.f6, m.f7, yesI m.f8, m.f9.length]
  have h3 := enc1_len (m.f10.length : Int)
  have h4 := ha.2.2.2.2.2.2.1
  have h5 := ha.2.2.2.2.2.2.2.1
  simp only [encM, List.length_append]
  simp only [List.length_cons, List.length_nil] at h2
  omega
theorem encEs_B : ∀ l : List S48, (∀ e ∈ l, entOk e = true) → (∀ e ∈ l, IsB e.f1) → IsB (encEs l)
  | [], _, _ => isB_nil
  | e :: l, h, hb => by
    have h1 := okE_sm (h e (List.mem_cons_self ..))
    exact isB_append (isB_append (enc1_B h1.1) (isB_append (enc1_B ⟨by omega, by omega⟩) (hb e (List.mem_cons_self ..)))) (encEs_B l (fun x hx => h x (List.mem_cons_of_mem _ hx)) fun x hx => hb x (List.mem_cons_of_mem _ hx))
theorem nums_sm {m : S51} (h : msgOk m = true) : ∀ x ∈ [m.f0, m.f1, m.f4, m.f5, m.f6, m.f7, yesI m.f8, (m.f9.length : Int)], Sm x := by
  obtain ⟨h4, h5, h6, h7, h0, h1, h9, h10, he⟩ := msgOk_all h
  intro x hx
  simp only [List.mem_cons, List.mem_nil_iff, or_false] at hx
  rcases hx with rfl | rfl | rfl | rfl | rfl | rfl | rfl | rfl
  · exact ⟨by omega, by omega⟩
  · exact ⟨by omega, by omega⟩
  · exact h4
  · exact h5
  · exact h6
  · exact h7
  · unfold yesI Sm
    split <;> omega
  · exact ⟨by omega, by omega⟩
theorem encM_B {fr tt : Int} {m : S51} (h : okM fr tt m) : IsB (encM m) := by
  have ha := msgOk_all h.1
  refine isB_append (encN_B _ (nums_sm h.1)) (isB_append (encEs_B _ ha.2.2.2.2.2.2.2.2 h.2.2.2.2) (isB_append (enc1_B ⟨by omega, ?_⟩) h.2.2.2.1))
  have := ha.2.2.2.2.2.2.2.1
  omega
theorem sumL_B (s : Int) : IsB (sumL s) := by
  intro c hc
  simp only [sumL, List.mem_cons, List.mem_nil_iff, or_false] at hc
  rcases hc with rfl | rfl | rfl | rfl <;> omega
def encT (T : List Int) : List Int := T ++ sumL (i32 (crcU 0#32 T))
theorem put_l1 (ms : List S51) (i : Nat) (hi : i < 256) (m : S51) (ha : msgOk m = true) (R : List Int × Int) :
    ∀ (d n : Nat), n + d = m.f9.length → ∀ x5 : List Int, x5.length + 65556 * d + 200000 < 140737488355328 → Ev (fun k => packet_Put.l0 k (x5 ++ (encEs (m.f9.drop n) ++ (enc1 m.f10.length ++ m.f10))) ms (ms.length : Int) ((i + 1 : Nat) : Int)) R →
      Ev (fun k => packet_Put.l1 k x5 ms (ms.length : Int) (i : Int) m.f9 (m.f9.length : Int) (n : Int) m.f0 m.f1 m.f2 m.f3 m.f4 m.f5 m.f6 m.f7 m.f8 m.f9 m.f10) R := by
  obtain ⟨h4, h5, h6, h7, h0, h1, h9, h10, he⟩ := msgOk_all ha
  intro d
  induction d with
  | zero =>
    intro n hn x5 hl K
    have e0 : ∀ l : List Int, encEs [] ++ l = l := fun _ => rfl
    rw [List.drop_eq_nil_of_le (by omega), e0] at K
    have hb := pbytes_ev h10 x5 (by omega)
    refine Ev.step (fun k => ?_) (Ev.bind (f := fun k t165 => packet_Put.l0 k t165 ms (ms.length : Int) ((i + 1 : Nat) : Int)) hb K)
    simp only [packet_Put.l1]
    rw [if_neg (by omega), w64n (by omega)]
  | succ d ih =>
    intro n hn x5 hl K
    have hlt : n < m.f9.length := by omega
    have hok := he _ (List.getElem_mem hlt)
    have hsm := okE_sm hok
    have hel := encE_len hok
    have hd : m.f9.drop n = m.f9[n] :: m.f9.drop (n + 1) := List.drop_eq_getElem_cons hlt
    rw [hd] at K
    have e1 : x5 ++ (encEs (m.f9[n] :: m.f9.drop (n + 1)) ++ (enc1 m.f10.length ++ m.f10)) = (x5 ++ encE m.f9[n]) ++ (encEs (m.f9.drop (n + 1)) ++ (enc1 m.f10.length ++ m.f10)) := by
      simp only [encEs, List.append_assoc]
    rw [e1] at K
    have hi := ih (n + 1) (by omega) (x5 ++ encE m.f9[n]) (by rw [List.length_append]; omega) K
    have hn1 := numbers_ev [m.f9[n].f0] (fun x hx => by rw [List.mem_singleton] at hx; exact hx ▸ hsm.1) (by simp) x5 (by show x5.length + 10 * 1 < _; omega)
    have h1l := enc1_len m.f9[n].f0
    have e2 : encN [m.f9[n].f0] = enc1 m.f9[n].f0 := by show _ ++ [] = _; rw [List.append_nil]
    rw [e2] at hn1
    have hb1 := pbytes_ev hsm.2 (x5 ++ enc1 m.f9[n].f0) (by rw [List.length_append]; omega)
    rw [List.append_assoc] at hb1
    refine Ev.step (fun k => ?_) (Ev.bind (f := fun k t159 => (pack_Bytes.f k t159 m.f9[n].f1).bind fun t162 => packet_Put.l1 k t162 ms (ms.length : Int) (i : Int) m.f9 (m.f9.length : Int) ((n + 1 : Nat) : Int) m.f0 m.f1 m.f2 m.f3 m.f4 m.f5 m.f6 m.f7 m.f8 m.f9 m.f10) hn1 (Ev.bind (f := fun k t162 => packet_Put.l1 k t162 ms (ms.length : Int) (i : Int) m.f9 (m.f9.length : Int) ((n + 1 : Nat) : Int) m.f0 m.f1 m.f2 m.f3 m.f4 m.f5 m.f6 m.f7 m.f8 m.f9 m.f10) hb1 hi))
    simp only [packet_Put.l1]
    rw [if_pos (by omega), if_pos (by omega), if_pos (by omega), rd48 hlt, w64n (by omega)]
theorem yes_eq (b : Bool) : packet_yes.f b = some (yesI b) := by
  unfold packet_yes.f yesI
  cases b <;> rfl
theorem put_l0 (fr tt : Int) (ms : List S51) (hm : ms.length ≤ 256) (hok : ∀ m ∈ ms, okM fr tt m) : ∀ (d n : Nat), n + d = ms.length → ∀ x5 : List Int, IsB x5 → x5.length + 600000 * d + 200000 < 140737488355328 →
    Ev (fun k => packet_Put.l0 k x5 ms (ms.length : Int) (n : Int)) (encT (x5 ++ encMs (ms.drop n)), 0) := by
  intro d
  induction d with
  | zero =>
    intro n hn x5 hb hl
    rw [List.drop_eq_nil_of_le (by omega)]
    have hs := crc_su x5 hb (by omega)
    have e : x5 ++ encMs [] = x5 := List.append_nil _
    rw [e]
    refine Ev.step (fun k => ?_) (Ev.bind (f := fun k t138 => (if x5.length + (sumL t138).length < 140737488355328 then (some ((x5 ++ sumL t138), (0 : Int))) else (none))) hs (Ev.yes (by show x5.length + 4 < _; omega) (Ev.now _)))
    simp only [packet_Put.l0]
    rw [if_neg (by omega)]
    rfl
  | succ d ih =>
    intro n hn x5 hb hl
    have hlt : n < ms.length := by omega
    have ho := hok _ (List.getElem_mem hlt)
    have hml := encM_len ho.1
    have hmb := encM_B ho
    have hi := ih (n + 1) (by omega) (x5 ++ encM ms[n]) (isB_append hb hmb) (by rw [List.length_append]; omega)
    have hd : ms.drop n = ms[n] :: ms.drop (n + 1) := List.drop_eq_getElem_cons hlt
    rw [hd]
    have e1 : x5 ++ encMs (ms[n] :: ms.drop (n + 1)) = x5 ++ encM ms[n] ++ encMs (ms.drop (n + 1)) := by
      rw [encMs, List.append_assoc]
    rw [e1]
    have hnl := encN_len [ms[n].f0, ms[n].f1, ms[n].f4, ms[n].f5, ms[n].f6, ms[n].f7, yesI ms[n].f8, (ms[n].f9.length : Int)]
    simp only [List.length_cons, List.length_nil] at hnl
    have h9 := (msgOk_all ho.1).2.2.2.2.2.2.1
    have hn1 := numbers_ev [ms[n].f0, ms[n].f1, ms[n].f4, ms[n].f5, ms[n].f6, ms[n].f7, yesI ms[n].f8, (ms[n].f9.length : Int)] (nums_sm ho.1) (by simp) x5 (by simp only [List.length_cons, List.length_nil]; omega)
    have hK := put_l1 ms n (by omega) ms[n] ho.1 _ ms[n].f9.length 0 (Nat.zero_add _) (x5 ++ encN [ms[n].f0, ms[n].f1, ms[n].f4, ms[n].f5, ms[n].f6, ms[n].f7, yesI ms[n].f8, (ms[n].f9.length : Int)]) (by rw [List.length_append]; omega) (by
      rw [List.drop_zero, List.append_assoc]
      exact hi)
    refine Ev.step (fun k => ?_) (Ev.bind (f := fun k t151 => packet_Put.l1 k t151 ms (ms.length : Int) (n : Int) ms[n].f9 (ms[n].f9.length : Int) 0 ms[n].f0 ms[n].f1 ms[n].f2 ms[n].f3 ms[n].f4 ms[n].f5 ms[n].f6 ms[n].f7 ms[n].f8 ms[n].f9 ms[n].f10) hn1 hK)
    simp only [packet_Put.l0]
    rw [if_pos (by omega), if_pos (by omega), if_pos (by omega), rd51 hlt, yes_eq]
    rfl

/-! ### Check -/
def okP (fr tt : Int) (ms : List S51) : Prop := (1 ≤ fr ∧ fr ≤ 7) ∧ (1 ≤ tt ∧ tt ≤ 7) ∧ ms.length ≤ 256 ∧ ∀ m ∈ ms, msgOk m = true ∧ m.f2 = fr ∧ m.f3 = tt
theorem check_l0 (fr tt : Int) (ms : List S51) (hl : ms.length ≤ 256) : ∀ (d n : Nat), n + d = ms.length → (∀ (j : Nat) (h : j < ms.length), j < n → msgOk ms[j] = true ∧ ms[j].f2 = fr ∧ ms[j].f3 = tt) →
    ∃ c, Ev (fun k => packet_Check.l0 k ms (ms.length : Int) (n : Int) fr tt ms) c ∧ (c = 0 → ∀ m ∈ ms, msgOk m = true ∧ m.f2 = fr ∧ m.f3 = tt) := by
  intro d
  induction d with
  | zero =>
    intro n hn hb
    refine ⟨0, Ev.step (f := fun _ => some 0) (fun k => ?_) (Ev.now _), fun _ m hm => ?_⟩
    · simp only [packet_Check.l0]
      rw [if_neg (by omega)]
    · obtain ⟨j, hj, rfl⟩ := List.mem_iff_getElem.mp hm
      exact hb j hj (by omega)
  | succ d ih =>
    intro n hn hb
    have hlt : n < ms.length := by omega
    by_cases h2 : ms[n].f2 = fr
    · by_cases h3 : ms[n].f3 = tt
      · by_cases hk : msgOk ms[n] = true
        · obtain ⟨c, hc, hz⟩ := ih (n + 1) (by omega) (fun j hj hjn => by
            by_cases e : j = n
            · subst e
              exact ⟨hk, h2, h3⟩
            · exact hb j hj (by omega))
          refine ⟨c, Ev.step (fun k => ?_) hc, hz⟩
          simp only [packet_Check.l0]
          rw [if_pos (by omega), if_pos (by omega), if_pos (by omega), rd51 hlt, if_pos h2, if_pos h3]
          simp only [packet_msg.f, Option.bind_some, eta51]
          rw [if_pos hk, w64n (by omega)]
        · refine ⟨1, Ev.step (f := fun _ => some 1) (fun k => ?_) (Ev.now _), fun h => by cases h⟩
          simp only [packet_Check.l0]
          rw [if_pos (by omega), if_pos (by omega), if_pos (by omega), rd51 hlt, if_pos h2, if_pos h3]
          simp only [packet_msg.f, Option.bind_some, eta51]
          rw [if_neg hk]
      · refine ⟨1, Ev.step (f := fun _ => some 1) (fun k => ?_) (Ev.now _), fun h => by cases h⟩
        simp only [packet_Check.l0]
        rw [if_pos (by omega), if_pos (by omega), if_pos (by omega), rd51 hlt, if_pos h2, if_neg h3]
    · refine ⟨1, Ev.step (f := fun _ => some 1) (fun k => ?_) (Ev.now _), fun h => by cases h⟩
      simp only [packet_Check.l0]
      rw [if_pos (by omega), if_pos (by omega), if_pos (by omega), rd51 hlt, if_neg h2]
theorem node_eq (a : Int) : packet_node.f a = some (decide (1 ≤ a ∧ a ≤ 7)) := by
  unfold packet_node.f
  by_cases h : a ≥ 1
  · rw [if_pos h]
    congr 1
    by_cases h7 : a ≤ 7
    · rw [decide_eq_true h7, decide_eq_true ⟨h, h7⟩]
    · rw [decide_eq_false h7, decide_eq_false (fun c => h7 c.2)]
  · rw [if_neg h, decide_eq_false (fun c => h c.1)]
theorem check_ev (fr tt : Int) (ms : List S51) : ∃ c, Ev (fun k => packet_Check.f k fr tt ms) c ∧ (c = 0 → okP fr tt ms) := by
  have bad : Ev (fun k => packet_Check.j0 k true fr tt ms) 1 := Ev.step (f := fun _ => some 1) (fun k => by simp only [packet_Check.j0]; rw [if_pos trivial]) (Ev.now _)
  by_cases hf : 1 ≤ fr ∧ fr ≤ 7
  · by_cases ht : 1 ≤ tt ∧ tt ≤ 7
    · by_cases he : fr = tt
      · refine ⟨1, Ev.congr (fun k => ?_) bad, fun h => by cases h⟩
        unfold packet_Check.f
        rw [node_eq, node_eq, decide_eq_true hf, decide_eq_true ht, he]
        show packet_Check.j0 k (tt == tt) tt tt ms = packet_Check.j0 k true tt tt ms
        rw [beq_self_eq_true]
      · have hne : (fr == tt) = false := beq_eq_false_iff_ne.mpr he
        by_cases hl : ms.length ≤ 256
        · obtain ⟨c, hc, hz⟩ := check_l0 fr tt ms hl ms.length 0 (Nat.zero_add _) (fun j _ hj => absurd hj (Nat.not_lt_zero _))
          refine ⟨c, Ev.congr (fun k => ?_) (Ev.step (g := fun k => packet_Check.j0 k false fr tt ms) (fun k => ?_) hc), fun h => ⟨hf, ht, hl, hz h⟩⟩
          · unfold packet_Check.f
            rw [node_eq, node_eq, decide_eq_true hf, decide_eq_true ht, hne]
            rfl
          · simp only [packet_Check.j0]
            rw [if_neg (by decide), if_neg (by omega)]
            rfl
        · refine ⟨6, Ev.congr (fun k => ?_) (Ev.step (g := fun k => packet_Check.j0 k false fr tt ms) (f := fun _ => some 6) (fun k => ?_) (Ev.now _)), fun h => by cases h⟩
          · unfold packet_Check.f
            rw [node_eq, node_eq, decide_eq_true hf, decide_eq_true ht, hne]
            rfl
          · simp only [packet_Check.j0]
            rw [if_neg (by decide), if_pos (by omega)]
    · refine ⟨1, Ev.congr (fun k => ?_) bad, fun h => by cases h⟩
      unfold packet_Check.f
      rw [node_eq, node_eq, decide_eq_true hf, decide_eq_false ht]
      rfl
  · refine ⟨1, Ev.congr (fun k => ?_) bad, fun h => by cases h⟩
    unfold packet_Check.f
    rw [node_eq, decide_eq_false hf]
    rfl

/-! ### Put -/
def fineB (ms : List S51) : Prop := ∀ m ∈ ms, IsB m.f10 ∧ ∀ e ∈ m.f9, IsB e.f1
theorem okP_okM {fr tt : Int} {ms : List S51} (h : okP fr tt ms) (hb : fineB ms) : ∀ m ∈ ms, okM fr tt m := fun m hm => ⟨(h.2.2.2 m hm).1, (h.2.2.2 m hm).2.1, (h.2.2.2 m hm).2.2, (hb m hm).1, (hb m hm).2⟩
theorem three_sm {fr tt : Int} {ms : List S51} (h : okP fr tt ms) : ∀ x ∈ [fr, tt, (ms.length : Int)], Sm x := by
  obtain ⟨hf, ht, hl, _⟩ := h
  intro x hx
  simp only [List.mem_cons, List.mem_nil_iff, or_false] at hx
  rcases hx with rfl | rfl | rfl <;> exact ⟨by omega, by omega⟩
theorem encT_B {T : List Int} (h : IsB T) : IsB (encT T) := isB_append h (sumL_B _)
theorem encT_len (T : List Int) : (encT T).length = T.length + 4 := by rw [encT, List.length_append]; rfl
theorem put_ev (fr tt : Int) (ms : List S51) (hb : fineB ms) : ∃ c, Ev (fun k => packet_Check.f k fr tt ms) c ∧ ((c = 0 ∧ okP fr tt ms ∧ Ev (fun k => packet_Put.f k fr tt ms) (encT (encB fr tt ms), 0)) ∨ (c ≠ 0 ∧ Ev (fun k => packet_Put.f k fr tt ms) ([], c))) := by
  obtain ⟨c, hc, hz⟩ := check_ev fr tt ms
  refine ⟨c, hc, ?_⟩
  by_cases h0 : c = 0
  · subst h0
    have ok := hz rfl
    have hl := ok.2.2.1
    refine .inl ⟨rfl, ok, ?_⟩
    have hn := numbers_ev [fr, tt, (ms.length : Int)] (three_sm ok) (by simp) [] (by simp)
    have h2 := encN_len [fr, tt, (ms.length : Int)]
    simp only [List.length_cons, List.length_nil] at h2
    have hp := put_l0 fr tt ms hl (okP_okM ok hb) ms.length 0 (Nat.zero_add _) ([] ++ encN [fr, tt, (ms.length : Int)]) (by rw [List.nil_append]; exact encN_B _ (three_sm ok)) (by rw [List.nil_append]; omega)
    rw [List.drop_zero] at hp
    refine Ev.congr (fun k => by unfold packet_Put.f; rfl) (Ev.bind (f := fun k t131 => (if t131 = 0 then ((packet_numbers.f k ([] : List Int) (([fr, tt, (ms.length : Int)] : List Int))).bind fun t135 => (packet_Put.l0 k t135 ms (ms.length : Int) 0)) else (some (([] : List Int), t131)))) hc (Ev.yes rfl (Ev.bind (f := fun k t135 => packet_Put.l0 k t135 ms (ms.length : Int) 0) hn hp)))
  · refine .inr ⟨h0, ?_⟩
    refine Ev.congr (fun k => by unfold packet_Put.f; rfl) (Ev.bind (f := fun k t131 => (if t131 = 0 then ((packet_numbers.f k ([] : List Int) (([fr, tt, (ms.length : Int)] : List Int))).bind fun t135 => (packet_Put.l0 k t135 ms (ms.length : Int) 0)) else (some (([] : List Int), t131)))) hc (Ev.no h0 (Ev.now _)))

/-! ### four bytes that are turned turn the sum -/
theorem rnd_eq (s : BitVec 32) : rnd s = (s >>> 1) ^^^ (if s.getLsbD 0 = true then 3988292384#32 else 0#32) := by
  unfold rnd
  by_cases h : s &&& 1#32 = 1#32
  · rw [if_pos h, if_pos ((bit0 s).1 h)]
  · rw [if_neg h, if_neg (fun c => h ((bit0 s).2 c)), BitVec.xor_zero]
theorem rnd_xor (a b : BitVec 32) : rnd (a ^^^ b) = rnd a ^^^ rnd b := by
  rw [rnd_eq, rnd_eq, rnd_eq, BitVec.getLsbD_xor]
  apply BitVec.eq_of_getLsbD_eq
  intro i hi
  cases a.getLsbD 0 <;> cases b.getLsbD 0 <;> simp [BitVec.getLsbD_xor, BitVec.getLsbD_ushiftRight] <;> cases a.getLsbD (1 + i) <;> cases b.getLsbD (1 + i) <;> simp
def bw (c i : Nat) : BitVec 32 := BitVec.ofNat 32 (c * 2 ^ i)
def w4 (a b c d : Nat) : BitVec 32 := ((bw a 0 ^^^ bw b 8) ^^^ bw c 16) ^^^ bw d 24
theorem nat_disj (i a b : Nat) (h : a < 2 ^ i) : a ^^^ (b * 2 ^ i) = a + b * 2 ^ i := by
  apply Nat.eq_of_testBit_eq
  intro j
  rw [Nat.testBit_xor, Nat.add_comm, Nat.mul_comm b, Nat.testBit_two_pow_mul_add _ h, Nat.testBit_two_pow_mul]
  by_cases hj : j < i
  · rw [if_pos hj]
    have : decide (j ≥ i) = false := decide_eq_false (by omega)
    rw [this]
    simp
  · rw [if_neg hj]
    have h1 : decide (j ≥ i) = true := decide_eq_true (by omega)
    have h2 : a.testBit j = false := Nat.testBit_lt_two_pow (Nat.lt_of_lt_of_le h (Nat.pow_le_pow_right (by decide) (by omega)))
    rw [h1, h2]
    simp
theorem bv_xor (a b : Nat) (ha : a < 2 ^ 32) (hb : b < 2 ^ 32) : BitVec.ofNat 32 a ^^^ BitVec.ofNat 32 b = BitVec.ofNat 32 (a ^^^ b) := by
  have := Nat.xor_lt_two_pow ha hb
  apply BitVec.eq_of_toNat_eq
  rw [BitVec.toNat_xor, BitVec.toNat_ofNat, BitVec.toNat_ofNat, BitVec.toNat_ofNat, Nat.mod_eq_of_lt ha, Nat.mod_eq_of_lt hb, Nat.mod_eq_of_lt this]
theorem bits8 (a b : Nat) (ha : a < 256) (hb : b < 256) : Go.bits .xor .u8 (a : Int) (b : Int) = ((a ^^^ b : Nat) : Int) := by
  have h : a ^^^ b < 2 ^ 8 := Nat.xor_lt_two_pow ha hb
  show IntKind.u8.wrap ((BitVec.ofInt 8 a ^^^ BitVec.ofInt 8 b).toNat : Int) = _
  rw [BitVec.toNat_xor, BitVec.ofInt_natCast, BitVec.ofInt_natCast, BitVec.toNat_ofNat, BitVec.toNat_ofNat, Nat.mod_eq_of_lt ha, Nat.mod_eq_of_lt hb, IntKind.wrap_u8]
  omega


/-! ### the long division of the chapter is the same sum -/
theorem and1 : ∀ b : Fin 256, Go.bits .and .u8 ((b.val : Nat) : Int) 1 = ((b.val % 2 : Nat) : Int) := by decide +kernel
def bl (c : Int) : List Int := [c / 1 % 2, c / 2 % 2, c / 4 % 2, c / 8 % 2, c / 16 % 2, c / 32 % 2, c / 64 % 2, c / 128 % 2]
def bitsL : List Int → List Int
  | [] => []
  | c :: l => bl c ++ bitsL l
theorem bitsL_len : ∀ l : List Int, (bitsL l).length = 8 * l.length
  | [] => rfl
  | c :: l => by
    rw [bitsL, List.length_append, bitsL_len l, List.length_cons]
    show 8 + _ = _
    omega
def Is01 (l : List Int) : Prop := ∀ x ∈ l, x = 0 ∨ x = 1
theorem bl_01 (c : Int) : Is01 (bl c) := by
  intro x hx
  simp only [bl, List.mem_cons, List.mem_nil_iff, or_false] at hx
  rcases hx with rfl | rfl | rfl | rfl | rfl | rfl | rfl | rfl <;> omega
theorem bitsL_01 : ∀ l : List Int, Is01 (bitsL l)
  | [] => fun x hx => by cases hx
  | c :: l => fun x hx => (List.mem_append.mp hx).elim (bl_01 c x) (bitsL_01 l x)
theorem bitsL_app : ∀ (a : List Int) (c : Int), bitsL (a ++ [c]) = bitsL a ++ bl c
  | [], c => by simp [bitsL]
  | x :: a, c => by
    show bl x ++ bitsL (a ++ [c]) = bl x ++ bitsL a ++ bl c
    rw [bitsL_app a c, List.append_assoc]
theorem bit_one (c : Int) (h : 0 ≤ c ∧ c < 256) (j : Nat) (hj : j < 8) : Go.bits .and .u8 (shr .u8 c (j : Int)) 1 = c / 2 ^ j % 2 := by
  have hs : shr .u8 c (j : Int) = c / 2 ^ j := by
    unfold shr
    rw [Int.toNat_natCast, show min j IntKind.u8.bits = j from Nat.min_eq_left (by show j ≤ 8; omega)]
  rw [hs]
  obtain ⟨m, rfl⟩ := Int.eq_ofNat_of_zero_le h.1
  have hp : (2 : Int) ^ j = ((2 ^ j : Nat) : Int) := by rw [Int.natCast_pow]; rfl
  rw [hp, ← Int.natCast_ediv]
  have hle : m / 2 ^ j ≤ m := Nat.div_le_self ..
  have := and1 ⟨m / 2 ^ j, by omega⟩
  rw [this]
  rfl
theorem bits_l1 (x0 : List Int) (hb : IsB x0) (hl : x0.length ≤ 1000000000) (n : Nat) (hn : n < x0.length) (x3 : List Int) (h3 : x3.length ≤ 8 * n) (R : List Int) (K : Ev (fun k => funicularref01_bits.l0 k x0 (x3 ++ bl x0[n]) ((n + 1 : Nat) : Int)) R) : Ev (fun k => funicularref01_bits.l1 k x0 x3 (n : Int) 0) R := by
  have hc := hb x0[n] (List.getElem_mem hn)
  have st : ∀ (j : Nat) (y : List Int), j < 8 → y.length < 100000000000 → ∀ k, funicularref01_bits.l1 (k + 1) x0 y (n : Int) (j : Int) = funicularref01_bits.l1 k x0 (y ++ [x0[n] / 2 ^ j % 2]) (n : Int) ((j + 1 : Nat) : Int) := by
    intro j y hj hy k
    simp only [funicularref01_bits.l1]
    rw [if_pos (by omega), if_pos (by omega), if_pos (by omega), if_pos (by omega), if_pos (by omega), rd_get hn, bit_one _ hc j hj, w64n (by omega)]
  refine Ev.step (st 0 x3 (by omega) (by omega)) ?_
  refine Ev.step (st 1 _ (by omega) (by simp only [List.length_append, List.length_cons, List.length_nil]; omega)) ?_
  refine Ev.step (st 2 _ (by omega) (by simp only [List.length_append, List.length_cons, List.length_nil]; omega)) ?_
  refine Ev.step (st 3 _ (by omega) (by simp only [List.length_append, List.length_cons, List.length_nil]; omega)) ?_
  refine Ev.step (st 4 _ (by omega) (by simp only [List.length_append, List.length_cons, List.length_nil]; omega)) ?_
  refine Ev.step (st 5 _ (by omega) (by simp only [List.length_append, List.length_cons, List.length_nil]; omega)) ?_
  refine Ev.step (st 6 _ (by omega) (by simp only [List.length_append, List.length_cons, List.length_nil]; omega)) ?_
  refine Ev.step (st 7 _ (by omega) (by simp only [List.length_append, List.length_cons, List.length_nil]; omega)) ?_
  have e : x3 ++ [x0[n] / 2 ^ 0 % 2] ++ [x0[n] / 2 ^ 1 % 2] ++ [x0[n] / 2 ^ 2 % 2] ++ [x0[n] / 2 ^ 3 % 2] ++ [x0[n] / 2 ^ 4 % 2] ++ [x0[n] / 2 ^ 5 % 2] ++ [x0[n] / 2 ^ 6 % 2] ++ [x0[n] / 2 ^ 7 % 2] = x3 ++ bl x0[n] := by
    simp only [List.append_assoc, List.cons_append, List.nil_append]
    rfl
  rw [e]
  refine Ev.step (fun k => ?_) K
  simp only [funicularref01_bits.l1]
  rw [if_neg (by omega), w64n (by omega)]
theorem bits_ev (x0 : List Int) (hb : IsB x0) (hl : x0.length ≤ 1000000000) : Ev (fun k => funicularref01_bits.f k x0) (bitsL x0) := by
  have key : ∀ (d n : Nat), n + d = x0.length → Ev (fun k => funicularref01_bits.l0 k x0 (bitsL (x0.take n)) (n : Int)) (bitsL x0) := by
    intro d
    induction d with
    | zero =>
      intro n hn
      rw [List.take_of_length_le (by omega)]
      refine Ev.step (f := fun _ => some (bitsL x0)) (fun k => ?_) (Ev.now _)
      simp only [funicularref01_bits.l0]
      rw [if_neg (by omega)]
    | succ d ih =>
      intro n hn
      have hlt : n < x0.length := by omega
      have hi := ih (n + 1) (by omega)
      rw [List.take_succ_eq_append_getElem hlt, bitsL_app] at hi
      have h1 := bits_l1 x0 hb hl n hlt (bitsL (x0.take n)) (by rw [bitsL_len, List.length_take]; omega) _ hi
      refine Ev.step (fun k => ?_) h1
      simp only [funicularref01_bits.l0]
      rw [if_pos (by omega)]
  exact key x0.length 0 (Nat.zero_add _)

/-- A bit at a time. -/
def ser1 (s : BitVec 32) (b : Int) : BitVec 32 := rnd (s ^^^ BitVec.ofInt 32 b)
def ser (s : BitVec 32) (l : List Int) : BitVec 32 := l.foldl ser1 s
theorem rnd_half (x : Nat) (h : x < 2147483648) : rnd (BitVec.ofNat 32 (2 * x)) = BitVec.ofNat 32 x := by
  rw [rnd_eq]
  have h0 : (BitVec.ofNat 32 (2 * x)).getLsbD 0 = false := by
    rw [BitVec.getLsbD_ofNat]
    simp
  rw [h0]
  apply BitVec.eq_of_toNat_eq
  rw [if_neg (by decide), BitVec.xor_zero, BitVec.toNat_ushiftRight, BitVec.toNat_ofNat, BitVec.toNat_ofNat, Nat.shiftRight_eq_div_pow]
  omega
theorem ser_step (s : BitVec 32) (m : Nat) (hm : m < 256) : rnd (s ^^^ BitVec.ofNat 32 m) = ser1 s ((m % 2 : Nat) : Int) ^^^ BitVec.ofNat 32 (m / 2) := by
  have e : BitVec.ofNat 32 m = BitVec.ofNat 32 (m % 2) ^^^ BitVec.ofNat 32 (2 * (m / 2)) := by
    rw [bv_xor _ _ (by omega) (by omega), Nat.mul_comm, show m / 2 * 2 = m / 2 * 2 ^ 1 by omega, nat_disj 1 (m % 2) (m / 2) (by omega)]
    congr 1
    omega
  unfold ser1
  rw [e, ← BitVec.xor_assoc, rnd_xor, rnd_half _ (by omega), BitVec.ofInt_natCast]
theorem ser_byte (s : BitVec 32) (c : Int) (h : 0 ≤ c ∧ c < 256) : ser s (bl c) = byte8 s c := by
  obtain ⟨m, rfl⟩ := Int.eq_ofNat_of_zero_le h.1
  have hm : m < 256 := by omega
  have st : ∀ (n : Nat) (s : BitVec 32) (m : Nat), m < 256 → rnds (n + 1) (s ^^^ BitVec.ofNat 32 m) = rnds n (ser1 s ((m % 2 : Nat) : Int) ^^^ BitVec.ofNat 32 (m / 2)) := by
    intro n s m hm
    show rnds n (rnd _) = _
    rw [ser_step s m hm]
  unfold byte8
  rw [BitVec.ofInt_natCast, st 7 _ _ hm, st 6 _ _ (by omega), st 5 _ _ (by omega), st 4 _ _ (by omega), st 3 _ _ (by omega), st 2 _ _ (by omega), st 1 _ _ (by omega), st 0 _ _ (by omega)]
  have z : m / 2 / 2 / 2 / 2 / 2 / 2 / 2 / 2 = 0 := by omega
  rw [z]
  show _ = _ ^^^ 0#32
  rw [BitVec.xor_zero]
  have e : bl (m : Int) = [((m % 2 : Nat) : Int), ((m / 2 % 2 : Nat) : Int), ((m / 2 / 2 % 2 : Nat) : Int), ((m / 2 / 2 / 2 % 2 : Nat) : Int), ((m / 2 / 2 / 2 / 2 % 2 : Nat) : Int), ((m / 2 / 2 / 2 / 2 / 2 % 2 : Nat) : Int), ((m / 2 / 2 / 2 / 2 / 2 / 2 % 2 : Nat) : Int), ((m / 2 / 2 / 2 / 2 / 2 / 2 / 2 % 2 : Nat) : Int)] := by
    simp only [bl, List.cons.injEq]
    refine ⟨by omega, by omega, by omega, by omega, by omega, by omega, by omega, by omega, trivial⟩
  rw [e]
  rfl
theorem ser_bits : ∀ (l : List Int) (s : BitVec 32), IsB l → ser s (bitsL l) = upd s l
  | [], s, _ => rfl
  | c :: l, s, h => by
    have ih := ser_bits l (byte8 s c) fun x hx => h x (List.mem_cons_of_mem _ hx)
    show (bl c ++ bitsL l).foldl ser1 s = upd (byte8 s c) l
    rw [List.foldl_append, ← ih, ← ser_byte s c (h c (List.mem_cons_self ..))]
    rfl
theorem rd_set {L : List Int} {a q : Nat} {v : Int} (ha : a < L.length) : rd (L.set a v) (q : Int) = if q = a then v else rd L (q : Int) := by
  unfold rd
  rw [Int.toNat_natCast, List.getD_eq_getElem?_getD, List.getD_eq_getElem?_getD, List.getElem?_set]
  by_cases h : a = q
  · subst h
    rw [if_pos rfl, if_pos ha, if_pos rfl]
    rfl
  · rw [if_neg h, if_neg (fun c => h c.symm)]
def xb (b : Bool) (x : Int) : Int := if b = true then 1 - x else x
/-- The list at place i, of the bits F, with the word s. -/
def Inv (F L : List Int) (i : Nat) (s : BitVec 32) : Prop := L.length = F.length ∧ ∀ q : Nat, i ≤ q → q < F.length → rd L (q : Int) = xb (s.getLsbD (q - i)) (rd F (q : Int))
def pk (k : Nat) : Int := (Go.bits .and .u64 (shr .u64 4374732215 (wrap64 (32 - (k : Int)))) 1) % 256
theorem pk_eq : ∀ k : Fin 32, pk (k.val + 1) = if (3988292384#32).getLsbD k.val = true then 1 else 0 := by decide +kernel
theorem xor01 (x p : Int) (hx : x = 0 ∨ x = 1) (hp : p = 0 ∨ p = 1) : Go.bits .xor .u8 x p = if p = 1 then 1 - x else x := by
  rcases hx with rfl | rfl <;> rcases hp with rfl | rfl <;> decide +kernel
theorem rd_01 {F : List Int} (h : Is01 F) {q : Nat} (hq : q < F.length) : rd F (q : Int) = 0 ∨ rd F (q : Int) = 1 := by
  rw [rd_get hq]
  exact h _ (List.getElem_mem hq)
theorem xb_01 {b : Bool} {x : Int} (h : x = 0 ∨ x = 1) : xb b x = 0 ∨ xb b x = 1 := by
  unfold xb
  cases b <;> rcases h with rfl | rfl <;> simp
theorem sum_l3 (i : Nat) (N : Nat) (hN : N < 100000000000) (hi : i + 32 < N) (R : Int) : ∀ (d k : Nat), k + d = 33 → ∀ L : List Int, L.length = N →
    ∃ L' : List Int, L'.length = N ∧ (∀ q : Nat, q < N → rd L' (q : Int) = if i + k ≤ q ∧ q ≤ i + 32 then Go.bits .xor .u8 (rd L (q : Int)) (pk (q - i)) else rd L (q : Int)) ∧
      (Ev (fun k => funicularref01_Sum.l2 k L' 4374732215 ((i + 1 : Nat) : Int)) R → Ev (fun f => funicularref01_Sum.l3 f L 4374732215 (i : Int) (k : Int)) R) := by
  intro d
  induction d with
  | zero =>
    intro k hk L hL
    refine ⟨L, hL, fun q hq => by rw [if_neg (by omega)], fun K => Ev.step (fun f => ?_) K⟩
    simp only [funicularref01_Sum.l3]
    rw [if_neg (by omega), w64n (by omega)]
  | succ d ih =>
    intro k hk L hL
    have hw : wrap64 ((i : Int) + (k : Int)) = ((i + k : Nat) : Int) := by
      rw [w64 (by omega) (by omega)]
      omega
    have hp : (Go.bits .and .u64 (shr .u64 4374732215 (wrap64 (32 - (k : Int)))) 1) % 256 = pk k := rfl
    obtain ⟨L', h1, h2, h3⟩ := ih (k + 1) (by omega) (L.set (i + k) (Go.bits .xor .u8 (rd L ((i + k : Nat) : Int)) (pk k))) (by rw [List.length_set]; exact hL)
    refine ⟨L', h1, fun q hq => ?_, fun K => Ev.step (fun f => ?_) (h3 K)⟩
    · rw [h2 q hq, rd_set (by omega)]
      by_cases e : q = i + k
      · subst e
        rw [if_neg (by omega), if_pos rfl, if_pos (by omega), show i + k - i = k by omega]
      · rw [if_neg e]
        by_cases c : i + (k + 1) ≤ q ∧ q ≤ i + 32
        · rw [if_pos c, if_pos (by omega)]
        · rw [if_neg c, if_neg (by omega)]
    · simp only [funicularref01_Sum.l3]
      rw [if_pos (by omega), hw, if_pos (by omega), if_pos (by omega), if_pos (by rw [w64 (by omega) (by omega)]; omega), hp, w64n (by omega), Int.toNat_natCast]
theorem getBit (s : BitVec 32) (b : Int) (hb : b = 0 ∨ b = 1) (j : Nat) : (s ^^^ BitVec.ofInt 32 b).getLsbD j = (s.getLsbD j ^^ (decide (j = 0) && decide (b = 1))) := by
  rcases hb with rfl | rfl
  · rw [show BitVec.ofInt 32 0 = 0#32 from rfl, BitVec.xor_zero]
    simp
  · rw [show BitVec.ofInt 32 1 = 1#32 from rfl, BitVec.getLsbD_xor, BitVec.getLsbD_one]
    simp
theorem inv_step (F L : List Int) (h01 : Is01 F) (i : Nat) (s : BitVec 32) (hI : Inv F L i s) (hi : i + 32 < F.length) (hF : F.length < 100000000000) (R : Int) :
    ∃ L', Inv F L' (i + 1) (ser1 s (rd F (i : Int))) ∧ (Ev (fun k => funicularref01_Sum.l2 k L' 4374732215 ((i + 1 : Nat) : Int)) R → Ev (fun k => funicularref01_Sum.l2 k L 4374732215 (i : Int)) R) := by
  obtain ⟨hl, hq⟩ := hI
  have hF0 := rd_01 h01 (q := i) (by omega)
  have hi0 := hq i (Nat.le_refl _) (by omega)
  rw [Nat.sub_self] at hi0
  have hw : wrap64 ((i : Int) + 32) = ((i + 32 : Nat) : Int) := by
    rw [w64 (by omega) (by omega)]
    omega
  have hs : ∀ j : Nat, (ser1 s (rd F (i : Int))).getLsbD j = (s.getLsbD (j + 1) ^^ ((s.getLsbD 0 ^^ decide (rd F (i : Int) = 1)) && (3988292384#32).getLsbD j)) := by
    intro j
    unfold ser1
    rw [rnd_eq, BitVec.getLsbD_xor, BitVec.getLsbD_ushiftRight, getBit _ _ hF0, getBit _ _ hF0, Nat.add_comm 1 j]
    simp only [Nat.add_eq_zero_iff, Nat.one_ne_zero, and_false, decide_false, Bool.false_and, Bool.xor_false, decide_true, Bool.true_and]
    cases (s.getLsbD 0 ^^ decide (rd F (i : Int) = 1)) <;> simp
  have hc : (rd L (i : Int) = 0) ↔ (s.getLsbD 0 ^^ decide (rd F (i : Int) = 1)) = false := by
    rw [hi0]
    unfold xb
    rcases hF0 with h | h <;> rw [h] <;> cases s.getLsbD 0 <;> simp
  by_cases h0 : rd L (i : Int) = 0
  · refine ⟨L, ⟨hl, fun q h1 h2 => ?_⟩, fun K => Ev.step (fun k => ?_) K⟩
    · rw [hq q (by omega) h2, hs, hc.mp h0, Bool.false_and, Bool.xor_false, show q - (i + 1) + 1 = q - i by omega]
    · simp only [funicularref01_Sum.l2]
      rw [hw, if_pos (by omega), if_pos (by omega), if_pos (by omega), if_pos h0, w64n (by omega)]
  · have hc1 : (s.getLsbD 0 ^^ decide (rd F (i : Int) = 1)) = true := by
      cases h : (s.getLsbD 0 ^^ decide (rd F (i : Int) = 1)) with
      | false => exact absurd (hc.mpr h) h0
      | true => rfl
    obtain ⟨L', h1, h2, h3⟩ := sum_l3 i F.length hF hi R 33 0 rfl L hl
    refine ⟨L', ⟨h1, fun q h4 h5 => ?_⟩, fun K => Ev.step (fun k => ?_) (h3 K)⟩
    · rw [h2 q h5, hs, hc1, Bool.true_and, hq q (by omega) h5, show q - (i + 1) + 1 = q - i by omega]
      have hFq := rd_01 h01 (q := q) h5
      by_cases c : q ≤ i + 32
      · have hp := pk_eq ⟨q - (i + 1), by omega⟩
        dsimp only at hp
        rw [show q - (i + 1) + 1 = q - i by omega] at hp
        rw [if_pos ⟨by omega, c⟩, xor01 _ _ (xb_01 hFq) (by rw [hp]; split <;> simp), hp]
        generalize (3988292384#32).getLsbD (q - (i + 1)) = b
        generalize s.getLsbD (q - i) = b2
        generalize rd F (q : Int) = x
        unfold xb
        cases b <;> cases b2 <;> simp <;> omega
      · rw [if_neg (by omega)]
        have z1 : s.getLsbD (q - i) = false := BitVec.getLsbD_of_ge _ _ (by omega)
        have z2 : (3988292384#32).getLsbD (q - (i + 1)) = false := BitVec.getLsbD_of_ge _ _ (by omega)
        rw [z1, z2]
        rfl
    · simp only [funicularref01_Sum.l2]
      rw [hw, if_pos (by omega), if_pos (by omega), if_pos (by omega), if_neg h0]
      rfl
theorem or32 (a j : Nat) (hj : j < 32) (ha : a < 2 ^ j) : Go.bits .or .u32 (a : Int) (shl .u32 1 (j : Int)) = ((a + 2 ^ j : Nat) : Int) := by
  have hp : 2 ^ j ≤ 2 ^ 31 := Nat.pow_le_pow_right (by decide) (by omega)
  have hs : shl .u32 1 (j : Int) = ((2 ^ j : Nat) : Int) := by
    unfold shl
    rw [Int.toNat_natCast, show min j IntKind.u32.bits = j from Nat.min_eq_left (by show j ≤ 32; omega), IntKind.wrap_u32, Int.one_mul]
    have : (2 : Int) ^ j = ((2 ^ j : Nat) : Int) := by rw [Int.natCast_pow]; rfl
    rw [this]
    omega
  rw [hs]
  have h : a ||| 2 ^ j < 2 ^ 32 := Nat.or_lt_two_pow (by omega) (by omega)
  show IntKind.u32.wrap ((BitVec.ofInt 32 (a : Int) ||| BitVec.ofInt 32 ((2 ^ j : Nat) : Int)).toNat : Int) = _
  rw [BitVec.toNat_or, BitVec.ofInt_natCast, BitVec.ofInt_natCast, BitVec.toNat_ofNat, BitVec.toNat_ofNat, Nat.mod_eq_of_lt (show a < 2 ^ 32 by omega), Nat.mod_eq_of_lt (show 2 ^ j < 2 ^ 32 by omega), IntKind.wrap_u32]
  have e : a ||| 2 ^ j = a + 2 ^ j := by
    have := or_nat a 1 j ha
    rw [Nat.one_mul] at this
    exact this
  rw [e] at h ⊢
  omega
theorem sum_l4 (L : List Int) (n : Nat) (hL : L.length = n + 32) (hn : n < 100000000000) (t : BitVec 32) (hb : ∀ j : Nat, j < 32 → rd L ((n + j : Nat) : Int) = if t.getLsbD j = true then 0 else 1) :
    ∀ (d j : Nat), j + d = 32 → Ev (fun k => funicularref01_Sum.l4 k L ((t.toNat % 2 ^ j : Nat) : Int) (j : Int)) (i32 t) := by
  intro d
  induction d with
  | zero =>
    intro j hj
    have e : j = 32 := by omega
    subst e
    refine Ev.step (f := fun _ => some (i32 t)) (fun k => ?_) (Ev.now _)
    simp only [funicularref01_Sum.l4]
    rw [if_neg (by omega), Nat.mod_eq_of_lt t.isLt]
    rfl
  | succ d ih =>
    intro j hj
    have hi := ih (j + 1) (by omega)
    have hw : wrap64 ((wrap64 ((L.length : Int) - 32)) + (j : Int)) = ((n + j : Nat) : Int) := by
      rw [w64 (x := (L.length : Int) - 32) (by omega) (by omega), w64 (by omega) (by omega)]
      omega
    have hm : t.toNat % 2 ^ (j + 1) = t.toNat % 2 ^ j + 2 ^ j * (t.getLsbD j).toNat := by
      rw [Nat.pow_succ, Nat.mod_mul, ← BitVec.testBit_toNat, Nat.testBit_eq_decide_div_mod_eq]
      congr 2
      have := Nat.mod_two_eq_zero_or_one (t.toNat / 2 ^ j)
      rcases this with h | h <;> rw [h] <;> rfl
    refine Ev.step (fun k => ?_) hi
    simp only [funicularref01_Sum.l4]
    rw [if_pos (by omega), hw, if_pos (by omega), if_pos (by omega), hb j (by omega), w64n (by omega), hm]
    cases t.getLsbD j with
    | true =>
      rw [if_pos rfl, if_pos rfl, if_pos (by omega), or32 _ j (by omega) (Nat.mod_lt _ (Nat.pow_pos (by decide)))]
      simp
    | false =>
      rw [if_neg (by decide)]
      simp
theorem ones (q : Nat) : (~~~ 0#32).getLsbD q = decide (q < 32) := by
  rw [BitVec.getLsbD_not, BitVec.getLsbD_zero]
  simp
theorem sum_l1 (M : List Int) (hM : Is01 M) (hl : 32 ≤ M.length) (hl2 : M.length < 100000000000) (R : Int) : ∀ (d j : Nat), j + d = 32 → ∀ L : List Int, L.length = M.length → (∀ q : Nat, q < M.length → rd L (q : Int) = if q < j then 1 - rd M (q : Int) else rd M (q : Int)) →
    (∀ L' : List Int, Inv M L' 0 (~~~ 0#32) → Ev (fun k => funicularref01_Sum.l2 k L' 4374732215 0) R) → Ev (fun k => funicularref01_Sum.l1 k L (j : Int)) R := by
  intro d
  induction d with
  | zero =>
    intro j hj L hL hq K
    refine Ev.step (fun k => ?_) (K L ⟨hL, fun q _ h => ?_⟩)
    · simp only [funicularref01_Sum.l1]
      rw [if_neg (by omega)]
    · rw [hq q h, Nat.sub_zero]
      unfold xb
      have e : j = 32 := by omega
      subst e
      by_cases c : q < 32
      · rw [if_pos c, if_pos (by rw [ones]; exact decide_eq_true c)]
      · rw [if_neg c, if_neg (by rw [ones, decide_eq_false c]; decide)]
  | succ d ih =>
    intro j hj L hL hq K
    have hr := rd_01 hM (q := j) (by omega)
    have hv : (1 - rd L (j : Int)) % 256 = 1 - rd M (j : Int) := by
      rw [hq j (by omega), if_neg (by omega)]
      rcases hr with h | h <;> rw [h] <;> decide
    refine Ev.step (fun k => ?_) (ih (j + 1) (by omega) (L.set j (1 - rd M (j : Int))) (by rw [List.length_set]; exact hL) (fun q h => ?_) K)
    · simp only [funicularref01_Sum.l1]
      rw [if_pos (by omega), if_pos (by omega), if_pos (by omega), hv, w64n (by omega), Int.toNat_natCast]
    · rw [rd_set (by omega)]
      by_cases e : q = j
      · subst e
        rw [if_pos rfl, if_pos (by omega)]
      · rw [if_neg e, hq q h]
        by_cases c : q < j
        · rw [if_pos c, if_pos (by omega)]
        · rw [if_neg c, if_neg (by omega)]
theorem sum_l0 (R : Int) : ∀ (d j : Nat), j + d = 32 → ∀ L : List Int, L.length + d < 100000000000 → Ev (fun k => funicularref01_Sum.l1 k (L ++ List.replicate d 0) 0) R → Ev (fun k => funicularref01_Sum.l0 k L (j : Int)) R := by
  intro d
  induction d with
  | zero =>
    intro j hj L hl K
    rw [List.replicate_zero, List.append_nil] at K
    refine Ev.step (fun k => ?_) K
    simp only [funicularref01_Sum.l0]
    rw [if_neg (by omega)]
  | succ d ih =>
    intro j hj L hl K
    refine Ev.step (fun k => ?_) (ih (j + 1) (by omega) (L ++ [0]) (by rw [List.length_append]; show L.length + 1 + d < _; omega) ?_)
    · simp only [funicularref01_Sum.l0]
      rw [if_pos (by omega), if_pos (by omega), w64n (by omega)]
    · rw [List.append_assoc]
      exact K
theorem refsum_ev (x0 : List Int) (hb : IsB x0) (hl : x0.length ≤ 1000000000) : Ev (fun k => funicularref01_Sum.f k x0) (i32 (crcU 0#32 x0)) := by
  have hB := bits_ev x0 hb hl
  have hlen := bitsL_len x0
  have h01 := bitsL_01 x0
  generalize hM : bitsL x0 = M at hB hlen h01
  have hF01 : Is01 (M ++ List.replicate 32 0) := fun x hx => (List.mem_append.mp hx).elim (h01 x) fun h => .inl (List.eq_of_mem_replicate h)
  have hFl : (M ++ List.replicate 32 (0 : Int)).length = M.length + 32 := by rw [List.length_append, List.length_replicate]
  have key : ∀ (d i : Nat), i + d = M.length → ∀ L, Inv (M ++ List.replicate 32 0) L i (ser (~~~ 0#32) (M.take i)) → Ev (fun k => funicularref01_Sum.l2 k L 4374732215 (i : Int)) (i32 (crcU 0#32 x0)) := by
    intro d
    induction d with
    | zero =>
      intro i hi L hI
      have e : i = M.length := by omega
      subst e
      rw [List.take_length, ← hM, ser_bits x0 _ hb, hM] at hI
      have h4 := sum_l4 L M.length (by rw [hI.1, hFl]) (by omega) (~~~ upd (~~~ 0#32) x0) (fun j hj => by
        rw [hI.2 (M.length + j) (by omega) (by omega), show M.length + j - M.length = j by omega, rd_get (by omega), List.getElem_append_right (by omega), List.getElem_replicate]
        unfold xb
        rw [BitVec.getLsbD_not, decide_eq_true hj, Bool.true_and]
        cases (upd (~~~ 0#32) x0).getLsbD j <;> rfl) 32 0 rfl
      rw [show (~~~ upd (~~~ 0#32) x0).toNat % 2 ^ 0 = 0 from Nat.mod_one _] at h4
      refine Ev.step (fun k => ?_) h4
      simp only [funicularref01_Sum.l2]
      have hLl : L.length = M.length + 32 := by rw [hI.1, hFl]
      rw [w64 (by omega) (by omega), if_neg (by omega)]
      rfl
    | succ d ih =>
      intro i hi L hI
      have hlt : i < M.length := by omega
      obtain ⟨L', h1, h2⟩ := inv_step _ L hF01 i _ hI (by omega) (by omega) (i32 (crcU 0#32 x0))
      refine h2 (ih (i + 1) (by omega) L' ?_)
      have e : ser (~~~ 0#32) (M.take (i + 1)) = ser1 (ser (~~~ 0#32) (M.take i)) (rd (M ++ List.replicate 32 0) (i : Int)) := by
        rw [rd_get (by omega), List.getElem_append_left hlt, List.take_succ_eq_append_getElem hlt]
        unfold ser
        rw [List.foldl_append]
        rfl
      rw [e]
      exact h1
  have h1 := sum_l1 (M ++ List.replicate 32 0) hF01 (by omega) (by omega) (i32 (crcU 0#32 x0)) 32 0 rfl (M ++ List.replicate 32 0) rfl (fun q _ => by rw [if_neg (by omega)]) (fun L' hI => key M.length 0 (Nat.zero_add _) L' hI)
  have h0 := sum_l0 (i32 (crcU 0#32 x0)) 32 0 rfl M (by omega) h1
  refine Ev.congr (fun k => by unfold funicularref01_Sum.f; rfl) (Ev.bind (f := fun k t211 => funicularref01_Sum.l0 k t211 0) hB h0)
theorem seal_ev (x0 : List Int) (hb : IsB x0) (hl : x0.length ≤ 1000000000) : Ev (fun k => funicularref17_Seal.f k x0) (encT x0) := by
  have hs := refsum_ev x0 hb hl
  have h0 := i32_nonneg (crcU 0#32 x0)
  have h1 := i32_lt (crcU 0#32 x0)
  refine Ev.congr (fun k => by unfold funicularref17_Seal.f; rfl) (Ev.bind (f := fun k t223 => (if ([] : List Int).length + x0.length < 140737488355328 then ((some (([] : List Int) ++ x0 : List Int)).bind fun y224 => ((some (([(Int.tmod t223 256) % 256, ((Int.tdiv t223 256) % 4294967296) % 256, ((Int.tdiv t223 65536) % 4294967296) % 256, ((Int.tdiv t223 16777216) % 4294967296) % 256] : List Int) : List Int)).bind fun y227 => (if y224.length + y227.length < 140737488355328 then (some (y224 ++ y227)) else (none)))) else (none))) hs (Ev.yes (by show 0 + _ < _; omega) ?_))
  unfold encT
  generalize i32 (crcU 0#32 x0) = s at h0 h1 ⊢
  have e : ([(Int.tmod s 256) % 256, ((Int.tdiv s 256) % 4294967296) % 256, ((Int.tdiv s 65536) % 4294967296) % 256, ((Int.tdiv s 16777216) % 4294967296) % 256] : List Int) = sumL s := by
    unfold sumL
    rw [Int.tmod_eq_emod_of_nonneg h0, Int.tdiv_eq_ediv_of_nonneg h0, Int.tdiv_eq_ediv_of_nonneg h0, Int.tdiv_eq_ediv_of_nonneg h0]
    simp only [List.cons.injEq]
    refine ⟨by omega, by omega, by omega, by omega, trivial⟩
  rw [e]
  show Ev (fun _ => if x0.length + 4 < 140737488355328 then some (x0 ++ sumL s) else none) _
  exact Ev.yes (by omega) (Ev.now _)

/-! ### what the chapter says, of the parts of a packet -/
theorem in_eq (a b c : Int) : funicularref17_in.f a b c = some (decide (b ≤ a ∧ a ≤ c)) := by
  unfold funicularref17_in.f
  by_cases h : a ≥ b
  · rw [if_pos h]
    congr 1
    by_cases h7 : a ≤ c
    · rw [decide_eq_true h7, decide_eq_true ⟨h, h7⟩]
    · rw [decide_eq_false h7, decide_eq_false (fun c => h7 c.2)]
  · rw [if_neg h, decide_eq_false (fun c => h c.1)]
theorem rmsg_l0 (m : S51) (hl : m.f9.length < 4611686018427387904) : ∀ (d n : Nat), n + d = m.f9.length → ∀ b : Bool, Ev (fun k => funicularref17_Msg.l0 k b (n : Int) m.f0 m.f1 m.f2 m.f3 m.f4 m.f5 m.f6 m.f7 m.f8 m.f9 m.f10) (b && (m.f9.drop n).all entOk) := by
  intro d
  induction d with
  | zero =>
    intro n hn b
    rw [List.drop_eq_nil_of_le (by omega), List.all_nil, Bool.and_true]
    refine Ev.step (f := fun _ => some b) (fun k => ?_) (Ev.now _)
    simp only [funicularref17_Msg.l0]
    rw [if_neg (by omega)]
  | succ d ih =>
    intro n hn b
    have hlt : n < m.f9.length := by omega
    cases b with
    | false =>
      rw [Bool.false_and]
      refine Ev.step (f := fun _ => some false) (fun k => ?_) (Ev.now _)
      simp only [funicularref17_Msg.l0]
      rw [if_pos (by omega), if_neg (by decide)]
    | true =>
      have hd : m.f9.drop n = m.f9[n] :: m.f9.drop (n + 1) := List.drop_eq_getElem_cons hlt
      rw [Bool.true_and, hd, List.all_cons]
      refine Ev.step (fun k => ?_) (ih (n + 1) (by omega) (entOk m.f9[n]))
      simp only [funicularref17_Msg.l0]
      rw [if_pos (by omega), if_pos trivial, if_pos (by omega), rd48 hlt, in_eq, Option.bind_some, w64n (by omega)]
      by_cases h1 : 1 ≤ m.f9[n].f0 ∧ m.f9[n].f0 ≤ 1099511627776
      · rw [decide_eq_true h1, if_pos rfl]
        congr 1
        unfold entOk
        rw [decide_eq_true h1.1, decide_eq_true h1.2, Bool.true_and, Bool.true_and]
        exact decide_eq_decide.mpr (by omega)
      · rw [decide_eq_false h1, if_neg (by decide)]
        congr 1
        unfold entOk
        by_cases c : 1 ≤ m.f9[n].f0
        · rw [decide_eq_false (fun c2 => h1 ⟨c, c2⟩), Bool.and_false, Bool.false_and]
        · rw [decide_eq_false c, Bool.false_and, Bool.false_and]
theorem rmsg_j0 (m : S51) (hl : m.f9.length < 4611686018427387904) (b : Bool) : Ev (fun k => funicularref17_Msg.j0 k b m.f0 m.f1 m.f2 m.f3 m.f4 m.f5 m.f6 m.f7 m.f8 m.f9 m.f10) (b && (decide (m.f9.length ≤ 8) && (decide (m.f10.length ≤ 65536) && m.f9.all entOk))) := by
  have j1 : ∀ b : Bool, Ev (fun k => funicularref17_Msg.j1 k b m.f0 m.f1 m.f2 m.f3 m.f4 m.f5 m.f6 m.f7 m.f8 m.f9 m.f10) (b && m.f9.all entOk) := fun b => by
    have := rmsg_l0 m hl m.f9.length 0 (Nat.zero_add _) b
    rw [List.drop_zero] at this
    exact Ev.step (fun k => by simp only [funicularref17_Msg.j1]; rfl) this
  cases b with
  | false => exact Ev.step (fun k => by simp only [funicularref17_Msg.j0]; rw [if_neg (by decide)]) (j1 false)
  | true =>
    by_cases h : m.f9.length ≤ 8
    · have := j1 (decide (m.f10.length ≤ 65536))
      rw [Bool.true_and, decide_eq_true h, Bool.true_and]
      refine Ev.step (fun k => ?_) this
      simp only [funicularref17_Msg.j0]
      rw [if_pos trivial, if_pos (by omega), show decide ((m.f10.length : Int) ≤ 65536) = decide (m.f10.length ≤ 65536) from decide_eq_decide.mpr (by omega)]
    · rw [Bool.true_and, decide_eq_false h, Bool.false_and]
      refine Ev.step (fun k => ?_) (j1 false)
      simp only [funicularref17_Msg.j0]
      rw [if_pos trivial, if_neg (by omega)]
theorem rmsg_ev (m : S51) (hl : m.f9.length < 4611686018427387904) : Ev (fun k => funicularref17_Msg.f k m.f0 m.f1 m.f2 m.f3 m.f4 m.f5 m.f6 m.f7 m.f8 m.f9 m.f10) (msgOk m) := by
  have h : ∀ (a b c d e f : Bool) (g : Bool → Option Bool), ((some a).bind fun t191 => if t191 = true then (some b).bind fun t192 => if t192 = true then (some c).bind fun t193 => if t193 = true then (some d).bind fun t194 => if t194 = true then (some e).bind fun t195 => if t195 = true then (some f).bind fun t196 => g t196 else g false else g false else g false else g false else g false) = g (a && (b && (c && (d && (e && f))))) := by
    intro a b c d e f g
    cases a <;> cases b <;> cases c <;> cases d <;> cases e <;> rfl
  have hv : msgOk m = ((decide (1 ≤ m.f0 ∧ m.f0 ≤ 7) && (decide (0 ≤ m.f1 ∧ m.f1 ≤ 63) && (decide (0 ≤ m.f4 ∧ m.f4 ≤ 1099511627776) && (decide (0 ≤ m.f5 ∧ m.f5 ≤ 1099511627776) && (decide (0 ≤ m.f6 ∧ m.f6 ≤ 1099511627776) && decide (0 ≤ m.f7 ∧ m.f7 ≤ 1099511627776)))))) && (decide (m.f9.length ≤ 8) && (decide (m.f10.length ≤ 65536) && m.f9.all entOk))) := by
    rw [Bool.eq_iff_iff]
    unfold msgOk inI
    simp only [Bool.and_eq_true, decide_eq_true_eq]
    constructor
    · rintro ⟨⟨⟨⟨⟨⟨⟨⟨h4, h5⟩, h6⟩, h7⟩, h0⟩, h1⟩, h9⟩, h10⟩, he⟩
      exact ⟨⟨h0, ⟨h1.1, by omega⟩, h4, h5, h6, h7⟩, h9, h10, he⟩
    · rintro ⟨⟨h0, h1, h4, h5, h6, h7⟩, h9, h10, he⟩
      exact ⟨⟨⟨⟨⟨⟨⟨⟨h4, h5⟩, h6⟩, h7⟩, h0⟩, ⟨h1.1, by omega⟩⟩, h9⟩, h10⟩, he⟩
  rw [hv]
  refine Ev.congr (fun k => ?_) (rmsg_j0 m hl _)
  unfold funicularref17_Msg.f
  simp only [in_eq]
  exact h _ _ _ _ _ _ (fun b => funicularref17_Msg.j0 k b m.f0 m.f1 m.f2 m.f3 m.f4 m.f5 m.f6 m.f7 m.f8 m.f9 m.f10)

/-! ### Check, of both, is one number -/
def okb (fr tt : Int) (m : S51) : Bool := decide (m.f2 = fr) && (decide (m.f3 = tt) && msgOk m)
def chk (fr tt : Int) (ms : List S51) : Int := if (1 ≤ fr ∧ fr ≤ 7) ∧ (1 ≤ tt ∧ tt ≤ 7) ∧ fr ≠ tt then (if ms.length ≤ 256 then (if ms.all (okb fr tt) = true then 0 else 1) else 6) else 1
theorem gcheck_l0 (fr tt : Int) (ms : List S51) (hl : ms.length ≤ 256) : ∀ (d n : Nat), n + d = ms.length → Ev (fun k => packet_Check.l0 k ms (ms.length : Int) (n : Int) fr tt ms) (if (ms.drop n).all (okb fr tt) = true then 0 else 1) := by
  intro d
  induction d with
  | zero =>
    intro n hn
    rw [List.drop_eq_nil_of_le (by omega), List.all_nil, if_pos rfl]
    refine Ev.step (f := fun _ => some 0) (fun k => ?_) (Ev.now _)
    simp only [packet_Check.l0]
    rw [if_neg (by omega)]
  | succ d ih =>
    intro n hn
    have hlt : n < ms.length := by omega
    have hi := ih (n + 1) (by omega)
    have hd : ms.drop n = ms[n] :: ms.drop (n + 1) := List.drop_eq_getElem_cons hlt
    rw [hd, List.all_cons]
    have bad : okb fr tt ms[n] = false → Ev (fun _ : Nat => some (1 : Int)) (if (okb fr tt ms[n] && (ms.drop (n + 1)).all (okb fr tt)) = true then 0 else 1) := fun h => by
      rw [h, Bool.false_and, if_neg (by decide)]
      exact Ev.now _
    by_cases h2 : ms[n].f2 = fr
    · by_cases h3 : ms[n].f3 = tt
      · by_cases hk : msgOk ms[n] = true
        · have ho : okb fr tt ms[n] = true := by unfold okb; rw [decide_eq_true h2, decide_eq_true h3, hk]; rfl
          rw [ho, Bool.true_and]
          refine Ev.step (fun k => ?_) hi
          simp only [packet_Check.l0]
          rw [if_pos (by omega), if_pos (by omega), if_pos (by omega), rd51 hlt, if_pos h2, if_pos h3]
          simp only [packet_msg.f, Option.bind_some, eta51]
          rw [if_pos hk, w64n (by omega)]
        · refine Ev.step (fun k => ?_) (bad (by unfold okb; rw [Bool.eq_false_iff.mpr hk, Bool.and_false, Bool.and_false]))
          simp only [packet_Check.l0]
          rw [if_pos (by omega), if_pos (by omega), if_pos (by omega), rd51 hlt, if_pos h2, if_pos h3]
          simp only [packet_msg.f, Option.bind_some, eta51]
          rw [if_neg hk]
      · refine Ev.step (fun k => ?_) (bad (by unfold okb; rw [decide_eq_false h3, Bool.false_and, Bool.and_false]))
        simp only [packet_Check.l0]
        rw [if_pos (by omega), if_pos (by omega), if_pos (by omega), rd51 hlt, if_pos h2, if_neg h3]
    · refine Ev.step (fun k => ?_) (bad (by unfold okb; rw [decide_eq_false h2, Bool.false_and]))
      simp only [packet_Check.l0]
      rw [if_pos (by omega), if_pos (by omega), if_pos (by omega), rd51 hlt, if_neg h2]
theorem rcheck_l0 (fr tt : Int) (ms : List S51) (hl : ms.length ≤ 256) (hw : weighL ms) : ∀ (d n : Nat), n + d = ms.length → Ev (fun k => funicularref17_Check.l0 k (n : Int) fr tt ms) (if (ms.drop n).all (okb fr tt) = true then 0 else 1) := by
  intro d
  induction d with
  | zero =>
    intro n hn
    rw [List.drop_eq_nil_of_le (by omega), List.all_nil, if_pos rfl]
    refine Ev.step (f := fun _ => some 0) (fun k => ?_) (Ev.now _)
    simp only [funicularref17_Check.l0]
    rw [if_neg (by omega)]
  | succ d ih =>
    intro n hn
    have hlt : n < ms.length := by omega
    have hi := ih (n + 1) (by omega)
    have hm := rmsg_ev ms[n] (hw.2 _ (List.getElem_mem hlt))
    have hd : ms.drop n = ms[n] :: ms.drop (n + 1) := List.drop_eq_getElem_cons hlt
    rw [hd, List.all_cons]
    have bad : okb fr tt ms[n] = false → Ev (fun _ : Nat => some (1 : Int)) (if (okb fr tt ms[n] && (ms.drop (n + 1)).all (okb fr tt)) = true then 0 else 1) := fun h => by
      rw [h, Bool.false_and, if_neg (by decide)]
      exact Ev.now _
    by_cases h2 : ms[n].f2 = fr
    · by_cases h3 : ms[n].f3 = tt
      · have go : Ev (fun k => if msgOk ms[n] = true then funicularref17_Check.l0 k ((n + 1 : Nat) : Int) fr tt ms else some 1) (if (okb fr tt ms[n] && (ms.drop (n + 1)).all (okb fr tt)) = true then 0 else 1) := by
          by_cases hk : msgOk ms[n] = true
          · have ho : okb fr tt ms[n] = true := by unfold okb; rw [decide_eq_true h2, decide_eq_true h3, hk]; rfl
            rw [ho, Bool.true_and]
            exact Ev.yes hk hi
          · exact Ev.no hk (bad (by unfold okb; rw [Bool.eq_false_iff.mpr hk, Bool.and_false, Bool.and_false]))
        refine Ev.step (fun k => ?_) (Ev.bind (f := fun k t206 => if t206 = true then funicularref17_Check.l0 k ((n + 1 : Nat) : Int) fr tt ms else some 1) hm go)
        simp only [funicularref17_Check.l0]
        rw [if_pos (by omega), if_pos (by omega), rd51 hlt, if_pos h2, if_pos h3, w64n (by omega)]
      · refine Ev.step (fun k => ?_) (bad (by unfold okb; rw [decide_eq_false h3, Bool.false_and, Bool.and_false]))
        simp only [funicularref17_Check.l0]
        rw [if_pos (by omega), if_pos (by omega), rd51 hlt, if_pos h2, if_neg h3]
    · refine Ev.step (fun k => ?_) (bad (by unfold okb; rw [decide_eq_false h2, Bool.false_and]))
      simp only [funicularref17_Check.l0]
      rw [if_pos (by omega), if_pos (by omega), rd51 hlt, if_neg h2]
theorem gcheck_ev (fr tt : Int) (ms : List S51) : Ev (fun k => packet_Check.f k fr tt ms) (chk fr tt ms) := by
  have bad : Ev (fun k => packet_Check.j0 k true fr tt ms) 1 := Ev.step (f := fun _ => some 1) (fun k => by simp only [packet_Check.j0]; rw [if_pos trivial]) (Ev.now _)
  unfold chk
  by_cases hf : 1 ≤ fr ∧ fr ≤ 7
  · by_cases ht : 1 ≤ tt ∧ tt ≤ 7
    · by_cases he : fr = tt
      · rw [if_neg (fun c => c.2.2 he)]
        refine Ev.congr (fun k => ?_) bad
        unfold packet_Check.f
        rw [node_eq, node_eq, decide_eq_true hf, decide_eq_true ht, he]
        show packet_Check.j0 k (tt == tt) tt tt ms = packet_Check.j0 k true tt tt ms
        rw [beq_self_eq_true]
      · have hne : (fr == tt) = false := beq_eq_false_iff_ne.mpr he
        rw [if_pos ⟨hf, ht, he⟩]
        by_cases hl : ms.length ≤ 256
        · rw [if_pos hl]
          have hc := gcheck_l0 fr tt ms hl ms.length 0 (Nat.zero_add _)
          rw [List.drop_zero] at hc
          refine Ev.congr (fun k => ?_) (Ev.step (g := fun k => packet_Check.j0 k false fr tt ms) (fun k => ?_) hc)
          · unfold packet_Check.f
            rw [node_eq, node_eq, decide_eq_true hf, decide_eq_true ht, hne]
            rfl
          · simp only [packet_Check.j0]
            rw [if_neg (by decide), if_neg (by omega)]
            rfl
        · rw [if_neg hl]
          refine Ev.congr (fun k => ?_) (Ev.step (g := fun k => packet_Check.j0 k false fr tt ms) (f := fun _ => some 6) (fun k => ?_) (Ev.now _))
          · unfold packet_Check.f
            rw [node_eq, node_eq, decide_eq_true hf, decide_eq_true ht, hne]
            rfl
          · simp only [packet_Check.j0]
            rw [if_neg (by decide), if_pos (by omega)]
    · rw [if_neg (fun c => ht c.2.1)]
      refine Ev.congr (fun k => ?_) bad
      unfold packet_Check.f
      rw [node_eq, node_eq, decide_eq_true hf, decide_eq_false ht]
      rfl
  · rw [if_neg (fun c => hf c.1)]
    refine Ev.congr (fun k => ?_) bad
    unfold packet_Check.f
    rw [node_eq, decide_eq_false hf]
    rfl
theorem rcheck_ev (fr tt : Int) (ms : List S51) (hw : weighL ms) : Ev (fun k => funicularref17_Check.f k fr tt ms) (chk fr tt ms) := by
  have bad : Ev (fun k => funicularref17_Check.j0 k true fr tt ms) 1 := Ev.step (f := fun _ => some 1) (fun k => by simp only [funicularref17_Check.j0]; rw [if_pos trivial]) (Ev.now _)
  unfold chk
  by_cases hf : 1 ≤ fr ∧ fr ≤ 7
  · by_cases ht : 1 ≤ tt ∧ tt ≤ 7
    · by_cases he : fr = tt
      · rw [if_neg (fun c => c.2.2 he)]
        refine Ev.congr (fun k => ?_) bad
        unfold funicularref17_Check.f
        rw [in_eq, in_eq, decide_eq_true hf, decide_eq_true ht, he]
        show funicularref17_Check.j0 k (tt == tt) tt tt ms = funicularref17_Check.j0 k true tt tt ms
        rw [beq_self_eq_true]
      · have hne : (fr == tt) = false := beq_eq_false_iff_ne.mpr he
        rw [if_pos ⟨hf, ht, he⟩]
        by_cases hl : ms.length ≤ 256
        · rw [if_pos hl]
          have hc := rcheck_l0 fr tt ms hl hw ms.length 0 (Nat.zero_add _)
          rw [List.drop_zero] at hc
          refine Ev.congr (fun k => ?_) (Ev.step (g := fun k => funicularref17_Check.j0 k false fr tt ms) (fun k => ?_) hc)
          · unfold funicularref17_Check.f
            rw [in_eq, in_eq, decide_eq_true hf, decide_eq_true ht, hne]
            rfl
          · simp only [funicularref17_Check.j0]
            rw [if_neg (by decide), if_neg (by omega)]
            rfl
        · rw [if_neg hl]
          refine Ev.congr (fun k => ?_) (Ev.step (g := fun k => funicularref17_Check.j0 k false fr tt ms) (f := fun _ => some 6) (fun k => ?_) (Ev.now _))
          · unfold funicularref17_Check.f
            rw [in_eq, in_eq, decide_eq_true hf, decide_eq_true ht, hne]
            rfl
          · simp only [funicularref17_Check.j0]
            rw [if_neg (by decide), if_pos (by omega)]
    · rw [if_neg (fun c => ht c.2.1)]
      refine Ev.congr (fun k => ?_) bad
      unfold funicularref17_Check.f
      rw [in_eq, in_eq, decide_eq_true hf, decide_eq_false ht]
      rfl
  · rw [if_neg (fun c => hf c.1)]
    refine Ev.congr (fun k => ?_) bad
    unfold funicularref17_Check.f
    rw [in_eq, decide_eq_false hf]
    rfl
theorem Ev.same {α : Type} {g : Nat → Option α} {a b : α} (h : Ev g a) (k : Ev g b) : a = b := by
  obtain ⟨m, hm⟩ := h
  obtain ⟨n, hn⟩ := k
  have h1 := hm (max m n) (Nat.le_max_left ..)
  have h2 := hn (max m n) (Nat.le_max_right ..)
  rw [h1] at h2
  exact Option.some.inj h2
theorem chk_ok {fr tt : Int} {ms : List S51} (h : chk fr tt ms = 0) : okP fr tt ms := by
  unfold chk at h
  split at h
  · rename_i hc
    split at h
    · rename_i hl
      split at h
      · rename_i ha
        refine ⟨hc.1, hc.2.1, hl, fun m hm => ?_⟩
        have := List.all_eq_true.mp ha m hm
        unfold okb at this
        rw [Bool.and_eq_true, Bool.and_eq_true] at this
        exact ⟨this.2.2, of_decide_eq_true this.1, of_decide_eq_true this.2.1⟩
      · exact absurd h (by decide)
    · exact absurd h (by decide)
  · exact absurd h (by decide)

/-! ### bytes that are read were written in just that way -/
theorem ru_inv (l : List Int) (hb : IsB l) : ∀ (f i : Nat) (acc v : Int) (r : List Int), i + f = 10 → ruGo l f i acc = (v, r, 0) → ∃ n : Int, 0 ≤ n ∧ (0 < i → 0 < n) ∧ v = acc + n * 2 ^ (7 * i) ∧ l.drop i = leb f n ++ r := by
  intro f
  induction f with
  | zero =>
    intro i acc v r _ h
    simp only [ruGo, Prod.mk.injEq] at h
    exact absurd h.2.2 (by decide)
  | succ f ih =>
    intro i acc v r hi h
    simp only [ruGo] at h
    by_cases h1 : i < l.length
    · rw [if_pos h1] at h
      have hd : l.drop i = l[i] :: l.drop (i + 1) := List.drop_eq_getElem_cons h1
      have hbi := hb l[i] (List.getElem_mem h1)
      rw [rd_get h1] at h
      generalize l[i] = d at h hd hbi
      split at h
      · simp only [Prod.mk.injEq] at h
        exact absurd h.2.2 (by decide)
      · split at h
        · rename_i hlt
          split at h
          · simp only [Prod.mk.injEq] at h
            exact absurd h.2.2 (by decide)
          · rename_i hz
            simp only [Prod.mk.injEq] at h
            refine ⟨d, hbi.1, fun h0 => ?_, h.1.symm, ?_⟩
            · rcases Int.lt_or_eq_of_le hbi.1 with c | c
              · exact c
              · exact absurd ⟨c.symm, h0⟩ hz
            · rw [leb, if_pos hlt, hd, h.2.1]
              rfl
        · rename_i hlt
          obtain ⟨n', hn0, hnp, hv, hdr⟩ := ih (i + 1) _ v r (by omega) h
          have hp := hnp (by omega)
          refine ⟨(d - 128) + n' * 128, by omega, fun _ => by omega, ?_, ?_⟩
          · rw [hv, show 7 * (i + 1) = 7 * i + 7 by omega, Int.pow_add]
            generalize (2 : Int) ^ (7 * i) = p
            rw [show (2 : Int) ^ 7 = 128 from rfl, Int.add_mul, Int.mul_assoc n' 128 p, Int.mul_comm 128 p]
            omega
          · rw [hd, hdr, leb, if_neg (by omega)]
            have e1 : (d - 128 + n' * 128) % 128 + 128 = d := by omega
            have e2 : (d - 128 + n' * 128) / 128 = n' := by omega
            rw [e1, e2]
            rfl
    · rw [if_neg h1] at h
      simp only [Prod.mk.injEq] at h
      exact absurd h.2.2 (by decide)
theorem ruP_inv {l r : List Int} {v : Int} (hb : IsB l) (h : ruP l = (v, r, 0)) : 0 ≤ v ∧ l = enc1 v ++ r := by
  obtain ⟨n, h0, _, hv, hd⟩ := ru_inv l hb 10 0 0 v r rfl h
  have e : v = n := by
    rw [hv]
    show (0 : Int) + n * 1 = n
    omega
  subst e
  exact ⟨h0, hd⟩
theorem isB_right {a b : List Int} (h : IsB (a ++ b)) : IsB b := fun x hx => h x (List.mem_append_right _ hx)
theorem num_inv {most : Int} {l l' : List Int} {e n : Int} (hb : IsB l) (h : numP most l e = (n, l', 0)) : e = 0 ∧ 0 ≤ n ∧ n ≤ most ∧ l = enc1 n ++ l' := by
  unfold numP at h
  by_cases he : e = 0
  · rw [if_pos he] at h
    by_cases h2 : (ruP l).2.2 = 0
    · rw [if_pos h2] at h
      by_cases h3 : (ruP l).1 > most
      · rw [if_pos h3] at h
        simp only [Prod.mk.injEq] at h
        exact absurd h.2.2 (by decide)
      · rw [if_neg h3] at h
        simp only [Prod.mk.injEq] at h
        have := ruP_inv hb (v := (ruP l).1) (r := (ruP l).2.1) (by rw [← h2])
        rw [h.1, h.2.1] at this
        exact ⟨he, this.1, by omega, this.2⟩
    · rw [if_neg h2] at h
      simp only [Prod.mk.injEq] at h
      exact absurd h.2.2 h2
  · rw [if_neg he] at h
    simp only [Prod.mk.injEq] at h
    exact absurd h.2.2 he
theorem bytes_inv {l l' b : List Int} {e : Int} (hb : IsB l) (h : bytesP l e = (b, l', 0)) : e = 0 ∧ l = enc1 b.length ++ (b ++ l') := by
  unfold bytesP at h
  by_cases he : e = 0
  · rw [if_pos he] at h
    by_cases h2 : (rbP l).2.2 = 0
    · rw [if_pos h2] at h
      simp only [Prod.mk.injEq] at h
      refine ⟨he, ?_⟩
      obtain ⟨h3, h4, _⟩ := h
      unfold rbP at h2 h3 h4
      by_cases h5 : (ruP l).2.2 = 0
      · rw [if_pos h5] at h2 h3 h4
        by_cases h6 : (ruP l).1 > ((ruP l).2.1.length : Int)
        · rw [if_pos h6] at h2
          exact absurd h2 (by decide)
        · rw [if_neg h6] at h3 h4
          have hi := ruP_inv hb (v := (ruP l).1) (r := (ruP l).2.1) (by rw [← h5])
          generalize (ruP l).1 = v at *
          generalize (ruP l).2.1 = r at *
          obtain ⟨m, rfl⟩ := Int.eq_ofNat_of_zero_le hi.1
          dsimp only at h3 h4
          rw [Int.toNat_natCast] at h3 h4
          have hbl : b.length = m := by
            rw [← h3, List.length_take]
            omega
          rw [hi.2, hbl, ← h3, ← h4, List.take_append_drop]
      · rw [if_neg h5] at h2
        exact absurd h2 h5
    · rw [if_neg h2] at h
      simp only [Prod.mk.injEq] at h
      exact absurd h.2.2 h2
  · rw [if_neg he] at h
    simp only [Prod.mk.injEq] at h
    exact absurd h.2.2 he
theorem num_B {most : Int} {l l' : List Int} {e e' n : Int} (hb : IsB l) (h : numP most l e = (n, l', e')) : IsB l' := by
  have h1 := ruP_B l hb
  have h2 : (numP most l e).2.1 = l' := by rw [h]
  rw [← h2]
  unfold numP
  repeat' split
  all_goals first
    | exact h1
    | exact hb
theorem bytes_B {l l' b : List Int} {e e' : Int} (hb : IsB l) (h : bytesP l e = (b, l', e')) : IsB l' := by
  have h1 := (rbP_ok l hb).2.2.2
  have h2 : (bytesP l e).2.1 = l' := by rw [h]
  rw [← h2]
  unfold bytesP
  repeat' split
  all_goals first
    | exact h1
    | exact hb
theorem ents_inv : ∀ (f : Nat) (l l' : List Int) (e : Int) (acc es' : List S48), IsB l → entsP f l e acc = (es', l', 0) → e = 0 ∧ ∃ es : List S48, es' = acc ++ es ∧ es.length = f ∧ l = encEs es ++ l'
  | 0, l, l', e, acc, es', hb, h => by
    simp only [entsP, Prod.mk.injEq] at h
    exact ⟨h.2.2, [], by rw [List.append_nil]; exact h.1.symm, rfl, h.2.1⟩
  | f + 1, l, l', e, acc, es', hb, h => by
    simp only [entsP] at h
    by_cases he : e = 0
    · rw [if_pos he] at h
      subst he
      obtain ⟨n, l1, e1, hn⟩ : ∃ a b c, numP 1099511627776 l 0 = (a, b, c) := ⟨_, _, _, rfl⟩
      rw [hn] at h
      dsimp only at h
      obtain ⟨d, l2, e2, hd⟩ : ∃ a b c, bytesP l1 e1 = (a, b, c) := ⟨_, _, _, rfl⟩
      rw [hd] at h
      dsimp only at h
      have hl1 : IsB l1 ∧ IsB l2 := ⟨num_B hb hn, bytes_B (num_B hb hn) hd⟩
      obtain ⟨z2, es, h1, h2, h3⟩ := ents_inv f l2 l' e2 _ es' hl1.2 h
      subst z2
      obtain ⟨z1, hb1⟩ := bytes_inv hl1.1 hd
      subst z1
      obtain ⟨_, _, _, ha⟩ := num_inv hb hn
      refine ⟨rfl, ⟨n, d⟩ :: es, by rw [h1, List.append_assoc]; rfl, by rw [List.length_cons, h2], ?_⟩
      rw [ha, hb1, h3]
      simp only [encEs, encE, List.append_assoc]
    · rw [if_neg he] at h
      simp only [Prod.mk.injEq] at h
      exact absurd h.2.2 he
theorem ents_B : ∀ (f : Nat) (l l' : List Int) (e e' : Int) (acc es' : List S48), IsB l → entsP f l e acc = (es', l', e') → IsB l'
  | 0, l, l', e, e', acc, es', hb, h => by
    simp only [entsP, Prod.mk.injEq] at h
    exact h.2.1 ▸ hb
  | f + 1, l, l', e, e', acc, es', hb, h => by
    simp only [entsP] at h
    by_cases he : e = 0
    · rw [if_pos he] at h
      obtain ⟨n, l1, e1, hn⟩ : ∃ a b c, numP 1099511627776 l e = (a, b, c) := ⟨_, _, _, rfl⟩
      rw [hn] at h
      dsimp only at h
      obtain ⟨d, l2, e2, hd⟩ : ∃ a b c, bytesP l1 e1 = (a, b, c) := ⟨_, _, _, rfl⟩
      rw [hd] at h
      dsimp only at h
      exact ents_B f l2 l' e2 e' _ es' (bytes_B (num_B hb hn) hd) h
    · rw [if_neg he] at h
      simp only [Prod.mk.injEq] at h
      exact h.2.1 ▸ hb
theorem msg_inv {fr tt : Int} {l l' : List Int} {e e' : Int} {m : S51} (hb : IsB l) (h : msgP fr tt l e = (m, l', e')) : IsB l' ∧ (e' = 0 → e = 0 ∧ l = encM m ++ l') := by
  simp only [msgP] at h
  obtain ⟨n0, l0, e0, h0⟩ : ∃ a b c, numP 7 l e = (a, b, c) := ⟨_, _, _, rfl⟩
  rw [h0] at h
  dsimp only at h
  obtain ⟨n1, l1, e1, h1⟩ : ∃ a b c, numP 64 l0 e0 = (a, b, c) := ⟨_, _, _, rfl⟩
  rw [h1] at h
  dsimp only at h
  obtain ⟨n2, l2, e2, h2⟩ : ∃ a b c, numP 1099511627776 l1 e1 = (a, b, c) := ⟨_, _, _, rfl⟩
  rw [h2] at h
  dsimp only at h
  obtain ⟨n3, l3, e3, h3⟩ : ∃ a b c, numP 1099511627776 l2 e2 = (a, b, c) := ⟨_, _, _, rfl⟩
  rw [h3] at h
  dsimp only at h
  obtain ⟨n4, l4, e4, h4⟩ : ∃ a b c, numP 1099511627776 l3 e3 = (a, b, c) := ⟨_, _, _, rfl⟩
  rw [h4] at h
  dsimp only at h
  obtain ⟨n5, l5, e5, h5⟩ : ∃ a b c, numP 1099511627776 l4 e4 = (a, b, c) := ⟨_, _, _, rfl⟩
  rw [h5] at h
  dsimp only at h
  obtain ⟨n6, l6, e6, h6⟩ : ∃ a b c, numP 1 l5 e5 = (a, b, c) := ⟨_, _, _, rfl⟩
  rw [h6] at h
  dsimp only at h
  obtain ⟨n7, l7, e7, h7⟩ : ∃ a b c, numP 8 l6 e6 = (a, b, c) := ⟨_, _, _, rfl⟩
  rw [h7] at h
  dsimp only at h
  obtain ⟨es, l8, e8, h8⟩ : ∃ a b c, entsP n7.toNat l7 e7 [] = (a, b, c) := ⟨_, _, _, rfl⟩
  rw [h8] at h
  dsimp only at h
  obtain ⟨d, l9, e9, h9⟩ : ∃ a b c, bytesP l8 e8 = (a, b, c) := ⟨_, _, _, rfl⟩
  rw [h9] at h
  simp only [Prod.mk.injEq] at h
  obtain ⟨hm, rfl, rfl⟩ := h
  have b0 := num_B hb h0
  have b1 := num_B b0 h1
  have b2 := num_B b1 h2
  have b3 := num_B b2 h3
  have b4 := num_B b3 h4
  have b5 := num_B b4 h5
  have b6 := num_B b5 h6
  have b7 := num_B b6 h7
  have b8 := ents_B _ _ _ _ _ _ _ b7 h8
  refine ⟨bytes_B b8 h9, fun hz => ?_⟩
  subst hz
  obtain ⟨rfl, i9⟩ := bytes_inv b8 h9
  obtain ⟨rfl, es2, i8, i8l, i8e⟩ := ents_inv _ _ _ _ _ _ b7 h8
  obtain ⟨rfl, p7, q7, i7⟩ := num_inv b6 h7
  obtain ⟨rfl, p6, q6, i6⟩ := num_inv b5 h6
  obtain ⟨rfl, p5, q5, i5⟩ := num_inv b4 h5
  obtain ⟨rfl, p4, q4, i4⟩ := num_inv b3 h4
  obtain ⟨rfl, p3, q3, i3⟩ := num_inv b2 h3
  obtain ⟨rfl, p2, q2, i2⟩ := num_inv b1 h2
  obtain ⟨rfl, p1, q1, i1⟩ := num_inv b0 h1
  obtain ⟨rfl, p0, q0, i0⟩ := num_inv hb h0
  refine ⟨rfl, ?_⟩
  rw [List.nil_append] at i8
  subst i8
  have hy : yesI (decide (n6 = 1)) = n6 := by
    unfold yesI
    by_cases c : n6 = 1
    · rw [if_pos (decide_eq_true c), c]
    · rw [if_neg (by rw [decide_eq_false c]; decide)]
      omega
  have hn : (es.length : Int) = n7 := by omega
  subst hm
  simp only [encM, encN, List.append_assoc, List.nil_append]
  rw [hy, hn, ← i9, ← i8e, ← i7, ← i6, ← i5, ← i4, ← i3, ← i2, ← i1, ← i0]
theorem msgs_inv (fr tt : Int) : ∀ (f : Nat) (l l' : List Int) (e e' : Int) (acc ms' : List S51), IsB l → msgsP f fr tt l e acc = (ms', l', e') → e' = 0 → e = 0 ∧ ∃ ms : List S51, ms' = acc ++ ms ∧ ms.length = f ∧ l = encMs ms ++ l'
  | 0, l, l', e, e', acc, ms', hb, h, hz => by
    simp only [msgsP, Prod.mk.injEq] at h
    exact ⟨h.2.2.trans hz, [], by rw [List.append_nil]; exact h.1.symm, rfl, h.2.1⟩
  | f + 1, l, l', e, e', acc, ms', hb, h, hz => by
    simp only [msgsP] at h
    by_cases he : e = 0
    · rw [if_pos he] at h
      obtain ⟨m, l1, e1, hm⟩ : ∃ a b c, msgP fr tt l e = (a, b, c) := ⟨_, _, _, rfl⟩
      rw [hm] at h
      dsimp only at h
      obtain ⟨b1, hi⟩ := msg_inv hb hm
      obtain ⟨z1, ms, h1, h2, h3⟩ := msgs_inv fr tt f l1 l' e1 e' _ ms' b1 h hz
      obtain ⟨_, h4⟩ := hi z1
      refine ⟨he, m :: ms, by rw [h1, List.append_assoc]; rfl, by rw [List.length_cons, h2], ?_⟩
      rw [h4, h3]
      simp only [encMs, List.append_assoc]
    · rw [if_neg he] at h
      simp only [Prod.mk.injEq] at h
      exact absurd (h.2.2.trans hz) he
theorem pack_inv {b l : List Int} {fr tt : Int} {ms : List S51} (hb : IsB b) (h : packP b = (fr, tt, ms, l, 0)) : b = encB fr tt ms := by
  simp only [packP] at h
  obtain ⟨n0, l0, e0, h0⟩ : ∃ a b' c, numP 7 b 0 = (a, b', c) := ⟨_, _, _, rfl⟩
  rw [h0] at h
  dsimp only at h
  obtain ⟨n1, l1, e1, h1⟩ : ∃ a b' c, numP 7 l0 e0 = (a, b', c) := ⟨_, _, _, rfl⟩
  rw [h1] at h
  dsimp only at h
  obtain ⟨n2, l2, e2, h2⟩ : ∃ a b' c, numP 256 l1 e1 = (a, b', c) := ⟨_, _, _, rfl⟩
  rw [h2] at h
  dsimp only at h
  obtain ⟨ms', l3, e3, h3⟩ : ∃ a b' c, msgsP n2.toNat n0 n1 l2 e2 [] = (a, b', c) := ⟨_, _, _, rfl⟩
  rw [h3] at h
  dsimp only at h
  have b0 := num_B hb h0
  have b1 := num_B b0 h1
  have b2 := num_B b1 h2
  have hz : e3 = 0 ∧ l3 = [] ∧ n0 = fr ∧ n1 = tt ∧ ms' = ms := by
    simp only [Prod.mk.injEq] at h
    obtain ⟨ha, hbb, hc, hd⟩ := h
    by_cases c : e3 = 0 ∧ 0 < l3.length
    · rw [if_pos c] at hd
      simp only [Prod.mk.injEq] at hd
      exact absurd hd.2 (by decide)
    · rw [if_neg c] at hd
      simp only [Prod.mk.injEq] at hd
      refine ⟨hd.2, ?_, ha, hbb, hc⟩
      refine List.eq_nil_of_length_eq_zero ?_
      have : ¬ 0 < l3.length := fun c2 => c ⟨hd.2, c2⟩
      omega
  obtain ⟨z3, rfl, rfl, rfl, rfl⟩ := hz
  obtain ⟨rfl, ms2, i3, i3l, i3e⟩ := msgs_inv n0 n1 _ _ _ _ _ _ _ b2 h3 z3
  obtain ⟨rfl, p2, q2, i2⟩ := num_inv b1 h2
  obtain ⟨rfl, p1, q1, i1⟩ := num_inv b0 h1
  obtain ⟨_, p0, q0, i0⟩ := num_inv hb h0
  rw [List.nil_append] at i3
  subst i3
  have hn : (ms'.length : Int) = n2 := by omega
  simp only [encB, encN, List.append_assoc, List.nil_append]
  rw [hn]
  rw [List.append_nil] at i3e
  rw [← i3e, ← i2, ← i1, ← i0]
theorem mem_encMs {m : S51} {x : Int} : ∀ (ms : List S51), m ∈ ms → x ∈ encM m → x ∈ encMs ms
  | [], h, _ => by cases h
  | y :: ms, h, hx => by
    rcases List.mem_cons.mp h with rfl | h
    · exact List.mem_append_left _ hx
    · exact List.mem_append_right _ (mem_encMs ms h hx)
theorem mem_encEs {m : S48} {x : Int} : ∀ (ms : List S48), m ∈ ms → x ∈ m.f1 → x ∈ encEs ms
  | [], h, _ => by cases h
  | y :: ms, h, hx => by
    rcases List.mem_cons.mp h with rfl | h
    · exact List.mem_append_left _ (List.mem_append_right _ (List.mem_append_right _ hx))
    · exact List.mem_append_right _ (mem_encEs ms h hx)
theorem back_fine {fr tt : Int} {ms : List S51} (h : IsB (encB fr tt ms)) : fineB ms := by
  have h1 := isB_right h
  intro m hm
  refine ⟨fun x hx => h1 x (mem_encMs ms hm (List.mem_append_right _ (List.mem_append_right _ (List.mem_append_right _ hx)))), fun e he x hx => h1 x (mem_encMs ms hm (List.mem_append_right _ (List.mem_append_left _ (mem_encEs m.f9 he hx))))⟩
theorem PacketOnce : funicularlaw17_PacketOnce.Pure := by
  intro l0 _ hl hw8
  have hb : IsB l0 := by
    intro y hy0
    have hy := hw8 y hy0
    have e1 : IntKind.u8.min = 0 := rfl
    have e2 : IntKind.u8.max = 255 := rfl
    simp [Lit.wf, e1, e2] at hy
    omega
  refine Ev.rounds (g := fun k => funicularlaw17_PacketOnce.f k l0) ?_
  refine Ev.congr (fun k => by unfold funicularlaw17_PacketOnce.f; rfl) ?_
  by_cases h15 : (l0.length : Int) > 1500
  · exact Ev.yes h15 (Ev.now true)
  refine Ev.no h15 ?_
  have hs := seal_ev l0 hb (by omega)
  have fin : ∀ {e : Int}, e ≠ 0 → Ev (fun k => packet_Read.f k (encT l0)) (0, 0, [], e) → Ev (fun k => (packet_Read.f k (encT l0)).bind fun bt232 => (if bt232.2.2.2 = 0 then ((packet_Put.f k bt232.1 bt232.2.1 bt232.2.2.1).bind fun bt241 => (if bt241.2 = 0 then ((funicularref17_Seal.f k l0).bind fun t245 => ((funicularref02_Same.f bt241.1 t245).bind fun t248 => (if t248 = true then ((funicularref17_Check.f k bt232.1 bt232.2.1 bt232.2.2.1).bind fun t249 => (if t249 = 0 then ((funicularlaw17_works.f).bind fun t250 => (some t250)) else (some false))) else (some false)))) else (some false))) else ((funicularref17_Same.f k bt232.1 bt232.2.1 bt232.2.2.1 0 0 ([] : List (S51))).bind fun t239 => (if t239 = true then ((funicularlaw17_works.f).bind fun t240 => (some t240)) else (some false))))) true := by
    intro e he hr
    refine Ev.bind (f := fun k bt232 => (if bt232.2.2.2 = 0 then ((packet_Put.f k bt232.1 bt232.2.1 bt232.2.2.1).bind fun bt241 => (if bt241.2 = 0 then ((funicularref17_Seal.f k l0).bind fun t245 => ((funicularref02_Same.f bt241.1 t245).bind fun t248 => (if t248 = true then ((funicularref17_Check.f k bt232.1 bt232.2.1 bt232.2.2.1).bind fun t249 => (if t249 = 0 then ((funicularlaw17_works.f).bind fun t250 => (some t250)) else (some false))) else (some false)))) else (some false))) else ((funicularref17_Same.f k bt232.1 bt232.2.1 bt232.2.2.1 0 0 ([] : List (S51))).bind fun t239 => (if t239 = true then ((funicularlaw17_works.f).bind fun t240 => (some t240)) else (some false))))) hr ?_
    refine Ev.no he ?_
    have hsm : Ev (fun k => funicularref17_Same.f k 0 0 [] 0 0 []) true := by
      refine Ev.congr (fun k => ?_) (sameMsgs_self [] ⟨by decide, fun y hy => by cases hy⟩)
      unfold funicularref17_Same.f
      rw [if_pos rfl, if_pos rfl]
      cases funicularref15_SameMsgs.f k [] [] <;> rfl
    exact Ev.bind (f := fun k t239 => (if t239 = true then ((funicularlaw17_works.f).bind fun t240 => (some t240)) else (some false))) hsm (Ev.yes rfl (Ev.now true))
  refine Ev.bind (f := fun k t229 => (packet_Read.f k t229).bind fun bt232 => (if bt232.2.2.2 = 0 then ((packet_Put.f k bt232.1 bt232.2.1 bt232.2.2.1).bind fun bt241 => (if bt241.2 = 0 then ((funicularref17_Seal.f k l0).bind fun t245 => ((funicularref02_Same.f bt241.1 t245).bind fun t248 => (if t248 = true then ((funicularref17_Check.f k bt232.1 bt232.2.1 bt232.2.2.1).bind fun t249 => (if t249 = 0 then ((funicularlaw17_works.f).bind fun t250 => (some t250)) else (some false))) else (some false)))) else (some false))) else ((funicularref17_Same.f k bt232.1 bt232.2.1 bt232.2.2.1 0 0 ([] : List (S51))).bind fun t239 => (if t239 = true then ((funicularlaw17_works.f).bind fun t240 => (some t240)) else (some false))))) hs ?_
  -- Read
  have ht := encT_len l0
  have htk : (encT l0).take ((encT l0).length - 4) = l0 := by
    rw [ht, Nat.add_sub_cancel, encT, List.take_left]
  have hdr : (encT l0).drop ((encT l0).length - 4) = sumL (i32 (crcU 0#32 l0)) := by
    rw [ht, Nat.add_sub_cancel, encT, List.drop_left]
  have hc := crc_su l0 hb (by omega)
  have he : bytes_Equal.f (sumL (i32 (crcU 0#32 l0))) (sumL (i32 (crcU 0#32 l0))) = some true := by
    unfold bytes_Equal.f
    rw [beq_self_eq_true]
  obtain ⟨fr, tt, ms, rest, e, hp⟩ : ∃ a b c d e, packP l0 = (a, b, c, d, e) := ⟨_, _, _, _, _, rfl⟩
  have hread : ∀ R, Ev (fun k => if e = 0 then (packet_Check.f k fr tt ms).bind fun c => if c = 0 then some (fr, tt, ms, (0 : Int)) else some (0, 0, [], c) else some (0, 0, [], e)) R → Ev (fun k => packet_Read.f k (encT l0)) R := by
    intro R hR
    refine Ev.congr (fun k => by unfold packet_Read.f; rw [if_pos ⟨(isB_iff _).mpr (encT_B hb), by omega⟩, if_neg (by omega), htk, hdr, hp]) (Ev.bind (f := fun k s => (bytes_Equal.f (sumL (i32 (crcU 0#32 l0))) (sumL s)).bind fun q => if q = true then (if e = 0 then (packet_Check.f k fr tt ms).bind fun c => if c = 0 then some (fr, tt, ms, (0 : Int)) else some (0, 0, [], c) else some (0, 0, [], e)) else some (0, 0, [], 4)) hc ?_)
    rw [he]
    exact Ev.some_bind (f := fun k q => if q = true then (if e = 0 then (packet_Check.f k fr tt ms).bind fun c => if c = 0 then some (fr, tt, ms, (0 : Int)) else some (0, 0, [], c) else some (0, 0, [], e)) else some (0, 0, [], 4)) (Ev.yes rfl hR)
  by_cases h0 : e = 0
  · subst h0
    have hl0 := pack_inv hb hp
    have hfb : fineB ms := back_fine (fr := fr) (tt := tt) (by rw [← hl0]; exact hb)
    have hg := gcheck_ev fr tt ms
    by_cases h1 : chk fr tt ms = 0
    · have hr := hread (fr, tt, ms, 0) (Ev.yes rfl (Ev.bind (f := fun k c => if c = 0 then some (fr, tt, ms, (0 : Int)) else some (0, 0, [], c)) hg (Ev.yes h1 (Ev.now _))))
      have hwl : weighL ms := by
        have ok := chk_ok h1
        refine ⟨by have := ok.2.2.1; omega, fun y hy => ?_⟩
        have := (msgOk_all (ok.2.2.2 y hy).1).2.2.2.2.2.2.1
        omega
      refine Ev.bind (f := fun k bt232 => (if bt232.2.2.2 = 0 then ((packet_Put.f k bt232.1 bt232.2.1 bt232.2.2.1).bind fun bt241 => (if bt241.2 = 0 then ((funicularref17_Seal.f k l0).bind fun t245 => ((funicularref02_Same.f bt241.1 t245).bind fun t248 => (if t248 = true then ((funicularref17_Check.f k bt232.1 bt232.2.1 bt232.2.2.1).bind fun t249 => (if t249 = 0 then ((funicularlaw17_works.f).bind fun t250 => (some t250)) else (some false))) else (some false)))) else (some false))) else ((funicularref17_Same.f k bt232.1 bt232.2.1 bt232.2.2.1 0 0 ([] : List (S51))).bind fun t239 => (if t239 = true then ((funicularlaw17_works.f).bind fun t240 => (some t240)) else (some false))))) hr (Ev.yes rfl ?_)
      have hput : Ev (fun k => packet_Put.f k fr tt ms) (encT l0, 0) := by
        obtain ⟨c, hcc, hpp⟩ := put_ev fr tt ms hfb
        have ec := Ev.same hcc hg
        rcases hpp with ⟨_, _, hpp⟩ | ⟨hn, _⟩
        · rw [hl0]
          exact hpp
        · exact absurd (ec.trans h1) hn
      refine Ev.bind (f := fun k bt241 => (if bt241.2 = 0 then ((funicularref17_Seal.f k l0).bind fun t245 => ((funicularref02_Same.f bt241.1 t245).bind fun t248 => (if t248 = true then ((funicularref17_Check.f k fr tt ms).bind fun t249 => (if t249 = 0 then ((funicularlaw17_works.f).bind fun t250 => (some t250)) else (some false))) else (some false)))) else (some false))) hput (Ev.yes rfl ?_)
      refine Ev.bind (f := fun k t245 => ((funicularref02_Same.f (encT l0) t245).bind fun t248 => (if t248 = true then ((funicularref17_Check.f k fr tt ms).bind fun t249 => (if t249 = 0 then ((funicularlaw17_works.f).bind fun t250 => (some t250)) else (some false))) else (some false)))) hs ?_
      have hsame : funicularref02_Same.f (encT l0) (encT l0) = some true := by
        unfold funicularref02_Same.f
        rw [beq_self_eq_true]
      rw [hsame]
      refine Ev.some_bind (f := fun k t248 => (if t248 = true then ((funicularref17_Check.f k fr tt ms).bind fun t249 => (if t249 = 0 then ((funicularlaw17_works.f).bind fun t250 => (some t250)) else (some false))) else (some false))) (Ev.yes rfl ?_)
      exact Ev.bind (f := fun k t249 => (if t249 = 0 then ((funicularlaw17_works.f).bind fun t250 => (some t250)) else (some false))) (rcheck_ev fr tt ms hwl) (Ev.yes h1 (Ev.now true))
    · exact fin h1 (hread _ (Ev.yes rfl (Ev.bind (f := fun k c => if c = 0 then some (fr, tt, ms, (0 : Int)) else some (0, 0, [], c)) hg (Ev.no h1 (Ev.now _)))))
  · exact fin h0 (hread _ (Ev.no h0 (Ev.now _)))

end Go.Proofs.Ytnmcahlpkebpjaa.Pure
