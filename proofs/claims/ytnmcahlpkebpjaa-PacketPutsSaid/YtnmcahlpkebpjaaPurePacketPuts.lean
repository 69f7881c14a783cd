import Derived.Test.YtnmcahlpkebpjaaXPacketPutsx14
import Derived.Test.YtnmcahlpkebpjaaXCrc
set_option linter.unusedVariables false
set_option linter.unusedSimpArgs false
namespace Go.Proofs.Ytnmcahlpkebpjaa.Pure
open Go.RowKit Go.Proofs.YtnmcahlpkebpjaaX Go.Proofs.Ytnmcahlpkebpjaa.XPacketPuts Go.Proofs.YtnmcahlpkebpjaaW.PrintWords Go.Proofs.YtnmcahlpkebpjaaW.PrintLast

theorem w64 {x : Int} (h0 : -9223372036854775808 ≤ x) (h1 : x ≤ 9223372036854775807) : wrap64 x = x := by
  unfold wrap64
  omega
theorem w64n {n : Nat} (h : n < 4611686018427387904) : wrap64 ((n : Int) + 1) = ((n + 1 : Nat) : Int) := by
  rw [w64 (by omega) (by omega)]
  rfl
theorem rd51 {l : List S51} {i : Nat} (h : i < l.length) : rd_T51 l (i : Int) = l[i] := by
  unfold rd_T51
  rw [Int.toNat_natCast, List.getD_eq_getElem?_getD, List.getElem?_eq_getElem h]
  rfl
theorem rd48 {l : List S48} {i : Nat} (h : i < l.length) : rd_T48 l (i : Int) = l[i] := by
  unfold rd_T48
  rw [Int.toNat_natCast, List.getD_eq_getElem?_getD, List.getElem?_eq_getElem h]
  rfl
theorem eta51 (m : S51) : (⟨m.f0, m.f1, m.f2, m.f3, m.f4, m.f5, m.f6, m.f7, m.f8, m.f9, m.f10⟩ : S51) = m := rfl

/-! ### light answers -/
def Tot {α : Type} (g : Nat → Option α) : Prop := ∃ r, Ev g r
theorem Tot.step {α : Type} {g f : Nat → Option α} (h : ∀ k, g (k + 1) = f k) (t : Tot f) : Tot g := t.elim fun r e => ⟨r, Ev.step h e⟩
theorem Tot.now {α : Type} (r : α) : Tot (fun _ => some r) := ⟨r, Ev.now r⟩
def weighL (x0 : List S51) : Prop := x0.length < 4611686018427387904 ∧ ∀ y ∈ x0, y.f9.length < 4611686018427387904
theorem weight_l1 (x0 : List S51) (hx : weighL x0) (x1 : Int) (n : Nat) (hn : n < x0.length) (K : ∀ x5, Tot (fun k => funicularref17_Weight.l0 k x0 x1 x5 ((n + 1 : Nat) : Int))) :
    ∀ (d m : Nat), m + d = x0[n].f9.length → ∀ x5, Tot (fun k => funicularref17_Weight.l1 k x0 x1 x5 (n : Int) (m : Int)) := by
  have h9 : x0[n].f9.length < 4611686018427387904 := hx.2 _ (List.getElem_mem hn)
  have hl := hx.1
  intro d
  induction d with
  | zero =>
    intro m hm x5
    refine Tot.step (fun k => ?_) (K x5)
    simp only [funicularref17_Weight.l1]
    rw [if_pos (by omega), if_pos (by omega), rd51 hn, if_neg (by omega), w64n (by omega)]
  | succ d ih =>
    intro m hm x5
    by_cases hc : x5 ≤ x1
    · refine Tot.step (fun k => ?_) (ih (m + 1) (by omega) (wrap64 ((wrap64 (x5 + 1)) + (wrap64 ((((rd_T48 ((rd_T51 x0 n).f9) m).f1).length : Int) / 20)))))
      simp only [funicularref17_Weight.l1]
      rw [if_pos (by omega), if_pos (by omega), rd51 hn, if_pos (by omega), if_pos hc, if_pos (by omega), w64n (n := m) (by omega)]
    · refine Tot.step (fun k => ?_) (K x5)
      simp only [funicularref17_Weight.l1]
      rw [if_pos (by omega), if_pos (by omega), rd51 hn, if_pos (by omega), if_neg hc, w64n (by omega)]
theorem weight_l0 (x0 : List S51) (hx : weighL x0) (x1 : Int) : ∀ (d n : Nat), n + d = x0.length → ∀ x5, Tot (fun k => funicularref17_Weight.l0 k x0 x1 x5 (n : Int)) := by
  intro d
  have hl := hx.1
  induction d with
  | zero =>
    intro n hn x5
    refine Tot.step (f := fun k => funicularref17_Weight.j1 k x0 x1 x5 n false) (fun k => ?_) (Tot.step (f := fun _ => some x5) (fun k => ?_) (Tot.now x5))
    · simp only [funicularref17_Weight.l0]
      rw [if_neg (by omega)]
    · simp only [funicularref17_Weight.j1]
      rw [if_neg (by decide)]
  | succ d ih =>
    intro n hn x5
    have hlt : n < x0.length := by omega
    by_cases hc : x5 ≤ x1
    · have t := weight_l1 x0 hx x1 n hlt (fun x5 => ih (n + 1) (by omega) x5) _ 0 (Nat.zero_add _) (wrap64 ((wrap64 (x5 + 1)) + (wrap64 ((((rd_T51 x0 n).f10).length : Int) / 20))))
      refine Tot.step (f := fun k => funicularref17_Weight.j1 k x0 x1 x5 n true) (fun k => ?_) (Tot.step (fun k => ?_) t)
      · simp only [funicularref17_Weight.l0]
        rw [if_pos (by omega), decide_eq_true hc]
      · simp only [funicularref17_Weight.j1]
        rw [if_pos (by decide), if_pos (by omega), if_pos (by omega)]
        rfl
    · refine Tot.step (f := fun k => funicularref17_Weight.j1 k x0 x1 x5 n false) (fun k => ?_) (Tot.step (f := fun _ => some x5) (fun k => ?_) (Tot.now x5))
      · simp only [funicularref17_Weight.l0]
        rw [if_pos (by omega), decide_eq_false hc]
      · simp only [funicularref17_Weight.j1]
        rw [if_neg (by decide)]
theorem light_tot (x0 : List S51) (hx : weighL x0) : Tot (fun k => funicularlaw17_light.f k x0) := by
  obtain ⟨r, e⟩ := weight_l0 x0 hx 300 _ 0 (Nat.zero_add _) 0
  exact ⟨_, Ev.bind (g := fun k => funicularref17_Weight.f k x0 300) e (Ev.now (decide (r ≤ 300)))⟩


/-! ### the sum -/
theorem rd_get {l : List Int} {i : Nat} (h : i < l.length) : rd l (i : Int) = l[i] := by
  unfold rd
  rw [Int.toNat_natCast, List.getD_eq_getElem?_getD, List.getElem?_eq_getElem h]
  rfl
theorem upd_l1 (x10 : List Int) (x11 x12 : Int) (r : Int) : ∀ (n : Nat) (j : Int) (s : BitVec 32), j + n = 8 → 0 ≤ j →
    Ev (fun k => crc_Update.l0 k (i32 (rnds n s)) x10 x11 (wrap64 (x12 + 1))) r → Ev (fun k => crc_Update.l1 k (i32 s) x10 x11 x12 j) r
  | 0, j, s, hj, h0, h => Ev.step (fun k => by
      simp only [crc_Update.l1]
      rw [if_neg (by omega)]
      rfl) h
  | n + 1, j, s, hj, h0, h => by
    have ih := upd_l1 x10 x11 x12 r n (j + 1) (rnd s) (by omega) (by omega) h
    refine Ev.step (fun k => ?_) ih
    simp only [crc_Update.l1]
    rw [if_pos (by omega), w64 (by omega) (by omega)]
    have hb : Go.bits .and .u32 (i32 s) 1 = i32 (s &&& 1#32) := bits_and s 1#32
    by_cases hc : s &&& 1#32 = 1#32
    · have hx : Go.bits .xor .u32 (i32 (s >>> 1)) 3988292384 = i32 ((s >>> 1) ^^^ 3988292384#32) := bits_xor (s >>> 1) 3988292384#32
      rw [if_pos (by rw [hb, hc]; rfl), i32_half, hx]
      unfold rnd
      rw [if_pos hc]
    · rw [if_neg (by rw [hb]; exact fun h => hc (i32_inj (b := 1#32) h)), i32_half]
      unfold rnd
      rw [if_neg hc]
theorem upd_l0 (l : List Int) (hb : IsB l) (hl : l.length ≤ 140737488355328) : ∀ (n i : Nat) (s : BitVec 32), i + n = l.length →
    Ev (fun k => crc_Update.l0 k (i32 s) l (l.length : Int) (i : Int)) (i32 (~~~ (upd s (l.drop i))))
  | 0, i, s, hi => by
    have hd : l.drop i = [] := List.drop_eq_nil_of_le (by omega)
    refine Ev.step (f := fun _ => some (i32 (~~~ (upd s (l.drop i))))) (fun k => ?_) (Ev.now _)
    simp only [crc_Update.l0]
    rw [if_neg (by omega), hd]
    have hx : Go.bits .xor .u32 4294967295 (i32 s) = i32 (4294967295#32 ^^^ s) := bits_xor 4294967295#32 s
    rw [hx]
    congr 2
  | n + 1, i, s, hi => by
    have hlt : i < l.length := by omega
    have ih := upd_l0 l hb hl n (i + 1) (byte8 s l[i]) (by omega)
    have hd : l.drop i = l[i] :: l.drop (i + 1) := List.drop_eq_getElem_cons hlt
    have hbi := hb l[i] (List.getElem_mem hlt)
    rw [hd]
    have h1 := upd_l1 l (l.length : Int) (i : Int) (i32 (~~~ (upd s (l[i] :: l.drop (i + 1))))) 8 0 (s ^^^ BitVec.ofInt 32 l[i]) (by omega) (by omega) (by
      rw [w64 (by omega) (by omega)]
      exact ih)
    refine Ev.step (fun k => ?_) h1
    simp only [crc_Update.l0]
    rw [if_pos (by omega), if_pos (by omega), if_pos (by omega), rd_get hlt]
    have hm : l[i] % 4294967296 = i32 (BitVec.ofInt 32 l[i]) := by
      rw [i32_ofInt _ (by omega) (by omega)]
      omega
    rw [hm, bits_xor]
theorem crc_up (s : BitVec 32) (l : List Int) (hb : IsB l) (hl : l.length ≤ 140737488355328) : Ev (fun k => crc_Update.f k (i32 s) l) (i32 (crcU s l)) := by
  have h := upd_l0 l hb hl l.length 0 (~~~ s) (by omega)
  refine Ev.congr (fun k => ?_) h
  unfold crc_Update.f
  have hx : Go.bits .xor .u32 4294967295 (i32 s) = i32 (4294967295#32 ^^^ s) := bits_xor 4294967295#32 s
  rw [hx]
  congr 2
theorem crc_su (l : List Int) (hb : IsB l) (hl : l.length ≤ 140737488355328) : Ev (fun k => crc_Sum.f k l) (i32 (crcU 0#32 l)) := by
  have h := crc_up 0#32 l hb hl
  exact Ev.bind (f := fun _ t => some t) h (Ev.now _)

/-! ### bytes -/
theorem isB_nil : IsB [] := fun x hx => by cases hx
theorem isB_append {a b : List Int} (ha : IsB a) (hb : IsB b) : IsB (a ++ b) := fun x hx => (List.mem_append.mp hx).elim (ha x) (hb x)
theorem isB_one {a : Int} (h : 0 ≤ a ∧ a < 256) : IsB [a] := fun x hx => by
  rw [List.mem_singleton] at hx
  exact hx ▸ h
/-! ### a number as bytes of seven bits -/
theorem or128 : ∀ b : Fin 256, Go.bits .or .u8 ((b.val : Nat) : Int) 128 = ((b.val % 128 + 128 : Nat) : Int) := by decide +kernel
theorem or128' (n : Int) (h : 0 ≤ n) : Go.bits .or .u8 (n % 256) 128 = n % 128 + 128 := by
  obtain ⟨m, rfl⟩ := Int.eq_ofNat_of_zero_le h
  have h1 := or128 ⟨m % 256, Nat.mod_lt _ (by decide)⟩
  have e1 : ((m : Int)) % 256 = ((m % 256 : Nat) : Int) := by omega
  rw [e1]
  rw [show ((m : Int) % 128 + 128) = ((m % 256 % 128 + 128 : Nat) : Int) by omega]
  exact h1
def leb : Nat → Int → List Int
  | 0, _ => []
  | f + 1, n => if n < 128 then [n] else (n % 128 + 128) :: leb f (n / 128)
theorem leb_len : ∀ (f : Nat) (n : Int), (leb f n).length ≤ f
  | 0, n => Nat.le_refl _
  | f + 1, n => by
    have := leb_len f (n / 128)
    simp only [leb]
    split
    · simp
    · rw [List.length_cons]
      omega
theorem leb_B : ∀ (f : Nat) (n : Int), 0 ≤ n → IsB (leb f n)
  | 0, n, _ => isB_nil
  | f + 1, n, h => by
    have ih := leb_B f (n / 128) (by omega)
    simp only [leb]
    split
    · exact isB_one (by omega)
    · exact isB_append (a := [_]) (isB_one (by omega)) ih
theorem uint_ev : ∀ (f : Nat) (n : Int) (x0 : List Int), 0 ≤ n → n < 128 ^ (f + 1) → x0.length + (f + 1) < 140737488355328 → Ev (fun k => pack_Uint.l0 k x0 n) (x0 ++ leb (f + 1) n)
  | 0, n, x0, h0, h1, hl => by
    refine Ev.step (f := fun _ => some (x0 ++ leb 1 n)) (fun k => ?_) (Ev.now _)
    have h2 : n < 128 := by simpa using h1
    simp only [pack_Uint.l0, leb]
    rw [if_neg (by omega), if_pos (by omega), if_pos h2]
    congr 3
    omega
  | f + 1, n, x0, h0, h1, hl => by
    by_cases hc : n < 128
    · refine Ev.step (f := fun _ => some (x0 ++ leb (f + 1 + 1) n)) (fun k => ?_) (Ev.now _)
      rw [leb]
      simp only [pack_Uint.l0]
      rw [if_neg (by omega), if_pos (by omega), if_pos hc]
      congr 3
      omega
    · have hp : n / 128 < 128 ^ (f + 1) := by
        rw [Int.pow_succ] at h1
        generalize (128 : Int) ^ (f + 1) = p at h1 ⊢
        omega
      have ih := uint_ev f (n / 128) (x0 ++ [n % 128 + 128]) (by omega) hp (by rw [List.length_append]; show x0.length + 1 + (f + 1) < _; omega)
      rw [List.append_assoc] at ih
      have e : leb (f + 1 + 1) n = (n % 128 + 128) :: leb (f + 1) (n / 128) := by rw [leb, if_neg hc]
      rw [e]
      refine Ev.step (fun k => ?_) ih
      simp only [pack_Uint.l0]
      rw [if_pos (by omega), if_pos (by omega), or128' n h0]
def enc1 (n : Int) : List Int := leb 10 n
def Sm (n : Int) : Prop := 0 ≤ n ∧ n ≤ 1099511627776
theorem enc1_len (n : Int) : (enc1 n).length ≤ 10 := leb_len 10 n
theorem enc1_B {n : Int} (h : Sm n) : IsB (enc1 n) := leb_B 10 n h.1
theorem p10 : (1099511627776 : Int) < 128 ^ (9 + 1) := by decide
theorem uwrap {n : Int} (h : Sm n) : IntKind.u64.wrap n = n := by
  have h1 := h.1
  have h2 := h.2
  rw [IntKind.wrap_u64]
  omega
theorem one_ev {n : Int} (h : Sm n) (x0 : List Int) (hl : x0.length + 10 < 140737488355328) : Ev (fun k => pack_Uint.f k x0 (IntKind.u64.wrap n)) (x0 ++ enc1 n) := by
  rw [uwrap h]
  exact uint_ev 9 n x0 h.1 (Int.lt_of_le_of_lt h.2 p10) hl
def encN : List Int → List Int
  | [] => []
  | n :: l => enc1 n ++ encN l
theorem encN_len : ∀ l : List Int, (encN l).length ≤ 10 * l.length
  | [] => Nat.le_refl _
  | n :: l => by
    have h1 := enc1_len n
    have h2 := encN_len l
    simp only [encN, List.length_append, List.length_cons]
    omega
theorem encN_B : ∀ l : List Int, (∀ x ∈ l, Sm x) → IsB (encN l)
  | [], _ => isB_nil
  | n :: l, h => isB_append (enc1_B (h n (List.mem_cons_self ..))) (encN_B l fun x hx => h x (List.mem_cons_of_mem _ hx))
theorem numbers_ev (xs : List Int) (hx : ∀ x ∈ xs, Sm x) (hn : xs.length ≤ 100) (x0 : List Int) (hl : x0.length + 10 * xs.length < 140737488355328) : Ev (fun k => packet_numbers.f k x0 xs) (x0 ++ encN xs) := by
  have key : ∀ (d n : Nat), n + d = xs.length → ∀ x0 : List Int, x0.length + 10 * d < 140737488355328 → Ev (fun k => packet_numbers.l0 k x0 xs (xs.length : Int) (n : Int)) (x0 ++ encN (xs.drop n)) := by
    intro d
    induction d with
    | zero =>
      intro n hn x0 hl
      refine Ev.step (f := fun _ => some (x0 ++ encN (xs.drop n))) (fun k => ?_) (Ev.now _)
      simp only [packet_numbers.l0]
      rw [if_neg (by omega), List.drop_eq_nil_of_le (by omega)]
      show _ = some (x0 ++ [])
      rw [List.append_nil]
    | succ d ih =>
      intro n hn x0 hl
      have hlt : n < xs.length := by omega
      have h1 := enc1_len xs[n]
      have hi := ih (n + 1) (by omega) (x0 ++ enc1 xs[n]) (by rw [List.length_append]; omega)
      have ho := one_ev (hx _ (List.getElem_mem hlt)) x0 (by omega)
      have hd : xs.drop n = xs[n] :: xs.drop (n + 1) := List.drop_eq_getElem_cons hlt
      rw [hd]
      show Ev _ (x0 ++ (enc1 xs[n] ++ encN (xs.drop (n + 1))))
      rw [← List.append_assoc]
      refine Ev.step (fun k => ?_) (Ev.bind (f := fun k t119 => packet_numbers.l0 k t119 xs (xs.length : Int) (((n + 1 : Nat)) : Int)) ho hi)
      simp only [packet_numbers.l0]
      rw [if_pos (by omega), if_pos (by omega), if_pos (by omega), rd_get hlt, w64n (by omega)]
  have := key xs.length 0 (Nat.zero_add _) x0 hl
  exact this
theorem pbytes_ev {b : List Int} (hb : b.length ≤ 65536) (x0 : List Int) (hl : x0.length + 100000 < 140737488355328) : Ev (fun k => pack_Bytes.f k x0 b) (x0 ++ (enc1 b.length ++ b)) := by
  have h := one_ev (n := (b.length : Int)) ⟨by omega, by omega⟩ x0 (by omega)
  have h1 := enc1_len (b.length : Int)
  refine Ev.congr (fun k => by unfold pack_Bytes.f; rfl) (Ev.bind (f := fun k t122 => if t122.length + b.length < 140737488355328 then (some (t122 ++ b)) else none) h ?_)
  refine Ev.yes (by rw [List.length_append]; omega) ?_
  rw [← List.append_assoc]
  exact Ev.now _

/-! ### what Put writes -/
def encE (e : S48) : List Int := enc1 e.f0 ++ (enc1 e.f1.length ++ e.f1)
def encEs : List S48 → List Int
  | [] => []
  | e :: l => encE e ++ encEs l
def yesI (b : Bool) : Int := if b = true then 1 else 0
def encM (m : S51) : List Int := encN [m.f0, m.f1, m.f4, m.f5, m.f6, m.f7, yesI m.f8, m.f9.length] ++ (encEs m.f9 ++ (enc1 m.f10.length ++ m.f10))
def encMs : List S51 → List Int
  | [] => []
  | m :: l => encM m ++ encMs l
def encB (fr tt : Int) (ms : List S51) : List Int := encN [fr, tt, ms.length] ++ encMs ms
def okM (fr tt : Int) (m : S51) : Prop := msgOk m = true ∧ m.f2 = fr ∧ m.f3 = tt ∧ IsB m.f10 ∧ ∀ e ∈ m.f9, IsB e.f1
theorem okE_sm {e : S48} (h : entOk e = true) : Sm e.f0 ∧ e.f1.length ≤ 65536 := by
  unfold entOk at h
  simp only [Bool.and_eq_true, decide_eq_true_eq] at h
  exact ⟨⟨by omega, by omega⟩, h.2⟩
theorem msgOk_all {m : S51} (h : msgOk m = true) : Sm m.f4 ∧ Sm m.f5 ∧ Sm m.f6 ∧ Sm m.f7 ∧ (1 ≤ m.f0 ∧ m.f0 ≤ 7) ∧ (0 ≤ m.f1 ∧ m.f1 < 64) ∧ m.f9.length ≤ 8 ∧ m.f10.length ≤ 65536 ∧ ∀ e ∈ m.f9, entOk e = true := by
  unfold msgOk inI at h
  simp only [Bool.and_eq_true, decide_eq_true_eq, List.all_eq_true] at h
  obtain ⟨⟨⟨⟨⟨⟨⟨⟨h4, h5⟩, h6⟩, h7⟩, h0⟩, h1⟩, h9⟩, h10⟩, he⟩ := h
  exact ⟨h4, h5, h6, h7, h0, h1, h9, h10, he⟩
theorem encE_len {e : S48} (h : entOk e = true) : (encE e).length ≤ 65556 := by
  have h1 := (okE_sm h).2
  have h2 := enc1_len e.f0
  have h3 := enc1_len (e.f1.length : Int)
  simp only [encE, List.length_append]
  omega
theorem encEs_len : ∀ l : List S48, (∀ e ∈ l, entOk e = true) → (encEs l).length ≤ 65556 * l.length
  | [], _ => Nat.le_refl _
  | e :: l, h => by
    have h1 := encE_len (h e (List.mem_cons_self ..))
    have h2 := encEs_len l fun x hx => h x (List.mem_cons_of_mem _ hx)
    simp only [encEs, List.length_append, List.length_cons]
    omega
theorem encM_len {m : S51} (h : msgOk m = true) : (encM m).length ≤ 600000 := by
  have ha := msgOk_all h
  have h1 := encEs_len m.f9 ha.2.2.2.2.2.2.2.2
  have h2 := encN_len [m.f0, m.f1, m.f4, m.f5, m.f6, m.f7, yesI m.f8, m.f9.length]
  have h3 := enc1_len (m.f10.length : Int)
  have h4 := ha.2.2.2.2.2.2.1
  have h5 := ha.2.2.2.2.2.2.2.1
  simp only [encM, List.length_append]
  simp only [List.length_cons, List.length_nil] at h2
  omega
theorem encEs_B : ∀ l : List S48, (∀ e ∈ l, entOk e = true) → (∀ e ∈ l, IsB e.f1) → IsB (encEs l)
  | [], _, _ => isB_nil
  | e :: l, h, hb => by
    have h1 := okE_sm (h e (List.mem_cons_self ..))
    exact isB_append (isB_append (enc1_B h1.1) (isB_append (enc1_B ⟨by omega, by omega⟩) (hb e (List.mem_cons_self ..)))) (encEs_B l (fun x hx => h x (List.mem_cons_of_mem _ hx)) fun x hx => hb x (List.mem_cons_of_mem _ hx))
theorem nums_sm {m : S51} (h : msgOk m = true) : ∀ x ∈ [m.f0, m.f1, m.f4, m.f5, m.f6, m.f7, yesI m.f8, (m.f9.length : Int)], Sm x := by
  obtain ⟨h4, h5, h6, h7, h0, h1, h9, h10, he⟩ := msgOk_all h
  intro x hx
  simp only [List.mem_cons, List.mem_nil_iff, or_false] at hx
  rcases hx with rfl | rfl | rfl | rfl | rfl | rfl | rfl | rfl
  · exact ⟨by omega, by omega⟩
  · exact ⟨by omega, by omega⟩
  · exact h4
  · exact h5
  · exact h6
  · exact h7
  · unfold yesI Sm
    split <;> omega
  · exact ⟨by omega, by omega⟩
theorem encM_B {fr tt : Int} {m : S51} (h : okM fr tt m) : IsB (encM m) := by
  have ha := msgOk_all h.1
  refine isB_append (encN_B _ (nums_sm h.1)) (isB_append (encEs_B _ ha.2.2.2.2.2.2.2.2 h.2.2.2.2) (isB_append (enc1_B ⟨by omega, ?_⟩) h.2.2.2.1))
  have := ha.2.2.2.2.2.2.2.1
  omega
def encT (T : List Int) : List Int := T ++ sumL (i32 (crcU 0#32 T))
theorem put_l1 (ms : List S51) (i : Nat) (hi : i < 256) (m : S51) (ha : msgOk m = true) (R : List Int × Int) :
    ∀ (d n : Nat), n + d = m.f9.length → ∀ x5 : List Int, x5.length + 65556 * d + 200000 < 140737488355328 → Ev (fun k => packet_Put.l0 k (x5 ++ (encEs (m.f9.drop n) ++ (enc1 m.f10.length ++ m.f10))) ms (ms.length : Int) ((i + 1 : Nat) : Int)) R →
      Ev (fun k => packet_Put.l1 k x5 ms (ms.length : Int) (i : Int) m.f9 (m.f9.length : Int) (n : Int) m.f0 m.f1 m.f2 m.f3 m.f4 m.f5 m.f6 m.f7 m.f8 m.f9 m.f10) R := by
  obtain ⟨h4, h5, h6, h7, h0, h1, h9, h10, he⟩ := msgOk_all ha
  intro d
  induction d with
  | zero =>
    intro n hn x5 hl K
    have e0 : ∀ l : List Int, encEs [] ++ l = l := fun _ => rfl
    rw [List.drop_eq_nil_of_le (by omega), e0] at K
    have hb := pbytes_ev h10 x5 (by omega)
    refine Ev.step (fun k => ?_) (Ev.bind (f := fun k t165 => packet_Put.l0 k t165 ms (ms.length : Int) ((i + 1 : Nat) : Int)) hb K)
    simp only [packet_Put.l1]
    rw [if_neg (by omega), w64n (by omega)]
  | succ d ih =>
    intro n hn x5 hl K
    have hlt : n < m.f9.length := by omega
    have hok := he _ (List.getElem_mem hlt)
    have hsm := okE_sm hok
    have hel := encE_len hok
    have hd : m.f9.drop n = m.f9[n] :: m.f9.drop (n + 1) := List.drop_eq_getElem_cons hlt
    rw [hd] at K
    have e1 : x5 ++ (encEs (m.f9[n] :: m.f9.drop (n + 1)) ++ (enc1 m.f10.length ++ m.f10)) = (x5 ++ encE m.f9[n]) ++ (encEs (m.f9.drop (n + 1)) ++ (enc1 m.f10.length ++ m.f10)) := by
      simp only [encEs, List.append_assoc]
    rw [e1] at K
    have hi := ih (n + 1) (by omega) (x5 ++ encE m.f9[n]) (by rw [List.length_append]; omega) K
    have hn1 := numbers_ev [m.f9[n].f0] (fun x hx => by rw [List.mem_singleton] at hx; exact hx ▸ hsm.1) (by simp) x5 (by show x5.length + 10 * 1 < _; omega)
    have h1l := enc1_len m.f9[n].f0
    have e2 : encN [m.f9[n].f0] = enc1 m.f9[n].f0 := by show _ ++ [] = _; rw [List.append_nil]
    rw [e2] at hn1
    have hb1 := pbytes_ev hsm.2 (x5 ++ enc1 m.f9[n].f0) (by rw [List.length_append]; omega)
    rw [List.append_assoc] at hb1
    refine Ev.step (fun k => ?_) (Ev.bind (f := fun k t159 => (pack_Bytes.f k t159 m.f9[n].f1).bind fun t162 => packet_Put.l1 k t162 ms (ms.length : Int) (i : Int) m.f9 (m.f9.length : Int) ((n + 1 : Nat) : Int) m.f0 m.f1 m.f2 m.f3 m.f4 m.f5 m.f6 m.f7 m.f8 m.f9 m.f10) hn1 (Ev.bind (f := fun k t162 => packet_Put.l1 k t162 ms (ms.length : Int) (i : Int) m.f9 (m.f9.length : Int) ((n + 1 : Nat) : Int) m.f0 m.f1 m.f2 m.f3 m.f4 m.f5 m.f6 m.f7 m.f8 m.f9 m.f10) hb1 hi))
    simp only [packet_Put.l1]
    rw [if_pos (by omega), if_pos (by omega), if_pos (by omega), rd48 hlt, w64n (by omega)]
theorem yes_eq (b : Bool) : packet_yes.f b = some (yesI b) := by
  unfold packet_yes.f yesI
  cases b <;> rfl
theorem put_l0 (fr tt : Int) (ms : List S51) (hm : ms.length ≤ 256) (hok : ∀ m ∈ ms, okM fr tt m) : ∀ (d n : Nat), n + d = ms.length → ∀ x5 : List Int, IsB x5 → x5.length + 600000 * d + 200000 < 140737488355328 →
    Ev (fun k => packet_Put.l0 k x5 ms (ms.length : Int) (n : Int)) (encT (x5 ++ encMs (ms.drop n)), 0) := by
  intro d
  induction d with
  | zero =>
    intro n hn x5 hb hl
    rw [List.drop_eq_nil_of_le (by omega)]
    have hs := crc_su x5 hb (by omega)
    have e : x5 ++ encMs [] = x5 := List.append_nil _
    rw [e]
    refine Ev.step (fun k => ?_) (Ev.bind (f := fun k t138 => (if x5.length + (sumL t138).length < 140737488355328 then (some ((x5 ++ sumL t138), (0 : Int))) else (none))) hs (Ev.yes (by show x5.length + 4 < _; omega) (Ev.now _)))
    simp only [packet_Put.l0]
    rw [if_neg (by omega)]
    rfl
  | succ d ih =>
    intro n hn x5 hb hl
    have hlt : n < ms.length := by omega
    have ho := hok _ (List.getElem_mem hlt)
    have hml := encM_len ho.1
    have hmb := encM_B ho
    have hi := ih (n + 1) (by omega) (x5 ++ encM ms[n]) (isB_append hb hmb) (by rw [List.length_append]; omega)
    have hd : ms.drop n = ms[n] :: ms.drop (n + 1) := List.drop_eq_getElem_cons hlt
    rw [hd]
    have e1 : x5 ++ encMs (ms[n] :: ms.drop (n + 1)) = x5 ++ encM ms[n] ++ encMs (ms.drop (n + 1)) := by
      rw [encMs, List.append_assoc]
    rw [e1]
    have hnl := encN_len [ms[n].f0, ms[n].f1, ms[n].f4, ms[n].f5, ms[n].f6, ms[n].f7, yesI ms[n].f8, (ms[n].f9.length : Int)]
    simp only [List.length_cons, List.length_nil] at hnl
    have h9 := (msgOk_all ho.1).2.2.2.2.2.2.1
    have hn1 := numbers_ev [ms[n].f0, ms[n].f1, ms[n].f4, ms[n].f5, ms[n].f6, ms[n].f7, yesI ms[n].f8, (ms[n].f9.length : Int)] (nums_sm ho.1) (by simp) x5 (by simp only [List.length_cons, List.length_nil]; omega)
    have hK := put_l1 ms n (by omega) ms[n] ho.1 _ ms[n].f9.length 0 (Nat.zero_add _) (x5 ++ encN [ms[n].f0, ms[n].f1, ms[n].f4, ms[n].f5, ms[n].f6, ms[n].f7, yesI ms[n].f8, (ms[n].f9.length : Int)]) (by rw [List.length_append]; omega) (by
      rw [List.drop_zero, List.append_assoc]
      exact hi)
    refine Ev.step (fun k => ?_) (Ev.bind (f := fun k t151 => packet_Put.l1 k t151 ms (ms.length : Int) (n : Int) ms[n].f9 (ms[n].f9.length : Int) 0 ms[n].f0 ms[n].f1 ms[n].f2 ms[n].f3 ms[n].f4 ms[n].f5 ms[n].f6 ms[n].f7 ms[n].f8 ms[n].f9 ms[n].f10) hn1 hK)
    simp only [packet_Put.l0]
    rw [if_pos (by omega), if_pos (by omega), if_pos (by omega), rd51 hlt, yes_eq]
    rfl

/-! ### Check -/
def okP (fr tt : Int) (ms : List S51) : Prop := (1 ≤ fr ∧ fr ≤ 7) ∧ (1 ≤ tt ∧ tt ≤ 7) ∧ ms.length ≤ 256 ∧ ∀ m ∈ ms, msgOk m = true ∧ m.f2 = fr ∧ m.f3 = tt
theorem check_l0 (fr tt : Int) (ms : List S51) (hl : ms.length ≤ 256) : ∀ (d n : Nat), n + d = ms.length → (∀ (j : Nat) (h : j < ms.length), j < n → msgOk ms[j] = true ∧ ms[j].f2 = fr ∧ ms[j].f3 = tt) →
    ∃ c, Ev (fun k => packet_Check.l0 k ms (ms.length : Int) (n : Int) fr tt ms) c ∧ (c = 0 → ∀ m ∈ ms, msgOk m = true ∧ m.f2 = fr ∧ m.f3 = tt) := by
  intro d
  induction d with
  | zero =>
    intro n hn hb
    refine ⟨0, Ev.step (f := fun _ => some 0) (fun k => ?_) (Ev.now _), fun _ m hm => ?_⟩
    · simp only [packet_Check.l0]
      rw [if_neg (by omega)]
    · obtain ⟨j, hj, rfl⟩ := List.mem_iff_getElem.mp hm
      exact hb j hj (by omega)
  | succ d ih =>
    intro n hn hb
    have hlt : n < ms.length := by omega
    by_cases h2 : ms[n].f2 = fr
    · by_cases h3 : ms[n].f3 = tt
      · by_cases hk : msgOk ms[n] = true
        · obtain ⟨c, hc, hz⟩ := ih (n + 1) (by omega) (fun j hj hjn => by
            by_cases e : j = n
            · subst e
              exact ⟨hk, h2, h3⟩
            · exact hb j hj (by omega))
          refine ⟨c, Ev.step (fun k => ?_) hc, hz⟩
          simp only [packet_Check.l0]
          rw [if_pos (by omega), if_pos (by omega), if_pos (by omega), rd51 hlt, if_pos h2, if_pos h3]
          simp only [packet_msg.f, Option.bind_some, eta51]
          rw [if_pos hk, w64n (by omega)]
        · refine ⟨1, Ev.step (f := fun _ => some 1) (fun k => ?_) (Ev.now _), fun h => by cases h⟩
          simp only [packet_Check.l0]
          rw [if_pos (by omega), if_pos (by omega), if_pos (by omega), rd51 hlt, if_pos h2, if_pos h3]
          simp only [packet_msg.f, Option.bind_some, eta51]
          rw [if_neg hk]
      · refine ⟨1, Ev.step (f := fun _ => some 1) (fun k => ?_) (Ev.now _), fun h => by cases h⟩
        simp only [packet_Check.l0]
        rw [if_pos (by omega), if_pos (by omega), if_pos (by omega), rd51 hlt, if_pos h2, if_neg h3]
    · refine ⟨1, Ev.step (f := fun _ => some 1) (fun k => ?_) (Ev.now _), fun h => by cases h⟩
      simp only [packet_Check.l0]
      rw [if_pos (by omega), if_pos (by omega), if_pos (by omega), rd51 hlt, if_neg h2]
theorem node_eq (a : Int) : packet_node.f a = some (decide (1 ≤ a ∧ a ≤ 7)) := by
  unfold packet_node.f
  by_cases h : a ≥ 1
  · rw [if_pos h]
    congr 1
    by_cases h7 : a ≤ 7
    · rw [decide_eq_true h7, decide_eq_true ⟨h, h7⟩]
    · rw [decide_eq_false h7, decide_eq_false (fun c => h7 c.2)]
  · rw [if_neg h, decide_eq_false (fun c => h c.1)]
theorem check_ev (fr tt : Int) (ms : List S51) : ∃ c, Ev (fun k => packet_Check.f k fr tt ms) c ∧ (c = 0 → okP fr tt ms) := by
  have bad : Ev (fun k => packet_Check.j0 k true fr tt ms) 1 := Ev.step (f := fun _ => some 1) (fun k => by simp only [packet_Check.j0]; rw [if_pos trivial]) (Ev.now _)
  by_cases hf : 1 ≤ fr ∧ fr ≤ 7
  · by_cases ht : 1 ≤ tt ∧ tt ≤ 7
    · by_cases he : fr = tt
      · refine ⟨1, Ev.congr (fun k => ?_) bad, fun h => by cases h⟩
        unfold packet_Check.f
        rw [node_eq, node_eq, decide_eq_true hf, decide_eq_true ht, he]
        show packet_Check.j0 k (tt == tt) tt tt ms = packet_Check.j0 k true tt tt ms
        rw [beq_self_eq_true]
      · have hne : (fr == tt) = false := beq_eq_false_iff_ne.mpr he
        by_cases hl : ms.length ≤ 256
        · obtain ⟨c, hc, hz⟩ := check_l0 fr tt ms hl ms.length 0 (Nat.zero_add _) (fun j _ hj => absurd hj (Nat.not_lt_zero _))
          refine ⟨c, Ev.congr (fun k => ?_) (Ev.step (g := fun k => packet_Check.j0 k false fr tt ms) (fun k => ?_) hc), fun h => ⟨hf, ht, hl, hz h⟩⟩
          · unfold packet_Check.f
            rw [node_eq, node_eq, decide_eq_true hf, decide_eq_true ht, hne]
            rfl
          · simp only [packet_Check.j0]
            rw [if_neg (by decide), if_neg (by omega)]
            rfl
        · refine ⟨6, Ev.congr (fun k => ?_) (Ev.step (g := fun k => packet_Check.j0 k false fr tt ms) (f := fun _ => some 6) (fun k => ?_) (Ev.now _)), fun h => by cases h⟩
          · unfold packet_Check.f
            rw [node_eq, node_eq, decide_eq_true hf, decide_eq_true ht, hne]
            rfl
          · simp only [packet_Check.j0]
            rw [if_neg (by decide), if_pos (by omega)]
    · refine ⟨1, Ev.congr (fun k => ?_) bad, fun h => by cases h⟩
      unfold packet_Check.f
      rw [node_eq, node_eq, decide_eq_true hf, decide_eq_false ht]
      rfl
  · refine ⟨1, Ev.congr (fun k => ?_) bad, fun h => by cases h⟩
    unfold packet_Check.f
    rw [node_eq, decide_eq_false hf]
    rfl

/-! ### Put -/
def fineB (ms : List S51) : Prop := ∀ m ∈ ms, IsB m.f10 ∧ ∀ e ∈ m.f9, IsB e.f1
theorem okP_okM {fr tt : Int} {ms : List S51} (h : okP fr tt ms) (hb : fineB ms) : ∀ m ∈ ms, okM fr tt m := fun m hm => ⟨(h.2.2.2 m hm).1, (h.2.2.2 m hm).2.1, (h.2.2.2 m hm).2.2, (hb m hm).1, (hb m hm).2⟩
theorem three_sm {fr tt : Int} {ms : List S51} (h : okP fr tt ms) : ∀ x ∈ [fr, tt, (ms.length : Int)], Sm x := by
  obtain ⟨hf, ht, hl, _⟩ := h
  intro x hx
  simp only [List.mem_cons, List.mem_nil_iff, or_false] at hx
  rcases hx with rfl | rfl | rfl <;> exact ⟨by omega, by omega⟩
theorem put_ev (fr tt : Int) (ms : List S51) (hb : fineB ms) : ∃ c, Ev (fun k => packet_Check.f k fr tt ms) c ∧ ((c = 0 ∧ okP fr tt ms ∧ Ev (fun k => packet_Put.f k fr tt ms) (encT (encB fr tt ms), 0)) ∨ (c ≠ 0 ∧ Ev (fun k => packet_Put.f k fr tt ms) ([], c))) := by
  obtain ⟨c, hc, hz⟩ := check_ev fr tt ms
  refine ⟨c, hc, ?_⟩
  by_cases h0 : c = 0
  · subst h0
    have ok := hz rfl
    have hl := ok.2.2.1
    refine .inl ⟨rfl, ok, ?_⟩
    have hn := numbers_ev [fr, tt, (ms.length : Int)] (three_sm ok) (by simp) [] (by simp)
    have h2 := encN_len [fr, tt, (ms.length : Int)]
    simp only [List.length_cons, List.length_nil] at h2
    have hp := put_l0 fr tt ms hl (okP_okM ok hb) ms.length 0 (Nat.zero_add _) ([] ++ encN [fr, tt, (ms.length : Int)]) (by rw [List.nil_append]; exact encN_B _ (three_sm ok)) (by rw [List.nil_append]; omega)
    rw [List.drop_zero] at hp
    refine Ev.congr (fun k => by unfold packet_Put.f; rfl) (Ev.bind (f := fun k t131 => (if t131 = 0 then ((packet_numbers.f k ([] : List Int) (([fr, tt, (ms.length : Int)] : List Int))).bind fun t135 => (packet_Put.l0 k t135 ms (ms.length : Int) 0)) else (some (([] : List Int), t131)))) hc (Ev.yes rfl (Ev.bind (f := fun k t135 => packet_Put.l0 k t135 ms (ms.length : Int) 0) hn hp)))
  · refine .inr ⟨h0, ?_⟩
    refine Ev.congr (fun k => by unfold packet_Put.f; rfl) (Ev.bind (f := fun k t131 => (if t131 = 0 then ((packet_numbers.f k ([] : List Int) (([fr, tt, (ms.length : Int)] : List Int))).bind fun t135 => (packet_Put.l0 k t135 ms (ms.length : Int) 0)) else (some (([] : List Int), t131)))) hc (Ev.no h0 (Ev.now _)))
theorem fine_B {ms : List S51} (h : ∀ y ∈ ms, fineT51 y) : fineB ms := by
  have u8 : ∀ y : Int, (Lit.int .u8 y).wf = true → 0 ≤ y ∧ y < 256 := by
    intro y hy
    have e1 : IntKind.u8.min = 0 := rfl
    have e2 : IntKind.u8.max = 255 := rfl
    simp [Lit.wf, e1, e2] at hy
    omega
  intro m hm
  have hf := (h m hm).2.2.2.2.2.2.2.2.2
  exact ⟨fun x hx => u8 x (hf.2.2 x hx), fun e he x hx => u8 x ((hf.1.2 e he).2.2 x hx)⟩
theorem fine_w {ms : List S51} (hl : ms.length * 120 ≤ 140737488351232) (h : ∀ y ∈ ms, fineT51 y) : weighL ms := ⟨by omega, fun y hy => by
  have := (h y hy).2.2.2.2.2.2.2.2.2.1.1
  omega⟩

/-! ### four bytes that are turned turn the sum -/
theorem rnd_eq (s : BitVec 32) : rnd s = (s >>> 1) ^^^ (if s.getLsbD 0 = true then 3988292384#32 else 0#32) := by
  unfold rnd
  by_cases h : s &&& 1#32 = 1#32
  · rw [if_pos h, if_pos ((bit0 s).1 h)]
  · rw [if_neg h, if_neg (fun c => h ((bit0 s).2 c)), BitVec.xor_zero]
theorem rnd_xor (a b : BitVec 32) : rnd (a ^^^ b) = rnd a ^^^ rnd b := by
  rw [rnd_eq, rnd_eq, rnd_eq, BitVec.getLsbD_xor]
  apply BitVec.eq_of_getLsbD_eq
  intro i hi
  cases a.getLsbD 0 <;> cases b.getLsbD 0 <;> simp [BitVec.getLsbD_xor, BitVec.getLsbD_ushiftRight] <;> cases a.getLsbD (1 + i) <;> cases b.getLsbD (1 + i) <;> simp
def bw (c i : Nat) : BitVec 32 := BitVec.ofNat 32 (c * 2 ^ i)
def w4 (a b c d : Nat) : BitVec 32 := ((bw a 0 ^^^ bw b 8) ^^^ bw c 16) ^^^ bw d 24
theorem nat_disj (i a b : Nat) (h : a < 2 ^ i) : a ^^^ (b * 2 ^ i) = a + b * 2 ^ i := by
  apply Nat.eq_of_testBit_eq
  intro j
  rw [Nat.testBit_xor, Nat.add_comm, Nat.mul_comm b, Nat.testBit_two_pow_mul_add _ h, Nat.testBit_two_pow_mul]
  by_cases hj : j < i
  · rw [if_pos hj]
    have : decide (j ≥ i) = false := decide_eq_false (by omega)
    rw [this]
    simp
  · rw [if_neg hj]
    have h1 : decide (j ≥ i) = true := decide_eq_true (by omega)
    have h2 : a.testBit j = false := Nat.testBit_lt_two_pow (Nat.lt_of_lt_of_le h (Nat.pow_le_pow_right (by decide) (by omega)))
    rw [h1, h2]
    simp
theorem bv_xor (a b : Nat) (ha : a < 2 ^ 32) (hb : b < 2 ^ 32) : BitVec.ofNat 32 a ^^^ BitVec.ofNat 32 b = BitVec.ofNat 32 (a ^^^ b) := by
  have := Nat.xor_lt_two_pow ha hb
  apply BitVec.eq_of_toNat_eq
  rw [BitVec.toNat_xor, BitVec.toNat_ofNat, BitVec.toNat_ofNat, BitVec.toNat_ofNat, Nat.mod_eq_of_lt ha, Nat.mod_eq_of_lt hb, Nat.mod_eq_of_lt this]
theorem bits8 (a b : Nat) (ha : a < 256) (hb : b < 256) : Go.bits .xor .u8 (a : Int) (b : Int) = ((a ^^^ b : Nat) : Int) := by
  have h : a ^^^ b < 2 ^ 8 := Nat.xor_lt_two_pow ha hb
  show IntKind.u8.wrap ((BitVec.ofInt 8 a ^^^ BitVec.ofInt 8 b).toNat : Int) = _
  rw [BitVec.toNat_xor, BitVec.ofInt_natCast, BitVec.ofInt_natCast, BitVec.toNat_ofNat, BitVec.toNat_ofNat, Nat.mod_eq_of_lt ha, Nat.mod_eq_of_lt hb, IntKind.wrap_u8]
  omega


/-! ### the long division of the chapter is the same sum -/
theorem and1 : ∀ b : Fin 256, Go.bits .and .u8 ((b.val : Nat) : Int) 1 = ((b.val % 2 : Nat) : Int) := by decide +kernel
def bl (c : Int) : List Int := [c / 1 % 2, c / 2 % 2, c / 4 % 2, c / 8 % 2, c / 16 % 2, c / 32 % 2, c / 64 % 2, c / 128 % 2]
def bitsL : List Int → List Int
  | [] => []
  | c :: l => bl c ++ bitsL l
theorem bitsL_len : ∀ l : List Int, (bitsL l).length = 8 * l.length
  | [] => rfl
  | c :: l => by
    rw [bitsL, List.length_append, bitsL_len l, List.length_cons]
    show 8 + _ = _
    omega
def Is01 (l : List Int) : Prop := ∀ x ∈ l, x = 0 ∨ x = 1
theorem bl_01 (c : Int) : Is01 (bl c) := by
  intro x hx
  simp only [bl, List.mem_cons, List.mem_nil_iff, or_false] at hx
  rcases hx with rfl | rfl | rfl | rfl | rfl | rfl | rfl | rfl <;> omega
theorem bitsL_01 : ∀ l : List Int, Is01 (bitsL l)
  | [] => fun x hx => by cases hx
  | c :: l => fun x hx => (List.mem_append.mp hx).elim (bl_01 c x) (bitsL_01 l x)
theorem bitsL_app : ∀ (a : List Int) (c : Int), bitsL (a ++ [c]) = bitsL a ++ bl c
  | [], c => by simp [bitsL]
  | x :: a, c => by
    show bl x ++ bitsL (a ++ [c]) = bl x ++ bitsL a ++ bl c
    rw [bitsL_app a c, List.append_assoc]
theorem bit_one (c : Int) (h : 0 ≤ c ∧ c < 256) (j : Nat) (hj : j < 8) : Go.bits .and .u8 (shr .u8 c (j : Int)) 1 = c / 2 ^ j % 2 := by
  have hs : shr .u8 c (j : Int) = c / 2 ^ j := by
    unfold shr
    rw [Int.toNat_natCast, show min j IntKind.u8.bits = j from Nat.min_eq_left (by show j ≤ 8; omega)]
  rw [hs]
  obtain ⟨m, rfl⟩ := Int.eq_ofNat_of_zero_le h.1
  have hp : (2 : Int) ^ j = ((2 ^ j : Nat) : Int) := by rw [Int.natCast_pow]; rfl
  rw [hp, ← Int.natCast_ediv]
  have hle : m / 2 ^ j ≤ m := Nat.div_le_self ..
  have := and1 ⟨m / 2 ^ j, by omega⟩
  rw [this]
  rfl
theorem bits_l1 (x0 : List Int) (hb : IsB x0) (hl : x0.length ≤ 1000000000) (n : Nat) (hn : n < x0.length) (x3 : List Int) (h3 : x3.length ≤ 8 * n) (R : List Int) (K : Ev (fun k => funicularref01_bits.l0 k x0 (x3 ++ bl x0[n]) ((n + 1 : Nat) : Int)) R) : Ev (fun k => funicularref01_bits.l1 k x0 x3 (n : Int) 0) R := by
  have hc := hb x0[n] (List.getElem_mem hn)
  have st : ∀ (j : Nat) (y : List Int), j < 8 → y.length < 100000000000 → ∀ k, funicularref01_bits.l1 (k + 1) x0 y (n : Int) (j : Int) = funicularref01_bits.l1 k x0 (y ++ [x0[n] / 2 ^ j % 2]) (n : Int) ((j + 1 : Nat) : Int) := by
    intro j y hj hy k
    simp only [funicularref01_bits.l1]
    rw [if_pos (by omega), if_pos (by omega), if_pos (by omega), if_pos (by omega), if_pos (by omega), rd_get hn, bit_one _ hc j hj, w64n (by omega)]
  refine Ev.step (st 0 x3 (by omega) (by omega)) ?_
  refine Ev.step (st 1 _ (by omega) (by simp only [List.length_append, List.length_cons, List.length_nil]; omega)) ?_
  refine Ev.step (st 2 _ (by omega) (by simp only [List.length_append, List.length_cons, List.length_nil]; omega)) ?_
  refine Ev.step (st 3 _ (by omega) (by simp only [List.length_append, List.length_cons, List.length_nil]; omega)) ?_
  refine Ev.step (st 4 _ (by omega) (by simp only [List.length_append, List.length_cons, List.length_nil]; omega)) ?_
  refine Ev.step (st 5 _ (by omega) (by simp only [List.length_append, List.length_cons, List.length_nil]; omega)) ?_
  refine Ev.step (st 6 _ (by omega) (by simp only [List.length_append, List.length_cons, List.length_nil]; omega)) ?_
  refine Ev.step (st 7 _ (by omega) (by simp only [List.length_append, List.length_cons, List.length_nil]; omega)) ?_
  have e : x3 ++ [x0[n] / 2 ^ 0 % 2] ++ [x0[n] / 2 ^ 1 % 2] ++ [x0[n] / 2 ^ 2 % 2] ++ [x0[n] / 2 ^ 3 % 2] ++ [x0[n] / 2 ^ 4 % 2] ++ [x0[n] / 2 ^ 5 % 2] ++ [x0[n] / 2 ^ 6 % 2] ++ [x0[n] / 2 ^ 7 % 2] = x3 ++ bl x0[n] := by
    simp only [List.append_assoc, List.cons_append, List.nil_append]
    rfl
  rw [e]
  refine Ev.step (fun k => ?_) K
  simp only [funicularref01_bits.l1]
  rw [if_neg (by omega), w64n (by omega)]
theorem bits_ev (x0 : List Int) (hb : IsB x0) (hl : x0.length ≤ 1000000000) : Ev (fun k => funicularref01_bits.f k x0) (bitsL x0) := by
  have key : ∀ (d n : Nat), n + d = x0.length → Ev (fun k => funicularref01_bits.l0 k x0 (bitsL (x0.take n)) (n : Int)) (bitsL x0) := by
    intro d
    induction d with
    | zero =>
      intro n hn
      rw [List.take_of_length_le (by omega)]
      refine Ev.step (f := fun _ => some (bitsL x0)) (fun k => ?_) (Ev.now _)
      simp only [funicularref01_bits.l0]
      rw [if_neg (by omega)]
    | succ d ih =>
      intro n hn
      have hlt : n < x0.length := by omega
      have hi := ih (n + 1) (by omega)
      rw [List.take_succ_eq_append_getElem hlt, bitsL_app] at hi
      have h1 := bits_l1 x0 hb hl n hlt (bitsL (x0.take n)) (by rw [bitsL_len, List.length_take]; omega) _ hi
      refine Ev.step (fun k => ?_) h1
      simp only [funicularref01_bits.l0]
      rw [if_pos (by omega)]
  exact key x0.length 0 (Nat.zero_add _)

/-- A bit at a time. -/
def ser1 (s : BitVec 32) (b : Int) : BitVec 32 := rnd (s ^^^ BitVec.ofInt 32 b)
def ser (s : BitVec 32) (l : List Int) : BitVec 32 := l.foldl ser1 s
theorem rnd_half (x : Nat) (h : x < 2147483648) : rnd (BitVec.ofNat 32 (2 * x)) = BitVec.ofNat 32 x := by
  rw [rnd_eq]
  have h0 : (BitVec.ofNat 32 (2 * x)).getLsbD 0 = false := by
    rw [BitVec.getLsbD_ofNat]
    simp
  rw [h0]
  apply BitVec.eq_of_toNat_eq
  rw [if_neg (by decide), BitVec.xor_zero, BitVec.toNat_ushiftRight, BitVec.toNat_ofNat, BitVec.toNat_ofNat, Nat.shiftRight_eq_div_pow]
  omega
theorem ser_step (s : BitVec 32) (m : Nat) (hm : m < 256) : rnd (s ^^^ BitVec.ofNat 32 m) = ser1 s ((m % 2 : Nat) : Int) ^^^ BitVec.ofNat 32 (m / 2) := by
  have e : BitVec.ofNat 32 m = BitVec.ofNat 32 (m % 2) ^^^ BitVec.ofNat 32 (2 * (m / 2)) := by
    rw [bv_xor _ _ (by omega) (by omega), Nat.mul_comm, show m / 2 * 2 = m / 2 * 2 ^ 1 by omega, nat_disj 1 (m % 2) (m / 2) (by omega)]
    congr 1
    omega
  unfold ser1
  rw [e, ← BitVec.xor_assoc, rnd_xor, rnd_half _ (by omega), BitVec.ofInt_natCast]
theorem ser_byte (s : BitVec 32) (c : Int) (h : 0 ≤ c ∧ c < 256) : ser s (bl c) = byte8 s c := by
  obtain ⟨m, rfl⟩ := Int.eq_ofNat_of_zero_le h.1
  have hm : m < 256 := by omega
  have st : ∀ (n : Nat) (s : BitVec 32) (m : Nat), m < 256 → rnds (n + 1) (s ^^^ BitVec.ofNat 32 m) = rnds n (ser1 s ((m % 2 : Nat) : Int) ^^^ BitVec.ofNat 32 (m / 2)) := by
    intro n s m hm
    show rnds n (rnd _) = _
    rw [ser_step s m hm]
  unfold byte8
  rw [BitVec.ofInt_natCast, st 7 _ _ hm, st 6 _ _ (by omega), st 5 _ _ (by omega), st 4 _ _ (by omega), st 3 _ _ (by omega), st 2 _ _ (by omega), st 1 _ _ (by omega), st 0 _ _ (by omega)]
  have z : m / 2 / 2 / 2 / 2 / 2 / 2 / 2 / 2 = 0 := by omega
  rw [z]
  show _ = _ ^^^ 0#32
  rw [BitVec.xor_zero]
  have e : bl (m : Int) = [((m % 2 : Nat) : Int), ((m / 2 % 2 : Nat) : Int), ((m / 2 / 2 % 2 : Nat) : Int), ((m / 2 / 2 / 2 % 2 : Nat) : Int), ((m / 2 / 2 / 2 / 2 % 2 : Nat) : Int), ((m / 2 / 2 / 2 / 2 / 2 % 2 : Nat) : Int), ((m / 2 / 2 / 2 / 2 / 2 / 2 % 2 : Nat) : Int), ((m / 2 / 2 / 2 / 2 / 2 / 2 / 2 % 2 : Nat) : Int)] := by
    simp only [bl, List.cons.injEq]
    refine ⟨by omega, by omega, by omega, by omega, by omega, by omega, by omega, by omega, trivial⟩
  rw [e]
  rfl
theorem ser_bits : ∀ (l : List Int) (s : BitVec 32), IsB l → ser s (bitsL l) = upd s l
  | [], s, _ => rfl
  | c :: l, s, h => by
    have ih := ser_bits l (byte8 s c) fun x hx => h x (List.mem_cons_of_mem _ hx)
    show (bl c ++ bitsL l).foldl ser1 s = upd (byte8 s c) l
    rw [List.foldl_append, ← ih, ← ser_byte s c (h c (List.mem_cons_self ..))]
    rfl
theorem rd_set {L : List Int} {a q : Nat} {v : Int} (ha : a < L.length) : rd (L.set a v) (q : Int) = if q = a then v else rd L (q : Int) := by
  unfold rd
  rw [Int.toNat_natCast, List.getD_eq_getElem?_getD, List.getD_eq_getElem?_getD, List.getElem?_set]
  by_cases h : a = q
  · subst h
    rw [if_pos rfl, if_pos ha, if_pos rfl]
    rfl
  · rw [if_neg h, if_neg (fun c => h c.symm)]
def xb (b : Bool) (x : Int) : Int := if b = true then 1 - x else x
/-- The list at place i, of the bits F, with the word s. -/
def Inv (F L : List Int) (i : Nat) (s : BitVec 32) : Prop := L.length = F.length ∧ ∀ q : Nat, i ≤ q → q < F.length → rd L (q : Int) = xb (s.getLsbD (q - i)) (rd F (q : Int))
def pk (k : Nat) : Int := (Go.bits .and .u64 (shr .u64 4374732215 (wrap64 (32 - (k : Int)))) 1) % 256
theorem pk_eq : ∀ k : Fin 32, pk (k.val + 1) = if (3988292384#32).getLsbD k.val = true then 1 else 0 := by decide +kernel
theorem xor01 (x p : Int) (hx : x = 0 ∨ x = 1) (hp : p = 0 ∨ p = 1) : Go.bits .xor .u8 x p = if p = 1 then 1 - x else x := by
  rcases hx with rfl | rfl <;> rcases hp with rfl | rfl <;> decide +kernel
theorem rd_01 {F : List Int} (h : Is01 F) {q : Nat} (hq : q < F.length) : rd F (q : Int) = 0 ∨ rd F (q : Int) = 1 := by
  rw [rd_get hq]
  exact h _ (List.getElem_mem hq)
theorem xb_01 {b : Bool} {x : Int} (h : x = 0 ∨ x = 1) : xb b x = 0 ∨ xb b x = 1 := by
  unfold xb
  cases b <;> rcases h with rfl | rfl <;> simp
theorem sum_l3 (i : Nat) (N : Nat) (hN : N < 100000000000) (hi : i + 32 < N) (R : Int) : ∀ (d k : Nat), k + d = 33 → ∀ L : List Int, L.length = N →
    ∃ L' : List Int, L'.length = N ∧ (∀ q : Nat, q < N → rd L' (q : Int) = if i + k ≤ q ∧ q ≤ i + 32 then Go.bits .xor .u8 (rd L (q : Int)) (pk (q - i)) else rd L (q : Int)) ∧
      (Ev (fun k => funicularref01_Sum.l2 k L' 4374732215 ((i + 1 : Nat) : Int)) R → Ev (fun f => funicularref01_Sum.l3 f L 4374732215 (i : Int) (k : Int)) R) := by
  intro d
  induction d with
  | zero =>
    intro k hk L hL
    refine ⟨L, hL, fun q hq => by rw [if_neg (by omega)], fun K => Ev.step (fun f => ?_) K⟩
    simp only [funicularref01_Sum.l3]
    rw [if_neg (by omega), w64n (by omega)]
  | succ d ih =>
    intro k hk L hL
    have hw : wrap64 ((i : Int) + (k : Int)) = ((i + k : Nat) : Int) := by
      rw [w64 (by omega) (by omega)]
      omega
    have hp : (Go.bits .and .u64 (shr .u64 4374732215 (wrap64 (32 - (k : Int)))) 1) % 256 = pk k := rfl
    obtain ⟨L', h1, h2, h3⟩ := ih (k + 1) (by omega) (L.set (i + k) (Go.bits .xor .u8 (rd L ((i + k : Nat) : Int)) (pk k))) (by rw [List.length_set]; exact hL)
    refine ⟨L', h1, fun q hq => ?_, fun K => Ev.step (fun f => ?_) (h3 K)⟩
    · rw [h2 q hq, rd_set (by omega)]
      by_cases e : q = i + k
      · subst e
        rw [if_neg (by omega), if_pos rfl, if_pos (by omega), show i + k - i = k by omega]
      · rw [if_neg e]
        by_cases c : i + (k + 1) ≤ q ∧ q ≤ i + 32
        · rw [if_pos c, if_pos (by omega)]
        · rw [if_neg c, if_neg (by omega)]
    · simp only [funicularref01_Sum.l3]
      rw [if_pos (by omega), hw, if_pos (by omega), if_pos (by omega), if_pos (by rw [w64 (by omega) (by omega)]; omega), hp, w64n (by omega), Int.toNat_natCast]
theorem getBit (s : BitVec 32) (b : Int) (hb : b = 0 ∨ b = 1) (j : Nat) : (s ^^^ BitVec.ofInt 32 b).getLsbD j = (s.getLsbD j ^^ (decide (j = 0) && decide (b = 1))) := by
  rcases hb with rfl | rfl
  · rw [show BitVec.ofInt 32 0 = 0#32 from rfl, BitVec.xor_zero]
    simp
  · rw [show BitVec.ofInt 32 1 = 1#32 from rfl, BitVec.getLsbD_xor, BitVec.getLsbD_one]
    simp
theorem inv_step (F L : List Int) (h01 : Is01 F) (i : Nat) (s : BitVec 32) (hI : Inv F L i s) (hi : i + 32 < F.length) (hF : F.length < 100000000000) (R : Int) :
    ∃ L', Inv F L' (i + 1) (ser1 s (rd F (i : Int))) ∧ (Ev (fun k => funicularref01_Sum.l2 k L' 4374732215 ((i + 1 : Nat) : Int)) R → Ev (fun k => funicularref01_Sum.l2 k L 4374732215 (i : Int)) R) := by
  obtain ⟨hl, hq⟩ := hI
  have hF0 := rd_01 h01 (q := i) (by omega)
  have hi0 := hq i (Nat.le_refl _) (by omega)
  rw [Nat.sub_self] at hi0
  have hw : wrap64 ((i : Int) + 32) = ((i + 32 : Nat) : Int) := by
    rw [w64 (by omega) (by omega)]
    omega
  have hs : ∀ j : Nat, (ser1 s (rd F (i : Int))).getLsbD j = (s.getLsbD (j + 1) ^^ ((s.getLsbD 0 ^^ decide (rd F (i : Int) = 1)) && (3988292384#32).getLsbD j)) := by
    intro j
    unfold ser1
    rw [rnd_eq, BitVec.getLsbD_xor, BitVec.getLsbD_ushiftRight, getBit _ _ hF0, getBit _ _ hF0, Nat.add_comm 1 j]
    simp only [Nat.add_eq_zero_iff, Nat.one_ne_zero, and_false, decide_false, Bool.false_and, Bool.xor_false, decide_true, Bool.true_and]
    cases (s.getLsbD 0 ^^ decide (rd F (i : Int) = 1)) <;> simp
  have hc : (rd L (i : Int) = 0) ↔ (s.getLsbD 0 ^^ decide (rd F (i : Int) = 1)) = false := by
    rw [hi0]
    unfold xb
    rcases hF0 with h | h <;> rw [h] <;> cases s.getLsbD 0 <;> simp
  by_cases h0 : rd L (i : Int) = 0
  · refine ⟨L, ⟨hl, fun q h1 h2 => ?_⟩, fun K => Ev.step (fun k => ?_) K⟩
    · rw [hq q (by omega) h2, hs, hc.mp h0, Bool.false_and, Bool.xor_false, show q - (i + 1) + 1 = q - i by omega]
    · simp only [funicularref01_Sum.l2]
      rw [hw, if_pos (by omega), if_pos (by omega), if_pos (by omega), if_pos h0, w64n (by omega)]
  · have hc1 : (s.getLsbD 0 ^^ decide (rd F (i : Int) = 1)) = true := by
      cases h : (s.getLsbD 0 ^^ decide (rd F (i : Int) = 1)) with
      | false => exact absurd (hc.mpr h) h0
      | true => rfl
    obtain ⟨L', h1, h2, h3⟩ := sum_l3 i F.length hF hi R 33 0 rfl L hl
    refine ⟨L', ⟨h1, fun q h4 h5 => ?_⟩, fun K => Ev.step (fun k => ?_) (h3 K)⟩
    · rw [h2 q h5, hs, hc1, Bool.true_and, hq q (by omega) h5, show q - (i + 1) + 1 = q - i by omega]
      have hFq := rd_01 h01 (q := q) h5
      by_cases c : q ≤ i + 32
      · have hp := pk_eq ⟨q - (i + 1), by omega⟩
        dsimp only at hp
        rw [show q - (i + 1) + 1 = q - i by omega] at hp
        rw [if_pos ⟨by omega, c⟩, xor01 _ _ (xb_01 hFq) (by rw [hp]; split <;> simp), hp]
        generalize (3988292384#32).getLsbD (q - (i + 1)) = b
        generalize s.getLsbD (q - i) = b2
        generalize rd F (q : Int) = x
        unfold xb
        cases b <;> cases b2 <;> simp <;> omega
      · rw [if_neg (by omega)]
        have z1 : s.getLsbD (q - i) = false := BitVec.getLsbD_of_ge _ _ (by omega)
        have z2 : (3988292384#32).getLsbD (q - (i + 1)) = false := BitVec.getLsbD_of_ge _ _ (by omega)
        rw [z1, z2]
        rfl
    · simp only [funicularref01_Sum.l2]
      rw [hw, if_pos (by omega), if_pos (by omega), if_pos (by omega), if_neg h0]
      rfl
theorem or32 (a j : Nat) (hj : j < 32) (ha : a < 2 ^ j) : Go.bits .or .u32 (a : Int) (shl .u32 1 (j : Int)) = ((a + 2 ^ j : Nat) : Int) := by
  have hp : 2 ^ j ≤ 2 ^ 31 := Nat.pow_le_pow_right (by decide) (by omega)
  have hs : shl .u32 1 (j : Int) = ((2 ^ j : Nat) : Int) := by
    unfold shl
    rw [Int.toNat_natCast, show min j IntKind.u32.bits = j from Nat.min_eq_left (by show j ≤ 32; omega), IntKind.wrap_u32, Int.one_mul]
    have : (2 : Int) ^ j = ((2 ^ j : Nat) : Int) := by rw [Int.natCast_pow]; rfl
    rw [this]
    omega
  rw [hs]
  have h : a ||| 2 ^ j < 2 ^ 32 := Nat.or_lt_two_pow (by omega) (by omega)
  show IntKind.u32.wrap ((BitVec.ofInt 32 (a : Int) ||| BitVec.ofInt 32 ((2 ^ j : Nat) : Int)).toNat : Int) = _
  rw [BitVec.toNat_or, BitVec.ofInt_natCast, BitVec.ofInt_natCast, BitVec.toNat_ofNat, BitVec.toNat_ofNat, Nat.mod_eq_of_lt (show a < 2 ^ 32 by omega), Nat.mod_eq_of_lt (show 2 ^ j < 2 ^ 32 by omega), IntKind.wrap_u32]
  have e : a ||| 2 ^ j = a + 2 ^ j := by
    have := or_nat a 1 j ha
    rw [Nat.one_mul] at this
    exact this
  rw [e] at h ⊢
  omega
theorem sum_l4 (L : List Int) (n : Nat) (hL : L.length = n + 32) (hn : n < 100000000000) (t : BitVec 32) (hb : ∀ j : Nat, j < 32 → rd L ((n + j : Nat) : Int) = if t.getLsbD j = true then 0 else 1) :
    ∀ (d j : Nat), j + d = 32 → Ev (fun k => funicularref01_Sum.l4 k L ((t.toNat % 2 ^ j : Nat) : Int) (j : Int)) (i32 t) := by
  intro d
  induction d with
  | zero =>
    intro j hj
    have e : j = 32 := by omega
    subst e
    refine Ev.step (f := fun _ => some (i32 t)) (fun k => ?_) (Ev.now _)
    simp only [funicularref01_Sum.l4]
    rw [if_neg (by omega), Nat.mod_eq_of_lt t.isLt]
    rfl
  | succ d ih =>
    intro j hj
    have hi := ih (j + 1) (by omega)
    have hw : wrap64 ((wrap64 ((L.length : Int) - 32)) + (j : Int)) = ((n + j : Nat) : Int) := by
      rw [w64 (x := (L.length : Int) - 32) (by omega) (by omega), w64 (by omega) (by omega)]
      omega
    have hm : t.toNat % 2 ^ (j + 1) = t.toNat % 2 ^ j + 2 ^ j * (t.getLsbD j).toNat := by
      rw [Nat.pow_succ, Nat.mod_mul, ← BitVec.testBit_toNat, Nat.testBit_eq_decide_div_mod_eq]
      congr 2
      have := Nat.mod_two_eq_zero_or_one (t.toNat / 2 ^ j)
      rcases this with h | h <;> rw [h] <;> rfl
    refine Ev.step (fun k => ?_) hi
    simp only [funicularref01_Sum.l4]
    rw [if_pos (by omega), hw, if_pos (by omega), if_pos (by omega), hb j (by omega), w64n (by omega), hm]
    cases t.getLsbD j with
    | true =>
      rw [if_pos rfl, if_pos rfl, if_pos (by omega), or32 _ j (by omega) (Nat.mod_lt _ (Nat.pow_pos (by decide)))]
      simp
    | false =>
      rw [if_neg (by decide)]
      simp
theorem ones (q : Nat) : (~~~ 0#32).getLsbD q = decide (q < 32) := by
  rw [BitVec.getLsbD_not, BitVec.getLsbD_zero]
  simp
theorem sum_l1 (M : List Int) (hM : Is01 M) (hl : 32 ≤ M.length) (hl2 : M.length < 100000000000) (R : Int) : ∀ (d j : Nat), j + d = 32 → ∀ L : List Int, L.length = M.length → (∀ q : Nat, q < M.length → rd L (q : Int) = if q < j then 1 - rd M (q : Int) else rd M (q : Int)) →
    (∀ L' : List Int, Inv M L' 0 (~~~ 0#32) → Ev (fun k => funicularref01_Sum.l2 k L' 4374732215 0) R) → Ev (fun k => funicularref01_Sum.l1 k L (j : Int)) R := by
  intro d
  induction d with
  | zero =>
    intro j hj L hL hq K
    refine Ev.step (fun k => ?_) (K L ⟨hL, fun q _ h => ?_⟩)
    · simp only [funicularref01_Sum.l1]
      rw [if_neg (by omega)]
    · rw [hq q h, Nat.sub_zero]
      unfold xb
      have e : j = 32 := by omega
      subst e
      by_cases c : q < 32
      · rw [if_pos c, if_pos (by rw [ones]; exact decide_eq_true c)]
      · rw [if_neg c, if_neg (by rw [ones, decide_eq_false c]; decide)]
  | succ d ih =>
    intro j hj L hL hq K
    have hr := rd_01 hM (q := j) (by omega)
    have hv : (1 - rd L (j : Int)) % 256 = 1 - rd M (j : Int) := by
      rw [hq j (by omega), if_neg (by omega)]
      rcases hr with h | h <;> rw [h] <;> decide
    refine Ev.step (fun k => ?_) (ih (j + 1) (by omega) (L.set j (1 - rd M (j : Int))) (by rw [List.length_set]; exact hL) (fun q h => ?_) K)
    · simp only [funicularref01_Sum.l1]
      rw [if_pos (by omega), if_pos (by omega), if_pos (by omega), hv, w64n (by omega), Int.toNat_natCast]
    · rw [rd_set (by omega)]
      by_cases e : q = j
      · subst e
        rw [if_pos rfl, if_pos (by omega)]
      · rw [if_neg e, hq q h]
        by_cases c : q < j
        · rw [if_pos c, if_pos (by omega)]
        · rw [if_neg c, if_neg (by omega)]
theorem sum_l0 (R : Int) : ∀ (d j : Nat), j + d = 32 → ∀ L : List Int, L.length + d < 100000000000 → Ev (fun k => funicularref01_Sum.l1 k (L ++ List.replicate d 0) 0) R → Ev (fun k => funicularref01_Sum.l0 k L (j : Int)) R := by
  intro d
  induction d with
  | zero =>
    intro j hj L hl K
    rw [List.replicate_zero, List.append_nil] at K
    refine Ev.step (fun k => ?_) K
    simp only [funicularref01_Sum.l0]
    rw [if_neg (by omega)]
  | succ d ih =>
    intro j hj L hl K
    refine Ev.step (fun k => ?_) (ih (j + 1) (by omega) (L ++ [0]) (by rw [List.length_append]; show L.length + 1 + d < _; omega) ?_)
    · simp only [funicularref01_Sum.l0]
      rw [if_pos (by omega), if_pos (by omega), w64n (by omega)]
    · rw [List.append_assoc]
      exact K
theorem refsum_ev (x0 : List Int) (hb : IsB x0) (hl : x0.length ≤ 1000000000) : Ev (fun k => funicularref01_Sum.f k x0) (i32 (crcU 0#32 x0)) := by
  have hB := bits_ev x0 hb hl
  have hlen := bitsL_len x0
  have h01 := bitsL_01 x0
  generalize hM : bitsL x0 = M at hB hlen h01
  have hF01 : Is01 (M ++ List.replicate 32 0) := fun x hx => (List.mem_append.mp hx).elim (h01 x) fun h => .inl (List.eq_of_mem_replicate h)
  have hFl : (M ++ List.replicate 32 (0 : Int)).length = M.length + 32 := by rw [List.length_append, List.length_replicate]
  have key : ∀ (d i : Nat), i + d = M.length → ∀ L, Inv (M ++ List.replicate 32 0) L i (ser (~~~ 0#32) (M.take i)) → Ev (fun k => funicularref01_Sum.l2 k L 4374732215 (i : Int)) (i32 (crcU 0#32 x0)) := by
    intro d
    induction d with
    | zero =>
      intro i hi L hI
      have e : i = M.length := by omega
      subst e
      rw [List.take_length, ← hM, ser_bits x0 _ hb, hM] at hI
      have h4 := sum_l4 L M.length (by rw [hI.1, hFl]) (by omega) (~~~ upd (~~~ 0#32) x0) (fun j hj => by
        rw [hI.2 (M.length + j) (by omega) (by omega), show M.length + j - M.length = j by omega, rd_get (by omega), List.getElem_append_right (by omega), List.getElem_replicate]
        unfold xb
        rw [BitVec.getLsbD_not, decide_eq_true hj, Bool.true_and]
        cases (upd (~~~ 0#32) x0).getLsbD j <;> rfl) 32 0 rfl
      rw [show (~~~ upd (~~~ 0#32) x0).toNat % 2 ^ 0 = 0 from Nat.mod_one _] at h4
      refine Ev.step (fun k => ?_) h4
      simp only [funicularref01_Sum.l2]
      have hLl : L.length = M.length + 32 := by rw [hI.1, hFl]
      rw [w64 (by omega) (by omega), if_neg (by omega)]
      rfl
    | succ d ih =>
      intro i hi L hI
      have hlt : i < M.length := by omega
      obtain ⟨L', h1, h2⟩ := inv_step _ L hF01 i _ hI (by omega) (by omega) (i32 (crcU 0#32 x0))
      refine h2 (ih (i + 1) (by omega) L' ?_)
      have e : ser (~~~ 0#32) (M.take (i + 1)) = ser1 (ser (~~~ 0#32) (M.take i)) (rd (M ++ List.replicate 32 0) (i : Int)) := by
        rw [rd_get (by omega), List.getElem_append_left hlt, List.take_succ_eq_append_getElem hlt]
        unfold ser
        rw [List.foldl_append]
        rfl
      rw [e]
      exact h1
  have h1 := sum_l1 (M ++ List.replicate 32 0) hF01 (by omega) (by omega) (i32 (crcU 0#32 x0)) 32 0 rfl (M ++ List.replicate 32 0) rfl (fun q _ => by rw [if_neg (by omega)]) (fun L' hI => key M.length 0 (Nat.zero_add _) L' hI)
  have h0 := sum_l0 (i32 (crcU 0#32 x0)) 32 0 rfl M (by omega) h1
  refine Ev.congr (fun k => by unfold funicularref01_Sum.f; rfl) (Ev.bind (f := fun k t211 => funicularref01_Sum.l0 k t211 0) hB h0)
theorem seal_ev (x0 : List Int) (hb : IsB x0) (hl : x0.length ≤ 1000000000) : Ev (fun k => funicularref17_Seal.f k x0) (encT x0) := by
  have hs := refsum_ev x0 hb hl
  have h0 := i32_nonneg (crcU 0#32 x0)
  have h1 := i32_lt (crcU 0#32 x0)
  refine Ev.congr (fun k => by unfold funicularref17_Seal.f; rfl) (Ev.bind (f := fun k t223 => (if ([] : List Int).length + x0.length < 140737488355328 then ((some (([] : List Int) ++ x0 : List Int)).bind fun y224 => ((some (([(Int.tmod t223 256) % 256, ((Int.tdiv t223 256) % 4294967296) % 256, ((Int.tdiv t223 65536) % 4294967296) % 256, ((Int.tdiv t223 16777216) % 4294967296) % 256] : List Int) : List Int)).bind fun y227 => (if y224.length + y227.length < 140737488355328 then (some (y224 ++ y227)) else (none)))) else (none))) hs (Ev.yes (by show 0 + _ < _; omega) ?_))
  unfold encT
  generalize i32 (crcU 0#32 x0) = s at h0 h1 ⊢
  have e : ([(Int.tmod s 256) % 256, ((Int.tdiv s 256) % 4294967296) % 256, ((Int.tdiv s 65536) % 4294967296) % 256, ((Int.tdiv s 16777216) % 4294967296) % 256] : List Int) = sumL s := by
    unfold sumL
    rw [Int.tmod_eq_emod_of_nonneg h0, Int.tdiv_eq_ediv_of_nonneg h0, Int.tdiv_eq_ediv_of_nonneg h0, Int.tdiv_eq_ediv_of_nonneg h0]
    simp only [List.cons.injEq]
    refine ⟨by omega, by omega, by omega, by omega, trivial⟩
  rw [e]
  show Ev (fun _ => if x0.length + 4 < 140737488355328 then some (x0 ++ sumL s) else none) _
  exact Ev.yes (by omega) (Ev.now _)

/-! ### what the chapter says, of the parts of a packet -/
theorem in_eq (a b c : Int) : funicularref17_in.f a b c = some (decide (b ≤ a ∧ a ≤ c)) := by
  unfold funicularref17_in.f
  by_cases h : a ≥ b
  · rw [if_pos h]
    congr 1
    by_cases h7 : a ≤ c
    · rw [decide_eq_true h7, decide_eq_true ⟨h, h7⟩]
    · rw [decide_eq_false h7, decide_eq_false (fun c => h7 c.2)]
  · rw [if_neg h, decide_eq_false (fun c => h c.1)]
theorem rmsg_l0 (m : S51) (hl : m.f9.length < 4611686018427387904) : ∀ (d n : Nat), n + d = m.f9.length → ∀ b : Bool, Ev (fun k => funicularref17_Msg.l0 k b (n : Int) m.f0 m.f1 m.f2 m.f3 m.f4 m.f5 m.f6 m.f7 m.f8 m.f9 m.f10) (b && (m.f9.drop n).all entOk) := by
  intro d
  induction d with
  | zero =>
    intro n hn b
    rw [List.drop_eq_nil_of_le (by omega), List.all_nil, Bool.and_true]
    refine Ev.step (f := fun _ => some b) (fun k => ?_) (Ev.now _)
    simp only [funicularref17_Msg.l0]
    rw [if_neg (by omega)]
  | succ d ih =>
    intro n hn b
    have hlt : n < m.f9.length := by omega
    cases b with
    | false =>
      rw [Bool.false_and]
      refine Ev.step (f := fun _ => some false) (fun k => ?_) (Ev.now _)
      simp only [funicularref17_Msg.l0]
      rw [if_pos (by omega), if_neg (by decide)]
    | true =>
      have hd : m.f9.drop n = m.f9[n] :: m.f9.drop (n + 1) := List.drop_eq_getElem_cons hlt
      rw [Bool.true_and, hd, List.all_cons]
      refine Ev.step (fun k => ?_) (ih (n + 1) (by omega) (entOk m.f9[n]))
      simp only [funicularref17_Msg.l0]
      rw [if_pos (by omega), if_pos trivial, if_pos (by omega), rd48 hlt, in_eq, Option.bind_some, w64n (by omega)]
      by_cases h1 : 1 ≤ m.f9[n].f0 ∧ m.f9[n].f0 ≤ 1099511627776
      · rw [decide_eq_true h1, if_pos rfl]
        congr 1
        unfold entOk
        rw [decide_eq_true h1.1, decide_eq_true h1.2, Bool.true_and, Bool.true_and]
        exact decide_eq_decide.mpr (by omega)
      · rw [decide_eq_false h1, if_neg (by decide)]
        congr 1
        unfold entOk
        by_cases c : 1 ≤ m.f9[n].f0
        · rw [decide_eq_false (fun c2 => h1 ⟨c, c2⟩), Bool.and_false, Bool.false_and]
        · rw [decide_eq_false c, Bool.false_and, Bool.false_and]
theorem rmsg_j0 (m : S51) (hl : m.f9.length < 4611686018427387904) (b : Bool) : Ev (fun k => funicularref17_Msg.j0 k b m.f0 m.f1 m.f2 m.f3 m.f4 m.f5 m.f6 m.f7 m.f8 m.f9 m.f10) (b && (decide (m.f9.length ≤ 8) && (decide (m.f10.length ≤ 65536) && m.f9.all entOk))) := by
  have j1 : ∀ b : Bool, Ev (fun k => funicularref17_Msg.j1 k b m.f0 m.f1 m.f2 m.f3 m.f4 m.f5 m.f6 m.f7 m.f8 m.f9 m.f10) (b && m.f9.all entOk) := fun b => by
    have := rmsg_l0 m hl m.f9.length 0 (Nat.zero_add _) b
    rw [List.drop_zero] at this
    exact Ev.step (fun k => by simp only [funicularref17_Msg.j1]; rfl) this
  cases b with
  | false => exact Ev.step (fun k => by simp only [funicularref17_Msg.j0]; rw [if_neg (by decide)]) (j1 false)
  | true =>
    by_cases h : m.f9.length ≤ 8
    · have := j1 (decide (m.f10.length ≤ 65536))
      rw [Bool.true_and, decide_eq_true h, Bool.true_and]
      refine Ev.step (fun k => ?_) this
      simp only [funicularref17_Msg.j0]
      rw [if_pos trivial, if_pos (by omega), show decide ((m.f10.length : Int) ≤ 65536) = decide (m.f10.length ≤ 65536) from decide_eq_decide.mpr (by omega)]
    · rw [Bool.true_and, decide_eq_false h, Bool.false_and]
      refine Ev.step (fun k => ?_) (j1 false)
      simp only [funicularref17_Msg.j0]
      rw [if_pos trivial, if_neg (by omega)]
theorem rmsg_ev (m : S51) (hl : m.f9.length < 4611686018427387904) : Ev (fun k => funicularref17_Msg.f k m.f0 m.f1 m.f2 m.f3 m.f4 m.f5 m.f6 m.f7 m.f8 m.f9 m.f10) (msgOk m) := by
  have h : ∀ (a b c d e f : Bool) (g : Bool → Option Bool), ((some a).bind fun t191 => if t191 = true then (some b).bind fun t192 => if t192 = true then (some c).bind fun t193 => if t193 = true then (some d).bind fun t194 => if t194 = true then (some e).bind fun t195 => if t195 = true then (some f).bind fun t196 => g t196 else g false else g false else g false else g false else g false) = g (a && (b && (c && (d && (e && f))))) := by
    intro a b c d e f g
    cases a <;> cases b <;> cases c <;> cases d <;> cases e <;> rfl
  have hv : msgOk m = ((decide (1 ≤ m.f0 ∧ m.f0 ≤ 7) && (decide (0 ≤ m.f1 ∧ m.f1 ≤ 63) && (decide (0 ≤ m.f4 ∧ m.f4 ≤ 1099511627776) && (decide (0 ≤ m.f5 ∧ m.f5 ≤ 1099511627776) && (decide (0 ≤ m.f6 ∧ m.f6 ≤ 1099511627776) && decide (0 ≤ m.f7 ∧ m.f7 ≤ 1099511627776)))))) && (decide (m.f9.length ≤ 8) && (decide (m.f10.length ≤ 65536) && m.f9.all entOk))) := by
    rw [Bool.eq_iff_iff]
    unfold msgOk inI
    simp only [Bool.and_eq_true, decide_eq_true_eq]
    constructor
    · rintro ⟨⟨⟨⟨⟨⟨⟨⟨h4, h5⟩, h6⟩, h7⟩, h0⟩, h1⟩, h9⟩, h10⟩, he⟩
      exact ⟨⟨h0, ⟨h1.1, by omega⟩, h4, h5, h6, h7⟩, h9, h10, he⟩
    · rintro ⟨⟨h0, h1, h4, h5, h6, h7⟩, h9, h10, he⟩
      exact ⟨⟨⟨⟨⟨⟨⟨⟨h4, h5⟩, h6⟩, h7⟩, h0⟩, ⟨h1.1, by omega⟩⟩, h9⟩, h10⟩, he⟩
  rw [hv]
  refine Ev.congr (fun k => ?_) (rmsg_j0 m hl _)
  unfold funicularref17_Msg.f
  simp only [in_eq]
  exact h _ _ _ _ _ _ (fun b => funicularref17_Msg.j0 k b m.f0 m.f1 m.f2 m.f3 m.f4 m.f5 m.f6 m.f7 m.f8 m.f9 m.f10)

/-! ### Check, of both, is one number -/
def okb (fr tt : Int) (m : S51) : Bool := decide (m.f2 = fr) && (decide (m.f3 = tt) && msgOk m)
def chk (fr tt : Int) (ms : List S51) : Int := if (1 ≤ fr ∧ fr ≤ 7) ∧ (1 ≤ tt ∧ tt ≤ 7) ∧ fr ≠ tt then (if ms.length ≤ 256 then (if ms.all (okb fr tt) = true then 0 else 1) else 6) else 1
theorem gcheck_l0 (fr tt : Int) (ms : List S51) (hl : ms.length ≤ 256) : ∀ (d n : Nat), n + d = ms.length → Ev (fun k => packet_Check.l0 k ms (ms.length : Int) (n : Int) fr tt ms) (if (ms.drop n).all (okb fr tt) = true then 0 else 1) := by
  intro d
  induction d with
  | zero =>
    intro n hn
    rw [List.drop_eq_nil_of_le (by omega), List.all_nil, if_pos rfl]
    refine Ev.step (f := fun _ => some 0) (fun k => ?_) (Ev.now _)
    simp only [packet_Check.l0]
    rw [if_neg (by omega)]
  | succ d ih =>
    intro n hn
    have hlt : n < ms.length := by omega
    have hi := ih (n + 1) (by omega)
    have hd : ms.drop n = ms[n] :: ms.drop (n + 1) := List.drop_eq_getElem_cons hlt
    rw [hd, List.all_cons]
    have bad : okb fr tt ms[n] = false → Ev (fun _ : Nat => some (1 : Int)) (if (okb fr tt ms[n] && (ms.drop (n + 1)).all (okb fr tt)) = true then 0 else 1) := fun h => by
      rw [h, Bool.false_and, if_neg (by decide)]
      exact Ev.now _
    by_cases h2 : ms[n].f2 = fr
    · by_cases h3 : ms[n].f3 = tt
      · by_cases hk : msgOk ms[n] = true
        · have ho : okb fr tt ms[n] = true := by unfold okb; rw [decide_eq_true h2, decide_eq_true h3, hk]; rfl
          rw [ho, Bool.true_and]
          refine Ev.step (fun k => ?_) hi
          simp only [packet_Check.l0]
          rw [if_pos (by omega), if_pos (by omega), if_pos (by omega), rd51 hlt, if_pos h2, if_pos h3]
          simp only [packet_msg.f, Option.bind_some, eta51]
          rw [if_pos hk, w64n (by omega)]
        · refine Ev.step (fun k => ?_) (bad (by unfold okb; rw [Bool.eq_false_iff.mpr hk, Bool.and_false, Bool.and_false]))
          simp only [packet_Check.l0]
          rw [if_pos (by omega), if_pos (by omega), if_pos (by omega), rd51 hlt, if_pos h2, if_pos h3]
          simp only [packet_msg.f, Option.bind_some, eta51]
          rw [if_neg hk]
      · refine Ev.step (fun k => ?_) (bad (by unfold okb; rw [decide_eq_false h3, Bool.false_and, Bool.and_false]))
        simp only [packet_Check.l0]
        rw [if_pos (by omega), if_pos (by omega), if_pos (by omega), rd51 hlt, if_pos h2, if_neg h3]
    · refine Ev.step (fun k => ?_) (bad (by unfold okb; rw [decide_eq_false h2, Bool.false_and]))
      simp only [packet_Check.l0]
      rw [if_pos (by omega), if_pos (by omega), if_pos (by omega), rd51 hlt, if_neg h2]
theorem rcheck_l0 (fr tt : Int) (ms : List S51) (hl : ms.length ≤ 256) (hw : weighL ms) : ∀ (d n : Nat), n + d = ms.length → Ev (fun k => funicularref17_Check.l0 k (n : Int) fr tt ms) (if (ms.drop n).all (okb fr tt) = true then 0 else 1) := by
  intro d
  induction d with
  | zero =>
    intro n hn
    rw [List.drop_eq_nil_of_le (by omega), List.all_nil, if_pos rfl]
    refine Ev.step (f := fun _ => some 0) (fun k => ?_) (Ev.now _)
    simp only [funicularref17_Check.l0]
    rw [if_neg (by omega)]
  | succ d ih =>
    intro n hn
    have hlt : n < ms.length := by omega
    have hi := ih (n + 1) (by omega)
    have hm := rmsg_ev ms[n] (hw.2 _ (List.getElem_mem hlt))
    have hd : ms.drop n = ms[n] :: ms.drop (n + 1) := List.drop_eq_getElem_cons hlt
    rw [hd, List.all_cons]
    have bad : okb fr tt ms[n] = false → Ev (fun _ : Nat => some (1 : Int)) (if (okb fr tt ms[n] && (ms.drop (n + 1)).all (okb fr tt)) = true then 0 else 1) := fun h => by
      rw [h, Bool.false_and, if_neg (by decide)]
      exact Ev.now _
    by_cases h2 : ms[n].f2 = fr
    · by_cases h3 : ms[n].f3 = tt
      · have go : Ev (fun k => if msgOk ms[n] = true then funicularref17_Check.l0 k ((n + 1 : Nat) : Int) fr tt ms else some 1) (if (okb fr tt ms[n] && (ms.drop (n + 1)).all (okb fr tt)) = true then 0 else 1) := by
          by_cases hk : msgOk ms[n] = true
          · have ho : okb fr tt ms[n] = true := by unfold okb; rw [decide_eq_true h2, decide_eq_true h3, hk]; rfl
            rw [ho, Bool.true_and]
            exact Ev.yes hk hi
          · exact Ev.no hk (bad (by unfold okb; rw [Bool.eq_false_iff.mpr hk, Bool.and_false, Bool.and_false]))
        refine Ev.step (fun k => ?_) (Ev.bind (f := fun k t206 => if t206 = true then funicularref17_Check.l0 k ((n + 1 : Nat) : Int) fr tt ms else some 1) hm go)
        simp only [funicularref17_Check.l0]
        rw [if_pos (by omega), if_pos (by omega), rd51 hlt, if_pos h2, if_pos h3, w64n (by omega)]
      · refine Ev.step (fun k => ?_) (bad (by unfold okb; rw [decide_eq_false h3, Bool.false_and, Bool.and_false]))
        simp only [funicularref17_Check.l0]
        rw [if_pos (by omega), if_pos (by omega), rd51 hlt, if_pos h2, if_neg h3]
    · refine Ev.step (fun k => ?_) (bad (by unfold okb; rw [decide_eq_false h2, Bool.false_and]))
      simp only [funicularref17_Check.l0]
      rw [if_pos (by omega), if_pos (by omega), rd51 hlt, if_neg h2]
theorem gcheck_ev (fr tt : Int) (ms : List S51) : Ev (fun k => packet_Check.f k fr tt ms) (chk fr tt ms) := by
  have bad : Ev (fun k => packet_Check.j0 k true fr tt ms) 1 := Ev.step (f := fun _ => some 1) (fun k => by simp only [packet_Check.j0]; rw [if_pos trivial]) (Ev.now _)
  unfold chk
  by_cases hf : 1 ≤ fr ∧ fr ≤ 7
  · by_cases ht : 1 ≤ tt ∧ tt ≤ 7
    · by_cases he : fr = tt
      · rw [if_neg (fun c => c.2.2 he)]
        refine Ev.congr (fun k => ?_) bad
        unfold packet_Check.f
        rw [node_eq, node_eq, decide_eq_true hf, decide_eq_true ht, he]
        show packet_Check.j0 k (tt == tt) tt tt ms = packet_Check.j0 k true tt tt ms
        rw [beq_self_eq_true]
      · have hne : (fr == tt) = false := beq_eq_false_iff_ne.mpr he
        rw [if_pos ⟨hf, ht, he⟩]
        by_cases hl : ms.length ≤ 256
        · rw [if_pos hl]
          have hc := gcheck_l0 fr tt ms hl ms.length 0 (Nat.zero_add _)
          rw [List.drop_zero] at hc
          refine Ev.congr (fun k => ?_) (Ev.step (g := fun k => packet_Check.j0 k false fr tt ms) (fun k => ?_) hc)
          · unfold packet_Check.f
            rw [node_eq, node_eq, decide_eq_true hf, decide_eq_true ht, hne]
            rfl
          · simp only [packet_Check.j0]
            rw [if_neg (by decide), if_neg (by omega)]
            rfl
        · rw [if_neg hl]
          refine Ev.congr (fun k => ?_) (Ev.step (g := fun k => packet_Check.j0 k false fr tt ms) (f := fun _ => some 6) (fun k => ?_) (Ev.now _))
          · unfold packet_Check.f
            rw [node_eq, node_eq, decide_eq_true hf, decide_eq_true ht, hne]
            rfl
          · simp only [packet_Check.j0]
            rw [if_neg (by decide), if_pos (by omega)]
    · rw [if_neg (fun c => ht c.2.1)]
      refine Ev.congr (fun k => ?_) bad
      unfold packet_Check.f
      rw [node_eq, node_eq, decide_eq_true hf, decide_eq_false ht]
      rfl
  · rw [if_neg (fun c => hf c.1)]
    refine Ev.congr (fun k => ?_) bad
    unfold packet_Check.f
    rw [node_eq, decide_eq_false hf]
    rfl
theorem rcheck_ev (fr tt : Int) (ms : List S51) (hw : weighL ms) : Ev (fun k => funicularref17_Check.f k fr tt ms) (chk fr tt ms) := by
  have bad : Ev (fun k => funicularref17_Check.j0 k true fr tt ms) 1 := Ev.step (f := fun _ => some 1) (fun k => by simp only [funicularref17_Check.j0]; rw [if_pos trivial]) (Ev.now _)
  unfold chk
  by_cases hf : 1 ≤ fr ∧ fr ≤ 7
  · by_cases ht : 1 ≤ tt ∧ tt ≤ 7
    · by_cases he : fr = tt
      · rw [if_neg (fun c => c.2.2 he)]
        refine Ev.congr (fun k => ?_) bad
        unfold funicularref17_Check.f
        rw [in_eq, in_eq, decide_eq_true hf, decide_eq_true ht, he]
        show funicularref17_Check.j0 k (tt == tt) tt tt ms = funicularref17_Check.j0 k true tt tt ms
        rw [beq_self_eq_true]
      · have hne : (fr == tt) = false := beq_eq_false_iff_ne.mpr he
        rw [if_pos ⟨hf, ht, he⟩]
        by_cases hl : ms.length ≤ 256
        · rw [if_pos hl]
          have hc := rcheck_l0 fr tt ms hl hw ms.length 0 (Nat.zero_add _)
          rw [List.drop_zero] at hc
          refine Ev.congr (fun k => ?_) (Ev.step (g := fun k => funicularref17_Check.j0 k false fr tt ms) (fun k => ?_) hc)
          · unfold funicularref17_Check.f
            rw [in_eq, in_eq, decide_eq_true hf, decide_eq_true ht, hne]
            rfl
          · simp only [funicularref17_Check.j0]
            rw [if_neg (by decide), if_neg (by omega)]
            rfl
        · rw [if_neg hl]
          refine Ev.congr (fun k => ?_) (Ev.step (g := fun k => funicularref17_Check.j0 k false fr tt ms) (f := fun _ => some 6) (fun k => ?_) (Ev.now _))
          · unfold funicularref17_Check.f
            rw [in_eq, in_eq, decide_eq_true hf, decide_eq_true ht, hne]
            rfl
          · simp only [funicularref17_Check.j0]
            rw [if_neg (by decide), if_pos (by omega)]
    · rw [if_neg (fun c => ht c.2.1)]
      refine Ev.congr (fun k => ?_) bad
      unfold funicularref17_Check.f
      rw [in_eq, in_eq, decide_eq_true hf, decide_eq_false ht]
      rfl
  · rw [if_neg (fun c => hf c.1)]
    refine Ev.congr (fun k => ?_) bad
    unfold funicularref17_Check.f
    rw [in_eq, decide_eq_false hf]
    rfl
theorem Ev.same {α : Type} {g : Nat → Option α} {a b : α} (h : Ev g a) (k : Ev g b) : a = b := by
  obtain ⟨m, hm⟩ := h
  obtain ⟨n, hn⟩ := k
  have h1 := hm (max m n) (Nat.le_max_left ..)
  have h2 := hn (max m n) (Nat.le_max_right ..)
  rw [h1] at h2
  exact Option.some.inj h2
theorem chk_ok {fr tt : Int} {ms : List S51} (h : chk fr tt ms = 0) : okP fr tt ms := by
  unfold chk at h
  split at h
  · rename_i hc
    split at h
    · rename_i hl
      split at h
      · rename_i ha
        refine ⟨hc.1, hc.2.1, hl, fun m hm => ?_⟩
        have := List.all_eq_true.mp ha m hm
        unfold okb at this
        rw [Bool.and_eq_true, Bool.and_eq_true] at this
        exact ⟨this.2.2, of_decide_eq_true this.1, of_decide_eq_true this.2.1⟩
      · exact absurd h (by decide)
    · exact absurd h (by decide)
  · exact absurd h (by decide)

/-! ### the chapter's bytes of a packet -/
theorem ruint_ev : ∀ (f : Nat) (n : Int) (x0 : List Int), 0 ≤ n → n ≤ 1099511627776 → n < 128 ^ (f + 1) → x0.length + (f + 1) < 140737488355328 → Ev (fun k => funicularref02_Uint.l0 k x0 n) (x0 ++ leb (f + 1) n)
  | 0, n, x0, h0, hS, h1, hl => by
    refine Ev.step (f := fun _ => some (x0 ++ leb 1 n)) (fun k => ?_) (Ev.now _)
    have h2 : n < 128 := by simpa using h1
    simp only [funicularref02_Uint.l0, leb]
    rw [if_neg (by omega), if_pos (by omega), if_pos h2]
    congr 3
    omega
  | f + 1, n, x0, h0, hS, h1, hl => by
    by_cases hc : n < 128
    · refine Ev.step (f := fun _ => some (x0 ++ leb (f + 1 + 1) n)) (fun k => ?_) (Ev.now _)
      rw [leb]
      simp only [funicularref02_Uint.l0]
      rw [if_neg (by omega), if_pos (by omega), if_pos hc]
      congr 3
      omega
    · have hp : n / 128 < 128 ^ (f + 1) := by
        rw [Int.pow_succ] at h1
        generalize (128 : Int) ^ (f + 1) = p at h1 ⊢
        omega
      have ih := ruint_ev f (n / 128) (x0 ++ [n % 128 + 128]) (by omega) (by omega) hp (by rw [List.length_append]; show x0.length + 1 + (f + 1) < _; omega)
      rw [List.append_assoc] at ih
      have e : leb (f + 1 + 1) n = (n % 128 + 128) :: leb (f + 1) (n / 128) := by rw [leb, if_neg hc]
      rw [e]
      refine Ev.step (fun k => ?_) ih
      simp only [funicularref02_Uint.l0]
      have e1 : (IntKind.u64.wrap (128 + (Int.tmod n 128))) % 256 = n % 128 + 128 := by
        rw [IntKind.wrap_u64, Int.tmod_eq_emod_of_nonneg h0]
        omega
      have e2 : IntKind.u64.wrap (Int.tdiv n 128) = n / 128 := by
        rw [IntKind.wrap_u64, Int.tdiv_eq_ediv_of_nonneg h0]
        omega
      rw [if_pos (by omega), if_pos (by omega), e1, e2]
theorem rone_ev {n : Int} (h : Sm n) : Ev (fun k => funicularref02_Uint.f k (IntKind.u64.wrap n)) (enc1 n) := by
  rw [uwrap h]
  have := ruint_ev 9 n [] h.1 h.2 (Int.lt_of_le_of_lt h.2 p10) (by simp)
  exact this
theorem rnums_ev (xs : List Int) (hx : ∀ x ∈ xs, Sm x) (hn : xs.length ≤ 100) : Ev (fun k => funicularref17_nums.f k xs) (encN xs) := by
  have key : ∀ (d n : Nat), n + d = xs.length → ∀ x0 : List Int, x0.length + 10 * d < 140737488355328 → Ev (fun k => funicularref17_nums.l0 k xs x0 (n : Int)) (x0 ++ encN (xs.drop n)) := by
    intro d
    induction d with
    | zero =>
      intro n hn x0 hl
      refine Ev.step (f := fun _ => some (x0 ++ encN (xs.drop n))) (fun k => ?_) (Ev.now _)
      simp only [funicularref17_nums.l0]
      rw [if_neg (by omega), List.drop_eq_nil_of_le (by omega)]
      show _ = some (x0 ++ [])
      rw [List.append_nil]
    | succ d ih =>
      intro n hn x0 hl
      have hlt : n < xs.length := by omega
      have h1 := enc1_len xs[n]
      have hi := ih (n + 1) (by omega) (x0 ++ enc1 xs[n]) (by rw [List.length_append]; omega)
      have ho := rone_ev (hx _ (List.getElem_mem hlt))
      have hd : xs.drop n = xs[n] :: xs.drop (n + 1) := List.drop_eq_getElem_cons hlt
      rw [hd]
      show Ev _ (x0 ++ (enc1 xs[n] ++ encN (xs.drop (n + 1))))
      rw [← List.append_assoc]
      refine Ev.step (fun k => ?_) (Ev.bind (f := fun k t240 => (if x0.length + t240.length < 140737488355328 then funicularref17_nums.l0 k xs (x0 ++ t240) (((n + 1 : Nat)) : Int) else none)) ho (Ev.yes (by omega) hi))
      simp only [funicularref17_nums.l0]
      rw [if_pos (by omega), if_pos (by omega), rd_get hlt, w64n (by omega)]
  have := key xs.length 0 (Nat.zero_add _) [] (by show 0 + _ < _; omega)
  exact this
theorem rbytes_ev {b : List Int} (hb : b.length ≤ 65536) : Ev (fun k => funicularref02_Bytes.f k b) (enc1 b.length ++ b) := by
  have h := rone_ev (n := (b.length : Int)) ⟨by omega, by omega⟩
  have h1 := enc1_len (b.length : Int)
  exact Ev.congr (fun k => by unfold funicularref02_Bytes.f; rfl) (Ev.bind (f := fun k t122 => if t122.length + b.length < 140737488355328 then (some (t122 ++ b)) else none) h (Ev.yes (by omega) (Ev.now _)))
theorem rone_l0 (m : S51) (ha : msgOk m = true) : ∀ (d n : Nat), n + d = m.f9.length → ∀ x5 : List Int, x5.length + 65556 * d + 200000 < 140737488355328 →
      Ev (fun k => funicularref17_one.l0 k x5 (n : Int) m.f0 m.f1 m.f2 m.f3 m.f4 m.f5 m.f6 m.f7 m.f8 m.f9 m.f10) (x5 ++ (encEs (m.f9.drop n) ++ (enc1 m.f10.length ++ m.f10))) := by
  obtain ⟨h4, h5, h6, h7, h0, h1, h9, h10, he⟩ := msgOk_all ha
  intro d
  induction d with
  | zero =>
    intro n hn x5 hl
    have e0 : ∀ l : List Int, encEs [] ++ l = l := fun _ => rfl
    have hb := rbytes_ev h10
    have h1l := enc1_len (m.f10.length : Int)
    rw [List.drop_eq_nil_of_le (by omega), e0]
    refine Ev.step (fun k => ?_) (Ev.bind (f := fun k t276 => (if x5.length + t276.length < 140737488355328 then (some (x5 ++ t276)) else none)) hb (Ev.yes (by rw [List.length_append]; omega) (Ev.now _)))
    simp only [funicularref17_one.l0]
    rw [if_neg (by omega)]
  | succ d ih =>
    intro n hn x5 hl
    have hlt : n < m.f9.length := by omega
    have hok := he _ (List.getElem_mem hlt)
    have hsm := okE_sm hok
    have hel := encE_len hok
    have hd : m.f9.drop n = m.f9[n] :: m.f9.drop (n + 1) := List.drop_eq_getElem_cons hlt
    have hr : rd_T48 m.f9 (n : Int) = m.f9[n] := rd48 hlt
    generalize m.f9[n] = e at hok hsm hel hd hr
    rw [hd]
    have e1 : x5 ++ (encEs (e :: m.f9.drop (n + 1)) ++ (enc1 m.f10.length ++ m.f10)) = (x5 ++ enc1 e.f0 ++ (enc1 e.f1.length ++ e.f1)) ++ (encEs (m.f9.drop (n + 1)) ++ (enc1 m.f10.length ++ m.f10)) := by
      simp only [encEs, encE, List.append_assoc]
    rw [e1]
    have h1l := enc1_len e.f0
    have h2l := enc1_len (e.f1.length : Int)
    have hi := ih (n + 1) (by omega) (x5 ++ enc1 e.f0 ++ (enc1 e.f1.length ++ e.f1)) (by simp only [List.length_append]; omega)
    have hn1 := rnums_ev [e.f0] (fun x hx => by rw [List.mem_singleton] at hx; exact hx ▸ hsm.1) (by simp)
    have e2 : encN [e.f0] = enc1 e.f0 := by show _ ++ [] = _; rw [List.append_nil]
    rw [e2] at hn1
    have hb1 := rbytes_ev hsm.2
    refine Ev.step (fun k => ?_) (Ev.bind (f := fun k t263 => (if x5.length + t263.length < 140737488355328 then ((some (x5 ++ t263 : List Int)).bind fun y266 => ((funicularref02_Bytes.f k e.f1).bind fun t270 => (if y266.length + t270.length < 140737488355328 then (funicularref17_one.l0 k (y266 ++ t270) ((n + 1 : Nat) : Int) m.f0 m.f1 m.f2 m.f3 m.f4 m.f5 m.f6 m.f7 m.f8 m.f9 m.f10) else none))) else none)) hn1 (Ev.yes (by omega) (Ev.some_bind (f := fun k y266 => ((funicularref02_Bytes.f k e.f1).bind fun t270 => (if y266.length + t270.length < 140737488355328 then (funicularref17_one.l0 k (y266 ++ t270) ((n + 1 : Nat) : Int) m.f0 m.f1 m.f2 m.f3 m.f4 m.f5 m.f6 m.f7 m.f8 m.f9 m.f10) else none))) (Ev.bind (f := fun k t270 => (if (x5 ++ enc1 e.f0).length + t270.length < 140737488355328 then (funicularref17_one.l0 k (x5 ++ enc1 e.f0 ++ t270) ((n + 1 : Nat) : Int) m.f0 m.f1 m.f2 m.f3 m.f4 m.f5 m.f6 m.f7 m.f8 m.f9 m.f10) else none)) hb1 (Ev.yes (by simp only [List.length_append]; omega) hi)))))
    simp only [funicularref17_one.l0]
    rw [if_pos (by omega), if_pos (by omega), hr, w64n (by omega)]
theorem rmone_ev (m : S51) (ha : msgOk m = true) : Ev (fun k => funicularref17_one.f k m.f0 m.f1 m.f2 m.f3 m.f4 m.f5 m.f6 m.f7 m.f8 m.f9 m.f10) (encM m) := by
  have h9 := (msgOk_all ha).2.2.2.2.2.2.1
  have hnl := encN_len [m.f0, m.f1, m.f4, m.f5, m.f6, m.f7, yesI m.f8, (m.f9.length : Int)]
  simp only [List.length_cons, List.length_nil] at hnl
  have hn := rnums_ev [m.f0, m.f1, m.f4, m.f5, m.f6, m.f7, yesI m.f8, (m.f9.length : Int)] (nums_sm ha) (by simp)
  have hl := rone_l0 m ha m.f9.length 0 (Nat.zero_add _) (encN [m.f0, m.f1, m.f4, m.f5, m.f6, m.f7, yesI m.f8, (m.f9.length : Int)]) (by omega)
  rw [List.drop_zero] at hl
  have hj : Ev (fun k => funicularref17_one.j0 k (yesI m.f8) m.f0 m.f1 m.f2 m.f3 m.f4 m.f5 m.f6 m.f7 m.f8 m.f9 m.f10) (encM m) := by
    refine Ev.step (fun k => ?_) (Ev.bind (f := fun k t256 => funicularref17_one.l0 k t256 0 m.f0 m.f1 m.f2 m.f3 m.f4 m.f5 m.f6 m.f7 m.f8 m.f9 m.f10) hn hl)
    simp only [funicularref17_one.j0]
  refine Ev.congr (fun k => ?_) hj
  unfold funicularref17_one.f yesI
  cases m.f8 <;> rfl
theorem rput_l0 (fr tt : Int) (ms : List S51) (hm : ms.length ≤ 256) (hok : ∀ m ∈ ms, okM fr tt m) : ∀ (d n : Nat), n + d = ms.length → ∀ x5 : List Int, IsB x5 → x5.length + 600000 * d + 200000 < 1000000000 →
    Ev (fun k => funicularref17_Put.l0 k x5 (n : Int) fr tt ms) (encT (x5 ++ encMs (ms.drop n)), 0) := by
  intro d
  induction d with
  | zero =>
    intro n hn x5 hb hl
    rw [List.drop_eq_nil_of_le (by omega)]
    have hs := seal_ev x5 hb (by omega)
    have e : x5 ++ encMs [] = x5 := List.append_nil _
    rw [e]
    refine Ev.step (fun k => ?_) (Ev.bind (f := fun k t297 => some (t297, (0 : Int))) hs (Ev.now _))
    simp only [funicularref17_Put.l0]
    rw [if_neg (by omega)]
  | succ d ih =>
    intro n hn x5 hb hl
    have hlt : n < ms.length := by omega
    have ho := hok _ (List.getElem_mem hlt)
    have hml := encM_len ho.1
    have hmb := encM_B ho
    have hi := ih (n + 1) (by omega) (x5 ++ encM ms[n]) (isB_append hb hmb) (by rw [List.length_append]; omega)
    have hd : ms.drop n = ms[n] :: ms.drop (n + 1) := List.drop_eq_getElem_cons hlt
    rw [hd]
    have e1 : x5 ++ encMs (ms[n] :: ms.drop (n + 1)) = x5 ++ encM ms[n] ++ encMs (ms.drop (n + 1)) := by
      rw [encMs, List.append_assoc]
    rw [e1]
    have hon := rmone_ev ms[n] ho.1
    refine Ev.step (fun k => ?_) (Ev.bind (f := fun k t291 => (if x5.length + t291.length < 140737488355328 then (funicularref17_Put.l0 k (x5 ++ t291) ((n + 1 : Nat) : Int) fr tt ms) else (none))) hon (Ev.yes (by omega) hi))
    simp only [funicularref17_Put.l0]
    rw [if_pos (by omega), if_pos (by omega), rd51 hlt, w64n (by omega)]
theorem rput_ev (fr tt : Int) (ms : List S51) (hb : fineB ms) (hw : weighL ms) : Ev (fun k => funicularref17_Put.f k fr tt ms) (if chk fr tt ms = 0 then (encT (encB fr tt ms), 0) else ([], chk fr tt ms)) := by
  have hc := rcheck_ev fr tt ms hw
  refine Ev.congr (fun k => by unfold funicularref17_Put.f; rfl) (Ev.bind (f := fun k t283 => (if t283 = 0 then ((funicularref17_nums.f k (([fr, tt, (ms.length : Int)] : List Int))).bind fun t287 => (funicularref17_Put.l0 k t287 0 fr tt ms)) else (some (([] : List Int), t283)))) hc ?_)
  by_cases h0 : chk fr tt ms = 0
  · rw [if_pos h0]
    have ok := chk_ok h0
    have hl := ok.2.2.1
    refine Ev.yes h0 ?_
    have hn := rnums_ev [fr, tt, (ms.length : Int)] (three_sm ok) (by simp)
    have h2 := encN_len [fr, tt, (ms.length : Int)]
    simp only [List.length_cons, List.length_nil] at h2
    have hp := rput_l0 fr tt ms hl (okP_okM ok hb) ms.length 0 (Nat.zero_add _) (encN [fr, tt, (ms.length : Int)]) (encN_B _ (three_sm ok)) (by omega)
    rw [List.drop_zero] at hp
    exact Ev.bind (f := fun k t287 => funicularref17_Put.l0 k t287 0 fr tt ms) hn hp
  · rw [if_neg h0]
    exact Ev.no h0 (Ev.now _)
theorem PacketPuts : funicularlaw17_PacketPuts.Pure := by
  intro x0 ⟨_, _, hl, hf⟩
  have hx := fine_w hl hf
  have hb := fine_B hf
  refine Ev.rounds (g := fun k => funicularlaw17_PacketPuts.f k x0.f0 x0.f1 x0.f2) ?_
  obtain ⟨b, hlt⟩ := light_tot x0.f2 hx
  refine Ev.congr (fun k => by unfold funicularlaw17_PacketPuts.f; rfl) (Ev.bind (f := fun k t301 => (if t301 = true then ((packet_Put.f k x0.f0 x0.f1 x0.f2).bind fun bt303 => ((funicularref17_Put.f k x0.f0 x0.f1 x0.f2).bind fun bt307 => (if bt303.2 = bt307.2 then ((funicularref02_Same.f bt303.1 bt307.1).bind fun t311 => (if t311 = true then ((packet_Check.f k x0.f0 x0.f1 x0.f2).bind fun t312 => ((funicularref17_Check.f k x0.f0 x0.f1 x0.f2).bind fun t313 => (if t312 = t313 then ((funicularlaw17_works.f).bind fun t314 => (some t314)) else (some false)))) else (some false))) else (some false)))) else ((funicularlaw17_works.f).bind fun t302 => (some t302)))) hlt ?_)
  cases b with
  | false => exact Ev.no (by decide) (Ev.now true)
  | true =>
    refine Ev.yes rfl ?_
    have g1 := gcheck_ev x0.f0 x0.f1 x0.f2
    have g2 := rcheck_ev x0.f0 x0.f1 x0.f2 hx
    have g3 := rput_ev x0.f0 x0.f1 x0.f2 hb hx
    have g4 : Ev (fun k => packet_Put.f k x0.f0 x0.f1 x0.f2) (if chk x0.f0 x0.f1 x0.f2 = 0 then (encT (encB x0.f0 x0.f1 x0.f2), 0) else ([], chk x0.f0 x0.f1 x0.f2)) := by
      obtain ⟨c, hc, hp⟩ := put_ev x0.f0 x0.f1 x0.f2 hb
      have e := Ev.same hc g1
      rcases hp with ⟨h0, _, hp⟩ | ⟨hn, hp⟩
      · rw [if_pos (e.symm.trans h0)]
        exact hp
      · rw [if_neg (fun h => hn (e.trans h)), ← e]
        exact hp
    generalize (if chk x0.f0 x0.f1 x0.f2 = 0 then (encT (encB x0.f0 x0.f1 x0.f2), 0) else (([] : List Int), chk x0.f0 x0.f1 x0.f2)) = R at g3 g4
    refine Ev.bind (f := fun k bt303 => ((funicularref17_Put.f k x0.f0 x0.f1 x0.f2).bind fun bt307 => (if bt303.2 = bt307.2 then ((funicularref02_Same.f bt303.1 bt307.1).bind fun t311 => (if t311 = true then ((packet_Check.f k x0.f0 x0.f1 x0.f2).bind fun t312 => ((funicularref17_Check.f k x0.f0 x0.f1 x0.f2).bind fun t313 => (if t312 = t313 then ((funicularlaw17_works.f).bind fun t314 => (some t314)) else (some false)))) else (some false))) else (some false)))) g4 ?_
    refine Ev.bind (f := fun k bt307 => (if R.2 = bt307.2 then ((funicularref02_Same.f R.1 bt307.1).bind fun t311 => (if t311 = true then ((packet_Check.f k x0.f0 x0.f1 x0.f2).bind fun t312 => ((funicularref17_Check.f k x0.f0 x0.f1 x0.f2).bind fun t313 => (if t312 = t313 then ((funicularlaw17_works.f).bind fun t314 => (some t314)) else (some false)))) else (some false))) else (some false))) g3 ?_
    refine Ev.yes rfl ?_
    have hs : funicularref02_Same.f R.1 R.1 = some true := by
      unfold funicularref02_Same.f
      rw [beq_self_eq_true]
    rw [hs]
    refine Ev.some_bind (f := fun k t311 => (if t311 = true then ((packet_Check.f k x0.f0 x0.f1 x0.f2).bind fun t312 => ((funicularref17_Check.f k x0.f0 x0.f1 x0.f2).bind fun t313 => (if t312 = t313 then ((funicularlaw17_works.f).bind fun t314 => (some t314)) else (some false)))) else (some false))) (Ev.yes rfl ?_)
    refine Ev.bind (f := fun k t312 => ((funicularref17_Check.f k x0.f0 x0.f1 x0.f2).bind fun t313 => (if t312 = t313 then ((funicularlaw17_works.f).bind fun t314 => (some t314)) else (some false)))) g1 ?_
    exact Ev.bind (f := fun k t313 => (if chk x0.f0 x0.f1 x0.f2 = t313 then ((funicularlaw17_works.f).bind fun t314 => (some t314)) else (some false))) g2 (Ev.yes rfl (Ev.now true))

end Go.Proofs.Ytnmcahlpkebpjaa.Pure
