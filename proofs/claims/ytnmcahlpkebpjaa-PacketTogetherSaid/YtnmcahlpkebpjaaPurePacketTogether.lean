import Derived.Test.YtnmcahlpkebpjaaXPacketTogetherx10
import Derived.Test.YtnmcahlpkebpjaaXCrc
set_option linter.unusedVariables false
set_option linter.unusedSimpArgs false
namespace Go.Proofs.Ytnmcahlpkebpjaa.Pure
open Go.RowKit Go.Proofs.YtnmcahlpkebpjaaX Go.Proofs.Ytnmcahlpkebpjaa.XPacketTogether Go.Proofs.YtnmcahlpkebpjaaW.PrintWords Go.Proofs.YtnmcahlpkebpjaaW.PrintLast

theorem w64 {x : Int} (h0 : -9223372036854775808 ≤ x) (h1 : x ≤ 9223372036854775807) : wrap64 x = x := by
  unfold wrap64
  omega
theorem w64n {n : Nat} (h : n < 4611686018427387904) : wrap64 ((n : Int) + 1) = ((n + 1 : Nat) : Int) := by
  rw [w64 (by omega) (by omega)]
  rfl
theorem rd51 {l : List S51} {i : Nat} (h : i < l.length) : rd_T51 l (i : Int) = l[i] := by
  unfold rd_T51
  rw [Int.toNat_natCast, List.getD_eq_getElem?_getD, List.getElem?_eq_getElem h]
  rfl
theorem rd48 {l : List S48} {i : Nat} (h : i < l.length) : rd_T48 l (i : Int) = l[i] := by
  unfold rd_T48
  rw [Int.toNat_natCast, List.getD_eq_getElem?_getD, List.getElem?_eq_getElem h]
  rfl
theorem rd24 {l : List S24} {i : Nat} (h : i < l.length) : rd_T24 l (i : Int) = l[i] := by
  unfold rd_T24
  rw [Int.toNat_natCast, List.getD_eq_getElem?_getD, List.getElem?_eq_getElem h]
  rfl
theorem eta51 (m : S51) : (⟨m.f0, m.f1, m.f2, m.f3, m.f4, m.f5, m.f6, m.f7, m.f8, m.f9, m.f10⟩ : S51) = m := rfl

/-! ### light answers -/
def Tot {α : Type} (g : Nat → Option α) : Prop := ∃ r, Ev g r
theorem Tot.step {α : Type} {g f : Nat → Option α} (h : ∀ k, g (k + 1) = f k) (t : Tot f) : Tot g := t.elim fun r e => ⟨r, Ev.step h e⟩
theorem Tot.now {α : Type} (r : α) : Tot (fun _ => some r) := ⟨r, Ev.now r⟩
def weighL (x0 : List S51) : Prop := x0.length < 4611686018427387904 ∧ ∀ y ∈ x0, y.f9.length < 4611686018427387904
theorem weight_l1 (x0 : List S51) (hx : weighL x0) (x1 : Int) (n : Nat) (hn : n < x0.length) (K : ∀ x5, Tot (fun k => funicularref17_Weight.l0 k x0 x1 x5 ((n + 1 : Nat) : Int))) :
    ∀ (d m : Nat), m + d = x0[n].f9.length → ∀ x5, Tot (fun k => funicularref17_Weight.l1 k x0 x1 x5 (n : Int) (m : Int)) := by
  have h9 : x0[n].f9.length < 4611686018427387904 := hx.2 _ (List.getElem_mem hn)
  have hl := hx.1
  intro d
  induction d with
  | zero =>
    intro m hm x5
    refine Tot.step (fun k => ?_) (K x5)
    simp only [funicularref17_Weight.l1]
    rw [if_pos (by omega), if_pos (by omega), rd51 hn, if_neg (by omega), w64n (by omega)]
  | succ d ih =>
    intro m hm x5
    by_cases hc : x5 ≤ x1
    · refine Tot.step (fun k => ?_) (ih (m + 1) (by omega) (wrap64 ((wrap64 (x5 + 1)) + (wrap64 ((((rd_T48 ((rd_T51 x0 n).f9) m).f1).length : Int) / 20)))))
      simp only [funicularref17_Weight.l1]
      rw [if_pos (by omega), if_pos (by omega), rd51 hn, if_pos (by omega), if_pos hc, if_pos (by omega), w64n (n := m) (by omega)]
    · refine Tot.step (fun k => ?_) (K x5)
      simp only [funicularref17_Weight.l1]
      rw [if_pos (by omega), if_pos (by omega), rd51 hn, if_pos (by omega), if_neg hc, w64n (by omega)]
theorem weight_l0 (x0 : List S51) (hx : weighL x0) (x1 : Int) : ∀ (d n : Nat), n + d = x0.length → ∀ x5, Tot (fun k => funicularref17_Weight.l0 k x0 x1 x5 (n : Int)) := by
  intro d
  have hl := hx.1
  induction d with
  | zero =>
    intro n hn x5
    refine Tot.step (f := fun k => funicularref17_Weight.j1 k x0 x1 x5 n false) (fun k => ?_) (Tot.step (f := fun _ => some x5) (fun k => ?_) (Tot.now x5))
    · simp only [funicularref17_Weight.l0]
      rw [if_neg (by omega)]
    · simp only [funicularref17_Weight.j1]
      rw [if_neg (by decide)]
  | succ d ih =>
    intro n hn x5
    have hlt : n < x0.length := by omega
    by_cases hc : x5 ≤ x1
    · have t := weight_l1 x0 hx x1 n hlt (fun x5 => ih (n + 1) (by omega) x5) _ 0 (Nat.zero_add _) (wrap64 ((wrap64 (x5 + 1)) + (wrap64 ((((rd_T51 x0 n).f10).length : Int) / 20))))
      refine Tot.step (f := fun k => funicularref17_Weight.j1 k x0 x1 x5 n true) (fun k => ?_) (Tot.step (fun k => ?_) t)
      · simp only [funicularref17_Weight.l0]
        rw [if_pos (by omega), decide_eq_true hc]
      · simp only [funicularref17_Weight.j1]
        rw [if_pos (by decide), if_pos (by omega), if_pos (by omega)]
        rfl
    · refine Tot.step (f := fun k => funicularref17_Weight.j1 k x0 x1 x5 n false) (fun k => ?_) (Tot.step (f := fun _ => some x5) (fun k => ?_) (Tot.now x5))
      · simp only [funicularref17_Weight.l0]
        rw [if_pos (by omega), decide_eq_false hc]
      · simp only [funicularref17_Weight.j1]
        rw [if_neg (by decide)]
theorem light_tot (x0 : List S51) (hx : weighL x0) : Tot (fun k => funicularlaw17_light.f k x0) := by
  obtain ⟨r, e⟩ := weight_l0 x0 hx 300 _ 0 (Nat.zero_add _) 0
  exact ⟨_, Ev.bind (g := fun k => funicularref17_Weight.f k x0 300) e (Ev.now (decide (r ≤ 300)))⟩

/-! ### what is the same answers yes -/
theorem entries_self (l : List S48) (hl : l.length < 4611686018427387904) : ∀ (d n : Nat), n + d = l.length → Ev (fun k => funicularref13_Entries.l0 k l l (n : Int)) true := by
  intro d
  induction d with
  | zero =>
    intro n hn
    refine Ev.step (f := fun _ => some true) (fun k => ?_) (Ev.now true)
    simp only [funicularref13_Entries.l0]
    rw [if_neg (by omega)]
  | succ d ih =>
    intro n hn
    refine Ev.step (fun k => ?_) (ih (n + 1) (by omega))
    simp only [funicularref13_Entries.l0]
    rw [if_pos (by omega), if_pos (by omega), if_pos (by omega), if_pos trivial, if_pos trivial, w64n (by omega)]
theorem sameMsg_self (m : S51) (h9 : m.f9.length < 4611686018427387904) : Ev (fun k => funicularref15_SameMsg.f k m.f0 m.f1 m.f2 m.f3 m.f4 m.f5 m.f6 m.f7 m.f8 m.f9 m.f10 m.f0 m.f1 m.f2 m.f3 m.f4 m.f5 m.f6 m.f7 m.f8 m.f9 m.f10) true := by
  have h : Ev (fun k => funicularref13_Entries.f k m.f9 m.f9) true := Ev.congr (fun k => by unfold funicularref13_Entries.f; rw [if_pos rfl]; rfl) (entries_self m.f9 h9 _ 0 (Nat.zero_add _))
  refine Ev.congr (fun k => ?_) (Ev.bind (f := fun k t => if t = true then (some ((strOfNums m.f10).toList == (strOfNums m.f10).toList)) else some false) h (Ev.yes rfl (by rw [beq_self_eq_true]; exact Ev.now true)))
  unfold funicularref15_SameMsg.f
  rw [if_pos rfl, if_pos rfl, if_pos rfl, if_pos rfl, if_pos rfl, if_pos rfl, if_pos rfl, if_pos rfl, if_neg (by rw [bne_self_eq_false]; decide)]
theorem sameMsgs_self (l : List S51) (hl : weighL l) : Ev (fun k => funicularref15_SameMsgs.f k l l) true := by
  have key : ∀ (d n : Nat), n + d = l.length → Ev (fun k => funicularref15_SameMsgs.l0 k l l (n : Int)) true := by
    intro d
    have h1 := hl.1
    induction d with
    | zero =>
      intro n hn
      refine Ev.step (f := fun _ => some true) (fun k => ?_) (Ev.now true)
      simp only [funicularref15_SameMsgs.l0]
      rw [if_neg (by omega)]
    | succ d ih =>
      intro n hn
      have hlt : n < l.length := by omega
      have h9 := hl.2 _ (List.getElem_mem hlt)
      have hm := sameMsg_self l[n] h9
      refine Ev.step (fun k => ?_) (Ev.bind (f := fun k t => if t = true then (funicularref15_SameMsgs.l0 k l l (((n + 1 : Nat)) : Int)) else some false) hm (Ev.yes rfl (ih (n + 1) (by omega))))
      simp only [funicularref15_SameMsgs.l0]
      rw [if_pos (by omega), if_pos (by omega), if_pos (by omega), rd51 hlt, w64n (by omega)]
  exact Ev.congr (fun k => by unfold funicularref15_SameMsgs.f; rw [if_pos rfl]; rfl) (key _ 0 (Nat.zero_add _))
theorem sameAll_self (l : List S24) (hl : l.length < 4611686018427387904) (hw : ∀ y ∈ l, weighL y.f2) : Ev (fun k => funicularref17_SameAll.f k l l) true := by
  have key : ∀ (d n : Nat), n + d = l.length → Ev (fun k => funicularref17_SameAll.l0 k l l (n : Int)) true := by
    intro d
    induction d with
    | zero =>
      intro n hn
      refine Ev.step (f := fun _ => some true) (fun k => ?_) (Ev.now true)
      simp only [funicularref17_SameAll.l0]
      rw [if_neg (by omega)]
    | succ d ih =>
      intro n hn
      have hlt : n < l.length := by omega
      have hm : Ev (fun k => funicularref17_Same.f k l[n].f0 l[n].f1 l[n].f2 l[n].f0 l[n].f1 l[n].f2) true := by
        refine Ev.congr (fun k => ?_) (sameMsgs_self l[n].f2 (hw _ (List.getElem_mem hlt)))
        unfold funicularref17_Same.f
        rw [if_pos rfl, if_pos rfl]
        cases funicularref15_SameMsgs.f k l[n].f2 l[n].f2 <;> rfl
      refine Ev.step (fun k => ?_) (Ev.bind (f := fun k t => if t = true then (funicularref17_SameAll.l0 k l l (((n + 1 : Nat)) : Int)) else some false) hm (Ev.yes rfl (ih (n + 1) (by omega))))
      simp only [funicularref17_SameAll.l0]
      rw [if_pos (by omega), if_pos (by omega), if_pos (by omega), rd24 hlt, w64n (by omega)]
  exact Ev.congr (fun k => by unfold funicularref17_SameAll.f; rw [if_pos rfl]; rfl) (key _ 0 (Nat.zero_add _))

/-! ### Together, as lists -/
def pick (fr : Int) (t : Int) (m : S51) : Bool := decide (m.f2 = fr) && decide (m.f3 = t)
def tg (fr : Int) (l : List S51) : Nat → Int → List S24
  | 0, _ => []
  | n + 1, t => if t = fr then tg fr l n (t + 1) else if l.filter (pick fr t) = [] then tg fr l n (t + 1) else ⟨fr, t, l.filter (pick fr t)⟩ :: tg fr l n (t + 1)
theorem filt_len (p : S51 → Bool) (l : List S51) : (l.filter p).length ≤ l.length := List.length_filter_le ..
theorem pos_iff {α : Type} (l : List α) : ((l.length : Int) > 0) ↔ ¬ l = [] := by
  constructor
  · rintro h rfl
    simp at h
  · intro h
    have := List.length_pos_iff.mpr h
    omega
theorem filt_snoc (p : S51 → Bool) (l : List S51) (n : Nat) (h : n < l.length) : (l.take (n + 1)).filter p = (l.take n).filter p ++ (if p l[n] = true then [l[n]] else []) := by
  rw [List.take_succ_eq_append_getElem h, List.filter_append]
  congr 1
  rw [List.filter_cons]
  rfl
theorem pt_l1 (fr : Int) (l : List S51) (hl : l.length < 1172812402961) (x5 : List S24) (h5 : x5.length < 3518437208883) (t : Int) (ht : 1 ≤ t ∧ t ≤ 7) (R : List S24)
    (K : Ev (fun k => packet_Together.l0 k fr l (if t = fr then x5 else if l.filter (pick fr t) = [] then x5 else x5 ++ [⟨fr, t, l.filter (pick fr t)⟩]) (t + 1)) R) :
    ∀ (d n : Nat), n + d = l.length → Ev (fun k => packet_Together.l1 k fr l x5 t l (l.length : Int) (n : Int) fr t (if t = fr then [] else (l.take n).filter (pick fr t))) R := by
  intro d
  induction d with
  | zero =>
    intro n hn
    refine Ev.step (fun k => ?_) K
    simp only [packet_Together.l1]
    rw [if_neg (by omega), w64 (by omega) (by omega), List.take_of_length_le (by omega)]
    by_cases hf : t = fr
    · simp only [if_pos hf]
      rw [if_neg (by simp)]
    · simp only [if_neg hf]
      by_cases he : l.filter (pick fr t) = []
      · rw [if_neg (by rw [pos_iff]; exact fun c => c he), if_pos he]
      · rw [if_pos (by rw [pos_iff]; exact he), if_neg he, if_pos h5]
  | succ d ih =>
    intro n hn
    have hlt : n < l.length := by omega
    have hi := ih (n + 1) (by omega)
    refine Ev.step (fun k => ?_) hi
    simp only [packet_Together.l1]
    rw [if_pos (by omega), if_pos (by omega), if_pos (by omega), rd51 hlt, w64n (by omega), filt_snoc _ l n hlt, eta51]
    have hfl : ((l.take n).filter (pick fr t)).length < 1172812402961 := by
      have := filt_len (pick fr t) (l.take n)
      rw [List.length_take] at this
      omega
    by_cases h3 : l[n].f3 = t
    · by_cases h2 : l[n].f2 = fr
      · have hp : pick fr t l[n] = true := by unfold pick; rw [decide_eq_true h2, decide_eq_true h3]; rfl
        rw [if_pos h3, if_pos h2, if_pos (c := pick fr t l[n] = true) hp]
        by_cases hf : t = fr
        · rw [if_pos hf, if_pos hf, if_pos hf]
        · rw [if_neg hf, if_neg hf, if_neg hf, if_pos hfl]
      · have hp : ¬ pick fr t l[n] = true := by unfold pick; rw [decide_eq_false h2, Bool.false_and]; decide
        rw [if_pos h3, if_neg h2, if_neg hp, List.append_nil]
    · have hp : ¬ pick fr t l[n] = true := by unfold pick; rw [decide_eq_false h3, Bool.and_false]; decide
      rw [if_neg h3, if_neg hp, List.append_nil]
theorem pt_l0 (fr : Int) (l : List S51) (hl : l.length < 1172812402961) : ∀ (d : Nat) (t : Int), 1 ≤ t → t + d = 8 → ∀ x5 : List S24, x5.length ≤ t → Ev (fun k => packet_Together.l0 k fr l x5 t) (x5 ++ tg fr l d t) := by
  intro d
  induction d with
  | zero =>
    intro t h1 ht x5 h5
    refine Ev.step (f := fun _ => some (x5 ++ tg fr l 0 t)) (fun k => ?_) (Ev.now _)
    simp only [packet_Together.l0]
    rw [if_neg (by omega)]
    show some x5 = some (x5 ++ [])
    rw [List.append_nil]
  | succ d ih =>
    intro t h1 ht x5 h5
    have key := pt_l1 fr l hl x5 (by omega) t (by omega) (x5 ++ tg fr l (d + 1) t) (by
      simp only [tg]
      by_cases hf : t = fr
      · rw [if_pos hf, if_pos hf]
        exact ih (t + 1) (by omega) (by omega) x5 (by omega)
      · rw [if_neg hf, if_neg hf]
        by_cases he : l.filter (pick fr t) = []
        · rw [if_pos he, if_pos he]
          exact ih (t + 1) (by omega) (by omega) x5 (by omega)
        · rw [if_neg he, if_neg he]
          have := ih (t + 1) (by omega) (by omega) (x5 ++ [⟨fr, t, l.filter (pick fr t)⟩]) (by rw [List.length_append]; show ((x5.length + 1 : Nat) : Int) ≤ _; omega)
          rw [List.append_assoc] at this
          exact this) l.length 0 (Nat.zero_add _)
    refine Ev.step (fun k => ?_) key
    simp only [packet_Together.l0]
    rw [if_pos (by omega)]
    simp only [List.take_zero, List.filter_nil, ite_self]
    rfl
theorem rt_l1 (fr : Int) (l : List S51) (hl : l.length < 1172812402961) (x5 : List S24) (h5 : x5.length < 3518437208883) (t : Int) (ht : 1 ≤ t ∧ t ≤ 7) (R : List S24)
    (K : Ev (fun k => funicularref17_Together.l0 k fr l (if l.filter (pick fr t) = [] then x5 else x5 ++ [⟨fr, t, l.filter (pick fr t)⟩]) (t + 1)) R) :
    ∀ (d n : Nat), n + d = l.length → Ev (fun k => funicularref17_Together.l1 k fr l x5 t ((l.take n).filter (pick fr t)) (n : Int)) R := by
  intro d
  induction d with
  | zero =>
    intro n hn
    refine Ev.step (fun k => ?_) K
    simp only [funicularref17_Together.l1]
    rw [if_neg (by omega), w64 (by omega) (by omega), List.take_of_length_le (by omega)]
    by_cases he : l.filter (pick fr t) = []
    · rw [if_neg (by rw [pos_iff]; exact fun c => c he), if_pos he]
    · rw [if_pos (by rw [pos_iff]; exact he), if_neg he, if_pos h5]
  | succ d ih =>
    intro n hn
    have hlt : n < l.length := by omega
    have hi := ih (n + 1) (by omega)
    refine Ev.step (fun k => ?_) hi
    simp only [funicularref17_Together.l1]
    rw [if_pos (by omega), if_pos (by omega), rd51 hlt, w64n (by omega), filt_snoc _ l n hlt, eta51]
    have hfl : ((l.take n).filter (pick fr t)).length < 1172812402961 := by
      have := filt_len (pick fr t) (l.take n)
      rw [List.length_take] at this
      omega
    by_cases h2 : l[n].f2 = fr
    · by_cases h3 : l[n].f3 = t
      · have hp : pick fr t l[n] = true := by unfold pick; rw [decide_eq_true h2, decide_eq_true h3]; rfl
        rw [if_pos h2, if_pos h3, if_pos (c := pick fr t l[n] = true) hp, if_pos hfl]
      · have hp : ¬ pick fr t l[n] = true := by unfold pick; rw [decide_eq_false h3, Bool.and_false]; decide
        rw [if_pos h2, if_neg h3, if_neg hp, List.append_nil]
    · have hp : ¬ pick fr t l[n] = true := by unfold pick; rw [decide_eq_false h2, Bool.false_and]; decide
      rw [if_neg h2, if_neg hp, List.append_nil]
theorem rt_l0 (fr : Int) (l : List S51) (hl : l.length < 1172812402961) : ∀ (d : Nat) (t : Int), 1 ≤ t → t + d = 8 → ∀ x5 : List S24, x5.length ≤ t → Ev (fun k => funicularref17_Together.l0 k fr l x5 t) (x5 ++ tg fr l d t) := by
  intro d
  induction d with
  | zero =>
    intro t h1 ht x5 h5
    refine Ev.step (f := fun _ => some (x5 ++ tg fr l 0 t)) (fun k => ?_) (Ev.now _)
    simp only [funicularref17_Together.l0]
    rw [if_neg (by omega)]
    show some x5 = some (x5 ++ [])
    rw [List.append_nil]
  | succ d ih =>
    intro t h1 ht x5 h5
    by_cases hf : t = fr
    · have key := ih (t + 1) (by omega) (by omega) x5 (by omega)
      simp only [tg, if_pos hf]
      refine Ev.step (fun k => ?_) key
      simp only [funicularref17_Together.l0]
      rw [if_pos (by omega), if_pos hf, w64 (by omega) (by omega)]
    · have key := rt_l1 fr l hl x5 (by omega) t (by omega) (x5 ++ tg fr l (d + 1) t) (by
        simp only [tg, if_neg hf]
        by_cases he : l.filter (pick fr t) = []
        · rw [if_pos he, if_pos he]
          exact ih (t + 1) (by omega) (by omega) x5 (by omega)
        · rw [if_neg he, if_neg he]
          have := ih (t + 1) (by omega) (by omega) (x5 ++ [⟨fr, t, l.filter (pick fr t)⟩]) (by rw [List.length_append]; show ((x5.length + 1 : Nat) : Int) ≤ _; omega)
          rw [List.append_assoc] at this
          exact this) l.length 0 (Nat.zero_add _)
      refine Ev.step (fun k => ?_) key
      simp only [funicularref17_Together.l0]
      rw [if_pos (by omega), if_neg hf]
      rfl

/-! ### what the law says of the list -/
theorem tg_from (fr : Int) (l : List S51) : ∀ (d : Nat) (t : Int), ∀ y ∈ tg fr l d t, y.f0 = fr ∧ y.f1 ≠ fr ∧ t ≤ y.f1 ∧ y.f2 = l.filter (pick fr y.f1)
  | 0, t => fun y hy => by cases hy
  | d + 1, t => fun y hy => by
    have ih := tg_from fr l d (t + 1)
    simp only [tg] at hy
    split at hy
    · have := ih y hy
      exact ⟨this.1, this.2.1, by omega, this.2.2.2⟩
    · split at hy
      · have := ih y hy
        exact ⟨this.1, this.2.1, by omega, this.2.2.2⟩
      · rcases List.mem_cons.mp hy with rfl | hy
        · exact ⟨rfl, by assumption, Int.le_refl _, rfl⟩
        · have := ih y hy
          exact ⟨this.1, this.2.1, by omega, this.2.2.2⟩
theorem tg_up (fr : Int) (l : List S51) : ∀ (d : Nat) (t : Int) (n : Nat) (h : n + 1 < (tg fr l d t).length), (tg fr l d t)[n].f1 < (tg fr l d t)[n + 1].f1
  | 0, t => fun n h => by simp [tg] at h
  | d + 1, t => fun n h => by
    have ih := tg_up fr l d (t + 1)
    have hfr := tg_from fr l d (t + 1)
    by_cases hf : t = fr
    · have e : tg fr l (d + 1) t = tg fr l d (t + 1) := by simp only [tg]; rw [if_pos hf]
      simp only [e] at h ⊢
      exact ih n h
    · by_cases he : l.filter (pick fr t) = []
      · have e : tg fr l (d + 1) t = tg fr l d (t + 1) := by simp only [tg]; rw [if_neg hf, if_pos he]
        simp only [e] at h ⊢
        exact ih n h
      · have e : tg fr l (d + 1) t = ⟨fr, t, l.filter (pick fr t)⟩ :: tg fr l d (t + 1) := by simp only [tg]; rw [if_neg hf, if_neg he]
        simp only [e] at h ⊢
        cases n with
        | zero =>
          have := hfr _ (List.getElem_mem (l := tg fr l d (t + 1)) (n := 0) (by simpa using h))
          simp only [List.getElem_cons_zero, List.getElem_cons_succ]
          show t < _
          omega
        | succ n =>
          simp only [List.getElem_cons_succ]
          exact ih n (by simpa using h)
theorem tg_len (fr : Int) (l : List S51) : ∀ (d : Nat) (t : Int), (tg fr l d t).length ≤ d
  | 0, t => Nat.le_refl _
  | d + 1, t => by
    have ih := tg_len fr l d (t + 1)
    simp only [tg]
    split
    · omega
    · split
      · omega
      · rw [List.length_cons]
        omega
def lens (ps : List S24) : Nat := (ps.map fun p => p.f2.length).sum
theorem filt_two (p q : S51 → Bool) (hd : ∀ x, p x = true → q x = true → False) : ∀ l : List S51, (l.filter p).length + (l.filter q).length ≤ (l.filter fun x => p x || q x).length
  | [] => Nat.le_refl _
  | x :: l => by
    have ih := filt_two p q hd l
    have := hd x
    simp only [List.filter_cons]
    cases hp : p x <;> cases hq : q x <;> simp_all <;> omega
theorem filt_mono (p q : S51 → Bool) (h : ∀ x, p x = true → q x = true) : ∀ l : List S51, (l.filter p).length ≤ (l.filter q).length
  | [] => Nat.le_refl _
  | x :: l => by
    have ih := filt_mono p q h l
    have := h x
    simp only [List.filter_cons]
    cases hp : p x <;> cases hq : q x <;> simp_all <;> omega
theorem tg_sum (fr : Int) (l : List S51) : ∀ (d : Nat) (t : Int), lens (tg fr l d t) ≤ (l.filter fun x => decide (t ≤ x.f3)).length
  | 0, t => Nat.zero_le _
  | d + 1, t => by
    have ih := tg_sum fr l d (t + 1)
    have hm : (l.filter fun x => decide (t + 1 ≤ x.f3)).length + (l.filter (pick fr t)).length ≤ (l.filter fun x => decide (t ≤ x.f3)).length := by
      refine Nat.le_trans (filt_two _ _ (fun x h1 h2 => ?_) l) ?_
      · have h3 := of_decide_eq_true h1
        unfold pick at h2
        rw [Bool.and_eq_true] at h2
        have h4 := of_decide_eq_true h2.2
        omega
      · refine filt_mono _ _ ?_ l
        intro x hx
        rw [Bool.or_eq_true] at hx
        refine decide_eq_true ?_
        rcases hx with hx | hx
        · have := of_decide_eq_true hx
          omega
        · unfold pick at hx
          rw [Bool.and_eq_true] at hx
          have h4 := of_decide_eq_true hx.2
          omega
    simp only [tg]
    split
    · omega
    · split
      · omega
      · show lens (_ :: _) ≤ _
        unfold lens at ih ⊢
        simp only [List.map_cons, List.sum_cons]
        omega
theorem lens_take_succ (ps : List S24) (n : Nat) (h : n < ps.length) : lens (ps.take (n + 1)) = lens (ps.take n) + ps[n].f2.length := by
  unfold lens
  rw [List.take_succ_eq_append_getElem h, List.map_append, List.sum_append]
  simp
theorem lens_take_le (ps : List S24) (n : Nat) : lens (ps.take n) ≤ lens ps := by
  have h : lens ps = lens (ps.take n) + lens (ps.drop n) := by
    unfold lens
    rw [← List.sum_append, ← List.map_append, List.take_append_drop]
  omega
theorem law_l0 (fr : Int) (l : List S51) (hl : l.length < 4611686018427387904) (ps : List S24) (hp : ps.length ≤ 7) (hfr : ∀ y ∈ ps, y.f0 = fr ∧ y.f1 ≠ fr) (hup : ∀ (n : Nat) (h : n + 1 < ps.length), ps[n].f1 < ps[n + 1].f1) (hs : lens ps ≤ l.length) :
    ∀ (d n : Nat), n + d = ps.length → Ev (fun k => funicularlaw17_PacketTogether.l0 k fr l ps ((lens (ps.take n) : Nat) : Int) (n : Int)) true := by
  intro d
  induction d with
  | zero =>
    intro n hn
    refine Ev.step (f := fun _ => some true) (fun k => ?_) (Ev.now true)
    simp only [funicularlaw17_PacketTogether.l0]
    have := lens_take_le ps n
    rw [if_neg (by omega), if_pos (by omega)]
    rfl
  | succ d ih =>
    intro n hn
    have hlt : n < ps.length := by omega
    have h0 := hfr _ (List.getElem_mem hlt)
    have hi := ih (n + 1) (by omega)
    have hle := lens_take_le ps (n + 1)
    have hts := lens_take_succ ps n hlt
    refine Ev.step (fun k => ?_) hi
    simp only [funicularlaw17_PacketTogether.l0]
    rw [if_pos (by omega), if_pos (by omega), rd24 hlt, if_pos h0.1, if_neg h0.2, w64n (by omega)]
    have hw : wrap64 ((lens (ps.take n) : Int) + (ps[n].f2.length : Int)) = ((lens (ps.take (n + 1)) : Nat) : Int) := by
      rw [w64 (by omega) (by omega), hts]
      omega
    rw [hw]
    cases n with
    | zero => rw [if_neg (by omega)]
    | succ m =>
      have hm : wrap64 (((m + 1 : Nat) : Int) - 1) = (m : Int) := by
        rw [w64 (by omega) (by omega)]
        omega
      have hu := hup m (by omega)
      rw [if_pos (by omega), hm, if_pos (by omega), if_pos (by omega), rd24 (by omega), if_neg (by omega)]

theorem PacketTogether : funicularlaw17_PacketTogether.Pure := by
  intro a0 l1 _ ⟨hl, hf⟩
  have hx : weighL l1 := ⟨by omega, fun y hy => by
    have := (hf y hy).2.2.2.2.2.2.2.2.2.1.1
    omega⟩
  refine Ev.rounds (g := fun k => funicularlaw17_PacketTogether.f k a0 l1) ?_
  obtain ⟨b, hb⟩ := light_tot l1 hx
  refine Ev.congr (fun k => by unfold funicularlaw17_PacketTogether.f; rfl) (Ev.bind (f := fun k t202 => if t202 = true then ((packet_Together.f k a0 l1).bind fun t204 => ((funicularref17_Together.f k a0 l1).bind fun t207 => ((funicularref17_SameAll.f k t204 t207).bind fun t210 => (if t210 = true then (funicularlaw17_PacketTogether.l0 k a0 l1 t204 0 0) else (some false))))) else ((funicularlaw17_works.f).bind fun t203 => (some t203))) hb ?_)
  cases b with
  | false => exact Ev.no (by decide) (Ev.now true)
  | true =>
    refine Ev.yes rfl ?_
    have h1 := pt_l0 a0 l1 (by omega) 7 1 (by omega) (by omega) [] (by show (0 : Int) ≤ 1; omega)
    have h2 := rt_l0 a0 l1 (by omega) 7 1 (by omega) (by omega) [] (by show (0 : Int) ≤ 1; omega)
    have hfr := tg_from a0 l1 7 1
    have hlen := tg_len a0 l1 7 1
    have hsum := tg_sum a0 l1 7 1
    rw [List.nil_append] at h1 h2
    have h3 := sameAll_self (tg a0 l1 7 1) (by omega) (fun y hy => by
      have e := (hfr y hy).2.2.2
      have hle := filt_len (pick a0 y.f1) l1
      refine ⟨by rw [e]; omega, fun z hz => ?_⟩
      rw [e] at hz
      exact hx.2 z ((List.mem_filter.mp hz).1))
    have h4 := law_l0 a0 l1 (by omega) (tg a0 l1 7 1) hlen (fun y hy => ⟨(hfr y hy).1, (hfr y hy).2.1⟩) (tg_up a0 l1 7 1) (Nat.le_trans hsum (List.length_filter_le ..)) _ 0 (Nat.zero_add _)
    refine Ev.bind (g := fun k => packet_Together.f k a0 l1) (f := fun k t204 => (funicularref17_Together.f k a0 l1).bind fun t207 => ((funicularref17_SameAll.f k t204 t207).bind fun t210 => (if t210 = true then (funicularlaw17_PacketTogether.l0 k a0 l1 t204 0 0) else (some false)))) h1 ?_
    refine Ev.bind (g := fun k => funicularref17_Together.f k a0 l1) (f := fun k t207 => ((funicularref17_SameAll.f k (tg a0 l1 7 1) t207).bind fun t210 => (if t210 = true then (funicularlaw17_PacketTogether.l0 k a0 l1 (tg a0 l1 7 1) 0 0) else (some false)))) h2 ?_
    refine Ev.bind (g := fun k => funicularref17_SameAll.f k (tg a0 l1 7 1) (tg a0 l1 7 1)) (f := fun k t210 => (if t210 = true then (funicularlaw17_PacketTogether.l0 k a0 l1 (tg a0 l1 7 1) 0 0) else (some false))) h3 ?_
    exact Ev.yes rfl h4

end Go.Proofs.Ytnmcahlpkebpjaa.Pure
