/- What an argument reads as, for arguments of nested kinds: from a row's reading of data to the print's kinds; each opened value is within the row's own bounds ('fine'). -/
import Derived.Test.YtnmcahlpkebpjaaWMore
import Derived.SizedLaws
import Derived.ChangeSlices
import Derived.ChangeArms
set_option linter.unusedVariables false
set_option linter.unusedSimpArgs false
namespace Go.Proofs.YtnmcahlpkebpjaaX
open Go Go.RowKit Go.ChangeShapes Go.WideShapes Go.Proofs.YtnmcahlpkebpjaaW.PrintWords

section
variable {H : Type} (enc : TypeId × Value → H) (P : Program) (w : World) (base : Nat) (spare : Nat → Bool) (held : Bool)

/-- Whatever reads as data of type t is of this kind, and fine. -/
def Opn {α : Type} (t : TypeId) (d : Kd α) (fine : α → Prop) : Prop :=
  ∀ fuel cs x, DataW.trod enc P w base spare held fuel t cs = some x → (∀ n ∈ x.1.weights P t, n ≤ reachBytes) → ∃ v, d.K w v cs ∧ fine v

/-- Fields in line, from a place on. -/
def OpnF {α : Type} (fs : List Field) (off : Nat) (d : Kd α) (fine : α → Prop) : Prop :=
  ∀ (n : Nat) (cs : List Value) (xs : List (DataW H × List MemPlace)), xs.length = fs.length → (∀ (i : Nat) (f : Field), fs[i]? = some f → DataW.trod enc P w base spare held n f.type ((cs.drop f.offset).take (P.cellsOf f.type)) = xs[i]?) →
    (∀ n ∈ DataW.weightsEach P (fs.map (·.type)) (xs.map (·.1)), n ≤ reachBytes) → ∃ v, d.K w v ((cs.drop off).take d.sz) ∧ fine v

variable {enc P w base spare held}
theorem Opn.int {t : TypeId} {k : IntKind} (ht : P.underlying t = some (.int k)) : Opn enc P w base spare held t (Kd.int k) (fun v => (Lit.int k v).wf = true) := by
  intro fuel cs x h _
  obtain ⟨n, rfl, rfl, hw⟩ := DataW.trod_int ht h
  exact ⟨n, rfl, hw⟩
theorem Opn.bool {t : TypeId} (ht : P.underlying t = some .bool) : Opn enc P w base spare held t Kd.bool (fun _ => True) := by
  intro fuel cs x h _
  obtain ⟨b, rfl, rfl⟩ := DataW.trod_bool ht h
  exact ⟨b, rfl, trivial⟩
theorem Opn.string {t : TypeId} (ht : P.underlying t = some .string) : Opn enc P w base spare held t Kd.string (fun s => s.size ≤ 140737488351232) := by
  intro fuel cs x h hw
  obtain ⟨s, rfl, rfl, _⟩ := DataW.trod_string ht h
  refine ⟨s, rfl, ?_⟩
  have := hw s.data.toList.length (by simp [DataW.weights])
  rw [Array.length_toList] at this
  exact this

theorem each_list {α : Type} (Q : Nat → α → Prop) : ∀ n, (∀ i, i < n → ∃ v, Q i v) → ∃ l : List α, l.length = n ∧ ∀ i v, l[i]? = some v → Q i v
  | 0, _ => ⟨[], rfl, fun i v h => by simp at h⟩
  | n + 1, h => by
    obtain ⟨l, hl, hq⟩ := each_list Q n (fun i hi => h i (by omega))
    obtain ⟨v, hv⟩ := h n (by omega)
    refine ⟨l ++ [v], by simp [hl], fun i u hu => ?_⟩
    rcases Nat.lt_or_ge i l.length with hi | hi
    · rw [List.getElem?_append_left hi] at hu
      exact hq i u hu
    · have := (List.getElem?_eq_some_iff.1 hu).1
      rw [List.length_append, List.length_singleton] at this
      have hi' : i = l.length := by omega
      subst hi'
      have : v = u := by simpa using hu
      subst this
      rw [hl]; exact hv

theorem weightsAll_mem {P : Program} {e : TypeId} : ∀ {l : List (DataW H)} {d : DataW H}, d ∈ l → ∀ n ∈ d.weights P e, n ∈ DataW.weightsAll P e l
  | [], _, h => by cases h
  | d' :: r, d, h => fun n hn => by
    simp only [DataW.weightsAll, List.mem_append]
    rcases List.mem_cons.1 h with rfl | h
    · exact .inl hn
    · exact .inr (weightsAll_mem h n hn)

theorem Opn.slice {α : Type} {t e : TypeId} {d : Kd α} {fine : α → Prop} {B : Nat} (ht : P.underlying t = some (.slice e)) (hc : P.cellsOf e = d.sz) (hB : P.bytesOf e = B) (he : Opn enc P w base spare held e d fine) :
    Opn enc P w base spare held t (Kd.slice e d) (fun xs => xs.length * B ≤ 140737488351232 ∧ ∀ x ∈ xs, fine x) := by
  intro fuel cs x h hw
  rcases DataW.trod_slice ht h with ⟨rfl, rfl⟩ | ⟨a, len, cap, elems, rest, n, _, rfl, rfl, hb, hl, hm, hlen, hel, hsp, hns⟩
  · exact ⟨[], ⟨none, 0, rfl, Nat.le_refl _, rfl, by simp, fun hp => by simp at hp⟩, by simp, by simp⟩
  · simp only [DataW.weights, ht, List.mem_cons, List.mem_append] at hw
    have each : ∀ i, i < len → ∃ v : α, (∃ c, c.length = d.sz ∧ d.K w v c ∧ ∀ j u, c[j]? = some u → w.cell? (a.add (i * d.sz + j)) = some u) ∧ fine v := by
      intro i hi
      have h1 := hel i hi
      have h2 : i < elems.length := by omega
      rw [List.getElem?_eq_getElem h2, Option.bind_eq_some_iff] at h1
      obtain ⟨c, hc1, hc2⟩ := h1
      obtain ⟨v, hK, hf⟩ := he n c _ hc2 (fun m hm2 => hw m (.inr (.inl (weightsAll_mem (List.mem_map.2 ⟨_, List.getElem_mem h2, rfl⟩) m hm2))))
      refine ⟨v, ⟨c, d.K_len hK, hK, fun j u hj => ?_⟩, hf⟩
      obtain ⟨hcl, hcb⟩ := World.cells?_some hc1 |>.2
      rw [hc] at hcb hcl
      have hj' : j < d.sz := by have := (List.getElem?_eq_some_iff.1 hj).1; rw [d.K_len hK] at this; exact this
      have := hcb j hj'
      rw [hj, add_add] at this
      exact this
    obtain ⟨l, hll, hq⟩ := each_list _ len each
    refine ⟨l, ⟨some a, cap, by rw [hll], by omega, rfl, ?_, fun _ => ⟨a, rfl, fun j p hj => (hq j p hj).1⟩⟩, ?_, ?_⟩
    · unfold maxLen at hm
      omega
    · have z := hw _ (.inl rfl)
      rw [hB] at z
      simp only [List.length_map] at z
      refine Nat.le_trans (Nat.mul_le_mul_right _ ?_) (show _ ≤ 140737488351232 from z)
      omega
    · intro x hx
      obtain ⟨i, hi⟩ := List.getElem?_of_mem hx
      exact (hq i x hi).2
theorem OpnF.one {α : Type} {f : Field} {off : Nat} {d : Kd α} {fine : α → Prop} (ho : f.offset = off) (hc : P.cellsOf f.type = d.sz) (h : Opn enc P w base spare held f.type d fine) : OpnF enc P w base spare held [f] off d fine := by
  intro n cs xs hl hx hw
  match xs, hl with
  | [y], _ =>
    have h0 := hx 0 f rfl
    rw [ho, hc] at h0
    exact h n _ _ h0 (fun m hm => hw m (by simpa [DataW.weightsEach] using hm))
theorem OpnF.cons {α β : Type} {f : Field} {fs : List Field} {off off2 : Nat} {d : Kd α} {d2 : Kd β} {fine : α → Prop} {fine2 : β → Prop} (ho : f.offset = off) (hc : P.cellsOf f.type = d.sz) (h2 : off2 = off + d.sz)
    (h : Opn enc P w base spare held f.type d fine) (hr : OpnF enc P w base spare held fs off2 d2 fine2) : OpnF enc P w base spare held (f :: fs) off (Kd.pair d d2) (fun p => fine p.1 ∧ fine2 p.2) := by
  intro n cs xs hl hx hw
  match xs, hl with
  | y :: ys, hl =>
    have h0 := hx 0 f rfl
    rw [ho, hc] at h0
    simp only [List.map_cons, DataW.weightsEach, List.mem_append] at hw
    obtain ⟨v, hv, fv⟩ := h n _ _ h0 (fun m hm => hw m (.inl hm))
    obtain ⟨v2, hv2, fv2⟩ := hr n cs ys (by simpa using hl) (fun i g hg => by
      have := hx (i + 1) g (by simpa using hg)
      simpa using this) (fun m hm => hw m (.inr hm))
    refine ⟨(v, v2), ⟨_, _, ?_, hv, hv2⟩, fv, fv2⟩
    subst h2
    show (cs.drop off).take (d.sz + d2.sz) = _
    rw [List.take_add, List.drop_drop]
theorem Opn.struct {α β : Type} {t : TypeId} {fs : Array Field} {d : Kd α} {f : β → α} {fine : α → Prop} (g : α → β) (hg : ∀ v, f (g v) = v) (ht : P.underlying t = some (.struct fs)) (hc : P.cellsOf t = d.sz) (h : OpnF enc P w base spare held fs.toList 0 d fine) :
    Opn enc P w base spare held t (Kd.iso d f) (fun x => fine (f x)) := by
  intro fuel cs x hx hw
  obtain ⟨xs, n, _, rfl, hl, hlen, hf⟩ := DataW.trod_struct ht hx
  simp only [DataW.weights, ht] at hw
  obtain ⟨v, hv, fv⟩ := h n cs xs (by simpa using hlen) (fun i fl hfl => hf i fl (by simpa using hfl)) hw
  refine ⟨g v, ?_, by show fine (f (g v)); rw [hg]; exact fv⟩
  show d.K w (f (g v)) cs
  rw [hg]
  have : (cs.drop 0).take d.sz = cs := by rw [List.drop_zero, ← hc, ← hl, List.take_length]
  rw [this] at hv
  exact hv

theorem weightsEach_at {P : Program} : ∀ {ts : List TypeId} {ds : List (DataW H)} {j : Nat} {t : TypeId} {d : DataW H}, ts[j]? = some t → ds[j]? = some d → ∀ n ∈ d.weights P t, n ∈ DataW.weightsEach P ts ds
  | [], _, _, _, _, h, _ => by simp at h
  | _ :: _, [], _, _, _, _, h => by simp at h
  | t :: ts, d :: ds, 0, t', d', h1, h2 => fun n hn => by
    simp at h1 h2
    subst h1; subst h2
    simp only [DataW.weightsEach, List.mem_append]
    exact .inl hn
  | t :: ts, d :: ds, j + 1, t', d', h1, h2 => fun n hn => by
    simp only [DataW.weightsEach, List.mem_append]
    exact .inr (weightsEach_at (by simpa using h1) (by simpa using h2) n hn)
/-- An argument, opened. -/
theorem Opn.arg {α : Type} {t : TypeId} {d : Kd α} {fine : α → Prop} (h : Opn enc P w base spare held t d fine) {v : Value} {x : DataW H} {ps : List MemPlace} {ts : List TypeId} {ds : List (DataW H)} {j : Nat}
    (hsz : (DataW.weightsEach P ts ds).all (· ≤ reachBytes) = true) (ht : ts[j]? = some t) (hd : ds[j]? = some x) (hx : DataW.Trod enc P w base spare held t v x ps) : ∃ a, d.K w a v.cells.toList ∧ fine a := by
  obtain ⟨fuel, hf⟩ := hx
  exact h fuel _ _ hf (fun n hn => by simpa using List.all_eq_true.1 hsz _ (weightsEach_at ht hd n hn))
end
end Go.Proofs.YtnmcahlpkebpjaaX
