/- How an argument's reading as data is opened as one of the print's kinds, by the shape of its type: whole numbers, bools, texts, slices, structs. Of no law. -/
import Derived.Test.YtelhcijoegjjnaaWWords
import Derived.Deep.Slices
import Derived.SizedLaws
import Derived.ChangeArms
import Derived.WideShapes
namespace Go.Proofs.Ytelhcijoegjjnaa.Open
open Go.RowKit Go.Proofs.YtelhcijoegjjnaaW.PrintWords

/-- What reads as a value of type t is of the kind d, and bounded so. -/
def Opens (P : Program) (t : TypeId) {α : Type} (d : Kd α) (B : α → Prop) : Prop :=
  ∀ (H : Type) (enc : TypeId × Value → H) (w : World) (base : Nat) (spare : Nat → Bool) (held : Bool) (fuel : Nat) (cs : List Value) (x : DataW H × List MemPlace),
    DataW.trod enc P w base spare held fuel t cs = some x → (∀ n ∈ x.1.weights P t, n ≤ reachBytes) → ∃ y, d.K w y cs ∧ B y

theorem reach_eq : reachBytes = 140737488351232 := by decide
theorem Opens.int {P : Program} {t : TypeId} {k : IntKind} (hu : P.underlying t = some (.int k)) : Opens P t (Kd.int k) (fun n => (Lit.int k n).wf = true) := by
  intro H enc w base spare held fuel cs x h _
  obtain ⟨n, rfl, _, hw⟩ := DataW.trod_int hu h
  exact ⟨n, rfl, hw⟩
theorem Opens.bool {P : Program} {t : TypeId} (hu : P.underlying t = some .bool) : Opens P t Kd.bool (fun _ => True) := by
  intro H enc w base spare held fuel cs x h _
  obtain ⟨n, rfl, _⟩ := DataW.trod_bool hu h
  exact ⟨n, rfl, trivial⟩
theorem Opens.string {P : Program} {t : TypeId} (hu : P.underlying t = some .string) : Opens P t Kd.string (fun s => s.size ≤ 140737488351232) := by
  intro H enc w base spare held fuel cs x h hw
  obtain ⟨s, rfl, rfl, _⟩ := DataW.trod_string hu h
  have := hw s.data.toList.length (by simp [DataW.weights])
  rw [reach_eq] at this
  exact ⟨s, rfl, by simpa using this⟩
theorem weights_all {H : Type} {P : Program} {e : TypeId} : ∀ {l : List (DataW H)} {d : DataW H} {n : Nat}, d ∈ l → n ∈ d.weights P e → n ∈ DataW.weightsAll P e l
  | a :: r, d, n, hd, hn => by
    simp only [DataW.weightsAll, List.mem_append]
    rcases List.mem_cons.1 hd with rfl | hd
    · exact .inl hn
    · exact .inr (weights_all hd hn)
theorem Opens.slice {P : Program} {t e : TypeId} {α : Type} {d : Kd α} {B : α → Prop} {b : Nat} (hu : P.underlying t = some (.slice e)) (hc : P.cellsOf e = d.sz) (hb : P.bytesOf e = b) (ho : Opens P e d B) :
    Opens P t (Kd.slice e d) (fun xs => xs.length * b ≤ 140737488351232 ∧ ∀ x ∈ xs, B x) := by
  intro H enc w base spare held fuel cs x h hw
  rcases Deep.open_slice hu h with ⟨rfl, rfl⟩ | ⟨a, len, cap, m, n, D, Pl, rfl, _, hl, hm, hmm, rfl, hx⟩
  · exact ⟨[], ⟨none, 0, rfl, Nat.le_refl _, Kd.C_nil _ _⟩, by simp, by simp⟩
  · have hlm : len ≤ m := by rw [hmm]; split <;> omega
    have hmax : cap ≤ 9223372036854775807 := by unfold maxLen at hm; omega
    simp only [DataW.weights, hu, List.mem_cons, List.mem_append, forall_eq_or_imp] at hw
    obtain ⟨hw1, hw2⟩ := hw
    have hbound : len * b ≤ 140737488351232 := by
      rw [reach_eq, hb] at hw1
      simp only [List.length_map, List.length_range] at hw1
      exact Nat.le_trans (Nat.mul_le_mul_right _ (by omega)) hw1
    have each : ∀ i, i < len → ∃ y : α, (∃ cs', cs'.length = d.sz ∧ d.K w y cs' ∧ ∀ j u, cs'[j]? = some u → w.cell? (a.add (i * d.sz + j)) = some u) ∧ B y := by
      intro i hi
      obtain ⟨cs', hcs, ht⟩ := hx i (by omega)
      obtain ⟨_, hlen, hcell⟩ := World.cells?_some hcs
      obtain ⟨y, hy, hB⟩ := ho H enc w base spare held n cs' (D i, Pl i) ht (fun n hn => hw2 n (.inl (weights_all (List.mem_map.2 ⟨i, List.mem_range.2 hi, rfl⟩) hn)))
      refine ⟨y, ⟨cs', by rw [hlen, hc], hy, fun j u hj => ?_⟩, hB⟩
      have hj' : j < d.sz := by rw [← hc, ← hlen]; exact (List.getElem?_eq_some_iff.1 hj).1
      have := hcell j (by rw [hc]; exact hj')
      rw [hj, hc] at this
      rwa [show (a.add (i * d.sz)).add j = a.add (i * d.sz + j) from ?_] at this
      unfold Addr.add
      by_cases h1 : i * d.sz = 0
      · simp [h1]
      · by_cases h2 : j = 0
        · simp [h1, h2]
        · simp [h1, h2, Nat.add_assoc]
    rcases Nat.eq_zero_or_pos len with rfl | hpos
    · exact ⟨[], ⟨some a, cap, rfl, Nat.zero_le _, rfl, by simp, fun h => absurd h (Nat.lt_irrefl 0)⟩, by simp, by simp⟩
    · obtain ⟨y0, _, _⟩ := each 0 hpos
      haveI : Inhabited α := ⟨y0⟩
      obtain ⟨Y, hY⟩ := Deep.choose_lt each
      refine ⟨(List.range len).map Y, ⟨some a, cap, by simp, by simpa using hl, ?_⟩, by simpa using hbound, ?_⟩
      · refine ⟨rfl, by simp; omega, fun _ => ⟨a, rfl, fun j p hj => ?_⟩⟩
        obtain ⟨hj1, rfl⟩ := List.getElem?_eq_some_iff.1 hj
        have hj2 : j < len := by simpa using hj1
        simpa using (hY j hj2).1
      · intro x hx
        obtain ⟨i, hi, rfl⟩ := List.mem_map.1 hx
        exact (hY i (List.mem_range.1 hi)).2
/-- The fields fs, from the cell off on. -/
def OpensF (P : Program) (fs : List Field) (off : Nat) {α : Type} (d : Kd α) (B : α → Prop) : Prop :=
  ∀ (H : Type) (enc : TypeId × Value → H) (w : World) (base : Nat) (spare : Nat → Bool) (held : Bool) (fuel : Nat) (cs : List Value) (xs : List (DataW H × List MemPlace)), cs.length = off + d.sz → xs.length = fs.length →
    (∀ (i : Nat) (f : Field), fs[i]? = some f → DataW.trod enc P w base spare held fuel f.type ((cs.drop f.offset).take (P.cellsOf f.type)) = xs[i]?) →
    (∀ n ∈ DataW.weightsEach P (fs.map (·.type)) (xs.map (·.1)), n ≤ reachBytes) → ∃ y, d.K w y (cs.drop off) ∧ B y
theorem OpensF.one {P : Program} {f : Field} {off : Nat} {α : Type} {d : Kd α} {B : α → Prop} {t : TypeId} (ht : f.type = t) (ho : f.offset = off) (hc : P.cellsOf t = d.sz) (h : Opens P t d B) : OpensF P [f] off d B := by
  intro H enc w base spare held fuel cs xs hl hx hall hw
  subst ht
  rcases xs with _ | ⟨x, _ | ⟨z, zs⟩⟩
  · simp at hx
  · have h1 := hall 0 f rfl
    rw [ho, hc, List.take_of_length_le (by rw [List.length_drop]; omega)] at h1
    exact h H enc w base spare held fuel _ x h1 (fun n hn => hw n (by simp [DataW.weightsEach, hn]))
  · simp at hx
theorem OpensF.cons {P : Program} {f : Field} {fs : List Field} {off : Nat} {α β : Type} {d : Kd α} {dd : Kd β} {B : α → Prop} {BB : β → Prop} {t : TypeId} (ht : f.type = t) (ho : f.offset = off) (hc : P.cellsOf t = d.sz) (h : Opens P t d B)
    (hs : OpensF P fs (off + d.sz) dd BB) : OpensF P (f :: fs) off (Kd.pair d dd) (fun y => B y.1 ∧ BB y.2) := by
  intro H enc w base spare held fuel cs xs hl hx hall hw
  subst ht
  have hl2 : cs.length = off + (d.sz + dd.sz) := hl
  rcases xs with _ | ⟨x, xs⟩
  · simp at hx
  · have h1 := hall 0 f rfl
    rw [ho, hc] at h1
    obtain ⟨y, hy, hB⟩ := h H enc w base spare held fuel _ x h1 (fun n hn => hw n (by simp [DataW.weightsEach, hn]))
    obtain ⟨z, hz, hBB⟩ := hs H enc w base spare held fuel cs xs (by omega) (by simpa using hx) (fun i g hg => by have := hall (i + 1) g (by simpa using hg); simpa using this) (fun n hn => hw n (by simp [DataW.weightsEach, hn]))
    refine ⟨(y, z), ⟨_, _, ?_, hy, hz⟩, hB, hBB⟩
    rw [← List.drop_drop]
    exact (List.take_append_drop _ _).symm
theorem Opens.struct {P : Program} {t : TypeId} {fs : Array Field} {α : Type} {d : Kd α} {B : α → Prop} (hu : P.underlying t = some (.struct fs)) (hc : P.cellsOf t = d.sz) (h : OpensF P fs.toList 0 d B) : Opens P t d B := by
  intro H enc w base spare held fuel cs x ht hw
  obtain ⟨xs, n, rfl, rfl, hl, hx, hall⟩ := DataW.trod_struct hu ht
  have := h H enc w base spare held n cs xs (by rw [hl, hc]; omega) (by simpa using hx) (fun i f hf => hall i f (by simpa using hf)) (fun n hn => hw n (by simpa [DataW.weights, hu] using hn))
  simpa using this
theorem Opens.iso {P : Program} {t : TypeId} {α β : Type} {d : Kd α} {B : α → Prop} {f : β → α} (g : α → β) (hg : ∀ a, f (g a) = a) (h : Opens P t d B) : Opens P t (Kd.iso d f) (fun b => B (f b)) := by
  intro H enc w base spare held fuel cs x ht hw
  obtain ⟨y, hy, hB⟩ := h H enc w base spare held fuel cs x ht hw
  exact ⟨g y, by show d.K w (f (g y)) cs; rw [hg]; exact hy, by show B (f (g y)); rw [hg]; exact hB⟩
theorem Opens.weaken {P : Program} {t : TypeId} {α : Type} {d : Kd α} {B B' : α → Prop} (h : Opens P t d B) (hB : ∀ x, B x → B' x) : Opens P t d B' := by
  intro H enc w base spare held fuel cs x ht hw
  obtain ⟨y, hy, h2⟩ := h H enc w base spare held fuel cs x ht hw
  exact ⟨y, hy, hB _ h2⟩
end Go.Proofs.Ytelhcijoegjjnaa.Open
