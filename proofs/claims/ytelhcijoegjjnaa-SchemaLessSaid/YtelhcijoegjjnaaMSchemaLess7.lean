-- Written by a program of this session (wip/tools/merge.py) for this claim: texts laid together.
import Derived.Test.YtelhcijoegjjnaaMSchemaLess1
import Derived.Deep.Slices
import Derived.SizedLaws
import Derived.ChangeArms
import Derived.WideShapes
import Derived.Test.YtelhcijoegjjnaaMSchemaLess6
import Derived.Test.YtelhcijoegjjnaaMSchemaLess4
import Derived.Test.YtelhcijoegjjnaaMSchemaLess2
import Derived.Test.YtelhcijoegjjnaaMSchemaLess5
namespace Go.Proofs.Ytelhcijoegjjnaa.Open
open Go.RowKit Go.Proofs.YtelhcijoegjjnaaW.PrintWords
def Opens (P : Program) (t : TypeId) {α : Type} (d : Kd α) (B : α → Prop) : Prop :=
 ∀ (H : Type) (enc : TypeId × Value → H) (w : World) (base : Nat) (spare : Nat → Bool) (held : Bool) (fuel : Nat) (cs : List Value) (x : DataW H × List MemPlace),
  DataW.trod enc P w base spare held fuel t cs = some x → (∀ n ∈ x.1.weights P t, n ≤ reachBytes) → ∃ y, d.K w y cs ∧ B y
theorem reach_eq : reachBytes = 140737488351232 := by decide
theorem Opens.int {P : Program} {t : TypeId} {k : IntKind} (hu : P.underlying t = some (.int k)) : Opens P t (Kd.int k) (fun n => (Lit.int k n).wf = true) := by
 intro H enc w base spare held fuel cs x h _
 obtain ⟨n, rfl, _, hw⟩ := DataW.trod_int hu h
 exact ⟨n, rfl, hw⟩
theorem Opens.bool {P : Program} {t : TypeId} (hu : P.underlying t = some .bool) : Opens P t Kd.bool (fun _ => True) := by
 intro H enc w base spare held fuel cs x h _
 obtain ⟨n, rfl, _⟩ := DataW.trod_bool hu h
 exact ⟨n, rfl, trivial⟩
theorem Opens.string {P : Program} {t : TypeId} (hu : P.underlying t = some .string) : Opens P t Kd.string (fun s => s.size ≤ 140737488351232) := by
 intro H enc w base spare held fuel cs x h hw
 obtain ⟨s, rfl, rfl, _⟩ := DataW.trod_string hu h
 have := hw s.data.toList.length (by simp [DataW.weights])
 rw [reach_eq] at this
 exact ⟨s, rfl, by simpa using this⟩
theorem weights_all {H : Type} {P : Program} {e : TypeId} : ∀ {l : List (DataW H)} {d : DataW H} {n : Nat}, d ∈ l → n ∈ d.weights P e → n ∈ DataW.weightsAll P e l
 | a :: r, d, n, hd, hn => by
  simp only [DataW.weightsAll, List.mem_append]
  rcases List.mem_cons.1 hd with rfl | hd
  ·exact .inl hn
  ·exact .inr (weights_all hd hn)
theorem Opens.slice {P : Program} {t e : TypeId} {α : Type} {d : Kd α} {B : α → Prop} {b : Nat} (hu : P.underlying t = some (.slice e)) (hc : P.cellsOf e = d.sz) (hb : P.bytesOf e = b) (ho : Opens P e d B) :
  Opens P t (Kd.slice e d) (fun xs => xs.length * b ≤ 140737488351232 ∧ ∀ x ∈ xs, B x) := by
 intro H enc w base spare held fuel cs x h hw
 rcases Deep.open_slice hu h with ⟨rfl, rfl⟩ | ⟨a, len, cap, m, n, D, Pl, rfl, _, hl, hm, hmm, rfl, hx⟩
 ·exact ⟨[], ⟨none, 0, rfl, Nat.le_refl _, Kd.C_nil _ _⟩, by simp, by simp⟩
 ·have hlm : len ≤ m := by rw [hmm]; split <;> omega
  have hmax : cap ≤ 9223372036854775807 := by unfold maxLen at hm; omega
  simp only [DataW.weights, hu, List.mem_cons, List.mem_append, forall_eq_or_imp] at hw
  obtain ⟨hw1, hw2⟩ := hw
  have hbound : len * b ≤ 140737488351232 := by
   rw [reach_eq, hb] at hw1
   simp only [List.length_map, List.length_range] at hw1
   exact Nat.le_trans (Nat.mul_le_mul_right _ (by omega)) hw1
  have each : ∀ i, i < len → ∃ y : α, (∃ cs', cs'.length = d.sz ∧ d.K w y cs' ∧ ∀ j u, cs'[j]? = some u → w.cell? (a.add (i * d.sz + j)) = some u) ∧ B y := by
   intro i hi
   obtain ⟨cs', hcs, ht⟩ := hx i (by omega)
   obtain ⟨_, hlen, hcell⟩ := World.cells?_some hcs
   obtain ⟨y, hy, hB⟩ := ho H enc w base spare held n cs' (D i, Pl i) ht (fun n hn => hw2 n (.inl (weights_all (List.mem_map.2 ⟨i, List.mem_range.2 hi, rfl⟩) hn)))
   refine ⟨y, ⟨cs', by rw [hlen, hc], hy, fun j u hj => ?_⟩, hB⟩
   have hj' : j < d.sz := by rw [← hc, ← hlen]; exact (List.getElem?_eq_some_iff.1 hj).1
   have := hcell j (by rw [hc]; exact hj')
   rw [hj, hc] at this
   rwa [show (a.add (i * d.sz)).add j = a.add (i * d.sz + j) from ?_] at this
   unfold Addr.add
   by_cases h1 : i * d.sz = 0
   ·simp [h1]
   ·by_cases h2 : j = 0
    ·simp [h1, h2]
    ·simp [h1, h2, Nat.add_assoc]
  rcases Nat.eq_zero_or_pos len with rfl | hpos
  ·exact ⟨[], ⟨some a, cap, rfl, Nat.zero_le _, rfl, by simp, fun h => absurd h (Nat.lt_irrefl 0)⟩, by simp, by simp⟩
  ·obtain ⟨y0, _, _⟩ := each 0 hpos
   haveI : Inhabited α := ⟨y0⟩
   obtain ⟨Y, hY⟩ := Deep.choose_lt each
   refine ⟨(List.range len).map Y, ⟨some a, cap, by simp, by simpa using hl, ?_⟩, by simpa using hbound, ?_⟩
   ·refine ⟨rfl, by simp; omega, fun _ => ⟨a, rfl, fun j p hj => ?_⟩⟩
    obtain ⟨hj1, rfl⟩ := List.getElem?_eq_some_iff.1 hj
    have hj2 : j < len := by simpa using hj1
    simpa using (hY j hj2).1
   ·intro x hx
    obtain ⟨i, hi, rfl⟩ := List.mem_map.1 hx
    exact (hY i (List.mem_range.1 hi)).2
def OpensF (P : Program) (fs : List Field) (off : Nat) {α : Type} (d : Kd α) (B : α → Prop) : Prop :=
 ∀ (H : Type) (enc : TypeId × Value → H) (w : World) (base : Nat) (spare : Nat → Bool) (held : Bool) (fuel : Nat) (cs : List Value) (xs : List (DataW H × List MemPlace)), cs.length = off + d.sz → xs.length = fs.length →
  (∀ (i : Nat) (f : Field), fs[i]? = some f → DataW.trod enc P w base spare held fuel f.type ((cs.drop f.offset).take (P.cellsOf f.type)) = xs[i]?) →
  (∀ n ∈ DataW.weightsEach P (fs.map (·.type)) (xs.map (·.1)), n ≤ reachBytes) → ∃ y, d.K w y (cs.drop off) ∧ B y
theorem OpensF.one {P : Program} {f : Field} {off : Nat} {α : Type} {d : Kd α} {B : α → Prop} {t : TypeId} (ht : f.type = t) (ho : f.offset = off) (hc : P.cellsOf t = d.sz) (h : Opens P t d B) : OpensF P [f] off d B := by
 intro H enc w base spare held fuel cs xs hl hx hall hw
 subst ht
 rcases xs with _ | ⟨x, _ | ⟨z, zs⟩⟩
 ·simp at hx
 ·have h1 := hall 0 f rfl
  rw [ho, hc, List.take_of_length_le (by rw [List.length_drop]; omega)] at h1
  exact h H enc w base spare held fuel _ x h1 (fun n hn => hw n (by simp [DataW.weightsEach, hn]))
 ·simp at hx
theorem OpensF.cons {P : Program} {f : Field} {fs : List Field} {off : Nat} {α β : Type} {d : Kd α} {dd : Kd β} {B : α → Prop} {BB : β → Prop} {t : TypeId} (ht : f.type = t) (ho : f.offset = off) (hc : P.cellsOf t = d.sz) (h : Opens P t d B)
  (hs : OpensF P fs (off + d.sz) dd BB) : OpensF P (f :: fs) off (Kd.pair d dd) (fun y => B y.1 ∧ BB y.2) := by
 intro H enc w base spare held fuel cs xs hl hx hall hw
 subst ht
 have hl2 : cs.length = off + (d.sz + dd.sz) := hl
 rcases xs with _ | ⟨x, xs⟩
 ·simp at hx
 ·have h1 := hall 0 f rfl
  rw [ho, hc] at h1
  obtain ⟨y, hy, hB⟩ := h H enc w base spare held fuel _ x h1 (fun n hn => hw n (by simp [DataW.weightsEach, hn]))
  obtain ⟨z, hz, hBB⟩ := hs H enc w base spare held fuel cs xs (by omega) (by simpa using hx) (fun i g hg => by have := hall (i + 1) g (by simpa using hg); simpa using this) (fun n hn => hw n (by simp [DataW.weightsEach, hn]))
  refine ⟨(y, z), ⟨_, _, ?_, hy, hz⟩, hB, hBB⟩
  rw [← List.drop_drop]
  exact (List.take_append_drop _ _).symm
theorem Opens.struct {P : Program} {t : TypeId} {fs : Array Field} {α : Type} {d : Kd α} {B : α → Prop} (hu : P.underlying t = some (.struct fs)) (hc : P.cellsOf t = d.sz) (h : OpensF P fs.toList 0 d B) : Opens P t d B := by
 intro H enc w base spare held fuel cs x ht hw
 obtain ⟨xs, n, rfl, rfl, hl, hx, hall⟩ := DataW.trod_struct hu ht
 have := h H enc w base spare held n cs xs (by rw [hl, hc]; omega) (by simpa using hx) (fun i f hf => hall i f (by simpa using hf)) (fun n hn => hw n (by simpa [DataW.weights, hu] using hn))
 simpa using this
theorem Opens.iso {P : Program} {t : TypeId} {α β : Type} {d : Kd α} {B : α → Prop} {f : β → α} (g : α → β) (hg : ∀ a, f (g a) = a) (h : Opens P t d B) : Opens P t (Kd.iso d f) (fun b => B (f b)) := by
 intro H enc w base spare held fuel cs x ht hw
 obtain ⟨y, hy, hB⟩ := h H enc w base spare held fuel cs x ht hw
 exact ⟨g y, by show d.K w (f (g y)) cs; rw [hg]; exact hy, by show B (f (g y)); rw [hg]; exact hB⟩
theorem Opens.weaken {P : Program} {t : TypeId} {α : Type} {d : Kd α} {B B' : α → Prop} (h : Opens P t d B) (hB : ∀ x, B x → B' x) : Opens P t d B' := by
 intro H enc w base spare held fuel cs x ht hw
 obtain ⟨y, hy, h2⟩ := h H enc w base spare held fuel cs x ht hw
 exact ⟨y, hy, hB _ h2⟩
end Go.Proofs.Ytelhcijoegjjnaa.Open
namespace Go.Proofs.Ytelhcijoegjjnaa.P
open Go.RowKit Go.Proofs.YtelhcijoegjjnaaW.PrintWords Go.Proofs.YtelhcijoegjjnaaW.PrintLast Go.Proofs.YtelhcijoegjjnaaW.PrintMore
attribute [local go_sem] max2_int min2_int max_two min_two max_three min_three max_four min_four
set_option linter.unusedVariables false
set_option linter.unusedSimpArgs false
theorem SchemaLess_opens36 : Open.Opens Try.prog 36 (Kd.slice 3 (Kd.int .i64)) (fun x => ((x).length * 8 ≤ 140737488351232 ∧ ∀ y2 ∈ (x), (Lit.int .i64 (y2)).wf = true)) := Open.Opens.slice (e := 3) (b := 8) Try.underlying36 (by kernel_rfl) (by kernel_rfl) (Open.Opens.int Try.underlying3)
theorem SchemaLess_opens40 : Open.Opens Try.prog 40 k40 (fun x => ((x.f0).size ≤ 140737488351232 ∧ ((Lit.int .i64 (x.f1)).wf = true ∧ ((Lit.int .i64 (x.f2)).wf = true ∧ ((x.f3).size ≤ 140737488351232 ∧ (True ∧ (True ∧ (x.f6).size ≤ 140737488351232))))))) := Open.Opens.weaken (Open.Opens.iso (f := fun x : S40 => (x.f0, x.f1, x.f2, x.f3, x.f4, x.f5, x.f6)) (fun a => (⟨a.1, a.2.1, a.2.2.1, a.2.2.2.1, a.2.2.2.2.1, a.2.2.2.2.2.1, a.2.2.2.2.2.2⟩ : S40)) (fun _ => rfl) (Open.Opens.struct Try.underlying40 (by kernel_rfl) (Open.OpensF.cons (t := 9) rfl rfl (by kernel_rfl) (Open.Opens.string Try.underlying9) (Open.OpensF.cons (t := 3) rfl rfl (by kernel_rfl) (Open.Opens.int Try.underlying3) (Open.OpensF.cons (t := 3) rfl rfl (by kernel_rfl) (Open.Opens.int Try.underlying3) (Open.OpensF.cons (t := 9) rfl rfl (by kernel_rfl) (Open.Opens.string Try.underlying9) (Open.OpensF.cons (t := 4) rfl rfl (by kernel_rfl) (Open.Opens.bool Try.underlying4) (Open.OpensF.cons (t := 4) rfl rfl (by kernel_rfl) (Open.Opens.bool Try.underlying4) (Open.OpensF.one (t := 9) rfl rfl (by kernel_rfl) (Open.Opens.string Try.underlying9)))))))))) (fun _ h => h)
theorem SchemaLess_opens35 : Open.Opens Try.prog 35 (Kd.slice 40 k40) (fun x => ((x).length * 72 ≤ 140737488351232 ∧ ∀ y3 ∈ (x), ((y3.f0).size ≤ 140737488351232 ∧ ((Lit.int .i64 (y3.f1)).wf = true ∧ ((Lit.int .i64 (y3.f2)).wf = true ∧ ((y3.f3).size ≤ 140737488351232 ∧ (True ∧ (True ∧ (y3.f6).size ≤ 140737488351232)))))))) := Open.Opens.slice (e := 40) (b := 72) Try.underlying35 (by kernel_rfl) (by kernel_rfl) SchemaLess_opens40
theorem SchemaLess_opens38 : Open.Opens Try.prog 38 k38 (fun x => ((x.f0).size ≤ 140737488351232 ∧ (((x.f1).length * 72 ≤ 140737488351232 ∧ ∀ y4 ∈ (x.f1), ((y4.f0).size ≤ 140737488351232 ∧ ((Lit.int .i64 (y4.f1)).wf = true ∧ ((Lit.int .i64 (y4.f2)).wf = true ∧ ((y4.f3).size ≤ 140737488351232 ∧ (True ∧ (True ∧ (y4.f6).size ≤ 140737488351232))))))) ∧ ((x.f2).length * 8 ≤ 140737488351232 ∧ ∀ y5 ∈ (x.f2), (Lit.int .i64 (y5)).wf = true)))) := Open.Opens.weaken (Open.Opens.iso (f := fun x : S38 => (x.f0, x.f1, x.f2)) (fun a => (⟨a.1, a.2.1, a.2.2⟩ : S38)) (fun _ => rfl) (Open.Opens.struct Try.underlying38 (by kernel_rfl) (Open.OpensF.cons (t := 9) rfl rfl (by kernel_rfl) (Open.Opens.string Try.underlying9) (Open.OpensF.cons (t := 35) rfl rfl (by kernel_rfl) SchemaLess_opens35 (Open.OpensF.one (t := 36) rfl rfl (by kernel_rfl) SchemaLess_opens36))))) (fun _ h => h)
theorem SchemaLess_opens28 : Open.Opens Try.prog 28 (Kd.slice 38 k38) (fun x => ((x).length * 64 ≤ 140737488351232 ∧ ∀ y6 ∈ (x), ((y6.f0).size ≤ 140737488351232 ∧ (((y6.f1).length * 72 ≤ 140737488351232 ∧ ∀ y7 ∈ (y6.f1), ((y7.f0).size ≤ 140737488351232 ∧ ((Lit.int .i64 (y7.f1)).wf = true ∧ ((Lit.int .i64 (y7.f2)).wf = true ∧ ((y7.f3).size ≤ 140737488351232 ∧ (True ∧ (True ∧ (y7.f6).size ≤ 140737488351232))))))) ∧ ((y6.f2).length * 8 ≤ 140737488351232 ∧ ∀ y8 ∈ (y6.f2), (Lit.int .i64 (y8)).wf = true))))) := Open.Opens.slice (e := 38) (b := 64) Try.underlying28 (by kernel_rfl) (by kernel_rfl) SchemaLess_opens38
theorem SchemaLess_opens50 : Open.Opens Try.prog 50 k50 (fun x => ((x.f0).size ≤ 140737488351232 ∧ (Lit.int .i64 (x.f1)).wf = true)) := Open.Opens.weaken (Open.Opens.iso (f := fun x : S50 => (x.f0, x.f1)) (fun a => (⟨a.1, a.2⟩ : S50)) (fun _ => rfl) (Open.Opens.struct Try.underlying50 (by kernel_rfl) (Open.OpensF.cons (t := 9) rfl rfl (by kernel_rfl) (Open.Opens.string Try.underlying9) (Open.OpensF.one (t := 3) rfl rfl (by kernel_rfl) (Open.Opens.int Try.underlying3))))) (fun _ h => h)
theorem SchemaLess_opens46 : Open.Opens Try.prog 46 (Kd.slice 50 k50) (fun x => ((x).length * 24 ≤ 140737488351232 ∧ ∀ y9 ∈ (x), ((y9.f0).size ≤ 140737488351232 ∧ (Lit.int .i64 (y9.f1)).wf = true))) := Open.Opens.slice (e := 50) (b := 24) Try.underlying46 (by kernel_rfl) (by kernel_rfl) SchemaLess_opens50
theorem SchemaLess_opens48 : Open.Opens Try.prog 48 k48 (fun x => ((x.f0).size ≤ 140737488351232 ∧ ((x.f1).length * 24 ≤ 140737488351232 ∧ ∀ y10 ∈ (x.f1), ((y10.f0).size ≤ 140737488351232 ∧ (Lit.int .i64 (y10.f1)).wf = true)))) := Open.Opens.weaken (Open.Opens.iso (f := fun x : S48 => (x.f0, x.f1)) (fun a => (⟨a.1, a.2⟩ : S48)) (fun _ => rfl) (Open.Opens.struct Try.underlying48 (by kernel_rfl) (Open.OpensF.cons (t := 9) rfl rfl (by kernel_rfl) (Open.Opens.string Try.underlying9) (Open.OpensF.one (t := 46) rfl rfl (by kernel_rfl) SchemaLess_opens46)))) (fun _ h => h)
theorem SchemaLess_opens27 : Open.Opens Try.prog 27 (Kd.slice 48 k48) (fun x => ((x).length * 40 ≤ 140737488351232 ∧ ∀ y11 ∈ (x), ((y11.f0).size ≤ 140737488351232 ∧ ((y11.f1).length * 24 ≤ 140737488351232 ∧ ∀ y12 ∈ (y11.f1), ((y12.f0).size ≤ 140737488351232 ∧ (Lit.int .i64 (y12.f1)).wf = true))))) := Open.Opens.slice (e := 48) (b := 40) Try.underlying27 (by kernel_rfl) (by kernel_rfl) SchemaLess_opens48
theorem SchemaLess_opens30 : Open.Opens Try.prog 30 k30 (fun x => (((x.f0).length * 40 ≤ 140737488351232 ∧ ∀ y13 ∈ (x.f0), ((y13.f0).size ≤ 140737488351232 ∧ ((y13.f1).length * 24 ≤ 140737488351232 ∧ ∀ y14 ∈ (y13.f1), ((y14.f0).size ≤ 140737488351232 ∧ (Lit.int .i64 (y14.f1)).wf = true)))) ∧ ((x.f1).length * 64 ≤ 140737488351232 ∧ ∀ y15 ∈ (x.f1), ((y15.f0).size ≤ 140737488351232 ∧ (((y15.f1).length * 72 ≤ 140737488351232 ∧ ∀ y16 ∈ (y15.f1), ((y16.f0).size ≤ 140737488351232 ∧ ((Lit.int .i64 (y16.f1)).wf = true ∧ ((Lit.int .i64 (y16.f2)).wf = true ∧ ((y16.f3).size ≤ 140737488351232 ∧ (True ∧ (True ∧ (y16.f6).size ≤ 140737488351232))))))) ∧ ((y15.f2).length * 8 ≤ 140737488351232 ∧ ∀ y17 ∈ (y15.f2), (Lit.int .i64 (y17)).wf = true)))))) := Open.Opens.weaken (Open.Opens.iso (f := fun x : S30 => (x.f0, x.f1)) (fun a => (⟨a.1, a.2⟩ : S30)) (fun _ => rfl) (Open.Opens.struct Try.underlying30 (by kernel_rfl) (Open.OpensF.cons (t := 27) rfl rfl (by kernel_rfl) SchemaLess_opens27 (Open.OpensF.one (t := 28) rfl rfl (by kernel_rfl) SchemaLess_opens28)))) (fun _ h => h)
def ecdysislaw15_SchemaLess.Pure : Prop := ∀ (y0_ : S30) (y1_ : Int), (((y0_.f0).length * 40 ≤ 140737488351232 ∧ ∀ y1 ∈ (y0_.f0), ((y1.f0).size ≤ 140737488351232 ∧ ((y1.f1).length * 24 ≤ 140737488351232 ∧ ∀ y2 ∈ (y1.f1), ((y2.f0).size ≤ 140737488351232 ∧ (Lit.int .i64 (y2.f1)).wf = true)))) ∧ ((y0_.f1).length * 64 ≤ 140737488351232 ∧ ∀ y3 ∈ (y0_.f1), ((y3.f0).size ≤ 140737488351232 ∧ (((y3.f1).length * 72 ≤ 140737488351232 ∧ ∀ y4 ∈ (y3.f1), ((y4.f0).size ≤ 140737488351232 ∧ ((Lit.int .i64 (y4.f1)).wf = true ∧ ((Lit.int .i64 (y4.f2)).wf = true ∧ ((y4.f3).size ≤ 140737488351232 ∧ (True ∧ (True ∧ (y4.f6).size ≤ 140737488351232))))))) ∧ ((y3.f2).length * 8 ≤ 140737488351232 ∧ ∀ y5 ∈ (y3.f2), (Lit.int .i64 (y5)).wf = true))))) → (Lit.int .u8 (y1_)).wf = true → ∃ k, ecdysislaw15_SchemaLess.f k y0_.f0 y0_.f1 y1_ = some true
end Go.Proofs.Ytelhcijoegjjnaa.P
namespace Go.Proofs.Ytelhcijoegjjnaa.P
open Go.RowKit Go.Proofs.YtelhcijoegjjnaaW.PrintWords
theorem downTo {P : Nat → Prop} {n : Nat} (hn : P n) (hs : ∀ i, i < n → P (i + 1) → P i) (i : Nat) (hi : i ≤ n) : P i := by
  obtain ⟨d, rfl⟩ : ∃ d, n = i + d := ⟨n - i, by omega⟩
  clear hi
  induction d with
  | zero => exact hn
  | succ d ih => exact ih (hs (i + d) (by omega) hn) (fun j hj => hs j (by omega))
theorem wrap_up {i : Nat} (h : i < 4611686018427387904) : wrap64 ((i : Int) + 1) = ((i + 1 : Nat) : Int) := by unfold wrap64; omega
def namedV (f : S40) : Bool :=
  (if f.f2 = 14 ∨ f.f2 = 15 then Str.rightB f.f3 else decide (f.f3.toList = [])) && Str.rightB f.f0 && (decide (f.f6.toList = []) || Str.rightB f.f6)
def numV (n : Int) : Bool := decide (1 ≤ n ∧ n ≤ 536870911) && (decide (n < 19000) || decide (n > 19999))
def fcv (f : S40) : Int :=
  if namedV f = true then
    (if f.f2 < 1 ∨ f.f2 > 15 then 1
     else if f.f4 = true ∧ ¬ f.f6.toList = [] then 1
     else if f.f5 = true ∧ ¬ (f.f4 = true ∧ ((Go.bits .and .i64 (kindI f.f2) 2) != 0) = true) then 1
     else if numV f.f1 = true then 0 else 1)
  else 2
theorem field_named_tells (f : S40) : field_named.f f.f0 f.f1 f.f2 f.f3 f.f4 f.f5 f.f6 = some (namedV f) := by
  unfold field_named.f field_refers.f namedV ident_Right.f
  by_cases h1 : f.f2 = 14
  · simp only [h1, if_true, Option.bind_some, true_or]
    cases Str.rightB f.f3 <;> cases Str.rightB f.f0 <;> by_cases h6 : f.f6.toList = [] <;> simp [h6]
  · by_cases h2 : f.f2 = 15
    · simp only [h2, if_true, Option.bind_some, or_true]
      cases Str.rightB f.f3 <;> cases Str.rightB f.f0 <;> by_cases h6 : f.f6.toList = [] <;> simp [h6]
    · have h2b : (f.f2 == 15) = false := beq_eq_false_iff_ne.mpr h2
      simp only [h1, h2, h2b, if_false, Option.bind_some, or_self, Bool.false_eq_true]
      by_cases h3 : f.f3.toList = [] <;> cases Str.rightB f.f0 <;> by_cases h6 : f.f6.toList = [] <;> simp [h3, h6]
theorem tag_Field_tells (n : Int) : tag_Field.f n = some (numV n) := by
  unfold tag_Field.f tag_number.f numV
  by_cases h1 : n ≥ 1
  · rw [if_pos h1]
    simp only [Option.bind_some]
    by_cases h2 : n ≤ 536870911
    · rw [decide_eq_true h2, if_pos rfl, decide_eq_true (⟨h1, h2⟩ : 1 ≤ n ∧ n ≤ 536870911)]
      by_cases h3 : n < 19000
      · rw [if_pos h3, decide_eq_true h3]; rfl
      · rw [if_neg h3, decide_eq_false h3]; rfl
    · rw [decide_eq_false h2, if_neg (by decide), decide_eq_false (fun h : 1 ≤ n ∧ n ≤ 536870911 => h2 h.2)]; rfl
  · rw [if_neg h1]
    simp only [Option.bind_some, Bool.false_eq_true, if_false]
    rw [decide_eq_false (fun h : 1 ≤ n ∧ n ≤ 536870911 => h1 h.1)]; rfl
theorem field_Check_tells (f : S40) : Ev (fun k => field_Check.f k f.f0 f.f1 f.f2 f.f3 f.f4 f.f5 f.f6) (fcv f) := by
  refine ⟨3, fun k hk => ?_⟩
  obtain ⟨k, rfl⟩ : ∃ q, k = q + 3 := ⟨k - 3, by omega⟩
  unfold field_Check.f fcv
  rw [field_named_tells]
  simp only [Option.bind_some]
  cases namedV f with
  | false => simp
  | true =>
    simp only [if_true]
    have hj0 : ∀ b : Bool, field_Check.j0 (k + 3) 0 b f.f0 f.f1 f.f2 f.f3 f.f4 f.f5 f.f6 = some (if b = true then 1
     else if f.f4 = true ∧ ¬ f.f6.toList = [] then 1
     else if f.f5 = true ∧ ¬ (f.f4 = true ∧ ((Go.bits .and .i64 (kindI f.f2) 2) != 0) = true) then 1
     else if numV f.f1 = true then 0 else 1) := by
      intro b
      simp only [field_Check.j0, field_Check.j1, field_Check.j2, scalar_Number.f, scalar_kind.f, tag_Field_tells, Option.bind_some]
      cases b <;> cases f.f4 <;> cases f.f5 <;> by_cases h6 : f.f6.toList = [] <;> cases numV f.f1 <;> cases ((Go.bits .and .i64 (kindI f.f2) 2) != 0) <;> simp [h6]
    rw [hj0, hj0]
    by_cases h1 : f.f2 < 1
    · rw [if_pos h1, decide_eq_true h1, if_pos rfl, if_pos (Or.inl h1)]
    · rw [if_neg h1]
      by_cases h2 : f.f2 > 15
      · rw [decide_eq_true h2, if_pos rfl, if_pos (Or.inr h2)]
      · rw [decide_eq_false h2, if_neg (by decide), if_neg (show ¬ (f.f2 < 1 ∨ f.f2 > 15) from fun h => h.elim h1 h2)]
def ffV : List S40 → Int → Int
  | [], d => d
  | x :: t, d => if fcv x = 0 then ffV t d else fcv x
def fieldsV : List S38 → Int
  | [] => 0
  | x :: t => ffV x.f1 (fieldsV t)
theorem fields_inner (m : List S38) (i : Nat) (r : Int) (hm : m.length ≤ 1000000000000) (hi : i < m.length) (l : List S40) (hl : l.length ≤ 1000000000000)
    (h0 : Ev (fun k => schema_fields.l0 k m (m.length : Int) ((i + 1 : Nat) : Int)) r) : Ev (fun k => schema_fields.l1 k m (m.length : Int) (i : Int) l (l.length : Int) 0) (ffV l r) := by
  have key := downTo (P := fun j => Ev (fun k => schema_fields.l1 k m (m.length : Int) (i : Int) l (l.length : Int) (j : Int)) (ffV (l.drop j) r)) (n := l.length) ?_ ?_ 0 (Nat.zero_le _)
  · exact key
  · rw [List.drop_length]
    refine Ev.step (fun k => ?_) h0
    simp only [schema_fields.l1]
    rw [if_neg (by omega), wrap_up (by omega)]
  · intro j hj ih
    rw [List.drop_eq_getElem_cons hj]
    have hx : rd_T40 l (j : Int) = l[j] := by simp [rd_T40, hj]
    refine Ev.step (f := fun k => (field_Check.f k l[j].f0 l[j].f1 l[j].f2 l[j].f3 l[j].f4 l[j].f5 l[j].f6).bind fun t => if t = 0 then schema_fields.l1 k m (m.length : Int) (i : Int) l (l.length : Int) ((j + 1 : Nat) : Int) else some t) (fun k => ?_) (Ev.bind (field_Check_tells _) ?_)
    · simp only [schema_fields.l1]
      rw [if_pos (by omega), if_pos (by omega), if_pos (by omega), hx, wrap_up (by omega)]
    · simp only [ffV]
      by_cases h : fcv l[j] = 0
      · simp only [h, if_true]
        exact ih
      · simp only [h, if_false]
        exact Ev.now _
theorem fields_tells (e : List S48) (m : List S38) (hm : m.length ≤ 1000000000000) (hl : ∀ x ∈ m, x.f1.length ≤ 1000000000000) : Ev (fun k => schema_fields.f k e m) (fieldsV m) := by
  have key := downTo (P := fun i => Ev (fun k => schema_fields.l0 k m (m.length : Int) (i : Int)) (fieldsV (m.drop i))) (n := m.length) ?_ ?_ 0 (Nat.zero_le _)
  · exact key
  · rw [List.drop_length]
    refine Ev.step (f := fun _ => some 0) (fun k => ?_) (Ev.now _)
    simp only [schema_fields.l0]
    rw [if_neg (by omega)]
  · intro i hi ih
    rw [List.drop_eq_getElem_cons hi]
    have hx : rd_T38 m (i : Int) = m[i] := by simp [rd_T38, hi]
    refine Ev.step (f := fun k => schema_fields.l1 k m (m.length : Int) (i : Int) m[i].f1 (m[i].f1.length : Int) 0) (fun k => ?_) (fields_inner m i _ hm hi _ (hl _ (List.getElem_mem hi)) ih)
    simp only [schema_fields.l0]
    rw [if_pos (by omega), if_pos (by omega), if_pos (by omega), hx]
def manyV (e : List S48) (m : List S38) : Bool :=
  decide (3 < e.length) || decide (6 < m.length) || e.any (fun x => decide (8 < x.f1.length)) || m.any (fun x => decide (10 < x.f1.length) || decide (8 < x.f2.length))
def noneV (e : List S48) (m : List S38) : Bool := decide (m.length = 0) || e.any (fun x => decide (x.f1.length = 0))
def misV (e : List S48) (m : List S38) : Bool := e.any misE || m.any (fun x => !Str.rightB x.f0)
def twiceV (e : List S48) (m : List S38) : Bool := !Str.nodupB (e.map (·.f0) ++ m.map (·.f0)) || e.any twiceE || m.any twiceM
def disV (e : List S48) (m : List S38) : Bool :=
  !Str.riseB (e.map (·.f0)) || !Str.riseB ((m.map (·.f0)).drop 1) || e.any (fun x => !valuedB x.f1) || m.any (fun x => !numberedB x)
def barV (m : List S38) : Bool := m.any fun x => x.f1.any fun f => x.f2.contains f.f1
def lostV (e : List S48) (m : List S38) : Bool := m.any fun x => x.f1.any (lostF (e.map (·.f0)) (m.map (·.f0)))
def checkV (e : List S48) (m : List S38) : Int :=
  if manyV e m = true then 4 else if noneV e m = true then 5 else if misV e m = true then 2 else if fieldsV m = 0 then
    (if twiceV e m = true then 6 else if disV e m = true then 1 else if barV m = true then 6 else if lostV e m = true then 5 else 0)
  else fieldsV m
theorem manyV_false {e : List S48} {m : List S38} (h : manyV e m = false) :
    e.length ≤ 3 ∧ m.length ≤ 6 ∧ (∀ x ∈ e, x.f1.length ≤ 8) ∧ (∀ x ∈ m, x.f1.length ≤ 10 ∧ x.f2.length ≤ 8) := by
  unfold manyV at h
  simp only [Bool.or_eq_false_iff, decide_eq_false_iff_not, List.any_eq_false, Nat.not_lt, Bool.not_eq_true] at h
  obtain ⟨⟨⟨h1, h2⟩, h3⟩, h4⟩ := h
  exact ⟨h1, h2, h3, h4⟩
theorem check_tells (e : List S48) (m : List S38) : Ev (fun k => schema_Check.f k e m) (checkV e m) := by
  unfold checkV
  cases h1 : manyV e m with
  | true =>
    refine Ev.congr (f := fun _ => some 4) (fun k => ?_) (Ev.now _)
    unfold schema_Check.f
    rw [show schema_many.f e m = some true from congrArg some h1]
    rfl
  | false =>
    obtain ⟨g1, g2, g3, g4⟩ := manyV_false h1
    simp only [Bool.false_eq_true, if_false]
    cases h2 : noneV e m with
    | true =>
      refine Ev.congr (f := fun _ => some 5) (fun k => ?_) (Ev.now _)
      unfold schema_Check.f
      rw [show schema_many.f e m = some false from congrArg some h1, show schema_none.f e m = some true from congrArg some h2]
      rfl
    | false =>
      have g5 : 1 ≤ m.length := by
        unfold noneV at h2
        simp only [Bool.or_eq_false_iff, decide_eq_false_iff_not] at h2
        omega
      have g6 : ∀ x ∈ e, 1 ≤ x.f1.length := by
        unfold noneV at h2
        simp only [Bool.or_eq_false_iff, List.any_eq_false, decide_eq_true_eq] at h2
        intro x hx
        have := h2.2 x hx
        omega
      have e3 : schema_misnamed.f e m = some (misV e m) := by
        unfold schema_misnamed.f
        rw [if_pos (by rw [List.all_eq_true]; intro x hx; have := g3 x hx; exact decide_eq_true (by omega))]
        rfl
      have e5 : schema_twice.f e m = some (twiceV e m) := by
        unfold schema_twice.f
        rw [if_pos]
        · rfl
        · simp only [Bool.and_eq_true, decide_eq_true_eq, List.all_eq_true]
          refine ⟨⟨⟨by omega, by omega⟩, fun x hx => ?_⟩, fun x hx => ?_⟩
          · have := g3 x hx; omega
          · have := g4 x hx; omega
      have e6 : schema_disordered.f e m = some (disV e m) := by
        unfold schema_disordered.f disV
        rw [if_pos ⟨by omega, g5, by omega⟩]
        cases Str.riseB (e.map (·.f0)) with
        | false => simp
        | true =>
          cases Str.riseB ((m.map (·.f0)).drop 1) with
          | false => simp
          | true =>
            rw [Fn.anyO_some (p := disorderedE) (q := fun x => !valuedB x.f1) (fun x hx => by
              unfold disorderedE
              rw [if_pos ⟨g6 x hx, by have := g3 x hx; omega⟩])]
            rw [Fn.anyO_some (p := disorderedM) (q := fun x => !numberedB x) (fun x hx => by
              unfold disorderedM schema_numbered.f
              have := g4 x hx
              rw [if_pos ⟨by omega, by omega⟩]
              rfl)]
            simp only [if_true, Option.bind_some]
            cases e.any (fun x => !valuedB x.f1) <;> simp
      have e8 : schema_lost.f e m = some (lostV e m) := by
        unfold schema_lost.f
        rw [if_pos ⟨by omega, by omega⟩]
        rfl
      refine Ev.congr (f := fun k => if misV e m = true then some 2 else ((schema_fields.f k e m).bind fun t => if t = 0 then (if twiceV e m = true then some 6 else if disV e m = true then some 1 else if barV m = true then some 6 else if lostV e m = true then some 5 else some 0) else some t)) (fun k => ?_) ?_
      · unfold schema_Check.f
        rw [show schema_many.f e m = some false from congrArg some h1, show schema_none.f e m = some false from congrArg some h2, e3, e5, e6, e8, show schema_barred.f e m = some (barV m) from rfl]
        rfl
      · cases misV e m with
        | true => exact Ev.now _
        | false =>
          simp only [Bool.false_eq_true, if_false]
          refine Ev.bind (fields_tells e m (by omega) (fun x hx => by have := g4 x hx; omega)) ?_
          by_cases h4 : fieldsV m = 0
          · simp only [h4, if_true]
            cases twiceV e m <;> cases disV e m <;> cases barV m <;> cases lostV e m <;> exact Ev.now _
          · simp only [h4, if_false]
            exact Ev.now _
theorem live15_tells : Ev (fun k => ecdysislaw15_live.f k) true := by
  unfold ecdysislaw15_live.f
  refine Ev.bind (check_tells _ _) ?_
  have h1 : checkV [] [⟨⟨#[77]⟩, [⟨⟨#[97]⟩, 1, 15, ⟨#[77]⟩, false, false, ⟨#[]⟩⟩], []⟩] = 0 := by decide +kernel
  rw [h1]
  simp only [ecdysislaw15_num.f, Option.bind_some, if_true]
  refine Ev.bind (check_tells _ _) ?_
  have h2 : checkV [] [] = 5 := by decide +kernel
  rw [h2]
  exact Ev.now _
end Go.Proofs.Ytelhcijoegjjnaa.P
namespace Go.Proofs.Ytelhcijoegjjnaa.P
open Go.RowKit Go.Proofs.YtelhcijoegjjnaaW.PrintWords
section
variable (e : List S48) (m : List S38)
def Lens : Prop := e.length ≤ 140737488351232 ∧ m.length ≤ 140737488351232 ∧ (∀ x ∈ e, x.f1.length ≤ 140737488351232) ∧ (∀ x ∈ m, x.f1.length ≤ 140737488351232 ∧ x.f2.length ≤ 140737488351232)
theorem Small_l4 (h : Lens e m) (i : Nat) (hi : i ≤ m.length) : ∃ b, Ev (fun k => ecdysisref15_Small.l4 k (i : Int) e m) b := by
 obtain ⟨h1, h2, h3, h4⟩ := h
 refine downTo (P := fun i => ∃ b, Ev (fun k => ecdysisref15_Small.l4 k (i : Int) e m) b) (n := m.length) ?_ ?_ i hi
 ·exact ⟨true, Ev.step (f := fun _ => some true) (fun k => by simp only [ecdysisref15_Small.l4]; rw [if_neg (by omega)]) (Ev.now _)⟩
 ·intro i hi ih
  have hx : rd_T38 m (i : Int) = m[i] := by simp [rd_T38, hi]
  have hl := (h4 m[i] (List.getElem_mem hi)).1
  have key := downTo (P := fun j => ∃ b, Ev (fun k => ecdysisref15_Small.l5 k (i : Int) (j : Int) e m) b) (n := m[i].f1.length) ?_ ?_ 0 (Nat.zero_le _)
  ·obtain ⟨b, hb⟩ := key
   exact ⟨b, Ev.step (fun k => by simp only [ecdysisref15_Small.l4]; rw [if_pos (by omega)]; rfl) hb⟩
  ·obtain ⟨b, hb⟩ := ih
   refine ⟨b, Ev.step (fun k => ?_) hb⟩
   simp only [ecdysisref15_Small.l5]
   rw [if_pos (by omega), if_pos (by omega), hx, if_neg (by omega), wrap_up (by omega)]
  ·intro j hj ihj
   obtain ⟨b, hb⟩ := ihj
   by_cases c : (m[i].f1[j].f0.size : Int) > 1000 ∨ (m[i].f1[j].f3.size : Int) > 1000 ∨ (m[i].f1[j].f6.size : Int) > 1000
   ·refine ⟨false, Ev.step (f := fun _ => some false) (fun k => ?_) (Ev.now _)⟩
    simp only [ecdysisref15_Small.l5]
    rw [if_pos (by omega), if_pos (by omega), hx, if_pos (by omega), if_pos (by omega)]
    have hy : rd_T40 m[i].f1 (j : Int) = m[i].f1[j] := by simp [rd_T40, hj]
    rw [hy]
    repeat' split
    all_goals first | rfl | (exfalso; omega)
   ·refine ⟨b, Ev.step (fun k => ?_) hb⟩
    simp only [ecdysisref15_Small.l5]
    rw [if_pos (by omega), if_pos (by omega), hx, if_pos (by omega), if_pos (by omega)]
    have hy : rd_T40 m[i].f1 (j : Int) = m[i].f1[j] := by simp [rd_T40, hj]
    rw [hy, if_neg (by omega), if_neg (by omega), if_neg (by omega), wrap_up (by omega)]
theorem Small_l2 (h : Lens e m) (i : Nat) (hi : i ≤ e.length) : ∃ b, Ev (fun k => ecdysisref15_Small.l2 k (i : Int) e m) b := by
 have h' := h
 obtain ⟨h1, h2, h3, h4⟩ := h
 refine downTo (P := fun i => ∃ b, Ev (fun k => ecdysisref15_Small.l2 k (i : Int) e m) b) (n := e.length) ?_ ?_ i hi
 ·obtain ⟨b, hb⟩ := Small_l4 e m h' 0 (Nat.zero_le _)
  exact ⟨b, Ev.step (fun k => by simp only [ecdysisref15_Small.l2]; rw [if_neg (by omega)]; rfl) hb⟩
 ·intro i hi ih
  have hx : rd_T48 e (i : Int) = e[i] := by simp [rd_T48, hi]
  have hl := h3 e[i] (List.getElem_mem hi)
  have key := downTo (P := fun j => ∃ b, Ev (fun k => ecdysisref15_Small.l3 k (i : Int) (j : Int) e m) b) (n := e[i].f1.length) ?_ ?_ 0 (Nat.zero_le _)
  ·obtain ⟨b, hb⟩ := key
   exact ⟨b, Ev.step (fun k => by simp only [ecdysisref15_Small.l2]; rw [if_pos (by omega)]; rfl) hb⟩
  ·obtain ⟨b, hb⟩ := ih
   refine ⟨b, Ev.step (fun k => ?_) hb⟩
   simp only [ecdysisref15_Small.l3]
   rw [if_pos (by omega), if_pos (by omega), hx, if_neg (by omega), wrap_up (by omega)]
  ·intro j hj ihj
   obtain ⟨b, hb⟩ := ihj
   by_cases c : ((rd_T50 e[i].f1 (j : Int)).f0.size : Int) > 1000
   ·refine ⟨false, Ev.step (f := fun _ => some false) (fun k => ?_) (Ev.now _)⟩
    simp only [ecdysisref15_Small.l3]
    rw [if_pos (by omega), if_pos (by omega), hx, if_pos (by omega), if_pos (by omega), if_pos c]
   ·refine ⟨b, Ev.step (fun k => ?_) hb⟩
    simp only [ecdysisref15_Small.l3]
    rw [if_pos (by omega), if_pos (by omega), hx, if_pos (by omega), if_pos (by omega), if_neg c, wrap_up (by omega)]
theorem Small_j3 (h : Lens e m) (x : Int) : ∃ b, Ev (fun k => ecdysisref15_Small.j3 k x e m) b := by
 by_cases hx : x ≥ 200
 ·exact ⟨false, Ev.step (f := fun _ => some false) (fun k => by simp only [ecdysisref15_Small.j3]; rw [if_pos hx]) (Ev.now _)⟩
 ·obtain ⟨b, hb⟩ := Small_l2 e m h 0 (Nat.zero_le _)
  exact ⟨b, Ev.step (fun k => by simp only [ecdysisref15_Small.j3]; rw [if_neg hx]; rfl) hb⟩
theorem Small_l1 (h : Lens e m) (i : Nat) (hi : i ≤ m.length) : ∀ x : Int, ∃ b, Ev (fun k => ecdysisref15_Small.l1 k x (i : Int) e m) b := by
 refine downTo (P := fun i => ∀ x : Int, ∃ b, Ev (fun k => ecdysisref15_Small.l1 k x (i : Int) e m) b) (n := m.length) ?_ ?_ i hi
 ·intro x
  obtain ⟨b, hb⟩ := Small_j3 e m h x
  exact ⟨b, Ev.step (fun k => by simp only [ecdysisref15_Small.l1]; rw [if_neg (by omega)]) hb⟩
 ·intro i hi ih x
  by_cases hx : x < 200
  ·obtain ⟨b, hb⟩ := ih (wrap64 ((wrap64 ((wrap64 (x + (((rd_T38 m i).f1).length : Int))) + (((rd_T38 m i).f2).length : Int))) + (wrap64 ((((rd_T38 m i).f0).size : Int) / 10))))
   have := h.2.1
   refine ⟨b, Ev.step (fun k => ?_) hb⟩
   simp only [ecdysisref15_Small.l1]
   rw [if_pos (by omega), if_pos hx, if_pos (by omega), wrap_up (by omega)]
  ·obtain ⟨b, hb⟩ := Small_j3 e m h x
   refine ⟨b, Ev.step (fun k => ?_) hb⟩
   simp only [ecdysisref15_Small.l1]
   rw [if_pos (by omega), if_neg hx]
theorem Small_j1 (h : Lens e m) (x : Int) : ∃ b, Ev (fun k => ecdysisref15_Small.j1 k x e m) b := by
 obtain ⟨b, hb⟩ := Small_l1 e m h 0 (Nat.zero_le _) x
 exact ⟨b, Ev.step (fun k => by simp only [ecdysisref15_Small.j1]; rfl) hb⟩
theorem Small_l0 (h : Lens e m) (i : Nat) (hi : i ≤ e.length) : ∀ x : Int, ∃ b, Ev (fun k => ecdysisref15_Small.l0 k x (i : Int) e m) b := by
 refine downTo (P := fun i => ∀ x : Int, ∃ b, Ev (fun k => ecdysisref15_Small.l0 k x (i : Int) e m) b) (n := e.length) ?_ ?_ i hi
 ·intro x
  obtain ⟨b, hb⟩ := Small_j1 e m h x
  exact ⟨b, Ev.step (fun k => by simp only [ecdysisref15_Small.l0]; rw [if_neg (by omega)]) hb⟩
 ·intro i hi ih x
  by_cases hx : x < 200
  ·obtain ⟨b, hb⟩ := ih (wrap64 ((wrap64 (x + (((rd_T48 e i).f1).length : Int))) + (wrap64 ((((rd_T48 e i).f0).size : Int) / 10))))
   have := h.1
   refine ⟨b, Ev.step (fun k => ?_) hb⟩
   simp only [ecdysisref15_Small.l0]
   rw [if_pos (by omega), if_pos hx, if_pos (by omega), wrap_up (by omega)]
  ·obtain ⟨b, hb⟩ := Small_j1 e m h x
   refine ⟨b, Ev.step (fun k => ?_) hb⟩
   simp only [ecdysisref15_Small.l0]
   rw [if_pos (by omega), if_neg hx]
theorem Small_tells (h : Lens e m) : ∃ b, Ev (fun k => ecdysisref15_Small.f k e m) b := by
 unfold ecdysisref15_Small.f
 exact Small_l0 e m h 0 (Nat.zero_le _) _
end
end Go.Proofs.Ytelhcijoegjjnaa.P
namespace Go.Proofs.Ytelhcijoegjjnaa.P
open Go.RowKit Go.Proofs.YtelhcijoegjjnaaW.PrintWords
theorem Copy_l1 (e : List S48) (m : List S38) (h1 : m.length ≤ 2199023255363) (h2 : ∀ x ∈ m, x.f1.length ≤ 1954687338211 ∧ x.f2.length ≤ 17592186043904) (c : List S48) (i : Nat) (hi : i ≤ m.length) :
  Ev (fun k => ecdysisref15_Copy.l1 k (i : Int) e m c (m.take i)) (c, m) := by
 refine downTo (P := fun i => Ev (fun k => ecdysisref15_Copy.l1 k (i : Int) e m c (m.take i)) (c, m)) (n := m.length) ?_ ?_ i hi
 ·refine Ev.step (f := fun _ => some (c, m)) (fun k => ?_) (Ev.now _)
  simp only [ecdysisref15_Copy.l1]
  rw [if_neg (by omega), List.take_length]
 ·intro i hi ih
  have hx : rd_T38 m (i : Int) = m[i] := by simp [rd_T38, hi]
  have hl := h2 m[i] (List.getElem_mem hi)
  have hlen : (m.take i).length = i := by rw [List.length_take]; omega
  refine Ev.step (fun k => ?_) ih
  simp only [ecdysisref15_Copy.l1, Option.bind_some, List.length_nil, List.nil_append]
  rw [if_pos (by omega), if_pos (by omega), hx, if_pos (by omega), if_pos (by omega), if_pos (by omega), wrap_up (by omega), List.take_succ_eq_append_getElem hi]
theorem Copy_tells (e : List S48) (m : List S38) (h0 : e.length ≤ 3518437208780) (h3 : ∀ x ∈ e, x.f1.length ≤ 5864062014634) (h1 : m.length ≤ 2199023255363) (h2 : ∀ x ∈ m, x.f1.length ≤ 1954687338211 ∧ x.f2.length ≤ 17592186043904) :
  Ev (fun k => ecdysisref15_Copy.f k e m) (e, m) := by
 have key := downTo (P := fun i => Ev (fun k => ecdysisref15_Copy.l0 k (i : Int) e m (e.take i)) (e, m)) (n := e.length) ?_ ?_ 0 (Nat.zero_le _)
 ·exact key
 ·refine Ev.step (fun k => ?_) (Copy_l1 e m h1 h2 e 0 (Nat.zero_le _))
  simp only [ecdysisref15_Copy.l0]
  rw [if_neg (by omega), List.take_length]
  rfl
 ·intro i hi ih
  have hx : rd_T48 e (i : Int) = e[i] := by simp [rd_T48, hi]
  have hl := h3 e[i] (List.getElem_mem hi)
  have hlen : (e.take i).length = i := by rw [List.length_take]; omega
  refine Ev.step (fun k => ?_) ih
  simp only [ecdysisref15_Copy.l0, Option.bind_some, List.length_nil, List.nil_append]
  rw [if_pos (by omega), if_pos (by omega), hx, if_pos (by omega), if_pos (by omega), wrap_up (by omega), List.take_succ_eq_append_getElem hi]
end Go.Proofs.Ytelhcijoegjjnaa.P
namespace Go.Proofs.Ytelhcijoegjjnaa.Pure
open Go.RowKit Go.Proofs.Ytelhcijoegjjnaa.P Go.Proofs.YtelhcijoegjjnaaW.PrintWords
theorem ffV_zero (d : Int) : ∀ l : List S40, ffV l d = 0 ↔ (∀ f ∈ l, fcv f = 0) ∧ d = 0
 | [] => by simp [ffV]
 | x :: t => by
  simp only [ffV, List.mem_cons, forall_eq_or_imp]
  by_cases h : fcv x = 0
  ·rw [if_pos h, ffV_zero d t]
   simp [h]
  ·rw [if_neg h]
   simp [h]
theorem fieldsV_zero : ∀ m : List S38, fieldsV m = 0 ↔ ∀ x ∈ m, ∀ f ∈ x.f1, fcv f = 0
 | [] => by simp [fieldsV]
 | x :: t => by
  simp only [fieldsV, ffV_zero, fieldsV_zero t, List.mem_cons, forall_eq_or_imp]
theorem any_sub {α : Type} {l l' : List α} {p : α → Bool} (hs : ∀ x ∈ l', x ∈ l) (h : l.any p = false) : l'.any p = false := by
 rw [List.any_eq_false] at h ⊢
 exact fun x hx => h x (hs x hx)
theorem eraseIdx_drop {α : Type} : ∀ (l : List α) (i : Nat), ((l.eraseIdx i).drop 1).Sublist (l.drop 1)
 | [], i => by simp
 | a :: t, 0 => by simpa using List.drop_sublist 1 t
 | a :: t, i + 1 => by simpa using List.eraseIdx_sublist t i
theorem checkV_zero {e : List S48} {m : List S38} : checkV e m = 0 ↔ manyV e m = false ∧ noneV e m = false ∧ misV e m = false ∧ fieldsV m = 0 ∧ twiceV e m = false ∧ disV e m = false ∧ barV m = false ∧ lostV e m = false := by
 unfold checkV
 cases manyV e m <;> cases noneV e m <;> cases misV e m <;> by_cases h4 : fieldsV m = 0 <;> cases twiceV e m <;> cases disV e m <;> cases barV m <;> cases lostV e m <;> simp [h4]
theorem checkV_erase {e : List S48} {m : List S38} (h : checkV e m = 0) (i : Nat) (hi : i < m.length) (h2 : ¬ (m.eraseIdx i).length = 0)
  (hno : ∀ k, (hk : k < m.length) → k ≠ i → ∀ f ∈ m[k].f1, ¬ (f.f2 = 15 ∧ f.f3.toList = m[i].f0.toList)) : checkV e (m.eraseIdx i) = 0 := by
 rw [checkV_zero] at h ⊢
 obtain ⟨a1, a2, a3, a4, a5, a6, a7, a8⟩ := h
 have hs : ∀ x ∈ m.eraseIdx i, x ∈ m := fun x hx => List.mem_of_mem_eraseIdx hx
 have hsub : (m.eraseIdx i).Sublist m := List.eraseIdx_sublist m i
 refine ⟨?_, ?_, ?_, ?_, ?_, ?_, ?_, ?_⟩
 ·unfold manyV at a1 ⊢
  simp only [Bool.or_eq_false_iff] at a1 ⊢
  obtain ⟨⟨⟨b1, b2⟩, b3⟩, b4⟩ := a1
  refine ⟨⟨⟨b1, ?_⟩, b3⟩, any_sub hs b4⟩
  have := hsub.length_le
  simp only [decide_eq_false_iff_not] at b2 ⊢
  omega
 ·unfold noneV at a2 ⊢
  simp only [Bool.or_eq_false_iff] at a2 ⊢
  exact ⟨decide_eq_false h2, a2.2⟩
 ·unfold misV at a3 ⊢
  simp only [Bool.or_eq_false_iff] at a3 ⊢
  exact ⟨a3.1, any_sub hs a3.2⟩
 ·rw [fieldsV_zero] at a4 ⊢
  exact fun x hx => a4 x (hs x hx)
 ·unfold twiceV at a5 ⊢
  simp only [Bool.or_eq_false_iff] at a5 ⊢
  obtain ⟨⟨b1, b2⟩, b3⟩ := a5
  refine ⟨⟨?_, b2⟩, any_sub hs b3⟩
  unfold Str.nodupB at b1 ⊢
  simp only [Bool.not_eq_false', decide_eq_true_eq] at b1 ⊢
  exact b1.sublist (((List.Sublist.refl _).append (hsub.map _)).map _)
 ·unfold disV at a6 ⊢
  simp only [Bool.or_eq_false_iff] at a6 ⊢
  obtain ⟨⟨⟨b1, b2⟩, b3⟩, b4⟩ := a6
  refine ⟨⟨⟨b1, ?_⟩, b3⟩, any_sub hs b4⟩
  unfold Str.riseB at b2 ⊢
  simp only [Bool.not_eq_false', decide_eq_true_eq] at b2 ⊢
  rw [Str.rise_iff] at b2 ⊢
  refine b2.sublist (List.Sublist.map _ ?_)
  have := (eraseIdx_drop m i).map (·.f0)
  simpa [List.map_drop] using this
 ·exact any_sub hs a7
 ·unfold lostV at a8 ⊢
  rw [List.any_eq_false] at a8 ⊢
  intro x hx
  have c := a8 x (hs x hx)
  rw [Bool.not_eq_true, List.any_eq_false] at c ⊢
  intro f hf
  have c2 := c f hf
  obtain ⟨k, hk, hkx, hx2⟩ := List.mem_eraseIdx_iff_getElem.1 hx
  have c3 := hno k hk hkx f (by rw [hx2]; exact hf)
  unfold lostF at c2 ⊢
  simp only [Bool.or_eq_true, Bool.and_eq_true, decide_eq_true_eq, Bool.not_eq_true', not_or, not_and, Bool.not_eq_false] at c2 ⊢
  refine ⟨c2.1, fun h15 => ?_⟩
  have c4 := c2.2 h15
  unfold Str.hasB at c4 ⊢
  rw [List.any_eq_true] at c4 ⊢
  obtain ⟨nm, hn1, hn2⟩ := c4
  obtain ⟨y, hy, rfl⟩ := List.mem_map.1 hn1
  refine ⟨y.f0, List.mem_map_of_mem ?_, hn2⟩
  obtain ⟨q, hq, rfl⟩ := List.mem_iff_getElem.1 hy
  refine List.mem_eraseIdx_iff_getElem.2 ⟨q, hq, ?_, rfl⟩
  rintro rfl
  apply c3
  refine ⟨h15, ?_⟩
  rw [Lib.toList_data, Lib.toList_data]
  exact (of_decide_eq_true hn2).symm
theorem SchemaLess : ecdysislaw15_SchemaLess.Pure := by
 intro y n hB hn
 obtain ⟨e, m⟩ := y
 obtain ⟨⟨he, hE⟩, hm, hM⟩ := hB
 simp only at he hE hm hM ⊢
 have hL : Lens e m := ⟨by omega, by omega, fun x hx => by have := (hE x hx).2.1; omega, fun x hx => by have h1 := (hM x hx).2.1.1; have h2 := (hM x hx).2.2.1; omega⟩
 obtain ⟨b, hb⟩ := Small_tells e m hL
 have hc := check_tells e m
 have hlive : ∀ x, Ev (fun k => ecdysislaw15_SchemaLess.j0 k x true e m) true := fun x =>
  Ev.step (f := fun k => (ecdysislaw15_live.f k).bind fun t => some t) (fun k => by simp only [ecdysislaw15_SchemaLess.j0]; rw [if_pos trivial]) (Ev.bind live15_tells (Ev.now _))
 refine Ev.rounds (r := true) ?_
 unfold ecdysislaw15_SchemaLess.f
 refine Ev.bind hb ?_
 cases b with
 | false => exact hlive n
 | true =>
  simp only [if_true]
  refine Ev.bind hc ?_
  simp only [ecdysislaw15_num.f, Option.bind_some]
  by_cases h0 : checkV e m = 0
  ·rw [h0]
   have hz := checkV_zero.1 h0
   obtain ⟨g1, g2, g3, g4⟩ := manyV_false hz.1
   have g5 : 0 < m.length := by
    have := hz.2.1
    unfold noneV at this
    simp only [Bool.or_eq_false_iff, decide_eq_false_iff_not] at this
    omega
   have hn2 : 0 ≤ n ∧ n ≤ 255 := by
    have u1 : IntKind.u8.min = 0 := by decide
    have u2 : IntKind.u8.max = 255 := by decide
    simp [Lit.wf, u1, u2] at hn
    omega
   have hw : wrap64 n = n := by unfold wrap64; omega
   obtain ⟨i, hi, hmod⟩ : ∃ i : Nat, i < m.length ∧ Int.tmod (wrap64 n) (m.length : Int) = (i : Int) := by
    refine ⟨n.toNat % m.length, Nat.mod_lt _ g5, ?_⟩
    rw [hw, Int.tmod_eq_emod_of_nonneg hn2.1, Int.natCast_emod, Int.toNat_of_nonneg hn2.1]
   have hend : (∀ k, (hk : k < m.length) → k ≠ i → ∀ f ∈ m[k].f1, ¬ (f.f2 = 15 ∧ f.f3.toList = m[i].f0.toList)) → Ev (fun k => ecdysislaw15_SchemaLess.l0 k (i : Int) (m.length : Int) e m) true := by
    intro hno
    have hC : Ev (fun k => ecdysisref15_Copy.f k e m) (e, m) := Copy_tells e m (by omega) (fun x hx => by have := g3 x hx; omega) (by omega) (fun x hx => by have := g4 x hx; omega)
    refine Ev.step (f := fun k => (ecdysisref15_Copy.f k e m).bind fun bt => (if 0 ≤ (i : Int) then (if (i : Int) ≤ (bt.2.length : Int) then (if 0 ≤ wrap64 ((i : Int) + 1) then (if wrap64 ((i : Int) + 1) ≤ (bt.2.length : Int) then ((some (bt.2.eraseIdx (i : Int).toNat)).bind fun y => (if (y.length : Int) = 0 then ((schema_Check.f k bt.1 y).bind fun t => ((ecdysislaw15_num.f t).bind fun t => (if t = 5 then ((ecdysislaw15_live.f k).bind fun t => some t) else some false))) else ((schema_Check.f k bt.1 y).bind fun t => ((ecdysislaw15_num.f t).bind fun t => (if t = 0 then ((ecdysislaw15_live.f k).bind fun t => some t) else some false))))) else none) else none) else none) else none)) (fun k => ?_) (Ev.bind hC ?_)
    ·simp only [ecdysislaw15_SchemaLess.l0]
     rw [if_neg (by omega)]
    ·simp only [Option.bind_some, Int.toNat_natCast, wrap_up (show i < 4611686018427387904 by omega), ecdysislaw15_num.f]
     by_cases hz2 : (m.eraseIdx i).length = 0
     ·have hv : checkV e (m.eraseIdx i) = 5 := by
       have : m.eraseIdx i = [] := List.eq_nil_of_length_eq_zero hz2
       rw [this]
       unfold checkV
       have k1 : manyV e [] = false := by
        have := hz.1
        unfold manyV at this ⊢
        simp only [Bool.or_eq_false_iff] at this ⊢
        exact ⟨⟨⟨this.1.1.1, by decide⟩, this.1.2⟩, rfl⟩
       rw [k1, show noneV e [] = true from rfl]
       rfl
      refine Ev.congr (f := fun k => (schema_Check.f k e (m.eraseIdx i)).bind fun t => if t = 5 then ((ecdysislaw15_live.f k).bind fun t => some t) else some false) (fun k => ?_) (Ev.bind (check_tells _ _) ?_)
      ·rw [if_pos (by omega), if_pos (by omega), if_pos (by omega), if_pos (by omega), if_pos (by omega)]
      ·rw [hv]
       simp only [if_true]
       exact Ev.bind live15_tells (Ev.now _)
     ·have hv := checkV_erase h0 i hi hz2 hno
      refine Ev.congr (f := fun k => (schema_Check.f k e (m.eraseIdx i)).bind fun t => if t = 0 then ((ecdysislaw15_live.f k).bind fun t => some t) else some false) (fun k => ?_) (Ev.bind (check_tells _ _) ?_)
      ·rw [if_pos (by omega), if_pos (by omega), if_pos (by omega), if_pos (by omega), if_neg (by omega)]
      ·rw [hv]
       simp only [if_true]
       exact Ev.bind live15_tells (Ev.now _)
   have hl0 := downTo (P := fun q => (∀ k, (hk : k < m.length) → k < q → k ≠ i → ∀ f ∈ m[k].f1, ¬ (f.f2 = 15 ∧ f.f3.toList = m[i].f0.toList)) → Ev (fun k => ecdysislaw15_SchemaLess.l0 k (i : Int) (q : Int) e m) true) (n := m.length) (fun h => hend (fun k hk => h k hk hk)) ?_ 0 (Nat.zero_le _)
   ·have hx := hl0 (fun k _ h => absurd h (Nat.not_lt_zero k))
    rw [show ((0 : Int) != 0) = false from rfl]
    refine Ev.step (fun k => ?_) hx
    simp only [ecdysislaw15_SchemaLess.j0]
    rw [if_neg (by decide), if_neg (by omega), hmod]
    rfl
   ·intro q hq ih hbef
    have hxq : rd_T38 m (q : Int) = m[q] := by simp [rd_T38, hq]
    have hxi : rd_T38 m (i : Int) = m[i] := by simp [rd_T38, hi]
    have gq := g4 m[q] (List.getElem_mem hq)
    have hl1 := downTo (P := fun j => (∀ j', (hj : j' < m[q].f1.length) → j' < j → q ≠ i → ¬ (m[q].f1[j'].f2 = 15 ∧ m[q].f1[j'].f3.toList = m[i].f0.toList)) → Ev (fun k => ecdysislaw15_SchemaLess.l1 k (i : Int) (q : Int) (j : Int) e m) true) (n := m[q].f1.length) ?_ ?_ 0 (Nat.zero_le _)
    ·refine Ev.step (fun k => ?_) (hl1 (fun j _ h => absurd h (Nat.not_lt_zero j)))
     simp only [ecdysislaw15_SchemaLess.l0]
     rw [if_pos (by omega)]
     rfl
    ·intro hb2
     refine Ev.step (fun k => ?_) (ih (fun k hk hkq hki f hf => ?_))
     ·simp only [ecdysislaw15_SchemaLess.l1]
      rw [if_pos (by omega), if_pos (by omega), hxq, if_neg (by omega), wrap_up (by omega)]
     ·by_cases hkq2 : k = q
      ·subst hkq2
       obtain ⟨j, hj, rfl⟩ := List.mem_iff_getElem.1 hf
       exact hb2 j hj hj hki
      ·exact hbef k hk (by omega) hki f hf
    ·intro j hj ihj hb2
     have hy : rd_T40 m[q].f1 (j : Int) = m[q].f1[j] := by simp [rd_T40, hj]
     by_cases hbad : q ≠ i ∧ m[q].f1[j].f2 = 15 ∧ m[q].f1[j].f3.toList = m[i].f0.toList
     ·refine Ev.step (f := fun k => (ecdysislaw15_live.f k).bind fun t => some t) (fun k => ?_) (Ev.bind live15_tells (Ev.now _))
      simp only [ecdysislaw15_SchemaLess.l1]
      rw [if_pos (by omega), if_pos (by omega), hxq, if_pos (by omega), if_pos (by omega), hy, if_neg (by omega), if_pos hbad.2.1, if_pos (by omega), if_pos (by omega), hxi, if_pos hbad.2.2]
     ·refine Ev.step (fun k => ?_) (ihj (fun j' hj' hjj hqi => ?_))
      ·simp only [ecdysislaw15_SchemaLess.l1]
       rw [if_pos (by omega), if_pos (by omega), hxq, if_pos (by omega), if_pos (by omega), hy, hxi, wrap_up (by omega)]
       by_cases c1 : q = i
       ·rw [if_pos (by omega)]
       ·rw [if_neg (by omega)]
        by_cases c2 : m[q].f1[j].f2 = 15
        ·rw [if_pos c2, if_pos (by omega), if_pos (by omega), if_neg (fun c3 => hbad ⟨c1, c2, c3⟩)]
        ·rw [if_neg c2]
      ·by_cases e1 : j' = j
       ·subst e1
        exact fun h => hbad ⟨hqi, h⟩
       ·exact hb2 j' hj' (by omega) hqi
  ·rw [show (checkV e m != 0) = true from bne_iff_ne.mpr h0]
   exact hlive n
end Go.Proofs.Ytelhcijoegjjnaa.Pure
