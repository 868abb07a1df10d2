/- Plain facts on what is printed of the laws on names: the reference's loops, the examples. -/
import Derived.Test.YtelhcijoegjjnaaPxecdysisref09Once
import Derived.Test.YtelhcijoegjjnaaPxecdysisref09Rise
import Derived.Test.YtelhcijoegjjnaaPxidentOnce
import Derived.Test.YtelhcijoegjjnaaPxidentRight
import Derived.Test.YtelhcijoegjjnaaPxecdysislaw09live
namespace Go.Proofs.Ytelhcijoegjjnaa.P
open Go.RowKit Go.Proofs.YtelhcijoegjjnaaW.PrintWords

/-- The bytes' lists of texts. -/
abbrev bsOf (l : List ByteArray) : List (List UInt8) := l.map (·.data.toList)
theorem bsOf_at (l : List ByteArray) (n : Nat) (h : n < l.length) : (bsOf l)[n]? = some (l[n].data.toList) := by simp [bsOf, h]
theorem rdOf_bytes (l : List ByteArray) (n : Nat) (h : n < l.length) : (rdOf ByteArray.empty l (n : Int)).toList = l[n].data.toList := by
  rw [Lib.toList_data]; unfold rdOf; simp [h]

theorem refRise_from (l : List ByteArray) (hn : l.length ≤ 4611686018427387904) (d : Nat) : ∀ (k i : Nat), 1 ≤ i → (i ≤ l.length ∨ i = 1) → l.length - i = d → d < k →
    ∃ r, ecdysisref09_Rise.l0 k l (i : Int) = some r ∧ (r = true ↔ ∀ j : Nat, i ≤ j → 0 < j → ∀ a b, (bsOf l)[j-1]? = some a → (bsOf l)[j]? = some b → a < b) := by
  induction d with
  | zero =>
    intro k i h0 h1 hd hk
    obtain ⟨k, rfl⟩ : ∃ m, k = m + 1 := ⟨k - 1, by omega⟩
    refine ⟨true, by simp only [ecdysisref09_Rise.l0]; rw [if_neg (by omega)], by simp only [true_iff]; intro j hj _ a b _ hb; have := (List.getElem?_eq_some_iff.1 hb).1; simp at this; omega⟩
  | succ d ih =>
    intro k i h0 h1 hd hk
    obtain ⟨k, rfl⟩ : ∃ m, k = m + 1 := ⟨k - 1, by omega⟩
    have hw : wrap64 ((i : Int) + 1) = ((i + 1 : Nat) : Int) := by unfold wrap64; omega
    have hm : wrap64 ((i : Int) - 1) = ((i - 1 : Nat) : Int) := by unfold wrap64; omega
    obtain ⟨r, hr, hI⟩ := ih k (i + 1) (by omega) (by omega) (by omega) (by omega)
    have e1 := rdOf_bytes l (i - 1) (by omega)
    have e2 := rdOf_bytes l i (by omega)
    have g1 := bsOf_at l (i - 1) (by omega)
    have g2 := bsOf_at l i (by omega)
    by_cases hless : Op.bytesLess (l[i-1]'(by omega)).data.toList (l[i]'(by omega)).data.toList = true
    · refine ⟨r, ?_, ?_⟩
      · simp only [ecdysisref09_Rise.l0]
        rw [if_pos (by omega), hm, if_pos (by omega), if_pos (by omega), if_pos (by omega), e1, e2, if_pos hless, hw]
        exact hr
      · rw [hI]
        constructor
        · intro h j hj hj0 a b ha hb
          by_cases e : j = i
          · subst e
            rw [g1] at ha; rw [g2] at hb
            obtain rfl := Option.some.inj ha
            obtain rfl := Option.some.inj hb
            rw [bytesLess_eq] at hless
            exact of_decide_eq_true hless
          · exact h j (by omega) hj0 a b ha hb
        · intro h j hj hj0 a b ha hb
          exact h j (by omega) hj0 a b ha hb
    · refine ⟨false, ?_, ?_⟩
      · simp only [ecdysisref09_Rise.l0]
        rw [if_pos (by omega), hm, if_pos (by omega), if_pos (by omega), if_pos (by omega), e1, e2, if_neg hless]
      · simp only [Bool.false_eq_true, false_iff]
        intro h
        have := h i (by omega) (by omega) _ _ g1 g2
        rw [bytesLess_eq] at hless
        exact hless (decide_eq_true this)
theorem refRise_tells (l : List ByteArray) (hn : l.length ≤ 4611686018427387904) : ∃ r, Ev (fun k => ecdysisref09_Rise.f k l) r ∧ (r = true ↔ Str.Rise (bsOf l)) := by
  obtain ⟨r, hr, hI⟩ := refRise_from l hn (l.length - 1) (l.length + 1) 1 (by omega) (.inr rfl) (by omega) (by omega)
  refine ⟨r, Ev.of (ecdysisref09_Rise.mono l) (k := l.length + 1) hr, hI.trans ?_⟩
  constructor
  · intro h j hj0 a b ha hb
    exact h j hj0 hj0 a b ha hb
  · intro h j _ hj0 a b ha hb
    exact h j hj0 a b ha hb
theorem Rise_tells (l : List ByteArray) (hn : l.length ≤ 4611686018427387904) : ∃ r, Ev (fun k => ident_Rise.f k l) r ∧ (r = true ↔ Str.Rise (bsOf l)) := by
  obtain ⟨k, r, hr, hI⟩ := ident_Rise.tells l hn
  exact ⟨r, Ev.of (ident_Rise.mono l) hr, hI⟩

/-- The reference's double loop. -/
theorem refOnce_inner (l : List ByteArray) (hn : l.length ≤ 4611686018427387904) (i : Nat) (hi : i < l.length) (g : Nat → Option Bool) (r : Bool) (hg : Ev g r) (hG : ∀ k, ecdysisref09_Once.l0 k l ((i : Int) + 1) = g k) (d : Nat) :
    ∀ (j : Nat), j ≤ i → i - j = d → ∃ q, Ev (fun k => ecdysisref09_Once.l1 k l (i : Int) (j : Int)) q ∧ (q = true ↔ r = true ∧ ∀ m, j ≤ m → m < i → (bsOf l)[m]? ≠ (bsOf l)[i]?) := by
  have hwi : wrap64 ((i : Int) + 1) = (i : Int) + 1 := by unfold wrap64; omega
  induction d with
  | zero =>
    intro j hj hd
    refine ⟨r, Ev.step (f := g) (fun k => ?_) hg, ?_⟩
    · simp only [ecdysisref09_Once.l1]
      rw [if_neg (by omega), hwi]; exact hG k
    · constructor
      · intro h
        exact ⟨h, fun m h1 h2 => by omega⟩
      · exact fun h => h.1
  | succ d ih =>
    intro j hj hd
    obtain ⟨q, hq, hI⟩ := ih (j + 1) (by omega) (by omega)
    have hwj : wrap64 ((j : Int) + 1) = ((j + 1 : Nat) : Int) := by unfold wrap64; omega
    have e1 := rdOf_bytes l i hi
    have e2 := rdOf_bytes l j (by omega)
    have g1 := bsOf_at l i hi
    have g2 := bsOf_at l j (by omega)
    by_cases he : l[i].data.toList = (l[j]'(by omega)).data.toList
    · refine ⟨false, Ev.step (f := fun _ => some false) (fun k => ?_) (Ev.now _), ?_⟩
      · simp only [ecdysisref09_Once.l1]
        rw [if_pos (by omega), if_pos (by omega), if_pos (by omega), if_pos (by omega), if_pos (by omega), e1, e2, if_pos he]
      · simp only [Bool.false_eq_true, false_iff, not_and]
        intro _ h
        exact h j (Nat.le_refl _) (by omega) (by rw [g1, g2, he])
    · refine ⟨q, Ev.step (f := fun k => ecdysisref09_Once.l1 k l (i : Int) ((j + 1 : Nat) : Int)) (fun k => ?_) hq, ?_⟩
      · simp only [ecdysisref09_Once.l1]
        rw [if_pos (by omega), if_pos (by omega), if_pos (by omega), if_pos (by omega), if_pos (by omega), e1, e2, if_neg he, hwj]
      · rw [hI]
        constructor
        · rintro ⟨h1, h2⟩
          refine ⟨h1, fun m hm1 hm2 => ?_⟩
          by_cases e : m = j
          · subst e
            rw [g1, g2]
            intro e
            exact he (Option.some.inj e).symm
          · exact h2 m (by omega) hm2
        · rintro ⟨h1, h2⟩
          exact ⟨h1, fun m hm1 hm2 => h2 m (by omega) hm2⟩
theorem refOnce_outer (l : List ByteArray) (hn : l.length ≤ 4611686018427387904) (d : Nat) : ∀ (i : Nat), i ≤ l.length → l.length - i = d →
    ∃ q, Ev (fun k => ecdysisref09_Once.l0 k l (i : Int)) q ∧ (q = true ↔ ∀ n, i ≤ n → n < l.length → ∀ m, m < n → (bsOf l)[m]? ≠ (bsOf l)[n]?) := by
  induction d with
  | zero =>
    intro i hi hd
    refine ⟨true, Ev.step (f := fun _ => some true) (fun k => ?_) (Ev.now _), ?_⟩
    · simp only [ecdysisref09_Once.l0]
      rw [if_neg (by omega)]
    · simp only [true_iff]
      intro n h1 h2
      omega
  | succ d ih =>
    intro i hi hd
    obtain ⟨r, hr, hI⟩ := ih (i + 1) (by omega) (by omega)
    obtain ⟨q, hq, hJ⟩ := refOnce_inner l hn i (by omega) _ r hr (fun k => by rw [show ((i + 1 : Nat) : Int) = (i : Int) + 1 by omega]) i 0 (by omega) (by omega)
    refine ⟨q, Ev.step (f := fun k => ecdysisref09_Once.l1 k l (i : Int) ((0 : Nat) : Int)) (fun k => ?_) hq, ?_⟩
    · simp only [ecdysisref09_Once.l0]
      rw [if_pos (by omega)]
      rfl
    · rw [hJ, hI]
      constructor
      · rintro ⟨h1, h2⟩ n hn1 hn2 m hm
        by_cases e : n = i
        · subst e; exact h2 m (by omega) hm
        · exact h1 n (by omega) hn2 m hm
      · intro h
        exact ⟨fun n hn1 hn2 m hm => h n (by omega) hn2 m hm, fun m _ hm => h i (Nat.le_refl _) (by omega) m hm⟩
theorem nodup_iff_at (l : List (List UInt8)) : l.Nodup ↔ ∀ n, n < l.length → ∀ m, m < n → l[m]? ≠ l[n]? := by
  unfold List.Nodup
  rw [List.pairwise_iff_getElem]
  constructor
  · intro h n hn m hm e
    rw [List.getElem?_eq_getElem hn, List.getElem?_eq_getElem (by omega)] at e
    exact h m n (by omega) hn hm (Option.some.inj e)
  · intro h i j hi hj hij e
    exact h j hj i hij (by rw [List.getElem?_eq_getElem hi, List.getElem?_eq_getElem hj, e])
theorem refOnce_tells (l : List ByteArray) (hn : l.length ≤ 4611686018427387904) : Ev (fun k => ecdysisref09_Once.f k l) (decide (bsOf l).Nodup) := by
  obtain ⟨q, hq, hI⟩ := refOnce_outer l hn l.length 0 (by omega) (by omega)
  have : q = decide (bsOf l).Nodup := by
    rw [Bool.eq_iff_iff, hI, decide_eq_true_iff, nodup_iff_at]
    simp [bsOf]
  rw [← this]
  exact hq
theorem live_tells : ecdysislaw09_live.f = some true := by decide +kernel
end Go.Proofs.Ytelhcijoegjjnaa.P
