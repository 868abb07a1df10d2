/- Plain facts on lists of texts: rising lists, sorting, and that a text is there once. No program. -/
import Derived.Sort.Walk0
import Derived.Lib.OwnBridge
import Derived.Lib.Strings
import Derived.Lib.Hide
namespace Go.Proofs.Ytelhcijoegjjnaa.Str

theorem le_trans' (a b c : List UInt8) (h1 : decide (a ≤ b) = true) (h2 : decide (b ≤ c) = true) : decide (a ≤ c) = true :=
  decide_eq_true (List.le_trans (of_decide_eq_true h1) (of_decide_eq_true h2))
theorem le_total' (a b : List UInt8) : (decide (a ≤ b) || decide (b ≤ a)) = true := by
  rcases List.le_total a b with h | h <;> simp [h]

/-- The sorted list, as slices.Sort leaves it. -/
def sorted (l : List (List UInt8)) : List (List UInt8) := l.mergeSort fun x y => decide (x ≤ y)
theorem sorted_length (l : List (List UInt8)) : (sorted l).length = l.length := by simp [sorted]
theorem sorted_perm (l : List (List UInt8)) : (sorted l).Perm l := List.mergeSort_perm _ _
theorem sorted_le (l : List (List UInt8)) : (sorted l).Pairwise (· ≤ ·) :=
  (List.pairwise_mergeSort le_trans' le_total' l).imp (fun h => of_decide_eq_true h)

/-- Each is above the one ahead of it. -/
def Rise (l : List (List UInt8)) : Prop := ∀ j, 0 < j → ∀ a b, l[j-1]? = some a → l[j]? = some b → a < b
theorem rise_cons {a b : List UInt8} {l : List (List UInt8)} : Rise (a :: b :: l) ↔ a < b ∧ Rise (b :: l) := by
  constructor
  · intro h
    refine ⟨h 1 (by omega) a b rfl rfl, fun j hj x y hx hy => ?_⟩
    refine h (j + 1) (by omega) x y ?_ (by simpa using hy)
    obtain ⟨k, rfl⟩ : ∃ k, j = k + 1 := ⟨j - 1, by omega⟩
    simpa using hx
  · rintro ⟨h1, h2⟩ j hj x y hx hy
    rcases Nat.lt_or_ge j 2 with h | h
    · obtain rfl : j = 1 := by omega
      simp at hx hy
      subst hx; subst hy
      exact h1
    · obtain ⟨k, rfl⟩ : ∃ k, j = k + 2 := ⟨j - 2, by omega⟩
      exact h2 (k + 1) (by omega) x y (by simpa using hx) (by simpa using hy)
theorem rise_nil : Rise [] := fun j _ a b h => by simp at h
theorem rise_one (a : List UInt8) : Rise [a] := fun j hj x y _ hy => by
  have := (List.getElem?_eq_some_iff.1 hy).1
  simp at this
  omega
theorem rise_iff : ∀ l : List (List UInt8), Rise l ↔ l.Pairwise (· < ·)
  | [] => by simp [rise_nil]
  | [a] => by simp [rise_one]
  | a :: b :: l => by
    rw [rise_cons, rise_iff (b :: l), List.pairwise_cons (a := a)]
    constructor
    · rintro ⟨h1, h2⟩
      refine ⟨fun c hc => ?_, h2⟩
      rcases List.mem_cons.1 hc with rfl | hc
      · exact h1
      · exact List.lt_trans h1 ((List.pairwise_cons.1 h2).1 c hc)
    · rintro ⟨h1, h2⟩
      exact ⟨h1 b List.mem_cons_self, h2⟩
theorem rise_nodup {l : List (List UInt8)} (h : Rise l) : l.Nodup :=
  ((rise_iff l).1 h).imp (fun {a b} hab e => by subst e; exact List.lt_irrefl a hab)
theorem sorted_rise (l : List (List UInt8)) : Rise (sorted l) ↔ l.Nodup := by
  rw [rise_iff, ← (sorted_perm l).nodup_iff]
  constructor
  · intro h
    exact rise_nodup ((rise_iff _).2 h)
  · intro h
    have h2 := sorted_le l
    refine (List.Pairwise.and h2 h).imp ?_
    rintro a b ⟨h1, h2⟩
    by_cases hlt : a < b
    · exact hlt
    · exact absurd (List.le_antisymm h1 (List.not_lt.1 hlt)) h2

/-! the words of the languages -/
def words0 : List (List UInt8) := [[101, 110, 117, 109], [109, 101, 115, 115, 97, 103, 101], [111, 110, 101, 111, 102], [114, 101, 112, 101, 97, 116, 101, 100], [114, 101, 115, 101, 114, 118, 101, 100], [108, 111, 111, 115, 101]]
def words1 : List (List UInt8) := [[105, 110, 116, 51, 50], [105, 110, 116, 54, 52], [117, 105, 110, 116, 51, 50], [117, 105, 110, 116, 54, 52], [115, 105, 110, 116, 51, 50], [115, 105, 110, 116, 54, 52], [98, 111, 111, 108]]
def words2 : List (List UInt8) := [[102, 105, 120, 101, 100, 51, 50], [102, 105, 120, 101, 100, 54, 52], [115, 102, 105, 120, 101, 100, 51, 50], [115, 102, 105, 120, 101, 100, 54, 52], [115, 116, 114, 105, 110, 103], [98, 121, 116, 101, 115]]
def words3 : List (List UInt8) := [[114, 101, 110, 97, 109, 101], [114, 101, 110, 117, 109, 98, 101, 114], [114, 101, 116, 121, 112, 101], [115, 112, 108, 105, 116], [106, 111, 105, 110], [119, 114, 97, 112], [117, 110, 119, 114, 97, 112], [97, 100, 100], [100, 114, 111, 112]]
def words4 : List (List UInt8) := [[116, 111], [105, 110, 116, 111], [97, 115], [111, 102], [100, 101, 102, 97, 117, 108, 116], [116, 114, 117, 101], [102, 97, 108, 115, 101]]
def words : List (List UInt8) := words0 ++ words1 ++ words2 ++ words3 ++ words4
/-- May a byte stand in a name, at its begin, or behind? -/
def nameByte (first : Bool) (c : UInt8) : Bool := decide (97 ≤ c.toNat ∧ c.toNat ≤ 122 ∨ 65 ≤ c.toNat ∧ c.toNat ≤ 90 ∨ first = false ∧ (48 ≤ c.toNat ∧ c.toNat ≤ 57 ∨ c.toNat = 95))
/-- Do the bytes of a text all stand where they may? -/
def bytesOk : List UInt8 → Bool
  | [] => true
  | c :: t => nameByte true c && t.all (nameByte false)
theorem bytesOk_iff (l : List UInt8) : bytesOk l = true ↔ ∀ j c, l[j]? = some c → nameByte (j == 0) c = true := by
  rcases l with _ | ⟨a, t⟩
  · simp [bytesOk]
  · unfold bytesOk
    rw [Bool.and_eq_true, List.all_eq_true]
    constructor
    · rintro ⟨h1, h2⟩ j c hc
      rcases j with _ | j
      · simp at hc; subst hc; exact h1
      · simp at hc ⊢; exact h2 c (List.mem_of_getElem? hc)
    · intro h
      refine ⟨h 0 a rfl, fun c hc => ?_⟩
      obtain ⟨j, hj⟩ := List.mem_iff_getElem?.1 hc
      exact h (j + 1) c (by simpa using hj)
end Go.Proofs.Ytelhcijoegjjnaa.Str
