-- Written by a program of this session (wip/tools/pp.py) for this claim.
import Derived.Test.YtelhcijoegjjnaaPx0
import Derived.Test.YtelhcijoegjjnaaPxidentRise
import Derived.Test.YtelhcijoegjjnaaShelf
import Derived.Test.YtelhcijoegjjnaaStr
namespace Go.Proofs.Ytelhcijoegjjnaa.P
open Go.RowKit Go.Proofs.YtelhcijoegjjnaaW.PrintWords Go.Proofs.YtelhcijoegjjnaaW.PrintLast Go.Proofs.YtelhcijoegjjnaaW.PrintMore
attribute [local go_sem] max2_int min2_int max_two min_two max_three min_three max_four min_four   -- for this text's walks alone
set_option linter.unusedVariables false
set_option linter.unusedSimpArgs false

/-! ### ident_Once: function 9 -/
-- by hand
/-- ident.Rise, as a loop from i on: it answers, and what it answers. -/
theorem ident_Rise.from_ (l : List ByteArray) (hn : l.length ≤ 4611686018427387904) (d : Nat) : ∀ (k : Nat) (i : Int), 0 ≤ i → i ≤ l.length → (l.length : Int) - i = d → d < k →
    ∃ r, ident_Rise.l0 k l l (l.length : Int) i = some r ∧ (r = true ↔ ∀ j : Nat, i ≤ j → 0 < j → ∀ a b, (l.map (·.data.toList))[j-1]? = some a → (l.map (·.data.toList))[j]? = some b → a < b) := by
  induction d with
  | zero =>
    intro k i h0 h1 hd hk
    obtain ⟨k, rfl⟩ : ∃ m, k = m + 1 := ⟨k - 1, by omega⟩
    refine ⟨true, by simp only [ident_Rise.l0]; rw [if_neg (by omega)], by simp only [true_iff]; intro j hj _ a b _ hb; have := (List.getElem?_eq_some_iff.1 hb).1; simp at this; omega⟩
  | succ d ih =>
    intro k i h0 h1 hd hk
    obtain ⟨k, rfl⟩ : ∃ m, k = m + 1 := ⟨k - 1, by omega⟩
    have hlt : i < (l.length : Int) := by omega
    have hw : wrap64 (i + 1) = i + 1 := by unfold wrap64; omega
    obtain ⟨r, hr, hI⟩ := ih k (i + 1) (by omega) (by omega) (by omega) (by omega)
    obtain ⟨n, rfl⟩ : ∃ n : Nat, i = n := ⟨i.toNat, by omega⟩
    have hnl : n < l.length := by omega
    have hgn : (l.map (·.data.toList))[n]? = some (l[n].data.toList) := by simp [hnl]
    by_cases hi : (n : Int) > 0
    · have hm : wrap64 ((n : Int) - 1) = (n : Int) - 1 := by unfold wrap64; omega
      have hgm : (l.map (·.data.toList))[n-1]? = some ((l[n-1]'(by omega)).data.toList) := by simp [show n - 1 < l.length by omega]
      have e1 : (rdOf ByteArray.empty l ((n : Int) - 1)).toList = (l[n-1]'(by omega)).data.toList := by
        rw [Lib.toList_data]; unfold rdOf; rw [show ((n : Int) - 1).toNat = n - 1 by omega]; simp [show n - 1 < l.length by omega]
      have e2 : (rdOf ByteArray.empty l (n : Int)).toList = l[n].data.toList := by
        rw [Lib.toList_data]; unfold rdOf; simp [hnl]
      by_cases hless : Op.bytesLess (l[n-1]'(by omega)).data.toList l[n].data.toList = true
      · refine ⟨r, ?_, ?_⟩
        · simp only [ident_Rise.l0]
          rw [if_pos hlt, if_pos h0, if_pos hlt, if_pos hi, hm, if_pos (by omega), if_pos (by omega), e1, e2, if_pos hless, hw]
          exact hr
        · rw [hI]
          constructor
          · intro h j hj hj0 a b ha hb
            by_cases e : j = n
            · subst e
              rw [hgm] at ha; rw [hgn] at hb
              obtain rfl := Option.some.inj ha
              obtain rfl := Option.some.inj hb
              rw [bytesLess_eq] at hless
              exact of_decide_eq_true hless
            · exact h j (by omega) hj0 a b ha hb
          · intro h j hj hj0 a b ha hb
            exact h j (by omega) hj0 a b ha hb
      · refine ⟨false, ?_, ?_⟩
        · simp only [ident_Rise.l0]
          rw [if_pos hlt, if_pos h0, if_pos hlt, if_pos hi, hm, if_pos (by omega), if_pos (by omega), e1, e2, if_neg hless]
        · simp only [Bool.false_eq_true, false_iff]
          intro h
          have := h n (by omega) (by omega) _ _ hgm hgn
          rw [bytesLess_eq] at hless
          exact hless (decide_eq_true this)
    · refine ⟨r, ?_, ?_⟩
      · simp only [ident_Rise.l0]
        rw [if_pos hlt, if_pos h0, if_pos hlt, if_neg hi, hw]
        exact hr
      · rw [hI]
        constructor
        · intro h j hj hj0 a b ha hb
          exact h j (by omega) hj0 a b ha hb
        · intro h j hj hj0 a b ha hb
          exact h j (by omega) hj0 a b ha hb
theorem ident_Rise.tells (l : List ByteArray) (hn : l.length ≤ 4611686018427387904) : ∃ k r, ident_Rise.f k l = some r ∧ (r = true ↔ Str.Rise (l.map (·.data.toList))) := by
  obtain ⟨r, hr, hI⟩ := ident_Rise.from_ l hn l.length (l.length + 1) 0 (by omega) (by omega) (by omega) (by omega)
  refine ⟨l.length + 1, r, hr, hI.trans ?_⟩
  constructor
  · intro h j hj0 a b ha hb
    exact h j (by omega) hj0 a b ha hb
  · intro h j _ hj0 a b ha hb
    exact h j hj0 a b ha hb
def ident_Once.f (l0 : List ByteArray) : Option Bool := if l0.length * 16 ≤ 140737488355328 then some (decide (l0.map (·.data.toList)).Nodup) else none
theorem Once_C_of_holds {w : World} {g : Nat} {ss : List (List UInt8)} {xs : List ByteArray} (h : Sort.Holds encStr w g 0 ss.toArray) (e : xs.map (·.data.toList) = ss) (hn : xs.length ≤ 9223372036854775807) : Kd.C Kd.string w (some ⟨g, 0, none⟩) xs.length xs := by
  refine ⟨rfl, hn, fun _ => ⟨_, rfl, fun j p hj => ⟨[.string p], rfl, rfl, fun i u hu => ?_⟩⟩⟩
  obtain ⟨hl, hp⟩ := List.getElem?_eq_some_iff.1 hj
  have hi : i = 0 := by
    have := (List.getElem?_eq_some_iff.1 hu).1
    simp at this
    omega
  subst hi
  obtain rfl : Value.string p = u := by simpa using hu
  subst e
  have h1 := (h j (by simpa using hl)).1
  rw [show (Addr.add ⟨g, 0, none⟩ (j * (Kd.string).sz + 0)) = ⟨g, 0 + j, none⟩ by
    show Addr.add ⟨g, 0, none⟩ (j * 1 + 0) = _
    rw [Addr.add_lit]; simp]
  rw [h1]
  subst hp
  simp [encStr, hl]
set_option maxHeartbeats 4000000 in
set_option maxRecDepth 100000 in
theorem ident_Once.calls (A0 : Option Addr) (c0 : Nat) (l0 : List ByteArray) (r : Bool) (w : World) (hr0 : Kd.C Kd.string w A0 l0.length l0) (hc0 : l0.length ≤ c0) (h : ident_Once.f l0 = some r) :
    Calls Try.prog 9 #[.slice A0 l0.length c0] w fun e w' => e = .returned (.bool r) ∧ Below w.heap.size w w' := by
  unfold ident_Once.f at h
  split at h
  case isFalse => cases h
  case isTrue hlim =>
  have hR : ∀ (g cap : Nat) (l : List ByteArray) (r : Bool) (W : World), (Sort.Holds encStr W g 0 (Str.sorted (l.map (·.data.toList))).toArray) → l.length ≤ 4611686018427387904 → l.length ≤ cap → decide (l.map (·.data.toList)).Nodup = r →
      Calls Try.prog 7 #[.slice (some ⟨g, 0, none⟩) l.length cap] W fun e w' => e = .returned (.bool r) ∧ Drawn0 W w' := by
    intro g cap l r W hH hl hcap hr
    obtain ⟨xs, hxs⟩ : ∃ xs : List ByteArray, xs.map (·.data.toList) = Str.sorted (l.map (·.data.toList)) :=
      ⟨(Str.sorted (l.map (·.data.toList))).map (fun b => ⟨b.toArray⟩), by rw [List.map_map]; simp [Function.comp_def]⟩
    have hlen : xs.length = l.length := by
      have := congrArg List.length hxs
      simpa [Str.sorted_length] using this
    obtain ⟨k, r', hk, hiff⟩ := ident_Rise.tells xs (by omega)
    rw [hxs, Str.sorted_rise] at hiff
    obtain rfl : r' = r := by
      rw [← hr, Bool.eq_iff_iff, hiff]; simp
    rw [← hlen]
    exact ident_Rise.calls k (some ⟨g, 0, none⟩) cap xs r' W (Once_C_of_holds hH hxs (by omega)) (by omega) hk
  have hB : ∀ (W : World) (m : Nat) (g : Nat) (ss : List (List UInt8)) (os : Array Obj), Below w.heap.size w W → w.heap.size ≤ g → Below w.heap.size w (Sort.grow (Sort.putRow encStr (Sort.ahead W m) g 0 ss.toArray) os) := by
    intro W m g ss os hb hg
    have h1 := Lib.below_putRow (enc := encStr) (q := m) (d := ss.toArray) hb hg
    exact ⟨h1.os, h1.tape, h1.output, by rw [Sort.size_grow]; exact Nat.le_trans h1.size (Nat.le_add_right _ _), fun k hk => by
      rw [Sort.heap_grow_old _ _ (Nat.lt_of_lt_of_le hk h1.size)]; exact h1.block k hk⟩
  have hfin : ∀ W e W', Below w.heap.size w W → (e = Ending.returned (.bool r) ∧ Drawn0 W W') → e = Ending.returned (.bool r) ∧ Below w.heap.size w W' := by
    rintro W e W' hb ⟨rfl, hd⟩
    exact ⟨rfl, hb.trans ((hd.below).mono hb.size)⟩
  obtain rfl := Option.some.inj h
  rcases l0 with _ | ⟨x, xs⟩
  · -- no texts
    have hclone : Calls Try.prog 17 #[.slice A0 0 c0] w fun e w' => ∃ p cap, e = .returned (.slice p 0 cap) ∧ Below w.heap.size w w' := by
      rcases A0 with _ | a
      · exact (Try.slices_Clone_string_nil 0 c0 w).mono (by rintro e w' ⟨rfl, rfl⟩; exact ⟨none, 0, rfl, Below.refl _ _⟩)
      · refine (Try.slices_Clone_string_zero a c0 w).mono ?_
        rintro e w' ⟨v, rfl, ho, hne, hb⟩
        rcases ho.2 with ⟨rfl, _⟩ | ⟨g, cap, cur, rfl, _⟩
        · exact absurd rfl hne
        · exact ⟨_, _, rfl, hb⟩
    have hrise : ∀ p cap W, Calls Try.prog 7 #[.slice p 0 cap] W fun e w' => e = .returned (.bool true) ∧ Drawn0 W w' := fun p cap W =>
      ident_Rise.calls 1 p cap [] true W ⟨rfl, by simp, fun h => absurd h (by simp)⟩ (by simp) rfl
    have HF := Lib.hid hfin
    clear hfin hR hB hr0 hc0 hlim
    go_enter Try.func9, Try.ntmps9
    go_wp2_with (first | (go_at_call 17; refine hclone.mono ?_; rintro e w' ⟨p, cap, rfl, hb⟩; have HB := Lib.hid hb; clear hb) | (go_at_call 18; refine (Try.slices_Sort_string_none _ _ _).mono ?_; rintro e w' ⟨rfl, rfl⟩) | (go_at_call 7; refine (hrise _ _ _).mono ?_; rintro e w' ⟨rfl, hd⟩))
    go_ret
    exact HF.out _ _ _ HB.out ⟨by simp, hd⟩
  · obtain ⟨ad, rfl, hcell⟩ : ∃ ad, A0 = some ad ∧ ∀ j, j < (x :: xs).length → w.cell? (ad.add j) = some (.string ((x :: xs).getD j ByteArray.empty)) := by
      obtain ⟨ad, e, _⟩ := Kd.at_string hr0 0 (by omega) (by simp)
      refine ⟨ad, e, fun j hj => ?_⟩
      obtain ⟨ad', e', hc⟩ := Kd.at_string hr0 (j : Int) (by omega) (by exact_mod_cast hj)
      obtain rfl : ad = ad' := by rw [e] at e'; exact Option.some.inj e'
      simpa [rdOf] using hc
    obtain ⟨b, off, rfl⟩ : ∃ b off, ad = ⟨b, off, none⟩ := by
      have h0 := hcell 0 (by simp)
      rw [show ad.add 0 = ad from rfl] at h0
      rcases ad with ⟨b, off, spot⟩
      rcases spot with _ | s
      · exact ⟨b, off, rfl⟩
      · exfalso
        unfold World.cell? at h0
        split at h0 <;> simp at h0
    generalize hl : x :: xs = l at *
    have hne : 0 < l.length := by rw [← hl]; simp
    clear hl x xs
    have hclone : Calls Try.prog 17 #[.slice (some ⟨b, off, none⟩) l.length c0] w fun e w' => ∃ g cap, e = .returned (.slice (some ⟨g, 0, none⟩) l.length cap) ∧ w.heap.size ≤ g ∧ g < w'.heap.size ∧ l.length ≤ cap ∧ Sort.Holds encStr w' g 0 (l.map (·.data.toList)).toArray ∧ Below w.heap.size w w' := by
      refine (Try.slices_Clone_string b off l.length c0 l w (Nat.le_refl _) hlim (fun j hj => by
        have := hcell j hj
        rwa [Addr.add_lit] at this)).mono ?_
      rintro e w' ⟨v, rfl, ho, hnn, hb⟩
      rw [List.take_length, ← Lib.map_encStr] at ho
      obtain ⟨g, cap, rfl, hg, hlt, hcap, _, _, hH⟩ := Lib.holds_of_ownsRow ho hnn
      exact ⟨g, cap, rfl, hg, hlt, hcap, hH, hb⟩
    have hsort : ∀ g cap W, g < W.heap.size → Sort.Holds encStr W g 0 (l.map (·.data.toList)).toArray → Calls Try.prog 18 #[.slice (some ⟨g, 0, none⟩) l.length cap] W fun e w' =>
        e = .returned (.tuple #[]) ∧ ∃ n os, w' = Sort.grow (Sort.putRow encStr (Sort.ahead W n) g 0 (Str.sorted (l.map (·.data.toList))).toArray) os := by
      intro g cap W hg hH
      have := Try.slices_Sort_string g 0 cap (l.map (·.data.toList)) W hH hg (by simp; omega)
      rwa [List.length_map] at this
    have hafter : ∀ g W n os, g < W.heap.size → Sort.Holds encStr W g 0 (l.map (·.data.toList)).toArray → Sort.Holds encStr (Sort.grow (Sort.putRow encStr (Sort.ahead W n) g 0 (Str.sorted (l.map (·.data.toList))).toArray) os) g 0 (Str.sorted (l.map (·.data.toList))).toArray := by
      intro g W n os hg hH
      refine Sort.holds_grow _ _ _ _ _ _ (by rw [Sort.size_putRow]; exact hg) (Sort.holds_putRow encStr (Sort.ahead W n) g 0 (l.map fun x : ByteArray => x.data.toList).toArray _ (show Sort.Holds encStr (Sort.ahead W n) g 0 _ from fun j hj => hH j hj) (by simp [Str.sorted_length]))
    have HF := Lib.hid hfin
    have HB := Lib.hid hB
    have HR := Lib.hid hR
    have HS := Lib.hid hsort
    have HA := Lib.hid hafter
    have HN := Lib.hid (show l.length ≤ 4611686018427387904 by omega)
    clear hfin hB hR hsort hafter hr0 hc0 hlim hcell hne
    go_enter Try.func9, Try.ntmps9
    go_wp2_with fail
    refine hclone.mono ?_
    rintro e w1 ⟨g, cap, rfl, hg, hlt, hcap, hH, hb⟩
    have H1 := Lib.hid hg
    have H2 := Lib.hid hlt
    have H3 := Lib.hid hcap
    have H4 := Lib.hid hH
    have H5 := Lib.hid hb
    clear hg hlt hcap hH hb hclone
    go_wp2_with fail
    refine (HS.out g cap w1 H2.out H4.out).mono ?_
    rintro e w2 ⟨rfl, n, os, e2⟩
    have H6 := Lib.hid e2
    clear e2
    go_wp2_with fail
    refine (HR.out g cap l _ w2 (by rw [H6.out]; exact HA.out g w1 n os H2.out H4.out) HN.out H3.out rfl).mono ?_
    rintro e w3 ⟨rfl, hd⟩
    go_wp2_with fail
    go_ret
    exact HF.out w2 _ _ (by rw [H6.out]; exact HB.out _ _ _ _ _ H5.out H1.out) ⟨by simp, hd⟩

end Go.Proofs.Ytelhcijoegjjnaa.P
