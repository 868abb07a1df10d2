-- Written by a program of this session (wip/tools/pp.py) for this claim.
import Derived.Test.YtelhcijoegjjnaaPx0
import Derived.Test.YtelhcijoegjjnaaPxidentword
import Derived.Test.YtelhcijoegjjnaaStr
import Derived.Laws.RangeAny
namespace Go.Proofs.Ytelhcijoegjjnaa.P
open Go.RowKit Go.Proofs.YtelhcijoegjjnaaW.PrintWords Go.Proofs.YtelhcijoegjjnaaW.PrintLast Go.Proofs.YtelhcijoegjjnaaW.PrintMore
attribute [local go_sem] max2_int min2_int max_two min_two max_three min_three max_four min_four   -- for this text's walks alone
set_option linter.unusedVariables false
set_option linter.unusedSimpArgs false

/-! ### ident_Right: function 16 -/
-- by hand
theorem ident_word.j3_eq (k : Nat) (s : ByteArray) (b : Bool) : ident_word.j3 (k + 1) s b = some (b || Str.words4.contains s.toList) := by
  simp only [ident_word.j3]
  repeat' split
  all_goals simp_all [Str.words4]
  all_goals try (rw [Bool.eq_iff_iff]; simp)
theorem ident_word.j2_eq (k : Nat) (s : ByteArray) (b : Bool) : ident_word.j2 (k + 2) s b = some (b || Str.words3.contains s.toList || Str.words4.contains s.toList) := by
  simp only [ident_word.j2, ident_word.j3_eq]
  repeat' split
  all_goals simp_all [Str.words3]
  all_goals try (rw [Bool.eq_iff_iff]; simp)
theorem ident_word.j1_eq (k : Nat) (s : ByteArray) (b : Bool) : ident_word.j1 (k + 3) s b = some (b || Str.words2.contains s.toList || Str.words3.contains s.toList || Str.words4.contains s.toList) := by
  simp only [ident_word.j1, ident_word.j2_eq]
  repeat' split
  all_goals simp_all [Str.words2]
  all_goals try (rw [Bool.eq_iff_iff]; simp)
theorem ident_word.j0_eq (k : Nat) (s : ByteArray) (b : Bool) : ident_word.j0 (k + 4) s b = some (b || Str.words1.contains s.toList || Str.words2.contains s.toList || Str.words3.contains s.toList || Str.words4.contains s.toList) := by
  simp only [ident_word.j0, ident_word.j1_eq]
  repeat' split
  all_goals simp_all [Str.words1]
  all_goals try (rw [Bool.eq_iff_iff]; simp)
/-- ident.word: which texts are words of the languages. -/
theorem ident_word.tells (s : ByteArray) : ident_word.f 4 s = some (Str.words.contains s.data.toList) := by
  rw [← Lib.toList_data]
  unfold ident_word.f
  simp only [ident_word.j0_eq 0]
  have e : Str.words.contains s.toList = (Str.words0.contains s.toList || Str.words1.contains s.toList || Str.words2.contains s.toList || Str.words3.contains s.toList || Str.words4.contains s.toList) := by
    simp only [Str.words, List.contains_append]
  rw [e]
  repeat' split
  all_goals simp_all [Str.words0]
  all_goals try (rw [Bool.eq_iff_iff]; simp)
def letterI (c : Int) : Bool := decide (97 ≤ c ∧ c ≤ 122 ∨ 65 ≤ c ∧ c ≤ 90)
theorem ident_letter.same (c : Int) (w : World) : Calls Try.prog 27 #[.int .i32 c] w fun e w' => e = .returned (.bool (letterI c)) ∧ w = w' := by
  by_cases h1 : 97 ≤ c <;> by_cases h2 : c ≤ 122 <;> by_cases h3 : 65 ≤ c <;> by_cases h4 : c ≤ 90 <;> try (exfalso; omega)
  all_goals
    go_enter Try.func27, Try.ntmps27
    go_wp2
    go_ret
    exact ⟨by simp [letterI, *], rfl⟩
theorem ident_letter.yes (c : Int) (w : World) (h : letterI c = true) : Calls Try.prog 27 #[.int .i32 c] w fun e w' => e = .returned (.bool true) ∧ w = w' := by
  have := ident_letter.same c w
  rwa [h] at this
theorem ident_letter.no (c : Int) (w : World) (h : letterI c = false) : Calls Try.prog 27 #[.int .i32 c] w fun e w' => e = .returned (.bool false) ∧ w = w' := by
  have := ident_letter.same c w
  rwa [h] at this
def digitI (c : Int) : Bool := decide (48 ≤ c ∧ c ≤ 57 ∨ c = 95)
def ident_Right.f (a0 : ByteArray) : Option Bool := some (Str.bytesOk a0.data.toList && decide (0 < a0.size ∧ a0.size ≤ 12) && !(Str.words.contains a0.data.toList))
theorem Right_at (s : ByteArray) (pos : Nat) (h : pos < s.size) : s.data.toList[pos]? = some s[pos] := by
  have h2 : pos < s.data.toList.length := by simpa using h
  rw [List.getElem?_eq_getElem h2]
  rfl
theorem Right_nameByte (j : Nat) (c : UInt8) : Str.nameByte (j == 0) c = (letterI c.toNat || (!decide (j = 0) && digitI c.toNat)) := by
  have := c.toNat_lt
  unfold Str.nameByte letterI digitI
  rw [Bool.eq_iff_iff]
  by_cases h : j = 0 <;> simp [h] <;> omega
theorem Right_bad (s : ByteArray) (pos : Nat) (h : pos < s.size) (hb : Str.nameByte (pos == 0) s[pos] = false) : Str.bytesOk s.data.toList = false := by
  rw [← Bool.not_eq_true, Str.bytesOk_iff]
  intro hall
  have := hall pos _ (Right_at s pos h)
  rw [hb] at this
  cases this
theorem Right_all (s : ByteArray) (h : ∀ j c, j < s.size → s.data.toList[j]? = some c → Str.nameByte (j == 0) c = true) : Str.bytesOk s.data.toList = true :=
  (Str.bytesOk_iff _).2 (fun j c hc => h j c (by have := (List.getElem?_eq_some_iff.1 hc).1; simpa using this) hc)
set_option maxHeartbeats 1000000 in
set_option maxRecDepth 1000000 in
theorem ident_Right.calls (a0 : ByteArray) (r : Bool) (w : World) (h : ident_Right.f a0 = some r) :
    Calls Try.prog 16 #[.string a0] w fun e w' => e = .returned (.bool r) ∧ Below w.heap.size w w' := by
  have hr : (Str.bytesOk a0.data.toList && decide (0 < a0.size ∧ a0.size ≤ 12) && !(Str.words.contains a0.data.toList)) = r := Option.some.inj h
  have HR := Aside0.mk hr
  clear hr h
  have hiter : ∀ pos, Below w.heap.size w (w.iter a0 pos) := fun pos => below_alloc (Below.refl _ _) _
  have HI := Aside0.mk hiter
  clear hiter
  go_enter Try.func16, Try.ntmps16
  go_wp2
  go_loopw [3] (fun _ w' => ∃ pos : Nat, w' = w.iter a0 pos ∧ Aside0 (pos ≤ a0.size) ∧ Aside0 (∀ j c, j < pos → a0.data.toList[j]? = some c → Str.nameByte (j == 0) c = true)) (fun _ w' => a0.size - w'.iterPos w.heap.size)
  case atStart => exact ⟨0, rfl, ⟨Nat.zero_le _⟩, ⟨fun j c hj => absurd hj (by omega)⟩⟩
  case round =>
    obtain ⟨pos, rfl, HP, HA⟩ := hrel
    by_cases hp : pos < a0.size
    · have hdec : ∃ c wd : Nat, (∀ ty, (Instr.next (.pointer (some ⟨w.heap.size, 0, none⟩)) true ty).run Try.prog (w.iter a0 pos) = .ok (.tuple #[.bool true, .int .i64 pos, .int .i32 (c : Int)]) (w.iter a0 (pos + wd))) ∧ 0 ≤ c ∧ c ≤ 2147483647 ∧ 1 ≤ wd ∧ Aside0 ((a0[pos].toNat < 128 ∧ c = a0[pos].toNat ∧ wd = 1) ∨ (128 ≤ a0[pos].toNat ∧ 128 ≤ c)) := by
        have hle := decode_le a0 pos
        by_cases ha : a0[pos].toNat < 128
        · refine ⟨a0[pos].toNat, 1, fun ty => ?_, by omega, by omega, by omega, ⟨.inl ⟨ha, rfl, rfl⟩⟩⟩
          rw [run_next_any w a0 pos ty hp, decode_ascii a0 pos hp ha]
        · have := decode_high a0 pos hp (by omega)
          exact ⟨_, _, fun ty => run_next_any w a0 pos ty hp, by omega, hle, this.2, ⟨.inr ⟨by omega, this.1⟩⟩⟩
      obtain ⟨c, wd, hnx, h0, hc, hwd, HC⟩ := hdec
      cases hl : letterI c with
      | true =>
        have HS : Aside0 (wd = 1 ∧ a0[pos].toNat = c) := ⟨by
          rcases HC.out with ⟨h1, h2, h3⟩ | ⟨h1, h2⟩
          · exact ⟨h3, h2.symm⟩
          · exfalso
            have := of_decide_eq_true (show decide (97 ≤ (c : Int) ∧ (c : Int) ≤ 122 ∨ 65 ≤ (c : Int) ∧ (c : Int) ≤ 90) = true from hl)
            omega⟩
        have HL := Aside0.mk hl
        clear hl
        cases hd1 : decide (48 ≤ (c : Int)) <;> cases hd2 : decide ((c : Int) ≤ 57) <;> cases hd3 : ((c : Int) == 95)
        all_goals
          go_wp2_with (go_at_call 27; (with_reducible refine (ident_letter.yes _ _ HL.out).mono ?_); rintro e w' ⟨rfl, rfl⟩)
          go_roundw
          case rel =>
            obtain ⟨e1, e2⟩ := HS.out
            exact ⟨pos + wd, rfl, ⟨by omega⟩, ⟨fun j c' hj hc' => by
              rcases Nat.lt_or_ge j pos with h | h
              · exact HA.out j c' h hc'
              · obtain rfl : j = pos := by omega
                rw [Right_at a0 j hp] at hc'
                obtain rfl := Option.some.inj hc'
                rw [Right_nameByte, e2, HL.out]; rfl⟩⟩
          case measure => simp; omega
      | false =>
        have HL := Aside0.mk hl
        clear hl
        have hno : digitI c = false ∨ pos = 0 → r = false := by
          intro h
          have hb : Str.nameByte (pos == 0) a0[pos] = false := by
            rw [Right_nameByte]
            rcases HC.out with ⟨h1, h2, h3⟩ | ⟨h1, h2⟩
            · rw [← h2, HL.out]
              rcases h with h | h
              · rw [h]; simp
              · simp [h]
            · have e1 : letterI (a0[pos].toNat : Int) = false := by unfold letterI; exact decide_eq_false (by omega)
              have e2 : digitI (a0[pos].toNat : Int) = false := by unfold digitI; exact decide_eq_false (by omega)
              rw [e1, e2]; simp
          rw [← HR.out, Right_bad a0 pos hp hb]; simp
        have HN := Aside0.mk hno
        clear hno
        rcases Nat.eq_zero_or_pos pos with h0 | hpos
        · have HZ := Aside0.mk (HN.out (.inr h0))
          have HI2 := Aside0.mk (HI.out (pos + wd))
          have hz : ((pos : Int) == 0) = true := by simp [h0]
          have hz2 : (pos == 0) = true := by simp [h0]
          clear h0
          cases hd1 : decide (48 ≤ (c : Int)) <;> cases hd2 : decide ((c : Int) ≤ 57) <;> cases hd3 : ((c : Int) == 95)
          all_goals
            go_wp2_with (go_at_call 27; (with_reducible refine (ident_letter.no _ _ HL.out).mono ?_); rintro e w' ⟨rfl, rfl⟩)
            go_ret
            exact ⟨by rw [HZ.out] <;> rfl, HI2.out⟩
        · have HI2 := Aside0.mk (HI.out (pos + wd))
          have hz : ((pos : Int) == 0) = false := by simp; omega
          have hz2 : (pos == 0) = false := by simp; omega
          have HD : Aside0 (digitI c = ((decide (48 ≤ (c : Int)) && decide ((c : Int) ≤ 57)) || ((c : Int) == 95))) := ⟨by
            unfold digitI; rw [Bool.eq_iff_iff]; simp⟩
          cases hd1 : decide (48 ≤ (c : Int)) <;> cases hd2 : decide ((c : Int) ≤ 57) <;> cases hd3 : ((c : Int) == 95)
          all_goals
            have HD2 := HD.out
            rw [hd1, hd2, hd3] at HD2
            simp only [Bool.and_true, Bool.and_false, Bool.or_true, Bool.or_false] at HD2
            have HD3 := Aside0.mk HD2
            clear HD2 HD
            go_wp2_with (go_at_call 27; (with_reducible refine (ident_letter.no _ _ HL.out).mono ?_); rintro e w' ⟨rfl, rfl⟩)
            first
              | (go_ret; exact ⟨by rw [HN.out (.inl HD3.out)] <;> rfl, HI2.out⟩)
              | (go_roundw
                 case rel =>
                   have HX : wd = 1 ∧ a0[pos].toNat = c := by
                     rcases HC.out with ⟨h1, h2, h3⟩ | ⟨h1, h2⟩
                     · exact ⟨h3, h2.symm⟩
                     · exfalso
                       have := of_decide_eq_true (show decide (48 ≤ (c : Int) ∧ (c : Int) ≤ 57 ∨ (c : Int) = 95) = true from HD3.out)
                       omega
                   obtain ⟨e1, e2⟩ := HX
                   exact ⟨pos + wd, rfl, ⟨by omega⟩, ⟨fun j c' hj hc' => by
                     rcases Nat.lt_or_ge j pos with h | h
                     · exact HA.out j c' h hc'
                     · obtain rfl : j = pos := by omega
                       rw [Right_at a0 j hp] at hc'
                       obtain rfl := Option.some.inj hc'
                       rw [Right_nameByte, e2, HL.out, HD3.out]; simp; omega⟩⟩
                 case measure => simp; omega)
    · have hnx : ∀ ty, (Instr.next (.pointer (some ⟨w.heap.size, 0, none⟩)) true ty).run Try.prog (w.iter a0 pos) = _ := fun ty => run_next_end w a0 pos ty hp
      have hok : Str.bytesOk a0.data.toList = true := Right_all a0 (fun j c hj hc => HA.out j c (by have := HP.out; omega) hc)
      have hr := HR.out
      rw [hok, Bool.true_and] at hr
      have hw := ident_word.tells a0
      by_cases he : a0.size = 0
      · have hemp : a0.toList = [] := by rw [Lib.toList_data]; have : a0.data.toList.length = 0 := by simpa using he
                                         exact List.eq_nil_of_length_eq_zero this
        have HZ : Aside0 (r = false) := ⟨by rw [← hr]; simp [he]⟩
        have HI2 := Aside0.mk (HI.out pos)
        have h1 : a0.toList.isEmpty = true := by rw [hemp]; rfl
        clear hr he hok hemp hw
        go_wp2
        go_ret
        exact ⟨by rw [HZ.out] <;> rfl, HI2.out⟩
      · have h1 : a0.toList.isEmpty = false := by
          rw [Lib.toList_data]
          have : a0.data.toList.length ≠ 0 := by simpa using he
          cases h : a0.data.toList with
          | nil => rw [h] at this; exact absurd rfl this
          | cons => rfl
        have h1b : (!a0.toList.isEmpty) = true := by rw [h1]; rfl
        by_cases hl : a0.size ≤ 12
        · have h2 : decide (a0.size ≤ 12) = true := decide_eq_true hl
          have h3 : decide ((a0.size : Int) ≤ 12) = true := decide_eq_true (by omega)
          rw [show decide (0 < a0.size ∧ a0.size ≤ 12) = true from decide_eq_true ⟨by omega, hl⟩, Bool.true_and] at hr
          have HW := fun W => ident_word.calls 4 a0 _ W hw
          have HWA := Aside0.mk HW
          have HI2 := Aside0.mk (HI.out pos)
          have HR2 := Aside0.mk hr
          clear HW hr hw hok he hl
          go_wp2_with (go_at_call 28; (with_reducible refine (HWA.out _).mono ?_); rintro e w' ⟨rfl, ⟨m, rfl⟩⟩)
          go_ret
          exact ⟨by simp [← HR2.out], pw_below_drewN HI2.out m⟩
        · have h2 : decide (a0.size ≤ 12) = false := decide_eq_false hl
          have h3 : decide ((a0.size : Int) ≤ 12) = false := decide_eq_false (by omega)
          have HZ : Aside0 (r = false) := ⟨by rw [← hr, decide_eq_false (show ¬ (0 < a0.size ∧ a0.size ≤ 12) by omega)]; rfl⟩
          have HI2 := Aside0.mk (HI.out pos)
          clear hr he hl hw hok
          go_wp2
          go_ret
          exact ⟨by rw [HZ.out] <;> rfl, HI2.out⟩

end Go.Proofs.Ytelhcijoegjjnaa.P
