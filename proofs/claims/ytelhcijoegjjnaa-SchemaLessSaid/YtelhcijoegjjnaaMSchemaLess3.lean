-- Written by a program of this session (wip/tools/merge.py) for this claim: texts laid together.
import Derived.Test.YtelhcijoegjjnaaMSchemaLess2
import Derived.Shelf.Small.Bits
import Derived.Shelf.Strconv.Itoa0
import Derived.Shelf.Sort.Plain
import Derived.Shelf.Slices.Turned
import Derived.Ground.Names2Prog
import Derived.Shelf.Slices.Clone
import Derived.Shelf.Slices.In.SortNone
import Derived.Test.YtelhcijoegjjnaaProg
import Derived.WideShapes
namespace Go.Proofs.Ytelhcijoegjjnaa.P
open Go.RowKit Go.Proofs.YtelhcijoegjjnaaW.PrintWords Go.Proofs.YtelhcijoegjjnaaW.PrintLast Go.Proofs.YtelhcijoegjjnaaW.PrintMore
attribute [local go_sem] max2_int min2_int max_two min_two max_three min_three max_four min_four
set_option linter.unusedVariables false
set_option linter.unusedSimpArgs false
def field_named.f (a0_0 : ByteArray) (a0_1 : Int) (a0_2 : Int) (a0_3 : ByteArray) (a0_4 : Bool) (a0_5 : Bool) (a0_6 : ByteArray) : Option (Bool) := (field_refers.f a0_2).bind fun t166 => (if t166 = true then ((ident_Right.f a0_3).bind fun t167 => (if t167 = true then ((ident_Right.f a0_0).bind fun t168 => (if t168 = true then (if a0_6.toList = ([] : List UInt8) then (some true) else ((ident_Right.f a0_6).bind fun t169 => (some t169))) else (some false))) else (some false))) else (if a0_3.toList = ([] : List UInt8) then ((ident_Right.f a0_0).bind fun t170 => (if t170 = true then (if a0_6.toList = ([] : List UInt8) then (some true) else ((ident_Right.f a0_6).bind fun t171 => (some t171))) else (some false))) else (some false)))
set_option maxHeartbeats 8000000 in
set_option maxRecDepth 100000 in
theorem field_named.calls (a0_0 : ByteArray) (a0_1 : Int) (a0_2 : Int) (a0_3 : ByteArray) (a0_4 : Bool) (a0_5 : Bool) (a0_6 : ByteArray) (r : Bool) (w : World) (h : field_named.f a0_0 a0_1 a0_2 a0_3 a0_4 a0_5 a0_6 = some r) :
  Calls Try.prog 73 #[.agg #[.string a0_0, .int .i64 a0_1, .int .i64 a0_2, .string a0_3, .bool a0_4, .bool a0_5, .string a0_6]] w fun e w' => e = .returned (.bool r) ∧ Below w.heap.size w w' := by
 have hu40 := Try.underlying40
 have HB := Aside0.mk (Below.refl w.heap.size w)
 have H : ((field_refers.f a0_2).bind fun t166 => (if t166 = true then ((ident_Right.f a0_3).bind fun t167 => (if t167 = true then ((ident_Right.f a0_0).bind fun t168 => (if t168 = true then (if a0_6.toList = ([] : List UInt8) then (some true) else ((ident_Right.f a0_6).bind fun t169 => (some t169))) else (some false))) else (some false))) else (if a0_3.toList = ([] : List UInt8) then ((ident_Right.f a0_0).bind fun t170 => (if t170 = true then (if a0_6.toList = ([] : List UInt8) then (some true) else ((ident_Right.f a0_6).bind fun t171 => (some t171))) else (some false))) else (some false)))) = some r := h
 clear h
 replace H := Option.bind_eq_some_iff.mp H
 obtain ⟨t166, A20, H⟩ := H
 replace H : (if t166 = true then ((ident_Right.f a0_3).bind fun t167 => (if t167 = true then ((ident_Right.f a0_0).bind fun t168 => (if t168 = true then (if a0_6.toList = ([] : List UInt8) then (some true) else ((ident_Right.f a0_6).bind fun t169 => (some t169))) else (some false))) else (some false))) else (if a0_3.toList = ([] : List UInt8) then ((ident_Right.f a0_0).bind fun t170 => (if t170 = true then (if a0_6.toList = ([] : List UInt8) then (some true) else ((ident_Right.f a0_6).bind fun t171 => (some t171))) else (some false))) else (some false))) = some r := H
 have A2 := Aside0.mk A20
 clear A20
 by_cases c3 : t166 = true
 ·subst c3
  have H1 : ((ident_Right.f a0_3).bind fun t167 => (if t167 = true then ((ident_Right.f a0_0).bind fun t168 => (if t168 = true then (if a0_6.toList = ([] : List UInt8) then (some true) else ((ident_Right.f a0_6).bind fun t169 => (some t169))) else (some false))) else (some false))) = some r := by rw [if_pos rfl] at H; exact H
  clear H
  have H := H1
  clear H1
  replace H := Option.bind_eq_some_iff.mp H
  obtain ⟨t167, A40, H⟩ := H
  replace H : (if t167 = true then ((ident_Right.f a0_0).bind fun t168 => (if t168 = true then (if a0_6.toList = ([] : List UInt8) then (some true) else ((ident_Right.f a0_6).bind fun t169 => (some t169))) else (some false))) else (some false)) = some r := H
  have A4 := Aside0.mk A40
  clear A40
  by_cases c5 : t167 = true
  ·subst c5
   have H1 : ((ident_Right.f a0_0).bind fun t168 => (if t168 = true then (if a0_6.toList = ([] : List UInt8) then (some true) else ((ident_Right.f a0_6).bind fun t169 => (some t169))) else (some false))) = some r := by rw [if_pos rfl] at H; exact H
   clear H
   have H := H1
   clear H1
   replace H := Option.bind_eq_some_iff.mp H
   obtain ⟨t168, A60, H⟩ := H
   replace H : (if t168 = true then (if a0_6.toList = ([] : List UInt8) then (some true) else ((ident_Right.f a0_6).bind fun t169 => (some t169))) else (some false)) = some r := H
   have A6 := Aside0.mk A60
   clear A60
   by_cases c7 : t168 = true
   ·subst c7
    have H1 : (if a0_6.toList = ([] : List UInt8) then (some true) else ((ident_Right.f a0_6).bind fun t169 => (some t169))) = some r := by rw [if_pos rfl] at H; exact H
    clear H
    have H := H1
    clear H1
    by_cases c8 : a0_6.toList = ([] : List UInt8)
    ·rw [if_pos c8] at H
     have c8b0 : (a0_6.toList == ([] : List UInt8)) = true := beq_iff_eq.mpr c8
     have c8b1 : (a0_6.toList != ([] : List UInt8)) = false := bne_eq_false_iff_eq.mpr c8
     clear c8
     obtain rfl := Option.some.inj H
     go_enter Try.func73, Try.ntmps73
     go_wp2_with (first | ((with_reducible refine gate_dst (N := 1) rfl ?_); refine box_event ?hg (N := 1) ?hd (cs := #[.string a0_0, .int .i64 a0_1, .int .i64 a0_2, .string a0_3, .bool a0_4, .bool a0_5, .string a0_6]) (t := 40) ?hr ?_; (case hd => rfl); (case hg => rfl); (case hr => first | (go_simp; done) | (go_simp; rfl)); intro gb165 hg w9 hbox hb; have n0_ := Aside0.mk (below_step (by repeat (first | (with_reducible first | exact HB.out | apply below_alloc | apply pw_below_drewN | apply below_drew1) | exact HB.out)) hb); have n1_ := Aside0.mk (hbox); have n2_ := Aside0.mk ((by rw [hg]; exact (below_size (by repeat (first | (with_reducible first | exact HB.out | apply below_alloc | apply pw_below_drewN | apply below_drew1) | exact HB.out))) : w.heap.size ≤ gb165)); have n3_ := Aside0.mk ((by rw [hg]; exact (below_size (by repeat (first | (with_reducible first | exact HB.out | apply below_alloc | apply pw_below_drewN | apply below_drew1) | exact HB.out))) : w.heap.size ≤ gb165)); clear HB; have HB := n0_; have BK165 := n1_; have GW165 := n2_; have GE165 := n3_; clear n0_ n1_ n2_ n3_; clear hb hbox hg; have hcz10_0 : w9.cell? ⟨gb165, 0, none⟩ = some (.string a0_0) := (blk_cell BK165.out 0).trans rfl; have hcz10_1 : w9.cell? ⟨gb165, 1, none⟩ = some (.int .i64 a0_1) := (blk_cell BK165.out 1).trans rfl; have hcz10_2 : w9.cell? ⟨gb165, 2, none⟩ = some (.int .i64 a0_2) := (blk_cell BK165.out 2).trans rfl; have hcz10_3 : w9.cell? ⟨gb165, 3, none⟩ = some (.string a0_3) := (blk_cell BK165.out 3).trans rfl; have hcz10_4 : w9.cell? ⟨gb165, 4, none⟩ = some (.bool a0_4) := (blk_cell BK165.out 4).trans rfl; have hcz10_5 : w9.cell? ⟨gb165, 5, none⟩ = some (.bool a0_5) := (blk_cell BK165.out 5).trans rfl; have hcz10_6 : w9.cell? ⟨gb165, 6, none⟩ = some (.string a0_6) := (blk_cell BK165.out 6).trans rfl; have hfz10_0 := blk_frozen BK165.out 0; have hfz10_1 := blk_frozen BK165.out 1; have hfz10_2 := blk_frozen BK165.out 2; have hfz10_3 := blk_frozen BK165.out 3; have hfz10_4 := blk_frozen BK165.out 4; have hfz10_5 := blk_frozen BK165.out 5; have hfz10_6 := blk_frozen BK165.out 6) | ((with_reducible refine gate_callee (f := 92) rfl ?_); refine goesL_ (some 9) rfl rfl Try.func92 (by kernel_rfl) rfl #[.int .i64 a0_2] rfl (by (try simp only [List.map_toArray, List.map_cons, List.map_nil]); first | done | rfl | (simp only [List.length_drop, List.length_take]; rfl)) ?_; (with_reducible refine (field_refers.calls a0_2 true _ A2.out).mono ?_); rintro e w' ⟨rfl, ⟨nd, rfl⟩⟩; refine ⟨_, rfl, ?_⟩) | ((with_reducible refine gate_callee (f := 16) rfl ?_); refine goesL_ (some 12) rfl rfl Try.func16 (by kernel_rfl) rfl #[.string a0_3] rfl (by (try simp only [List.map_toArray, List.map_cons, List.map_nil]); first | done | rfl | (simp only [List.length_drop, List.length_take]; rfl)) ?_; (with_reducible refine (ident_Right.calls a0_3 true _ A4.out).mono ?_); rintro e w11 ⟨rfl, hb⟩; refine ⟨_, rfl, ?_⟩; have n0_ := Aside0.mk (blk_below (g := gb165) (o := .cells #[.string a0_0, .int .i64 a0_1, .int .i64 a0_2, .string a0_3, .bool a0_4, .bool a0_5, .string a0_6] 40 (0, 0)) (by (with_reducible repeat (first | refine blk_drewN ?_ _ | refine blk_drew ?_ | refine blk_alloc ?_ _)); exact BK165.out) hb); have n1_ := Aside0.mk (below_step (by repeat (first | (with_reducible first | exact HB.out | apply below_alloc | apply pw_below_drewN | apply below_drew1 | refine below_set ?_ GE165.out) | exact HB.out)) hb); clear BK165; clear HB; have BK165 := n0_; have HB := n1_; clear n0_ n1_; (try clear hb); (try clear hb2); (try clear hk); (try clear hi); have hcz12_0 : w11.cell? ⟨gb165, 0, none⟩ = some (.string a0_0) := (blk_cell BK165.out 0).trans rfl; have hcz12_1 : w11.cell? ⟨gb165, 1, none⟩ = some (.int .i64 a0_1) := (blk_cell BK165.out 1).trans rfl; have hcz12_2 : w11.cell? ⟨gb165, 2, none⟩ = some (.int .i64 a0_2) := (blk_cell BK165.out 2).trans rfl; have hcz12_3 : w11.cell? ⟨gb165, 3, none⟩ = some (.string a0_3) := (blk_cell BK165.out 3).trans rfl; have hcz12_4 : w11.cell? ⟨gb165, 4, none⟩ = some (.bool a0_4) := (blk_cell BK165.out 4).trans rfl; have hcz12_5 : w11.cell? ⟨gb165, 5, none⟩ = some (.bool a0_5) := (blk_cell BK165.out 5).trans rfl; have hcz12_6 : w11.cell? ⟨gb165, 6, none⟩ = some (.string a0_6) := (blk_cell BK165.out 6).trans rfl; have hfz12_0 := blk_frozen BK165.out 0; have hfz12_1 := blk_frozen BK165.out 1; have hfz12_2 := blk_frozen BK165.out 2; have hfz12_3 := blk_frozen BK165.out 3; have hfz12_4 := blk_frozen BK165.out 4; have hfz12_5 := blk_frozen BK165.out 5; have hfz12_6 := blk_frozen BK165.out 6) | (go_at_call 16; (with_reducible refine (ident_Right.calls a0_0 true _ A6.out).mono ?_); rintro e w13 ⟨rfl, hb⟩; have n0_ := Aside0.mk (blk_below (g := gb165) (o := .cells #[.string a0_0, .int .i64 a0_1, .int .i64 a0_2, .string a0_3, .bool a0_4, .bool a0_5, .string a0_6] 40 (0, 0)) (by (with_reducible repeat (first | refine blk_drewN ?_ _ | refine blk_drew ?_ | refine blk_alloc ?_ _)); exact BK165.out) hb); have n1_ := Aside0.mk (below_step (by repeat (first | (with_reducible first | exact HB.out | apply below_alloc | apply pw_below_drewN | apply below_drew1 | refine below_set ?_ GE165.out) | exact HB.out)) hb); clear BK165; clear HB; have BK165 := n0_; have HB := n1_; clear n0_ n1_; (try clear hb); (try clear hb2); (try clear hk); (try clear hi); have hcz14_0 : w13.cell? ⟨gb165, 0, none⟩ = some (.string a0_0) := (blk_cell BK165.out 0).trans rfl; have hcz14_1 : w13.cell? ⟨gb165, 1, none⟩ = some (.int .i64 a0_1) := (blk_cell BK165.out 1).trans rfl; have hcz14_2 : w13.cell? ⟨gb165, 2, none⟩ = some (.int .i64 a0_2) := (blk_cell BK165.out 2).trans rfl; have hcz14_3 : w13.cell? ⟨gb165, 3, none⟩ = some (.string a0_3) := (blk_cell BK165.out 3).trans rfl; have hcz14_4 : w13.cell? ⟨gb165, 4, none⟩ = some (.bool a0_4) := (blk_cell BK165.out 4).trans rfl; have hcz14_5 : w13.cell? ⟨gb165, 5, none⟩ = some (.bool a0_5) := (blk_cell BK165.out 5).trans rfl; have hcz14_6 : w13.cell? ⟨gb165, 6, none⟩ = some (.string a0_6) := (blk_cell BK165.out 6).trans rfl; have hfz14_0 := blk_frozen BK165.out 0; have hfz14_1 := blk_frozen BK165.out 1; have hfz14_2 := blk_frozen BK165.out 2; have hfz14_3 := blk_frozen BK165.out 3; have hfz14_4 := blk_frozen BK165.out 4; have hfz14_5 := blk_frozen BK165.out 5; have hfz14_6 := blk_frozen BK165.out 6))
     go_ret
     exact ⟨by first | rfl | (simp [errW_none, errW_some] <;> rfl) | (simp [*, errW_none, errW_some] <;> rfl), by repeat (first | (with_reducible first | exact HB.out | apply below_alloc | apply pw_below_drewN | apply below_drew1 | refine below_set ?_ GE165.out) | exact HB.out)⟩
    ·rw [if_neg c8] at H
     have c8b0 : (a0_6.toList == ([] : List UInt8)) = false := beq_eq_false_iff_ne.mpr c8
     have c8b1 : (a0_6.toList != ([] : List UInt8)) = true := bne_iff_ne.mpr c8
     replace H := Option.bind_eq_some_iff.mp H
     obtain ⟨t169, A150, H⟩ := H
     replace H : (some t169) = some r := H
     have A15 := Aside0.mk A150
     clear A150
     obtain rfl := Option.some.inj H
     go_enter Try.func73, Try.ntmps73
     go_wp2_with (first | ((with_reducible refine gate_dst (N := 1) rfl ?_); refine box_event ?hg (N := 1) ?hd (cs := #[.string a0_0, .int .i64 a0_1, .int .i64 a0_2, .string a0_3, .bool a0_4, .bool a0_5, .string a0_6]) (t := 40) ?hr ?_; (case hd => rfl); (case hg => rfl); (case hr => first | (go_simp; done) | (go_simp; rfl)); intro gb165 hg w16 hbox hb; have n0_ := Aside0.mk (below_step (by repeat (first | (with_reducible first | exact HB.out | apply below_alloc | apply pw_below_drewN | apply below_drew1) | exact HB.out)) hb); have n1_ := Aside0.mk (hbox); have n2_ := Aside0.mk ((by rw [hg]; exact (below_size (by repeat (first | (with_reducible first | exact HB.out | apply below_alloc | apply pw_below_drewN | apply below_drew1) | exact HB.out))) : w.heap.size ≤ gb165)); have n3_ := Aside0.mk ((by rw [hg]; exact (below_size (by repeat (first | (with_reducible first | exact HB.out | apply below_alloc | apply pw_below_drewN | apply below_drew1) | exact HB.out))) : w.heap.size ≤ gb165)); clear HB; have HB := n0_; have BK165 := n1_; have GW165 := n2_; have GE165 := n3_; clear n0_ n1_ n2_ n3_; clear hb hbox hg; have hcz17_0 : w16.cell? ⟨gb165, 0, none⟩ = some (.string a0_0) := (blk_cell BK165.out 0).trans rfl; have hcz17_1 : w16.cell? ⟨gb165, 1, none⟩ = some (.int .i64 a0_1) := (blk_cell BK165.out 1).trans rfl; have hcz17_2 : w16.cell? ⟨gb165, 2, none⟩ = some (.int .i64 a0_2) := (blk_cell BK165.out 2).trans rfl; have hcz17_3 : w16.cell? ⟨gb165, 3, none⟩ = some (.string a0_3) := (blk_cell BK165.out 3).trans rfl; have hcz17_4 : w16.cell? ⟨gb165, 4, none⟩ = some (.bool a0_4) := (blk_cell BK165.out 4).trans rfl; have hcz17_5 : w16.cell? ⟨gb165, 5, none⟩ = some (.bool a0_5) := (blk_cell BK165.out 5).trans rfl; have hcz17_6 : w16.cell? ⟨gb165, 6, none⟩ = some (.string a0_6) := (blk_cell BK165.out 6).trans rfl; have hfz17_0 := blk_frozen BK165.out 0; have hfz17_1 := blk_frozen BK165.out 1; have hfz17_2 := blk_frozen BK165.out 2; have hfz17_3 := blk_frozen BK165.out 3; have hfz17_4 := blk_frozen BK165.out 4; have hfz17_5 := blk_frozen BK165.out 5; have hfz17_6 := blk_frozen BK165.out 6) | ((with_reducible refine gate_callee (f := 92) rfl ?_); refine goesL_ (some 9) rfl rfl Try.func92 (by kernel_rfl) rfl #[.int .i64 a0_2] rfl (by (try simp only [List.map_toArray, List.map_cons, List.map_nil]); first | done | rfl | (simp only [List.length_drop, List.length_take]; rfl)) ?_; (with_reducible refine (field_refers.calls a0_2 true _ A2.out).mono ?_); rintro e w' ⟨rfl, ⟨nd, rfl⟩⟩; refine ⟨_, rfl, ?_⟩) | ((with_reducible refine gate_callee (f := 16) rfl ?_); refine goesL_ (some 12) rfl rfl Try.func16 (by kernel_rfl) rfl #[.string a0_3] rfl (by (try simp only [List.map_toArray, List.map_cons, List.map_nil]); first | done | rfl | (simp only [List.length_drop, List.length_take]; rfl)) ?_; (with_reducible refine (ident_Right.calls a0_3 true _ A4.out).mono ?_); rintro e w18 ⟨rfl, hb⟩; refine ⟨_, rfl, ?_⟩; have n0_ := Aside0.mk (blk_below (g := gb165) (o := .cells #[.string a0_0, .int .i64 a0_1, .int .i64 a0_2, .string a0_3, .bool a0_4, .bool a0_5, .string a0_6] 40 (0, 0)) (by (with_reducible repeat (first | refine blk_drewN ?_ _ | refine blk_drew ?_ | refine blk_alloc ?_ _)); exact BK165.out) hb); have n1_ := Aside0.mk (below_step (by repeat (first | (with_reducible first | exact HB.out | apply below_alloc | apply pw_below_drewN | apply below_drew1 | refine below_set ?_ GE165.out) | exact HB.out)) hb); clear BK165; clear HB; have BK165 := n0_; have HB := n1_; clear n0_ n1_; (try clear hb); (try clear hb2); (try clear hk); (try clear hi); have hcz19_0 : w18.cell? ⟨gb165, 0, none⟩ = some (.string a0_0) := (blk_cell BK165.out 0).trans rfl; have hcz19_1 : w18.cell? ⟨gb165, 1, none⟩ = some (.int .i64 a0_1) := (blk_cell BK165.out 1).trans rfl; have hcz19_2 : w18.cell? ⟨gb165, 2, none⟩ = some (.int .i64 a0_2) := (blk_cell BK165.out 2).trans rfl; have hcz19_3 : w18.cell? ⟨gb165, 3, none⟩ = some (.string a0_3) := (blk_cell BK165.out 3).trans rfl; have hcz19_4 : w18.cell? ⟨gb165, 4, none⟩ = some (.bool a0_4) := (blk_cell BK165.out 4).trans rfl; have hcz19_5 : w18.cell? ⟨gb165, 5, none⟩ = some (.bool a0_5) := (blk_cell BK165.out 5).trans rfl; have hcz19_6 : w18.cell? ⟨gb165, 6, none⟩ = some (.string a0_6) := (blk_cell BK165.out 6).trans rfl; have hfz19_0 := blk_frozen BK165.out 0; have hfz19_1 := blk_frozen BK165.out 1; have hfz19_2 := blk_frozen BK165.out 2; have hfz19_3 := blk_frozen BK165.out 3; have hfz19_4 := blk_frozen BK165.out 4; have hfz19_5 := blk_frozen BK165.out 5; have hfz19_6 := blk_frozen BK165.out 6) | (go_at_call 16; (with_reducible refine (ident_Right.calls a0_0 true _ A6.out).mono ?_); rintro e w20 ⟨rfl, hb⟩; have n0_ := Aside0.mk (blk_below (g := gb165) (o := .cells #[.string a0_0, .int .i64 a0_1, .int .i64 a0_2, .string a0_3, .bool a0_4, .bool a0_5, .string a0_6] 40 (0, 0)) (by (with_reducible repeat (first | refine blk_drewN ?_ _ | refine blk_drew ?_ | refine blk_alloc ?_ _)); exact BK165.out) hb); have n1_ := Aside0.mk (below_step (by repeat (first | (with_reducible first | exact HB.out | apply below_alloc | apply pw_below_drewN | apply below_drew1 | refine below_set ?_ GE165.out) | exact HB.out)) hb); clear BK165; clear HB; have BK165 := n0_; have HB := n1_; clear n0_ n1_; (try clear hb); (try clear hb2); (try clear hk); (try clear hi); have hcz21_0 : w20.cell? ⟨gb165, 0, none⟩ = some (.string a0_0) := (blk_cell BK165.out 0).trans rfl; have hcz21_1 : w20.cell? ⟨gb165, 1, none⟩ = some (.int .i64 a0_1) := (blk_cell BK165.out 1).trans rfl; have hcz21_2 : w20.cell? ⟨gb165, 2, none⟩ = some (.int .i64 a0_2) := (blk_cell BK165.out 2).trans rfl; have hcz21_3 : w20.cell? ⟨gb165, 3, none⟩ = some (.string a0_3) := (blk_cell BK165.out 3).trans rfl; have hcz21_4 : w20.cell? ⟨gb165, 4, none⟩ = some (.bool a0_4) := (blk_cell BK165.out 4).trans rfl; have hcz21_5 : w20.cell? ⟨gb165, 5, none⟩ = some (.bool a0_5) := (blk_cell BK165.out 5).trans rfl; have hcz21_6 : w20.cell? ⟨gb165, 6, none⟩ = some (.string a0_6) := (blk_cell BK165.out 6).trans rfl; have hfz21_0 := blk_frozen BK165.out 0; have hfz21_1 := blk_frozen BK165.out 1; have hfz21_2 := blk_frozen BK165.out 2; have hfz21_3 := blk_frozen BK165.out 3; have hfz21_4 := blk_frozen BK165.out 4; have hfz21_5 := blk_frozen BK165.out 5; have hfz21_6 := blk_frozen BK165.out 6) | (go_at_call 16; (with_reducible refine (ident_Right.calls a0_6 t169 _ A15.out).mono ?_); rintro e w22 ⟨rfl, hb⟩; have n0_ := Aside0.mk (blk_below (g := gb165) (o := .cells #[.string a0_0, .int .i64 a0_1, .int .i64 a0_2, .string a0_3, .bool a0_4, .bool a0_5, .string a0_6] 40 (0, 0)) (by (with_reducible repeat (first | refine blk_drewN ?_ _ | refine blk_drew ?_ | refine blk_alloc ?_ _)); exact BK165.out) hb); have n1_ := Aside0.mk (below_step (by repeat (first | (with_reducible first | exact HB.out | apply below_alloc | apply pw_below_drewN | apply below_drew1 | refine below_set ?_ GE165.out) | exact HB.out)) hb); clear BK165; clear HB; have BK165 := n0_; have HB := n1_; clear n0_ n1_; (try clear hb); (try clear hb2); (try clear hk); (try clear hi)))
     go_ret
     exact ⟨by first | rfl | (simp [errW_none, errW_some] <;> rfl) | (simp [*, errW_none, errW_some] <;> rfl), by repeat (first | (with_reducible first | exact HB.out | apply below_alloc | apply pw_below_drewN | apply below_drew1 | refine below_set ?_ GE165.out) | exact HB.out)⟩
   ·replace c7 := Bool.eq_false_iff.mpr c7
    subst c7
    have H1 : (some false) = some r := by rw [if_neg (show ¬ (false = true) by decide)] at H; exact H
    clear H
    have H := H1
    clear H1
    obtain rfl := Option.some.inj H
    go_enter Try.func73, Try.ntmps73
    go_wp2_with (first | ((with_reducible refine gate_dst (N := 1) rfl ?_); refine box_event ?hg (N := 1) ?hd (cs := #[.string a0_0, .int .i64 a0_1, .int .i64 a0_2, .string a0_3, .bool a0_4, .bool a0_5, .string a0_6]) (t := 40) ?hr ?_; (case hd => rfl); (case hg => rfl); (case hr => first | (go_simp; done) | (go_simp; rfl)); intro gb165 hg w23 hbox hb; have n0_ := Aside0.mk (below_step (by repeat (first | (with_reducible first | exact HB.out | apply below_alloc | apply pw_below_drewN | apply below_drew1) | exact HB.out)) hb); have n1_ := Aside0.mk (hbox); have n2_ := Aside0.mk ((by rw [hg]; exact (below_size (by repeat (first | (with_reducible first | exact HB.out | apply below_alloc | apply pw_below_drewN | apply below_drew1) | exact HB.out))) : w.heap.size ≤ gb165)); have n3_ := Aside0.mk ((by rw [hg]; exact (below_size (by repeat (first | (with_reducible first | exact HB.out | apply below_alloc | apply pw_below_drewN | apply below_drew1) | exact HB.out))) : w.heap.size ≤ gb165)); clear HB; have HB := n0_; have BK165 := n1_; have GW165 := n2_; have GE165 := n3_; clear n0_ n1_ n2_ n3_; clear hb hbox hg; have hcz24_0 : w23.cell? ⟨gb165, 0, none⟩ = some (.string a0_0) := (blk_cell BK165.out 0).trans rfl; have hcz24_1 : w23.cell? ⟨gb165, 1, none⟩ = some (.int .i64 a0_1) := (blk_cell BK165.out 1).trans rfl; have hcz24_2 : w23.cell? ⟨gb165, 2, none⟩ = some (.int .i64 a0_2) := (blk_cell BK165.out 2).trans rfl; have hcz24_3 : w23.cell? ⟨gb165, 3, none⟩ = some (.string a0_3) := (blk_cell BK165.out 3).trans rfl; have hcz24_4 : w23.cell? ⟨gb165, 4, none⟩ = some (.bool a0_4) := (blk_cell BK165.out 4).trans rfl; have hcz24_5 : w23.cell? ⟨gb165, 5, none⟩ = some (.bool a0_5) := (blk_cell BK165.out 5).trans rfl; have hcz24_6 : w23.cell? ⟨gb165, 6, none⟩ = some (.string a0_6) := (blk_cell BK165.out 6).trans rfl; have hfz24_0 := blk_frozen BK165.out 0; have hfz24_1 := blk_frozen BK165.out 1; have hfz24_2 := blk_frozen BK165.out 2; have hfz24_3 := blk_frozen BK165.out 3; have hfz24_4 := blk_frozen BK165.out 4; have hfz24_5 := blk_frozen BK165.out 5; have hfz24_6 := blk_frozen BK165.out 6) | ((with_reducible refine gate_callee (f := 92) rfl ?_); refine goesL_ (some 9) rfl rfl Try.func92 (by kernel_rfl) rfl #[.int .i64 a0_2] rfl (by (try simp only [List.map_toArray, List.map_cons, List.map_nil]); first | done | rfl | (simp only [List.length_drop, List.length_take]; rfl)) ?_; (with_reducible refine (field_refers.calls a0_2 true _ A2.out).mono ?_); rintro e w' ⟨rfl, ⟨nd, rfl⟩⟩; refine ⟨_, rfl, ?_⟩) | ((with_reducible refine gate_callee (f := 16) rfl ?_); refine goesL_ (some 12) rfl rfl Try.func16 (by kernel_rfl) rfl #[.string a0_3] rfl (by (try simp only [List.map_toArray, List.map_cons, List.map_nil]); first | done | rfl | (simp only [List.length_drop, List.length_take]; rfl)) ?_; (with_reducible refine (ident_Right.calls a0_3 true _ A4.out).mono ?_); rintro e w25 ⟨rfl, hb⟩; refine ⟨_, rfl, ?_⟩; have n0_ := Aside0.mk (blk_below (g := gb165) (o := .cells #[.string a0_0, .int .i64 a0_1, .int .i64 a0_2, .string a0_3, .bool a0_4, .bool a0_5, .string a0_6] 40 (0, 0)) (by (with_reducible repeat (first | refine blk_drewN ?_ _ | refine blk_drew ?_ | refine blk_alloc ?_ _)); exact BK165.out) hb); have n1_ := Aside0.mk (below_step (by repeat (first | (with_reducible first | exact HB.out | apply below_alloc | apply pw_below_drewN | apply below_drew1 | refine below_set ?_ GE165.out) | exact HB.out)) hb); clear BK165; clear HB; have BK165 := n0_; have HB := n1_; clear n0_ n1_; (try clear hb); (try clear hb2); (try clear hk); (try clear hi); have hcz26_0 : w25.cell? ⟨gb165, 0, none⟩ = some (.string a0_0) := (blk_cell BK165.out 0).trans rfl; have hcz26_1 : w25.cell? ⟨gb165, 1, none⟩ = some (.int .i64 a0_1) := (blk_cell BK165.out 1).trans rfl; have hcz26_2 : w25.cell? ⟨gb165, 2, none⟩ = some (.int .i64 a0_2) := (blk_cell BK165.out 2).trans rfl; have hcz26_3 : w25.cell? ⟨gb165, 3, none⟩ = some (.string a0_3) := (blk_cell BK165.out 3).trans rfl; have hcz26_4 : w25.cell? ⟨gb165, 4, none⟩ = some (.bool a0_4) := (blk_cell BK165.out 4).trans rfl; have hcz26_5 : w25.cell? ⟨gb165, 5, none⟩ = some (.bool a0_5) := (blk_cell BK165.out 5).trans rfl; have hcz26_6 : w25.cell? ⟨gb165, 6, none⟩ = some (.string a0_6) := (blk_cell BK165.out 6).trans rfl; have hfz26_0 := blk_frozen BK165.out 0; have hfz26_1 := blk_frozen BK165.out 1; have hfz26_2 := blk_frozen BK165.out 2; have hfz26_3 := blk_frozen BK165.out 3; have hfz26_4 := blk_frozen BK165.out 4; have hfz26_5 := blk_frozen BK165.out 5; have hfz26_6 := blk_frozen BK165.out 6) | (go_at_call 16; (with_reducible refine (ident_Right.calls a0_0 false _ A6.out).mono ?_); rintro e w27 ⟨rfl, hb⟩; have n0_ := Aside0.mk (blk_below (g := gb165) (o := .cells #[.string a0_0, .int .i64 a0_1, .int .i64 a0_2, .string a0_3, .bool a0_4, .bool a0_5, .string a0_6] 40 (0, 0)) (by (with_reducible repeat (first | refine blk_drewN ?_ _ | refine blk_drew ?_ | refine blk_alloc ?_ _)); exact BK165.out) hb); have n1_ := Aside0.mk (below_step (by repeat (first | (with_reducible first | exact HB.out | apply below_alloc | apply pw_below_drewN | apply below_drew1 | refine below_set ?_ GE165.out) | exact HB.out)) hb); clear BK165; clear HB; have BK165 := n0_; have HB := n1_; clear n0_ n1_; (try clear hb); (try clear hb2); (try clear hk); (try clear hi)))
    go_ret
    exact ⟨by first | rfl | (simp [errW_none, errW_some] <;> rfl) | (simp [*, errW_none, errW_some] <;> rfl), by repeat (first | (with_reducible first | exact HB.out | apply below_alloc | apply pw_below_drewN | apply below_drew1 | refine below_set ?_ GE165.out) | exact HB.out)⟩
  ·replace c5 := Bool.eq_false_iff.mpr c5
   subst c5
   have H1 : (some false) = some r := by rw [if_neg (show ¬ (false = true) by decide)] at H; exact H
   clear H
   have H := H1
   clear H1
   obtain rfl := Option.some.inj H
   go_enter Try.func73, Try.ntmps73
   go_wp2_with (first | ((with_reducible refine gate_dst (N := 1) rfl ?_); refine box_event ?hg (N := 1) ?hd (cs := #[.string a0_0, .int .i64 a0_1, .int .i64 a0_2, .string a0_3, .bool a0_4, .bool a0_5, .string a0_6]) (t := 40) ?hr ?_; (case hd => rfl); (case hg => rfl); (case hr => first | (go_simp; done) | (go_simp; rfl)); intro gb165 hg w28 hbox hb; have n0_ := Aside0.mk (below_step (by repeat (first | (with_reducible first | exact HB.out | apply below_alloc | apply pw_below_drewN | apply below_drew1) | exact HB.out)) hb); have n1_ := Aside0.mk (hbox); have n2_ := Aside0.mk ((by rw [hg]; exact (below_size (by repeat (first | (with_reducible first | exact HB.out | apply below_alloc | apply pw_below_drewN | apply below_drew1) | exact HB.out))) : w.heap.size ≤ gb165)); have n3_ := Aside0.mk ((by rw [hg]; exact (below_size (by repeat (first | (with_reducible first | exact HB.out | apply below_alloc | apply pw_below_drewN | apply below_drew1) | exact HB.out))) : w.heap.size ≤ gb165)); clear HB; have HB := n0_; have BK165 := n1_; have GW165 := n2_; have GE165 := n3_; clear n0_ n1_ n2_ n3_; clear hb hbox hg; have hcz29_0 : w28.cell? ⟨gb165, 0, none⟩ = some (.string a0_0) := (blk_cell BK165.out 0).trans rfl; have hcz29_1 : w28.cell? ⟨gb165, 1, none⟩ = some (.int .i64 a0_1) := (blk_cell BK165.out 1).trans rfl; have hcz29_2 : w28.cell? ⟨gb165, 2, none⟩ = some (.int .i64 a0_2) := (blk_cell BK165.out 2).trans rfl; have hcz29_3 : w28.cell? ⟨gb165, 3, none⟩ = some (.string a0_3) := (blk_cell BK165.out 3).trans rfl; have hcz29_4 : w28.cell? ⟨gb165, 4, none⟩ = some (.bool a0_4) := (blk_cell BK165.out 4).trans rfl; have hcz29_5 : w28.cell? ⟨gb165, 5, none⟩ = some (.bool a0_5) := (blk_cell BK165.out 5).trans rfl; have hcz29_6 : w28.cell? ⟨gb165, 6, none⟩ = some (.string a0_6) := (blk_cell BK165.out 6).trans rfl; have hfz29_0 := blk_frozen BK165.out 0; have hfz29_1 := blk_frozen BK165.out 1; have hfz29_2 := blk_frozen BK165.out 2; have hfz29_3 := blk_frozen BK165.out 3; have hfz29_4 := blk_frozen BK165.out 4; have hfz29_5 := blk_frozen BK165.out 5; have hfz29_6 := blk_frozen BK165.out 6) | ((with_reducible refine gate_callee (f := 92) rfl ?_); refine goesL_ (some 9) rfl rfl Try.func92 (by kernel_rfl) rfl #[.int .i64 a0_2] rfl (by (try simp only [List.map_toArray, List.map_cons, List.map_nil]); first | done | rfl | (simp only [List.length_drop, List.length_take]; rfl)) ?_; (with_reducible refine (field_refers.calls a0_2 true _ A2.out).mono ?_); rintro e w' ⟨rfl, ⟨nd, rfl⟩⟩; refine ⟨_, rfl, ?_⟩) | ((with_reducible refine gate_callee (f := 16) rfl ?_); refine goesL_ (some 12) rfl rfl Try.func16 (by kernel_rfl) rfl #[.string a0_3] rfl (by (try simp only [List.map_toArray, List.map_cons, List.map_nil]); first | done | rfl | (simp only [List.length_drop, List.length_take]; rfl)) ?_; (with_reducible refine (ident_Right.calls a0_3 false _ A4.out).mono ?_); rintro e w30 ⟨rfl, hb⟩; refine ⟨_, rfl, ?_⟩; have n0_ := Aside0.mk (blk_below (g := gb165) (o := .cells #[.string a0_0, .int .i64 a0_1, .int .i64 a0_2, .string a0_3, .bool a0_4, .bool a0_5, .string a0_6] 40 (0, 0)) (by (with_reducible repeat (first | refine blk_drewN ?_ _ | refine blk_drew ?_ | refine blk_alloc ?_ _)); exact BK165.out) hb); have n1_ := Aside0.mk (below_step (by repeat (first | (with_reducible first | exact HB.out | apply below_alloc | apply pw_below_drewN | apply below_drew1 | refine below_set ?_ GE165.out) | exact HB.out)) hb); clear BK165; clear HB; have BK165 := n0_; have HB := n1_; clear n0_ n1_; (try clear hb); (try clear hb2); (try clear hk); (try clear hi)))
   go_ret
   exact ⟨by first | rfl | (simp [errW_none, errW_some] <;> rfl) | (simp [*, errW_none, errW_some] <;> rfl), by repeat (first | (with_reducible first | exact HB.out | apply below_alloc | apply pw_below_drewN | apply below_drew1 | refine below_set ?_ GE165.out) | exact HB.out)⟩
 ·replace c3 := Bool.eq_false_iff.mpr c3
  subst c3
  have H1 : (if a0_3.toList = ([] : List UInt8) then ((ident_Right.f a0_0).bind fun t170 => (if t170 = true then (if a0_6.toList = ([] : List UInt8) then (some true) else ((ident_Right.f a0_6).bind fun t171 => (some t171))) else (some false))) else (some false)) = some r := by rw [if_neg (show ¬ (false = true) by decide)] at H; exact H
  clear H
  have H := H1
  clear H1
  by_cases c31 : a0_3.toList = ([] : List UInt8)
  ·rw [if_pos c31] at H
   have c31b0 : (a0_3.toList == ([] : List UInt8)) = true := beq_iff_eq.mpr c31
   have c31b1 : (a0_3.toList != ([] : List UInt8)) = false := bne_eq_false_iff_eq.mpr c31
   clear c31
   replace H := Option.bind_eq_some_iff.mp H
   obtain ⟨t170, A320, H⟩ := H
   replace H : (if t170 = true then (if a0_6.toList = ([] : List UInt8) then (some true) else ((ident_Right.f a0_6).bind fun t171 => (some t171))) else (some false)) = some r := H
   have A32 := Aside0.mk A320
   clear A320
   by_cases c33 : t170 = true
   ·subst c33
    have H1 : (if a0_6.toList = ([] : List UInt8) then (some true) else ((ident_Right.f a0_6).bind fun t171 => (some t171))) = some r := by rw [if_pos rfl] at H; exact H
    clear H
    have H := H1
    clear H1
    by_cases c34 : a0_6.toList = ([] : List UInt8)
    ·rw [if_pos c34] at H
     have c34b0 : (a0_6.toList == ([] : List UInt8)) = true := beq_iff_eq.mpr c34
     have c34b1 : (a0_6.toList != ([] : List UInt8)) = false := bne_eq_false_iff_eq.mpr c34
     clear c34
     obtain rfl := Option.some.inj H
     go_enter Try.func73, Try.ntmps73
     go_wp2_with (first | ((with_reducible refine gate_dst (N := 1) rfl ?_); refine box_event ?hg (N := 1) ?hd (cs := #[.string a0_0, .int .i64 a0_1, .int .i64 a0_2, .string a0_3, .bool a0_4, .bool a0_5, .string a0_6]) (t := 40) ?hr ?_; (case hd => rfl); (case hg => rfl); (case hr => first | (go_simp; done) | (go_simp; rfl)); intro gb165 hg w35 hbox hb; have n0_ := Aside0.mk (below_step (by repeat (first | (with_reducible first | exact HB.out | apply below_alloc | apply pw_below_drewN | apply below_drew1) | exact HB.out)) hb); have n1_ := Aside0.mk (hbox); have n2_ := Aside0.mk ((by rw [hg]; exact (below_size (by repeat (first | (with_reducible first | exact HB.out | apply below_alloc | apply pw_below_drewN | apply below_drew1) | exact HB.out))) : w.heap.size ≤ gb165)); have n3_ := Aside0.mk ((by rw [hg]; exact (below_size (by repeat (first | (with_reducible first | exact HB.out | apply below_alloc | apply pw_below_drewN | apply below_drew1) | exact HB.out))) : w.heap.size ≤ gb165)); clear HB; have HB := n0_; have BK165 := n1_; have GW165 := n2_; have GE165 := n3_; clear n0_ n1_ n2_ n3_; clear hb hbox hg; have hcz36_0 : w35.cell? ⟨gb165, 0, none⟩ = some (.string a0_0) := (blk_cell BK165.out 0).trans rfl; have hcz36_1 : w35.cell? ⟨gb165, 1, none⟩ = some (.int .i64 a0_1) := (blk_cell BK165.out 1).trans rfl; have hcz36_2 : w35.cell? ⟨gb165, 2, none⟩ = some (.int .i64 a0_2) := (blk_cell BK165.out 2).trans rfl; have hcz36_3 : w35.cell? ⟨gb165, 3, none⟩ = some (.string a0_3) := (blk_cell BK165.out 3).trans rfl; have hcz36_4 : w35.cell? ⟨gb165, 4, none⟩ = some (.bool a0_4) := (blk_cell BK165.out 4).trans rfl; have hcz36_5 : w35.cell? ⟨gb165, 5, none⟩ = some (.bool a0_5) := (blk_cell BK165.out 5).trans rfl; have hcz36_6 : w35.cell? ⟨gb165, 6, none⟩ = some (.string a0_6) := (blk_cell BK165.out 6).trans rfl; have hfz36_0 := blk_frozen BK165.out 0; have hfz36_1 := blk_frozen BK165.out 1; have hfz36_2 := blk_frozen BK165.out 2; have hfz36_3 := blk_frozen BK165.out 3; have hfz36_4 := blk_frozen BK165.out 4; have hfz36_5 := blk_frozen BK165.out 5; have hfz36_6 := blk_frozen BK165.out 6) | ((with_reducible refine gate_callee (f := 92) rfl ?_); refine goesL_ (some 9) rfl rfl Try.func92 (by kernel_rfl) rfl #[.int .i64 a0_2] rfl (by (try simp only [List.map_toArray, List.map_cons, List.map_nil]); first | done | rfl | (simp only [List.length_drop, List.length_take]; rfl)) ?_; (with_reducible refine (field_refers.calls a0_2 false _ A2.out).mono ?_); rintro e w' ⟨rfl, ⟨nd, rfl⟩⟩; refine ⟨_, rfl, ?_⟩) | (go_at_call 16; (with_reducible refine (ident_Right.calls a0_0 true _ A32.out).mono ?_); rintro e w37 ⟨rfl, hb⟩; have n0_ := Aside0.mk (blk_below (g := gb165) (o := .cells #[.string a0_0, .int .i64 a0_1, .int .i64 a0_2, .string a0_3, .bool a0_4, .bool a0_5, .string a0_6] 40 (0, 0)) (by (with_reducible repeat (first | refine blk_drewN ?_ _ | refine blk_drew ?_ | refine blk_alloc ?_ _)); exact BK165.out) hb); have n1_ := Aside0.mk (below_step (by repeat (first | (with_reducible first | exact HB.out | apply below_alloc | apply pw_below_drewN | apply below_drew1 | refine below_set ?_ GE165.out) | exact HB.out)) hb); clear BK165; clear HB; have BK165 := n0_; have HB := n1_; clear n0_ n1_; (try clear hb); (try clear hb2); (try clear hk); (try clear hi); have hcz38_0 : w37.cell? ⟨gb165, 0, none⟩ = some (.string a0_0) := (blk_cell BK165.out 0).trans rfl; have hcz38_1 : w37.cell? ⟨gb165, 1, none⟩ = some (.int .i64 a0_1) := (blk_cell BK165.out 1).trans rfl; have hcz38_2 : w37.cell? ⟨gb165, 2, none⟩ = some (.int .i64 a0_2) := (blk_cell BK165.out 2).trans rfl; have hcz38_3 : w37.cell? ⟨gb165, 3, none⟩ = some (.string a0_3) := (blk_cell BK165.out 3).trans rfl; have hcz38_4 : w37.cell? ⟨gb165, 4, none⟩ = some (.bool a0_4) := (blk_cell BK165.out 4).trans rfl; have hcz38_5 : w37.cell? ⟨gb165, 5, none⟩ = some (.bool a0_5) := (blk_cell BK165.out 5).trans rfl; have hcz38_6 : w37.cell? ⟨gb165, 6, none⟩ = some (.string a0_6) := (blk_cell BK165.out 6).trans rfl; have hfz38_0 := blk_frozen BK165.out 0; have hfz38_1 := blk_frozen BK165.out 1; have hfz38_2 := blk_frozen BK165.out 2; have hfz38_3 := blk_frozen BK165.out 3; have hfz38_4 := blk_frozen BK165.out 4; have hfz38_5 := blk_frozen BK165.out 5; have hfz38_6 := blk_frozen BK165.out 6))
     go_ret
     exact ⟨by first | rfl | (simp [errW_none, errW_some] <;> rfl) | (simp [*, errW_none, errW_some] <;> rfl), by repeat (first | (with_reducible first | exact HB.out | apply below_alloc | apply pw_below_drewN | apply below_drew1 | refine below_set ?_ GE165.out) | exact HB.out)⟩
    ·rw [if_neg c34] at H
     have c34b0 : (a0_6.toList == ([] : List UInt8)) = false := beq_eq_false_iff_ne.mpr c34
     have c34b1 : (a0_6.toList != ([] : List UInt8)) = true := bne_iff_ne.mpr c34
     replace H := Option.bind_eq_some_iff.mp H
     obtain ⟨t171, A390, H⟩ := H
     replace H : (some t171) = some r := H
     have A39 := Aside0.mk A390
     clear A390
     obtain rfl := Option.some.inj H
     go_enter Try.func73, Try.ntmps73
     go_wp2_with (first | ((with_reducible refine gate_dst (N := 1) rfl ?_); refine box_event ?hg (N := 1) ?hd (cs := #[.string a0_0, .int .i64 a0_1, .int .i64 a0_2, .string a0_3, .bool a0_4, .bool a0_5, .string a0_6]) (t := 40) ?hr ?_; (case hd => rfl); (case hg => rfl); (case hr => first | (go_simp; done) | (go_simp; rfl)); intro gb165 hg w40 hbox hb; have n0_ := Aside0.mk (below_step (by repeat (first | (with_reducible first | exact HB.out | apply below_alloc | apply pw_below_drewN | apply below_drew1) | exact HB.out)) hb); have n1_ := Aside0.mk (hbox); have n2_ := Aside0.mk ((by rw [hg]; exact (below_size (by repeat (first | (with_reducible first | exact HB.out | apply below_alloc | apply pw_below_drewN | apply below_drew1) | exact HB.out))) : w.heap.size ≤ gb165)); have n3_ := Aside0.mk ((by rw [hg]; exact (below_size (by repeat (first | (with_reducible first | exact HB.out | apply below_alloc | apply pw_below_drewN | apply below_drew1) | exact HB.out))) : w.heap.size ≤ gb165)); clear HB; have HB := n0_; have BK165 := n1_; have GW165 := n2_; have GE165 := n3_; clear n0_ n1_ n2_ n3_; clear hb hbox hg; have hcz41_0 : w40.cell? ⟨gb165, 0, none⟩ = some (.string a0_0) := (blk_cell BK165.out 0).trans rfl; have hcz41_1 : w40.cell? ⟨gb165, 1, none⟩ = some (.int .i64 a0_1) := (blk_cell BK165.out 1).trans rfl; have hcz41_2 : w40.cell? ⟨gb165, 2, none⟩ = some (.int .i64 a0_2) := (blk_cell BK165.out 2).trans rfl; have hcz41_3 : w40.cell? ⟨gb165, 3, none⟩ = some (.string a0_3) := (blk_cell BK165.out 3).trans rfl; have hcz41_4 : w40.cell? ⟨gb165, 4, none⟩ = some (.bool a0_4) := (blk_cell BK165.out 4).trans rfl; have hcz41_5 : w40.cell? ⟨gb165, 5, none⟩ = some (.bool a0_5) := (blk_cell BK165.out 5).trans rfl; have hcz41_6 : w40.cell? ⟨gb165, 6, none⟩ = some (.string a0_6) := (blk_cell BK165.out 6).trans rfl; have hfz41_0 := blk_frozen BK165.out 0; have hfz41_1 := blk_frozen BK165.out 1; have hfz41_2 := blk_frozen BK165.out 2; have hfz41_3 := blk_frozen BK165.out 3; have hfz41_4 := blk_frozen BK165.out 4; have hfz41_5 := blk_frozen BK165.out 5; have hfz41_6 := blk_frozen BK165.out 6) | ((with_reducible refine gate_callee (f := 92) rfl ?_); refine goesL_ (some 9) rfl rfl Try.func92 (by kernel_rfl) rfl #[.int .i64 a0_2] rfl (by (try simp only [List.map_toArray, List.map_cons, List.map_nil]); first | done | rfl | (simp only [List.length_drop, List.length_take]; rfl)) ?_; (with_reducible refine (field_refers.calls a0_2 false _ A2.out).mono ?_); rintro e w' ⟨rfl, ⟨nd, rfl⟩⟩; refine ⟨_, rfl, ?_⟩) | (go_at_call 16; (with_reducible refine (ident_Right.calls a0_0 true _ A32.out).mono ?_); rintro e w42 ⟨rfl, hb⟩; have n0_ := Aside0.mk (blk_below (g := gb165) (o := .cells #[.string a0_0, .int .i64 a0_1, .int .i64 a0_2, .string a0_3, .bool a0_4, .bool a0_5, .string a0_6] 40 (0, 0)) (by (with_reducible repeat (first | refine blk_drewN ?_ _ | refine blk_drew ?_ | refine blk_alloc ?_ _)); exact BK165.out) hb); have n1_ := Aside0.mk (below_step (by repeat (first | (with_reducible first | exact HB.out | apply below_alloc | apply pw_below_drewN | apply below_drew1 | refine below_set ?_ GE165.out) | exact HB.out)) hb); clear BK165; clear HB; have BK165 := n0_; have HB := n1_; clear n0_ n1_; (try clear hb); (try clear hb2); (try clear hk); (try clear hi); have hcz43_0 : w42.cell? ⟨gb165, 0, none⟩ = some (.string a0_0) := (blk_cell BK165.out 0).trans rfl; have hcz43_1 : w42.cell? ⟨gb165, 1, none⟩ = some (.int .i64 a0_1) := (blk_cell BK165.out 1).trans rfl; have hcz43_2 : w42.cell? ⟨gb165, 2, none⟩ = some (.int .i64 a0_2) := (blk_cell BK165.out 2).trans rfl; have hcz43_3 : w42.cell? ⟨gb165, 3, none⟩ = some (.string a0_3) := (blk_cell BK165.out 3).trans rfl; have hcz43_4 : w42.cell? ⟨gb165, 4, none⟩ = some (.bool a0_4) := (blk_cell BK165.out 4).trans rfl; have hcz43_5 : w42.cell? ⟨gb165, 5, none⟩ = some (.bool a0_5) := (blk_cell BK165.out 5).trans rfl; have hcz43_6 : w42.cell? ⟨gb165, 6, none⟩ = some (.string a0_6) := (blk_cell BK165.out 6).trans rfl; have hfz43_0 := blk_frozen BK165.out 0; have hfz43_1 := blk_frozen BK165.out 1; have hfz43_2 := blk_frozen BK165.out 2; have hfz43_3 := blk_frozen BK165.out 3; have hfz43_4 := blk_frozen BK165.out 4; have hfz43_5 := blk_frozen BK165.out 5; have hfz43_6 := blk_frozen BK165.out 6) | (go_at_call 16; (with_reducible refine (ident_Right.calls a0_6 t171 _ A39.out).mono ?_); rintro e w44 ⟨rfl, hb⟩; have n0_ := Aside0.mk (blk_below (g := gb165) (o := .cells #[.string a0_0, .int .i64 a0_1, .int .i64 a0_2, .string a0_3, .bool a0_4, .bool a0_5, .string a0_6] 40 (0, 0)) (by (with_reducible repeat (first | refine blk_drewN ?_ _ | refine blk_drew ?_ | refine blk_alloc ?_ _)); exact BK165.out) hb); have n1_ := Aside0.mk (below_step (by repeat (first | (with_reducible first | exact HB.out | apply below_alloc | apply pw_below_drewN | apply below_drew1 | refine below_set ?_ GE165.out) | exact HB.out)) hb); clear BK165; clear HB; have BK165 := n0_; have HB := n1_; clear n0_ n1_; (try clear hb); (try clear hb2); (try clear hk); (try clear hi)))
     go_ret
     exact ⟨by first | rfl | (simp [errW_none, errW_some] <;> rfl) | (simp [*, errW_none, errW_some] <;> rfl), by repeat (first | (with_reducible first | exact HB.out | apply below_alloc | apply pw_below_drewN | apply below_drew1 | refine below_set ?_ GE165.out) | exact HB.out)⟩
   ·replace c33 := Bool.eq_false_iff.mpr c33
    subst c33
    have H1 : (some false) = some r := by rw [if_neg (show ¬ (false = true) by decide)] at H; exact H
    clear H
    have H := H1
    clear H1
    obtain rfl := Option.some.inj H
    go_enter Try.func73, Try.ntmps73
    go_wp2_with (first | ((with_reducible refine gate_dst (N := 1) rfl ?_); refine box_event ?hg (N := 1) ?hd (cs := #[.string a0_0, .int .i64 a0_1, .int .i64 a0_2, .string a0_3, .bool a0_4, .bool a0_5, .string a0_6]) (t := 40) ?hr ?_; (case hd => rfl); (case hg => rfl); (case hr => first | (go_simp; done) | (go_simp; rfl)); intro gb165 hg w45 hbox hb; have n0_ := Aside0.mk (below_step (by repeat (first | (with_reducible first | exact HB.out | apply below_alloc | apply pw_below_drewN | apply below_drew1) | exact HB.out)) hb); have n1_ := Aside0.mk (hbox); have n2_ := Aside0.mk ((by rw [hg]; exact (below_size (by repeat (first | (with_reducible first | exact HB.out | apply below_alloc | apply pw_below_drewN | apply below_drew1) | exact HB.out))) : w.heap.size ≤ gb165)); have n3_ := Aside0.mk ((by rw [hg]; exact (below_size (by repeat (first | (with_reducible first | exact HB.out | apply below_alloc | apply pw_below_drewN | apply below_drew1) | exact HB.out))) : w.heap.size ≤ gb165)); clear HB; have HB := n0_; have BK165 := n1_; have GW165 := n2_; have GE165 := n3_; clear n0_ n1_ n2_ n3_; clear hb hbox hg; have hcz46_0 : w45.cell? ⟨gb165, 0, none⟩ = some (.string a0_0) := (blk_cell BK165.out 0).trans rfl; have hcz46_1 : w45.cell? ⟨gb165, 1, none⟩ = some (.int .i64 a0_1) := (blk_cell BK165.out 1).trans rfl; have hcz46_2 : w45.cell? ⟨gb165, 2, none⟩ = some (.int .i64 a0_2) := (blk_cell BK165.out 2).trans rfl; have hcz46_3 : w45.cell? ⟨gb165, 3, none⟩ = some (.string a0_3) := (blk_cell BK165.out 3).trans rfl; have hcz46_4 : w45.cell? ⟨gb165, 4, none⟩ = some (.bool a0_4) := (blk_cell BK165.out 4).trans rfl; have hcz46_5 : w45.cell? ⟨gb165, 5, none⟩ = some (.bool a0_5) := (blk_cell BK165.out 5).trans rfl; have hcz46_6 : w45.cell? ⟨gb165, 6, none⟩ = some (.string a0_6) := (blk_cell BK165.out 6).trans rfl; have hfz46_0 := blk_frozen BK165.out 0; have hfz46_1 := blk_frozen BK165.out 1; have hfz46_2 := blk_frozen BK165.out 2; have hfz46_3 := blk_frozen BK165.out 3; have hfz46_4 := blk_frozen BK165.out 4; have hfz46_5 := blk_frozen BK165.out 5; have hfz46_6 := blk_frozen BK165.out 6) | ((with_reducible refine gate_callee (f := 92) rfl ?_); refine goesL_ (some 9) rfl rfl Try.func92 (by kernel_rfl) rfl #[.int .i64 a0_2] rfl (by (try simp only [List.map_toArray, List.map_cons, List.map_nil]); first | done | rfl | (simp only [List.length_drop, List.length_take]; rfl)) ?_; (with_reducible refine (field_refers.calls a0_2 false _ A2.out).mono ?_); rintro e w' ⟨rfl, ⟨nd, rfl⟩⟩; refine ⟨_, rfl, ?_⟩) | (go_at_call 16; (with_reducible refine (ident_Right.calls a0_0 false _ A32.out).mono ?_); rintro e w47 ⟨rfl, hb⟩; have n0_ := Aside0.mk (blk_below (g := gb165) (o := .cells #[.string a0_0, .int .i64 a0_1, .int .i64 a0_2, .string a0_3, .bool a0_4, .bool a0_5, .string a0_6] 40 (0, 0)) (by (with_reducible repeat (first | refine blk_drewN ?_ _ | refine blk_drew ?_ | refine blk_alloc ?_ _)); exact BK165.out) hb); have n1_ := Aside0.mk (below_step (by repeat (first | (with_reducible first | exact HB.out | apply below_alloc | apply pw_below_drewN | apply below_drew1 | refine below_set ?_ GE165.out) | exact HB.out)) hb); clear BK165; clear HB; have BK165 := n0_; have HB := n1_; clear n0_ n1_; (try clear hb); (try clear hb2); (try clear hk); (try clear hi)))
    go_ret
    exact ⟨by first | rfl | (simp [errW_none, errW_some] <;> rfl) | (simp [*, errW_none, errW_some] <;> rfl), by repeat (first | (with_reducible first | exact HB.out | apply below_alloc | apply pw_below_drewN | apply below_drew1 | refine below_set ?_ GE165.out) | exact HB.out)⟩
  ·rw [if_neg c31] at H
   have c31b0 : (a0_3.toList == ([] : List UInt8)) = false := beq_eq_false_iff_ne.mpr c31
   have c31b1 : (a0_3.toList != ([] : List UInt8)) = true := bne_iff_ne.mpr c31
   obtain rfl := Option.some.inj H
   go_enter Try.func73, Try.ntmps73
   go_wp2_with (first | ((with_reducible refine gate_dst (N := 1) rfl ?_); refine box_event ?hg (N := 1) ?hd (cs := #[.string a0_0, .int .i64 a0_1, .int .i64 a0_2, .string a0_3, .bool a0_4, .bool a0_5, .string a0_6]) (t := 40) ?hr ?_; (case hd => rfl); (case hg => rfl); (case hr => first | (go_simp; done) | (go_simp; rfl)); intro gb165 hg w48 hbox hb; have n0_ := Aside0.mk (below_step (by repeat (first | (with_reducible first | exact HB.out | apply below_alloc | apply pw_below_drewN | apply below_drew1) | exact HB.out)) hb); have n1_ := Aside0.mk (hbox); have n2_ := Aside0.mk ((by rw [hg]; exact (below_size (by repeat (first | (with_reducible first | exact HB.out | apply below_alloc | apply pw_below_drewN | apply below_drew1) | exact HB.out))) : w.heap.size ≤ gb165)); have n3_ := Aside0.mk ((by rw [hg]; exact (below_size (by repeat (first | (with_reducible first | exact HB.out | apply below_alloc | apply pw_below_drewN | apply below_drew1) | exact HB.out))) : w.heap.size ≤ gb165)); clear HB; have HB := n0_; have BK165 := n1_; have GW165 := n2_; have GE165 := n3_; clear n0_ n1_ n2_ n3_; clear hb hbox hg; have hcz49_0 : w48.cell? ⟨gb165, 0, none⟩ = some (.string a0_0) := (blk_cell BK165.out 0).trans rfl; have hcz49_1 : w48.cell? ⟨gb165, 1, none⟩ = some (.int .i64 a0_1) := (blk_cell BK165.out 1).trans rfl; have hcz49_2 : w48.cell? ⟨gb165, 2, none⟩ = some (.int .i64 a0_2) := (blk_cell BK165.out 2).trans rfl; have hcz49_3 : w48.cell? ⟨gb165, 3, none⟩ = some (.string a0_3) := (blk_cell BK165.out 3).trans rfl; have hcz49_4 : w48.cell? ⟨gb165, 4, none⟩ = some (.bool a0_4) := (blk_cell BK165.out 4).trans rfl; have hcz49_5 : w48.cell? ⟨gb165, 5, none⟩ = some (.bool a0_5) := (blk_cell BK165.out 5).trans rfl; have hcz49_6 : w48.cell? ⟨gb165, 6, none⟩ = some (.string a0_6) := (blk_cell BK165.out 6).trans rfl; have hfz49_0 := blk_frozen BK165.out 0; have hfz49_1 := blk_frozen BK165.out 1; have hfz49_2 := blk_frozen BK165.out 2; have hfz49_3 := blk_frozen BK165.out 3; have hfz49_4 := blk_frozen BK165.out 4; have hfz49_5 := blk_frozen BK165.out 5; have hfz49_6 := blk_frozen BK165.out 6) | ((with_reducible refine gate_callee (f := 92) rfl ?_); refine goesL_ (some 9) rfl rfl Try.func92 (by kernel_rfl) rfl #[.int .i64 a0_2] rfl (by (try simp only [List.map_toArray, List.map_cons, List.map_nil]); first | done | rfl | (simp only [List.length_drop, List.length_take]; rfl)) ?_; (with_reducible refine (field_refers.calls a0_2 false _ A2.out).mono ?_); rintro e w' ⟨rfl, ⟨nd, rfl⟩⟩; refine ⟨_, rfl, ?_⟩))
   go_ret
   exact ⟨by first | rfl | (simp [errW_none, errW_some] <;> rfl) | (simp [*, errW_none, errW_some] <;> rfl), by repeat (first | (with_reducible first | exact HB.out | apply below_alloc | apply pw_below_drewN | apply below_drew1 | refine below_set ?_ GE165.out) | exact HB.out)⟩
end Go.Proofs.Ytelhcijoegjjnaa.P
namespace Go.Proofs.Ytelhcijoegjjnaa.P
open Go.RowKit Go.Proofs.YtelhcijoegjjnaaW.PrintWords Go.Proofs.YtelhcijoegjjnaaW.PrintLast Go.Proofs.YtelhcijoegjjnaaW.PrintMore
attribute [local go_sem] max2_int min2_int max_two min_two max_three min_three max_four min_four
set_option linter.unusedVariables false
set_option linter.unusedSimpArgs false
def kindI (ty : Int) : Int := if ty < 0 ∨ ty ≥ 16 then 0 else ([0, 7, 15, 3, 11, 7, 15, 2, 3, 11, 7, 15, 0, 0, 6, 0] : List Int).getD ty.toNat 0
def scalar_kind.f (a0 : Int) : Option Int := some (kindI a0)
theorem kind_idx0 (w : World) : (Instr.index 108 (.agg #[.int .i64 0, .int .i64 7, .int .i64 15, .int .i64 3, .int .i64 11, .int .i64 7, .int .i64 15, .int .i64 2, .int .i64 3, .int .i64 11, .int .i64 7, .int .i64 15, .int .i64 0, .int .i64 0, .int .i64 6, .int .i64 0]) (.int .i64 0)).run Try.prog w = .ok (.int .i64 0) w := by kernel_rfl
theorem kind_idx1 (w : World) : (Instr.index 108 (.agg #[.int .i64 0, .int .i64 7, .int .i64 15, .int .i64 3, .int .i64 11, .int .i64 7, .int .i64 15, .int .i64 2, .int .i64 3, .int .i64 11, .int .i64 7, .int .i64 15, .int .i64 0, .int .i64 0, .int .i64 6, .int .i64 0]) (.int .i64 1)).run Try.prog w = .ok (.int .i64 7) w := by kernel_rfl
theorem kind_idx2 (w : World) : (Instr.index 108 (.agg #[.int .i64 0, .int .i64 7, .int .i64 15, .int .i64 3, .int .i64 11, .int .i64 7, .int .i64 15, .int .i64 2, .int .i64 3, .int .i64 11, .int .i64 7, .int .i64 15, .int .i64 0, .int .i64 0, .int .i64 6, .int .i64 0]) (.int .i64 2)).run Try.prog w = .ok (.int .i64 15) w := by kernel_rfl
theorem kind_idx3 (w : World) : (Instr.index 108 (.agg #[.int .i64 0, .int .i64 7, .int .i64 15, .int .i64 3, .int .i64 11, .int .i64 7, .int .i64 15, .int .i64 2, .int .i64 3, .int .i64 11, .int .i64 7, .int .i64 15, .int .i64 0, .int .i64 0, .int .i64 6, .int .i64 0]) (.int .i64 3)).run Try.prog w = .ok (.int .i64 3) w := by kernel_rfl
theorem kind_idx4 (w : World) : (Instr.index 108 (.agg #[.int .i64 0, .int .i64 7, .int .i64 15, .int .i64 3, .int .i64 11, .int .i64 7, .int .i64 15, .int .i64 2, .int .i64 3, .int .i64 11, .int .i64 7, .int .i64 15, .int .i64 0, .int .i64 0, .int .i64 6, .int .i64 0]) (.int .i64 4)).run Try.prog w = .ok (.int .i64 11) w := by kernel_rfl
theorem kind_idx5 (w : World) : (Instr.index 108 (.agg #[.int .i64 0, .int .i64 7, .int .i64 15, .int .i64 3, .int .i64 11, .int .i64 7, .int .i64 15, .int .i64 2, .int .i64 3, .int .i64 11, .int .i64 7, .int .i64 15, .int .i64 0, .int .i64 0, .int .i64 6, .int .i64 0]) (.int .i64 5)).run Try.prog w = .ok (.int .i64 7) w := by kernel_rfl
theorem kind_idx6 (w : World) : (Instr.index 108 (.agg #[.int .i64 0, .int .i64 7, .int .i64 15, .int .i64 3, .int .i64 11, .int .i64 7, .int .i64 15, .int .i64 2, .int .i64 3, .int .i64 11, .int .i64 7, .int .i64 15, .int .i64 0, .int .i64 0, .int .i64 6, .int .i64 0]) (.int .i64 6)).run Try.prog w = .ok (.int .i64 15) w := by kernel_rfl
theorem kind_idx7 (w : World) : (Instr.index 108 (.agg #[.int .i64 0, .int .i64 7, .int .i64 15, .int .i64 3, .int .i64 11, .int .i64 7, .int .i64 15, .int .i64 2, .int .i64 3, .int .i64 11, .int .i64 7, .int .i64 15, .int .i64 0, .int .i64 0, .int .i64 6, .int .i64 0]) (.int .i64 7)).run Try.prog w = .ok (.int .i64 2) w := by kernel_rfl
theorem kind_idx8 (w : World) : (Instr.index 108 (.agg #[.int .i64 0, .int .i64 7, .int .i64 15, .int .i64 3, .int .i64 11, .int .i64 7, .int .i64 15, .int .i64 2, .int .i64 3, .int .i64 11, .int .i64 7, .int .i64 15, .int .i64 0, .int .i64 0, .int .i64 6, .int .i64 0]) (.int .i64 8)).run Try.prog w = .ok (.int .i64 3) w := by kernel_rfl
theorem kind_idx9 (w : World) : (Instr.index 108 (.agg #[.int .i64 0, .int .i64 7, .int .i64 15, .int .i64 3, .int .i64 11, .int .i64 7, .int .i64 15, .int .i64 2, .int .i64 3, .int .i64 11, .int .i64 7, .int .i64 15, .int .i64 0, .int .i64 0, .int .i64 6, .int .i64 0]) (.int .i64 9)).run Try.prog w = .ok (.int .i64 11) w := by kernel_rfl
theorem kind_idx10 (w : World) : (Instr.index 108 (.agg #[.int .i64 0, .int .i64 7, .int .i64 15, .int .i64 3, .int .i64 11, .int .i64 7, .int .i64 15, .int .i64 2, .int .i64 3, .int .i64 11, .int .i64 7, .int .i64 15, .int .i64 0, .int .i64 0, .int .i64 6, .int .i64 0]) (.int .i64 10)).run Try.prog w = .ok (.int .i64 7) w := by kernel_rfl
theorem kind_idx11 (w : World) : (Instr.index 108 (.agg #[.int .i64 0, .int .i64 7, .int .i64 15, .int .i64 3, .int .i64 11, .int .i64 7, .int .i64 15, .int .i64 2, .int .i64 3, .int .i64 11, .int .i64 7, .int .i64 15, .int .i64 0, .int .i64 0, .int .i64 6, .int .i64 0]) (.int .i64 11)).run Try.prog w = .ok (.int .i64 15) w := by kernel_rfl
theorem kind_idx12 (w : World) : (Instr.index 108 (.agg #[.int .i64 0, .int .i64 7, .int .i64 15, .int .i64 3, .int .i64 11, .int .i64 7, .int .i64 15, .int .i64 2, .int .i64 3, .int .i64 11, .int .i64 7, .int .i64 15, .int .i64 0, .int .i64 0, .int .i64 6, .int .i64 0]) (.int .i64 12)).run Try.prog w = .ok (.int .i64 0) w := by kernel_rfl
theorem kind_idx13 (w : World) : (Instr.index 108 (.agg #[.int .i64 0, .int .i64 7, .int .i64 15, .int .i64 3, .int .i64 11, .int .i64 7, .int .i64 15, .int .i64 2, .int .i64 3, .int .i64 11, .int .i64 7, .int .i64 15, .int .i64 0, .int .i64 0, .int .i64 6, .int .i64 0]) (.int .i64 13)).run Try.prog w = .ok (.int .i64 0) w := by kernel_rfl
theorem kind_idx14 (w : World) : (Instr.index 108 (.agg #[.int .i64 0, .int .i64 7, .int .i64 15, .int .i64 3, .int .i64 11, .int .i64 7, .int .i64 15, .int .i64 2, .int .i64 3, .int .i64 11, .int .i64 7, .int .i64 15, .int .i64 0, .int .i64 0, .int .i64 6, .int .i64 0]) (.int .i64 14)).run Try.prog w = .ok (.int .i64 6) w := by kernel_rfl
theorem kind_idx15 (w : World) : (Instr.index 108 (.agg #[.int .i64 0, .int .i64 7, .int .i64 15, .int .i64 3, .int .i64 11, .int .i64 7, .int .i64 15, .int .i64 2, .int .i64 3, .int .i64 11, .int .i64 7, .int .i64 15, .int .i64 0, .int .i64 0, .int .i64 6, .int .i64 0]) (.int .i64 15)).run Try.prog w = .ok (.int .i64 0) w := by kernel_rfl
set_option maxHeartbeats 2000000 in
set_option maxRecDepth 100000 in
theorem scalar_kind.calls (a0 : Int) (r : Int) (w : World) (h : scalar_kind.f a0 = some r) :
  Calls Try.prog 93 #[.int .i64 a0] w fun e w' => e = .returned (.int .i64 r) ∧ Drawn0 w w' := by
 have HR := Aside0.mk (Option.some.inj h)
 clear h
 by_cases h1 : a0 < 0
 ·have h1a : decide (a0 < 0) = true := decide_eq_true h1
  have HX := Aside0.mk (show kindI a0 = 0 by simp [kindI, h1])
  go_enter Try.func93, Try.ntmps93
  go_wp2
  go_ret
  exact ⟨by rw [← HR.out, HX.out] <;> rfl, Drawn0.refl _⟩
 ·have h1a : decide (a0 < 0) = false := decide_eq_false h1
  by_cases h2 : 16 ≤ a0
  ·have h2a : decide (16 ≤ a0) = true := decide_eq_true h2
   have HX := Aside0.mk (show kindI a0 = 0 by simp [kindI, h2])
   go_enter Try.func93, Try.ntmps93
   go_wp2
   go_ret
   exact ⟨by rw [← HR.out, HX.out] <;> rfl, Drawn0.refl _⟩
  ·have hc : a0 = 0 ∨ a0 = 1 ∨ a0 = 2 ∨ a0 = 3 ∨ a0 = 4 ∨ a0 = 5 ∨ a0 = 6 ∨ a0 = 7 ∨ a0 = 8 ∨ a0 = 9 ∨ a0 = 10 ∨ a0 = 11 ∨ a0 = 12 ∨ a0 = 13 ∨ a0 = 14 ∨ a0 = 15 := by omega
   clear h1 h1a h2
   rcases hc with rfl | rfl | rfl | rfl | rfl | rfl | rfl | rfl | rfl | rfl | rfl | rfl | rfl | rfl | rfl | rfl
   ·have hi := kind_idx0
    go_enter Try.func93, Try.ntmps93
    go_wp2
    go_ret
    exact ⟨by rw [← HR.out] <;> rfl, Drawn0.refl _⟩
   ·have hi := kind_idx1
    go_enter Try.func93, Try.ntmps93
    go_wp2
    go_ret
    exact ⟨by rw [← HR.out] <;> rfl, Drawn0.refl _⟩
   ·have hi := kind_idx2
    go_enter Try.func93, Try.ntmps93
    go_wp2
    go_ret
    exact ⟨by rw [← HR.out] <;> rfl, Drawn0.refl _⟩
   ·have hi := kind_idx3
    go_enter Try.func93, Try.ntmps93
    go_wp2
    go_ret
    exact ⟨by rw [← HR.out] <;> rfl, Drawn0.refl _⟩
   ·have hi := kind_idx4
    go_enter Try.func93, Try.ntmps93
    go_wp2
    go_ret
    exact ⟨by rw [← HR.out] <;> rfl, Drawn0.refl _⟩
   ·have hi := kind_idx5
    go_enter Try.func93, Try.ntmps93
    go_wp2
    go_ret
    exact ⟨by rw [← HR.out] <;> rfl, Drawn0.refl _⟩
   ·have hi := kind_idx6
    go_enter Try.func93, Try.ntmps93
    go_wp2
    go_ret
    exact ⟨by rw [← HR.out] <;> rfl, Drawn0.refl _⟩
   ·have hi := kind_idx7
    go_enter Try.func93, Try.ntmps93
    go_wp2
    go_ret
    exact ⟨by rw [← HR.out] <;> rfl, Drawn0.refl _⟩
   ·have hi := kind_idx8
    go_enter Try.func93, Try.ntmps93
    go_wp2
    go_ret
    exact ⟨by rw [← HR.out] <;> rfl, Drawn0.refl _⟩
   ·have hi := kind_idx9
    go_enter Try.func93, Try.ntmps93
    go_wp2
    go_ret
    exact ⟨by rw [← HR.out] <;> rfl, Drawn0.refl _⟩
   ·have hi := kind_idx10
    go_enter Try.func93, Try.ntmps93
    go_wp2
    go_ret
    exact ⟨by rw [← HR.out] <;> rfl, Drawn0.refl _⟩
   ·have hi := kind_idx11
    go_enter Try.func93, Try.ntmps93
    go_wp2
    go_ret
    exact ⟨by rw [← HR.out] <;> rfl, Drawn0.refl _⟩
   ·have hi := kind_idx12
    go_enter Try.func93, Try.ntmps93
    go_wp2
    go_ret
    exact ⟨by rw [← HR.out] <;> rfl, Drawn0.refl _⟩
   ·have hi := kind_idx13
    go_enter Try.func93, Try.ntmps93
    go_wp2
    go_ret
    exact ⟨by rw [← HR.out] <;> rfl, Drawn0.refl _⟩
   ·have hi := kind_idx14
    go_enter Try.func93, Try.ntmps93
    go_wp2
    go_ret
    exact ⟨by rw [← HR.out] <;> rfl, Drawn0.refl _⟩
   ·have hi := kind_idx15
    go_enter Try.func93, Try.ntmps93
    go_wp2
    go_ret
    exact ⟨by rw [← HR.out] <;> rfl, Drawn0.refl _⟩
end Go.Proofs.Ytelhcijoegjjnaa.P
namespace Go.Proofs.Ytelhcijoegjjnaa.P
open Go.RowKit Go.Proofs.YtelhcijoegjjnaaW.PrintWords Go.Proofs.YtelhcijoegjjnaaW.PrintLast Go.Proofs.YtelhcijoegjjnaaW.PrintMore
attribute [local go_sem] max2_int min2_int max_two min_two max_three min_three max_four min_four
set_option linter.unusedVariables false
set_option linter.unusedSimpArgs false
def scalar_Number.f (a0 : Int) : Option (Bool) := (scalar_kind.f a0).bind fun t172 => (some ((Go.bits .and .i64 t172 2) != 0))
set_option maxHeartbeats 8000000 in
set_option maxRecDepth 100000 in
theorem scalar_Number.calls (a0 : Int) (r : Bool) (w : World) (h : scalar_Number.f a0 = some r) :
  Calls Try.prog 74 #[.int .i64 a0] w fun e w' => e = .returned (.bool r) ∧ Drawn0 w w' := by
 have H : ((scalar_kind.f a0).bind fun t172 => (some ((Go.bits .and .i64 t172 2) != 0))) = some r := h
 clear h
 replace H := Option.bind_eq_some_iff.mp H
 obtain ⟨t172, A20, H⟩ := H
 replace H : (some ((Go.bits .and .i64 t172 2) != 0)) = some r := H
 have A2 := Aside0.mk A20
 clear A20
 obtain rfl := Option.some.inj H
 go_enter Try.func74, Try.ntmps74
 go_wp2_with (first | ((with_reducible refine gate_callee (f := 93) rfl ?_); refine goesL_ (some 4) rfl rfl Try.func93 (by kernel_rfl) rfl #[.int .i64 a0] rfl (by (try simp only [List.map_toArray, List.map_cons, List.map_nil]); first | done | rfl | (simp only [List.length_drop, List.length_take]; rfl)) ?_; (with_reducible refine (scalar_kind.calls a0 t172 _ A2.out).mono ?_); rintro e w' ⟨rfl, ⟨nd, rfl⟩⟩; refine ⟨_, rfl, ?_⟩))
 go_ret
 exact ⟨by first | rfl | (simp; done) | (simp [*]; done), by repeat (first | exact Drawn0.refl _ | apply Drawn0.step)⟩
end Go.Proofs.Ytelhcijoegjjnaa.P
namespace Go.Proofs.Ytelhcijoegjjnaa.P
open Go.RowKit Go.Proofs.YtelhcijoegjjnaaW.PrintWords Go.Proofs.YtelhcijoegjjnaaW.PrintLast Go.Proofs.YtelhcijoegjjnaaW.PrintMore
attribute [local go_sem] max2_int min2_int max_two min_two max_three min_three max_four min_four
set_option linter.unusedVariables false
set_option linter.unusedSimpArgs false
def tag_number.f (a0 : Int) : Option (Bool) := if a0 ≥ 1 then (some (decide (a0 ≤ 536870911))) else (some false)
set_option maxHeartbeats 8000000 in
set_option maxRecDepth 100000 in
theorem tag_number.calls (a0 : Int) (r : Bool) (w : World) (h : tag_number.f a0 = some r) :
  Calls Try.prog 94 #[.int .i64 a0] w fun e w' => e = .returned (.bool r) ∧ Drawn0 w w' := by
 have H : (if a0 ≥ 1 then (some (decide (a0 ≤ 536870911))) else (some false)) = some r := h
 clear h
 by_cases c2 : a0 ≥ 1
 ·rw [if_pos c2] at H
  have c2b0 : decide (1 ≤ a0) = true := decide_eq_true c2
  clear c2
  obtain rfl := Option.some.inj H
  go_enter Try.func94, Try.ntmps94
  go_wp2
  go_ret
  exact ⟨by first | rfl | (simp; done) | (simp [*]; done), by repeat (first | exact Drawn0.refl _ | apply Drawn0.step)⟩
 ·rw [if_neg c2] at H
  have c2b0 : decide (1 ≤ a0) = false := decide_eq_false c2
  clear c2
  obtain rfl := Option.some.inj H
  go_enter Try.func94, Try.ntmps94
  go_wp2
  go_ret
  exact ⟨by first | rfl | (simp; done) | (simp [*]; done), by repeat (first | exact Drawn0.refl _ | apply Drawn0.step)⟩
end Go.Proofs.Ytelhcijoegjjnaa.P
namespace Go.Proofs.Ytelhcijoegjjnaa.P
open Go.RowKit Go.Proofs.YtelhcijoegjjnaaW.PrintWords Go.Proofs.YtelhcijoegjjnaaW.PrintLast Go.Proofs.YtelhcijoegjjnaaW.PrintMore
attribute [local go_sem] max2_int min2_int max_two min_two max_three min_three max_four min_four
set_option linter.unusedVariables false
set_option linter.unusedSimpArgs false
def tag_Field.f (a0 : Int) : Option (Bool) := (tag_number.f a0).bind fun t173 => (if t173 = true then (if a0 < 19000 then (some true) else (some (decide (a0 > 19999)))) else (some false))
set_option maxHeartbeats 8000000 in
set_option maxRecDepth 100000 in
theorem tag_Field.calls (a0 : Int) (r : Bool) (w : World) (h : tag_Field.f a0 = some r) :
  Calls Try.prog 75 #[.int .i64 a0] w fun e w' => e = .returned (.bool r) ∧ Drawn0 w w' := by
 have H : ((tag_number.f a0).bind fun t173 => (if t173 = true then (if a0 < 19000 then (some true) else (some (decide (a0 > 19999)))) else (some false))) = some r := h
 clear h
 replace H := Option.bind_eq_some_iff.mp H
 obtain ⟨t173, A20, H⟩ := H
 replace H : (if t173 = true then (if a0 < 19000 then (some true) else (some (decide (a0 > 19999)))) else (some false)) = some r := H
 have A2 := Aside0.mk A20
 clear A20
 by_cases c3 : t173 = true
 ·subst c3
  have H1 : (if a0 < 19000 then (some true) else (some (decide (a0 > 19999)))) = some r := by rw [if_pos rfl] at H; exact H
  clear H
  have H := H1
  clear H1
  by_cases c4 : a0 < 19000
  ·rw [if_pos c4] at H
   have c4b0 : decide (a0 < 19000) = true := decide_eq_true c4
   clear c4
   obtain rfl := Option.some.inj H
   go_enter Try.func75, Try.ntmps75
   go_wp2_with (first | ((with_reducible refine gate_callee (f := 94) rfl ?_); refine goesL_ (some 4) rfl rfl Try.func94 (by kernel_rfl) rfl #[.int .i64 a0] rfl (by (try simp only [List.map_toArray, List.map_cons, List.map_nil]); first | done | rfl | (simp only [List.length_drop, List.length_take]; rfl)) ?_; (with_reducible refine (tag_number.calls a0 true _ A2.out).mono ?_); rintro e w' ⟨rfl, ⟨nd, rfl⟩⟩; refine ⟨_, rfl, ?_⟩))
   go_ret
   exact ⟨by first | rfl | (simp; done) | (simp [*]; done), by repeat (first | exact Drawn0.refl _ | apply Drawn0.step)⟩
  ·rw [if_neg c4] at H
   have c4b0 : decide (a0 < 19000) = false := decide_eq_false c4
   clear c4
   obtain rfl := Option.some.inj H
   go_enter Try.func75, Try.ntmps75
   go_wp2_with (first | ((with_reducible refine gate_callee (f := 94) rfl ?_); refine goesL_ (some 4) rfl rfl Try.func94 (by kernel_rfl) rfl #[.int .i64 a0] rfl (by (try simp only [List.map_toArray, List.map_cons, List.map_nil]); first | done | rfl | (simp only [List.length_drop, List.length_take]; rfl)) ?_; (with_reducible refine (tag_number.calls a0 true _ A2.out).mono ?_); rintro e w' ⟨rfl, ⟨nd, rfl⟩⟩; refine ⟨_, rfl, ?_⟩))
   go_ret
   exact ⟨by first | rfl | (simp; done) | (simp [*]; done), by repeat (first | exact Drawn0.refl _ | apply Drawn0.step)⟩
 ·replace c3 := Bool.eq_false_iff.mpr c3
  subst c3
  have H1 : (some false) = some r := by rw [if_neg (show ¬ (false = true) by decide)] at H; exact H
  clear H
  have H := H1
  clear H1
  obtain rfl := Option.some.inj H
  go_enter Try.func75, Try.ntmps75
  go_wp2_with (first | ((with_reducible refine gate_callee (f := 94) rfl ?_); refine goesL_ (some 4) rfl rfl Try.func94 (by kernel_rfl) rfl #[.int .i64 a0] rfl (by (try simp only [List.map_toArray, List.map_cons, List.map_nil]); first | done | rfl | (simp only [List.length_drop, List.length_take]; rfl)) ?_; (with_reducible refine (tag_number.calls a0 false _ A2.out).mono ?_); rintro e w' ⟨rfl, ⟨nd, rfl⟩⟩; refine ⟨_, rfl, ?_⟩))
  go_ret
  exact ⟨by first | rfl | (simp; done) | (simp [*]; done), by repeat (first | exact Drawn0.refl _ | apply Drawn0.step)⟩
end Go.Proofs.Ytelhcijoegjjnaa.P
namespace Go.Proofs.Ytelhcijoegjjnaa.P
open Go.RowKit Go.Proofs.YtelhcijoegjjnaaW.PrintWords Go.Proofs.YtelhcijoegjjnaaW.PrintLast Go.Proofs.YtelhcijoegjjnaaW.PrintMore
attribute [local go_sem] max2_int min2_int max_two min_two max_three min_three max_four min_four
set_option linter.unusedVariables false
set_option linter.unusedSimpArgs false
mutual
def field_Check.j0 : Nat → Int → Bool → ByteArray → Int → Int → ByteArray → Bool → Bool → ByteArray → Option (Int)
 | 0, _, _, _, _, _, _, _, _, _ => none
 | k + 1, x3, x8, x175000, x175001, x175002, x175003, x175004, x175005, x175006 => if x8 = true then (some 1) else (if x175004 = true then (field_Check.j1 k x3 (x175006.toList != ([] : List UInt8)) x175000 x175001 x175002 x175003 x175004 x175005 x175006) else (field_Check.j1 k x3 false x175000 x175001 x175002 x175003 x175004 x175005 x175006))
def field_Check.j1 : Nat → Int → Bool → ByteArray → Int → Int → ByteArray → Bool → Bool → ByteArray → Option (Int)
 | 0, _, _, _, _, _, _, _, _, _ => none
 | k + 1, x3, x15, x175000, x175001, x175002, x175003, x175004, x175005, x175006 => if x15 = true then (some 1) else (if x175005 = true then (if x175004 = true then ((scalar_Number.f x175002).bind fun t176 => (field_Check.j2 k x3 (!t176) x175000 x175001 x175002 x175003 x175004 x175005 x175006)) else (field_Check.j2 k x3 (!false) x175000 x175001 x175002 x175003 x175004 x175005 x175006)) else (field_Check.j2 k x3 false x175000 x175001 x175002 x175003 x175004 x175005 x175006))
def field_Check.j2 : Nat → Int → Bool → ByteArray → Int → Int → ByteArray → Bool → Bool → ByteArray → Option (Int)
 | 0, _, _, _, _, _, _, _, _, _ => none
 | k + 1, x3, x23, x175000, x175001, x175002, x175003, x175004, x175005, x175006 => if x23 = true then (some 1) else ((tag_Field.f x175001).bind fun t177 => (if t177 = true then (some x3) else (some 1)))
end
def field_Check.f (k : Nat) (a0_0 : ByteArray) (a0_1 : Int) (a0_2 : Int) (a0_3 : ByteArray) (a0_4 : Bool) (a0_5 : Bool) (a0_6 : ByteArray) : Option (Int) := (field_named.f a0_0 a0_1 a0_2 a0_3 a0_4 a0_5 a0_6).bind fun t175 => (if t175 = true then (if a0_2 < 1 then (field_Check.j0 k 0 (decide (a0_2 < 1)) a0_0 a0_1 a0_2 a0_3 a0_4 a0_5 a0_6) else (field_Check.j0 k 0 (decide (a0_2 > 15)) a0_0 a0_1 a0_2 a0_3 a0_4 a0_5 a0_6)) else (some 2))
theorem field_Check.mono_l : ∀ k, (∀ y0 y1 y2 y3 y4 y5 y6 y7 y8, LeO (field_Check.j0 k y0 y1 y2 y3 y4 y5 y6 y7 y8) (field_Check.j0 (k + 1) y0 y1 y2 y3 y4 y5 y6 y7 y8)) ∧ (∀ y0 y1 y2 y3 y4 y5 y6 y7 y8, LeO (field_Check.j1 k y0 y1 y2 y3 y4 y5 y6 y7 y8) (field_Check.j1 (k + 1) y0 y1 y2 y3 y4 y5 y6 y7 y8)) ∧ (∀ y0 y1 y2 y3 y4 y5 y6 y7 y8, LeO (field_Check.j2 k y0 y1 y2 y3 y4 y5 y6 y7 y8) (field_Check.j2 (k + 1) y0 y1 y2 y3 y4 y5 y6 y7 y8))
 | 0 => ⟨fun _ _ _ _ _ _ _ _ _ r h => by simp [field_Check.j0] at h, fun _ _ _ _ _ _ _ _ _ r h => by simp [field_Check.j1] at h, fun _ _ _ _ _ _ _ _ _ r h => by simp [field_Check.j2] at h⟩
 | k + 1 => by
  obtain ⟨ih0, ih1, ih2⟩ := field_Check.mono_l k
  refine ⟨?_, ?_, ?_⟩
  ·intro y0 y1 y2 y3 y4 y5 y6 y7 y8
   unfold field_Check.j0
   repeat' first
   | (with_reducible exact ih0 _ _ _ _ _ _ _ _ _)
   | (with_reducible exact ih1 _ _ _ _ _ _ _ _ _)
   | (with_reducible exact ih2 _ _ _ _ _ _ _ _ _)
   | (with_reducible exact LeO.refl _)
   | (with_reducible exact LeO.none _)
   | (with_reducible refine LeO.ite ?_ ?_)
   | (with_reducible refine LeO.bind ?_ (fun _ => ?_))
   | exact ih0 _ _ _ _ _ _ _ _ _
   | exact ih1 _ _ _ _ _ _ _ _ _
   | exact ih2 _ _ _ _ _ _ _ _ _
   | exact LeO.none _
   | refine LeO.ite ?_ ?_
   | refine LeO.bind ?_ (fun _ => ?_)
  ·intro y0 y1 y2 y3 y4 y5 y6 y7 y8
   unfold field_Check.j1
   repeat' first
   | (with_reducible exact ih0 _ _ _ _ _ _ _ _ _)
   | (with_reducible exact ih1 _ _ _ _ _ _ _ _ _)
   | (with_reducible exact ih2 _ _ _ _ _ _ _ _ _)
   | (with_reducible exact LeO.refl _)
   | (with_reducible exact LeO.none _)
   | (with_reducible refine LeO.ite ?_ ?_)
   | (with_reducible refine LeO.bind ?_ (fun _ => ?_))
   | exact ih0 _ _ _ _ _ _ _ _ _
   | exact ih1 _ _ _ _ _ _ _ _ _
   | exact ih2 _ _ _ _ _ _ _ _ _
   | exact LeO.none _
   | refine LeO.ite ?_ ?_
   | refine LeO.bind ?_ (fun _ => ?_)
  ·intro y0 y1 y2 y3 y4 y5 y6 y7 y8
   unfold field_Check.j2
   repeat' first
   | (with_reducible exact ih0 _ _ _ _ _ _ _ _ _)
   | (with_reducible exact ih1 _ _ _ _ _ _ _ _ _)
   | (with_reducible exact ih2 _ _ _ _ _ _ _ _ _)
   | (with_reducible exact LeO.refl _)
   | (with_reducible exact LeO.none _)
   | (with_reducible refine LeO.ite ?_ ?_)
   | (with_reducible refine LeO.bind ?_ (fun _ => ?_))
   | exact ih0 _ _ _ _ _ _ _ _ _
   | exact ih1 _ _ _ _ _ _ _ _ _
   | exact ih2 _ _ _ _ _ _ _ _ _
   | exact LeO.none _
   | refine LeO.ite ?_ ?_
   | refine LeO.bind ?_ (fun _ => ?_)
theorem field_Check.mono : ∀ a0 a1 a2 a3 a4 a5 a6 k, LeO (field_Check.f k a0 a1 a2 a3 a4 a5 a6) (field_Check.f (k + 1) a0 a1 a2 a3 a4 a5 a6) := by
 intro a0 a1 a2 a3 a4 a5 a6 k
 obtain ⟨ih0, ih1, ih2⟩ := field_Check.mono_l k
 unfold field_Check.f
 repeat' first
   | (with_reducible exact ih0 _ _ _ _ _ _ _ _ _)
   | (with_reducible exact ih1 _ _ _ _ _ _ _ _ _)
   | (with_reducible exact ih2 _ _ _ _ _ _ _ _ _)
   | (with_reducible exact LeO.refl _)
   | (with_reducible exact LeO.none _)
   | (with_reducible refine LeO.ite ?_ ?_)
   | (with_reducible refine LeO.bind ?_ (fun _ => ?_))
   | exact ih0 _ _ _ _ _ _ _ _ _
   | exact ih1 _ _ _ _ _ _ _ _ _
   | exact ih2 _ _ _ _ _ _ _ _ _
   | exact LeO.none _
   | refine LeO.ite ?_ ?_
   | refine LeO.bind ?_ (fun _ => ?_)
set_option maxHeartbeats 8000000 in
set_option maxRecDepth 100000 in
theorem field_Check.calls (k : Nat) (a0_0 : ByteArray) (a0_1 : Int) (a0_2 : Int) (a0_3 : ByteArray) (a0_4 : Bool) (a0_5 : Bool) (a0_6 : ByteArray) (r : Int) (w : World) (h : field_Check.f k a0_0 a0_1 a0_2 a0_3 a0_4 a0_5 a0_6 = some r) :
  Calls Try.prog 41 #[.agg #[.string a0_0, .int .i64 a0_1, .int .i64 a0_2, .string a0_3, .bool a0_4, .bool a0_5, .string a0_6]] w fun e w' => e = .returned (.int .i64 r) ∧ Below w.heap.size w w' := by
 have hu40 := Try.underlying40
 have HB := Aside0.mk (Below.refl w.heap.size w)
 have H : ((field_named.f a0_0 a0_1 a0_2 a0_3 a0_4 a0_5 a0_6).bind fun t175 => (if t175 = true then (if a0_2 < 1 then (field_Check.j0 k 0 (decide (a0_2 < 1)) a0_0 a0_1 a0_2 a0_3 a0_4 a0_5 a0_6) else (field_Check.j0 k 0 (decide (a0_2 > 15)) a0_0 a0_1 a0_2 a0_3 a0_4 a0_5 a0_6)) else (some 2))) = some r := h
 clear h
 replace H := Option.bind_eq_some_iff.mp H
 obtain ⟨t175, A20, H⟩ := H
 replace H : (if t175 = true then (if a0_2 < 1 then (field_Check.j0 k 0 (decide (a0_2 < 1)) a0_0 a0_1 a0_2 a0_3 a0_4 a0_5 a0_6) else (field_Check.j0 k 0 (decide (a0_2 > 15)) a0_0 a0_1 a0_2 a0_3 a0_4 a0_5 a0_6)) else (some 2)) = some r := H
 have A2 := Aside0.mk A20
 clear A20
 by_cases c3 : t175 = true
 ·subst c3
  have H1 : (if a0_2 < 1 then (field_Check.j0 k 0 (decide (a0_2 < 1)) a0_0 a0_1 a0_2 a0_3 a0_4 a0_5 a0_6) else (field_Check.j0 k 0 (decide (a0_2 > 15)) a0_0 a0_1 a0_2 a0_3 a0_4 a0_5 a0_6)) = some r := by rw [if_pos rfl] at H; exact H
  clear H
  have H := H1
  clear H1
  have HC4 := Aside0.mk H
  clear H
  go_enter Try.func41, Try.ntmps41
  go_upto_if 8 with (first | ((with_reducible refine gate_dst (N := 1) rfl ?_); refine box_event ?hg (N := 1) ?hd (cs := #[.string a0_0, .int .i64 a0_1, .int .i64 a0_2, .string a0_3, .bool a0_4, .bool a0_5, .string a0_6]) (t := 40) ?hr ?_; (case hd => rfl); (case hg => rfl); (case hr => first | (go_simp; done) | (go_simp; rfl)); intro gb174 hg w5 hbox hb; have n0_ := Aside0.mk (below_step (by repeat (first | (with_reducible first | exact HB.out | apply below_alloc | apply pw_below_drewN | apply below_drew1) | exact HB.out)) hb); have n1_ := Aside0.mk (hbox); have n2_ := Aside0.mk ((by rw [hg]; exact (below_size (by repeat (first | (with_reducible first | exact HB.out | apply below_alloc | apply pw_below_drewN | apply below_drew1) | exact HB.out))) : w.heap.size ≤ gb174)); have n3_ := Aside0.mk ((by rw [hg]; exact (below_size (by repeat (first | (with_reducible first | exact HB.out | apply below_alloc | apply pw_below_drewN | apply below_drew1) | exact HB.out))) : w.heap.size ≤ gb174)); clear HB; have HB := n0_; have BK174 := n1_; have GW174 := n2_; have GE174 := n3_; clear n0_ n1_ n2_ n3_; clear hb hbox hg; have hcz6_0 : w5.cell? ⟨gb174, 0, none⟩ = some (.string a0_0) := (blk_cell BK174.out 0).trans rfl; have hcz6_1 : w5.cell? ⟨gb174, 1, none⟩ = some (.int .i64 a0_1) := (blk_cell BK174.out 1).trans rfl; have hcz6_2 : w5.cell? ⟨gb174, 2, none⟩ = some (.int .i64 a0_2) := (blk_cell BK174.out 2).trans rfl; have hcz6_3 : w5.cell? ⟨gb174, 3, none⟩ = some (.string a0_3) := (blk_cell BK174.out 3).trans rfl; have hcz6_4 : w5.cell? ⟨gb174, 4, none⟩ = some (.bool a0_4) := (blk_cell BK174.out 4).trans rfl; have hcz6_5 : w5.cell? ⟨gb174, 5, none⟩ = some (.bool a0_5) := (blk_cell BK174.out 5).trans rfl; have hcz6_6 : w5.cell? ⟨gb174, 6, none⟩ = some (.string a0_6) := (blk_cell BK174.out 6).trans rfl; have hfz6_0 := blk_frozen BK174.out 0; have hfz6_1 := blk_frozen BK174.out 1; have hfz6_2 := blk_frozen BK174.out 2; have hfz6_3 := blk_frozen BK174.out 3; have hfz6_4 := blk_frozen BK174.out 4; have hfz6_5 := blk_frozen BK174.out 5; have hfz6_6 := blk_frozen BK174.out 6) | ((with_reducible refine gate_callee (f := 73) rfl ?_); refine goesL_ (some 6) rfl rfl Try.func73 (by kernel_rfl) rfl #[.agg #[.string a0_0, .int .i64 a0_1, .int .i64 a0_2, .string a0_3, .bool a0_4, .bool a0_5, .string a0_6]] rfl (by (try simp only [List.map_toArray, List.map_cons, List.map_nil]); first | done | rfl | (simp only [List.length_drop, List.length_take]; rfl)) ?_; (with_reducible refine (field_named.calls a0_0 a0_1 a0_2 a0_3 a0_4 a0_5 a0_6 true _ A2.out).mono ?_); rintro e w7 ⟨rfl, hb⟩; refine ⟨_, rfl, ?_⟩; have n0_ := Aside0.mk (blk_below (g := gb174) (o := .cells #[.string a0_0, .int .i64 a0_1, .int .i64 a0_2, .string a0_3, .bool a0_4, .bool a0_5, .string a0_6] 40 (0, 0)) (by (with_reducible repeat (first | refine blk_drewN ?_ _ | refine blk_drew ?_ | refine blk_alloc ?_ _)); exact BK174.out) hb); have n1_ := Aside0.mk (below_step (by repeat (first | (with_reducible first | exact HB.out | apply below_alloc | apply pw_below_drewN | apply below_drew1 | refine below_set ?_ GE174.out) | exact HB.out)) hb); clear BK174; clear HB; have BK174 := n0_; have HB := n1_; clear n0_ n1_; (try clear hb); (try clear hb2); (try clear hk); (try clear hi); have hcz8_0 : w7.cell? ⟨gb174, 0, none⟩ = some (.string a0_0) := (blk_cell BK174.out 0).trans rfl; have hcz8_1 : w7.cell? ⟨gb174, 1, none⟩ = some (.int .i64 a0_1) := (blk_cell BK174.out 1).trans rfl; have hcz8_2 : w7.cell? ⟨gb174, 2, none⟩ = some (.int .i64 a0_2) := (blk_cell BK174.out 2).trans rfl; have hcz8_3 : w7.cell? ⟨gb174, 3, none⟩ = some (.string a0_3) := (blk_cell BK174.out 3).trans rfl; have hcz8_4 : w7.cell? ⟨gb174, 4, none⟩ = some (.bool a0_4) := (blk_cell BK174.out 4).trans rfl; have hcz8_5 : w7.cell? ⟨gb174, 5, none⟩ = some (.bool a0_5) := (blk_cell BK174.out 5).trans rfl; have hcz8_6 : w7.cell? ⟨gb174, 6, none⟩ = some (.string a0_6) := (blk_cell BK174.out 6).trans rfl; have hfz8_0 := blk_frozen BK174.out 0; have hfz8_1 := blk_frozen BK174.out 1; have hfz8_2 := blk_frozen BK174.out 2; have hfz8_3 := blk_frozen BK174.out 3; have hfz8_4 := blk_frozen BK174.out 4; have hfz8_5 := blk_frozen BK174.out 5; have hfz8_6 := blk_frozen BK174.out 6))
  (try simp only [Act.put, List.setIfInBounds_toArray, List.set_cons_zero, List.set_cons_succ])
  go_cut [8] (fun v8 wc => ∃ (kq : Nat) (x8_3 : Bool), v8 = .bool x8_3 ∧ Aside0 (field_Check.j0 kq 0 x8_3 a0_0 a0_1 a0_2 a0_3 a0_4 a0_5 a0_6 = some r) ∧ Aside0 (kq ≤ k) ∧ Aside0 (wc.heap[gb174]? = some (.cells #[.string a0_0, .int .i64 a0_1, .int .i64 a0_2, .string a0_3, .bool a0_4, .bool a0_5, .string a0_6] 40 (0, 0))) ∧ Aside0 (Below w.heap.size w wc))
  case first =>
   have H := HC4.out
   clear HC4
   by_cases c9 : a0_2 < 1
   ·rw [if_pos c9] at H
    have c9b0 : decide (a0_2 < 1) = true := decide_eq_true c9
    clear c9
    (first | rw [c9b0] | (simp only [i64_w, i32_w]; rw [c9b0]) | skip)
    have H' := Aside0.mk H
    clear H
    go_wp2
    go_meet
    case rel => exact ⟨_, (decide (a0_2 < 1)), (by first | rfl | (simp; done) | (simp [*]; done) | (simp [*] <;> (generalize ByteArray.toList _ = z_; cases z_ <;> rfl))), H', ⟨by first | omega | exact Nat.le_refl _⟩, ⟨by (with_reducible repeat (first | refine blk_drewN ?_ _ | refine blk_drew ?_ | refine blk_alloc ?_ _)); exact BK174.out⟩, ⟨by repeat (first | (with_reducible first | exact HB.out | apply below_alloc | apply pw_below_drewN | apply below_drew1 | refine below_set ?_ GE174.out) | exact HB.out)⟩⟩
   ·rw [if_neg c9] at H
    have c9b0 : decide (a0_2 < 1) = false := decide_eq_false c9
    clear c9
    (first | rw [c9b0] | (simp only [i64_w, i32_w]; rw [c9b0]) | skip)
    have H' := Aside0.mk H
    clear H
    have hcz10_0 : w7.cell? ⟨gb174, 0, none⟩ = some (.string a0_0) := (blk_cell BK174.out 0).trans rfl
    have hcz10_1 : w7.cell? ⟨gb174, 1, none⟩ = some (.int .i64 a0_1) := (blk_cell BK174.out 1).trans rfl
    have hcz10_2 : w7.cell? ⟨gb174, 2, none⟩ = some (.int .i64 a0_2) := (blk_cell BK174.out 2).trans rfl
    have hcz10_3 : w7.cell? ⟨gb174, 3, none⟩ = some (.string a0_3) := (blk_cell BK174.out 3).trans rfl
    have hcz10_4 : w7.cell? ⟨gb174, 4, none⟩ = some (.bool a0_4) := (blk_cell BK174.out 4).trans rfl
    have hcz10_5 : w7.cell? ⟨gb174, 5, none⟩ = some (.bool a0_5) := (blk_cell BK174.out 5).trans rfl
    have hcz10_6 : w7.cell? ⟨gb174, 6, none⟩ = some (.string a0_6) := (blk_cell BK174.out 6).trans rfl
    have hfz10_0 := blk_frozen BK174.out 0
    have hfz10_1 := blk_frozen BK174.out 1
    have hfz10_2 := blk_frozen BK174.out 2
    have hfz10_3 := blk_frozen BK174.out 3
    have hfz10_4 := blk_frozen BK174.out 4
    have hfz10_5 := blk_frozen BK174.out 5
    have hfz10_6 := blk_frozen BK174.out 6
    go_wp2
    go_meet
    case rel => exact ⟨_, (decide (a0_2 > 15)), (by first | rfl | (simp; done) | (simp [*]; done) | (simp [*] <;> (generalize ByteArray.toList _ = z_; cases z_ <;> rfl))), H', ⟨by first | omega | exact Nat.le_refl _⟩, ⟨by (with_reducible repeat (first | refine blk_drewN ?_ _ | refine blk_drew ?_ | refine blk_alloc ?_ _)); exact BK174.out⟩, ⟨by repeat (first | (with_reducible first | exact HB.out | apply below_alloc | apply pw_below_drewN | apply below_drew1 | refine below_set ?_ GE174.out) | exact HB.out)⟩⟩
  case rest =>
   clear HC4
   try clear p2
   try clear c3
   try clear c4
   try clear c7
   try clear c9
   try clear c9b0
   try clear hcz10_0
   try clear hcz10_1
   try clear hcz10_2
   try clear hcz10_3
   try clear hcz10_4
   try clear hcz10_5
   try clear hcz10_6
   try clear hcz6_0
   try clear hcz6_1
   try clear hcz6_2
   try clear hcz6_3
   try clear hcz6_4
   try clear hcz6_5
   try clear hcz6_6
   try clear hcz8_0
   try clear hcz8_1
   try clear hcz8_2
   try clear hcz8_3
   try clear hcz8_4
   try clear hcz8_5
   try clear hcz8_6
   try clear hfz10_0
   try clear hfz10_1
   try clear hfz10_2
   try clear hfz10_3
   try clear hfz10_4
   try clear hfz10_5
   try clear hfz10_6
   try clear hfz6_0
   try clear hfz6_1
   try clear hfz6_2
   try clear hfz6_3
   try clear hfz6_4
   try clear hfz6_5
   try clear hfz6_6
   try clear hfz8_0
   try clear hfz8_1
   try clear hfz8_2
   try clear hfz8_3
   try clear hfz8_4
   try clear hfz8_5
   try clear hfz8_6
   obtain ⟨kq, x8_3, rfl, HA, HJ3, BK174, HB⟩ := hcut
   cases kq with
   | zero => exact absurd HA.out (by simp [field_Check.j0])
   | succ kj3 =>
    have H := HA.out
    clear HA
    simp only [field_Check.j0] at H
    by_cases c11 : x8_3 = true
    ·subst c11
     have H1 : (some 1) = some r := by rw [if_pos rfl] at H; exact H
     clear H
     have H := H1
     clear H1
     obtain rfl := Option.some.inj H
     go_wp2
     go_ret
     exact ⟨by first | rfl | (simp [errW_none, errW_some] <;> rfl) | (simp [*, errW_none, errW_some] <;> rfl), by repeat (first | (with_reducible first | exact HB.out | apply below_alloc | apply pw_below_drewN | apply below_drew1 | refine below_set ?_ GE174.out) | exact HB.out)⟩
    ·replace c11 := Bool.eq_false_iff.mpr c11
     subst c11
     have H1 : (if a0_4 = true then (field_Check.j1 kj3 0 (a0_6.toList != ([] : List UInt8)) a0_0 a0_1 a0_2 a0_3 a0_4 a0_5 a0_6) else (field_Check.j1 kj3 0 false a0_0 a0_1 a0_2 a0_3 a0_4 a0_5 a0_6)) = some r := by rw [if_neg (show ¬ (false = true) by decide)] at H; exact H
     clear H
     have H := H1
     clear H1
     have HC12 := Aside0.mk H
     clear H
     go_upto_region 5 with (fail)
     go_cut [15] (fun v15 wc => ∃ (kq : Nat) (x15_11 : Bool), v15 = .bool x15_11 ∧ Aside0 (field_Check.j1 kq 0 x15_11 a0_0 a0_1 a0_2 a0_3 a0_4 a0_5 a0_6 = some r) ∧ Aside0 (kq ≤ kj3) ∧ Aside0 (wc.heap[gb174]? = some (.cells #[.string a0_0, .int .i64 a0_1, .int .i64 a0_2, .string a0_3, .bool a0_4, .bool a0_5, .string a0_6] 40 (0, 0))) ∧ Aside0 (Below w.heap.size w wc))
     case first =>
      have H := HC12.out
      clear HC12
      by_cases c13 : a0_4 = true
      ·subst c13
       have H1 : (field_Check.j1 kj3 0 (a0_6.toList != ([] : List UInt8)) a0_0 a0_1 a0_2 a0_3 true a0_5 a0_6) = some r := by rw [if_pos rfl] at H; exact H
       clear H
       have H := H1
       clear H1
       have H' := Aside0.mk H
       clear H
       have hcz14_0 : wc.cell? ⟨gb174, 0, none⟩ = some (.string a0_0) := (blk_cell BK174.out 0).trans rfl
       have hcz14_1 : wc.cell? ⟨gb174, 1, none⟩ = some (.int .i64 a0_1) := (blk_cell BK174.out 1).trans rfl
       have hcz14_2 : wc.cell? ⟨gb174, 2, none⟩ = some (.int .i64 a0_2) := (blk_cell BK174.out 2).trans rfl
       have hcz14_3 : wc.cell? ⟨gb174, 3, none⟩ = some (.string a0_3) := (blk_cell BK174.out 3).trans rfl
       have hcz14_4 : wc.cell? ⟨gb174, 4, none⟩ = some (.bool true) := (blk_cell BK174.out 4).trans rfl
       have hcz14_5 : wc.cell? ⟨gb174, 5, none⟩ = some (.bool a0_5) := (blk_cell BK174.out 5).trans rfl
       have hcz14_6 : wc.cell? ⟨gb174, 6, none⟩ = some (.string a0_6) := (blk_cell BK174.out 6).trans rfl
       have hfz14_0 := blk_frozen BK174.out 0
       have hfz14_1 := blk_frozen BK174.out 1
       have hfz14_2 := blk_frozen BK174.out 2
       have hfz14_3 := blk_frozen BK174.out 3
       have hfz14_4 := blk_frozen BK174.out 4
       have hfz14_5 := blk_frozen BK174.out 5
       have hfz14_6 := blk_frozen BK174.out 6
       go_wp2
       go_meet
       case rel => exact ⟨_, ((a0_6.toList != ([] : List UInt8))), (by first | rfl | (simp; done) | (simp [*]; done) | (simp [*] <;> (generalize ByteArray.toList _ = z_; cases z_ <;> rfl))), H', ⟨by have := HJ3.out; first | omega | exact Nat.le_refl _⟩, ⟨by (with_reducible repeat (first | refine blk_drewN ?_ _ | refine blk_drew ?_ | refine blk_alloc ?_ _)); exact BK174.out⟩, ⟨by repeat (first | (with_reducible first | exact HB.out | apply below_alloc | apply pw_below_drewN | apply below_drew1 | refine below_set ?_ GE174.out) | exact HB.out)⟩⟩
      ·replace c13 := Bool.eq_false_iff.mpr c13
       subst c13
       have H1 : (field_Check.j1 kj3 0 false a0_0 a0_1 a0_2 a0_3 false a0_5 a0_6) = some r := by rw [if_neg (show ¬ (false = true) by decide)] at H; exact H
       clear H
       have H := H1
       clear H1
       have H' := Aside0.mk H
       clear H
       have hcz15_0 : wc.cell? ⟨gb174, 0, none⟩ = some (.string a0_0) := (blk_cell BK174.out 0).trans rfl
       have hcz15_1 : wc.cell? ⟨gb174, 1, none⟩ = some (.int .i64 a0_1) := (blk_cell BK174.out 1).trans rfl
       have hcz15_2 : wc.cell? ⟨gb174, 2, none⟩ = some (.int .i64 a0_2) := (blk_cell BK174.out 2).trans rfl
       have hcz15_3 : wc.cell? ⟨gb174, 3, none⟩ = some (.string a0_3) := (blk_cell BK174.out 3).trans rfl
       have hcz15_4 : wc.cell? ⟨gb174, 4, none⟩ = some (.bool false) := (blk_cell BK174.out 4).trans rfl
       have hcz15_5 : wc.cell? ⟨gb174, 5, none⟩ = some (.bool a0_5) := (blk_cell BK174.out 5).trans rfl
       have hcz15_6 : wc.cell? ⟨gb174, 6, none⟩ = some (.string a0_6) := (blk_cell BK174.out 6).trans rfl
       have hfz15_0 := blk_frozen BK174.out 0
       have hfz15_1 := blk_frozen BK174.out 1
       have hfz15_2 := blk_frozen BK174.out 2
       have hfz15_3 := blk_frozen BK174.out 3
       have hfz15_4 := blk_frozen BK174.out 4
       have hfz15_5 := blk_frozen BK174.out 5
       have hfz15_6 := blk_frozen BK174.out 6
       go_wp2
       go_meet
       case rel => exact ⟨_, (false), (by first | rfl | (simp; done) | (simp [*]; done) | (simp [*] <;> (generalize ByteArray.toList _ = z_; cases z_ <;> rfl))), H', ⟨by have := HJ3.out; first | omega | exact Nat.le_refl _⟩, ⟨by (with_reducible repeat (first | refine blk_drewN ?_ _ | refine blk_drew ?_ | refine blk_alloc ?_ _)); exact BK174.out⟩, ⟨by repeat (first | (with_reducible first | exact HB.out | apply below_alloc | apply pw_below_drewN | apply below_drew1 | refine below_set ?_ GE174.out) | exact HB.out)⟩⟩
     case rest =>
      clear HC12
      try clear c1
      try clear p2
      try clear c3
      try clear c4
      try clear c7
      try clear c9
      try clear c9b0
      try clear c11
      try clear c13
      try clear hcz10_0
      try clear hcz10_1
      try clear hcz10_2
      try clear hcz10_3
      try clear hcz10_4
      try clear hcz10_5
      try clear hcz10_6
      try clear hcz14_0
      try clear hcz14_1
      try clear hcz14_2
      try clear hcz14_3
      try clear hcz14_4
      try clear hcz14_5
      try clear hcz14_6
      try clear hcz15_0
      try clear hcz15_1
      try clear hcz15_2
      try clear hcz15_3
      try clear hcz15_4
      try clear hcz15_5
      try clear hcz15_6
      try clear hcz6_0
      try clear hcz6_1
      try clear hcz6_2
      try clear hcz6_3
      try clear hcz6_4
      try clear hcz6_5
      try clear hcz6_6
      try clear hcz8_0
      try clear hcz8_1
      try clear hcz8_2
      try clear hcz8_3
      try clear hcz8_4
      try clear hcz8_5
      try clear hcz8_6
      try clear hfz10_0
      try clear hfz10_1
      try clear hfz10_2
      try clear hfz10_3
      try clear hfz10_4
      try clear hfz10_5
      try clear hfz10_6
      try clear hfz14_0
      try clear hfz14_1
      try clear hfz14_2
      try clear hfz14_3
      try clear hfz14_4
      try clear hfz14_5
      try clear hfz14_6
      try clear hfz15_0
      try clear hfz15_1
      try clear hfz15_2
      try clear hfz15_3
      try clear hfz15_4
      try clear hfz15_5
      try clear hfz15_6
      try clear hfz6_0
      try clear hfz6_1
      try clear hfz6_2
      try clear hfz6_3
      try clear hfz6_4
      try clear hfz6_5
      try clear hfz6_6
      try clear hfz8_0
      try clear hfz8_1
      try clear hfz8_2
      try clear hfz8_3
      try clear hfz8_4
      try clear hfz8_5
      try clear hfz8_6
      try clear p2
      obtain ⟨kq, x15_11, rfl, HA, HJ11, BK174, HB⟩ := hcut
      cases kq with
      | zero => exact absurd HA.out (by simp [field_Check.j1])
      | succ kj11 =>
       have H := HA.out
       clear HA
       simp only [field_Check.j1] at H
       by_cases c16 : x15_11 = true
       ·subst c16
        have H1 : (some 1) = some r := by rw [if_pos rfl] at H; exact H
        clear H
        have H := H1
        clear H1
        obtain rfl := Option.some.inj H
        go_wp2
        go_ret
        exact ⟨by first | rfl | (simp [errW_none, errW_some] <;> rfl) | (simp [*, errW_none, errW_some] <;> rfl), by repeat (first | (with_reducible first | exact HB.out | apply below_alloc | apply pw_below_drewN | apply below_drew1 | refine below_set ?_ GE174.out) | exact HB.out)⟩
       ·replace c16 := Bool.eq_false_iff.mpr c16
        subst c16
        have H1 : (if a0_5 = true then (if a0_4 = true then ((scalar_Number.f a0_2).bind fun t176 => (field_Check.j2 kj11 0 (!t176) a0_0 a0_1 a0_2 a0_3 a0_4 a0_5 a0_6)) else (field_Check.j2 kj11 0 (!false) a0_0 a0_1 a0_2 a0_3 a0_4 a0_5 a0_6)) else (field_Check.j2 kj11 0 false a0_0 a0_1 a0_2 a0_3 a0_4 a0_5 a0_6)) = some r := by rw [if_neg (show ¬ (false = true) by decide)] at H; exact H
        clear H
        have H := H1
        clear H1
        have HC17 := Aside0.mk H
        clear H
        go_upto_region 6 with (fail)
        go_cut [23] (fun v23 wc => ∃ (kq : Nat) (x23_16 : Bool), v23 = .bool x23_16 ∧ Aside0 (field_Check.j2 kq 0 x23_16 a0_0 a0_1 a0_2 a0_3 a0_4 a0_5 a0_6 = some r) ∧ Aside0 (kq ≤ kj11) ∧ Aside0 (wc.heap[gb174]? = some (.cells #[.string a0_0, .int .i64 a0_1, .int .i64 a0_2, .string a0_3, .bool a0_4, .bool a0_5, .string a0_6] 40 (0, 0))) ∧ Aside0 (Below w.heap.size w wc))
        case first =>
         have H := HC17.out
         clear HC17
         by_cases c18 : a0_5 = true
         ·subst c18
          have H1 : (if a0_4 = true then ((scalar_Number.f a0_2).bind fun t176 => (field_Check.j2 kj11 0 (!t176) a0_0 a0_1 a0_2 a0_3 a0_4 true a0_6)) else (field_Check.j2 kj11 0 (!false) a0_0 a0_1 a0_2 a0_3 a0_4 true a0_6)) = some r := by rw [if_pos rfl] at H; exact H
          clear H
          have H := H1
          clear H1
          by_cases c19 : a0_4 = true
          ·subst c19
           have H1 : ((scalar_Number.f a0_2).bind fun t176 => (field_Check.j2 kj11 0 (!t176) a0_0 a0_1 a0_2 a0_3 true true a0_6)) = some r := by rw [if_pos rfl] at H; exact H
           clear H
           have H := H1
           clear H1
           replace H := Option.bind_eq_some_iff.mp H
           obtain ⟨t176, A200, H⟩ := H
           replace H : (field_Check.j2 kj11 0 (!t176) a0_0 a0_1 a0_2 a0_3 true true a0_6) = some r := H
           have A20 := Aside0.mk A200
           clear A200
           have H' := Aside0.mk H
           clear H
           have hcz21_0 : wc.cell? ⟨gb174, 0, none⟩ = some (.string a0_0) := (blk_cell BK174.out 0).trans rfl
           have hcz21_1 : wc.cell? ⟨gb174, 1, none⟩ = some (.int .i64 a0_1) := (blk_cell BK174.out 1).trans rfl
           have hcz21_2 : wc.cell? ⟨gb174, 2, none⟩ = some (.int .i64 a0_2) := (blk_cell BK174.out 2).trans rfl
           have hcz21_3 : wc.cell? ⟨gb174, 3, none⟩ = some (.string a0_3) := (blk_cell BK174.out 3).trans rfl
           have hcz21_4 : wc.cell? ⟨gb174, 4, none⟩ = some (.bool true) := (blk_cell BK174.out 4).trans rfl
           have hcz21_5 : wc.cell? ⟨gb174, 5, none⟩ = some (.bool true) := (blk_cell BK174.out 5).trans rfl
           have hcz21_6 : wc.cell? ⟨gb174, 6, none⟩ = some (.string a0_6) := (blk_cell BK174.out 6).trans rfl
           have hfz21_0 := blk_frozen BK174.out 0
           have hfz21_1 := blk_frozen BK174.out 1
           have hfz21_2 := blk_frozen BK174.out 2
           have hfz21_3 := blk_frozen BK174.out 3
           have hfz21_4 := blk_frozen BK174.out 4
           have hfz21_5 := blk_frozen BK174.out 5
           have hfz21_6 := blk_frozen BK174.out 6
           go_wp2_with (first | (go_at_call 74; (with_reducible refine (scalar_Number.calls a0_2 t176 _ A20.out).mono ?_); rintro e w' ⟨rfl, ⟨nd, rfl⟩⟩))
           go_meet
           case rel => exact ⟨_, (!t176), (by first | rfl | (simp; done) | (simp [*]; done) | (simp [*] <;> (generalize ByteArray.toList _ = z_; cases z_ <;> rfl))), H', ⟨by have := HJ3.out; have := HJ11.out; first | omega | exact Nat.le_refl _⟩, ⟨by (with_reducible repeat (first | refine blk_drewN ?_ _ | refine blk_drew ?_ | refine blk_alloc ?_ _)); exact BK174.out⟩, ⟨by repeat (first | (with_reducible first | exact HB.out | apply below_alloc | apply pw_below_drewN | apply below_drew1 | refine below_set ?_ GE174.out) | exact HB.out)⟩⟩
          ·replace c19 := Bool.eq_false_iff.mpr c19
           subst c19
           have H1 : (field_Check.j2 kj11 0 (!false) a0_0 a0_1 a0_2 a0_3 false true a0_6) = some r := by rw [if_neg (show ¬ (false = true) by decide)] at H; exact H
           clear H
           have H := H1
           clear H1
           have H' := Aside0.mk H
           clear H
           have hcz22_0 : wc.cell? ⟨gb174, 0, none⟩ = some (.string a0_0) := (blk_cell BK174.out 0).trans rfl
           have hcz22_1 : wc.cell? ⟨gb174, 1, none⟩ = some (.int .i64 a0_1) := (blk_cell BK174.out 1).trans rfl
           have hcz22_2 : wc.cell? ⟨gb174, 2, none⟩ = some (.int .i64 a0_2) := (blk_cell BK174.out 2).trans rfl
           have hcz22_3 : wc.cell? ⟨gb174, 3, none⟩ = some (.string a0_3) := (blk_cell BK174.out 3).trans rfl
           have hcz22_4 : wc.cell? ⟨gb174, 4, none⟩ = some (.bool false) := (blk_cell BK174.out 4).trans rfl
           have hcz22_5 : wc.cell? ⟨gb174, 5, none⟩ = some (.bool true) := (blk_cell BK174.out 5).trans rfl
           have hcz22_6 : wc.cell? ⟨gb174, 6, none⟩ = some (.string a0_6) := (blk_cell BK174.out 6).trans rfl
           have hfz22_0 := blk_frozen BK174.out 0
           have hfz22_1 := blk_frozen BK174.out 1
           have hfz22_2 := blk_frozen BK174.out 2
           have hfz22_3 := blk_frozen BK174.out 3
           have hfz22_4 := blk_frozen BK174.out 4
           have hfz22_5 := blk_frozen BK174.out 5
           have hfz22_6 := blk_frozen BK174.out 6
           go_wp2
           go_meet
           case rel => exact ⟨_, (!false), (by first | rfl | (simp; done) | (simp [*]; done) | (simp [*] <;> (generalize ByteArray.toList _ = z_; cases z_ <;> rfl))), H', ⟨by have := HJ3.out; have := HJ11.out; first | omega | exact Nat.le_refl _⟩, ⟨by (with_reducible repeat (first | refine blk_drewN ?_ _ | refine blk_drew ?_ | refine blk_alloc ?_ _)); exact BK174.out⟩, ⟨by repeat (first | (with_reducible first | exact HB.out | apply below_alloc | apply pw_below_drewN | apply below_drew1 | refine below_set ?_ GE174.out) | exact HB.out)⟩⟩
         ·replace c18 := Bool.eq_false_iff.mpr c18
          subst c18
          have H1 : (field_Check.j2 kj11 0 false a0_0 a0_1 a0_2 a0_3 a0_4 false a0_6) = some r := by rw [if_neg (show ¬ (false = true) by decide)] at H; exact H
          clear H
          have H := H1
          clear H1
          have H' := Aside0.mk H
          clear H
          have hcz23_0 : wc.cell? ⟨gb174, 0, none⟩ = some (.string a0_0) := (blk_cell BK174.out 0).trans rfl
          have hcz23_1 : wc.cell? ⟨gb174, 1, none⟩ = some (.int .i64 a0_1) := (blk_cell BK174.out 1).trans rfl
          have hcz23_2 : wc.cell? ⟨gb174, 2, none⟩ = some (.int .i64 a0_2) := (blk_cell BK174.out 2).trans rfl
          have hcz23_3 : wc.cell? ⟨gb174, 3, none⟩ = some (.string a0_3) := (blk_cell BK174.out 3).trans rfl
          have hcz23_4 : wc.cell? ⟨gb174, 4, none⟩ = some (.bool a0_4) := (blk_cell BK174.out 4).trans rfl
          have hcz23_5 : wc.cell? ⟨gb174, 5, none⟩ = some (.bool false) := (blk_cell BK174.out 5).trans rfl
          have hcz23_6 : wc.cell? ⟨gb174, 6, none⟩ = some (.string a0_6) := (blk_cell BK174.out 6).trans rfl
          have hfz23_0 := blk_frozen BK174.out 0
          have hfz23_1 := blk_frozen BK174.out 1
          have hfz23_2 := blk_frozen BK174.out 2
          have hfz23_3 := blk_frozen BK174.out 3
          have hfz23_4 := blk_frozen BK174.out 4
          have hfz23_5 := blk_frozen BK174.out 5
          have hfz23_6 := blk_frozen BK174.out 6
          go_wp2
          go_meet
          case rel => exact ⟨_, (false), (by first | rfl | (simp; done) | (simp [*]; done) | (simp [*] <;> (generalize ByteArray.toList _ = z_; cases z_ <;> rfl))), H', ⟨by have := HJ3.out; have := HJ11.out; first | omega | exact Nat.le_refl _⟩, ⟨by (with_reducible repeat (first | refine blk_drewN ?_ _ | refine blk_drew ?_ | refine blk_alloc ?_ _)); exact BK174.out⟩, ⟨by repeat (first | (with_reducible first | exact HB.out | apply below_alloc | apply pw_below_drewN | apply below_drew1 | refine below_set ?_ GE174.out) | exact HB.out)⟩⟩
        case rest =>
         clear HC17
         try clear c1
         try clear p2
         try clear c3
         try clear c4
         try clear c7
         try clear c9
         try clear c9b0
         try clear c11
         try clear c13
         try clear c16
         try clear c18
         try clear c19
         try clear hcz10_0
         try clear hcz10_1
         try clear hcz10_2
         try clear hcz10_3
         try clear hcz10_4
         try clear hcz10_5
         try clear hcz10_6
         try clear hcz14_0
         try clear hcz14_1
         try clear hcz14_2
         try clear hcz14_3
         try clear hcz14_4
         try clear hcz14_5
         try clear hcz14_6
         try clear hcz15_0
         try clear hcz15_1
         try clear hcz15_2
         try clear hcz15_3
         try clear hcz15_4
         try clear hcz15_5
         try clear hcz15_6
         try clear hcz21_0
         try clear hcz21_1
         try clear hcz21_2
         try clear hcz21_3
         try clear hcz21_4
         try clear hcz21_5
         try clear hcz21_6
         try clear hcz22_0
         try clear hcz22_1
         try clear hcz22_2
         try clear hcz22_3
         try clear hcz22_4
         try clear hcz22_5
         try clear hcz22_6
         try clear hcz23_0
         try clear hcz23_1
         try clear hcz23_2
         try clear hcz23_3
         try clear hcz23_4
         try clear hcz23_5
         try clear hcz23_6
         try clear hcz6_0
         try clear hcz6_1
         try clear hcz6_2
         try clear hcz6_3
         try clear hcz6_4
         try clear hcz6_5
         try clear hcz6_6
         try clear hcz8_0
         try clear hcz8_1
         try clear hcz8_2
         try clear hcz8_3
         try clear hcz8_4
         try clear hcz8_5
         try clear hcz8_6
         try clear hfz10_0
         try clear hfz10_1
         try clear hfz10_2
         try clear hfz10_3
         try clear hfz10_4
         try clear hfz10_5
         try clear hfz10_6
         try clear hfz14_0
         try clear hfz14_1
         try clear hfz14_2
         try clear hfz14_3
         try clear hfz14_4
         try clear hfz14_5
         try clear hfz14_6
         try clear hfz15_0
         try clear hfz15_1
         try clear hfz15_2
         try clear hfz15_3
         try clear hfz15_4
         try clear hfz15_5
         try clear hfz15_6
         try clear hfz21_0
         try clear hfz21_1
         try clear hfz21_2
         try clear hfz21_3
         try clear hfz21_4
         try clear hfz21_5
         try clear hfz21_6
         try clear hfz22_0
         try clear hfz22_1
         try clear hfz22_2
         try clear hfz22_3
         try clear hfz22_4
         try clear hfz22_5
         try clear hfz22_6
         try clear hfz23_0
         try clear hfz23_1
         try clear hfz23_2
         try clear hfz23_3
         try clear hfz23_4
         try clear hfz23_5
         try clear hfz23_6
         try clear hfz6_0
         try clear hfz6_1
         try clear hfz6_2
         try clear hfz6_3
         try clear hfz6_4
         try clear hfz6_5
         try clear hfz6_6
         try clear hfz8_0
         try clear hfz8_1
         try clear hfz8_2
         try clear hfz8_3
         try clear hfz8_4
         try clear hfz8_5
         try clear hfz8_6
         try clear p2
         obtain ⟨kq, x23_16, rfl, HA, HJ16, BK174, HB⟩ := hcut
         cases kq with
         | zero => exact absurd HA.out (by simp [field_Check.j2])
         | succ kj16 =>
          have H := HA.out
          clear HA
          simp only [field_Check.j2] at H
          by_cases c24 : x23_16 = true
          ·subst c24
           have H1 : (some 1) = some r := by rw [if_pos rfl] at H; exact H
           clear H
           have H := H1
           clear H1
           obtain rfl := Option.some.inj H
           go_wp2
           go_ret
           exact ⟨by first | rfl | (simp [errW_none, errW_some] <;> rfl) | (simp [*, errW_none, errW_some] <;> rfl), by repeat (first | (with_reducible first | exact HB.out | apply below_alloc | apply pw_below_drewN | apply below_drew1 | refine below_set ?_ GE174.out) | exact HB.out)⟩
          ·replace c24 := Bool.eq_false_iff.mpr c24
           subst c24
           have H1 : ((tag_Field.f a0_1).bind fun t177 => (if t177 = true then (some 0) else (some 1))) = some r := by rw [if_neg (show ¬ (false = true) by decide)] at H; exact H
           clear H
           have H := H1
           clear H1
           replace H := Option.bind_eq_some_iff.mp H
           obtain ⟨t177, A250, H⟩ := H
           replace H : (if t177 = true then (some 0) else (some 1)) = some r := H
           have A25 := Aside0.mk A250
           clear A250
           by_cases c26 : t177 = true
           ·subst c26
            have H1 : (some 0) = some r := by rw [if_pos rfl] at H; exact H
            clear H
            have H := H1
            clear H1
            obtain rfl := Option.some.inj H
            have hcz27_0 : wc.cell? ⟨gb174, 0, none⟩ = some (.string a0_0) := (blk_cell BK174.out 0).trans rfl
            have hcz27_1 : wc.cell? ⟨gb174, 1, none⟩ = some (.int .i64 a0_1) := (blk_cell BK174.out 1).trans rfl
            have hcz27_2 : wc.cell? ⟨gb174, 2, none⟩ = some (.int .i64 a0_2) := (blk_cell BK174.out 2).trans rfl
            have hcz27_3 : wc.cell? ⟨gb174, 3, none⟩ = some (.string a0_3) := (blk_cell BK174.out 3).trans rfl
            have hcz27_4 : wc.cell? ⟨gb174, 4, none⟩ = some (.bool a0_4) := (blk_cell BK174.out 4).trans rfl
            have hcz27_5 : wc.cell? ⟨gb174, 5, none⟩ = some (.bool a0_5) := (blk_cell BK174.out 5).trans rfl
            have hcz27_6 : wc.cell? ⟨gb174, 6, none⟩ = some (.string a0_6) := (blk_cell BK174.out 6).trans rfl
            have hfz27_0 := blk_frozen BK174.out 0
            have hfz27_1 := blk_frozen BK174.out 1
            have hfz27_2 := blk_frozen BK174.out 2
            have hfz27_3 := blk_frozen BK174.out 3
            have hfz27_4 := blk_frozen BK174.out 4
            have hfz27_5 := blk_frozen BK174.out 5
            have hfz27_6 := blk_frozen BK174.out 6
            go_wp2_with (first | ((with_reducible refine gate_callee (f := 75) rfl ?_); refine goesL_ (some 39) rfl rfl Try.func75 (by kernel_rfl) rfl #[.int .i64 a0_1] rfl (by (try simp only [List.map_toArray, List.map_cons, List.map_nil]); first | done | rfl | (simp only [List.length_drop, List.length_take]; rfl)) ?_; (with_reducible refine (tag_Field.calls a0_1 true _ A25.out).mono ?_); rintro e w' ⟨rfl, ⟨nd, rfl⟩⟩; refine ⟨_, rfl, ?_⟩))
            go_ret
            exact ⟨by first | rfl | (simp [errW_none, errW_some] <;> rfl) | (simp [*, errW_none, errW_some] <;> rfl), by repeat (first | (with_reducible first | exact HB.out | apply below_alloc | apply pw_below_drewN | apply below_drew1 | refine below_set ?_ GE174.out) | exact HB.out)⟩
           ·replace c26 := Bool.eq_false_iff.mpr c26
            subst c26
            have H1 : (some 1) = some r := by rw [if_neg (show ¬ (false = true) by decide)] at H; exact H
            clear H
            have H := H1
            clear H1
            obtain rfl := Option.some.inj H
            have hcz28_0 : wc.cell? ⟨gb174, 0, none⟩ = some (.string a0_0) := (blk_cell BK174.out 0).trans rfl
            have hcz28_1 : wc.cell? ⟨gb174, 1, none⟩ = some (.int .i64 a0_1) := (blk_cell BK174.out 1).trans rfl
            have hcz28_2 : wc.cell? ⟨gb174, 2, none⟩ = some (.int .i64 a0_2) := (blk_cell BK174.out 2).trans rfl
            have hcz28_3 : wc.cell? ⟨gb174, 3, none⟩ = some (.string a0_3) := (blk_cell BK174.out 3).trans rfl
            have hcz28_4 : wc.cell? ⟨gb174, 4, none⟩ = some (.bool a0_4) := (blk_cell BK174.out 4).trans rfl
            have hcz28_5 : wc.cell? ⟨gb174, 5, none⟩ = some (.bool a0_5) := (blk_cell BK174.out 5).trans rfl
            have hcz28_6 : wc.cell? ⟨gb174, 6, none⟩ = some (.string a0_6) := (blk_cell BK174.out 6).trans rfl
            have hfz28_0 := blk_frozen BK174.out 0
            have hfz28_1 := blk_frozen BK174.out 1
            have hfz28_2 := blk_frozen BK174.out 2
            have hfz28_3 := blk_frozen BK174.out 3
            have hfz28_4 := blk_frozen BK174.out 4
            have hfz28_5 := blk_frozen BK174.out 5
            have hfz28_6 := blk_frozen BK174.out 6
            go_wp2_with (first | ((with_reducible refine gate_callee (f := 75) rfl ?_); refine goesL_ (some 39) rfl rfl Try.func75 (by kernel_rfl) rfl #[.int .i64 a0_1] rfl (by (try simp only [List.map_toArray, List.map_cons, List.map_nil]); first | done | rfl | (simp only [List.length_drop, List.length_take]; rfl)) ?_; (with_reducible refine (tag_Field.calls a0_1 false _ A25.out).mono ?_); rintro e w' ⟨rfl, ⟨nd, rfl⟩⟩; refine ⟨_, rfl, ?_⟩))
            go_ret
            exact ⟨by first | rfl | (simp [errW_none, errW_some] <;> rfl) | (simp [*, errW_none, errW_some] <;> rfl), by repeat (first | (with_reducible first | exact HB.out | apply below_alloc | apply pw_below_drewN | apply below_drew1 | refine below_set ?_ GE174.out) | exact HB.out)⟩
 ·replace c3 := Bool.eq_false_iff.mpr c3
  subst c3
  have H1 : (some 2) = some r := by rw [if_neg (show ¬ (false = true) by decide)] at H; exact H
  clear H
  have H := H1
  clear H1
  obtain rfl := Option.some.inj H
  go_enter Try.func41, Try.ntmps41
  go_wp2_with (first | ((with_reducible refine gate_dst (N := 1) rfl ?_); refine box_event ?hg (N := 1) ?hd (cs := #[.string a0_0, .int .i64 a0_1, .int .i64 a0_2, .string a0_3, .bool a0_4, .bool a0_5, .string a0_6]) (t := 40) ?hr ?_; (case hd => rfl); (case hg => rfl); (case hr => first | (go_simp; done) | (go_simp; rfl)); intro gb174 hg w29 hbox hb; have n0_ := Aside0.mk (below_step (by repeat (first | (with_reducible first | exact HB.out | apply below_alloc | apply pw_below_drewN | apply below_drew1) | exact HB.out)) hb); have n1_ := Aside0.mk (hbox); have n2_ := Aside0.mk ((by rw [hg]; exact (below_size (by repeat (first | (with_reducible first | exact HB.out | apply below_alloc | apply pw_below_drewN | apply below_drew1) | exact HB.out))) : w.heap.size ≤ gb174)); have n3_ := Aside0.mk ((by rw [hg]; exact (below_size (by repeat (first | (with_reducible first | exact HB.out | apply below_alloc | apply pw_below_drewN | apply below_drew1) | exact HB.out))) : w.heap.size ≤ gb174)); clear HB; have HB := n0_; have BK174 := n1_; have GW174 := n2_; have GE174 := n3_; clear n0_ n1_ n2_ n3_; clear hb hbox hg; have hcz30_0 : w29.cell? ⟨gb174, 0, none⟩ = some (.string a0_0) := (blk_cell BK174.out 0).trans rfl; have hcz30_1 : w29.cell? ⟨gb174, 1, none⟩ = some (.int .i64 a0_1) := (blk_cell BK174.out 1).trans rfl; have hcz30_2 : w29.cell? ⟨gb174, 2, none⟩ = some (.int .i64 a0_2) := (blk_cell BK174.out 2).trans rfl; have hcz30_3 : w29.cell? ⟨gb174, 3, none⟩ = some (.string a0_3) := (blk_cell BK174.out 3).trans rfl; have hcz30_4 : w29.cell? ⟨gb174, 4, none⟩ = some (.bool a0_4) := (blk_cell BK174.out 4).trans rfl; have hcz30_5 : w29.cell? ⟨gb174, 5, none⟩ = some (.bool a0_5) := (blk_cell BK174.out 5).trans rfl; have hcz30_6 : w29.cell? ⟨gb174, 6, none⟩ = some (.string a0_6) := (blk_cell BK174.out 6).trans rfl; have hfz30_0 := blk_frozen BK174.out 0; have hfz30_1 := blk_frozen BK174.out 1; have hfz30_2 := blk_frozen BK174.out 2; have hfz30_3 := blk_frozen BK174.out 3; have hfz30_4 := blk_frozen BK174.out 4; have hfz30_5 := blk_frozen BK174.out 5; have hfz30_6 := blk_frozen BK174.out 6) | ((with_reducible refine gate_callee (f := 73) rfl ?_); refine goesL_ (some 6) rfl rfl Try.func73 (by kernel_rfl) rfl #[.agg #[.string a0_0, .int .i64 a0_1, .int .i64 a0_2, .string a0_3, .bool a0_4, .bool a0_5, .string a0_6]] rfl (by (try simp only [List.map_toArray, List.map_cons, List.map_nil]); first | done | rfl | (simp only [List.length_drop, List.length_take]; rfl)) ?_; (with_reducible refine (field_named.calls a0_0 a0_1 a0_2 a0_3 a0_4 a0_5 a0_6 false _ A2.out).mono ?_); rintro e w31 ⟨rfl, hb⟩; refine ⟨_, rfl, ?_⟩; have n0_ := Aside0.mk (blk_below (g := gb174) (o := .cells #[.string a0_0, .int .i64 a0_1, .int .i64 a0_2, .string a0_3, .bool a0_4, .bool a0_5, .string a0_6] 40 (0, 0)) (by (with_reducible repeat (first | refine blk_drewN ?_ _ | refine blk_drew ?_ | refine blk_alloc ?_ _)); exact BK174.out) hb); have n1_ := Aside0.mk (below_step (by repeat (first | (with_reducible first | exact HB.out | apply below_alloc | apply pw_below_drewN | apply below_drew1 | refine below_set ?_ GE174.out) | exact HB.out)) hb); clear BK174; clear HB; have BK174 := n0_; have HB := n1_; clear n0_ n1_; (try clear hb); (try clear hb2); (try clear hk); (try clear hi)))
  go_ret
  exact ⟨by first | rfl | (simp [errW_none, errW_some] <;> rfl) | (simp [*, errW_none, errW_some] <;> rfl), by repeat (first | (with_reducible first | exact HB.out | apply below_alloc | apply pw_below_drewN | apply below_drew1 | refine below_set ?_ GE174.out) | exact HB.out)⟩
end Go.Proofs.Ytelhcijoegjjnaa.P
namespace Go.Proofs.Ytelhcijoegjjnaa.P
open Go.RowKit Go.Proofs.YtelhcijoegjjnaaW.PrintWords Go.Proofs.YtelhcijoegjjnaaW.PrintLast Go.Proofs.YtelhcijoegjjnaaW.PrintMore
attribute [local go_sem] max2_int min2_int max_two min_two max_three min_three max_four min_four
set_option linter.unusedVariables false
set_option linter.unusedSimpArgs false
mutual
def schema_fields.l0 : Nat → List (S38) → Int → Int → Option (Int)
 | 0, _, _, _ => none
 | k + 1, x9, x10, x11 => if x11 < x10 then (if 0 ≤ x11 then (if x11 < (x9.length : Int) then (schema_fields.l1 k x9 x10 x11 ((rd_T38 x9 x11).f1) (((rd_T38 x9 x11).f1).length : Int) 0) else (none)) else (none)) else (some 0)
def schema_fields.l1 : Nat → List (S38) → Int → Int → List (S40) → Int → Int → Option (Int)
 | 0, _, _, _, _, _, _ => none
 | k + 1, x9, x10, x11, x16, x17, x18 => if x18 < x17 then (if 0 ≤ x18 then (if x18 < (x16.length : Int) then ((field_Check.f k ((rd_T40 x16 x18).f0) ((rd_T40 x16 x18).f1) ((rd_T40 x16 x18).f2) ((rd_T40 x16 x18).f3) ((rd_T40 x16 x18).f4) ((rd_T40 x16 x18).f5) ((rd_T40 x16 x18).f6)).bind fun t183 => (if t183 = 0 then (schema_fields.l1 k x9 x10 x11 x16 x17 (wrap64 (x18 + 1))) else (some t183))) else (none)) else (none)) else (schema_fields.l0 k x9 x10 (wrap64 (x11 + 1)))
end
def schema_fields.f (k : Nat) (l0_0 : List (S48)) (l0_1 : List (S38)) : Option (Int) := schema_fields.l0 k l0_1 (l0_1.length : Int) 0
theorem schema_fields.mono_l : ∀ k, (∀ y0 y1 y2, LeO (schema_fields.l0 k y0 y1 y2) (schema_fields.l0 (k + 1) y0 y1 y2)) ∧ (∀ y0 y1 y2 y3 y4 y5, LeO (schema_fields.l1 k y0 y1 y2 y3 y4 y5) (schema_fields.l1 (k + 1) y0 y1 y2 y3 y4 y5))
 | 0 => ⟨fun _ _ _ r h => by simp [schema_fields.l0] at h, fun _ _ _ _ _ _ r h => by simp [schema_fields.l1] at h⟩
 | k + 1 => by
  obtain ⟨ih0, ih1⟩ := schema_fields.mono_l k
  refine ⟨?_, ?_⟩
  ·intro y0 y1 y2
   unfold schema_fields.l0
   repeat' first
   | (with_reducible exact ih0 _ _ _)
   | (with_reducible exact ih1 _ _ _ _ _ _)
   | (with_reducible exact field_Check.mono _ _ _ _ _ _ _ _)
   | (with_reducible exact LeO.refl _)
   | (with_reducible exact LeO.none _)
   | (with_reducible refine LeO.ite ?_ ?_)
   | (with_reducible refine LeO.bind ?_ (fun _ => ?_))
   | exact ih0 _ _ _
   | exact ih1 _ _ _ _ _ _
   | exact field_Check.mono _ _ _ _ _ _ _ _
   | exact LeO.none _
   | refine LeO.ite ?_ ?_
   | refine LeO.bind ?_ (fun _ => ?_)
  ·intro y0 y1 y2 y3 y4 y5
   unfold schema_fields.l1
   repeat' first
   | (with_reducible exact ih0 _ _ _)
   | (with_reducible exact ih1 _ _ _ _ _ _)
   | (with_reducible exact field_Check.mono _ _ _ _ _ _ _ _)
   | (with_reducible exact LeO.refl _)
   | (with_reducible exact LeO.none _)
   | (with_reducible refine LeO.ite ?_ ?_)
   | (with_reducible refine LeO.bind ?_ (fun _ => ?_))
   | exact ih0 _ _ _
   | exact ih1 _ _ _ _ _ _
   | exact field_Check.mono _ _ _ _ _ _ _ _
   | exact LeO.none _
   | refine LeO.ite ?_ ?_
   | refine LeO.bind ?_ (fun _ => ?_)
theorem schema_fields.mono : ∀ a0 a1 k, LeO (schema_fields.f k a0 a1) (schema_fields.f (k + 1) a0 a1) := by
 intro a0 a1 k
 obtain ⟨ih0, ih1⟩ := schema_fields.mono_l k
 unfold schema_fields.f
 repeat' first
   | (with_reducible exact ih0 _ _ _)
   | (with_reducible exact ih1 _ _ _ _ _ _)
   | (with_reducible exact field_Check.mono _ _ _ _ _ _ _ _)
   | (with_reducible exact LeO.refl _)
   | (with_reducible exact LeO.none _)
   | (with_reducible refine LeO.ite ?_ ?_)
   | (with_reducible refine LeO.bind ?_ (fun _ => ?_))
   | exact ih0 _ _ _
   | exact ih1 _ _ _ _ _ _
   | exact field_Check.mono _ _ _ _ _ _ _ _
   | exact LeO.none _
   | refine LeO.ite ?_ ?_
   | refine LeO.bind ?_ (fun _ => ?_)
set_option maxHeartbeats 8000000 in
set_option maxRecDepth 100000 in
theorem schema_fields.calls (k : Nat) (A0_0 : Option Addr) (c0_0 : Nat) (l0_0 : List (S48)) (A0_1 : Option Addr) (c0_1 : Nat) (l0_1 : List (S38)) (r : Int) (w : World) (hr0_0 : Kd.C k48 w A0_0 l0_0.length l0_0) (hc0_0 : l0_0.length ≤ c0_0) (hr0_1 : Kd.C k38 w A0_1 l0_1.length l0_1) (hc0_1 : l0_1.length ≤ c0_1) (h : schema_fields.f k l0_0 l0_1 = some r) :
  Calls Try.prog 22 #[.agg #[.slice A0_0 l0_0.length c0_0, .slice A0_1 l0_1.length c0_1]] w fun e w' => e = .returned (.int .i64 r) ∧ Below w.heap.size w w' := by
 have hu30 := Try.underlying30
 have hu38 := Try.underlying38
 have hu40 := Try.underlying40
 have HR0_0 := Aside0.mk hr0_0
 have HC0_0 := Aside0.mk hc0_0
 clear hr0_0 hc0_0
 have HR0_1 := Aside0.mk hr0_1
 have HC0_1 := Aside0.mk hc0_1
 clear hr0_1 hc0_1
 have HB := Aside0.mk (Below.refl w.heap.size w)
 have H : (schema_fields.l0 k l0_1 (l0_1.length : Int) 0) = some r := h
 clear h
 have H' := Aside0.mk H
 clear H
 go_enter Try.func22, Try.ntmps22
 go_wp2_with (first | ((with_reducible refine gate_dst (N := 1) rfl ?_); refine box_event ?hg (N := 1) ?hd (cs := #[.slice A0_0 l0_0.length c0_0, .slice A0_1 l0_1.length c0_1]) (t := 30) ?hr ?_; (case hd => rfl); (case hg => rfl); (case hr => first | (go_simp; done) | (go_simp; rfl)); intro gb178 hg w2 hbox hb; have n0_ := Aside0.mk (below_step (by repeat (first | (with_reducible first | exact HB.out | apply below_alloc | apply pw_below_drewN | apply below_drew1) | exact HB.out)) hb); have n1_ := Aside0.mk (hbox); have n2_ := Aside0.mk ((by rw [hg]; exact (below_size (by repeat (first | (with_reducible first | exact HB.out | apply below_alloc | apply pw_below_drewN | apply below_drew1) | exact HB.out))) : w.heap.size ≤ gb178)); have n3_ := Aside0.mk ((by rw [hg]; exact (below_size (by repeat (first | (with_reducible first | exact HB.out | apply below_alloc | apply pw_below_drewN | apply below_drew1) | exact HB.out))) : w.heap.size ≤ gb178)); clear HB; have HB := n0_; have BK178 := n1_; have GW178 := n2_; have GE178 := n3_; clear n0_ n1_ n2_ n3_; clear hb hbox hg; have hcz3_0 : w2.cell? ⟨gb178, 0, none⟩ = some (.slice A0_0 l0_0.length c0_0) := (blk_cell BK178.out 0).trans rfl; have hcz3_1 : w2.cell? ⟨gb178, 1, none⟩ = some (.slice A0_1 l0_1.length c0_1) := (blk_cell BK178.out 1).trans rfl; have hfz3_0 := blk_frozen BK178.out 0; have hfz3_1 := blk_frozen BK178.out 1))
 go_loopg [11] k (fun kq v11 w' => ∃ (x11_1 : Int), v11 = .int .i64 x11_1 ∧ Aside0 (schema_fields.l0 kq l0_1 (l0_1.length : Int) x11_1 = some r) ∧ Aside0 (kq ≤ k) ∧ Aside0 (w'.heap[gb178]? = some (.cells #[(.slice A0_0 l0_0.length c0_0), (.slice A0_1 l0_1.length c0_1)] 30 (0, 0))) ∧ Aside0 (Below w.heap.size w w'))
 case atStart => exact ⟨(0), (by first | rfl | (simp; done) | (simp [*]; done)), H', ⟨Nat.le_refl _⟩, ⟨by (with_reducible repeat (first | refine blk_drewN ?_ _ | refine blk_drew ?_ | refine blk_alloc ?_ _)); exact BK178.out⟩, ⟨by repeat (first | (with_reducible first | exact HB.out | apply below_alloc | apply pw_below_drewN | apply below_drew1 | refine below_set ?_ GE178.out) | exact HB.out)⟩⟩
 case round =>
  clear H'
  try clear c2
  try clear p2
  try clear hcz3_0
  try clear hcz3_1
  try clear hfz3_0
  try clear hfz3_1
  obtain ⟨x11_1, rfl, HA, HK1, BK178, HB⟩ := hrel
  cases gk with
  | zero => exact absurd HA.out (by simp [schema_fields.l0])
  | succ k1 =>
   have H := HA.out
   clear HA
   simp only [schema_fields.l0] at H
   by_cases c4 : x11_1 < (l0_1.length : Int)
   ·rw [if_pos c4] at H
    have c4b0 : decide (x11_1 < (l0_1.length : Int)) = true := decide_eq_true c4
    clear c4
    by_cases c5 : 0 ≤ x11_1
    ·rw [if_pos c5] at H
     have c5b0 : decide (0 ≤ x11_1) = true := decide_eq_true c5
     clear c5
     by_cases c6 : x11_1 < (l0_1.length : Int)
     ·rw [if_pos c6] at H
      have c6b0 : decide (x11_1 < (l0_1.length : Int)) = true := decide_eq_true c6
      clear c6
      have H' := Aside0.mk H
      clear H
      have p179 : 0 ≤ (x11_1 : Int) := of_decide_eq_true (by first | (with_reducible assumption) | assumption)
      have q179 : x11_1 < (l0_1.length : Int) := of_decide_eq_true (by first | (with_reducible assumption) | assumption)
      obtain ⟨ad179, A179_1, c179_1, A179_2, c179_2, e179, hx179_0, hx179_1, hx179_2, hl179_1, hi179_1, hl179_2, hi179_2⟩ := at_T38 HR0_1.out x11_1 p179 q179
      cases e179
      replace hx179_0 := (HB.out.cell (World.block_lt_of_cell? w _ hx179_0)).trans hx179_0
      replace hx179_1 := (HB.out.cell (World.block_lt_of_cell? w _ hx179_1)).trans hx179_1
      replace hx179_2 := (HB.out.cell (World.block_lt_of_cell? w _ hx179_2)).trans hx179_2
      have HR179_1 := Aside0.mk hi179_1
      have HC179_1 := Aside0.mk hl179_1
      clear hi179_1 hl179_1
      have HR179_2 := Aside0.mk hi179_2
      have HC179_2 := Aside0.mk hl179_2
      clear hi179_2 hl179_2
      replace p179 := eq_true p179
      replace q179 := eq_true q179
      go_wp2_with (first | ((with_reducible refine gate_dst (N := 4) rfl ?_); refine box_event ?hg (N := 4) ?hd (cs := #[.string (⟨#[]⟩ : ByteArray), .slice none 0 0, .slice none 0 0]) (t := 38) ?hr ?_; (case hd => rfl); (case hg => rfl); (case hr => first | (go_simp; done) | (go_simp; rfl)); intro gb180 hg w7 hbox hb; have n0_ := Aside0.mk (blk_below (g := gb178) (o := .cells #[.slice A0_0 l0_0.length c0_0, .slice (some ad179) l0_1.length c0_1] 30 (0, 0)) (by (with_reducible repeat (first | refine blk_drewN ?_ _ | refine blk_drew ?_ | refine blk_alloc ?_ _)); exact BK178.out) hb); have n1_ := Aside0.mk (below_step (by repeat (first | (with_reducible first | exact HB.out | apply below_alloc | apply pw_below_drewN | apply below_drew1 | refine below_set ?_ GE178.out) | exact HB.out)) hb); have n2_ := Aside0.mk (hbox); have n3_ := Aside0.mk ((by rw [hg]; exact (below_size (by repeat (first | (with_reducible first | exact HB.out | apply below_alloc | apply pw_below_drewN | apply below_drew1 | refine below_set ?_ GE178.out) | exact HB.out))) : w.heap.size ≤ gb180)); have n4_ := Aside0.mk ((by rw [hg]; exact (below_size (by repeat (first | (with_reducible first | exact HB.out | apply below_alloc | apply pw_below_drewN | apply below_drew1 | refine below_set ?_ GE178.out) | exact HB.out))) : w.heap.size ≤ gb180)); have n5_ := Aside0.mk ((by rw [hg]; exact Nat.ne_of_lt (blk_lt (g := gb178) (o := .cells #[.slice A0_0 l0_0.length c0_0, .slice (some ad179) l0_1.length c0_1] 30 (0, 0)) (by (with_reducible repeat (first | refine blk_drewN ?_ _ | refine blk_drew ?_ | refine blk_alloc ?_ _)); exact BK178.out)) : gb178 ≠ gb180)); have n6_ := Aside0.mk ((by rw [hg]; exact Nat.ne_of_gt (blk_lt (g := gb178) (o := .cells #[.slice A0_0 l0_0.length c0_0, .slice (some ad179) l0_1.length c0_1] 30 (0, 0)) (by (with_reducible repeat (first | refine blk_drewN ?_ _ | refine blk_drew ?_ | refine blk_alloc ?_ _)); exact BK178.out)) : gb180 ≠ gb178)); clear BK178; clear HB; have BK178 := n0_; have HB := n1_; have BK180 := n2_; have GW180 := n3_; have GE180 := n4_; have NB178_180 := n5_; have NB180_178 := n6_; clear n0_ n1_ n2_ n3_ n4_ n5_ n6_; clear hb hbox hg; have hnb8 := NB180_178.out; have hnc8 := NB178_180.out; have hcz9_0 : w7.cell? ⟨gb180, 0, none⟩ = some (.string (⟨#[]⟩ : ByteArray)) := (blk_cell BK180.out 0).trans rfl; have hcz9_1 : w7.cell? ⟨gb180, 1, none⟩ = some (.slice none 0 0) := (blk_cell BK180.out 1).trans rfl; have hcz9_2 : w7.cell? ⟨gb180, 2, none⟩ = some (.slice none 0 0) := (blk_cell BK180.out 2).trans rfl; have hfz9_0 := blk_frozen BK180.out 0; have hfz9_1 := blk_frozen BK180.out 1; have hfz9_2 := blk_frozen BK180.out 2))
      go_loopg [18] k1 (fun kq v18 w' => ∃ (x18_2 : Int), v18 = .int .i64 x18_2 ∧ Aside0 (schema_fields.l1 kq l0_1 (l0_1.length : Int) x11_1 ((rd_T38 l0_1 x11_1).f1) (((rd_T38 l0_1 x11_1).f1).length : Int) x18_2 = some r) ∧ Aside0 (kq ≤ k1) ∧ Aside0 (w'.heap[gb178]? = some (.cells #[(.slice A0_0 l0_0.length c0_0), (.slice (some ad179) l0_1.length c0_1)] 30 (0, 0))) ∧ Aside0 (w'.heap[gb180]? = some (.cells #[.string ((rd_T38 l0_1 x11_1).f0), (.slice A179_1 ((rd_T38 l0_1 x11_1).f1).length c179_1), (.slice A179_2 ((rd_T38 l0_1 x11_1).f2).length c179_2)] 38 (0, 0))) ∧ Aside0 (Below w.heap.size w w'))
      case atStart => exact ⟨(0), (by first | rfl | (simp; done) | (simp [*]; done)), H', ⟨Nat.le_refl _⟩, ⟨by (with_reducible repeat (first | refine blk_drewN ?_ _ | refine blk_drew ?_ | refine blk_alloc ?_ _)); refine blk_far ?_ NB178_180.out _; (with_reducible repeat (first | refine blk_drewN ?_ _ | refine blk_drew ?_ | refine blk_alloc ?_ _)); refine blk_far ?_ NB178_180.out _; (with_reducible repeat (first | refine blk_drewN ?_ _ | refine blk_drew ?_ | refine blk_alloc ?_ _)); refine blk_far ?_ NB178_180.out _; (with_reducible repeat (first | refine blk_drewN ?_ _ | refine blk_drew ?_ | refine blk_alloc ?_ _)); exact BK178.out⟩, ⟨by (with_reducible repeat (first | refine blk_drewN ?_ _ | refine blk_drew ?_ | refine blk_alloc ?_ _)); refine blk_put (cs := #[.string ((rd_T38 l0_1 x11_1).f0), .slice A179_1 ((rd_T38 l0_1 x11_1).f1).length c179_1, .slice none 0 0]) ?_ 2 _ rfl; (with_reducible repeat (first | refine blk_drewN ?_ _ | refine blk_drew ?_ | refine blk_alloc ?_ _)); refine blk_put (cs := #[.string ((rd_T38 l0_1 x11_1).f0), .slice none 0 0, .slice none 0 0]) ?_ 1 _ rfl; (with_reducible repeat (first | refine blk_drewN ?_ _ | refine blk_drew ?_ | refine blk_alloc ?_ _)); refine blk_put (cs := #[.string (⟨#[]⟩ : ByteArray), .slice none 0 0, .slice none 0 0]) ?_ 0 _ rfl; (with_reducible repeat (first | refine blk_drewN ?_ _ | refine blk_drew ?_ | refine blk_alloc ?_ _)); exact BK180.out⟩, ⟨by repeat (first | (with_reducible first | exact HB.out | apply below_alloc | apply pw_below_drewN | apply below_drew1 | refine below_set ?_ GE178.out | refine below_set ?_ GE180.out) | exact HB.out)⟩⟩
      case round =>
       clear H'
       try clear c1
       try clear p1
       try clear q1
       try clear hx1
       try clear c2
       try clear p2
       try clear c4
       try clear c4b0
       try clear c5
       try clear c5b0
       try clear c6
       try clear c6b0
       try clear c8
       try clear hcz3_0
       try clear hcz3_1
       try clear hcz9_0
       try clear hcz9_1
       try clear hcz9_2
       try clear hfz3_0
       try clear hfz3_1
       try clear hfz9_0
       try clear hfz9_1
       try clear hfz9_2
       try clear hx179_0
       try clear hx179_1
       try clear hx179_2
       try clear p179
       try clear p2
       try clear q179
       obtain ⟨x18_2, rfl, HA, HK2, BK178, BK180, HB⟩ := hrel
       cases gk with
       | zero => exact absurd HA.out (by simp [schema_fields.l1])
       | succ k2 =>
        have H := HA.out
        clear HA
        simp only [schema_fields.l1] at H
        by_cases c10 : x18_2 < (((rd_T38 l0_1 x11_1).f1).length : Int)
        ·rw [if_pos c10] at H
         have c10b0 : decide (x18_2 < (((rd_T38 l0_1 x11_1).f1).length : Int)) = true := decide_eq_true c10
         clear c10
         by_cases c11 : 0 ≤ x18_2
         ·rw [if_pos c11] at H
          have c11b0 : decide (0 ≤ x18_2) = true := decide_eq_true c11
          clear c11
          by_cases c12 : x18_2 < (((rd_T38 l0_1 x11_1).f1).length : Int)
          ·rw [if_pos c12] at H
           have c12b0 : decide (x18_2 < (((rd_T38 l0_1 x11_1).f1).length : Int)) = true := decide_eq_true c12
           clear c12
           replace H := Option.bind_eq_some_iff.mp H
           obtain ⟨t183, A130, H⟩ := H
           replace H : (if t183 = 0 then (schema_fields.l1 k2 l0_1 (l0_1.length : Int) x11_1 ((rd_T38 l0_1 x11_1).f1) (((rd_T38 l0_1 x11_1).f1).length : Int) (wrap64 (x18_2 + 1))) else (some t183)) = some r := H
           have A13 := Aside0.mk A130
           clear A130
           by_cases c14 : t183 = 0
           ·rw [if_pos c14] at H
            have c14b0 : (t183 == 0) = true := beq_iff_eq.mpr c14
            have c14b1 : (t183 != 0) = false := bne_eq_false_iff_eq.mpr c14
            clear c14
            have H' := Aside0.mk H
            clear H
            have p181 : 0 ≤ (x18_2 : Int) := of_decide_eq_true (by first | (with_reducible assumption) | assumption)
            have q181 : x18_2 < (((rd_T38 l0_1 x11_1).f1).length : Int) := of_decide_eq_true (by first | (with_reducible assumption) | assumption)
            obtain ⟨ad181, e181, hx181_0, hx181_1, hx181_2, hx181_3, hx181_4, hx181_5, hx181_6⟩ := at_T40 HR179_1.out x18_2 p181 q181
            cases e181
            replace hx181_0 := (HB.out.cell (World.block_lt_of_cell? w _ hx181_0)).trans hx181_0
            replace hx181_1 := (HB.out.cell (World.block_lt_of_cell? w _ hx181_1)).trans hx181_1
            replace hx181_2 := (HB.out.cell (World.block_lt_of_cell? w _ hx181_2)).trans hx181_2
            replace hx181_3 := (HB.out.cell (World.block_lt_of_cell? w _ hx181_3)).trans hx181_3
            replace hx181_4 := (HB.out.cell (World.block_lt_of_cell? w _ hx181_4)).trans hx181_4
            replace hx181_5 := (HB.out.cell (World.block_lt_of_cell? w _ hx181_5)).trans hx181_5
            replace hx181_6 := (HB.out.cell (World.block_lt_of_cell? w _ hx181_6)).trans hx181_6
            replace p181 := eq_true p181
            replace q181 := eq_true q181
            go_wp2_with (first | ((with_reducible refine gate_dst (N := 6) rfl ?_); refine box_event ?hg (N := 6) ?hd (cs := #[.string (⟨#[]⟩ : ByteArray), .int .i64 0, .int .i64 0, .string (⟨#[]⟩ : ByteArray), .bool false, .bool false, .string (⟨#[]⟩ : ByteArray)]) (t := 40) ?hr ?_; (case hd => rfl); (case hg => rfl); (case hr => first | (go_simp; done) | (go_simp; rfl)); intro gb182 hg w15 hbox hb; have n0_ := Aside0.mk (blk_below (g := gb178) (o := .cells #[.slice A0_0 l0_0.length c0_0, .slice (some ad179) l0_1.length c0_1] 30 (0, 0)) (by (with_reducible repeat (first | refine blk_drewN ?_ _ | refine blk_drew ?_ | refine blk_alloc ?_ _)); exact BK178.out) hb); have n1_ := Aside0.mk (blk_below (g := gb180) (o := .cells #[.string ((rd_T38 l0_1 x11_1).f0), .slice (some ad181) ((rd_T38 l0_1 x11_1).f1).length c179_1, .slice A179_2 ((rd_T38 l0_1 x11_1).f2).length c179_2] 38 (0, 0)) (by (with_reducible repeat (first | refine blk_drewN ?_ _ | refine blk_drew ?_ | refine blk_alloc ?_ _)); exact BK180.out) hb); have n2_ := Aside0.mk (below_step (by repeat (first | (with_reducible first | exact HB.out | apply below_alloc | apply pw_below_drewN | apply below_drew1 | refine below_set ?_ GE178.out | refine below_set ?_ GE180.out) | exact HB.out)) hb); have n3_ := Aside0.mk (hbox); have n4_ := Aside0.mk ((by rw [hg]; exact (below_size (by repeat (first | (with_reducible first | exact HB.out | apply below_alloc | apply pw_below_drewN | apply below_drew1 | refine below_set ?_ GE178.out | refine below_set ?_ GE180.out) | exact HB.out))) : w.heap.size ≤ gb182)); have n5_ := Aside0.mk ((by rw [hg]; exact (below_size (by repeat (first | (with_reducible first | exact HB.out | apply below_alloc | apply pw_below_drewN | apply below_drew1 | refine below_set ?_ GE178.out | refine below_set ?_ GE180.out) | exact HB.out))) : w.heap.size ≤ gb182)); have n6_ := Aside0.mk ((by rw [hg]; exact Nat.ne_of_lt (blk_lt (g := gb178) (o := .cells #[.slice A0_0 l0_0.length c0_0, .slice (some ad179) l0_1.length c0_1] 30 (0, 0)) (by (with_reducible repeat (first | refine blk_drewN ?_ _ | refine blk_drew ?_ | refine blk_alloc ?_ _)); exact BK178.out)) : gb178 ≠ gb182)); have n7_ := Aside0.mk ((by rw [hg]; exact Nat.ne_of_gt (blk_lt (g := gb178) (o := .cells #[.slice A0_0 l0_0.length c0_0, .slice (some ad179) l0_1.length c0_1] 30 (0, 0)) (by (with_reducible repeat (first | refine blk_drewN ?_ _ | refine blk_drew ?_ | refine blk_alloc ?_ _)); exact BK178.out)) : gb182 ≠ gb178)); have n8_ := Aside0.mk ((by rw [hg]; exact Nat.ne_of_lt (blk_lt (g := gb180) (o := .cells #[.string ((rd_T38 l0_1 x11_1).f0), .slice (some ad181) ((rd_T38 l0_1 x11_1).f1).length c179_1, .slice A179_2 ((rd_T38 l0_1 x11_1).f2).length c179_2] 38 (0, 0)) (by (with_reducible repeat (first | refine blk_drewN ?_ _ | refine blk_drew ?_ | refine blk_alloc ?_ _)); exact BK180.out)) : gb180 ≠ gb182)); have n9_ := Aside0.mk ((by rw [hg]; exact Nat.ne_of_gt (blk_lt (g := gb180) (o := .cells #[.string ((rd_T38 l0_1 x11_1).f0), .slice (some ad181) ((rd_T38 l0_1 x11_1).f1).length c179_1, .slice A179_2 ((rd_T38 l0_1 x11_1).f2).length c179_2] 38 (0, 0)) (by (with_reducible repeat (first | refine blk_drewN ?_ _ | refine blk_drew ?_ | refine blk_alloc ?_ _)); exact BK180.out)) : gb182 ≠ gb180)); clear BK178; clear BK180; clear HB; have BK178 := n0_; have BK180 := n1_; have HB := n2_; have BK182 := n3_; have GW182 := n4_; have GE182 := n5_; have NB178_182 := n6_; have NB182_178 := n7_; have NB180_182 := n8_; have NB182_180 := n9_; clear n0_ n1_ n2_ n3_ n4_ n5_ n6_ n7_ n8_ n9_; clear hb hbox hg; have hnb16 := NB182_178.out; have hnc16 := NB178_182.out; have hnb17 := NB182_180.out; have hnc17 := NB180_182.out; have hcz18_0 : w15.cell? ⟨gb182, 0, none⟩ = some (.string (⟨#[]⟩ : ByteArray)) := (blk_cell BK182.out 0).trans rfl; have hcz18_1 : w15.cell? ⟨gb182, 1, none⟩ = some (.int .i64 0) := (blk_cell BK182.out 1).trans rfl; have hcz18_2 : w15.cell? ⟨gb182, 2, none⟩ = some (.int .i64 0) := (blk_cell BK182.out 2).trans rfl; have hcz18_3 : w15.cell? ⟨gb182, 3, none⟩ = some (.string (⟨#[]⟩ : ByteArray)) := (blk_cell BK182.out 3).trans rfl; have hcz18_4 : w15.cell? ⟨gb182, 4, none⟩ = some (.bool false) := (blk_cell BK182.out 4).trans rfl; have hcz18_5 : w15.cell? ⟨gb182, 5, none⟩ = some (.bool false) := (blk_cell BK182.out 5).trans rfl; have hcz18_6 : w15.cell? ⟨gb182, 6, none⟩ = some (.string (⟨#[]⟩ : ByteArray)) := (blk_cell BK182.out 6).trans rfl; have hfz18_0 := blk_frozen BK182.out 0; have hfz18_1 := blk_frozen BK182.out 1; have hfz18_2 := blk_frozen BK182.out 2; have hfz18_3 := blk_frozen BK182.out 3; have hfz18_4 := blk_frozen BK182.out 4; have hfz18_5 := blk_frozen BK182.out 5; have hfz18_6 := blk_frozen BK182.out 6) | ((with_reducible refine gate_callee (f := 41) rfl ?_); refine goesL_ (some 23) rfl rfl Try.func41 (by kernel_rfl) rfl #[.agg #[.string ((rd_T40 ((rd_T38 l0_1 x11_1).f1) x18_2).f0), .int .i64 ((rd_T40 ((rd_T38 l0_1 x11_1).f1) x18_2).f1), .int .i64 ((rd_T40 ((rd_T38 l0_1 x11_1).f1) x18_2).f2), .string ((rd_T40 ((rd_T38 l0_1 x11_1).f1) x18_2).f3), .bool ((rd_T40 ((rd_T38 l0_1 x11_1).f1) x18_2).f4), .bool ((rd_T40 ((rd_T38 l0_1 x11_1).f1) x18_2).f5), .string ((rd_T40 ((rd_T38 l0_1 x11_1).f1) x18_2).f6)]] rfl (by (try simp only [List.map_toArray, List.map_cons, List.map_nil]); first | done | rfl | (simp only [List.length_drop, List.length_take]; rfl)) ?_; (with_reducible refine (field_Check.calls k2 ((rd_T40 ((rd_T38 l0_1 x11_1).f1) x18_2).f0) ((rd_T40 ((rd_T38 l0_1 x11_1).f1) x18_2).f1) ((rd_T40 ((rd_T38 l0_1 x11_1).f1) x18_2).f2) ((rd_T40 ((rd_T38 l0_1 x11_1).f1) x18_2).f3) ((rd_T40 ((rd_T38 l0_1 x11_1).f1) x18_2).f4) ((rd_T40 ((rd_T38 l0_1 x11_1).f1) x18_2).f5) ((rd_T40 ((rd_T38 l0_1 x11_1).f1) x18_2).f6) t183 _ A13.out).mono ?_); rintro e w19 ⟨rfl, hb⟩; refine ⟨_, rfl, ?_⟩; have n0_ := Aside0.mk (blk_below (g := gb178) (o := .cells #[.slice A0_0 l0_0.length c0_0, .slice (some ad179) l0_1.length c0_1] 30 (0, 0)) (by (with_reducible repeat (first | refine blk_drewN ?_ _ | refine blk_drew ?_ | refine blk_alloc ?_ _)); refine blk_far ?_ NB178_182.out _; (with_reducible repeat (first | refine blk_drewN ?_ _ | refine blk_drew ?_ | refine blk_alloc ?_ _)); refine blk_far ?_ NB178_182.out _; (with_reducible repeat (first | refine blk_drewN ?_ _ | refine blk_drew ?_ | refine blk_alloc ?_ _)); refine blk_far ?_ NB178_182.out _; (with_reducible repeat (first | refine blk_drewN ?_ _ | refine blk_drew ?_ | refine blk_alloc ?_ _)); refine blk_far ?_ NB178_182.out _; (with_reducible repeat (first | refine blk_drewN ?_ _ | refine blk_drew ?_ | refine blk_alloc ?_ _)); refine blk_far ?_ NB178_182.out _; (with_reducible repeat (first | refine blk_drewN ?_ _ | refine blk_drew ?_ | refine blk_alloc ?_ _)); refine blk_far ?_ NB178_182.out _; (with_reducible repeat (first | refine blk_drewN ?_ _ | refine blk_drew ?_ | refine blk_alloc ?_ _)); refine blk_far ?_ NB178_182.out _; (with_reducible repeat (first | refine blk_drewN ?_ _ | refine blk_drew ?_ | refine blk_alloc ?_ _)); exact BK178.out) hb); have n1_ := Aside0.mk (blk_below (g := gb180) (o := .cells #[.string ((rd_T38 l0_1 x11_1).f0), .slice (some ad181) ((rd_T38 l0_1 x11_1).f1).length c179_1, .slice A179_2 ((rd_T38 l0_1 x11_1).f2).length c179_2] 38 (0, 0)) (by (with_reducible repeat (first | refine blk_drewN ?_ _ | refine blk_drew ?_ | refine blk_alloc ?_ _)); refine blk_far ?_ NB180_182.out _; (with_reducible repeat (first | refine blk_drewN ?_ _ | refine blk_drew ?_ | refine blk_alloc ?_ _)); refine blk_far ?_ NB180_182.out _; (with_reducible repeat (first | refine blk_drewN ?_ _ | refine blk_drew ?_ | refine blk_alloc ?_ _)); refine blk_far ?_ NB180_182.out _; (with_reducible repeat (first | refine blk_drewN ?_ _ | refine blk_drew ?_ | refine blk_alloc ?_ _)); refine blk_far ?_ NB180_182.out _; (with_reducible repeat (first | refine blk_drewN ?_ _ | refine blk_drew ?_ | refine blk_alloc ?_ _)); refine blk_far ?_ NB180_182.out _; (with_reducible repeat (first | refine blk_drewN ?_ _ | refine blk_drew ?_ | refine blk_alloc ?_ _)); refine blk_far ?_ NB180_182.out _; (with_reducible repeat (first | refine blk_drewN ?_ _ | refine blk_drew ?_ | refine blk_alloc ?_ _)); refine blk_far ?_ NB180_182.out _; (with_reducible repeat (first | refine blk_drewN ?_ _ | refine blk_drew ?_ | refine blk_alloc ?_ _)); exact BK180.out) hb); have n2_ := Aside0.mk (blk_below (g := gb182) (o := .cells #[.string ((rd_T40 ((rd_T38 l0_1 x11_1).f1) x18_2).f0), .int .i64 ((rd_T40 ((rd_T38 l0_1 x11_1).f1) x18_2).f1), .int .i64 ((rd_T40 ((rd_T38 l0_1 x11_1).f1) x18_2).f2), .string ((rd_T40 ((rd_T38 l0_1 x11_1).f1) x18_2).f3), .bool ((rd_T40 ((rd_T38 l0_1 x11_1).f1) x18_2).f4), .bool ((rd_T40 ((rd_T38 l0_1 x11_1).f1) x18_2).f5), .string ((rd_T40 ((rd_T38 l0_1 x11_1).f1) x18_2).f6)] 40 (0, 0)) (by (with_reducible repeat (first | refine blk_drewN ?_ _ | refine blk_drew ?_ | refine blk_alloc ?_ _)); refine blk_put (cs := #[.string ((rd_T40 ((rd_T38 l0_1 x11_1).f1) x18_2).f0), .int .i64 ((rd_T40 ((rd_T38 l0_1 x11_1).f1) x18_2).f1), .int .i64 ((rd_T40 ((rd_T38 l0_1 x11_1).f1) x18_2).f2), .string ((rd_T40 ((rd_T38 l0_1 x11_1).f1) x18_2).f3), .bool ((rd_T40 ((rd_T38 l0_1 x11_1).f1) x18_2).f4), .bool ((rd_T40 ((rd_T38 l0_1 x11_1).f1) x18_2).f5), .string (⟨#[]⟩ : ByteArray)]) ?_ 6 _ rfl; (with_reducible repeat (first | refine blk_drewN ?_ _ | refine blk_drew ?_ | refine blk_alloc ?_ _)); refine blk_put (cs := #[.string ((rd_T40 ((rd_T38 l0_1 x11_1).f1) x18_2).f0), .int .i64 ((rd_T40 ((rd_T38 l0_1 x11_1).f1) x18_2).f1), .int .i64 ((rd_T40 ((rd_T38 l0_1 x11_1).f1) x18_2).f2), .string ((rd_T40 ((rd_T38 l0_1 x11_1).f1) x18_2).f3), .bool ((rd_T40 ((rd_T38 l0_1 x11_1).f1) x18_2).f4), .bool false, .string (⟨#[]⟩ : ByteArray)]) ?_ 5 _ rfl; (with_reducible repeat (first | refine blk_drewN ?_ _ | refine blk_drew ?_ | refine blk_alloc ?_ _)); refine blk_put (cs := #[.string ((rd_T40 ((rd_T38 l0_1 x11_1).f1) x18_2).f0), .int .i64 ((rd_T40 ((rd_T38 l0_1 x11_1).f1) x18_2).f1), .int .i64 ((rd_T40 ((rd_T38 l0_1 x11_1).f1) x18_2).f2), .string ((rd_T40 ((rd_T38 l0_1 x11_1).f1) x18_2).f3), .bool false, .bool false, .string (⟨#[]⟩ : ByteArray)]) ?_ 4 _ rfl; (with_reducible repeat (first | refine blk_drewN ?_ _ | refine blk_drew ?_ | refine blk_alloc ?_ _)); refine blk_put (cs := #[.string ((rd_T40 ((rd_T38 l0_1 x11_1).f1) x18_2).f0), .int .i64 ((rd_T40 ((rd_T38 l0_1 x11_1).f1) x18_2).f1), .int .i64 ((rd_T40 ((rd_T38 l0_1 x11_1).f1) x18_2).f2), .string (⟨#[]⟩ : ByteArray), .bool false, .bool false, .string (⟨#[]⟩ : ByteArray)]) ?_ 3 _ rfl; (with_reducible repeat (first | refine blk_drewN ?_ _ | refine blk_drew ?_ | refine blk_alloc ?_ _)); refine blk_put (cs := #[.string ((rd_T40 ((rd_T38 l0_1 x11_1).f1) x18_2).f0), .int .i64 ((rd_T40 ((rd_T38 l0_1 x11_1).f1) x18_2).f1), .int .i64 0, .string (⟨#[]⟩ : ByteArray), .bool false, .bool false, .string (⟨#[]⟩ : ByteArray)]) ?_ 2 _ rfl; (with_reducible repeat (first | refine blk_drewN ?_ _ | refine blk_drew ?_ | refine blk_alloc ?_ _)); refine blk_put (cs := #[.string ((rd_T40 ((rd_T38 l0_1 x11_1).f1) x18_2).f0), .int .i64 0, .int .i64 0, .string (⟨#[]⟩ : ByteArray), .bool false, .bool false, .string (⟨#[]⟩ : ByteArray)]) ?_ 1 _ rfl; (with_reducible repeat (first | refine blk_drewN ?_ _ | refine blk_drew ?_ | refine blk_alloc ?_ _)); refine blk_put (cs := #[.string (⟨#[]⟩ : ByteArray), .int .i64 0, .int .i64 0, .string (⟨#[]⟩ : ByteArray), .bool false, .bool false, .string (⟨#[]⟩ : ByteArray)]) ?_ 0 _ rfl; (with_reducible repeat (first | refine blk_drewN ?_ _ | refine blk_drew ?_ | refine blk_alloc ?_ _)); exact BK182.out) hb); have n3_ := Aside0.mk (below_step (by repeat (first | (with_reducible first | exact HB.out | apply below_alloc | apply pw_below_drewN | apply below_drew1 | refine below_set ?_ GE178.out | refine below_set ?_ GE180.out | refine below_set ?_ GE182.out) | exact HB.out)) hb); clear BK178; clear BK180; clear BK182; clear HB; have BK178 := n0_; have BK180 := n1_; have BK182 := n2_; have HB := n3_; clear n0_ n1_ n2_ n3_; (try clear hb); (try clear hb2); (try clear hk); (try clear hi)))
            go_roundg k2
            case measure => have := HK1.out; have := HK2.out; omega
            case rel => exact ⟨(wrap64 (x18_2 + 1)), (by first | rfl | (simp; done) | (simp [*]; done)), H', ⟨by have := HK1.out; have := HK2.out; omega⟩, ⟨by (with_reducible repeat (first | refine blk_drewN ?_ _ | refine blk_drew ?_ | refine blk_alloc ?_ _)); exact BK178.out⟩, ⟨by (with_reducible repeat (first | refine blk_drewN ?_ _ | refine blk_drew ?_ | refine blk_alloc ?_ _)); exact BK180.out⟩, ⟨by repeat (first | (with_reducible first | exact HB.out | apply below_alloc | apply pw_below_drewN | apply below_drew1 | refine below_set ?_ GE178.out | refine below_set ?_ GE180.out | refine below_set ?_ GE182.out) | exact HB.out)⟩⟩
           ·rw [if_neg c14] at H
            have c14b0 : (t183 == 0) = false := beq_eq_false_iff_ne.mpr c14
            have c14b1 : (t183 != 0) = true := bne_iff_ne.mpr c14
            obtain rfl := Option.some.inj H
            have p181 : 0 ≤ (x18_2 : Int) := of_decide_eq_true (by first | (with_reducible assumption) | assumption)
            have q181 : x18_2 < (((rd_T38 l0_1 x11_1).f1).length : Int) := of_decide_eq_true (by first | (with_reducible assumption) | assumption)
            obtain ⟨ad181, e181, hx181_0, hx181_1, hx181_2, hx181_3, hx181_4, hx181_5, hx181_6⟩ := at_T40 HR179_1.out x18_2 p181 q181
            cases e181
            replace hx181_0 := (HB.out.cell (World.block_lt_of_cell? w _ hx181_0)).trans hx181_0
            replace hx181_1 := (HB.out.cell (World.block_lt_of_cell? w _ hx181_1)).trans hx181_1
            replace hx181_2 := (HB.out.cell (World.block_lt_of_cell? w _ hx181_2)).trans hx181_2
            replace hx181_3 := (HB.out.cell (World.block_lt_of_cell? w _ hx181_3)).trans hx181_3
            replace hx181_4 := (HB.out.cell (World.block_lt_of_cell? w _ hx181_4)).trans hx181_4
            replace hx181_5 := (HB.out.cell (World.block_lt_of_cell? w _ hx181_5)).trans hx181_5
            replace hx181_6 := (HB.out.cell (World.block_lt_of_cell? w _ hx181_6)).trans hx181_6
            replace p181 := eq_true p181
            replace q181 := eq_true q181
            go_wp2_with (first | ((with_reducible refine gate_dst (N := 6) rfl ?_); refine box_event ?hg (N := 6) ?hd (cs := #[.string (⟨#[]⟩ : ByteArray), .int .i64 0, .int .i64 0, .string (⟨#[]⟩ : ByteArray), .bool false, .bool false, .string (⟨#[]⟩ : ByteArray)]) (t := 40) ?hr ?_; (case hd => rfl); (case hg => rfl); (case hr => first | (go_simp; done) | (go_simp; rfl)); intro gb182 hg w20 hbox hb; have n0_ := Aside0.mk (blk_below (g := gb178) (o := .cells #[.slice A0_0 l0_0.length c0_0, .slice (some ad179) l0_1.length c0_1] 30 (0, 0)) (by (with_reducible repeat (first | refine blk_drewN ?_ _ | refine blk_drew ?_ | refine blk_alloc ?_ _)); exact BK178.out) hb); have n1_ := Aside0.mk (blk_below (g := gb180) (o := .cells #[.string ((rd_T38 l0_1 x11_1).f0), .slice (some ad181) ((rd_T38 l0_1 x11_1).f1).length c179_1, .slice A179_2 ((rd_T38 l0_1 x11_1).f2).length c179_2] 38 (0, 0)) (by (with_reducible repeat (first | refine blk_drewN ?_ _ | refine blk_drew ?_ | refine blk_alloc ?_ _)); exact BK180.out) hb); have n2_ := Aside0.mk (below_step (by repeat (first | (with_reducible first | exact HB.out | apply below_alloc | apply pw_below_drewN | apply below_drew1 | refine below_set ?_ GE178.out | refine below_set ?_ GE180.out) | exact HB.out)) hb); have n3_ := Aside0.mk (hbox); have n4_ := Aside0.mk ((by rw [hg]; exact (below_size (by repeat (first | (with_reducible first | exact HB.out | apply below_alloc | apply pw_below_drewN | apply below_drew1 | refine below_set ?_ GE178.out | refine below_set ?_ GE180.out) | exact HB.out))) : w.heap.size ≤ gb182)); have n5_ := Aside0.mk ((by rw [hg]; exact (below_size (by repeat (first | (with_reducible first | exact HB.out | apply below_alloc | apply pw_below_drewN | apply below_drew1 | refine below_set ?_ GE178.out | refine below_set ?_ GE180.out) | exact HB.out))) : w.heap.size ≤ gb182)); have n6_ := Aside0.mk ((by rw [hg]; exact Nat.ne_of_lt (blk_lt (g := gb178) (o := .cells #[.slice A0_0 l0_0.length c0_0, .slice (some ad179) l0_1.length c0_1] 30 (0, 0)) (by (with_reducible repeat (first | refine blk_drewN ?_ _ | refine blk_drew ?_ | refine blk_alloc ?_ _)); exact BK178.out)) : gb178 ≠ gb182)); have n7_ := Aside0.mk ((by rw [hg]; exact Nat.ne_of_gt (blk_lt (g := gb178) (o := .cells #[.slice A0_0 l0_0.length c0_0, .slice (some ad179) l0_1.length c0_1] 30 (0, 0)) (by (with_reducible repeat (first | refine blk_drewN ?_ _ | refine blk_drew ?_ | refine blk_alloc ?_ _)); exact BK178.out)) : gb182 ≠ gb178)); have n8_ := Aside0.mk ((by rw [hg]; exact Nat.ne_of_lt (blk_lt (g := gb180) (o := .cells #[.string ((rd_T38 l0_1 x11_1).f0), .slice (some ad181) ((rd_T38 l0_1 x11_1).f1).length c179_1, .slice A179_2 ((rd_T38 l0_1 x11_1).f2).length c179_2] 38 (0, 0)) (by (with_reducible repeat (first | refine blk_drewN ?_ _ | refine blk_drew ?_ | refine blk_alloc ?_ _)); exact BK180.out)) : gb180 ≠ gb182)); have n9_ := Aside0.mk ((by rw [hg]; exact Nat.ne_of_gt (blk_lt (g := gb180) (o := .cells #[.string ((rd_T38 l0_1 x11_1).f0), .slice (some ad181) ((rd_T38 l0_1 x11_1).f1).length c179_1, .slice A179_2 ((rd_T38 l0_1 x11_1).f2).length c179_2] 38 (0, 0)) (by (with_reducible repeat (first | refine blk_drewN ?_ _ | refine blk_drew ?_ | refine blk_alloc ?_ _)); exact BK180.out)) : gb182 ≠ gb180)); clear BK178; clear BK180; clear HB; have BK178 := n0_; have BK180 := n1_; have HB := n2_; have BK182 := n3_; have GW182 := n4_; have GE182 := n5_; have NB178_182 := n6_; have NB182_178 := n7_; have NB180_182 := n8_; have NB182_180 := n9_; clear n0_ n1_ n2_ n3_ n4_ n5_ n6_ n7_ n8_ n9_; clear hb hbox hg; have hnb21 := NB182_178.out; have hnc21 := NB178_182.out; have hnb22 := NB182_180.out; have hnc22 := NB180_182.out; have hcz23_0 : w20.cell? ⟨gb182, 0, none⟩ = some (.string (⟨#[]⟩ : ByteArray)) := (blk_cell BK182.out 0).trans rfl; have hcz23_1 : w20.cell? ⟨gb182, 1, none⟩ = some (.int .i64 0) := (blk_cell BK182.out 1).trans rfl; have hcz23_2 : w20.cell? ⟨gb182, 2, none⟩ = some (.int .i64 0) := (blk_cell BK182.out 2).trans rfl; have hcz23_3 : w20.cell? ⟨gb182, 3, none⟩ = some (.string (⟨#[]⟩ : ByteArray)) := (blk_cell BK182.out 3).trans rfl; have hcz23_4 : w20.cell? ⟨gb182, 4, none⟩ = some (.bool false) := (blk_cell BK182.out 4).trans rfl; have hcz23_5 : w20.cell? ⟨gb182, 5, none⟩ = some (.bool false) := (blk_cell BK182.out 5).trans rfl; have hcz23_6 : w20.cell? ⟨gb182, 6, none⟩ = some (.string (⟨#[]⟩ : ByteArray)) := (blk_cell BK182.out 6).trans rfl; have hfz23_0 := blk_frozen BK182.out 0; have hfz23_1 := blk_frozen BK182.out 1; have hfz23_2 := blk_frozen BK182.out 2; have hfz23_3 := blk_frozen BK182.out 3; have hfz23_4 := blk_frozen BK182.out 4; have hfz23_5 := blk_frozen BK182.out 5; have hfz23_6 := blk_frozen BK182.out 6) | ((with_reducible refine gate_callee (f := 41) rfl ?_); refine goesL_ (some 23) rfl rfl Try.func41 (by kernel_rfl) rfl #[.agg #[.string ((rd_T40 ((rd_T38 l0_1 x11_1).f1) x18_2).f0), .int .i64 ((rd_T40 ((rd_T38 l0_1 x11_1).f1) x18_2).f1), .int .i64 ((rd_T40 ((rd_T38 l0_1 x11_1).f1) x18_2).f2), .string ((rd_T40 ((rd_T38 l0_1 x11_1).f1) x18_2).f3), .bool ((rd_T40 ((rd_T38 l0_1 x11_1).f1) x18_2).f4), .bool ((rd_T40 ((rd_T38 l0_1 x11_1).f1) x18_2).f5), .string ((rd_T40 ((rd_T38 l0_1 x11_1).f1) x18_2).f6)]] rfl (by (try simp only [List.map_toArray, List.map_cons, List.map_nil]); first | done | rfl | (simp only [List.length_drop, List.length_take]; rfl)) ?_; (with_reducible refine (field_Check.calls k2 ((rd_T40 ((rd_T38 l0_1 x11_1).f1) x18_2).f0) ((rd_T40 ((rd_T38 l0_1 x11_1).f1) x18_2).f1) ((rd_T40 ((rd_T38 l0_1 x11_1).f1) x18_2).f2) ((rd_T40 ((rd_T38 l0_1 x11_1).f1) x18_2).f3) ((rd_T40 ((rd_T38 l0_1 x11_1).f1) x18_2).f4) ((rd_T40 ((rd_T38 l0_1 x11_1).f1) x18_2).f5) ((rd_T40 ((rd_T38 l0_1 x11_1).f1) x18_2).f6) t183 _ A13.out).mono ?_); rintro e w24 ⟨rfl, hb⟩; refine ⟨_, rfl, ?_⟩; have n0_ := Aside0.mk (blk_below (g := gb178) (o := .cells #[.slice A0_0 l0_0.length c0_0, .slice (some ad179) l0_1.length c0_1] 30 (0, 0)) (by (with_reducible repeat (first | refine blk_drewN ?_ _ | refine blk_drew ?_ | refine blk_alloc ?_ _)); refine blk_far ?_ NB178_182.out _; (with_reducible repeat (first | refine blk_drewN ?_ _ | refine blk_drew ?_ | refine blk_alloc ?_ _)); refine blk_far ?_ NB178_182.out _; (with_reducible repeat (first | refine blk_drewN ?_ _ | refine blk_drew ?_ | refine blk_alloc ?_ _)); refine blk_far ?_ NB178_182.out _; (with_reducible repeat (first | refine blk_drewN ?_ _ | refine blk_drew ?_ | refine blk_alloc ?_ _)); refine blk_far ?_ NB178_182.out _; (with_reducible repeat (first | refine blk_drewN ?_ _ | refine blk_drew ?_ | refine blk_alloc ?_ _)); refine blk_far ?_ NB178_182.out _; (with_reducible repeat (first | refine blk_drewN ?_ _ | refine blk_drew ?_ | refine blk_alloc ?_ _)); refine blk_far ?_ NB178_182.out _; (with_reducible repeat (first | refine blk_drewN ?_ _ | refine blk_drew ?_ | refine blk_alloc ?_ _)); refine blk_far ?_ NB178_182.out _; (with_reducible repeat (first | refine blk_drewN ?_ _ | refine blk_drew ?_ | refine blk_alloc ?_ _)); exact BK178.out) hb); have n1_ := Aside0.mk (blk_below (g := gb180) (o := .cells #[.string ((rd_T38 l0_1 x11_1).f0), .slice (some ad181) ((rd_T38 l0_1 x11_1).f1).length c179_1, .slice A179_2 ((rd_T38 l0_1 x11_1).f2).length c179_2] 38 (0, 0)) (by (with_reducible repeat (first | refine blk_drewN ?_ _ | refine blk_drew ?_ | refine blk_alloc ?_ _)); refine blk_far ?_ NB180_182.out _; (with_reducible repeat (first | refine blk_drewN ?_ _ | refine blk_drew ?_ | refine blk_alloc ?_ _)); refine blk_far ?_ NB180_182.out _; (with_reducible repeat (first | refine blk_drewN ?_ _ | refine blk_drew ?_ | refine blk_alloc ?_ _)); refine blk_far ?_ NB180_182.out _; (with_reducible repeat (first | refine blk_drewN ?_ _ | refine blk_drew ?_ | refine blk_alloc ?_ _)); refine blk_far ?_ NB180_182.out _; (with_reducible repeat (first | refine blk_drewN ?_ _ | refine blk_drew ?_ | refine blk_alloc ?_ _)); refine blk_far ?_ NB180_182.out _; (with_reducible repeat (first | refine blk_drewN ?_ _ | refine blk_drew ?_ | refine blk_alloc ?_ _)); refine blk_far ?_ NB180_182.out _; (with_reducible repeat (first | refine blk_drewN ?_ _ | refine blk_drew ?_ | refine blk_alloc ?_ _)); refine blk_far ?_ NB180_182.out _; (with_reducible repeat (first | refine blk_drewN ?_ _ | refine blk_drew ?_ | refine blk_alloc ?_ _)); exact BK180.out) hb); have n2_ := Aside0.mk (blk_below (g := gb182) (o := .cells #[.string ((rd_T40 ((rd_T38 l0_1 x11_1).f1) x18_2).f0), .int .i64 ((rd_T40 ((rd_T38 l0_1 x11_1).f1) x18_2).f1), .int .i64 ((rd_T40 ((rd_T38 l0_1 x11_1).f1) x18_2).f2), .string ((rd_T40 ((rd_T38 l0_1 x11_1).f1) x18_2).f3), .bool ((rd_T40 ((rd_T38 l0_1 x11_1).f1) x18_2).f4), .bool ((rd_T40 ((rd_T38 l0_1 x11_1).f1) x18_2).f5), .string ((rd_T40 ((rd_T38 l0_1 x11_1).f1) x18_2).f6)] 40 (0, 0)) (by (with_reducible repeat (first | refine blk_drewN ?_ _ | refine blk_drew ?_ | refine blk_alloc ?_ _)); refine blk_put (cs := #[.string ((rd_T40 ((rd_T38 l0_1 x11_1).f1) x18_2).f0), .int .i64 ((rd_T40 ((rd_T38 l0_1 x11_1).f1) x18_2).f1), .int .i64 ((rd_T40 ((rd_T38 l0_1 x11_1).f1) x18_2).f2), .string ((rd_T40 ((rd_T38 l0_1 x11_1).f1) x18_2).f3), .bool ((rd_T40 ((rd_T38 l0_1 x11_1).f1) x18_2).f4), .bool ((rd_T40 ((rd_T38 l0_1 x11_1).f1) x18_2).f5), .string (⟨#[]⟩ : ByteArray)]) ?_ 6 _ rfl; (with_reducible repeat (first | refine blk_drewN ?_ _ | refine blk_drew ?_ | refine blk_alloc ?_ _)); refine blk_put (cs := #[.string ((rd_T40 ((rd_T38 l0_1 x11_1).f1) x18_2).f0), .int .i64 ((rd_T40 ((rd_T38 l0_1 x11_1).f1) x18_2).f1), .int .i64 ((rd_T40 ((rd_T38 l0_1 x11_1).f1) x18_2).f2), .string ((rd_T40 ((rd_T38 l0_1 x11_1).f1) x18_2).f3), .bool ((rd_T40 ((rd_T38 l0_1 x11_1).f1) x18_2).f4), .bool false, .string (⟨#[]⟩ : ByteArray)]) ?_ 5 _ rfl; (with_reducible repeat (first | refine blk_drewN ?_ _ | refine blk_drew ?_ | refine blk_alloc ?_ _)); refine blk_put (cs := #[.string ((rd_T40 ((rd_T38 l0_1 x11_1).f1) x18_2).f0), .int .i64 ((rd_T40 ((rd_T38 l0_1 x11_1).f1) x18_2).f1), .int .i64 ((rd_T40 ((rd_T38 l0_1 x11_1).f1) x18_2).f2), .string ((rd_T40 ((rd_T38 l0_1 x11_1).f1) x18_2).f3), .bool false, .bool false, .string (⟨#[]⟩ : ByteArray)]) ?_ 4 _ rfl; (with_reducible repeat (first | refine blk_drewN ?_ _ | refine blk_drew ?_ | refine blk_alloc ?_ _)); refine blk_put (cs := #[.string ((rd_T40 ((rd_T38 l0_1 x11_1).f1) x18_2).f0), .int .i64 ((rd_T40 ((rd_T38 l0_1 x11_1).f1) x18_2).f1), .int .i64 ((rd_T40 ((rd_T38 l0_1 x11_1).f1) x18_2).f2), .string (⟨#[]⟩ : ByteArray), .bool false, .bool false, .string (⟨#[]⟩ : ByteArray)]) ?_ 3 _ rfl; (with_reducible repeat (first | refine blk_drewN ?_ _ | refine blk_drew ?_ | refine blk_alloc ?_ _)); refine blk_put (cs := #[.string ((rd_T40 ((rd_T38 l0_1 x11_1).f1) x18_2).f0), .int .i64 ((rd_T40 ((rd_T38 l0_1 x11_1).f1) x18_2).f1), .int .i64 0, .string (⟨#[]⟩ : ByteArray), .bool false, .bool false, .string (⟨#[]⟩ : ByteArray)]) ?_ 2 _ rfl; (with_reducible repeat (first | refine blk_drewN ?_ _ | refine blk_drew ?_ | refine blk_alloc ?_ _)); refine blk_put (cs := #[.string ((rd_T40 ((rd_T38 l0_1 x11_1).f1) x18_2).f0), .int .i64 0, .int .i64 0, .string (⟨#[]⟩ : ByteArray), .bool false, .bool false, .string (⟨#[]⟩ : ByteArray)]) ?_ 1 _ rfl; (with_reducible repeat (first | refine blk_drewN ?_ _ | refine blk_drew ?_ | refine blk_alloc ?_ _)); refine blk_put (cs := #[.string (⟨#[]⟩ : ByteArray), .int .i64 0, .int .i64 0, .string (⟨#[]⟩ : ByteArray), .bool false, .bool false, .string (⟨#[]⟩ : ByteArray)]) ?_ 0 _ rfl; (with_reducible repeat (first | refine blk_drewN ?_ _ | refine blk_drew ?_ | refine blk_alloc ?_ _)); exact BK182.out) hb); have n3_ := Aside0.mk (below_step (by repeat (first | (with_reducible first | exact HB.out | apply below_alloc | apply pw_below_drewN | apply below_drew1 | refine below_set ?_ GE178.out | refine below_set ?_ GE180.out | refine below_set ?_ GE182.out) | exact HB.out)) hb); clear BK178; clear BK180; clear BK182; clear HB; have BK178 := n0_; have BK180 := n1_; have BK182 := n2_; have HB := n3_; clear n0_ n1_ n2_ n3_; (try clear hb); (try clear hb2); (try clear hk); (try clear hi)))
            go_ret
            exact ⟨by first | rfl | (simp [errW_none, errW_some] <;> rfl) | (simp [*, errW_none, errW_some] <;> rfl), by repeat (first | (with_reducible first | exact HB.out | apply below_alloc | apply pw_below_drewN | apply below_drew1 | refine below_set ?_ GE178.out | refine below_set ?_ GE180.out | refine below_set ?_ GE182.out) | exact HB.out)⟩
          ·rw [if_neg c12] at H
           exact absurd H (by simp)
         ·rw [if_neg c11] at H
          exact absurd H (by simp)
        ·rw [if_neg c10] at H
         have c10b0 : decide (x18_2 < (((rd_T38 l0_1 x11_1).f1).length : Int)) = false := decide_eq_false c10
         clear c10
         have H' := Aside0.mk H
         clear H
         go_wp2
         go_roundg k2
         case measure => have := HK1.out; have := HK2.out; omega
         case rel => exact ⟨(wrap64 (x11_1 + 1)), (by first | rfl | (simp; done) | (simp [*]; done)), H', ⟨by have := HK1.out; have := HK2.out; omega⟩, ⟨by (with_reducible repeat (first | refine blk_drewN ?_ _ | refine blk_drew ?_ | refine blk_alloc ?_ _)); exact BK178.out⟩, ⟨by repeat (first | (with_reducible first | exact HB.out | apply below_alloc | apply pw_below_drewN | apply below_drew1 | refine below_set ?_ GE178.out | refine below_set ?_ GE180.out) | exact HB.out)⟩⟩
     ·rw [if_neg c6] at H
      exact absurd H (by simp)
    ·rw [if_neg c5] at H
     exact absurd H (by simp)
   ·rw [if_neg c4] at H
    have c4b0 : decide (x11_1 < (l0_1.length : Int)) = false := decide_eq_false c4
    clear c4
    obtain rfl := Option.some.inj H
    go_wp2
    go_ret
    exact ⟨by first | rfl | (simp [errW_none, errW_some] <;> rfl) | (simp [*, errW_none, errW_some] <;> rfl), by repeat (first | (with_reducible first | exact HB.out | apply below_alloc | apply pw_below_drewN | apply below_drew1 | refine below_set ?_ GE178.out) | exact HB.out)⟩
end Go.Proofs.Ytelhcijoegjjnaa.P
namespace Go.Proofs.Ytelhcijoegjjnaa.P
open Go.RowKit Go.Proofs.YtelhcijoegjjnaaW.PrintWords Go.Proofs.YtelhcijoegjjnaaW.PrintLast Go.Proofs.YtelhcijoegjjnaaW.PrintMore
attribute [local go_sem] max2_int min2_int max_two min_two max_three min_three max_four min_four
set_option linter.unusedVariables false
set_option linter.unusedSimpArgs false
def ident_Rise.l0 : Nat → List ByteArray → List ByteArray → Int → Int → Option (Bool)
 | 0, _, _, _, _ => none
 | k + 1, x0, x5, x6, x7 => if x7 < x6 then (if 0 ≤ x7 then (if x7 < (x5.length : Int) then (if x7 > 0 then (if 0 ≤ (wrap64 (x7 - 1)) then (if (wrap64 (x7 - 1)) < (x0.length : Int) then (if ((Op.bytesLess ((rdOf ByteArray.empty x0 (wrap64 (x7 - 1))).toList) ((rdOf ByteArray.empty x5 x7).toList)) = true) then (ident_Rise.l0 k x0 x5 x6 (wrap64 (x7 + 1))) else (some false)) else (none)) else (none)) else (ident_Rise.l0 k x0 x5 x6 (wrap64 (x7 + 1)))) else (none)) else (none)) else (some true)
def ident_Rise.f (k : Nat) (l0 : List ByteArray) : Option (Bool) := ident_Rise.l0 k l0 l0 (l0.length : Int) 0
theorem ident_Rise.mono_l : ∀ k, (∀ y0 y1 y2 y3, LeO (ident_Rise.l0 k y0 y1 y2 y3) (ident_Rise.l0 (k + 1) y0 y1 y2 y3))
 | 0 => fun _ _ _ _ r h => by simp [ident_Rise.l0] at h
 | k + 1 => by
  have ih0 := ident_Rise.mono_l k
  ·intro y0 y1 y2 y3
   unfold ident_Rise.l0
   repeat' first
   | (with_reducible exact ih0 _ _ _ _)
   | (with_reducible exact LeO.refl _)
   | (with_reducible exact LeO.none _)
   | (with_reducible refine LeO.ite ?_ ?_)
   | (with_reducible refine LeO.bind ?_ (fun _ => ?_))
   | exact ih0 _ _ _ _
   | exact LeO.none _
   | refine LeO.ite ?_ ?_
   | refine LeO.bind ?_ (fun _ => ?_)
theorem ident_Rise.mono : ∀ a0 k, LeO (ident_Rise.f k a0) (ident_Rise.f (k + 1) a0) := by
 intro a0 k
 have ih0 := ident_Rise.mono_l k
 unfold ident_Rise.f
 repeat' first
   | (with_reducible exact ih0 _ _ _ _)
   | (with_reducible exact LeO.refl _)
   | (with_reducible exact LeO.none _)
   | (with_reducible refine LeO.ite ?_ ?_)
   | (with_reducible refine LeO.bind ?_ (fun _ => ?_))
   | exact ih0 _ _ _ _
   | exact LeO.none _
   | refine LeO.ite ?_ ?_
   | refine LeO.bind ?_ (fun _ => ?_)
set_option maxHeartbeats 8000000 in
set_option maxRecDepth 100000 in
theorem ident_Rise.calls (k : Nat) (A0 : Option Addr) (c0 : Nat) (l0 : List ByteArray) (r : Bool) (w : World) (hr0 : Kd.C Kd.string w A0 l0.length l0) (hc0 : l0.length ≤ c0) (h : ident_Rise.f k l0 = some r) :
  Calls Try.prog 7 #[.slice A0 l0.length c0] w fun e w' => e = .returned (.bool r) ∧ Drawn0 w w' := by
 have HR0 := Aside0.mk hr0
 have HC0 := Aside0.mk hc0
 clear hr0 hc0
 have H : (ident_Rise.l0 k l0 l0 (l0.length : Int) 0) = some r := h
 clear h
 have H' := Aside0.mk H
 clear H
 go_enter Try.func7, Try.ntmps7
 go_wp2
 go_loopg [7] k (fun kq v7 w' => ∃ (x7_1 : Int), v7 = .int .i64 x7_1 ∧ Aside0 (ident_Rise.l0 kq l0 l0 (l0.length : Int) x7_1 = some r) ∧ Aside0 (kq ≤ k) ∧ Drawn0 w w')
 case atStart => exact ⟨(0), (by first | rfl | (simp; done) | (simp [*]; done)), H', ⟨Nat.le_refl _⟩, by repeat (first | exact Drawn0.refl _ | apply Drawn0.step)⟩
 case round =>
  clear H'
  obtain ⟨x7_1, rfl, HA, HK1, ⟨m1, rfl⟩⟩ := hrel
  cases gk with
  | zero => exact absurd HA.out (by simp [ident_Rise.l0])
  | succ k1 =>
   have H := HA.out
   clear HA
   simp only [ident_Rise.l0] at H
   by_cases c2 : x7_1 < (l0.length : Int)
   ·rw [if_pos c2] at H
    have c2b0 : decide (x7_1 < (l0.length : Int)) = true := decide_eq_true c2
    clear c2
    by_cases c3 : 0 ≤ x7_1
    ·rw [if_pos c3] at H
     have c3b0 : decide (0 ≤ x7_1) = true := decide_eq_true c3
     clear c3
     by_cases c4 : x7_1 < (l0.length : Int)
     ·rw [if_pos c4] at H
      have c4b0 : decide (x7_1 < (l0.length : Int)) = true := decide_eq_true c4
      clear c4
      by_cases c5 : x7_1 > 0
      ·rw [if_pos c5] at H
       have c5b0 : decide (0 < x7_1) = true := decide_eq_true c5
       clear c5
       obtain ⟨ji6, hji6⟩ : ∃ j_ : Int, (wrap64 (x7_1 - 1)) = j_ := ⟨_, rfl⟩
       replace H : (if 0 ≤ (ji6) then (if (ji6) < (l0.length : Int) then (if ((Op.bytesLess ((rdOf ByteArray.empty l0 (ji6)).toList) ((rdOf ByteArray.empty l0 x7_1).toList)) = true) then (ident_Rise.l0 k1 l0 l0 (l0.length : Int) (wrap64 (x7_1 + 1))) else (some false)) else (none)) else (none)) = some r := by first | (rw [hji6] at H; exact H) | (simp only [hji6] at H ⊢; exact H)
       have hji6w : (IntKind.i64.wrap (x7_1 - 1)) = ji6 := (i64_w _).trans hji6
       by_cases c7 : 0 ≤ (ji6)
       ·rw [if_pos c7] at H
        have c7b0 : decide (0 ≤ (ji6)) = true := decide_eq_true c7
        clear c7
        by_cases c8 : (ji6) < (l0.length : Int)
        ·rw [if_pos c8] at H
         have c8b0 : decide ((ji6) < (l0.length : Int)) = true := decide_eq_true c8
         clear c8
         by_cases c9 : ((Op.bytesLess ((rdOf ByteArray.empty l0 (ji6)).toList) ((rdOf ByteArray.empty l0 x7_1).toList)) = true)
         ·rw [if_pos c9] at H
          have c9b0 : (Op.bytesLess ((rdOf ByteArray.empty l0 (ji6)).toList) ((rdOf ByteArray.empty l0 x7_1).toList)) = true := c9
          clear c9
          have H' := Aside0.mk H
          clear H
          have p105 : 0 ≤ (x7_1 : Int) := of_decide_eq_true (by first | (with_reducible assumption) | assumption)
          have q105 : x7_1 < (l0.length : Int) := of_decide_eq_true (by first | (with_reducible assumption) | assumption)
          obtain ⟨ad105, e105, hx105_0⟩ := Kd.at_string HR0.out x7_1 p105 q105
          cases e105
          replace p105 := eq_true p105
          replace q105 := eq_true q105
          have p106 : 0 ≤ ((ji6) : Int) := of_decide_eq_true (by first | (with_reducible assumption) | assumption)
          have q106 : (ji6) < (l0.length : Int) := of_decide_eq_true (by first | (with_reducible assumption) | assumption)
          obtain ⟨ad106, e106, hx106_0⟩ := Kd.at_string HR0.out (ji6) p106 q106
          obtain rfl : ad105 = ad106 := (by injection e106)
          replace p106 := eq_true p106
          replace q106 := eq_true q106
          go_wp2
          go_roundg k1
          case measure => have := HK1.out; omega
          case rel => exact ⟨(wrap64 (x7_1 + 1)), (by first | rfl | (simp; done) | (simp [*]; done)), H', ⟨by have := HK1.out; omega⟩, by repeat (first | exact Drawn0.refl _ | apply Drawn0.step)⟩
         ·rw [if_neg c9] at H
          have c9b0 : (Op.bytesLess ((rdOf ByteArray.empty l0 (ji6)).toList) ((rdOf ByteArray.empty l0 x7_1).toList)) = false := by simpa using c9
          clear c9
          obtain rfl := Option.some.inj H
          have p105 : 0 ≤ (x7_1 : Int) := of_decide_eq_true (by first | (with_reducible assumption) | assumption)
          have q105 : x7_1 < (l0.length : Int) := of_decide_eq_true (by first | (with_reducible assumption) | assumption)
          obtain ⟨ad105, e105, hx105_0⟩ := Kd.at_string HR0.out x7_1 p105 q105
          cases e105
          replace p105 := eq_true p105
          replace q105 := eq_true q105
          have p106 : 0 ≤ ((ji6) : Int) := of_decide_eq_true (by first | (with_reducible assumption) | assumption)
          have q106 : (ji6) < (l0.length : Int) := of_decide_eq_true (by first | (with_reducible assumption) | assumption)
          obtain ⟨ad106, e106, hx106_0⟩ := Kd.at_string HR0.out (ji6) p106 q106
          obtain rfl : ad105 = ad106 := (by injection e106)
          replace p106 := eq_true p106
          replace q106 := eq_true q106
          go_wp2
          go_ret
          exact ⟨by first | rfl | (simp; done) | (simp only [← hji6] <;> (first | rfl | simp)) | (simp [*]; done), by repeat (first | exact Drawn0.refl _ | apply Drawn0.step)⟩
        ·rw [if_neg c8] at H
         exact absurd H (by simp)
       ·rw [if_neg c7] at H
        exact absurd H (by simp)
      ·rw [if_neg c5] at H
       have c5b0 : decide (0 < x7_1) = false := decide_eq_false c5
       clear c5
       have H' := Aside0.mk H
       clear H
       have p105 : 0 ≤ (x7_1 : Int) := of_decide_eq_true (by first | (with_reducible assumption) | assumption)
       have q105 : x7_1 < (l0.length : Int) := of_decide_eq_true (by first | (with_reducible assumption) | assumption)
       obtain ⟨ad105, e105, hx105_0⟩ := Kd.at_string HR0.out x7_1 p105 q105
       cases e105
       replace p105 := eq_true p105
       replace q105 := eq_true q105
       go_wp2
       go_roundg k1
       case measure => have := HK1.out; omega
       case rel => exact ⟨(wrap64 (x7_1 + 1)), (by first | rfl | (simp; done) | (simp [*]; done)), H', ⟨by have := HK1.out; omega⟩, by repeat (first | exact Drawn0.refl _ | apply Drawn0.step)⟩
     ·rw [if_neg c4] at H
      exact absurd H (by simp)
    ·rw [if_neg c3] at H
     exact absurd H (by simp)
   ·rw [if_neg c2] at H
    have c2b0 : decide (x7_1 < (l0.length : Int)) = false := decide_eq_false c2
    clear c2
    obtain rfl := Option.some.inj H
    go_wp2
    go_ret
    exact ⟨by first | rfl | (simp; done) | (simp [*]; done), by repeat (first | exact Drawn0.refl _ | apply Drawn0.step)⟩
end Go.Proofs.Ytelhcijoegjjnaa.P
namespace Go.Proofs
open Go.Shelf
def Try.lays190_ren : Go.Shelf.Ren := ⟨fun | 190 => 18 | 125 => 30 | 258 => 29 | 128 => 68 | 129 => 69 | 302 => 59 | 303 => 60 | 304 => 61 | 305 => 62 | 306 => 63 | 307 => 64 | 308 => 65 | 309 => 66 | 310 => 67 | 333 => 84 | 329 => 85 | 330 => 86 | 334 => 87 | 335 => 88 | 336 => 89 | 344 => 96 | n => n, fun | 31 => 22 | 9 => 9 | 3 => 3 | 46 => 54 | 0 => 0 | 51 => 80 | 53 => 82 | 4 => 4 | 183 => 72 | 182 => 71 | 131 => 77 | 5 => 5 | 218 => 95 | 222 => 99 | 228 => 105 | 229 => 106 | n => n, fun | n => n⟩
theorem Try.lays190 : Go.Proofs.Lays.n190 Try.prog Try.lays190_ren := {
 mixed := by kernel_rfl
 f125 := Try.func30.trans (congrArg some (by kernel_rfl))
 f128 := Try.func68.trans (congrArg some (by kernel_rfl))
 f129 := Try.func69.trans (congrArg some (by kernel_rfl))
 f190 := Try.func18.trans (congrArg some (by kernel_rfl))
 f258 := Try.func29.trans (congrArg some (by kernel_rfl))
 f302 := Try.func59.trans (congrArg some (by kernel_rfl))
 f303 := Try.func60.trans (congrArg some (by kernel_rfl))
 f304 := Try.func61.trans (congrArg some (by kernel_rfl))
 f305 := Try.func62.trans (congrArg some (by kernel_rfl))
 f306 := Try.func63.trans (congrArg some (by kernel_rfl))
 f307 := Try.func64.trans (congrArg some (by kernel_rfl))
 f308 := Try.func65.trans (congrArg some (by kernel_rfl))
 f309 := Try.func66.trans (congrArg some (by kernel_rfl))
 f310 := Try.func67.trans (congrArg some (by kernel_rfl))
 f329 := Try.func85.trans (congrArg some (by kernel_rfl))
 f330 := Try.func86.trans (congrArg some (by kernel_rfl))
 f333 := Try.func84.trans (congrArg some (by kernel_rfl))
 f334 := Try.func87.trans (congrArg some (by kernel_rfl))
 f335 := Try.func88.trans (congrArg some (by kernel_rfl))
 f336 := Try.func89.trans (congrArg some (by kernel_rfl))
 f344 := Try.func96.trans (congrArg some (by kernel_rfl))
 t0 := Try.underlying0
 a0 := Try.isAgg0
 z0 := Try.sizeOf0
 v0 := Try.zeroValue0
 t3 := Try.underlying3
 a3 := Try.isAgg3
 z3 := Try.sizeOf3
 v3 := Try.zeroValue3
 t4 := Try.underlying4
 a4 := Try.isAgg4
 z4 := Try.sizeOf4
 v4 := Try.zeroValue4
 t5 := Try.underlying5
 a5 := Try.isAgg5
 z5 := Try.sizeOf5
 v5 := Try.zeroValue5
 t9 := Try.underlying9
 a9 := Try.isAgg9
 z9 := Try.sizeOf9
 v9 := Try.zeroValue9
 t31 := Try.underlying22
 a31 := Try.isAgg22
 z31 := Try.sizeOf22
 v31 := Try.zeroValue22
 t46 := Try.underlying54
 a46 := Try.isAgg54
 z46 := Try.sizeOf54
 v46 := Try.zeroValue54
 t51 := Try.underlying80
 a51 := Try.isAgg80
 z51 := Try.sizeOf80
 v51 := Try.zeroValue80
 t53 := Try.underlying82
 a53 := Try.isAgg82
 z53 := Try.sizeOf82
 v53 := Try.zeroValue82
 t131 := Try.underlying77
 a131 := Try.isAgg77
 z131 := Try.sizeOf77
 v131 := Try.zeroValue77
 t182 := Try.underlying71
 a182 := Try.isAgg71
 z182 := Try.sizeOf71
 v182 := Try.zeroValue71
 t183 := Try.underlying72
 a183 := Try.isAgg72
 z183 := Try.sizeOf72
 v183 := Try.zeroValue72
 t218 := Try.underlying95
 a218 := Try.isAgg95
 z218 := Try.sizeOf95
 v218 := Try.zeroValue95
 t222 := Try.underlying99
 a222 := Try.isAgg99
 z222 := Try.sizeOf99
 v222 := Try.zeroValue99
 t228 := Try.underlying105
 a228 := Try.isAgg105
 z228 := Try.sizeOf105
 v228 := Try.zeroValue105
 t229 := Try.underlying106
 a229 := Try.isAgg106
 z229 := Try.sizeOf106
 v229 := Try.zeroValue106 }
open Go.Sort Go.RowKit in
theorem Try.slices_Sort_string (blk off cap : Nat) (ss : List (List UInt8)) (w : World) (hH : Holds encStr w blk off ss.toArray) (hblk : blk < w.heap.size) (hsz : ss.length < 4611686018427387904) :
  Calls Try.prog 18 #[.slice (some ⟨blk, off, none⟩) ss.length cap] w fun e w' =>
   e = .returned (.tuple #[]) ∧ ∃ n os, w' = grow (putRow encStr (Sort.ahead w n) blk off (ss.mergeSort fun x y => decide (x ≤ y)).toArray) os := Any.slices_Sort_string Try.lays190 blk off cap ss w hH hblk hsz
def Try.lays107_ren : Go.Shelf.Ren := ⟨fun | 107 => 56 | 108 => 83 | n => n, fun | 28 => 36 | 3 => 3 | 4 => 4 | 0 => 0 | n => n, fun | n => n⟩
theorem Try.lays107 : Go.Proofs.Lays.n107 Try.prog Try.lays107_ren := {
 mixed := by kernel_rfl
 f107 := Try.func56.trans (congrArg some (by kernel_rfl))
 f108 := Try.func83.trans (congrArg some (by kernel_rfl))
 t0 := Try.underlying0
 a0 := Try.isAgg0
 z0 := Try.sizeOf0
 v0 := Try.zeroValue0
 t3 := Try.underlying3
 a3 := Try.isAgg3
 z3 := Try.sizeOf3
 v3 := Try.zeroValue3
 t4 := Try.underlying4
 a4 := Try.isAgg4
 z4 := Try.sizeOf4
 v4 := Try.zeroValue4
 t28 := Try.underlying36
 a28 := Try.isAgg36
 z28 := Try.sizeOf36
 v28 := Try.zeroValue36 }
open Go.Lib in
theorem Try.slices_Contains_int (b off n c : Nat) (zs : List Int) (x : Int) (w : World) (hz : n ≤ zs.length) (hbig : n ≤ 9223372036854775807) (hc : ∀ j, j < zs.length → w.cell? ⟨b, off + j, none⟩ = some (.int .i64 (zs.getD j 0))) :
  Calls Try.prog 56 #[.slice (some ⟨b, off, none⟩) n c, .int .i64 x] w fun e w' => e = .returned (.bool ((zs.take n).contains x)) ∧ w' = w := Any.slices_Contains_int Try.lays107 b off n c zs x w hz hbig hc
open Go.Lib in
theorem Try.slices_Contains_int_empty (a : Option Addr) (c : Nat) (x : Int) (w : World) :
  Calls Try.prog 56 #[.slice a 0 c, .int .i64 x] w fun e w' => e = .returned (.bool false) ∧ w' = w := Any.slices_Contains_int_empty Try.lays107 a c x w
def Try.lays110_ren : Go.Shelf.Ren := ⟨fun | 110 => 49 | 109 => 78 | n => n, fun | 31 => 22 | 9 => 9 | 4 => 4 | 3 => 3 | 0 => 0 | n => n, fun | n => n⟩
theorem Try.lays110 : Go.Proofs.Lays.n110 Try.prog Try.lays110_ren := {
 mixed := by kernel_rfl
 f109 := Try.func78.trans (congrArg some (by kernel_rfl))
 f110 := Try.func49.trans (congrArg some (by kernel_rfl))
 t0 := Try.underlying0
 a0 := Try.isAgg0
 z0 := Try.sizeOf0
 v0 := Try.zeroValue0
 t3 := Try.underlying3
 a3 := Try.isAgg3
 z3 := Try.sizeOf3
 v3 := Try.zeroValue3
 t4 := Try.underlying4
 a4 := Try.isAgg4
 z4 := Try.sizeOf4
 v4 := Try.zeroValue4
 t9 := Try.underlying9
 a9 := Try.isAgg9
 z9 := Try.sizeOf9
 v9 := Try.zeroValue9
 t31 := Try.underlying22
 a31 := Try.isAgg22
 z31 := Try.sizeOf22
 v31 := Try.zeroValue22 }
open Go.Lib in
theorem Try.slices_Contains_string (b off n c : Nat) (zs : List ByteArray) (x : ByteArray) (w : World) (hz : n ≤ zs.length) (hbig : n ≤ 9223372036854775807) (hc : ∀ j, j < zs.length → w.cell? ⟨b, off + j, none⟩ = some (.string (zs.getD j ByteArray.empty))) :
  Calls Try.prog 49 #[.slice (some ⟨b, off, none⟩) n c, .string x] w fun e w' => e = .returned (.bool (Lib.containsS (zs.take n) x)) ∧ w' = w := Any.slices_Contains_string Try.lays110 b off n c zs x w hz hbig hc
open Go.Lib in
theorem Try.slices_Contains_string_empty (a : Option Addr) (c : Nat) (x : ByteArray) (w : World) :
  Calls Try.prog 49 #[.slice a 0 c, .string x] w fun e w' => e = .returned (.bool false) ∧ w' = w := Any.slices_Contains_string_empty Try.lays110 a c x w
def Try.laysNm216_ren : Go.Shelf.Ren := ⟨fun | 16 => 17 | n => n, fun | 24 => 22 | 9 => 9 | 4 => 4 | n => n, fun | n => n⟩
theorem Try.laysNm216 : Go.Proofs.Lays2.n16 Try.prog Try.laysNm216_ren := {
 mixed := by kernel_rfl
 f16 := Try.func17.trans (congrArg some (by kernel_rfl))
 t4 := Try.underlying4
 a4 := Try.isAgg4
 z4 := Try.sizeOf4
 v4 := Try.zeroValue4
 t9 := Try.underlying9
 a9 := Try.isAgg9
 z9 := Try.sizeOf9
 v9 := Try.zeroValue9
 t24 := Try.underlying22
 a24 := Try.isAgg22
 z24 := Try.sizeOf22
 v24 := Try.zeroValue22
 i9 := by kernel_rfl }
open Go.RowKit Go.Lib in
theorem Try.slices_Clone_string (b off n c : Nat) (zs : List ByteArray) (w : World) (hz : n ≤ zs.length) (hbig : n * 16 ≤ 140737488355328) (hc : ∀ j, j < zs.length → w.cell? ⟨b, off + j, none⟩ = some (.string (zs.getD j ByteArray.empty))) :
  Calls Try.prog 17 #[.slice (some ⟨b, off, none⟩) n c] w fun e w' => ∃ v', e = .returned v' ∧ w'.ownsRow w.heap.size 9 1 v' n ((zs.take n).map (Value.string)) ∧ v' ≠ .slice none 0 0 ∧ Below w.heap.size w w' := Any.slices_Clone_string Try.laysNm216 b off n c zs w hz hbig hc
open Go.RowKit Go.Lib in
theorem Try.slices_Clone_string_nil (n c : Nat) (w : World) :
  Calls Try.prog 17 #[.slice none n c] w fun e w' => e = .returned (.slice none 0 0) ∧ w' = w := Any.slices_Clone_string_nil Try.laysNm216 n c w
open Go.RowKit Go.Lib in
theorem Try.slices_Clone_string_zero (a : Addr) (c : Nat) (w : World) :
  Calls Try.prog 17 #[.slice (some a) 0 c] w fun e w' => ∃ v', e = .returned v' ∧ w'.ownsRow w.heap.size 9 1 v' 0 [] ∧ v' ≠ .slice none 0 0 ∧ Below w.heap.size w w' := Any.slices_Clone_string_zero Try.laysNm216 a c w
open Go.RowKit Go.Sort in
theorem Try.slices_Sort_string_none (p : Option Addr) (cap : Nat) (w : World) :
  Calls Try.prog 18 #[.slice p 0 cap] w fun e w' => e = .returned (.tuple #[]) ∧ w' = w := Any.slices_Sort_string_none Try.lays190 p cap w
end Go.Proofs
namespace Go.Proofs.Ytelhcijoegjjnaa.P
open Go.RowKit Go.Proofs.YtelhcijoegjjnaaW.PrintWords Go.Proofs.YtelhcijoegjjnaaW.PrintLast Go.Proofs.YtelhcijoegjjnaaW.PrintMore
attribute [local go_sem] max2_int min2_int max_two min_two max_three min_three max_four min_four
set_option linter.unusedVariables false
set_option linter.unusedSimpArgs false
theorem ident_Rise.from_ (l : List ByteArray) (hn : l.length ≤ 4611686018427387904) (d : Nat) : ∀ (k : Nat) (i : Int), 0 ≤ i → i ≤ l.length → (l.length : Int) - i = d → d < k →
  ∃ r, ident_Rise.l0 k l l (l.length : Int) i = some r ∧ (r = true ↔ ∀ j : Nat, i ≤ j → 0 < j → ∀ a b, (l.map (·.data.toList))[j-1]? = some a → (l.map (·.data.toList))[j]? = some b → a < b) := by
 induction d with
 | zero =>
  intro k i h0 h1 hd hk
  obtain ⟨k, rfl⟩ : ∃ m, k = m + 1 := ⟨k - 1, by omega⟩
  refine ⟨true, by simp only [ident_Rise.l0]; rw [if_neg (by omega)], by simp only [true_iff]; intro j hj _ a b _ hb; have := (List.getElem?_eq_some_iff.1 hb).1; simp at this; omega⟩
 | succ d ih =>
  intro k i h0 h1 hd hk
  obtain ⟨k, rfl⟩ : ∃ m, k = m + 1 := ⟨k - 1, by omega⟩
  have hlt : i < (l.length : Int) := by omega
  have hw : wrap64 (i + 1) = i + 1 := by unfold wrap64; omega
  obtain ⟨r, hr, hI⟩ := ih k (i + 1) (by omega) (by omega) (by omega) (by omega)
  obtain ⟨n, rfl⟩ : ∃ n : Nat, i = n := ⟨i.toNat, by omega⟩
  have hnl : n < l.length := by omega
  have hgn : (l.map (·.data.toList))[n]? = some (l[n].data.toList) := by simp [hnl]
  by_cases hi : (n : Int) > 0
  ·have hm : wrap64 ((n : Int) - 1) = (n : Int) - 1 := by unfold wrap64; omega
   have hgm : (l.map (·.data.toList))[n-1]? = some ((l[n-1]'(by omega)).data.toList) := by simp [show n - 1 < l.length by omega]
   have e1 : (rdOf ByteArray.empty l ((n : Int) - 1)).toList = (l[n-1]'(by omega)).data.toList := by
    rw [Lib.toList_data]; unfold rdOf; rw [show ((n : Int) - 1).toNat = n - 1 by omega]; simp [show n - 1 < l.length by omega]
   have e2 : (rdOf ByteArray.empty l (n : Int)).toList = l[n].data.toList := by
    rw [Lib.toList_data]; unfold rdOf; simp [hnl]
   by_cases hless : Op.bytesLess (l[n-1]'(by omega)).data.toList l[n].data.toList = true
   ·refine ⟨r, ?_, ?_⟩
    ·simp only [ident_Rise.l0]
     rw [if_pos hlt, if_pos h0, if_pos hlt, if_pos hi, hm, if_pos (by omega), if_pos (by omega), e1, e2, if_pos hless, hw]
     exact hr
    ·rw [hI]
     constructor
     ·intro h j hj hj0 a b ha hb
      by_cases e : j = n
      ·subst e
       rw [hgm] at ha; rw [hgn] at hb
       obtain rfl := Option.some.inj ha
       obtain rfl := Option.some.inj hb
       rw [bytesLess_eq] at hless
       exact of_decide_eq_true hless
      ·exact h j (by omega) hj0 a b ha hb
     ·intro h j hj hj0 a b ha hb
      exact h j (by omega) hj0 a b ha hb
   ·refine ⟨false, ?_, ?_⟩
    ·simp only [ident_Rise.l0]
     rw [if_pos hlt, if_pos h0, if_pos hlt, if_pos hi, hm, if_pos (by omega), if_pos (by omega), e1, e2, if_neg hless]
    ·simp only [Bool.false_eq_true, false_iff]
     intro h
     have := h n (by omega) (by omega) _ _ hgm hgn
     rw [bytesLess_eq] at hless
     exact hless (decide_eq_true this)
  ·refine ⟨r, ?_, ?_⟩
   ·simp only [ident_Rise.l0]
    rw [if_pos hlt, if_pos h0, if_pos hlt, if_neg hi, hw]
    exact hr
   ·rw [hI]
    constructor
    ·intro h j hj hj0 a b ha hb
     exact h j (by omega) hj0 a b ha hb
    ·intro h j hj hj0 a b ha hb
     exact h j (by omega) hj0 a b ha hb
theorem ident_Rise.tells (l : List ByteArray) (hn : l.length ≤ 4611686018427387904) : ∃ k r, ident_Rise.f k l = some r ∧ (r = true ↔ Str.Rise (l.map (·.data.toList))) := by
 obtain ⟨r, hr, hI⟩ := ident_Rise.from_ l hn l.length (l.length + 1) 0 (by omega) (by omega) (by omega) (by omega)
 refine ⟨l.length + 1, r, hr, hI.trans ?_⟩
 constructor
 ·intro h j hj0 a b ha hb
  exact h j (by omega) hj0 a b ha hb
 ·intro h j _ hj0 a b ha hb
  exact h j hj0 a b ha hb
def ident_Once.f (l0 : List ByteArray) : Option Bool := if l0.length * 16 ≤ 140737488355328 then some (decide (l0.map (·.data.toList)).Nodup) else none
theorem Once_C_of_holds {w : World} {g : Nat} {ss : List (List UInt8)} {xs : List ByteArray} (h : Sort.Holds encStr w g 0 ss.toArray) (e : xs.map (·.data.toList) = ss) (hn : xs.length ≤ 9223372036854775807) : Kd.C Kd.string w (some ⟨g, 0, none⟩) xs.length xs := by
 refine ⟨rfl, hn, fun _ => ⟨_, rfl, fun j p hj => ⟨[.string p], rfl, rfl, fun i u hu => ?_⟩⟩⟩
 obtain ⟨hl, hp⟩ := List.getElem?_eq_some_iff.1 hj
 have hi : i = 0 := by
  have := (List.getElem?_eq_some_iff.1 hu).1
  simp at this
  omega
 subst hi
 obtain rfl : Value.string p = u := by simpa using hu
 subst e
 have h1 := (h j (by simpa using hl)).1
 rw [show (Addr.add ⟨g, 0, none⟩ (j * (Kd.string).sz + 0)) = ⟨g, 0 + j, none⟩ by
  show Addr.add ⟨g, 0, none⟩ (j * 1 + 0) = _
  rw [Addr.add_lit]; simp]
 rw [h1]
 subst hp
 simp [encStr, hl]
set_option maxHeartbeats 4000000 in
set_option maxRecDepth 100000 in
theorem ident_Once.calls (A0 : Option Addr) (c0 : Nat) (l0 : List ByteArray) (r : Bool) (w : World) (hr0 : Kd.C Kd.string w A0 l0.length l0) (hc0 : l0.length ≤ c0) (h : ident_Once.f l0 = some r) :
  Calls Try.prog 9 #[.slice A0 l0.length c0] w fun e w' => e = .returned (.bool r) ∧ Below w.heap.size w w' := by
 unfold ident_Once.f at h
 split at h
 case isFalse => cases h
 case isTrue hlim =>
 have hR : ∀ (g cap : Nat) (l : List ByteArray) (r : Bool) (W : World), (Sort.Holds encStr W g 0 (Str.sorted (l.map (·.data.toList))).toArray) → l.length ≤ 4611686018427387904 → l.length ≤ cap → decide (l.map (·.data.toList)).Nodup = r →
   Calls Try.prog 7 #[.slice (some ⟨g, 0, none⟩) l.length cap] W fun e w' => e = .returned (.bool r) ∧ Drawn0 W w' := by
  intro g cap l r W hH hl hcap hr
  obtain ⟨xs, hxs⟩ : ∃ xs : List ByteArray, xs.map (·.data.toList) = Str.sorted (l.map (·.data.toList)) :=
   ⟨(Str.sorted (l.map (·.data.toList))).map (fun b => ⟨b.toArray⟩), by rw [List.map_map]; simp [Function.comp_def]⟩
  have hlen : xs.length = l.length := by
   have := congrArg List.length hxs
   simpa [Str.sorted_length] using this
  obtain ⟨k, r', hk, hiff⟩ := ident_Rise.tells xs (by omega)
  rw [hxs, Str.sorted_rise] at hiff
  obtain rfl : r' = r := by
   rw [← hr, Bool.eq_iff_iff, hiff]; simp
  rw [← hlen]
  exact ident_Rise.calls k (some ⟨g, 0, none⟩) cap xs r' W (Once_C_of_holds hH hxs (by omega)) (by omega) hk
 have hB : ∀ (W : World) (m : Nat) (g : Nat) (ss : List (List UInt8)) (os : Array Obj), Below w.heap.size w W → w.heap.size ≤ g → Below w.heap.size w (Sort.grow (Sort.putRow encStr (Sort.ahead W m) g 0 ss.toArray) os) := by
  intro W m g ss os hb hg
  have h1 := Lib.below_putRow (enc := encStr) (q := m) (d := ss.toArray) hb hg
  exact ⟨h1.os, h1.tape, h1.output, by rw [Sort.size_grow]; exact Nat.le_trans h1.size (Nat.le_add_right _ _), fun k hk => by
   rw [Sort.heap_grow_old _ _ (Nat.lt_of_lt_of_le hk h1.size)]; exact h1.block k hk⟩
 have hfin : ∀ W e W', Below w.heap.size w W → (e = Ending.returned (.bool r) ∧ Drawn0 W W') → e = Ending.returned (.bool r) ∧ Below w.heap.size w W' := by
  rintro W e W' hb ⟨rfl, hd⟩
  exact ⟨rfl, hb.trans ((hd.below).mono hb.size)⟩
 obtain rfl := Option.some.inj h
 rcases l0 with _ | ⟨x, xs⟩
 ·
  have hclone : Calls Try.prog 17 #[.slice A0 0 c0] w fun e w' => ∃ p cap, e = .returned (.slice p 0 cap) ∧ Below w.heap.size w w' := by
   rcases A0 with _ | a
   ·exact (Try.slices_Clone_string_nil 0 c0 w).mono (by rintro e w' ⟨rfl, rfl⟩; exact ⟨none, 0, rfl, Below.refl _ _⟩)
   ·refine (Try.slices_Clone_string_zero a c0 w).mono ?_
    rintro e w' ⟨v, rfl, ho, hne, hb⟩
    rcases ho.2 with ⟨rfl, _⟩ | ⟨g, cap, cur, rfl, _⟩
    ·exact absurd rfl hne
    ·exact ⟨_, _, rfl, hb⟩
  have hrise : ∀ p cap W, Calls Try.prog 7 #[.slice p 0 cap] W fun e w' => e = .returned (.bool true) ∧ Drawn0 W w' := fun p cap W =>
   ident_Rise.calls 1 p cap [] true W ⟨rfl, by simp, fun h => absurd h (by simp)⟩ (by simp) rfl
  have HF := Lib.hid hfin
  clear hfin hR hB hr0 hc0 hlim
  go_enter Try.func9, Try.ntmps9
  go_wp2_with (first | (go_at_call 17; refine hclone.mono ?_; rintro e w' ⟨p, cap, rfl, hb⟩; have HB := Lib.hid hb; clear hb) | (go_at_call 18; refine (Try.slices_Sort_string_none _ _ _).mono ?_; rintro e w' ⟨rfl, rfl⟩) | (go_at_call 7; refine (hrise _ _ _).mono ?_; rintro e w' ⟨rfl, hd⟩))
  go_ret
  exact HF.out _ _ _ HB.out ⟨by simp, hd⟩
 ·obtain ⟨ad, rfl, hcell⟩ : ∃ ad, A0 = some ad ∧ ∀ j, j < (x :: xs).length → w.cell? (ad.add j) = some (.string ((x :: xs).getD j ByteArray.empty)) := by
   obtain ⟨ad, e, _⟩ := Kd.at_string hr0 0 (by omega) (by simp)
   refine ⟨ad, e, fun j hj => ?_⟩
   obtain ⟨ad', e', hc⟩ := Kd.at_string hr0 (j : Int) (by omega) (by exact_mod_cast hj)
   obtain rfl : ad = ad' := by rw [e] at e'; exact Option.some.inj e'
   simpa [rdOf] using hc
  obtain ⟨b, off, rfl⟩ : ∃ b off, ad = ⟨b, off, none⟩ := by
   have h0 := hcell 0 (by simp)
   rw [show ad.add 0 = ad from rfl] at h0
   rcases ad with ⟨b, off, spot⟩
   rcases spot with _ | s
   ·exact ⟨b, off, rfl⟩
   ·exfalso
    unfold World.cell? at h0
    split at h0 <;> simp at h0
  generalize hl : x :: xs = l at *
  have hne : 0 < l.length := by rw [← hl]; simp
  clear hl x xs
  have hclone : Calls Try.prog 17 #[.slice (some ⟨b, off, none⟩) l.length c0] w fun e w' => ∃ g cap, e = .returned (.slice (some ⟨g, 0, none⟩) l.length cap) ∧ w.heap.size ≤ g ∧ g < w'.heap.size ∧ l.length ≤ cap ∧ Sort.Holds encStr w' g 0 (l.map (·.data.toList)).toArray ∧ Below w.heap.size w w' := by
   refine (Try.slices_Clone_string b off l.length c0 l w (Nat.le_refl _) hlim (fun j hj => by
    have := hcell j hj
    rwa [Addr.add_lit] at this)).mono ?_
   rintro e w' ⟨v, rfl, ho, hnn, hb⟩
   rw [List.take_length, ← Lib.map_encStr] at ho
   obtain ⟨g, cap, rfl, hg, hlt, hcap, _, _, hH⟩ := Lib.holds_of_ownsRow ho hnn
   exact ⟨g, cap, rfl, hg, hlt, hcap, hH, hb⟩
  have hsort : ∀ g cap W, g < W.heap.size → Sort.Holds encStr W g 0 (l.map (·.data.toList)).toArray → Calls Try.prog 18 #[.slice (some ⟨g, 0, none⟩) l.length cap] W fun e w' =>
    e = .returned (.tuple #[]) ∧ ∃ n os, w' = Sort.grow (Sort.putRow encStr (Sort.ahead W n) g 0 (Str.sorted (l.map (·.data.toList))).toArray) os := by
   intro g cap W hg hH
   have := Try.slices_Sort_string g 0 cap (l.map (·.data.toList)) W hH hg (by simp; omega)
   rwa [List.length_map] at this
  have hafter : ∀ g W n os, g < W.heap.size → Sort.Holds encStr W g 0 (l.map (·.data.toList)).toArray → Sort.Holds encStr (Sort.grow (Sort.putRow encStr (Sort.ahead W n) g 0 (Str.sorted (l.map (·.data.toList))).toArray) os) g 0 (Str.sorted (l.map (·.data.toList))).toArray := by
   intro g W n os hg hH
   refine Sort.holds_grow _ _ _ _ _ _ (by rw [Sort.size_putRow]; exact hg) (Sort.holds_putRow encStr (Sort.ahead W n) g 0 (l.map fun x : ByteArray => x.data.toList).toArray _ (show Sort.Holds encStr (Sort.ahead W n) g 0 _ from fun j hj => hH j hj) (by simp [Str.sorted_length]))
  have HF := Lib.hid hfin
  have HB := Lib.hid hB
  have HR := Lib.hid hR
  have HS := Lib.hid hsort
  have HA := Lib.hid hafter
  have HN := Lib.hid (show l.length ≤ 4611686018427387904 by omega)
  clear hfin hB hR hsort hafter hr0 hc0 hlim hcell hne
  go_enter Try.func9, Try.ntmps9
  go_wp2_with fail
  refine hclone.mono ?_
  rintro e w1 ⟨g, cap, rfl, hg, hlt, hcap, hH, hb⟩
  have H1 := Lib.hid hg
  have H2 := Lib.hid hlt
  have H3 := Lib.hid hcap
  have H4 := Lib.hid hH
  have H5 := Lib.hid hb
  clear hg hlt hcap hH hb hclone
  go_wp2_with fail
  refine (HS.out g cap w1 H2.out H4.out).mono ?_
  rintro e w2 ⟨rfl, n, os, e2⟩
  have H6 := Lib.hid e2
  clear e2
  go_wp2_with fail
  refine (HR.out g cap l _ w2 (by rw [H6.out]; exact HA.out g w1 n os H2.out H4.out) HN.out H3.out rfl).mono ?_
  rintro e w3 ⟨rfl, hd⟩
  go_wp2_with fail
  go_ret
  exact HF.out w2 _ _ (by rw [H6.out]; exact HB.out _ _ _ _ _ H5.out H1.out) ⟨by simp, hd⟩
end Go.Proofs.Ytelhcijoegjjnaa.P
namespace Go.Proofs.Ytelhcijoegjjnaa.P
open Go.RowKit Go.Proofs.YtelhcijoegjjnaaW.PrintWords Go.Proofs.YtelhcijoegjjnaaW.PrintLast Go.Proofs.YtelhcijoegjjnaaW.PrintMore
attribute [local go_sem] max2_int min2_int max_two min_two max_three min_three max_four min_four
set_option linter.unusedVariables false
set_option linter.unusedSimpArgs false
mutual
def schema_names.l0 : Nat → List ByteArray → List (S48) → Int → Int → List (S48) → List (S38) → Option (List ByteArray × List ByteArray)
 | 0, _, _, _, _, _, _ => none
 | k + 1, x4, x11, x12, x13, x185000, x185001 => if x13 < x12 then (if 0 ≤ x13 then (if x13 < (x11.length : Int) then (if x4.length < 8796093022208 then (schema_names.l0 k (x4 ++ [(rd_T48 x11 x13).f0]) x11 x12 (wrap64 (x13 + 1)) x185000 x185001) else (none)) else (none)) else (none)) else (schema_names.l1 k x4 ([] : List ByteArray) x185001 (x185001.length : Int) 0)
def schema_names.l1 : Nat → List ByteArray → List ByteArray → List (S38) → Int → Int → Option (List ByteArray × List ByteArray)
 | 0, _, _, _, _, _ => none
 | k + 1, x4, x5, x24, x25, x26 => if x26 < x25 then (if 0 ≤ x26 then (if x26 < (x24.length : Int) then (if x5.length < 8796093022208 then (schema_names.l1 k x4 (x5 ++ [(rd_T38 x24 x26).f0]) x24 x25 (wrap64 (x26 + 1))) else (none)) else (none)) else (none)) else (some (x4, x5))
end
def schema_names.f (k : Nat) (l0_0 : List (S48)) (l0_1 : List (S38)) : Option (List ByteArray × List ByteArray) := schema_names.l0 k ([] : List ByteArray) l0_0 (l0_0.length : Int) 0 l0_0 l0_1
theorem schema_names.mono_l : ∀ k, (∀ y0 y1 y2 y3 y4 y5, LeO (schema_names.l0 k y0 y1 y2 y3 y4 y5) (schema_names.l0 (k + 1) y0 y1 y2 y3 y4 y5)) ∧ (∀ y0 y1 y2 y3 y4, LeO (schema_names.l1 k y0 y1 y2 y3 y4) (schema_names.l1 (k + 1) y0 y1 y2 y3 y4))
 | 0 => ⟨fun _ _ _ _ _ _ r h => by simp [schema_names.l0] at h, fun _ _ _ _ _ r h => by simp [schema_names.l1] at h⟩
 | k + 1 => by
  obtain ⟨ih0, ih1⟩ := schema_names.mono_l k
  refine ⟨?_, ?_⟩
  ·intro y0 y1 y2 y3 y4 y5
   unfold schema_names.l0
   repeat' first
   | (with_reducible exact ih0 _ _ _ _ _ _)
   | (with_reducible exact ih1 _ _ _ _ _)
   | (with_reducible exact LeO.refl _)
   | (with_reducible exact LeO.none _)
   | (with_reducible refine LeO.ite ?_ ?_)
   | (with_reducible refine LeO.bind ?_ (fun _ => ?_))
   | exact ih0 _ _ _ _ _ _
   | exact ih1 _ _ _ _ _
   | exact LeO.none _
   | refine LeO.ite ?_ ?_
   | refine LeO.bind ?_ (fun _ => ?_)
  ·intro y0 y1 y2 y3 y4
   unfold schema_names.l1
   repeat' first
   | (with_reducible exact ih0 _ _ _ _ _ _)
   | (with_reducible exact ih1 _ _ _ _ _)
   | (with_reducible exact LeO.refl _)
   | (with_reducible exact LeO.none _)
   | (with_reducible refine LeO.ite ?_ ?_)
   | (with_reducible refine LeO.bind ?_ (fun _ => ?_))
   | exact ih0 _ _ _ _ _ _
   | exact ih1 _ _ _ _ _
   | exact LeO.none _
   | refine LeO.ite ?_ ?_
   | refine LeO.bind ?_ (fun _ => ?_)
theorem schema_names.mono : ∀ a0 a1 k, LeO (schema_names.f k a0 a1) (schema_names.f (k + 1) a0 a1) := by
 intro a0 a1 k
 obtain ⟨ih0, ih1⟩ := schema_names.mono_l k
 unfold schema_names.f
 repeat' first
   | (with_reducible exact ih0 _ _ _ _ _ _)
   | (with_reducible exact ih1 _ _ _ _ _)
   | (with_reducible exact LeO.refl _)
   | (with_reducible exact LeO.none _)
   | (with_reducible refine LeO.ite ?_ ?_)
   | (with_reducible refine LeO.bind ?_ (fun _ => ?_))
   | exact ih0 _ _ _ _ _ _
   | exact ih1 _ _ _ _ _
   | exact LeO.none _
   | refine LeO.ite ?_ ?_
   | refine LeO.bind ?_ (fun _ => ?_)
set_option maxHeartbeats 8000000 in
set_option maxRecDepth 100000 in
theorem schema_names.calls (k : Nat) (A0_0 : Option Addr) (c0_0 : Nat) (l0_0 : List (S48)) (A0_1 : Option Addr) (c0_1 : Nat) (l0_1 : List (S38)) (r1 : List ByteArray) (r2 : List ByteArray) (w : World) (hr0_0 : Kd.C k48 w A0_0 l0_0.length l0_0) (hc0_0 : l0_0.length ≤ c0_0) (hr0_1 : Kd.C k38 w A0_1 l0_1.length l0_1) (hc0_1 : l0_1.length ≤ c0_1) (h : schema_names.f k l0_0 l0_1 = some (r1, r2)) :
  Calls Try.prog 42 #[.agg #[.slice A0_0 l0_0.length c0_0, .slice A0_1 l0_1.length c0_1]] w fun e w' => ∃ v0_ v1_ : Value, e = .returned (.tuple #[v0_, v1_]) ∧ Kd.R Kd.string 9 w' w.heap.size (fun k_ => some k_ ≠ (v1_ : Value).ownBlock) v0_ r1 ∧ Kd.R Kd.string 9 w' w.heap.size (fun k_ => some k_ ≠ (v0_ : Value).ownBlock) v1_ r2 ∧ Below w.heap.size w w' := by
 have hu30 := Try.underlying30
 have hu48 := Try.underlying48
 have hu38 := Try.underlying38
 have HR0_0 := Aside0.mk hr0_0
 have HC0_0 := Aside0.mk hc0_0
 clear hr0_0 hc0_0
 have HR0_1 := Aside0.mk hr0_1
 have HC0_1 := Aside0.mk hc0_1
 clear hr0_1 hc0_1
 have HB := Aside0.mk (Below.refl w.heap.size w)
 have H : (schema_names.l0 k ([] : List ByteArray) l0_0 (l0_0.length : Int) 0 l0_0 l0_1) = some (r1, r2) := h
 clear h
 have H' := Aside0.mk H
 clear H
 go_enter Try.func42, Try.ntmps42
 go_wp2_with (first | ((with_reducible refine gate_dst (N := 1) rfl ?_); refine box_event ?hg (N := 1) ?hd (cs := #[.slice A0_0 l0_0.length c0_0, .slice A0_1 l0_1.length c0_1]) (t := 30) ?hr ?_; (case hd => rfl); (case hg => rfl); (case hr => first | (go_simp; done) | (go_simp; rfl)); intro gb184 hg w2 hbox hb; have n0_ := Aside0.mk (below_step (by repeat (first | (with_reducible first | exact HB.out | apply below_alloc | apply pw_below_drewN | apply below_drew1) | exact HB.out)) hb); have n1_ := Aside0.mk (hbox); have n2_ := Aside0.mk ((by rw [hg]; exact (below_size (by repeat (first | (with_reducible first | exact HB.out | apply below_alloc | apply pw_below_drewN | apply below_drew1) | exact HB.out))) : w.heap.size ≤ gb184)); have n3_ := Aside0.mk ((by rw [hg]; exact (below_size (by repeat (first | (with_reducible first | exact HB.out | apply below_alloc | apply pw_below_drewN | apply below_drew1) | exact HB.out))) : w.heap.size ≤ gb184)); clear HB; have HB := n0_; have BK184 := n1_; have GW184 := n2_; have GE184 := n3_; clear n0_ n1_ n2_ n3_; clear hb hbox hg; have hcz3_0 : w2.cell? ⟨gb184, 0, none⟩ = some (.slice A0_0 l0_0.length c0_0) := (blk_cell BK184.out 0).trans rfl; have hcz3_1 : w2.cell? ⟨gb184, 1, none⟩ = some (.slice A0_1 l0_1.length c0_1) := (blk_cell BK184.out 1).trans rfl; have hfz3_0 := blk_frozen BK184.out 0; have hfz3_1 := blk_frozen BK184.out 1))
 go_loopg [4, 13] k (fun kq v4 v13 w' => ∃ (x4_1 : List ByteArray) (x13_1 : Int), v13 = .int .i64 x13_1 ∧ Aside0 (schema_names.l0 kq x4_1 l0_0 (l0_0.length : Int) x13_1 l0_0 l0_1 = some (r1, r2)) ∧ Aside0 (kq ≤ k) ∧ Aside0 (Kd.R Kd.string 9 w' w.heap.size (fun _ => True) v4 x4_1) ∧ Aside0 (w'.heap[gb184]? = some (.cells #[(.slice A0_0 l0_0.length c0_0), (.slice A0_1 l0_1.length c0_1)] 30 (0, 0))) ∧ Aside0 (Below w.heap.size w w'))
 case atStart => exact ⟨(([] : List ByteArray)), (0), (by first | rfl | (simp; done) | (simp [*]; done)), H', ⟨Nat.le_refl _⟩, ⟨by first | exact Kd.R_nil _ _ _ _ _ | exact Kd.N_nil _ _ _ _ _ | exact Kd.V_nil _ _ _ _ _ | exact Kd.Q_nil _ _ _ _ _ | exact Kd.S_nil _ _ _ _ _⟩, ⟨by (with_reducible repeat (first | refine blk_drewN ?_ _ | refine blk_drew ?_ | refine blk_alloc ?_ _)); exact BK184.out⟩, ⟨by repeat (first | (with_reducible first | exact HB.out | apply below_alloc | apply pw_below_drewN | apply below_drew1 | refine below_set ?_ GE184.out) | exact HB.out)⟩⟩
 case round =>
  clear H'
  try clear p2
  try clear hcz3_0
  try clear hcz3_1
  try clear hfz3_0
  try clear hfz3_1
  obtain ⟨x4_1, x13_1, rfl, HA, HK1, HO_4, BK184, HB⟩ := hrel
  cases gk with
  | zero => exact absurd HA.out (by simp [schema_names.l0])
  | succ k1 =>
   have H := HA.out
   clear HA
   simp only [schema_names.l0] at H
   by_cases c4 : x13_1 < (l0_0.length : Int)
   ·rw [if_pos c4] at H
    have c4b0 : decide (x13_1 < (l0_0.length : Int)) = true := decide_eq_true c4
    clear c4
    by_cases c5 : 0 ≤ x13_1
    ·rw [if_pos c5] at H
     have c5b0 : decide (0 ≤ x13_1) = true := decide_eq_true c5
     clear c5
     by_cases c6 : x13_1 < (l0_0.length : Int)
     ·rw [if_pos c6] at H
      have c6b0 : decide (x13_1 < (l0_0.length : Int)) = true := decide_eq_true c6
      clear c6
      by_cases c7 : x4_1.length < 8796093022208
      ·rw [if_pos c7] at H
       have LMc7 := Aside0.mk c7
       clear c7
       obtain ⟨y187, hy187⟩ : ∃ y_ : List ByteArray, y_ = (x4_1 ++ [(rd_T48 l0_0 x13_1).f0]) := ⟨_, rfl⟩
       replace H : (schema_names.l0 k1 y187 l0_0 (l0_0.length : Int) (wrap64 (x13_1 + 1)) l0_0 l0_1) = some (r1, r2) := by first | (rw [hy187]; with_reducible exact H) | (have H2_ := (Option.bind_some _ _).symm.trans H; rw [hy187]; with_reducible exact H2_) | (have H2_ := (Option.bind_some _ _).symm.trans H; with_reducible exact H2_) | with_reducible exact H | (rw [hy187]; exact H) | exact H
       have Ny187 := Aside0.mk hy187
       clear hy187
       have H' := Aside0.mk H
       clear H
       have p185 : 0 ≤ (x13_1 : Int) := of_decide_eq_true (by first | (with_reducible assumption) | assumption)
       have q185 : x13_1 < (l0_0.length : Int) := of_decide_eq_true (by first | (with_reducible assumption) | assumption)
       obtain ⟨ad185, A185_1, c185_1, e185, hx185_0, hx185_1, hl185_1, hi185_1⟩ := at_T48 HR0_0.out x13_1 p185 q185
       cases e185
       replace hx185_0 := (HB.out.cell (World.block_lt_of_cell? w _ hx185_0)).trans hx185_0
       replace hx185_1 := (HB.out.cell (World.block_lt_of_cell? w _ hx185_1)).trans hx185_1
       have HR185_1 := Aside0.mk hi185_1
       have HC185_1 := Aside0.mk hl185_1
       clear hi185_1 hl185_1
       replace p185 := eq_true p185
       replace q185 := eq_true q185
       go_wp2_with (first | ((with_reducible refine gate_dst (N := 7) rfl ?_); refine box_event ?hg (N := 7) ?hd (cs := #[.string (⟨#[]⟩ : ByteArray), .slice none 0 0]) (t := 48) ?hr ?_; (case hd => rfl); (case hg => rfl); (case hr => first | (go_simp; done) | (go_simp; rfl)); intro gb186 hg w8 hbox hb; have n0_ := Aside0.mk (Kd.R_below (by (with_reducible repeat (first | apply Kd.R_alloc | apply Kd.R_drewN | apply Kd.R_drew)); exact HO_4.out) hb); have n1_ := Aside0.mk (blk_below (g := gb184) (o := .cells #[.slice (some ad185) l0_0.length c0_0, .slice A0_1 l0_1.length c0_1] 30 (0, 0)) (by (with_reducible repeat (first | refine blk_drewN ?_ _ | refine blk_drew ?_ | refine blk_alloc ?_ _)); exact BK184.out) hb); have n2_ := Aside0.mk (below_step (by repeat (first | (with_reducible first | exact HB.out | apply below_alloc | apply pw_below_drewN | apply below_drew1 | refine below_set ?_ GE184.out) | exact HB.out)) hb); have n3_ := Aside0.mk (hbox); have n4_ := Aside0.mk ((by rw [hg]; exact (below_size (by repeat (first | (with_reducible first | exact HB.out | apply below_alloc | apply pw_below_drewN | apply below_drew1 | refine below_set ?_ GE184.out) | exact HB.out))) : w.heap.size ≤ gb186)); have n5_ := Aside0.mk ((by rw [hg]; exact (below_size (by repeat (first | (with_reducible first | exact HB.out | apply below_alloc | apply pw_below_drewN | apply below_drew1 | refine below_set ?_ GE184.out) | exact HB.out))) : w.heap.size ≤ gb186)); have n6_ := Aside0.mk ((by rw [hg]; exact Nat.ne_of_lt (blk_lt (g := gb184) (o := .cells #[.slice (some ad185) l0_0.length c0_0, .slice A0_1 l0_1.length c0_1] 30 (0, 0)) (by (with_reducible repeat (first | refine blk_drewN ?_ _ | refine blk_drew ?_ | refine blk_alloc ?_ _)); exact BK184.out)) : gb184 ≠ gb186)); have n7_ := Aside0.mk ((by rw [hg]; exact Nat.ne_of_gt (blk_lt (g := gb184) (o := .cells #[.slice (some ad185) l0_0.length c0_0, .slice A0_1 l0_1.length c0_1] 30 (0, 0)) (by (with_reducible repeat (first | refine blk_drewN ?_ _ | refine blk_drew ?_ | refine blk_alloc ?_ _)); exact BK184.out)) : gb186 ≠ gb184)); clear HO_4; clear BK184; clear HB; have HO_4 := n0_; have BK184 := n1_; have HB := n2_; have BK186 := n3_; have GW186 := n4_; have GE186 := n5_; have NB184_186 := n6_; have NB186_184 := n7_; clear n0_ n1_ n2_ n3_ n4_ n5_ n6_ n7_; clear hb hbox hg; have hnb9 := NB186_184.out; have hnc9 := NB184_186.out; have hcz10_0 : w8.cell? ⟨gb186, 0, none⟩ = some (.string (⟨#[]⟩ : ByteArray)) := (blk_cell BK186.out 0).trans rfl; have hcz10_1 : w8.cell? ⟨gb186, 1, none⟩ = some (.slice none 0 0) := (blk_cell BK186.out 1).trans rfl; have hfz10_0 := blk_frozen BK186.out 0; have hfz10_1 := blk_frozen BK186.out 1) | ((with_reducible refine gate_builtin (b := .append) (xs := #[.tmp 17, .tmp 20]) rfl ?_); at_builtin; refine Kd.R_append Kd.string (w0 := w) w.heap.size rfl (.tmp 17) (.tmp 20) 22 9 (.string ⟨#[]⟩) 16 rfl Try.underlying22 info9 rfl (by decide) (by omega) u4 x4_1 ((rd_T48 l0_0 x13_1).f0) [.string ((rd_T48 l0_0 x13_1).f0)] (fun _ => True) (fun _ => False) rfl (by first | (go_simp; done) | (go_simp; rfl)) ?aP (fun _ hk => hk.elim) ?aF ?aO ?aB ?aS ?aL ?_; (case aP => exact rfl); (case aB => exact (by repeat (first | (with_reducible first | exact HB.out | apply below_alloc | apply pw_below_drewN | apply below_drew1 | refine below_set ?_ GE184.out | refine below_set ?_ GE186.out) | exact HB.out))); (case aF => exact (fun _ _ => trivial)); (case aO => exact (by (with_reducible repeat (first | apply Kd.R_alloc | apply Kd.R_drewN | apply Kd.R_drew)); exact Kd.R_mono (Kd.R_far (p := ⟨gb186, 1, none⟩) (Kd.R_far (p := ⟨gb186, 0, none⟩) (Kd.R_types HO_4.out BK186.out (by decide)) (fun _ hk => hk.2) (.string ((rd_T48 l0_0 x13_1).f0))) (fun _ hk => hk.2) (.slice A185_1 ((rd_T48 l0_0 x13_1).f1).length c185_1)) (fun _ hk => trivial))); (case aS => exact (below_size (by repeat (first | (with_reducible first | exact HB.out | apply below_alloc | apply pw_below_drewN | apply below_drew1 | refine below_set ?_ GE184.out | refine below_set ?_ GE186.out) | exact HB.out)))); (case aL => have := LMc7.out; omega); intro v188 w11 ho hb hg hat; rw [← Ny187.out] at ho; have n0_ := Aside0.mk (blk_grown (g := gb184) (o := .cells #[.slice (some ad185) l0_0.length c0_0, .slice A0_1 l0_1.length c0_1] 30 (0, 0)) (by (with_reducible repeat (first | refine blk_drewN ?_ _ | refine blk_drew ?_ | refine blk_alloc ?_ _)); refine blk_far ?_ NB184_186.out _; (with_reducible repeat (first | refine blk_drewN ?_ _ | refine blk_drew ?_ | refine blk_alloc ?_ _)); refine blk_far ?_ NB184_186.out _; (with_reducible repeat (first | refine blk_drewN ?_ _ | refine blk_drew ?_ | refine blk_alloc ?_ _)); exact BK184.out) hg (Kd.R_ne HO_4.out BK184.out (by decide))); have n1_ := Aside0.mk (blk_grown (g := gb186) (o := .cells #[.string ((rd_T48 l0_0 x13_1).f0), .slice A185_1 ((rd_T48 l0_0 x13_1).f1).length c185_1] 48 (0, 0)) (by (with_reducible repeat (first | refine blk_drewN ?_ _ | refine blk_drew ?_ | refine blk_alloc ?_ _)); refine blk_put (cs := #[.string ((rd_T48 l0_0 x13_1).f0), .slice none 0 0]) ?_ 1 _ rfl; (with_reducible repeat (first | refine blk_drewN ?_ _ | refine blk_drew ?_ | refine blk_alloc ?_ _)); refine blk_put (cs := #[.string (⟨#[]⟩ : ByteArray), .slice none 0 0]) ?_ 0 _ rfl; (with_reducible repeat (first | refine blk_drewN ?_ _ | refine blk_drew ?_ | refine blk_alloc ?_ _)); exact BK186.out) hg (Kd.R_ne HO_4.out BK186.out (by decide))); have n2_ := Aside0.mk (hb); have n3_ := Aside0.mk (ho); clear BK184; clear BK186; clear HB; clear HO_4; have BK184 := n0_; have BK186 := n1_; have HB := n2_; have HO189 := n3_; clear n0_ n1_ n2_ n3_; clear ho hb hg hat))
       go_roundg k1
       case measure => have := HK1.out; omega
       case rel => exact ⟨(y187), (wrap64 (x13_1 + 1)), (by first | rfl | (simp; done) | (simp [*]; done)), H', ⟨by have := HK1.out; omega⟩, ⟨by (with_reducible repeat (first | apply Kd.R_alloc | apply Kd.R_drewN | apply Kd.R_drew)); exact HO189.out⟩, ⟨by (with_reducible repeat (first | refine blk_drewN ?_ _ | refine blk_drew ?_ | refine blk_alloc ?_ _)); exact BK184.out⟩, ⟨by repeat (first | (with_reducible first | exact HB.out | apply below_alloc | apply pw_below_drewN | apply below_drew1 | refine below_set ?_ GE184.out | refine below_set ?_ GE186.out) | exact HB.out)⟩⟩
      ·rw [if_neg c7] at H
       exact absurd H (by simp)
     ·rw [if_neg c6] at H
      exact absurd H (by simp)
    ·rw [if_neg c5] at H
     exact absurd H (by simp)
   ·rw [if_neg c4] at H
    have c4b0 : decide (x13_1 < (l0_0.length : Int)) = false := decide_eq_false c4
    clear c4
    have H' := Aside0.mk H
    clear H
    have hcz12_0 : wr.cell? ⟨gb184, 0, none⟩ = some (.slice A0_0 l0_0.length c0_0) := (blk_cell BK184.out 0).trans rfl
    have hcz12_1 : wr.cell? ⟨gb184, 1, none⟩ = some (.slice A0_1 l0_1.length c0_1) := (blk_cell BK184.out 1).trans rfl
    have hfz12_0 := blk_frozen BK184.out 0
    have hfz12_1 := blk_frozen BK184.out 1
    go_wp2
    go_loopg [5, 26] k1 (fun kq v5 v26 w' => ∃ (x5_2 : List ByteArray) (x26_2 : Int), v26 = .int .i64 x26_2 ∧ Aside0 (schema_names.l1 kq x4_1 x5_2 l0_1 (l0_1.length : Int) x26_2 = some (r1, r2)) ∧ Aside0 (kq ≤ k1) ∧ Aside0 (Kd.R Kd.string 9 w' w.heap.size (fun k_ => some k_ ≠ (v5 : Value).ownBlock) u4 x4_1) ∧ Aside0 (Kd.R Kd.string 9 w' w.heap.size (fun k_ => some k_ ≠ (u4 : Value).ownBlock) v5 x5_2) ∧ Aside0 (w'.heap[gb184]? = some (.cells #[(.slice A0_0 l0_0.length c0_0), (.slice A0_1 l0_1.length c0_1)] 30 (0, 0))) ∧ Aside0 (Below w.heap.size w w'))
    case atStart => exact ⟨(([] : List ByteArray)), (0), (by first | rfl | (simp; done) | (simp [*]; done)), H', ⟨Nat.le_refl _⟩, ⟨by (with_reducible repeat (first | apply Kd.R_alloc | apply Kd.R_drewN | apply Kd.R_drew)); exact Kd.R_mono HO_4.out (fun _ hk => (by simp [Value.ownBlock]))⟩, ⟨by first | exact Kd.R_nil _ _ _ _ _ | exact Kd.N_nil _ _ _ _ _ | exact Kd.V_nil _ _ _ _ _ | exact Kd.Q_nil _ _ _ _ _ | exact Kd.S_nil _ _ _ _ _⟩, ⟨by (with_reducible repeat (first | refine blk_drewN ?_ _ | refine blk_drew ?_ | refine blk_alloc ?_ _)); exact BK184.out⟩, ⟨by repeat (first | (with_reducible first | exact HB.out | apply below_alloc | apply pw_below_drewN | apply below_drew1 | refine below_set ?_ GE184.out) | exact HB.out)⟩⟩
    case round =>
     clear H'
     try clear c1
     try clear p1
     try clear q1
     try clear hx1
     try clear p2
     try clear c4
     try clear c4b0
     try clear c5
     try clear c5b0
     try clear c6
     try clear c6b0
     try clear p6
     try clear c7
     try clear c9
     try clear hcz10_0
     try clear hcz10_1
     try clear hcz12_0
     try clear hcz12_1
     try clear hcz3_0
     try clear hcz3_1
     try clear hfz10_0
     try clear hfz10_1
     try clear hfz12_0
     try clear hfz12_1
     try clear hfz3_0
     try clear hfz3_1
     try clear hx185_0
     try clear hx185_1
     try clear p185
     try clear p2
     try clear q185
     obtain ⟨x5_2, x26_2, rfl, HA, HK2, HO_4, HO_5, BK184, HB⟩ := hrel
     cases gk with
     | zero => exact absurd HA.out (by simp [schema_names.l1])
     | succ k2 =>
      have H := HA.out
      clear HA
      simp only [schema_names.l1] at H
      by_cases c13 : x26_2 < (l0_1.length : Int)
      ·rw [if_pos c13] at H
       have c13b0 : decide (x26_2 < (l0_1.length : Int)) = true := decide_eq_true c13
       clear c13
       by_cases c14 : 0 ≤ x26_2
       ·rw [if_pos c14] at H
        have c14b0 : decide (0 ≤ x26_2) = true := decide_eq_true c14
        clear c14
        by_cases c15 : x26_2 < (l0_1.length : Int)
        ·rw [if_pos c15] at H
         have c15b0 : decide (x26_2 < (l0_1.length : Int)) = true := decide_eq_true c15
         clear c15
         by_cases c16 : x5_2.length < 8796093022208
         ·rw [if_pos c16] at H
          have LMc16 := Aside0.mk c16
          clear c16
          obtain ⟨y192, hy192⟩ : ∃ y_ : List ByteArray, y_ = (x5_2 ++ [(rd_T38 l0_1 x26_2).f0]) := ⟨_, rfl⟩
          replace H : (schema_names.l1 k2 x4_1 y192 l0_1 (l0_1.length : Int) (wrap64 (x26_2 + 1))) = some (r1, r2) := by first | (rw [hy192]; with_reducible exact H) | (have H2_ := (Option.bind_some _ _).symm.trans H; rw [hy192]; with_reducible exact H2_) | (have H2_ := (Option.bind_some _ _).symm.trans H; with_reducible exact H2_) | with_reducible exact H | (rw [hy192]; exact H) | exact H
          have Ny192 := Aside0.mk hy192
          clear hy192
          have H' := Aside0.mk H
          clear H
          have p190 : 0 ≤ (x26_2 : Int) := of_decide_eq_true (by first | (with_reducible assumption) | assumption)
          have q190 : x26_2 < (l0_1.length : Int) := of_decide_eq_true (by first | (with_reducible assumption) | assumption)
          obtain ⟨ad190, A190_1, c190_1, A190_2, c190_2, e190, hx190_0, hx190_1, hx190_2, hl190_1, hi190_1, hl190_2, hi190_2⟩ := at_T38 HR0_1.out x26_2 p190 q190
          cases e190
          replace hx190_0 := (HB.out.cell (World.block_lt_of_cell? w _ hx190_0)).trans hx190_0
          replace hx190_1 := (HB.out.cell (World.block_lt_of_cell? w _ hx190_1)).trans hx190_1
          replace hx190_2 := (HB.out.cell (World.block_lt_of_cell? w _ hx190_2)).trans hx190_2
          have HR190_1 := Aside0.mk hi190_1
          have HC190_1 := Aside0.mk hl190_1
          clear hi190_1 hl190_1
          have HR190_2 := Aside0.mk hi190_2
          have HC190_2 := Aside0.mk hl190_2
          clear hi190_2 hl190_2
          replace p190 := eq_true p190
          replace q190 := eq_true q190
          go_wp2_with (first | ((with_reducible refine gate_dst (N := 9) rfl ?_); refine box_event ?hg (N := 9) ?hd (cs := #[.string (⟨#[]⟩ : ByteArray), .slice none 0 0, .slice none 0 0]) (t := 38) ?hr ?_; (case hd => rfl); (case hg => rfl); (case hr => first | (go_simp; done) | (go_simp; rfl)); intro gb191 hg w17 hbox hb; have n0_ := Aside0.mk (Kd.R_below (by (with_reducible repeat (first | apply Kd.R_alloc | apply Kd.R_drewN | apply Kd.R_drew)); exact HO_4.out) hb); have n1_ := Aside0.mk (Kd.R_below (by (with_reducible repeat (first | apply Kd.R_alloc | apply Kd.R_drewN | apply Kd.R_drew)); exact HO_5.out) hb); have n2_ := Aside0.mk (blk_below (g := gb184) (o := .cells #[.slice A0_0 l0_0.length c0_0, .slice (some ad190) l0_1.length c0_1] 30 (0, 0)) (by (with_reducible repeat (first | refine blk_drewN ?_ _ | refine blk_drew ?_ | refine blk_alloc ?_ _)); exact BK184.out) hb); have n3_ := Aside0.mk (below_step (by repeat (first | (with_reducible first | exact HB.out | apply below_alloc | apply pw_below_drewN | apply below_drew1 | refine below_set ?_ GE184.out) | exact HB.out)) hb); have n4_ := Aside0.mk (hbox); have n5_ := Aside0.mk ((by rw [hg]; exact (below_size (by repeat (first | (with_reducible first | exact HB.out | apply below_alloc | apply pw_below_drewN | apply below_drew1 | refine below_set ?_ GE184.out) | exact HB.out))) : w.heap.size ≤ gb191)); have n6_ := Aside0.mk ((by rw [hg]; exact (below_size (by repeat (first | (with_reducible first | exact HB.out | apply below_alloc | apply pw_below_drewN | apply below_drew1 | refine below_set ?_ GE184.out) | exact HB.out))) : w.heap.size ≤ gb191)); have n7_ := Aside0.mk ((by rw [hg]; exact Nat.ne_of_lt (blk_lt (g := gb184) (o := .cells #[.slice A0_0 l0_0.length c0_0, .slice (some ad190) l0_1.length c0_1] 30 (0, 0)) (by (with_reducible repeat (first | refine blk_drewN ?_ _ | refine blk_drew ?_ | refine blk_alloc ?_ _)); exact BK184.out)) : gb184 ≠ gb191)); have n8_ := Aside0.mk ((by rw [hg]; exact Nat.ne_of_gt (blk_lt (g := gb184) (o := .cells #[.slice A0_0 l0_0.length c0_0, .slice (some ad190) l0_1.length c0_1] 30 (0, 0)) (by (with_reducible repeat (first | refine blk_drewN ?_ _ | refine blk_drew ?_ | refine blk_alloc ?_ _)); exact BK184.out)) : gb191 ≠ gb184)); clear HO_4; clear HO_5; clear BK184; clear HB; have HO_4 := n0_; have HO_5 := n1_; have BK184 := n2_; have HB := n3_; have BK191 := n4_; have GW191 := n5_; have GE191 := n6_; have NB184_191 := n7_; have NB191_184 := n8_; clear n0_ n1_ n2_ n3_ n4_ n5_ n6_ n7_ n8_; clear hb hbox hg; have hnb18 := NB191_184.out; have hnc18 := NB184_191.out; have hcz19_0 : w17.cell? ⟨gb191, 0, none⟩ = some (.string (⟨#[]⟩ : ByteArray)) := (blk_cell BK191.out 0).trans rfl; have hcz19_1 : w17.cell? ⟨gb191, 1, none⟩ = some (.slice none 0 0) := (blk_cell BK191.out 1).trans rfl; have hcz19_2 : w17.cell? ⟨gb191, 2, none⟩ = some (.slice none 0 0) := (blk_cell BK191.out 2).trans rfl; have hfz19_0 := blk_frozen BK191.out 0; have hfz19_1 := blk_frozen BK191.out 1; have hfz19_2 := blk_frozen BK191.out 2) | ((with_reducible refine gate_builtin (b := .append) (xs := #[.tmp 30, .tmp 33]) rfl ?_); at_builtin; refine Kd.R_append Kd.string (w0 := w) w.heap.size rfl (.tmp 30) (.tmp 33) 22 9 (.string ⟨#[]⟩) 16 rfl Try.underlying22 info9 rfl (by decide) (by omega) u5 x5_2 ((rd_T38 l0_1 x26_2).f0) [.string ((rd_T38 l0_1 x26_2).f0)] (fun k_ => some k_ ≠ (u4 : Value).ownBlock) (fun _ => False) rfl (by first | (go_simp; done) | (go_simp; rfl)) ?aP (fun _ hk => hk.elim) ?aF ?aO ?aB ?aS ?aL ?_; (case aP => exact rfl); (case aB => exact (by repeat (first | (with_reducible first | exact HB.out | apply below_alloc | apply pw_below_drewN | apply below_drew1 | refine below_set ?_ GE184.out | refine below_set ?_ GE191.out) | exact HB.out))); (case aF => exact (fun k_ hk => Kd.fresh' (Kd.R_lt (by (with_reducible repeat (first | apply Kd.R_alloc | apply Kd.R_drewN | apply Kd.R_drew)); exact (Kd.R_mono (Kd.R_far (p := ⟨gb191, 2, none⟩) (Kd.R_far (p := ⟨gb191, 1, none⟩) (Kd.R_far (p := ⟨gb191, 0, none⟩) (Kd.R_types HO_4.out BK191.out (by decide)) (fun _ hk => hk.2) (.string ((rd_T38 l0_1 x26_2).f0))) (fun _ hk => hk.2) (.slice A190_1 ((rd_T38 l0_1 x26_2).f1).length c190_1)) (fun _ hk => hk.2) (.slice A190_2 ((rd_T38 l0_1 x26_2).f2).length c190_2)) (fun _ h_ => h_.1)))) k_ hk)); (case aO => exact (by (with_reducible repeat (first | apply Kd.R_alloc | apply Kd.R_drewN | apply Kd.R_drew)); exact Kd.R_mono (Kd.R_far (p := ⟨gb191, 2, none⟩) (Kd.R_far (p := ⟨gb191, 1, none⟩) (Kd.R_far (p := ⟨gb191, 0, none⟩) (Kd.R_types HO_5.out BK191.out (by decide)) (fun _ hk => hk.2) (.string ((rd_T38 l0_1 x26_2).f0))) (fun _ hk => hk.2) (.slice A190_1 ((rd_T38 l0_1 x26_2).f1).length c190_1)) (fun _ hk => hk.2) (.slice A190_2 ((rd_T38 l0_1 x26_2).f2).length c190_2)) (fun _ hk => hk.1))); (case aS => exact (below_size (by repeat (first | (with_reducible first | exact HB.out | apply below_alloc | apply pw_below_drewN | apply below_drew1 | refine below_set ?_ GE184.out | refine below_set ?_ GE191.out) | exact HB.out)))); (case aL => have := LMc16.out; omega); intro v193 w20 ho hb hg hat; rw [← Ny192.out] at ho; have n0_ := Aside0.mk (Kd.R_after (ok := (fun _ => True)) (by (with_reducible repeat (first | apply Kd.R_alloc | apply Kd.R_drewN | apply Kd.R_drew)); exact Kd.R_mono (Kd.R_far (p := ⟨gb191, 2, none⟩) (Kd.R_far (p := ⟨gb191, 1, none⟩) (Kd.R_far (p := ⟨gb191, 0, none⟩) (Kd.R_types HO_4.out BK191.out (by decide)) (fun _ hk => hk.2) (.string ((rd_T38 l0_1 x26_2).f0))) (fun _ hk => hk.2) (.slice A190_1 ((rd_T38 l0_1 x26_2).f1).length c190_1)) (fun _ hk => hk.2) (.slice A190_2 ((rd_T38 l0_1 x26_2).f2).length c190_2)) (fun _ hk => ⟨trivial, hk.1⟩)) hg hat); have n1_ := Aside0.mk (blk_grown (g := gb184) (o := .cells #[.slice A0_0 l0_0.length c0_0, .slice (some ad190) l0_1.length c0_1] 30 (0, 0)) (by (with_reducible repeat (first | refine blk_drewN ?_ _ | refine blk_drew ?_ | refine blk_alloc ?_ _)); refine blk_far ?_ NB184_191.out _; (with_reducible repeat (first | refine blk_drewN ?_ _ | refine blk_drew ?_ | refine blk_alloc ?_ _)); refine blk_far ?_ NB184_191.out _; (with_reducible repeat (first | refine blk_drewN ?_ _ | refine blk_drew ?_ | refine blk_alloc ?_ _)); refine blk_far ?_ NB184_191.out _; (with_reducible repeat (first | refine blk_drewN ?_ _ | refine blk_drew ?_ | refine blk_alloc ?_ _)); exact BK184.out) hg (Kd.R_ne HO_5.out BK184.out (by decide))); have n2_ := Aside0.mk (blk_grown (g := gb191) (o := .cells #[.string ((rd_T38 l0_1 x26_2).f0), .slice A190_1 ((rd_T38 l0_1 x26_2).f1).length c190_1, .slice A190_2 ((rd_T38 l0_1 x26_2).f2).length c190_2] 38 (0, 0)) (by (with_reducible repeat (first | refine blk_drewN ?_ _ | refine blk_drew ?_ | refine blk_alloc ?_ _)); refine blk_put (cs := #[.string ((rd_T38 l0_1 x26_2).f0), .slice A190_1 ((rd_T38 l0_1 x26_2).f1).length c190_1, .slice none 0 0]) ?_ 2 _ rfl; (with_reducible repeat (first | refine blk_drewN ?_ _ | refine blk_drew ?_ | refine blk_alloc ?_ _)); refine blk_put (cs := #[.string ((rd_T38 l0_1 x26_2).f0), .slice none 0 0, .slice none 0 0]) ?_ 1 _ rfl; (with_reducible repeat (first | refine blk_drewN ?_ _ | refine blk_drew ?_ | refine blk_alloc ?_ _)); refine blk_put (cs := #[.string (⟨#[]⟩ : ByteArray), .slice none 0 0, .slice none 0 0]) ?_ 0 _ rfl; (with_reducible repeat (first | refine blk_drewN ?_ _ | refine blk_drew ?_ | refine blk_alloc ?_ _)); exact BK191.out) hg (Kd.R_ne HO_5.out BK191.out (by decide))); have n3_ := Aside0.mk (hb); have n4_ := Aside0.mk (ho); clear HO_4; clear BK184; clear BK191; clear HB; clear HO_5; have HO_4 := n0_; have BK184 := n1_; have BK191 := n2_; have HB := n3_; have HO194 := n4_; clear n0_ n1_ n2_ n3_ n4_; clear ho hb hg hat))
          go_roundg k2
          case measure => have := HK1.out; have := HK2.out; omega
          case rel => exact ⟨(y192), (wrap64 (x26_2 + 1)), (by first | rfl | (simp; done) | (simp [*]; done)), H', ⟨by have := HK1.out; have := HK2.out; omega⟩, ⟨by (with_reducible repeat (first | apply Kd.R_alloc | apply Kd.R_drewN | apply Kd.R_drew)); exact Kd.R_mono HO_4.out (fun _ hk => hk.2)⟩, ⟨by (with_reducible repeat (first | apply Kd.R_alloc | apply Kd.R_drewN | apply Kd.R_drew)); exact HO194.out⟩, ⟨by (with_reducible repeat (first | refine blk_drewN ?_ _ | refine blk_drew ?_ | refine blk_alloc ?_ _)); exact BK184.out⟩, ⟨by repeat (first | (with_reducible first | exact HB.out | apply below_alloc | apply pw_below_drewN | apply below_drew1 | refine below_set ?_ GE184.out | refine below_set ?_ GE191.out) | exact HB.out)⟩⟩
         ·rw [if_neg c16] at H
          exact absurd H (by simp)
        ·rw [if_neg c15] at H
         exact absurd H (by simp)
       ·rw [if_neg c14] at H
        exact absurd H (by simp)
      ·rw [if_neg c13] at H
       have c13b0 : decide (x26_2 < (l0_1.length : Int)) = false := decide_eq_false c13
       clear c13
       simp only [Option.some.injEq, Prod.mk.injEq] at H
       obtain ⟨rfl, rfl⟩ := H
       go_wp2
       go_ret2
       exact ⟨_, _, by first | rfl | (simp [errW_none, errW_some] <;> rfl) | (simp [*, errW_none, errW_some] <;> rfl), by (with_reducible repeat (first | apply Kd.R_alloc | apply Kd.R_drewN | apply Kd.R_drew)); exact HO_4.out, by (with_reducible repeat (first | apply Kd.R_alloc | apply Kd.R_drewN | apply Kd.R_drew)); exact HO_5.out, by repeat (first | (with_reducible first | exact HB.out | apply below_alloc | apply pw_below_drewN | apply below_drew1 | refine below_set ?_ GE184.out) | exact HB.out)⟩
end Go.Proofs.Ytelhcijoegjjnaa.P
namespace Go.Proofs.Ytelhcijoegjjnaa.P
open Go.RowKit Go.Proofs.YtelhcijoegjjnaaW.PrintWords Go.Proofs.YtelhcijoegjjnaaW.PrintLast Go.Proofs.YtelhcijoegjjnaaW.PrintMore
attribute [local go_sem] max2_int min2_int max_two min_two max_three min_three max_four min_four
set_option linter.unusedVariables false
set_option linter.unusedSimpArgs false
theorem schema_names.l1_tells (x4 : List ByteArray) (m : List S38) (hm : m.length ≤ 8796093022208) (d : Nat) : ∀ (k i : Nat) (acc : List ByteArray), i + d = m.length → d < k → acc.length = i →
  schema_names.l1 k x4 acc m (m.length : Int) (i : Int) = some (x4, acc ++ (m.drop i).map (·.f0)) := by
 induction d with
 | zero =>
  intro k i acc hi hk ha
  obtain ⟨k, rfl⟩ : ∃ q, k = q + 1 := ⟨k - 1, by omega⟩
  simp only [schema_names.l1]
  rw [if_neg (by omega), List.drop_eq_nil_of_le (by omega)]
  simp
 | succ d ih =>
  intro k i acc hi hk ha
  obtain ⟨k, rfl⟩ : ∃ q, k = q + 1 := ⟨k - 1, by omega⟩
  have hlt : i < m.length := by omega
  simp only [schema_names.l1]
  rw [if_pos (by omega), if_pos (by omega), if_pos (by omega), if_pos (by omega), show wrap64 ((i : Int) + 1) = ((i + 1 : Nat) : Int) by unfold wrap64; omega, show rd_T38 m (i : Int) = m[i] by simp [rd_T38, hlt], ih k (i + 1) _ (by omega) (by omega) (by simp; omega), List.drop_eq_getElem_cons hlt, List.map_cons, List.append_assoc]
  rfl
theorem schema_names.l0_tells (e : List S48) (m : List S38) (he : e.length ≤ 8796093022208) (hm : m.length ≤ 8796093022208) (d : Nat) : ∀ (k i : Nat) (acc : List ByteArray), i + d = e.length → d + m.length + 1 < k → acc.length = i →
  schema_names.l0 k acc e (e.length : Int) (i : Int) e m = some (acc ++ (e.drop i).map (·.f0), m.map (·.f0)) := by
 induction d with
 | zero =>
  intro k i acc hi hk ha
  obtain ⟨k, rfl⟩ : ∃ q, k = q + 1 := ⟨k - 1, by omega⟩
  simp only [schema_names.l0]
  have h := schema_names.l1_tells acc m hm m.length k 0 [] (by omega) (by omega) rfl
  rw [if_neg (by omega), List.drop_eq_nil_of_le (by omega)]
  simpa using h
 | succ d ih =>
  intro k i acc hi hk ha
  obtain ⟨k, rfl⟩ : ∃ q, k = q + 1 := ⟨k - 1, by omega⟩
  have hlt : i < e.length := by omega
  simp only [schema_names.l0]
  rw [if_pos (by omega), if_pos (by omega), if_pos (by omega), if_pos (by omega), show wrap64 ((i : Int) + 1) = ((i + 1 : Nat) : Int) by unfold wrap64; omega, show rd_T48 e (i : Int) = e[i] by simp [rd_T48, hlt], ih k (i + 1) _ (by omega) (by omega) (by simp; omega), List.drop_eq_getElem_cons hlt, List.map_cons, List.append_assoc]
  rfl
theorem schema_names.tells (e : List S48) (m : List S38) (he : e.length ≤ 8796093022208) (hm : m.length ≤ 8796093022208) : ∃ k, schema_names.f k e m = some (e.map (·.f0), m.map (·.f0)) :=
 ⟨e.length + m.length + 2, by
  have := schema_names.l0_tells e m he hm e.length (e.length + m.length + 2) 0 [] (by omega) (by omega) rfl
  simpa [schema_names.f] using this⟩
end Go.Proofs.Ytelhcijoegjjnaa.P
namespace Go.Proofs.Ytelhcijoegjjnaa.P
open Go.RowKit Go.Proofs.YtelhcijoegjjnaaW.PrintWords Go.Proofs.YtelhcijoegjjnaaW.PrintLast Go.Proofs.YtelhcijoegjjnaaW.PrintMore
attribute [local go_sem] max2_int min2_int max_two min_two max_three min_three max_four min_four
set_option linter.unusedVariables false
set_option linter.unusedSimpArgs false
theorem infoStr_ : (Try.prog.info? 9).map (fun i => (i.zero, i.size, i.bytes)) = some (some (.string ⟨#[]⟩), 1, 16) := by kernel_rfl
theorem Grow_own {W : World} {base : Nat} {v : Value} {xs : List ByteArray} (h : Kd.R Kd.string 9 W base (fun _ => True) v xs) (hne : 0 < xs.length) :
  ∃ g cap cur, v = .slice (some ⟨g, 0, none⟩) xs.length cap ∧ base ≤ g ∧ W.heap[g]? = some (.cells cur 9 (0, 0)) ∧ xs.length ≤ cap ∧ cap ≤ maxLen ∧ cur.size = cap * 1 ∧ cur.toList.take (xs.length * 1) = encs Value.string xs := by
 obtain ⟨h1, h2 | h2⟩ := Kd.own_of_R h
 ·exact absurd h2.2 (by omega)
 ·exact h2
set_option maxHeartbeats 2000000 in
set_option maxRecDepth 100000 in
theorem Grow_nil_string (n : Nat) (hn : n * 16 ≤ 140737488355328) (w : World) :
  Calls Try.prog 76 #[.slice none 0 0, .int .i64 n] w fun e w' => ∃ v, e = .returned v ∧ w'.ownsRow w.heap.size 9 1 v 0 [] ∧ Below w.heap.size w w' := by
 have h0 : 0 ≤ (n : Int) := by omega
 have hlt : decide ((n : Int) < 0) = false := decide_eq_false (by omega)
 have HN := Aside0.mk hn
 by_cases hz : n = 0
 ·subst hz
  go_enter Try.func76, Try.ntmps76
  go_wp2
  go_ret
  exact ⟨_, rfl, World.ownsRow_nil _ _ _ _, Below.refl _ _⟩
 ·have hpos : decide (0 < (n : Int)) = true := decide_eq_true (by omega)
  have hpos2 : decide (0 < n) = true := decide_eq_true (by omega)
  have hpos3 : 0 < n := by omega
  have hb : (n : Int) ≤ 8796093022208 := by omega
  clear hn hz
  go_enter Try.func76, Try.ntmps76
  go_wp2_with (at_builtin; refine Kd.R_append_zeros Kd.string (w0 := w) w.heap.size rfl (.tmp 20) (.tmp 21) 22 3 9 (.string ⟨#[]⟩) 16 rfl Try.underlying22 Try.underlying3 infoStr_ rfl (by decide) (by omega) (.slice none 0 0) [] (⟨#[]⟩ : ByteArray) (n : Int) (fun _ => True) rfl rfl rfl ?aF ?aO h0 ?aB ?aS ?aL ?_; (case aF => exact fun _ _ => trivial); (case aO => exact Kd.R_nil _ _ _ _ _); (case aB => exact Below.refl _ _); (case aS => exact Nat.le_refl _); (case aL => simpa using HN.out); intro v1 w1 hR hb hg hat; obtain ⟨g1, cap1, cur1, rfl, hgb, hgh, hgc, hgm, hgs, hgt⟩ := Grow_own hR (by simp; omega); have HB := Aside0.mk hb; have HH := Aside0.mk hgh; have HG := Aside0.mk hgb; have HM := Aside0.mk hgm; have HS := Aside0.mk hgs; clear hR hb hg hat hgh hgt hgb hgs)
  go_ret
  exact ⟨_, rfl, ⟨rfl, .inr ⟨g1, cap1, cur1, rfl, HG.out, HH.out, Nat.zero_le _, HM.out, HS.out, by simp⟩⟩, HB.out⟩
def sumLen (l : List (List ByteArray)) : Nat := (l.map List.length).sum
def slices_Concat_string_string.f (l0 : List (List ByteArray)) : Option (List ByteArray) := if l0.flatten.length * 16 ≤ 140737488355328 then some l0.flatten else none
theorem Concat_at {w : World} {A : Option Addr} {n : Nat} {xs : List (List ByteArray)} (h : Kd.C (Kd.slice 9 Kd.string) w A n xs) (i : Nat) (h1 : i < n) :
  ∃ ad A1 c1, A = some ad ∧ w.cell? (ad.add i) = some (.slice A1 (xs.getD i []).length c1) ∧ (xs.getD i []).length ≤ c1 ∧ Kd.C Kd.string w A1 (xs.getD i []).length (xs.getD i []) := by
 obtain ⟨ad, c, e, _, hK, hc0⟩ := Kd.C_get h ([] : List ByteArray) (i : Int) (by omega) (by omega)
 simp only [Int.toNat_natCast] at hK hc0
 obtain ⟨A1, c1, rfl, hl, hC⟩ := hK
 have hq : w.cell? (ad.add (i * 1 + 0)) = some (.slice A1 (xs.getD i []).length c1) := hc0 0 _ rfl
 rw [Nat.mul_one, Nat.add_zero] at hq
 exact ⟨ad, A1, c1, e, hq, hl, hC⟩
theorem sumLen_flatten (l : List (List ByteArray)) : sumLen l = l.flatten.length := by simp [sumLen, List.length_flatten]
theorem sumLen_take (l : List (List ByteArray)) (k : Nat) (h : k < l.length) : sumLen (l.take (k + 1)) = sumLen (l.take k) + (l.getD k []).length := by
 unfold sumLen
 rw [List.take_succ_eq_append_getElem h, List.map_append, List.sum_append]
 simp [h]
theorem sumLen_le (l : List (List ByteArray)) (k : Nat) : sumLen (l.take k) ≤ sumLen l := by
 rw [sumLen_flatten, sumLen_flatten]
 have : l.flatten = (l.take k).flatten ++ (l.drop k).flatten := by rw [← List.flatten_append, List.take_append_drop]
 rw [this, List.length_append]
 omega
set_option maxHeartbeats 2000000 in
set_option maxRecDepth 100000 in
theorem slices_Concat_string_string.calls (A0 : Option Addr) (c0 : Nat) (l0 : List (List ByteArray)) (r : List ByteArray) (w : World) (hr0 : Kd.C (Kd.slice 9 Kd.string) w A0 l0.length l0) (hc0 : l0.length ≤ c0) (h : slices_Concat_string_string.f l0 = some r) :
  Calls Try.prog 43 #[.slice A0 l0.length c0] w fun e w' => ∃ v0_ : Value, e = .returned (v0_) ∧ Kd.R Kd.string 9 w' w.heap.size (fun _ => True) v0_ r ∧ Below w.heap.size w w' := by
 unfold slices_Concat_string_string.f at h
 split at h
 case isFalse => cases h
 case isTrue hlim =>
 have HR := Aside0.mk (Option.some.inj h)
 have HM := Aside0.mk (Kd.C_max hr0)
 have HC0 := Aside0.mk hc0
 have HR0 := Aside0.mk hr0
 have HS : Aside0 (sumLen l0 * 16 ≤ 140737488355328) := ⟨by rw [sumLen_flatten]; exact hlim⟩
 clear h hlim hr0 hc0
 go_enter Try.func43, Try.ntmps43
 go_wp2
 go_loopg [3, 11] l0.length (fun gg s3 s11 wr => ∃ k : Nat, s11 = .int .i64 k ∧ s3 = .int .i64 (sumLen (l0.take k)) ∧ Aside0 (k ≤ l0.length ∧ l0.length - k ≤ gg) ∧ Aside0 (w = wr))
 case atStart => exact ⟨0, rfl, rfl, ⟨Nat.zero_le _, by omega⟩, ⟨rfl⟩⟩
 case round =>
  obtain ⟨k, rfl, rfl, HK, HW⟩ := hrel
  obtain rfl := HW.out
  clear HW
  have hm := HM.out
  by_cases hlt : k < l0.length
  ·have hlti : (k : Int) < (l0.length : Int) := by omega
   have h0 : 0 ≤ (k : Int) := by omega
   obtain ⟨ad, A1, c1, e_, hx, hl1, hC1⟩ := Concat_at HR0.out k hlt
   cases e_
   have HST := Aside0.mk (sumLen_take l0 k hlt)
   have hle := sumLen_le l0 (k + 1)
   have hss := HS.out
   have h3 := sumLen_take l0 k hlt
   generalize hq : sumLen (l0.take k) = q at *
   generalize hq2 : l0.getD k [] = y at *
   have hb1 : q + y.length ≤ 8796093022208 := by omega
   have hz1 : IntKind.i64.wrap ((q : Int) + (y.length : Int)) = (q : Int) + (y.length : Int) := IntWalk.i64_in _ (by omega)
   have hz2 : IntKind.i64.wrap ((k : Int) + 1) = (k : Int) + 1 := IntWalk.i64_in _ (by omega)
   have hz3 : decide ((q : Int) + (y.length : Int) < 0) = false := decide_eq_false (by omega)
   have hz4 : ¬ (q : Int) + (y.length : Int) < 0 := by omega
   clear h3 hle hss hq hq2 hl1 hC1
   go_wp2
   go_roundg (l0.length - (k + 1))
   case measure => have := HK.out; omega
   case rel => exact ⟨k + 1, by go_num, by rw [HST.out]; go_num, ⟨by omega, by omega⟩, ⟨rfl⟩⟩
  ·have hge : ¬ (k : Int) < (l0.length : Int) := by omega
   obtain rfl : k = l0.length := by have := HK.out; omega
   rw [List.take_length]
   have HG := Aside0.mk (fun (W : World) => Grow_nil_string (sumLen l0) HS.out W)
   clear hge hm
   go_wp2_with fail
   refine (HG.out _).mono ?_
   rintro e w1 ⟨v1, rfl, ho1, hb1⟩
   have HO1 := Aside0.mk (show Kd.R Kd.string 9 w1 w.heap.size (fun _ => True) v1 (([] : List (List ByteArray)).flatten) from Kd.R_of_own (by simpa [encs] using ho1) (fun _ _ => trivial))
   have HB1 := Aside0.mk hb1
   clear ho1 hb1 HG
   go_wp2
   go_loopg [6, 27] l0.length (fun gg s6 s27 wr => ∃ (k : Nat) (v6 : Value), s27 = .int .i64 k ∧ v6 = s6 ∧ Aside0 (k ≤ l0.length ∧ l0.length - k ≤ gg) ∧ Aside0 (Kd.R Kd.string 9 wr w.heap.size (fun _ => True) v6 (l0.take k).flatten) ∧ Aside0 (Below w.heap.size w wr))
   case atStart => exact ⟨0, _, rfl, rfl, ⟨Nat.zero_le _, by omega⟩, HO1, HB1⟩
   case round =>
    obtain ⟨k, v6, rfl, rfl, HK2, HO, HB⟩ := hrel
    have hm := HM.out
    by_cases hlt : k < l0.length
    ·have hlti : (k : Int) < (l0.length : Int) := by omega
     have h0 : 0 ≤ (k : Int) := by omega
     obtain ⟨ad, A1, c1, e_, hx, hl1, hC1⟩ := Concat_at (Kd.C_below HR0.out HB.out) k hlt
     cases e_
     have hz2 : IntKind.i64.wrap ((k : Int) + 1) = (k : Int) + 1 := IntWalk.i64_in _ (by omega)
     have hlen : ((l0.take k).flatten.length + (l0.getD k []).length) * 16 ≤ 140737488355328 := by
      have h1 := sumLen_take l0 k hlt
      have h2 := sumLen_le l0 (k + 1)
      have h3 := HS.out
      rw [← sumLen_flatten]
      omega
     have HLEN := Aside0.mk hlen
     have hfl : (l0.take (k + 1)).flatten = (l0.take k).flatten ++ l0.getD k [] := by
      rw [List.take_succ_eq_append_getElem hlt, List.flatten_append]
      simp [hlt]
     have HFL := Aside0.mk hfl
     have HC1 := Aside0.mk hC1
     clear hlen hfl hC1 hl1
     generalize l0.getD k [] = y at *
     generalize (l0.take k).flatten = acc at *
     go_wp2_with ((with_reducible refine gate_builtin (b := .append) (xs := #[.tmp 31, .tmp 32]) rfl ?_); at_builtin; refine Kd.R_append_rows Kd.string (w0 := w) w.heap.size rfl (.tmp 31) (.tmp 32) 22 9 (.string ⟨#[]⟩) 16 rfl Try.underlying22 infoStr_ rfl (by decide) (by omega) v6 acc y _ _ _ (fun _ => True) (fun _ => False) rfl rfl ?aO ?aR (fun _ _ h => h) (fun _ h => h.elim) ?aF ?aB ?aS ?aL ?_; (case aO => exact HO.out); (case aR => exact HC1.out); (case aF => exact fun _ _ => trivial); (case aB => exact HB.out); (case aS => exact HB.out.size); (case aL => exact HLEN.out); intro v2 w2 hO2 hB2 hg2 hat2; have HO2 := Aside0.mk hO2; have HB2 := Aside0.mk hB2; clear hO2 hB2 hg2 hat2)
     go_roundg (l0.length - (k + 1))
     case measure => have := HK2.out; omega
     case rel => exact ⟨k + 1, _, by go_num, rfl, ⟨by omega, by omega⟩, ⟨by rw [HFL.out]; exact HO2.out⟩, HB2⟩
    ·have hge : ¬ (k : Int) < (l0.length : Int) := by omega
     obtain rfl : k = l0.length := by have := HK2.out; omega
     have HOE := Aside0.mk (show Kd.R Kd.string 9 wr w.heap.size (fun _ => True) v6 r by rw [← HR.out, ← List.take_length (l := l0)]; simpa using HO.out)
     clear HO hm
     go_wp2
     go_ret
     exact ⟨_, rfl, HOE.out, HB.out⟩
end Go.Proofs.Ytelhcijoegjjnaa.P
namespace Go.Proofs.Ytelhcijoegjjnaa.P
open Go.RowKit Go.Proofs.YtelhcijoegjjnaaW.PrintWords Go.Proofs.YtelhcijoegjjnaaW.PrintLast Go.Proofs.YtelhcijoegjjnaaW.PrintMore
attribute [local go_sem] max2_int min2_int max_two min_two max_three min_three max_four min_four
set_option linter.unusedVariables false
set_option linter.unusedSimpArgs false
def schema_fieldNames.l0 : Nat → List ByteArray → List (S40) → Int → Int → Option (List ByteArray)
 | 0, _, _, _, _ => none
 | k + 1, x3, x7, x8, x9 => if x9 < x8 then (if 0 ≤ x9 then (if x9 < (x7.length : Int) then (if x3.length < 8796093022208 then (schema_fieldNames.l0 k (x3 ++ [(rd_T40 x7 x9).f0]) x7 x8 (wrap64 (x9 + 1))) else (none)) else (none)) else (none)) else (some x3)
def schema_fieldNames.f (k : Nat) (a0_0 : ByteArray) (l0_1 : List (S40)) (l0_2 : List Int) : Option (List ByteArray) := schema_fieldNames.l0 k ([] : List ByteArray) l0_1 (l0_1.length : Int) 0
theorem schema_fieldNames.mono_l : ∀ k, (∀ y0 y1 y2 y3, LeO (schema_fieldNames.l0 k y0 y1 y2 y3) (schema_fieldNames.l0 (k + 1) y0 y1 y2 y3))
 | 0 => fun _ _ _ _ r h => by simp [schema_fieldNames.l0] at h
 | k + 1 => by
  have ih0 := schema_fieldNames.mono_l k
  ·intro y0 y1 y2 y3
   unfold schema_fieldNames.l0
   repeat' first
   | (with_reducible exact ih0 _ _ _ _)
   | (with_reducible exact LeO.refl _)
   | (with_reducible exact LeO.none _)
   | (with_reducible refine LeO.ite ?_ ?_)
   | (with_reducible refine LeO.bind ?_ (fun _ => ?_))
   | exact ih0 _ _ _ _
   | exact LeO.none _
   | refine LeO.ite ?_ ?_
   | refine LeO.bind ?_ (fun _ => ?_)
theorem schema_fieldNames.mono : ∀ a0 a1 a2 k, LeO (schema_fieldNames.f k a0 a1 a2) (schema_fieldNames.f (k + 1) a0 a1 a2) := by
 intro a0 a1 a2 k
 have ih0 := schema_fieldNames.mono_l k
 unfold schema_fieldNames.f
 repeat' first
   | (with_reducible exact ih0 _ _ _ _)
   | (with_reducible exact LeO.refl _)
   | (with_reducible exact LeO.none _)
   | (with_reducible refine LeO.ite ?_ ?_)
   | (with_reducible refine LeO.bind ?_ (fun _ => ?_))
   | exact ih0 _ _ _ _
   | exact LeO.none _
   | refine LeO.ite ?_ ?_
   | refine LeO.bind ?_ (fun _ => ?_)
set_option maxHeartbeats 8000000 in
set_option maxRecDepth 100000 in
theorem schema_fieldNames.calls (k : Nat) (a0_0 : ByteArray) (A0_1 : Option Addr) (c0_1 : Nat) (l0_1 : List (S40)) (A0_2 : Option Addr) (c0_2 : Nat) (l0_2 : List Int) (r : List ByteArray) (w : World) (hr0_1 : Kd.C k40 w A0_1 l0_1.length l0_1) (hc0_1 : l0_1.length ≤ c0_1) (hr0_2 : Kd.C (Kd.int .i64) w A0_2 l0_2.length l0_2) (hc0_2 : l0_2.length ≤ c0_2) (h : schema_fieldNames.f k a0_0 l0_1 l0_2 = some r) :
  Calls Try.prog 46 #[.agg #[.string a0_0, .slice A0_1 l0_1.length c0_1, .slice A0_2 l0_2.length c0_2]] w fun e w' => ∃ v0_ : Value, e = .returned (v0_) ∧ Kd.R Kd.string 9 w' w.heap.size (fun _ => True) v0_ r ∧ Below w.heap.size w w' := by
 have hu38 := Try.underlying38
 have hu40 := Try.underlying40
 have HR0_1 := Aside0.mk hr0_1
 have HC0_1 := Aside0.mk hc0_1
 clear hr0_1 hc0_1
 have HR0_2 := Aside0.mk hr0_2
 have HC0_2 := Aside0.mk hc0_2
 clear hr0_2 hc0_2
 have HB := Aside0.mk (Below.refl w.heap.size w)
 have H : (schema_fieldNames.l0 k ([] : List ByteArray) l0_1 (l0_1.length : Int) 0) = some r := h
 clear h
 have H' := Aside0.mk H
 clear H
 go_enter Try.func46, Try.ntmps46
 go_wp2_with (first | ((with_reducible refine gate_dst (N := 1) rfl ?_); refine box_event ?hg (N := 1) ?hd (cs := #[.string a0_0, .slice A0_1 l0_1.length c0_1, .slice A0_2 l0_2.length c0_2]) (t := 38) ?hr ?_; (case hd => rfl); (case hg => rfl); (case hr => first | (go_simp; done) | (go_simp; rfl)); intro gb195 hg w2 hbox hb; have n0_ := Aside0.mk (below_step (by repeat (first | (with_reducible first | exact HB.out | apply below_alloc | apply pw_below_drewN | apply below_drew1) | exact HB.out)) hb); have n1_ := Aside0.mk (hbox); have n2_ := Aside0.mk ((by rw [hg]; exact (below_size (by repeat (first | (with_reducible first | exact HB.out | apply below_alloc | apply pw_below_drewN | apply below_drew1) | exact HB.out))) : w.heap.size ≤ gb195)); have n3_ := Aside0.mk ((by rw [hg]; exact (below_size (by repeat (first | (with_reducible first | exact HB.out | apply below_alloc | apply pw_below_drewN | apply below_drew1) | exact HB.out))) : w.heap.size ≤ gb195)); clear HB; have HB := n0_; have BK195 := n1_; have GW195 := n2_; have GE195 := n3_; clear n0_ n1_ n2_ n3_; clear hb hbox hg; have hcz3_0 : w2.cell? ⟨gb195, 0, none⟩ = some (.string a0_0) := (blk_cell BK195.out 0).trans rfl; have hcz3_1 : w2.cell? ⟨gb195, 1, none⟩ = some (.slice A0_1 l0_1.length c0_1) := (blk_cell BK195.out 1).trans rfl; have hcz3_2 : w2.cell? ⟨gb195, 2, none⟩ = some (.slice A0_2 l0_2.length c0_2) := (blk_cell BK195.out 2).trans rfl; have hfz3_0 := blk_frozen BK195.out 0; have hfz3_1 := blk_frozen BK195.out 1; have hfz3_2 := blk_frozen BK195.out 2))
 go_loopg [3, 9] k (fun kq v3 v9 w' => ∃ (x3_1 : List ByteArray) (x9_1 : Int), v9 = .int .i64 x9_1 ∧ Aside0 (schema_fieldNames.l0 kq x3_1 l0_1 (l0_1.length : Int) x9_1 = some r) ∧ Aside0 (kq ≤ k) ∧ Aside0 (Kd.R Kd.string 9 w' w.heap.size (fun _ => True) v3 x3_1) ∧ Aside0 (w'.heap[gb195]? = some (.cells #[.string a0_0, (.slice A0_1 l0_1.length c0_1), (.slice A0_2 l0_2.length c0_2)] 38 (0, 0))) ∧ Aside0 (Below w.heap.size w w'))
 case atStart => exact ⟨(([] : List ByteArray)), (0), (by first | rfl | (simp; done) | (simp [*]; done)), H', ⟨Nat.le_refl _⟩, ⟨by first | exact Kd.R_nil _ _ _ _ _ | exact Kd.N_nil _ _ _ _ _ | exact Kd.V_nil _ _ _ _ _ | exact Kd.Q_nil _ _ _ _ _ | exact Kd.S_nil _ _ _ _ _⟩, ⟨by (with_reducible repeat (first | refine blk_drewN ?_ _ | refine blk_drew ?_ | refine blk_alloc ?_ _)); exact BK195.out⟩, ⟨by repeat (first | (with_reducible first | exact HB.out | apply below_alloc | apply pw_below_drewN | apply below_drew1 | refine below_set ?_ GE195.out) | exact HB.out)⟩⟩
 case round =>
  clear H'
  try clear p2
  try clear hcz3_0
  try clear hcz3_1
  try clear hcz3_2
  try clear hfz3_0
  try clear hfz3_1
  try clear hfz3_2
  obtain ⟨x3_1, x9_1, rfl, HA, HK1, HO_3, BK195, HB⟩ := hrel
  cases gk with
  | zero => exact absurd HA.out (by simp [schema_fieldNames.l0])
  | succ k1 =>
   have H := HA.out
   clear HA
   simp only [schema_fieldNames.l0] at H
   by_cases c4 : x9_1 < (l0_1.length : Int)
   ·rw [if_pos c4] at H
    have c4b0 : decide (x9_1 < (l0_1.length : Int)) = true := decide_eq_true c4
    clear c4
    by_cases c5 : 0 ≤ x9_1
    ·rw [if_pos c5] at H
     have c5b0 : decide (0 ≤ x9_1) = true := decide_eq_true c5
     clear c5
     by_cases c6 : x9_1 < (l0_1.length : Int)
     ·rw [if_pos c6] at H
      have c6b0 : decide (x9_1 < (l0_1.length : Int)) = true := decide_eq_true c6
      clear c6
      by_cases c7 : x3_1.length < 8796093022208
      ·rw [if_pos c7] at H
       have LMc7 := Aside0.mk c7
       clear c7
       obtain ⟨y198, hy198⟩ : ∃ y_ : List ByteArray, y_ = (x3_1 ++ [(rd_T40 l0_1 x9_1).f0]) := ⟨_, rfl⟩
       replace H : (schema_fieldNames.l0 k1 y198 l0_1 (l0_1.length : Int) (wrap64 (x9_1 + 1))) = some r := by first | (rw [hy198]; with_reducible exact H) | (have H2_ := (Option.bind_some _ _).symm.trans H; rw [hy198]; with_reducible exact H2_) | (have H2_ := (Option.bind_some _ _).symm.trans H; with_reducible exact H2_) | with_reducible exact H | (rw [hy198]; exact H) | exact H
       have Ny198 := Aside0.mk hy198
       clear hy198
       have H' := Aside0.mk H
       clear H
       have p196 : 0 ≤ (x9_1 : Int) := of_decide_eq_true (by first | (with_reducible assumption) | assumption)
       have q196 : x9_1 < (l0_1.length : Int) := of_decide_eq_true (by first | (with_reducible assumption) | assumption)
       obtain ⟨ad196, e196, hx196_0, hx196_1, hx196_2, hx196_3, hx196_4, hx196_5, hx196_6⟩ := at_T40 HR0_1.out x9_1 p196 q196
       cases e196
       replace hx196_0 := (HB.out.cell (World.block_lt_of_cell? w _ hx196_0)).trans hx196_0
       replace hx196_1 := (HB.out.cell (World.block_lt_of_cell? w _ hx196_1)).trans hx196_1
       replace hx196_2 := (HB.out.cell (World.block_lt_of_cell? w _ hx196_2)).trans hx196_2
       replace hx196_3 := (HB.out.cell (World.block_lt_of_cell? w _ hx196_3)).trans hx196_3
       replace hx196_4 := (HB.out.cell (World.block_lt_of_cell? w _ hx196_4)).trans hx196_4
       replace hx196_5 := (HB.out.cell (World.block_lt_of_cell? w _ hx196_5)).trans hx196_5
       replace hx196_6 := (HB.out.cell (World.block_lt_of_cell? w _ hx196_6)).trans hx196_6
       replace p196 := eq_true p196
       replace q196 := eq_true q196
       go_wp2_with (first | ((with_reducible refine gate_dst (N := 5) rfl ?_); refine box_event ?hg (N := 5) ?hd (cs := #[.string (⟨#[]⟩ : ByteArray), .int .i64 0, .int .i64 0, .string (⟨#[]⟩ : ByteArray), .bool false, .bool false, .string (⟨#[]⟩ : ByteArray)]) (t := 40) ?hr ?_; (case hd => rfl); (case hg => rfl); (case hr => first | (go_simp; done) | (go_simp; rfl)); intro gb197 hg w8 hbox hb; have n0_ := Aside0.mk (Kd.R_below (by (with_reducible repeat (first | apply Kd.R_alloc | apply Kd.R_drewN | apply Kd.R_drew)); exact HO_3.out) hb); have n1_ := Aside0.mk (blk_below (g := gb195) (o := .cells #[.string a0_0, .slice (some ad196) l0_1.length c0_1, .slice A0_2 l0_2.length c0_2] 38 (0, 0)) (by (with_reducible repeat (first | refine blk_drewN ?_ _ | refine blk_drew ?_ | refine blk_alloc ?_ _)); exact BK195.out) hb); have n2_ := Aside0.mk (below_step (by repeat (first | (with_reducible first | exact HB.out | apply below_alloc | apply pw_below_drewN | apply below_drew1 | refine below_set ?_ GE195.out) | exact HB.out)) hb); have n3_ := Aside0.mk (hbox); have n4_ := Aside0.mk ((by rw [hg]; exact (below_size (by repeat (first | (with_reducible first | exact HB.out | apply below_alloc | apply pw_below_drewN | apply below_drew1 | refine below_set ?_ GE195.out) | exact HB.out))) : w.heap.size ≤ gb197)); have n5_ := Aside0.mk ((by rw [hg]; exact (below_size (by repeat (first | (with_reducible first | exact HB.out | apply below_alloc | apply pw_below_drewN | apply below_drew1 | refine below_set ?_ GE195.out) | exact HB.out))) : w.heap.size ≤ gb197)); have n6_ := Aside0.mk ((by rw [hg]; exact Nat.ne_of_lt (blk_lt (g := gb195) (o := .cells #[.string a0_0, .slice (some ad196) l0_1.length c0_1, .slice A0_2 l0_2.length c0_2] 38 (0, 0)) (by (with_reducible repeat (first | refine blk_drewN ?_ _ | refine blk_drew ?_ | refine blk_alloc ?_ _)); exact BK195.out)) : gb195 ≠ gb197)); have n7_ := Aside0.mk ((by rw [hg]; exact Nat.ne_of_gt (blk_lt (g := gb195) (o := .cells #[.string a0_0, .slice (some ad196) l0_1.length c0_1, .slice A0_2 l0_2.length c0_2] 38 (0, 0)) (by (with_reducible repeat (first | refine blk_drewN ?_ _ | refine blk_drew ?_ | refine blk_alloc ?_ _)); exact BK195.out)) : gb197 ≠ gb195)); clear HO_3; clear BK195; clear HB; have HO_3 := n0_; have BK195 := n1_; have HB := n2_; have BK197 := n3_; have GW197 := n4_; have GE197 := n5_; have NB195_197 := n6_; have NB197_195 := n7_; clear n0_ n1_ n2_ n3_ n4_ n5_ n6_ n7_; clear hb hbox hg; have hnb9 := NB197_195.out; have hnc9 := NB195_197.out; have hcz10_0 : w8.cell? ⟨gb197, 0, none⟩ = some (.string (⟨#[]⟩ : ByteArray)) := (blk_cell BK197.out 0).trans rfl; have hcz10_1 : w8.cell? ⟨gb197, 1, none⟩ = some (.int .i64 0) := (blk_cell BK197.out 1).trans rfl; have hcz10_2 : w8.cell? ⟨gb197, 2, none⟩ = some (.int .i64 0) := (blk_cell BK197.out 2).trans rfl; have hcz10_3 : w8.cell? ⟨gb197, 3, none⟩ = some (.string (⟨#[]⟩ : ByteArray)) := (blk_cell BK197.out 3).trans rfl; have hcz10_4 : w8.cell? ⟨gb197, 4, none⟩ = some (.bool false) := (blk_cell BK197.out 4).trans rfl; have hcz10_5 : w8.cell? ⟨gb197, 5, none⟩ = some (.bool false) := (blk_cell BK197.out 5).trans rfl; have hcz10_6 : w8.cell? ⟨gb197, 6, none⟩ = some (.string (⟨#[]⟩ : ByteArray)) := (blk_cell BK197.out 6).trans rfl; have hfz10_0 := blk_frozen BK197.out 0; have hfz10_1 := blk_frozen BK197.out 1; have hfz10_2 := blk_frozen BK197.out 2; have hfz10_3 := blk_frozen BK197.out 3; have hfz10_4 := blk_frozen BK197.out 4; have hfz10_5 := blk_frozen BK197.out 5; have hfz10_6 := blk_frozen BK197.out 6) | ((with_reducible refine gate_builtin (b := .append) (xs := #[.tmp 13, .tmp 16]) rfl ?_); at_builtin; refine Kd.R_append Kd.string (w0 := w) w.heap.size rfl (.tmp 13) (.tmp 16) 22 9 (.string ⟨#[]⟩) 16 rfl Try.underlying22 info9 rfl (by decide) (by omega) u3 x3_1 ((rd_T40 l0_1 x9_1).f0) [.string ((rd_T40 l0_1 x9_1).f0)] (fun _ => True) (fun _ => False) rfl (by first | (go_simp; done) | (go_simp; rfl)) ?aP (fun _ hk => hk.elim) ?aF ?aO ?aB ?aS ?aL ?_; (case aP => exact rfl); (case aB => exact (by repeat (first | (with_reducible first | exact HB.out | apply below_alloc | apply pw_below_drewN | apply below_drew1 | refine below_set ?_ GE195.out | refine below_set ?_ GE197.out) | exact HB.out))); (case aF => exact (fun _ _ => trivial)); (case aO => exact (by (with_reducible repeat (first | apply Kd.R_alloc | apply Kd.R_drewN | apply Kd.R_drew)); exact Kd.R_mono (Kd.R_far (p := ⟨gb197, 6, none⟩) (Kd.R_far (p := ⟨gb197, 5, none⟩) (Kd.R_far (p := ⟨gb197, 4, none⟩) (Kd.R_far (p := ⟨gb197, 3, none⟩) (Kd.R_far (p := ⟨gb197, 2, none⟩) (Kd.R_far (p := ⟨gb197, 1, none⟩) (Kd.R_far (p := ⟨gb197, 0, none⟩) (Kd.R_types HO_3.out BK197.out (by decide)) (fun _ hk => hk.2) (.string ((rd_T40 l0_1 x9_1).f0))) (fun _ hk => hk.2) (.int .i64 ((rd_T40 l0_1 x9_1).f1))) (fun _ hk => hk.2) (.int .i64 ((rd_T40 l0_1 x9_1).f2))) (fun _ hk => hk.2) (.string ((rd_T40 l0_1 x9_1).f3))) (fun _ hk => hk.2) (.bool ((rd_T40 l0_1 x9_1).f4))) (fun _ hk => hk.2) (.bool ((rd_T40 l0_1 x9_1).f5))) (fun _ hk => hk.2) (.string ((rd_T40 l0_1 x9_1).f6))) (fun _ hk => trivial))); (case aS => exact (below_size (by repeat (first | (with_reducible first | exact HB.out | apply below_alloc | apply pw_below_drewN | apply below_drew1 | refine below_set ?_ GE195.out | refine below_set ?_ GE197.out) | exact HB.out)))); (case aL => have := LMc7.out; omega); intro v199 w11 ho hb hg hat; rw [← Ny198.out] at ho; have n0_ := Aside0.mk (blk_grown (g := gb195) (o := .cells #[.string a0_0, .slice (some ad196) l0_1.length c0_1, .slice A0_2 l0_2.length c0_2] 38 (0, 0)) (by (with_reducible repeat (first | refine blk_drewN ?_ _ | refine blk_drew ?_ | refine blk_alloc ?_ _)); refine blk_far ?_ NB195_197.out _; (with_reducible repeat (first | refine blk_drewN ?_ _ | refine blk_drew ?_ | refine blk_alloc ?_ _)); refine blk_far ?_ NB195_197.out _; (with_reducible repeat (first | refine blk_drewN ?_ _ | refine blk_drew ?_ | refine blk_alloc ?_ _)); refine blk_far ?_ NB195_197.out _; (with_reducible repeat (first | refine blk_drewN ?_ _ | refine blk_drew ?_ | refine blk_alloc ?_ _)); refine blk_far ?_ NB195_197.out _; (with_reducible repeat (first | refine blk_drewN ?_ _ | refine blk_drew ?_ | refine blk_alloc ?_ _)); refine blk_far ?_ NB195_197.out _; (with_reducible repeat (first | refine blk_drewN ?_ _ | refine blk_drew ?_ | refine blk_alloc ?_ _)); refine blk_far ?_ NB195_197.out _; (with_reducible repeat (first | refine blk_drewN ?_ _ | refine blk_drew ?_ | refine blk_alloc ?_ _)); refine blk_far ?_ NB195_197.out _; (with_reducible repeat (first | refine blk_drewN ?_ _ | refine blk_drew ?_ | refine blk_alloc ?_ _)); exact BK195.out) hg (Kd.R_ne HO_3.out BK195.out (by decide))); have n1_ := Aside0.mk (blk_grown (g := gb197) (o := .cells #[.string ((rd_T40 l0_1 x9_1).f0), .int .i64 ((rd_T40 l0_1 x9_1).f1), .int .i64 ((rd_T40 l0_1 x9_1).f2), .string ((rd_T40 l0_1 x9_1).f3), .bool ((rd_T40 l0_1 x9_1).f4), .bool ((rd_T40 l0_1 x9_1).f5), .string ((rd_T40 l0_1 x9_1).f6)] 40 (0, 0)) (by (with_reducible repeat (first | refine blk_drewN ?_ _ | refine blk_drew ?_ | refine blk_alloc ?_ _)); refine blk_put (cs := #[.string ((rd_T40 l0_1 x9_1).f0), .int .i64 ((rd_T40 l0_1 x9_1).f1), .int .i64 ((rd_T40 l0_1 x9_1).f2), .string ((rd_T40 l0_1 x9_1).f3), .bool ((rd_T40 l0_1 x9_1).f4), .bool ((rd_T40 l0_1 x9_1).f5), .string (⟨#[]⟩ : ByteArray)]) ?_ 6 _ rfl; (with_reducible repeat (first | refine blk_drewN ?_ _ | refine blk_drew ?_ | refine blk_alloc ?_ _)); refine blk_put (cs := #[.string ((rd_T40 l0_1 x9_1).f0), .int .i64 ((rd_T40 l0_1 x9_1).f1), .int .i64 ((rd_T40 l0_1 x9_1).f2), .string ((rd_T40 l0_1 x9_1).f3), .bool ((rd_T40 l0_1 x9_1).f4), .bool false, .string (⟨#[]⟩ : ByteArray)]) ?_ 5 _ rfl; (with_reducible repeat (first | refine blk_drewN ?_ _ | refine blk_drew ?_ | refine blk_alloc ?_ _)); refine blk_put (cs := #[.string ((rd_T40 l0_1 x9_1).f0), .int .i64 ((rd_T40 l0_1 x9_1).f1), .int .i64 ((rd_T40 l0_1 x9_1).f2), .string ((rd_T40 l0_1 x9_1).f3), .bool false, .bool false, .string (⟨#[]⟩ : ByteArray)]) ?_ 4 _ rfl; (with_reducible repeat (first | refine blk_drewN ?_ _ | refine blk_drew ?_ | refine blk_alloc ?_ _)); refine blk_put (cs := #[.string ((rd_T40 l0_1 x9_1).f0), .int .i64 ((rd_T40 l0_1 x9_1).f1), .int .i64 ((rd_T40 l0_1 x9_1).f2), .string (⟨#[]⟩ : ByteArray), .bool false, .bool false, .string (⟨#[]⟩ : ByteArray)]) ?_ 3 _ rfl; (with_reducible repeat (first | refine blk_drewN ?_ _ | refine blk_drew ?_ | refine blk_alloc ?_ _)); refine blk_put (cs := #[.string ((rd_T40 l0_1 x9_1).f0), .int .i64 ((rd_T40 l0_1 x9_1).f1), .int .i64 0, .string (⟨#[]⟩ : ByteArray), .bool false, .bool false, .string (⟨#[]⟩ : ByteArray)]) ?_ 2 _ rfl; (with_reducible repeat (first | refine blk_drewN ?_ _ | refine blk_drew ?_ | refine blk_alloc ?_ _)); refine blk_put (cs := #[.string ((rd_T40 l0_1 x9_1).f0), .int .i64 0, .int .i64 0, .string (⟨#[]⟩ : ByteArray), .bool false, .bool false, .string (⟨#[]⟩ : ByteArray)]) ?_ 1 _ rfl; (with_reducible repeat (first | refine blk_drewN ?_ _ | refine blk_drew ?_ | refine blk_alloc ?_ _)); refine blk_put (cs := #[.string (⟨#[]⟩ : ByteArray), .int .i64 0, .int .i64 0, .string (⟨#[]⟩ : ByteArray), .bool false, .bool false, .string (⟨#[]⟩ : ByteArray)]) ?_ 0 _ rfl; (with_reducible repeat (first | refine blk_drewN ?_ _ | refine blk_drew ?_ | refine blk_alloc ?_ _)); exact BK197.out) hg (Kd.R_ne HO_3.out BK197.out (by decide))); have n2_ := Aside0.mk (hb); have n3_ := Aside0.mk (ho); clear BK195; clear BK197; clear HB; clear HO_3; have BK195 := n0_; have BK197 := n1_; have HB := n2_; have HO200 := n3_; clear n0_ n1_ n2_ n3_; clear ho hb hg hat))
       go_roundg k1
       case measure => have := HK1.out; omega
       case rel => exact ⟨(y198), (wrap64 (x9_1 + 1)), (by first | rfl | (simp; done) | (simp [*]; done)), H', ⟨by have := HK1.out; omega⟩, ⟨by (with_reducible repeat (first | apply Kd.R_alloc | apply Kd.R_drewN | apply Kd.R_drew)); exact HO200.out⟩, ⟨by (with_reducible repeat (first | refine blk_drewN ?_ _ | refine blk_drew ?_ | refine blk_alloc ?_ _)); exact BK195.out⟩, ⟨by repeat (first | (with_reducible first | exact HB.out | apply below_alloc | apply pw_below_drewN | apply below_drew1 | refine below_set ?_ GE195.out | refine below_set ?_ GE197.out) | exact HB.out)⟩⟩
      ·rw [if_neg c7] at H
       exact absurd H (by simp)
     ·rw [if_neg c6] at H
      exact absurd H (by simp)
    ·rw [if_neg c5] at H
     exact absurd H (by simp)
   ·rw [if_neg c4] at H
    have c4b0 : decide (x9_1 < (l0_1.length : Int)) = false := decide_eq_false c4
    clear c4
    obtain rfl := Option.some.inj H
    go_wp2
    go_ret
    exact ⟨_, by first | rfl | (simp [errW_none, errW_some] <;> rfl) | (simp [*, errW_none, errW_some] <;> rfl), by (with_reducible repeat (first | apply Kd.R_alloc | apply Kd.R_drewN | apply Kd.R_drew)); exact HO_3.out, by repeat (first | (with_reducible first | exact HB.out | apply below_alloc | apply pw_below_drewN | apply below_drew1 | refine below_set ?_ GE195.out) | exact HB.out)⟩
end Go.Proofs.Ytelhcijoegjjnaa.P
namespace Go.Proofs.Ytelhcijoegjjnaa.P
open Go.RowKit Go.Proofs.YtelhcijoegjjnaaW.PrintWords Go.Proofs.YtelhcijoegjjnaaW.PrintLast Go.Proofs.YtelhcijoegjjnaaW.PrintMore
attribute [local go_sem] max2_int min2_int max_two min_two max_three min_three max_four min_four
set_option linter.unusedVariables false
set_option linter.unusedSimpArgs false
theorem schema_fieldNames.l0_tells (m : List S40) (hm : m.length ≤ 8796093022208) (d : Nat) : ∀ (k i : Nat) (acc : List ByteArray), i + d = m.length → d < k → acc.length = i →
  schema_fieldNames.l0 k acc m (m.length : Int) (i : Int) = some (acc ++ (m.drop i).map (·.f0)) := by
 induction d with
 | zero =>
  intro k i acc hi hk ha
  obtain ⟨k, rfl⟩ : ∃ q, k = q + 1 := ⟨k - 1, by omega⟩
  simp only [schema_fieldNames.l0]
  rw [if_neg (by omega), List.drop_eq_nil_of_le (by omega)]
  simp
 | succ d ih =>
  intro k i acc hi hk ha
  obtain ⟨k, rfl⟩ : ∃ q, k = q + 1 := ⟨k - 1, by omega⟩
  have hlt : i < m.length := by omega
  simp only [schema_fieldNames.l0]
  rw [if_pos (by omega), if_pos (by omega), if_pos (by omega), if_pos (by omega), show wrap64 ((i : Int) + 1) = ((i + 1 : Nat) : Int) by unfold wrap64; omega, show rd_T40 m (i : Int) = m[i] by simp [rd_T40, hlt], ih k (i + 1) _ (by omega) (by omega) (by simp; omega), List.drop_eq_getElem_cons hlt, List.map_cons, List.append_assoc]
  rfl
theorem schema_fieldNames.tells (s : ByteArray) (m : List S40) (b : List Int) (hm : m.length ≤ 8796093022208) : ∃ k, schema_fieldNames.f k s m b = some (m.map (·.f0)) :=
 ⟨m.length + 1, by
  have := schema_fieldNames.l0_tells m hm m.length (m.length + 1) 0 [] (by omega) (by omega) rfl
  simpa [schema_fieldNames.f] using this⟩
end Go.Proofs.Ytelhcijoegjjnaa.P
namespace Go.Proofs.Ytelhcijoegjjnaa.P
open Go.RowKit Go.Proofs.YtelhcijoegjjnaaW.PrintWords Go.Proofs.YtelhcijoegjjnaaW.PrintLast Go.Proofs.YtelhcijoegjjnaaW.PrintMore
attribute [local go_sem] max2_int min2_int max_two min_two max_three min_three max_four min_four
set_option linter.unusedVariables false
set_option linter.unusedSimpArgs false
set_option maxHeartbeats 2000000 in
set_option maxRecDepth 100000 in
theorem IndexFunc_Field (g : Nat) (lb : Array Value) (eg : ∀ args w, (callFunc g args).run Try.prog w = .ok (.enter g args) w) (p : S40 → Option Bool) (A0 : Option Addr) (c0 : Nat) (l0 : List S40) (r : Int) (w : World)
  (hp : Fn.Such Try.prog g lb k40 p w) (hr0 : Kd.C k40 w A0 l0.length l0) (hc0 : l0.length ≤ c0) (h : Fn.idxO p 0 l0 = some r) :
  Calls Try.prog 77 #[.slice A0 l0.length c0, .func (.func g) #[] lb] w fun e w' => e = .returned (.int .i64 r) ∧ Below w.heap.size w w' := by
 have HR0 := Aside0.mk hr0
 have HC0 := Aside0.mk hc0
 have HM := Aside0.mk (Kd.C_max hr0)
 have HP := Aside0.mk hp
 have H := Aside0.mk (show Fn.idxO p 0 (l0.drop 0) = some r from h)
 clear hr0 hc0 hp h
 go_enter Try.func77, Try.ntmps77
 go_wp2
 go_loopg [5, 8] l0.length (fun gg _ s8 wr => ∃ kk : Nat, s8 = .int .i64 kk ∧ Aside0 (kk ≤ l0.length ∧ l0.length - kk ≤ gg) ∧ Aside0 (Below w.heap.size w wr) ∧ Aside0 (Fn.idxO p kk (l0.drop kk) = some r))
 case atStart => exact ⟨0, rfl, ⟨Nat.zero_le _, by omega⟩, ⟨Below.refl _ w⟩, H⟩
 case round =>
  clear H
  obtain ⟨kk, rfl, HK, HB, H⟩ := hrel
  have hm := HM.out
  by_cases hlt : kk < l0.length
  ·have hlti : (kk : Int) < (l0.length : Int) := by omega
   have h0 : 0 ≤ (kk : Int) := by omega
   obtain ⟨ad, e_, hx0, hx1, hx2, hx3, hx4, hx5, hx6⟩ := at_T40 (Kd.C_below HR0.out HB.out) (kk : Int) h0 hlti
   cases e_
   simp only [Int.toNat_natCast] at hx0 hx1 hx2 hx3 hx4 hx5 hx6
   have hyk : rd_T40 l0 (kk : Int) = l0[kk] := by unfold rd_T40; simp [hlt]
   have hn := Fn.idxO_drop H.out hlt
   rw [← hyk] at hn
   clear hyk
   generalize rd_T40 l0 (kk : Int) = y at *
   have HX := Aside0.mk (k40_mk wr y)
   cases hb : p y with
   | none => rw [hb] at hn; cases hn
   | some b =>
    rw [hb] at hn
    simp only [Option.bind_some] at hn
    have hcall := HP.out wr y _ b HB.out HX.out hb
    have HN := Aside0.mk hn
    have HCALL := Aside0.mk hcall
    clear hb hn hcall HX
    have hz : IntKind.i64.wrap ((kk : Int) + 1) = (kk : Int) + 1 := IntWalk.i64_in _ (by omega)
    cases b with
    | true =>
     go_wp2_with (go_at_fn g; refine HCALL.out.mono ?_; rintro e w' ⟨rfl, hb'⟩)
     go_ret
     have hn := HN.out
     simp only [if_true] at hn
     exact ⟨by rw [← Option.some.inj hn] <;> rfl, HB.out.trans (hb'.mono HB.out.size)⟩
    | false =>
     go_wp2_with (go_at_fn g; refine HCALL.out.mono ?_; rintro e w' ⟨rfl, hb'⟩)
     go_roundg (l0.length - (kk + 1))
     case measure => have := HK.out; omega
     case rel =>
      have hn := HN.out
      simp only [Bool.false_eq_true, if_false] at hn
      exact ⟨kk + 1, by go_num, ⟨by omega, by omega⟩, ⟨HB.out.trans (hb'.mono HB.out.size)⟩, ⟨hn⟩⟩
  ·have hge : ¬ (kk : Int) < (l0.length : Int) := by omega
   have hr := H.out
   rw [List.drop_eq_nil_of_le (by omega)] at hr
   have HR := Aside0.mk (Option.some.inj hr)
   clear hr
   go_wp2
   go_ret
   exact ⟨by rw [← HR.out] <;> rfl, HB.out⟩
end Go.Proofs.Ytelhcijoegjjnaa.P
namespace Go.Proofs.Ytelhcijoegjjnaa.P
open Go.RowKit Go.Proofs.YtelhcijoegjjnaaW.PrintWords Go.Proofs.YtelhcijoegjjnaaW.PrintLast Go.Proofs.YtelhcijoegjjnaaW.PrintMore
attribute [local go_sem] max2_int min2_int max_two min_two max_three min_three max_four min_four
set_option linter.unusedVariables false
set_option linter.unusedSimpArgs false
set_option maxHeartbeats 1000000 in
set_option maxRecDepth 100000 in
theorem ContainsFunc_Field (g : Nat) (lb : Array Value) (eg : ∀ args w, (callFunc g args).run Try.prog w = .ok (.enter g args) w) (p : S40 → Option Bool) (A0 : Option Addr) (c0 : Nat) (l0 : List S40) (r : Bool) (w : World)
  (hp : Fn.Such Try.prog g lb k40 p w) (hr0 : Kd.C k40 w A0 l0.length l0) (hc0 : l0.length ≤ c0) (h : Fn.anyO p l0 = some r) :
  Calls Try.prog 47 #[.slice A0 l0.length c0, .func (.func g) #[] lb] w fun e w' => e = .returned (.bool r) ∧ Below w.heap.size w w' := by
 obtain ⟨n, hn, hnr⟩ := Fn.idxO_any p l0 0 r h
 have HC := Aside0.mk (IndexFunc_Field g lb eg p A0 c0 l0 n w hp hr0 hc0 hn)
 have HN := Aside0.mk hnr
 clear hp hr0 hc0 h hn hnr eg
 go_enter Try.func47, Try.ntmps47
 go_wp2_with (go_at_call 77; (with_reducible refine HC.out.mono ?_); rintro e w' ⟨rfl, hb⟩)
 go_ret
 exact ⟨by rw [← HN.out] <;> rfl, hb⟩
end Go.Proofs.Ytelhcijoegjjnaa.P
namespace Go.Proofs.Ytelhcijoegjjnaa.P
open Go.RowKit Go.Proofs.YtelhcijoegjjnaaW.PrintWords Go.Proofs.YtelhcijoegjjnaaW.PrintLast Go.Proofs.YtelhcijoegjjnaaW.PrintMore
attribute [local go_sem] max2_int min2_int max_two min_two max_three min_three max_four min_four
set_option linter.unusedVariables false
set_option linter.unusedSimpArgs false
def slices_Contains_string_string.f (l0 : List ByteArray) (a1 : ByteArray) : Option Bool := some (Str.hasB l0 a1)
theorem row_addr_s {w : World} {A : Option Addr} {xs : List ByteArray} (h : Kd.C Kd.string w A xs.length xs) (hne : 0 < xs.length) : ∃ b off, A = some ⟨b, off, none⟩ := by
 obtain ⟨ad, e, h0⟩ := Kd.at_string h 0 (by omega) (by exact_mod_cast hne)
 rcases ad with ⟨b, off, spot⟩
 rcases spot with _ | s
 ·exact ⟨b, off, e⟩
 ·exfalso
  rw [show (Addr.add ⟨b, off, some s⟩ (Int.toNat 0)) = ⟨b, off, some s⟩ from rfl] at h0
  unfold World.cell? at h0
  split at h0 <;> simp at h0
theorem slices_Contains_string_string.calls (A0 : Option Addr) (c0 : Nat) (l0 : List ByteArray) (a1 : ByteArray) (r : Bool) (w : World) (hr0 : Kd.C Kd.string w A0 l0.length l0) (hc0 : l0.length ≤ c0) (h : slices_Contains_string_string.f l0 a1 = some r) :
  Calls Try.prog 49 #[.slice A0 l0.length c0, .string a1] w fun e w' => e = .returned (.bool r) ∧ Drawn0 w w' := by
 obtain rfl := Option.some.inj h
 have hmax := Kd.C_max hr0
 rcases l0 with _ | ⟨x, xs⟩
 ·exact (Try.slices_Contains_string_empty A0 c0 a1 w).mono (by rintro e w' ⟨rfl, rfl⟩; exact ⟨by simp [Str.hasB], Drawn0.refl _⟩)
 ·obtain ⟨b, off, rfl⟩ := row_addr_s hr0 (by simp)
  refine (Try.slices_Contains_string b off _ c0 (x :: xs) a1 w (Nat.le_refl _) hmax (fun j hj => ?_)).mono ?_
  ·obtain ⟨ad, e, hc⟩ := Kd.at_string hr0 (j : Int) (by omega) (by exact_mod_cast hj)
   cases e
   simpa [rdOf, Addr.add_lit] using hc
  ·rintro e w' ⟨rfl, rfl⟩
   refine ⟨?_, Drawn0.refl _⟩
   rw [List.take_length]
   congr 2
   rw [Bool.eq_iff_iff, Lib.containsS_iff]
   unfold Str.hasB
   rw [List.any_eq_true]
   constructor
   ·intro hm
    exact ⟨a1, hm, by simp⟩
   ·rintro ⟨y, hy, e⟩
    have e2 : y = a1 := Go.WideShapes.bytes_inj (of_decide_eq_true e)
    exact e2 ▸ hy
end Go.Proofs.Ytelhcijoegjjnaa.P
namespace Go.Proofs.Ytelhcijoegjjnaa.P
open Go.RowKit Go.Proofs.YtelhcijoegjjnaaW.PrintWords Go.Proofs.YtelhcijoegjjnaaW.PrintLast Go.Proofs.YtelhcijoegjjnaaW.PrintMore
attribute [local go_sem] max2_int min2_int max_two min_two max_three min_three max_four min_four
set_option linter.unusedVariables false
set_option linter.unusedSimpArgs false
def twiceE (x : S48) : Bool := !Str.nodupB (x.f1.map (·.f0))
def twiceM (x : S38) : Bool := !Str.nodupB (x.f1.map (·.f0)) || x.f1.any fun f => decide (f.f6.size ≠ 0) && Str.hasB (x.f1.map (·.f0)) f.f6
theorem Once_nodup (l : List ByteArray) (h : l.length ≤ 8796093022208) : ident_Once.f l = some (Str.nodupB l) := by
 unfold ident_Once.f
 rw [if_pos (by omega)]
 rfl
set_option maxHeartbeats 1000000 in
set_option maxRecDepth 100000 in
theorem twice1_such (w : World) : Fn.Such Try.prog 44 #[] k48 (fun x => if x.f1.length ≤ 8796093022208 then some (twiceE x) else none) w := by
 intro W x cs r hb hK hp
 obtain ⟨A1, c1, rfl, hl1, hC1⟩ := k48_open hK
 replace hp : (if x.f1.length ≤ 8796093022208 then some (twiceE x) else none) = some r := hp
 split at hp
 case isFalse => cases hp
 case isTrue hlim =>
 obtain ⟨k, hk⟩ := schema_valueNames.tells x.f0 x.f1 hlim
 have HR := Aside0.mk (Option.some.inj hp)
 have HV := Aside0.mk (fun (W' : World) (hb' : Below W.heap.size W W') => schema_valueNames.calls k x.f0 A1 c1 x.f1 _ W' (Kd.C_below hC1 hb') hl1 hk)
 have HO := Aside0.mk (fun (W' : World) (A : Option Addr) (c : Nat) (hl : (x.f1.map (·.f0)).length ≤ c) (hC : Kd.C Kd.string W' A (x.f1.map (·.f0)).length (x.f1.map (·.f0))) => ident_Once.calls A c _ _ W' hC hl (Once_nodup _ (by simpa using hlim)))
 have HX := Aside0.mk (show twiceE x = !Str.nodupB (x.f1.map (·.f0)) from rfl)
 generalize x.f1.map (·.f0) = names at *
 generalize hb1 : Str.nodupB names = b1 at *
 clear hb hK hp hC1 hk hlim hb1
 go_enter Try.func44, Try.ntmps44
 go_wp2_with fail
 refine (HV.out _ (below_alloc (Below.refl _ _) _)).mono ?_
 rintro e w1 ⟨v0, rfl, hR0, hb1⟩
 obtain ⟨A, c, rfl, hl, hC⟩ := Kd.R_reads hR0
 have HC := Aside0.mk hC
 have HL := Aside0.mk hl
 have HB := Aside0.mk (below_then (below_alloc (Below.refl _ _) _) (by simp) hb1)
 clear hR0 hl hC hb1
 go_wp2_with (go_at_call 9; (with_reducible refine (HO.out _ _ _ HL.out HC.out).mono ?_); rintro e w' ⟨rfl, hb⟩)
 go_ret
 exact ⟨by rw [← HR.out, HX.out] <;> rfl, HB.out.trans (hb.mono HB.out.size)⟩
set_option maxHeartbeats 1000000 in
set_option maxRecDepth 100000 in
theorem twice21_such (w : World) (B : Nat) (A2 : Option Addr) (c2 : Nat) (l2 : List ByteArray) (hB : B < w.heap.size) (hcell : w.cell? ⟨B, 0, none⟩ = some (.slice A2 l2.length c2)) (hl : l2.length ≤ c2) (hC : Kd.C Kd.string w A2 l2.length l2) :
  Fn.Such Try.prog 48 #[.pointer (some ⟨B, 0, none⟩)] k40 (fun f => some (decide (f.f6.size ≠ 0) && Str.hasB l2 f.f6)) w := by
 intro W x cs r hb hK hp
 obtain rfl := k40_open hK
 have HR := Aside0.mk (Option.some.inj hp)
 have HC := Aside0.mk (fun (W' : World) (hb' : Below W.heap.size W W') => slices_Contains_string_string.calls A2 c2 l2 x.f6 _ W' (Kd.C_below (Kd.C_below hC hb) hb') hl rfl)
 have hcell2 : W.cell? ⟨B, 0, none⟩ = some (.slice A2 l2.length c2) := (hb.cell (p := ⟨B, 0, none⟩) hB).trans hcell
 have hlt1 : B < W.heap.size := Nat.lt_of_lt_of_le hB hb.size
 have hne : ¬ B = W.heap.size := by have := hb.size; omega
 clear hb hK hp hC hcell hB hl
 by_cases h0 : x.f6.size = 0
 ·have h1 : x.f6.toList.isEmpty = true := by
   rw [Lib.toList_data]
   have : x.f6.data.toList.length = 0 := by simpa using h0
   rw [List.eq_nil_of_length_eq_zero this]; rfl
  have hemp : x.f6.toList = [] := by simpa using h1
  have HX := Aside0.mk (show (decide (x.f6.size ≠ 0) && Str.hasB l2 x.f6) = false by simp [h0])
  clear h0
  go_enter Try.func48, Try.ntmps48
  go_wp2
  go_ret
  exact ⟨by rw [← HR.out, HX.out] <;> rfl, below_alloc (Below.refl _ _) _⟩
 ·have h1 : x.f6.toList.isEmpty = false := by
   rw [Lib.toList_data]
   have : x.f6.data.toList.length ≠ 0 := by simpa using h0
   cases h : x.f6.data.toList with
   | nil => rw [h] at this; exact absurd rfl this
   | cons => rfl
  have h1b : (!x.f6.toList.isEmpty) = true := by rw [h1]; rfl
  have HX := Aside0.mk (show (decide (x.f6.size ≠ 0) && Str.hasB l2 x.f6) = Str.hasB l2 x.f6 by simp [h0])
  clear h0
  go_enter Try.func48, Try.ntmps48
  go_wp2_with (go_at_call 49; (refine (HC.out _ (below_alloc (Below.refl _ _) _)).mono ?_); rintro e w' ⟨rfl, ⟨m, rfl⟩⟩)
  go_ret
  exact ⟨by rw [← HR.out, HX.out] <;> rfl, pw_below_drewN (below_alloc (Below.refl _ _) _) m⟩
set_option maxHeartbeats 2000000 in
set_option maxRecDepth 100000 in
theorem twice2_such (w : World) : Fn.Such Try.prog 45 #[] k38 (fun x => if x.f1.length ≤ 8796093022208 then some (twiceM x) else none) w := by
 intro W x cs r hb hK hp
 obtain ⟨A1, c1, A2, c2, rfl, hl1, hC1, hl2, hC2⟩ := k38_open hK
 replace hp : (if x.f1.length ≤ 8796093022208 then some (twiceM x) else none) = some r := hp
 split at hp
 case isFalse => cases hp
 case isTrue hlim =>
 obtain ⟨k, hk⟩ := schema_fieldNames.tells x.f0 x.f1 x.f2 hlim
 have HR := Aside0.mk (Option.some.inj hp)
 have HV := Aside0.mk (fun (W' : World) (hb' : Below W.heap.size W W') => schema_fieldNames.calls k x.f0 A1 c1 x.f1 A2 c2 x.f2 _ W' (Kd.C_below hC1 hb') hl1 (Kd.C_below hC2 hb') hl2 hk)
 have HO := Aside0.mk (fun (W' : World) (A : Option Addr) (c : Nat) (hl : (x.f1.map (·.f0)).length ≤ c) (hC : Kd.C Kd.string W' A (x.f1.map (·.f0)).length (x.f1.map (·.f0))) => ident_Once.calls A c _ _ W' hC hl (Once_nodup _ (by simpa using hlim)))
 have HF := Aside0.mk (fun (W' : World) (hb' : Below W.heap.size W W') (B : Nat) (A : Option Addr) (c : Nat) (hB : B < W'.heap.size) (hcell : W'.cell? ⟨B, 0, none⟩ = some (.slice A (x.f1.map (·.f0)).length c)) (hl : (x.f1.map (·.f0)).length ≤ c) (hC : Kd.C Kd.string W' A (x.f1.map (·.f0)).length (x.f1.map (·.f0))) =>
  ContainsFunc_Field 48 #[.pointer (some ⟨B, 0, none⟩)] (enters_of Try.func48 (by kernel_rfl) rfl) _ A1 c1 x.f1 _ W' (twice21_such W' B A c (x.f1.map (·.f0)) hB hcell hl hC) (Kd.C_below hC1 hb') hl1 (Fn.anyO_some (fun _ _ => rfl)))
 have HX := Aside0.mk (show twiceM x = (!Str.nodupB (x.f1.map (·.f0)) || x.f1.any fun f => decide (f.f6.size ≠ 0) && Str.hasB (x.f1.map (·.f0)) f.f6) from rfl)
 have HB0 := Aside0.mk (fun o => below_alloc (Below.refl W.heap.size W) o)
 generalize x.f1.map (·.f0) = names at *
 generalize hb1 : Str.nodupB names = b1 at *
 generalize hb2 : (x.f1.any fun f => decide (f.f6.size ≠ 0) && Str.hasB names f.f6) = b2 at *
 clear hb hK hp hC1 hC2 hk hlim hb1 hb2
 go_enter Try.func45, Try.ntmps45
 go_wp2_with fail
 refine (HV.out _ (HB0.out _)).mono ?_
 rintro e w1 ⟨v0, rfl, hR0, hb⟩
 obtain ⟨A, c, rfl, hl, hC⟩ := Kd.R_reads hR0
 have HB1 := Aside0.mk (below_then (HB0.out _) (HB0.out _).size hb)
 have hsz : W.heap.size < w1.heap.size := by have := hb.size; simp at this; omega
 have hn1 : ¬ W.heap.size = w1.heap.size := by omega
 have hc0 : w1.cell? ⟨W.heap.size, 1, none⟩ = some (.slice A1 x.f1.length c1) := (hb.cell (p := ⟨W.heap.size, 1, none⟩) (by simp)).trans (by simp)
 have HL := Aside0.mk hl
 have HC := Aside0.mk hC
 clear hR0 hb hl hC
 go_wp2_with fail
 have HB2 := Aside0.mk (HB1.out.alloc HB1.out.size (.cells #[.slice A names.length c] 22))
 have HC2 := Aside0.mk (Kd.C_below HC.out (below_alloc (Below.refl _ _) (.cells #[.slice A names.length c] 22)))
 refine (HO.out _ A c HL.out HC2.out).mono ?_
 rintro e w2 ⟨rfl, hb⟩
 have HB3 := Aside0.mk (below_then HB2.out HB2.out.size hb)
 have hsz2 : w1.heap.size < w2.heap.size := by have := hb.size; simp at this; omega
 have hc1 : w2.cell? ⟨W.heap.size, 1, none⟩ = some (.slice A1 x.f1.length c1) := pw_cell_below hb (pw_cell_below (below_alloc (Below.refl _ _) _) hc0)
 have HCC := Aside0.mk (show w2.cell? ⟨w1.heap.size, 0, none⟩ = some (.slice A names.length c) from (hb.cell (p := ⟨w1.heap.size, 0, none⟩) (by simp)).trans (by simp))
 have HC3 := Aside0.mk (Kd.C_below HC2.out hb)
 have HSZ2 := Aside0.mk hsz2
 clear hb hc0
 cases b1 with
 | false =>
  go_wp2_with fail
  go_ret
  exact ⟨by rw [← HR.out, HX.out] <;> rfl, HB3.out⟩
 | true =>
  go_wp2_with fail
  refine (HF.out _ HB3.out w1.heap.size A c HSZ2.out HCC.out HL.out HC3.out).mono ?_
  rintro e w3 ⟨rfl, hb⟩
  have HB4 := Aside0.mk (below_then HB3.out HB3.out.size hb)
  clear hb
  go_wp2_with fail
  go_ret
  exact ⟨by rw [← HR.out, HX.out] <;> rfl, HB4.out⟩
theorem pair_C {W : World} {b : Nat} {A1 A2 : Option Addr} {c1 c2 : Nat} {la lb : List ByteArray} {T : TypeId} (hb : W.heap[b]? = some (.cells #[.slice A1 la.length c1, .slice A2 lb.length c2] T (0, 0))) (h1 : la.length ≤ c1) (h2 : lb.length ≤ c2) (hC1 : Kd.C Kd.string W A1 la.length la) (hC2 : Kd.C Kd.string W A2 lb.length lb) :
  Kd.C (Kd.slice 9 Kd.string) W (some ⟨b, 0, none⟩) [la, lb].length [la, lb] := by
 refine ⟨rfl, by simp, fun _ => ⟨_, rfl, fun j p hj => ?_⟩⟩
 rcases j with _ | _ | j
 ·obtain rfl := Option.some.inj hj
  refine ⟨[.slice A1 la.length c1], rfl, ⟨A1, c1, rfl, h1, hC1⟩, fun i u hu => ?_⟩
  have hi : i = 0 := by have := (List.getElem?_eq_some_iff.1 hu).1; simp at this; omega
  subst hi
  obtain rfl : Value.slice A1 la.length c1 = u := by simpa using hu
  simp [Addr.add, World.cell?, hb]
 ·obtain rfl : lb = p := by simpa using hj
  refine ⟨[.slice A2 lb.length c2], rfl, ⟨A2, c2, rfl, h2, hC2⟩, fun i u hu => ?_⟩
  have hi : i = 0 := by have := (List.getElem?_eq_some_iff.1 hu).1; simp at this; omega
  subst hi
  obtain rfl : Value.slice A2 lb.length c2 = u := by simpa using hu
  have : (Kd.slice 9 Kd.string).sz = 1 := rfl
  simp [Addr.add, World.cell?, hb, this]
 ·simp at hj
def schema_twice.f (l0_0 : List S48) (l0_1 : List S38) : Option Bool :=
 if (decide (l0_0.length ≤ 4000000) && decide (l0_1.length ≤ 4000000) && l0_0.all (fun x => decide (x.f1.length ≤ 8796093022208)) && l0_1.all (fun x => decide (x.f1.length ≤ 8796093022208))) = true
 then some (!Str.nodupB (l0_0.map (·.f0) ++ l0_1.map (·.f0)) || l0_0.any twiceE || l0_1.any twiceM) else none
set_option maxHeartbeats 2000000 in
set_option maxRecDepth 100000 in
theorem schema_twice.calls (A0_0 : Option Addr) (c0_0 : Nat) (l0_0 : List S48) (A0_1 : Option Addr) (c0_1 : Nat) (l0_1 : List S38) (r : Bool) (w : World)
  (hr0_0 : Kd.C k48 w A0_0 l0_0.length l0_0) (hc0_0 : l0_0.length ≤ c0_0) (hr0_1 : Kd.C k38 w A0_1 l0_1.length l0_1) (hc0_1 : l0_1.length ≤ c0_1) (h : schema_twice.f l0_0 l0_1 = some r) :
  Calls Try.prog 23 #[.agg #[.slice A0_0 l0_0.length c0_0, .slice A0_1 l0_1.length c0_1]] w fun e w' => e = .returned (.bool r) ∧ Below w.heap.size w w' := by
 unfold schema_twice.f at h
 split at h
 case isFalse => cases h
 case isTrue hlim =>
 simp only [Bool.and_eq_true, decide_eq_true_eq] at hlim
 obtain ⟨⟨⟨hl1, hl2⟩, hl3⟩, hl4⟩ := hlim
 obtain ⟨k, hk⟩ := schema_names.tells l0_0 l0_1 (by omega) (by omega)
 have hany1 : Fn.anyO (fun x : S48 => if x.f1.length ≤ 8796093022208 then some (twiceE x) else none) l0_0 = some (l0_0.any twiceE) :=
  Fn.anyO_some (fun x hx => if_pos (of_decide_eq_true (List.all_eq_true.1 hl3 x hx)))
 have hany2 : Fn.anyO (fun x : S38 => if x.f1.length ≤ 8796093022208 then some (twiceM x) else none) l0_1 = some (l0_1.any twiceM) :=
  Fn.anyO_some (fun x hx => if_pos (of_decide_eq_true (List.all_eq_true.1 hl4 x hx)))
 have HR := Aside0.mk (Option.some.inj h)
 have HB0 := Aside0.mk (fun o => below_alloc (Below.refl w.heap.size w) o)
 have HN := Aside0.mk (fun (W : World) (hb : Below w.heap.size w W) => schema_names.calls k A0_0 c0_0 l0_0 A0_1 c0_1 l0_1 _ _ W (Kd.C_below hr0_0 hb) hc0_0 (Kd.C_below hr0_1 hb) hc0_1 hk)
 have C1 := Aside0.mk (fun (W : World) (hb : Below w.heap.size w W) => eachEnum_such 44 #[] (enters_of Try.func44 (by kernel_rfl) rfl) _ A0_0 c0_0 l0_0 (.slice A0_1 l0_1.length c0_1) _ W (twice1_such W) (Kd.C_below hr0_0 hb) hc0_0 hany1)
 have C2 := Aside0.mk (fun (W : World) (hb : Below w.heap.size w W) => eachMessage_such 45 #[] (enters_of Try.func45 (by kernel_rfl) rfl) _ (.slice A0_0 l0_0.length c0_0) A0_1 c0_1 l0_1 _ W (twice2_such W) (Kd.C_below hr0_1 hb) hc0_1 hany2)
 have hla : (l0_0.map (·.f0)).length ≤ 4000000 := by simpa using hl1
 have hlb : (l0_1.map (·.f0)).length ≤ 4000000 := by simpa using hl2
 generalize l0_0.map (fun x => x.f0) = la at *
 generalize l0_1.map (fun x => x.f0) = lb at *
 have HCC := Aside0.mk (fun (W : World) (b : Nat) (hC : Kd.C (Kd.slice 9 Kd.string) W (some ⟨b, 0, none⟩) [la, lb].length [la, lb]) => slices_Concat_string_string.calls (some ⟨b, 0, none⟩) 2 [la, lb] (la ++ lb) W hC (by simp) (by unfold slices_Concat_string_string.f; rw [if_pos (by simp; omega)]; simp))
 have HO := Aside0.mk (fun (W' : World) (A : Option Addr) (c : Nat) (hl : (la ++ lb).length ≤ c) (hC : Kd.C Kd.string W' A (la ++ lb).length (la ++ lb)) => ident_Once.calls A c _ _ W' hC hl (Once_nodup _ (by simp; omega)))
 generalize hb0 : Str.nodupB (la ++ lb) = b0 at *
 generalize hb1 : l0_0.any twiceE = b1 at *
 generalize hb2 : l0_1.any twiceM = b2 at *
 clear h hr0_0 hr0_1 hk hl1 hl2 hl3 hl4 hany1 hany2 hla hlb hb0 hb1 hb2
 go_enter Try.func23, Try.ntmps23
 go_wp2_with fail
 refine (HN.out _ (HB0.out _)).mono ?_
 rintro e w1 ⟨v0, v1, rfl, hR0, hR1, hb⟩
 obtain ⟨Aa, ca, rfl, hla, hCa⟩ := Kd.R_reads hR0
 obtain ⟨Ab, cb, rfl, hlb, hCb⟩ := Kd.R_reads hR1
 have HB1 := Aside0.mk (below_then (HB0.out _) (HB0.out _).size hb)
 have hsz : w.heap.size < w1.heap.size := by have := hb.size; simp at this; omega
 have HC0 := Aside0.mk (show w1.cell? ⟨w.heap.size, 0, none⟩ = some (.slice A0_0 l0_0.length c0_0) from (hb.cell (p := ⟨w.heap.size, 0, none⟩) (by simp)).trans (by simp))
 have HC1 := Aside0.mk (show w1.cell? ⟨w.heap.size, 1, none⟩ = some (.slice A0_1 l0_1.length c0_1) from (hb.cell (p := ⟨w.heap.size, 1, none⟩) (by simp)).trans (by simp))
 have HCA := Aside0.mk hCa
 have HCB := Aside0.mk hCb
 have HLA := Aside0.mk hla
 have HLB := Aside0.mk hlb
 clear hR0 hR1 hb hCa hCb hla hlb
 go_wp2_with fail
 have hB2 := below_alloc (Below.refl w1.heap.size w1) (.cells #[.slice Aa la.length ca, .slice Ab lb.length cb] 22)
 have HB2 := Aside0.mk (HB1.out.alloc HB1.out.size (.cells #[.slice Aa la.length ca, .slice Ab lb.length cb] 22))
 have HP := Aside0.mk (pair_C (W := w1.alloc (.cells #[.slice Aa la.length ca, .slice Ab lb.length cb] 22)) (b := w1.heap.size) (heap_alloc_new w1 _) HLA.out HLB.out (Kd.C_below HCA.out hB2) (Kd.C_below HCB.out hB2))
 have HC0' := Aside0.mk (pw_cell_below hB2 HC0.out)
 have HC1' := Aside0.mk (pw_cell_below hB2 HC1.out)
 clear hB2
 refine (HCC.out _ w1.heap.size HP.out).mono ?_
 rintro e w2 ⟨v2, rfl, hR2, hb⟩
 obtain ⟨A2, c2, rfl, hl2, hC2⟩ := Kd.R_reads hR2
 have HB3 := Aside0.mk (below_then HB2.out HB2.out.size hb)
 have HL2 := Aside0.mk hl2
 have HC2 := Aside0.mk hC2
 have HD0 := Aside0.mk (pw_cell_below hb HC0'.out)
 have HD1 := Aside0.mk (pw_cell_below hb HC1'.out)
 clear hR2 hl2 hC2 hb
 generalize la ++ lb = lab at *
 go_wp2_with fail
 refine (HO.out _ _ _ HL2.out HC2.out).mono ?_
 rintro e w3 ⟨rfl, hb⟩
 have HB4 := Aside0.mk (below_then HB3.out HB3.out.size hb)
 have hd0 := pw_cell_below hb HD0.out
 have hd1 := pw_cell_below hb HD1.out
 clear hb
 cases b0 with
 | false =>
  go_wp2_with fail
  go_ret
  exact ⟨by rw [← HR.out] <;> rfl, HB4.out⟩
 | true =>
  go_wp2_with fail
  refine (C1.out _ HB4.out).mono ?_
  rintro e w4 ⟨rfl, hb⟩
  have HB5 := Aside0.mk (below_then HB4.out HB4.out.size hb)
  have he0 := pw_cell_below hb hd0
  have he1 := pw_cell_below hb hd1
  clear hb hd0 hd1
  cases b1 with
  | true =>
   go_wp2_with fail
   go_ret
   exact ⟨by rw [← HR.out] <;> rfl, HB5.out⟩
  | false =>
   go_wp2_with fail
   refine (C2.out _ HB5.out).mono ?_
   rintro e w5 ⟨rfl, hb⟩
   have HB6 := Aside0.mk (below_then HB5.out HB5.out.size hb)
   clear hb he0 he1
   go_wp2_with fail
   go_ret
   exact ⟨by rw [← HR.out] <;> rfl, HB6.out⟩
end Go.Proofs.Ytelhcijoegjjnaa.P
namespace Go.Proofs.Ytelhcijoegjjnaa.P
open Go.RowKit Go.Proofs.YtelhcijoegjjnaaW.PrintWords Go.Proofs.YtelhcijoegjjnaaW.PrintLast Go.Proofs.YtelhcijoegjjnaaW.PrintMore
attribute [local go_sem] max2_int min2_int max_two min_two max_three min_three max_four min_four
set_option linter.unusedVariables false
set_option linter.unusedSimpArgs false
def schema_rises.l0 : Nat → List Int → List Int → Int → Int → Option (Bool)
 | 0, _, _, _, _ => none
 | k + 1, x0, x5, x6, x7 => if x7 < x6 then (if 0 ≤ x7 then (if x7 < (x5.length : Int) then (if x7 > 0 then (if 0 ≤ (wrap64 (x7 - 1)) then (if (wrap64 (x7 - 1)) < (x0.length : Int) then (if (rd x0 (wrap64 (x7 - 1))) ≥ (rd x5 x7) then (some false) else (schema_rises.l0 k x0 x5 x6 (wrap64 (x7 + 1)))) else (none)) else (none)) else (schema_rises.l0 k x0 x5 x6 (wrap64 (x7 + 1)))) else (none)) else (none)) else (some true)
def schema_rises.f (k : Nat) (l0 : List Int) : Option (Bool) := schema_rises.l0 k l0 l0 (l0.length : Int) 0
theorem schema_rises.mono_l : ∀ k, (∀ y0 y1 y2 y3, LeO (schema_rises.l0 k y0 y1 y2 y3) (schema_rises.l0 (k + 1) y0 y1 y2 y3))
 | 0 => fun _ _ _ _ r h => by simp [schema_rises.l0] at h
 | k + 1 => by
  have ih0 := schema_rises.mono_l k
  ·intro y0 y1 y2 y3
   unfold schema_rises.l0
   repeat' first
   | (with_reducible exact ih0 _ _ _ _)
   | (with_reducible exact LeO.refl _)
   | (with_reducible exact LeO.none _)
   | (with_reducible refine LeO.ite ?_ ?_)
   | (with_reducible refine LeO.bind ?_ (fun _ => ?_))
   | exact ih0 _ _ _ _
   | exact LeO.none _
   | refine LeO.ite ?_ ?_
   | refine LeO.bind ?_ (fun _ => ?_)
theorem schema_rises.mono : ∀ a0 k, LeO (schema_rises.f k a0) (schema_rises.f (k + 1) a0) := by
 intro a0 k
 have ih0 := schema_rises.mono_l k
 unfold schema_rises.f
 repeat' first
   | (with_reducible exact ih0 _ _ _ _)
   | (with_reducible exact LeO.refl _)
   | (with_reducible exact LeO.none _)
   | (with_reducible refine LeO.ite ?_ ?_)
   | (with_reducible refine LeO.bind ?_ (fun _ => ?_))
   | exact ih0 _ _ _ _
   | exact LeO.none _
   | refine LeO.ite ?_ ?_
   | refine LeO.bind ?_ (fun _ => ?_)
set_option maxHeartbeats 8000000 in
set_option maxRecDepth 100000 in
theorem schema_rises.calls (k : Nat) (A0 : Option Addr) (c0 : Nat) (l0 : List Int) (r : Bool) (w : World) (hr0 : Kd.C (Kd.int .i64) w A0 l0.length l0) (hc0 : l0.length ≤ c0) (h : schema_rises.f k l0 = some r) :
  Calls Try.prog 79 #[.slice A0 l0.length c0] w fun e w' => e = .returned (.bool r) ∧ Drawn0 w w' := by
 have HR0 := Aside0.mk hr0
 have HC0 := Aside0.mk hc0
 clear hr0 hc0
 have H : (schema_rises.l0 k l0 l0 (l0.length : Int) 0) = some r := h
 clear h
 have H' := Aside0.mk H
 clear H
 go_enter Try.func79, Try.ntmps79
 go_wp2
 go_loopg [7] k (fun kq v7 w' => ∃ (x7_1 : Int), v7 = .int .i64 x7_1 ∧ Aside0 (schema_rises.l0 kq l0 l0 (l0.length : Int) x7_1 = some r) ∧ Aside0 (kq ≤ k) ∧ Drawn0 w w')
 case atStart => exact ⟨(0), (by first | rfl | (simp; done) | (simp [*]; done)), H', ⟨Nat.le_refl _⟩, by repeat (first | exact Drawn0.refl _ | apply Drawn0.step)⟩
 case round =>
  clear H'
  obtain ⟨x7_1, rfl, HA, HK1, ⟨m1, rfl⟩⟩ := hrel
  cases gk with
  | zero => exact absurd HA.out (by simp [schema_rises.l0])
  | succ k1 =>
   have H := HA.out
   clear HA
   simp only [schema_rises.l0] at H
   by_cases c2 : x7_1 < (l0.length : Int)
   ·rw [if_pos c2] at H
    have c2b0 : decide (x7_1 < (l0.length : Int)) = true := decide_eq_true c2
    clear c2
    by_cases c3 : 0 ≤ x7_1
    ·rw [if_pos c3] at H
     have c3b0 : decide (0 ≤ x7_1) = true := decide_eq_true c3
     clear c3
     by_cases c4 : x7_1 < (l0.length : Int)
     ·rw [if_pos c4] at H
      have c4b0 : decide (x7_1 < (l0.length : Int)) = true := decide_eq_true c4
      clear c4
      by_cases c5 : x7_1 > 0
      ·rw [if_pos c5] at H
       have c5b0 : decide (0 < x7_1) = true := decide_eq_true c5
       clear c5
       obtain ⟨ji6, hji6⟩ : ∃ j_ : Int, (wrap64 (x7_1 - 1)) = j_ := ⟨_, rfl⟩
       replace H : (if 0 ≤ (ji6) then (if (ji6) < (l0.length : Int) then (if (rd l0 (ji6)) ≥ (rd l0 x7_1) then (some false) else (schema_rises.l0 k1 l0 l0 (l0.length : Int) (wrap64 (x7_1 + 1)))) else (none)) else (none)) = some r := by first | (rw [hji6] at H; exact H) | (simp only [hji6] at H ⊢; exact H)
       have hji6w : (IntKind.i64.wrap (x7_1 - 1)) = ji6 := (i64_w _).trans hji6
       by_cases c7 : 0 ≤ (ji6)
       ·rw [if_pos c7] at H
        have c7b0 : decide (0 ≤ (ji6)) = true := decide_eq_true c7
        clear c7
        by_cases c8 : (ji6) < (l0.length : Int)
        ·rw [if_pos c8] at H
         have c8b0 : decide ((ji6) < (l0.length : Int)) = true := decide_eq_true c8
         clear c8
         by_cases c9 : (rd l0 (ji6)) ≥ (rd l0 x7_1)
         ·rw [if_pos c9] at H
          have c9b0 : decide ((rd l0 x7_1) ≤ (rd l0 (ji6))) = true := decide_eq_true c9
          clear c9
          obtain rfl := Option.some.inj H
          have p201 : 0 ≤ (x7_1 : Int) := of_decide_eq_true (by first | (with_reducible assumption) | assumption)
          have q201 : x7_1 < (l0.length : Int) := of_decide_eq_true (by first | (with_reducible assumption) | assumption)
          obtain ⟨ad201, e201, hx201_0⟩ := Kd.at_int HR0.out x7_1 p201 q201
          cases e201
          replace p201 := eq_true p201
          replace q201 := eq_true q201
          have p202 : 0 ≤ ((ji6) : Int) := of_decide_eq_true (by first | (with_reducible assumption) | assumption)
          have q202 : (ji6) < (l0.length : Int) := of_decide_eq_true (by first | (with_reducible assumption) | assumption)
          obtain ⟨ad202, e202, hx202_0⟩ := Kd.at_int HR0.out (ji6) p202 q202
          obtain rfl : ad201 = ad202 := (by injection e202)
          replace p202 := eq_true p202
          replace q202 := eq_true q202
          go_wp2
          go_ret
          exact ⟨by first | rfl | (simp; done) | (simp only [← hji6] <;> (first | rfl | simp)) | (simp [*]; done), by repeat (first | exact Drawn0.refl _ | apply Drawn0.step)⟩
         ·rw [if_neg c9] at H
          have c9b0 : decide ((rd l0 x7_1) ≤ (rd l0 (ji6))) = false := decide_eq_false c9
          clear c9
          have H' := Aside0.mk H
          clear H
          have p201 : 0 ≤ (x7_1 : Int) := of_decide_eq_true (by first | (with_reducible assumption) | assumption)
          have q201 : x7_1 < (l0.length : Int) := of_decide_eq_true (by first | (with_reducible assumption) | assumption)
          obtain ⟨ad201, e201, hx201_0⟩ := Kd.at_int HR0.out x7_1 p201 q201
          cases e201
          replace p201 := eq_true p201
          replace q201 := eq_true q201
          have p202 : 0 ≤ ((ji6) : Int) := of_decide_eq_true (by first | (with_reducible assumption) | assumption)
          have q202 : (ji6) < (l0.length : Int) := of_decide_eq_true (by first | (with_reducible assumption) | assumption)
          obtain ⟨ad202, e202, hx202_0⟩ := Kd.at_int HR0.out (ji6) p202 q202
          obtain rfl : ad201 = ad202 := (by injection e202)
          replace p202 := eq_true p202
          replace q202 := eq_true q202
          go_wp2
          go_roundg k1
          case measure => have := HK1.out; omega
          case rel => exact ⟨(wrap64 (x7_1 + 1)), (by first | rfl | (simp; done) | (simp [*]; done)), H', ⟨by have := HK1.out; omega⟩, by repeat (first | exact Drawn0.refl _ | apply Drawn0.step)⟩
        ·rw [if_neg c8] at H
         exact absurd H (by simp)
       ·rw [if_neg c7] at H
        exact absurd H (by simp)
      ·rw [if_neg c5] at H
       have c5b0 : decide (0 < x7_1) = false := decide_eq_false c5
       clear c5
       have H' := Aside0.mk H
       clear H
       have p201 : 0 ≤ (x7_1 : Int) := of_decide_eq_true (by first | (with_reducible assumption) | assumption)
       have q201 : x7_1 < (l0.length : Int) := of_decide_eq_true (by first | (with_reducible assumption) | assumption)
       obtain ⟨ad201, e201, hx201_0⟩ := Kd.at_int HR0.out x7_1 p201 q201
       cases e201
       replace p201 := eq_true p201
       replace q201 := eq_true q201
       go_wp2
       go_roundg k1
       case measure => have := HK1.out; omega
       case rel => exact ⟨(wrap64 (x7_1 + 1)), (by first | rfl | (simp; done) | (simp [*]; done)), H', ⟨by have := HK1.out; omega⟩, by repeat (first | exact Drawn0.refl _ | apply Drawn0.step)⟩
     ·rw [if_neg c4] at H
      exact absurd H (by simp)
    ·rw [if_neg c3] at H
     exact absurd H (by simp)
   ·rw [if_neg c2] at H
    have c2b0 : decide (x7_1 < (l0.length : Int)) = false := decide_eq_false c2
    clear c2
    obtain rfl := Option.some.inj H
    go_wp2
    go_ret
    exact ⟨by first | rfl | (simp; done) | (simp [*]; done), by repeat (first | exact Drawn0.refl _ | apply Drawn0.step)⟩
end Go.Proofs.Ytelhcijoegjjnaa.P
