-- Written by a program of this session (wip/tools/merge.py) for this claim: texts laid together.
import Derived.Test.YtelhcijoegjjnaaMSchemaLess2
import Derived.Test.YtelhcijoegjjnaaMSchemaLess4
import Derived.Test.YtelhcijoegjjnaaMSchemaLess5
namespace Go.Proofs.Ytelhcijoegjjnaa.P
open Go.RowKit Go.Proofs.YtelhcijoegjjnaaW.PrintWords Go.Proofs.YtelhcijoegjjnaaW.PrintLast Go.Proofs.YtelhcijoegjjnaaW.PrintMore
attribute [local go_sem] max2_int min2_int max_two min_two max_three min_three max_four min_four
set_option linter.unusedVariables false
set_option linter.unusedSimpArgs false
mutual
def ecdysislaw15_SchemaLess.j0 : Nat → Int → Bool → List (S48) → List (S38) → Option (Bool)
 | 0, _, _, _, _ => none
 | k + 1, x1, x18, x264000, x264001 => if x18 = true then ((ecdysislaw15_live.f k).bind fun t267 => (some t267)) else (if (x264001.length : Int) = 0 then (none) else (ecdysislaw15_SchemaLess.l0 k (Int.tmod (wrap64 (x1)) (x264001.length : Int)) 0 x264000 x264001))
def ecdysislaw15_SchemaLess.l0 : Nat → Int → Int → List (S48) → List (S38) → Option (Bool)
 | 0, _, _, _, _ => none
 | k + 1, x5, x6, x264000, x264001 => if x6 < (x264001.length : Int) then (ecdysislaw15_SchemaLess.l1 k x5 x6 0 x264000 x264001) else ((ecdysisref15_Copy.f k x264000 x264001).bind fun bt274 => (if 0 ≤ x5 then (if x5 ≤ (bt274.2.length : Int) then (if 0 ≤ (wrap64 (x5 + 1)) then (if (wrap64 (x5 + 1)) ≤ (bt274.2.length : Int) then ((some (bt274.2.eraseIdx (x5 : Int).toNat : List (S38))).bind fun y289 => (if (y289.length : Int) = 0 then ((schema_Check.f k bt274.1 y289).bind fun t292 => ((ecdysislaw15_num.f t292).bind fun t293 => (if t293 = 5 then ((ecdysislaw15_live.f k).bind fun t294 => (some t294)) else (some false)))) else ((schema_Check.f k bt274.1 y289).bind fun t295 => ((ecdysislaw15_num.f t295).bind fun t296 => (if t296 = 0 then ((ecdysislaw15_live.f k).bind fun t297 => (some t297)) else (some false)))))) else (none)) else (none)) else (none)) else (none)))
def ecdysislaw15_SchemaLess.l1 : Nat → Int → Int → Int → List (S48) → List (S38) → Option (Bool)
 | 0, _, _, _, _, _ => none
 | k + 1, x5, x6, x7, x264000, x264001 => if 0 ≤ x6 then (if x6 < (x264001.length : Int) then (if x7 < (((rd_T38 x264001 x6).f1).length : Int) then (if 0 ≤ x7 then (if x6 = x5 then (ecdysislaw15_SchemaLess.l1 k x5 x6 (wrap64 (x7 + 1)) x264000 x264001) else (if ((rd_T40 ((rd_T38 x264001 x6).f1) x7).f2) = 15 then (if 0 ≤ x5 then (if x5 < (x264001.length : Int) then (if ((rd_T40 ((rd_T38 x264001 x6).f1) x7).f3).toList = ((rd_T38 x264001 x5).f0).toList then ((ecdysislaw15_live.f k).bind fun t273 => (some t273)) else (ecdysislaw15_SchemaLess.l1 k x5 x6 (wrap64 (x7 + 1)) x264000 x264001)) else (none)) else (none)) else (ecdysislaw15_SchemaLess.l1 k x5 x6 (wrap64 (x7 + 1)) x264000 x264001))) else (none)) else (ecdysislaw15_SchemaLess.l0 k x5 (wrap64 (x6 + 1)) x264000 x264001)) else (none)) else (none)
end
def ecdysislaw15_SchemaLess.f (k : Nat) (l0_0 : List (S48)) (l0_1 : List (S38)) (a1 : Int) : Option (Bool) := (ecdysisref15_Small.f k l0_0 l0_1).bind fun t264 => (if t264 = true then ((schema_Check.f k l0_0 l0_1).bind fun t265 => ((ecdysislaw15_num.f t265).bind fun t266 => (ecdysislaw15_SchemaLess.j0 k a1 (t266 != 0) l0_0 l0_1))) else (ecdysislaw15_SchemaLess.j0 k a1 true l0_0 l0_1))
theorem ecdysislaw15_SchemaLess.mono_l : ∀ k, (∀ y0 y1 y2 y3, LeO (ecdysislaw15_SchemaLess.j0 k y0 y1 y2 y3) (ecdysislaw15_SchemaLess.j0 (k + 1) y0 y1 y2 y3)) ∧ (∀ y0 y1 y2 y3, LeO (ecdysislaw15_SchemaLess.l0 k y0 y1 y2 y3) (ecdysislaw15_SchemaLess.l0 (k + 1) y0 y1 y2 y3)) ∧ (∀ y0 y1 y2 y3 y4, LeO (ecdysislaw15_SchemaLess.l1 k y0 y1 y2 y3 y4) (ecdysislaw15_SchemaLess.l1 (k + 1) y0 y1 y2 y3 y4))
 | 0 => ⟨fun _ _ _ _ r h => by simp [ecdysislaw15_SchemaLess.j0] at h, fun _ _ _ _ r h => by simp [ecdysislaw15_SchemaLess.l0] at h, fun _ _ _ _ _ r h => by simp [ecdysislaw15_SchemaLess.l1] at h⟩
 | k + 1 => by
  obtain ⟨ih0, ih1, ih2⟩ := ecdysislaw15_SchemaLess.mono_l k
  refine ⟨?_, ?_, ?_⟩
  ·intro y0 y1 y2 y3
   unfold ecdysislaw15_SchemaLess.j0
   repeat' first
   | (with_reducible exact ih0 _ _ _ _)
   | (with_reducible exact ih1 _ _ _ _)
   | (with_reducible exact ih2 _ _ _ _ _)
   | (with_reducible exact ecdysislaw15_live.mono _)
   | (with_reducible exact ecdysisref15_Copy.mono _ _ _)
   | (with_reducible exact ecdysisref15_Small.mono _ _ _)
   | (with_reducible exact schema_Check.mono _ _ _)
   | (with_reducible exact LeO.refl _)
   | (with_reducible exact LeO.none _)
   | (with_reducible refine LeO.ite ?_ ?_)
   | (with_reducible refine LeO.bind ?_ (fun _ => ?_))
   | exact ih0 _ _ _ _
   | exact ih1 _ _ _ _
   | exact ih2 _ _ _ _ _
   | exact ecdysislaw15_live.mono _
   | exact ecdysisref15_Copy.mono _ _ _
   | exact ecdysisref15_Small.mono _ _ _
   | exact schema_Check.mono _ _ _
   | exact LeO.none _
   | refine LeO.ite ?_ ?_
   | refine LeO.bind ?_ (fun _ => ?_)
  ·intro y0 y1 y2 y3
   unfold ecdysislaw15_SchemaLess.l0
   repeat' first
   | (with_reducible exact ih0 _ _ _ _)
   | (with_reducible exact ih1 _ _ _ _)
   | (with_reducible exact ih2 _ _ _ _ _)
   | (with_reducible exact ecdysislaw15_live.mono _)
   | (with_reducible exact ecdysisref15_Copy.mono _ _ _)
   | (with_reducible exact ecdysisref15_Small.mono _ _ _)
   | (with_reducible exact schema_Check.mono _ _ _)
   | (with_reducible exact LeO.refl _)
   | (with_reducible exact LeO.none _)
   | (with_reducible refine LeO.ite ?_ ?_)
   | (with_reducible refine LeO.bind ?_ (fun _ => ?_))
   | exact ih0 _ _ _ _
   | exact ih1 _ _ _ _
   | exact ih2 _ _ _ _ _
   | exact ecdysislaw15_live.mono _
   | exact ecdysisref15_Copy.mono _ _ _
   | exact ecdysisref15_Small.mono _ _ _
   | exact schema_Check.mono _ _ _
   | exact LeO.none _
   | refine LeO.ite ?_ ?_
   | refine LeO.bind ?_ (fun _ => ?_)
  ·intro y0 y1 y2 y3 y4
   unfold ecdysislaw15_SchemaLess.l1
   repeat' first
   | (with_reducible exact ih0 _ _ _ _)
   | (with_reducible exact ih1 _ _ _ _)
   | (with_reducible exact ih2 _ _ _ _ _)
   | (with_reducible exact ecdysislaw15_live.mono _)
   | (with_reducible exact ecdysisref15_Copy.mono _ _ _)
   | (with_reducible exact ecdysisref15_Small.mono _ _ _)
   | (with_reducible exact schema_Check.mono _ _ _)
   | (with_reducible exact LeO.refl _)
   | (with_reducible exact LeO.none _)
   | (with_reducible refine LeO.ite ?_ ?_)
   | (with_reducible refine LeO.bind ?_ (fun _ => ?_))
   | exact ih0 _ _ _ _
   | exact ih1 _ _ _ _
   | exact ih2 _ _ _ _ _
   | exact ecdysislaw15_live.mono _
   | exact ecdysisref15_Copy.mono _ _ _
   | exact ecdysisref15_Small.mono _ _ _
   | exact schema_Check.mono _ _ _
   | exact LeO.none _
   | refine LeO.ite ?_ ?_
   | refine LeO.bind ?_ (fun _ => ?_)
theorem ecdysislaw15_SchemaLess.mono : ∀ a0 a1 a2 k, LeO (ecdysislaw15_SchemaLess.f k a0 a1 a2) (ecdysislaw15_SchemaLess.f (k + 1) a0 a1 a2) := by
 intro a0 a1 a2 k
 obtain ⟨ih0, ih1, ih2⟩ := ecdysislaw15_SchemaLess.mono_l k
 unfold ecdysislaw15_SchemaLess.f
 repeat' first
   | (with_reducible exact ih0 _ _ _ _)
   | (with_reducible exact ih1 _ _ _ _)
   | (with_reducible exact ih2 _ _ _ _ _)
   | (with_reducible exact ecdysislaw15_live.mono _)
   | (with_reducible exact ecdysisref15_Copy.mono _ _ _)
   | (with_reducible exact ecdysisref15_Small.mono _ _ _)
   | (with_reducible exact schema_Check.mono _ _ _)
   | (with_reducible exact LeO.refl _)
   | (with_reducible exact LeO.none _)
   | (with_reducible refine LeO.ite ?_ ?_)
   | (with_reducible refine LeO.bind ?_ (fun _ => ?_))
   | exact ih0 _ _ _ _
   | exact ih1 _ _ _ _
   | exact ih2 _ _ _ _ _
   | exact ecdysislaw15_live.mono _
   | exact ecdysisref15_Copy.mono _ _ _
   | exact ecdysisref15_Small.mono _ _ _
   | exact schema_Check.mono _ _ _
   | exact LeO.none _
   | refine LeO.ite ?_ ?_
   | refine LeO.bind ?_ (fun _ => ?_)
def ecdysislaw15_SchemaLess.T11 : Bool × List (List Nat × List Nat) := (true, [([], []), ([], []), ([0, 1], [0, 1]), ([2], [2]), ([3], [3]), ([4, 3], [3, 4]), ([5, 3], [3, 5]), ([3, 6], [3, 6]), ([7, 3], [7]), ([8], [8]), ([9, 8], [8, 9]), ([8], [8]), ([11, 8], [8, 11]), ([8], [8]), ([12, 13, 8], [8, 12, 13]), ([14, 8], [8, 14]), ([15, 8], [8, 15]), ([10, 16, 8], [8, 10, 16]), ([8, 17], [8, 17])])
def ecdysislaw15_SchemaLess.B11 : List Nat := [0, 0, 3, 7, 15, 31, 63, 127, 255, 511, 1023, 511, 2559, 511, 14847, 31231, 63999, 131071, 262143]
theorem ecdysislaw15_SchemaLess.tab11 : rtab .any (opsOf Try.f5 11) = ecdysislaw15_SchemaLess.T11 := by kernel_rfl
theorem ecdysislaw15_SchemaLess.bits11 : waitsOk ecdysislaw15_SchemaLess.T11.2 ecdysislaw15_SchemaLess.B11 = true := by kernel_rfl
def ecdysislaw15_SchemaLess.T14 : Bool × List (List Nat × List Nat) := (true, [([], []), ([0], [0]), ([], []), ([1, 2], [1, 2]), ([], []), ([4], [4]), ([], []), ([6], [6]), ([5, 7], [5, 7]), ([3, 8], [3, 8]), ([0, 1, 2, 3, 4, 5, 6, 7, 8, 9], []), ([10, 9, 9, 0, 1, 2, 3, 4, 5, 6, 7, 8, 9], [9, 10])])
def ecdysislaw15_SchemaLess.B14 : List Nat := [0, 1, 0, 7, 0, 16, 0, 64, 240, 511, 1023, 2047]
theorem ecdysislaw15_SchemaLess.tab14 : rtab .any (opsOf Try.f5 14) = ecdysislaw15_SchemaLess.T14 := by kernel_rfl
theorem ecdysislaw15_SchemaLess.bits14 : waitsOk ecdysislaw15_SchemaLess.T14.2 ecdysislaw15_SchemaLess.B14 = true := by kernel_rfl
set_option maxHeartbeats 8000000 in
set_option maxRecDepth 100000 in
theorem ecdysislaw15_SchemaLess.calls (k : Nat) (A0_0 : Option Addr) (c0_0 : Nat) (l0_0 : List (S48)) (A0_1 : Option Addr) (c0_1 : Nat) (l0_1 : List (S38)) (a1 : Int) (r : Bool) (w : World) (hr0_0 : Kd.C k48 w A0_0 l0_0.length l0_0) (hc0_0 : l0_0.length ≤ c0_0) (hr0_1 : Kd.C k38 w A0_1 l0_1.length l0_1) (hc0_1 : l0_1.length ≤ c0_1) (h : ecdysislaw15_SchemaLess.f k l0_0 l0_1 a1 = some r) :
  Calls Try.prog 5 #[.agg #[.slice A0_0 l0_0.length c0_0, .slice A0_1 l0_1.length c0_1], .int .u8 a1] w fun e w' => e = .returned (.bool r) ∧ Below w.heap.size w w' := by
 have hu30 := Try.underlying30
 have hu40 := Try.underlying40
 have HR0_0 := Aside0.mk hr0_0
 have HC0_0 := Aside0.mk hc0_0
 clear hr0_0 hc0_0
 have HR0_1 := Aside0.mk hr0_1
 have HC0_1 := Aside0.mk hc0_1
 clear hr0_1 hc0_1
 have HB := Aside0.mk (Below.refl w.heap.size w)
 have H : ((ecdysisref15_Small.f k l0_0 l0_1).bind fun t264 => (if t264 = true then ((schema_Check.f k l0_0 l0_1).bind fun t265 => ((ecdysislaw15_num.f t265).bind fun t266 => (ecdysislaw15_SchemaLess.j0 k a1 (t266 != 0) l0_0 l0_1))) else (ecdysislaw15_SchemaLess.j0 k a1 true l0_0 l0_1))) = some r := h
 clear h
 have HC3 := Aside0.mk H
 clear H
 go_enter Try.func5, Try.ntmps5
 go_upto_region 1 with (first | ((with_reducible refine gate_dst (N := 2) rfl ?_); refine box_event ?hg (N := 2) ?hd (cs := #[.slice A0_0 l0_0.length c0_0, .slice A0_1 l0_1.length c0_1]) (t := 30) ?hr ?_; (case hd => rfl); (case hg => rfl); (case hr => first | (go_simp; done) | (go_simp; rfl)); intro gb263 hg w4 hbox hb; have n0_ := Aside0.mk (below_step (by repeat (first | (with_reducible first | exact HB.out | apply below_alloc | apply pw_below_drewN | apply below_drew1) | exact HB.out)) hb); have n1_ := Aside0.mk (hbox); have n2_ := Aside0.mk ((by rw [hg]; exact (below_size (by repeat (first | (with_reducible first | exact HB.out | apply below_alloc | apply pw_below_drewN | apply below_drew1) | exact HB.out))) : w.heap.size ≤ gb263)); have n3_ := Aside0.mk ((by rw [hg]; exact (below_size (by repeat (first | (with_reducible first | exact HB.out | apply below_alloc | apply pw_below_drewN | apply below_drew1) | exact HB.out))) : w.heap.size ≤ gb263)); clear HB; have HB := n0_; have BK263 := n1_; have GW263 := n2_; have GE263 := n3_; clear n0_ n1_ n2_ n3_; clear hb hbox hg))
 (try simp only [Act.put, List.setIfInBounds_toArray, List.set_cons_zero, List.set_cons_succ])
 go_cut [18] (fun v18 wc => ∃ (kq : Nat) (x18_2 : Bool), v18 = .bool x18_2 ∧ Aside0 (ecdysislaw15_SchemaLess.j0 kq a1 x18_2 l0_0 l0_1 = some r) ∧ Aside0 (kq ≤ k) ∧ Aside0 (wc.heap[gb263]? = some (.cells #[(.slice A0_0 l0_0.length c0_0), (.slice A0_1 l0_1.length c0_1)] 30 (0, 0))) ∧ Aside0 (Below w.heap.size w wc))
 case first =>
  have H := HC3.out
  clear HC3
  replace H := Option.bind_eq_some_iff.mp H
  obtain ⟨t264, A50, H⟩ := H
  replace H : (if t264 = true then ((schema_Check.f k l0_0 l0_1).bind fun t265 => ((ecdysislaw15_num.f t265).bind fun t266 => (ecdysislaw15_SchemaLess.j0 k a1 (t266 != 0) l0_0 l0_1))) else (ecdysislaw15_SchemaLess.j0 k a1 true l0_0 l0_1)) = some r := H
  have A5 := Aside0.mk A50
  clear A50
  by_cases c6 : t264 = true
  ·subst c6
   have H1 : ((schema_Check.f k l0_0 l0_1).bind fun t265 => ((ecdysislaw15_num.f t265).bind fun t266 => (ecdysislaw15_SchemaLess.j0 k a1 (t266 != 0) l0_0 l0_1))) = some r := by rw [if_pos rfl] at H; exact H
   clear H
   have H := H1
   clear H1
   replace H := Option.bind_eq_some_iff.mp H
   obtain ⟨t265, A70, H⟩ := H
   replace H : ((ecdysislaw15_num.f t265).bind fun t266 => (ecdysislaw15_SchemaLess.j0 k a1 (t266 != 0) l0_0 l0_1)) = some r := H
   have A7 := Aside0.mk A70
   clear A70
   replace H := Option.bind_eq_some_iff.mp H
   obtain ⟨t266, A80, H⟩ := H
   replace H : (ecdysislaw15_SchemaLess.j0 k a1 (t266 != 0) l0_0 l0_1) = some r := H
   have A8 := Aside0.mk A80
   clear A80
   have H' := Aside0.mk H
   clear H
   have hcz9_0 : w4.cell? ⟨gb263, 0, none⟩ = some (.slice A0_0 l0_0.length c0_0) := (blk_cell BK263.out 0).trans rfl
   have hcz9_1 : w4.cell? ⟨gb263, 1, none⟩ = some (.slice A0_1 l0_1.length c0_1) := (blk_cell BK263.out 1).trans rfl
   have hfz9_0 := blk_frozen BK263.out 0
   have hfz9_1 := blk_frozen BK263.out 1
   go_wp2_with (first | ((with_reducible refine gate_callee (f := 11) rfl ?_); refine goesL_ (some 11) rfl rfl Try.func11 (by kernel_rfl) rfl #[.agg #[.slice A0_0 l0_0.length c0_0, .slice A0_1 l0_1.length c0_1]] rfl (by (try simp only [List.map_toArray, List.map_cons, List.map_nil]); first | done | rfl | (simp only [List.length_drop, List.length_take]; rfl)) ?_; (with_reducible refine (ecdysisref15_Small.calls k _ _ l0_0 _ _ l0_1 true _ ?side1 ?side2 ?side3 ?side4 A5.out).mono ?_); (case side1 => repeat (first | exact (Kd.C_below HR0_0.out HB.out) | (with_reducible refine Kd.C_alloc ?_ _) | (with_reducible refine Kd.C_drewN ?_ _) | (with_reducible refine Kd.C_drew ?_))); (case side2 => exact HC0_0.out); (case side3 => repeat (first | exact (Kd.C_below HR0_1.out HB.out) | (with_reducible refine Kd.C_alloc ?_ _) | (with_reducible refine Kd.C_drewN ?_ _) | (with_reducible refine Kd.C_drew ?_))); (case side4 => exact HC0_1.out); rintro e w10 ⟨rfl, hb⟩; refine ⟨_, rfl, ?_⟩; have n0_ := Aside0.mk (blk_below (g := gb263) (o := .cells #[.slice A0_0 l0_0.length c0_0, .slice A0_1 l0_1.length c0_1] 30 (0, 0)) (by (with_reducible repeat (first | refine blk_drewN ?_ _ | refine blk_drew ?_ | refine blk_alloc ?_ _)); exact BK263.out) hb); have n1_ := Aside0.mk (below_step (by repeat (first | (with_reducible first | exact HB.out | apply below_alloc | apply pw_below_drewN | apply below_drew1 | refine below_set ?_ GE263.out) | exact HB.out)) hb); clear BK263; clear HB; have BK263 := n0_; have HB := n1_; clear n0_ n1_; (try clear hb); (try clear hb2); (try clear hk); (try clear hi); have hcz11_0 : w10.cell? ⟨gb263, 0, none⟩ = some (.slice A0_0 l0_0.length c0_0) := (blk_cell BK263.out 0).trans rfl; have hcz11_1 : w10.cell? ⟨gb263, 1, none⟩ = some (.slice A0_1 l0_1.length c0_1) := (blk_cell BK263.out 1).trans rfl; have hfz11_0 := blk_frozen BK263.out 0; have hfz11_1 := blk_frozen BK263.out 1) | (go_at_call 13; (with_reducible refine (schema_Check.calls k _ _ l0_0 _ _ l0_1 t265 _ ?side1 ?side2 ?side3 ?side4 A7.out).mono ?_); (case side1 => repeat (first | exact (Kd.C_below HR0_0.out HB.out) | (with_reducible refine Kd.C_alloc ?_ _) | (with_reducible refine Kd.C_drewN ?_ _) | (with_reducible refine Kd.C_drew ?_))); (case side2 => exact HC0_0.out); (case side3 => repeat (first | exact (Kd.C_below HR0_1.out HB.out) | (with_reducible refine Kd.C_alloc ?_ _) | (with_reducible refine Kd.C_drewN ?_ _) | (with_reducible refine Kd.C_drew ?_))); (case side4 => exact HC0_1.out); rintro e w12 ⟨rfl, hb⟩; have n0_ := Aside0.mk (blk_below (g := gb263) (o := .cells #[.slice A0_0 l0_0.length c0_0, .slice A0_1 l0_1.length c0_1] 30 (0, 0)) (by (with_reducible repeat (first | refine blk_drewN ?_ _ | refine blk_drew ?_ | refine blk_alloc ?_ _)); exact BK263.out) hb); have n1_ := Aside0.mk (below_step (by repeat (first | (with_reducible first | exact HB.out | apply below_alloc | apply pw_below_drewN | apply below_drew1 | refine below_set ?_ GE263.out) | exact HB.out)) hb); clear BK263; clear HB; have BK263 := n0_; have HB := n1_; clear n0_ n1_; (try clear hb); (try clear hb2); (try clear hk); (try clear hi)) | (go_at_call 12; (with_reducible refine (ecdysislaw15_num.calls t265 t266 _ A8.out).mono ?_); rintro e w' ⟨rfl, ⟨nd, rfl⟩⟩))
   go_meet
   case rel => exact ⟨_, ((t266 != 0)), (by first | rfl | (simp; done) | (simp [*]; done)), H', ⟨by first | omega | exact Nat.le_refl _⟩, ⟨by (with_reducible repeat (first | refine blk_drewN ?_ _ | refine blk_drew ?_ | refine blk_alloc ?_ _)); exact BK263.out⟩, ⟨by repeat (first | (with_reducible first | exact HB.out | apply below_alloc | apply pw_below_drewN | apply below_drew1 | refine below_set ?_ GE263.out) | exact HB.out)⟩⟩
  ·replace c6 := Bool.eq_false_iff.mpr c6
   subst c6
   have H1 : (ecdysislaw15_SchemaLess.j0 k a1 true l0_0 l0_1) = some r := by rw [if_neg (show ¬ (false = true) by decide)] at H; exact H
   clear H
   have H := H1
   clear H1
   have H' := Aside0.mk H
   clear H
   have hcz13_0 : w4.cell? ⟨gb263, 0, none⟩ = some (.slice A0_0 l0_0.length c0_0) := (blk_cell BK263.out 0).trans rfl
   have hcz13_1 : w4.cell? ⟨gb263, 1, none⟩ = some (.slice A0_1 l0_1.length c0_1) := (blk_cell BK263.out 1).trans rfl
   have hfz13_0 := blk_frozen BK263.out 0
   have hfz13_1 := blk_frozen BK263.out 1
   go_wp2_with (first | ((with_reducible refine gate_callee (f := 11) rfl ?_); refine goesL_ (some 11) rfl rfl Try.func11 (by kernel_rfl) rfl #[.agg #[.slice A0_0 l0_0.length c0_0, .slice A0_1 l0_1.length c0_1]] rfl (by (try simp only [List.map_toArray, List.map_cons, List.map_nil]); first | done | rfl | (simp only [List.length_drop, List.length_take]; rfl)) ?_; (with_reducible refine (ecdysisref15_Small.calls k _ _ l0_0 _ _ l0_1 false _ ?side1 ?side2 ?side3 ?side4 A5.out).mono ?_); (case side1 => repeat (first | exact (Kd.C_below HR0_0.out HB.out) | (with_reducible refine Kd.C_alloc ?_ _) | (with_reducible refine Kd.C_drewN ?_ _) | (with_reducible refine Kd.C_drew ?_))); (case side2 => exact HC0_0.out); (case side3 => repeat (first | exact (Kd.C_below HR0_1.out HB.out) | (with_reducible refine Kd.C_alloc ?_ _) | (with_reducible refine Kd.C_drewN ?_ _) | (with_reducible refine Kd.C_drew ?_))); (case side4 => exact HC0_1.out); rintro e w14 ⟨rfl, hb⟩; refine ⟨_, rfl, ?_⟩; have n0_ := Aside0.mk (blk_below (g := gb263) (o := .cells #[.slice A0_0 l0_0.length c0_0, .slice A0_1 l0_1.length c0_1] 30 (0, 0)) (by (with_reducible repeat (first | refine blk_drewN ?_ _ | refine blk_drew ?_ | refine blk_alloc ?_ _)); exact BK263.out) hb); have n1_ := Aside0.mk (below_step (by repeat (first | (with_reducible first | exact HB.out | apply below_alloc | apply pw_below_drewN | apply below_drew1 | refine below_set ?_ GE263.out) | exact HB.out)) hb); clear BK263; clear HB; have BK263 := n0_; have HB := n1_; clear n0_ n1_; (try clear hb); (try clear hb2); (try clear hk); (try clear hi)))
   go_meet
   case rel => exact ⟨_, (true), (by first | rfl | (simp; done) | (simp [*]; done)), H', ⟨by first | omega | exact Nat.le_refl _⟩, ⟨by (with_reducible repeat (first | refine blk_drewN ?_ _ | refine blk_drew ?_ | refine blk_alloc ?_ _)); exact BK263.out⟩, ⟨by repeat (first | (with_reducible first | exact HB.out | apply below_alloc | apply pw_below_drewN | apply below_drew1 | refine below_set ?_ GE263.out) | exact HB.out)⟩⟩
 case rest =>
  clear HC3
  try clear c1
  try clear p2
  try clear c5
  try clear c6
  try clear c11
  try clear hcz11_0
  try clear hcz11_1
  try clear hcz13_0
  try clear hcz13_1
  try clear hcz9_0
  try clear hcz9_1
  try clear hfz11_0
  try clear hfz11_1
  try clear hfz13_0
  try clear hfz13_1
  try clear hfz9_0
  try clear hfz9_1
  obtain ⟨kq, x18_2, rfl, HA, HJ2, BK263, HB⟩ := hcut
  cases kq with
  | zero => exact absurd HA.out (by simp [ecdysislaw15_SchemaLess.j0])
  | succ kj2 =>
   have H := HA.out
   clear HA
   simp only [ecdysislaw15_SchemaLess.j0] at H
   by_cases c15 : x18_2 = true
   ·subst c15
    have H1 : ((ecdysislaw15_live.f kj2).bind fun t267 => (some t267)) = some r := by rw [if_pos rfl] at H; exact H
    clear H
    have H := H1
    clear H1
    replace H := Option.bind_eq_some_iff.mp H
    obtain ⟨t267, A160, H⟩ := H
    replace H : (some t267) = some r := H
    have A16 := Aside0.mk A160
    clear A160
    obtain rfl := Option.some.inj H
    go_wp2_with (first | ((with_reducible refine gate_callee (f := 14) rfl ?_); refine goesL_ (some 19) rfl rfl Try.func14 (by kernel_rfl) rfl #[] rfl (by (try simp only [List.map_toArray, List.map_cons, List.map_nil]); first | done | rfl | (simp only [List.length_drop, List.length_take]; rfl)) ?_; (with_reducible refine (ecdysislaw15_live.calls kj2  t267 _ A16.out).mono ?_); rintro e w17 ⟨rfl, hb⟩; refine ⟨_, rfl, ?_⟩; have n0_ := Aside0.mk (blk_below (g := gb263) (o := .cells #[.slice A0_0 l0_0.length c0_0, .slice A0_1 l0_1.length c0_1] 30 (0, 0)) (by (with_reducible repeat (first | refine blk_drewN ?_ _ | refine blk_drew ?_ | refine blk_alloc ?_ _)); exact BK263.out) hb); have n1_ := Aside0.mk (below_step (by repeat (first | (with_reducible first | exact HB.out | apply below_alloc | apply pw_below_drewN | apply below_drew1 | refine below_set ?_ GE263.out) | exact HB.out)) hb); clear BK263; clear HB; have BK263 := n0_; have HB := n1_; clear n0_ n1_; (try clear hb); (try clear hb2); (try clear hk); (try clear hi)))
    go_ret
    exact ⟨by first | rfl | (simp [errW_none, errW_some] <;> rfl) | (simp [*, errW_none, errW_some] <;> rfl), by repeat (first | (with_reducible first | exact HB.out | apply below_alloc | apply pw_below_drewN | apply below_drew1 | refine below_set ?_ GE263.out) | exact HB.out)⟩
   ·replace c15 := Bool.eq_false_iff.mpr c15
    subst c15
    have H1 : (if (l0_1.length : Int) = 0 then (none) else (ecdysislaw15_SchemaLess.l0 kj2 (Int.tmod (wrap64 (a1)) (l0_1.length : Int)) 0 l0_0 l0_1)) = some r := by rw [if_neg (show ¬ (false = true) by decide)] at H; exact H
    clear H
    have H := H1
    clear H1
    by_cases c18 : (l0_1.length : Int) = 0
    ·rw [if_pos c18] at H
     exact absurd H (by simp)
    ·rw [if_neg c18] at H
     have c18b0 : ((l0_1.length : Int) == 0) = false := beq_eq_false_iff_ne.mpr c18
     have c18b1 : ((l0_1.length : Int) != 0) = true := bne_iff_ne.mpr c18
     have c18b2 : ¬ (l0_1 = []) := fun h_ => c18 (by rw [h_]; rfl)
     have H' := Aside0.mk H
     clear H
     have hcz19_0 : wc.cell? ⟨gb263, 0, none⟩ = some (.slice A0_0 l0_0.length c0_0) := (blk_cell BK263.out 0).trans rfl
     have hcz19_1 : wc.cell? ⟨gb263, 1, none⟩ = some (.slice A0_1 l0_1.length c0_1) := (blk_cell BK263.out 1).trans rfl
     have hfz19_0 := blk_frozen BK263.out 0
     have hfz19_1 := blk_frozen BK263.out 1
     go_wp2
     go_loopg [6] kj2 (fun kq v6 w' => ∃ (x6_2 : Int), v6 = .int .i64 x6_2 ∧ Aside0 (ecdysislaw15_SchemaLess.l0 kq (Int.tmod (wrap64 (a1)) (l0_1.length : Int)) x6_2 l0_0 l0_1 = some r) ∧ Aside0 (kq ≤ kj2) ∧ Aside0 (w'.heap[gb263]? = some (.cells #[(.slice A0_0 l0_0.length c0_0), (.slice A0_1 l0_1.length c0_1)] 30 (0, 0))) ∧ Aside0 (Below w.heap.size w w'))
     case atStart => exact ⟨(0), (by first | rfl | (simp; done) | (simp [*]; done)), H', ⟨Nat.le_refl _⟩, ⟨by (with_reducible repeat (first | refine blk_drewN ?_ _ | refine blk_drew ?_ | refine blk_alloc ?_ _)); exact BK263.out⟩, ⟨by repeat (first | (with_reducible first | exact HB.out | apply below_alloc | apply pw_below_drewN | apply below_drew1 | refine below_set ?_ GE263.out) | exact HB.out)⟩⟩
     case round =>
      clear H'
      try clear c1
      try clear p2
      try clear c5
      try clear c6
      try clear p6
      try clear c11
      try clear c14
      try clear c15
      try clear c18
      try clear c18b0
      try clear c18b1
      try clear c18b2
      try clear hcz11_0
      try clear hcz11_1
      try clear hcz13_0
      try clear hcz13_1
      try clear hcz19_0
      try clear hcz19_1
      try clear hcz9_0
      try clear hcz9_1
      try clear hfz11_0
      try clear hfz11_1
      try clear hfz13_0
      try clear hfz13_1
      try clear hfz19_0
      try clear hfz19_1
      try clear hfz9_0
      try clear hfz9_1
      try clear p2
      obtain ⟨x6_2, rfl, HA, HK2, BK263, HB⟩ := hrel
      cases gk with
      | zero => exact absurd HA.out (by simp [ecdysislaw15_SchemaLess.l0])
      | succ k2 =>
       have H := HA.out
       clear HA
       simp only [ecdysislaw15_SchemaLess.l0] at H
       by_cases c20 : x6_2 < (l0_1.length : Int)
       ·rw [if_pos c20] at H
        have c20b0 : decide (x6_2 < (l0_1.length : Int)) = true := decide_eq_true c20
        clear c20
        have H' := Aside0.mk H
        clear H
        have hcz21_0 : wr.cell? ⟨gb263, 0, none⟩ = some (.slice A0_0 l0_0.length c0_0) := (blk_cell BK263.out 0).trans rfl
        have hcz21_1 : wr.cell? ⟨gb263, 1, none⟩ = some (.slice A0_1 l0_1.length c0_1) := (blk_cell BK263.out 1).trans rfl
        have hfz21_0 := blk_frozen BK263.out 0
        have hfz21_1 := blk_frozen BK263.out 1
        go_wp2
        go_loopg [7] k2 (fun kq v7 w' => ∃ (x7_3 : Int), v7 = .int .i64 x7_3 ∧ Aside0 (ecdysislaw15_SchemaLess.l1 kq (Int.tmod (wrap64 (a1)) (l0_1.length : Int)) x6_2 x7_3 l0_0 l0_1 = some r) ∧ Aside0 (kq ≤ k2) ∧ Aside0 (w'.heap[gb263]? = some (.cells #[(.slice A0_0 l0_0.length c0_0), (.slice A0_1 l0_1.length c0_1)] 30 (0, 0))) ∧ Aside0 (Below w.heap.size w w'))
        case atStart => exact ⟨(0), (by first | rfl | (simp; done) | (simp [*]; done)), H', ⟨Nat.le_refl _⟩, ⟨by (with_reducible repeat (first | refine blk_drewN ?_ _ | refine blk_drew ?_ | refine blk_alloc ?_ _)); exact BK263.out⟩, ⟨by repeat (first | (with_reducible first | exact HB.out | apply below_alloc | apply pw_below_drewN | apply below_drew1 | refine below_set ?_ GE263.out) | exact HB.out)⟩⟩
        case round =>
         clear H'
         try clear c1
         try clear c2
         try clear p2
         try clear c5
         try clear c6
         try clear p6
         try clear c11
         try clear c14
         try clear c15
         try clear c18
         try clear c18b0
         try clear c18b1
         try clear c18b2
         try clear c20
         try clear c20b0
         try clear hcz11_0
         try clear hcz11_1
         try clear hcz13_0
         try clear hcz13_1
         try clear hcz19_0
         try clear hcz19_1
         try clear hcz21_0
         try clear hcz21_1
         try clear hcz9_0
         try clear hcz9_1
         try clear hfz11_0
         try clear hfz11_1
         try clear hfz13_0
         try clear hfz13_1
         try clear hfz19_0
         try clear hfz19_1
         try clear hfz21_0
         try clear hfz21_1
         try clear hfz9_0
         try clear hfz9_1
         try clear p2
         try clear p6
         obtain ⟨x7_3, rfl, HA, HK3, BK263, HB⟩ := hrel
         cases gk with
         | zero => exact absurd HA.out (by simp [ecdysislaw15_SchemaLess.l1])
         | succ k3 =>
          have H := HA.out
          clear HA
          simp only [ecdysislaw15_SchemaLess.l1] at H
          by_cases c22 : 0 ≤ x6_2
          ·rw [if_pos c22] at H
           have c22b0 : decide (0 ≤ x6_2) = true := decide_eq_true c22
           clear c22
           by_cases c23 : x6_2 < (l0_1.length : Int)
           ·rw [if_pos c23] at H
            have c23b0 : decide (x6_2 < (l0_1.length : Int)) = true := decide_eq_true c23
            clear c23
            by_cases c24 : x7_3 < (((rd_T38 l0_1 x6_2).f1).length : Int)
            ·rw [if_pos c24] at H
             have c24b0 : decide (x7_3 < (((rd_T38 l0_1 x6_2).f1).length : Int)) = true := decide_eq_true c24
             clear c24
             by_cases c25 : 0 ≤ x7_3
             ·rw [if_pos c25] at H
              have c25b0 : decide (0 ≤ x7_3) = true := decide_eq_true c25
              clear c25
              by_cases c26 : x6_2 = (Int.tmod (wrap64 (a1)) (l0_1.length : Int))
              ·rw [if_pos c26] at H
               have c26b0 : (x6_2 == (Int.tmod (wrap64 (a1)) (l0_1.length : Int))) = true := beq_iff_eq.mpr c26
               have c26b1 : (x6_2 != (Int.tmod (wrap64 (a1)) (l0_1.length : Int))) = false := bne_eq_false_iff_eq.mpr c26
               clear c26
               have H' := Aside0.mk H
               clear H
               have hcz27_0 : wr.cell? ⟨gb263, 0, none⟩ = some (.slice A0_0 l0_0.length c0_0) := (blk_cell BK263.out 0).trans rfl
               have hcz27_1 : wr.cell? ⟨gb263, 1, none⟩ = some (.slice A0_1 l0_1.length c0_1) := (blk_cell BK263.out 1).trans rfl
               have hfz27_0 := blk_frozen BK263.out 0
               have hfz27_1 := blk_frozen BK263.out 1
               have p268 : 0 ≤ (x6_2 : Int) := of_decide_eq_true (by first | (with_reducible assumption) | assumption)
               have q268 : x6_2 < (l0_1.length : Int) := of_decide_eq_true (by first | (with_reducible assumption) | assumption)
               obtain ⟨ad268, A268_1, c268_1, A268_2, c268_2, e268, hx268_0, hx268_1, hx268_2, hl268_1, hi268_1, hl268_2, hi268_2⟩ := at_T38 HR0_1.out x6_2 p268 q268
               cases e268
               replace hx268_0 := (HB.out.cell (World.block_lt_of_cell? w _ hx268_0)).trans hx268_0
               replace hx268_1 := (HB.out.cell (World.block_lt_of_cell? w _ hx268_1)).trans hx268_1
               replace hx268_2 := (HB.out.cell (World.block_lt_of_cell? w _ hx268_2)).trans hx268_2
               have HR268_1 := Aside0.mk hi268_1
               have HC268_1 := Aside0.mk hl268_1
               clear hi268_1 hl268_1
               have HR268_2 := Aside0.mk hi268_2
               have HC268_2 := Aside0.mk hl268_2
               clear hi268_2 hl268_2
               replace p268 := eq_true p268
               replace q268 := eq_true q268
               have p269 : 0 ≤ (x6_2 : Int) := of_decide_eq_true (by first | (with_reducible assumption) | assumption)
               have q269 : x6_2 < (l0_1.length : Int) := of_decide_eq_true (by first | (with_reducible assumption) | assumption)
               obtain ⟨ad269, A269_1, c269_1, A269_2, c269_2, e269, hx269_0, hx269_1, hx269_2, hl269_1, hi269_1, hl269_2, hi269_2⟩ := at_T38 HR0_1.out x6_2 p269 q269
               obtain rfl : ad268 = ad269 := (by injection e269)
               replace hx269_0 := (HB.out.cell (World.block_lt_of_cell? w _ hx269_0)).trans hx269_0
               replace hx269_1 := (HB.out.cell (World.block_lt_of_cell? w _ hx269_1)).trans hx269_1
               replace hx269_2 := (HB.out.cell (World.block_lt_of_cell? w _ hx269_2)).trans hx269_2
               have HR269_1 := Aside0.mk hi269_1
               have HC269_1 := Aside0.mk hl269_1
               clear hi269_1 hl269_1
               have HR269_2 := Aside0.mk hi269_2
               have HC269_2 := Aside0.mk hl269_2
               clear hi269_2 hl269_2
               replace p269 := eq_true p269
               replace q269 := eq_true q269
               have ea_ := Option.some.inj (hx268_1.symm.trans hx269_1)
               injection ea_ with ea_ en_ ec_
               subst ea_
               subst ec_
               clear en_
               have ea_ := Option.some.inj (hx268_2.symm.trans hx269_2)
               injection ea_ with ea_ en_ ec_
               subst ea_
               subst ec_
               clear en_
               have p270 : 0 ≤ (x7_3 : Int) := of_decide_eq_true (by first | (with_reducible assumption) | assumption)
               have q270 : x7_3 < (((rd_T38 l0_1 x6_2).f1).length : Int) := of_decide_eq_true (by first | (with_reducible assumption) | assumption)
               obtain ⟨ad270, e270, hx270_0, hx270_1, hx270_2, hx270_3, hx270_4, hx270_5, hx270_6⟩ := at_T40 HR269_1.out x7_3 p270 q270
               cases e270
               replace hx270_0 := (HB.out.cell (World.block_lt_of_cell? w _ hx270_0)).trans hx270_0
               replace hx270_1 := (HB.out.cell (World.block_lt_of_cell? w _ hx270_1)).trans hx270_1
               replace hx270_2 := (HB.out.cell (World.block_lt_of_cell? w _ hx270_2)).trans hx270_2
               replace hx270_3 := (HB.out.cell (World.block_lt_of_cell? w _ hx270_3)).trans hx270_3
               replace hx270_4 := (HB.out.cell (World.block_lt_of_cell? w _ hx270_4)).trans hx270_4
               replace hx270_5 := (HB.out.cell (World.block_lt_of_cell? w _ hx270_5)).trans hx270_5
               replace hx270_6 := (HB.out.cell (World.block_lt_of_cell? w _ hx270_6)).trans hx270_6
               replace p270 := eq_true p270
               replace q270 := eq_true q270
               try go_wp2_with (first | ((with_reducible refine gate_dst (N := 8) rfl ?_); refine box_event ?hg (N := 8) ?hd (cs := #[.string (⟨#[]⟩ : ByteArray), .int .i64 0, .int .i64 0, .string (⟨#[]⟩ : ByteArray), .bool false, .bool false, .string (⟨#[]⟩ : ByteArray)]) (t := 40) ?hr ?_; (case hd => rfl); (case hg => rfl); (case hr => first | (go_simp; done) | (go_simp; rfl)); intro gb271 hg w28 hbox hb; have n0_ := Aside0.mk (blk_below (g := gb263) (o := .cells #[.slice A0_0 l0_0.length c0_0, .slice (some ad268) l0_1.length c0_1] 30 (0, 0)) (by (with_reducible repeat (first | refine blk_drewN ?_ _ | refine blk_drew ?_ | refine blk_alloc ?_ _)); exact BK263.out) hb); have n1_ := Aside0.mk (below_step (by repeat (first | (with_reducible first | exact HB.out | apply below_alloc | apply pw_below_drewN | apply below_drew1 | refine below_set ?_ GE263.out) | exact HB.out)) hb); have n2_ := Aside0.mk (hbox); have n3_ := Aside0.mk ((by rw [hg]; exact (below_size (by repeat (first | (with_reducible first | exact HB.out | apply below_alloc | apply pw_below_drewN | apply below_drew1 | refine below_set ?_ GE263.out) | exact HB.out))) : w.heap.size ≤ gb271)); have n4_ := Aside0.mk ((by rw [hg]; exact (below_size (by repeat (first | (with_reducible first | exact HB.out | apply below_alloc | apply pw_below_drewN | apply below_drew1 | refine below_set ?_ GE263.out) | exact HB.out))) : w.heap.size ≤ gb271)); have n5_ := Aside0.mk ((by rw [hg]; exact Nat.ne_of_lt (blk_lt (g := gb263) (o := .cells #[.slice A0_0 l0_0.length c0_0, .slice (some ad268) l0_1.length c0_1] 30 (0, 0)) (by (with_reducible repeat (first | refine blk_drewN ?_ _ | refine blk_drew ?_ | refine blk_alloc ?_ _)); exact BK263.out)) : gb263 ≠ gb271)); have n6_ := Aside0.mk ((by rw [hg]; exact Nat.ne_of_gt (blk_lt (g := gb263) (o := .cells #[.slice A0_0 l0_0.length c0_0, .slice (some ad268) l0_1.length c0_1] 30 (0, 0)) (by (with_reducible repeat (first | refine blk_drewN ?_ _ | refine blk_drew ?_ | refine blk_alloc ?_ _)); exact BK263.out)) : gb271 ≠ gb263)); clear BK263; clear HB; have BK263 := n0_; have HB := n1_; have BK271 := n2_; have GW271 := n3_; have GE271 := n4_; have NB263_271 := n5_; have NB271_263 := n6_; clear n0_ n1_ n2_ n3_ n4_ n5_ n6_; clear hb hbox hg; have hnb29 := NB271_263.out; have hnc29 := NB263_271.out; have hcz30_0 : w28.cell? ⟨gb271, 0, none⟩ = some (.string (⟨#[]⟩ : ByteArray)) := (blk_cell BK271.out 0).trans rfl; have hcz30_1 : w28.cell? ⟨gb271, 1, none⟩ = some (.int .i64 0) := (blk_cell BK271.out 1).trans rfl; have hcz30_2 : w28.cell? ⟨gb271, 2, none⟩ = some (.int .i64 0) := (blk_cell BK271.out 2).trans rfl; have hcz30_3 : w28.cell? ⟨gb271, 3, none⟩ = some (.string (⟨#[]⟩ : ByteArray)) := (blk_cell BK271.out 3).trans rfl; have hcz30_4 : w28.cell? ⟨gb271, 4, none⟩ = some (.bool false) := (blk_cell BK271.out 4).trans rfl; have hcz30_5 : w28.cell? ⟨gb271, 5, none⟩ = some (.bool false) := (blk_cell BK271.out 5).trans rfl; have hcz30_6 : w28.cell? ⟨gb271, 6, none⟩ = some (.string (⟨#[]⟩ : ByteArray)) := (blk_cell BK271.out 6).trans rfl; have hfz30_0 := blk_frozen BK271.out 0; have hfz30_1 := blk_frozen BK271.out 1; have hfz30_2 := blk_frozen BK271.out 2; have hfz30_3 := blk_frozen BK271.out 3; have hfz30_4 := blk_frozen BK271.out 4; have hfz30_5 := blk_frozen BK271.out 5; have hfz30_6 := blk_frozen BK271.out 6))
               have n0_ : Aside0 ((((((((w28.setCell ⟨gb271, 0, none⟩ (.string ((rd_T40 ((rd_T38 l0_1 x6_2).f1) x7_3).f0))).setCell ⟨gb271, 1, none⟩ (.int .i64 ((rd_T40 ((rd_T38 l0_1 x6_2).f1) x7_3).f1))).setCell ⟨gb271, 2, none⟩ (.int .i64 ((rd_T40 ((rd_T38 l0_1 x6_2).f1) x7_3).f2))).setCell ⟨gb271, 3, none⟩ (.string ((rd_T40 ((rd_T38 l0_1 x6_2).f1) x7_3).f3))).setCell ⟨gb271, 4, none⟩ (.bool ((rd_T40 ((rd_T38 l0_1 x6_2).f1) x7_3).f4))).setCell ⟨gb271, 5, none⟩ (.bool ((rd_T40 ((rd_T38 l0_1 x6_2).f1) x7_3).f5))).setCell ⟨gb271, 6, none⟩ (.string ((rd_T40 ((rd_T38 l0_1 x6_2).f1) x7_3).f6))).heap[gb263]? = some (.cells #[.slice A0_0 l0_0.length c0_0, .slice (some ad268) l0_1.length c0_1] 30 (0, 0))) := ⟨by (with_reducible repeat (first | refine blk_drewN ?_ _ | refine blk_drew ?_ | refine blk_alloc ?_ _)); refine blk_far ?_ NB263_271.out _; (with_reducible repeat (first | refine blk_drewN ?_ _ | refine blk_drew ?_ | refine blk_alloc ?_ _)); refine blk_far ?_ NB263_271.out _; (with_reducible repeat (first | refine blk_drewN ?_ _ | refine blk_drew ?_ | refine blk_alloc ?_ _)); refine blk_far ?_ NB263_271.out _; (with_reducible repeat (first | refine blk_drewN ?_ _ | refine blk_drew ?_ | refine blk_alloc ?_ _)); refine blk_far ?_ NB263_271.out _; (with_reducible repeat (first | refine blk_drewN ?_ _ | refine blk_drew ?_ | refine blk_alloc ?_ _)); refine blk_far ?_ NB263_271.out _; (with_reducible repeat (first | refine blk_drewN ?_ _ | refine blk_drew ?_ | refine blk_alloc ?_ _)); refine blk_far ?_ NB263_271.out _; (with_reducible repeat (first | refine blk_drewN ?_ _ | refine blk_drew ?_ | refine blk_alloc ?_ _)); refine blk_far ?_ NB263_271.out _; (with_reducible repeat (first | refine blk_drewN ?_ _ | refine blk_drew ?_ | refine blk_alloc ?_ _)); exact BK263.out⟩
               have n1_ : Aside0 ((((((((w28.setCell ⟨gb271, 0, none⟩ (.string ((rd_T40 ((rd_T38 l0_1 x6_2).f1) x7_3).f0))).setCell ⟨gb271, 1, none⟩ (.int .i64 ((rd_T40 ((rd_T38 l0_1 x6_2).f1) x7_3).f1))).setCell ⟨gb271, 2, none⟩ (.int .i64 ((rd_T40 ((rd_T38 l0_1 x6_2).f1) x7_3).f2))).setCell ⟨gb271, 3, none⟩ (.string ((rd_T40 ((rd_T38 l0_1 x6_2).f1) x7_3).f3))).setCell ⟨gb271, 4, none⟩ (.bool ((rd_T40 ((rd_T38 l0_1 x6_2).f1) x7_3).f4))).setCell ⟨gb271, 5, none⟩ (.bool ((rd_T40 ((rd_T38 l0_1 x6_2).f1) x7_3).f5))).setCell ⟨gb271, 6, none⟩ (.string ((rd_T40 ((rd_T38 l0_1 x6_2).f1) x7_3).f6))).heap[gb271]? = some (.cells #[.string ((rd_T40 ((rd_T38 l0_1 x6_2).f1) x7_3).f0), .int .i64 ((rd_T40 ((rd_T38 l0_1 x6_2).f1) x7_3).f1), .int .i64 ((rd_T40 ((rd_T38 l0_1 x6_2).f1) x7_3).f2), .string ((rd_T40 ((rd_T38 l0_1 x6_2).f1) x7_3).f3), .bool ((rd_T40 ((rd_T38 l0_1 x6_2).f1) x7_3).f4), .bool ((rd_T40 ((rd_T38 l0_1 x6_2).f1) x7_3).f5), .string ((rd_T40 ((rd_T38 l0_1 x6_2).f1) x7_3).f6)] 40 (0, 0))) := ⟨by (with_reducible repeat (first | refine blk_drewN ?_ _ | refine blk_drew ?_ | refine blk_alloc ?_ _)); refine blk_put (cs := #[.string ((rd_T40 ((rd_T38 l0_1 x6_2).f1) x7_3).f0), .int .i64 ((rd_T40 ((rd_T38 l0_1 x6_2).f1) x7_3).f1), .int .i64 ((rd_T40 ((rd_T38 l0_1 x6_2).f1) x7_3).f2), .string ((rd_T40 ((rd_T38 l0_1 x6_2).f1) x7_3).f3), .bool ((rd_T40 ((rd_T38 l0_1 x6_2).f1) x7_3).f4), .bool ((rd_T40 ((rd_T38 l0_1 x6_2).f1) x7_3).f5), .string (⟨#[]⟩ : ByteArray)]) ?_ 6 _ rfl; (with_reducible repeat (first | refine blk_drewN ?_ _ | refine blk_drew ?_ | refine blk_alloc ?_ _)); refine blk_put (cs := #[.string ((rd_T40 ((rd_T38 l0_1 x6_2).f1) x7_3).f0), .int .i64 ((rd_T40 ((rd_T38 l0_1 x6_2).f1) x7_3).f1), .int .i64 ((rd_T40 ((rd_T38 l0_1 x6_2).f1) x7_3).f2), .string ((rd_T40 ((rd_T38 l0_1 x6_2).f1) x7_3).f3), .bool ((rd_T40 ((rd_T38 l0_1 x6_2).f1) x7_3).f4), .bool false, .string (⟨#[]⟩ : ByteArray)]) ?_ 5 _ rfl; (with_reducible repeat (first | refine blk_drewN ?_ _ | refine blk_drew ?_ | refine blk_alloc ?_ _)); refine blk_put (cs := #[.string ((rd_T40 ((rd_T38 l0_1 x6_2).f1) x7_3).f0), .int .i64 ((rd_T40 ((rd_T38 l0_1 x6_2).f1) x7_3).f1), .int .i64 ((rd_T40 ((rd_T38 l0_1 x6_2).f1) x7_3).f2), .string ((rd_T40 ((rd_T38 l0_1 x6_2).f1) x7_3).f3), .bool false, .bool false, .string (⟨#[]⟩ : ByteArray)]) ?_ 4 _ rfl; (with_reducible repeat (first | refine blk_drewN ?_ _ | refine blk_drew ?_ | refine blk_alloc ?_ _)); refine blk_put (cs := #[.string ((rd_T40 ((rd_T38 l0_1 x6_2).f1) x7_3).f0), .int .i64 ((rd_T40 ((rd_T38 l0_1 x6_2).f1) x7_3).f1), .int .i64 ((rd_T40 ((rd_T38 l0_1 x6_2).f1) x7_3).f2), .string (⟨#[]⟩ : ByteArray), .bool false, .bool false, .string (⟨#[]⟩ : ByteArray)]) ?_ 3 _ rfl; (with_reducible repeat (first | refine blk_drewN ?_ _ | refine blk_drew ?_ | refine blk_alloc ?_ _)); refine blk_put (cs := #[.string ((rd_T40 ((rd_T38 l0_1 x6_2).f1) x7_3).f0), .int .i64 ((rd_T40 ((rd_T38 l0_1 x6_2).f1) x7_3).f1), .int .i64 0, .string (⟨#[]⟩ : ByteArray), .bool false, .bool false, .string (⟨#[]⟩ : ByteArray)]) ?_ 2 _ rfl; (with_reducible repeat (first | refine blk_drewN ?_ _ | refine blk_drew ?_ | refine blk_alloc ?_ _)); refine blk_put (cs := #[.string ((rd_T40 ((rd_T38 l0_1 x6_2).f1) x7_3).f0), .int .i64 0, .int .i64 0, .string (⟨#[]⟩ : ByteArray), .bool false, .bool false, .string (⟨#[]⟩ : ByteArray)]) ?_ 1 _ rfl; (with_reducible repeat (first | refine blk_drewN ?_ _ | refine blk_drew ?_ | refine blk_alloc ?_ _)); refine blk_put (cs := #[.string (⟨#[]⟩ : ByteArray), .int .i64 0, .int .i64 0, .string (⟨#[]⟩ : ByteArray), .bool false, .bool false, .string (⟨#[]⟩ : ByteArray)]) ?_ 0 _ rfl; (with_reducible repeat (first | refine blk_drewN ?_ _ | refine blk_drew ?_ | refine blk_alloc ?_ _)); exact BK271.out⟩
               have n2_ : Aside0 (Below w.heap.size w (((((((w28.setCell ⟨gb271, 0, none⟩ (.string ((rd_T40 ((rd_T38 l0_1 x6_2).f1) x7_3).f0))).setCell ⟨gb271, 1, none⟩ (.int .i64 ((rd_T40 ((rd_T38 l0_1 x6_2).f1) x7_3).f1))).setCell ⟨gb271, 2, none⟩ (.int .i64 ((rd_T40 ((rd_T38 l0_1 x6_2).f1) x7_3).f2))).setCell ⟨gb271, 3, none⟩ (.string ((rd_T40 ((rd_T38 l0_1 x6_2).f1) x7_3).f3))).setCell ⟨gb271, 4, none⟩ (.bool ((rd_T40 ((rd_T38 l0_1 x6_2).f1) x7_3).f4))).setCell ⟨gb271, 5, none⟩ (.bool ((rd_T40 ((rd_T38 l0_1 x6_2).f1) x7_3).f5))).setCell ⟨gb271, 6, none⟩ (.string ((rd_T40 ((rd_T38 l0_1 x6_2).f1) x7_3).f6)))) := ⟨by repeat (first | (with_reducible first | exact HB.out | apply below_alloc | apply pw_below_drewN | apply below_drew1 | refine below_set ?_ GE263.out | refine below_set ?_ GE271.out) | exact HB.out)⟩
               (try clear BK263)
               (try clear BK271)
               (try clear HB)
               generalize (((((((w28.setCell ⟨gb271, 0, none⟩ (.string ((rd_T40 ((rd_T38 l0_1 x6_2).f1) x7_3).f0))).setCell ⟨gb271, 1, none⟩ (.int .i64 ((rd_T40 ((rd_T38 l0_1 x6_2).f1) x7_3).f1))).setCell ⟨gb271, 2, none⟩ (.int .i64 ((rd_T40 ((rd_T38 l0_1 x6_2).f1) x7_3).f2))).setCell ⟨gb271, 3, none⟩ (.string ((rd_T40 ((rd_T38 l0_1 x6_2).f1) x7_3).f3))).setCell ⟨gb271, 4, none⟩ (.bool ((rd_T40 ((rd_T38 l0_1 x6_2).f1) x7_3).f4))).setCell ⟨gb271, 5, none⟩ (.bool ((rd_T40 ((rd_T38 l0_1 x6_2).f1) x7_3).f5))).setCell ⟨gb271, 6, none⟩ (.string ((rd_T40 ((rd_T38 l0_1 x6_2).f1) x7_3).f6))) = w31 at n0_ n1_ n2_ ⊢
               have BK263 := n0_
               have BK271 := n1_
               have HB := n2_
               clear n0_ n1_ n2_
               have n0_ := Aside0.mk (blk_drew BK263.out)
               have n1_ := Aside0.mk (blk_drew BK271.out)
               have n2_ := Aside0.mk (below_drew1 HB.out)
               clear BK263
               clear BK271
               clear HB
               have BK263 := n0_
               have BK271 := n1_
               have HB := n2_
               clear n0_ n1_ n2_
               refine start_ (n := 19) (S := fun w' => True) (ds := []) #[false, false, false, false, false, false, false, false, false, false, false, false, false, false, false, false, false, false, false] (by kernel_rfl) rfl rfl trivial (fun hHeld => ?_); refine with_tabW ecdysislaw15_SchemaLess.tab11 ecdysislaw15_SchemaLess.bits11 (fun HT_ HW_ => ?_)
               generalize w31.drew = w32 at BK263 BK271 HB hHeld ⊢
               refine pure_ (i := 0) (N := some 53) (v := ?_) (a' := ?_) #[true, false, false, false, false, false, false, false, false, false, false, false, false, false, false, false, false, false, false] rfl rfl (any_of HT_.out (by kernel_rfl)) (fun _ _ _ h => h) (Or.inl ⟨by rfl, ?_⟩) ?_ ?_
               rotate_left
               ·intro w'
                go_simp
                with_reducible rfl
               rotate_left
               ·simp only [Act.put, List.setIfInBounds_toArray, List.set_cons_zero, List.set_cons_succ, i64_w, i32_w]
                rfl
               refine pure_ (i := 1) (N := some 54) (v := ?_) (a' := ?_) #[true, true, false, false, false, false, false, false, false, false, false, false, false, false, false, false, false, false, false] rfl rfl (any_of HT_.out (by kernel_rfl)) (fun _ _ _ h => h) (Or.inl ⟨by rfl, ?_⟩) ?_ ?_
               rotate_left
               ·intro w'
                go_simp
                with_reducible rfl
               rotate_left
               ·simp only [Act.put, List.setIfInBounds_toArray, List.set_cons_zero, List.set_cons_succ, i64_w, i32_w]
                rfl
               refine pure_ (i := 2) (N := some 55) (v := ?_) (a' := ?_) #[true, true, true, false, false, false, false, false, false, false, false, false, false, false, false, false, false, false, false] rfl rfl (any_of HT_.out (by kernel_rfl)) (fun _ _ _ h => h) (Or.inl ⟨by rfl, ?_⟩) ?_ ?_
               rotate_left
               ·intro w'
                go_simp
                with_reducible rfl
               rotate_left
               ·simp only [Act.put, List.setIfInBounds_toArray, List.set_cons_zero, List.set_cons_succ, i64_w, i32_w]
                rfl
               refine pure_ (i := 3) (N := some 56) (v := ?_) (a' := ?_) #[true, true, true, true, false, false, false, false, false, false, false, false, false, false, false, false, false, false, false] rfl rfl (any_of HT_.out (by kernel_rfl)) (fun _ _ _ h => h) (Or.inl ⟨by rfl, ?_⟩) ?_ ?_
               rotate_left
               ·intro w'
                go_simp
                with_reducible rfl
               rotate_left
               ·simp only [Act.put, List.setIfInBounds_toArray, List.set_cons_zero, List.set_cons_succ, i64_w, i32_w]
                rfl
               refine pure_ (i := 4) (N := some 57) (v := undef) (a' := ?_) #[true, true, true, true, true, false, false, false, false, false, false, false, false, false, false, false, false, false, false] rfl rfl (any_of HT_.out (by kernel_rfl)) (fun _ _ _ h => h) (Or.inr ⟨by rfl, rfl⟩) ?_ ?_
               rotate_left
               ·simp only [Act.put, List.setIfInBounds_toArray, List.set_cons_zero, List.set_cons_succ, i64_w, i32_w]
                rfl
               refine pure_ (i := 5) (N := some 58) (v := undef) (a' := ?_) #[true, true, true, true, true, true, false, false, false, false, false, false, false, false, false, false, false, false, false] rfl rfl (any_of HT_.out (by kernel_rfl)) (fun _ _ _ h => h) (Or.inr ⟨by rfl, rfl⟩) ?_ ?_
               rotate_left
               ·simp only [Act.put, List.setIfInBounds_toArray, List.set_cons_zero, List.set_cons_succ, i64_w, i32_w]
                rfl
               refine pure_ (i := 6) (N := some 59) (v := undef) (a' := ?_) #[true, true, true, true, true, true, true, false, false, false, false, false, false, false, false, false, false, false, false] rfl rfl (any_of HT_.out (by kernel_rfl)) (fun _ _ _ h => h) (Or.inr ⟨by rfl, rfl⟩) ?_ ?_
               rotate_left
               ·simp only [Act.put, List.setIfInBounds_toArray, List.set_cons_zero, List.set_cons_succ, i64_w, i32_w]
                rfl
               refine pure_ (i := 7) (N := some 60) (v := ?_) (a' := ?_) #[true, true, true, true, true, true, true, true, false, false, false, false, false, false, false, false, false, false, false] rfl rfl (any_of HT_.out (by kernel_rfl)) (fun _ _ _ h => h) (Or.inl ⟨by rfl, ?_⟩) ?_ ?_
               rotate_left
               ·intro w'
                go_simp
                with_reducible rfl
               rotate_left
               ·simp only [Act.put, List.setIfInBounds_toArray, List.set_cons_zero, List.set_cons_succ, i64_w, i32_w]
                rfl
               refine pure_ (i := 8) (N := some 61) (v := ?_) (a' := ?_) #[true, true, true, true, true, true, true, true, true, false, false, false, false, false, false, false, false, false, false] rfl rfl (any_of HT_.out (by kernel_rfl)) (fun _ _ _ h => h) (Or.inl ⟨by rfl, ?_⟩) ?_ ?_
               rotate_left
               ·intro w'
                go_simp
                with_reducible rfl
               rotate_left
               ·simp only [Act.put, List.setIfInBounds_toArray, List.set_cons_zero, List.set_cons_succ, i64_w, i32_w]
                rfl
               refine pure_ (i := 9) (N := some 62) (v := undef) (a' := ?_) #[true, true, true, true, true, true, true, true, true, true, false, false, false, false, false, false, false, false, false] rfl rfl (any_of HT_.out (by kernel_rfl)) (fun _ _ _ h => h) (Or.inr ⟨by rfl, rfl⟩) ?_ ?_
               rotate_left
               ·simp only [Act.put, List.setIfInBounds_toArray, List.set_cons_zero, List.set_cons_succ, i64_w, i32_w]
                rfl
               refine pure_ (i := 10) (N := some 63) (v := undef) (a' := ?_) #[true, true, true, true, true, true, true, true, true, true, true, false, false, false, false, false, false, false, false] rfl rfl (any_of HT_.out (by kernel_rfl)) (fun _ _ _ h => h) (Or.inr ⟨by rfl, rfl⟩) ?_ ?_
               rotate_left
               ·simp only [Act.put, List.setIfInBounds_toArray, List.set_cons_zero, List.set_cons_succ, i64_w, i32_w]
                rfl
               refine pure_ (i := 11) (N := some 64) (v := undef) (a' := ?_) #[true, true, true, true, true, true, true, true, true, true, true, true, false, false, false, false, false, false, false] rfl rfl (any_of HT_.out (by kernel_rfl)) (fun _ _ _ h => h) (Or.inr ⟨by rfl, rfl⟩) ?_ ?_
               rotate_left
               ·simp only [Act.put, List.setIfInBounds_toArray, List.set_cons_zero, List.set_cons_succ, i64_w, i32_w]
                rfl
               refine pure_ (i := 12) (N := some 65) (v := undef) (a' := ?_) #[true, true, true, true, true, true, true, true, true, true, true, true, true, false, false, false, false, false, false] rfl rfl (any_of HT_.out (by kernel_rfl)) (fun _ _ _ h => h) (Or.inr ⟨by rfl, rfl⟩) ?_ ?_
               rotate_left
               ·simp only [Act.put, List.setIfInBounds_toArray, List.set_cons_zero, List.set_cons_succ, i64_w, i32_w]
                rfl
               refine pure_ (i := 13) (N := some 66) (v := undef) (a' := ?_) #[true, true, true, true, true, true, true, true, true, true, true, true, true, true, false, false, false, false, false] rfl rfl (any_of HT_.out (by kernel_rfl)) (fun _ _ _ h => h) (Or.inr ⟨by rfl, rfl⟩) ?_ ?_
               rotate_left
               ·simp only [Act.put, List.setIfInBounds_toArray, List.set_cons_zero, List.set_cons_succ, i64_w, i32_w]
                rfl
               refine pure_ (i := 14) (N := some 67) (v := undef) (a' := ?_) #[true, true, true, true, true, true, true, true, true, true, true, true, true, true, true, false, false, false, false] rfl rfl (any_of HT_.out (by kernel_rfl)) (fun _ _ _ h => h) (Or.inr ⟨by rfl, rfl⟩) ?_ ?_
               rotate_left
               ·simp only [Act.put, List.setIfInBounds_toArray, List.set_cons_zero, List.set_cons_succ, i64_w, i32_w]
                rfl
               refine pure_ (i := 15) (N := some 68) (v := undef) (a' := ?_) #[true, true, true, true, true, true, true, true, true, true, true, true, true, true, true, true, false, false, false] rfl rfl (any_of HT_.out (by kernel_rfl)) (fun _ _ _ h => h) (Or.inr ⟨by rfl, rfl⟩) ?_ ?_
               rotate_left
               ·simp only [Act.put, List.setIfInBounds_toArray, List.set_cons_zero, List.set_cons_succ, i64_w, i32_w]
                rfl
               refine pure_ (i := 16) (N := some 69) (v := undef) (a' := ?_) #[true, true, true, true, true, true, true, true, true, true, true, true, true, true, true, true, true, false, false] rfl rfl (any_of HT_.out (by kernel_rfl)) (fun _ _ _ h => h) (Or.inr ⟨by rfl, rfl⟩) ?_ ?_
               rotate_left
               ·simp only [Act.put, List.setIfInBounds_toArray, List.set_cons_zero, List.set_cons_succ, i64_w, i32_w]
                rfl
               refine pure_ (i := 17) (N := some 70) (v := undef) (a' := ?_) #[true, true, true, true, true, true, true, true, true, true, true, true, true, true, true, true, true, true, false] rfl rfl (any_of HT_.out (by kernel_rfl)) (fun _ _ _ h => h) (Or.inr ⟨by rfl, rfl⟩) ?_ ?_
               rotate_left
               ·simp only [Act.put, List.setIfInBounds_toArray, List.set_cons_zero, List.set_cons_succ, i64_w, i32_w]
                rfl
               refine pure_ (i := 18) (N := some 71) (v := ?_) (a' := ?_) #[true, true, true, true, true, true, true, true, true, true, true, true, true, true, true, true, true, true, true] rfl rfl (any_of HT_.out (by kernel_rfl)) (fun _ _ _ h => h) (Or.inl ⟨by rfl, ?_⟩) ?_ ?_
               rotate_left
               ·intro w'
                go_simp
                with_reducible rfl
               rotate_left
               ·simp only [Act.put, List.setIfInBounds_toArray, List.set_cons_zero, List.set_cons_succ, i64_w, i32_w]
                rfl
               refine done_ (done_of HT_.out (by kernel_rfl)) ?_
               try subst hji34
               try go_wp2
               go_roundg k3
               case measure => have := HJ2.out; have := HK2.out; have := HK3.out; omega
               case rel => exact ⟨(wrap64 (x7_3 + 1)), (by first | rfl | (simp; done) | (simp [*]; done)), H', ⟨by have := HJ2.out; have := HK2.out; have := HK3.out; omega⟩, ⟨by (with_reducible repeat (first | refine blk_drewN ?_ _ | refine blk_drew ?_ | refine blk_alloc ?_ _)); exact BK263.out⟩, ⟨by repeat (first | (with_reducible first | exact HB.out | apply below_alloc | apply pw_below_drewN | apply below_drew1 | refine below_set ?_ GE263.out | refine below_set ?_ GE271.out) | exact HB.out)⟩⟩
              ·rw [if_neg c26] at H
               have c26b0 : (x6_2 == (Int.tmod (wrap64 (a1)) (l0_1.length : Int))) = false := beq_eq_false_iff_ne.mpr c26
               have c26b1 : (x6_2 != (Int.tmod (wrap64 (a1)) (l0_1.length : Int))) = true := bne_iff_ne.mpr c26
               by_cases c33 : ((rd_T40 ((rd_T38 l0_1 x6_2).f1) x7_3).f2) = 15
               ·rw [if_pos c33] at H
                have c33b0 : (((rd_T40 ((rd_T38 l0_1 x6_2).f1) x7_3).f2) == 15) = true := beq_iff_eq.mpr c33
                have c33b1 : (((rd_T40 ((rd_T38 l0_1 x6_2).f1) x7_3).f2) != 15) = false := bne_eq_false_iff_eq.mpr c33
                clear c33
                obtain ⟨ji34, hji34⟩ : ∃ j_ : Int, (Int.tmod (wrap64 (a1)) (l0_1.length : Int)) = j_ := ⟨_, rfl⟩
                replace H : (if 0 ≤ (ji34) then (if (ji34) < (l0_1.length : Int) then (if ((rd_T40 ((rd_T38 l0_1 x6_2).f1) x7_3).f3).toList = ((rd_T38 l0_1 (ji34)).f0).toList then ((ecdysislaw15_live.f k3).bind fun t273 => (some t273)) else (ecdysislaw15_SchemaLess.l1 k3 (ji34) x6_2 (wrap64 (x7_3 + 1)) l0_0 l0_1)) else (none)) else (none)) = some r := by first | (rw [hji34] at H; exact H) | (simp only [hji34] at H ⊢; exact H)
                (try rw [hji34] at c26b0)
                (try rw [hji34] at c26b1)
                by_cases c35 : 0 ≤ (ji34)
                ·rw [if_pos c35] at H
                 have c35b0 : decide (0 ≤ (ji34)) = true := decide_eq_true c35
                 clear c35
                 by_cases c36 : (ji34) < (l0_1.length : Int)
                 ·rw [if_pos c36] at H
                  have c36b0 : decide ((ji34) < (l0_1.length : Int)) = true := decide_eq_true c36
                  clear c36
                  by_cases c37 : ((rd_T40 ((rd_T38 l0_1 x6_2).f1) x7_3).f3).toList = ((rd_T38 l0_1 (ji34)).f0).toList
                  ·rw [if_pos c37] at H
                   have c37b0 : (((rd_T40 ((rd_T38 l0_1 x6_2).f1) x7_3).f3).toList == ((rd_T38 l0_1 (ji34)).f0).toList) = true := beq_iff_eq.mpr c37
                   have c37b1 : (((rd_T40 ((rd_T38 l0_1 x6_2).f1) x7_3).f3).toList != ((rd_T38 l0_1 (ji34)).f0).toList) = false := bne_eq_false_iff_eq.mpr c37
                   clear c37
                   replace H := Option.bind_eq_some_iff.mp H
                   obtain ⟨t273, A380, H⟩ := H
                   replace H : (some t273) = some r := H
                   have A38 := Aside0.mk A380
                   clear A380
                   obtain rfl := Option.some.inj H
                   have hcz39_0 : wr.cell? ⟨gb263, 0, none⟩ = some (.slice A0_0 l0_0.length c0_0) := (blk_cell BK263.out 0).trans rfl
                   have hcz39_1 : wr.cell? ⟨gb263, 1, none⟩ = some (.slice A0_1 l0_1.length c0_1) := (blk_cell BK263.out 1).trans rfl
                   have hfz39_0 := blk_frozen BK263.out 0
                   have hfz39_1 := blk_frozen BK263.out 1
                   have p268 : 0 ≤ (x6_2 : Int) := of_decide_eq_true (by first | (with_reducible assumption) | assumption)
                   have q268 : x6_2 < (l0_1.length : Int) := of_decide_eq_true (by first | (with_reducible assumption) | assumption)
                   obtain ⟨ad268, A268_1, c268_1, A268_2, c268_2, e268, hx268_0, hx268_1, hx268_2, hl268_1, hi268_1, hl268_2, hi268_2⟩ := at_T38 HR0_1.out x6_2 p268 q268
                   cases e268
                   replace hx268_0 := (HB.out.cell (World.block_lt_of_cell? w _ hx268_0)).trans hx268_0
                   replace hx268_1 := (HB.out.cell (World.block_lt_of_cell? w _ hx268_1)).trans hx268_1
                   replace hx268_2 := (HB.out.cell (World.block_lt_of_cell? w _ hx268_2)).trans hx268_2
                   have HR268_1 := Aside0.mk hi268_1
                   have HC268_1 := Aside0.mk hl268_1
                   clear hi268_1 hl268_1
                   have HR268_2 := Aside0.mk hi268_2
                   have HC268_2 := Aside0.mk hl268_2
                   clear hi268_2 hl268_2
                   replace p268 := eq_true p268
                   replace q268 := eq_true q268
                   have p269 : 0 ≤ (x6_2 : Int) := of_decide_eq_true (by first | (with_reducible assumption) | assumption)
                   have q269 : x6_2 < (l0_1.length : Int) := of_decide_eq_true (by first | (with_reducible assumption) | assumption)
                   obtain ⟨ad269, A269_1, c269_1, A269_2, c269_2, e269, hx269_0, hx269_1, hx269_2, hl269_1, hi269_1, hl269_2, hi269_2⟩ := at_T38 HR0_1.out x6_2 p269 q269
                   obtain rfl : ad268 = ad269 := (by injection e269)
                   replace hx269_0 := (HB.out.cell (World.block_lt_of_cell? w _ hx269_0)).trans hx269_0
                   replace hx269_1 := (HB.out.cell (World.block_lt_of_cell? w _ hx269_1)).trans hx269_1
                   replace hx269_2 := (HB.out.cell (World.block_lt_of_cell? w _ hx269_2)).trans hx269_2
                   have HR269_1 := Aside0.mk hi269_1
                   have HC269_1 := Aside0.mk hl269_1
                   clear hi269_1 hl269_1
                   have HR269_2 := Aside0.mk hi269_2
                   have HC269_2 := Aside0.mk hl269_2
                   clear hi269_2 hl269_2
                   replace p269 := eq_true p269
                   replace q269 := eq_true q269
                   have ea_ := Option.some.inj (hx268_1.symm.trans hx269_1)
                   injection ea_ with ea_ en_ ec_
                   subst ea_
                   subst ec_
                   clear en_
                   have ea_ := Option.some.inj (hx268_2.symm.trans hx269_2)
                   injection ea_ with ea_ en_ ec_
                   subst ea_
                   subst ec_
                   clear en_
                   have p270 : 0 ≤ (x7_3 : Int) := of_decide_eq_true (by first | (with_reducible assumption) | assumption)
                   have q270 : x7_3 < (((rd_T38 l0_1 x6_2).f1).length : Int) := of_decide_eq_true (by first | (with_reducible assumption) | assumption)
                   obtain ⟨ad270, e270, hx270_0, hx270_1, hx270_2, hx270_3, hx270_4, hx270_5, hx270_6⟩ := at_T40 HR269_1.out x7_3 p270 q270
                   cases e270
                   replace hx270_0 := (HB.out.cell (World.block_lt_of_cell? w _ hx270_0)).trans hx270_0
                   replace hx270_1 := (HB.out.cell (World.block_lt_of_cell? w _ hx270_1)).trans hx270_1
                   replace hx270_2 := (HB.out.cell (World.block_lt_of_cell? w _ hx270_2)).trans hx270_2
                   replace hx270_3 := (HB.out.cell (World.block_lt_of_cell? w _ hx270_3)).trans hx270_3
                   replace hx270_4 := (HB.out.cell (World.block_lt_of_cell? w _ hx270_4)).trans hx270_4
                   replace hx270_5 := (HB.out.cell (World.block_lt_of_cell? w _ hx270_5)).trans hx270_5
                   replace hx270_6 := (HB.out.cell (World.block_lt_of_cell? w _ hx270_6)).trans hx270_6
                   replace p270 := eq_true p270
                   replace q270 := eq_true q270
                   try go_wp2_with (first | ((with_reducible refine gate_dst (N := 8) rfl ?_); refine box_event ?hg (N := 8) ?hd (cs := #[.string (⟨#[]⟩ : ByteArray), .int .i64 0, .int .i64 0, .string (⟨#[]⟩ : ByteArray), .bool false, .bool false, .string (⟨#[]⟩ : ByteArray)]) (t := 40) ?hr ?_; (case hd => rfl); (case hg => rfl); (case hr => first | (go_simp; done) | (go_simp; rfl)); intro gb271 hg w40 hbox hb; have n0_ := Aside0.mk (blk_below (g := gb263) (o := .cells #[.slice A0_0 l0_0.length c0_0, .slice (some ad268) l0_1.length c0_1] 30 (0, 0)) (by (with_reducible repeat (first | refine blk_drewN ?_ _ | refine blk_drew ?_ | refine blk_alloc ?_ _)); exact BK263.out) hb); have n1_ := Aside0.mk (below_step (by repeat (first | (with_reducible first | exact HB.out | apply below_alloc | apply pw_below_drewN | apply below_drew1 | refine below_set ?_ GE263.out) | exact HB.out)) hb); have n2_ := Aside0.mk (hbox); have n3_ := Aside0.mk ((by rw [hg]; exact (below_size (by repeat (first | (with_reducible first | exact HB.out | apply below_alloc | apply pw_below_drewN | apply below_drew1 | refine below_set ?_ GE263.out) | exact HB.out))) : w.heap.size ≤ gb271)); have n4_ := Aside0.mk ((by rw [hg]; exact (below_size (by repeat (first | (with_reducible first | exact HB.out | apply below_alloc | apply pw_below_drewN | apply below_drew1 | refine below_set ?_ GE263.out) | exact HB.out))) : w.heap.size ≤ gb271)); have n5_ := Aside0.mk ((by rw [hg]; exact Nat.ne_of_lt (blk_lt (g := gb263) (o := .cells #[.slice A0_0 l0_0.length c0_0, .slice (some ad268) l0_1.length c0_1] 30 (0, 0)) (by (with_reducible repeat (first | refine blk_drewN ?_ _ | refine blk_drew ?_ | refine blk_alloc ?_ _)); exact BK263.out)) : gb263 ≠ gb271)); have n6_ := Aside0.mk ((by rw [hg]; exact Nat.ne_of_gt (blk_lt (g := gb263) (o := .cells #[.slice A0_0 l0_0.length c0_0, .slice (some ad268) l0_1.length c0_1] 30 (0, 0)) (by (with_reducible repeat (first | refine blk_drewN ?_ _ | refine blk_drew ?_ | refine blk_alloc ?_ _)); exact BK263.out)) : gb271 ≠ gb263)); clear BK263; clear HB; have BK263 := n0_; have HB := n1_; have BK271 := n2_; have GW271 := n3_; have GE271 := n4_; have NB263_271 := n5_; have NB271_263 := n6_; clear n0_ n1_ n2_ n3_ n4_ n5_ n6_; clear hb hbox hg; have hnb41 := NB271_263.out; have hnc41 := NB263_271.out; have hcz42_0 : w40.cell? ⟨gb271, 0, none⟩ = some (.string (⟨#[]⟩ : ByteArray)) := (blk_cell BK271.out 0).trans rfl; have hcz42_1 : w40.cell? ⟨gb271, 1, none⟩ = some (.int .i64 0) := (blk_cell BK271.out 1).trans rfl; have hcz42_2 : w40.cell? ⟨gb271, 2, none⟩ = some (.int .i64 0) := (blk_cell BK271.out 2).trans rfl; have hcz42_3 : w40.cell? ⟨gb271, 3, none⟩ = some (.string (⟨#[]⟩ : ByteArray)) := (blk_cell BK271.out 3).trans rfl; have hcz42_4 : w40.cell? ⟨gb271, 4, none⟩ = some (.bool false) := (blk_cell BK271.out 4).trans rfl; have hcz42_5 : w40.cell? ⟨gb271, 5, none⟩ = some (.bool false) := (blk_cell BK271.out 5).trans rfl; have hcz42_6 : w40.cell? ⟨gb271, 6, none⟩ = some (.string (⟨#[]⟩ : ByteArray)) := (blk_cell BK271.out 6).trans rfl; have hfz42_0 := blk_frozen BK271.out 0; have hfz42_1 := blk_frozen BK271.out 1; have hfz42_2 := blk_frozen BK271.out 2; have hfz42_3 := blk_frozen BK271.out 3; have hfz42_4 := blk_frozen BK271.out 4; have hfz42_5 := blk_frozen BK271.out 5; have hfz42_6 := blk_frozen BK271.out 6))
                   have n0_ : Aside0 ((((((((w40.setCell ⟨gb271, 0, none⟩ (.string ((rd_T40 ((rd_T38 l0_1 x6_2).f1) x7_3).f0))).setCell ⟨gb271, 1, none⟩ (.int .i64 ((rd_T40 ((rd_T38 l0_1 x6_2).f1) x7_3).f1))).setCell ⟨gb271, 2, none⟩ (.int .i64 ((rd_T40 ((rd_T38 l0_1 x6_2).f1) x7_3).f2))).setCell ⟨gb271, 3, none⟩ (.string ((rd_T40 ((rd_T38 l0_1 x6_2).f1) x7_3).f3))).setCell ⟨gb271, 4, none⟩ (.bool ((rd_T40 ((rd_T38 l0_1 x6_2).f1) x7_3).f4))).setCell ⟨gb271, 5, none⟩ (.bool ((rd_T40 ((rd_T38 l0_1 x6_2).f1) x7_3).f5))).setCell ⟨gb271, 6, none⟩ (.string ((rd_T40 ((rd_T38 l0_1 x6_2).f1) x7_3).f6))).heap[gb263]? = some (.cells #[.slice A0_0 l0_0.length c0_0, .slice (some ad268) l0_1.length c0_1] 30 (0, 0))) := ⟨by (with_reducible repeat (first | refine blk_drewN ?_ _ | refine blk_drew ?_ | refine blk_alloc ?_ _)); refine blk_far ?_ NB263_271.out _; (with_reducible repeat (first | refine blk_drewN ?_ _ | refine blk_drew ?_ | refine blk_alloc ?_ _)); refine blk_far ?_ NB263_271.out _; (with_reducible repeat (first | refine blk_drewN ?_ _ | refine blk_drew ?_ | refine blk_alloc ?_ _)); refine blk_far ?_ NB263_271.out _; (with_reducible repeat (first | refine blk_drewN ?_ _ | refine blk_drew ?_ | refine blk_alloc ?_ _)); refine blk_far ?_ NB263_271.out _; (with_reducible repeat (first | refine blk_drewN ?_ _ | refine blk_drew ?_ | refine blk_alloc ?_ _)); refine blk_far ?_ NB263_271.out _; (with_reducible repeat (first | refine blk_drewN ?_ _ | refine blk_drew ?_ | refine blk_alloc ?_ _)); refine blk_far ?_ NB263_271.out _; (with_reducible repeat (first | refine blk_drewN ?_ _ | refine blk_drew ?_ | refine blk_alloc ?_ _)); refine blk_far ?_ NB263_271.out _; (with_reducible repeat (first | refine blk_drewN ?_ _ | refine blk_drew ?_ | refine blk_alloc ?_ _)); exact BK263.out⟩
                   have n1_ : Aside0 ((((((((w40.setCell ⟨gb271, 0, none⟩ (.string ((rd_T40 ((rd_T38 l0_1 x6_2).f1) x7_3).f0))).setCell ⟨gb271, 1, none⟩ (.int .i64 ((rd_T40 ((rd_T38 l0_1 x6_2).f1) x7_3).f1))).setCell ⟨gb271, 2, none⟩ (.int .i64 ((rd_T40 ((rd_T38 l0_1 x6_2).f1) x7_3).f2))).setCell ⟨gb271, 3, none⟩ (.string ((rd_T40 ((rd_T38 l0_1 x6_2).f1) x7_3).f3))).setCell ⟨gb271, 4, none⟩ (.bool ((rd_T40 ((rd_T38 l0_1 x6_2).f1) x7_3).f4))).setCell ⟨gb271, 5, none⟩ (.bool ((rd_T40 ((rd_T38 l0_1 x6_2).f1) x7_3).f5))).setCell ⟨gb271, 6, none⟩ (.string ((rd_T40 ((rd_T38 l0_1 x6_2).f1) x7_3).f6))).heap[gb271]? = some (.cells #[.string ((rd_T40 ((rd_T38 l0_1 x6_2).f1) x7_3).f0), .int .i64 ((rd_T40 ((rd_T38 l0_1 x6_2).f1) x7_3).f1), .int .i64 ((rd_T40 ((rd_T38 l0_1 x6_2).f1) x7_3).f2), .string ((rd_T40 ((rd_T38 l0_1 x6_2).f1) x7_3).f3), .bool ((rd_T40 ((rd_T38 l0_1 x6_2).f1) x7_3).f4), .bool ((rd_T40 ((rd_T38 l0_1 x6_2).f1) x7_3).f5), .string ((rd_T40 ((rd_T38 l0_1 x6_2).f1) x7_3).f6)] 40 (0, 0))) := ⟨by (with_reducible repeat (first | refine blk_drewN ?_ _ | refine blk_drew ?_ | refine blk_alloc ?_ _)); refine blk_put (cs := #[.string ((rd_T40 ((rd_T38 l0_1 x6_2).f1) x7_3).f0), .int .i64 ((rd_T40 ((rd_T38 l0_1 x6_2).f1) x7_3).f1), .int .i64 ((rd_T40 ((rd_T38 l0_1 x6_2).f1) x7_3).f2), .string ((rd_T40 ((rd_T38 l0_1 x6_2).f1) x7_3).f3), .bool ((rd_T40 ((rd_T38 l0_1 x6_2).f1) x7_3).f4), .bool ((rd_T40 ((rd_T38 l0_1 x6_2).f1) x7_3).f5), .string (⟨#[]⟩ : ByteArray)]) ?_ 6 _ rfl; (with_reducible repeat (first | refine blk_drewN ?_ _ | refine blk_drew ?_ | refine blk_alloc ?_ _)); refine blk_put (cs := #[.string ((rd_T40 ((rd_T38 l0_1 x6_2).f1) x7_3).f0), .int .i64 ((rd_T40 ((rd_T38 l0_1 x6_2).f1) x7_3).f1), .int .i64 ((rd_T40 ((rd_T38 l0_1 x6_2).f1) x7_3).f2), .string ((rd_T40 ((rd_T38 l0_1 x6_2).f1) x7_3).f3), .bool ((rd_T40 ((rd_T38 l0_1 x6_2).f1) x7_3).f4), .bool false, .string (⟨#[]⟩ : ByteArray)]) ?_ 5 _ rfl; (with_reducible repeat (first | refine blk_drewN ?_ _ | refine blk_drew ?_ | refine blk_alloc ?_ _)); refine blk_put (cs := #[.string ((rd_T40 ((rd_T38 l0_1 x6_2).f1) x7_3).f0), .int .i64 ((rd_T40 ((rd_T38 l0_1 x6_2).f1) x7_3).f1), .int .i64 ((rd_T40 ((rd_T38 l0_1 x6_2).f1) x7_3).f2), .string ((rd_T40 ((rd_T38 l0_1 x6_2).f1) x7_3).f3), .bool false, .bool false, .string (⟨#[]⟩ : ByteArray)]) ?_ 4 _ rfl; (with_reducible repeat (first | refine blk_drewN ?_ _ | refine blk_drew ?_ | refine blk_alloc ?_ _)); refine blk_put (cs := #[.string ((rd_T40 ((rd_T38 l0_1 x6_2).f1) x7_3).f0), .int .i64 ((rd_T40 ((rd_T38 l0_1 x6_2).f1) x7_3).f1), .int .i64 ((rd_T40 ((rd_T38 l0_1 x6_2).f1) x7_3).f2), .string (⟨#[]⟩ : ByteArray), .bool false, .bool false, .string (⟨#[]⟩ : ByteArray)]) ?_ 3 _ rfl; (with_reducible repeat (first | refine blk_drewN ?_ _ | refine blk_drew ?_ | refine blk_alloc ?_ _)); refine blk_put (cs := #[.string ((rd_T40 ((rd_T38 l0_1 x6_2).f1) x7_3).f0), .int .i64 ((rd_T40 ((rd_T38 l0_1 x6_2).f1) x7_3).f1), .int .i64 0, .string (⟨#[]⟩ : ByteArray), .bool false, .bool false, .string (⟨#[]⟩ : ByteArray)]) ?_ 2 _ rfl; (with_reducible repeat (first | refine blk_drewN ?_ _ | refine blk_drew ?_ | refine blk_alloc ?_ _)); refine blk_put (cs := #[.string ((rd_T40 ((rd_T38 l0_1 x6_2).f1) x7_3).f0), .int .i64 0, .int .i64 0, .string (⟨#[]⟩ : ByteArray), .bool false, .bool false, .string (⟨#[]⟩ : ByteArray)]) ?_ 1 _ rfl; (with_reducible repeat (first | refine blk_drewN ?_ _ | refine blk_drew ?_ | refine blk_alloc ?_ _)); refine blk_put (cs := #[.string (⟨#[]⟩ : ByteArray), .int .i64 0, .int .i64 0, .string (⟨#[]⟩ : ByteArray), .bool false, .bool false, .string (⟨#[]⟩ : ByteArray)]) ?_ 0 _ rfl; (with_reducible repeat (first | refine blk_drewN ?_ _ | refine blk_drew ?_ | refine blk_alloc ?_ _)); exact BK271.out⟩
                   have n2_ : Aside0 (Below w.heap.size w (((((((w40.setCell ⟨gb271, 0, none⟩ (.string ((rd_T40 ((rd_T38 l0_1 x6_2).f1) x7_3).f0))).setCell ⟨gb271, 1, none⟩ (.int .i64 ((rd_T40 ((rd_T38 l0_1 x6_2).f1) x7_3).f1))).setCell ⟨gb271, 2, none⟩ (.int .i64 ((rd_T40 ((rd_T38 l0_1 x6_2).f1) x7_3).f2))).setCell ⟨gb271, 3, none⟩ (.string ((rd_T40 ((rd_T38 l0_1 x6_2).f1) x7_3).f3))).setCell ⟨gb271, 4, none⟩ (.bool ((rd_T40 ((rd_T38 l0_1 x6_2).f1) x7_3).f4))).setCell ⟨gb271, 5, none⟩ (.bool ((rd_T40 ((rd_T38 l0_1 x6_2).f1) x7_3).f5))).setCell ⟨gb271, 6, none⟩ (.string ((rd_T40 ((rd_T38 l0_1 x6_2).f1) x7_3).f6)))) := ⟨by repeat (first | (with_reducible first | exact HB.out | apply below_alloc | apply pw_below_drewN | apply below_drew1 | refine below_set ?_ GE263.out | refine below_set ?_ GE271.out) | exact HB.out)⟩
                   (try clear BK263)
                   (try clear BK271)
                   (try clear HB)
                   generalize (((((((w40.setCell ⟨gb271, 0, none⟩ (.string ((rd_T40 ((rd_T38 l0_1 x6_2).f1) x7_3).f0))).setCell ⟨gb271, 1, none⟩ (.int .i64 ((rd_T40 ((rd_T38 l0_1 x6_2).f1) x7_3).f1))).setCell ⟨gb271, 2, none⟩ (.int .i64 ((rd_T40 ((rd_T38 l0_1 x6_2).f1) x7_3).f2))).setCell ⟨gb271, 3, none⟩ (.string ((rd_T40 ((rd_T38 l0_1 x6_2).f1) x7_3).f3))).setCell ⟨gb271, 4, none⟩ (.bool ((rd_T40 ((rd_T38 l0_1 x6_2).f1) x7_3).f4))).setCell ⟨gb271, 5, none⟩ (.bool ((rd_T40 ((rd_T38 l0_1 x6_2).f1) x7_3).f5))).setCell ⟨gb271, 6, none⟩ (.string ((rd_T40 ((rd_T38 l0_1 x6_2).f1) x7_3).f6))) = w43 at n0_ n1_ n2_ ⊢
                   have BK263 := n0_
                   have BK271 := n1_
                   have HB := n2_
                   clear n0_ n1_ n2_
                   have n0_ := Aside0.mk (blk_drew BK263.out)
                   have n1_ := Aside0.mk (blk_drew BK271.out)
                   have n2_ := Aside0.mk (below_drew1 HB.out)
                   clear BK263
                   clear BK271
                   clear HB
                   have BK263 := n0_
                   have BK271 := n1_
                   have HB := n2_
                   clear n0_ n1_ n2_
                   have p272 : 0 ≤ ((ji34) : Int) := of_decide_eq_true (by first | (with_reducible assumption) | assumption)
                   have q272 : (ji34) < (l0_1.length : Int) := of_decide_eq_true (by first | (with_reducible assumption) | assumption)
                   obtain ⟨ad272, A272_1, c272_1, A272_2, c272_2, e272, hx272_0, hx272_1, hx272_2, hl272_1, hi272_1, hl272_2, hi272_2⟩ := at_T38 HR0_1.out (ji34) p272 q272
                   have hw272_2 := hx272_2
                   have hw272_1 := hx272_1
                   have hw272_0 := hx272_0
                   obtain rfl : ad268 = ad272 := (by injection e272)
                   replace hx272_0 := (HB.out.cell (World.block_lt_of_cell? w _ hx272_0)).trans hx272_0
                   replace hx272_1 := (HB.out.cell (World.block_lt_of_cell? w _ hx272_1)).trans hx272_1
                   replace hx272_2 := (HB.out.cell (World.block_lt_of_cell? w _ hx272_2)).trans hx272_2
                   have HR272_1 := Aside0.mk hi272_1
                   have HC272_1 := Aside0.mk hl272_1
                   clear hi272_1 hl272_1
                   have HR272_2 := Aside0.mk hi272_2
                   have HC272_2 := Aside0.mk hl272_2
                   clear hi272_2 hl272_2
                   replace p272 := eq_true p272
                   replace q272 := eq_true q272
                   refine start_ (n := 19) (S := fun w' => w'.cell? ⟨gb271, 0, none⟩ = some (.string ((rd_T40 ((rd_T38 l0_1 x6_2).f1) x7_3).f0)) ∧ w'.cell? ⟨gb271, 1, none⟩ = some (.int .i64 ((rd_T40 ((rd_T38 l0_1 x6_2).f1) x7_3).f1)) ∧ w'.cell? ⟨gb271, 2, none⟩ = some (.int .i64 ((rd_T40 ((rd_T38 l0_1 x6_2).f1) x7_3).f2)) ∧ w'.cell? ⟨gb271, 3, none⟩ = some (.string ((rd_T40 ((rd_T38 l0_1 x6_2).f1) x7_3).f3)) ∧ w'.cell? ⟨gb271, 4, none⟩ = some (.bool ((rd_T40 ((rd_T38 l0_1 x6_2).f1) x7_3).f4)) ∧ w'.cell? ⟨gb271, 5, none⟩ = some (.bool ((rd_T40 ((rd_T38 l0_1 x6_2).f1) x7_3).f5)) ∧ w'.cell? ⟨gb271, 6, none⟩ = some (.string ((rd_T40 ((rd_T38 l0_1 x6_2).f1) x7_3).f6)) ∧ w'.cell? ⟨gb263, 0, none⟩ = some (.slice A0_0 l0_0.length c0_0) ∧ w'.cell? ⟨gb263, 1, none⟩ = some (.slice (some ad268) l0_1.length c0_1) ∧ w'.cell? (ad268.add (((ji34)).toNat * 3)) = some (.string ((rd_T38 l0_1 (ji34)).f0)) ∧ w'.cell? ⟨(ad268.add (((ji34)).toNat * 3)).block, (ad268.add (((ji34)).toNat * 3)).off + 1, none⟩ = some (.slice A272_1 ((rd_T38 l0_1 (ji34)).f1).length c272_1) ∧ w'.cell? ⟨(ad268.add (((ji34)).toNat * 3)).block, (ad268.add (((ji34)).toNat * 3)).off + 2, none⟩ = some (.slice A272_2 ((rd_T38 l0_1 (ji34)).f2).length c272_2)) (ds := []) #[false, false, false, false, false, false, false, false, false, false, false, false, false, false, false, false, false, false, false] (by kernel_rfl) rfl rfl ⟨(blk_cell BK271.out 0).trans rfl, (blk_cell BK271.out 1).trans rfl, (blk_cell BK271.out 2).trans rfl, (blk_cell BK271.out 3).trans rfl, (blk_cell BK271.out 4).trans rfl, (blk_cell BK271.out 5).trans rfl, (blk_cell BK271.out 6).trans rfl, (blk_cell BK263.out 0).trans rfl, (blk_cell BK263.out 1).trans rfl, ((HB.out.cell (World.block_lt_of_cell? w _ hw272_0)).trans hw272_0), ((HB.out.cell (World.block_lt_of_cell? w _ hw272_1)).trans hw272_1), ((HB.out.cell (World.block_lt_of_cell? w _ hw272_2)).trans hw272_2)⟩ (fun hHeld => ?_); refine with_tabW ecdysislaw15_SchemaLess.tab11 ecdysislaw15_SchemaLess.bits11 (fun HT_ HW_ => ?_)
                   generalize w43.drew = w44 at BK263 BK271 HB HR272_1 HR272_2 hx272_0 hx272_1 hx272_2 hHeld ⊢
                   refine pure_ (i := 0) (N := some 53) (v := ?_) (a' := ?_) #[true, false, false, false, false, false, false, false, false, false, false, false, false, false, false, false, false, false, false] rfl rfl (any_of HT_.out (by kernel_rfl)) (fun _ _ _ h => h) (Or.inl ⟨by rfl, ?_⟩) ?_ ?_
                   rotate_left
                   ·intro w'
                    go_simp
                    with_reducible rfl
                   rotate_left
                   ·simp only [Act.put, List.setIfInBounds_toArray, List.set_cons_zero, List.set_cons_succ, i64_w, i32_w]
                    rfl
                   refine pure_ (i := 1) (N := some 54) (v := ?_) (a' := ?_) #[true, true, false, false, false, false, false, false, false, false, false, false, false, false, false, false, false, false, false] rfl rfl (any_of HT_.out (by kernel_rfl)) (fun _ _ _ h => h) (Or.inl ⟨by rfl, ?_⟩) ?_ ?_
                   rotate_left
                   ·intro w'
                    go_simp
                    with_reducible rfl
                   rotate_left
                   ·simp only [Act.put, List.setIfInBounds_toArray, List.set_cons_zero, List.set_cons_succ, i64_w, i32_w]
                    rfl
                   refine pure_ (i := 2) (N := some 55) (v := ?_) (a' := ?_) #[true, true, true, false, false, false, false, false, false, false, false, false, false, false, false, false, false, false, false] rfl rfl (any_of HT_.out (by kernel_rfl)) (fun _ _ _ h => h) (Or.inl ⟨by rfl, ?_⟩) ?_ ?_
                   rotate_left
                   ·intro w'
                    go_simp
                    with_reducible rfl
                   rotate_left
                   ·simp only [Act.put, List.setIfInBounds_toArray, List.set_cons_zero, List.set_cons_succ, i64_w, i32_w]
                    rfl
                   refine pure_ (i := 3) (N := some 56) (v := ?_) (a' := ?_) #[true, true, true, true, false, false, false, false, false, false, false, false, false, false, false, false, false, false, false] rfl rfl (any_of HT_.out (by kernel_rfl)) (fun _ _ _ h => h) (Or.inl ⟨by rfl, ?_⟩) ?_ ?_
                   rotate_left
                   ·intro w'
                    go_simp
                    with_reducible rfl
                   rotate_left
                   ·simp only [Act.put, List.setIfInBounds_toArray, List.set_cons_zero, List.set_cons_succ, i64_w, i32_w]
                    rfl
                   refine pure_ (i := 4) (N := some 57) (v := ?_) (a' := ?_) #[true, true, true, true, true, false, false, false, false, false, false, false, false, false, false, false, false, false, false] rfl rfl (any_of HT_.out (by kernel_rfl)) (fun _ _ _ h => h) (Or.inl ⟨by rfl, ?_⟩) ?_ ?_
                   rotate_left
                   ·intro w'
                    go_simp
                    with_reducible rfl
                   rotate_left
                   ·simp only [Act.put, List.setIfInBounds_toArray, List.set_cons_zero, List.set_cons_succ, i64_w, i32_w]
                    rfl
                   refine take_ (i := 5) (N := some 58) (v := ?_) (a' := ?_) #[true, true, true, true, true, true, false, false, false, false, false, false, false, false, false, false, false, false, false] rfl rfl (take_ofW HT_.out HW_.out (by kernel_rfl)) (fun _ _ _ h => h) (Or.inl ⟨by rfl, ?_⟩) hHeld ?_ ?_
                   rotate_left
                   ·rintro w' ⟨s0, s1, s2, s3, s4, s5, s6, s7, s8, s9, s10, s11⟩
                    go_simp
                    with_reducible rfl
                   rotate_left
                   ·simp only [Act.put, List.setIfInBounds_toArray, List.set_cons_zero, List.set_cons_succ, i64_w, i32_w]
                    rfl
                   refine pure_ (i := 6) (N := some 59) (v := ?_) (a' := ?_) #[true, true, true, true, true, true, true, false, false, false, false, false, false, false, false, false, false, false, false] rfl rfl (any_of HT_.out (by kernel_rfl)) (fun _ _ _ h => h) (Or.inl ⟨by rfl, ?_⟩) ?_ ?_
                   rotate_left
                   ·intro w'
                    go_simp
                    with_reducible rfl
                   rotate_left
                   ·simp only [Act.put, List.setIfInBounds_toArray, List.set_cons_zero, List.set_cons_succ, i64_w, i32_w]
                    rfl
                   refine pure_ (i := 7) (N := some 60) (v := ?_) (a' := ?_) #[true, true, true, true, true, true, true, true, false, false, false, false, false, false, false, false, false, false, false] rfl rfl (any_of HT_.out (by kernel_rfl)) (fun _ _ _ h => h) (Or.inl ⟨by rfl, ?_⟩) ?_ ?_
                   rotate_left
                   ·intro w'
                    go_simp
                    with_reducible rfl
                   rotate_left
                   ·simp only [Act.put, List.setIfInBounds_toArray, List.set_cons_zero, List.set_cons_succ, i64_w, i32_w]
                    rfl
                   refine pure_ (i := 8) (N := some 61) (v := ?_) (a' := ?_) #[true, true, true, true, true, true, true, true, true, false, false, false, false, false, false, false, false, false, false] rfl rfl (any_of HT_.out (by kernel_rfl)) (fun _ _ _ h => h) (Or.inl ⟨by rfl, ?_⟩) ?_ ?_
                   rotate_left
                   ·intro w'
                    go_simp
                    with_reducible rfl
                   rotate_left
                   ·simp only [Act.put, List.setIfInBounds_toArray, List.set_cons_zero, List.set_cons_succ, i64_w, i32_w]
                    rfl
                   refine pure_ (i := 9) (N := some 62) (v := ?_) (a' := ?_) #[true, true, true, true, true, true, true, true, true, true, false, false, false, false, false, false, false, false, false] rfl rfl (any_of HT_.out (by kernel_rfl)) (fun _ _ _ h => h) (Or.inl ⟨by rfl, ?_⟩) ?_ ?_
                   rotate_left
                   ·intro w'
                    go_simp
                    with_reducible rfl
                   rotate_left
                   ·simp only [Act.put, List.setIfInBounds_toArray, List.set_cons_zero, List.set_cons_succ, i64_w, i32_w]
                    rfl
                   refine pure_ (i := 11) (N := some 64) (v := ?_) (a' := ?_) #[true, true, true, true, true, true, true, true, true, true, false, true, false, false, false, false, false, false, false] rfl rfl (any_of HT_.out (by kernel_rfl)) (fun _ _ _ h => h) (Or.inl ⟨by rfl, ?_⟩) ?_ ?_
                   rotate_left
                   ·intro w'
                    go_simp
                    with_reducible rfl
                   rotate_left
                   ·simp only [Act.put, List.setIfInBounds_toArray, List.set_cons_zero, List.set_cons_succ, i64_w, i32_w]
                    rfl
                   refine pure_ (i := 13) (N := some 66) (v := ?_) (a' := ?_) #[true, true, true, true, true, true, true, true, true, true, false, true, false, true, false, false, false, false, false] rfl rfl (any_of HT_.out (by kernel_rfl)) (fun _ _ _ h => h) (Or.inl ⟨by rfl, ?_⟩) ?_ ?_
                   rotate_left
                   ·intro w'
                    go_simp
                    with_reducible rfl
                   rotate_left
                   ·simp only [Act.put, List.setIfInBounds_toArray, List.set_cons_zero, List.set_cons_succ, i64_w, i32_w]
                    rfl
                   refine take_ (i := 10) (N := some 63) (v := ?_) (a' := ?_) #[true, true, true, true, true, true, true, true, true, true, true, true, false, true, false, false, false, false, false] rfl rfl (take_ofW HT_.out HW_.out (by kernel_rfl)) (fun _ _ _ h => h) (Or.inl ⟨by rfl, ?_⟩) hHeld ?_ ?_
                   rotate_left
                   ·rintro w' ⟨s0, s1, s2, s3, s4, s5, s6, s7, s8, s9, s10, s11⟩
                    go_simp
                    with_reducible rfl
                   rotate_left
                   ·simp only [Act.put, List.setIfInBounds_toArray, List.set_cons_zero, List.set_cons_succ, i64_w, i32_w]
                    rfl
                   refine take_ (i := 12) (N := some 65) (v := ?_) (a' := ?_) #[true, true, true, true, true, true, true, true, true, true, true, true, true, true, false, false, false, false, false] rfl rfl (take_ofW HT_.out HW_.out (by kernel_rfl)) (fun _ _ _ h => h) (Or.inl ⟨by rfl, ?_⟩) hHeld ?_ ?_
                   rotate_left
                   ·rintro w' ⟨s0, s1, s2, s3, s4, s5, s6, s7, s8, s9, s10, s11⟩
                    go_simp
                    with_reducible rfl
                   rotate_left
                   ·simp only [Act.put, List.setIfInBounds_toArray, List.set_cons_zero, List.set_cons_succ, i64_w, i32_w]
                    rfl
                   refine pure_ (i := 14) (N := some 67) (v := ?_) (a' := ?_) #[true, true, true, true, true, true, true, true, true, true, true, true, true, true, true, false, false, false, false] rfl rfl (any_of HT_.out (by kernel_rfl)) (fun _ _ _ h => h) (Or.inl ⟨by rfl, ?_⟩) ?_ ?_
                   rotate_left
                   ·intro w'
                    go_simp
                    with_reducible rfl
                   rotate_left
                   ·simp only [Act.put, List.setIfInBounds_toArray, List.set_cons_zero, List.set_cons_succ, i64_w, i32_w]
                    rfl
                   refine pure_ (i := 15) (N := some 68) (v := ?_) (a' := ?_) #[true, true, true, true, true, true, true, true, true, true, true, true, true, true, true, true, false, false, false] rfl rfl (any_of HT_.out (by kernel_rfl)) (fun _ _ _ h => h) (Or.inl ⟨by rfl, ?_⟩) ?_ ?_
                   rotate_left
                   ·intro w'
                    go_simp
                    with_reducible rfl
                   rotate_left
                   ·simp only [Act.put, List.setIfInBounds_toArray, List.set_cons_zero, List.set_cons_succ, i64_w, i32_w]
                    rfl
                   refine take_ (i := 16) (N := some 69) (v := ?_) (a' := ?_) #[true, true, true, true, true, true, true, true, true, true, true, true, true, true, true, true, true, false, false] rfl rfl (take_ofW HT_.out HW_.out (by kernel_rfl)) (fun _ _ _ h => h) (Or.inl ⟨by rfl, ?_⟩) hHeld ?_ ?_
                   rotate_left
                   ·rintro w' ⟨s0, s1, s2, s3, s4, s5, s6, s7, s8, s9, s10, s11⟩
                    go_simp
                    with_reducible rfl
                   rotate_left
                   ·simp only [Act.put, List.setIfInBounds_toArray, List.set_cons_zero, List.set_cons_succ, i64_w, i32_w]
                    rfl
                   refine pure_ (i := 17) (N := some 70) (v := ?_) (a' := ?_) #[true, true, true, true, true, true, true, true, true, true, true, true, true, true, true, true, true, true, false] rfl rfl (any_of HT_.out (by kernel_rfl)) (fun _ _ _ h => h) (Or.inl ⟨by rfl, ?_⟩) ?_ ?_
                   rotate_left
                   ·intro w'
                    go_simp
                    with_reducible rfl
                   rotate_left
                   ·simp only [Act.put, List.setIfInBounds_toArray, List.set_cons_zero, List.set_cons_succ, i64_w, i32_w]
                    rfl
                   refine pure_ (i := 18) (N := some 71) (v := ?_) (a' := ?_) #[true, true, true, true, true, true, true, true, true, true, true, true, true, true, true, true, true, true, true] rfl rfl (any_of HT_.out (by kernel_rfl)) (fun _ _ _ h => h) (Or.inl ⟨by rfl, ?_⟩) ?_ ?_
                   rotate_left
                   ·intro w'
                    go_simp
                    with_reducible rfl
                   rotate_left
                   ·simp only [Act.put, List.setIfInBounds_toArray, List.set_cons_zero, List.set_cons_succ, i64_w, i32_w]
                    rfl
                   refine done_ (done_of HT_.out (by kernel_rfl)) ?_
                   try go_wp2_with (first | ((with_reducible refine gate_callee (f := 14) rfl ?_); refine goesL_ (some 72) rfl rfl Try.func14 (by kernel_rfl) rfl #[] rfl (by (try simp only [List.map_toArray, List.map_cons, List.map_nil]); first | done | rfl | (simp only [List.length_drop, List.length_take]; rfl)) ?_; (with_reducible refine (ecdysislaw15_live.calls k3  t273 _ A38.out).mono ?_); rintro e w45 ⟨rfl, hb⟩; refine ⟨_, rfl, ?_⟩; have n0_ := Aside0.mk (blk_below (g := gb263) (o := .cells #[.slice A0_0 l0_0.length c0_0, .slice (some ad268) l0_1.length c0_1] 30 (0, 0)) (by (with_reducible repeat (first | refine blk_drewN ?_ _ | refine blk_drew ?_ | refine blk_alloc ?_ _)); exact BK263.out) hb); have n1_ := Aside0.mk (blk_below (g := gb271) (o := .cells #[.string ((rd_T40 ((rd_T38 l0_1 x6_2).f1) x7_3).f0), .int .i64 ((rd_T40 ((rd_T38 l0_1 x6_2).f1) x7_3).f1), .int .i64 ((rd_T40 ((rd_T38 l0_1 x6_2).f1) x7_3).f2), .string ((rd_T40 ((rd_T38 l0_1 x6_2).f1) x7_3).f3), .bool ((rd_T40 ((rd_T38 l0_1 x6_2).f1) x7_3).f4), .bool ((rd_T40 ((rd_T38 l0_1 x6_2).f1) x7_3).f5), .string ((rd_T40 ((rd_T38 l0_1 x6_2).f1) x7_3).f6)] 40 (0, 0)) (by (with_reducible repeat (first | refine blk_drewN ?_ _ | refine blk_drew ?_ | refine blk_alloc ?_ _)); exact BK271.out) hb); have n2_ := Aside0.mk (below_step (by repeat (first | (with_reducible first | exact HB.out | apply below_alloc | apply pw_below_drewN | apply below_drew1 | refine below_set ?_ GE263.out | refine below_set ?_ GE271.out) | exact HB.out)) hb); clear BK263; clear BK271; clear HB; have BK263 := n0_; have BK271 := n1_; have HB := n2_; clear n0_ n1_ n2_; (try clear hb); (try clear hb2); (try clear hk); (try clear hi)))
                   go_ret
                   exact ⟨by first | rfl | (simp [errW_none, errW_some] <;> rfl) | (simp only [← hji34]; first | rfl | (simp [errW_none, errW_some] <;> rfl)) | (simp [*, errW_none, errW_some] <;> rfl), by repeat (first | (with_reducible first | exact HB.out | apply below_alloc | apply pw_below_drewN | apply below_drew1 | refine below_set ?_ GE263.out | refine below_set ?_ GE271.out) | exact HB.out)⟩
                  ·rw [if_neg c37] at H
                   have c37b0 : (((rd_T40 ((rd_T38 l0_1 x6_2).f1) x7_3).f3).toList == ((rd_T38 l0_1 (ji34)).f0).toList) = false := beq_eq_false_iff_ne.mpr c37
                   have c37b1 : (((rd_T40 ((rd_T38 l0_1 x6_2).f1) x7_3).f3).toList != ((rd_T38 l0_1 (ji34)).f0).toList) = true := bne_iff_ne.mpr c37
                   have H' := Aside0.mk H
                   clear H
                   have hcz46_0 : wr.cell? ⟨gb263, 0, none⟩ = some (.slice A0_0 l0_0.length c0_0) := (blk_cell BK263.out 0).trans rfl
                   have hcz46_1 : wr.cell? ⟨gb263, 1, none⟩ = some (.slice A0_1 l0_1.length c0_1) := (blk_cell BK263.out 1).trans rfl
                   have hfz46_0 := blk_frozen BK263.out 0
                   have hfz46_1 := blk_frozen BK263.out 1
                   have p268 : 0 ≤ (x6_2 : Int) := of_decide_eq_true (by first | (with_reducible assumption) | assumption)
                   have q268 : x6_2 < (l0_1.length : Int) := of_decide_eq_true (by first | (with_reducible assumption) | assumption)
                   obtain ⟨ad268, A268_1, c268_1, A268_2, c268_2, e268, hx268_0, hx268_1, hx268_2, hl268_1, hi268_1, hl268_2, hi268_2⟩ := at_T38 HR0_1.out x6_2 p268 q268
                   cases e268
                   replace hx268_0 := (HB.out.cell (World.block_lt_of_cell? w _ hx268_0)).trans hx268_0
                   replace hx268_1 := (HB.out.cell (World.block_lt_of_cell? w _ hx268_1)).trans hx268_1
                   replace hx268_2 := (HB.out.cell (World.block_lt_of_cell? w _ hx268_2)).trans hx268_2
                   have HR268_1 := Aside0.mk hi268_1
                   have HC268_1 := Aside0.mk hl268_1
                   clear hi268_1 hl268_1
                   have HR268_2 := Aside0.mk hi268_2
                   have HC268_2 := Aside0.mk hl268_2
                   clear hi268_2 hl268_2
                   replace p268 := eq_true p268
                   replace q268 := eq_true q268
                   have p269 : 0 ≤ (x6_2 : Int) := of_decide_eq_true (by first | (with_reducible assumption) | assumption)
                   have q269 : x6_2 < (l0_1.length : Int) := of_decide_eq_true (by first | (with_reducible assumption) | assumption)
                   obtain ⟨ad269, A269_1, c269_1, A269_2, c269_2, e269, hx269_0, hx269_1, hx269_2, hl269_1, hi269_1, hl269_2, hi269_2⟩ := at_T38 HR0_1.out x6_2 p269 q269
                   obtain rfl : ad268 = ad269 := (by injection e269)
                   replace hx269_0 := (HB.out.cell (World.block_lt_of_cell? w _ hx269_0)).trans hx269_0
                   replace hx269_1 := (HB.out.cell (World.block_lt_of_cell? w _ hx269_1)).trans hx269_1
                   replace hx269_2 := (HB.out.cell (World.block_lt_of_cell? w _ hx269_2)).trans hx269_2
                   have HR269_1 := Aside0.mk hi269_1
                   have HC269_1 := Aside0.mk hl269_1
                   clear hi269_1 hl269_1
                   have HR269_2 := Aside0.mk hi269_2
                   have HC269_2 := Aside0.mk hl269_2
                   clear hi269_2 hl269_2
                   replace p269 := eq_true p269
                   replace q269 := eq_true q269
                   have ea_ := Option.some.inj (hx268_1.symm.trans hx269_1)
                   injection ea_ with ea_ en_ ec_
                   subst ea_
                   subst ec_
                   clear en_
                   have ea_ := Option.some.inj (hx268_2.symm.trans hx269_2)
                   injection ea_ with ea_ en_ ec_
                   subst ea_
                   subst ec_
                   clear en_
                   have p270 : 0 ≤ (x7_3 : Int) := of_decide_eq_true (by first | (with_reducible assumption) | assumption)
                   have q270 : x7_3 < (((rd_T38 l0_1 x6_2).f1).length : Int) := of_decide_eq_true (by first | (with_reducible assumption) | assumption)
                   obtain ⟨ad270, e270, hx270_0, hx270_1, hx270_2, hx270_3, hx270_4, hx270_5, hx270_6⟩ := at_T40 HR269_1.out x7_3 p270 q270
                   cases e270
                   replace hx270_0 := (HB.out.cell (World.block_lt_of_cell? w _ hx270_0)).trans hx270_0
                   replace hx270_1 := (HB.out.cell (World.block_lt_of_cell? w _ hx270_1)).trans hx270_1
                   replace hx270_2 := (HB.out.cell (World.block_lt_of_cell? w _ hx270_2)).trans hx270_2
                   replace hx270_3 := (HB.out.cell (World.block_lt_of_cell? w _ hx270_3)).trans hx270_3
                   replace hx270_4 := (HB.out.cell (World.block_lt_of_cell? w _ hx270_4)).trans hx270_4
                   replace hx270_5 := (HB.out.cell (World.block_lt_of_cell? w _ hx270_5)).trans hx270_5
                   replace hx270_6 := (HB.out.cell (World.block_lt_of_cell? w _ hx270_6)).trans hx270_6
                   replace p270 := eq_true p270
                   replace q270 := eq_true q270
                   try go_wp2_with (first | ((with_reducible refine gate_dst (N := 8) rfl ?_); refine box_event ?hg (N := 8) ?hd (cs := #[.string (⟨#[]⟩ : ByteArray), .int .i64 0, .int .i64 0, .string (⟨#[]⟩ : ByteArray), .bool false, .bool false, .string (⟨#[]⟩ : ByteArray)]) (t := 40) ?hr ?_; (case hd => rfl); (case hg => rfl); (case hr => first | (go_simp; done) | (go_simp; rfl)); intro gb271 hg w47 hbox hb; have n0_ := Aside0.mk (blk_below (g := gb263) (o := .cells #[.slice A0_0 l0_0.length c0_0, .slice (some ad268) l0_1.length c0_1] 30 (0, 0)) (by (with_reducible repeat (first | refine blk_drewN ?_ _ | refine blk_drew ?_ | refine blk_alloc ?_ _)); exact BK263.out) hb); have n1_ := Aside0.mk (below_step (by repeat (first | (with_reducible first | exact HB.out | apply below_alloc | apply pw_below_drewN | apply below_drew1 | refine below_set ?_ GE263.out) | exact HB.out)) hb); have n2_ := Aside0.mk (hbox); have n3_ := Aside0.mk ((by rw [hg]; exact (below_size (by repeat (first | (with_reducible first | exact HB.out | apply below_alloc | apply pw_below_drewN | apply below_drew1 | refine below_set ?_ GE263.out) | exact HB.out))) : w.heap.size ≤ gb271)); have n4_ := Aside0.mk ((by rw [hg]; exact (below_size (by repeat (first | (with_reducible first | exact HB.out | apply below_alloc | apply pw_below_drewN | apply below_drew1 | refine below_set ?_ GE263.out) | exact HB.out))) : w.heap.size ≤ gb271)); have n5_ := Aside0.mk ((by rw [hg]; exact Nat.ne_of_lt (blk_lt (g := gb263) (o := .cells #[.slice A0_0 l0_0.length c0_0, .slice (some ad268) l0_1.length c0_1] 30 (0, 0)) (by (with_reducible repeat (first | refine blk_drewN ?_ _ | refine blk_drew ?_ | refine blk_alloc ?_ _)); exact BK263.out)) : gb263 ≠ gb271)); have n6_ := Aside0.mk ((by rw [hg]; exact Nat.ne_of_gt (blk_lt (g := gb263) (o := .cells #[.slice A0_0 l0_0.length c0_0, .slice (some ad268) l0_1.length c0_1] 30 (0, 0)) (by (with_reducible repeat (first | refine blk_drewN ?_ _ | refine blk_drew ?_ | refine blk_alloc ?_ _)); exact BK263.out)) : gb271 ≠ gb263)); clear BK263; clear HB; have BK263 := n0_; have HB := n1_; have BK271 := n2_; have GW271 := n3_; have GE271 := n4_; have NB263_271 := n5_; have NB271_263 := n6_; clear n0_ n1_ n2_ n3_ n4_ n5_ n6_; clear hb hbox hg; have hnb48 := NB271_263.out; have hnc48 := NB263_271.out; have hcz49_0 : w47.cell? ⟨gb271, 0, none⟩ = some (.string (⟨#[]⟩ : ByteArray)) := (blk_cell BK271.out 0).trans rfl; have hcz49_1 : w47.cell? ⟨gb271, 1, none⟩ = some (.int .i64 0) := (blk_cell BK271.out 1).trans rfl; have hcz49_2 : w47.cell? ⟨gb271, 2, none⟩ = some (.int .i64 0) := (blk_cell BK271.out 2).trans rfl; have hcz49_3 : w47.cell? ⟨gb271, 3, none⟩ = some (.string (⟨#[]⟩ : ByteArray)) := (blk_cell BK271.out 3).trans rfl; have hcz49_4 : w47.cell? ⟨gb271, 4, none⟩ = some (.bool false) := (blk_cell BK271.out 4).trans rfl; have hcz49_5 : w47.cell? ⟨gb271, 5, none⟩ = some (.bool false) := (blk_cell BK271.out 5).trans rfl; have hcz49_6 : w47.cell? ⟨gb271, 6, none⟩ = some (.string (⟨#[]⟩ : ByteArray)) := (blk_cell BK271.out 6).trans rfl; have hfz49_0 := blk_frozen BK271.out 0; have hfz49_1 := blk_frozen BK271.out 1; have hfz49_2 := blk_frozen BK271.out 2; have hfz49_3 := blk_frozen BK271.out 3; have hfz49_4 := blk_frozen BK271.out 4; have hfz49_5 := blk_frozen BK271.out 5; have hfz49_6 := blk_frozen BK271.out 6))
                   have n0_ : Aside0 ((((((((w47.setCell ⟨gb271, 0, none⟩ (.string ((rd_T40 ((rd_T38 l0_1 x6_2).f1) x7_3).f0))).setCell ⟨gb271, 1, none⟩ (.int .i64 ((rd_T40 ((rd_T38 l0_1 x6_2).f1) x7_3).f1))).setCell ⟨gb271, 2, none⟩ (.int .i64 ((rd_T40 ((rd_T38 l0_1 x6_2).f1) x7_3).f2))).setCell ⟨gb271, 3, none⟩ (.string ((rd_T40 ((rd_T38 l0_1 x6_2).f1) x7_3).f3))).setCell ⟨gb271, 4, none⟩ (.bool ((rd_T40 ((rd_T38 l0_1 x6_2).f1) x7_3).f4))).setCell ⟨gb271, 5, none⟩ (.bool ((rd_T40 ((rd_T38 l0_1 x6_2).f1) x7_3).f5))).setCell ⟨gb271, 6, none⟩ (.string ((rd_T40 ((rd_T38 l0_1 x6_2).f1) x7_3).f6))).heap[gb263]? = some (.cells #[.slice A0_0 l0_0.length c0_0, .slice (some ad268) l0_1.length c0_1] 30 (0, 0))) := ⟨by (with_reducible repeat (first | refine blk_drewN ?_ _ | refine blk_drew ?_ | refine blk_alloc ?_ _)); refine blk_far ?_ NB263_271.out _; (with_reducible repeat (first | refine blk_drewN ?_ _ | refine blk_drew ?_ | refine blk_alloc ?_ _)); refine blk_far ?_ NB263_271.out _; (with_reducible repeat (first | refine blk_drewN ?_ _ | refine blk_drew ?_ | refine blk_alloc ?_ _)); refine blk_far ?_ NB263_271.out _; (with_reducible repeat (first | refine blk_drewN ?_ _ | refine blk_drew ?_ | refine blk_alloc ?_ _)); refine blk_far ?_ NB263_271.out _; (with_reducible repeat (first | refine blk_drewN ?_ _ | refine blk_drew ?_ | refine blk_alloc ?_ _)); refine blk_far ?_ NB263_271.out _; (with_reducible repeat (first | refine blk_drewN ?_ _ | refine blk_drew ?_ | refine blk_alloc ?_ _)); refine blk_far ?_ NB263_271.out _; (with_reducible repeat (first | refine blk_drewN ?_ _ | refine blk_drew ?_ | refine blk_alloc ?_ _)); refine blk_far ?_ NB263_271.out _; (with_reducible repeat (first | refine blk_drewN ?_ _ | refine blk_drew ?_ | refine blk_alloc ?_ _)); exact BK263.out⟩
                   have n1_ : Aside0 ((((((((w47.setCell ⟨gb271, 0, none⟩ (.string ((rd_T40 ((rd_T38 l0_1 x6_2).f1) x7_3).f0))).setCell ⟨gb271, 1, none⟩ (.int .i64 ((rd_T40 ((rd_T38 l0_1 x6_2).f1) x7_3).f1))).setCell ⟨gb271, 2, none⟩ (.int .i64 ((rd_T40 ((rd_T38 l0_1 x6_2).f1) x7_3).f2))).setCell ⟨gb271, 3, none⟩ (.string ((rd_T40 ((rd_T38 l0_1 x6_2).f1) x7_3).f3))).setCell ⟨gb271, 4, none⟩ (.bool ((rd_T40 ((rd_T38 l0_1 x6_2).f1) x7_3).f4))).setCell ⟨gb271, 5, none⟩ (.bool ((rd_T40 ((rd_T38 l0_1 x6_2).f1) x7_3).f5))).setCell ⟨gb271, 6, none⟩ (.string ((rd_T40 ((rd_T38 l0_1 x6_2).f1) x7_3).f6))).heap[gb271]? = some (.cells #[.string ((rd_T40 ((rd_T38 l0_1 x6_2).f1) x7_3).f0), .int .i64 ((rd_T40 ((rd_T38 l0_1 x6_2).f1) x7_3).f1), .int .i64 ((rd_T40 ((rd_T38 l0_1 x6_2).f1) x7_3).f2), .string ((rd_T40 ((rd_T38 l0_1 x6_2).f1) x7_3).f3), .bool ((rd_T40 ((rd_T38 l0_1 x6_2).f1) x7_3).f4), .bool ((rd_T40 ((rd_T38 l0_1 x6_2).f1) x7_3).f5), .string ((rd_T40 ((rd_T38 l0_1 x6_2).f1) x7_3).f6)] 40 (0, 0))) := ⟨by (with_reducible repeat (first | refine blk_drewN ?_ _ | refine blk_drew ?_ | refine blk_alloc ?_ _)); refine blk_put (cs := #[.string ((rd_T40 ((rd_T38 l0_1 x6_2).f1) x7_3).f0), .int .i64 ((rd_T40 ((rd_T38 l0_1 x6_2).f1) x7_3).f1), .int .i64 ((rd_T40 ((rd_T38 l0_1 x6_2).f1) x7_3).f2), .string ((rd_T40 ((rd_T38 l0_1 x6_2).f1) x7_3).f3), .bool ((rd_T40 ((rd_T38 l0_1 x6_2).f1) x7_3).f4), .bool ((rd_T40 ((rd_T38 l0_1 x6_2).f1) x7_3).f5), .string (⟨#[]⟩ : ByteArray)]) ?_ 6 _ rfl; (with_reducible repeat (first | refine blk_drewN ?_ _ | refine blk_drew ?_ | refine blk_alloc ?_ _)); refine blk_put (cs := #[.string ((rd_T40 ((rd_T38 l0_1 x6_2).f1) x7_3).f0), .int .i64 ((rd_T40 ((rd_T38 l0_1 x6_2).f1) x7_3).f1), .int .i64 ((rd_T40 ((rd_T38 l0_1 x6_2).f1) x7_3).f2), .string ((rd_T40 ((rd_T38 l0_1 x6_2).f1) x7_3).f3), .bool ((rd_T40 ((rd_T38 l0_1 x6_2).f1) x7_3).f4), .bool false, .string (⟨#[]⟩ : ByteArray)]) ?_ 5 _ rfl; (with_reducible repeat (first | refine blk_drewN ?_ _ | refine blk_drew ?_ | refine blk_alloc ?_ _)); refine blk_put (cs := #[.string ((rd_T40 ((rd_T38 l0_1 x6_2).f1) x7_3).f0), .int .i64 ((rd_T40 ((rd_T38 l0_1 x6_2).f1) x7_3).f1), .int .i64 ((rd_T40 ((rd_T38 l0_1 x6_2).f1) x7_3).f2), .string ((rd_T40 ((rd_T38 l0_1 x6_2).f1) x7_3).f3), .bool false, .bool false, .string (⟨#[]⟩ : ByteArray)]) ?_ 4 _ rfl; (with_reducible repeat (first | refine blk_drewN ?_ _ | refine blk_drew ?_ | refine blk_alloc ?_ _)); refine blk_put (cs := #[.string ((rd_T40 ((rd_T38 l0_1 x6_2).f1) x7_3).f0), .int .i64 ((rd_T40 ((rd_T38 l0_1 x6_2).f1) x7_3).f1), .int .i64 ((rd_T40 ((rd_T38 l0_1 x6_2).f1) x7_3).f2), .string (⟨#[]⟩ : ByteArray), .bool false, .bool false, .string (⟨#[]⟩ : ByteArray)]) ?_ 3 _ rfl; (with_reducible repeat (first | refine blk_drewN ?_ _ | refine blk_drew ?_ | refine blk_alloc ?_ _)); refine blk_put (cs := #[.string ((rd_T40 ((rd_T38 l0_1 x6_2).f1) x7_3).f0), .int .i64 ((rd_T40 ((rd_T38 l0_1 x6_2).f1) x7_3).f1), .int .i64 0, .string (⟨#[]⟩ : ByteArray), .bool false, .bool false, .string (⟨#[]⟩ : ByteArray)]) ?_ 2 _ rfl; (with_reducible repeat (first | refine blk_drewN ?_ _ | refine blk_drew ?_ | refine blk_alloc ?_ _)); refine blk_put (cs := #[.string ((rd_T40 ((rd_T38 l0_1 x6_2).f1) x7_3).f0), .int .i64 0, .int .i64 0, .string (⟨#[]⟩ : ByteArray), .bool false, .bool false, .string (⟨#[]⟩ : ByteArray)]) ?_ 1 _ rfl; (with_reducible repeat (first | refine blk_drewN ?_ _ | refine blk_drew ?_ | refine blk_alloc ?_ _)); refine blk_put (cs := #[.string (⟨#[]⟩ : ByteArray), .int .i64 0, .int .i64 0, .string (⟨#[]⟩ : ByteArray), .bool false, .bool false, .string (⟨#[]⟩ : ByteArray)]) ?_ 0 _ rfl; (with_reducible repeat (first | refine blk_drewN ?_ _ | refine blk_drew ?_ | refine blk_alloc ?_ _)); exact BK271.out⟩
                   have n2_ : Aside0 (Below w.heap.size w (((((((w47.setCell ⟨gb271, 0, none⟩ (.string ((rd_T40 ((rd_T38 l0_1 x6_2).f1) x7_3).f0))).setCell ⟨gb271, 1, none⟩ (.int .i64 ((rd_T40 ((rd_T38 l0_1 x6_2).f1) x7_3).f1))).setCell ⟨gb271, 2, none⟩ (.int .i64 ((rd_T40 ((rd_T38 l0_1 x6_2).f1) x7_3).f2))).setCell ⟨gb271, 3, none⟩ (.string ((rd_T40 ((rd_T38 l0_1 x6_2).f1) x7_3).f3))).setCell ⟨gb271, 4, none⟩ (.bool ((rd_T40 ((rd_T38 l0_1 x6_2).f1) x7_3).f4))).setCell ⟨gb271, 5, none⟩ (.bool ((rd_T40 ((rd_T38 l0_1 x6_2).f1) x7_3).f5))).setCell ⟨gb271, 6, none⟩ (.string ((rd_T40 ((rd_T38 l0_1 x6_2).f1) x7_3).f6)))) := ⟨by repeat (first | (with_reducible first | exact HB.out | apply below_alloc | apply pw_below_drewN | apply below_drew1 | refine below_set ?_ GE263.out | refine below_set ?_ GE271.out) | exact HB.out)⟩
                   (try clear BK263)
                   (try clear BK271)
                   (try clear HB)
                   generalize (((((((w47.setCell ⟨gb271, 0, none⟩ (.string ((rd_T40 ((rd_T38 l0_1 x6_2).f1) x7_3).f0))).setCell ⟨gb271, 1, none⟩ (.int .i64 ((rd_T40 ((rd_T38 l0_1 x6_2).f1) x7_3).f1))).setCell ⟨gb271, 2, none⟩ (.int .i64 ((rd_T40 ((rd_T38 l0_1 x6_2).f1) x7_3).f2))).setCell ⟨gb271, 3, none⟩ (.string ((rd_T40 ((rd_T38 l0_1 x6_2).f1) x7_3).f3))).setCell ⟨gb271, 4, none⟩ (.bool ((rd_T40 ((rd_T38 l0_1 x6_2).f1) x7_3).f4))).setCell ⟨gb271, 5, none⟩ (.bool ((rd_T40 ((rd_T38 l0_1 x6_2).f1) x7_3).f5))).setCell ⟨gb271, 6, none⟩ (.string ((rd_T40 ((rd_T38 l0_1 x6_2).f1) x7_3).f6))) = w50 at n0_ n1_ n2_ ⊢
                   have BK263 := n0_
                   have BK271 := n1_
                   have HB := n2_
                   clear n0_ n1_ n2_
                   have n0_ := Aside0.mk (blk_drew BK263.out)
                   have n1_ := Aside0.mk (blk_drew BK271.out)
                   have n2_ := Aside0.mk (below_drew1 HB.out)
                   clear BK263
                   clear BK271
                   clear HB
                   have BK263 := n0_
                   have BK271 := n1_
                   have HB := n2_
                   clear n0_ n1_ n2_
                   have p272 : 0 ≤ ((ji34) : Int) := of_decide_eq_true (by first | (with_reducible assumption) | assumption)
                   have q272 : (ji34) < (l0_1.length : Int) := of_decide_eq_true (by first | (with_reducible assumption) | assumption)
                   obtain ⟨ad272, A272_1, c272_1, A272_2, c272_2, e272, hx272_0, hx272_1, hx272_2, hl272_1, hi272_1, hl272_2, hi272_2⟩ := at_T38 HR0_1.out (ji34) p272 q272
                   have hw272_2 := hx272_2
                   have hw272_1 := hx272_1
                   have hw272_0 := hx272_0
                   obtain rfl : ad268 = ad272 := (by injection e272)
                   replace hx272_0 := (HB.out.cell (World.block_lt_of_cell? w _ hx272_0)).trans hx272_0
                   replace hx272_1 := (HB.out.cell (World.block_lt_of_cell? w _ hx272_1)).trans hx272_1
                   replace hx272_2 := (HB.out.cell (World.block_lt_of_cell? w _ hx272_2)).trans hx272_2
                   have HR272_1 := Aside0.mk hi272_1
                   have HC272_1 := Aside0.mk hl272_1
                   clear hi272_1 hl272_1
                   have HR272_2 := Aside0.mk hi272_2
                   have HC272_2 := Aside0.mk hl272_2
                   clear hi272_2 hl272_2
                   replace p272 := eq_true p272
                   replace q272 := eq_true q272
                   refine start_ (n := 19) (S := fun w' => w'.cell? ⟨gb271, 0, none⟩ = some (.string ((rd_T40 ((rd_T38 l0_1 x6_2).f1) x7_3).f0)) ∧ w'.cell? ⟨gb271, 1, none⟩ = some (.int .i64 ((rd_T40 ((rd_T38 l0_1 x6_2).f1) x7_3).f1)) ∧ w'.cell? ⟨gb271, 2, none⟩ = some (.int .i64 ((rd_T40 ((rd_T38 l0_1 x6_2).f1) x7_3).f2)) ∧ w'.cell? ⟨gb271, 3, none⟩ = some (.string ((rd_T40 ((rd_T38 l0_1 x6_2).f1) x7_3).f3)) ∧ w'.cell? ⟨gb271, 4, none⟩ = some (.bool ((rd_T40 ((rd_T38 l0_1 x6_2).f1) x7_3).f4)) ∧ w'.cell? ⟨gb271, 5, none⟩ = some (.bool ((rd_T40 ((rd_T38 l0_1 x6_2).f1) x7_3).f5)) ∧ w'.cell? ⟨gb271, 6, none⟩ = some (.string ((rd_T40 ((rd_T38 l0_1 x6_2).f1) x7_3).f6)) ∧ w'.cell? ⟨gb263, 0, none⟩ = some (.slice A0_0 l0_0.length c0_0) ∧ w'.cell? ⟨gb263, 1, none⟩ = some (.slice (some ad268) l0_1.length c0_1) ∧ w'.cell? (ad268.add (((ji34)).toNat * 3)) = some (.string ((rd_T38 l0_1 (ji34)).f0)) ∧ w'.cell? ⟨(ad268.add (((ji34)).toNat * 3)).block, (ad268.add (((ji34)).toNat * 3)).off + 1, none⟩ = some (.slice A272_1 ((rd_T38 l0_1 (ji34)).f1).length c272_1) ∧ w'.cell? ⟨(ad268.add (((ji34)).toNat * 3)).block, (ad268.add (((ji34)).toNat * 3)).off + 2, none⟩ = some (.slice A272_2 ((rd_T38 l0_1 (ji34)).f2).length c272_2)) (ds := []) #[false, false, false, false, false, false, false, false, false, false, false, false, false, false, false, false, false, false, false] (by kernel_rfl) rfl rfl ⟨(blk_cell BK271.out 0).trans rfl, (blk_cell BK271.out 1).trans rfl, (blk_cell BK271.out 2).trans rfl, (blk_cell BK271.out 3).trans rfl, (blk_cell BK271.out 4).trans rfl, (blk_cell BK271.out 5).trans rfl, (blk_cell BK271.out 6).trans rfl, (blk_cell BK263.out 0).trans rfl, (blk_cell BK263.out 1).trans rfl, ((HB.out.cell (World.block_lt_of_cell? w _ hw272_0)).trans hw272_0), ((HB.out.cell (World.block_lt_of_cell? w _ hw272_1)).trans hw272_1), ((HB.out.cell (World.block_lt_of_cell? w _ hw272_2)).trans hw272_2)⟩ (fun hHeld => ?_); refine with_tabW ecdysislaw15_SchemaLess.tab11 ecdysislaw15_SchemaLess.bits11 (fun HT_ HW_ => ?_)
                   generalize w50.drew = w51 at BK263 BK271 HB HR272_1 HR272_2 hx272_0 hx272_1 hx272_2 hHeld ⊢
                   refine pure_ (i := 0) (N := some 53) (v := ?_) (a' := ?_) #[true, false, false, false, false, false, false, false, false, false, false, false, false, false, false, false, false, false, false] rfl rfl (any_of HT_.out (by kernel_rfl)) (fun _ _ _ h => h) (Or.inl ⟨by rfl, ?_⟩) ?_ ?_
                   rotate_left
                   ·intro w'
                    go_simp
                    with_reducible rfl
                   rotate_left
                   ·simp only [Act.put, List.setIfInBounds_toArray, List.set_cons_zero, List.set_cons_succ, i64_w, i32_w]
                    rfl
                   refine pure_ (i := 1) (N := some 54) (v := ?_) (a' := ?_) #[true, true, false, false, false, false, false, false, false, false, false, false, false, false, false, false, false, false, false] rfl rfl (any_of HT_.out (by kernel_rfl)) (fun _ _ _ h => h) (Or.inl ⟨by rfl, ?_⟩) ?_ ?_
                   rotate_left
                   ·intro w'
                    go_simp
                    with_reducible rfl
                   rotate_left
                   ·simp only [Act.put, List.setIfInBounds_toArray, List.set_cons_zero, List.set_cons_succ, i64_w, i32_w]
                    rfl
                   refine pure_ (i := 2) (N := some 55) (v := ?_) (a' := ?_) #[true, true, true, false, false, false, false, false, false, false, false, false, false, false, false, false, false, false, false] rfl rfl (any_of HT_.out (by kernel_rfl)) (fun _ _ _ h => h) (Or.inl ⟨by rfl, ?_⟩) ?_ ?_
                   rotate_left
                   ·intro w'
                    go_simp
                    with_reducible rfl
                   rotate_left
                   ·simp only [Act.put, List.setIfInBounds_toArray, List.set_cons_zero, List.set_cons_succ, i64_w, i32_w]
                    rfl
                   refine pure_ (i := 3) (N := some 56) (v := ?_) (a' := ?_) #[true, true, true, true, false, false, false, false, false, false, false, false, false, false, false, false, false, false, false] rfl rfl (any_of HT_.out (by kernel_rfl)) (fun _ _ _ h => h) (Or.inl ⟨by rfl, ?_⟩) ?_ ?_
                   rotate_left
                   ·intro w'
                    go_simp
                    with_reducible rfl
                   rotate_left
                   ·simp only [Act.put, List.setIfInBounds_toArray, List.set_cons_zero, List.set_cons_succ, i64_w, i32_w]
                    rfl
                   refine pure_ (i := 4) (N := some 57) (v := ?_) (a' := ?_) #[true, true, true, true, true, false, false, false, false, false, false, false, false, false, false, false, false, false, false] rfl rfl (any_of HT_.out (by kernel_rfl)) (fun _ _ _ h => h) (Or.inl ⟨by rfl, ?_⟩) ?_ ?_
                   rotate_left
                   ·intro w'
                    go_simp
                    with_reducible rfl
                   rotate_left
                   ·simp only [Act.put, List.setIfInBounds_toArray, List.set_cons_zero, List.set_cons_succ, i64_w, i32_w]
                    rfl
                   refine take_ (i := 5) (N := some 58) (v := ?_) (a' := ?_) #[true, true, true, true, true, true, false, false, false, false, false, false, false, false, false, false, false, false, false] rfl rfl (take_ofW HT_.out HW_.out (by kernel_rfl)) (fun _ _ _ h => h) (Or.inl ⟨by rfl, ?_⟩) hHeld ?_ ?_
                   rotate_left
                   ·rintro w' ⟨s0, s1, s2, s3, s4, s5, s6, s7, s8, s9, s10, s11⟩
                    go_simp
                    with_reducible rfl
                   rotate_left
                   ·simp only [Act.put, List.setIfInBounds_toArray, List.set_cons_zero, List.set_cons_succ, i64_w, i32_w]
                    rfl
                   refine pure_ (i := 6) (N := some 59) (v := ?_) (a' := ?_) #[true, true, true, true, true, true, true, false, false, false, false, false, false, false, false, false, false, false, false] rfl rfl (any_of HT_.out (by kernel_rfl)) (fun _ _ _ h => h) (Or.inl ⟨by rfl, ?_⟩) ?_ ?_
                   rotate_left
                   ·intro w'
                    go_simp
                    with_reducible rfl
                   rotate_left
                   ·simp only [Act.put, List.setIfInBounds_toArray, List.set_cons_zero, List.set_cons_succ, i64_w, i32_w]
                    rfl
                   refine pure_ (i := 7) (N := some 60) (v := ?_) (a' := ?_) #[true, true, true, true, true, true, true, true, false, false, false, false, false, false, false, false, false, false, false] rfl rfl (any_of HT_.out (by kernel_rfl)) (fun _ _ _ h => h) (Or.inl ⟨by rfl, ?_⟩) ?_ ?_
                   rotate_left
                   ·intro w'
                    go_simp
                    with_reducible rfl
                   rotate_left
                   ·simp only [Act.put, List.setIfInBounds_toArray, List.set_cons_zero, List.set_cons_succ, i64_w, i32_w]
                    rfl
                   refine pure_ (i := 8) (N := some 61) (v := ?_) (a' := ?_) #[true, true, true, true, true, true, true, true, true, false, false, false, false, false, false, false, false, false, false] rfl rfl (any_of HT_.out (by kernel_rfl)) (fun _ _ _ h => h) (Or.inl ⟨by rfl, ?_⟩) ?_ ?_
                   rotate_left
                   ·intro w'
                    go_simp
                    with_reducible rfl
                   rotate_left
                   ·simp only [Act.put, List.setIfInBounds_toArray, List.set_cons_zero, List.set_cons_succ, i64_w, i32_w]
                    rfl
                   refine pure_ (i := 9) (N := some 62) (v := ?_) (a' := ?_) #[true, true, true, true, true, true, true, true, true, true, false, false, false, false, false, false, false, false, false] rfl rfl (any_of HT_.out (by kernel_rfl)) (fun _ _ _ h => h) (Or.inl ⟨by rfl, ?_⟩) ?_ ?_
                   rotate_left
                   ·intro w'
                    go_simp
                    with_reducible rfl
                   rotate_left
                   ·simp only [Act.put, List.setIfInBounds_toArray, List.set_cons_zero, List.set_cons_succ, i64_w, i32_w]
                    rfl
                   refine pure_ (i := 11) (N := some 64) (v := ?_) (a' := ?_) #[true, true, true, true, true, true, true, true, true, true, false, true, false, false, false, false, false, false, false] rfl rfl (any_of HT_.out (by kernel_rfl)) (fun _ _ _ h => h) (Or.inl ⟨by rfl, ?_⟩) ?_ ?_
                   rotate_left
                   ·intro w'
                    go_simp
                    with_reducible rfl
                   rotate_left
                   ·simp only [Act.put, List.setIfInBounds_toArray, List.set_cons_zero, List.set_cons_succ, i64_w, i32_w]
                    rfl
                   refine pure_ (i := 13) (N := some 66) (v := ?_) (a' := ?_) #[true, true, true, true, true, true, true, true, true, true, false, true, false, true, false, false, false, false, false] rfl rfl (any_of HT_.out (by kernel_rfl)) (fun _ _ _ h => h) (Or.inl ⟨by rfl, ?_⟩) ?_ ?_
                   rotate_left
                   ·intro w'
                    go_simp
                    with_reducible rfl
                   rotate_left
                   ·simp only [Act.put, List.setIfInBounds_toArray, List.set_cons_zero, List.set_cons_succ, i64_w, i32_w]
                    rfl
                   refine take_ (i := 10) (N := some 63) (v := ?_) (a' := ?_) #[true, true, true, true, true, true, true, true, true, true, true, true, false, true, false, false, false, false, false] rfl rfl (take_ofW HT_.out HW_.out (by kernel_rfl)) (fun _ _ _ h => h) (Or.inl ⟨by rfl, ?_⟩) hHeld ?_ ?_
                   rotate_left
                   ·rintro w' ⟨s0, s1, s2, s3, s4, s5, s6, s7, s8, s9, s10, s11⟩
                    go_simp
                    with_reducible rfl
                   rotate_left
                   ·simp only [Act.put, List.setIfInBounds_toArray, List.set_cons_zero, List.set_cons_succ, i64_w, i32_w]
                    rfl
                   refine take_ (i := 12) (N := some 65) (v := ?_) (a' := ?_) #[true, true, true, true, true, true, true, true, true, true, true, true, true, true, false, false, false, false, false] rfl rfl (take_ofW HT_.out HW_.out (by kernel_rfl)) (fun _ _ _ h => h) (Or.inl ⟨by rfl, ?_⟩) hHeld ?_ ?_
                   rotate_left
                   ·rintro w' ⟨s0, s1, s2, s3, s4, s5, s6, s7, s8, s9, s10, s11⟩
                    go_simp
                    with_reducible rfl
                   rotate_left
                   ·simp only [Act.put, List.setIfInBounds_toArray, List.set_cons_zero, List.set_cons_succ, i64_w, i32_w]
                    rfl
                   refine pure_ (i := 14) (N := some 67) (v := ?_) (a' := ?_) #[true, true, true, true, true, true, true, true, true, true, true, true, true, true, true, false, false, false, false] rfl rfl (any_of HT_.out (by kernel_rfl)) (fun _ _ _ h => h) (Or.inl ⟨by rfl, ?_⟩) ?_ ?_
                   rotate_left
                   ·intro w'
                    go_simp
                    with_reducible rfl
                   rotate_left
                   ·simp only [Act.put, List.setIfInBounds_toArray, List.set_cons_zero, List.set_cons_succ, i64_w, i32_w]
                    rfl
                   refine pure_ (i := 15) (N := some 68) (v := ?_) (a' := ?_) #[true, true, true, true, true, true, true, true, true, true, true, true, true, true, true, true, false, false, false] rfl rfl (any_of HT_.out (by kernel_rfl)) (fun _ _ _ h => h) (Or.inl ⟨by rfl, ?_⟩) ?_ ?_
                   rotate_left
                   ·intro w'
                    go_simp
                    with_reducible rfl
                   rotate_left
                   ·simp only [Act.put, List.setIfInBounds_toArray, List.set_cons_zero, List.set_cons_succ, i64_w, i32_w]
                    rfl
                   refine take_ (i := 16) (N := some 69) (v := ?_) (a' := ?_) #[true, true, true, true, true, true, true, true, true, true, true, true, true, true, true, true, true, false, false] rfl rfl (take_ofW HT_.out HW_.out (by kernel_rfl)) (fun _ _ _ h => h) (Or.inl ⟨by rfl, ?_⟩) hHeld ?_ ?_
                   rotate_left
                   ·rintro w' ⟨s0, s1, s2, s3, s4, s5, s6, s7, s8, s9, s10, s11⟩
                    go_simp
                    with_reducible rfl
                   rotate_left
                   ·simp only [Act.put, List.setIfInBounds_toArray, List.set_cons_zero, List.set_cons_succ, i64_w, i32_w]
                    rfl
                   refine pure_ (i := 17) (N := some 70) (v := ?_) (a' := ?_) #[true, true, true, true, true, true, true, true, true, true, true, true, true, true, true, true, true, true, false] rfl rfl (any_of HT_.out (by kernel_rfl)) (fun _ _ _ h => h) (Or.inl ⟨by rfl, ?_⟩) ?_ ?_
                   rotate_left
                   ·intro w'
                    go_simp
                    with_reducible rfl
                   rotate_left
                   ·simp only [Act.put, List.setIfInBounds_toArray, List.set_cons_zero, List.set_cons_succ, i64_w, i32_w]
                    rfl
                   refine pure_ (i := 18) (N := some 71) (v := ?_) (a' := ?_) #[true, true, true, true, true, true, true, true, true, true, true, true, true, true, true, true, true, true, true] rfl rfl (any_of HT_.out (by kernel_rfl)) (fun _ _ _ h => h) (Or.inl ⟨by rfl, ?_⟩) ?_ ?_
                   rotate_left
                   ·intro w'
                    go_simp
                    with_reducible rfl
                   rotate_left
                   ·simp only [Act.put, List.setIfInBounds_toArray, List.set_cons_zero, List.set_cons_succ, i64_w, i32_w]
                    rfl
                   refine done_ (done_of HT_.out (by kernel_rfl)) ?_
                   try subst hji34
                   try go_wp2
                   go_roundg k3
                   case measure => have := HJ2.out; have := HK2.out; have := HK3.out; omega
                   case rel => exact ⟨(wrap64 (x7_3 + 1)), (by first | rfl | (simp; done) | (simp [*]; done)), H', ⟨by have := HJ2.out; have := HK2.out; have := HK3.out; omega⟩, ⟨by (with_reducible repeat (first | refine blk_drewN ?_ _ | refine blk_drew ?_ | refine blk_alloc ?_ _)); exact BK263.out⟩, ⟨by repeat (first | (with_reducible first | exact HB.out | apply below_alloc | apply pw_below_drewN | apply below_drew1 | refine below_set ?_ GE263.out | refine below_set ?_ GE271.out) | exact HB.out)⟩⟩
                 ·rw [if_neg c36] at H
                  exact absurd H (by simp)
                ·rw [if_neg c35] at H
                 exact absurd H (by simp)
               ·rw [if_neg c33] at H
                have c33b0 : (((rd_T40 ((rd_T38 l0_1 x6_2).f1) x7_3).f2) == 15) = false := beq_eq_false_iff_ne.mpr c33
                have c33b1 : (((rd_T40 ((rd_T38 l0_1 x6_2).f1) x7_3).f2) != 15) = true := bne_iff_ne.mpr c33
                have H' := Aside0.mk H
                clear H
                have hcz52_0 : wr.cell? ⟨gb263, 0, none⟩ = some (.slice A0_0 l0_0.length c0_0) := (blk_cell BK263.out 0).trans rfl
                have hcz52_1 : wr.cell? ⟨gb263, 1, none⟩ = some (.slice A0_1 l0_1.length c0_1) := (blk_cell BK263.out 1).trans rfl
                have hfz52_0 := blk_frozen BK263.out 0
                have hfz52_1 := blk_frozen BK263.out 1
                have p268 : 0 ≤ (x6_2 : Int) := of_decide_eq_true (by first | (with_reducible assumption) | assumption)
                have q268 : x6_2 < (l0_1.length : Int) := of_decide_eq_true (by first | (with_reducible assumption) | assumption)
                obtain ⟨ad268, A268_1, c268_1, A268_2, c268_2, e268, hx268_0, hx268_1, hx268_2, hl268_1, hi268_1, hl268_2, hi268_2⟩ := at_T38 HR0_1.out x6_2 p268 q268
                cases e268
                replace hx268_0 := (HB.out.cell (World.block_lt_of_cell? w _ hx268_0)).trans hx268_0
                replace hx268_1 := (HB.out.cell (World.block_lt_of_cell? w _ hx268_1)).trans hx268_1
                replace hx268_2 := (HB.out.cell (World.block_lt_of_cell? w _ hx268_2)).trans hx268_2
                have HR268_1 := Aside0.mk hi268_1
                have HC268_1 := Aside0.mk hl268_1
                clear hi268_1 hl268_1
                have HR268_2 := Aside0.mk hi268_2
                have HC268_2 := Aside0.mk hl268_2
                clear hi268_2 hl268_2
                replace p268 := eq_true p268
                replace q268 := eq_true q268
                have p269 : 0 ≤ (x6_2 : Int) := of_decide_eq_true (by first | (with_reducible assumption) | assumption)
                have q269 : x6_2 < (l0_1.length : Int) := of_decide_eq_true (by first | (with_reducible assumption) | assumption)
                obtain ⟨ad269, A269_1, c269_1, A269_2, c269_2, e269, hx269_0, hx269_1, hx269_2, hl269_1, hi269_1, hl269_2, hi269_2⟩ := at_T38 HR0_1.out x6_2 p269 q269
                obtain rfl : ad268 = ad269 := (by injection e269)
                replace hx269_0 := (HB.out.cell (World.block_lt_of_cell? w _ hx269_0)).trans hx269_0
                replace hx269_1 := (HB.out.cell (World.block_lt_of_cell? w _ hx269_1)).trans hx269_1
                replace hx269_2 := (HB.out.cell (World.block_lt_of_cell? w _ hx269_2)).trans hx269_2
                have HR269_1 := Aside0.mk hi269_1
                have HC269_1 := Aside0.mk hl269_1
                clear hi269_1 hl269_1
                have HR269_2 := Aside0.mk hi269_2
                have HC269_2 := Aside0.mk hl269_2
                clear hi269_2 hl269_2
                replace p269 := eq_true p269
                replace q269 := eq_true q269
                have ea_ := Option.some.inj (hx268_1.symm.trans hx269_1)
                injection ea_ with ea_ en_ ec_
                subst ea_
                subst ec_
                clear en_
                have ea_ := Option.some.inj (hx268_2.symm.trans hx269_2)
                injection ea_ with ea_ en_ ec_
                subst ea_
                subst ec_
                clear en_
                have p270 : 0 ≤ (x7_3 : Int) := of_decide_eq_true (by first | (with_reducible assumption) | assumption)
                have q270 : x7_3 < (((rd_T38 l0_1 x6_2).f1).length : Int) := of_decide_eq_true (by first | (with_reducible assumption) | assumption)
                obtain ⟨ad270, e270, hx270_0, hx270_1, hx270_2, hx270_3, hx270_4, hx270_5, hx270_6⟩ := at_T40 HR269_1.out x7_3 p270 q270
                cases e270
                replace hx270_0 := (HB.out.cell (World.block_lt_of_cell? w _ hx270_0)).trans hx270_0
                replace hx270_1 := (HB.out.cell (World.block_lt_of_cell? w _ hx270_1)).trans hx270_1
                replace hx270_2 := (HB.out.cell (World.block_lt_of_cell? w _ hx270_2)).trans hx270_2
                replace hx270_3 := (HB.out.cell (World.block_lt_of_cell? w _ hx270_3)).trans hx270_3
                replace hx270_4 := (HB.out.cell (World.block_lt_of_cell? w _ hx270_4)).trans hx270_4
                replace hx270_5 := (HB.out.cell (World.block_lt_of_cell? w _ hx270_5)).trans hx270_5
                replace hx270_6 := (HB.out.cell (World.block_lt_of_cell? w _ hx270_6)).trans hx270_6
                replace p270 := eq_true p270
                replace q270 := eq_true q270
                try go_wp2_with (first | ((with_reducible refine gate_dst (N := 8) rfl ?_); refine box_event ?hg (N := 8) ?hd (cs := #[.string (⟨#[]⟩ : ByteArray), .int .i64 0, .int .i64 0, .string (⟨#[]⟩ : ByteArray), .bool false, .bool false, .string (⟨#[]⟩ : ByteArray)]) (t := 40) ?hr ?_; (case hd => rfl); (case hg => rfl); (case hr => first | (go_simp; done) | (go_simp; rfl)); intro gb271 hg w53 hbox hb; have n0_ := Aside0.mk (blk_below (g := gb263) (o := .cells #[.slice A0_0 l0_0.length c0_0, .slice (some ad268) l0_1.length c0_1] 30 (0, 0)) (by (with_reducible repeat (first | refine blk_drewN ?_ _ | refine blk_drew ?_ | refine blk_alloc ?_ _)); exact BK263.out) hb); have n1_ := Aside0.mk (below_step (by repeat (first | (with_reducible first | exact HB.out | apply below_alloc | apply pw_below_drewN | apply below_drew1 | refine below_set ?_ GE263.out) | exact HB.out)) hb); have n2_ := Aside0.mk (hbox); have n3_ := Aside0.mk ((by rw [hg]; exact (below_size (by repeat (first | (with_reducible first | exact HB.out | apply below_alloc | apply pw_below_drewN | apply below_drew1 | refine below_set ?_ GE263.out) | exact HB.out))) : w.heap.size ≤ gb271)); have n4_ := Aside0.mk ((by rw [hg]; exact (below_size (by repeat (first | (with_reducible first | exact HB.out | apply below_alloc | apply pw_below_drewN | apply below_drew1 | refine below_set ?_ GE263.out) | exact HB.out))) : w.heap.size ≤ gb271)); have n5_ := Aside0.mk ((by rw [hg]; exact Nat.ne_of_lt (blk_lt (g := gb263) (o := .cells #[.slice A0_0 l0_0.length c0_0, .slice (some ad268) l0_1.length c0_1] 30 (0, 0)) (by (with_reducible repeat (first | refine blk_drewN ?_ _ | refine blk_drew ?_ | refine blk_alloc ?_ _)); exact BK263.out)) : gb263 ≠ gb271)); have n6_ := Aside0.mk ((by rw [hg]; exact Nat.ne_of_gt (blk_lt (g := gb263) (o := .cells #[.slice A0_0 l0_0.length c0_0, .slice (some ad268) l0_1.length c0_1] 30 (0, 0)) (by (with_reducible repeat (first | refine blk_drewN ?_ _ | refine blk_drew ?_ | refine blk_alloc ?_ _)); exact BK263.out)) : gb271 ≠ gb263)); clear BK263; clear HB; have BK263 := n0_; have HB := n1_; have BK271 := n2_; have GW271 := n3_; have GE271 := n4_; have NB263_271 := n5_; have NB271_263 := n6_; clear n0_ n1_ n2_ n3_ n4_ n5_ n6_; clear hb hbox hg; have hnb54 := NB271_263.out; have hnc54 := NB263_271.out; have hcz55_0 : w53.cell? ⟨gb271, 0, none⟩ = some (.string (⟨#[]⟩ : ByteArray)) := (blk_cell BK271.out 0).trans rfl; have hcz55_1 : w53.cell? ⟨gb271, 1, none⟩ = some (.int .i64 0) := (blk_cell BK271.out 1).trans rfl; have hcz55_2 : w53.cell? ⟨gb271, 2, none⟩ = some (.int .i64 0) := (blk_cell BK271.out 2).trans rfl; have hcz55_3 : w53.cell? ⟨gb271, 3, none⟩ = some (.string (⟨#[]⟩ : ByteArray)) := (blk_cell BK271.out 3).trans rfl; have hcz55_4 : w53.cell? ⟨gb271, 4, none⟩ = some (.bool false) := (blk_cell BK271.out 4).trans rfl; have hcz55_5 : w53.cell? ⟨gb271, 5, none⟩ = some (.bool false) := (blk_cell BK271.out 5).trans rfl; have hcz55_6 : w53.cell? ⟨gb271, 6, none⟩ = some (.string (⟨#[]⟩ : ByteArray)) := (blk_cell BK271.out 6).trans rfl; have hfz55_0 := blk_frozen BK271.out 0; have hfz55_1 := blk_frozen BK271.out 1; have hfz55_2 := blk_frozen BK271.out 2; have hfz55_3 := blk_frozen BK271.out 3; have hfz55_4 := blk_frozen BK271.out 4; have hfz55_5 := blk_frozen BK271.out 5; have hfz55_6 := blk_frozen BK271.out 6))
                have n0_ : Aside0 ((((((((w53.setCell ⟨gb271, 0, none⟩ (.string ((rd_T40 ((rd_T38 l0_1 x6_2).f1) x7_3).f0))).setCell ⟨gb271, 1, none⟩ (.int .i64 ((rd_T40 ((rd_T38 l0_1 x6_2).f1) x7_3).f1))).setCell ⟨gb271, 2, none⟩ (.int .i64 ((rd_T40 ((rd_T38 l0_1 x6_2).f1) x7_3).f2))).setCell ⟨gb271, 3, none⟩ (.string ((rd_T40 ((rd_T38 l0_1 x6_2).f1) x7_3).f3))).setCell ⟨gb271, 4, none⟩ (.bool ((rd_T40 ((rd_T38 l0_1 x6_2).f1) x7_3).f4))).setCell ⟨gb271, 5, none⟩ (.bool ((rd_T40 ((rd_T38 l0_1 x6_2).f1) x7_3).f5))).setCell ⟨gb271, 6, none⟩ (.string ((rd_T40 ((rd_T38 l0_1 x6_2).f1) x7_3).f6))).heap[gb263]? = some (.cells #[.slice A0_0 l0_0.length c0_0, .slice (some ad268) l0_1.length c0_1] 30 (0, 0))) := ⟨by (with_reducible repeat (first | refine blk_drewN ?_ _ | refine blk_drew ?_ | refine blk_alloc ?_ _)); refine blk_far ?_ NB263_271.out _; (with_reducible repeat (first | refine blk_drewN ?_ _ | refine blk_drew ?_ | refine blk_alloc ?_ _)); refine blk_far ?_ NB263_271.out _; (with_reducible repeat (first | refine blk_drewN ?_ _ | refine blk_drew ?_ | refine blk_alloc ?_ _)); refine blk_far ?_ NB263_271.out _; (with_reducible repeat (first | refine blk_drewN ?_ _ | refine blk_drew ?_ | refine blk_alloc ?_ _)); refine blk_far ?_ NB263_271.out _; (with_reducible repeat (first | refine blk_drewN ?_ _ | refine blk_drew ?_ | refine blk_alloc ?_ _)); refine blk_far ?_ NB263_271.out _; (with_reducible repeat (first | refine blk_drewN ?_ _ | refine blk_drew ?_ | refine blk_alloc ?_ _)); refine blk_far ?_ NB263_271.out _; (with_reducible repeat (first | refine blk_drewN ?_ _ | refine blk_drew ?_ | refine blk_alloc ?_ _)); refine blk_far ?_ NB263_271.out _; (with_reducible repeat (first | refine blk_drewN ?_ _ | refine blk_drew ?_ | refine blk_alloc ?_ _)); exact BK263.out⟩
                have n1_ : Aside0 ((((((((w53.setCell ⟨gb271, 0, none⟩ (.string ((rd_T40 ((rd_T38 l0_1 x6_2).f1) x7_3).f0))).setCell ⟨gb271, 1, none⟩ (.int .i64 ((rd_T40 ((rd_T38 l0_1 x6_2).f1) x7_3).f1))).setCell ⟨gb271, 2, none⟩ (.int .i64 ((rd_T40 ((rd_T38 l0_1 x6_2).f1) x7_3).f2))).setCell ⟨gb271, 3, none⟩ (.string ((rd_T40 ((rd_T38 l0_1 x6_2).f1) x7_3).f3))).setCell ⟨gb271, 4, none⟩ (.bool ((rd_T40 ((rd_T38 l0_1 x6_2).f1) x7_3).f4))).setCell ⟨gb271, 5, none⟩ (.bool ((rd_T40 ((rd_T38 l0_1 x6_2).f1) x7_3).f5))).setCell ⟨gb271, 6, none⟩ (.string ((rd_T40 ((rd_T38 l0_1 x6_2).f1) x7_3).f6))).heap[gb271]? = some (.cells #[.string ((rd_T40 ((rd_T38 l0_1 x6_2).f1) x7_3).f0), .int .i64 ((rd_T40 ((rd_T38 l0_1 x6_2).f1) x7_3).f1), .int .i64 ((rd_T40 ((rd_T38 l0_1 x6_2).f1) x7_3).f2), .string ((rd_T40 ((rd_T38 l0_1 x6_2).f1) x7_3).f3), .bool ((rd_T40 ((rd_T38 l0_1 x6_2).f1) x7_3).f4), .bool ((rd_T40 ((rd_T38 l0_1 x6_2).f1) x7_3).f5), .string ((rd_T40 ((rd_T38 l0_1 x6_2).f1) x7_3).f6)] 40 (0, 0))) := ⟨by (with_reducible repeat (first | refine blk_drewN ?_ _ | refine blk_drew ?_ | refine blk_alloc ?_ _)); refine blk_put (cs := #[.string ((rd_T40 ((rd_T38 l0_1 x6_2).f1) x7_3).f0), .int .i64 ((rd_T40 ((rd_T38 l0_1 x6_2).f1) x7_3).f1), .int .i64 ((rd_T40 ((rd_T38 l0_1 x6_2).f1) x7_3).f2), .string ((rd_T40 ((rd_T38 l0_1 x6_2).f1) x7_3).f3), .bool ((rd_T40 ((rd_T38 l0_1 x6_2).f1) x7_3).f4), .bool ((rd_T40 ((rd_T38 l0_1 x6_2).f1) x7_3).f5), .string (⟨#[]⟩ : ByteArray)]) ?_ 6 _ rfl; (with_reducible repeat (first | refine blk_drewN ?_ _ | refine blk_drew ?_ | refine blk_alloc ?_ _)); refine blk_put (cs := #[.string ((rd_T40 ((rd_T38 l0_1 x6_2).f1) x7_3).f0), .int .i64 ((rd_T40 ((rd_T38 l0_1 x6_2).f1) x7_3).f1), .int .i64 ((rd_T40 ((rd_T38 l0_1 x6_2).f1) x7_3).f2), .string ((rd_T40 ((rd_T38 l0_1 x6_2).f1) x7_3).f3), .bool ((rd_T40 ((rd_T38 l0_1 x6_2).f1) x7_3).f4), .bool false, .string (⟨#[]⟩ : ByteArray)]) ?_ 5 _ rfl; (with_reducible repeat (first | refine blk_drewN ?_ _ | refine blk_drew ?_ | refine blk_alloc ?_ _)); refine blk_put (cs := #[.string ((rd_T40 ((rd_T38 l0_1 x6_2).f1) x7_3).f0), .int .i64 ((rd_T40 ((rd_T38 l0_1 x6_2).f1) x7_3).f1), .int .i64 ((rd_T40 ((rd_T38 l0_1 x6_2).f1) x7_3).f2), .string ((rd_T40 ((rd_T38 l0_1 x6_2).f1) x7_3).f3), .bool false, .bool false, .string (⟨#[]⟩ : ByteArray)]) ?_ 4 _ rfl; (with_reducible repeat (first | refine blk_drewN ?_ _ | refine blk_drew ?_ | refine blk_alloc ?_ _)); refine blk_put (cs := #[.string ((rd_T40 ((rd_T38 l0_1 x6_2).f1) x7_3).f0), .int .i64 ((rd_T40 ((rd_T38 l0_1 x6_2).f1) x7_3).f1), .int .i64 ((rd_T40 ((rd_T38 l0_1 x6_2).f1) x7_3).f2), .string (⟨#[]⟩ : ByteArray), .bool false, .bool false, .string (⟨#[]⟩ : ByteArray)]) ?_ 3 _ rfl; (with_reducible repeat (first | refine blk_drewN ?_ _ | refine blk_drew ?_ | refine blk_alloc ?_ _)); refine blk_put (cs := #[.string ((rd_T40 ((rd_T38 l0_1 x6_2).f1) x7_3).f0), .int .i64 ((rd_T40 ((rd_T38 l0_1 x6_2).f1) x7_3).f1), .int .i64 0, .string (⟨#[]⟩ : ByteArray), .bool false, .bool false, .string (⟨#[]⟩ : ByteArray)]) ?_ 2 _ rfl; (with_reducible repeat (first | refine blk_drewN ?_ _ | refine blk_drew ?_ | refine blk_alloc ?_ _)); refine blk_put (cs := #[.string ((rd_T40 ((rd_T38 l0_1 x6_2).f1) x7_3).f0), .int .i64 0, .int .i64 0, .string (⟨#[]⟩ : ByteArray), .bool false, .bool false, .string (⟨#[]⟩ : ByteArray)]) ?_ 1 _ rfl; (with_reducible repeat (first | refine blk_drewN ?_ _ | refine blk_drew ?_ | refine blk_alloc ?_ _)); refine blk_put (cs := #[.string (⟨#[]⟩ : ByteArray), .int .i64 0, .int .i64 0, .string (⟨#[]⟩ : ByteArray), .bool false, .bool false, .string (⟨#[]⟩ : ByteArray)]) ?_ 0 _ rfl; (with_reducible repeat (first | refine blk_drewN ?_ _ | refine blk_drew ?_ | refine blk_alloc ?_ _)); exact BK271.out⟩
                have n2_ : Aside0 (Below w.heap.size w (((((((w53.setCell ⟨gb271, 0, none⟩ (.string ((rd_T40 ((rd_T38 l0_1 x6_2).f1) x7_3).f0))).setCell ⟨gb271, 1, none⟩ (.int .i64 ((rd_T40 ((rd_T38 l0_1 x6_2).f1) x7_3).f1))).setCell ⟨gb271, 2, none⟩ (.int .i64 ((rd_T40 ((rd_T38 l0_1 x6_2).f1) x7_3).f2))).setCell ⟨gb271, 3, none⟩ (.string ((rd_T40 ((rd_T38 l0_1 x6_2).f1) x7_3).f3))).setCell ⟨gb271, 4, none⟩ (.bool ((rd_T40 ((rd_T38 l0_1 x6_2).f1) x7_3).f4))).setCell ⟨gb271, 5, none⟩ (.bool ((rd_T40 ((rd_T38 l0_1 x6_2).f1) x7_3).f5))).setCell ⟨gb271, 6, none⟩ (.string ((rd_T40 ((rd_T38 l0_1 x6_2).f1) x7_3).f6)))) := ⟨by repeat (first | (with_reducible first | exact HB.out | apply below_alloc | apply pw_below_drewN | apply below_drew1 | refine below_set ?_ GE263.out | refine below_set ?_ GE271.out) | exact HB.out)⟩
                (try clear BK263)
                (try clear BK271)
                (try clear HB)
                generalize (((((((w53.setCell ⟨gb271, 0, none⟩ (.string ((rd_T40 ((rd_T38 l0_1 x6_2).f1) x7_3).f0))).setCell ⟨gb271, 1, none⟩ (.int .i64 ((rd_T40 ((rd_T38 l0_1 x6_2).f1) x7_3).f1))).setCell ⟨gb271, 2, none⟩ (.int .i64 ((rd_T40 ((rd_T38 l0_1 x6_2).f1) x7_3).f2))).setCell ⟨gb271, 3, none⟩ (.string ((rd_T40 ((rd_T38 l0_1 x6_2).f1) x7_3).f3))).setCell ⟨gb271, 4, none⟩ (.bool ((rd_T40 ((rd_T38 l0_1 x6_2).f1) x7_3).f4))).setCell ⟨gb271, 5, none⟩ (.bool ((rd_T40 ((rd_T38 l0_1 x6_2).f1) x7_3).f5))).setCell ⟨gb271, 6, none⟩ (.string ((rd_T40 ((rd_T38 l0_1 x6_2).f1) x7_3).f6))) = w56 at n0_ n1_ n2_ ⊢
                have BK263 := n0_
                have BK271 := n1_
                have HB := n2_
                clear n0_ n1_ n2_
                have n0_ := Aside0.mk (blk_drew BK263.out)
                have n1_ := Aside0.mk (blk_drew BK271.out)
                have n2_ := Aside0.mk (below_drew1 HB.out)
                clear BK263
                clear BK271
                clear HB
                have BK263 := n0_
                have BK271 := n1_
                have HB := n2_
                clear n0_ n1_ n2_
                refine start_ (n := 19) (S := fun w' => w'.cell? ⟨gb271, 0, none⟩ = some (.string ((rd_T40 ((rd_T38 l0_1 x6_2).f1) x7_3).f0)) ∧ w'.cell? ⟨gb271, 1, none⟩ = some (.int .i64 ((rd_T40 ((rd_T38 l0_1 x6_2).f1) x7_3).f1)) ∧ w'.cell? ⟨gb271, 2, none⟩ = some (.int .i64 ((rd_T40 ((rd_T38 l0_1 x6_2).f1) x7_3).f2)) ∧ w'.cell? ⟨gb271, 3, none⟩ = some (.string ((rd_T40 ((rd_T38 l0_1 x6_2).f1) x7_3).f3)) ∧ w'.cell? ⟨gb271, 4, none⟩ = some (.bool ((rd_T40 ((rd_T38 l0_1 x6_2).f1) x7_3).f4)) ∧ w'.cell? ⟨gb271, 5, none⟩ = some (.bool ((rd_T40 ((rd_T38 l0_1 x6_2).f1) x7_3).f5)) ∧ w'.cell? ⟨gb271, 6, none⟩ = some (.string ((rd_T40 ((rd_T38 l0_1 x6_2).f1) x7_3).f6))) (ds := []) #[false, false, false, false, false, false, false, false, false, false, false, false, false, false, false, false, false, false, false] (by kernel_rfl) rfl rfl ⟨(blk_cell BK271.out 0).trans rfl, (blk_cell BK271.out 1).trans rfl, (blk_cell BK271.out 2).trans rfl, (blk_cell BK271.out 3).trans rfl, (blk_cell BK271.out 4).trans rfl, (blk_cell BK271.out 5).trans rfl, (blk_cell BK271.out 6).trans rfl⟩ (fun hHeld => ?_); refine with_tabW ecdysislaw15_SchemaLess.tab11 ecdysislaw15_SchemaLess.bits11 (fun HT_ HW_ => ?_)
                generalize w56.drew = w57 at BK263 BK271 HB hHeld ⊢
                refine pure_ (i := 0) (N := some 53) (v := ?_) (a' := ?_) #[true, false, false, false, false, false, false, false, false, false, false, false, false, false, false, false, false, false, false] rfl rfl (any_of HT_.out (by kernel_rfl)) (fun _ _ _ h => h) (Or.inl ⟨by rfl, ?_⟩) ?_ ?_
                rotate_left
                ·intro w'
                 go_simp
                 with_reducible rfl
                rotate_left
                ·simp only [Act.put, List.setIfInBounds_toArray, List.set_cons_zero, List.set_cons_succ, i64_w, i32_w]
                 rfl
                refine pure_ (i := 1) (N := some 54) (v := ?_) (a' := ?_) #[true, true, false, false, false, false, false, false, false, false, false, false, false, false, false, false, false, false, false] rfl rfl (any_of HT_.out (by kernel_rfl)) (fun _ _ _ h => h) (Or.inl ⟨by rfl, ?_⟩) ?_ ?_
                rotate_left
                ·intro w'
                 go_simp
                 with_reducible rfl
                rotate_left
                ·simp only [Act.put, List.setIfInBounds_toArray, List.set_cons_zero, List.set_cons_succ, i64_w, i32_w]
                 rfl
                refine pure_ (i := 2) (N := some 55) (v := ?_) (a' := ?_) #[true, true, true, false, false, false, false, false, false, false, false, false, false, false, false, false, false, false, false] rfl rfl (any_of HT_.out (by kernel_rfl)) (fun _ _ _ h => h) (Or.inl ⟨by rfl, ?_⟩) ?_ ?_
                rotate_left
                ·intro w'
                 go_simp
                 with_reducible rfl
                rotate_left
                ·simp only [Act.put, List.setIfInBounds_toArray, List.set_cons_zero, List.set_cons_succ, i64_w, i32_w]
                 rfl
                refine pure_ (i := 3) (N := some 56) (v := ?_) (a' := ?_) #[true, true, true, true, false, false, false, false, false, false, false, false, false, false, false, false, false, false, false] rfl rfl (any_of HT_.out (by kernel_rfl)) (fun _ _ _ h => h) (Or.inl ⟨by rfl, ?_⟩) ?_ ?_
                rotate_left
                ·intro w'
                 go_simp
                 with_reducible rfl
                rotate_left
                ·simp only [Act.put, List.setIfInBounds_toArray, List.set_cons_zero, List.set_cons_succ, i64_w, i32_w]
                 rfl
                refine pure_ (i := 4) (N := some 57) (v := ?_) (a' := ?_) #[true, true, true, true, true, false, false, false, false, false, false, false, false, false, false, false, false, false, false] rfl rfl (any_of HT_.out (by kernel_rfl)) (fun _ _ _ h => h) (Or.inl ⟨by rfl, ?_⟩) ?_ ?_
                rotate_left
                ·intro w'
                 go_simp
                 with_reducible rfl
                rotate_left
                ·simp only [Act.put, List.setIfInBounds_toArray, List.set_cons_zero, List.set_cons_succ, i64_w, i32_w]
                 rfl
                refine take_ (i := 5) (N := some 58) (v := ?_) (a' := ?_) #[true, true, true, true, true, true, false, false, false, false, false, false, false, false, false, false, false, false, false] rfl rfl (take_ofW HT_.out HW_.out (by kernel_rfl)) (fun _ _ _ h => h) (Or.inl ⟨by rfl, ?_⟩) hHeld ?_ ?_
                rotate_left
                ·rintro w' ⟨s0, s1, s2, s3, s4, s5, s6⟩
                 go_simp
                 with_reducible rfl
                rotate_left
                ·simp only [Act.put, List.setIfInBounds_toArray, List.set_cons_zero, List.set_cons_succ, i64_w, i32_w]
                 rfl
                refine pure_ (i := 6) (N := some 59) (v := ?_) (a' := ?_) #[true, true, true, true, true, true, true, false, false, false, false, false, false, false, false, false, false, false, false] rfl rfl (any_of HT_.out (by kernel_rfl)) (fun _ _ _ h => h) (Or.inl ⟨by rfl, ?_⟩) ?_ ?_
                rotate_left
                ·intro w'
                 go_simp
                 with_reducible rfl
                rotate_left
                ·simp only [Act.put, List.setIfInBounds_toArray, List.set_cons_zero, List.set_cons_succ, i64_w, i32_w]
                 rfl
                refine pure_ (i := 7) (N := some 60) (v := ?_) (a' := ?_) #[true, true, true, true, true, true, true, true, false, false, false, false, false, false, false, false, false, false, false] rfl rfl (any_of HT_.out (by kernel_rfl)) (fun _ _ _ h => h) (Or.inl ⟨by rfl, ?_⟩) ?_ ?_
                rotate_left
                ·intro w'
                 go_simp
                 with_reducible rfl
                rotate_left
                ·simp only [Act.put, List.setIfInBounds_toArray, List.set_cons_zero, List.set_cons_succ, i64_w, i32_w]
                 rfl
                refine pure_ (i := 8) (N := some 61) (v := ?_) (a' := ?_) #[true, true, true, true, true, true, true, true, true, false, false, false, false, false, false, false, false, false, false] rfl rfl (any_of HT_.out (by kernel_rfl)) (fun _ _ _ h => h) (Or.inl ⟨by rfl, ?_⟩) ?_ ?_
                rotate_left
                ·intro w'
                 go_simp
                 with_reducible rfl
                rotate_left
                ·simp only [Act.put, List.setIfInBounds_toArray, List.set_cons_zero, List.set_cons_succ, i64_w, i32_w]
                 rfl
                refine pure_ (i := 9) (N := some 62) (v := undef) (a' := ?_) #[true, true, true, true, true, true, true, true, true, true, false, false, false, false, false, false, false, false, false] rfl rfl (any_of HT_.out (by kernel_rfl)) (fun _ _ _ h => h) (Or.inr ⟨by rfl, rfl⟩) ?_ ?_
                rotate_left
                ·simp only [Act.put, List.setIfInBounds_toArray, List.set_cons_zero, List.set_cons_succ, i64_w, i32_w]
                 rfl
                refine pure_ (i := 10) (N := some 63) (v := undef) (a' := ?_) #[true, true, true, true, true, true, true, true, true, true, true, false, false, false, false, false, false, false, false] rfl rfl (any_of HT_.out (by kernel_rfl)) (fun _ _ _ h => h) (Or.inr ⟨by rfl, rfl⟩) ?_ ?_
                rotate_left
                ·simp only [Act.put, List.setIfInBounds_toArray, List.set_cons_zero, List.set_cons_succ, i64_w, i32_w]
                 rfl
                refine pure_ (i := 11) (N := some 64) (v := undef) (a' := ?_) #[true, true, true, true, true, true, true, true, true, true, true, true, false, false, false, false, false, false, false] rfl rfl (any_of HT_.out (by kernel_rfl)) (fun _ _ _ h => h) (Or.inr ⟨by rfl, rfl⟩) ?_ ?_
                rotate_left
                ·simp only [Act.put, List.setIfInBounds_toArray, List.set_cons_zero, List.set_cons_succ, i64_w, i32_w]
                 rfl
                refine pure_ (i := 12) (N := some 65) (v := undef) (a' := ?_) #[true, true, true, true, true, true, true, true, true, true, true, true, true, false, false, false, false, false, false] rfl rfl (any_of HT_.out (by kernel_rfl)) (fun _ _ _ h => h) (Or.inr ⟨by rfl, rfl⟩) ?_ ?_
                rotate_left
                ·simp only [Act.put, List.setIfInBounds_toArray, List.set_cons_zero, List.set_cons_succ, i64_w, i32_w]
                 rfl
                refine pure_ (i := 13) (N := some 66) (v := undef) (a' := ?_) #[true, true, true, true, true, true, true, true, true, true, true, true, true, true, false, false, false, false, false] rfl rfl (any_of HT_.out (by kernel_rfl)) (fun _ _ _ h => h) (Or.inr ⟨by rfl, rfl⟩) ?_ ?_
                rotate_left
                ·simp only [Act.put, List.setIfInBounds_toArray, List.set_cons_zero, List.set_cons_succ, i64_w, i32_w]
                 rfl
                refine pure_ (i := 14) (N := some 67) (v := undef) (a' := ?_) #[true, true, true, true, true, true, true, true, true, true, true, true, true, true, true, false, false, false, false] rfl rfl (any_of HT_.out (by kernel_rfl)) (fun _ _ _ h => h) (Or.inr ⟨by rfl, rfl⟩) ?_ ?_
                rotate_left
                ·simp only [Act.put, List.setIfInBounds_toArray, List.set_cons_zero, List.set_cons_succ, i64_w, i32_w]
                 rfl
                refine pure_ (i := 15) (N := some 68) (v := undef) (a' := ?_) #[true, true, true, true, true, true, true, true, true, true, true, true, true, true, true, true, false, false, false] rfl rfl (any_of HT_.out (by kernel_rfl)) (fun _ _ _ h => h) (Or.inr ⟨by rfl, rfl⟩) ?_ ?_
                rotate_left
                ·simp only [Act.put, List.setIfInBounds_toArray, List.set_cons_zero, List.set_cons_succ, i64_w, i32_w]
                 rfl
                refine pure_ (i := 16) (N := some 69) (v := undef) (a' := ?_) #[true, true, true, true, true, true, true, true, true, true, true, true, true, true, true, true, true, false, false] rfl rfl (any_of HT_.out (by kernel_rfl)) (fun _ _ _ h => h) (Or.inr ⟨by rfl, rfl⟩) ?_ ?_
                rotate_left
                ·simp only [Act.put, List.setIfInBounds_toArray, List.set_cons_zero, List.set_cons_succ, i64_w, i32_w]
                 rfl
                refine pure_ (i := 17) (N := some 70) (v := undef) (a' := ?_) #[true, true, true, true, true, true, true, true, true, true, true, true, true, true, true, true, true, true, false] rfl rfl (any_of HT_.out (by kernel_rfl)) (fun _ _ _ h => h) (Or.inr ⟨by rfl, rfl⟩) ?_ ?_
                rotate_left
                ·simp only [Act.put, List.setIfInBounds_toArray, List.set_cons_zero, List.set_cons_succ, i64_w, i32_w]
                 rfl
                refine pure_ (i := 18) (N := some 71) (v := ?_) (a' := ?_) #[true, true, true, true, true, true, true, true, true, true, true, true, true, true, true, true, true, true, true] rfl rfl (any_of HT_.out (by kernel_rfl)) (fun _ _ _ h => h) (Or.inl ⟨by rfl, ?_⟩) ?_ ?_
                rotate_left
                ·intro w'
                 go_simp
                 with_reducible rfl
                rotate_left
                ·simp only [Act.put, List.setIfInBounds_toArray, List.set_cons_zero, List.set_cons_succ, i64_w, i32_w]
                 rfl
                refine done_ (done_of HT_.out (by kernel_rfl)) ?_
                try subst hji34
                try go_wp2
                go_roundg k3
                case measure => have := HJ2.out; have := HK2.out; have := HK3.out; omega
                case rel => exact ⟨(wrap64 (x7_3 + 1)), (by first | rfl | (simp; done) | (simp [*]; done)), H', ⟨by have := HJ2.out; have := HK2.out; have := HK3.out; omega⟩, ⟨by (with_reducible repeat (first | refine blk_drewN ?_ _ | refine blk_drew ?_ | refine blk_alloc ?_ _)); exact BK263.out⟩, ⟨by repeat (first | (with_reducible first | exact HB.out | apply below_alloc | apply pw_below_drewN | apply below_drew1 | refine below_set ?_ GE263.out | refine below_set ?_ GE271.out) | exact HB.out)⟩⟩
             ·rw [if_neg c25] at H
              exact absurd H (by simp)
            ·rw [if_neg c24] at H
             have c24b0 : decide (x7_3 < (((rd_T38 l0_1 x6_2).f1).length : Int)) = false := decide_eq_false c24
             clear c24
             have H' := Aside0.mk H
             clear H
             have hcz58_0 : wr.cell? ⟨gb263, 0, none⟩ = some (.slice A0_0 l0_0.length c0_0) := (blk_cell BK263.out 0).trans rfl
             have hcz58_1 : wr.cell? ⟨gb263, 1, none⟩ = some (.slice A0_1 l0_1.length c0_1) := (blk_cell BK263.out 1).trans rfl
             have hfz58_0 := blk_frozen BK263.out 0
             have hfz58_1 := blk_frozen BK263.out 1
             have p268 : 0 ≤ (x6_2 : Int) := of_decide_eq_true (by first | (with_reducible assumption) | assumption)
             have q268 : x6_2 < (l0_1.length : Int) := of_decide_eq_true (by first | (with_reducible assumption) | assumption)
             obtain ⟨ad268, A268_1, c268_1, A268_2, c268_2, e268, hx268_0, hx268_1, hx268_2, hl268_1, hi268_1, hl268_2, hi268_2⟩ := at_T38 HR0_1.out x6_2 p268 q268
             cases e268
             replace hx268_0 := (HB.out.cell (World.block_lt_of_cell? w _ hx268_0)).trans hx268_0
             replace hx268_1 := (HB.out.cell (World.block_lt_of_cell? w _ hx268_1)).trans hx268_1
             replace hx268_2 := (HB.out.cell (World.block_lt_of_cell? w _ hx268_2)).trans hx268_2
             have HR268_1 := Aside0.mk hi268_1
             have HC268_1 := Aside0.mk hl268_1
             clear hi268_1 hl268_1
             have HR268_2 := Aside0.mk hi268_2
             have HC268_2 := Aside0.mk hl268_2
             clear hi268_2 hl268_2
             replace p268 := eq_true p268
             replace q268 := eq_true q268
             go_wp2
             go_roundg k3
             case measure => have := HJ2.out; have := HK2.out; have := HK3.out; omega
             case rel => exact ⟨(wrap64 (x6_2 + 1)), (by first | rfl | (simp; done) | (simp [*]; done)), H', ⟨by have := HJ2.out; have := HK2.out; have := HK3.out; omega⟩, ⟨by (with_reducible repeat (first | refine blk_drewN ?_ _ | refine blk_drew ?_ | refine blk_alloc ?_ _)); exact BK263.out⟩, ⟨by repeat (first | (with_reducible first | exact HB.out | apply below_alloc | apply pw_below_drewN | apply below_drew1 | refine below_set ?_ GE263.out) | exact HB.out)⟩⟩
           ·rw [if_neg c23] at H
            exact absurd H (by simp)
          ·rw [if_neg c22] at H
           exact absurd H (by simp)
       ·rw [if_neg c20] at H
        have c20b0 : decide (x6_2 < (l0_1.length : Int)) = false := decide_eq_false c20
        clear c20
        replace H := Option.bind_eq_some_iff.mp H
        obtain ⟨⟨t274, t277⟩, A590, H⟩ := H
        replace H : (if 0 ≤ (Int.tmod (wrap64 (a1)) (l0_1.length : Int)) then (if (Int.tmod (wrap64 (a1)) (l0_1.length : Int)) ≤ (t277.length : Int) then (if 0 ≤ (wrap64 ((Int.tmod (wrap64 (a1)) (l0_1.length : Int)) + 1)) then (if (wrap64 ((Int.tmod (wrap64 (a1)) (l0_1.length : Int)) + 1)) ≤ (t277.length : Int) then ((some (t277.eraseIdx ((Int.tmod (wrap64 (a1)) (l0_1.length : Int)) : Int).toNat : List (S38))).bind fun y289 => (if (y289.length : Int) = 0 then ((schema_Check.f k2 t274 y289).bind fun t292 => ((ecdysislaw15_num.f t292).bind fun t293 => (if t293 = 5 then ((ecdysislaw15_live.f k2).bind fun t294 => (some t294)) else (some false)))) else ((schema_Check.f k2 t274 y289).bind fun t295 => ((ecdysislaw15_num.f t295).bind fun t296 => (if t296 = 0 then ((ecdysislaw15_live.f k2).bind fun t297 => (some t297)) else (some false)))))) else (none)) else (none)) else (none)) else (none)) = some r := H
        have A59 := Aside0.mk A590
        clear A590
        obtain ⟨ji60, hji60⟩ : ∃ j_ : Int, (Int.tmod (wrap64 (a1)) (l0_1.length : Int)) = j_ := ⟨_, rfl⟩
        replace H : (if 0 ≤ (ji60) then (if (ji60) ≤ (t277.length : Int) then (if 0 ≤ (wrap64 ((ji60) + 1)) then (if (wrap64 ((ji60) + 1)) ≤ (t277.length : Int) then ((some (t277.eraseIdx ((ji60) : Int).toNat : List (S38))).bind fun y289 => (if (y289.length : Int) = 0 then ((schema_Check.f k2 t274 y289).bind fun t292 => ((ecdysislaw15_num.f t292).bind fun t293 => (if t293 = 5 then ((ecdysislaw15_live.f k2).bind fun t294 => (some t294)) else (some false)))) else ((schema_Check.f k2 t274 y289).bind fun t295 => ((ecdysislaw15_num.f t295).bind fun t296 => (if t296 = 0 then ((ecdysislaw15_live.f k2).bind fun t297 => (some t297)) else (some false)))))) else (none)) else (none)) else (none)) else (none)) = some r := by first | (rw [hji60] at H; exact H) | (simp only [hji60] at H ⊢; exact H)
        (try rw [hji60] at A59)
        by_cases c61 : 0 ≤ (ji60)
        ·rw [if_pos c61] at H
         have c61b0 := eq_true c61
         have c61b1 : decide (0 ≤ (ji60)) = true := decide_eq_true c61
         clear c61
         by_cases c62 : (ji60) ≤ (t277.length : Int)
         ·rw [if_pos c62] at H
          have c62b0 := eq_true c62
          have c62b1 : decide ((ji60) ≤ (t277.length : Int)) = true := decide_eq_true c62
          clear c62
          obtain ⟨y281, hy281⟩ : ∃ y_ : List (S38), y_ = (t277.take ((ji60) : Int).toNat) := ⟨_, rfl⟩
          replace H : (if 0 ≤ (wrap64 ((ji60) + 1)) then (if (wrap64 ((ji60) + 1)) ≤ (t277.length : Int) then ((some (t277.eraseIdx ((ji60) : Int).toNat : List (S38))).bind fun y289 => (if (y289.length : Int) = 0 then ((schema_Check.f k2 t274 y289).bind fun t292 => ((ecdysislaw15_num.f t292).bind fun t293 => (if t293 = 5 then ((ecdysislaw15_live.f k2).bind fun t294 => (some t294)) else (some false)))) else ((schema_Check.f k2 t274 y289).bind fun t295 => ((ecdysislaw15_num.f t295).bind fun t296 => (if t296 = 0 then ((ecdysislaw15_live.f k2).bind fun t297 => (some t297)) else (some false)))))) else (none)) else (none)) = some r := by first | (rw [hy281]; with_reducible exact H) | (have H2_ := (Option.bind_some _ _).symm.trans H; rw [hy281]; with_reducible exact H2_) | (have H2_ := (Option.bind_some _ _).symm.trans H; with_reducible exact H2_) | with_reducible exact H | (rw [hy281]; exact H) | exact H
          have Ny281 := Aside0.mk hy281
          clear hy281
          obtain ⟨ji63, hji63⟩ : ∃ j_ : Int, (wrap64 ((ji60) + 1)) = j_ := ⟨_, rfl⟩
          replace H : (if 0 ≤ (ji63) then (if (ji63) ≤ (t277.length : Int) then ((some (t277.eraseIdx ((ji60) : Int).toNat : List (S38))).bind fun y289 => (if (y289.length : Int) = 0 then ((schema_Check.f k2 t274 y289).bind fun t292 => ((ecdysislaw15_num.f t292).bind fun t293 => (if t293 = 5 then ((ecdysislaw15_live.f k2).bind fun t294 => (some t294)) else (some false)))) else ((schema_Check.f k2 t274 y289).bind fun t295 => ((ecdysislaw15_num.f t295).bind fun t296 => (if t296 = 0 then ((ecdysislaw15_live.f k2).bind fun t297 => (some t297)) else (some false)))))) else (none)) else (none)) = some r := by first | (rw [hji63] at H; exact H) | (simp only [hji63] at H ⊢; exact H)
          (try rw [hji63] at A59)
          have hji63w : (IntKind.i64.wrap ((ji60) + 1)) = ji63 := (i64_w _).trans hji63
          by_cases c64 : 0 ≤ (ji63)
          ·rw [if_pos c64] at H
           have c64b0 := eq_true c64
           have c64b1 : decide (0 ≤ (ji63)) = true := decide_eq_true c64
           clear c64
           by_cases c65 : (ji63) ≤ (t277.length : Int)
           ·rw [if_pos c65] at H
            have c65b0 := eq_true c65
            have c65b1 : decide ((ji63) ≤ (t277.length : Int)) = true := decide_eq_true c65
            clear c65
            obtain ⟨y285, hy285⟩ : ∃ y_ : List (S38), y_ = (t277.drop ((ji63) : Int).toNat) := ⟨_, rfl⟩
            replace H : ((some (t277.eraseIdx ((ji60) : Int).toNat : List (S38))).bind fun y289 => (if (y289.length : Int) = 0 then ((schema_Check.f k2 t274 y289).bind fun t292 => ((ecdysislaw15_num.f t292).bind fun t293 => (if t293 = 5 then ((ecdysislaw15_live.f k2).bind fun t294 => (some t294)) else (some false)))) else ((schema_Check.f k2 t274 y289).bind fun t295 => ((ecdysislaw15_num.f t295).bind fun t296 => (if t296 = 0 then ((ecdysislaw15_live.f k2).bind fun t297 => (some t297)) else (some false)))))) = some r := by first | (rw [hy285]; with_reducible exact H) | (have H2_ := (Option.bind_some _ _).symm.trans H; rw [hy285]; with_reducible exact H2_) | (have H2_ := (Option.bind_some _ _).symm.trans H; with_reducible exact H2_) | with_reducible exact H | (rw [hy285]; exact H) | exact H
            have Ny285 := Aside0.mk hy285
            clear hy285
            obtain ⟨y289, hy289⟩ : ∃ y_ : List (S38), y_ = (t277.eraseIdx ((ji60) : Int).toNat) := ⟨_, rfl⟩
            replace H : (if (y289.length : Int) = 0 then ((schema_Check.f k2 t274 y289).bind fun t292 => ((ecdysislaw15_num.f t292).bind fun t293 => (if t293 = 5 then ((ecdysislaw15_live.f k2).bind fun t294 => (some t294)) else (some false)))) else ((schema_Check.f k2 t274 y289).bind fun t295 => ((ecdysislaw15_num.f t295).bind fun t296 => (if t296 = 0 then ((ecdysislaw15_live.f k2).bind fun t297 => (some t297)) else (some false))))) = some r := by first | (rw [hy289]; with_reducible exact H) | (have H2_ := (Option.bind_some _ _).symm.trans H; rw [hy289]; with_reducible exact H2_) | (have H2_ := (Option.bind_some _ _).symm.trans H; with_reducible exact H2_) | with_reducible exact H | (rw [hy289]; exact H) | exact H
            have Ny289 := Aside0.mk hy289
            clear hy289
            by_cases c66 : (y289.length : Int) = 0
            ·rw [if_pos c66] at H
             have c66b0 : ((y289.length : Int) == 0) = true := beq_iff_eq.mpr c66
             have c66b1 : ((y289.length : Int) != 0) = false := bne_eq_false_iff_eq.mpr c66
             clear c66
             replace H := Option.bind_eq_some_iff.mp H
             obtain ⟨t292, A670, H⟩ := H
             replace H : ((ecdysislaw15_num.f t292).bind fun t293 => (if t293 = 5 then ((ecdysislaw15_live.f k2).bind fun t294 => (some t294)) else (some false))) = some r := H
             have A67 := Aside0.mk A670
             clear A670
             replace H := Option.bind_eq_some_iff.mp H
             obtain ⟨t293, A680, H⟩ := H
             replace H : (if t293 = 5 then ((ecdysislaw15_live.f k2).bind fun t294 => (some t294)) else (some false)) = some r := H
             have A68 := Aside0.mk A680
             clear A680
             by_cases c69 : t293 = 5
             ·rw [if_pos c69] at H
              have c69b0 : (t293 == 5) = true := beq_iff_eq.mpr c69
              have c69b1 : (t293 != 5) = false := bne_eq_false_iff_eq.mpr c69
              clear c69
              replace H := Option.bind_eq_some_iff.mp H
              obtain ⟨t294, A700, H⟩ := H
              replace H : (some t294) = some r := H
              have A70 := Aside0.mk A700
              clear A700
              obtain rfl := Option.some.inj H
              have hcz71_0 : wr.cell? ⟨gb263, 0, none⟩ = some (.slice A0_0 l0_0.length c0_0) := (blk_cell BK263.out 0).trans rfl
              have hcz71_1 : wr.cell? ⟨gb263, 1, none⟩ = some (.slice A0_1 l0_1.length c0_1) := (blk_cell BK263.out 1).trans rfl
              have hfz71_0 := blk_frozen BK263.out 0
              have hfz71_1 := blk_frozen BK263.out 1
              try go_wp2_with (first | ((with_reducible refine gate_callee (f := 15) rfl ?_); refine goesL_ (some 74) rfl rfl Try.func15 (by kernel_rfl) rfl #[.agg #[.slice A0_0 l0_0.length c0_0, .slice A0_1 l0_1.length c0_1]] rfl (by (try simp only [List.map_toArray, List.map_cons, List.map_nil]); first | done | rfl | (simp only [List.length_drop, List.length_take]; rfl)) ?_; (with_reducible refine (ecdysisref15_Copy.calls k2 _ _ l0_0 _ _ l0_1 t274 t277 _ ?side1 ?side2 ?side3 ?side4 A59.out).mono ?_); (case side1 => repeat (first | exact (Kd.C_below HR0_0.out HB.out) | (with_reducible refine Kd.C_alloc ?_ _) | (with_reducible refine Kd.C_drewN ?_ _) | (with_reducible refine Kd.C_drew ?_))); (case side2 => exact HC0_0.out); (case side3 => repeat (first | exact (Kd.C_below HR0_1.out HB.out) | (with_reducible refine Kd.C_alloc ?_ _) | (with_reducible refine Kd.C_drewN ?_ _) | (with_reducible refine Kd.C_drew ?_))); (case side4 => exact HC0_1.out); rintro e w72 ⟨v275, v278, rfl, ho0, ho1, hb⟩; refine ⟨_, rfl, ?_⟩; have n0_ := Aside0.mk (Kd.S_lower ho0 (below_size (by repeat (first | (with_reducible first | exact HB.out | apply below_alloc | apply pw_below_drewN | apply below_drew1 | refine below_set ?_ GE263.out) | exact HB.out)))); have n1_ := Aside0.mk (Kd.S_lower ho1 (below_size (by repeat (first | (with_reducible first | exact HB.out | apply below_alloc | apply pw_below_drewN | apply below_drew1 | refine below_set ?_ GE263.out) | exact HB.out)))); have n2_ := Aside0.mk (blk_below (g := gb263) (o := .cells #[.slice A0_0 l0_0.length c0_0, .slice A0_1 l0_1.length c0_1] 30 (0, 0)) (by (with_reducible repeat (first | refine blk_drewN ?_ _ | refine blk_drew ?_ | refine blk_alloc ?_ _)); exact BK263.out) hb); have n3_ := Aside0.mk (below_step (by repeat (first | (with_reducible first | exact HB.out | apply below_alloc | apply pw_below_drewN | apply below_drew1 | refine below_set ?_ GE263.out) | exact HB.out)) hb); clear BK263; clear HB; have HO276 := n0_; have HO279 := n1_; have BK263 := n2_; have HB := n3_; clear n0_ n1_ n2_ n3_; (try clear hb); (try clear hb2); (try clear hk); (try clear hi); (try clear ho0); (try clear ho1)) | ((with_reducible refine gate_dst (N := 9) rfl ?_); refine box_event ?hg (N := 9) ?hd (cs := #[.slice none 0 0, .slice none 0 0]) (t := 30) ?hr ?_; (case hd => rfl); (case hg => rfl); (case hr => first | (go_simp; done) | (go_simp; rfl)); intro gb280 hg w73 hbox hb; have n0_ := Aside0.mk (Kd.S_below (by (with_reducible repeat (first | apply Kd.S_alloc | apply Kd.S_drewN | apply Kd.S_drew)); exact HO276.out) hb); have n1_ := Aside0.mk (Kd.S_below (by (with_reducible repeat (first | apply Kd.S_alloc | apply Kd.S_drewN | apply Kd.S_drew)); exact HO279.out) hb); have n2_ := Aside0.mk (blk_below (g := gb263) (o := .cells #[.slice A0_0 l0_0.length c0_0, .slice A0_1 l0_1.length c0_1] 30 (0, 0)) (by (with_reducible repeat (first | refine blk_drewN ?_ _ | refine blk_drew ?_ | refine blk_alloc ?_ _)); exact BK263.out) hb); have n3_ := Aside0.mk (below_step (by repeat (first | (with_reducible first | exact HB.out | apply below_alloc | apply pw_below_drewN | apply below_drew1 | refine below_set ?_ GE263.out) | exact HB.out)) hb); have n4_ := Aside0.mk (hbox); have n5_ := Aside0.mk ((by rw [hg]; exact (below_size (by repeat (first | (with_reducible first | exact HB.out | apply below_alloc | apply pw_below_drewN | apply below_drew1 | refine below_set ?_ GE263.out) | exact HB.out))) : w.heap.size ≤ gb280)); have n6_ := Aside0.mk ((by rw [hg]; exact (below_size (by repeat (first | (with_reducible first | exact HB.out | apply below_alloc | apply pw_below_drewN | apply below_drew1 | refine below_set ?_ GE263.out) | exact HB.out))) : w.heap.size ≤ gb280)); have n7_ := Aside0.mk ((by rw [hg]; exact Nat.ne_of_lt (blk_lt (g := gb263) (o := .cells #[.slice A0_0 l0_0.length c0_0, .slice A0_1 l0_1.length c0_1] 30 (0, 0)) (by (with_reducible repeat (first | refine blk_drewN ?_ _ | refine blk_drew ?_ | refine blk_alloc ?_ _)); exact BK263.out)) : gb263 ≠ gb280)); have n8_ := Aside0.mk ((by rw [hg]; exact Nat.ne_of_gt (blk_lt (g := gb263) (o := .cells #[.slice A0_0 l0_0.length c0_0, .slice A0_1 l0_1.length c0_1] 30 (0, 0)) (by (with_reducible repeat (first | refine blk_drewN ?_ _ | refine blk_drew ?_ | refine blk_alloc ?_ _)); exact BK263.out)) : gb280 ≠ gb263)); clear HO276; clear HO279; clear BK263; clear HB; have HO276 := n0_; have HO279 := n1_; have BK263 := n2_; have HB := n3_; have BK280 := n4_; have GW280 := n5_; have GE280 := n6_; have NB263_280 := n7_; have NB280_263 := n8_; clear n0_ n1_ n2_ n3_ n4_ n5_ n6_ n7_ n8_; clear hb hbox hg; obtain ⟨Ao74, co74, eo74⟩ := Kd.S_slice HO276.out; subst eo74; have hnb75 := NB280_263.out; have hnc75 := NB263_280.out; have hcz76_0 : w73.cell? ⟨gb280, 0, none⟩ = some (.slice none 0 0) := (blk_cell BK280.out 0).trans rfl; have hcz76_1 : w73.cell? ⟨gb280, 1, none⟩ = some (.slice none 0 0) := (blk_cell BK280.out 1).trans rfl; have hfz76_0 := blk_frozen BK280.out 0; have hfz76_1 := blk_frozen BK280.out 1; obtain ⟨Ao77, co77, eo77⟩ := Kd.S_slice HO279.out; subst eo77))
              have n0_ : Aside0 (Kd.S k48 48 ((w73.setCell ⟨gb280, 0, none⟩ (.slice Ao74 t274.length co74)).setCell ⟨gb280, 1, none⟩ (.slice Ao77 t277.length co77)) w.heap.size (fun _ => True) (.slice Ao74 t274.length co74) t274) := ⟨by (with_reducible repeat (first | apply Kd.S_alloc | apply Kd.S_drewN | apply Kd.S_drew)); exact Kd.S_mono (Kd.S_far (p := ⟨gb280, 1, none⟩) (Kd.S_far (p := ⟨gb280, 0, none⟩) (Kd.S_types HO276.out BK280.out (by decide)) (fun _ hk => hk.2) (.slice Ao74 t274.length co74)) (fun _ hk => hk.2) (.slice Ao77 t277.length co77)) (fun _ hk => trivial)⟩
              have n1_ : Aside0 (Kd.S k38 38 ((w73.setCell ⟨gb280, 0, none⟩ (.slice Ao74 t274.length co74)).setCell ⟨gb280, 1, none⟩ (.slice Ao77 t277.length co77)) w.heap.size (fun _ => True) (.slice Ao77 t277.length co77) t277) := ⟨by (with_reducible repeat (first | apply Kd.S_alloc | apply Kd.S_drewN | apply Kd.S_drew)); exact Kd.S_mono (Kd.S_far (p := ⟨gb280, 1, none⟩) (Kd.S_far (p := ⟨gb280, 0, none⟩) (Kd.S_types HO279.out BK280.out (by decide)) (fun _ hk => hk.2) (.slice Ao74 t274.length co74)) (fun _ hk => hk.2) (.slice Ao77 t277.length co77)) (fun _ hk => trivial)⟩
              have n2_ : Aside0 (((w73.setCell ⟨gb280, 0, none⟩ (.slice Ao74 t274.length co74)).setCell ⟨gb280, 1, none⟩ (.slice Ao77 t277.length co77)).heap[gb263]? = some (.cells #[.slice A0_0 l0_0.length c0_0, .slice A0_1 l0_1.length c0_1] 30 (0, 0))) := ⟨by (with_reducible repeat (first | refine blk_drewN ?_ _ | refine blk_drew ?_ | refine blk_alloc ?_ _)); refine blk_far ?_ NB263_280.out _; (with_reducible repeat (first | refine blk_drewN ?_ _ | refine blk_drew ?_ | refine blk_alloc ?_ _)); refine blk_far ?_ NB263_280.out _; (with_reducible repeat (first | refine blk_drewN ?_ _ | refine blk_drew ?_ | refine blk_alloc ?_ _)); exact BK263.out⟩
              have n3_ : Aside0 (((w73.setCell ⟨gb280, 0, none⟩ (.slice Ao74 t274.length co74)).setCell ⟨gb280, 1, none⟩ (.slice Ao77 t277.length co77)).heap[gb280]? = some (.cells #[.slice Ao74 t274.length co74, .slice Ao77 t277.length co77] 30 (0, 0))) := ⟨by (with_reducible repeat (first | refine blk_drewN ?_ _ | refine blk_drew ?_ | refine blk_alloc ?_ _)); refine blk_put (cs := #[.slice Ao74 t274.length co74, .slice none 0 0]) ?_ 1 _ rfl; (with_reducible repeat (first | refine blk_drewN ?_ _ | refine blk_drew ?_ | refine blk_alloc ?_ _)); refine blk_put (cs := #[.slice none 0 0, .slice none 0 0]) ?_ 0 _ rfl; (with_reducible repeat (first | refine blk_drewN ?_ _ | refine blk_drew ?_ | refine blk_alloc ?_ _)); exact BK280.out⟩
              have n4_ : Aside0 (Below w.heap.size w ((w73.setCell ⟨gb280, 0, none⟩ (.slice Ao74 t274.length co74)).setCell ⟨gb280, 1, none⟩ (.slice Ao77 t277.length co77))) := ⟨by repeat (first | (with_reducible first | exact HB.out | apply below_alloc | apply pw_below_drewN | apply below_drew1 | refine below_set ?_ GE263.out | refine below_set ?_ GE280.out) | exact HB.out)⟩
              (try clear HO276)
              (try clear HO279)
              (try clear BK263)
              (try clear BK280)
              (try clear HB)
              generalize ((w73.setCell ⟨gb280, 0, none⟩ (.slice Ao74 t274.length co74)).setCell ⟨gb280, 1, none⟩ (.slice Ao77 t277.length co77)) = w78 at n0_ n1_ n2_ n3_ n4_ ⊢
              have HO276 := n0_
              have HO279 := n1_
              have BK263 := n2_
              have BK280 := n3_
              have HB := n4_
              clear n0_ n1_ n2_ n3_ n4_
              have n0_ := Aside0.mk (Kd.S_drew HO276.out)
              have n1_ := Aside0.mk (Kd.S_drew HO279.out)
              have n2_ := Aside0.mk (blk_drew BK263.out)
              have n3_ := Aside0.mk (blk_drew BK280.out)
              have n4_ := Aside0.mk (below_drew1 HB.out)
              clear HO276
              clear HO279
              clear BK263
              clear BK280
              clear HB
              have HO276 := n0_
              have HO279 := n1_
              have BK263 := n2_
              have BK280 := n3_
              have HB := n4_
              clear n0_ n1_ n2_ n3_ n4_
              have q80 : ((ji60) : Int) ≤ ((t277.length : Int) : Int) := of_decide_eq_true (by first | (with_reducible assumption) | assumption)
              obtain ⟨i080, hi080, _, hsz80, _⟩ := info_parts info38
              have hroom80 : t277.length ≤ co77 := (Kd.S_reads' HO279.out).2.1
              have hC80 : Kd.C k38 _ Ao77 t277.length t277 := (Kd.S_reads' HO279.out).2.2
              have hcut80 := cut_to (P := Try.prog) 28 38 .i64 Try.underlying28 hi080 Ao77 t277.length co77 (ji60) (of_decide_eq_true (by first | (with_reducible assumption) | assumption)) q80 hroom80
              have hr80 := Kd.C_take (m := ((ji60) : Int).toNat) hC80 (by omega)
              have hy80 : y281.length = ((ji60) : Int).toNat := (by rw [Ny281.out, List.length_take]; omega)
              rw [← Ny281.out] at hr80
              rw [← hy80] at hcut80
              have HR284 := Aside0.mk hr80
              have HC284 := Aside0.mk (show y281.length ≤ co77 from by omega)
              clear hr80 hC80 hroom80 hi080 hsz80
              have KY80 := Aside0.mk hy80
              clear hy80
              have KL80 := Aside0.mk (show ((ji60) : Int).toNat ≤ t277.length from by omega)
              replace q80 := eq_true q80
              have q81 : ((ji63) : Int) ≤ ((t277.length : Int) : Int) := of_decide_eq_true (by first | (with_reducible assumption) | assumption)
              obtain ⟨i081, hi081, _, hsz81, _⟩ := info_parts info38
              have hroom81 : t277.length ≤ co77 := (Kd.S_reads' HO279.out).2.1
              have hC81 : Kd.C k38 _ Ao77 t277.length t277 := (Kd.S_reads' HO279.out).2.2
              have q081 : (0 : Int) ≤ ((ji63) : Int) := of_decide_eq_true (by first | (with_reducible assumption) | assumption)
              have hcut81 := cut_from (P := Try.prog) 28 38 .i64 Try.underlying28 hi081 3 hsz81 Ao77 t277.length co77 (ji63) q081 q81
              have hr81 := Kd.C_drop (m := ((ji63) : Int).toNat) (c := co77) hC81 (by omega) hroom81
              obtain ⟨A81, hA81⟩ : ∃ A1, A1 = (if co77 = ((ji63) : Int).toNat then Ao77 else (Ao77 : Option Addr).map (·.add (((ji63) : Int).toNat * 3))) := ⟨_, rfl⟩
              obtain ⟨c81, hc81⟩ : ∃ c1, c1 = co77 - ((ji63) : Int).toNat := ⟨_, rfl⟩
              have hy81 : y285.length = t277.length - ((ji63) : Int).toNat := (by rw [Ny285.out, List.length_drop] <;> omega)
              rw [show (t277).drop ((ji63) : Int).toNat = y285 from Ny285.out.symm] at hr81
              replace hr81 : Kd.C k38 _ A81 y285.length y285 := (by rw [hA81]; exact hr81)
              rw [← hy81, ← hA81, ← hc81] at hcut81
              have HR288 := Aside0.mk hr81
              have HC288 := Aside0.mk (show y285.length ≤ c81 from by rw [hy81, hc81]; exact Nat.sub_le_sub_right hroom81 _)
              clear hr81 hC81 hroom81 hi081 hsz81 hc81
              have KY81 := Aside0.mk hy81
              have KA81 := Aside0.mk hA81
              clear hy81 hA81
              have KL81 := Aside0.mk (show ((ji63) : Int).toNat ≤ t277.length from by omega)
              replace q81 := eq_true q81
              obtain ⟨go83, co83, eo83, gb83, gl83, cl83, HG83⟩ := Kd.S_form HO279.out (by have hj_ : 0 ≤ ((ji60) : Int) := of_decide_eq_true (by first | (with_reducible assumption) | assumption); have hl_ : (ji63 : Int) ≤ (t277.length : Int) := of_decide_eq_true (by first | (with_reducible assumption) | assumption); have hh_ : ((ji60) : Int) ≤ (t277.length : Int) := of_decide_eq_true (by first | (with_reducible assumption) | assumption); rw [← hji63] at hl_; unfold wrap64 at hl_; omega)
              (first | cases eo83 | (injection eo83 with ea_ en_ ec_; (first | subst ea_ | (injection ea_ with ea_; subst ea_)); subst ec_; clear en_))
              have GB83 := Aside0.mk gb83
              have GG83 := Aside0.mk HG83
              clear gb83 gl83 HG83
              refine start_ (n := 12) (S := fun w' => w'.cell? ⟨gb280, 0, none⟩ = some (.slice Ao74 t274.length co74) ∧ w'.cell? ⟨gb280, 1, none⟩ = some (.slice (some ⟨go83, 0, none⟩) t277.length co77)) (ds := [11]) #[false, false, false, false, false, false, false, false, false, false, false, false] (by kernel_rfl) rfl rfl ⟨(blk_cell BK280.out 0).trans rfl, (blk_cell BK280.out 1).trans rfl⟩ (fun hHeld => ?_); refine with_tabW ecdysislaw15_SchemaLess.tab14 ecdysislaw15_SchemaLess.bits14 (fun HT_ HW_ => ?_)
              generalize w78.drew = w79 at HO276 HO279 BK263 BK280 HB GG83 HR284 HR288 hHeld ⊢
              refine pure_ (i := 0) (N := some 75) (v := ?_) (a' := ?_) #[true, false, false, false, false, false, false, false, false, false, false, false] rfl rfl (any_of HT_.out (by kernel_rfl)) (fun _ _ _ h => h) (Or.inl ⟨by rfl, ?_⟩) ?_ ?_
              rotate_left
              ·intro w'
               go_simp
               with_reducible rfl
              rotate_left
              ·simp only [Act.put, List.setIfInBounds_toArray, List.set_cons_zero, List.set_cons_succ, i64_w, i32_w]
               rfl
              refine pure_ (i := 2) (N := some 77) (v := ?_) (a' := ?_) #[true, false, true, false, false, false, false, false, false, false, false, false] rfl rfl (any_of HT_.out (by kernel_rfl)) (fun _ _ _ h => h) (Or.inl ⟨by rfl, ?_⟩) ?_ ?_
              rotate_left
              ·intro w'
               go_simp
               with_reducible rfl
              rotate_left
              ·simp only [Act.put, List.setIfInBounds_toArray, List.set_cons_zero, List.set_cons_succ, i64_w, i32_w]
               rfl
              refine pure_ (i := 4) (N := some 79) (v := ?_) (a' := ?_) #[true, false, true, false, true, false, false, false, false, false, false, false] rfl rfl (any_of HT_.out (by kernel_rfl)) (fun _ _ _ h => h) (Or.inl ⟨by rfl, ?_⟩) ?_ ?_
              rotate_left
              ·intro w'
               go_simp
               with_reducible rfl
              rotate_left
              ·simp only [Act.put, List.setIfInBounds_toArray, List.set_cons_zero, List.set_cons_succ, i64_w, i32_w]
               rfl
              refine pure_ (i := 6) (N := some 81) (v := ?_) (a' := ?_) #[true, false, true, false, true, false, true, false, false, false, false, false] rfl rfl (any_of HT_.out (by kernel_rfl)) (fun _ _ _ h => h) (Or.inl ⟨by rfl, ?_⟩) ?_ ?_
              rotate_left
              ·intro w'
               go_simp
               with_reducible rfl
              rotate_left
              ·simp only [Act.put, List.setIfInBounds_toArray, List.set_cons_zero, List.set_cons_succ, i64_w, i32_w]
               rfl
              refine pure_ (i := 7) (N := some 82) (v := ?_) (a' := ?_) #[true, false, true, false, true, false, true, true, false, false, false, false] rfl rfl (any_of HT_.out (by kernel_rfl)) (fun _ _ _ h => h) (Or.inl ⟨by rfl, ?_⟩) ?_ ?_
              rotate_left
              ·intro w'
               go_simp
               with_reducible rfl
              rotate_left
              ·simp only [Act.put, List.setIfInBounds_toArray, List.set_cons_zero, List.set_cons_succ, i64_w, i32_w]
               rfl
              refine take_ (i := 1) (N := some 76) (v := ?_) (a' := ?_) #[true, true, true, false, true, false, true, true, false, false, false, false] rfl rfl (take_ofW HT_.out HW_.out (by kernel_rfl)) (fun _ _ _ h => h) (Or.inl ⟨by rfl, ?_⟩) hHeld ?_ ?_
              rotate_left
              ·rintro w' ⟨s0, s1⟩
               go_simp
               with_reducible rfl
              rotate_left
              ·simp only [Act.put, List.setIfInBounds_toArray, List.set_cons_zero, List.set_cons_succ, i64_w, i32_w]
               rfl
              refine pure_ (i := 3) (N := some 78) (v := ?_) (a' := ?_) #[true, true, true, true, true, false, true, true, false, false, false, false] rfl rfl (any_of HT_.out (by kernel_rfl)) (fun _ _ _ h => h) (Or.inl ⟨by rfl, ?_⟩) ?_ ?_
              rotate_left
              ·intro w'
               go_simp
               with_reducible rfl
              rotate_left
              ·simp only [Act.put, List.setIfInBounds_toArray, List.set_cons_zero, List.set_cons_succ, i64_w, i32_w]
               rfl
              refine take_ (i := 5) (N := some 80) (v := ?_) (a' := ?_) #[true, true, true, true, true, true, true, true, false, false, false, false] rfl rfl (take_ofW HT_.out HW_.out (by kernel_rfl)) (fun _ _ _ h => h) (Or.inl ⟨by rfl, ?_⟩) hHeld ?_ ?_
              rotate_left
              ·rintro w' ⟨s0, s1⟩
               go_simp
               with_reducible rfl
              rotate_left
              ·simp only [Act.put, List.setIfInBounds_toArray, List.set_cons_zero, List.set_cons_succ, i64_w, i32_w]
               rfl
              refine pure_ (i := 8) (N := some 83) (v := ?_) (a' := ?_) #[true, true, true, true, true, true, true, true, true, false, false, false] rfl rfl (any_of HT_.out (by kernel_rfl)) (fun _ _ _ h => h) (Or.inl ⟨by rfl, ?_⟩) ?_ ?_
              rotate_left
              ·intro w'
               go_simp
               with_reducible rfl
              rotate_left
              ·simp only [Act.put, List.setIfInBounds_toArray, List.set_cons_zero, List.set_cons_succ, i64_w, i32_w]
               rfl
              refine one_ (i := 9) (N := some 84) #[true, true, true, true, true, true, true, true, true, true, false, false] rfl rfl (one_of HT_.out (by kernel_rfl)) (by decide) (fun K hK => ?_)
              have hj_ : 0 ≤ ((ji60) : Int) := of_decide_eq_true (by first | (with_reducible assumption) | assumption)
              have hl_ : (ji63 : Int) ≤ (t277.length : Int) := of_decide_eq_true (by first | (with_reducible assumption) | assumption)
              have hh_ : ((ji60) : Int) ≤ (t277.length : Int) := of_decide_eq_true (by first | (with_reducible assumption) | assumption)
              have hb_ := (Kd.S_reads' HO279.out).2.2.2.1
              have h0_ : (0 : Int) ≤ (ji63 : Int) := of_decide_eq_true (by first | (with_reducible assumption) | assumption)
              have hy1_ := KY80.out
              have hk_ : (ji63 : Int).toNat = y281.length + 1 := (by have hw_ : (ji63 : Int) = (ji60) + 1 := (by have h00_ := h0_; rw [← hji63] at h00_ ⊢; unfold wrap64 at h00_ ⊢; omega); rw [hw_]; omega)
              refine Kd.S_delete_step k38 (w0 := w) w.heap.size (by rfl) (.tmp 78) (.tmp 83) 28 38 rfl Try.underlying28 (by kernel_rfl) (g := go83) (n := t277.length) (c := co77) (k := y281.length) rfl rfl ?hA ?hm (by (with_reducible repeat (first | apply Kd.S_alloc | apply Kd.S_drewN | apply Kd.S_drew)); exact HO279.out) ?hk (by repeat (first | (with_reducible first | exact HB.out | apply below_alloc | apply pw_below_drewN | apply below_drew1 | refine below_set ?_ GE263.out | refine below_set ?_ GE280.out) | exact HB.out)) (below_size (by repeat (first | (with_reducible first | exact HB.out | apply below_alloc | apply pw_below_drewN | apply below_drew1 | refine below_set ?_ GE263.out | refine below_set ?_ GE280.out) | exact HB.out))) ?_
              (case hA => have ha_ := KA81.out; rw [hk_] at ha_; exact ha_)
              (case hm => have ha_ := KY81.out; omega)
              (case hk => omega)
              intro w82 ho hb hg
              clear hj_ hl_ hh_ hb_ hk_ h0_
              rw [hy1_, ← Ny289.out] at ho
              clear hy1_
              have hn_ : t277.length - 1 = y289.length := (by have := (Kd.S_reads' ho).1; omega)
              rw [hn_] at ho ⊢
              clear hn_
              have n0_ := Aside0.mk (blk_grown (g := gb263) (o := .cells #[.slice A0_0 l0_0.length c0_0, .slice A0_1 l0_1.length c0_1] 30 (0, 0)) (by (with_reducible repeat (first | refine blk_drewN ?_ _ | refine blk_drew ?_ | refine blk_alloc ?_ _)); exact BK263.out) hg (Kd.S_ne HO279.out BK263.out (by decide)))
              have n1_ := Aside0.mk (Kd.S_over' (v := (.slice (some ⟨go83, 0, none⟩) t277.length co77)) (by (with_reducible repeat (first | apply Kd.S_alloc | apply Kd.S_drewN | apply Kd.S_drew)); exact HO276.out) (Kd.S_typed HO279.out) (by decide) hg)
              have n2_ := Aside0.mk (ho)
              have n3_ := Aside0.mk (blk_grown (g := gb280) (o := .cells #[.slice Ao74 t274.length co74, .slice (some ⟨go83, 0, none⟩) t277.length co77] 30 (0, 0)) (by (with_reducible repeat (first | refine blk_drewN ?_ _ | refine blk_drew ?_ | refine blk_alloc ?_ _)); exact BK280.out) hg (Kd.S_ne HO279.out BK280.out (by decide)))
              have n4_ := Aside0.mk (hb)
              clear BK263
              clear HO276
              clear HO279
              clear BK280
              clear HB
              have BK263 := n0_
              have HO276 := n1_
              have HO279 := n2_
              have BK280 := n3_
              have HB := n4_
              clear n0_ n1_ n2_ n3_ n4_
              clear ho hb hg
              refine hK.out _ _ ⟨(blk_cell BK280.out 0).trans rfl, (blk_cell BK280.out 1).trans rfl⟩ (fun hHeld => ?_)
              clear hK K
              refine norm_ (a' := ?_) ?_ ?_
              rotate_left
              ·show Act.put _ (some 84) _ = _
               simp only [Act.put, List.setIfInBounds_toArray, List.set_cons_zero, List.set_cons_succ, i64_w, i32_w]
               rfl
              refine pure_ (i := 10) (N := some 85) (v := ?_) (a' := ?_) #[true, true, true, true, true, true, true, true, true, true, true, false] rfl rfl (any_of HT_.out (by kernel_rfl)) (fun _ _ _ h => h) (Or.inl ⟨by rfl, ?_⟩) ?_ ?_
              rotate_left
              ·intro w'
               go_simp
               with_reducible rfl
              rotate_left
              ·simp only [Act.put, List.setIfInBounds_toArray, List.set_cons_zero, List.set_cons_succ, i64_w, i32_w]
               rfl
              refine last_ (i := 11) (N := none) #[true, true, true, true, true, true, true, true, true, true, true, true] rfl rfl (one_of HT_.out (by kernel_rfl)) (by decide) (fun K hK => ?_)
              have hs84 : w82.cell? ⟨gb280, 1, none⟩ = some (.slice (some ⟨go83, 0, none⟩) t277.length co77) := (blk_cell BK280.out 1).trans rfl
              have hfs84 := blk_frozen BK280.out 1
              have hns84_0 := NB263_280.out
              have hms84_0 := NB280_263.out
              refine skip_ (w1 := ?_) (by rfl) rfl ?_ ?_
              rotate_left
              ·go_simp
               rfl
              refine hK.out _ _ ?_
              clear hK K
              refine done_ (done_of HT_.out (by kernel_rfl)) ?_
              have hcz85_0 : w82.cell? ⟨gb280, 0, none⟩ = some (.slice Ao74 t274.length co74) := (blk_cell BK280.out 0).trans rfl
              have hcz85_1 : w82.cell? ⟨gb280, 1, none⟩ = some (.slice (some ⟨go83, 0, none⟩) t277.length co77) := (blk_cell BK280.out 1).trans rfl
              have hfz85_0 := blk_frozen BK280.out 0
              have hfz85_1 := blk_frozen BK280.out 1
              try go_wp2_with (first | ((with_reducible refine gate_callee (f := 13) rfl ?_); refine goesL_ (some 91) rfl rfl Try.func13 (by kernel_rfl) rfl #[.agg #[.slice Ao74 t274.length co74, .slice (some ⟨go83, 0, none⟩) y289.length co77]] rfl (by (try simp only [List.map_toArray, List.map_cons, List.map_nil]); first | done | rfl | (simp only [List.length_drop, List.length_take]; rfl)) ?_; (with_reducible refine (schema_Check.calls k2 _ _ t274 _ _ y289 t292 _ ?side1 ?side2 ?side3 ?side4 A67.out).mono ?_); (case side1 => refine (Kd.S_reads' (e := 48) (base := w.heap.size) (ok := fun k_ => True) (n := t274.length) (c := co74) ?_).2.2; exact (by (with_reducible repeat (first | apply Kd.S_alloc | apply Kd.S_drewN | apply Kd.S_drew)); exact (Kd.S_mono (Kd.S_far (p := ⟨gb280, 1, none⟩) (Kd.S_types HO276.out BK280.out (by decide)) (fun _ hk => hk.2) (.slice (some ⟨go83, 0, none⟩) y289.length co77)) (fun _ h_ => h_.1)))); (case side2 => exact (Kd.S_reads' HO276.out).2.1); (case side3 => refine (Kd.S_reads' (e := 38) (base := w.heap.size) (ok := fun k_ => True) (n := y289.length) (c := co77) ?_).2.2; exact (by (with_reducible repeat (first | apply Kd.S_alloc | apply Kd.S_drewN | apply Kd.S_drew)); exact (Kd.S_mono (Kd.S_far (p := ⟨gb280, 1, none⟩) (Kd.S_types HO279.out BK280.out (by decide)) (fun _ hk => hk.2) (.slice (some ⟨go83, 0, none⟩) y289.length co77)) (fun _ h_ => h_.1)))); (case side4 => exact (Kd.S_reads' HO279.out).2.1); rintro e w86 ⟨rfl, hb⟩; refine ⟨_, rfl, ?_⟩; have n0_ := Aside0.mk (Kd.S_below (by (with_reducible repeat (first | apply Kd.S_alloc | apply Kd.S_drewN | apply Kd.S_drew)); exact (Kd.S_mono (Kd.S_far (p := ⟨gb280, 1, none⟩) (Kd.S_types HO276.out BK280.out (by decide)) (fun _ hk => hk.2) (.slice (some ⟨go83, 0, none⟩) y289.length co77)) (fun _ h_ => h_.1))) hb); have n1_ := Aside0.mk (Kd.S_below (by (with_reducible repeat (first | apply Kd.S_alloc | apply Kd.S_drewN | apply Kd.S_drew)); exact (Kd.S_mono (Kd.S_far (p := ⟨gb280, 1, none⟩) (Kd.S_types HO279.out BK280.out (by decide)) (fun _ hk => hk.2) (.slice (some ⟨go83, 0, none⟩) y289.length co77)) (fun _ h_ => h_.1))) hb); have n2_ := Aside0.mk (blk_below (g := gb263) (o := .cells #[.slice A0_0 l0_0.length c0_0, .slice A0_1 l0_1.length c0_1] 30 (0, 0)) (by (with_reducible repeat (first | refine blk_drewN ?_ _ | refine blk_drew ?_ | refine blk_alloc ?_ _)); refine blk_far ?_ NB263_280.out _; (with_reducible repeat (first | refine blk_drewN ?_ _ | refine blk_drew ?_ | refine blk_alloc ?_ _)); exact BK263.out) hb); have n3_ := Aside0.mk (blk_below (g := gb280) (o := .cells #[.slice Ao74 t274.length co74, .slice (some ⟨go83, 0, none⟩) y289.length co77] 30 (0, 0)) (by (with_reducible repeat (first | refine blk_drewN ?_ _ | refine blk_drew ?_ | refine blk_alloc ?_ _)); refine blk_put (cs := #[.slice Ao74 t274.length co74, .slice (some ⟨go83, 0, none⟩) t277.length co77]) ?_ 1 _ rfl; (with_reducible repeat (first | refine blk_drewN ?_ _ | refine blk_drew ?_ | refine blk_alloc ?_ _)); exact BK280.out) hb); have n4_ := Aside0.mk (below_step (by repeat (first | (with_reducible first | exact HB.out | apply below_alloc | apply pw_below_drewN | apply below_drew1 | refine below_set ?_ GE263.out | refine below_set ?_ GE280.out) | exact HB.out)) hb); clear HO276; clear HO279; clear BK263; clear BK280; clear HB; have HO276 := n0_; have HO279 := n1_; have BK263 := n2_; have BK280 := n3_; have HB := n4_; clear n0_ n1_ n2_ n3_ n4_; (try clear hb); (try clear hb2); (try clear hk); (try clear hi)) | ((with_reducible refine gate_callee (f := 12) rfl ?_); refine goesL_ (some 92) rfl rfl Try.func12 (by kernel_rfl) rfl #[.int .i64 t292] rfl (by (try simp only [List.map_toArray, List.map_cons, List.map_nil]); first | done | rfl | (simp only [List.length_drop, List.length_take]; rfl)) ?_; (with_reducible refine (ecdysislaw15_num.calls t292 t293 _ A68.out).mono ?_); rintro e w' ⟨rfl, ⟨nd, rfl⟩⟩; refine ⟨_, rfl, ?_⟩) | (go_at_call 14; (with_reducible refine (ecdysislaw15_live.calls k2  t294 _ A70.out).mono ?_); rintro e w87 ⟨rfl, hb⟩; have n0_ := Aside0.mk (Kd.S_below (by (with_reducible repeat (first | apply Kd.S_alloc | apply Kd.S_drewN | apply Kd.S_drew)); exact HO276.out) hb); have n1_ := Aside0.mk (Kd.S_below (by (with_reducible repeat (first | apply Kd.S_alloc | apply Kd.S_drewN | apply Kd.S_drew)); exact HO279.out) hb); have n2_ := Aside0.mk (blk_below (g := gb263) (o := .cells #[.slice A0_0 l0_0.length c0_0, .slice A0_1 l0_1.length c0_1] 30 (0, 0)) (by (with_reducible repeat (first | refine blk_drewN ?_ _ | refine blk_drew ?_ | refine blk_alloc ?_ _)); exact BK263.out) hb); have n3_ := Aside0.mk (blk_below (g := gb280) (o := .cells #[.slice Ao74 t274.length co74, .slice (some ⟨go83, 0, none⟩) y289.length co77] 30 (0, 0)) (by (with_reducible repeat (first | refine blk_drewN ?_ _ | refine blk_drew ?_ | refine blk_alloc ?_ _)); exact BK280.out) hb); have n4_ := Aside0.mk (below_step (by repeat (first | (with_reducible first | exact HB.out | apply below_alloc | apply pw_below_drewN | apply below_drew1 | refine below_set ?_ GE263.out | refine below_set ?_ GE280.out) | exact HB.out)) hb); clear HO276; clear HO279; clear BK263; clear BK280; clear HB; have HO276 := n0_; have HO279 := n1_; have BK263 := n2_; have BK280 := n3_; have HB := n4_; clear n0_ n1_ n2_ n3_ n4_; (try clear hb); (try clear hb2); (try clear hk); (try clear hi)))
              go_ret
              exact ⟨by first | rfl | (simp [errW_none, errW_some] <;> rfl) | (simp only [← hji60, ← hji63]; first | rfl | (simp [errW_none, errW_some] <;> rfl)) | (simp [*, errW_none, errW_some] <;> rfl), by repeat (first | (with_reducible first | exact HB.out | apply below_alloc | apply pw_below_drewN | apply below_drew1 | refine below_set ?_ GE263.out | refine below_set ?_ GE280.out) | exact HB.out)⟩
             ·rw [if_neg c69] at H
              have c69b0 : (t293 == 5) = false := beq_eq_false_iff_ne.mpr c69
              have c69b1 : (t293 != 5) = true := bne_iff_ne.mpr c69
              obtain rfl := Option.some.inj H
              have hcz88_0 : wr.cell? ⟨gb263, 0, none⟩ = some (.slice A0_0 l0_0.length c0_0) := (blk_cell BK263.out 0).trans rfl
              have hcz88_1 : wr.cell? ⟨gb263, 1, none⟩ = some (.slice A0_1 l0_1.length c0_1) := (blk_cell BK263.out 1).trans rfl
              have hfz88_0 := blk_frozen BK263.out 0
              have hfz88_1 := blk_frozen BK263.out 1
              try go_wp2_with (first | ((with_reducible refine gate_callee (f := 15) rfl ?_); refine goesL_ (some 74) rfl rfl Try.func15 (by kernel_rfl) rfl #[.agg #[.slice A0_0 l0_0.length c0_0, .slice A0_1 l0_1.length c0_1]] rfl (by (try simp only [List.map_toArray, List.map_cons, List.map_nil]); first | done | rfl | (simp only [List.length_drop, List.length_take]; rfl)) ?_; (with_reducible refine (ecdysisref15_Copy.calls k2 _ _ l0_0 _ _ l0_1 t274 t277 _ ?side1 ?side2 ?side3 ?side4 A59.out).mono ?_); (case side1 => repeat (first | exact (Kd.C_below HR0_0.out HB.out) | (with_reducible refine Kd.C_alloc ?_ _) | (with_reducible refine Kd.C_drewN ?_ _) | (with_reducible refine Kd.C_drew ?_))); (case side2 => exact HC0_0.out); (case side3 => repeat (first | exact (Kd.C_below HR0_1.out HB.out) | (with_reducible refine Kd.C_alloc ?_ _) | (with_reducible refine Kd.C_drewN ?_ _) | (with_reducible refine Kd.C_drew ?_))); (case side4 => exact HC0_1.out); rintro e w89 ⟨v275, v278, rfl, ho0, ho1, hb⟩; refine ⟨_, rfl, ?_⟩; have n0_ := Aside0.mk (Kd.S_lower ho0 (below_size (by repeat (first | (with_reducible first | exact HB.out | apply below_alloc | apply pw_below_drewN | apply below_drew1 | refine below_set ?_ GE263.out) | exact HB.out)))); have n1_ := Aside0.mk (Kd.S_lower ho1 (below_size (by repeat (first | (with_reducible first | exact HB.out | apply below_alloc | apply pw_below_drewN | apply below_drew1 | refine below_set ?_ GE263.out) | exact HB.out)))); have n2_ := Aside0.mk (blk_below (g := gb263) (o := .cells #[.slice A0_0 l0_0.length c0_0, .slice A0_1 l0_1.length c0_1] 30 (0, 0)) (by (with_reducible repeat (first | refine blk_drewN ?_ _ | refine blk_drew ?_ | refine blk_alloc ?_ _)); exact BK263.out) hb); have n3_ := Aside0.mk (below_step (by repeat (first | (with_reducible first | exact HB.out | apply below_alloc | apply pw_below_drewN | apply below_drew1 | refine below_set ?_ GE263.out) | exact HB.out)) hb); clear BK263; clear HB; have HO276 := n0_; have HO279 := n1_; have BK263 := n2_; have HB := n3_; clear n0_ n1_ n2_ n3_; (try clear hb); (try clear hb2); (try clear hk); (try clear hi); (try clear ho0); (try clear ho1)) | ((with_reducible refine gate_dst (N := 9) rfl ?_); refine box_event ?hg (N := 9) ?hd (cs := #[.slice none 0 0, .slice none 0 0]) (t := 30) ?hr ?_; (case hd => rfl); (case hg => rfl); (case hr => first | (go_simp; done) | (go_simp; rfl)); intro gb280 hg w90 hbox hb; have n0_ := Aside0.mk (Kd.S_below (by (with_reducible repeat (first | apply Kd.S_alloc | apply Kd.S_drewN | apply Kd.S_drew)); exact HO276.out) hb); have n1_ := Aside0.mk (Kd.S_below (by (with_reducible repeat (first | apply Kd.S_alloc | apply Kd.S_drewN | apply Kd.S_drew)); exact HO279.out) hb); have n2_ := Aside0.mk (blk_below (g := gb263) (o := .cells #[.slice A0_0 l0_0.length c0_0, .slice A0_1 l0_1.length c0_1] 30 (0, 0)) (by (with_reducible repeat (first | refine blk_drewN ?_ _ | refine blk_drew ?_ | refine blk_alloc ?_ _)); exact BK263.out) hb); have n3_ := Aside0.mk (below_step (by repeat (first | (with_reducible first | exact HB.out | apply below_alloc | apply pw_below_drewN | apply below_drew1 | refine below_set ?_ GE263.out) | exact HB.out)) hb); have n4_ := Aside0.mk (hbox); have n5_ := Aside0.mk ((by rw [hg]; exact (below_size (by repeat (first | (with_reducible first | exact HB.out | apply below_alloc | apply pw_below_drewN | apply below_drew1 | refine below_set ?_ GE263.out) | exact HB.out))) : w.heap.size ≤ gb280)); have n6_ := Aside0.mk ((by rw [hg]; exact (below_size (by repeat (first | (with_reducible first | exact HB.out | apply below_alloc | apply pw_below_drewN | apply below_drew1 | refine below_set ?_ GE263.out) | exact HB.out))) : w.heap.size ≤ gb280)); have n7_ := Aside0.mk ((by rw [hg]; exact Nat.ne_of_lt (blk_lt (g := gb263) (o := .cells #[.slice A0_0 l0_0.length c0_0, .slice A0_1 l0_1.length c0_1] 30 (0, 0)) (by (with_reducible repeat (first | refine blk_drewN ?_ _ | refine blk_drew ?_ | refine blk_alloc ?_ _)); exact BK263.out)) : gb263 ≠ gb280)); have n8_ := Aside0.mk ((by rw [hg]; exact Nat.ne_of_gt (blk_lt (g := gb263) (o := .cells #[.slice A0_0 l0_0.length c0_0, .slice A0_1 l0_1.length c0_1] 30 (0, 0)) (by (with_reducible repeat (first | refine blk_drewN ?_ _ | refine blk_drew ?_ | refine blk_alloc ?_ _)); exact BK263.out)) : gb280 ≠ gb263)); clear HO276; clear HO279; clear BK263; clear HB; have HO276 := n0_; have HO279 := n1_; have BK263 := n2_; have HB := n3_; have BK280 := n4_; have GW280 := n5_; have GE280 := n6_; have NB263_280 := n7_; have NB280_263 := n8_; clear n0_ n1_ n2_ n3_ n4_ n5_ n6_ n7_ n8_; clear hb hbox hg; obtain ⟨Ao91, co91, eo91⟩ := Kd.S_slice HO276.out; subst eo91; have hnb92 := NB280_263.out; have hnc92 := NB263_280.out; have hcz93_0 : w90.cell? ⟨gb280, 0, none⟩ = some (.slice none 0 0) := (blk_cell BK280.out 0).trans rfl; have hcz93_1 : w90.cell? ⟨gb280, 1, none⟩ = some (.slice none 0 0) := (blk_cell BK280.out 1).trans rfl; have hfz93_0 := blk_frozen BK280.out 0; have hfz93_1 := blk_frozen BK280.out 1; obtain ⟨Ao94, co94, eo94⟩ := Kd.S_slice HO279.out; subst eo94))
              have n0_ : Aside0 (Kd.S k48 48 ((w90.setCell ⟨gb280, 0, none⟩ (.slice Ao91 t274.length co91)).setCell ⟨gb280, 1, none⟩ (.slice Ao94 t277.length co94)) w.heap.size (fun _ => True) (.slice Ao91 t274.length co91) t274) := ⟨by (with_reducible repeat (first | apply Kd.S_alloc | apply Kd.S_drewN | apply Kd.S_drew)); exact Kd.S_mono (Kd.S_far (p := ⟨gb280, 1, none⟩) (Kd.S_far (p := ⟨gb280, 0, none⟩) (Kd.S_types HO276.out BK280.out (by decide)) (fun _ hk => hk.2) (.slice Ao91 t274.length co91)) (fun _ hk => hk.2) (.slice Ao94 t277.length co94)) (fun _ hk => trivial)⟩
              have n1_ : Aside0 (Kd.S k38 38 ((w90.setCell ⟨gb280, 0, none⟩ (.slice Ao91 t274.length co91)).setCell ⟨gb280, 1, none⟩ (.slice Ao94 t277.length co94)) w.heap.size (fun _ => True) (.slice Ao94 t277.length co94) t277) := ⟨by (with_reducible repeat (first | apply Kd.S_alloc | apply Kd.S_drewN | apply Kd.S_drew)); exact Kd.S_mono (Kd.S_far (p := ⟨gb280, 1, none⟩) (Kd.S_far (p := ⟨gb280, 0, none⟩) (Kd.S_types HO279.out BK280.out (by decide)) (fun _ hk => hk.2) (.slice Ao91 t274.length co91)) (fun _ hk => hk.2) (.slice Ao94 t277.length co94)) (fun _ hk => trivial)⟩
              have n2_ : Aside0 (((w90.setCell ⟨gb280, 0, none⟩ (.slice Ao91 t274.length co91)).setCell ⟨gb280, 1, none⟩ (.slice Ao94 t277.length co94)).heap[gb263]? = some (.cells #[.slice A0_0 l0_0.length c0_0, .slice A0_1 l0_1.length c0_1] 30 (0, 0))) := ⟨by (with_reducible repeat (first | refine blk_drewN ?_ _ | refine blk_drew ?_ | refine blk_alloc ?_ _)); refine blk_far ?_ NB263_280.out _; (with_reducible repeat (first | refine blk_drewN ?_ _ | refine blk_drew ?_ | refine blk_alloc ?_ _)); refine blk_far ?_ NB263_280.out _; (with_reducible repeat (first | refine blk_drewN ?_ _ | refine blk_drew ?_ | refine blk_alloc ?_ _)); exact BK263.out⟩
              have n3_ : Aside0 (((w90.setCell ⟨gb280, 0, none⟩ (.slice Ao91 t274.length co91)).setCell ⟨gb280, 1, none⟩ (.slice Ao94 t277.length co94)).heap[gb280]? = some (.cells #[.slice Ao91 t274.length co91, .slice Ao94 t277.length co94] 30 (0, 0))) := ⟨by (with_reducible repeat (first | refine blk_drewN ?_ _ | refine blk_drew ?_ | refine blk_alloc ?_ _)); refine blk_put (cs := #[.slice Ao91 t274.length co91, .slice none 0 0]) ?_ 1 _ rfl; (with_reducible repeat (first | refine blk_drewN ?_ _ | refine blk_drew ?_ | refine blk_alloc ?_ _)); refine blk_put (cs := #[.slice none 0 0, .slice none 0 0]) ?_ 0 _ rfl; (with_reducible repeat (first | refine blk_drewN ?_ _ | refine blk_drew ?_ | refine blk_alloc ?_ _)); exact BK280.out⟩
              have n4_ : Aside0 (Below w.heap.size w ((w90.setCell ⟨gb280, 0, none⟩ (.slice Ao91 t274.length co91)).setCell ⟨gb280, 1, none⟩ (.slice Ao94 t277.length co94))) := ⟨by repeat (first | (with_reducible first | exact HB.out | apply below_alloc | apply pw_below_drewN | apply below_drew1 | refine below_set ?_ GE263.out | refine below_set ?_ GE280.out) | exact HB.out)⟩
              (try clear HO276)
              (try clear HO279)
              (try clear BK263)
              (try clear BK280)
              (try clear HB)
              generalize ((w90.setCell ⟨gb280, 0, none⟩ (.slice Ao91 t274.length co91)).setCell ⟨gb280, 1, none⟩ (.slice Ao94 t277.length co94)) = w95 at n0_ n1_ n2_ n3_ n4_ ⊢
              have HO276 := n0_
              have HO279 := n1_
              have BK263 := n2_
              have BK280 := n3_
              have HB := n4_
              clear n0_ n1_ n2_ n3_ n4_
              have n0_ := Aside0.mk (Kd.S_drew HO276.out)
              have n1_ := Aside0.mk (Kd.S_drew HO279.out)
              have n2_ := Aside0.mk (blk_drew BK263.out)
              have n3_ := Aside0.mk (blk_drew BK280.out)
              have n4_ := Aside0.mk (below_drew1 HB.out)
              clear HO276
              clear HO279
              clear BK263
              clear BK280
              clear HB
              have HO276 := n0_
              have HO279 := n1_
              have BK263 := n2_
              have BK280 := n3_
              have HB := n4_
              clear n0_ n1_ n2_ n3_ n4_
              have q97 : ((ji60) : Int) ≤ ((t277.length : Int) : Int) := of_decide_eq_true (by first | (with_reducible assumption) | assumption)
              obtain ⟨i097, hi097, _, hsz97, _⟩ := info_parts info38
              have hroom97 : t277.length ≤ co94 := (Kd.S_reads' HO279.out).2.1
              have hC97 : Kd.C k38 _ Ao94 t277.length t277 := (Kd.S_reads' HO279.out).2.2
              have hcut97 := cut_to (P := Try.prog) 28 38 .i64 Try.underlying28 hi097 Ao94 t277.length co94 (ji60) (of_decide_eq_true (by first | (with_reducible assumption) | assumption)) q97 hroom97
              have hr97 := Kd.C_take (m := ((ji60) : Int).toNat) hC97 (by omega)
              have hy97 : y281.length = ((ji60) : Int).toNat := (by rw [Ny281.out, List.length_take]; omega)
              rw [← Ny281.out] at hr97
              rw [← hy97] at hcut97
              have HR284 := Aside0.mk hr97
              have HC284 := Aside0.mk (show y281.length ≤ co94 from by omega)
              clear hr97 hC97 hroom97 hi097 hsz97
              have KY97 := Aside0.mk hy97
              clear hy97
              have KL97 := Aside0.mk (show ((ji60) : Int).toNat ≤ t277.length from by omega)
              replace q97 := eq_true q97
              have q98 : ((ji63) : Int) ≤ ((t277.length : Int) : Int) := of_decide_eq_true (by first | (with_reducible assumption) | assumption)
              obtain ⟨i098, hi098, _, hsz98, _⟩ := info_parts info38
              have hroom98 : t277.length ≤ co94 := (Kd.S_reads' HO279.out).2.1
              have hC98 : Kd.C k38 _ Ao94 t277.length t277 := (Kd.S_reads' HO279.out).2.2
              have q098 : (0 : Int) ≤ ((ji63) : Int) := of_decide_eq_true (by first | (with_reducible assumption) | assumption)
              have hcut98 := cut_from (P := Try.prog) 28 38 .i64 Try.underlying28 hi098 3 hsz98 Ao94 t277.length co94 (ji63) q098 q98
              have hr98 := Kd.C_drop (m := ((ji63) : Int).toNat) (c := co94) hC98 (by omega) hroom98
              obtain ⟨A98, hA98⟩ : ∃ A1, A1 = (if co94 = ((ji63) : Int).toNat then Ao94 else (Ao94 : Option Addr).map (·.add (((ji63) : Int).toNat * 3))) := ⟨_, rfl⟩
              obtain ⟨c98, hc98⟩ : ∃ c1, c1 = co94 - ((ji63) : Int).toNat := ⟨_, rfl⟩
              have hy98 : y285.length = t277.length - ((ji63) : Int).toNat := (by rw [Ny285.out, List.length_drop] <;> omega)
              rw [show (t277).drop ((ji63) : Int).toNat = y285 from Ny285.out.symm] at hr98
              replace hr98 : Kd.C k38 _ A98 y285.length y285 := (by rw [hA98]; exact hr98)
              rw [← hy98, ← hA98, ← hc98] at hcut98
              have HR288 := Aside0.mk hr98
              have HC288 := Aside0.mk (show y285.length ≤ c98 from by rw [hy98, hc98]; exact Nat.sub_le_sub_right hroom98 _)
              clear hr98 hC98 hroom98 hi098 hsz98 hc98
              have KY98 := Aside0.mk hy98
              have KA98 := Aside0.mk hA98
              clear hy98 hA98
              have KL98 := Aside0.mk (show ((ji63) : Int).toNat ≤ t277.length from by omega)
              replace q98 := eq_true q98
              obtain ⟨go100, co100, eo100, gb100, gl100, cl100, HG100⟩ := Kd.S_form HO279.out (by have hj_ : 0 ≤ ((ji60) : Int) := of_decide_eq_true (by first | (with_reducible assumption) | assumption); have hl_ : (ji63 : Int) ≤ (t277.length : Int) := of_decide_eq_true (by first | (with_reducible assumption) | assumption); have hh_ : ((ji60) : Int) ≤ (t277.length : Int) := of_decide_eq_true (by first | (with_reducible assumption) | assumption); rw [← hji63] at hl_; unfold wrap64 at hl_; omega)
              (first | cases eo100 | (injection eo100 with ea_ en_ ec_; (first | subst ea_ | (injection ea_ with ea_; subst ea_)); subst ec_; clear en_))
              have GB100 := Aside0.mk gb100
              have GG100 := Aside0.mk HG100
              clear gb100 gl100 HG100
              refine start_ (n := 12) (S := fun w' => w'.cell? ⟨gb280, 0, none⟩ = some (.slice Ao91 t274.length co91) ∧ w'.cell? ⟨gb280, 1, none⟩ = some (.slice (some ⟨go100, 0, none⟩) t277.length co94)) (ds := [11]) #[false, false, false, false, false, false, false, false, false, false, false, false] (by kernel_rfl) rfl rfl ⟨(blk_cell BK280.out 0).trans rfl, (blk_cell BK280.out 1).trans rfl⟩ (fun hHeld => ?_); refine with_tabW ecdysislaw15_SchemaLess.tab14 ecdysislaw15_SchemaLess.bits14 (fun HT_ HW_ => ?_)
              generalize w95.drew = w96 at HO276 HO279 BK263 BK280 HB GG100 HR284 HR288 hHeld ⊢
              refine pure_ (i := 0) (N := some 75) (v := ?_) (a' := ?_) #[true, false, false, false, false, false, false, false, false, false, false, false] rfl rfl (any_of HT_.out (by kernel_rfl)) (fun _ _ _ h => h) (Or.inl ⟨by rfl, ?_⟩) ?_ ?_
              rotate_left
              ·intro w'
               go_simp
               with_reducible rfl
              rotate_left
              ·simp only [Act.put, List.setIfInBounds_toArray, List.set_cons_zero, List.set_cons_succ, i64_w, i32_w]
               rfl
              refine pure_ (i := 2) (N := some 77) (v := ?_) (a' := ?_) #[true, false, true, false, false, false, false, false, false, false, false, false] rfl rfl (any_of HT_.out (by kernel_rfl)) (fun _ _ _ h => h) (Or.inl ⟨by rfl, ?_⟩) ?_ ?_
              rotate_left
              ·intro w'
               go_simp
               with_reducible rfl
              rotate_left
              ·simp only [Act.put, List.setIfInBounds_toArray, List.set_cons_zero, List.set_cons_succ, i64_w, i32_w]
               rfl
              refine pure_ (i := 4) (N := some 79) (v := ?_) (a' := ?_) #[true, false, true, false, true, false, false, false, false, false, false, false] rfl rfl (any_of HT_.out (by kernel_rfl)) (fun _ _ _ h => h) (Or.inl ⟨by rfl, ?_⟩) ?_ ?_
              rotate_left
              ·intro w'
               go_simp
               with_reducible rfl
              rotate_left
              ·simp only [Act.put, List.setIfInBounds_toArray, List.set_cons_zero, List.set_cons_succ, i64_w, i32_w]
               rfl
              refine pure_ (i := 6) (N := some 81) (v := ?_) (a' := ?_) #[true, false, true, false, true, false, true, false, false, false, false, false] rfl rfl (any_of HT_.out (by kernel_rfl)) (fun _ _ _ h => h) (Or.inl ⟨by rfl, ?_⟩) ?_ ?_
              rotate_left
              ·intro w'
               go_simp
               with_reducible rfl
              rotate_left
              ·simp only [Act.put, List.setIfInBounds_toArray, List.set_cons_zero, List.set_cons_succ, i64_w, i32_w]
               rfl
              refine pure_ (i := 7) (N := some 82) (v := ?_) (a' := ?_) #[true, false, true, false, true, false, true, true, false, false, false, false] rfl rfl (any_of HT_.out (by kernel_rfl)) (fun _ _ _ h => h) (Or.inl ⟨by rfl, ?_⟩) ?_ ?_
              rotate_left
              ·intro w'
               go_simp
               with_reducible rfl
              rotate_left
              ·simp only [Act.put, List.setIfInBounds_toArray, List.set_cons_zero, List.set_cons_succ, i64_w, i32_w]
               rfl
              refine take_ (i := 1) (N := some 76) (v := ?_) (a' := ?_) #[true, true, true, false, true, false, true, true, false, false, false, false] rfl rfl (take_ofW HT_.out HW_.out (by kernel_rfl)) (fun _ _ _ h => h) (Or.inl ⟨by rfl, ?_⟩) hHeld ?_ ?_
              rotate_left
              ·rintro w' ⟨s0, s1⟩
               go_simp
               with_reducible rfl
              rotate_left
              ·simp only [Act.put, List.setIfInBounds_toArray, List.set_cons_zero, List.set_cons_succ, i64_w, i32_w]
               rfl
              refine pure_ (i := 3) (N := some 78) (v := ?_) (a' := ?_) #[true, true, true, true, true, false, true, true, false, false, false, false] rfl rfl (any_of HT_.out (by kernel_rfl)) (fun _ _ _ h => h) (Or.inl ⟨by rfl, ?_⟩) ?_ ?_
              rotate_left
              ·intro w'
               go_simp
               with_reducible rfl
              rotate_left
              ·simp only [Act.put, List.setIfInBounds_toArray, List.set_cons_zero, List.set_cons_succ, i64_w, i32_w]
               rfl
              refine take_ (i := 5) (N := some 80) (v := ?_) (a' := ?_) #[true, true, true, true, true, true, true, true, false, false, false, false] rfl rfl (take_ofW HT_.out HW_.out (by kernel_rfl)) (fun _ _ _ h => h) (Or.inl ⟨by rfl, ?_⟩) hHeld ?_ ?_
              rotate_left
              ·rintro w' ⟨s0, s1⟩
               go_simp
               with_reducible rfl
              rotate_left
              ·simp only [Act.put, List.setIfInBounds_toArray, List.set_cons_zero, List.set_cons_succ, i64_w, i32_w]
               rfl
              refine pure_ (i := 8) (N := some 83) (v := ?_) (a' := ?_) #[true, true, true, true, true, true, true, true, true, false, false, false] rfl rfl (any_of HT_.out (by kernel_rfl)) (fun _ _ _ h => h) (Or.inl ⟨by rfl, ?_⟩) ?_ ?_
              rotate_left
              ·intro w'
               go_simp
               with_reducible rfl
              rotate_left
              ·simp only [Act.put, List.setIfInBounds_toArray, List.set_cons_zero, List.set_cons_succ, i64_w, i32_w]
               rfl
              refine one_ (i := 9) (N := some 84) #[true, true, true, true, true, true, true, true, true, true, false, false] rfl rfl (one_of HT_.out (by kernel_rfl)) (by decide) (fun K hK => ?_)
              have hj_ : 0 ≤ ((ji60) : Int) := of_decide_eq_true (by first | (with_reducible assumption) | assumption)
              have hl_ : (ji63 : Int) ≤ (t277.length : Int) := of_decide_eq_true (by first | (with_reducible assumption) | assumption)
              have hh_ : ((ji60) : Int) ≤ (t277.length : Int) := of_decide_eq_true (by first | (with_reducible assumption) | assumption)
              have hb_ := (Kd.S_reads' HO279.out).2.2.2.1
              have h0_ : (0 : Int) ≤ (ji63 : Int) := of_decide_eq_true (by first | (with_reducible assumption) | assumption)
              have hy1_ := KY97.out
              have hk_ : (ji63 : Int).toNat = y281.length + 1 := (by have hw_ : (ji63 : Int) = (ji60) + 1 := (by have h00_ := h0_; rw [← hji63] at h00_ ⊢; unfold wrap64 at h00_ ⊢; omega); rw [hw_]; omega)
              refine Kd.S_delete_step k38 (w0 := w) w.heap.size (by rfl) (.tmp 78) (.tmp 83) 28 38 rfl Try.underlying28 (by kernel_rfl) (g := go100) (n := t277.length) (c := co94) (k := y281.length) rfl rfl ?hA ?hm (by (with_reducible repeat (first | apply Kd.S_alloc | apply Kd.S_drewN | apply Kd.S_drew)); exact HO279.out) ?hk (by repeat (first | (with_reducible first | exact HB.out | apply below_alloc | apply pw_below_drewN | apply below_drew1 | refine below_set ?_ GE263.out | refine below_set ?_ GE280.out) | exact HB.out)) (below_size (by repeat (first | (with_reducible first | exact HB.out | apply below_alloc | apply pw_below_drewN | apply below_drew1 | refine below_set ?_ GE263.out | refine below_set ?_ GE280.out) | exact HB.out))) ?_
              (case hA => have ha_ := KA98.out; rw [hk_] at ha_; exact ha_)
              (case hm => have ha_ := KY98.out; omega)
              (case hk => omega)
              intro w99 ho hb hg
              clear hj_ hl_ hh_ hb_ hk_ h0_
              rw [hy1_, ← Ny289.out] at ho
              clear hy1_
              have hn_ : t277.length - 1 = y289.length := (by have := (Kd.S_reads' ho).1; omega)
              rw [hn_] at ho ⊢
              clear hn_
              have n0_ := Aside0.mk (blk_grown (g := gb263) (o := .cells #[.slice A0_0 l0_0.length c0_0, .slice A0_1 l0_1.length c0_1] 30 (0, 0)) (by (with_reducible repeat (first | refine blk_drewN ?_ _ | refine blk_drew ?_ | refine blk_alloc ?_ _)); exact BK263.out) hg (Kd.S_ne HO279.out BK263.out (by decide)))
              have n1_ := Aside0.mk (Kd.S_over' (v := (.slice (some ⟨go100, 0, none⟩) t277.length co94)) (by (with_reducible repeat (first | apply Kd.S_alloc | apply Kd.S_drewN | apply Kd.S_drew)); exact HO276.out) (Kd.S_typed HO279.out) (by decide) hg)
              have n2_ := Aside0.mk (ho)
              have n3_ := Aside0.mk (blk_grown (g := gb280) (o := .cells #[.slice Ao91 t274.length co91, .slice (some ⟨go100, 0, none⟩) t277.length co94] 30 (0, 0)) (by (with_reducible repeat (first | refine blk_drewN ?_ _ | refine blk_drew ?_ | refine blk_alloc ?_ _)); exact BK280.out) hg (Kd.S_ne HO279.out BK280.out (by decide)))
              have n4_ := Aside0.mk (hb)
              clear BK263
              clear HO276
              clear HO279
              clear BK280
              clear HB
              have BK263 := n0_
              have HO276 := n1_
              have HO279 := n2_
              have BK280 := n3_
              have HB := n4_
              clear n0_ n1_ n2_ n3_ n4_
              clear ho hb hg
              refine hK.out _ _ ⟨(blk_cell BK280.out 0).trans rfl, (blk_cell BK280.out 1).trans rfl⟩ (fun hHeld => ?_)
              clear hK K
              refine norm_ (a' := ?_) ?_ ?_
              rotate_left
              ·show Act.put _ (some 84) _ = _
               simp only [Act.put, List.setIfInBounds_toArray, List.set_cons_zero, List.set_cons_succ, i64_w, i32_w]
               rfl
              refine pure_ (i := 10) (N := some 85) (v := ?_) (a' := ?_) #[true, true, true, true, true, true, true, true, true, true, true, false] rfl rfl (any_of HT_.out (by kernel_rfl)) (fun _ _ _ h => h) (Or.inl ⟨by rfl, ?_⟩) ?_ ?_
              rotate_left
              ·intro w'
               go_simp
               with_reducible rfl
              rotate_left
              ·simp only [Act.put, List.setIfInBounds_toArray, List.set_cons_zero, List.set_cons_succ, i64_w, i32_w]
               rfl
              refine last_ (i := 11) (N := none) #[true, true, true, true, true, true, true, true, true, true, true, true] rfl rfl (one_of HT_.out (by kernel_rfl)) (by decide) (fun K hK => ?_)
              have hs101 : w99.cell? ⟨gb280, 1, none⟩ = some (.slice (some ⟨go100, 0, none⟩) t277.length co94) := (blk_cell BK280.out 1).trans rfl
              have hfs101 := blk_frozen BK280.out 1
              have hns101_0 := NB263_280.out
              have hms101_0 := NB280_263.out
              refine skip_ (w1 := ?_) (by rfl) rfl ?_ ?_
              rotate_left
              ·go_simp
               rfl
              refine hK.out _ _ ?_
              clear hK K
              refine done_ (done_of HT_.out (by kernel_rfl)) ?_
              have hcz102_0 : w99.cell? ⟨gb280, 0, none⟩ = some (.slice Ao91 t274.length co91) := (blk_cell BK280.out 0).trans rfl
              have hcz102_1 : w99.cell? ⟨gb280, 1, none⟩ = some (.slice (some ⟨go100, 0, none⟩) t277.length co94) := (blk_cell BK280.out 1).trans rfl
              have hfz102_0 := blk_frozen BK280.out 0
              have hfz102_1 := blk_frozen BK280.out 1
              try go_wp2_with (first | ((with_reducible refine gate_callee (f := 13) rfl ?_); refine goesL_ (some 91) rfl rfl Try.func13 (by kernel_rfl) rfl #[.agg #[.slice Ao91 t274.length co91, .slice (some ⟨go100, 0, none⟩) y289.length co94]] rfl (by (try simp only [List.map_toArray, List.map_cons, List.map_nil]); first | done | rfl | (simp only [List.length_drop, List.length_take]; rfl)) ?_; (with_reducible refine (schema_Check.calls k2 _ _ t274 _ _ y289 t292 _ ?side1 ?side2 ?side3 ?side4 A67.out).mono ?_); (case side1 => refine (Kd.S_reads' (e := 48) (base := w.heap.size) (ok := fun k_ => True) (n := t274.length) (c := co91) ?_).2.2; exact (by (with_reducible repeat (first | apply Kd.S_alloc | apply Kd.S_drewN | apply Kd.S_drew)); exact (Kd.S_mono (Kd.S_far (p := ⟨gb280, 1, none⟩) (Kd.S_types HO276.out BK280.out (by decide)) (fun _ hk => hk.2) (.slice (some ⟨go100, 0, none⟩) y289.length co94)) (fun _ h_ => h_.1)))); (case side2 => exact (Kd.S_reads' HO276.out).2.1); (case side3 => refine (Kd.S_reads' (e := 38) (base := w.heap.size) (ok := fun k_ => True) (n := y289.length) (c := co94) ?_).2.2; exact (by (with_reducible repeat (first | apply Kd.S_alloc | apply Kd.S_drewN | apply Kd.S_drew)); exact (Kd.S_mono (Kd.S_far (p := ⟨gb280, 1, none⟩) (Kd.S_types HO279.out BK280.out (by decide)) (fun _ hk => hk.2) (.slice (some ⟨go100, 0, none⟩) y289.length co94)) (fun _ h_ => h_.1)))); (case side4 => exact (Kd.S_reads' HO279.out).2.1); rintro e w103 ⟨rfl, hb⟩; refine ⟨_, rfl, ?_⟩; have n0_ := Aside0.mk (Kd.S_below (by (with_reducible repeat (first | apply Kd.S_alloc | apply Kd.S_drewN | apply Kd.S_drew)); exact (Kd.S_mono (Kd.S_far (p := ⟨gb280, 1, none⟩) (Kd.S_types HO276.out BK280.out (by decide)) (fun _ hk => hk.2) (.slice (some ⟨go100, 0, none⟩) y289.length co94)) (fun _ h_ => h_.1))) hb); have n1_ := Aside0.mk (Kd.S_below (by (with_reducible repeat (first | apply Kd.S_alloc | apply Kd.S_drewN | apply Kd.S_drew)); exact (Kd.S_mono (Kd.S_far (p := ⟨gb280, 1, none⟩) (Kd.S_types HO279.out BK280.out (by decide)) (fun _ hk => hk.2) (.slice (some ⟨go100, 0, none⟩) y289.length co94)) (fun _ h_ => h_.1))) hb); have n2_ := Aside0.mk (blk_below (g := gb263) (o := .cells #[.slice A0_0 l0_0.length c0_0, .slice A0_1 l0_1.length c0_1] 30 (0, 0)) (by (with_reducible repeat (first | refine blk_drewN ?_ _ | refine blk_drew ?_ | refine blk_alloc ?_ _)); refine blk_far ?_ NB263_280.out _; (with_reducible repeat (first | refine blk_drewN ?_ _ | refine blk_drew ?_ | refine blk_alloc ?_ _)); exact BK263.out) hb); have n3_ := Aside0.mk (blk_below (g := gb280) (o := .cells #[.slice Ao91 t274.length co91, .slice (some ⟨go100, 0, none⟩) y289.length co94] 30 (0, 0)) (by (with_reducible repeat (first | refine blk_drewN ?_ _ | refine blk_drew ?_ | refine blk_alloc ?_ _)); refine blk_put (cs := #[.slice Ao91 t274.length co91, .slice (some ⟨go100, 0, none⟩) t277.length co94]) ?_ 1 _ rfl; (with_reducible repeat (first | refine blk_drewN ?_ _ | refine blk_drew ?_ | refine blk_alloc ?_ _)); exact BK280.out) hb); have n4_ := Aside0.mk (below_step (by repeat (first | (with_reducible first | exact HB.out | apply below_alloc | apply pw_below_drewN | apply below_drew1 | refine below_set ?_ GE263.out | refine below_set ?_ GE280.out) | exact HB.out)) hb); clear HO276; clear HO279; clear BK263; clear BK280; clear HB; have HO276 := n0_; have HO279 := n1_; have BK263 := n2_; have BK280 := n3_; have HB := n4_; clear n0_ n1_ n2_ n3_ n4_; (try clear hb); (try clear hb2); (try clear hk); (try clear hi)) | ((with_reducible refine gate_callee (f := 12) rfl ?_); refine goesL_ (some 92) rfl rfl Try.func12 (by kernel_rfl) rfl #[.int .i64 t292] rfl (by (try simp only [List.map_toArray, List.map_cons, List.map_nil]); first | done | rfl | (simp only [List.length_drop, List.length_take]; rfl)) ?_; (with_reducible refine (ecdysislaw15_num.calls t292 t293 _ A68.out).mono ?_); rintro e w' ⟨rfl, ⟨nd, rfl⟩⟩; refine ⟨_, rfl, ?_⟩))
              go_ret
              exact ⟨by first | rfl | (simp [errW_none, errW_some] <;> rfl) | (simp only [← hji60, ← hji63]; first | rfl | (simp [errW_none, errW_some] <;> rfl)) | (simp [*, errW_none, errW_some] <;> rfl), by repeat (first | (with_reducible first | exact HB.out | apply below_alloc | apply pw_below_drewN | apply below_drew1 | refine below_set ?_ GE263.out | refine below_set ?_ GE280.out) | exact HB.out)⟩
            ·rw [if_neg c66] at H
             have c66b0 : ((y289.length : Int) == 0) = false := beq_eq_false_iff_ne.mpr c66
             have c66b1 : ((y289.length : Int) != 0) = true := bne_iff_ne.mpr c66
             have c66b2 : ¬ (y289 = []) := fun h_ => c66 (by rw [h_]; rfl)
             replace H := Option.bind_eq_some_iff.mp H
             obtain ⟨t295, A1040, H⟩ := H
             replace H : ((ecdysislaw15_num.f t295).bind fun t296 => (if t296 = 0 then ((ecdysislaw15_live.f k2).bind fun t297 => (some t297)) else (some false))) = some r := H
             have A104 := Aside0.mk A1040
             clear A1040
             replace H := Option.bind_eq_some_iff.mp H
             obtain ⟨t296, A1050, H⟩ := H
             replace H : (if t296 = 0 then ((ecdysislaw15_live.f k2).bind fun t297 => (some t297)) else (some false)) = some r := H
             have A105 := Aside0.mk A1050
             clear A1050
             by_cases c106 : t296 = 0
             ·rw [if_pos c106] at H
              have c106b0 : (t296 == 0) = true := beq_iff_eq.mpr c106
              have c106b1 : (t296 != 0) = false := bne_eq_false_iff_eq.mpr c106
              clear c106
              replace H := Option.bind_eq_some_iff.mp H
              obtain ⟨t297, A1070, H⟩ := H
              replace H : (some t297) = some r := H
              have A107 := Aside0.mk A1070
              clear A1070
              obtain rfl := Option.some.inj H
              have hcz108_0 : wr.cell? ⟨gb263, 0, none⟩ = some (.slice A0_0 l0_0.length c0_0) := (blk_cell BK263.out 0).trans rfl
              have hcz108_1 : wr.cell? ⟨gb263, 1, none⟩ = some (.slice A0_1 l0_1.length c0_1) := (blk_cell BK263.out 1).trans rfl
              have hfz108_0 := blk_frozen BK263.out 0
              have hfz108_1 := blk_frozen BK263.out 1
              try go_wp2_with (first | ((with_reducible refine gate_callee (f := 15) rfl ?_); refine goesL_ (some 74) rfl rfl Try.func15 (by kernel_rfl) rfl #[.agg #[.slice A0_0 l0_0.length c0_0, .slice A0_1 l0_1.length c0_1]] rfl (by (try simp only [List.map_toArray, List.map_cons, List.map_nil]); first | done | rfl | (simp only [List.length_drop, List.length_take]; rfl)) ?_; (with_reducible refine (ecdysisref15_Copy.calls k2 _ _ l0_0 _ _ l0_1 t274 t277 _ ?side1 ?side2 ?side3 ?side4 A59.out).mono ?_); (case side1 => repeat (first | exact (Kd.C_below HR0_0.out HB.out) | (with_reducible refine Kd.C_alloc ?_ _) | (with_reducible refine Kd.C_drewN ?_ _) | (with_reducible refine Kd.C_drew ?_))); (case side2 => exact HC0_0.out); (case side3 => repeat (first | exact (Kd.C_below HR0_1.out HB.out) | (with_reducible refine Kd.C_alloc ?_ _) | (with_reducible refine Kd.C_drewN ?_ _) | (with_reducible refine Kd.C_drew ?_))); (case side4 => exact HC0_1.out); rintro e w109 ⟨v275, v278, rfl, ho0, ho1, hb⟩; refine ⟨_, rfl, ?_⟩; have n0_ := Aside0.mk (Kd.S_lower ho0 (below_size (by repeat (first | (with_reducible first | exact HB.out | apply below_alloc | apply pw_below_drewN | apply below_drew1 | refine below_set ?_ GE263.out) | exact HB.out)))); have n1_ := Aside0.mk (Kd.S_lower ho1 (below_size (by repeat (first | (with_reducible first | exact HB.out | apply below_alloc | apply pw_below_drewN | apply below_drew1 | refine below_set ?_ GE263.out) | exact HB.out)))); have n2_ := Aside0.mk (blk_below (g := gb263) (o := .cells #[.slice A0_0 l0_0.length c0_0, .slice A0_1 l0_1.length c0_1] 30 (0, 0)) (by (with_reducible repeat (first | refine blk_drewN ?_ _ | refine blk_drew ?_ | refine blk_alloc ?_ _)); exact BK263.out) hb); have n3_ := Aside0.mk (below_step (by repeat (first | (with_reducible first | exact HB.out | apply below_alloc | apply pw_below_drewN | apply below_drew1 | refine below_set ?_ GE263.out) | exact HB.out)) hb); clear BK263; clear HB; have HO276 := n0_; have HO279 := n1_; have BK263 := n2_; have HB := n3_; clear n0_ n1_ n2_ n3_; (try clear hb); (try clear hb2); (try clear hk); (try clear hi); (try clear ho0); (try clear ho1)) | ((with_reducible refine gate_dst (N := 9) rfl ?_); refine box_event ?hg (N := 9) ?hd (cs := #[.slice none 0 0, .slice none 0 0]) (t := 30) ?hr ?_; (case hd => rfl); (case hg => rfl); (case hr => first | (go_simp; done) | (go_simp; rfl)); intro gb280 hg w110 hbox hb; have n0_ := Aside0.mk (Kd.S_below (by (with_reducible repeat (first | apply Kd.S_alloc | apply Kd.S_drewN | apply Kd.S_drew)); exact HO276.out) hb); have n1_ := Aside0.mk (Kd.S_below (by (with_reducible repeat (first | apply Kd.S_alloc | apply Kd.S_drewN | apply Kd.S_drew)); exact HO279.out) hb); have n2_ := Aside0.mk (blk_below (g := gb263) (o := .cells #[.slice A0_0 l0_0.length c0_0, .slice A0_1 l0_1.length c0_1] 30 (0, 0)) (by (with_reducible repeat (first | refine blk_drewN ?_ _ | refine blk_drew ?_ | refine blk_alloc ?_ _)); exact BK263.out) hb); have n3_ := Aside0.mk (below_step (by repeat (first | (with_reducible first | exact HB.out | apply below_alloc | apply pw_below_drewN | apply below_drew1 | refine below_set ?_ GE263.out) | exact HB.out)) hb); have n4_ := Aside0.mk (hbox); have n5_ := Aside0.mk ((by rw [hg]; exact (below_size (by repeat (first | (with_reducible first | exact HB.out | apply below_alloc | apply pw_below_drewN | apply below_drew1 | refine below_set ?_ GE263.out) | exact HB.out))) : w.heap.size ≤ gb280)); have n6_ := Aside0.mk ((by rw [hg]; exact (below_size (by repeat (first | (with_reducible first | exact HB.out | apply below_alloc | apply pw_below_drewN | apply below_drew1 | refine below_set ?_ GE263.out) | exact HB.out))) : w.heap.size ≤ gb280)); have n7_ := Aside0.mk ((by rw [hg]; exact Nat.ne_of_lt (blk_lt (g := gb263) (o := .cells #[.slice A0_0 l0_0.length c0_0, .slice A0_1 l0_1.length c0_1] 30 (0, 0)) (by (with_reducible repeat (first | refine blk_drewN ?_ _ | refine blk_drew ?_ | refine blk_alloc ?_ _)); exact BK263.out)) : gb263 ≠ gb280)); have n8_ := Aside0.mk ((by rw [hg]; exact Nat.ne_of_gt (blk_lt (g := gb263) (o := .cells #[.slice A0_0 l0_0.length c0_0, .slice A0_1 l0_1.length c0_1] 30 (0, 0)) (by (with_reducible repeat (first | refine blk_drewN ?_ _ | refine blk_drew ?_ | refine blk_alloc ?_ _)); exact BK263.out)) : gb280 ≠ gb263)); clear HO276; clear HO279; clear BK263; clear HB; have HO276 := n0_; have HO279 := n1_; have BK263 := n2_; have HB := n3_; have BK280 := n4_; have GW280 := n5_; have GE280 := n6_; have NB263_280 := n7_; have NB280_263 := n8_; clear n0_ n1_ n2_ n3_ n4_ n5_ n6_ n7_ n8_; clear hb hbox hg; obtain ⟨Ao111, co111, eo111⟩ := Kd.S_slice HO276.out; subst eo111; have hnb112 := NB280_263.out; have hnc112 := NB263_280.out; have hcz113_0 : w110.cell? ⟨gb280, 0, none⟩ = some (.slice none 0 0) := (blk_cell BK280.out 0).trans rfl; have hcz113_1 : w110.cell? ⟨gb280, 1, none⟩ = some (.slice none 0 0) := (blk_cell BK280.out 1).trans rfl; have hfz113_0 := blk_frozen BK280.out 0; have hfz113_1 := blk_frozen BK280.out 1; obtain ⟨Ao114, co114, eo114⟩ := Kd.S_slice HO279.out; subst eo114))
              have n0_ : Aside0 (Kd.S k48 48 ((w110.setCell ⟨gb280, 0, none⟩ (.slice Ao111 t274.length co111)).setCell ⟨gb280, 1, none⟩ (.slice Ao114 t277.length co114)) w.heap.size (fun _ => True) (.slice Ao111 t274.length co111) t274) := ⟨by (with_reducible repeat (first | apply Kd.S_alloc | apply Kd.S_drewN | apply Kd.S_drew)); exact Kd.S_mono (Kd.S_far (p := ⟨gb280, 1, none⟩) (Kd.S_far (p := ⟨gb280, 0, none⟩) (Kd.S_types HO276.out BK280.out (by decide)) (fun _ hk => hk.2) (.slice Ao111 t274.length co111)) (fun _ hk => hk.2) (.slice Ao114 t277.length co114)) (fun _ hk => trivial)⟩
              have n1_ : Aside0 (Kd.S k38 38 ((w110.setCell ⟨gb280, 0, none⟩ (.slice Ao111 t274.length co111)).setCell ⟨gb280, 1, none⟩ (.slice Ao114 t277.length co114)) w.heap.size (fun _ => True) (.slice Ao114 t277.length co114) t277) := ⟨by (with_reducible repeat (first | apply Kd.S_alloc | apply Kd.S_drewN | apply Kd.S_drew)); exact Kd.S_mono (Kd.S_far (p := ⟨gb280, 1, none⟩) (Kd.S_far (p := ⟨gb280, 0, none⟩) (Kd.S_types HO279.out BK280.out (by decide)) (fun _ hk => hk.2) (.slice Ao111 t274.length co111)) (fun _ hk => hk.2) (.slice Ao114 t277.length co114)) (fun _ hk => trivial)⟩
              have n2_ : Aside0 (((w110.setCell ⟨gb280, 0, none⟩ (.slice Ao111 t274.length co111)).setCell ⟨gb280, 1, none⟩ (.slice Ao114 t277.length co114)).heap[gb263]? = some (.cells #[.slice A0_0 l0_0.length c0_0, .slice A0_1 l0_1.length c0_1] 30 (0, 0))) := ⟨by (with_reducible repeat (first | refine blk_drewN ?_ _ | refine blk_drew ?_ | refine blk_alloc ?_ _)); refine blk_far ?_ NB263_280.out _; (with_reducible repeat (first | refine blk_drewN ?_ _ | refine blk_drew ?_ | refine blk_alloc ?_ _)); refine blk_far ?_ NB263_280.out _; (with_reducible repeat (first | refine blk_drewN ?_ _ | refine blk_drew ?_ | refine blk_alloc ?_ _)); exact BK263.out⟩
              have n3_ : Aside0 (((w110.setCell ⟨gb280, 0, none⟩ (.slice Ao111 t274.length co111)).setCell ⟨gb280, 1, none⟩ (.slice Ao114 t277.length co114)).heap[gb280]? = some (.cells #[.slice Ao111 t274.length co111, .slice Ao114 t277.length co114] 30 (0, 0))) := ⟨by (with_reducible repeat (first | refine blk_drewN ?_ _ | refine blk_drew ?_ | refine blk_alloc ?_ _)); refine blk_put (cs := #[.slice Ao111 t274.length co111, .slice none 0 0]) ?_ 1 _ rfl; (with_reducible repeat (first | refine blk_drewN ?_ _ | refine blk_drew ?_ | refine blk_alloc ?_ _)); refine blk_put (cs := #[.slice none 0 0, .slice none 0 0]) ?_ 0 _ rfl; (with_reducible repeat (first | refine blk_drewN ?_ _ | refine blk_drew ?_ | refine blk_alloc ?_ _)); exact BK280.out⟩
              have n4_ : Aside0 (Below w.heap.size w ((w110.setCell ⟨gb280, 0, none⟩ (.slice Ao111 t274.length co111)).setCell ⟨gb280, 1, none⟩ (.slice Ao114 t277.length co114))) := ⟨by repeat (first | (with_reducible first | exact HB.out | apply below_alloc | apply pw_below_drewN | apply below_drew1 | refine below_set ?_ GE263.out | refine below_set ?_ GE280.out) | exact HB.out)⟩
              (try clear HO276)
              (try clear HO279)
              (try clear BK263)
              (try clear BK280)
              (try clear HB)
              generalize ((w110.setCell ⟨gb280, 0, none⟩ (.slice Ao111 t274.length co111)).setCell ⟨gb280, 1, none⟩ (.slice Ao114 t277.length co114)) = w115 at n0_ n1_ n2_ n3_ n4_ ⊢
              have HO276 := n0_
              have HO279 := n1_
              have BK263 := n2_
              have BK280 := n3_
              have HB := n4_
              clear n0_ n1_ n2_ n3_ n4_
              have n0_ := Aside0.mk (Kd.S_drew HO276.out)
              have n1_ := Aside0.mk (Kd.S_drew HO279.out)
              have n2_ := Aside0.mk (blk_drew BK263.out)
              have n3_ := Aside0.mk (blk_drew BK280.out)
              have n4_ := Aside0.mk (below_drew1 HB.out)
              clear HO276
              clear HO279
              clear BK263
              clear BK280
              clear HB
              have HO276 := n0_
              have HO279 := n1_
              have BK263 := n2_
              have BK280 := n3_
              have HB := n4_
              clear n0_ n1_ n2_ n3_ n4_
              have q117 : ((ji60) : Int) ≤ ((t277.length : Int) : Int) := of_decide_eq_true (by first | (with_reducible assumption) | assumption)
              obtain ⟨i0117, hi0117, _, hsz117, _⟩ := info_parts info38
              have hroom117 : t277.length ≤ co114 := (Kd.S_reads' HO279.out).2.1
              have hC117 : Kd.C k38 _ Ao114 t277.length t277 := (Kd.S_reads' HO279.out).2.2
              have hcut117 := cut_to (P := Try.prog) 28 38 .i64 Try.underlying28 hi0117 Ao114 t277.length co114 (ji60) (of_decide_eq_true (by first | (with_reducible assumption) | assumption)) q117 hroom117
              have hr117 := Kd.C_take (m := ((ji60) : Int).toNat) hC117 (by omega)
              have hy117 : y281.length = ((ji60) : Int).toNat := (by rw [Ny281.out, List.length_take]; omega)
              rw [← Ny281.out] at hr117
              rw [← hy117] at hcut117
              have HR284 := Aside0.mk hr117
              have HC284 := Aside0.mk (show y281.length ≤ co114 from by omega)
              clear hr117 hC117 hroom117 hi0117 hsz117
              have KY117 := Aside0.mk hy117
              clear hy117
              have KL117 := Aside0.mk (show ((ji60) : Int).toNat ≤ t277.length from by omega)
              replace q117 := eq_true q117
              have q118 : ((ji63) : Int) ≤ ((t277.length : Int) : Int) := of_decide_eq_true (by first | (with_reducible assumption) | assumption)
              obtain ⟨i0118, hi0118, _, hsz118, _⟩ := info_parts info38
              have hroom118 : t277.length ≤ co114 := (Kd.S_reads' HO279.out).2.1
              have hC118 : Kd.C k38 _ Ao114 t277.length t277 := (Kd.S_reads' HO279.out).2.2
              have q0118 : (0 : Int) ≤ ((ji63) : Int) := of_decide_eq_true (by first | (with_reducible assumption) | assumption)
              have hcut118 := cut_from (P := Try.prog) 28 38 .i64 Try.underlying28 hi0118 3 hsz118 Ao114 t277.length co114 (ji63) q0118 q118
              have hr118 := Kd.C_drop (m := ((ji63) : Int).toNat) (c := co114) hC118 (by omega) hroom118
              obtain ⟨A118, hA118⟩ : ∃ A1, A1 = (if co114 = ((ji63) : Int).toNat then Ao114 else (Ao114 : Option Addr).map (·.add (((ji63) : Int).toNat * 3))) := ⟨_, rfl⟩
              obtain ⟨c118, hc118⟩ : ∃ c1, c1 = co114 - ((ji63) : Int).toNat := ⟨_, rfl⟩
              have hy118 : y285.length = t277.length - ((ji63) : Int).toNat := (by rw [Ny285.out, List.length_drop] <;> omega)
              rw [show (t277).drop ((ji63) : Int).toNat = y285 from Ny285.out.symm] at hr118
              replace hr118 : Kd.C k38 _ A118 y285.length y285 := (by rw [hA118]; exact hr118)
              rw [← hy118, ← hA118, ← hc118] at hcut118
              have HR288 := Aside0.mk hr118
              have HC288 := Aside0.mk (show y285.length ≤ c118 from by rw [hy118, hc118]; exact Nat.sub_le_sub_right hroom118 _)
              clear hr118 hC118 hroom118 hi0118 hsz118 hc118
              have KY118 := Aside0.mk hy118
              have KA118 := Aside0.mk hA118
              clear hy118 hA118
              have KL118 := Aside0.mk (show ((ji63) : Int).toNat ≤ t277.length from by omega)
              replace q118 := eq_true q118
              obtain ⟨go120, co120, eo120, gb120, gl120, cl120, HG120⟩ := Kd.S_form HO279.out (by have hj_ : 0 ≤ ((ji60) : Int) := of_decide_eq_true (by first | (with_reducible assumption) | assumption); have hl_ : (ji63 : Int) ≤ (t277.length : Int) := of_decide_eq_true (by first | (with_reducible assumption) | assumption); have hh_ : ((ji60) : Int) ≤ (t277.length : Int) := of_decide_eq_true (by first | (with_reducible assumption) | assumption); rw [← hji63] at hl_; unfold wrap64 at hl_; omega)
              (first | cases eo120 | (injection eo120 with ea_ en_ ec_; (first | subst ea_ | (injection ea_ with ea_; subst ea_)); subst ec_; clear en_))
              have GB120 := Aside0.mk gb120
              have GG120 := Aside0.mk HG120
              clear gb120 gl120 HG120
              refine start_ (n := 12) (S := fun w' => w'.cell? ⟨gb280, 0, none⟩ = some (.slice Ao111 t274.length co111) ∧ w'.cell? ⟨gb280, 1, none⟩ = some (.slice (some ⟨go120, 0, none⟩) t277.length co114)) (ds := [11]) #[false, false, false, false, false, false, false, false, false, false, false, false] (by kernel_rfl) rfl rfl ⟨(blk_cell BK280.out 0).trans rfl, (blk_cell BK280.out 1).trans rfl⟩ (fun hHeld => ?_); refine with_tabW ecdysislaw15_SchemaLess.tab14 ecdysislaw15_SchemaLess.bits14 (fun HT_ HW_ => ?_)
              generalize w115.drew = w116 at HO276 HO279 BK263 BK280 HB GG120 HR284 HR288 hHeld ⊢
              refine pure_ (i := 0) (N := some 75) (v := ?_) (a' := ?_) #[true, false, false, false, false, false, false, false, false, false, false, false] rfl rfl (any_of HT_.out (by kernel_rfl)) (fun _ _ _ h => h) (Or.inl ⟨by rfl, ?_⟩) ?_ ?_
              rotate_left
              ·intro w'
               go_simp
               with_reducible rfl
              rotate_left
              ·simp only [Act.put, List.setIfInBounds_toArray, List.set_cons_zero, List.set_cons_succ, i64_w, i32_w]
               rfl
              refine pure_ (i := 2) (N := some 77) (v := ?_) (a' := ?_) #[true, false, true, false, false, false, false, false, false, false, false, false] rfl rfl (any_of HT_.out (by kernel_rfl)) (fun _ _ _ h => h) (Or.inl ⟨by rfl, ?_⟩) ?_ ?_
              rotate_left
              ·intro w'
               go_simp
               with_reducible rfl
              rotate_left
              ·simp only [Act.put, List.setIfInBounds_toArray, List.set_cons_zero, List.set_cons_succ, i64_w, i32_w]
               rfl
              refine pure_ (i := 4) (N := some 79) (v := ?_) (a' := ?_) #[true, false, true, false, true, false, false, false, false, false, false, false] rfl rfl (any_of HT_.out (by kernel_rfl)) (fun _ _ _ h => h) (Or.inl ⟨by rfl, ?_⟩) ?_ ?_
              rotate_left
              ·intro w'
               go_simp
               with_reducible rfl
              rotate_left
              ·simp only [Act.put, List.setIfInBounds_toArray, List.set_cons_zero, List.set_cons_succ, i64_w, i32_w]
               rfl
              refine pure_ (i := 6) (N := some 81) (v := ?_) (a' := ?_) #[true, false, true, false, true, false, true, false, false, false, false, false] rfl rfl (any_of HT_.out (by kernel_rfl)) (fun _ _ _ h => h) (Or.inl ⟨by rfl, ?_⟩) ?_ ?_
              rotate_left
              ·intro w'
               go_simp
               with_reducible rfl
              rotate_left
              ·simp only [Act.put, List.setIfInBounds_toArray, List.set_cons_zero, List.set_cons_succ, i64_w, i32_w]
               rfl
              refine pure_ (i := 7) (N := some 82) (v := ?_) (a' := ?_) #[true, false, true, false, true, false, true, true, false, false, false, false] rfl rfl (any_of HT_.out (by kernel_rfl)) (fun _ _ _ h => h) (Or.inl ⟨by rfl, ?_⟩) ?_ ?_
              rotate_left
              ·intro w'
               go_simp
               with_reducible rfl
              rotate_left
              ·simp only [Act.put, List.setIfInBounds_toArray, List.set_cons_zero, List.set_cons_succ, i64_w, i32_w]
               rfl
              refine take_ (i := 1) (N := some 76) (v := ?_) (a' := ?_) #[true, true, true, false, true, false, true, true, false, false, false, false] rfl rfl (take_ofW HT_.out HW_.out (by kernel_rfl)) (fun _ _ _ h => h) (Or.inl ⟨by rfl, ?_⟩) hHeld ?_ ?_
              rotate_left
              ·rintro w' ⟨s0, s1⟩
               go_simp
               with_reducible rfl
              rotate_left
              ·simp only [Act.put, List.setIfInBounds_toArray, List.set_cons_zero, List.set_cons_succ, i64_w, i32_w]
               rfl
              refine pure_ (i := 3) (N := some 78) (v := ?_) (a' := ?_) #[true, true, true, true, true, false, true, true, false, false, false, false] rfl rfl (any_of HT_.out (by kernel_rfl)) (fun _ _ _ h => h) (Or.inl ⟨by rfl, ?_⟩) ?_ ?_
              rotate_left
              ·intro w'
               go_simp
               with_reducible rfl
              rotate_left
              ·simp only [Act.put, List.setIfInBounds_toArray, List.set_cons_zero, List.set_cons_succ, i64_w, i32_w]
               rfl
              refine take_ (i := 5) (N := some 80) (v := ?_) (a' := ?_) #[true, true, true, true, true, true, true, true, false, false, false, false] rfl rfl (take_ofW HT_.out HW_.out (by kernel_rfl)) (fun _ _ _ h => h) (Or.inl ⟨by rfl, ?_⟩) hHeld ?_ ?_
              rotate_left
              ·rintro w' ⟨s0, s1⟩
               go_simp
               with_reducible rfl
              rotate_left
              ·simp only [Act.put, List.setIfInBounds_toArray, List.set_cons_zero, List.set_cons_succ, i64_w, i32_w]
               rfl
              refine pure_ (i := 8) (N := some 83) (v := ?_) (a' := ?_) #[true, true, true, true, true, true, true, true, true, false, false, false] rfl rfl (any_of HT_.out (by kernel_rfl)) (fun _ _ _ h => h) (Or.inl ⟨by rfl, ?_⟩) ?_ ?_
              rotate_left
              ·intro w'
               go_simp
               with_reducible rfl
              rotate_left
              ·simp only [Act.put, List.setIfInBounds_toArray, List.set_cons_zero, List.set_cons_succ, i64_w, i32_w]
               rfl
              refine one_ (i := 9) (N := some 84) #[true, true, true, true, true, true, true, true, true, true, false, false] rfl rfl (one_of HT_.out (by kernel_rfl)) (by decide) (fun K hK => ?_)
              have hj_ : 0 ≤ ((ji60) : Int) := of_decide_eq_true (by first | (with_reducible assumption) | assumption)
              have hl_ : (ji63 : Int) ≤ (t277.length : Int) := of_decide_eq_true (by first | (with_reducible assumption) | assumption)
              have hh_ : ((ji60) : Int) ≤ (t277.length : Int) := of_decide_eq_true (by first | (with_reducible assumption) | assumption)
              have hb_ := (Kd.S_reads' HO279.out).2.2.2.1
              have h0_ : (0 : Int) ≤ (ji63 : Int) := of_decide_eq_true (by first | (with_reducible assumption) | assumption)
              have hy1_ := KY117.out
              have hk_ : (ji63 : Int).toNat = y281.length + 1 := (by have hw_ : (ji63 : Int) = (ji60) + 1 := (by have h00_ := h0_; rw [← hji63] at h00_ ⊢; unfold wrap64 at h00_ ⊢; omega); rw [hw_]; omega)
              refine Kd.S_delete_step k38 (w0 := w) w.heap.size (by rfl) (.tmp 78) (.tmp 83) 28 38 rfl Try.underlying28 (by kernel_rfl) (g := go120) (n := t277.length) (c := co114) (k := y281.length) rfl rfl ?hA ?hm (by (with_reducible repeat (first | apply Kd.S_alloc | apply Kd.S_drewN | apply Kd.S_drew)); exact HO279.out) ?hk (by repeat (first | (with_reducible first | exact HB.out | apply below_alloc | apply pw_below_drewN | apply below_drew1 | refine below_set ?_ GE263.out | refine below_set ?_ GE280.out) | exact HB.out)) (below_size (by repeat (first | (with_reducible first | exact HB.out | apply below_alloc | apply pw_below_drewN | apply below_drew1 | refine below_set ?_ GE263.out | refine below_set ?_ GE280.out) | exact HB.out))) ?_
              (case hA => have ha_ := KA118.out; rw [hk_] at ha_; exact ha_)
              (case hm => have ha_ := KY118.out; omega)
              (case hk => omega)
              intro w119 ho hb hg
              clear hj_ hl_ hh_ hb_ hk_ h0_
              rw [hy1_, ← Ny289.out] at ho
              clear hy1_
              have hn_ : t277.length - 1 = y289.length := (by have := (Kd.S_reads' ho).1; omega)
              rw [hn_] at ho ⊢
              clear hn_
              have n0_ := Aside0.mk (blk_grown (g := gb263) (o := .cells #[.slice A0_0 l0_0.length c0_0, .slice A0_1 l0_1.length c0_1] 30 (0, 0)) (by (with_reducible repeat (first | refine blk_drewN ?_ _ | refine blk_drew ?_ | refine blk_alloc ?_ _)); exact BK263.out) hg (Kd.S_ne HO279.out BK263.out (by decide)))
              have n1_ := Aside0.mk (Kd.S_over' (v := (.slice (some ⟨go120, 0, none⟩) t277.length co114)) (by (with_reducible repeat (first | apply Kd.S_alloc | apply Kd.S_drewN | apply Kd.S_drew)); exact HO276.out) (Kd.S_typed HO279.out) (by decide) hg)
              have n2_ := Aside0.mk (ho)
              have n3_ := Aside0.mk (blk_grown (g := gb280) (o := .cells #[.slice Ao111 t274.length co111, .slice (some ⟨go120, 0, none⟩) t277.length co114] 30 (0, 0)) (by (with_reducible repeat (first | refine blk_drewN ?_ _ | refine blk_drew ?_ | refine blk_alloc ?_ _)); exact BK280.out) hg (Kd.S_ne HO279.out BK280.out (by decide)))
              have n4_ := Aside0.mk (hb)
              clear BK263
              clear HO276
              clear HO279
              clear BK280
              clear HB
              have BK263 := n0_
              have HO276 := n1_
              have HO279 := n2_
              have BK280 := n3_
              have HB := n4_
              clear n0_ n1_ n2_ n3_ n4_
              clear ho hb hg
              refine hK.out _ _ ⟨(blk_cell BK280.out 0).trans rfl, (blk_cell BK280.out 1).trans rfl⟩ (fun hHeld => ?_)
              clear hK K
              refine norm_ (a' := ?_) ?_ ?_
              rotate_left
              ·show Act.put _ (some 84) _ = _
               simp only [Act.put, List.setIfInBounds_toArray, List.set_cons_zero, List.set_cons_succ, i64_w, i32_w]
               rfl
              refine pure_ (i := 10) (N := some 85) (v := ?_) (a' := ?_) #[true, true, true, true, true, true, true, true, true, true, true, false] rfl rfl (any_of HT_.out (by kernel_rfl)) (fun _ _ _ h => h) (Or.inl ⟨by rfl, ?_⟩) ?_ ?_
              rotate_left
              ·intro w'
               go_simp
               with_reducible rfl
              rotate_left
              ·simp only [Act.put, List.setIfInBounds_toArray, List.set_cons_zero, List.set_cons_succ, i64_w, i32_w]
               rfl
              refine last_ (i := 11) (N := none) #[true, true, true, true, true, true, true, true, true, true, true, true] rfl rfl (one_of HT_.out (by kernel_rfl)) (by decide) (fun K hK => ?_)
              have hs121 : w119.cell? ⟨gb280, 1, none⟩ = some (.slice (some ⟨go120, 0, none⟩) t277.length co114) := (blk_cell BK280.out 1).trans rfl
              have hfs121 := blk_frozen BK280.out 1
              have hns121_0 := NB263_280.out
              have hms121_0 := NB280_263.out
              refine skip_ (w1 := ?_) (by rfl) rfl ?_ ?_
              rotate_left
              ·go_simp
               rfl
              refine hK.out _ _ ?_
              clear hK K
              refine done_ (done_of HT_.out (by kernel_rfl)) ?_
              have hcz122_0 : w119.cell? ⟨gb280, 0, none⟩ = some (.slice Ao111 t274.length co111) := (blk_cell BK280.out 0).trans rfl
              have hcz122_1 : w119.cell? ⟨gb280, 1, none⟩ = some (.slice (some ⟨go120, 0, none⟩) t277.length co114) := (blk_cell BK280.out 1).trans rfl
              have hfz122_0 := blk_frozen BK280.out 0
              have hfz122_1 := blk_frozen BK280.out 1
              try go_wp2_with (first | ((with_reducible refine gate_callee (f := 13) rfl ?_); refine goesL_ (some 98) rfl rfl Try.func13 (by kernel_rfl) rfl #[.agg #[.slice Ao111 t274.length co111, .slice (some ⟨go120, 0, none⟩) y289.length co114]] rfl (by (try simp only [List.map_toArray, List.map_cons, List.map_nil]); first | done | rfl | (simp only [List.length_drop, List.length_take]; rfl)) ?_; (with_reducible refine (schema_Check.calls k2 _ _ t274 _ _ y289 t295 _ ?side1 ?side2 ?side3 ?side4 A104.out).mono ?_); (case side1 => refine (Kd.S_reads' (e := 48) (base := w.heap.size) (ok := fun k_ => True) (n := t274.length) (c := co111) ?_).2.2; exact (by (with_reducible repeat (first | apply Kd.S_alloc | apply Kd.S_drewN | apply Kd.S_drew)); exact (Kd.S_mono (Kd.S_far (p := ⟨gb280, 1, none⟩) (Kd.S_types HO276.out BK280.out (by decide)) (fun _ hk => hk.2) (.slice (some ⟨go120, 0, none⟩) y289.length co114)) (fun _ h_ => h_.1)))); (case side2 => exact (Kd.S_reads' HO276.out).2.1); (case side3 => refine (Kd.S_reads' (e := 38) (base := w.heap.size) (ok := fun k_ => True) (n := y289.length) (c := co114) ?_).2.2; exact (by (with_reducible repeat (first | apply Kd.S_alloc | apply Kd.S_drewN | apply Kd.S_drew)); exact (Kd.S_mono (Kd.S_far (p := ⟨gb280, 1, none⟩) (Kd.S_types HO279.out BK280.out (by decide)) (fun _ hk => hk.2) (.slice (some ⟨go120, 0, none⟩) y289.length co114)) (fun _ h_ => h_.1)))); (case side4 => exact (Kd.S_reads' HO279.out).2.1); rintro e w123 ⟨rfl, hb⟩; refine ⟨_, rfl, ?_⟩; have n0_ := Aside0.mk (Kd.S_below (by (with_reducible repeat (first | apply Kd.S_alloc | apply Kd.S_drewN | apply Kd.S_drew)); exact (Kd.S_mono (Kd.S_far (p := ⟨gb280, 1, none⟩) (Kd.S_types HO276.out BK280.out (by decide)) (fun _ hk => hk.2) (.slice (some ⟨go120, 0, none⟩) y289.length co114)) (fun _ h_ => h_.1))) hb); have n1_ := Aside0.mk (Kd.S_below (by (with_reducible repeat (first | apply Kd.S_alloc | apply Kd.S_drewN | apply Kd.S_drew)); exact (Kd.S_mono (Kd.S_far (p := ⟨gb280, 1, none⟩) (Kd.S_types HO279.out BK280.out (by decide)) (fun _ hk => hk.2) (.slice (some ⟨go120, 0, none⟩) y289.length co114)) (fun _ h_ => h_.1))) hb); have n2_ := Aside0.mk (blk_below (g := gb263) (o := .cells #[.slice A0_0 l0_0.length c0_0, .slice A0_1 l0_1.length c0_1] 30 (0, 0)) (by (with_reducible repeat (first | refine blk_drewN ?_ _ | refine blk_drew ?_ | refine blk_alloc ?_ _)); refine blk_far ?_ NB263_280.out _; (with_reducible repeat (first | refine blk_drewN ?_ _ | refine blk_drew ?_ | refine blk_alloc ?_ _)); exact BK263.out) hb); have n3_ := Aside0.mk (blk_below (g := gb280) (o := .cells #[.slice Ao111 t274.length co111, .slice (some ⟨go120, 0, none⟩) y289.length co114] 30 (0, 0)) (by (with_reducible repeat (first | refine blk_drewN ?_ _ | refine blk_drew ?_ | refine blk_alloc ?_ _)); refine blk_put (cs := #[.slice Ao111 t274.length co111, .slice (some ⟨go120, 0, none⟩) t277.length co114]) ?_ 1 _ rfl; (with_reducible repeat (first | refine blk_drewN ?_ _ | refine blk_drew ?_ | refine blk_alloc ?_ _)); exact BK280.out) hb); have n4_ := Aside0.mk (below_step (by repeat (first | (with_reducible first | exact HB.out | apply below_alloc | apply pw_below_drewN | apply below_drew1 | refine below_set ?_ GE263.out | refine below_set ?_ GE280.out) | exact HB.out)) hb); clear HO276; clear HO279; clear BK263; clear BK280; clear HB; have HO276 := n0_; have HO279 := n1_; have BK263 := n2_; have BK280 := n3_; have HB := n4_; clear n0_ n1_ n2_ n3_ n4_; (try clear hb); (try clear hb2); (try clear hk); (try clear hi)) | ((with_reducible refine gate_callee (f := 12) rfl ?_); refine goesL_ (some 99) rfl rfl Try.func12 (by kernel_rfl) rfl #[.int .i64 t295] rfl (by (try simp only [List.map_toArray, List.map_cons, List.map_nil]); first | done | rfl | (simp only [List.length_drop, List.length_take]; rfl)) ?_; (with_reducible refine (ecdysislaw15_num.calls t295 t296 _ A105.out).mono ?_); rintro e w' ⟨rfl, ⟨nd, rfl⟩⟩; refine ⟨_, rfl, ?_⟩) | (go_at_call 14; (with_reducible refine (ecdysislaw15_live.calls k2  t297 _ A107.out).mono ?_); rintro e w124 ⟨rfl, hb⟩; have n0_ := Aside0.mk (Kd.S_below (by (with_reducible repeat (first | apply Kd.S_alloc | apply Kd.S_drewN | apply Kd.S_drew)); exact HO276.out) hb); have n1_ := Aside0.mk (Kd.S_below (by (with_reducible repeat (first | apply Kd.S_alloc | apply Kd.S_drewN | apply Kd.S_drew)); exact HO279.out) hb); have n2_ := Aside0.mk (blk_below (g := gb263) (o := .cells #[.slice A0_0 l0_0.length c0_0, .slice A0_1 l0_1.length c0_1] 30 (0, 0)) (by (with_reducible repeat (first | refine blk_drewN ?_ _ | refine blk_drew ?_ | refine blk_alloc ?_ _)); exact BK263.out) hb); have n3_ := Aside0.mk (blk_below (g := gb280) (o := .cells #[.slice Ao111 t274.length co111, .slice (some ⟨go120, 0, none⟩) y289.length co114] 30 (0, 0)) (by (with_reducible repeat (first | refine blk_drewN ?_ _ | refine blk_drew ?_ | refine blk_alloc ?_ _)); exact BK280.out) hb); have n4_ := Aside0.mk (below_step (by repeat (first | (with_reducible first | exact HB.out | apply below_alloc | apply pw_below_drewN | apply below_drew1 | refine below_set ?_ GE263.out | refine below_set ?_ GE280.out) | exact HB.out)) hb); clear HO276; clear HO279; clear BK263; clear BK280; clear HB; have HO276 := n0_; have HO279 := n1_; have BK263 := n2_; have BK280 := n3_; have HB := n4_; clear n0_ n1_ n2_ n3_ n4_; (try clear hb); (try clear hb2); (try clear hk); (try clear hi)))
              go_ret
              exact ⟨by first | rfl | (simp [errW_none, errW_some] <;> rfl) | (simp only [← hji60, ← hji63]; first | rfl | (simp [errW_none, errW_some] <;> rfl)) | (simp [*, errW_none, errW_some] <;> rfl), by repeat (first | (with_reducible first | exact HB.out | apply below_alloc | apply pw_below_drewN | apply below_drew1 | refine below_set ?_ GE263.out | refine below_set ?_ GE280.out) | exact HB.out)⟩
             ·rw [if_neg c106] at H
              have c106b0 : (t296 == 0) = false := beq_eq_false_iff_ne.mpr c106
              have c106b1 : (t296 != 0) = true := bne_iff_ne.mpr c106
              obtain rfl := Option.some.inj H
              have hcz125_0 : wr.cell? ⟨gb263, 0, none⟩ = some (.slice A0_0 l0_0.length c0_0) := (blk_cell BK263.out 0).trans rfl
              have hcz125_1 : wr.cell? ⟨gb263, 1, none⟩ = some (.slice A0_1 l0_1.length c0_1) := (blk_cell BK263.out 1).trans rfl
              have hfz125_0 := blk_frozen BK263.out 0
              have hfz125_1 := blk_frozen BK263.out 1
              try go_wp2_with (first | ((with_reducible refine gate_callee (f := 15) rfl ?_); refine goesL_ (some 74) rfl rfl Try.func15 (by kernel_rfl) rfl #[.agg #[.slice A0_0 l0_0.length c0_0, .slice A0_1 l0_1.length c0_1]] rfl (by (try simp only [List.map_toArray, List.map_cons, List.map_nil]); first | done | rfl | (simp only [List.length_drop, List.length_take]; rfl)) ?_; (with_reducible refine (ecdysisref15_Copy.calls k2 _ _ l0_0 _ _ l0_1 t274 t277 _ ?side1 ?side2 ?side3 ?side4 A59.out).mono ?_); (case side1 => repeat (first | exact (Kd.C_below HR0_0.out HB.out) | (with_reducible refine Kd.C_alloc ?_ _) | (with_reducible refine Kd.C_drewN ?_ _) | (with_reducible refine Kd.C_drew ?_))); (case side2 => exact HC0_0.out); (case side3 => repeat (first | exact (Kd.C_below HR0_1.out HB.out) | (with_reducible refine Kd.C_alloc ?_ _) | (with_reducible refine Kd.C_drewN ?_ _) | (with_reducible refine Kd.C_drew ?_))); (case side4 => exact HC0_1.out); rintro e w126 ⟨v275, v278, rfl, ho0, ho1, hb⟩; refine ⟨_, rfl, ?_⟩; have n0_ := Aside0.mk (Kd.S_lower ho0 (below_size (by repeat (first | (with_reducible first | exact HB.out | apply below_alloc | apply pw_below_drewN | apply below_drew1 | refine below_set ?_ GE263.out) | exact HB.out)))); have n1_ := Aside0.mk (Kd.S_lower ho1 (below_size (by repeat (first | (with_reducible first | exact HB.out | apply below_alloc | apply pw_below_drewN | apply below_drew1 | refine below_set ?_ GE263.out) | exact HB.out)))); have n2_ := Aside0.mk (blk_below (g := gb263) (o := .cells #[.slice A0_0 l0_0.length c0_0, .slice A0_1 l0_1.length c0_1] 30 (0, 0)) (by (with_reducible repeat (first | refine blk_drewN ?_ _ | refine blk_drew ?_ | refine blk_alloc ?_ _)); exact BK263.out) hb); have n3_ := Aside0.mk (below_step (by repeat (first | (with_reducible first | exact HB.out | apply below_alloc | apply pw_below_drewN | apply below_drew1 | refine below_set ?_ GE263.out) | exact HB.out)) hb); clear BK263; clear HB; have HO276 := n0_; have HO279 := n1_; have BK263 := n2_; have HB := n3_; clear n0_ n1_ n2_ n3_; (try clear hb); (try clear hb2); (try clear hk); (try clear hi); (try clear ho0); (try clear ho1)) | ((with_reducible refine gate_dst (N := 9) rfl ?_); refine box_event ?hg (N := 9) ?hd (cs := #[.slice none 0 0, .slice none 0 0]) (t := 30) ?hr ?_; (case hd => rfl); (case hg => rfl); (case hr => first | (go_simp; done) | (go_simp; rfl)); intro gb280 hg w127 hbox hb; have n0_ := Aside0.mk (Kd.S_below (by (with_reducible repeat (first | apply Kd.S_alloc | apply Kd.S_drewN | apply Kd.S_drew)); exact HO276.out) hb); have n1_ := Aside0.mk (Kd.S_below (by (with_reducible repeat (first | apply Kd.S_alloc | apply Kd.S_drewN | apply Kd.S_drew)); exact HO279.out) hb); have n2_ := Aside0.mk (blk_below (g := gb263) (o := .cells #[.slice A0_0 l0_0.length c0_0, .slice A0_1 l0_1.length c0_1] 30 (0, 0)) (by (with_reducible repeat (first | refine blk_drewN ?_ _ | refine blk_drew ?_ | refine blk_alloc ?_ _)); exact BK263.out) hb); have n3_ := Aside0.mk (below_step (by repeat (first | (with_reducible first | exact HB.out | apply below_alloc | apply pw_below_drewN | apply below_drew1 | refine below_set ?_ GE263.out) | exact HB.out)) hb); have n4_ := Aside0.mk (hbox); have n5_ := Aside0.mk ((by rw [hg]; exact (below_size (by repeat (first | (with_reducible first | exact HB.out | apply below_alloc | apply pw_below_drewN | apply below_drew1 | refine below_set ?_ GE263.out) | exact HB.out))) : w.heap.size ≤ gb280)); have n6_ := Aside0.mk ((by rw [hg]; exact (below_size (by repeat (first | (with_reducible first | exact HB.out | apply below_alloc | apply pw_below_drewN | apply below_drew1 | refine below_set ?_ GE263.out) | exact HB.out))) : w.heap.size ≤ gb280)); have n7_ := Aside0.mk ((by rw [hg]; exact Nat.ne_of_lt (blk_lt (g := gb263) (o := .cells #[.slice A0_0 l0_0.length c0_0, .slice A0_1 l0_1.length c0_1] 30 (0, 0)) (by (with_reducible repeat (first | refine blk_drewN ?_ _ | refine blk_drew ?_ | refine blk_alloc ?_ _)); exact BK263.out)) : gb263 ≠ gb280)); have n8_ := Aside0.mk ((by rw [hg]; exact Nat.ne_of_gt (blk_lt (g := gb263) (o := .cells #[.slice A0_0 l0_0.length c0_0, .slice A0_1 l0_1.length c0_1] 30 (0, 0)) (by (with_reducible repeat (first | refine blk_drewN ?_ _ | refine blk_drew ?_ | refine blk_alloc ?_ _)); exact BK263.out)) : gb280 ≠ gb263)); clear HO276; clear HO279; clear BK263; clear HB; have HO276 := n0_; have HO279 := n1_; have BK263 := n2_; have HB := n3_; have BK280 := n4_; have GW280 := n5_; have GE280 := n6_; have NB263_280 := n7_; have NB280_263 := n8_; clear n0_ n1_ n2_ n3_ n4_ n5_ n6_ n7_ n8_; clear hb hbox hg; obtain ⟨Ao128, co128, eo128⟩ := Kd.S_slice HO276.out; subst eo128; have hnb129 := NB280_263.out; have hnc129 := NB263_280.out; have hcz130_0 : w127.cell? ⟨gb280, 0, none⟩ = some (.slice none 0 0) := (blk_cell BK280.out 0).trans rfl; have hcz130_1 : w127.cell? ⟨gb280, 1, none⟩ = some (.slice none 0 0) := (blk_cell BK280.out 1).trans rfl; have hfz130_0 := blk_frozen BK280.out 0; have hfz130_1 := blk_frozen BK280.out 1; obtain ⟨Ao131, co131, eo131⟩ := Kd.S_slice HO279.out; subst eo131))
              have n0_ : Aside0 (Kd.S k48 48 ((w127.setCell ⟨gb280, 0, none⟩ (.slice Ao128 t274.length co128)).setCell ⟨gb280, 1, none⟩ (.slice Ao131 t277.length co131)) w.heap.size (fun _ => True) (.slice Ao128 t274.length co128) t274) := ⟨by (with_reducible repeat (first | apply Kd.S_alloc | apply Kd.S_drewN | apply Kd.S_drew)); exact Kd.S_mono (Kd.S_far (p := ⟨gb280, 1, none⟩) (Kd.S_far (p := ⟨gb280, 0, none⟩) (Kd.S_types HO276.out BK280.out (by decide)) (fun _ hk => hk.2) (.slice Ao128 t274.length co128)) (fun _ hk => hk.2) (.slice Ao131 t277.length co131)) (fun _ hk => trivial)⟩
              have n1_ : Aside0 (Kd.S k38 38 ((w127.setCell ⟨gb280, 0, none⟩ (.slice Ao128 t274.length co128)).setCell ⟨gb280, 1, none⟩ (.slice Ao131 t277.length co131)) w.heap.size (fun _ => True) (.slice Ao131 t277.length co131) t277) := ⟨by (with_reducible repeat (first | apply Kd.S_alloc | apply Kd.S_drewN | apply Kd.S_drew)); exact Kd.S_mono (Kd.S_far (p := ⟨gb280, 1, none⟩) (Kd.S_far (p := ⟨gb280, 0, none⟩) (Kd.S_types HO279.out BK280.out (by decide)) (fun _ hk => hk.2) (.slice Ao128 t274.length co128)) (fun _ hk => hk.2) (.slice Ao131 t277.length co131)) (fun _ hk => trivial)⟩
              have n2_ : Aside0 (((w127.setCell ⟨gb280, 0, none⟩ (.slice Ao128 t274.length co128)).setCell ⟨gb280, 1, none⟩ (.slice Ao131 t277.length co131)).heap[gb263]? = some (.cells #[.slice A0_0 l0_0.length c0_0, .slice A0_1 l0_1.length c0_1] 30 (0, 0))) := ⟨by (with_reducible repeat (first | refine blk_drewN ?_ _ | refine blk_drew ?_ | refine blk_alloc ?_ _)); refine blk_far ?_ NB263_280.out _; (with_reducible repeat (first | refine blk_drewN ?_ _ | refine blk_drew ?_ | refine blk_alloc ?_ _)); refine blk_far ?_ NB263_280.out _; (with_reducible repeat (first | refine blk_drewN ?_ _ | refine blk_drew ?_ | refine blk_alloc ?_ _)); exact BK263.out⟩
              have n3_ : Aside0 (((w127.setCell ⟨gb280, 0, none⟩ (.slice Ao128 t274.length co128)).setCell ⟨gb280, 1, none⟩ (.slice Ao131 t277.length co131)).heap[gb280]? = some (.cells #[.slice Ao128 t274.length co128, .slice Ao131 t277.length co131] 30 (0, 0))) := ⟨by (with_reducible repeat (first | refine blk_drewN ?_ _ | refine blk_drew ?_ | refine blk_alloc ?_ _)); refine blk_put (cs := #[.slice Ao128 t274.length co128, .slice none 0 0]) ?_ 1 _ rfl; (with_reducible repeat (first | refine blk_drewN ?_ _ | refine blk_drew ?_ | refine blk_alloc ?_ _)); refine blk_put (cs := #[.slice none 0 0, .slice none 0 0]) ?_ 0 _ rfl; (with_reducible repeat (first | refine blk_drewN ?_ _ | refine blk_drew ?_ | refine blk_alloc ?_ _)); exact BK280.out⟩
              have n4_ : Aside0 (Below w.heap.size w ((w127.setCell ⟨gb280, 0, none⟩ (.slice Ao128 t274.length co128)).setCell ⟨gb280, 1, none⟩ (.slice Ao131 t277.length co131))) := ⟨by repeat (first | (with_reducible first | exact HB.out | apply below_alloc | apply pw_below_drewN | apply below_drew1 | refine below_set ?_ GE263.out | refine below_set ?_ GE280.out) | exact HB.out)⟩
              (try clear HO276)
              (try clear HO279)
              (try clear BK263)
              (try clear BK280)
              (try clear HB)
              generalize ((w127.setCell ⟨gb280, 0, none⟩ (.slice Ao128 t274.length co128)).setCell ⟨gb280, 1, none⟩ (.slice Ao131 t277.length co131)) = w132 at n0_ n1_ n2_ n3_ n4_ ⊢
              have HO276 := n0_
              have HO279 := n1_
              have BK263 := n2_
              have BK280 := n3_
              have HB := n4_
              clear n0_ n1_ n2_ n3_ n4_
              have n0_ := Aside0.mk (Kd.S_drew HO276.out)
              have n1_ := Aside0.mk (Kd.S_drew HO279.out)
              have n2_ := Aside0.mk (blk_drew BK263.out)
              have n3_ := Aside0.mk (blk_drew BK280.out)
              have n4_ := Aside0.mk (below_drew1 HB.out)
              clear HO276
              clear HO279
              clear BK263
              clear BK280
              clear HB
              have HO276 := n0_
              have HO279 := n1_
              have BK263 := n2_
              have BK280 := n3_
              have HB := n4_
              clear n0_ n1_ n2_ n3_ n4_
              have q134 : ((ji60) : Int) ≤ ((t277.length : Int) : Int) := of_decide_eq_true (by first | (with_reducible assumption) | assumption)
              obtain ⟨i0134, hi0134, _, hsz134, _⟩ := info_parts info38
              have hroom134 : t277.length ≤ co131 := (Kd.S_reads' HO279.out).2.1
              have hC134 : Kd.C k38 _ Ao131 t277.length t277 := (Kd.S_reads' HO279.out).2.2
              have hcut134 := cut_to (P := Try.prog) 28 38 .i64 Try.underlying28 hi0134 Ao131 t277.length co131 (ji60) (of_decide_eq_true (by first | (with_reducible assumption) | assumption)) q134 hroom134
              have hr134 := Kd.C_take (m := ((ji60) : Int).toNat) hC134 (by omega)
              have hy134 : y281.length = ((ji60) : Int).toNat := (by rw [Ny281.out, List.length_take]; omega)
              rw [← Ny281.out] at hr134
              rw [← hy134] at hcut134
              have HR284 := Aside0.mk hr134
              have HC284 := Aside0.mk (show y281.length ≤ co131 from by omega)
              clear hr134 hC134 hroom134 hi0134 hsz134
              have KY134 := Aside0.mk hy134
              clear hy134
              have KL134 := Aside0.mk (show ((ji60) : Int).toNat ≤ t277.length from by omega)
              replace q134 := eq_true q134
              have q135 : ((ji63) : Int) ≤ ((t277.length : Int) : Int) := of_decide_eq_true (by first | (with_reducible assumption) | assumption)
              obtain ⟨i0135, hi0135, _, hsz135, _⟩ := info_parts info38
              have hroom135 : t277.length ≤ co131 := (Kd.S_reads' HO279.out).2.1
              have hC135 : Kd.C k38 _ Ao131 t277.length t277 := (Kd.S_reads' HO279.out).2.2
              have q0135 : (0 : Int) ≤ ((ji63) : Int) := of_decide_eq_true (by first | (with_reducible assumption) | assumption)
              have hcut135 := cut_from (P := Try.prog) 28 38 .i64 Try.underlying28 hi0135 3 hsz135 Ao131 t277.length co131 (ji63) q0135 q135
              have hr135 := Kd.C_drop (m := ((ji63) : Int).toNat) (c := co131) hC135 (by omega) hroom135
              obtain ⟨A135, hA135⟩ : ∃ A1, A1 = (if co131 = ((ji63) : Int).toNat then Ao131 else (Ao131 : Option Addr).map (·.add (((ji63) : Int).toNat * 3))) := ⟨_, rfl⟩
              obtain ⟨c135, hc135⟩ : ∃ c1, c1 = co131 - ((ji63) : Int).toNat := ⟨_, rfl⟩
              have hy135 : y285.length = t277.length - ((ji63) : Int).toNat := (by rw [Ny285.out, List.length_drop] <;> omega)
              rw [show (t277).drop ((ji63) : Int).toNat = y285 from Ny285.out.symm] at hr135
              replace hr135 : Kd.C k38 _ A135 y285.length y285 := (by rw [hA135]; exact hr135)
              rw [← hy135, ← hA135, ← hc135] at hcut135
              have HR288 := Aside0.mk hr135
              have HC288 := Aside0.mk (show y285.length ≤ c135 from by rw [hy135, hc135]; exact Nat.sub_le_sub_right hroom135 _)
              clear hr135 hC135 hroom135 hi0135 hsz135 hc135
              have KY135 := Aside0.mk hy135
              have KA135 := Aside0.mk hA135
              clear hy135 hA135
              have KL135 := Aside0.mk (show ((ji63) : Int).toNat ≤ t277.length from by omega)
              replace q135 := eq_true q135
              obtain ⟨go137, co137, eo137, gb137, gl137, cl137, HG137⟩ := Kd.S_form HO279.out (by have hj_ : 0 ≤ ((ji60) : Int) := of_decide_eq_true (by first | (with_reducible assumption) | assumption); have hl_ : (ji63 : Int) ≤ (t277.length : Int) := of_decide_eq_true (by first | (with_reducible assumption) | assumption); have hh_ : ((ji60) : Int) ≤ (t277.length : Int) := of_decide_eq_true (by first | (with_reducible assumption) | assumption); rw [← hji63] at hl_; unfold wrap64 at hl_; omega)
              (first | cases eo137 | (injection eo137 with ea_ en_ ec_; (first | subst ea_ | (injection ea_ with ea_; subst ea_)); subst ec_; clear en_))
              have GB137 := Aside0.mk gb137
              have GG137 := Aside0.mk HG137
              clear gb137 gl137 HG137
              refine start_ (n := 12) (S := fun w' => w'.cell? ⟨gb280, 0, none⟩ = some (.slice Ao128 t274.length co128) ∧ w'.cell? ⟨gb280, 1, none⟩ = some (.slice (some ⟨go137, 0, none⟩) t277.length co131)) (ds := [11]) #[false, false, false, false, false, false, false, false, false, false, false, false] (by kernel_rfl) rfl rfl ⟨(blk_cell BK280.out 0).trans rfl, (blk_cell BK280.out 1).trans rfl⟩ (fun hHeld => ?_); refine with_tabW ecdysislaw15_SchemaLess.tab14 ecdysislaw15_SchemaLess.bits14 (fun HT_ HW_ => ?_)
              generalize w132.drew = w133 at HO276 HO279 BK263 BK280 HB GG137 HR284 HR288 hHeld ⊢
              refine pure_ (i := 0) (N := some 75) (v := ?_) (a' := ?_) #[true, false, false, false, false, false, false, false, false, false, false, false] rfl rfl (any_of HT_.out (by kernel_rfl)) (fun _ _ _ h => h) (Or.inl ⟨by rfl, ?_⟩) ?_ ?_
              rotate_left
              ·intro w'
               go_simp
               with_reducible rfl
              rotate_left
              ·simp only [Act.put, List.setIfInBounds_toArray, List.set_cons_zero, List.set_cons_succ, i64_w, i32_w]
               rfl
              refine pure_ (i := 2) (N := some 77) (v := ?_) (a' := ?_) #[true, false, true, false, false, false, false, false, false, false, false, false] rfl rfl (any_of HT_.out (by kernel_rfl)) (fun _ _ _ h => h) (Or.inl ⟨by rfl, ?_⟩) ?_ ?_
              rotate_left
              ·intro w'
               go_simp
               with_reducible rfl
              rotate_left
              ·simp only [Act.put, List.setIfInBounds_toArray, List.set_cons_zero, List.set_cons_succ, i64_w, i32_w]
               rfl
              refine pure_ (i := 4) (N := some 79) (v := ?_) (a' := ?_) #[true, false, true, false, true, false, false, false, false, false, false, false] rfl rfl (any_of HT_.out (by kernel_rfl)) (fun _ _ _ h => h) (Or.inl ⟨by rfl, ?_⟩) ?_ ?_
              rotate_left
              ·intro w'
               go_simp
               with_reducible rfl
              rotate_left
              ·simp only [Act.put, List.setIfInBounds_toArray, List.set_cons_zero, List.set_cons_succ, i64_w, i32_w]
               rfl
              refine pure_ (i := 6) (N := some 81) (v := ?_) (a' := ?_) #[true, false, true, false, true, false, true, false, false, false, false, false] rfl rfl (any_of HT_.out (by kernel_rfl)) (fun _ _ _ h => h) (Or.inl ⟨by rfl, ?_⟩) ?_ ?_
              rotate_left
              ·intro w'
               go_simp
               with_reducible rfl
              rotate_left
              ·simp only [Act.put, List.setIfInBounds_toArray, List.set_cons_zero, List.set_cons_succ, i64_w, i32_w]
               rfl
              refine pure_ (i := 7) (N := some 82) (v := ?_) (a' := ?_) #[true, false, true, false, true, false, true, true, false, false, false, false] rfl rfl (any_of HT_.out (by kernel_rfl)) (fun _ _ _ h => h) (Or.inl ⟨by rfl, ?_⟩) ?_ ?_
              rotate_left
              ·intro w'
               go_simp
               with_reducible rfl
              rotate_left
              ·simp only [Act.put, List.setIfInBounds_toArray, List.set_cons_zero, List.set_cons_succ, i64_w, i32_w]
               rfl
              refine take_ (i := 1) (N := some 76) (v := ?_) (a' := ?_) #[true, true, true, false, true, false, true, true, false, false, false, false] rfl rfl (take_ofW HT_.out HW_.out (by kernel_rfl)) (fun _ _ _ h => h) (Or.inl ⟨by rfl, ?_⟩) hHeld ?_ ?_
              rotate_left
              ·rintro w' ⟨s0, s1⟩
               go_simp
               with_reducible rfl
              rotate_left
              ·simp only [Act.put, List.setIfInBounds_toArray, List.set_cons_zero, List.set_cons_succ, i64_w, i32_w]
               rfl
              refine pure_ (i := 3) (N := some 78) (v := ?_) (a' := ?_) #[true, true, true, true, true, false, true, true, false, false, false, false] rfl rfl (any_of HT_.out (by kernel_rfl)) (fun _ _ _ h => h) (Or.inl ⟨by rfl, ?_⟩) ?_ ?_
              rotate_left
              ·intro w'
               go_simp
               with_reducible rfl
              rotate_left
              ·simp only [Act.put, List.setIfInBounds_toArray, List.set_cons_zero, List.set_cons_succ, i64_w, i32_w]
               rfl
              refine take_ (i := 5) (N := some 80) (v := ?_) (a' := ?_) #[true, true, true, true, true, true, true, true, false, false, false, false] rfl rfl (take_ofW HT_.out HW_.out (by kernel_rfl)) (fun _ _ _ h => h) (Or.inl ⟨by rfl, ?_⟩) hHeld ?_ ?_
              rotate_left
              ·rintro w' ⟨s0, s1⟩
               go_simp
               with_reducible rfl
              rotate_left
              ·simp only [Act.put, List.setIfInBounds_toArray, List.set_cons_zero, List.set_cons_succ, i64_w, i32_w]
               rfl
              refine pure_ (i := 8) (N := some 83) (v := ?_) (a' := ?_) #[true, true, true, true, true, true, true, true, true, false, false, false] rfl rfl (any_of HT_.out (by kernel_rfl)) (fun _ _ _ h => h) (Or.inl ⟨by rfl, ?_⟩) ?_ ?_
              rotate_left
              ·intro w'
               go_simp
               with_reducible rfl
              rotate_left
              ·simp only [Act.put, List.setIfInBounds_toArray, List.set_cons_zero, List.set_cons_succ, i64_w, i32_w]
               rfl
              refine one_ (i := 9) (N := some 84) #[true, true, true, true, true, true, true, true, true, true, false, false] rfl rfl (one_of HT_.out (by kernel_rfl)) (by decide) (fun K hK => ?_)
              have hj_ : 0 ≤ ((ji60) : Int) := of_decide_eq_true (by first | (with_reducible assumption) | assumption)
              have hl_ : (ji63 : Int) ≤ (t277.length : Int) := of_decide_eq_true (by first | (with_reducible assumption) | assumption)
              have hh_ : ((ji60) : Int) ≤ (t277.length : Int) := of_decide_eq_true (by first | (with_reducible assumption) | assumption)
              have hb_ := (Kd.S_reads' HO279.out).2.2.2.1
              have h0_ : (0 : Int) ≤ (ji63 : Int) := of_decide_eq_true (by first | (with_reducible assumption) | assumption)
              have hy1_ := KY134.out
              have hk_ : (ji63 : Int).toNat = y281.length + 1 := (by have hw_ : (ji63 : Int) = (ji60) + 1 := (by have h00_ := h0_; rw [← hji63] at h00_ ⊢; unfold wrap64 at h00_ ⊢; omega); rw [hw_]; omega)
              refine Kd.S_delete_step k38 (w0 := w) w.heap.size (by rfl) (.tmp 78) (.tmp 83) 28 38 rfl Try.underlying28 (by kernel_rfl) (g := go137) (n := t277.length) (c := co131) (k := y281.length) rfl rfl ?hA ?hm (by (with_reducible repeat (first | apply Kd.S_alloc | apply Kd.S_drewN | apply Kd.S_drew)); exact HO279.out) ?hk (by repeat (first | (with_reducible first | exact HB.out | apply below_alloc | apply pw_below_drewN | apply below_drew1 | refine below_set ?_ GE263.out | refine below_set ?_ GE280.out) | exact HB.out)) (below_size (by repeat (first | (with_reducible first | exact HB.out | apply below_alloc | apply pw_below_drewN | apply below_drew1 | refine below_set ?_ GE263.out | refine below_set ?_ GE280.out) | exact HB.out))) ?_
              (case hA => have ha_ := KA135.out; rw [hk_] at ha_; exact ha_)
              (case hm => have ha_ := KY135.out; omega)
              (case hk => omega)
              intro w136 ho hb hg
              clear hj_ hl_ hh_ hb_ hk_ h0_
              rw [hy1_, ← Ny289.out] at ho
              clear hy1_
              have hn_ : t277.length - 1 = y289.length := (by have := (Kd.S_reads' ho).1; omega)
              rw [hn_] at ho ⊢
              clear hn_
              have n0_ := Aside0.mk (blk_grown (g := gb263) (o := .cells #[.slice A0_0 l0_0.length c0_0, .slice A0_1 l0_1.length c0_1] 30 (0, 0)) (by (with_reducible repeat (first | refine blk_drewN ?_ _ | refine blk_drew ?_ | refine blk_alloc ?_ _)); exact BK263.out) hg (Kd.S_ne HO279.out BK263.out (by decide)))
              have n1_ := Aside0.mk (Kd.S_over' (v := (.slice (some ⟨go137, 0, none⟩) t277.length co131)) (by (with_reducible repeat (first | apply Kd.S_alloc | apply Kd.S_drewN | apply Kd.S_drew)); exact HO276.out) (Kd.S_typed HO279.out) (by decide) hg)
              have n2_ := Aside0.mk (ho)
              have n3_ := Aside0.mk (blk_grown (g := gb280) (o := .cells #[.slice Ao128 t274.length co128, .slice (some ⟨go137, 0, none⟩) t277.length co131] 30 (0, 0)) (by (with_reducible repeat (first | refine blk_drewN ?_ _ | refine blk_drew ?_ | refine blk_alloc ?_ _)); exact BK280.out) hg (Kd.S_ne HO279.out BK280.out (by decide)))
              have n4_ := Aside0.mk (hb)
              clear BK263
              clear HO276
              clear HO279
              clear BK280
              clear HB
              have BK263 := n0_
              have HO276 := n1_
              have HO279 := n2_
              have BK280 := n3_
              have HB := n4_
              clear n0_ n1_ n2_ n3_ n4_
              clear ho hb hg
              refine hK.out _ _ ⟨(blk_cell BK280.out 0).trans rfl, (blk_cell BK280.out 1).trans rfl⟩ (fun hHeld => ?_)
              clear hK K
              refine norm_ (a' := ?_) ?_ ?_
              rotate_left
              ·show Act.put _ (some 84) _ = _
               simp only [Act.put, List.setIfInBounds_toArray, List.set_cons_zero, List.set_cons_succ, i64_w, i32_w]
               rfl
              refine pure_ (i := 10) (N := some 85) (v := ?_) (a' := ?_) #[true, true, true, true, true, true, true, true, true, true, true, false] rfl rfl (any_of HT_.out (by kernel_rfl)) (fun _ _ _ h => h) (Or.inl ⟨by rfl, ?_⟩) ?_ ?_
              rotate_left
              ·intro w'
               go_simp
               with_reducible rfl
              rotate_left
              ·simp only [Act.put, List.setIfInBounds_toArray, List.set_cons_zero, List.set_cons_succ, i64_w, i32_w]
               rfl
              refine last_ (i := 11) (N := none) #[true, true, true, true, true, true, true, true, true, true, true, true] rfl rfl (one_of HT_.out (by kernel_rfl)) (by decide) (fun K hK => ?_)
              have hs138 : w136.cell? ⟨gb280, 1, none⟩ = some (.slice (some ⟨go137, 0, none⟩) t277.length co131) := (blk_cell BK280.out 1).trans rfl
              have hfs138 := blk_frozen BK280.out 1
              have hns138_0 := NB263_280.out
              have hms138_0 := NB280_263.out
              refine skip_ (w1 := ?_) (by rfl) rfl ?_ ?_
              rotate_left
              ·go_simp
               rfl
              refine hK.out _ _ ?_
              clear hK K
              refine done_ (done_of HT_.out (by kernel_rfl)) ?_
              have hcz139_0 : w136.cell? ⟨gb280, 0, none⟩ = some (.slice Ao128 t274.length co128) := (blk_cell BK280.out 0).trans rfl
              have hcz139_1 : w136.cell? ⟨gb280, 1, none⟩ = some (.slice (some ⟨go137, 0, none⟩) t277.length co131) := (blk_cell BK280.out 1).trans rfl
              have hfz139_0 := blk_frozen BK280.out 0
              have hfz139_1 := blk_frozen BK280.out 1
              try go_wp2_with (first | ((with_reducible refine gate_callee (f := 13) rfl ?_); refine goesL_ (some 98) rfl rfl Try.func13 (by kernel_rfl) rfl #[.agg #[.slice Ao128 t274.length co128, .slice (some ⟨go137, 0, none⟩) y289.length co131]] rfl (by (try simp only [List.map_toArray, List.map_cons, List.map_nil]); first | done | rfl | (simp only [List.length_drop, List.length_take]; rfl)) ?_; (with_reducible refine (schema_Check.calls k2 _ _ t274 _ _ y289 t295 _ ?side1 ?side2 ?side3 ?side4 A104.out).mono ?_); (case side1 => refine (Kd.S_reads' (e := 48) (base := w.heap.size) (ok := fun k_ => True) (n := t274.length) (c := co128) ?_).2.2; exact (by (with_reducible repeat (first | apply Kd.S_alloc | apply Kd.S_drewN | apply Kd.S_drew)); exact (Kd.S_mono (Kd.S_far (p := ⟨gb280, 1, none⟩) (Kd.S_types HO276.out BK280.out (by decide)) (fun _ hk => hk.2) (.slice (some ⟨go137, 0, none⟩) y289.length co131)) (fun _ h_ => h_.1)))); (case side2 => exact (Kd.S_reads' HO276.out).2.1); (case side3 => refine (Kd.S_reads' (e := 38) (base := w.heap.size) (ok := fun k_ => True) (n := y289.length) (c := co131) ?_).2.2; exact (by (with_reducible repeat (first | apply Kd.S_alloc | apply Kd.S_drewN | apply Kd.S_drew)); exact (Kd.S_mono (Kd.S_far (p := ⟨gb280, 1, none⟩) (Kd.S_types HO279.out BK280.out (by decide)) (fun _ hk => hk.2) (.slice (some ⟨go137, 0, none⟩) y289.length co131)) (fun _ h_ => h_.1)))); (case side4 => exact (Kd.S_reads' HO279.out).2.1); rintro e w140 ⟨rfl, hb⟩; refine ⟨_, rfl, ?_⟩; have n0_ := Aside0.mk (Kd.S_below (by (with_reducible repeat (first | apply Kd.S_alloc | apply Kd.S_drewN | apply Kd.S_drew)); exact (Kd.S_mono (Kd.S_far (p := ⟨gb280, 1, none⟩) (Kd.S_types HO276.out BK280.out (by decide)) (fun _ hk => hk.2) (.slice (some ⟨go137, 0, none⟩) y289.length co131)) (fun _ h_ => h_.1))) hb); have n1_ := Aside0.mk (Kd.S_below (by (with_reducible repeat (first | apply Kd.S_alloc | apply Kd.S_drewN | apply Kd.S_drew)); exact (Kd.S_mono (Kd.S_far (p := ⟨gb280, 1, none⟩) (Kd.S_types HO279.out BK280.out (by decide)) (fun _ hk => hk.2) (.slice (some ⟨go137, 0, none⟩) y289.length co131)) (fun _ h_ => h_.1))) hb); have n2_ := Aside0.mk (blk_below (g := gb263) (o := .cells #[.slice A0_0 l0_0.length c0_0, .slice A0_1 l0_1.length c0_1] 30 (0, 0)) (by (with_reducible repeat (first | refine blk_drewN ?_ _ | refine blk_drew ?_ | refine blk_alloc ?_ _)); refine blk_far ?_ NB263_280.out _; (with_reducible repeat (first | refine blk_drewN ?_ _ | refine blk_drew ?_ | refine blk_alloc ?_ _)); exact BK263.out) hb); have n3_ := Aside0.mk (blk_below (g := gb280) (o := .cells #[.slice Ao128 t274.length co128, .slice (some ⟨go137, 0, none⟩) y289.length co131] 30 (0, 0)) (by (with_reducible repeat (first | refine blk_drewN ?_ _ | refine blk_drew ?_ | refine blk_alloc ?_ _)); refine blk_put (cs := #[.slice Ao128 t274.length co128, .slice (some ⟨go137, 0, none⟩) t277.length co131]) ?_ 1 _ rfl; (with_reducible repeat (first | refine blk_drewN ?_ _ | refine blk_drew ?_ | refine blk_alloc ?_ _)); exact BK280.out) hb); have n4_ := Aside0.mk (below_step (by repeat (first | (with_reducible first | exact HB.out | apply below_alloc | apply pw_below_drewN | apply below_drew1 | refine below_set ?_ GE263.out | refine below_set ?_ GE280.out) | exact HB.out)) hb); clear HO276; clear HO279; clear BK263; clear BK280; clear HB; have HO276 := n0_; have HO279 := n1_; have BK263 := n2_; have BK280 := n3_; have HB := n4_; clear n0_ n1_ n2_ n3_ n4_; (try clear hb); (try clear hb2); (try clear hk); (try clear hi)) | ((with_reducible refine gate_callee (f := 12) rfl ?_); refine goesL_ (some 99) rfl rfl Try.func12 (by kernel_rfl) rfl #[.int .i64 t295] rfl (by (try simp only [List.map_toArray, List.map_cons, List.map_nil]); first | done | rfl | (simp only [List.length_drop, List.length_take]; rfl)) ?_; (with_reducible refine (ecdysislaw15_num.calls t295 t296 _ A105.out).mono ?_); rintro e w' ⟨rfl, ⟨nd, rfl⟩⟩; refine ⟨_, rfl, ?_⟩))
              go_ret
              exact ⟨by first | rfl | (simp [errW_none, errW_some] <;> rfl) | (simp only [← hji60, ← hji63]; first | rfl | (simp [errW_none, errW_some] <;> rfl)) | (simp [*, errW_none, errW_some] <;> rfl), by repeat (first | (with_reducible first | exact HB.out | apply below_alloc | apply pw_below_drewN | apply below_drew1 | refine below_set ?_ GE263.out | refine below_set ?_ GE280.out) | exact HB.out)⟩
           ·rw [if_neg c65] at H
            exact absurd H (by simp)
          ·rw [if_neg c64] at H
           exact absurd H (by simp)
         ·rw [if_neg c62] at H
          exact absurd H (by simp)
        ·rw [if_neg c61] at H
         exact absurd H (by simp)
end Go.Proofs.Ytelhcijoegjjnaa.P
