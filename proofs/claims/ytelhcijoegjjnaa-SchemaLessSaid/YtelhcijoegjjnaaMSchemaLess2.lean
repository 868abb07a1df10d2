-- Written by a program of this session (wip/tools/merge.py) for this claim: texts laid together.
import Derived.LoadGo3
import Derived.Test.YtelhcijoegjjnaaProg
import Derived.KernelRfl
import Derived.Items
import Derived.PartsItems
import Derived.CheckFast
import Derived.HeadItems
import GoSem.Claims
import Derived.Shelf.ItemsParts
import Derived.Below
import Derived.Deep.Draws
import Derived.Deep.AppendLies
import Derived.Maps.AppendAt
import Derived.OwnWalk
import Derived.Laws.BytesArg
import Derived.Laws.MakeOwn
import Derived.Laws.OwnMore
import Derived.Deep.OwnRows
import Derived.Tactics
import Derived.Lib.ConvBytes
import Derived.Laws.Slices
import Derived.WalkKit
import Derived.RowKit3
import Derived.Deep.LoopGhost
import Derived.Deep.QuietTactic
import Derived.BigQuiet
import Derived.WideLaws
import Derived.Deep.DeepCutAuto
import Derived.Deep.CutBlock
import Derived.Deep.RegionHeld3
import Derived.Laws.Rows
import Derived.Lib.AppendStr
import Derived.ArgAppend
import Derived.Laws.IdiomCopy
import Derived.OrdersHeld
import Derived.Laws.BitsLemmas
import Derived.RowKit
import Derived.WalkLawsBesides
import Derived.Outline
import Derived.Shelf.Abstract
import Derived.Laws.EntriesVeiled
import Derived.Test.YtelhcijoegjjnaaMSchemaLess1
import Derived.Sort.Walk0
import Derived.Lib.OwnBridge
import Derived.Lib.Strings
import Derived.Lib.Hide
import Derived.Laws.RangeAny
namespace Go.Proofs.Ytelhcijoegjjnaa.P
open Go.RowKit Go.Proofs.YtelhcijoegjjnaaW.PrintWords Go.Proofs.YtelhcijoegjjnaaW.PrintLast Go.Proofs.YtelhcijoegjjnaaW.PrintMore
attribute [local go_sem] max2_int min2_int max_two min_two max_three min_three max_four min_four
set_option linter.unusedVariables false
set_option linter.unusedSimpArgs false
def errW : Option Int → Value
 | none => .nilIface
 | some c => .iface 0 (.int .i64 c)
theorem errW_none : errW none = .nilIface := rfl
theorem errW_some (c : Int) : errW (some c) = .iface 0 (.int .i64 c) := rfl
theorem info3 : (Try.prog.info? 3).map (fun i => (i.zero, i.size, i.bytes)) = some (some (.int .i64 0), 1, 8) := by kernel_rfl
theorem info9 : (Try.prog.info? 9).map (fun i => (i.zero, i.size, i.bytes)) = some (some (.string ⟨#[]⟩), 1, 16) := by kernel_rfl
theorem info38 : (Try.prog.info? 38).map (fun i => (i.zero, i.size, i.bytes)) = some (some (.agg #[(.string ⟨#[]⟩), (.slice none 0 0), (.slice none 0 0)]), 3, 64) := by kernel_rfl
theorem info40 : (Try.prog.info? 40).map (fun i => (i.zero, i.size, i.bytes)) = some (some (.agg #[(.string ⟨#[]⟩), (.int .i64 0), (.int .i64 0), (.string ⟨#[]⟩), (.bool false), (.bool false), (.string ⟨#[]⟩)]), 7, 72) := by kernel_rfl
theorem info48 : (Try.prog.info? 48).map (fun i => (i.zero, i.size, i.bytes)) = some (some (.agg #[(.string ⟨#[]⟩), (.slice none 0 0)]), 2, 40) := by kernel_rfl
theorem info50 : (Try.prog.info? 50).map (fun i => (i.zero, i.size, i.bytes)) = some (some (.agg #[(.string ⟨#[]⟩), (.int .i64 0)]), 2, 24) := by kernel_rfl
structure S50 where
 f0 : ByteArray
 f1 : Int
def z50 : S50 := ⟨(⟨#[]⟩ : ByteArray), (0 : Int)⟩
def k50 : Kd S50 := Kd.iso (Kd.pair Kd.string (Kd.int .i64)) (fun x : S50 => (x.f0, x.f1))
theorem k50_open {w : World} {x : S50} {cs : List Value} (h : k50.K w x cs) : cs = [.string x.f0, .int .i64 x.f1] := by
 obtain ⟨_, _, rfl, rfl, rfl⟩ := h
 exact rfl
def rd_T50 (xs : List S50) (i : Int) : S50 := xs.getD i.toNat z50
theorem at_T50 {w : World} {A : Option Addr} {n : Nat} {xs : List S50} (h : Kd.C k50 w A n xs) (i : Int) (h0 : 0 ≤ i) (h1 : i < n) : ∃ ad , A = some ad ∧ w.cell? (ad.add (i.toNat * 2)) = some (.string (rd_T50 xs i).f0) ∧ w.cell? ⟨(ad.add (i.toNat * 2)).block, (ad.add (i.toNat * 2)).off + 1, none⟩ = some (.int .i64 (rd_T50 xs i).f1) := by
 obtain ⟨ad, c, e, _, hK, hc0⟩ := Kd.C_get h z50 i h0 h1
 have hc : ∀ j u, c[j]? = some u → w.cell? (ad.add (i.toNat * 2 + j)) = some u := hc0
 obtain rfl := k50_open hK
 exact ⟨ad, e, hc 0 _ rfl, by rw [← add_field _ _ 1 (by omega)]; exact hc 1 _ rfl⟩
structure S48 where
 f0 : ByteArray
 f1 : (List S50)
def z48 : S48 := ⟨(⟨#[]⟩ : ByteArray), ([] : List S50)⟩
def k48 : Kd S48 := Kd.iso (Kd.pair Kd.string (Kd.slice 50 k50)) (fun x : S48 => (x.f0, x.f1))
theorem k48_open {w : World} {x : S48} {cs : List Value} (h : k48.K w x cs) : ∃ A1 c1, cs = [.string x.f0, .slice A1 x.f1.length c1] ∧ x.f1.length ≤ c1 ∧ k50.C w A1 x.f1.length x.f1 := by
 obtain ⟨_, _, rfl, rfl, ⟨A1, c1, rfl, l1, g1⟩⟩ := h
 exact ⟨A1, c1, rfl, l1, g1⟩
theorem k48_mk (w : World) (x : S48) {A1 : Option Addr} {c1 : Nat} (l1 : x.f1.length ≤ c1) (g1 : k50.C w A1 x.f1.length x.f1) : k48.K w x [.string x.f0, .slice A1 x.f1.length c1] := ⟨[.string x.f0], [.slice A1 x.f1.length c1], rfl, rfl, ⟨A1, c1, rfl, l1, g1⟩⟩
theorem k48_mkM (w : World) (base : Nat) (ok : Nat → Prop) (x : S48) {v1 : Value} (g1 : k50.R 50 w base ok v1 x.f1) : k48.M w base ok x [.string x.f0, v1] := ⟨[.string x.f0], [v1], rfl, rfl, ⟨v1, rfl, g1⟩⟩
def rd_T48 (xs : List S48) (i : Int) : S48 := xs.getD i.toNat z48
theorem at_T48 {w : World} {A : Option Addr} {n : Nat} {xs : List S48} (h : Kd.C k48 w A n xs) (i : Int) (h0 : 0 ≤ i) (h1 : i < n) : ∃ ad A1 c1, A = some ad ∧ w.cell? (ad.add (i.toNat * 2)) = some (.string (rd_T48 xs i).f0) ∧ w.cell? ⟨(ad.add (i.toNat * 2)).block, (ad.add (i.toNat * 2)).off + 1, none⟩ = some (.slice A1 (rd_T48 xs i).f1.length c1) ∧ (rd_T48 xs i).f1.length ≤ c1 ∧ k50.C w A1 (rd_T48 xs i).f1.length (rd_T48 xs i).f1 := by
 obtain ⟨ad, c, e, _, hK, hc0⟩ := Kd.C_get h z48 i h0 h1
 have hc : ∀ j u, c[j]? = some u → w.cell? (ad.add (i.toNat * 2 + j)) = some u := hc0
 obtain ⟨A1, c1, rfl, l1, g1⟩ := k48_open hK
 exact ⟨ad, A1, c1, e, hc 0 _ rfl, by rw [← add_field _ _ 1 (by omega)]; exact hc 1 _ rfl, l1, g1⟩
structure S40 where
 f0 : ByteArray
 f1 : Int
 f2 : Int
 f3 : ByteArray
 f4 : Bool
 f5 : Bool
 f6 : ByteArray
def z40 : S40 := ⟨(⟨#[]⟩ : ByteArray), (0 : Int), (0 : Int), (⟨#[]⟩ : ByteArray), false, false, (⟨#[]⟩ : ByteArray)⟩
def k40 : Kd S40 := Kd.iso (Kd.pair Kd.string (Kd.pair (Kd.int .i64) (Kd.pair (Kd.int .i64) (Kd.pair Kd.string (Kd.pair Kd.bool (Kd.pair Kd.bool Kd.string)))))) (fun x : S40 => (x.f0, x.f1, x.f2, x.f3, x.f4, x.f5, x.f6))
theorem k40_open {w : World} {x : S40} {cs : List Value} (h : k40.K w x cs) : cs = [.string x.f0, .int .i64 x.f1, .int .i64 x.f2, .string x.f3, .bool x.f4, .bool x.f5, .string x.f6] := by
 obtain ⟨_, _, rfl, rfl, ⟨_, _, rfl, rfl, ⟨_, _, rfl, rfl, ⟨_, _, rfl, rfl, ⟨_, _, rfl, rfl, ⟨_, _, rfl, rfl, rfl⟩⟩⟩⟩⟩⟩ := h
 exact rfl
theorem k40_mk (w : World) (x : S40)  : k40.K w x [.string x.f0, .int .i64 x.f1, .int .i64 x.f2, .string x.f3, .bool x.f4, .bool x.f5, .string x.f6] := ⟨[.string x.f0], [.int .i64 x.f1, .int .i64 x.f2, .string x.f3, .bool x.f4, .bool x.f5, .string x.f6], rfl, rfl, ⟨[.int .i64 x.f1], [.int .i64 x.f2, .string x.f3, .bool x.f4, .bool x.f5, .string x.f6], rfl, rfl, ⟨[.int .i64 x.f2], [.string x.f3, .bool x.f4, .bool x.f5, .string x.f6], rfl, rfl, ⟨[.string x.f3], [.bool x.f4, .bool x.f5, .string x.f6], rfl, rfl, ⟨[.bool x.f4], [.bool x.f5, .string x.f6], rfl, rfl, ⟨[.bool x.f5], [.string x.f6], rfl, rfl, rfl⟩⟩⟩⟩⟩⟩
theorem k40_mkM (w : World) (base : Nat) (ok : Nat → Prop) (x : S40)  : k40.M w base ok x [.string x.f0, .int .i64 x.f1, .int .i64 x.f2, .string x.f3, .bool x.f4, .bool x.f5, .string x.f6] := ⟨[.string x.f0], [.int .i64 x.f1, .int .i64 x.f2, .string x.f3, .bool x.f4, .bool x.f5, .string x.f6], rfl, rfl, ⟨[.int .i64 x.f1], [.int .i64 x.f2, .string x.f3, .bool x.f4, .bool x.f5, .string x.f6], rfl, rfl, ⟨[.int .i64 x.f2], [.string x.f3, .bool x.f4, .bool x.f5, .string x.f6], rfl, rfl, ⟨[.string x.f3], [.bool x.f4, .bool x.f5, .string x.f6], rfl, rfl, ⟨[.bool x.f4], [.bool x.f5, .string x.f6], rfl, rfl, ⟨[.bool x.f5], [.string x.f6], rfl, rfl, rfl⟩⟩⟩⟩⟩⟩
def rd_T40 (xs : List S40) (i : Int) : S40 := xs.getD i.toNat z40
theorem at_T40 {w : World} {A : Option Addr} {n : Nat} {xs : List S40} (h : Kd.C k40 w A n xs) (i : Int) (h0 : 0 ≤ i) (h1 : i < n) : ∃ ad , A = some ad ∧ w.cell? (ad.add (i.toNat * 7)) = some (.string (rd_T40 xs i).f0) ∧ w.cell? ⟨(ad.add (i.toNat * 7)).block, (ad.add (i.toNat * 7)).off + 1, none⟩ = some (.int .i64 (rd_T40 xs i).f1) ∧ w.cell? ⟨(ad.add (i.toNat * 7)).block, (ad.add (i.toNat * 7)).off + 2, none⟩ = some (.int .i64 (rd_T40 xs i).f2) ∧ w.cell? ⟨(ad.add (i.toNat * 7)).block, (ad.add (i.toNat * 7)).off + 3, none⟩ = some (.string (rd_T40 xs i).f3) ∧ w.cell? ⟨(ad.add (i.toNat * 7)).block, (ad.add (i.toNat * 7)).off + 4, none⟩ = some (.bool (rd_T40 xs i).f4) ∧ w.cell? ⟨(ad.add (i.toNat * 7)).block, (ad.add (i.toNat * 7)).off + 5, none⟩ = some (.bool (rd_T40 xs i).f5) ∧ w.cell? ⟨(ad.add (i.toNat * 7)).block, (ad.add (i.toNat * 7)).off + 6, none⟩ = some (.string (rd_T40 xs i).f6) := by
 obtain ⟨ad, c, e, _, hK, hc0⟩ := Kd.C_get h z40 i h0 h1
 have hc : ∀ j u, c[j]? = some u → w.cell? (ad.add (i.toNat * 7 + j)) = some u := hc0
 obtain rfl := k40_open hK
 exact ⟨ad, e, hc 0 _ rfl, by rw [← add_field _ _ 1 (by omega)]; exact hc 1 _ rfl, by rw [← add_field _ _ 2 (by omega)]; exact hc 2 _ rfl, by rw [← add_field _ _ 3 (by omega)]; exact hc 3 _ rfl, by rw [← add_field _ _ 4 (by omega)]; exact hc 4 _ rfl, by rw [← add_field _ _ 5 (by omega)]; exact hc 5 _ rfl, by rw [← add_field _ _ 6 (by omega)]; exact hc 6 _ rfl⟩
structure S38 where
 f0 : ByteArray
 f1 : (List S40)
 f2 : (List Int)
def z38 : S38 := ⟨(⟨#[]⟩ : ByteArray), ([] : List S40), ([] : List Int)⟩
def k38 : Kd S38 := Kd.iso (Kd.pair Kd.string (Kd.pair (Kd.slice 40 k40) (Kd.slice 3 (Kd.int .i64)))) (fun x : S38 => (x.f0, x.f1, x.f2))
theorem k38_open {w : World} {x : S38} {cs : List Value} (h : k38.K w x cs) : ∃ A1 c1 A2 c2, cs = [.string x.f0, .slice A1 x.f1.length c1, .slice A2 x.f2.length c2] ∧ x.f1.length ≤ c1 ∧ k40.C w A1 x.f1.length x.f1 ∧ x.f2.length ≤ c2 ∧ (Kd.int .i64).C w A2 x.f2.length x.f2 := by
 obtain ⟨_, _, rfl, rfl, ⟨_, _, rfl, ⟨A1, c1, rfl, l1, g1⟩, ⟨A2, c2, rfl, l2, g2⟩⟩⟩ := h
 exact ⟨A1, c1, A2, c2, rfl, l1, g1, l2, g2⟩
theorem k38_mk (w : World) (x : S38) {A1 : Option Addr} {c1 : Nat} (l1 : x.f1.length ≤ c1) (g1 : k40.C w A1 x.f1.length x.f1) {A2 : Option Addr} {c2 : Nat} (l2 : x.f2.length ≤ c2) (g2 : (Kd.int .i64).C w A2 x.f2.length x.f2) : k38.K w x [.string x.f0, .slice A1 x.f1.length c1, .slice A2 x.f2.length c2] := ⟨[.string x.f0], [.slice A1 x.f1.length c1, .slice A2 x.f2.length c2], rfl, rfl, ⟨[.slice A1 x.f1.length c1], [.slice A2 x.f2.length c2], rfl, ⟨A1, c1, rfl, l1, g1⟩, ⟨A2, c2, rfl, l2, g2⟩⟩⟩
theorem k38_mkM (w : World) (base : Nat) (ok : Nat → Prop) (x : S38) {v1 : Value} (g1 : k40.R 40 w base ok v1 x.f1) {v2 : Value} (g2 : (Kd.int .i64).R 3 w base ok v2 x.f2) : k38.M w base ok x [.string x.f0, v1, v2] := ⟨[.string x.f0], [v1, v2], rfl, rfl, ⟨[v1], [v2], rfl, ⟨v1, rfl, g1⟩, ⟨v2, rfl, g2⟩⟩⟩
theorem k38_mkF (W : World) (ok : Nat → Prop) (x : S38) {A1 : Option Addr} {c1 : Nat} (l1 : x.f1.length ≤ c1) (g1 : Kd.F k40 W ok A1 x.f1.length x.f1) {A2 : Option Addr} {c2 : Nat} (l2 : x.f2.length ≤ c2) (g2 : Kd.F (Kd.int .i64) W ok A2 x.f2.length x.f2) : Kd.FK k38 W ok x [.string x.f0, .slice A1 x.f1.length c1, .slice A2 x.f2.length c2] := fun W2 hW => k38_mk W2 x l1 (g1 W2 hW) l2 (g2 W2 hW)
def rd_T38 (xs : List S38) (i : Int) : S38 := xs.getD i.toNat z38
theorem at_T38 {w : World} {A : Option Addr} {n : Nat} {xs : List S38} (h : Kd.C k38 w A n xs) (i : Int) (h0 : 0 ≤ i) (h1 : i < n) : ∃ ad A1 c1 A2 c2, A = some ad ∧ w.cell? (ad.add (i.toNat * 3)) = some (.string (rd_T38 xs i).f0) ∧ w.cell? ⟨(ad.add (i.toNat * 3)).block, (ad.add (i.toNat * 3)).off + 1, none⟩ = some (.slice A1 (rd_T38 xs i).f1.length c1) ∧ w.cell? ⟨(ad.add (i.toNat * 3)).block, (ad.add (i.toNat * 3)).off + 2, none⟩ = some (.slice A2 (rd_T38 xs i).f2.length c2) ∧ (rd_T38 xs i).f1.length ≤ c1 ∧ k40.C w A1 (rd_T38 xs i).f1.length (rd_T38 xs i).f1 ∧ (rd_T38 xs i).f2.length ≤ c2 ∧ (Kd.int .i64).C w A2 (rd_T38 xs i).f2.length (rd_T38 xs i).f2 := by
 obtain ⟨ad, c, e, _, hK, hc0⟩ := Kd.C_get h z38 i h0 h1
 have hc : ∀ j u, c[j]? = some u → w.cell? (ad.add (i.toNat * 3 + j)) = some u := hc0
 obtain ⟨A1, c1, A2, c2, rfl, l1, g1, l2, g2⟩ := k38_open hK
 exact ⟨ad, A1, c1, A2, c2, e, hc 0 _ rfl, by rw [← add_field _ _ 1 (by omega)]; exact hc 1 _ rfl, by rw [← add_field _ _ 2 (by omega)]; exact hc 2 _ rfl, l1, g1, l2, g2⟩
structure S30 where
 f0 : (List S48)
 f1 : (List S38)
def k30 : Kd S30 := Kd.iso (Kd.pair (Kd.slice 48 k48) (Kd.slice 38 k38)) (fun x : S30 => (x.f0, x.f1))
theorem k30_open {w : World} {x : S30} {cs : List Value} (h : k30.K w x cs) : ∃ A0 c0 A1 c1, cs = [.slice A0 x.f0.length c0, .slice A1 x.f1.length c1] ∧ x.f0.length ≤ c0 ∧ k48.C w A0 x.f0.length x.f0 ∧ x.f1.length ≤ c1 ∧ k38.C w A1 x.f1.length x.f1 := by
 obtain ⟨_, _, rfl, ⟨A0, c0, rfl, l0, g0⟩, ⟨A1, c1, rfl, l1, g1⟩⟩ := h
 exact ⟨A0, c0, A1, c1, rfl, l0, g0, l1, g1⟩
end Go.Proofs.Ytelhcijoegjjnaa.P
namespace Go.Proofs.Ytelhcijoegjjnaa.P
open Go.RowKit Go.Proofs.YtelhcijoegjjnaaW.PrintWords Go.Proofs.YtelhcijoegjjnaaW.PrintLast Go.Proofs.YtelhcijoegjjnaaW.PrintMore
attribute [local go_sem] max2_int min2_int max_two min_two max_three min_three max_four min_four
set_option linter.unusedVariables false
set_option linter.unusedSimpArgs false
mutual
def ecdysisref15_Small.j1 : Nat → Int → List (S48) → List (S38) → Option (Bool)
 | 0, _, _, _ => none
 | k + 1, x3, x147000, x147001 => ecdysisref15_Small.l1 k x3 0 x147000 x147001
def ecdysisref15_Small.j3 : Nat → Int → List (S48) → List (S38) → Option (Bool)
 | 0, _, _, _ => none
 | k + 1, x3, x147000, x147001 => if x3 ≥ 200 then (some false) else (ecdysisref15_Small.l2 k 0 x147000 x147001)
def ecdysisref15_Small.l2 : Nat → Int → List (S48) → List (S38) → Option (Bool)
 | 0, _, _, _ => none
 | k + 1, x6, x147000, x147001 => if x6 < (x147000.length : Int) then (ecdysisref15_Small.l3 k x6 0 x147000 x147001) else (ecdysisref15_Small.l4 k 0 x147000 x147001)
def ecdysisref15_Small.l3 : Nat → Int → Int → List (S48) → List (S38) → Option (Bool)
 | 0, _, _, _, _ => none
 | k + 1, x6, x7, x147000, x147001 => if 0 ≤ x6 then (if x6 < (x147000.length : Int) then (if x7 < (((rd_T48 x147000 x6).f1).length : Int) then (if 0 ≤ x7 then (if (((rd_T50 ((rd_T48 x147000 x6).f1) x7).f0).size : Int) > 1000 then (some false) else (ecdysisref15_Small.l3 k x6 (wrap64 (x7 + 1)) x147000 x147001)) else (none)) else (ecdysisref15_Small.l2 k (wrap64 (x6 + 1)) x147000 x147001)) else (none)) else (none)
def ecdysisref15_Small.l4 : Nat → Int → List (S48) → List (S38) → Option (Bool)
 | 0, _, _, _ => none
 | k + 1, x8, x147000, x147001 => if x8 < (x147001.length : Int) then (ecdysisref15_Small.l5 k x8 0 x147000 x147001) else (some true)
def ecdysisref15_Small.l5 : Nat → Int → Int → List (S48) → List (S38) → Option (Bool)
 | 0, _, _, _, _ => none
 | k + 1, x8, x9, x147000, x147001 => if 0 ≤ x8 then (if x8 < (x147001.length : Int) then (if x9 < (((rd_T38 x147001 x8).f1).length : Int) then (if 0 ≤ x9 then (if (((rd_T40 ((rd_T38 x147001 x8).f1) x9).f0).size : Int) > 1000 then (some false) else (if (((rd_T40 ((rd_T38 x147001 x8).f1) x9).f3).size : Int) > 1000 then (some false) else (if (((rd_T40 ((rd_T38 x147001 x8).f1) x9).f6).size : Int) > 1000 then (some false) else (ecdysisref15_Small.l5 k x8 (wrap64 (x9 + 1)) x147000 x147001)))) else (none)) else (ecdysisref15_Small.l4 k (wrap64 (x8 + 1)) x147000 x147001)) else (none)) else (none)
def ecdysisref15_Small.l1 : Nat → Int → Int → List (S48) → List (S38) → Option (Bool)
 | 0, _, _, _, _ => none
 | k + 1, x3, x5, x147000, x147001 => if x5 < (x147001.length : Int) then (if x3 < 200 then (if 0 ≤ x5 then (ecdysisref15_Small.l1 k (wrap64 ((wrap64 ((wrap64 (x3 + (((rd_T38 x147001 x5).f1).length : Int))) + (((rd_T38 x147001 x5).f2).length : Int))) + (wrap64 ((((rd_T38 x147001 x5).f0).size : Int) / 10)))) (wrap64 (x5 + 1)) x147000 x147001) else (none)) else (ecdysisref15_Small.j3 k x3 x147000 x147001)) else (ecdysisref15_Small.j3 k x3 x147000 x147001)
def ecdysisref15_Small.l0 : Nat → Int → Int → List (S48) → List (S38) → Option (Bool)
 | 0, _, _, _, _ => none
 | k + 1, x3, x4, x147000, x147001 => if x4 < (x147000.length : Int) then (if x3 < 200 then (if 0 ≤ x4 then (ecdysisref15_Small.l0 k (wrap64 ((wrap64 (x3 + (((rd_T48 x147000 x4).f1).length : Int))) + (wrap64 ((((rd_T48 x147000 x4).f0).size : Int) / 10)))) (wrap64 (x4 + 1)) x147000 x147001) else (none)) else (ecdysisref15_Small.j1 k x3 x147000 x147001)) else (ecdysisref15_Small.j1 k x3 x147000 x147001)
end
def ecdysisref15_Small.f (k : Nat) (l0_0 : List (S48)) (l0_1 : List (S38)) : Option (Bool) := ecdysisref15_Small.l0 k (wrap64 ((l0_0.length : Int) + (l0_1.length : Int))) 0 l0_0 l0_1
theorem ecdysisref15_Small.mono_l : ∀ k, (∀ y0 y1 y2, LeO (ecdysisref15_Small.j1 k y0 y1 y2) (ecdysisref15_Small.j1 (k + 1) y0 y1 y2)) ∧ (∀ y0 y1 y2, LeO (ecdysisref15_Small.j3 k y0 y1 y2) (ecdysisref15_Small.j3 (k + 1) y0 y1 y2)) ∧ (∀ y0 y1 y2, LeO (ecdysisref15_Small.l2 k y0 y1 y2) (ecdysisref15_Small.l2 (k + 1) y0 y1 y2)) ∧ (∀ y0 y1 y2 y3, LeO (ecdysisref15_Small.l3 k y0 y1 y2 y3) (ecdysisref15_Small.l3 (k + 1) y0 y1 y2 y3)) ∧ (∀ y0 y1 y2, LeO (ecdysisref15_Small.l4 k y0 y1 y2) (ecdysisref15_Small.l4 (k + 1) y0 y1 y2)) ∧ (∀ y0 y1 y2 y3, LeO (ecdysisref15_Small.l5 k y0 y1 y2 y3) (ecdysisref15_Small.l5 (k + 1) y0 y1 y2 y3)) ∧ (∀ y0 y1 y2 y3, LeO (ecdysisref15_Small.l1 k y0 y1 y2 y3) (ecdysisref15_Small.l1 (k + 1) y0 y1 y2 y3)) ∧ (∀ y0 y1 y2 y3, LeO (ecdysisref15_Small.l0 k y0 y1 y2 y3) (ecdysisref15_Small.l0 (k + 1) y0 y1 y2 y3))
 | 0 => ⟨fun _ _ _ r h => by simp [ecdysisref15_Small.j1] at h, fun _ _ _ r h => by simp [ecdysisref15_Small.j3] at h, fun _ _ _ r h => by simp [ecdysisref15_Small.l2] at h, fun _ _ _ _ r h => by simp [ecdysisref15_Small.l3] at h, fun _ _ _ r h => by simp [ecdysisref15_Small.l4] at h, fun _ _ _ _ r h => by simp [ecdysisref15_Small.l5] at h, fun _ _ _ _ r h => by simp [ecdysisref15_Small.l1] at h, fun _ _ _ _ r h => by simp [ecdysisref15_Small.l0] at h⟩
 | k + 1 => by
  obtain ⟨ih0, ih1, ih2, ih3, ih4, ih5, ih6, ih7⟩ := ecdysisref15_Small.mono_l k
  refine ⟨?_, ?_, ?_, ?_, ?_, ?_, ?_, ?_⟩
  ·intro y0 y1 y2
   unfold ecdysisref15_Small.j1
   repeat' first
   | (with_reducible exact ih0 _ _ _)
   | (with_reducible exact ih1 _ _ _)
   | (with_reducible exact ih2 _ _ _)
   | (with_reducible exact ih3 _ _ _ _)
   | (with_reducible exact ih4 _ _ _)
   | (with_reducible exact ih5 _ _ _ _)
   | (with_reducible exact ih6 _ _ _ _)
   | (with_reducible exact ih7 _ _ _ _)
   | (with_reducible exact LeO.refl _)
   | (with_reducible exact LeO.none _)
   | (with_reducible refine LeO.ite ?_ ?_)
   | (with_reducible refine LeO.bind ?_ (fun _ => ?_))
   | exact ih0 _ _ _
   | exact ih1 _ _ _
   | exact ih2 _ _ _
   | exact ih3 _ _ _ _
   | exact ih4 _ _ _
   | exact ih5 _ _ _ _
   | exact ih6 _ _ _ _
   | exact ih7 _ _ _ _
   | exact LeO.none _
   | refine LeO.ite ?_ ?_
   | refine LeO.bind ?_ (fun _ => ?_)
  ·intro y0 y1 y2
   unfold ecdysisref15_Small.j3
   repeat' first
   | (with_reducible exact ih0 _ _ _)
   | (with_reducible exact ih1 _ _ _)
   | (with_reducible exact ih2 _ _ _)
   | (with_reducible exact ih3 _ _ _ _)
   | (with_reducible exact ih4 _ _ _)
   | (with_reducible exact ih5 _ _ _ _)
   | (with_reducible exact ih6 _ _ _ _)
   | (with_reducible exact ih7 _ _ _ _)
   | (with_reducible exact LeO.refl _)
   | (with_reducible exact LeO.none _)
   | (with_reducible refine LeO.ite ?_ ?_)
   | (with_reducible refine LeO.bind ?_ (fun _ => ?_))
   | exact ih0 _ _ _
   | exact ih1 _ _ _
   | exact ih2 _ _ _
   | exact ih3 _ _ _ _
   | exact ih4 _ _ _
   | exact ih5 _ _ _ _
   | exact ih6 _ _ _ _
   | exact ih7 _ _ _ _
   | exact LeO.none _
   | refine LeO.ite ?_ ?_
   | refine LeO.bind ?_ (fun _ => ?_)
  ·intro y0 y1 y2
   unfold ecdysisref15_Small.l2
   repeat' first
   | (with_reducible exact ih0 _ _ _)
   | (with_reducible exact ih1 _ _ _)
   | (with_reducible exact ih2 _ _ _)
   | (with_reducible exact ih3 _ _ _ _)
   | (with_reducible exact ih4 _ _ _)
   | (with_reducible exact ih5 _ _ _ _)
   | (with_reducible exact ih6 _ _ _ _)
   | (with_reducible exact ih7 _ _ _ _)
   | (with_reducible exact LeO.refl _)
   | (with_reducible exact LeO.none _)
   | (with_reducible refine LeO.ite ?_ ?_)
   | (with_reducible refine LeO.bind ?_ (fun _ => ?_))
   | exact ih0 _ _ _
   | exact ih1 _ _ _
   | exact ih2 _ _ _
   | exact ih3 _ _ _ _
   | exact ih4 _ _ _
   | exact ih5 _ _ _ _
   | exact ih6 _ _ _ _
   | exact ih7 _ _ _ _
   | exact LeO.none _
   | refine LeO.ite ?_ ?_
   | refine LeO.bind ?_ (fun _ => ?_)
  ·intro y0 y1 y2 y3
   unfold ecdysisref15_Small.l3
   repeat' first
   | (with_reducible exact ih0 _ _ _)
   | (with_reducible exact ih1 _ _ _)
   | (with_reducible exact ih2 _ _ _)
   | (with_reducible exact ih3 _ _ _ _)
   | (with_reducible exact ih4 _ _ _)
   | (with_reducible exact ih5 _ _ _ _)
   | (with_reducible exact ih6 _ _ _ _)
   | (with_reducible exact ih7 _ _ _ _)
   | (with_reducible exact LeO.refl _)
   | (with_reducible exact LeO.none _)
   | (with_reducible refine LeO.ite ?_ ?_)
   | (with_reducible refine LeO.bind ?_ (fun _ => ?_))
   | exact ih0 _ _ _
   | exact ih1 _ _ _
   | exact ih2 _ _ _
   | exact ih3 _ _ _ _
   | exact ih4 _ _ _
   | exact ih5 _ _ _ _
   | exact ih6 _ _ _ _
   | exact ih7 _ _ _ _
   | exact LeO.none _
   | refine LeO.ite ?_ ?_
   | refine LeO.bind ?_ (fun _ => ?_)
  ·intro y0 y1 y2
   unfold ecdysisref15_Small.l4
   repeat' first
   | (with_reducible exact ih0 _ _ _)
   | (with_reducible exact ih1 _ _ _)
   | (with_reducible exact ih2 _ _ _)
   | (with_reducible exact ih3 _ _ _ _)
   | (with_reducible exact ih4 _ _ _)
   | (with_reducible exact ih5 _ _ _ _)
   | (with_reducible exact ih6 _ _ _ _)
   | (with_reducible exact ih7 _ _ _ _)
   | (with_reducible exact LeO.refl _)
   | (with_reducible exact LeO.none _)
   | (with_reducible refine LeO.ite ?_ ?_)
   | (with_reducible refine LeO.bind ?_ (fun _ => ?_))
   | exact ih0 _ _ _
   | exact ih1 _ _ _
   | exact ih2 _ _ _
   | exact ih3 _ _ _ _
   | exact ih4 _ _ _
   | exact ih5 _ _ _ _
   | exact ih6 _ _ _ _
   | exact ih7 _ _ _ _
   | exact LeO.none _
   | refine LeO.ite ?_ ?_
   | refine LeO.bind ?_ (fun _ => ?_)
  ·intro y0 y1 y2 y3
   unfold ecdysisref15_Small.l5
   repeat' first
   | (with_reducible exact ih0 _ _ _)
   | (with_reducible exact ih1 _ _ _)
   | (with_reducible exact ih2 _ _ _)
   | (with_reducible exact ih3 _ _ _ _)
   | (with_reducible exact ih4 _ _ _)
   | (with_reducible exact ih5 _ _ _ _)
   | (with_reducible exact ih6 _ _ _ _)
   | (with_reducible exact ih7 _ _ _ _)
   | (with_reducible exact LeO.refl _)
   | (with_reducible exact LeO.none _)
   | (with_reducible refine LeO.ite ?_ ?_)
   | (with_reducible refine LeO.bind ?_ (fun _ => ?_))
   | exact ih0 _ _ _
   | exact ih1 _ _ _
   | exact ih2 _ _ _
   | exact ih3 _ _ _ _
   | exact ih4 _ _ _
   | exact ih5 _ _ _ _
   | exact ih6 _ _ _ _
   | exact ih7 _ _ _ _
   | exact LeO.none _
   | refine LeO.ite ?_ ?_
   | refine LeO.bind ?_ (fun _ => ?_)
  ·intro y0 y1 y2 y3
   unfold ecdysisref15_Small.l1
   repeat' first
   | (with_reducible exact ih0 _ _ _)
   | (with_reducible exact ih1 _ _ _)
   | (with_reducible exact ih2 _ _ _)
   | (with_reducible exact ih3 _ _ _ _)
   | (with_reducible exact ih4 _ _ _)
   | (with_reducible exact ih5 _ _ _ _)
   | (with_reducible exact ih6 _ _ _ _)
   | (with_reducible exact ih7 _ _ _ _)
   | (with_reducible exact LeO.refl _)
   | (with_reducible exact LeO.none _)
   | (with_reducible refine LeO.ite ?_ ?_)
   | (with_reducible refine LeO.bind ?_ (fun _ => ?_))
   | exact ih0 _ _ _
   | exact ih1 _ _ _
   | exact ih2 _ _ _
   | exact ih3 _ _ _ _
   | exact ih4 _ _ _
   | exact ih5 _ _ _ _
   | exact ih6 _ _ _ _
   | exact ih7 _ _ _ _
   | exact LeO.none _
   | refine LeO.ite ?_ ?_
   | refine LeO.bind ?_ (fun _ => ?_)
  ·intro y0 y1 y2 y3
   unfold ecdysisref15_Small.l0
   repeat' first
   | (with_reducible exact ih0 _ _ _)
   | (with_reducible exact ih1 _ _ _)
   | (with_reducible exact ih2 _ _ _)
   | (with_reducible exact ih3 _ _ _ _)
   | (with_reducible exact ih4 _ _ _)
   | (with_reducible exact ih5 _ _ _ _)
   | (with_reducible exact ih6 _ _ _ _)
   | (with_reducible exact ih7 _ _ _ _)
   | (with_reducible exact LeO.refl _)
   | (with_reducible exact LeO.none _)
   | (with_reducible refine LeO.ite ?_ ?_)
   | (with_reducible refine LeO.bind ?_ (fun _ => ?_))
   | exact ih0 _ _ _
   | exact ih1 _ _ _
   | exact ih2 _ _ _
   | exact ih3 _ _ _ _
   | exact ih4 _ _ _
   | exact ih5 _ _ _ _
   | exact ih6 _ _ _ _
   | exact ih7 _ _ _ _
   | exact LeO.none _
   | refine LeO.ite ?_ ?_
   | refine LeO.bind ?_ (fun _ => ?_)
theorem ecdysisref15_Small.mono : ∀ a0 a1 k, LeO (ecdysisref15_Small.f k a0 a1) (ecdysisref15_Small.f (k + 1) a0 a1) := by
 intro a0 a1 k
 obtain ⟨ih0, ih1, ih2, ih3, ih4, ih5, ih6, ih7⟩ := ecdysisref15_Small.mono_l k
 unfold ecdysisref15_Small.f
 repeat' first
   | (with_reducible exact ih0 _ _ _)
   | (with_reducible exact ih1 _ _ _)
   | (with_reducible exact ih2 _ _ _)
   | (with_reducible exact ih3 _ _ _ _)
   | (with_reducible exact ih4 _ _ _)
   | (with_reducible exact ih5 _ _ _ _)
   | (with_reducible exact ih6 _ _ _ _)
   | (with_reducible exact ih7 _ _ _ _)
   | (with_reducible exact LeO.refl _)
   | (with_reducible exact LeO.none _)
   | (with_reducible refine LeO.ite ?_ ?_)
   | (with_reducible refine LeO.bind ?_ (fun _ => ?_))
   | exact ih0 _ _ _
   | exact ih1 _ _ _
   | exact ih2 _ _ _
   | exact ih3 _ _ _ _
   | exact ih4 _ _ _
   | exact ih5 _ _ _ _
   | exact ih6 _ _ _ _
   | exact ih7 _ _ _ _
   | exact LeO.none _
   | refine LeO.ite ?_ ?_
   | refine LeO.bind ?_ (fun _ => ?_)
set_option maxHeartbeats 8000000 in
set_option maxRecDepth 100000 in
theorem ecdysisref15_Small.calls (k : Nat) (A0_0 : Option Addr) (c0_0 : Nat) (l0_0 : List (S48)) (A0_1 : Option Addr) (c0_1 : Nat) (l0_1 : List (S38)) (r : Bool) (w : World) (hr0_0 : Kd.C k48 w A0_0 l0_0.length l0_0) (hc0_0 : l0_0.length ≤ c0_0) (hr0_1 : Kd.C k38 w A0_1 l0_1.length l0_1) (hc0_1 : l0_1.length ≤ c0_1) (h : ecdysisref15_Small.f k l0_0 l0_1 = some r) :
  Calls Try.prog 11 #[.agg #[.slice A0_0 l0_0.length c0_0, .slice A0_1 l0_1.length c0_1]] w fun e w' => e = .returned (.bool r) ∧ Below w.heap.size w w' := by
 have hu30 := Try.underlying30
 have hu40 := Try.underlying40
 have HR0_0 := Aside0.mk hr0_0
 have HC0_0 := Aside0.mk hc0_0
 clear hr0_0 hc0_0
 have HR0_1 := Aside0.mk hr0_1
 have HC0_1 := Aside0.mk hc0_1
 clear hr0_1 hc0_1
 have HB := Aside0.mk (Below.refl w.heap.size w)
 have H : (ecdysisref15_Small.l0 k (wrap64 ((l0_0.length : Int) + (l0_1.length : Int))) 0 l0_0 l0_1) = some r := h
 clear h
 have HC2 := Aside0.mk H
 clear H
 go_enter Try.func11, Try.ntmps11
 go_upto_block 0 with (first | ((with_reducible refine gate_dst (N := 1) rfl ?_); (try (refine gate_guard (by rfl) ?_; dsimp only)); refine box_event ?hg (N := 1) ?hd (cs := #[.slice A0_0 l0_0.length c0_0, .slice A0_1 l0_1.length c0_1]) (t := 30) ?hr ?_; (case hd => rfl); (case hg => rfl); (case hr => first | (go_simp; done) | (go_simp; rfl)); intro gb146 hg w3 hbox hb; have n0_ := Aside0.mk (below_step (by repeat (first | (with_reducible first | exact HB.out | apply below_alloc | apply pw_below_drewN | apply below_drew1) | exact HB.out)) hb); have n1_ := Aside0.mk (hbox); have n2_ := Aside0.mk ((by rw [hg]; exact (below_size (by repeat (first | (with_reducible first | exact HB.out | apply below_alloc | apply pw_below_drewN | apply below_drew1) | exact HB.out))) : w.heap.size ≤ gb146)); have n3_ := Aside0.mk ((by rw [hg]; exact (below_size (by repeat (first | (with_reducible first | exact HB.out | apply below_alloc | apply pw_below_drewN | apply below_drew1) | exact HB.out))) : w.heap.size ≤ gb146)); clear HB; have HB := n0_; have BK146 := n1_; have GW146 := n2_; have GE146 := n3_; clear n0_ n1_ n2_ n3_; clear hb hbox hg; have hcz4_0 : w3.cell? ⟨gb146, 0, none⟩ = some (.slice A0_0 l0_0.length c0_0) := (blk_cell BK146.out 0).trans rfl; have hcz4_1 : w3.cell? ⟨gb146, 1, none⟩ = some (.slice A0_1 l0_1.length c0_1) := (blk_cell BK146.out 1).trans rfl; have hfz4_0 := blk_frozen BK146.out 0; have hfz4_1 := blk_frozen BK146.out 1))
 repeat (go_quiet (first | ((with_reducible refine gate_dst (N := 1) rfl ?_); (try (refine gate_guard (by rfl) ?_; dsimp only)); refine box_event ?hg (N := 1) ?hd (cs := #[.slice A0_0 l0_0.length c0_0, .slice A0_1 l0_1.length c0_1]) (t := 30) ?hr ?_; (case hd => rfl); (case hg => rfl); (case hr => first | (go_simp; done) | (go_simp; rfl)); intro gb146 hg w3 hbox hb; have n0_ := Aside0.mk (below_step (by repeat (first | (with_reducible first | exact HB.out | apply below_alloc | apply pw_below_drewN | apply below_drew1) | exact HB.out)) hb); have n1_ := Aside0.mk (hbox); have n2_ := Aside0.mk ((by rw [hg]; exact (below_size (by repeat (first | (with_reducible first | exact HB.out | apply below_alloc | apply pw_below_drewN | apply below_drew1) | exact HB.out))) : w.heap.size ≤ gb146)); have n3_ := Aside0.mk ((by rw [hg]; exact (below_size (by repeat (first | (with_reducible first | exact HB.out | apply below_alloc | apply pw_below_drewN | apply below_drew1) | exact HB.out))) : w.heap.size ≤ gb146)); clear HB; have HB := n0_; have BK146 := n1_; have GW146 := n2_; have GE146 := n3_; clear n0_ n1_ n2_ n3_; clear hb hbox hg; have hcz4_0 : w3.cell? ⟨gb146, 0, none⟩ = some (.slice A0_0 l0_0.length c0_0) := (blk_cell BK146.out 0).trans rfl; have hcz4_1 : w3.cell? ⟨gb146, 1, none⟩ = some (.slice A0_1 l0_1.length c0_1) := (blk_cell BK146.out 1).trans rfl; have hfz4_0 := blk_frozen BK146.out 0; have hfz4_1 := blk_frozen BK146.out 1)); go_upto_block 0 with (first | ((with_reducible refine gate_dst (N := 1) rfl ?_); (try (refine gate_guard (by rfl) ?_; dsimp only)); refine box_event ?hg (N := 1) ?hd (cs := #[.slice A0_0 l0_0.length c0_0, .slice A0_1 l0_1.length c0_1]) (t := 30) ?hr ?_; (case hd => rfl); (case hg => rfl); (case hr => first | (go_simp; done) | (go_simp; rfl)); intro gb146 hg w3 hbox hb; have n0_ := Aside0.mk (below_step (by repeat (first | (with_reducible first | exact HB.out | apply below_alloc | apply pw_below_drewN | apply below_drew1) | exact HB.out)) hb); have n1_ := Aside0.mk (hbox); have n2_ := Aside0.mk ((by rw [hg]; exact (below_size (by repeat (first | (with_reducible first | exact HB.out | apply below_alloc | apply pw_below_drewN | apply below_drew1) | exact HB.out))) : w.heap.size ≤ gb146)); have n3_ := Aside0.mk ((by rw [hg]; exact (below_size (by repeat (first | (with_reducible first | exact HB.out | apply below_alloc | apply pw_below_drewN | apply below_drew1) | exact HB.out))) : w.heap.size ≤ gb146)); clear HB; have HB := n0_; have BK146 := n1_; have GW146 := n2_; have GE146 := n3_; clear n0_ n1_ n2_ n3_; clear hb hbox hg; have hcz4_0 : w3.cell? ⟨gb146, 0, none⟩ = some (.slice A0_0 l0_0.length c0_0) := (blk_cell BK146.out 0).trans rfl; have hcz4_1 : w3.cell? ⟨gb146, 1, none⟩ = some (.slice A0_1 l0_1.length c0_1) := (blk_cell BK146.out 1).trans rfl; have hfz4_0 := blk_frozen BK146.out 0; have hfz4_1 := blk_frozen BK146.out 1)))
 (try simp only [Act.put, List.setIfInBounds_toArray, List.set_cons_zero, List.set_cons_succ])
 go_cut [3] (fun v3 wc => ∃ (kq : Nat) (x3_1 : Int), v3 = .int .i64 x3_1 ∧ Aside0 (ecdysisref15_Small.j1 kq x3_1 l0_0 l0_1 = some r) ∧ Aside0 (kq ≤ k) ∧ Aside0 (wc.heap[gb146]? = some (.cells #[(.slice A0_0 l0_0.length c0_0), (.slice A0_1 l0_1.length c0_1)] 30 (0, 0))) ∧ Aside0 (Below w.heap.size w wc))
 case first =>
  have H := HC2.out
  clear HC2
  have H' := Aside0.mk H
  clear H
  go_wp2
  repeat (go_quiet (fail); try go_wp2)
  go_loopg [3, 4] k (fun kq v3 v4 w' => ∃ (x3_1 : Int) (x4_1 : Int), v3 = .int .i64 x3_1 ∧ v4 = .int .i64 x4_1 ∧ Aside0 (ecdysisref15_Small.l0 kq x3_1 x4_1 l0_0 l0_1 = some r) ∧ Aside0 (kq ≤ k) ∧ Aside0 (w'.heap[gb146]? = some (.cells #[(.slice A0_0 l0_0.length c0_0), (.slice A0_1 l0_1.length c0_1)] 30 (0, 0))) ∧ Aside0 (Below w.heap.size w w'))
  case atStart => exact ⟨(wrap64 ((l0_0.length : Int) + (l0_1.length : Int))), (0), (by first | rfl | (simp; done) | (simp [*]; done)), (by first | rfl | (simp; done) | (simp [*]; done)), H', ⟨Nat.le_refl _⟩, ⟨by (with_reducible repeat (first | refine blk_drewN ?_ _ | refine blk_drew ?_ | refine blk_alloc ?_ _)); exact BK146.out⟩, ⟨by repeat (first | (with_reducible first | exact HB.out | apply below_alloc | apply pw_below_drewN | apply below_drew1 | refine below_set ?_ GE146.out) | exact HB.out)⟩⟩
  case round =>
   clear H'
   try clear c1
   try clear p2
   try clear hcz4_0
   try clear hcz4_1
   try clear hfz4_0
   try clear hfz4_1
   obtain ⟨x3_1, x4_1, rfl, rfl, HA, HK1, BK146, HB⟩ := hrel
   cases gk with
   | zero => exact absurd HA.out (by simp [ecdysisref15_Small.l0])
   | succ k1 =>
    have H := HA.out
    clear HA
    simp only [ecdysisref15_Small.l0] at H
    by_cases c5 : x4_1 < (l0_0.length : Int)
    ·rw [if_pos c5] at H
     have c5b0 : decide (x4_1 < (l0_0.length : Int)) = true := decide_eq_true c5
     clear c5
     (first | rw [c5b0] | (simp only [i64_w, i32_w]; rw [c5b0]) | skip)
     by_cases c6 : x3_1 < 200
     ·rw [if_pos c6] at H
      have c6b0 : decide (x3_1 < 200) = true := decide_eq_true c6
      clear c6
      by_cases c7 : 0 ≤ x4_1
      ·rw [if_pos c7] at H
       have c7b0 : decide (0 ≤ x4_1) = true := decide_eq_true c7
       clear c7
       have H' := Aside0.mk H
       clear H
       have hcz8_0 : wr.cell? ⟨gb146, 0, none⟩ = some (.slice A0_0 l0_0.length c0_0) := (blk_cell BK146.out 0).trans rfl
       have hcz8_1 : wr.cell? ⟨gb146, 1, none⟩ = some (.slice A0_1 l0_1.length c0_1) := (blk_cell BK146.out 1).trans rfl
       have hfz8_0 := blk_frozen BK146.out 0
       have hfz8_1 := blk_frozen BK146.out 1
       have p147 : 0 ≤ (x4_1 : Int) := of_decide_eq_true (by first | (with_reducible assumption) | assumption)
       have q147 : x4_1 < (l0_0.length : Int) := of_decide_eq_true (by first | (with_reducible assumption) | assumption)
       obtain ⟨ad147, A147_1, c147_1, e147, hx147_0, hx147_1, hl147_1, hi147_1⟩ := at_T48 HR0_0.out x4_1 p147 q147
       cases e147
       replace hx147_0 := (HB.out.cell (World.block_lt_of_cell? w _ hx147_0)).trans hx147_0
       replace hx147_1 := (HB.out.cell (World.block_lt_of_cell? w _ hx147_1)).trans hx147_1
       have HR147_1 := Aside0.mk hi147_1
       have HC147_1 := Aside0.mk hl147_1
       clear hi147_1 hl147_1
       replace p147 := eq_true p147
       replace q147 := eq_true q147
       have p148 : 0 ≤ (x4_1 : Int) := of_decide_eq_true (by first | (with_reducible assumption) | assumption)
       have q148 : x4_1 < (l0_0.length : Int) := of_decide_eq_true (by first | (with_reducible assumption) | assumption)
       obtain ⟨ad148, A148_1, c148_1, e148, hx148_0, hx148_1, hl148_1, hi148_1⟩ := at_T48 HR0_0.out x4_1 p148 q148
       obtain rfl : ad147 = ad148 := (by injection e148)
       replace hx148_0 := (HB.out.cell (World.block_lt_of_cell? w _ hx148_0)).trans hx148_0
       replace hx148_1 := (HB.out.cell (World.block_lt_of_cell? w _ hx148_1)).trans hx148_1
       have HR148_1 := Aside0.mk hi148_1
       have HC148_1 := Aside0.mk hl148_1
       clear hi148_1 hl148_1
       replace p148 := eq_true p148
       replace q148 := eq_true q148
       have ea_ := Option.some.inj (hx147_1.symm.trans hx148_1)
       injection ea_ with ea_ en_ ec_
       subst ea_
       subst ec_
       clear en_
       go_wp2
       repeat (go_quiet (fail); try go_wp2)
       go_roundg k1
       case measure => have := HK1.out; omega
       case rel => exact ⟨(wrap64 ((wrap64 (x3_1 + (((rd_T48 l0_0 x4_1).f1).length : Int))) + (wrap64 ((((rd_T48 l0_0 x4_1).f0).size : Int) / 10)))), (wrap64 (x4_1 + 1)), (by first | rfl | (simp; done) | (simp [*]; done)), (by first | rfl | (simp; done) | (simp [*]; done)), H', ⟨by have := HK1.out; omega⟩, ⟨by (with_reducible repeat (first | refine blk_drewN ?_ _ | refine blk_drew ?_ | refine blk_alloc ?_ _)); exact BK146.out⟩, ⟨by repeat (first | (with_reducible first | exact HB.out | apply below_alloc | apply pw_below_drewN | apply below_drew1 | refine below_set ?_ GE146.out) | exact HB.out)⟩⟩
      ·rw [if_neg c7] at H
       exact absurd H (by simp)
     ·rw [if_neg c6] at H
      have c6b0 : decide (x3_1 < 200) = false := decide_eq_false c6
      clear c6
      have H' := Aside0.mk H
      clear H
      have hcz9_0 : wr.cell? ⟨gb146, 0, none⟩ = some (.slice A0_0 l0_0.length c0_0) := (blk_cell BK146.out 0).trans rfl
      have hcz9_1 : wr.cell? ⟨gb146, 1, none⟩ = some (.slice A0_1 l0_1.length c0_1) := (blk_cell BK146.out 1).trans rfl
      have hfz9_0 := blk_frozen BK146.out 0
      have hfz9_1 := blk_frozen BK146.out 1
      go_wp2
      repeat (go_quiet (fail); try go_wp2)
      go_meet
      case rel => exact ⟨_, (x3_1), (by first | rfl | (simp; done) | (simp [*]; done)), H', ⟨by have := HK1.out; first | omega | exact Nat.le_refl _⟩, ⟨by (with_reducible repeat (first | refine blk_drewN ?_ _ | refine blk_drew ?_ | refine blk_alloc ?_ _)); exact BK146.out⟩, ⟨by repeat (first | (with_reducible first | exact HB.out | apply below_alloc | apply pw_below_drewN | apply below_drew1 | refine below_set ?_ GE146.out) | exact HB.out)⟩⟩
    ·rw [if_neg c5] at H
     have c5b0 : decide (x4_1 < (l0_0.length : Int)) = false := decide_eq_false c5
     clear c5
     (first | rw [c5b0] | (simp only [i64_w, i32_w]; rw [c5b0]) | skip)
     have H' := Aside0.mk H
     clear H
     have hcz10_0 : wr.cell? ⟨gb146, 0, none⟩ = some (.slice A0_0 l0_0.length c0_0) := (blk_cell BK146.out 0).trans rfl
     have hcz10_1 : wr.cell? ⟨gb146, 1, none⟩ = some (.slice A0_1 l0_1.length c0_1) := (blk_cell BK146.out 1).trans rfl
     have hfz10_0 := blk_frozen BK146.out 0
     have hfz10_1 := blk_frozen BK146.out 1
     go_wp2
     repeat (go_quiet (fail); try go_wp2)
     go_meet
     case rel => exact ⟨_, (x3_1), (by first | rfl | (simp; done) | (simp [*]; done)), H', ⟨by have := HK1.out; first | omega | exact Nat.le_refl _⟩, ⟨by (with_reducible repeat (first | refine blk_drewN ?_ _ | refine blk_drew ?_ | refine blk_alloc ?_ _)); exact BK146.out⟩, ⟨by repeat (first | (with_reducible first | exact HB.out | apply below_alloc | apply pw_below_drewN | apply below_drew1 | refine below_set ?_ GE146.out) | exact HB.out)⟩⟩
 case rest =>
  clear HC2
  try clear c1
  try clear p1
  try clear q1
  try clear hx1
  try clear p2
  try clear c5
  try clear c5b0
  try clear c6
  try clear c6b0
  try clear p6
  try clear c7
  try clear c7b0
  try clear hcz10_0
  try clear hcz10_1
  try clear hcz4_0
  try clear hcz4_1
  try clear hcz8_0
  try clear hcz8_1
  try clear hcz9_0
  try clear hcz9_1
  try clear hfz10_0
  try clear hfz10_1
  try clear hfz4_0
  try clear hfz4_1
  try clear hfz8_0
  try clear hfz8_1
  try clear hfz9_0
  try clear hfz9_1
  try clear hx147_0
  try clear hx147_1
  try clear hx148_0
  try clear hx148_1
  try clear p147
  try clear p148
  try clear p2
  try clear q147
  try clear q148
  obtain ⟨kq, x3_1, rfl, HA, HJ1, BK146, HB⟩ := hcut
  cases kq with
  | zero => exact absurd HA.out (by simp [ecdysisref15_Small.j1])
  | succ kj1 =>
   have H := HA.out
   clear HA
   simp only [ecdysisref15_Small.j1] at H
   have HC11 := Aside0.mk H
   clear H
   go_upto_block 2 with (fail)
   repeat (go_quiet (fail); go_upto_block 2 with (fail))
   go_cut [3] (fun v3 wc => ∃ (kq : Nat) (x3_10 : Int), v3 = .int .i64 x3_10 ∧ Aside0 (ecdysisref15_Small.j3 kq x3_10 l0_0 l0_1 = some r) ∧ Aside0 (kq ≤ kj1) ∧ Aside0 (wc.heap[gb146]? = some (.cells #[(.slice A0_0 l0_0.length c0_0), (.slice A0_1 l0_1.length c0_1)] 30 (0, 0))) ∧ Aside0 (Below w.heap.size w wc))
   case first =>
    have H := HC11.out
    clear HC11
    have H' := Aside0.mk H
    clear H
    go_wp2
    repeat (go_quiet (fail); try go_wp2)
    go_loopg [3, 5] kj1 (fun kq v3 v5 w' => ∃ (x3_2 : Int) (x5_2 : Int), v3 = .int .i64 x3_2 ∧ v5 = .int .i64 x5_2 ∧ Aside0 (ecdysisref15_Small.l1 kq x3_2 x5_2 l0_0 l0_1 = some r) ∧ Aside0 (kq ≤ kj1) ∧ Aside0 (w'.heap[gb146]? = some (.cells #[(.slice A0_0 l0_0.length c0_0), (.slice A0_1 l0_1.length c0_1)] 30 (0, 0))) ∧ Aside0 (Below w.heap.size w w'))
    case atStart => exact ⟨(x3_1), (0), (by first | rfl | (simp; done) | (simp [*]; done)), (by first | rfl | (simp; done) | (simp [*]; done)), H', ⟨Nat.le_refl _⟩, ⟨by (with_reducible repeat (first | refine blk_drewN ?_ _ | refine blk_drew ?_ | refine blk_alloc ?_ _)); exact BK146.out⟩, ⟨by repeat (first | (with_reducible first | exact HB.out | apply below_alloc | apply pw_below_drewN | apply below_drew1 | refine below_set ?_ GE146.out) | exact HB.out)⟩⟩
    case round =>
     clear H'
     try clear c1
     try clear p1
     try clear q1
     try clear hx1
     try clear p2
     try clear c5
     try clear c5b0
     try clear c6
     try clear c6b0
     try clear p6
     try clear c7
     try clear c7b0
     try clear c11
     try clear hcz10_0
     try clear hcz10_1
     try clear hcz4_0
     try clear hcz4_1
     try clear hcz8_0
     try clear hcz8_1
     try clear hcz9_0
     try clear hcz9_1
     try clear hfz10_0
     try clear hfz10_1
     try clear hfz4_0
     try clear hfz4_1
     try clear hfz8_0
     try clear hfz8_1
     try clear hfz9_0
     try clear hfz9_1
     try clear hx147_0
     try clear hx147_1
     try clear hx148_0
     try clear hx148_1
     try clear p1
     try clear p147
     try clear p148
     try clear p2
     try clear p6
     try clear q1
     try clear q147
     try clear q148
     obtain ⟨x3_2, x5_2, rfl, rfl, HA, HK2, BK146, HB⟩ := hrel
     cases gk with
     | zero => exact absurd HA.out (by simp [ecdysisref15_Small.l1])
     | succ k2 =>
      have H := HA.out
      clear HA
      simp only [ecdysisref15_Small.l1] at H
      by_cases c12 : x5_2 < (l0_1.length : Int)
      ·rw [if_pos c12] at H
       have c12b0 : decide (x5_2 < (l0_1.length : Int)) = true := decide_eq_true c12
       clear c12
       (first | rw [c12b0] | (simp only [i64_w, i32_w]; rw [c12b0]) | skip)
       by_cases c13 : x3_2 < 200
       ·rw [if_pos c13] at H
        have c13b0 : decide (x3_2 < 200) = true := decide_eq_true c13
        clear c13
        by_cases c14 : 0 ≤ x5_2
        ·rw [if_pos c14] at H
         have c14b0 : decide (0 ≤ x5_2) = true := decide_eq_true c14
         clear c14
         have H' := Aside0.mk H
         clear H
         have hcz15_0 : wr.cell? ⟨gb146, 0, none⟩ = some (.slice A0_0 l0_0.length c0_0) := (blk_cell BK146.out 0).trans rfl
         have hcz15_1 : wr.cell? ⟨gb146, 1, none⟩ = some (.slice A0_1 l0_1.length c0_1) := (blk_cell BK146.out 1).trans rfl
         have hfz15_0 := blk_frozen BK146.out 0
         have hfz15_1 := blk_frozen BK146.out 1
         have p149 : 0 ≤ (x5_2 : Int) := of_decide_eq_true (by first | (with_reducible assumption) | assumption)
         have q149 : x5_2 < (l0_1.length : Int) := of_decide_eq_true (by first | (with_reducible assumption) | assumption)
         obtain ⟨ad149, A149_1, c149_1, A149_2, c149_2, e149, hx149_0, hx149_1, hx149_2, hl149_1, hi149_1, hl149_2, hi149_2⟩ := at_T38 HR0_1.out x5_2 p149 q149
         cases e149
         replace hx149_0 := (HB.out.cell (World.block_lt_of_cell? w _ hx149_0)).trans hx149_0
         replace hx149_1 := (HB.out.cell (World.block_lt_of_cell? w _ hx149_1)).trans hx149_1
         replace hx149_2 := (HB.out.cell (World.block_lt_of_cell? w _ hx149_2)).trans hx149_2
         have HR149_1 := Aside0.mk hi149_1
         have HC149_1 := Aside0.mk hl149_1
         clear hi149_1 hl149_1
         have HR149_2 := Aside0.mk hi149_2
         have HC149_2 := Aside0.mk hl149_2
         clear hi149_2 hl149_2
         replace p149 := eq_true p149
         replace q149 := eq_true q149
         have p150 : 0 ≤ (x5_2 : Int) := of_decide_eq_true (by first | (with_reducible assumption) | assumption)
         have q150 : x5_2 < (l0_1.length : Int) := of_decide_eq_true (by first | (with_reducible assumption) | assumption)
         obtain ⟨ad150, A150_1, c150_1, A150_2, c150_2, e150, hx150_0, hx150_1, hx150_2, hl150_1, hi150_1, hl150_2, hi150_2⟩ := at_T38 HR0_1.out x5_2 p150 q150
         obtain rfl : ad149 = ad150 := (by injection e150)
         replace hx150_0 := (HB.out.cell (World.block_lt_of_cell? w _ hx150_0)).trans hx150_0
         replace hx150_1 := (HB.out.cell (World.block_lt_of_cell? w _ hx150_1)).trans hx150_1
         replace hx150_2 := (HB.out.cell (World.block_lt_of_cell? w _ hx150_2)).trans hx150_2
         have HR150_1 := Aside0.mk hi150_1
         have HC150_1 := Aside0.mk hl150_1
         clear hi150_1 hl150_1
         have HR150_2 := Aside0.mk hi150_2
         have HC150_2 := Aside0.mk hl150_2
         clear hi150_2 hl150_2
         replace p150 := eq_true p150
         replace q150 := eq_true q150
         have ea_ := Option.some.inj (hx149_1.symm.trans hx150_1)
         injection ea_ with ea_ en_ ec_
         subst ea_
         subst ec_
         clear en_
         have ea_ := Option.some.inj (hx149_2.symm.trans hx150_2)
         injection ea_ with ea_ en_ ec_
         subst ea_
         subst ec_
         clear en_
         have p151 : 0 ≤ (x5_2 : Int) := of_decide_eq_true (by first | (with_reducible assumption) | assumption)
         have q151 : x5_2 < (l0_1.length : Int) := of_decide_eq_true (by first | (with_reducible assumption) | assumption)
         obtain ⟨ad151, A151_1, c151_1, A151_2, c151_2, e151, hx151_0, hx151_1, hx151_2, hl151_1, hi151_1, hl151_2, hi151_2⟩ := at_T38 HR0_1.out x5_2 p151 q151
         obtain rfl : ad149 = ad151 := (by injection e151)
         replace hx151_0 := (HB.out.cell (World.block_lt_of_cell? w _ hx151_0)).trans hx151_0
         replace hx151_1 := (HB.out.cell (World.block_lt_of_cell? w _ hx151_1)).trans hx151_1
         replace hx151_2 := (HB.out.cell (World.block_lt_of_cell? w _ hx151_2)).trans hx151_2
         have HR151_1 := Aside0.mk hi151_1
         have HC151_1 := Aside0.mk hl151_1
         clear hi151_1 hl151_1
         have HR151_2 := Aside0.mk hi151_2
         have HC151_2 := Aside0.mk hl151_2
         clear hi151_2 hl151_2
         replace p151 := eq_true p151
         replace q151 := eq_true q151
         have ea_ := Option.some.inj (hx149_1.symm.trans hx151_1)
         injection ea_ with ea_ en_ ec_
         subst ea_
         subst ec_
         clear en_
         have ea_ := Option.some.inj (hx149_2.symm.trans hx151_2)
         injection ea_ with ea_ en_ ec_
         subst ea_
         subst ec_
         clear en_
         go_wp2
         repeat (go_quiet (fail); try go_wp2)
         go_roundg k2
         case measure => have := HJ1.out; have := HK2.out; omega
         case rel => exact ⟨(wrap64 ((wrap64 ((wrap64 (x3_2 + (((rd_T38 l0_1 x5_2).f1).length : Int))) + (((rd_T38 l0_1 x5_2).f2).length : Int))) + (wrap64 ((((rd_T38 l0_1 x5_2).f0).size : Int) / 10)))), (wrap64 (x5_2 + 1)), (by first | rfl | (simp; done) | (simp [*]; done)), (by first | rfl | (simp; done) | (simp [*]; done)), H', ⟨by have := HJ1.out; have := HK2.out; omega⟩, ⟨by (with_reducible repeat (first | refine blk_drewN ?_ _ | refine blk_drew ?_ | refine blk_alloc ?_ _)); exact BK146.out⟩, ⟨by repeat (first | (with_reducible first | exact HB.out | apply below_alloc | apply pw_below_drewN | apply below_drew1 | refine below_set ?_ GE146.out) | exact HB.out)⟩⟩
        ·rw [if_neg c14] at H
         exact absurd H (by simp)
       ·rw [if_neg c13] at H
        have c13b0 : decide (x3_2 < 200) = false := decide_eq_false c13
        clear c13
        have H' := Aside0.mk H
        clear H
        have hcz16_0 : wr.cell? ⟨gb146, 0, none⟩ = some (.slice A0_0 l0_0.length c0_0) := (blk_cell BK146.out 0).trans rfl
        have hcz16_1 : wr.cell? ⟨gb146, 1, none⟩ = some (.slice A0_1 l0_1.length c0_1) := (blk_cell BK146.out 1).trans rfl
        have hfz16_0 := blk_frozen BK146.out 0
        have hfz16_1 := blk_frozen BK146.out 1
        go_wp2
        repeat (go_quiet (fail); try go_wp2)
        go_meet
        case rel => exact ⟨_, (x3_2), (by first | rfl | (simp; done) | (simp [*]; done)), H', ⟨by have := HJ1.out; have := HK2.out; first | omega | exact Nat.le_refl _⟩, ⟨by (with_reducible repeat (first | refine blk_drewN ?_ _ | refine blk_drew ?_ | refine blk_alloc ?_ _)); exact BK146.out⟩, ⟨by repeat (first | (with_reducible first | exact HB.out | apply below_alloc | apply pw_below_drewN | apply below_drew1 | refine below_set ?_ GE146.out) | exact HB.out)⟩⟩
      ·rw [if_neg c12] at H
       have c12b0 : decide (x5_2 < (l0_1.length : Int)) = false := decide_eq_false c12
       clear c12
       (first | rw [c12b0] | (simp only [i64_w, i32_w]; rw [c12b0]) | skip)
       have H' := Aside0.mk H
       clear H
       have hcz17_0 : wr.cell? ⟨gb146, 0, none⟩ = some (.slice A0_0 l0_0.length c0_0) := (blk_cell BK146.out 0).trans rfl
       have hcz17_1 : wr.cell? ⟨gb146, 1, none⟩ = some (.slice A0_1 l0_1.length c0_1) := (blk_cell BK146.out 1).trans rfl
       have hfz17_0 := blk_frozen BK146.out 0
       have hfz17_1 := blk_frozen BK146.out 1
       go_wp2
       repeat (go_quiet (fail); try go_wp2)
       go_meet
       case rel => exact ⟨_, (x3_2), (by first | rfl | (simp; done) | (simp [*]; done)), H', ⟨by have := HJ1.out; have := HK2.out; first | omega | exact Nat.le_refl _⟩, ⟨by (with_reducible repeat (first | refine blk_drewN ?_ _ | refine blk_drew ?_ | refine blk_alloc ?_ _)); exact BK146.out⟩, ⟨by repeat (first | (with_reducible first | exact HB.out | apply below_alloc | apply pw_below_drewN | apply below_drew1 | refine below_set ?_ GE146.out) | exact HB.out)⟩⟩
   case rest =>
    clear HC11
    try clear c1
    try clear p1
    try clear q1
    try clear hx1
    try clear p2
    try clear c5
    try clear c5b0
    try clear c6
    try clear c6b0
    try clear p6
    try clear c7
    try clear c7b0
    try clear c11
    try clear c12
    try clear c12b0
    try clear c13
    try clear c13b0
    try clear c14
    try clear c14b0
    try clear p14
    try clear q14
    try clear hx14
    try clear c15
    try clear p15
    try clear q15
    try clear hx15
    try clear hcz10_0
    try clear hcz10_1
    try clear hcz15_0
    try clear hcz15_1
    try clear hcz16_0
    try clear hcz16_1
    try clear hcz17_0
    try clear hcz17_1
    try clear hcz4_0
    try clear hcz4_1
    try clear hcz8_0
    try clear hcz8_1
    try clear hcz9_0
    try clear hcz9_1
    try clear hfz10_0
    try clear hfz10_1
    try clear hfz15_0
    try clear hfz15_1
    try clear hfz16_0
    try clear hfz16_1
    try clear hfz17_0
    try clear hfz17_1
    try clear hfz4_0
    try clear hfz4_1
    try clear hfz8_0
    try clear hfz8_1
    try clear hfz9_0
    try clear hfz9_1
    try clear hx147_0
    try clear hx147_1
    try clear hx148_0
    try clear hx148_1
    try clear hx149_0
    try clear hx149_1
    try clear hx149_2
    try clear hx150_0
    try clear hx150_1
    try clear hx150_2
    try clear hx151_0
    try clear hx151_1
    try clear hx151_2
    try clear p1
    try clear p147
    try clear p148
    try clear p149
    try clear p150
    try clear p151
    try clear p2
    try clear p6
    try clear q1
    try clear q147
    try clear q148
    try clear q149
    try clear q150
    try clear q151
    obtain ⟨kq, x3_10, rfl, HA, HJ10, BK146, HB⟩ := hcut
    cases kq with
    | zero => exact absurd HA.out (by simp [ecdysisref15_Small.j3])
    | succ kj10 =>
     have H := HA.out
     clear HA
     simp only [ecdysisref15_Small.j3] at H
     by_cases c18 : x3_10 ≥ 200
     ·rw [if_pos c18] at H
      have c18b0 : decide (200 ≤ x3_10) = true := decide_eq_true c18
      clear c18
      obtain rfl := Option.some.inj H
      go_wp2
      repeat (go_quiet (fail); try go_wp2)
      go_ret
      exact ⟨by first | rfl | (simp [errW_none, errW_some] <;> rfl) | (simp [*, errW_none, errW_some] <;> rfl), by repeat (first | (with_reducible first | exact HB.out | apply below_alloc | apply pw_below_drewN | apply below_drew1 | refine below_set ?_ GE146.out) | exact HB.out)⟩
     ·rw [if_neg c18] at H
      have c18b0 : decide (200 ≤ x3_10) = false := decide_eq_false c18
      clear c18
      have H' := Aside0.mk H
      clear H
      go_wp2
      repeat (go_quiet (fail); try go_wp2)
      go_loopg [6] kj10 (fun kq v6 w' => ∃ (x6_3 : Int), v6 = .int .i64 x6_3 ∧ Aside0 (ecdysisref15_Small.l2 kq x6_3 l0_0 l0_1 = some r) ∧ Aside0 (kq ≤ kj10) ∧ Aside0 (w'.heap[gb146]? = some (.cells #[(.slice A0_0 l0_0.length c0_0), (.slice A0_1 l0_1.length c0_1)] 30 (0, 0))) ∧ Aside0 (Below w.heap.size w w'))
      case atStart => exact ⟨(0), (by first | rfl | (simp; done) | (simp [*]; done)), H', ⟨Nat.le_refl _⟩, ⟨by (with_reducible repeat (first | refine blk_drewN ?_ _ | refine blk_drew ?_ | refine blk_alloc ?_ _)); exact BK146.out⟩, ⟨by repeat (first | (with_reducible first | exact HB.out | apply below_alloc | apply pw_below_drewN | apply below_drew1 | refine below_set ?_ GE146.out) | exact HB.out)⟩⟩
      case round =>
       clear H'
       try clear c1
       try clear p1
       try clear q1
       try clear hx1
       try clear p2
       try clear c5
       try clear c5b0
       try clear c6
       try clear c6b0
       try clear p6
       try clear c7
       try clear c7b0
       try clear c11
       try clear c12
       try clear c12b0
       try clear c13
       try clear c13b0
       try clear c14
       try clear c14b0
       try clear p14
       try clear q14
       try clear hx14
       try clear c15
       try clear p15
       try clear q15
       try clear hx15
       try clear c18
       try clear c18b0
       try clear hcz10_0
       try clear hcz10_1
       try clear hcz15_0
       try clear hcz15_1
       try clear hcz16_0
       try clear hcz16_1
       try clear hcz17_0
       try clear hcz17_1
       try clear hcz4_0
       try clear hcz4_1
       try clear hcz8_0
       try clear hcz8_1
       try clear hcz9_0
       try clear hcz9_1
       try clear hfz10_0
       try clear hfz10_1
       try clear hfz15_0
       try clear hfz15_1
       try clear hfz16_0
       try clear hfz16_1
       try clear hfz17_0
       try clear hfz17_1
       try clear hfz4_0
       try clear hfz4_1
       try clear hfz8_0
       try clear hfz8_1
       try clear hfz9_0
       try clear hfz9_1
       try clear hx147_0
       try clear hx147_1
       try clear hx148_0
       try clear hx148_1
       try clear hx149_0
       try clear hx149_1
       try clear hx149_2
       try clear hx150_0
       try clear hx150_1
       try clear hx150_2
       try clear hx151_0
       try clear hx151_1
       try clear hx151_2
       try clear p1
       try clear p14
       try clear p147
       try clear p148
       try clear p149
       try clear p15
       try clear p150
       try clear p151
       try clear p2
       try clear p6
       try clear q1
       try clear q14
       try clear q147
       try clear q148
       try clear q149
       try clear q15
       try clear q150
       try clear q151
       obtain ⟨x6_3, rfl, HA, HK3, BK146, HB⟩ := hrel
       cases gk with
       | zero => exact absurd HA.out (by simp [ecdysisref15_Small.l2])
       | succ k3 =>
        have H := HA.out
        clear HA
        simp only [ecdysisref15_Small.l2] at H
        by_cases c19 : x6_3 < (l0_0.length : Int)
        ·rw [if_pos c19] at H
         have c19b0 : decide (x6_3 < (l0_0.length : Int)) = true := decide_eq_true c19
         clear c19
         have H' := Aside0.mk H
         clear H
         have hcz20_0 : wr.cell? ⟨gb146, 0, none⟩ = some (.slice A0_0 l0_0.length c0_0) := (blk_cell BK146.out 0).trans rfl
         have hcz20_1 : wr.cell? ⟨gb146, 1, none⟩ = some (.slice A0_1 l0_1.length c0_1) := (blk_cell BK146.out 1).trans rfl
         have hfz20_0 := blk_frozen BK146.out 0
         have hfz20_1 := blk_frozen BK146.out 1
         go_wp2
         repeat (go_quiet (fail); try go_wp2)
         go_loopg [7] k3 (fun kq v7 w' => ∃ (x7_4 : Int), v7 = .int .i64 x7_4 ∧ Aside0 (ecdysisref15_Small.l3 kq x6_3 x7_4 l0_0 l0_1 = some r) ∧ Aside0 (kq ≤ k3) ∧ Aside0 (w'.heap[gb146]? = some (.cells #[(.slice A0_0 l0_0.length c0_0), (.slice A0_1 l0_1.length c0_1)] 30 (0, 0))) ∧ Aside0 (Below w.heap.size w w'))
         case atStart => exact ⟨(0), (by first | rfl | (simp; done) | (simp [*]; done)), H', ⟨Nat.le_refl _⟩, ⟨by (with_reducible repeat (first | refine blk_drewN ?_ _ | refine blk_drew ?_ | refine blk_alloc ?_ _)); exact BK146.out⟩, ⟨by repeat (first | (with_reducible first | exact HB.out | apply below_alloc | apply pw_below_drewN | apply below_drew1 | refine below_set ?_ GE146.out) | exact HB.out)⟩⟩
         case round =>
          clear H'
          try clear c1
          try clear p1
          try clear q1
          try clear hx1
          try clear p2
          try clear c5
          try clear c5b0
          try clear c6
          try clear c6b0
          try clear p6
          try clear c7
          try clear c7b0
          try clear c11
          try clear c12
          try clear c12b0
          try clear c13
          try clear c13b0
          try clear c14
          try clear c14b0
          try clear p14
          try clear q14
          try clear hx14
          try clear c15
          try clear p15
          try clear q15
          try clear hx15
          try clear c18
          try clear c18b0
          try clear c19
          try clear c19b0
          try clear hcz10_0
          try clear hcz10_1
          try clear hcz15_0
          try clear hcz15_1
          try clear hcz16_0
          try clear hcz16_1
          try clear hcz17_0
          try clear hcz17_1
          try clear hcz20_0
          try clear hcz20_1
          try clear hcz4_0
          try clear hcz4_1
          try clear hcz8_0
          try clear hcz8_1
          try clear hcz9_0
          try clear hcz9_1
          try clear hfz10_0
          try clear hfz10_1
          try clear hfz15_0
          try clear hfz15_1
          try clear hfz16_0
          try clear hfz16_1
          try clear hfz17_0
          try clear hfz17_1
          try clear hfz20_0
          try clear hfz20_1
          try clear hfz4_0
          try clear hfz4_1
          try clear hfz8_0
          try clear hfz8_1
          try clear hfz9_0
          try clear hfz9_1
          try clear hx147_0
          try clear hx147_1
          try clear hx148_0
          try clear hx148_1
          try clear hx149_0
          try clear hx149_1
          try clear hx149_2
          try clear hx150_0
          try clear hx150_1
          try clear hx150_2
          try clear hx151_0
          try clear hx151_1
          try clear hx151_2
          try clear p1
          try clear p14
          try clear p147
          try clear p148
          try clear p149
          try clear p15
          try clear p150
          try clear p151
          try clear p2
          try clear p6
          try clear q1
          try clear q14
          try clear q147
          try clear q148
          try clear q149
          try clear q15
          try clear q150
          try clear q151
          obtain ⟨x7_4, rfl, HA, HK4, BK146, HB⟩ := hrel
          cases gk with
          | zero => exact absurd HA.out (by simp [ecdysisref15_Small.l3])
          | succ k4 =>
           have H := HA.out
           clear HA
           simp only [ecdysisref15_Small.l3] at H
           by_cases c21 : 0 ≤ x6_3
           ·rw [if_pos c21] at H
            have c21b0 : decide (0 ≤ x6_3) = true := decide_eq_true c21
            clear c21
            by_cases c22 : x6_3 < (l0_0.length : Int)
            ·rw [if_pos c22] at H
             have c22b0 : decide (x6_3 < (l0_0.length : Int)) = true := decide_eq_true c22
             clear c22
             by_cases c23 : x7_4 < (((rd_T48 l0_0 x6_3).f1).length : Int)
             ·rw [if_pos c23] at H
              have c23b0 : decide (x7_4 < (((rd_T48 l0_0 x6_3).f1).length : Int)) = true := decide_eq_true c23
              clear c23
              by_cases c24 : 0 ≤ x7_4
              ·rw [if_pos c24] at H
               have c24b0 : decide (0 ≤ x7_4) = true := decide_eq_true c24
               clear c24
               by_cases c25 : (((rd_T50 ((rd_T48 l0_0 x6_3).f1) x7_4).f0).size : Int) > 1000
               ·rw [if_pos c25] at H
                have c25b0 : decide (1000 < (((rd_T50 ((rd_T48 l0_0 x6_3).f1) x7_4).f0).size : Int)) = true := decide_eq_true c25
                have c25b1 : decide (1000 < ((rd_T50 ((rd_T48 l0_0 x6_3).f1) x7_4).f0).size) = true := decide_eq_true (by omega)
                clear c25
                obtain rfl := Option.some.inj H
                have hcz26_0 : wr.cell? ⟨gb146, 0, none⟩ = some (.slice A0_0 l0_0.length c0_0) := (blk_cell BK146.out 0).trans rfl
                have hcz26_1 : wr.cell? ⟨gb146, 1, none⟩ = some (.slice A0_1 l0_1.length c0_1) := (blk_cell BK146.out 1).trans rfl
                have hfz26_0 := blk_frozen BK146.out 0
                have hfz26_1 := blk_frozen BK146.out 1
                have p152 : 0 ≤ (x6_3 : Int) := of_decide_eq_true (by first | (with_reducible assumption) | assumption)
                have q152 : x6_3 < (l0_0.length : Int) := of_decide_eq_true (by first | (with_reducible assumption) | assumption)
                obtain ⟨ad152, A152_1, c152_1, e152, hx152_0, hx152_1, hl152_1, hi152_1⟩ := at_T48 HR0_0.out x6_3 p152 q152
                cases e152
                replace hx152_0 := (HB.out.cell (World.block_lt_of_cell? w _ hx152_0)).trans hx152_0
                replace hx152_1 := (HB.out.cell (World.block_lt_of_cell? w _ hx152_1)).trans hx152_1
                have HR152_1 := Aside0.mk hi152_1
                have HC152_1 := Aside0.mk hl152_1
                clear hi152_1 hl152_1
                replace p152 := eq_true p152
                replace q152 := eq_true q152
                have p153 : 0 ≤ (x6_3 : Int) := of_decide_eq_true (by first | (with_reducible assumption) | assumption)
                have q153 : x6_3 < (l0_0.length : Int) := of_decide_eq_true (by first | (with_reducible assumption) | assumption)
                obtain ⟨ad153, A153_1, c153_1, e153, hx153_0, hx153_1, hl153_1, hi153_1⟩ := at_T48 HR0_0.out x6_3 p153 q153
                obtain rfl : ad152 = ad153 := (by injection e153)
                replace hx153_0 := (HB.out.cell (World.block_lt_of_cell? w _ hx153_0)).trans hx153_0
                replace hx153_1 := (HB.out.cell (World.block_lt_of_cell? w _ hx153_1)).trans hx153_1
                have HR153_1 := Aside0.mk hi153_1
                have HC153_1 := Aside0.mk hl153_1
                clear hi153_1 hl153_1
                replace p153 := eq_true p153
                replace q153 := eq_true q153
                have ea_ := Option.some.inj (hx152_1.symm.trans hx153_1)
                injection ea_ with ea_ en_ ec_
                subst ea_
                subst ec_
                clear en_
                have p154 : 0 ≤ (x7_4 : Int) := of_decide_eq_true (by first | (with_reducible assumption) | assumption)
                have q154 : x7_4 < (((rd_T48 l0_0 x6_3).f1).length : Int) := of_decide_eq_true (by first | (with_reducible assumption) | assumption)
                obtain ⟨ad154, e154, hx154_0, hx154_1⟩ := at_T50 HR153_1.out x7_4 p154 q154
                cases e154
                replace hx154_0 := (HB.out.cell (World.block_lt_of_cell? w _ hx154_0)).trans hx154_0
                replace hx154_1 := (HB.out.cell (World.block_lt_of_cell? w _ hx154_1)).trans hx154_1
                replace p154 := eq_true p154
                replace q154 := eq_true q154
                go_wp2
                repeat (go_quiet (fail); try go_wp2)
                go_ret
                exact ⟨by first | rfl | (simp [errW_none, errW_some] <;> rfl) | (simp [*, errW_none, errW_some] <;> rfl), by repeat (first | (with_reducible first | exact HB.out | apply below_alloc | apply pw_below_drewN | apply below_drew1 | refine below_set ?_ GE146.out) | exact HB.out)⟩
               ·rw [if_neg c25] at H
                have c25b0 : decide (1000 < (((rd_T50 ((rd_T48 l0_0 x6_3).f1) x7_4).f0).size : Int)) = false := decide_eq_false c25
                have c25b1 : decide (1000 < ((rd_T50 ((rd_T48 l0_0 x6_3).f1) x7_4).f0).size) = false := decide_eq_false (by omega)
                clear c25
                have H' := Aside0.mk H
                clear H
                have hcz27_0 : wr.cell? ⟨gb146, 0, none⟩ = some (.slice A0_0 l0_0.length c0_0) := (blk_cell BK146.out 0).trans rfl
                have hcz27_1 : wr.cell? ⟨gb146, 1, none⟩ = some (.slice A0_1 l0_1.length c0_1) := (blk_cell BK146.out 1).trans rfl
                have hfz27_0 := blk_frozen BK146.out 0
                have hfz27_1 := blk_frozen BK146.out 1
                have p152 : 0 ≤ (x6_3 : Int) := of_decide_eq_true (by first | (with_reducible assumption) | assumption)
                have q152 : x6_3 < (l0_0.length : Int) := of_decide_eq_true (by first | (with_reducible assumption) | assumption)
                obtain ⟨ad152, A152_1, c152_1, e152, hx152_0, hx152_1, hl152_1, hi152_1⟩ := at_T48 HR0_0.out x6_3 p152 q152
                cases e152
                replace hx152_0 := (HB.out.cell (World.block_lt_of_cell? w _ hx152_0)).trans hx152_0
                replace hx152_1 := (HB.out.cell (World.block_lt_of_cell? w _ hx152_1)).trans hx152_1
                have HR152_1 := Aside0.mk hi152_1
                have HC152_1 := Aside0.mk hl152_1
                clear hi152_1 hl152_1
                replace p152 := eq_true p152
                replace q152 := eq_true q152
                have p153 : 0 ≤ (x6_3 : Int) := of_decide_eq_true (by first | (with_reducible assumption) | assumption)
                have q153 : x6_3 < (l0_0.length : Int) := of_decide_eq_true (by first | (with_reducible assumption) | assumption)
                obtain ⟨ad153, A153_1, c153_1, e153, hx153_0, hx153_1, hl153_1, hi153_1⟩ := at_T48 HR0_0.out x6_3 p153 q153
                obtain rfl : ad152 = ad153 := (by injection e153)
                replace hx153_0 := (HB.out.cell (World.block_lt_of_cell? w _ hx153_0)).trans hx153_0
                replace hx153_1 := (HB.out.cell (World.block_lt_of_cell? w _ hx153_1)).trans hx153_1
                have HR153_1 := Aside0.mk hi153_1
                have HC153_1 := Aside0.mk hl153_1
                clear hi153_1 hl153_1
                replace p153 := eq_true p153
                replace q153 := eq_true q153
                have ea_ := Option.some.inj (hx152_1.symm.trans hx153_1)
                injection ea_ with ea_ en_ ec_
                subst ea_
                subst ec_
                clear en_
                have p154 : 0 ≤ (x7_4 : Int) := of_decide_eq_true (by first | (with_reducible assumption) | assumption)
                have q154 : x7_4 < (((rd_T48 l0_0 x6_3).f1).length : Int) := of_decide_eq_true (by first | (with_reducible assumption) | assumption)
                obtain ⟨ad154, e154, hx154_0, hx154_1⟩ := at_T50 HR153_1.out x7_4 p154 q154
                cases e154
                replace hx154_0 := (HB.out.cell (World.block_lt_of_cell? w _ hx154_0)).trans hx154_0
                replace hx154_1 := (HB.out.cell (World.block_lt_of_cell? w _ hx154_1)).trans hx154_1
                replace p154 := eq_true p154
                replace q154 := eq_true q154
                go_wp2
                repeat (go_quiet (fail); try go_wp2)
                go_roundg k4
                case measure => have := HJ1.out; have := HJ10.out; have := HK3.out; have := HK4.out; omega
                case rel => exact ⟨(wrap64 (x7_4 + 1)), (by first | rfl | (simp; done) | (simp [*]; done)), H', ⟨by have := HJ1.out; have := HJ10.out; have := HK3.out; have := HK4.out; omega⟩, ⟨by (with_reducible repeat (first | refine blk_drewN ?_ _ | refine blk_drew ?_ | refine blk_alloc ?_ _)); exact BK146.out⟩, ⟨by repeat (first | (with_reducible first | exact HB.out | apply below_alloc | apply pw_below_drewN | apply below_drew1 | refine below_set ?_ GE146.out) | exact HB.out)⟩⟩
              ·rw [if_neg c24] at H
               exact absurd H (by simp)
             ·rw [if_neg c23] at H
              have c23b0 : decide (x7_4 < (((rd_T48 l0_0 x6_3).f1).length : Int)) = false := decide_eq_false c23
              clear c23
              have H' := Aside0.mk H
              clear H
              have hcz28_0 : wr.cell? ⟨gb146, 0, none⟩ = some (.slice A0_0 l0_0.length c0_0) := (blk_cell BK146.out 0).trans rfl
              have hcz28_1 : wr.cell? ⟨gb146, 1, none⟩ = some (.slice A0_1 l0_1.length c0_1) := (blk_cell BK146.out 1).trans rfl
              have hfz28_0 := blk_frozen BK146.out 0
              have hfz28_1 := blk_frozen BK146.out 1
              have p152 : 0 ≤ (x6_3 : Int) := of_decide_eq_true (by first | (with_reducible assumption) | assumption)
              have q152 : x6_3 < (l0_0.length : Int) := of_decide_eq_true (by first | (with_reducible assumption) | assumption)
              obtain ⟨ad152, A152_1, c152_1, e152, hx152_0, hx152_1, hl152_1, hi152_1⟩ := at_T48 HR0_0.out x6_3 p152 q152
              cases e152
              replace hx152_0 := (HB.out.cell (World.block_lt_of_cell? w _ hx152_0)).trans hx152_0
              replace hx152_1 := (HB.out.cell (World.block_lt_of_cell? w _ hx152_1)).trans hx152_1
              have HR152_1 := Aside0.mk hi152_1
              have HC152_1 := Aside0.mk hl152_1
              clear hi152_1 hl152_1
              replace p152 := eq_true p152
              replace q152 := eq_true q152
              go_wp2
              repeat (go_quiet (fail); try go_wp2)
              go_roundg k4
              case measure => have := HJ1.out; have := HJ10.out; have := HK3.out; have := HK4.out; omega
              case rel => exact ⟨(wrap64 (x6_3 + 1)), (by first | rfl | (simp; done) | (simp [*]; done)), H', ⟨by have := HJ1.out; have := HJ10.out; have := HK3.out; have := HK4.out; omega⟩, ⟨by (with_reducible repeat (first | refine blk_drewN ?_ _ | refine blk_drew ?_ | refine blk_alloc ?_ _)); exact BK146.out⟩, ⟨by repeat (first | (with_reducible first | exact HB.out | apply below_alloc | apply pw_below_drewN | apply below_drew1 | refine below_set ?_ GE146.out) | exact HB.out)⟩⟩
            ·rw [if_neg c22] at H
             exact absurd H (by simp)
           ·rw [if_neg c21] at H
            exact absurd H (by simp)
        ·rw [if_neg c19] at H
         have c19b0 : decide (x6_3 < (l0_0.length : Int)) = false := decide_eq_false c19
         clear c19
         have H' := Aside0.mk H
         clear H
         have hcz29_0 : wr.cell? ⟨gb146, 0, none⟩ = some (.slice A0_0 l0_0.length c0_0) := (blk_cell BK146.out 0).trans rfl
         have hcz29_1 : wr.cell? ⟨gb146, 1, none⟩ = some (.slice A0_1 l0_1.length c0_1) := (blk_cell BK146.out 1).trans rfl
         have hfz29_0 := blk_frozen BK146.out 0
         have hfz29_1 := blk_frozen BK146.out 1
         go_wp2
         repeat (go_quiet (fail); try go_wp2)
         go_loopg [8] k3 (fun kq v8 w' => ∃ (x8_4 : Int), v8 = .int .i64 x8_4 ∧ Aside0 (ecdysisref15_Small.l4 kq x8_4 l0_0 l0_1 = some r) ∧ Aside0 (kq ≤ k3) ∧ Aside0 (w'.heap[gb146]? = some (.cells #[(.slice A0_0 l0_0.length c0_0), (.slice A0_1 l0_1.length c0_1)] 30 (0, 0))) ∧ Aside0 (Below w.heap.size w w'))
         case atStart => exact ⟨(0), (by first | rfl | (simp; done) | (simp [*]; done)), H', ⟨Nat.le_refl _⟩, ⟨by (with_reducible repeat (first | refine blk_drewN ?_ _ | refine blk_drew ?_ | refine blk_alloc ?_ _)); exact BK146.out⟩, ⟨by repeat (first | (with_reducible first | exact HB.out | apply below_alloc | apply pw_below_drewN | apply below_drew1 | refine below_set ?_ GE146.out) | exact HB.out)⟩⟩
         case round =>
          clear H'
          try clear c1
          try clear p1
          try clear q1
          try clear hx1
          try clear c2
          try clear p2
          try clear c5
          try clear c5b0
          try clear c6
          try clear c6b0
          try clear p6
          try clear c7
          try clear c7b0
          try clear c11
          try clear c12
          try clear c12b0
          try clear c13
          try clear c13b0
          try clear c14
          try clear c14b0
          try clear p14
          try clear q14
          try clear hx14
          try clear c15
          try clear p15
          try clear q15
          try clear hx15
          try clear c18
          try clear c18b0
          try clear c19
          try clear c19b0
          try clear c21
          try clear c21b0
          try clear c22
          try clear c22b0
          try clear c23
          try clear c23b0
          try clear c24
          try clear c24b0
          try clear c25
          try clear c25b0
          try clear c25b1
          try clear hcz10_0
          try clear hcz10_1
          try clear hcz15_0
          try clear hcz15_1
          try clear hcz16_0
          try clear hcz16_1
          try clear hcz17_0
          try clear hcz17_1
          try clear hcz20_0
          try clear hcz20_1
          try clear hcz26_0
          try clear hcz26_1
          try clear hcz27_0
          try clear hcz27_1
          try clear hcz28_0
          try clear hcz28_1
          try clear hcz29_0
          try clear hcz29_1
          try clear hcz4_0
          try clear hcz4_1
          try clear hcz8_0
          try clear hcz8_1
          try clear hcz9_0
          try clear hcz9_1
          try clear hfz10_0
          try clear hfz10_1
          try clear hfz15_0
          try clear hfz15_1
          try clear hfz16_0
          try clear hfz16_1
          try clear hfz17_0
          try clear hfz17_1
          try clear hfz20_0
          try clear hfz20_1
          try clear hfz26_0
          try clear hfz26_1
          try clear hfz27_0
          try clear hfz27_1
          try clear hfz28_0
          try clear hfz28_1
          try clear hfz29_0
          try clear hfz29_1
          try clear hfz4_0
          try clear hfz4_1
          try clear hfz8_0
          try clear hfz8_1
          try clear hfz9_0
          try clear hfz9_1
          try clear hx147_0
          try clear hx147_1
          try clear hx148_0
          try clear hx148_1
          try clear hx149_0
          try clear hx149_1
          try clear hx149_2
          try clear hx150_0
          try clear hx150_1
          try clear hx150_2
          try clear hx151_0
          try clear hx151_1
          try clear hx151_2
          try clear hx152_0
          try clear hx152_1
          try clear hx153_0
          try clear hx153_1
          try clear hx154_0
          try clear hx154_1
          try clear p1
          try clear p14
          try clear p147
          try clear p148
          try clear p149
          try clear p15
          try clear p150
          try clear p151
          try clear p152
          try clear p153
          try clear p154
          try clear p2
          try clear p6
          try clear q1
          try clear q14
          try clear q147
          try clear q148
          try clear q149
          try clear q15
          try clear q150
          try clear q151
          try clear q152
          try clear q153
          try clear q154
          obtain ⟨x8_4, rfl, HA, HK4, BK146, HB⟩ := hrel
          cases gk with
          | zero => exact absurd HA.out (by simp [ecdysisref15_Small.l4])
          | succ k4 =>
           have H := HA.out
           clear HA
           simp only [ecdysisref15_Small.l4] at H
           by_cases c30 : x8_4 < (l0_1.length : Int)
           ·rw [if_pos c30] at H
            have c30b0 : decide (x8_4 < (l0_1.length : Int)) = true := decide_eq_true c30
            clear c30
            have H' := Aside0.mk H
            clear H
            have hcz31_0 : wr.cell? ⟨gb146, 0, none⟩ = some (.slice A0_0 l0_0.length c0_0) := (blk_cell BK146.out 0).trans rfl
            have hcz31_1 : wr.cell? ⟨gb146, 1, none⟩ = some (.slice A0_1 l0_1.length c0_1) := (blk_cell BK146.out 1).trans rfl
            have hfz31_0 := blk_frozen BK146.out 0
            have hfz31_1 := blk_frozen BK146.out 1
            go_wp2
            repeat (go_quiet (fail); try go_wp2)
            go_loopg [9] k4 (fun kq v9 w' => ∃ (x9_5 : Int), v9 = .int .i64 x9_5 ∧ Aside0 (ecdysisref15_Small.l5 kq x8_4 x9_5 l0_0 l0_1 = some r) ∧ Aside0 (kq ≤ k4) ∧ Aside0 (w'.heap[gb146]? = some (.cells #[(.slice A0_0 l0_0.length c0_0), (.slice A0_1 l0_1.length c0_1)] 30 (0, 0))) ∧ Aside0 (Below w.heap.size w w'))
            case atStart => exact ⟨(0), (by first | rfl | (simp; done) | (simp [*]; done)), H', ⟨Nat.le_refl _⟩, ⟨by (with_reducible repeat (first | refine blk_drewN ?_ _ | refine blk_drew ?_ | refine blk_alloc ?_ _)); exact BK146.out⟩, ⟨by repeat (first | (with_reducible first | exact HB.out | apply below_alloc | apply pw_below_drewN | apply below_drew1 | refine below_set ?_ GE146.out) | exact HB.out)⟩⟩
            case round =>
             clear H'
             try clear c1
             try clear p1
             try clear q1
             try clear hx1
             try clear c2
             try clear p2
             try clear c3
             try clear c5
             try clear c5b0
             try clear c6
             try clear c6b0
             try clear p6
             try clear c7
             try clear c7b0
             try clear c11
             try clear c12
             try clear c12b0
             try clear c13
             try clear c13b0
             try clear c14
             try clear c14b0
             try clear p14
             try clear q14
             try clear hx14
             try clear c15
             try clear p15
             try clear q15
             try clear hx15
             try clear c18
             try clear c18b0
             try clear c19
             try clear c19b0
             try clear c21
             try clear c21b0
             try clear c22
             try clear c22b0
             try clear c23
             try clear c23b0
             try clear c24
             try clear c24b0
             try clear c25
             try clear c25b0
             try clear c25b1
             try clear c30
             try clear c30b0
             try clear hcz10_0
             try clear hcz10_1
             try clear hcz15_0
             try clear hcz15_1
             try clear hcz16_0
             try clear hcz16_1
             try clear hcz17_0
             try clear hcz17_1
             try clear hcz20_0
             try clear hcz20_1
             try clear hcz26_0
             try clear hcz26_1
             try clear hcz27_0
             try clear hcz27_1
             try clear hcz28_0
             try clear hcz28_1
             try clear hcz29_0
             try clear hcz29_1
             try clear hcz31_0
             try clear hcz31_1
             try clear hcz4_0
             try clear hcz4_1
             try clear hcz8_0
             try clear hcz8_1
             try clear hcz9_0
             try clear hcz9_1
             try clear hfz10_0
             try clear hfz10_1
             try clear hfz15_0
             try clear hfz15_1
             try clear hfz16_0
             try clear hfz16_1
             try clear hfz17_0
             try clear hfz17_1
             try clear hfz20_0
             try clear hfz20_1
             try clear hfz26_0
             try clear hfz26_1
             try clear hfz27_0
             try clear hfz27_1
             try clear hfz28_0
             try clear hfz28_1
             try clear hfz29_0
             try clear hfz29_1
             try clear hfz31_0
             try clear hfz31_1
             try clear hfz4_0
             try clear hfz4_1
             try clear hfz8_0
             try clear hfz8_1
             try clear hfz9_0
             try clear hfz9_1
             try clear hx147_0
             try clear hx147_1
             try clear hx148_0
             try clear hx148_1
             try clear hx149_0
             try clear hx149_1
             try clear hx149_2
             try clear hx150_0
             try clear hx150_1
             try clear hx150_2
             try clear hx151_0
             try clear hx151_1
             try clear hx151_2
             try clear hx152_0
             try clear hx152_1
             try clear hx153_0
             try clear hx153_1
             try clear hx154_0
             try clear hx154_1
             try clear p1
             try clear p14
             try clear p147
             try clear p148
             try clear p149
             try clear p15
             try clear p150
             try clear p151
             try clear p152
             try clear p153
             try clear p154
             try clear p2
             try clear p6
             try clear q1
             try clear q14
             try clear q147
             try clear q148
             try clear q149
             try clear q15
             try clear q150
             try clear q151
             try clear q152
             try clear q153
             try clear q154
             obtain ⟨x9_5, rfl, HA, HK5, BK146, HB⟩ := hrel
             cases gk with
             | zero => exact absurd HA.out (by simp [ecdysisref15_Small.l5])
             | succ k5 =>
              have H := HA.out
              clear HA
              simp only [ecdysisref15_Small.l5] at H
              by_cases c32 : 0 ≤ x8_4
              ·rw [if_pos c32] at H
               have c32b0 : decide (0 ≤ x8_4) = true := decide_eq_true c32
               clear c32
               by_cases c33 : x8_4 < (l0_1.length : Int)
               ·rw [if_pos c33] at H
                have c33b0 : decide (x8_4 < (l0_1.length : Int)) = true := decide_eq_true c33
                clear c33
                by_cases c34 : x9_5 < (((rd_T38 l0_1 x8_4).f1).length : Int)
                ·rw [if_pos c34] at H
                 have c34b0 : decide (x9_5 < (((rd_T38 l0_1 x8_4).f1).length : Int)) = true := decide_eq_true c34
                 clear c34
                 by_cases c35 : 0 ≤ x9_5
                 ·rw [if_pos c35] at H
                  have c35b0 : decide (0 ≤ x9_5) = true := decide_eq_true c35
                  clear c35
                  by_cases c36 : (((rd_T40 ((rd_T38 l0_1 x8_4).f1) x9_5).f0).size : Int) > 1000
                  ·rw [if_pos c36] at H
                   have c36b0 : decide (1000 < (((rd_T40 ((rd_T38 l0_1 x8_4).f1) x9_5).f0).size : Int)) = true := decide_eq_true c36
                   have c36b1 : decide (1000 < ((rd_T40 ((rd_T38 l0_1 x8_4).f1) x9_5).f0).size) = true := decide_eq_true (by omega)
                   clear c36
                   obtain rfl := Option.some.inj H
                   have hcz37_0 : wr.cell? ⟨gb146, 0, none⟩ = some (.slice A0_0 l0_0.length c0_0) := (blk_cell BK146.out 0).trans rfl
                   have hcz37_1 : wr.cell? ⟨gb146, 1, none⟩ = some (.slice A0_1 l0_1.length c0_1) := (blk_cell BK146.out 1).trans rfl
                   have hfz37_0 := blk_frozen BK146.out 0
                   have hfz37_1 := blk_frozen BK146.out 1
                   have p155 : 0 ≤ (x8_4 : Int) := of_decide_eq_true (by first | (with_reducible assumption) | assumption)
                   have q155 : x8_4 < (l0_1.length : Int) := of_decide_eq_true (by first | (with_reducible assumption) | assumption)
                   obtain ⟨ad155, A155_1, c155_1, A155_2, c155_2, e155, hx155_0, hx155_1, hx155_2, hl155_1, hi155_1, hl155_2, hi155_2⟩ := at_T38 HR0_1.out x8_4 p155 q155
                   cases e155
                   replace hx155_0 := (HB.out.cell (World.block_lt_of_cell? w _ hx155_0)).trans hx155_0
                   replace hx155_1 := (HB.out.cell (World.block_lt_of_cell? w _ hx155_1)).trans hx155_1
                   replace hx155_2 := (HB.out.cell (World.block_lt_of_cell? w _ hx155_2)).trans hx155_2
                   have HR155_1 := Aside0.mk hi155_1
                   have HC155_1 := Aside0.mk hl155_1
                   clear hi155_1 hl155_1
                   have HR155_2 := Aside0.mk hi155_2
                   have HC155_2 := Aside0.mk hl155_2
                   clear hi155_2 hl155_2
                   replace p155 := eq_true p155
                   replace q155 := eq_true q155
                   have p156 : 0 ≤ (x8_4 : Int) := of_decide_eq_true (by first | (with_reducible assumption) | assumption)
                   have q156 : x8_4 < (l0_1.length : Int) := of_decide_eq_true (by first | (with_reducible assumption) | assumption)
                   obtain ⟨ad156, A156_1, c156_1, A156_2, c156_2, e156, hx156_0, hx156_1, hx156_2, hl156_1, hi156_1, hl156_2, hi156_2⟩ := at_T38 HR0_1.out x8_4 p156 q156
                   obtain rfl : ad155 = ad156 := (by injection e156)
                   replace hx156_0 := (HB.out.cell (World.block_lt_of_cell? w _ hx156_0)).trans hx156_0
                   replace hx156_1 := (HB.out.cell (World.block_lt_of_cell? w _ hx156_1)).trans hx156_1
                   replace hx156_2 := (HB.out.cell (World.block_lt_of_cell? w _ hx156_2)).trans hx156_2
                   have HR156_1 := Aside0.mk hi156_1
                   have HC156_1 := Aside0.mk hl156_1
                   clear hi156_1 hl156_1
                   have HR156_2 := Aside0.mk hi156_2
                   have HC156_2 := Aside0.mk hl156_2
                   clear hi156_2 hl156_2
                   replace p156 := eq_true p156
                   replace q156 := eq_true q156
                   have ea_ := Option.some.inj (hx155_1.symm.trans hx156_1)
                   injection ea_ with ea_ en_ ec_
                   subst ea_
                   subst ec_
                   clear en_
                   have ea_ := Option.some.inj (hx155_2.symm.trans hx156_2)
                   injection ea_ with ea_ en_ ec_
                   subst ea_
                   subst ec_
                   clear en_
                   have p157 : 0 ≤ (x9_5 : Int) := of_decide_eq_true (by first | (with_reducible assumption) | assumption)
                   have q157 : x9_5 < (((rd_T38 l0_1 x8_4).f1).length : Int) := of_decide_eq_true (by first | (with_reducible assumption) | assumption)
                   obtain ⟨ad157, e157, hx157_0, hx157_1, hx157_2, hx157_3, hx157_4, hx157_5, hx157_6⟩ := at_T40 HR156_1.out x9_5 p157 q157
                   cases e157
                   replace hx157_0 := (HB.out.cell (World.block_lt_of_cell? w _ hx157_0)).trans hx157_0
                   replace hx157_1 := (HB.out.cell (World.block_lt_of_cell? w _ hx157_1)).trans hx157_1
                   replace hx157_2 := (HB.out.cell (World.block_lt_of_cell? w _ hx157_2)).trans hx157_2
                   replace hx157_3 := (HB.out.cell (World.block_lt_of_cell? w _ hx157_3)).trans hx157_3
                   replace hx157_4 := (HB.out.cell (World.block_lt_of_cell? w _ hx157_4)).trans hx157_4
                   replace hx157_5 := (HB.out.cell (World.block_lt_of_cell? w _ hx157_5)).trans hx157_5
                   replace hx157_6 := (HB.out.cell (World.block_lt_of_cell? w _ hx157_6)).trans hx157_6
                   replace p157 := eq_true p157
                   replace q157 := eq_true q157
                   go_wp2_with (first | ((with_reducible refine gate_dst (N := 10) rfl ?_); (try (refine gate_guard (by rfl) ?_; dsimp only)); refine box_event ?hg (N := 10) ?hd (cs := #[.string (⟨#[]⟩ : ByteArray), .int .i64 0, .int .i64 0, .string (⟨#[]⟩ : ByteArray), .bool false, .bool false, .string (⟨#[]⟩ : ByteArray)]) (t := 40) ?hr ?_; (case hd => rfl); (case hg => rfl); (case hr => first | (go_simp; done) | (go_simp; rfl)); intro gb158 hg w38 hbox hb; have n0_ := Aside0.mk (blk_below (g := gb146) (o := .cells #[.slice A0_0 l0_0.length c0_0, .slice (some ad155) l0_1.length c0_1] 30 (0, 0)) (by (with_reducible repeat (first | refine blk_drewN ?_ _ | refine blk_drew ?_ | refine blk_alloc ?_ _)); exact BK146.out) hb); have n1_ := Aside0.mk (below_step (by repeat (first | (with_reducible first | exact HB.out | apply below_alloc | apply pw_below_drewN | apply below_drew1 | refine below_set ?_ GE146.out) | exact HB.out)) hb); have n2_ := Aside0.mk (hbox); have n3_ := Aside0.mk ((by rw [hg]; exact (below_size (by repeat (first | (with_reducible first | exact HB.out | apply below_alloc | apply pw_below_drewN | apply below_drew1 | refine below_set ?_ GE146.out) | exact HB.out))) : w.heap.size ≤ gb158)); have n4_ := Aside0.mk ((by rw [hg]; exact (below_size (by repeat (first | (with_reducible first | exact HB.out | apply below_alloc | apply pw_below_drewN | apply below_drew1 | refine below_set ?_ GE146.out) | exact HB.out))) : w.heap.size ≤ gb158)); have n5_ := Aside0.mk ((by rw [hg]; exact Nat.ne_of_lt (blk_lt (g := gb146) (o := .cells #[.slice A0_0 l0_0.length c0_0, .slice (some ad155) l0_1.length c0_1] 30 (0, 0)) (by (with_reducible repeat (first | refine blk_drewN ?_ _ | refine blk_drew ?_ | refine blk_alloc ?_ _)); exact BK146.out)) : gb146 ≠ gb158)); have n6_ := Aside0.mk ((by rw [hg]; exact Nat.ne_of_gt (blk_lt (g := gb146) (o := .cells #[.slice A0_0 l0_0.length c0_0, .slice (some ad155) l0_1.length c0_1] 30 (0, 0)) (by (with_reducible repeat (first | refine blk_drewN ?_ _ | refine blk_drew ?_ | refine blk_alloc ?_ _)); exact BK146.out)) : gb158 ≠ gb146)); clear BK146; clear HB; have BK146 := n0_; have HB := n1_; have BK158 := n2_; have GW158 := n3_; have GE158 := n4_; have NB146_158 := n5_; have NB158_146 := n6_; clear n0_ n1_ n2_ n3_ n4_ n5_ n6_; clear hb hbox hg; have hnb39 := NB158_146.out; have hnc39 := NB146_158.out; have hcz40_0 : w38.cell? ⟨gb158, 0, none⟩ = some (.string (⟨#[]⟩ : ByteArray)) := (blk_cell BK158.out 0).trans rfl; have hcz40_1 : w38.cell? ⟨gb158, 1, none⟩ = some (.int .i64 0) := (blk_cell BK158.out 1).trans rfl; have hcz40_2 : w38.cell? ⟨gb158, 2, none⟩ = some (.int .i64 0) := (blk_cell BK158.out 2).trans rfl; have hcz40_3 : w38.cell? ⟨gb158, 3, none⟩ = some (.string (⟨#[]⟩ : ByteArray)) := (blk_cell BK158.out 3).trans rfl; have hcz40_4 : w38.cell? ⟨gb158, 4, none⟩ = some (.bool false) := (blk_cell BK158.out 4).trans rfl; have hcz40_5 : w38.cell? ⟨gb158, 5, none⟩ = some (.bool false) := (blk_cell BK158.out 5).trans rfl; have hcz40_6 : w38.cell? ⟨gb158, 6, none⟩ = some (.string (⟨#[]⟩ : ByteArray)) := (blk_cell BK158.out 6).trans rfl; have hfz40_0 := blk_frozen BK158.out 0; have hfz40_1 := blk_frozen BK158.out 1; have hfz40_2 := blk_frozen BK158.out 2; have hfz40_3 := blk_frozen BK158.out 3; have hfz40_4 := blk_frozen BK158.out 4; have hfz40_5 := blk_frozen BK158.out 5; have hfz40_6 := blk_frozen BK158.out 6))
                   repeat (go_quiet (first | ((with_reducible refine gate_dst (N := 10) rfl ?_); (try (refine gate_guard (by rfl) ?_; dsimp only)); refine box_event ?hg (N := 10) ?hd (cs := #[.string (⟨#[]⟩ : ByteArray), .int .i64 0, .int .i64 0, .string (⟨#[]⟩ : ByteArray), .bool false, .bool false, .string (⟨#[]⟩ : ByteArray)]) (t := 40) ?hr ?_; (case hd => rfl); (case hg => rfl); (case hr => first | (go_simp; done) | (go_simp; rfl)); intro gb158 hg w38 hbox hb; have n0_ := Aside0.mk (blk_below (g := gb146) (o := .cells #[.slice A0_0 l0_0.length c0_0, .slice (some ad155) l0_1.length c0_1] 30 (0, 0)) (by (with_reducible repeat (first | refine blk_drewN ?_ _ | refine blk_drew ?_ | refine blk_alloc ?_ _)); exact BK146.out) hb); have n1_ := Aside0.mk (below_step (by repeat (first | (with_reducible first | exact HB.out | apply below_alloc | apply pw_below_drewN | apply below_drew1 | refine below_set ?_ GE146.out) | exact HB.out)) hb); have n2_ := Aside0.mk (hbox); have n3_ := Aside0.mk ((by rw [hg]; exact (below_size (by repeat (first | (with_reducible first | exact HB.out | apply below_alloc | apply pw_below_drewN | apply below_drew1 | refine below_set ?_ GE146.out) | exact HB.out))) : w.heap.size ≤ gb158)); have n4_ := Aside0.mk ((by rw [hg]; exact (below_size (by repeat (first | (with_reducible first | exact HB.out | apply below_alloc | apply pw_below_drewN | apply below_drew1 | refine below_set ?_ GE146.out) | exact HB.out))) : w.heap.size ≤ gb158)); have n5_ := Aside0.mk ((by rw [hg]; exact Nat.ne_of_lt (blk_lt (g := gb146) (o := .cells #[.slice A0_0 l0_0.length c0_0, .slice (some ad155) l0_1.length c0_1] 30 (0, 0)) (by (with_reducible repeat (first | refine blk_drewN ?_ _ | refine blk_drew ?_ | refine blk_alloc ?_ _)); exact BK146.out)) : gb146 ≠ gb158)); have n6_ := Aside0.mk ((by rw [hg]; exact Nat.ne_of_gt (blk_lt (g := gb146) (o := .cells #[.slice A0_0 l0_0.length c0_0, .slice (some ad155) l0_1.length c0_1] 30 (0, 0)) (by (with_reducible repeat (first | refine blk_drewN ?_ _ | refine blk_drew ?_ | refine blk_alloc ?_ _)); exact BK146.out)) : gb158 ≠ gb146)); clear BK146; clear HB; have BK146 := n0_; have HB := n1_; have BK158 := n2_; have GW158 := n3_; have GE158 := n4_; have NB146_158 := n5_; have NB158_146 := n6_; clear n0_ n1_ n2_ n3_ n4_ n5_ n6_; clear hb hbox hg; have hnb39 := NB158_146.out; have hnc39 := NB146_158.out; have hcz40_0 : w38.cell? ⟨gb158, 0, none⟩ = some (.string (⟨#[]⟩ : ByteArray)) := (blk_cell BK158.out 0).trans rfl; have hcz40_1 : w38.cell? ⟨gb158, 1, none⟩ = some (.int .i64 0) := (blk_cell BK158.out 1).trans rfl; have hcz40_2 : w38.cell? ⟨gb158, 2, none⟩ = some (.int .i64 0) := (blk_cell BK158.out 2).trans rfl; have hcz40_3 : w38.cell? ⟨gb158, 3, none⟩ = some (.string (⟨#[]⟩ : ByteArray)) := (blk_cell BK158.out 3).trans rfl; have hcz40_4 : w38.cell? ⟨gb158, 4, none⟩ = some (.bool false) := (blk_cell BK158.out 4).trans rfl; have hcz40_5 : w38.cell? ⟨gb158, 5, none⟩ = some (.bool false) := (blk_cell BK158.out 5).trans rfl; have hcz40_6 : w38.cell? ⟨gb158, 6, none⟩ = some (.string (⟨#[]⟩ : ByteArray)) := (blk_cell BK158.out 6).trans rfl; have hfz40_0 := blk_frozen BK158.out 0; have hfz40_1 := blk_frozen BK158.out 1; have hfz40_2 := blk_frozen BK158.out 2; have hfz40_3 := blk_frozen BK158.out 3; have hfz40_4 := blk_frozen BK158.out 4; have hfz40_5 := blk_frozen BK158.out 5; have hfz40_6 := blk_frozen BK158.out 6)); try go_wp2_with (first | ((with_reducible refine gate_dst (N := 10) rfl ?_); (try (refine gate_guard (by rfl) ?_; dsimp only)); refine box_event ?hg (N := 10) ?hd (cs := #[.string (⟨#[]⟩ : ByteArray), .int .i64 0, .int .i64 0, .string (⟨#[]⟩ : ByteArray), .bool false, .bool false, .string (⟨#[]⟩ : ByteArray)]) (t := 40) ?hr ?_; (case hd => rfl); (case hg => rfl); (case hr => first | (go_simp; done) | (go_simp; rfl)); intro gb158 hg w38 hbox hb; have n0_ := Aside0.mk (blk_below (g := gb146) (o := .cells #[.slice A0_0 l0_0.length c0_0, .slice (some ad155) l0_1.length c0_1] 30 (0, 0)) (by (with_reducible repeat (first | refine blk_drewN ?_ _ | refine blk_drew ?_ | refine blk_alloc ?_ _)); exact BK146.out) hb); have n1_ := Aside0.mk (below_step (by repeat (first | (with_reducible first | exact HB.out | apply below_alloc | apply pw_below_drewN | apply below_drew1 | refine below_set ?_ GE146.out) | exact HB.out)) hb); have n2_ := Aside0.mk (hbox); have n3_ := Aside0.mk ((by rw [hg]; exact (below_size (by repeat (first | (with_reducible first | exact HB.out | apply below_alloc | apply pw_below_drewN | apply below_drew1 | refine below_set ?_ GE146.out) | exact HB.out))) : w.heap.size ≤ gb158)); have n4_ := Aside0.mk ((by rw [hg]; exact (below_size (by repeat (first | (with_reducible first | exact HB.out | apply below_alloc | apply pw_below_drewN | apply below_drew1 | refine below_set ?_ GE146.out) | exact HB.out))) : w.heap.size ≤ gb158)); have n5_ := Aside0.mk ((by rw [hg]; exact Nat.ne_of_lt (blk_lt (g := gb146) (o := .cells #[.slice A0_0 l0_0.length c0_0, .slice (some ad155) l0_1.length c0_1] 30 (0, 0)) (by (with_reducible repeat (first | refine blk_drewN ?_ _ | refine blk_drew ?_ | refine blk_alloc ?_ _)); exact BK146.out)) : gb146 ≠ gb158)); have n6_ := Aside0.mk ((by rw [hg]; exact Nat.ne_of_gt (blk_lt (g := gb146) (o := .cells #[.slice A0_0 l0_0.length c0_0, .slice (some ad155) l0_1.length c0_1] 30 (0, 0)) (by (with_reducible repeat (first | refine blk_drewN ?_ _ | refine blk_drew ?_ | refine blk_alloc ?_ _)); exact BK146.out)) : gb158 ≠ gb146)); clear BK146; clear HB; have BK146 := n0_; have HB := n1_; have BK158 := n2_; have GW158 := n3_; have GE158 := n4_; have NB146_158 := n5_; have NB158_146 := n6_; clear n0_ n1_ n2_ n3_ n4_ n5_ n6_; clear hb hbox hg; have hnb39 := NB158_146.out; have hnc39 := NB146_158.out; have hcz40_0 : w38.cell? ⟨gb158, 0, none⟩ = some (.string (⟨#[]⟩ : ByteArray)) := (blk_cell BK158.out 0).trans rfl; have hcz40_1 : w38.cell? ⟨gb158, 1, none⟩ = some (.int .i64 0) := (blk_cell BK158.out 1).trans rfl; have hcz40_2 : w38.cell? ⟨gb158, 2, none⟩ = some (.int .i64 0) := (blk_cell BK158.out 2).trans rfl; have hcz40_3 : w38.cell? ⟨gb158, 3, none⟩ = some (.string (⟨#[]⟩ : ByteArray)) := (blk_cell BK158.out 3).trans rfl; have hcz40_4 : w38.cell? ⟨gb158, 4, none⟩ = some (.bool false) := (blk_cell BK158.out 4).trans rfl; have hcz40_5 : w38.cell? ⟨gb158, 5, none⟩ = some (.bool false) := (blk_cell BK158.out 5).trans rfl; have hcz40_6 : w38.cell? ⟨gb158, 6, none⟩ = some (.string (⟨#[]⟩ : ByteArray)) := (blk_cell BK158.out 6).trans rfl; have hfz40_0 := blk_frozen BK158.out 0; have hfz40_1 := blk_frozen BK158.out 1; have hfz40_2 := blk_frozen BK158.out 2; have hfz40_3 := blk_frozen BK158.out 3; have hfz40_4 := blk_frozen BK158.out 4; have hfz40_5 := blk_frozen BK158.out 5; have hfz40_6 := blk_frozen BK158.out 6)))
                   go_ret
                   exact ⟨by first | rfl | (simp [errW_none, errW_some] <;> rfl) | (simp [*, errW_none, errW_some] <;> rfl), by repeat (first | (with_reducible first | exact HB.out | apply below_alloc | apply pw_below_drewN | apply below_drew1 | refine below_set ?_ GE146.out | refine below_set ?_ GE158.out) | exact HB.out)⟩
                  ·rw [if_neg c36] at H
                   have c36b0 : decide (1000 < (((rd_T40 ((rd_T38 l0_1 x8_4).f1) x9_5).f0).size : Int)) = false := decide_eq_false c36
                   have c36b1 : decide (1000 < ((rd_T40 ((rd_T38 l0_1 x8_4).f1) x9_5).f0).size) = false := decide_eq_false (by omega)
                   clear c36
                   by_cases c41 : (((rd_T40 ((rd_T38 l0_1 x8_4).f1) x9_5).f3).size : Int) > 1000
                   ·rw [if_pos c41] at H
                    have c41b0 : decide (1000 < (((rd_T40 ((rd_T38 l0_1 x8_4).f1) x9_5).f3).size : Int)) = true := decide_eq_true c41
                    have c41b1 : decide (1000 < ((rd_T40 ((rd_T38 l0_1 x8_4).f1) x9_5).f3).size) = true := decide_eq_true (by omega)
                    clear c41
                    obtain rfl := Option.some.inj H
                    have hcz42_0 : wr.cell? ⟨gb146, 0, none⟩ = some (.slice A0_0 l0_0.length c0_0) := (blk_cell BK146.out 0).trans rfl
                    have hcz42_1 : wr.cell? ⟨gb146, 1, none⟩ = some (.slice A0_1 l0_1.length c0_1) := (blk_cell BK146.out 1).trans rfl
                    have hfz42_0 := blk_frozen BK146.out 0
                    have hfz42_1 := blk_frozen BK146.out 1
                    have p155 : 0 ≤ (x8_4 : Int) := of_decide_eq_true (by first | (with_reducible assumption) | assumption)
                    have q155 : x8_4 < (l0_1.length : Int) := of_decide_eq_true (by first | (with_reducible assumption) | assumption)
                    obtain ⟨ad155, A155_1, c155_1, A155_2, c155_2, e155, hx155_0, hx155_1, hx155_2, hl155_1, hi155_1, hl155_2, hi155_2⟩ := at_T38 HR0_1.out x8_4 p155 q155
                    cases e155
                    replace hx155_0 := (HB.out.cell (World.block_lt_of_cell? w _ hx155_0)).trans hx155_0
                    replace hx155_1 := (HB.out.cell (World.block_lt_of_cell? w _ hx155_1)).trans hx155_1
                    replace hx155_2 := (HB.out.cell (World.block_lt_of_cell? w _ hx155_2)).trans hx155_2
                    have HR155_1 := Aside0.mk hi155_1
                    have HC155_1 := Aside0.mk hl155_1
                    clear hi155_1 hl155_1
                    have HR155_2 := Aside0.mk hi155_2
                    have HC155_2 := Aside0.mk hl155_2
                    clear hi155_2 hl155_2
                    replace p155 := eq_true p155
                    replace q155 := eq_true q155
                    have p156 : 0 ≤ (x8_4 : Int) := of_decide_eq_true (by first | (with_reducible assumption) | assumption)
                    have q156 : x8_4 < (l0_1.length : Int) := of_decide_eq_true (by first | (with_reducible assumption) | assumption)
                    obtain ⟨ad156, A156_1, c156_1, A156_2, c156_2, e156, hx156_0, hx156_1, hx156_2, hl156_1, hi156_1, hl156_2, hi156_2⟩ := at_T38 HR0_1.out x8_4 p156 q156
                    obtain rfl : ad155 = ad156 := (by injection e156)
                    replace hx156_0 := (HB.out.cell (World.block_lt_of_cell? w _ hx156_0)).trans hx156_0
                    replace hx156_1 := (HB.out.cell (World.block_lt_of_cell? w _ hx156_1)).trans hx156_1
                    replace hx156_2 := (HB.out.cell (World.block_lt_of_cell? w _ hx156_2)).trans hx156_2
                    have HR156_1 := Aside0.mk hi156_1
                    have HC156_1 := Aside0.mk hl156_1
                    clear hi156_1 hl156_1
                    have HR156_2 := Aside0.mk hi156_2
                    have HC156_2 := Aside0.mk hl156_2
                    clear hi156_2 hl156_2
                    replace p156 := eq_true p156
                    replace q156 := eq_true q156
                    have ea_ := Option.some.inj (hx155_1.symm.trans hx156_1)
                    injection ea_ with ea_ en_ ec_
                    subst ea_
                    subst ec_
                    clear en_
                    have ea_ := Option.some.inj (hx155_2.symm.trans hx156_2)
                    injection ea_ with ea_ en_ ec_
                    subst ea_
                    subst ec_
                    clear en_
                    have p157 : 0 ≤ (x9_5 : Int) := of_decide_eq_true (by first | (with_reducible assumption) | assumption)
                    have q157 : x9_5 < (((rd_T38 l0_1 x8_4).f1).length : Int) := of_decide_eq_true (by first | (with_reducible assumption) | assumption)
                    obtain ⟨ad157, e157, hx157_0, hx157_1, hx157_2, hx157_3, hx157_4, hx157_5, hx157_6⟩ := at_T40 HR156_1.out x9_5 p157 q157
                    cases e157
                    replace hx157_0 := (HB.out.cell (World.block_lt_of_cell? w _ hx157_0)).trans hx157_0
                    replace hx157_1 := (HB.out.cell (World.block_lt_of_cell? w _ hx157_1)).trans hx157_1
                    replace hx157_2 := (HB.out.cell (World.block_lt_of_cell? w _ hx157_2)).trans hx157_2
                    replace hx157_3 := (HB.out.cell (World.block_lt_of_cell? w _ hx157_3)).trans hx157_3
                    replace hx157_4 := (HB.out.cell (World.block_lt_of_cell? w _ hx157_4)).trans hx157_4
                    replace hx157_5 := (HB.out.cell (World.block_lt_of_cell? w _ hx157_5)).trans hx157_5
                    replace hx157_6 := (HB.out.cell (World.block_lt_of_cell? w _ hx157_6)).trans hx157_6
                    replace p157 := eq_true p157
                    replace q157 := eq_true q157
                    go_wp2_with (first | ((with_reducible refine gate_dst (N := 10) rfl ?_); (try (refine gate_guard (by rfl) ?_; dsimp only)); refine box_event ?hg (N := 10) ?hd (cs := #[.string (⟨#[]⟩ : ByteArray), .int .i64 0, .int .i64 0, .string (⟨#[]⟩ : ByteArray), .bool false, .bool false, .string (⟨#[]⟩ : ByteArray)]) (t := 40) ?hr ?_; (case hd => rfl); (case hg => rfl); (case hr => first | (go_simp; done) | (go_simp; rfl)); intro gb158 hg w43 hbox hb; have n0_ := Aside0.mk (blk_below (g := gb146) (o := .cells #[.slice A0_0 l0_0.length c0_0, .slice (some ad155) l0_1.length c0_1] 30 (0, 0)) (by (with_reducible repeat (first | refine blk_drewN ?_ _ | refine blk_drew ?_ | refine blk_alloc ?_ _)); exact BK146.out) hb); have n1_ := Aside0.mk (below_step (by repeat (first | (with_reducible first | exact HB.out | apply below_alloc | apply pw_below_drewN | apply below_drew1 | refine below_set ?_ GE146.out) | exact HB.out)) hb); have n2_ := Aside0.mk (hbox); have n3_ := Aside0.mk ((by rw [hg]; exact (below_size (by repeat (first | (with_reducible first | exact HB.out | apply below_alloc | apply pw_below_drewN | apply below_drew1 | refine below_set ?_ GE146.out) | exact HB.out))) : w.heap.size ≤ gb158)); have n4_ := Aside0.mk ((by rw [hg]; exact (below_size (by repeat (first | (with_reducible first | exact HB.out | apply below_alloc | apply pw_below_drewN | apply below_drew1 | refine below_set ?_ GE146.out) | exact HB.out))) : w.heap.size ≤ gb158)); have n5_ := Aside0.mk ((by rw [hg]; exact Nat.ne_of_lt (blk_lt (g := gb146) (o := .cells #[.slice A0_0 l0_0.length c0_0, .slice (some ad155) l0_1.length c0_1] 30 (0, 0)) (by (with_reducible repeat (first | refine blk_drewN ?_ _ | refine blk_drew ?_ | refine blk_alloc ?_ _)); exact BK146.out)) : gb146 ≠ gb158)); have n6_ := Aside0.mk ((by rw [hg]; exact Nat.ne_of_gt (blk_lt (g := gb146) (o := .cells #[.slice A0_0 l0_0.length c0_0, .slice (some ad155) l0_1.length c0_1] 30 (0, 0)) (by (with_reducible repeat (first | refine blk_drewN ?_ _ | refine blk_drew ?_ | refine blk_alloc ?_ _)); exact BK146.out)) : gb158 ≠ gb146)); clear BK146; clear HB; have BK146 := n0_; have HB := n1_; have BK158 := n2_; have GW158 := n3_; have GE158 := n4_; have NB146_158 := n5_; have NB158_146 := n6_; clear n0_ n1_ n2_ n3_ n4_ n5_ n6_; clear hb hbox hg; have hnb44 := NB158_146.out; have hnc44 := NB146_158.out; have hcz45_0 : w43.cell? ⟨gb158, 0, none⟩ = some (.string (⟨#[]⟩ : ByteArray)) := (blk_cell BK158.out 0).trans rfl; have hcz45_1 : w43.cell? ⟨gb158, 1, none⟩ = some (.int .i64 0) := (blk_cell BK158.out 1).trans rfl; have hcz45_2 : w43.cell? ⟨gb158, 2, none⟩ = some (.int .i64 0) := (blk_cell BK158.out 2).trans rfl; have hcz45_3 : w43.cell? ⟨gb158, 3, none⟩ = some (.string (⟨#[]⟩ : ByteArray)) := (blk_cell BK158.out 3).trans rfl; have hcz45_4 : w43.cell? ⟨gb158, 4, none⟩ = some (.bool false) := (blk_cell BK158.out 4).trans rfl; have hcz45_5 : w43.cell? ⟨gb158, 5, none⟩ = some (.bool false) := (blk_cell BK158.out 5).trans rfl; have hcz45_6 : w43.cell? ⟨gb158, 6, none⟩ = some (.string (⟨#[]⟩ : ByteArray)) := (blk_cell BK158.out 6).trans rfl; have hfz45_0 := blk_frozen BK158.out 0; have hfz45_1 := blk_frozen BK158.out 1; have hfz45_2 := blk_frozen BK158.out 2; have hfz45_3 := blk_frozen BK158.out 3; have hfz45_4 := blk_frozen BK158.out 4; have hfz45_5 := blk_frozen BK158.out 5; have hfz45_6 := blk_frozen BK158.out 6))
                    repeat (go_quiet (first | ((with_reducible refine gate_dst (N := 10) rfl ?_); (try (refine gate_guard (by rfl) ?_; dsimp only)); refine box_event ?hg (N := 10) ?hd (cs := #[.string (⟨#[]⟩ : ByteArray), .int .i64 0, .int .i64 0, .string (⟨#[]⟩ : ByteArray), .bool false, .bool false, .string (⟨#[]⟩ : ByteArray)]) (t := 40) ?hr ?_; (case hd => rfl); (case hg => rfl); (case hr => first | (go_simp; done) | (go_simp; rfl)); intro gb158 hg w43 hbox hb; have n0_ := Aside0.mk (blk_below (g := gb146) (o := .cells #[.slice A0_0 l0_0.length c0_0, .slice (some ad155) l0_1.length c0_1] 30 (0, 0)) (by (with_reducible repeat (first | refine blk_drewN ?_ _ | refine blk_drew ?_ | refine blk_alloc ?_ _)); exact BK146.out) hb); have n1_ := Aside0.mk (below_step (by repeat (first | (with_reducible first | exact HB.out | apply below_alloc | apply pw_below_drewN | apply below_drew1 | refine below_set ?_ GE146.out) | exact HB.out)) hb); have n2_ := Aside0.mk (hbox); have n3_ := Aside0.mk ((by rw [hg]; exact (below_size (by repeat (first | (with_reducible first | exact HB.out | apply below_alloc | apply pw_below_drewN | apply below_drew1 | refine below_set ?_ GE146.out) | exact HB.out))) : w.heap.size ≤ gb158)); have n4_ := Aside0.mk ((by rw [hg]; exact (below_size (by repeat (first | (with_reducible first | exact HB.out | apply below_alloc | apply pw_below_drewN | apply below_drew1 | refine below_set ?_ GE146.out) | exact HB.out))) : w.heap.size ≤ gb158)); have n5_ := Aside0.mk ((by rw [hg]; exact Nat.ne_of_lt (blk_lt (g := gb146) (o := .cells #[.slice A0_0 l0_0.length c0_0, .slice (some ad155) l0_1.length c0_1] 30 (0, 0)) (by (with_reducible repeat (first | refine blk_drewN ?_ _ | refine blk_drew ?_ | refine blk_alloc ?_ _)); exact BK146.out)) : gb146 ≠ gb158)); have n6_ := Aside0.mk ((by rw [hg]; exact Nat.ne_of_gt (blk_lt (g := gb146) (o := .cells #[.slice A0_0 l0_0.length c0_0, .slice (some ad155) l0_1.length c0_1] 30 (0, 0)) (by (with_reducible repeat (first | refine blk_drewN ?_ _ | refine blk_drew ?_ | refine blk_alloc ?_ _)); exact BK146.out)) : gb158 ≠ gb146)); clear BK146; clear HB; have BK146 := n0_; have HB := n1_; have BK158 := n2_; have GW158 := n3_; have GE158 := n4_; have NB146_158 := n5_; have NB158_146 := n6_; clear n0_ n1_ n2_ n3_ n4_ n5_ n6_; clear hb hbox hg; have hnb44 := NB158_146.out; have hnc44 := NB146_158.out; have hcz45_0 : w43.cell? ⟨gb158, 0, none⟩ = some (.string (⟨#[]⟩ : ByteArray)) := (blk_cell BK158.out 0).trans rfl; have hcz45_1 : w43.cell? ⟨gb158, 1, none⟩ = some (.int .i64 0) := (blk_cell BK158.out 1).trans rfl; have hcz45_2 : w43.cell? ⟨gb158, 2, none⟩ = some (.int .i64 0) := (blk_cell BK158.out 2).trans rfl; have hcz45_3 : w43.cell? ⟨gb158, 3, none⟩ = some (.string (⟨#[]⟩ : ByteArray)) := (blk_cell BK158.out 3).trans rfl; have hcz45_4 : w43.cell? ⟨gb158, 4, none⟩ = some (.bool false) := (blk_cell BK158.out 4).trans rfl; have hcz45_5 : w43.cell? ⟨gb158, 5, none⟩ = some (.bool false) := (blk_cell BK158.out 5).trans rfl; have hcz45_6 : w43.cell? ⟨gb158, 6, none⟩ = some (.string (⟨#[]⟩ : ByteArray)) := (blk_cell BK158.out 6).trans rfl; have hfz45_0 := blk_frozen BK158.out 0; have hfz45_1 := blk_frozen BK158.out 1; have hfz45_2 := blk_frozen BK158.out 2; have hfz45_3 := blk_frozen BK158.out 3; have hfz45_4 := blk_frozen BK158.out 4; have hfz45_5 := blk_frozen BK158.out 5; have hfz45_6 := blk_frozen BK158.out 6)); try go_wp2_with (first | ((with_reducible refine gate_dst (N := 10) rfl ?_); (try (refine gate_guard (by rfl) ?_; dsimp only)); refine box_event ?hg (N := 10) ?hd (cs := #[.string (⟨#[]⟩ : ByteArray), .int .i64 0, .int .i64 0, .string (⟨#[]⟩ : ByteArray), .bool false, .bool false, .string (⟨#[]⟩ : ByteArray)]) (t := 40) ?hr ?_; (case hd => rfl); (case hg => rfl); (case hr => first | (go_simp; done) | (go_simp; rfl)); intro gb158 hg w43 hbox hb; have n0_ := Aside0.mk (blk_below (g := gb146) (o := .cells #[.slice A0_0 l0_0.length c0_0, .slice (some ad155) l0_1.length c0_1] 30 (0, 0)) (by (with_reducible repeat (first | refine blk_drewN ?_ _ | refine blk_drew ?_ | refine blk_alloc ?_ _)); exact BK146.out) hb); have n1_ := Aside0.mk (below_step (by repeat (first | (with_reducible first | exact HB.out | apply below_alloc | apply pw_below_drewN | apply below_drew1 | refine below_set ?_ GE146.out) | exact HB.out)) hb); have n2_ := Aside0.mk (hbox); have n3_ := Aside0.mk ((by rw [hg]; exact (below_size (by repeat (first | (with_reducible first | exact HB.out | apply below_alloc | apply pw_below_drewN | apply below_drew1 | refine below_set ?_ GE146.out) | exact HB.out))) : w.heap.size ≤ gb158)); have n4_ := Aside0.mk ((by rw [hg]; exact (below_size (by repeat (first | (with_reducible first | exact HB.out | apply below_alloc | apply pw_below_drewN | apply below_drew1 | refine below_set ?_ GE146.out) | exact HB.out))) : w.heap.size ≤ gb158)); have n5_ := Aside0.mk ((by rw [hg]; exact Nat.ne_of_lt (blk_lt (g := gb146) (o := .cells #[.slice A0_0 l0_0.length c0_0, .slice (some ad155) l0_1.length c0_1] 30 (0, 0)) (by (with_reducible repeat (first | refine blk_drewN ?_ _ | refine blk_drew ?_ | refine blk_alloc ?_ _)); exact BK146.out)) : gb146 ≠ gb158)); have n6_ := Aside0.mk ((by rw [hg]; exact Nat.ne_of_gt (blk_lt (g := gb146) (o := .cells #[.slice A0_0 l0_0.length c0_0, .slice (some ad155) l0_1.length c0_1] 30 (0, 0)) (by (with_reducible repeat (first | refine blk_drewN ?_ _ | refine blk_drew ?_ | refine blk_alloc ?_ _)); exact BK146.out)) : gb158 ≠ gb146)); clear BK146; clear HB; have BK146 := n0_; have HB := n1_; have BK158 := n2_; have GW158 := n3_; have GE158 := n4_; have NB146_158 := n5_; have NB158_146 := n6_; clear n0_ n1_ n2_ n3_ n4_ n5_ n6_; clear hb hbox hg; have hnb44 := NB158_146.out; have hnc44 := NB146_158.out; have hcz45_0 : w43.cell? ⟨gb158, 0, none⟩ = some (.string (⟨#[]⟩ : ByteArray)) := (blk_cell BK158.out 0).trans rfl; have hcz45_1 : w43.cell? ⟨gb158, 1, none⟩ = some (.int .i64 0) := (blk_cell BK158.out 1).trans rfl; have hcz45_2 : w43.cell? ⟨gb158, 2, none⟩ = some (.int .i64 0) := (blk_cell BK158.out 2).trans rfl; have hcz45_3 : w43.cell? ⟨gb158, 3, none⟩ = some (.string (⟨#[]⟩ : ByteArray)) := (blk_cell BK158.out 3).trans rfl; have hcz45_4 : w43.cell? ⟨gb158, 4, none⟩ = some (.bool false) := (blk_cell BK158.out 4).trans rfl; have hcz45_5 : w43.cell? ⟨gb158, 5, none⟩ = some (.bool false) := (blk_cell BK158.out 5).trans rfl; have hcz45_6 : w43.cell? ⟨gb158, 6, none⟩ = some (.string (⟨#[]⟩ : ByteArray)) := (blk_cell BK158.out 6).trans rfl; have hfz45_0 := blk_frozen BK158.out 0; have hfz45_1 := blk_frozen BK158.out 1; have hfz45_2 := blk_frozen BK158.out 2; have hfz45_3 := blk_frozen BK158.out 3; have hfz45_4 := blk_frozen BK158.out 4; have hfz45_5 := blk_frozen BK158.out 5; have hfz45_6 := blk_frozen BK158.out 6)))
                    go_ret
                    exact ⟨by first | rfl | (simp [errW_none, errW_some] <;> rfl) | (simp [*, errW_none, errW_some] <;> rfl), by repeat (first | (with_reducible first | exact HB.out | apply below_alloc | apply pw_below_drewN | apply below_drew1 | refine below_set ?_ GE146.out | refine below_set ?_ GE158.out) | exact HB.out)⟩
                   ·rw [if_neg c41] at H
                    have c41b0 : decide (1000 < (((rd_T40 ((rd_T38 l0_1 x8_4).f1) x9_5).f3).size : Int)) = false := decide_eq_false c41
                    have c41b1 : decide (1000 < ((rd_T40 ((rd_T38 l0_1 x8_4).f1) x9_5).f3).size) = false := decide_eq_false (by omega)
                    clear c41
                    by_cases c46 : (((rd_T40 ((rd_T38 l0_1 x8_4).f1) x9_5).f6).size : Int) > 1000
                    ·rw [if_pos c46] at H
                     have c46b0 : decide (1000 < (((rd_T40 ((rd_T38 l0_1 x8_4).f1) x9_5).f6).size : Int)) = true := decide_eq_true c46
                     have c46b1 : decide (1000 < ((rd_T40 ((rd_T38 l0_1 x8_4).f1) x9_5).f6).size) = true := decide_eq_true (by omega)
                     clear c46
                     obtain rfl := Option.some.inj H
                     have hcz47_0 : wr.cell? ⟨gb146, 0, none⟩ = some (.slice A0_0 l0_0.length c0_0) := (blk_cell BK146.out 0).trans rfl
                     have hcz47_1 : wr.cell? ⟨gb146, 1, none⟩ = some (.slice A0_1 l0_1.length c0_1) := (blk_cell BK146.out 1).trans rfl
                     have hfz47_0 := blk_frozen BK146.out 0
                     have hfz47_1 := blk_frozen BK146.out 1
                     have p155 : 0 ≤ (x8_4 : Int) := of_decide_eq_true (by first | (with_reducible assumption) | assumption)
                     have q155 : x8_4 < (l0_1.length : Int) := of_decide_eq_true (by first | (with_reducible assumption) | assumption)
                     obtain ⟨ad155, A155_1, c155_1, A155_2, c155_2, e155, hx155_0, hx155_1, hx155_2, hl155_1, hi155_1, hl155_2, hi155_2⟩ := at_T38 HR0_1.out x8_4 p155 q155
                     cases e155
                     replace hx155_0 := (HB.out.cell (World.block_lt_of_cell? w _ hx155_0)).trans hx155_0
                     replace hx155_1 := (HB.out.cell (World.block_lt_of_cell? w _ hx155_1)).trans hx155_1
                     replace hx155_2 := (HB.out.cell (World.block_lt_of_cell? w _ hx155_2)).trans hx155_2
                     have HR155_1 := Aside0.mk hi155_1
                     have HC155_1 := Aside0.mk hl155_1
                     clear hi155_1 hl155_1
                     have HR155_2 := Aside0.mk hi155_2
                     have HC155_2 := Aside0.mk hl155_2
                     clear hi155_2 hl155_2
                     replace p155 := eq_true p155
                     replace q155 := eq_true q155
                     have p156 : 0 ≤ (x8_4 : Int) := of_decide_eq_true (by first | (with_reducible assumption) | assumption)
                     have q156 : x8_4 < (l0_1.length : Int) := of_decide_eq_true (by first | (with_reducible assumption) | assumption)
                     obtain ⟨ad156, A156_1, c156_1, A156_2, c156_2, e156, hx156_0, hx156_1, hx156_2, hl156_1, hi156_1, hl156_2, hi156_2⟩ := at_T38 HR0_1.out x8_4 p156 q156
                     obtain rfl : ad155 = ad156 := (by injection e156)
                     replace hx156_0 := (HB.out.cell (World.block_lt_of_cell? w _ hx156_0)).trans hx156_0
                     replace hx156_1 := (HB.out.cell (World.block_lt_of_cell? w _ hx156_1)).trans hx156_1
                     replace hx156_2 := (HB.out.cell (World.block_lt_of_cell? w _ hx156_2)).trans hx156_2
                     have HR156_1 := Aside0.mk hi156_1
                     have HC156_1 := Aside0.mk hl156_1
                     clear hi156_1 hl156_1
                     have HR156_2 := Aside0.mk hi156_2
                     have HC156_2 := Aside0.mk hl156_2
                     clear hi156_2 hl156_2
                     replace p156 := eq_true p156
                     replace q156 := eq_true q156
                     have ea_ := Option.some.inj (hx155_1.symm.trans hx156_1)
                     injection ea_ with ea_ en_ ec_
                     subst ea_
                     subst ec_
                     clear en_
                     have ea_ := Option.some.inj (hx155_2.symm.trans hx156_2)
                     injection ea_ with ea_ en_ ec_
                     subst ea_
                     subst ec_
                     clear en_
                     have p157 : 0 ≤ (x9_5 : Int) := of_decide_eq_true (by first | (with_reducible assumption) | assumption)
                     have q157 : x9_5 < (((rd_T38 l0_1 x8_4).f1).length : Int) := of_decide_eq_true (by first | (with_reducible assumption) | assumption)
                     obtain ⟨ad157, e157, hx157_0, hx157_1, hx157_2, hx157_3, hx157_4, hx157_5, hx157_6⟩ := at_T40 HR156_1.out x9_5 p157 q157
                     cases e157
                     replace hx157_0 := (HB.out.cell (World.block_lt_of_cell? w _ hx157_0)).trans hx157_0
                     replace hx157_1 := (HB.out.cell (World.block_lt_of_cell? w _ hx157_1)).trans hx157_1
                     replace hx157_2 := (HB.out.cell (World.block_lt_of_cell? w _ hx157_2)).trans hx157_2
                     replace hx157_3 := (HB.out.cell (World.block_lt_of_cell? w _ hx157_3)).trans hx157_3
                     replace hx157_4 := (HB.out.cell (World.block_lt_of_cell? w _ hx157_4)).trans hx157_4
                     replace hx157_5 := (HB.out.cell (World.block_lt_of_cell? w _ hx157_5)).trans hx157_5
                     replace hx157_6 := (HB.out.cell (World.block_lt_of_cell? w _ hx157_6)).trans hx157_6
                     replace p157 := eq_true p157
                     replace q157 := eq_true q157
                     go_wp2_with (first | ((with_reducible refine gate_dst (N := 10) rfl ?_); (try (refine gate_guard (by rfl) ?_; dsimp only)); refine box_event ?hg (N := 10) ?hd (cs := #[.string (⟨#[]⟩ : ByteArray), .int .i64 0, .int .i64 0, .string (⟨#[]⟩ : ByteArray), .bool false, .bool false, .string (⟨#[]⟩ : ByteArray)]) (t := 40) ?hr ?_; (case hd => rfl); (case hg => rfl); (case hr => first | (go_simp; done) | (go_simp; rfl)); intro gb158 hg w48 hbox hb; have n0_ := Aside0.mk (blk_below (g := gb146) (o := .cells #[.slice A0_0 l0_0.length c0_0, .slice (some ad155) l0_1.length c0_1] 30 (0, 0)) (by (with_reducible repeat (first | refine blk_drewN ?_ _ | refine blk_drew ?_ | refine blk_alloc ?_ _)); exact BK146.out) hb); have n1_ := Aside0.mk (below_step (by repeat (first | (with_reducible first | exact HB.out | apply below_alloc | apply pw_below_drewN | apply below_drew1 | refine below_set ?_ GE146.out) | exact HB.out)) hb); have n2_ := Aside0.mk (hbox); have n3_ := Aside0.mk ((by rw [hg]; exact (below_size (by repeat (first | (with_reducible first | exact HB.out | apply below_alloc | apply pw_below_drewN | apply below_drew1 | refine below_set ?_ GE146.out) | exact HB.out))) : w.heap.size ≤ gb158)); have n4_ := Aside0.mk ((by rw [hg]; exact (below_size (by repeat (first | (with_reducible first | exact HB.out | apply below_alloc | apply pw_below_drewN | apply below_drew1 | refine below_set ?_ GE146.out) | exact HB.out))) : w.heap.size ≤ gb158)); have n5_ := Aside0.mk ((by rw [hg]; exact Nat.ne_of_lt (blk_lt (g := gb146) (o := .cells #[.slice A0_0 l0_0.length c0_0, .slice (some ad155) l0_1.length c0_1] 30 (0, 0)) (by (with_reducible repeat (first | refine blk_drewN ?_ _ | refine blk_drew ?_ | refine blk_alloc ?_ _)); exact BK146.out)) : gb146 ≠ gb158)); have n6_ := Aside0.mk ((by rw [hg]; exact Nat.ne_of_gt (blk_lt (g := gb146) (o := .cells #[.slice A0_0 l0_0.length c0_0, .slice (some ad155) l0_1.length c0_1] 30 (0, 0)) (by (with_reducible repeat (first | refine blk_drewN ?_ _ | refine blk_drew ?_ | refine blk_alloc ?_ _)); exact BK146.out)) : gb158 ≠ gb146)); clear BK146; clear HB; have BK146 := n0_; have HB := n1_; have BK158 := n2_; have GW158 := n3_; have GE158 := n4_; have NB146_158 := n5_; have NB158_146 := n6_; clear n0_ n1_ n2_ n3_ n4_ n5_ n6_; clear hb hbox hg; have hnb49 := NB158_146.out; have hnc49 := NB146_158.out; have hcz50_0 : w48.cell? ⟨gb158, 0, none⟩ = some (.string (⟨#[]⟩ : ByteArray)) := (blk_cell BK158.out 0).trans rfl; have hcz50_1 : w48.cell? ⟨gb158, 1, none⟩ = some (.int .i64 0) := (blk_cell BK158.out 1).trans rfl; have hcz50_2 : w48.cell? ⟨gb158, 2, none⟩ = some (.int .i64 0) := (blk_cell BK158.out 2).trans rfl; have hcz50_3 : w48.cell? ⟨gb158, 3, none⟩ = some (.string (⟨#[]⟩ : ByteArray)) := (blk_cell BK158.out 3).trans rfl; have hcz50_4 : w48.cell? ⟨gb158, 4, none⟩ = some (.bool false) := (blk_cell BK158.out 4).trans rfl; have hcz50_5 : w48.cell? ⟨gb158, 5, none⟩ = some (.bool false) := (blk_cell BK158.out 5).trans rfl; have hcz50_6 : w48.cell? ⟨gb158, 6, none⟩ = some (.string (⟨#[]⟩ : ByteArray)) := (blk_cell BK158.out 6).trans rfl; have hfz50_0 := blk_frozen BK158.out 0; have hfz50_1 := blk_frozen BK158.out 1; have hfz50_2 := blk_frozen BK158.out 2; have hfz50_3 := blk_frozen BK158.out 3; have hfz50_4 := blk_frozen BK158.out 4; have hfz50_5 := blk_frozen BK158.out 5; have hfz50_6 := blk_frozen BK158.out 6))
                     repeat (go_quiet (first | ((with_reducible refine gate_dst (N := 10) rfl ?_); (try (refine gate_guard (by rfl) ?_; dsimp only)); refine box_event ?hg (N := 10) ?hd (cs := #[.string (⟨#[]⟩ : ByteArray), .int .i64 0, .int .i64 0, .string (⟨#[]⟩ : ByteArray), .bool false, .bool false, .string (⟨#[]⟩ : ByteArray)]) (t := 40) ?hr ?_; (case hd => rfl); (case hg => rfl); (case hr => first | (go_simp; done) | (go_simp; rfl)); intro gb158 hg w48 hbox hb; have n0_ := Aside0.mk (blk_below (g := gb146) (o := .cells #[.slice A0_0 l0_0.length c0_0, .slice (some ad155) l0_1.length c0_1] 30 (0, 0)) (by (with_reducible repeat (first | refine blk_drewN ?_ _ | refine blk_drew ?_ | refine blk_alloc ?_ _)); exact BK146.out) hb); have n1_ := Aside0.mk (below_step (by repeat (first | (with_reducible first | exact HB.out | apply below_alloc | apply pw_below_drewN | apply below_drew1 | refine below_set ?_ GE146.out) | exact HB.out)) hb); have n2_ := Aside0.mk (hbox); have n3_ := Aside0.mk ((by rw [hg]; exact (below_size (by repeat (first | (with_reducible first | exact HB.out | apply below_alloc | apply pw_below_drewN | apply below_drew1 | refine below_set ?_ GE146.out) | exact HB.out))) : w.heap.size ≤ gb158)); have n4_ := Aside0.mk ((by rw [hg]; exact (below_size (by repeat (first | (with_reducible first | exact HB.out | apply below_alloc | apply pw_below_drewN | apply below_drew1 | refine below_set ?_ GE146.out) | exact HB.out))) : w.heap.size ≤ gb158)); have n5_ := Aside0.mk ((by rw [hg]; exact Nat.ne_of_lt (blk_lt (g := gb146) (o := .cells #[.slice A0_0 l0_0.length c0_0, .slice (some ad155) l0_1.length c0_1] 30 (0, 0)) (by (with_reducible repeat (first | refine blk_drewN ?_ _ | refine blk_drew ?_ | refine blk_alloc ?_ _)); exact BK146.out)) : gb146 ≠ gb158)); have n6_ := Aside0.mk ((by rw [hg]; exact Nat.ne_of_gt (blk_lt (g := gb146) (o := .cells #[.slice A0_0 l0_0.length c0_0, .slice (some ad155) l0_1.length c0_1] 30 (0, 0)) (by (with_reducible repeat (first | refine blk_drewN ?_ _ | refine blk_drew ?_ | refine blk_alloc ?_ _)); exact BK146.out)) : gb158 ≠ gb146)); clear BK146; clear HB; have BK146 := n0_; have HB := n1_; have BK158 := n2_; have GW158 := n3_; have GE158 := n4_; have NB146_158 := n5_; have NB158_146 := n6_; clear n0_ n1_ n2_ n3_ n4_ n5_ n6_; clear hb hbox hg; have hnb49 := NB158_146.out; have hnc49 := NB146_158.out; have hcz50_0 : w48.cell? ⟨gb158, 0, none⟩ = some (.string (⟨#[]⟩ : ByteArray)) := (blk_cell BK158.out 0).trans rfl; have hcz50_1 : w48.cell? ⟨gb158, 1, none⟩ = some (.int .i64 0) := (blk_cell BK158.out 1).trans rfl; have hcz50_2 : w48.cell? ⟨gb158, 2, none⟩ = some (.int .i64 0) := (blk_cell BK158.out 2).trans rfl; have hcz50_3 : w48.cell? ⟨gb158, 3, none⟩ = some (.string (⟨#[]⟩ : ByteArray)) := (blk_cell BK158.out 3).trans rfl; have hcz50_4 : w48.cell? ⟨gb158, 4, none⟩ = some (.bool false) := (blk_cell BK158.out 4).trans rfl; have hcz50_5 : w48.cell? ⟨gb158, 5, none⟩ = some (.bool false) := (blk_cell BK158.out 5).trans rfl; have hcz50_6 : w48.cell? ⟨gb158, 6, none⟩ = some (.string (⟨#[]⟩ : ByteArray)) := (blk_cell BK158.out 6).trans rfl; have hfz50_0 := blk_frozen BK158.out 0; have hfz50_1 := blk_frozen BK158.out 1; have hfz50_2 := blk_frozen BK158.out 2; have hfz50_3 := blk_frozen BK158.out 3; have hfz50_4 := blk_frozen BK158.out 4; have hfz50_5 := blk_frozen BK158.out 5; have hfz50_6 := blk_frozen BK158.out 6)); try go_wp2_with (first | ((with_reducible refine gate_dst (N := 10) rfl ?_); (try (refine gate_guard (by rfl) ?_; dsimp only)); refine box_event ?hg (N := 10) ?hd (cs := #[.string (⟨#[]⟩ : ByteArray), .int .i64 0, .int .i64 0, .string (⟨#[]⟩ : ByteArray), .bool false, .bool false, .string (⟨#[]⟩ : ByteArray)]) (t := 40) ?hr ?_; (case hd => rfl); (case hg => rfl); (case hr => first | (go_simp; done) | (go_simp; rfl)); intro gb158 hg w48 hbox hb; have n0_ := Aside0.mk (blk_below (g := gb146) (o := .cells #[.slice A0_0 l0_0.length c0_0, .slice (some ad155) l0_1.length c0_1] 30 (0, 0)) (by (with_reducible repeat (first | refine blk_drewN ?_ _ | refine blk_drew ?_ | refine blk_alloc ?_ _)); exact BK146.out) hb); have n1_ := Aside0.mk (below_step (by repeat (first | (with_reducible first | exact HB.out | apply below_alloc | apply pw_below_drewN | apply below_drew1 | refine below_set ?_ GE146.out) | exact HB.out)) hb); have n2_ := Aside0.mk (hbox); have n3_ := Aside0.mk ((by rw [hg]; exact (below_size (by repeat (first | (with_reducible first | exact HB.out | apply below_alloc | apply pw_below_drewN | apply below_drew1 | refine below_set ?_ GE146.out) | exact HB.out))) : w.heap.size ≤ gb158)); have n4_ := Aside0.mk ((by rw [hg]; exact (below_size (by repeat (first | (with_reducible first | exact HB.out | apply below_alloc | apply pw_below_drewN | apply below_drew1 | refine below_set ?_ GE146.out) | exact HB.out))) : w.heap.size ≤ gb158)); have n5_ := Aside0.mk ((by rw [hg]; exact Nat.ne_of_lt (blk_lt (g := gb146) (o := .cells #[.slice A0_0 l0_0.length c0_0, .slice (some ad155) l0_1.length c0_1] 30 (0, 0)) (by (with_reducible repeat (first | refine blk_drewN ?_ _ | refine blk_drew ?_ | refine blk_alloc ?_ _)); exact BK146.out)) : gb146 ≠ gb158)); have n6_ := Aside0.mk ((by rw [hg]; exact Nat.ne_of_gt (blk_lt (g := gb146) (o := .cells #[.slice A0_0 l0_0.length c0_0, .slice (some ad155) l0_1.length c0_1] 30 (0, 0)) (by (with_reducible repeat (first | refine blk_drewN ?_ _ | refine blk_drew ?_ | refine blk_alloc ?_ _)); exact BK146.out)) : gb158 ≠ gb146)); clear BK146; clear HB; have BK146 := n0_; have HB := n1_; have BK158 := n2_; have GW158 := n3_; have GE158 := n4_; have NB146_158 := n5_; have NB158_146 := n6_; clear n0_ n1_ n2_ n3_ n4_ n5_ n6_; clear hb hbox hg; have hnb49 := NB158_146.out; have hnc49 := NB146_158.out; have hcz50_0 : w48.cell? ⟨gb158, 0, none⟩ = some (.string (⟨#[]⟩ : ByteArray)) := (blk_cell BK158.out 0).trans rfl; have hcz50_1 : w48.cell? ⟨gb158, 1, none⟩ = some (.int .i64 0) := (blk_cell BK158.out 1).trans rfl; have hcz50_2 : w48.cell? ⟨gb158, 2, none⟩ = some (.int .i64 0) := (blk_cell BK158.out 2).trans rfl; have hcz50_3 : w48.cell? ⟨gb158, 3, none⟩ = some (.string (⟨#[]⟩ : ByteArray)) := (blk_cell BK158.out 3).trans rfl; have hcz50_4 : w48.cell? ⟨gb158, 4, none⟩ = some (.bool false) := (blk_cell BK158.out 4).trans rfl; have hcz50_5 : w48.cell? ⟨gb158, 5, none⟩ = some (.bool false) := (blk_cell BK158.out 5).trans rfl; have hcz50_6 : w48.cell? ⟨gb158, 6, none⟩ = some (.string (⟨#[]⟩ : ByteArray)) := (blk_cell BK158.out 6).trans rfl; have hfz50_0 := blk_frozen BK158.out 0; have hfz50_1 := blk_frozen BK158.out 1; have hfz50_2 := blk_frozen BK158.out 2; have hfz50_3 := blk_frozen BK158.out 3; have hfz50_4 := blk_frozen BK158.out 4; have hfz50_5 := blk_frozen BK158.out 5; have hfz50_6 := blk_frozen BK158.out 6)))
                     go_ret
                     exact ⟨by first | rfl | (simp [errW_none, errW_some] <;> rfl) | (simp [*, errW_none, errW_some] <;> rfl), by repeat (first | (with_reducible first | exact HB.out | apply below_alloc | apply pw_below_drewN | apply below_drew1 | refine below_set ?_ GE146.out | refine below_set ?_ GE158.out) | exact HB.out)⟩
                    ·rw [if_neg c46] at H
                     have c46b0 : decide (1000 < (((rd_T40 ((rd_T38 l0_1 x8_4).f1) x9_5).f6).size : Int)) = false := decide_eq_false c46
                     have c46b1 : decide (1000 < ((rd_T40 ((rd_T38 l0_1 x8_4).f1) x9_5).f6).size) = false := decide_eq_false (by omega)
                     clear c46
                     have H' := Aside0.mk H
                     clear H
                     have hcz51_0 : wr.cell? ⟨gb146, 0, none⟩ = some (.slice A0_0 l0_0.length c0_0) := (blk_cell BK146.out 0).trans rfl
                     have hcz51_1 : wr.cell? ⟨gb146, 1, none⟩ = some (.slice A0_1 l0_1.length c0_1) := (blk_cell BK146.out 1).trans rfl
                     have hfz51_0 := blk_frozen BK146.out 0
                     have hfz51_1 := blk_frozen BK146.out 1
                     have p155 : 0 ≤ (x8_4 : Int) := of_decide_eq_true (by first | (with_reducible assumption) | assumption)
                     have q155 : x8_4 < (l0_1.length : Int) := of_decide_eq_true (by first | (with_reducible assumption) | assumption)
                     obtain ⟨ad155, A155_1, c155_1, A155_2, c155_2, e155, hx155_0, hx155_1, hx155_2, hl155_1, hi155_1, hl155_2, hi155_2⟩ := at_T38 HR0_1.out x8_4 p155 q155
                     cases e155
                     replace hx155_0 := (HB.out.cell (World.block_lt_of_cell? w _ hx155_0)).trans hx155_0
                     replace hx155_1 := (HB.out.cell (World.block_lt_of_cell? w _ hx155_1)).trans hx155_1
                     replace hx155_2 := (HB.out.cell (World.block_lt_of_cell? w _ hx155_2)).trans hx155_2
                     have HR155_1 := Aside0.mk hi155_1
                     have HC155_1 := Aside0.mk hl155_1
                     clear hi155_1 hl155_1
                     have HR155_2 := Aside0.mk hi155_2
                     have HC155_2 := Aside0.mk hl155_2
                     clear hi155_2 hl155_2
                     replace p155 := eq_true p155
                     replace q155 := eq_true q155
                     have p156 : 0 ≤ (x8_4 : Int) := of_decide_eq_true (by first | (with_reducible assumption) | assumption)
                     have q156 : x8_4 < (l0_1.length : Int) := of_decide_eq_true (by first | (with_reducible assumption) | assumption)
                     obtain ⟨ad156, A156_1, c156_1, A156_2, c156_2, e156, hx156_0, hx156_1, hx156_2, hl156_1, hi156_1, hl156_2, hi156_2⟩ := at_T38 HR0_1.out x8_4 p156 q156
                     obtain rfl : ad155 = ad156 := (by injection e156)
                     replace hx156_0 := (HB.out.cell (World.block_lt_of_cell? w _ hx156_0)).trans hx156_0
                     replace hx156_1 := (HB.out.cell (World.block_lt_of_cell? w _ hx156_1)).trans hx156_1
                     replace hx156_2 := (HB.out.cell (World.block_lt_of_cell? w _ hx156_2)).trans hx156_2
                     have HR156_1 := Aside0.mk hi156_1
                     have HC156_1 := Aside0.mk hl156_1
                     clear hi156_1 hl156_1
                     have HR156_2 := Aside0.mk hi156_2
                     have HC156_2 := Aside0.mk hl156_2
                     clear hi156_2 hl156_2
                     replace p156 := eq_true p156
                     replace q156 := eq_true q156
                     have ea_ := Option.some.inj (hx155_1.symm.trans hx156_1)
                     injection ea_ with ea_ en_ ec_
                     subst ea_
                     subst ec_
                     clear en_
                     have ea_ := Option.some.inj (hx155_2.symm.trans hx156_2)
                     injection ea_ with ea_ en_ ec_
                     subst ea_
                     subst ec_
                     clear en_
                     have p157 : 0 ≤ (x9_5 : Int) := of_decide_eq_true (by first | (with_reducible assumption) | assumption)
                     have q157 : x9_5 < (((rd_T38 l0_1 x8_4).f1).length : Int) := of_decide_eq_true (by first | (with_reducible assumption) | assumption)
                     obtain ⟨ad157, e157, hx157_0, hx157_1, hx157_2, hx157_3, hx157_4, hx157_5, hx157_6⟩ := at_T40 HR156_1.out x9_5 p157 q157
                     cases e157
                     replace hx157_0 := (HB.out.cell (World.block_lt_of_cell? w _ hx157_0)).trans hx157_0
                     replace hx157_1 := (HB.out.cell (World.block_lt_of_cell? w _ hx157_1)).trans hx157_1
                     replace hx157_2 := (HB.out.cell (World.block_lt_of_cell? w _ hx157_2)).trans hx157_2
                     replace hx157_3 := (HB.out.cell (World.block_lt_of_cell? w _ hx157_3)).trans hx157_3
                     replace hx157_4 := (HB.out.cell (World.block_lt_of_cell? w _ hx157_4)).trans hx157_4
                     replace hx157_5 := (HB.out.cell (World.block_lt_of_cell? w _ hx157_5)).trans hx157_5
                     replace hx157_6 := (HB.out.cell (World.block_lt_of_cell? w _ hx157_6)).trans hx157_6
                     replace p157 := eq_true p157
                     replace q157 := eq_true q157
                     go_wp2_with (first | ((with_reducible refine gate_dst (N := 10) rfl ?_); (try (refine gate_guard (by rfl) ?_; dsimp only)); refine box_event ?hg (N := 10) ?hd (cs := #[.string (⟨#[]⟩ : ByteArray), .int .i64 0, .int .i64 0, .string (⟨#[]⟩ : ByteArray), .bool false, .bool false, .string (⟨#[]⟩ : ByteArray)]) (t := 40) ?hr ?_; (case hd => rfl); (case hg => rfl); (case hr => first | (go_simp; done) | (go_simp; rfl)); intro gb158 hg w52 hbox hb; have n0_ := Aside0.mk (blk_below (g := gb146) (o := .cells #[.slice A0_0 l0_0.length c0_0, .slice (some ad155) l0_1.length c0_1] 30 (0, 0)) (by (with_reducible repeat (first | refine blk_drewN ?_ _ | refine blk_drew ?_ | refine blk_alloc ?_ _)); exact BK146.out) hb); have n1_ := Aside0.mk (below_step (by repeat (first | (with_reducible first | exact HB.out | apply below_alloc | apply pw_below_drewN | apply below_drew1 | refine below_set ?_ GE146.out) | exact HB.out)) hb); have n2_ := Aside0.mk (hbox); have n3_ := Aside0.mk ((by rw [hg]; exact (below_size (by repeat (first | (with_reducible first | exact HB.out | apply below_alloc | apply pw_below_drewN | apply below_drew1 | refine below_set ?_ GE146.out) | exact HB.out))) : w.heap.size ≤ gb158)); have n4_ := Aside0.mk ((by rw [hg]; exact (below_size (by repeat (first | (with_reducible first | exact HB.out | apply below_alloc | apply pw_below_drewN | apply below_drew1 | refine below_set ?_ GE146.out) | exact HB.out))) : w.heap.size ≤ gb158)); have n5_ := Aside0.mk ((by rw [hg]; exact Nat.ne_of_lt (blk_lt (g := gb146) (o := .cells #[.slice A0_0 l0_0.length c0_0, .slice (some ad155) l0_1.length c0_1] 30 (0, 0)) (by (with_reducible repeat (first | refine blk_drewN ?_ _ | refine blk_drew ?_ | refine blk_alloc ?_ _)); exact BK146.out)) : gb146 ≠ gb158)); have n6_ := Aside0.mk ((by rw [hg]; exact Nat.ne_of_gt (blk_lt (g := gb146) (o := .cells #[.slice A0_0 l0_0.length c0_0, .slice (some ad155) l0_1.length c0_1] 30 (0, 0)) (by (with_reducible repeat (first | refine blk_drewN ?_ _ | refine blk_drew ?_ | refine blk_alloc ?_ _)); exact BK146.out)) : gb158 ≠ gb146)); clear BK146; clear HB; have BK146 := n0_; have HB := n1_; have BK158 := n2_; have GW158 := n3_; have GE158 := n4_; have NB146_158 := n5_; have NB158_146 := n6_; clear n0_ n1_ n2_ n3_ n4_ n5_ n6_; clear hb hbox hg; have hnb53 := NB158_146.out; have hnc53 := NB146_158.out; have hcz54_0 : w52.cell? ⟨gb158, 0, none⟩ = some (.string (⟨#[]⟩ : ByteArray)) := (blk_cell BK158.out 0).trans rfl; have hcz54_1 : w52.cell? ⟨gb158, 1, none⟩ = some (.int .i64 0) := (blk_cell BK158.out 1).trans rfl; have hcz54_2 : w52.cell? ⟨gb158, 2, none⟩ = some (.int .i64 0) := (blk_cell BK158.out 2).trans rfl; have hcz54_3 : w52.cell? ⟨gb158, 3, none⟩ = some (.string (⟨#[]⟩ : ByteArray)) := (blk_cell BK158.out 3).trans rfl; have hcz54_4 : w52.cell? ⟨gb158, 4, none⟩ = some (.bool false) := (blk_cell BK158.out 4).trans rfl; have hcz54_5 : w52.cell? ⟨gb158, 5, none⟩ = some (.bool false) := (blk_cell BK158.out 5).trans rfl; have hcz54_6 : w52.cell? ⟨gb158, 6, none⟩ = some (.string (⟨#[]⟩ : ByteArray)) := (blk_cell BK158.out 6).trans rfl; have hfz54_0 := blk_frozen BK158.out 0; have hfz54_1 := blk_frozen BK158.out 1; have hfz54_2 := blk_frozen BK158.out 2; have hfz54_3 := blk_frozen BK158.out 3; have hfz54_4 := blk_frozen BK158.out 4; have hfz54_5 := blk_frozen BK158.out 5; have hfz54_6 := blk_frozen BK158.out 6))
                     repeat (go_quiet (first | ((with_reducible refine gate_dst (N := 10) rfl ?_); (try (refine gate_guard (by rfl) ?_; dsimp only)); refine box_event ?hg (N := 10) ?hd (cs := #[.string (⟨#[]⟩ : ByteArray), .int .i64 0, .int .i64 0, .string (⟨#[]⟩ : ByteArray), .bool false, .bool false, .string (⟨#[]⟩ : ByteArray)]) (t := 40) ?hr ?_; (case hd => rfl); (case hg => rfl); (case hr => first | (go_simp; done) | (go_simp; rfl)); intro gb158 hg w52 hbox hb; have n0_ := Aside0.mk (blk_below (g := gb146) (o := .cells #[.slice A0_0 l0_0.length c0_0, .slice (some ad155) l0_1.length c0_1] 30 (0, 0)) (by (with_reducible repeat (first | refine blk_drewN ?_ _ | refine blk_drew ?_ | refine blk_alloc ?_ _)); exact BK146.out) hb); have n1_ := Aside0.mk (below_step (by repeat (first | (with_reducible first | exact HB.out | apply below_alloc | apply pw_below_drewN | apply below_drew1 | refine below_set ?_ GE146.out) | exact HB.out)) hb); have n2_ := Aside0.mk (hbox); have n3_ := Aside0.mk ((by rw [hg]; exact (below_size (by repeat (first | (with_reducible first | exact HB.out | apply below_alloc | apply pw_below_drewN | apply below_drew1 | refine below_set ?_ GE146.out) | exact HB.out))) : w.heap.size ≤ gb158)); have n4_ := Aside0.mk ((by rw [hg]; exact (below_size (by repeat (first | (with_reducible first | exact HB.out | apply below_alloc | apply pw_below_drewN | apply below_drew1 | refine below_set ?_ GE146.out) | exact HB.out))) : w.heap.size ≤ gb158)); have n5_ := Aside0.mk ((by rw [hg]; exact Nat.ne_of_lt (blk_lt (g := gb146) (o := .cells #[.slice A0_0 l0_0.length c0_0, .slice (some ad155) l0_1.length c0_1] 30 (0, 0)) (by (with_reducible repeat (first | refine blk_drewN ?_ _ | refine blk_drew ?_ | refine blk_alloc ?_ _)); exact BK146.out)) : gb146 ≠ gb158)); have n6_ := Aside0.mk ((by rw [hg]; exact Nat.ne_of_gt (blk_lt (g := gb146) (o := .cells #[.slice A0_0 l0_0.length c0_0, .slice (some ad155) l0_1.length c0_1] 30 (0, 0)) (by (with_reducible repeat (first | refine blk_drewN ?_ _ | refine blk_drew ?_ | refine blk_alloc ?_ _)); exact BK146.out)) : gb158 ≠ gb146)); clear BK146; clear HB; have BK146 := n0_; have HB := n1_; have BK158 := n2_; have GW158 := n3_; have GE158 := n4_; have NB146_158 := n5_; have NB158_146 := n6_; clear n0_ n1_ n2_ n3_ n4_ n5_ n6_; clear hb hbox hg; have hnb53 := NB158_146.out; have hnc53 := NB146_158.out; have hcz54_0 : w52.cell? ⟨gb158, 0, none⟩ = some (.string (⟨#[]⟩ : ByteArray)) := (blk_cell BK158.out 0).trans rfl; have hcz54_1 : w52.cell? ⟨gb158, 1, none⟩ = some (.int .i64 0) := (blk_cell BK158.out 1).trans rfl; have hcz54_2 : w52.cell? ⟨gb158, 2, none⟩ = some (.int .i64 0) := (blk_cell BK158.out 2).trans rfl; have hcz54_3 : w52.cell? ⟨gb158, 3, none⟩ = some (.string (⟨#[]⟩ : ByteArray)) := (blk_cell BK158.out 3).trans rfl; have hcz54_4 : w52.cell? ⟨gb158, 4, none⟩ = some (.bool false) := (blk_cell BK158.out 4).trans rfl; have hcz54_5 : w52.cell? ⟨gb158, 5, none⟩ = some (.bool false) := (blk_cell BK158.out 5).trans rfl; have hcz54_6 : w52.cell? ⟨gb158, 6, none⟩ = some (.string (⟨#[]⟩ : ByteArray)) := (blk_cell BK158.out 6).trans rfl; have hfz54_0 := blk_frozen BK158.out 0; have hfz54_1 := blk_frozen BK158.out 1; have hfz54_2 := blk_frozen BK158.out 2; have hfz54_3 := blk_frozen BK158.out 3; have hfz54_4 := blk_frozen BK158.out 4; have hfz54_5 := blk_frozen BK158.out 5; have hfz54_6 := blk_frozen BK158.out 6)); try go_wp2_with (first | ((with_reducible refine gate_dst (N := 10) rfl ?_); (try (refine gate_guard (by rfl) ?_; dsimp only)); refine box_event ?hg (N := 10) ?hd (cs := #[.string (⟨#[]⟩ : ByteArray), .int .i64 0, .int .i64 0, .string (⟨#[]⟩ : ByteArray), .bool false, .bool false, .string (⟨#[]⟩ : ByteArray)]) (t := 40) ?hr ?_; (case hd => rfl); (case hg => rfl); (case hr => first | (go_simp; done) | (go_simp; rfl)); intro gb158 hg w52 hbox hb; have n0_ := Aside0.mk (blk_below (g := gb146) (o := .cells #[.slice A0_0 l0_0.length c0_0, .slice (some ad155) l0_1.length c0_1] 30 (0, 0)) (by (with_reducible repeat (first | refine blk_drewN ?_ _ | refine blk_drew ?_ | refine blk_alloc ?_ _)); exact BK146.out) hb); have n1_ := Aside0.mk (below_step (by repeat (first | (with_reducible first | exact HB.out | apply below_alloc | apply pw_below_drewN | apply below_drew1 | refine below_set ?_ GE146.out) | exact HB.out)) hb); have n2_ := Aside0.mk (hbox); have n3_ := Aside0.mk ((by rw [hg]; exact (below_size (by repeat (first | (with_reducible first | exact HB.out | apply below_alloc | apply pw_below_drewN | apply below_drew1 | refine below_set ?_ GE146.out) | exact HB.out))) : w.heap.size ≤ gb158)); have n4_ := Aside0.mk ((by rw [hg]; exact (below_size (by repeat (first | (with_reducible first | exact HB.out | apply below_alloc | apply pw_below_drewN | apply below_drew1 | refine below_set ?_ GE146.out) | exact HB.out))) : w.heap.size ≤ gb158)); have n5_ := Aside0.mk ((by rw [hg]; exact Nat.ne_of_lt (blk_lt (g := gb146) (o := .cells #[.slice A0_0 l0_0.length c0_0, .slice (some ad155) l0_1.length c0_1] 30 (0, 0)) (by (with_reducible repeat (first | refine blk_drewN ?_ _ | refine blk_drew ?_ | refine blk_alloc ?_ _)); exact BK146.out)) : gb146 ≠ gb158)); have n6_ := Aside0.mk ((by rw [hg]; exact Nat.ne_of_gt (blk_lt (g := gb146) (o := .cells #[.slice A0_0 l0_0.length c0_0, .slice (some ad155) l0_1.length c0_1] 30 (0, 0)) (by (with_reducible repeat (first | refine blk_drewN ?_ _ | refine blk_drew ?_ | refine blk_alloc ?_ _)); exact BK146.out)) : gb158 ≠ gb146)); clear BK146; clear HB; have BK146 := n0_; have HB := n1_; have BK158 := n2_; have GW158 := n3_; have GE158 := n4_; have NB146_158 := n5_; have NB158_146 := n6_; clear n0_ n1_ n2_ n3_ n4_ n5_ n6_; clear hb hbox hg; have hnb53 := NB158_146.out; have hnc53 := NB146_158.out; have hcz54_0 : w52.cell? ⟨gb158, 0, none⟩ = some (.string (⟨#[]⟩ : ByteArray)) := (blk_cell BK158.out 0).trans rfl; have hcz54_1 : w52.cell? ⟨gb158, 1, none⟩ = some (.int .i64 0) := (blk_cell BK158.out 1).trans rfl; have hcz54_2 : w52.cell? ⟨gb158, 2, none⟩ = some (.int .i64 0) := (blk_cell BK158.out 2).trans rfl; have hcz54_3 : w52.cell? ⟨gb158, 3, none⟩ = some (.string (⟨#[]⟩ : ByteArray)) := (blk_cell BK158.out 3).trans rfl; have hcz54_4 : w52.cell? ⟨gb158, 4, none⟩ = some (.bool false) := (blk_cell BK158.out 4).trans rfl; have hcz54_5 : w52.cell? ⟨gb158, 5, none⟩ = some (.bool false) := (blk_cell BK158.out 5).trans rfl; have hcz54_6 : w52.cell? ⟨gb158, 6, none⟩ = some (.string (⟨#[]⟩ : ByteArray)) := (blk_cell BK158.out 6).trans rfl; have hfz54_0 := blk_frozen BK158.out 0; have hfz54_1 := blk_frozen BK158.out 1; have hfz54_2 := blk_frozen BK158.out 2; have hfz54_3 := blk_frozen BK158.out 3; have hfz54_4 := blk_frozen BK158.out 4; have hfz54_5 := blk_frozen BK158.out 5; have hfz54_6 := blk_frozen BK158.out 6)))
                     go_roundg k5
                     case measure => have := HJ1.out; have := HJ10.out; have := HK3.out; have := HK4.out; have := HK5.out; omega
                     case rel => exact ⟨(wrap64 (x9_5 + 1)), (by first | rfl | (simp; done) | (simp [*]; done)), H', ⟨by have := HJ1.out; have := HJ10.out; have := HK3.out; have := HK4.out; have := HK5.out; omega⟩, ⟨by (with_reducible repeat (first | refine blk_drewN ?_ _ | refine blk_drew ?_ | refine blk_alloc ?_ _)); refine blk_far ?_ NB146_158.out _; (with_reducible repeat (first | refine blk_drewN ?_ _ | refine blk_drew ?_ | refine blk_alloc ?_ _)); refine blk_far ?_ NB146_158.out _; (with_reducible repeat (first | refine blk_drewN ?_ _ | refine blk_drew ?_ | refine blk_alloc ?_ _)); refine blk_far ?_ NB146_158.out _; (with_reducible repeat (first | refine blk_drewN ?_ _ | refine blk_drew ?_ | refine blk_alloc ?_ _)); refine blk_far ?_ NB146_158.out _; (with_reducible repeat (first | refine blk_drewN ?_ _ | refine blk_drew ?_ | refine blk_alloc ?_ _)); refine blk_far ?_ NB146_158.out _; (with_reducible repeat (first | refine blk_drewN ?_ _ | refine blk_drew ?_ | refine blk_alloc ?_ _)); refine blk_far ?_ NB146_158.out _; (with_reducible repeat (first | refine blk_drewN ?_ _ | refine blk_drew ?_ | refine blk_alloc ?_ _)); refine blk_far ?_ NB146_158.out _; (with_reducible repeat (first | refine blk_drewN ?_ _ | refine blk_drew ?_ | refine blk_alloc ?_ _)); exact BK146.out⟩, ⟨by repeat (first | (with_reducible first | exact HB.out | apply below_alloc | apply pw_below_drewN | apply below_drew1 | refine below_set ?_ GE146.out | refine below_set ?_ GE158.out) | exact HB.out)⟩⟩
                 ·rw [if_neg c35] at H
                  exact absurd H (by simp)
                ·rw [if_neg c34] at H
                 have c34b0 : decide (x9_5 < (((rd_T38 l0_1 x8_4).f1).length : Int)) = false := decide_eq_false c34
                 clear c34
                 have H' := Aside0.mk H
                 clear H
                 have hcz55_0 : wr.cell? ⟨gb146, 0, none⟩ = some (.slice A0_0 l0_0.length c0_0) := (blk_cell BK146.out 0).trans rfl
                 have hcz55_1 : wr.cell? ⟨gb146, 1, none⟩ = some (.slice A0_1 l0_1.length c0_1) := (blk_cell BK146.out 1).trans rfl
                 have hfz55_0 := blk_frozen BK146.out 0
                 have hfz55_1 := blk_frozen BK146.out 1
                 have p155 : 0 ≤ (x8_4 : Int) := of_decide_eq_true (by first | (with_reducible assumption) | assumption)
                 have q155 : x8_4 < (l0_1.length : Int) := of_decide_eq_true (by first | (with_reducible assumption) | assumption)
                 obtain ⟨ad155, A155_1, c155_1, A155_2, c155_2, e155, hx155_0, hx155_1, hx155_2, hl155_1, hi155_1, hl155_2, hi155_2⟩ := at_T38 HR0_1.out x8_4 p155 q155
                 cases e155
                 replace hx155_0 := (HB.out.cell (World.block_lt_of_cell? w _ hx155_0)).trans hx155_0
                 replace hx155_1 := (HB.out.cell (World.block_lt_of_cell? w _ hx155_1)).trans hx155_1
                 replace hx155_2 := (HB.out.cell (World.block_lt_of_cell? w _ hx155_2)).trans hx155_2
                 have HR155_1 := Aside0.mk hi155_1
                 have HC155_1 := Aside0.mk hl155_1
                 clear hi155_1 hl155_1
                 have HR155_2 := Aside0.mk hi155_2
                 have HC155_2 := Aside0.mk hl155_2
                 clear hi155_2 hl155_2
                 replace p155 := eq_true p155
                 replace q155 := eq_true q155
                 go_wp2
                 repeat (go_quiet (fail); try go_wp2)
                 go_roundg k5
                 case measure => have := HJ1.out; have := HJ10.out; have := HK3.out; have := HK4.out; have := HK5.out; omega
                 case rel => exact ⟨(wrap64 (x8_4 + 1)), (by first | rfl | (simp; done) | (simp [*]; done)), H', ⟨by have := HJ1.out; have := HJ10.out; have := HK3.out; have := HK4.out; have := HK5.out; omega⟩, ⟨by (with_reducible repeat (first | refine blk_drewN ?_ _ | refine blk_drew ?_ | refine blk_alloc ?_ _)); exact BK146.out⟩, ⟨by repeat (first | (with_reducible first | exact HB.out | apply below_alloc | apply pw_below_drewN | apply below_drew1 | refine below_set ?_ GE146.out) | exact HB.out)⟩⟩
               ·rw [if_neg c33] at H
                exact absurd H (by simp)
              ·rw [if_neg c32] at H
               exact absurd H (by simp)
           ·rw [if_neg c30] at H
            have c30b0 : decide (x8_4 < (l0_1.length : Int)) = false := decide_eq_false c30
            clear c30
            obtain rfl := Option.some.inj H
            have hcz56_0 : wr.cell? ⟨gb146, 0, none⟩ = some (.slice A0_0 l0_0.length c0_0) := (blk_cell BK146.out 0).trans rfl
            have hcz56_1 : wr.cell? ⟨gb146, 1, none⟩ = some (.slice A0_1 l0_1.length c0_1) := (blk_cell BK146.out 1).trans rfl
            have hfz56_0 := blk_frozen BK146.out 0
            have hfz56_1 := blk_frozen BK146.out 1
            go_wp2
            repeat (go_quiet (fail); try go_wp2)
            go_ret
            exact ⟨by first | rfl | (simp [errW_none, errW_some] <;> rfl) | (simp [*, errW_none, errW_some] <;> rfl), by repeat (first | (with_reducible first | exact HB.out | apply below_alloc | apply pw_below_drewN | apply below_drew1 | refine below_set ?_ GE146.out) | exact HB.out)⟩
end Go.Proofs.Ytelhcijoegjjnaa.P
namespace Go.Proofs.Ytelhcijoegjjnaa.P
open Go.RowKit Go.Proofs.YtelhcijoegjjnaaW.PrintWords Go.Proofs.YtelhcijoegjjnaaW.PrintLast Go.Proofs.YtelhcijoegjjnaaW.PrintMore
attribute [local go_sem] max2_int min2_int max_two min_two max_three min_three max_four min_four
set_option linter.unusedVariables false
set_option linter.unusedSimpArgs false
def ecdysislaw15_num.f (a0 : Int) : Option (Int) := some a0
set_option maxHeartbeats 8000000 in
set_option maxRecDepth 100000 in
theorem ecdysislaw15_num.calls (a0 : Int) (r : Int) (w : World) (h : ecdysislaw15_num.f a0 = some r) :
  Calls Try.prog 12 #[.int .i64 a0] w fun e w' => e = .returned (.int .i64 r) ∧ Drawn0 w w' := by
 have H : (some a0) = some r := h
 clear h
 obtain rfl := Option.some.inj H
 go_enter Try.func12, Try.ntmps12
 go_wp2
 go_ret
 exact ⟨by first | rfl | (simp; done) | (simp [*]; done), by repeat (first | exact Drawn0.refl _ | apply Drawn0.step)⟩
end Go.Proofs.Ytelhcijoegjjnaa.P
namespace Go.Proofs.Ytelhcijoegjjnaa.Fn
open Go.RowKit Go.Proofs.YtelhcijoegjjnaaW.PrintWords
def idxO {α : Type} (p : α → Option Bool) : Nat → List α → Option Int
 | _, [] => some (-1)
 | i, x :: xs => (p x).bind fun b => if b = true then some (i : Int) else idxO p (i + 1) xs
def anyO {α : Type} (p : α → Option Bool) : List α → Option Bool
 | [] => some false
 | x :: xs => (p x).bind fun b => if b = true then some true else anyO p xs
theorem idxO_any {α : Type} (p : α → Option Bool) : ∀ (xs : List α) (i : Nat) (r : Bool), anyO p xs = some r → ∃ n : Int, idxO p i xs = some n ∧ decide (0 ≤ n) = r
 | [], i, r, h => by
  obtain rfl := Option.some.inj h
  exact ⟨-1, rfl, rfl⟩
 | x :: xs, i, r, h => by
  simp only [anyO, idxO] at h ⊢
  cases hp : p x with
  | none => rw [hp] at h; cases h
  | some b =>
   rw [hp] at h
   simp only [Option.bind_some] at h ⊢
   cases b with
   | true => simp at h; subst h; exact ⟨i, by simp, by simp⟩
   | false =>
    simp only [Bool.false_eq_true, if_false] at h ⊢
    exact idxO_any p xs (i + 1) r h
theorem anyO_some {α : Type} {p : α → Option Bool} {q : α → Bool} : ∀ {xs : List α}, (∀ x ∈ xs, p x = some (q x)) → anyO p xs = some (xs.any q)
 | [], _ => rfl
 | x :: xs, h => by
  simp only [anyO, h x List.mem_cons_self, Option.bind_some, List.any_cons]
  rw [anyO_some (fun y hy => h y (List.mem_cons_of_mem _ hy))]
  cases q x <;> simp
theorem idxO_drop {α : Type} {p : α → Option Bool} {xs : List α} {k : Nat} {r : Int} (h : idxO p k (xs.drop k) = some r) (hk : k < xs.length) : (p xs[k]).bind (fun b => if b = true then some (k : Int) else idxO p (k + 1) (xs.drop (k + 1))) = some r := by
 rw [List.drop_eq_getElem_cons hk] at h
 exact h
def Such (P : Program) (g : Nat) (lb : Array Value) {α : Type} (d : Kd α) (p : α → Option Bool) (w : World) : Prop :=
 ∀ (W : World) (x : α) (cs : List Value) (r : Bool), Below w.heap.size w W → d.K W x cs → p x = some r → Calls P g (#[Value.agg cs.toArray] ++ lb) W fun e w' => e = .returned (.bool r) ∧ Below W.heap.size W w'
def Such1 (P : Program) (g : Nat) (lb : Array Value) {α : Type} (enc : α → Value) (p : α → Option Bool) (w : World) : Prop :=
 ∀ (W : World) (x : α) (r : Bool), Below w.heap.size w W → p x = some r → Calls P g (#[enc x] ++ lb) W fun e w' => e = .returned (.bool r) ∧ Below W.heap.size W w'
theorem Such.later {P : Program} {g : Nat} {lb : Array Value} {α : Type} {d : Kd α} {p : α → Option Bool} {w w1 : World} (h : Such P g lb d p w) (hb : Below w.heap.size w w1) : Such P g lb d p w1 :=
 fun W x cs r hW => h W x cs r (hb.trans ⟨hW.os, hW.tape, hW.output, hW.size, fun i hi => hW.block i (Nat.lt_of_lt_of_le hi hb.size)⟩)
theorem Such1.later {P : Program} {g : Nat} {lb : Array Value} {α : Type} {enc : α → Value} {p : α → Option Bool} {w w1 : World} (h : Such1 P g lb enc p w) (hb : Below w.heap.size w w1) : Such1 P g lb enc p w1 :=
 fun W x r hW => h W x r (hb.trans ⟨hW.os, hW.tape, hW.output, hW.size, fun i hi => hW.block i (Nat.lt_of_lt_of_le hi hb.size)⟩)
end Go.Proofs.Ytelhcijoegjjnaa.Fn
namespace Go.Proofs.Ytelhcijoegjjnaa.P
open Go.RowKit Go.Proofs.YtelhcijoegjjnaaW.PrintWords Go.Proofs.YtelhcijoegjjnaaW.PrintLast Go.Proofs.YtelhcijoegjjnaaW.PrintMore
attribute [local go_sem] max2_int min2_int max_two min_two max_three min_three max_four min_four
set_option linter.unusedVariables false
set_option linter.unusedSimpArgs false
set_option maxHeartbeats 2000000 in
set_option maxRecDepth 100000 in
theorem IndexFunc_Enum (g : Nat) (lb : Array Value) (eg : ∀ args w, (callFunc g args).run Try.prog w = .ok (.enter g args) w) (p : S48 → Option Bool) (A0 : Option Addr) (c0 : Nat) (l0 : List S48) (r : Int) (w : World)
  (hp : Fn.Such Try.prog g lb k48 p w) (hr0 : Kd.C k48 w A0 l0.length l0) (hc0 : l0.length ≤ c0) (h : Fn.idxO p 0 l0 = some r) :
  Calls Try.prog 90 #[.slice A0 l0.length c0, .func (.func g) #[] lb] w fun e w' => e = .returned (.int .i64 r) ∧ Below w.heap.size w w' := by
 have HR0 := Aside0.mk hr0
 have HC0 := Aside0.mk hc0
 have HM := Aside0.mk (Kd.C_max hr0)
 have HP := Aside0.mk hp
 have H := Aside0.mk (show Fn.idxO p 0 (l0.drop 0) = some r from h)
 clear hr0 hc0 hp h
 go_enter Try.func90, Try.ntmps90
 go_wp2
 go_loopg [5, 8] l0.length (fun gg _ s8 wr => ∃ kk : Nat, s8 = .int .i64 kk ∧ Aside0 (kk ≤ l0.length ∧ l0.length - kk ≤ gg) ∧ Aside0 (Below w.heap.size w wr) ∧ Aside0 (Fn.idxO p kk (l0.drop kk) = some r))
 case atStart => exact ⟨0, rfl, ⟨Nat.zero_le _, by omega⟩, ⟨Below.refl _ w⟩, H⟩
 case round =>
  clear H
  obtain ⟨kk, rfl, HK, HB, H⟩ := hrel
  have hm := HM.out
  by_cases hlt : kk < l0.length
  ·have hlti : (kk : Int) < (l0.length : Int) := by omega
   have h0 : 0 ≤ (kk : Int) := by omega
   obtain ⟨ad, A1, c1, e_, hx0, hx1, l1, g1⟩ := at_T48 (Kd.C_below HR0.out HB.out) (kk : Int) h0 hlti
   cases e_
   simp only [Int.toNat_natCast] at hx0 hx1
   have hyk : rd_T48 l0 (kk : Int) = l0[kk] := by unfold rd_T48; simp [hlt]
   have hn := Fn.idxO_drop H.out hlt
   rw [← hyk] at hn
   clear hyk
   generalize rd_T48 l0 (kk : Int) = y at *
   have HX := Aside0.mk (k48_mk wr y l1 g1)
   have HL1 := Aside0.mk l1; have HG1 := Aside0.mk g1; clear l1 g1
   cases hb : p y with
   | none => rw [hb] at hn; cases hn
   | some b =>
    rw [hb] at hn
    simp only [Option.bind_some] at hn
    have hcall := HP.out wr y _ b HB.out HX.out hb
    have HN := Aside0.mk hn
    have HCALL := Aside0.mk hcall
    clear hb hn hcall HX
    have hz : IntKind.i64.wrap ((kk : Int) + 1) = (kk : Int) + 1 := IntWalk.i64_in _ (by omega)
    cases b with
    | true =>
     go_wp2_with (go_at_fn g; refine HCALL.out.mono ?_; rintro e w' ⟨rfl, hb'⟩)
     go_ret
     have hn := HN.out
     simp only [if_true] at hn
     exact ⟨by rw [← Option.some.inj hn] <;> rfl, HB.out.trans (hb'.mono HB.out.size)⟩
    | false =>
     go_wp2_with (go_at_fn g; refine HCALL.out.mono ?_; rintro e w' ⟨rfl, hb'⟩)
     go_roundg (l0.length - (kk + 1))
     case measure => have := HK.out; omega
     case rel =>
      have hn := HN.out
      simp only [Bool.false_eq_true, if_false] at hn
      exact ⟨kk + 1, by go_num, ⟨by omega, by omega⟩, ⟨HB.out.trans (hb'.mono HB.out.size)⟩, ⟨hn⟩⟩
  ·have hge : ¬ (kk : Int) < (l0.length : Int) := by omega
   have hr := H.out
   rw [List.drop_eq_nil_of_le (by omega)] at hr
   have HR := Aside0.mk (Option.some.inj hr)
   clear hr
   go_wp2
   go_ret
   exact ⟨by rw [← HR.out] <;> rfl, HB.out⟩
end Go.Proofs.Ytelhcijoegjjnaa.P
namespace Go.Proofs.Ytelhcijoegjjnaa.P
open Go.RowKit Go.Proofs.YtelhcijoegjjnaaW.PrintWords Go.Proofs.YtelhcijoegjjnaaW.PrintLast Go.Proofs.YtelhcijoegjjnaaW.PrintMore
attribute [local go_sem] max2_int min2_int max_two min_two max_three min_three max_four min_four
set_option linter.unusedVariables false
set_option linter.unusedSimpArgs false
set_option maxHeartbeats 1000000 in
set_option maxRecDepth 100000 in
theorem ContainsFunc_Enum (g : Nat) (lb : Array Value) (eg : ∀ args w, (callFunc g args).run Try.prog w = .ok (.enter g args) w) (p : S48 → Option Bool) (A0 : Option Addr) (c0 : Nat) (l0 : List S48) (r : Bool) (w : World)
  (hp : Fn.Such Try.prog g lb k48 p w) (hr0 : Kd.C k48 w A0 l0.length l0) (hc0 : l0.length ≤ c0) (h : Fn.anyO p l0 = some r) :
  Calls Try.prog 70 #[.slice A0 l0.length c0, .func (.func g) #[] lb] w fun e w' => e = .returned (.bool r) ∧ Below w.heap.size w w' := by
 obtain ⟨n, hn, hnr⟩ := Fn.idxO_any p l0 0 r h
 have HC := Aside0.mk (IndexFunc_Enum g lb eg p A0 c0 l0 n w hp hr0 hc0 hn)
 have HN := Aside0.mk hnr
 clear hp hr0 hc0 h hn hnr eg
 go_enter Try.func70, Try.ntmps70
 go_wp2_with (go_at_call 90; (with_reducible refine HC.out.mono ?_); rintro e w' ⟨rfl, hb⟩)
 go_ret
 exact ⟨by rw [← HN.out] <;> rfl, hb⟩
end Go.Proofs.Ytelhcijoegjjnaa.P
namespace Go.Proofs.Ytelhcijoegjjnaa.P
open Go.RowKit Go.Proofs.YtelhcijoegjjnaaW.PrintWords Go.Proofs.YtelhcijoegjjnaaW.PrintLast Go.Proofs.YtelhcijoegjjnaaW.PrintMore
attribute [local go_sem] max2_int min2_int max_two min_two max_three min_three max_four min_four
set_option linter.unusedVariables false
set_option linter.unusedSimpArgs false
set_option maxHeartbeats 2000000 in
set_option maxRecDepth 100000 in
theorem IndexFunc_Message (g : Nat) (lb : Array Value) (eg : ∀ args w, (callFunc g args).run Try.prog w = .ok (.enter g args) w) (p : S38 → Option Bool) (A0 : Option Addr) (c0 : Nat) (l0 : List S38) (r : Int) (w : World)
  (hp : Fn.Such Try.prog g lb k38 p w) (hr0 : Kd.C k38 w A0 l0.length l0) (hc0 : l0.length ≤ c0) (h : Fn.idxO p 0 l0 = some r) :
  Calls Try.prog 91 #[.slice A0 l0.length c0, .func (.func g) #[] lb] w fun e w' => e = .returned (.int .i64 r) ∧ Below w.heap.size w w' := by
 have HR0 := Aside0.mk hr0
 have HC0 := Aside0.mk hc0
 have HM := Aside0.mk (Kd.C_max hr0)
 have HP := Aside0.mk hp
 have H := Aside0.mk (show Fn.idxO p 0 (l0.drop 0) = some r from h)
 clear hr0 hc0 hp h
 go_enter Try.func91, Try.ntmps91
 go_wp2
 go_loopg [5, 8] l0.length (fun gg _ s8 wr => ∃ kk : Nat, s8 = .int .i64 kk ∧ Aside0 (kk ≤ l0.length ∧ l0.length - kk ≤ gg) ∧ Aside0 (Below w.heap.size w wr) ∧ Aside0 (Fn.idxO p kk (l0.drop kk) = some r))
 case atStart => exact ⟨0, rfl, ⟨Nat.zero_le _, by omega⟩, ⟨Below.refl _ w⟩, H⟩
 case round =>
  clear H
  obtain ⟨kk, rfl, HK, HB, H⟩ := hrel
  have hm := HM.out
  by_cases hlt : kk < l0.length
  ·have hlti : (kk : Int) < (l0.length : Int) := by omega
   have h0 : 0 ≤ (kk : Int) := by omega
   obtain ⟨ad, A1, c1, A2, c2, e_, hx0, hx1, hx2, l1, g1, l2, g2⟩ := at_T38 (Kd.C_below HR0.out HB.out) (kk : Int) h0 hlti
   cases e_
   simp only [Int.toNat_natCast] at hx0 hx1 hx2
   have hyk : rd_T38 l0 (kk : Int) = l0[kk] := by unfold rd_T38; simp [hlt]
   have hn := Fn.idxO_drop H.out hlt
   rw [← hyk] at hn
   clear hyk
   generalize rd_T38 l0 (kk : Int) = y at *
   have HX := Aside0.mk (k38_mk wr y l1 g1 l2 g2)
   have HL1 := Aside0.mk l1; have HG1 := Aside0.mk g1; clear l1 g1
   have HL2 := Aside0.mk l2; have HG2 := Aside0.mk g2; clear l2 g2
   cases hb : p y with
   | none => rw [hb] at hn; cases hn
   | some b =>
    rw [hb] at hn
    simp only [Option.bind_some] at hn
    have hcall := HP.out wr y _ b HB.out HX.out hb
    have HN := Aside0.mk hn
    have HCALL := Aside0.mk hcall
    clear hb hn hcall HX
    have hz : IntKind.i64.wrap ((kk : Int) + 1) = (kk : Int) + 1 := IntWalk.i64_in _ (by omega)
    cases b with
    | true =>
     go_wp2_with (go_at_fn g; refine HCALL.out.mono ?_; rintro e w' ⟨rfl, hb'⟩)
     go_ret
     have hn := HN.out
     simp only [if_true] at hn
     exact ⟨by rw [← Option.some.inj hn] <;> rfl, HB.out.trans (hb'.mono HB.out.size)⟩
    | false =>
     go_wp2_with (go_at_fn g; refine HCALL.out.mono ?_; rintro e w' ⟨rfl, hb'⟩)
     go_roundg (l0.length - (kk + 1))
     case measure => have := HK.out; omega
     case rel =>
      have hn := HN.out
      simp only [Bool.false_eq_true, if_false] at hn
      exact ⟨kk + 1, by go_num, ⟨by omega, by omega⟩, ⟨HB.out.trans (hb'.mono HB.out.size)⟩, ⟨hn⟩⟩
  ·have hge : ¬ (kk : Int) < (l0.length : Int) := by omega
   have hr := H.out
   rw [List.drop_eq_nil_of_le (by omega)] at hr
   have HR := Aside0.mk (Option.some.inj hr)
   clear hr
   go_wp2
   go_ret
   exact ⟨by rw [← HR.out] <;> rfl, HB.out⟩
end Go.Proofs.Ytelhcijoegjjnaa.P
namespace Go.Proofs.Ytelhcijoegjjnaa.P
open Go.RowKit Go.Proofs.YtelhcijoegjjnaaW.PrintWords Go.Proofs.YtelhcijoegjjnaaW.PrintLast Go.Proofs.YtelhcijoegjjnaaW.PrintMore
attribute [local go_sem] max2_int min2_int max_two min_two max_three min_three max_four min_four
set_option linter.unusedVariables false
set_option linter.unusedSimpArgs false
set_option maxHeartbeats 1000000 in
set_option maxRecDepth 100000 in
theorem ContainsFunc_Message (g : Nat) (lb : Array Value) (eg : ∀ args w, (callFunc g args).run Try.prog w = .ok (.enter g args) w) (p : S38 → Option Bool) (A0 : Option Addr) (c0 : Nat) (l0 : List S38) (r : Bool) (w : World)
  (hp : Fn.Such Try.prog g lb k38 p w) (hr0 : Kd.C k38 w A0 l0.length l0) (hc0 : l0.length ≤ c0) (h : Fn.anyO p l0 = some r) :
  Calls Try.prog 71 #[.slice A0 l0.length c0, .func (.func g) #[] lb] w fun e w' => e = .returned (.bool r) ∧ Below w.heap.size w w' := by
 obtain ⟨n, hn, hnr⟩ := Fn.idxO_any p l0 0 r h
 have HC := Aside0.mk (IndexFunc_Message g lb eg p A0 c0 l0 n w hp hr0 hc0 hn)
 have HN := Aside0.mk hnr
 clear hp hr0 hc0 h hn hnr eg
 go_enter Try.func71, Try.ntmps71
 go_wp2_with (go_at_call 91; (with_reducible refine HC.out.mono ?_); rintro e w' ⟨rfl, hb⟩)
 go_ret
 exact ⟨by rw [← HN.out] <;> rfl, hb⟩
end Go.Proofs.Ytelhcijoegjjnaa.P
namespace Go.Proofs.Ytelhcijoegjjnaa.P
open Go.RowKit Go.Proofs.YtelhcijoegjjnaaW.PrintWords Go.Proofs.YtelhcijoegjjnaaW.PrintLast Go.Proofs.YtelhcijoegjjnaaW.PrintMore
attribute [local go_sem] max2_int min2_int max_two min_two max_three min_three max_four min_four
set_option linter.unusedVariables false
set_option linter.unusedSimpArgs false
set_option maxHeartbeats 1000000 in
set_option maxRecDepth 100000 in
theorem eachEnum_such (g : Nat) (lb : Array Value) (eg : ∀ args w, (callFunc g args).run Try.prog w = .ok (.enter g args) w) (p : S48 → Option Bool) (A0 : Option Addr) (c0 : Nat) (l0 : List S48) (V1 : Value) (r : Bool) (w : World)
  (hp : Fn.Such Try.prog g lb k48 p w) (hr0 : Kd.C k48 w A0 l0.length l0) (hc0 : l0.length ≤ c0) (h : Fn.anyO p l0 = some r) :
  Calls Try.prog 31 #[.agg #[.slice A0 l0.length c0, V1], .func (.func g) #[] lb] w fun e w' => e = .returned (.bool r) ∧ Below w.heap.size w w' := by
 have HC := Aside0.mk (fun (W : World) (hb : Below w.heap.size w W) => ContainsFunc_Enum g lb eg p A0 c0 l0 r W (hp.later hb) (Kd.C_below hr0 hb) hc0 h)
 clear hp hr0 hc0 h eg
 go_enter Try.func31, Try.ntmps31
 go_wp2_with (go_at_call 70; (with_reducible refine (HC.out _ (below_alloc (Below.refl _ _) _)).mono ?_); rintro e w' ⟨rfl, hb⟩)
 go_ret
 exact ⟨rfl, (below_alloc (Below.refl _ _) _).trans (hb.mono (by simp))⟩
set_option maxHeartbeats 1000000 in
set_option maxRecDepth 100000 in
theorem eachMessage_such (g : Nat) (lb : Array Value) (eg : ∀ args w, (callFunc g args).run Try.prog w = .ok (.enter g args) w) (p : S38 → Option Bool) (V0 : Value) (A1 : Option Addr) (c1 : Nat) (l1 : List S38) (r : Bool) (w : World)
  (hp : Fn.Such Try.prog g lb k38 p w) (hr1 : Kd.C k38 w A1 l1.length l1) (hc1 : l1.length ≤ c1) (h : Fn.anyO p l1 = some r) :
  Calls Try.prog 33 #[.agg #[V0, .slice A1 l1.length c1], .func (.func g) #[] lb] w fun e w' => e = .returned (.bool r) ∧ Below w.heap.size w w' := by
 have HC := Aside0.mk (fun (W : World) (hb : Below w.heap.size w W) => ContainsFunc_Message g lb eg p A1 c1 l1 r W (hp.later hb) (Kd.C_below hr1 hb) hc1 h)
 clear hp hr1 hc1 h eg
 go_enter Try.func33, Try.ntmps33
 go_wp2_with (go_at_call 71; (with_reducible refine (HC.out _ (below_alloc (Below.refl _ _) _)).mono ?_); rintro e w' ⟨rfl, hb⟩)
 go_ret
 exact ⟨rfl, (below_alloc (Below.refl _ _) _).trans (hb.mono (by simp))⟩
end Go.Proofs.Ytelhcijoegjjnaa.P
namespace Go.Proofs.Ytelhcijoegjjnaa.P
open Go.RowKit Go.Proofs.YtelhcijoegjjnaaW.PrintWords Go.Proofs.YtelhcijoegjjnaaW.PrintLast Go.Proofs.YtelhcijoegjjnaaW.PrintMore
attribute [local go_sem] max2_int min2_int max_two min_two max_three min_three max_four min_four
set_option linter.unusedVariables false
set_option linter.unusedSimpArgs false
set_option maxHeartbeats 1000000 in
set_option maxRecDepth 100000 in
theorem many1_such (w : World) : Fn.Such Try.prog 32 #[] k48 (fun x => some (decide (8 < x.f1.length))) w := by
 intro W x cs r hb hK hp
 obtain ⟨A1, c1, rfl, hl, hC⟩ := k48_open hK
 have HR := Aside0.mk (Option.some.inj hp)
 clear hb hK hp hC
 cases hd : decide (8 < x.f1.length)
 all_goals
  have HD := Aside0.mk hd
  have hd2 : decide (8 < (x.f1.length : Int)) = decide (8 < x.f1.length) := by rw [Bool.eq_iff_iff]; simp; omega
  rw [hd] at hd2
  clear hd
  go_enter Try.func32, Try.ntmps32
  go_wp2
  go_ret
  exact ⟨by rw [← HR.out, HD.out] <;> rfl, below_alloc (Below.refl _ _) _⟩
set_option maxHeartbeats 1000000 in
set_option maxRecDepth 100000 in
theorem many2_such (w : World) : Fn.Such Try.prog 34 #[] k38 (fun x => some (decide (10 < x.f1.length) || decide (8 < x.f2.length))) w := by
 intro W x cs r hb hK hp
 obtain ⟨A1, c1, A2, c2, rfl, hl1, hC1, hl2, hC2⟩ := k38_open hK
 have HR := Aside0.mk (Option.some.inj hp)
 clear hb hK hp hC1 hC2
 cases h1 : decide (10 < x.f1.length) <;> cases h2 : decide (8 < x.f2.length)
 all_goals
  have H1 := Aside0.mk h1
  have H2 := Aside0.mk h2
  have h1b : decide (10 < (x.f1.length : Int)) = decide (10 < x.f1.length) := by rw [Bool.eq_iff_iff]; simp; omega
  have h2b : decide (8 < (x.f2.length : Int)) = decide (8 < x.f2.length) := by rw [Bool.eq_iff_iff]; simp; omega
  rw [h1] at h1b
  rw [h2] at h2b
  clear h1 h2
  go_enter Try.func34, Try.ntmps34
  go_wp2
  go_ret
  exact ⟨by rw [← HR.out, H1.out, H2.out] <;> rfl, below_alloc (Below.refl _ _) _⟩
def schema_many.f (l0_0 : List S48) (l0_1 : List S38) : Option Bool :=
 some (decide (3 < l0_0.length) || decide (6 < l0_1.length) || l0_0.any (fun x => decide (8 < x.f1.length)) || l0_1.any (fun x => decide (10 < x.f1.length) || decide (8 < x.f2.length)))
set_option maxHeartbeats 1000000 in
set_option maxRecDepth 100000 in
theorem schema_many.calls (A0_0 : Option Addr) (c0_0 : Nat) (l0_0 : List S48) (A0_1 : Option Addr) (c0_1 : Nat) (l0_1 : List S38) (r : Bool) (w : World)
  (hr0_0 : Kd.C k48 w A0_0 l0_0.length l0_0) (hc0_0 : l0_0.length ≤ c0_0) (hr0_1 : Kd.C k38 w A0_1 l0_1.length l0_1) (hc0_1 : l0_1.length ≤ c0_1) (h : schema_many.f l0_0 l0_1 = some r) :
  Calls Try.prog 19 #[.agg #[.slice A0_0 l0_0.length c0_0, .slice A0_1 l0_1.length c0_1]] w fun e w' => e = .returned (.bool r) ∧ Below w.heap.size w w' := by
 have C1 := Aside0.mk (fun (W : World) (hb : Below w.heap.size w W) => eachEnum_such 32 #[] (enters_of Try.func32 (by kernel_rfl) rfl) _ A0_0 c0_0 l0_0 (.slice A0_1 l0_1.length c0_1) _ W (many1_such W) (Kd.C_below hr0_0 hb) hc0_0 (Fn.anyO_some (fun _ _ => rfl)))
 have C2 := Aside0.mk (fun (W : World) (hb : Below w.heap.size w W) => eachMessage_such 34 #[] (enters_of Try.func34 (by kernel_rfl) rfl) _ (.slice A0_0 l0_0.length c0_0) A0_1 c0_1 l0_1 _ W (many2_such W) (Kd.C_below hr0_1 hb) hc0_1 (Fn.anyO_some (fun _ _ => rfl)))
 have HR := Aside0.mk (Option.some.inj h)
 have HB0 := Aside0.mk (fun o => below_alloc (Below.refl w.heap.size w) o)
 clear h hr0_0 hr0_1
 cases h1 : decide (3 < l0_0.length) with
 | true =>
  have H1 := Aside0.mk h1
  have h1b : decide (3 < (l0_0.length : Int)) = true := by simp at h1 ⊢; omega
  clear h1
  go_enter Try.func19, Try.ntmps19
  go_wp2
  go_ret
  exact ⟨by rw [← HR.out, H1.out] <;> rfl, HB0.out _⟩
 | false =>
  have H1 := Aside0.mk h1
  have h1b : decide (3 < (l0_0.length : Int)) = false := by simp at h1 ⊢; omega
  clear h1
  cases h2 : decide (6 < l0_1.length) with
  | true =>
   have H2 := Aside0.mk h2
   have h2b : decide (6 < (l0_1.length : Int)) = true := by simp at h2 ⊢; omega
   clear h2
   go_enter Try.func19, Try.ntmps19
   go_wp2
   go_ret
   exact ⟨by rw [← HR.out, H1.out, H2.out] <;> rfl, HB0.out _⟩
  | false =>
   have H2 := Aside0.mk h2
   have h2b : decide (6 < (l0_1.length : Int)) = false := by simp at h2 ⊢; omega
   clear h2
   cases hb1 : l0_0.any (fun x => decide (8 < x.f1.length)) with
   | true =>
    rw [hb1] at C1
    have H3 := Aside0.mk hb1
    clear hb1
    go_enter Try.func19, Try.ntmps19
    go_wp2_with (go_at_call 31; (refine (C1.out _ (HB0.out _)).mono ?_); rintro e w1 ⟨rfl, hb⟩; have HB1 := Aside0.mk (below_then (HB0.out _) (HB0.out _).size hb); clear hb)
    go_ret
    exact ⟨by rw [← HR.out, H1.out, H2.out, H3.out] <;> rfl, HB1.out⟩
   | false =>
    rw [hb1] at C1
    have H3 := Aside0.mk hb1
    clear hb1
    generalize hb2 : l0_1.any (fun x => decide (10 < x.f1.length) || decide (8 < x.f2.length)) = b2 at *
    have H4 := Aside0.mk hb2
    clear hb2
    have hcell : ∀ w1, Below (w.heap.size + 1) (w.alloc (.cells #[.slice A0_0 l0_0.length c0_0, .slice A0_1 l0_1.length c0_1] 30)) w1 → w1.cell? ⟨w.heap.size, 0, none⟩ = some (.slice A0_0 l0_0.length c0_0) ∧ w1.cell? ⟨w.heap.size, 1, none⟩ = some (.slice A0_1 l0_1.length c0_1) := fun w1 hb =>
     ⟨(hb.cell (p := ⟨w.heap.size, 0, none⟩) (by simp)).trans (by simp), (hb.cell (p := ⟨w.heap.size, 1, none⟩) (by simp)).trans (by simp)⟩
    have HCELL := Aside0.mk hcell
    clear hcell
    go_enter Try.func19, Try.ntmps19
    go_wp2_with fail
    refine (C1.out _ (HB0.out _)).mono ?_
    rintro e w1 ⟨rfl, hb⟩
    have HB1 := Aside0.mk (below_then (HB0.out _) (HB0.out _).size hb)
    obtain ⟨hc0, hc1⟩ := HCELL.out w1 (by simpa using hb)
    clear hb
    go_wp2_with (go_at_call 33; (refine (C2.out _ HB1.out).mono ?_); rintro e w2 ⟨rfl, hb⟩; have HB2 := Aside0.mk (HB1.out.trans (hb.mono HB1.out.size)); clear hb)
    go_ret
    exact ⟨by rw [← HR.out, H1.out, H2.out, H3.out] <;> rfl, HB2.out⟩
end Go.Proofs.Ytelhcijoegjjnaa.P
namespace Go.Proofs.Ytelhcijoegjjnaa.P
open Go.RowKit Go.Proofs.YtelhcijoegjjnaaW.PrintWords Go.Proofs.YtelhcijoegjjnaaW.PrintLast Go.Proofs.YtelhcijoegjjnaaW.PrintMore
attribute [local go_sem] max2_int min2_int max_two min_two max_three min_three max_four min_four
set_option linter.unusedVariables false
set_option linter.unusedSimpArgs false
set_option maxHeartbeats 1000000 in
set_option maxRecDepth 100000 in
theorem none1_such (w : World) : Fn.Such Try.prog 35 #[] k48 (fun x => some (decide (x.f1.length = 0))) w := by
 intro W x cs r hb hK hp
 obtain ⟨A1, c1, rfl, hl, hC⟩ := k48_open hK
 have HR := Aside0.mk (Option.some.inj hp)
 clear hb hK hp hC
 go_enter Try.func35, Try.ntmps35
 go_wp2
 go_ret
 exact ⟨by rw [← HR.out]; simp [Bool.beq_eq_decide_eq], below_alloc (Below.refl _ _) _⟩
def schema_none.f (l0_0 : List S48) (l0_1 : List S38) : Option Bool :=
 some (decide (l0_1.length = 0) || l0_0.any (fun x => decide (x.f1.length = 0)))
set_option maxHeartbeats 1000000 in
set_option maxRecDepth 100000 in
theorem schema_none.calls (A0_0 : Option Addr) (c0_0 : Nat) (l0_0 : List S48) (A0_1 : Option Addr) (c0_1 : Nat) (l0_1 : List S38) (r : Bool) (w : World)
  (hr0_0 : Kd.C k48 w A0_0 l0_0.length l0_0) (hc0_0 : l0_0.length ≤ c0_0) (hr0_1 : Kd.C k38 w A0_1 l0_1.length l0_1) (hc0_1 : l0_1.length ≤ c0_1) (h : schema_none.f l0_0 l0_1 = some r) :
  Calls Try.prog 20 #[.agg #[.slice A0_0 l0_0.length c0_0, .slice A0_1 l0_1.length c0_1]] w fun e w' => e = .returned (.bool r) ∧ Below w.heap.size w w' := by
 have C1 := Aside0.mk (fun (W : World) (hb : Below w.heap.size w W) => eachEnum_such 35 #[] (enters_of Try.func35 (by kernel_rfl) rfl) _ A0_0 c0_0 l0_0 (.slice A0_1 l0_1.length c0_1) _ W (none1_such W) (Kd.C_below hr0_0 hb) hc0_0 (Fn.anyO_some (fun _ _ => rfl)))
 have HR := Aside0.mk (Option.some.inj h)
 have HB0 := Aside0.mk (fun o => below_alloc (Below.refl w.heap.size w) o)
 clear h hr0_0 hr0_1
 by_cases h1 : l0_1.length = 0
 ·have HZ := Aside0.mk h1
  have h1a : (l0_1.length == 0) = true := by simp [h1]
  have h1b : ((l0_1.length : Int) == 0) = true := by simp [h1]
  clear h1
  go_enter Try.func20, Try.ntmps20
  go_wp2
  go_ret
  exact ⟨by rw [← HR.out]; simp [HZ.out], HB0.out _⟩
 ·have HZ := Aside0.mk h1
  have h1a : (l0_1.length == 0) = false := by simp [h1]
  have h1b : ((l0_1.length : Int) == 0) = false := by rw [beq_eq_false_iff_ne]; omega
  clear h1
  go_enter Try.func20, Try.ntmps20
  go_wp2_with (go_at_call 31; (refine (C1.out _ (HB0.out _)).mono ?_); rintro e w1 ⟨rfl, hb⟩; have HB1 := Aside0.mk (below_then (HB0.out _) (HB0.out _).size hb); clear hb)
  go_ret
  exact ⟨by rw [← HR.out]; simp [HZ.out], HB1.out⟩
end Go.Proofs.Ytelhcijoegjjnaa.P
namespace Go.Proofs.Ytelhcijoegjjnaa.P
open Go.RowKit Go.Proofs.YtelhcijoegjjnaaW.PrintWords Go.Proofs.YtelhcijoegjjnaaW.PrintLast Go.Proofs.YtelhcijoegjjnaaW.PrintMore
attribute [local go_sem] max2_int min2_int max_two min_two max_three min_three max_four min_four
set_option linter.unusedVariables false
set_option linter.unusedSimpArgs false
mutual
def ident_word.j0 : Nat → ByteArray → Bool → Option (Bool)
 | 0, _, _ => none
 | k + 1, x3, x4 => if x4 = true then (some true) else (if x3.toList = ([105, 110, 116, 51, 50] : List UInt8) then (ident_word.j1 k x3 (x3.toList == ([105, 110, 116, 51, 50] : List UInt8))) else (if x3.toList = ([105, 110, 116, 54, 52] : List UInt8) then (ident_word.j1 k x3 (x3.toList == ([105, 110, 116, 54, 52] : List UInt8))) else (if x3.toList = ([117, 105, 110, 116, 51, 50] : List UInt8) then (ident_word.j1 k x3 (x3.toList == ([117, 105, 110, 116, 51, 50] : List UInt8))) else (if x3.toList = ([117, 105, 110, 116, 54, 52] : List UInt8) then (ident_word.j1 k x3 (x3.toList == ([117, 105, 110, 116, 54, 52] : List UInt8))) else (if x3.toList = ([115, 105, 110, 116, 51, 50] : List UInt8) then (ident_word.j1 k x3 (x3.toList == ([115, 105, 110, 116, 51, 50] : List UInt8))) else (if x3.toList = ([115, 105, 110, 116, 54, 52] : List UInt8) then (ident_word.j1 k x3 (x3.toList == ([115, 105, 110, 116, 54, 52] : List UInt8))) else (ident_word.j1 k x3 (x3.toList == ([98, 111, 111, 108] : List UInt8)))))))))
def ident_word.j1 : Nat → ByteArray → Bool → Option (Bool)
 | 0, _, _ => none
 | k + 1, x3, x11 => if x11 = true then (some true) else (if x3.toList = ([102, 105, 120, 101, 100, 51, 50] : List UInt8) then (ident_word.j2 k x3 (x3.toList == ([102, 105, 120, 101, 100, 51, 50] : List UInt8))) else (if x3.toList = ([102, 105, 120, 101, 100, 54, 52] : List UInt8) then (ident_word.j2 k x3 (x3.toList == ([102, 105, 120, 101, 100, 54, 52] : List UInt8))) else (if x3.toList = ([115, 102, 105, 120, 101, 100, 51, 50] : List UInt8) then (ident_word.j2 k x3 (x3.toList == ([115, 102, 105, 120, 101, 100, 51, 50] : List UInt8))) else (if x3.toList = ([115, 102, 105, 120, 101, 100, 54, 52] : List UInt8) then (ident_word.j2 k x3 (x3.toList == ([115, 102, 105, 120, 101, 100, 54, 52] : List UInt8))) else (if x3.toList = ([115, 116, 114, 105, 110, 103] : List UInt8) then (ident_word.j2 k x3 (x3.toList == ([115, 116, 114, 105, 110, 103] : List UInt8))) else (ident_word.j2 k x3 (x3.toList == ([98, 121, 116, 101, 115] : List UInt8))))))))
def ident_word.j2 : Nat → ByteArray → Bool → Option (Bool)
 | 0, _, _ => none
 | k + 1, x3, x19 => if x19 = true then (some true) else (if x3.toList = ([114, 101, 110, 97, 109, 101] : List UInt8) then (ident_word.j3 k x3 (x3.toList == ([114, 101, 110, 97, 109, 101] : List UInt8))) else (if x3.toList = ([114, 101, 110, 117, 109, 98, 101, 114] : List UInt8) then (ident_word.j3 k x3 (x3.toList == ([114, 101, 110, 117, 109, 98, 101, 114] : List UInt8))) else (if x3.toList = ([114, 101, 116, 121, 112, 101] : List UInt8) then (ident_word.j3 k x3 (x3.toList == ([114, 101, 116, 121, 112, 101] : List UInt8))) else (if x3.toList = ([115, 112, 108, 105, 116] : List UInt8) then (ident_word.j3 k x3 (x3.toList == ([115, 112, 108, 105, 116] : List UInt8))) else (if x3.toList = ([106, 111, 105, 110] : List UInt8) then (ident_word.j3 k x3 (x3.toList == ([106, 111, 105, 110] : List UInt8))) else (if x3.toList = ([119, 114, 97, 112] : List UInt8) then (ident_word.j3 k x3 (x3.toList == ([119, 114, 97, 112] : List UInt8))) else (if x3.toList = ([117, 110, 119, 114, 97, 112] : List UInt8) then (ident_word.j3 k x3 (x3.toList == ([117, 110, 119, 114, 97, 112] : List UInt8))) else (if x3.toList = ([97, 100, 100] : List UInt8) then (ident_word.j3 k x3 (x3.toList == ([97, 100, 100] : List UInt8))) else (ident_word.j3 k x3 (x3.toList == ([100, 114, 111, 112] : List UInt8)))))))))))
def ident_word.j3 : Nat → ByteArray → Bool → Option (Bool)
 | 0, _, _ => none
 | k + 1, x3, x26 => if x26 = true then (some true) else (if x3.toList = ([116, 111] : List UInt8) then (some true) else (if x3.toList = ([105, 110, 116, 111] : List UInt8) then (some true) else (if x3.toList = ([97, 115] : List UInt8) then (some true) else (if x3.toList = ([111, 102] : List UInt8) then (some true) else (if x3.toList = ([100, 101, 102, 97, 117, 108, 116] : List UInt8) then (some true) else (if x3.toList = ([116, 114, 117, 101] : List UInt8) then (some true) else (if x3.toList = ([102, 97, 108, 115, 101] : List UInt8) then (some true) else (some false))))))))
end
def ident_word.f (k : Nat) (a0 : ByteArray) : Option (Bool) := if a0.toList = ([101, 110, 117, 109] : List UInt8) then (ident_word.j0 k a0 (a0.toList == ([101, 110, 117, 109] : List UInt8))) else (if a0.toList = ([109, 101, 115, 115, 97, 103, 101] : List UInt8) then (ident_word.j0 k a0 (a0.toList == ([109, 101, 115, 115, 97, 103, 101] : List UInt8))) else (if a0.toList = ([111, 110, 101, 111, 102] : List UInt8) then (ident_word.j0 k a0 (a0.toList == ([111, 110, 101, 111, 102] : List UInt8))) else (if a0.toList = ([114, 101, 112, 101, 97, 116, 101, 100] : List UInt8) then (ident_word.j0 k a0 (a0.toList == ([114, 101, 112, 101, 97, 116, 101, 100] : List UInt8))) else (if a0.toList = ([114, 101, 115, 101, 114, 118, 101, 100] : List UInt8) then (ident_word.j0 k a0 (a0.toList == ([114, 101, 115, 101, 114, 118, 101, 100] : List UInt8))) else (ident_word.j0 k a0 (a0.toList == ([108, 111, 111, 115, 101] : List UInt8)))))))
theorem ident_word.mono_l : ∀ k, (∀ y0 y1, LeO (ident_word.j0 k y0 y1) (ident_word.j0 (k + 1) y0 y1)) ∧ (∀ y0 y1, LeO (ident_word.j1 k y0 y1) (ident_word.j1 (k + 1) y0 y1)) ∧ (∀ y0 y1, LeO (ident_word.j2 k y0 y1) (ident_word.j2 (k + 1) y0 y1)) ∧ (∀ y0 y1, LeO (ident_word.j3 k y0 y1) (ident_word.j3 (k + 1) y0 y1))
 | 0 => ⟨fun _ _ r h => by simp [ident_word.j0] at h, fun _ _ r h => by simp [ident_word.j1] at h, fun _ _ r h => by simp [ident_word.j2] at h, fun _ _ r h => by simp [ident_word.j3] at h⟩
 | k + 1 => by
  obtain ⟨ih0, ih1, ih2, ih3⟩ := ident_word.mono_l k
  refine ⟨?_, ?_, ?_, ?_⟩
  ·intro y0 y1
   unfold ident_word.j0
   repeat' first
   | (with_reducible exact ih0 _ _)
   | (with_reducible exact ih1 _ _)
   | (with_reducible exact ih2 _ _)
   | (with_reducible exact ih3 _ _)
   | (with_reducible exact LeO.refl _)
   | (with_reducible exact LeO.none _)
   | (with_reducible refine LeO.ite ?_ ?_)
   | (with_reducible refine LeO.bind ?_ (fun _ => ?_))
   | exact ih0 _ _
   | exact ih1 _ _
   | exact ih2 _ _
   | exact ih3 _ _
   | exact LeO.none _
   | refine LeO.ite ?_ ?_
   | refine LeO.bind ?_ (fun _ => ?_)
  ·intro y0 y1
   unfold ident_word.j1
   repeat' first
   | (with_reducible exact ih0 _ _)
   | (with_reducible exact ih1 _ _)
   | (with_reducible exact ih2 _ _)
   | (with_reducible exact ih3 _ _)
   | (with_reducible exact LeO.refl _)
   | (with_reducible exact LeO.none _)
   | (with_reducible refine LeO.ite ?_ ?_)
   | (with_reducible refine LeO.bind ?_ (fun _ => ?_))
   | exact ih0 _ _
   | exact ih1 _ _
   | exact ih2 _ _
   | exact ih3 _ _
   | exact LeO.none _
   | refine LeO.ite ?_ ?_
   | refine LeO.bind ?_ (fun _ => ?_)
  ·intro y0 y1
   unfold ident_word.j2
   repeat' first
   | (with_reducible exact ih0 _ _)
   | (with_reducible exact ih1 _ _)
   | (with_reducible exact ih2 _ _)
   | (with_reducible exact ih3 _ _)
   | (with_reducible exact LeO.refl _)
   | (with_reducible exact LeO.none _)
   | (with_reducible refine LeO.ite ?_ ?_)
   | (with_reducible refine LeO.bind ?_ (fun _ => ?_))
   | exact ih0 _ _
   | exact ih1 _ _
   | exact ih2 _ _
   | exact ih3 _ _
   | exact LeO.none _
   | refine LeO.ite ?_ ?_
   | refine LeO.bind ?_ (fun _ => ?_)
  ·intro y0 y1
   unfold ident_word.j3
   repeat' first
   | (with_reducible exact ih0 _ _)
   | (with_reducible exact ih1 _ _)
   | (with_reducible exact ih2 _ _)
   | (with_reducible exact ih3 _ _)
   | (with_reducible exact LeO.refl _)
   | (with_reducible exact LeO.none _)
   | (with_reducible refine LeO.ite ?_ ?_)
   | (with_reducible refine LeO.bind ?_ (fun _ => ?_))
   | exact ih0 _ _
   | exact ih1 _ _
   | exact ih2 _ _
   | exact ih3 _ _
   | exact LeO.none _
   | refine LeO.ite ?_ ?_
   | refine LeO.bind ?_ (fun _ => ?_)
theorem ident_word.mono : ∀ a0 k, LeO (ident_word.f k a0) (ident_word.f (k + 1) a0) := by
 intro a0 k
 obtain ⟨ih0, ih1, ih2, ih3⟩ := ident_word.mono_l k
 unfold ident_word.f
 repeat' first
   | (with_reducible exact ih0 _ _)
   | (with_reducible exact ih1 _ _)
   | (with_reducible exact ih2 _ _)
   | (with_reducible exact ih3 _ _)
   | (with_reducible exact LeO.refl _)
   | (with_reducible exact LeO.none _)
   | (with_reducible refine LeO.ite ?_ ?_)
   | (with_reducible refine LeO.bind ?_ (fun _ => ?_))
   | exact ih0 _ _
   | exact ih1 _ _
   | exact ih2 _ _
   | exact ih3 _ _
   | exact LeO.none _
   | refine LeO.ite ?_ ?_
   | refine LeO.bind ?_ (fun _ => ?_)
set_option maxHeartbeats 8000000 in
set_option maxRecDepth 100000 in
theorem ident_word.calls (k : Nat) (a0 : ByteArray) (r : Bool) (w : World) (h : ident_word.f k a0 = some r) :
  Calls Try.prog 28 #[.string a0] w fun e w' => e = .returned (.bool r) ∧ Drawn0 w w' := by
 have H : (if a0.toList = ([101, 110, 117, 109] : List UInt8) then (ident_word.j0 k a0 (a0.toList == ([101, 110, 117, 109] : List UInt8))) else (if a0.toList = ([109, 101, 115, 115, 97, 103, 101] : List UInt8) then (ident_word.j0 k a0 (a0.toList == ([109, 101, 115, 115, 97, 103, 101] : List UInt8))) else (if a0.toList = ([111, 110, 101, 111, 102] : List UInt8) then (ident_word.j0 k a0 (a0.toList == ([111, 110, 101, 111, 102] : List UInt8))) else (if a0.toList = ([114, 101, 112, 101, 97, 116, 101, 100] : List UInt8) then (ident_word.j0 k a0 (a0.toList == ([114, 101, 112, 101, 97, 116, 101, 100] : List UInt8))) else (if a0.toList = ([114, 101, 115, 101, 114, 118, 101, 100] : List UInt8) then (ident_word.j0 k a0 (a0.toList == ([114, 101, 115, 101, 114, 118, 101, 100] : List UInt8))) else (ident_word.j0 k a0 (a0.toList == ([108, 111, 111, 115, 101] : List UInt8)))))))) = some r := h
 clear h
 have HC2 := Aside0.mk H
 clear H
 go_enter Try.func28, Try.ntmps28
 go_upto_if 4 with (fail)
 go_cut [4] (fun v4 wc => ∃ (kq : Nat) (x4_1 : Bool), v4 = .bool x4_1 ∧ Aside0 (ident_word.j0 kq a0 x4_1 = some r) ∧ Aside0 (kq ≤ k) ∧ Drawn0 w wc)
 case first =>
  have H := HC2.out
  clear HC2
  by_cases c3 : a0.toList = ([101, 110, 117, 109] : List UInt8)
  ·rw [if_pos c3] at H
   have c3b0 : (a0.toList == ([101, 110, 117, 109] : List UInt8)) = true := beq_iff_eq.mpr c3
   have c3b1 : (a0.toList != ([101, 110, 117, 109] : List UInt8)) = false := bne_eq_false_iff_eq.mpr c3
   clear c3
   (first | rw [c3b0] | (simp only [i64_w, i32_w]; rw [c3b0]) | skip)
   have H' := Aside0.mk H
   clear H
   go_wp2
   go_meet
   case rel => exact ⟨_, ((a0.toList == ([101, 110, 117, 109] : List UInt8))), (by first | rfl | (simp; done) | (simp [*]; done)), H', ⟨by first | omega | exact Nat.le_refl _⟩, by repeat (first | exact Drawn0.refl _ | apply Drawn0.step)⟩
  ·rw [if_neg c3] at H
   have c3b0 : (a0.toList == ([101, 110, 117, 109] : List UInt8)) = false := beq_eq_false_iff_ne.mpr c3
   have c3b1 : (a0.toList != ([101, 110, 117, 109] : List UInt8)) = true := bne_iff_ne.mpr c3
   (first | rw [c3b0] | (simp only [i64_w, i32_w]; rw [c3b0]) | skip)
   by_cases c4 : a0.toList = ([109, 101, 115, 115, 97, 103, 101] : List UInt8)
   ·rw [if_pos c4] at H
    have c4b0 : (a0.toList == ([109, 101, 115, 115, 97, 103, 101] : List UInt8)) = true := beq_iff_eq.mpr c4
    have c4b1 : (a0.toList != ([109, 101, 115, 115, 97, 103, 101] : List UInt8)) = false := bne_eq_false_iff_eq.mpr c4
    clear c4
    have H' := Aside0.mk H
    clear H
    go_wp2
    go_meet
    case rel => exact ⟨_, ((a0.toList == ([109, 101, 115, 115, 97, 103, 101] : List UInt8))), (by first | rfl | (simp; done) | (simp [*]; done)), H', ⟨by first | omega | exact Nat.le_refl _⟩, by repeat (first | exact Drawn0.refl _ | apply Drawn0.step)⟩
   ·rw [if_neg c4] at H
    have c4b0 : (a0.toList == ([109, 101, 115, 115, 97, 103, 101] : List UInt8)) = false := beq_eq_false_iff_ne.mpr c4
    have c4b1 : (a0.toList != ([109, 101, 115, 115, 97, 103, 101] : List UInt8)) = true := bne_iff_ne.mpr c4
    by_cases c5 : a0.toList = ([111, 110, 101, 111, 102] : List UInt8)
    ·rw [if_pos c5] at H
     have c5b0 : (a0.toList == ([111, 110, 101, 111, 102] : List UInt8)) = true := beq_iff_eq.mpr c5
     have c5b1 : (a0.toList != ([111, 110, 101, 111, 102] : List UInt8)) = false := bne_eq_false_iff_eq.mpr c5
     clear c5
     have H' := Aside0.mk H
     clear H
     go_wp2
     go_meet
     case rel => exact ⟨_, ((a0.toList == ([111, 110, 101, 111, 102] : List UInt8))), (by first | rfl | (simp; done) | (simp [*]; done)), H', ⟨by first | omega | exact Nat.le_refl _⟩, by repeat (first | exact Drawn0.refl _ | apply Drawn0.step)⟩
    ·rw [if_neg c5] at H
     have c5b0 : (a0.toList == ([111, 110, 101, 111, 102] : List UInt8)) = false := beq_eq_false_iff_ne.mpr c5
     have c5b1 : (a0.toList != ([111, 110, 101, 111, 102] : List UInt8)) = true := bne_iff_ne.mpr c5
     by_cases c6 : a0.toList = ([114, 101, 112, 101, 97, 116, 101, 100] : List UInt8)
     ·rw [if_pos c6] at H
      have c6b0 : (a0.toList == ([114, 101, 112, 101, 97, 116, 101, 100] : List UInt8)) = true := beq_iff_eq.mpr c6
      have c6b1 : (a0.toList != ([114, 101, 112, 101, 97, 116, 101, 100] : List UInt8)) = false := bne_eq_false_iff_eq.mpr c6
      clear c6
      have H' := Aside0.mk H
      clear H
      go_wp2
      go_meet
      case rel => exact ⟨_, ((a0.toList == ([114, 101, 112, 101, 97, 116, 101, 100] : List UInt8))), (by first | rfl | (simp; done) | (simp [*]; done)), H', ⟨by first | omega | exact Nat.le_refl _⟩, by repeat (first | exact Drawn0.refl _ | apply Drawn0.step)⟩
     ·rw [if_neg c6] at H
      have c6b0 : (a0.toList == ([114, 101, 112, 101, 97, 116, 101, 100] : List UInt8)) = false := beq_eq_false_iff_ne.mpr c6
      have c6b1 : (a0.toList != ([114, 101, 112, 101, 97, 116, 101, 100] : List UInt8)) = true := bne_iff_ne.mpr c6
      by_cases c7 : a0.toList = ([114, 101, 115, 101, 114, 118, 101, 100] : List UInt8)
      ·rw [if_pos c7] at H
       have c7b0 : (a0.toList == ([114, 101, 115, 101, 114, 118, 101, 100] : List UInt8)) = true := beq_iff_eq.mpr c7
       have c7b1 : (a0.toList != ([114, 101, 115, 101, 114, 118, 101, 100] : List UInt8)) = false := bne_eq_false_iff_eq.mpr c7
       clear c7
       have H' := Aside0.mk H
       clear H
       go_wp2
       go_meet
       case rel => exact ⟨_, ((a0.toList == ([114, 101, 115, 101, 114, 118, 101, 100] : List UInt8))), (by first | rfl | (simp; done) | (simp [*]; done)), H', ⟨by first | omega | exact Nat.le_refl _⟩, by repeat (first | exact Drawn0.refl _ | apply Drawn0.step)⟩
      ·rw [if_neg c7] at H
       have c7b0 : (a0.toList == ([114, 101, 115, 101, 114, 118, 101, 100] : List UInt8)) = false := beq_eq_false_iff_ne.mpr c7
       have c7b1 : (a0.toList != ([114, 101, 115, 101, 114, 118, 101, 100] : List UInt8)) = true := bne_iff_ne.mpr c7
       have H' := Aside0.mk H
       clear H
       go_wp2
       go_meet
       case rel => exact ⟨_, ((a0.toList == ([108, 111, 111, 115, 101] : List UInt8))), (by first | rfl | (simp; done) | (simp [*]; done)), H', ⟨by first | omega | exact Nat.le_refl _⟩, by repeat (first | exact Drawn0.refl _ | apply Drawn0.step)⟩
 case rest =>
  clear HC2
  try clear c2
  try clear p2
  try clear c3
  try clear c3b0
  try clear c3b1
  try clear c4
  try clear c4b0
  try clear c4b1
  try clear c5
  try clear c5b0
  try clear c5b1
  try clear c6
  try clear c6b0
  try clear c6b1
  try clear c7
  try clear c7b0
  try clear c7b1
  obtain ⟨kq, x4_1, rfl, HA, HJ1, ⟨mc1, rfl⟩⟩ := hcut
  cases kq with
  | zero => exact absurd HA.out (by simp [ident_word.j0])
  | succ kj1 =>
   have H := HA.out
   clear HA
   simp only [ident_word.j0] at H
   by_cases c8 : x4_1 = true
   ·subst c8
    have H1 : (some true) = some r := by rw [if_pos rfl] at H; exact H
    clear H
    have H := H1
    clear H1
    obtain rfl := Option.some.inj H
    go_wp2
    go_ret
    exact ⟨by first | rfl | (simp; done) | (simp [*]; done), by repeat (first | exact Drawn0.refl _ | apply Drawn0.step)⟩
   ·replace c8 := Bool.eq_false_iff.mpr c8
    subst c8
    have H1 : (if a0.toList = ([105, 110, 116, 51, 50] : List UInt8) then (ident_word.j1 kj1 a0 (a0.toList == ([105, 110, 116, 51, 50] : List UInt8))) else (if a0.toList = ([105, 110, 116, 54, 52] : List UInt8) then (ident_word.j1 kj1 a0 (a0.toList == ([105, 110, 116, 54, 52] : List UInt8))) else (if a0.toList = ([117, 105, 110, 116, 51, 50] : List UInt8) then (ident_word.j1 kj1 a0 (a0.toList == ([117, 105, 110, 116, 51, 50] : List UInt8))) else (if a0.toList = ([117, 105, 110, 116, 54, 52] : List UInt8) then (ident_word.j1 kj1 a0 (a0.toList == ([117, 105, 110, 116, 54, 52] : List UInt8))) else (if a0.toList = ([115, 105, 110, 116, 51, 50] : List UInt8) then (ident_word.j1 kj1 a0 (a0.toList == ([115, 105, 110, 116, 51, 50] : List UInt8))) else (if a0.toList = ([115, 105, 110, 116, 54, 52] : List UInt8) then (ident_word.j1 kj1 a0 (a0.toList == ([115, 105, 110, 116, 54, 52] : List UInt8))) else (ident_word.j1 kj1 a0 (a0.toList == ([98, 111, 111, 108] : List UInt8))))))))) = some r := by rw [if_neg (show ¬ (false = true) by decide)] at H; exact H
    clear H
    have H := H1
    clear H1
    have HC9 := Aside0.mk H
    clear H
    go_upto_if 11 with (fail)
    go_cut [11] (fun v11 wc => ∃ (kq : Nat) (x11_8 : Bool), v11 = .bool x11_8 ∧ Aside0 (ident_word.j1 kq a0 x11_8 = some r) ∧ Aside0 (kq ≤ kj1) ∧ Drawn0 w wc)
    case first =>
     have H := HC9.out
     clear HC9
     by_cases c10 : a0.toList = ([105, 110, 116, 51, 50] : List UInt8)
     ·rw [if_pos c10] at H
      have c10b0 : (a0.toList == ([105, 110, 116, 51, 50] : List UInt8)) = true := beq_iff_eq.mpr c10
      have c10b1 : (a0.toList != ([105, 110, 116, 51, 50] : List UInt8)) = false := bne_eq_false_iff_eq.mpr c10
      clear c10
      (first | rw [c10b0] | (simp only [i64_w, i32_w]; rw [c10b0]) | skip)
      have H' := Aside0.mk H
      clear H
      go_wp2
      go_meet
      case rel => exact ⟨_, ((a0.toList == ([105, 110, 116, 51, 50] : List UInt8))), (by first | rfl | (simp; done) | (simp [*]; done)), H', ⟨by have := HJ1.out; first | omega | exact Nat.le_refl _⟩, by repeat (first | exact Drawn0.refl _ | apply Drawn0.step)⟩
     ·rw [if_neg c10] at H
      have c10b0 : (a0.toList == ([105, 110, 116, 51, 50] : List UInt8)) = false := beq_eq_false_iff_ne.mpr c10
      have c10b1 : (a0.toList != ([105, 110, 116, 51, 50] : List UInt8)) = true := bne_iff_ne.mpr c10
      (first | rw [c10b0] | (simp only [i64_w, i32_w]; rw [c10b0]) | skip)
      by_cases c11 : a0.toList = ([105, 110, 116, 54, 52] : List UInt8)
      ·rw [if_pos c11] at H
       have c11b0 : (a0.toList == ([105, 110, 116, 54, 52] : List UInt8)) = true := beq_iff_eq.mpr c11
       have c11b1 : (a0.toList != ([105, 110, 116, 54, 52] : List UInt8)) = false := bne_eq_false_iff_eq.mpr c11
       clear c11
       have H' := Aside0.mk H
       clear H
       go_wp2
       go_meet
       case rel => exact ⟨_, ((a0.toList == ([105, 110, 116, 54, 52] : List UInt8))), (by first | rfl | (simp; done) | (simp [*]; done)), H', ⟨by have := HJ1.out; first | omega | exact Nat.le_refl _⟩, by repeat (first | exact Drawn0.refl _ | apply Drawn0.step)⟩
      ·rw [if_neg c11] at H
       have c11b0 : (a0.toList == ([105, 110, 116, 54, 52] : List UInt8)) = false := beq_eq_false_iff_ne.mpr c11
       have c11b1 : (a0.toList != ([105, 110, 116, 54, 52] : List UInt8)) = true := bne_iff_ne.mpr c11
       by_cases c12 : a0.toList = ([117, 105, 110, 116, 51, 50] : List UInt8)
       ·rw [if_pos c12] at H
        have c12b0 : (a0.toList == ([117, 105, 110, 116, 51, 50] : List UInt8)) = true := beq_iff_eq.mpr c12
        have c12b1 : (a0.toList != ([117, 105, 110, 116, 51, 50] : List UInt8)) = false := bne_eq_false_iff_eq.mpr c12
        clear c12
        have H' := Aside0.mk H
        clear H
        go_wp2
        go_meet
        case rel => exact ⟨_, ((a0.toList == ([117, 105, 110, 116, 51, 50] : List UInt8))), (by first | rfl | (simp; done) | (simp [*]; done)), H', ⟨by have := HJ1.out; first | omega | exact Nat.le_refl _⟩, by repeat (first | exact Drawn0.refl _ | apply Drawn0.step)⟩
       ·rw [if_neg c12] at H
        have c12b0 : (a0.toList == ([117, 105, 110, 116, 51, 50] : List UInt8)) = false := beq_eq_false_iff_ne.mpr c12
        have c12b1 : (a0.toList != ([117, 105, 110, 116, 51, 50] : List UInt8)) = true := bne_iff_ne.mpr c12
        by_cases c13 : a0.toList = ([117, 105, 110, 116, 54, 52] : List UInt8)
        ·rw [if_pos c13] at H
         have c13b0 : (a0.toList == ([117, 105, 110, 116, 54, 52] : List UInt8)) = true := beq_iff_eq.mpr c13
         have c13b1 : (a0.toList != ([117, 105, 110, 116, 54, 52] : List UInt8)) = false := bne_eq_false_iff_eq.mpr c13
         clear c13
         have H' := Aside0.mk H
         clear H
         go_wp2
         go_meet
         case rel => exact ⟨_, ((a0.toList == ([117, 105, 110, 116, 54, 52] : List UInt8))), (by first | rfl | (simp; done) | (simp [*]; done)), H', ⟨by have := HJ1.out; first | omega | exact Nat.le_refl _⟩, by repeat (first | exact Drawn0.refl _ | apply Drawn0.step)⟩
        ·rw [if_neg c13] at H
         have c13b0 : (a0.toList == ([117, 105, 110, 116, 54, 52] : List UInt8)) = false := beq_eq_false_iff_ne.mpr c13
         have c13b1 : (a0.toList != ([117, 105, 110, 116, 54, 52] : List UInt8)) = true := bne_iff_ne.mpr c13
         by_cases c14 : a0.toList = ([115, 105, 110, 116, 51, 50] : List UInt8)
         ·rw [if_pos c14] at H
          have c14b0 : (a0.toList == ([115, 105, 110, 116, 51, 50] : List UInt8)) = true := beq_iff_eq.mpr c14
          have c14b1 : (a0.toList != ([115, 105, 110, 116, 51, 50] : List UInt8)) = false := bne_eq_false_iff_eq.mpr c14
          clear c14
          have H' := Aside0.mk H
          clear H
          go_wp2
          go_meet
          case rel => exact ⟨_, ((a0.toList == ([115, 105, 110, 116, 51, 50] : List UInt8))), (by first | rfl | (simp; done) | (simp [*]; done)), H', ⟨by have := HJ1.out; first | omega | exact Nat.le_refl _⟩, by repeat (first | exact Drawn0.refl _ | apply Drawn0.step)⟩
         ·rw [if_neg c14] at H
          have c14b0 : (a0.toList == ([115, 105, 110, 116, 51, 50] : List UInt8)) = false := beq_eq_false_iff_ne.mpr c14
          have c14b1 : (a0.toList != ([115, 105, 110, 116, 51, 50] : List UInt8)) = true := bne_iff_ne.mpr c14
          by_cases c15 : a0.toList = ([115, 105, 110, 116, 54, 52] : List UInt8)
          ·rw [if_pos c15] at H
           have c15b0 : (a0.toList == ([115, 105, 110, 116, 54, 52] : List UInt8)) = true := beq_iff_eq.mpr c15
           have c15b1 : (a0.toList != ([115, 105, 110, 116, 54, 52] : List UInt8)) = false := bne_eq_false_iff_eq.mpr c15
           clear c15
           have H' := Aside0.mk H
           clear H
           go_wp2
           go_meet
           case rel => exact ⟨_, ((a0.toList == ([115, 105, 110, 116, 54, 52] : List UInt8))), (by first | rfl | (simp; done) | (simp [*]; done)), H', ⟨by have := HJ1.out; first | omega | exact Nat.le_refl _⟩, by repeat (first | exact Drawn0.refl _ | apply Drawn0.step)⟩
          ·rw [if_neg c15] at H
           have c15b0 : (a0.toList == ([115, 105, 110, 116, 54, 52] : List UInt8)) = false := beq_eq_false_iff_ne.mpr c15
           have c15b1 : (a0.toList != ([115, 105, 110, 116, 54, 52] : List UInt8)) = true := bne_iff_ne.mpr c15
           have H' := Aside0.mk H
           clear H
           go_wp2
           go_meet
           case rel => exact ⟨_, ((a0.toList == ([98, 111, 111, 108] : List UInt8))), (by first | rfl | (simp; done) | (simp [*]; done)), H', ⟨by have := HJ1.out; first | omega | exact Nat.le_refl _⟩, by repeat (first | exact Drawn0.refl _ | apply Drawn0.step)⟩
    case rest =>
     clear HC9
     try clear c1
     try clear c2
     try clear p2
     try clear c3
     try clear c3b0
     try clear c3b1
     try clear c4
     try clear c4b0
     try clear c4b1
     try clear c5
     try clear c5b0
     try clear c5b1
     try clear c6
     try clear c6b0
     try clear c6b1
     try clear c7
     try clear c7b0
     try clear c7b1
     try clear c8
     try clear c10
     try clear c10b0
     try clear c10b1
     try clear c11
     try clear c11b0
     try clear c11b1
     try clear c12
     try clear c12b0
     try clear c12b1
     try clear c13
     try clear c13b0
     try clear c13b1
     try clear c14
     try clear c14b0
     try clear c14b1
     try clear c15
     try clear c15b0
     try clear c15b1
     try clear p2
     obtain ⟨kq, x11_8, rfl, HA, HJ8, ⟨mc8, rfl⟩⟩ := hcut
     cases kq with
     | zero => exact absurd HA.out (by simp [ident_word.j1])
     | succ kj8 =>
      have H := HA.out
      clear HA
      simp only [ident_word.j1] at H
      by_cases c16 : x11_8 = true
      ·subst c16
       have H1 : (some true) = some r := by rw [if_pos rfl] at H; exact H
       clear H
       have H := H1
       clear H1
       obtain rfl := Option.some.inj H
       go_wp2
       go_ret
       exact ⟨by first | rfl | (simp; done) | (simp [*]; done), by repeat (first | exact Drawn0.refl _ | apply Drawn0.step)⟩
      ·replace c16 := Bool.eq_false_iff.mpr c16
       subst c16
       have H1 : (if a0.toList = ([102, 105, 120, 101, 100, 51, 50] : List UInt8) then (ident_word.j2 kj8 a0 (a0.toList == ([102, 105, 120, 101, 100, 51, 50] : List UInt8))) else (if a0.toList = ([102, 105, 120, 101, 100, 54, 52] : List UInt8) then (ident_word.j2 kj8 a0 (a0.toList == ([102, 105, 120, 101, 100, 54, 52] : List UInt8))) else (if a0.toList = ([115, 102, 105, 120, 101, 100, 51, 50] : List UInt8) then (ident_word.j2 kj8 a0 (a0.toList == ([115, 102, 105, 120, 101, 100, 51, 50] : List UInt8))) else (if a0.toList = ([115, 102, 105, 120, 101, 100, 54, 52] : List UInt8) then (ident_word.j2 kj8 a0 (a0.toList == ([115, 102, 105, 120, 101, 100, 54, 52] : List UInt8))) else (if a0.toList = ([115, 116, 114, 105, 110, 103] : List UInt8) then (ident_word.j2 kj8 a0 (a0.toList == ([115, 116, 114, 105, 110, 103] : List UInt8))) else (ident_word.j2 kj8 a0 (a0.toList == ([98, 121, 116, 101, 115] : List UInt8)))))))) = some r := by rw [if_neg (show ¬ (false = true) by decide)] at H; exact H
       clear H
       have H := H1
       clear H1
       have HC17 := Aside0.mk H
       clear H
       go_upto_if 19 with (fail)
       go_cut [19] (fun v19 wc => ∃ (kq : Nat) (x19_16 : Bool), v19 = .bool x19_16 ∧ Aside0 (ident_word.j2 kq a0 x19_16 = some r) ∧ Aside0 (kq ≤ kj8) ∧ Drawn0 w wc)
       case first =>
        have H := HC17.out
        clear HC17
        by_cases c18 : a0.toList = ([102, 105, 120, 101, 100, 51, 50] : List UInt8)
        ·rw [if_pos c18] at H
         have c18b0 : (a0.toList == ([102, 105, 120, 101, 100, 51, 50] : List UInt8)) = true := beq_iff_eq.mpr c18
         have c18b1 : (a0.toList != ([102, 105, 120, 101, 100, 51, 50] : List UInt8)) = false := bne_eq_false_iff_eq.mpr c18
         clear c18
         (first | rw [c18b0] | (simp only [i64_w, i32_w]; rw [c18b0]) | skip)
         have H' := Aside0.mk H
         clear H
         go_wp2
         go_meet
         case rel => exact ⟨_, ((a0.toList == ([102, 105, 120, 101, 100, 51, 50] : List UInt8))), (by first | rfl | (simp; done) | (simp [*]; done)), H', ⟨by have := HJ1.out; have := HJ8.out; first | omega | exact Nat.le_refl _⟩, by repeat (first | exact Drawn0.refl _ | apply Drawn0.step)⟩
        ·rw [if_neg c18] at H
         have c18b0 : (a0.toList == ([102, 105, 120, 101, 100, 51, 50] : List UInt8)) = false := beq_eq_false_iff_ne.mpr c18
         have c18b1 : (a0.toList != ([102, 105, 120, 101, 100, 51, 50] : List UInt8)) = true := bne_iff_ne.mpr c18
         (first | rw [c18b0] | (simp only [i64_w, i32_w]; rw [c18b0]) | skip)
         by_cases c19 : a0.toList = ([102, 105, 120, 101, 100, 54, 52] : List UInt8)
         ·rw [if_pos c19] at H
          have c19b0 : (a0.toList == ([102, 105, 120, 101, 100, 54, 52] : List UInt8)) = true := beq_iff_eq.mpr c19
          have c19b1 : (a0.toList != ([102, 105, 120, 101, 100, 54, 52] : List UInt8)) = false := bne_eq_false_iff_eq.mpr c19
          clear c19
          have H' := Aside0.mk H
          clear H
          go_wp2
          go_meet
          case rel => exact ⟨_, ((a0.toList == ([102, 105, 120, 101, 100, 54, 52] : List UInt8))), (by first | rfl | (simp; done) | (simp [*]; done)), H', ⟨by have := HJ1.out; have := HJ8.out; first | omega | exact Nat.le_refl _⟩, by repeat (first | exact Drawn0.refl _ | apply Drawn0.step)⟩
         ·rw [if_neg c19] at H
          have c19b0 : (a0.toList == ([102, 105, 120, 101, 100, 54, 52] : List UInt8)) = false := beq_eq_false_iff_ne.mpr c19
          have c19b1 : (a0.toList != ([102, 105, 120, 101, 100, 54, 52] : List UInt8)) = true := bne_iff_ne.mpr c19
          by_cases c20 : a0.toList = ([115, 102, 105, 120, 101, 100, 51, 50] : List UInt8)
          ·rw [if_pos c20] at H
           have c20b0 : (a0.toList == ([115, 102, 105, 120, 101, 100, 51, 50] : List UInt8)) = true := beq_iff_eq.mpr c20
           have c20b1 : (a0.toList != ([115, 102, 105, 120, 101, 100, 51, 50] : List UInt8)) = false := bne_eq_false_iff_eq.mpr c20
           clear c20
           have H' := Aside0.mk H
           clear H
           go_wp2
           go_meet
           case rel => exact ⟨_, ((a0.toList == ([115, 102, 105, 120, 101, 100, 51, 50] : List UInt8))), (by first | rfl | (simp; done) | (simp [*]; done)), H', ⟨by have := HJ1.out; have := HJ8.out; first | omega | exact Nat.le_refl _⟩, by repeat (first | exact Drawn0.refl _ | apply Drawn0.step)⟩
          ·rw [if_neg c20] at H
           have c20b0 : (a0.toList == ([115, 102, 105, 120, 101, 100, 51, 50] : List UInt8)) = false := beq_eq_false_iff_ne.mpr c20
           have c20b1 : (a0.toList != ([115, 102, 105, 120, 101, 100, 51, 50] : List UInt8)) = true := bne_iff_ne.mpr c20
           by_cases c21 : a0.toList = ([115, 102, 105, 120, 101, 100, 54, 52] : List UInt8)
           ·rw [if_pos c21] at H
            have c21b0 : (a0.toList == ([115, 102, 105, 120, 101, 100, 54, 52] : List UInt8)) = true := beq_iff_eq.mpr c21
            have c21b1 : (a0.toList != ([115, 102, 105, 120, 101, 100, 54, 52] : List UInt8)) = false := bne_eq_false_iff_eq.mpr c21
            clear c21
            have H' := Aside0.mk H
            clear H
            go_wp2
            go_meet
            case rel => exact ⟨_, ((a0.toList == ([115, 102, 105, 120, 101, 100, 54, 52] : List UInt8))), (by first | rfl | (simp; done) | (simp [*]; done)), H', ⟨by have := HJ1.out; have := HJ8.out; first | omega | exact Nat.le_refl _⟩, by repeat (first | exact Drawn0.refl _ | apply Drawn0.step)⟩
           ·rw [if_neg c21] at H
            have c21b0 : (a0.toList == ([115, 102, 105, 120, 101, 100, 54, 52] : List UInt8)) = false := beq_eq_false_iff_ne.mpr c21
            have c21b1 : (a0.toList != ([115, 102, 105, 120, 101, 100, 54, 52] : List UInt8)) = true := bne_iff_ne.mpr c21
            by_cases c22 : a0.toList = ([115, 116, 114, 105, 110, 103] : List UInt8)
            ·rw [if_pos c22] at H
             have c22b0 : (a0.toList == ([115, 116, 114, 105, 110, 103] : List UInt8)) = true := beq_iff_eq.mpr c22
             have c22b1 : (a0.toList != ([115, 116, 114, 105, 110, 103] : List UInt8)) = false := bne_eq_false_iff_eq.mpr c22
             clear c22
             have H' := Aside0.mk H
             clear H
             go_wp2
             go_meet
             case rel => exact ⟨_, ((a0.toList == ([115, 116, 114, 105, 110, 103] : List UInt8))), (by first | rfl | (simp; done) | (simp [*]; done)), H', ⟨by have := HJ1.out; have := HJ8.out; first | omega | exact Nat.le_refl _⟩, by repeat (first | exact Drawn0.refl _ | apply Drawn0.step)⟩
            ·rw [if_neg c22] at H
             have c22b0 : (a0.toList == ([115, 116, 114, 105, 110, 103] : List UInt8)) = false := beq_eq_false_iff_ne.mpr c22
             have c22b1 : (a0.toList != ([115, 116, 114, 105, 110, 103] : List UInt8)) = true := bne_iff_ne.mpr c22
             have H' := Aside0.mk H
             clear H
             go_wp2
             go_meet
             case rel => exact ⟨_, ((a0.toList == ([98, 121, 116, 101, 115] : List UInt8))), (by first | rfl | (simp; done) | (simp [*]; done)), H', ⟨by have := HJ1.out; have := HJ8.out; first | omega | exact Nat.le_refl _⟩, by repeat (first | exact Drawn0.refl _ | apply Drawn0.step)⟩
       case rest =>
        clear HC17
        try clear c1
        try clear c2
        try clear p2
        try clear c3
        try clear c3b0
        try clear c3b1
        try clear c4
        try clear c4b0
        try clear c4b1
        try clear c5
        try clear c5b0
        try clear c5b1
        try clear c6
        try clear c6b0
        try clear c6b1
        try clear c7
        try clear c7b0
        try clear c7b1
        try clear c8
        try clear c10
        try clear c10b0
        try clear c10b1
        try clear c11
        try clear c11b0
        try clear c11b1
        try clear c12
        try clear c12b0
        try clear c12b1
        try clear c13
        try clear c13b0
        try clear c13b1
        try clear c14
        try clear c14b0
        try clear c14b1
        try clear c15
        try clear c15b0
        try clear c15b1
        try clear c16
        try clear c18
        try clear c18b0
        try clear c18b1
        try clear c19
        try clear c19b0
        try clear c19b1
        try clear c20
        try clear c20b0
        try clear c20b1
        try clear c21
        try clear c21b0
        try clear c21b1
        try clear c22
        try clear c22b0
        try clear c22b1
        try clear p2
        obtain ⟨kq, x19_16, rfl, HA, HJ16, ⟨mc16, rfl⟩⟩ := hcut
        cases kq with
        | zero => exact absurd HA.out (by simp [ident_word.j2])
        | succ kj16 =>
         have H := HA.out
         clear HA
         simp only [ident_word.j2] at H
         by_cases c23 : x19_16 = true
         ·subst c23
          have H1 : (some true) = some r := by rw [if_pos rfl] at H; exact H
          clear H
          have H := H1
          clear H1
          obtain rfl := Option.some.inj H
          go_wp2
          go_ret
          exact ⟨by first | rfl | (simp; done) | (simp [*]; done), by repeat (first | exact Drawn0.refl _ | apply Drawn0.step)⟩
         ·replace c23 := Bool.eq_false_iff.mpr c23
          subst c23
          have H1 : (if a0.toList = ([114, 101, 110, 97, 109, 101] : List UInt8) then (ident_word.j3 kj16 a0 (a0.toList == ([114, 101, 110, 97, 109, 101] : List UInt8))) else (if a0.toList = ([114, 101, 110, 117, 109, 98, 101, 114] : List UInt8) then (ident_word.j3 kj16 a0 (a0.toList == ([114, 101, 110, 117, 109, 98, 101, 114] : List UInt8))) else (if a0.toList = ([114, 101, 116, 121, 112, 101] : List UInt8) then (ident_word.j3 kj16 a0 (a0.toList == ([114, 101, 116, 121, 112, 101] : List UInt8))) else (if a0.toList = ([115, 112, 108, 105, 116] : List UInt8) then (ident_word.j3 kj16 a0 (a0.toList == ([115, 112, 108, 105, 116] : List UInt8))) else (if a0.toList = ([106, 111, 105, 110] : List UInt8) then (ident_word.j3 kj16 a0 (a0.toList == ([106, 111, 105, 110] : List UInt8))) else (if a0.toList = ([119, 114, 97, 112] : List UInt8) then (ident_word.j3 kj16 a0 (a0.toList == ([119, 114, 97, 112] : List UInt8))) else (if a0.toList = ([117, 110, 119, 114, 97, 112] : List UInt8) then (ident_word.j3 kj16 a0 (a0.toList == ([117, 110, 119, 114, 97, 112] : List UInt8))) else (if a0.toList = ([97, 100, 100] : List UInt8) then (ident_word.j3 kj16 a0 (a0.toList == ([97, 100, 100] : List UInt8))) else (ident_word.j3 kj16 a0 (a0.toList == ([100, 114, 111, 112] : List UInt8))))))))))) = some r := by rw [if_neg (show ¬ (false = true) by decide)] at H; exact H
          clear H
          have H := H1
          clear H1
          have HC24 := Aside0.mk H
          clear H
          go_upto_if 26 with (fail)
          go_cut [26] (fun v26 wc => ∃ (kq : Nat) (x26_23 : Bool), v26 = .bool x26_23 ∧ Aside0 (ident_word.j3 kq a0 x26_23 = some r) ∧ Aside0 (kq ≤ kj16) ∧ Drawn0 w wc)
          case first =>
           have H := HC24.out
           clear HC24
           by_cases c25 : a0.toList = ([114, 101, 110, 97, 109, 101] : List UInt8)
           ·rw [if_pos c25] at H
            have c25b0 : (a0.toList == ([114, 101, 110, 97, 109, 101] : List UInt8)) = true := beq_iff_eq.mpr c25
            have c25b1 : (a0.toList != ([114, 101, 110, 97, 109, 101] : List UInt8)) = false := bne_eq_false_iff_eq.mpr c25
            clear c25
            (first | rw [c25b0] | (simp only [i64_w, i32_w]; rw [c25b0]) | skip)
            have H' := Aside0.mk H
            clear H
            go_wp2
            go_meet
            case rel => exact ⟨_, ((a0.toList == ([114, 101, 110, 97, 109, 101] : List UInt8))), (by first | rfl | (simp; done) | (simp [*]; done)), H', ⟨by have := HJ1.out; have := HJ8.out; have := HJ16.out; first | omega | exact Nat.le_refl _⟩, by repeat (first | exact Drawn0.refl _ | apply Drawn0.step)⟩
           ·rw [if_neg c25] at H
            have c25b0 : (a0.toList == ([114, 101, 110, 97, 109, 101] : List UInt8)) = false := beq_eq_false_iff_ne.mpr c25
            have c25b1 : (a0.toList != ([114, 101, 110, 97, 109, 101] : List UInt8)) = true := bne_iff_ne.mpr c25
            (first | rw [c25b0] | (simp only [i64_w, i32_w]; rw [c25b0]) | skip)
            by_cases c26 : a0.toList = ([114, 101, 110, 117, 109, 98, 101, 114] : List UInt8)
            ·rw [if_pos c26] at H
             have c26b0 : (a0.toList == ([114, 101, 110, 117, 109, 98, 101, 114] : List UInt8)) = true := beq_iff_eq.mpr c26
             have c26b1 : (a0.toList != ([114, 101, 110, 117, 109, 98, 101, 114] : List UInt8)) = false := bne_eq_false_iff_eq.mpr c26
             clear c26
             have H' := Aside0.mk H
             clear H
             go_wp2
             go_meet
             case rel => exact ⟨_, ((a0.toList == ([114, 101, 110, 117, 109, 98, 101, 114] : List UInt8))), (by first | rfl | (simp; done) | (simp [*]; done)), H', ⟨by have := HJ1.out; have := HJ8.out; have := HJ16.out; first | omega | exact Nat.le_refl _⟩, by repeat (first | exact Drawn0.refl _ | apply Drawn0.step)⟩
            ·rw [if_neg c26] at H
             have c26b0 : (a0.toList == ([114, 101, 110, 117, 109, 98, 101, 114] : List UInt8)) = false := beq_eq_false_iff_ne.mpr c26
             have c26b1 : (a0.toList != ([114, 101, 110, 117, 109, 98, 101, 114] : List UInt8)) = true := bne_iff_ne.mpr c26
             by_cases c27 : a0.toList = ([114, 101, 116, 121, 112, 101] : List UInt8)
             ·rw [if_pos c27] at H
              have c27b0 : (a0.toList == ([114, 101, 116, 121, 112, 101] : List UInt8)) = true := beq_iff_eq.mpr c27
              have c27b1 : (a0.toList != ([114, 101, 116, 121, 112, 101] : List UInt8)) = false := bne_eq_false_iff_eq.mpr c27
              clear c27
              have H' := Aside0.mk H
              clear H
              go_wp2
              go_meet
              case rel => exact ⟨_, ((a0.toList == ([114, 101, 116, 121, 112, 101] : List UInt8))), (by first | rfl | (simp; done) | (simp [*]; done)), H', ⟨by have := HJ1.out; have := HJ8.out; have := HJ16.out; first | omega | exact Nat.le_refl _⟩, by repeat (first | exact Drawn0.refl _ | apply Drawn0.step)⟩
             ·rw [if_neg c27] at H
              have c27b0 : (a0.toList == ([114, 101, 116, 121, 112, 101] : List UInt8)) = false := beq_eq_false_iff_ne.mpr c27
              have c27b1 : (a0.toList != ([114, 101, 116, 121, 112, 101] : List UInt8)) = true := bne_iff_ne.mpr c27
              by_cases c28 : a0.toList = ([115, 112, 108, 105, 116] : List UInt8)
              ·rw [if_pos c28] at H
               have c28b0 : (a0.toList == ([115, 112, 108, 105, 116] : List UInt8)) = true := beq_iff_eq.mpr c28
               have c28b1 : (a0.toList != ([115, 112, 108, 105, 116] : List UInt8)) = false := bne_eq_false_iff_eq.mpr c28
               clear c28
               have H' := Aside0.mk H
               clear H
               go_wp2
               go_meet
               case rel => exact ⟨_, ((a0.toList == ([115, 112, 108, 105, 116] : List UInt8))), (by first | rfl | (simp; done) | (simp [*]; done)), H', ⟨by have := HJ1.out; have := HJ8.out; have := HJ16.out; first | omega | exact Nat.le_refl _⟩, by repeat (first | exact Drawn0.refl _ | apply Drawn0.step)⟩
              ·rw [if_neg c28] at H
               have c28b0 : (a0.toList == ([115, 112, 108, 105, 116] : List UInt8)) = false := beq_eq_false_iff_ne.mpr c28
               have c28b1 : (a0.toList != ([115, 112, 108, 105, 116] : List UInt8)) = true := bne_iff_ne.mpr c28
               by_cases c29 : a0.toList = ([106, 111, 105, 110] : List UInt8)
               ·rw [if_pos c29] at H
                have c29b0 : (a0.toList == ([106, 111, 105, 110] : List UInt8)) = true := beq_iff_eq.mpr c29
                have c29b1 : (a0.toList != ([106, 111, 105, 110] : List UInt8)) = false := bne_eq_false_iff_eq.mpr c29
                clear c29
                have H' := Aside0.mk H
                clear H
                go_wp2
                go_meet
                case rel => exact ⟨_, ((a0.toList == ([106, 111, 105, 110] : List UInt8))), (by first | rfl | (simp; done) | (simp [*]; done)), H', ⟨by have := HJ1.out; have := HJ8.out; have := HJ16.out; first | omega | exact Nat.le_refl _⟩, by repeat (first | exact Drawn0.refl _ | apply Drawn0.step)⟩
               ·rw [if_neg c29] at H
                have c29b0 : (a0.toList == ([106, 111, 105, 110] : List UInt8)) = false := beq_eq_false_iff_ne.mpr c29
                have c29b1 : (a0.toList != ([106, 111, 105, 110] : List UInt8)) = true := bne_iff_ne.mpr c29
                by_cases c30 : a0.toList = ([119, 114, 97, 112] : List UInt8)
                ·rw [if_pos c30] at H
                 have c30b0 : (a0.toList == ([119, 114, 97, 112] : List UInt8)) = true := beq_iff_eq.mpr c30
                 have c30b1 : (a0.toList != ([119, 114, 97, 112] : List UInt8)) = false := bne_eq_false_iff_eq.mpr c30
                 clear c30
                 have H' := Aside0.mk H
                 clear H
                 go_wp2
                 go_meet
                 case rel => exact ⟨_, ((a0.toList == ([119, 114, 97, 112] : List UInt8))), (by first | rfl | (simp; done) | (simp [*]; done)), H', ⟨by have := HJ1.out; have := HJ8.out; have := HJ16.out; first | omega | exact Nat.le_refl _⟩, by repeat (first | exact Drawn0.refl _ | apply Drawn0.step)⟩
                ·rw [if_neg c30] at H
                 have c30b0 : (a0.toList == ([119, 114, 97, 112] : List UInt8)) = false := beq_eq_false_iff_ne.mpr c30
                 have c30b1 : (a0.toList != ([119, 114, 97, 112] : List UInt8)) = true := bne_iff_ne.mpr c30
                 by_cases c31 : a0.toList = ([117, 110, 119, 114, 97, 112] : List UInt8)
                 ·rw [if_pos c31] at H
                  have c31b0 : (a0.toList == ([117, 110, 119, 114, 97, 112] : List UInt8)) = true := beq_iff_eq.mpr c31
                  have c31b1 : (a0.toList != ([117, 110, 119, 114, 97, 112] : List UInt8)) = false := bne_eq_false_iff_eq.mpr c31
                  clear c31
                  have H' := Aside0.mk H
                  clear H
                  go_wp2
                  go_meet
                  case rel => exact ⟨_, ((a0.toList == ([117, 110, 119, 114, 97, 112] : List UInt8))), (by first | rfl | (simp; done) | (simp [*]; done)), H', ⟨by have := HJ1.out; have := HJ8.out; have := HJ16.out; first | omega | exact Nat.le_refl _⟩, by repeat (first | exact Drawn0.refl _ | apply Drawn0.step)⟩
                 ·rw [if_neg c31] at H
                  have c31b0 : (a0.toList == ([117, 110, 119, 114, 97, 112] : List UInt8)) = false := beq_eq_false_iff_ne.mpr c31
                  have c31b1 : (a0.toList != ([117, 110, 119, 114, 97, 112] : List UInt8)) = true := bne_iff_ne.mpr c31
                  by_cases c32 : a0.toList = ([97, 100, 100] : List UInt8)
                  ·rw [if_pos c32] at H
                   have c32b0 : (a0.toList == ([97, 100, 100] : List UInt8)) = true := beq_iff_eq.mpr c32
                   have c32b1 : (a0.toList != ([97, 100, 100] : List UInt8)) = false := bne_eq_false_iff_eq.mpr c32
                   clear c32
                   have H' := Aside0.mk H
                   clear H
                   go_wp2
                   go_meet
                   case rel => exact ⟨_, ((a0.toList == ([97, 100, 100] : List UInt8))), (by first | rfl | (simp; done) | (simp [*]; done)), H', ⟨by have := HJ1.out; have := HJ8.out; have := HJ16.out; first | omega | exact Nat.le_refl _⟩, by repeat (first | exact Drawn0.refl _ | apply Drawn0.step)⟩
                  ·rw [if_neg c32] at H
                   have c32b0 : (a0.toList == ([97, 100, 100] : List UInt8)) = false := beq_eq_false_iff_ne.mpr c32
                   have c32b1 : (a0.toList != ([97, 100, 100] : List UInt8)) = true := bne_iff_ne.mpr c32
                   have H' := Aside0.mk H
                   clear H
                   go_wp2
                   go_meet
                   case rel => exact ⟨_, ((a0.toList == ([100, 114, 111, 112] : List UInt8))), (by first | rfl | (simp; done) | (simp [*]; done)), H', ⟨by have := HJ1.out; have := HJ8.out; have := HJ16.out; first | omega | exact Nat.le_refl _⟩, by repeat (first | exact Drawn0.refl _ | apply Drawn0.step)⟩
          case rest =>
           clear HC24
           try clear c1
           try clear c2
           try clear p2
           try clear c3
           try clear c3b0
           try clear c3b1
           try clear c4
           try clear c4b0
           try clear c4b1
           try clear c5
           try clear c5b0
           try clear c5b1
           try clear c6
           try clear c6b0
           try clear c6b1
           try clear c7
           try clear c7b0
           try clear c7b1
           try clear c8
           try clear c10
           try clear c10b0
           try clear c10b1
           try clear c11
           try clear c11b0
           try clear c11b1
           try clear c12
           try clear c12b0
           try clear c12b1
           try clear c13
           try clear c13b0
           try clear c13b1
           try clear c14
           try clear c14b0
           try clear c14b1
           try clear c15
           try clear c15b0
           try clear c15b1
           try clear c16
           try clear c18
           try clear c18b0
           try clear c18b1
           try clear c19
           try clear c19b0
           try clear c19b1
           try clear c20
           try clear c20b0
           try clear c20b1
           try clear c21
           try clear c21b0
           try clear c21b1
           try clear c22
           try clear c22b0
           try clear c22b1
           try clear c23
           try clear c25
           try clear c25b0
           try clear c25b1
           try clear c26
           try clear c26b0
           try clear c26b1
           try clear c27
           try clear c27b0
           try clear c27b1
           try clear c28
           try clear c28b0
           try clear c28b1
           try clear c29
           try clear c29b0
           try clear c29b1
           try clear c30
           try clear c30b0
           try clear c30b1
           try clear c31
           try clear c31b0
           try clear c31b1
           try clear c32
           try clear c32b0
           try clear c32b1
           try clear p2
           obtain ⟨kq, x26_23, rfl, HA, HJ23, ⟨mc23, rfl⟩⟩ := hcut
           cases kq with
           | zero => exact absurd HA.out (by simp [ident_word.j3])
           | succ kj23 =>
            have H := HA.out
            clear HA
            simp only [ident_word.j3] at H
            by_cases c33 : x26_23 = true
            ·subst c33
             have H1 : (some true) = some r := by rw [if_pos rfl] at H; exact H
             clear H
             have H := H1
             clear H1
             obtain rfl := Option.some.inj H
             go_wp2
             go_ret
             exact ⟨by first | rfl | (simp; done) | (simp [*]; done), by repeat (first | exact Drawn0.refl _ | apply Drawn0.step)⟩
            ·replace c33 := Bool.eq_false_iff.mpr c33
             subst c33
             have H1 : (if a0.toList = ([116, 111] : List UInt8) then (some true) else (if a0.toList = ([105, 110, 116, 111] : List UInt8) then (some true) else (if a0.toList = ([97, 115] : List UInt8) then (some true) else (if a0.toList = ([111, 102] : List UInt8) then (some true) else (if a0.toList = ([100, 101, 102, 97, 117, 108, 116] : List UInt8) then (some true) else (if a0.toList = ([116, 114, 117, 101] : List UInt8) then (some true) else (if a0.toList = ([102, 97, 108, 115, 101] : List UInt8) then (some true) else (some false)))))))) = some r := by rw [if_neg (show ¬ (false = true) by decide)] at H; exact H
             clear H
             have H := H1
             clear H1
             by_cases c34 : a0.toList = ([116, 111] : List UInt8)
             ·rw [if_pos c34] at H
              have c34b0 : (a0.toList == ([116, 111] : List UInt8)) = true := beq_iff_eq.mpr c34
              have c34b1 : (a0.toList != ([116, 111] : List UInt8)) = false := bne_eq_false_iff_eq.mpr c34
              clear c34
              obtain rfl := Option.some.inj H
              go_wp2
              go_ret
              exact ⟨by first | rfl | (simp; done) | (simp [*]; done), by repeat (first | exact Drawn0.refl _ | apply Drawn0.step)⟩
             ·rw [if_neg c34] at H
              have c34b0 : (a0.toList == ([116, 111] : List UInt8)) = false := beq_eq_false_iff_ne.mpr c34
              have c34b1 : (a0.toList != ([116, 111] : List UInt8)) = true := bne_iff_ne.mpr c34
              by_cases c35 : a0.toList = ([105, 110, 116, 111] : List UInt8)
              ·rw [if_pos c35] at H
               have c35b0 : (a0.toList == ([105, 110, 116, 111] : List UInt8)) = true := beq_iff_eq.mpr c35
               have c35b1 : (a0.toList != ([105, 110, 116, 111] : List UInt8)) = false := bne_eq_false_iff_eq.mpr c35
               clear c35
               obtain rfl := Option.some.inj H
               go_wp2
               go_ret
               exact ⟨by first | rfl | (simp; done) | (simp [*]; done), by repeat (first | exact Drawn0.refl _ | apply Drawn0.step)⟩
              ·rw [if_neg c35] at H
               have c35b0 : (a0.toList == ([105, 110, 116, 111] : List UInt8)) = false := beq_eq_false_iff_ne.mpr c35
               have c35b1 : (a0.toList != ([105, 110, 116, 111] : List UInt8)) = true := bne_iff_ne.mpr c35
               by_cases c36 : a0.toList = ([97, 115] : List UInt8)
               ·rw [if_pos c36] at H
                have c36b0 : (a0.toList == ([97, 115] : List UInt8)) = true := beq_iff_eq.mpr c36
                have c36b1 : (a0.toList != ([97, 115] : List UInt8)) = false := bne_eq_false_iff_eq.mpr c36
                clear c36
                obtain rfl := Option.some.inj H
                go_wp2
                go_ret
                exact ⟨by first | rfl | (simp; done) | (simp [*]; done), by repeat (first | exact Drawn0.refl _ | apply Drawn0.step)⟩
               ·rw [if_neg c36] at H
                have c36b0 : (a0.toList == ([97, 115] : List UInt8)) = false := beq_eq_false_iff_ne.mpr c36
                have c36b1 : (a0.toList != ([97, 115] : List UInt8)) = true := bne_iff_ne.mpr c36
                by_cases c37 : a0.toList = ([111, 102] : List UInt8)
                ·rw [if_pos c37] at H
                 have c37b0 : (a0.toList == ([111, 102] : List UInt8)) = true := beq_iff_eq.mpr c37
                 have c37b1 : (a0.toList != ([111, 102] : List UInt8)) = false := bne_eq_false_iff_eq.mpr c37
                 clear c37
                 obtain rfl := Option.some.inj H
                 go_wp2
                 go_ret
                 exact ⟨by first | rfl | (simp; done) | (simp [*]; done), by repeat (first | exact Drawn0.refl _ | apply Drawn0.step)⟩
                ·rw [if_neg c37] at H
                 have c37b0 : (a0.toList == ([111, 102] : List UInt8)) = false := beq_eq_false_iff_ne.mpr c37
                 have c37b1 : (a0.toList != ([111, 102] : List UInt8)) = true := bne_iff_ne.mpr c37
                 by_cases c38 : a0.toList = ([100, 101, 102, 97, 117, 108, 116] : List UInt8)
                 ·rw [if_pos c38] at H
                  have c38b0 : (a0.toList == ([100, 101, 102, 97, 117, 108, 116] : List UInt8)) = true := beq_iff_eq.mpr c38
                  have c38b1 : (a0.toList != ([100, 101, 102, 97, 117, 108, 116] : List UInt8)) = false := bne_eq_false_iff_eq.mpr c38
                  clear c38
                  obtain rfl := Option.some.inj H
                  go_wp2
                  go_ret
                  exact ⟨by first | rfl | (simp; done) | (simp [*]; done), by repeat (first | exact Drawn0.refl _ | apply Drawn0.step)⟩
                 ·rw [if_neg c38] at H
                  have c38b0 : (a0.toList == ([100, 101, 102, 97, 117, 108, 116] : List UInt8)) = false := beq_eq_false_iff_ne.mpr c38
                  have c38b1 : (a0.toList != ([100, 101, 102, 97, 117, 108, 116] : List UInt8)) = true := bne_iff_ne.mpr c38
                  by_cases c39 : a0.toList = ([116, 114, 117, 101] : List UInt8)
                  ·rw [if_pos c39] at H
                   have c39b0 : (a0.toList == ([116, 114, 117, 101] : List UInt8)) = true := beq_iff_eq.mpr c39
                   have c39b1 : (a0.toList != ([116, 114, 117, 101] : List UInt8)) = false := bne_eq_false_iff_eq.mpr c39
                   clear c39
                   obtain rfl := Option.some.inj H
                   go_wp2
                   go_ret
                   exact ⟨by first | rfl | (simp; done) | (simp [*]; done), by repeat (first | exact Drawn0.refl _ | apply Drawn0.step)⟩
                  ·rw [if_neg c39] at H
                   have c39b0 : (a0.toList == ([116, 114, 117, 101] : List UInt8)) = false := beq_eq_false_iff_ne.mpr c39
                   have c39b1 : (a0.toList != ([116, 114, 117, 101] : List UInt8)) = true := bne_iff_ne.mpr c39
                   by_cases c40 : a0.toList = ([102, 97, 108, 115, 101] : List UInt8)
                   ·rw [if_pos c40] at H
                    have c40b0 : (a0.toList == ([102, 97, 108, 115, 101] : List UInt8)) = true := beq_iff_eq.mpr c40
                    have c40b1 : (a0.toList != ([102, 97, 108, 115, 101] : List UInt8)) = false := bne_eq_false_iff_eq.mpr c40
                    clear c40
                    obtain rfl := Option.some.inj H
                    go_wp2
                    go_ret
                    exact ⟨by first | rfl | (simp; done) | (simp [*]; done), by repeat (first | exact Drawn0.refl _ | apply Drawn0.step)⟩
                   ·rw [if_neg c40] at H
                    have c40b0 : (a0.toList == ([102, 97, 108, 115, 101] : List UInt8)) = false := beq_eq_false_iff_ne.mpr c40
                    have c40b1 : (a0.toList != ([102, 97, 108, 115, 101] : List UInt8)) = true := bne_iff_ne.mpr c40
                    obtain rfl := Option.some.inj H
                    go_wp2
                    go_ret
                    exact ⟨by first | rfl | (simp; done) | (simp [*]; done), by repeat (first | exact Drawn0.refl _ | apply Drawn0.step)⟩
end Go.Proofs.Ytelhcijoegjjnaa.P
namespace Go.Proofs.Ytelhcijoegjjnaa.Str
theorem le_trans' (a b c : List UInt8) (h1 : decide (a ≤ b) = true) (h2 : decide (b ≤ c) = true) : decide (a ≤ c) = true :=
 decide_eq_true (List.le_trans (of_decide_eq_true h1) (of_decide_eq_true h2))
theorem le_total' (a b : List UInt8) : (decide (a ≤ b) || decide (b ≤ a)) = true := by
 rcases List.le_total a b with h | h <;> simp [h]
def sorted (l : List (List UInt8)) : List (List UInt8) := l.mergeSort fun x y => decide (x ≤ y)
theorem sorted_length (l : List (List UInt8)) : (sorted l).length = l.length := by simp [sorted]
theorem sorted_perm (l : List (List UInt8)) : (sorted l).Perm l := List.mergeSort_perm _ _
theorem sorted_le (l : List (List UInt8)) : (sorted l).Pairwise (· ≤ ·) :=
 (List.pairwise_mergeSort le_trans' le_total' l).imp (fun h => of_decide_eq_true h)
def Rise (l : List (List UInt8)) : Prop := ∀ j, 0 < j → ∀ a b, l[j-1]? = some a → l[j]? = some b → a < b
theorem rise_cons {a b : List UInt8} {l : List (List UInt8)} : Rise (a :: b :: l) ↔ a < b ∧ Rise (b :: l) := by
 constructor
 ·intro h
  refine ⟨h 1 (by omega) a b rfl rfl, fun j hj x y hx hy => ?_⟩
  refine h (j + 1) (by omega) x y ?_ (by simpa using hy)
  obtain ⟨k, rfl⟩ : ∃ k, j = k + 1 := ⟨j - 1, by omega⟩
  simpa using hx
 ·rintro ⟨h1, h2⟩ j hj x y hx hy
  rcases Nat.lt_or_ge j 2 with h | h
  ·obtain rfl : j = 1 := by omega
   simp at hx hy
   subst hx; subst hy
   exact h1
  ·obtain ⟨k, rfl⟩ : ∃ k, j = k + 2 := ⟨j - 2, by omega⟩
   exact h2 (k + 1) (by omega) x y (by simpa using hx) (by simpa using hy)
theorem rise_nil : Rise [] := fun j _ a b h => by simp at h
theorem rise_one (a : List UInt8) : Rise [a] := fun j hj x y _ hy => by
 have := (List.getElem?_eq_some_iff.1 hy).1
 simp at this
 omega
theorem rise_iff : ∀ l : List (List UInt8), Rise l ↔ l.Pairwise (· < ·)
 | [] => by simp [rise_nil]
 | [a] => by simp [rise_one]
 | a :: b :: l => by
  rw [rise_cons, rise_iff (b :: l), List.pairwise_cons (a := a)]
  constructor
  ·rintro ⟨h1, h2⟩
   refine ⟨fun c hc => ?_, h2⟩
   rcases List.mem_cons.1 hc with rfl | hc
   ·exact h1
   ·exact List.lt_trans h1 ((List.pairwise_cons.1 h2).1 c hc)
  ·rintro ⟨h1, h2⟩
   exact ⟨h1 b List.mem_cons_self, h2⟩
theorem rise_nodup {l : List (List UInt8)} (h : Rise l) : l.Nodup :=
 ((rise_iff l).1 h).imp (fun {a b} hab e => by subst e; exact List.lt_irrefl a hab)
theorem sorted_rise (l : List (List UInt8)) : Rise (sorted l) ↔ l.Nodup := by
 rw [rise_iff, ← (sorted_perm l).nodup_iff]
 constructor
 ·intro h
  exact rise_nodup ((rise_iff _).2 h)
 ·intro h
  have h2 := sorted_le l
  refine (List.Pairwise.and h2 h).imp ?_
  rintro a b ⟨h1, h2⟩
  by_cases hlt : a < b
  ·exact hlt
  ·exact absurd (List.le_antisymm h1 (List.not_lt.1 hlt)) h2
def words0 : List (List UInt8) := [[101, 110, 117, 109], [109, 101, 115, 115, 97, 103, 101], [111, 110, 101, 111, 102], [114, 101, 112, 101, 97, 116, 101, 100], [114, 101, 115, 101, 114, 118, 101, 100], [108, 111, 111, 115, 101]]
def words1 : List (List UInt8) := [[105, 110, 116, 51, 50], [105, 110, 116, 54, 52], [117, 105, 110, 116, 51, 50], [117, 105, 110, 116, 54, 52], [115, 105, 110, 116, 51, 50], [115, 105, 110, 116, 54, 52], [98, 111, 111, 108]]
def words2 : List (List UInt8) := [[102, 105, 120, 101, 100, 51, 50], [102, 105, 120, 101, 100, 54, 52], [115, 102, 105, 120, 101, 100, 51, 50], [115, 102, 105, 120, 101, 100, 54, 52], [115, 116, 114, 105, 110, 103], [98, 121, 116, 101, 115]]
def words3 : List (List UInt8) := [[114, 101, 110, 97, 109, 101], [114, 101, 110, 117, 109, 98, 101, 114], [114, 101, 116, 121, 112, 101], [115, 112, 108, 105, 116], [106, 111, 105, 110], [119, 114, 97, 112], [117, 110, 119, 114, 97, 112], [97, 100, 100], [100, 114, 111, 112]]
def words4 : List (List UInt8) := [[116, 111], [105, 110, 116, 111], [97, 115], [111, 102], [100, 101, 102, 97, 117, 108, 116], [116, 114, 117, 101], [102, 97, 108, 115, 101]]
def words : List (List UInt8) := words0 ++ words1 ++ words2 ++ words3 ++ words4
def nameByte (first : Bool) (c : UInt8) : Bool := decide (97 ≤ c.toNat ∧ c.toNat ≤ 122 ∨ 65 ≤ c.toNat ∧ c.toNat ≤ 90 ∨ first = false ∧ (48 ≤ c.toNat ∧ c.toNat ≤ 57 ∨ c.toNat = 95))
def bytesOk : List UInt8 → Bool
 | [] => true
 | c :: t => nameByte true c && t.all (nameByte false)
theorem bytesOk_iff (l : List UInt8) : bytesOk l = true ↔ ∀ j c, l[j]? = some c → nameByte (j == 0) c = true := by
 rcases l with _ | ⟨a, t⟩
 ·simp [bytesOk]
 ·unfold bytesOk
  rw [Bool.and_eq_true, List.all_eq_true]
  constructor
  ·rintro ⟨h1, h2⟩ j c hc
   rcases j with _ | j
   ·simp at hc; subst hc; exact h1
   ·simp at hc ⊢; exact h2 c (List.mem_of_getElem? hc)
  ·intro h
   refine ⟨h 0 a rfl, fun c hc => ?_⟩
   obtain ⟨j, hj⟩ := List.mem_iff_getElem?.1 hc
   exact h (j + 1) c (by simpa using hj)
def rightB (s : ByteArray) : Bool := bytesOk s.data.toList && decide (0 < s.size ∧ s.size ≤ 12) && !(words.contains s.data.toList)
def nodupB (l : List ByteArray) : Bool := decide (l.map (·.data.toList)).Nodup
def hasB (l : List ByteArray) (s : ByteArray) : Bool := l.any fun x => decide (x.data.toList = s.data.toList)
instance riseDec (l : List (List UInt8)) : Decidable (Rise l) := decidable_of_iff _ (rise_iff l).symm
def riseB (l : List ByteArray) : Bool := decide (Rise (l.map (·.data.toList)))
def risesI (l : List Int) : Bool := decide (l.Pairwise (· < ·))
theorem pairwise_next : ∀ l : List Int, l.Pairwise (· < ·) ↔ ∀ j : Nat, 0 < j → ∀ a b, l[j-1]? = some a → l[j]? = some b → a < b
 | [] => by simp
 | [a] => by
  simp only [List.pairwise_cons, List.not_mem_nil, false_imp_iff, implies_true, List.Pairwise.nil, and_self, true_iff]
  intro j hj x y _ hy
  have := (List.getElem?_eq_some_iff.1 hy).1
  simp at this
  omega
 | a :: b :: l => by
  rw [List.pairwise_cons, pairwise_next (b :: l)]
  constructor
  ·rintro ⟨h1, h2⟩ j hj x y hx hy
   rcases Nat.lt_or_ge j 2 with h | h
   ·obtain rfl : j = 1 := by omega
    simp at hx hy
    subst hx; subst hy
    exact h1 b List.mem_cons_self
   ·obtain ⟨k, rfl⟩ : ∃ k, j = k + 2 := ⟨j - 2, by omega⟩
    exact h2 (k + 1) (by omega) x y (by simpa using hx) (by simpa using hy)
  ·intro h
   have h2 : ∀ j : Nat, 0 < j → ∀ x y, (b :: l)[j-1]? = some x → (b :: l)[j]? = some y → x < y := by
    intro j hj x y hx hy
    obtain ⟨k, rfl⟩ : ∃ k, j = k + 1 := ⟨j - 1, by omega⟩
    exact h (k + 2) (by omega) x y (by simpa using hx) (by simpa using hy)
   refine ⟨fun c hc => ?_, h2⟩
   have hab : a < b := h 1 (by omega) a b rfl rfl
   rcases List.mem_cons.1 hc with rfl | hc
   ·exact hab
   ·have := (List.pairwise_cons.1 ((pairwise_next (b :: l)).2 h2)).1 c hc
    omega
end Go.Proofs.Ytelhcijoegjjnaa.Str
namespace Go.Proofs.Ytelhcijoegjjnaa.P
open Go.RowKit Go.Proofs.YtelhcijoegjjnaaW.PrintWords Go.Proofs.YtelhcijoegjjnaaW.PrintLast Go.Proofs.YtelhcijoegjjnaaW.PrintMore
attribute [local go_sem] max2_int min2_int max_two min_two max_three min_three max_four min_four
set_option linter.unusedVariables false
set_option linter.unusedSimpArgs false
theorem ident_word.j3_eq (k : Nat) (s : ByteArray) (b : Bool) : ident_word.j3 (k + 1) s b = some (b || Str.words4.contains s.toList) := by
  simp only [ident_word.j3]
  repeat' split
  all_goals simp_all [Str.words4]
  all_goals try (rw [Bool.eq_iff_iff]; simp)
theorem ident_word.j2_eq (k : Nat) (s : ByteArray) (b : Bool) : ident_word.j2 (k + 2) s b = some (b || Str.words3.contains s.toList || Str.words4.contains s.toList) := by
  simp only [ident_word.j2, ident_word.j3_eq]
  repeat' split
  all_goals simp_all [Str.words3]
  all_goals try (rw [Bool.eq_iff_iff]; simp)
theorem ident_word.j1_eq (k : Nat) (s : ByteArray) (b : Bool) : ident_word.j1 (k + 3) s b = some (b || Str.words2.contains s.toList || Str.words3.contains s.toList || Str.words4.contains s.toList) := by
  simp only [ident_word.j1, ident_word.j2_eq]
  repeat' split
  all_goals simp_all [Str.words2]
  all_goals try (rw [Bool.eq_iff_iff]; simp)
theorem ident_word.j0_eq (k : Nat) (s : ByteArray) (b : Bool) : ident_word.j0 (k + 4) s b = some (b || Str.words1.contains s.toList || Str.words2.contains s.toList || Str.words3.contains s.toList || Str.words4.contains s.toList) := by
  simp only [ident_word.j0, ident_word.j1_eq]
  repeat' split
  all_goals simp_all [Str.words1]
  all_goals try (rw [Bool.eq_iff_iff]; simp)
theorem ident_word.tells (s : ByteArray) : ident_word.f 4 s = some (Str.words.contains s.data.toList) := by
  rw [← Lib.toList_data]
  unfold ident_word.f
  simp only [ident_word.j0_eq 0]
  have e : Str.words.contains s.toList = (Str.words0.contains s.toList || Str.words1.contains s.toList || Str.words2.contains s.toList || Str.words3.contains s.toList || Str.words4.contains s.toList) := by
    simp only [Str.words, List.contains_append]
  rw [e]
  repeat' split
  all_goals simp_all [Str.words0]
  all_goals try (rw [Bool.eq_iff_iff]; simp)
def letterI (c : Int) : Bool := decide (97 ≤ c ∧ c ≤ 122 ∨ 65 ≤ c ∧ c ≤ 90)
theorem ident_letter.same (c : Int) (w : World) : Calls Try.prog 27 #[.int .i32 c] w fun e w' => e = .returned (.bool (letterI c)) ∧ w = w' := by
  by_cases h1 : 97 ≤ c <;> by_cases h2 : c ≤ 122 <;> by_cases h3 : 65 ≤ c <;> by_cases h4 : c ≤ 90 <;> try (exfalso; omega)
  all_goals
    go_enter Try.func27, Try.ntmps27
    go_wp2
    go_ret
    exact ⟨by simp [letterI, *], rfl⟩
theorem ident_letter.yes (c : Int) (w : World) (h : letterI c = true) : Calls Try.prog 27 #[.int .i32 c] w fun e w' => e = .returned (.bool true) ∧ w = w' := by
  have := ident_letter.same c w
  rwa [h] at this
theorem ident_letter.no (c : Int) (w : World) (h : letterI c = false) : Calls Try.prog 27 #[.int .i32 c] w fun e w' => e = .returned (.bool false) ∧ w = w' := by
  have := ident_letter.same c w
  rwa [h] at this
def digitI (c : Int) : Bool := decide (48 ≤ c ∧ c ≤ 57 ∨ c = 95)
def ident_Right.f (a0 : ByteArray) : Option Bool := some (Str.rightB a0)
theorem Right_at (s : ByteArray) (pos : Nat) (h : pos < s.size) : s.data.toList[pos]? = some s[pos] := by
  have h2 : pos < s.data.toList.length := by simpa using h
  rw [List.getElem?_eq_getElem h2]
  rfl
theorem Right_nameByte (j : Nat) (c : UInt8) : Str.nameByte (j == 0) c = (letterI c.toNat || (!decide (j = 0) && digitI c.toNat)) := by
  have := c.toNat_lt
  unfold Str.nameByte letterI digitI
  rw [Bool.eq_iff_iff]
  by_cases h : j = 0 <;> simp [h] <;> omega
theorem Right_bad (s : ByteArray) (pos : Nat) (h : pos < s.size) (hb : Str.nameByte (pos == 0) s[pos] = false) : Str.bytesOk s.data.toList = false := by
  rw [← Bool.not_eq_true, Str.bytesOk_iff]
  intro hall
  have := hall pos _ (Right_at s pos h)
  rw [hb] at this
  cases this
theorem Right_all (s : ByteArray) (h : ∀ j c, j < s.size → s.data.toList[j]? = some c → Str.nameByte (j == 0) c = true) : Str.bytesOk s.data.toList = true :=
  (Str.bytesOk_iff _).2 (fun j c hc => h j c (by have := (List.getElem?_eq_some_iff.1 hc).1; simpa using this) hc)
set_option maxHeartbeats 1000000 in
set_option maxRecDepth 1000000 in
theorem ident_Right.calls (a0 : ByteArray) (r : Bool) (w : World) (h : ident_Right.f a0 = some r) :
    Calls Try.prog 16 #[.string a0] w fun e w' => e = .returned (.bool r) ∧ Below w.heap.size w w' := by
  have hr : (Str.bytesOk a0.data.toList && decide (0 < a0.size ∧ a0.size ≤ 12) && !(Str.words.contains a0.data.toList)) = r := by have h2 := Option.some.inj h; unfold Str.rightB at h2; exact h2
  have HR := Aside0.mk hr
  clear hr h
  have hiter : ∀ pos, Below w.heap.size w (w.iter a0 pos) := fun pos => below_alloc (Below.refl _ _) _
  have HI := Aside0.mk hiter
  clear hiter
  go_enter Try.func16, Try.ntmps16
  go_wp2
  go_loopw [3] (fun _ w' => ∃ pos : Nat, w' = w.iter a0 pos ∧ Aside0 (pos ≤ a0.size) ∧ Aside0 (∀ j c, j < pos → a0.data.toList[j]? = some c → Str.nameByte (j == 0) c = true)) (fun _ w' => a0.size - w'.iterPos w.heap.size)
  case atStart => exact ⟨0, rfl, ⟨Nat.zero_le _⟩, ⟨fun j c hj => absurd hj (by omega)⟩⟩
  case round =>
    obtain ⟨pos, rfl, HP, HA⟩ := hrel
    by_cases hp : pos < a0.size
    · have hdec : ∃ c wd : Nat, (∀ ty, (Instr.next (.pointer (some ⟨w.heap.size, 0, none⟩)) true ty).run Try.prog (w.iter a0 pos) = .ok (.tuple #[.bool true, .int .i64 pos, .int .i32 (c : Int)]) (w.iter a0 (pos + wd))) ∧ 0 ≤ c ∧ c ≤ 2147483647 ∧ 1 ≤ wd ∧ Aside0 ((a0[pos].toNat < 128 ∧ c = a0[pos].toNat ∧ wd = 1) ∨ (128 ≤ a0[pos].toNat ∧ 128 ≤ c)) := by
        have hle := decode_le a0 pos
        by_cases ha : a0[pos].toNat < 128
        · refine ⟨a0[pos].toNat, 1, fun ty => ?_, by omega, by omega, by omega, ⟨.inl ⟨ha, rfl, rfl⟩⟩⟩
          rw [run_next_any w a0 pos ty hp, decode_ascii a0 pos hp ha]
        · have := decode_high a0 pos hp (by omega)
          exact ⟨_, _, fun ty => run_next_any w a0 pos ty hp, by omega, hle, this.2, ⟨.inr ⟨by omega, this.1⟩⟩⟩
      obtain ⟨c, wd, hnx, h0, hc, hwd, HC⟩ := hdec
      cases hl : letterI c with
      | true =>
        have HS : Aside0 (wd = 1 ∧ a0[pos].toNat = c) := ⟨by
          rcases HC.out with ⟨h1, h2, h3⟩ | ⟨h1, h2⟩
          · exact ⟨h3, h2.symm⟩
          · exfalso
            have := of_decide_eq_true (show decide (97 ≤ (c : Int) ∧ (c : Int) ≤ 122 ∨ 65 ≤ (c : Int) ∧ (c : Int) ≤ 90) = true from hl)
            omega⟩
        have HL := Aside0.mk hl
        clear hl
        cases hd1 : decide (48 ≤ (c : Int)) <;> cases hd2 : decide ((c : Int) ≤ 57) <;> cases hd3 : ((c : Int) == 95)
        all_goals
          go_wp2_with (go_at_call 27; (with_reducible refine (ident_letter.yes _ _ HL.out).mono ?_); rintro e w' ⟨rfl, rfl⟩)
          go_roundw
          case rel =>
            obtain ⟨e1, e2⟩ := HS.out
            exact ⟨pos + wd, rfl, ⟨by omega⟩, ⟨fun j c' hj hc' => by
              rcases Nat.lt_or_ge j pos with h | h
              · exact HA.out j c' h hc'
              · obtain rfl : j = pos := by omega
                rw [Right_at a0 j hp] at hc'
                obtain rfl := Option.some.inj hc'
                rw [Right_nameByte, e2, HL.out]; rfl⟩⟩
          case measure => simp; omega
      | false =>
        have HL := Aside0.mk hl
        clear hl
        have hno : digitI c = false ∨ pos = 0 → r = false := by
          intro h
          have hb : Str.nameByte (pos == 0) a0[pos] = false := by
            rw [Right_nameByte]
            rcases HC.out with ⟨h1, h2, h3⟩ | ⟨h1, h2⟩
            · rw [← h2, HL.out]
              rcases h with h | h
              · rw [h]; simp
              · simp [h]
            · have e1 : letterI (a0[pos].toNat : Int) = false := by unfold letterI; exact decide_eq_false (by omega)
              have e2 : digitI (a0[pos].toNat : Int) = false := by unfold digitI; exact decide_eq_false (by omega)
              rw [e1, e2]; simp
          rw [← HR.out, Right_bad a0 pos hp hb]; simp
        have HN := Aside0.mk hno
        clear hno
        rcases Nat.eq_zero_or_pos pos with h0 | hpos
        · have HZ := Aside0.mk (HN.out (.inr h0))
          have HI2 := Aside0.mk (HI.out (pos + wd))
          have hz : ((pos : Int) == 0) = true := by simp [h0]
          have hz2 : (pos == 0) = true := by simp [h0]
          clear h0
          cases hd1 : decide (48 ≤ (c : Int)) <;> cases hd2 : decide ((c : Int) ≤ 57) <;> cases hd3 : ((c : Int) == 95)
          all_goals
            go_wp2_with (go_at_call 27; (with_reducible refine (ident_letter.no _ _ HL.out).mono ?_); rintro e w' ⟨rfl, rfl⟩)
            go_ret
            exact ⟨by rw [HZ.out] <;> rfl, HI2.out⟩
        · have HI2 := Aside0.mk (HI.out (pos + wd))
          have hz : ((pos : Int) == 0) = false := by simp; omega
          have hz2 : (pos == 0) = false := by simp; omega
          have HD : Aside0 (digitI c = ((decide (48 ≤ (c : Int)) && decide ((c : Int) ≤ 57)) || ((c : Int) == 95))) := ⟨by
            unfold digitI; rw [Bool.eq_iff_iff]; simp⟩
          cases hd1 : decide (48 ≤ (c : Int)) <;> cases hd2 : decide ((c : Int) ≤ 57) <;> cases hd3 : ((c : Int) == 95)
          all_goals
            have HD2 := HD.out
            rw [hd1, hd2, hd3] at HD2
            simp only [Bool.and_true, Bool.and_false, Bool.or_true, Bool.or_false] at HD2
            have HD3 := Aside0.mk HD2
            clear HD2 HD
            go_wp2_with (go_at_call 27; (with_reducible refine (ident_letter.no _ _ HL.out).mono ?_); rintro e w' ⟨rfl, rfl⟩)
            first
              | (go_ret; exact ⟨by rw [HN.out (.inl HD3.out)] <;> rfl, HI2.out⟩)
              | (go_roundw
                 case rel =>
                   have HX : wd = 1 ∧ a0[pos].toNat = c := by
                     rcases HC.out with ⟨h1, h2, h3⟩ | ⟨h1, h2⟩
                     · exact ⟨h3, h2.symm⟩
                     · exfalso
                       have := of_decide_eq_true (show decide (48 ≤ (c : Int) ∧ (c : Int) ≤ 57 ∨ (c : Int) = 95) = true from HD3.out)
                       omega
                   obtain ⟨e1, e2⟩ := HX
                   exact ⟨pos + wd, rfl, ⟨by omega⟩, ⟨fun j c' hj hc' => by
                     rcases Nat.lt_or_ge j pos with h | h
                     · exact HA.out j c' h hc'
                     · obtain rfl : j = pos := by omega
                       rw [Right_at a0 j hp] at hc'
                       obtain rfl := Option.some.inj hc'
                       rw [Right_nameByte, e2, HL.out, HD3.out]; simp; omega⟩⟩
                 case measure => simp; omega)
    · have hnx : ∀ ty, (Instr.next (.pointer (some ⟨w.heap.size, 0, none⟩)) true ty).run Try.prog (w.iter a0 pos) = _ := fun ty => run_next_end w a0 pos ty hp
      have hok : Str.bytesOk a0.data.toList = true := Right_all a0 (fun j c hj hc => HA.out j c (by have := HP.out; omega) hc)
      have hr := HR.out
      rw [hok, Bool.true_and] at hr
      have hw := ident_word.tells a0
      by_cases he : a0.size = 0
      · have hemp : a0.toList = [] := by rw [Lib.toList_data]; have : a0.data.toList.length = 0 := by simpa using he
                                         exact List.eq_nil_of_length_eq_zero this
        have HZ : Aside0 (r = false) := ⟨by rw [← hr]; simp [he]⟩
        have HI2 := Aside0.mk (HI.out pos)
        have h1 : a0.toList.isEmpty = true := by rw [hemp]; rfl
        clear hr he hok hemp hw
        go_wp2
        go_ret
        exact ⟨by rw [HZ.out] <;> rfl, HI2.out⟩
      · have h1 : a0.toList.isEmpty = false := by
          rw [Lib.toList_data]
          have : a0.data.toList.length ≠ 0 := by simpa using he
          cases h : a0.data.toList with
          | nil => rw [h] at this; exact absurd rfl this
          | cons => rfl
        have h1b : (!a0.toList.isEmpty) = true := by rw [h1]; rfl
        by_cases hl : a0.size ≤ 12
        · have h2 : decide (a0.size ≤ 12) = true := decide_eq_true hl
          have h3 : decide ((a0.size : Int) ≤ 12) = true := decide_eq_true (by omega)
          rw [show decide (0 < a0.size ∧ a0.size ≤ 12) = true from decide_eq_true ⟨by omega, hl⟩, Bool.true_and] at hr
          have HW := fun W => ident_word.calls 4 a0 _ W hw
          have HWA := Aside0.mk HW
          have HI2 := Aside0.mk (HI.out pos)
          have HR2 := Aside0.mk hr
          clear HW hr hw hok he hl
          go_wp2_with (go_at_call 28; (with_reducible refine (HWA.out _).mono ?_); rintro e w' ⟨rfl, ⟨m, rfl⟩⟩)
          go_ret
          exact ⟨by simp [← HR2.out], pw_below_drewN HI2.out m⟩
        · have h2 : decide (a0.size ≤ 12) = false := decide_eq_false hl
          have h3 : decide ((a0.size : Int) ≤ 12) = false := decide_eq_false (by omega)
          have HZ : Aside0 (r = false) := ⟨by rw [← hr, decide_eq_false (show ¬ (0 < a0.size ∧ a0.size ≤ 12) by omega)]; rfl⟩
          have HI2 := Aside0.mk (HI.out pos)
          clear hr he hl hw hok
          go_wp2
          go_ret
          exact ⟨by rw [HZ.out] <;> rfl, HI2.out⟩
end Go.Proofs.Ytelhcijoegjjnaa.P
namespace Go.Proofs.Ytelhcijoegjjnaa.P
open Go.RowKit Go.Proofs.YtelhcijoegjjnaaW.PrintWords Go.Proofs.YtelhcijoegjjnaaW.PrintLast Go.Proofs.YtelhcijoegjjnaaW.PrintMore
attribute [local go_sem] max2_int min2_int max_two min_two max_three min_three max_four min_four
set_option linter.unusedVariables false
set_option linter.unusedSimpArgs false
set_option maxHeartbeats 2000000 in
set_option maxRecDepth 100000 in
theorem IndexFunc_String (g : Nat) (lb : Array Value) (eg : ∀ args w, (callFunc g args).run Try.prog w = .ok (.enter g args) w) (p : ByteArray → Option Bool) (A0 : Option Addr) (c0 : Nat) (l0 : List ByteArray) (r : Int) (w : World)
  (hp : Fn.Such1 Try.prog g lb Value.string p w) (hr0 : Kd.C Kd.string w A0 l0.length l0) (hc0 : l0.length ≤ c0) (h : Fn.idxO p 0 l0 = some r) :
  Calls Try.prog 72 #[.slice A0 l0.length c0, .func (.func g) #[] lb] w fun e w' => e = .returned (.int .i64 r) ∧ Below w.heap.size w w' := by
 have HR0 := Aside0.mk hr0
 have HC0 := Aside0.mk hc0
 have HM := Aside0.mk (Kd.C_max hr0)
 have HP := Aside0.mk hp
 have H := Aside0.mk (show Fn.idxO p 0 (l0.drop 0) = some r from h)
 clear hr0 hc0 hp h
 go_enter Try.func72, Try.ntmps72
 go_wp2
 go_loopg [5, 8] l0.length (fun gg _ s8 wr => ∃ kk : Nat, s8 = .int .i64 kk ∧ Aside0 (kk ≤ l0.length ∧ l0.length - kk ≤ gg) ∧ Aside0 (Below w.heap.size w wr) ∧ Aside0 (Fn.idxO p kk (l0.drop kk) = some r))
 case atStart => exact ⟨0, rfl, ⟨Nat.zero_le _, by omega⟩, ⟨Below.refl _ w⟩, H⟩
 case round =>
  clear H
  obtain ⟨kk, rfl, HK, HB, H⟩ := hrel
  have hm := HM.out
  by_cases hlt : kk < l0.length
  ·have hlti : (kk : Int) < (l0.length : Int) := by omega
   have h0 : 0 ≤ (kk : Int) := by omega
   obtain ⟨ad, e_, hx0⟩ := Kd.at_string (Kd.C_below HR0.out HB.out) (kk : Int) h0 hlti
   cases e_
   simp only [Int.toNat_natCast] at hx0
   have hyk : rdOf ByteArray.empty l0 (kk : Int) = l0[kk] := by simp [rd, rdOf, hlt]
   have hn := Fn.idxO_drop H.out hlt
   rw [← hyk] at hn
   clear hyk
   generalize rdOf ByteArray.empty l0 (kk : Int) = y at *
   cases hb : p y with
   | none => rw [hb] at hn; cases hn
   | some b =>
    rw [hb] at hn
    simp only [Option.bind_some] at hn
    have hcall := HP.out wr y b HB.out hb
    have HN := Aside0.mk hn
    have HCALL := Aside0.mk hcall
    clear hb hn hcall
    have hz : IntKind.i64.wrap ((kk : Int) + 1) = (kk : Int) + 1 := IntWalk.i64_in _ (by omega)
    cases b with
    | true =>
     go_wp2_with (go_at_fn g; refine HCALL.out.mono ?_; rintro e w' ⟨rfl, hb'⟩)
     go_ret
     have hn := HN.out
     simp only [if_true] at hn
     exact ⟨by rw [← Option.some.inj hn] <;> rfl, HB.out.trans (hb'.mono HB.out.size)⟩
    | false =>
     go_wp2_with (go_at_fn g; refine HCALL.out.mono ?_; rintro e w' ⟨rfl, hb'⟩)
     go_roundg (l0.length - (kk + 1))
     case measure => have := HK.out; omega
     case rel =>
      have hn := HN.out
      simp only [Bool.false_eq_true, if_false] at hn
      exact ⟨kk + 1, by go_num, ⟨by omega, by omega⟩, ⟨HB.out.trans (hb'.mono HB.out.size)⟩, ⟨hn⟩⟩
  ·have hge : ¬ (kk : Int) < (l0.length : Int) := by omega
   have hr := H.out
   rw [List.drop_eq_nil_of_le (by omega)] at hr
   have HR := Aside0.mk (Option.some.inj hr)
   clear hr
   go_wp2
   go_ret
   exact ⟨by rw [← HR.out] <;> rfl, HB.out⟩
end Go.Proofs.Ytelhcijoegjjnaa.P
namespace Go.Proofs.Ytelhcijoegjjnaa.P
open Go.RowKit Go.Proofs.YtelhcijoegjjnaaW.PrintWords Go.Proofs.YtelhcijoegjjnaaW.PrintLast Go.Proofs.YtelhcijoegjjnaaW.PrintMore
attribute [local go_sem] max2_int min2_int max_two min_two max_three min_three max_four min_four
set_option linter.unusedVariables false
set_option linter.unusedSimpArgs false
set_option maxHeartbeats 1000000 in
set_option maxRecDepth 100000 in
theorem ContainsFunc_String (g : Nat) (lb : Array Value) (eg : ∀ args w, (callFunc g args).run Try.prog w = .ok (.enter g args) w) (p : ByteArray → Option Bool) (A0 : Option Addr) (c0 : Nat) (l0 : List ByteArray) (r : Bool) (w : World)
  (hp : Fn.Such1 Try.prog g lb Value.string p w) (hr0 : Kd.C Kd.string w A0 l0.length l0) (hc0 : l0.length ≤ c0) (h : Fn.anyO p l0 = some r) :
  Calls Try.prog 38 #[.slice A0 l0.length c0, .func (.func g) #[] lb] w fun e w' => e = .returned (.bool r) ∧ Below w.heap.size w w' := by
 obtain ⟨n, hn, hnr⟩ := Fn.idxO_any p l0 0 r h
 have HC := Aside0.mk (IndexFunc_String g lb eg p A0 c0 l0 n w hp hr0 hc0 hn)
 have HN := Aside0.mk hnr
 clear hp hr0 hc0 h hn hnr eg
 go_enter Try.func38, Try.ntmps38
 go_wp2_with (go_at_call 72; (with_reducible refine HC.out.mono ?_); rintro e w' ⟨rfl, hb⟩)
 go_ret
 exact ⟨by rw [← HN.out] <;> rfl, hb⟩
end Go.Proofs.Ytelhcijoegjjnaa.P
namespace Go.Proofs.Ytelhcijoegjjnaa.P
open Go.RowKit Go.Proofs.YtelhcijoegjjnaaW.PrintWords Go.Proofs.YtelhcijoegjjnaaW.PrintLast Go.Proofs.YtelhcijoegjjnaaW.PrintMore
attribute [local go_sem] max2_int min2_int max_two min_two max_three min_three max_four min_four
set_option linter.unusedVariables false
set_option linter.unusedSimpArgs false
def schema_valueNames.l0 : Nat → List ByteArray → List (S50) → Int → Int → Option (List ByteArray)
 | 0, _, _, _, _ => none
 | k + 1, x3, x7, x8, x9 => if x9 < x8 then (if 0 ≤ x9 then (if x9 < (x7.length : Int) then (if x3.length < 8796093022208 then (schema_valueNames.l0 k (x3 ++ [(rd_T50 x7 x9).f0]) x7 x8 (wrap64 (x9 + 1))) else (none)) else (none)) else (none)) else (some x3)
def schema_valueNames.f (k : Nat) (a0_0 : ByteArray) (l0_1 : List (S50)) : Option (List ByteArray) := schema_valueNames.l0 k ([] : List ByteArray) l0_1 (l0_1.length : Int) 0
theorem schema_valueNames.mono_l : ∀ k, (∀ y0 y1 y2 y3, LeO (schema_valueNames.l0 k y0 y1 y2 y3) (schema_valueNames.l0 (k + 1) y0 y1 y2 y3))
 | 0 => fun _ _ _ _ r h => by simp [schema_valueNames.l0] at h
 | k + 1 => by
  have ih0 := schema_valueNames.mono_l k
  ·intro y0 y1 y2 y3
   unfold schema_valueNames.l0
   repeat' first
   | (with_reducible exact ih0 _ _ _ _)
   | (with_reducible exact LeO.refl _)
   | (with_reducible exact LeO.none _)
   | (with_reducible refine LeO.ite ?_ ?_)
   | (with_reducible refine LeO.bind ?_ (fun _ => ?_))
   | exact ih0 _ _ _ _
   | exact LeO.none _
   | refine LeO.ite ?_ ?_
   | refine LeO.bind ?_ (fun _ => ?_)
theorem schema_valueNames.mono : ∀ a0 a1 k, LeO (schema_valueNames.f k a0 a1) (schema_valueNames.f (k + 1) a0 a1) := by
 intro a0 a1 k
 have ih0 := schema_valueNames.mono_l k
 unfold schema_valueNames.f
 repeat' first
   | (with_reducible exact ih0 _ _ _ _)
   | (with_reducible exact LeO.refl _)
   | (with_reducible exact LeO.none _)
   | (with_reducible refine LeO.ite ?_ ?_)
   | (with_reducible refine LeO.bind ?_ (fun _ => ?_))
   | exact ih0 _ _ _ _
   | exact LeO.none _
   | refine LeO.ite ?_ ?_
   | refine LeO.bind ?_ (fun _ => ?_)
set_option maxHeartbeats 8000000 in
set_option maxRecDepth 100000 in
theorem schema_valueNames.calls (k : Nat) (a0_0 : ByteArray) (A0_1 : Option Addr) (c0_1 : Nat) (l0_1 : List (S50)) (r : List ByteArray) (w : World) (hr0_1 : Kd.C k50 w A0_1 l0_1.length l0_1) (hc0_1 : l0_1.length ≤ c0_1) (h : schema_valueNames.f k a0_0 l0_1 = some r) :
  Calls Try.prog 39 #[.agg #[.string a0_0, .slice A0_1 l0_1.length c0_1]] w fun e w' => ∃ v0_ : Value, e = .returned (v0_) ∧ Kd.R Kd.string 9 w' w.heap.size (fun _ => True) v0_ r ∧ Below w.heap.size w w' := by
 have hu48 := Try.underlying48
 have hu50 := Try.underlying50
 have HR0_1 := Aside0.mk hr0_1
 have HC0_1 := Aside0.mk hc0_1
 clear hr0_1 hc0_1
 have HB := Aside0.mk (Below.refl w.heap.size w)
 have H : (schema_valueNames.l0 k ([] : List ByteArray) l0_1 (l0_1.length : Int) 0) = some r := h
 clear h
 have H' := Aside0.mk H
 clear H
 go_enter Try.func39, Try.ntmps39
 go_wp2_with (first | ((with_reducible refine gate_dst (N := 1) rfl ?_); refine box_event ?hg (N := 1) ?hd (cs := #[.string a0_0, .slice A0_1 l0_1.length c0_1]) (t := 48) ?hr ?_; (case hd => rfl); (case hg => rfl); (case hr => first | (go_simp; done) | (go_simp; rfl)); intro gb159 hg w2 hbox hb; have n0_ := Aside0.mk (below_step (by repeat (first | (with_reducible first | exact HB.out | apply below_alloc | apply pw_below_drewN | apply below_drew1) | exact HB.out)) hb); have n1_ := Aside0.mk (hbox); have n2_ := Aside0.mk ((by rw [hg]; exact (below_size (by repeat (first | (with_reducible first | exact HB.out | apply below_alloc | apply pw_below_drewN | apply below_drew1) | exact HB.out))) : w.heap.size ≤ gb159)); have n3_ := Aside0.mk ((by rw [hg]; exact (below_size (by repeat (first | (with_reducible first | exact HB.out | apply below_alloc | apply pw_below_drewN | apply below_drew1) | exact HB.out))) : w.heap.size ≤ gb159)); clear HB; have HB := n0_; have BK159 := n1_; have GW159 := n2_; have GE159 := n3_; clear n0_ n1_ n2_ n3_; clear hb hbox hg; have hcz3_0 : w2.cell? ⟨gb159, 0, none⟩ = some (.string a0_0) := (blk_cell BK159.out 0).trans rfl; have hcz3_1 : w2.cell? ⟨gb159, 1, none⟩ = some (.slice A0_1 l0_1.length c0_1) := (blk_cell BK159.out 1).trans rfl; have hfz3_0 := blk_frozen BK159.out 0; have hfz3_1 := blk_frozen BK159.out 1))
 go_loopg [3, 9] k (fun kq v3 v9 w' => ∃ (x3_1 : List ByteArray) (x9_1 : Int), v9 = .int .i64 x9_1 ∧ Aside0 (schema_valueNames.l0 kq x3_1 l0_1 (l0_1.length : Int) x9_1 = some r) ∧ Aside0 (kq ≤ k) ∧ Aside0 (Kd.R Kd.string 9 w' w.heap.size (fun _ => True) v3 x3_1) ∧ Aside0 (w'.heap[gb159]? = some (.cells #[.string a0_0, (.slice A0_1 l0_1.length c0_1)] 48 (0, 0))) ∧ Aside0 (Below w.heap.size w w'))
 case atStart => exact ⟨(([] : List ByteArray)), (0), (by first | rfl | (simp; done) | (simp [*]; done)), H', ⟨Nat.le_refl _⟩, ⟨by first | exact Kd.R_nil _ _ _ _ _ | exact Kd.N_nil _ _ _ _ _ | exact Kd.V_nil _ _ _ _ _ | exact Kd.Q_nil _ _ _ _ _ | exact Kd.S_nil _ _ _ _ _⟩, ⟨by (with_reducible repeat (first | refine blk_drewN ?_ _ | refine blk_drew ?_ | refine blk_alloc ?_ _)); exact BK159.out⟩, ⟨by repeat (first | (with_reducible first | exact HB.out | apply below_alloc | apply pw_below_drewN | apply below_drew1 | refine below_set ?_ GE159.out) | exact HB.out)⟩⟩
 case round =>
  clear H'
  try clear p2
  try clear c3
  try clear hcz3_0
  try clear hcz3_1
  try clear hfz3_0
  try clear hfz3_1
  obtain ⟨x3_1, x9_1, rfl, HA, HK1, HO_3, BK159, HB⟩ := hrel
  cases gk with
  | zero => exact absurd HA.out (by simp [schema_valueNames.l0])
  | succ k1 =>
   have H := HA.out
   clear HA
   simp only [schema_valueNames.l0] at H
   by_cases c4 : x9_1 < (l0_1.length : Int)
   ·rw [if_pos c4] at H
    have c4b0 : decide (x9_1 < (l0_1.length : Int)) = true := decide_eq_true c4
    clear c4
    by_cases c5 : 0 ≤ x9_1
    ·rw [if_pos c5] at H
     have c5b0 : decide (0 ≤ x9_1) = true := decide_eq_true c5
     clear c5
     by_cases c6 : x9_1 < (l0_1.length : Int)
     ·rw [if_pos c6] at H
      have c6b0 : decide (x9_1 < (l0_1.length : Int)) = true := decide_eq_true c6
      clear c6
      by_cases c7 : x3_1.length < 8796093022208
      ·rw [if_pos c7] at H
       have LMc7 := Aside0.mk c7
       clear c7
       obtain ⟨y162, hy162⟩ : ∃ y_ : List ByteArray, y_ = (x3_1 ++ [(rd_T50 l0_1 x9_1).f0]) := ⟨_, rfl⟩
       replace H : (schema_valueNames.l0 k1 y162 l0_1 (l0_1.length : Int) (wrap64 (x9_1 + 1))) = some r := by first | (rw [hy162]; with_reducible exact H) | (have H2_ := (Option.bind_some _ _).symm.trans H; rw [hy162]; with_reducible exact H2_) | (have H2_ := (Option.bind_some _ _).symm.trans H; with_reducible exact H2_) | with_reducible exact H | (rw [hy162]; exact H) | exact H
       have Ny162 := Aside0.mk hy162
       clear hy162
       have H' := Aside0.mk H
       clear H
       have p160 : 0 ≤ (x9_1 : Int) := of_decide_eq_true (by first | (with_reducible assumption) | assumption)
       have q160 : x9_1 < (l0_1.length : Int) := of_decide_eq_true (by first | (with_reducible assumption) | assumption)
       obtain ⟨ad160, e160, hx160_0, hx160_1⟩ := at_T50 HR0_1.out x9_1 p160 q160
       cases e160
       replace hx160_0 := (HB.out.cell (World.block_lt_of_cell? w _ hx160_0)).trans hx160_0
       replace hx160_1 := (HB.out.cell (World.block_lt_of_cell? w _ hx160_1)).trans hx160_1
       replace p160 := eq_true p160
       replace q160 := eq_true q160
       go_wp2_with (first | ((with_reducible refine gate_dst (N := 5) rfl ?_); refine box_event ?hg (N := 5) ?hd (cs := #[.string (⟨#[]⟩ : ByteArray), .int .i64 0]) (t := 50) ?hr ?_; (case hd => rfl); (case hg => rfl); (case hr => first | (go_simp; done) | (go_simp; rfl)); intro gb161 hg w8 hbox hb; have n0_ := Aside0.mk (Kd.R_below (by (with_reducible repeat (first | apply Kd.R_alloc | apply Kd.R_drewN | apply Kd.R_drew)); exact HO_3.out) hb); have n1_ := Aside0.mk (blk_below (g := gb159) (o := .cells #[.string a0_0, .slice (some ad160) l0_1.length c0_1] 48 (0, 0)) (by (with_reducible repeat (first | refine blk_drewN ?_ _ | refine blk_drew ?_ | refine blk_alloc ?_ _)); exact BK159.out) hb); have n2_ := Aside0.mk (below_step (by repeat (first | (with_reducible first | exact HB.out | apply below_alloc | apply pw_below_drewN | apply below_drew1 | refine below_set ?_ GE159.out) | exact HB.out)) hb); have n3_ := Aside0.mk (hbox); have n4_ := Aside0.mk ((by rw [hg]; exact (below_size (by repeat (first | (with_reducible first | exact HB.out | apply below_alloc | apply pw_below_drewN | apply below_drew1 | refine below_set ?_ GE159.out) | exact HB.out))) : w.heap.size ≤ gb161)); have n5_ := Aside0.mk ((by rw [hg]; exact (below_size (by repeat (first | (with_reducible first | exact HB.out | apply below_alloc | apply pw_below_drewN | apply below_drew1 | refine below_set ?_ GE159.out) | exact HB.out))) : w.heap.size ≤ gb161)); have n6_ := Aside0.mk ((by rw [hg]; exact Nat.ne_of_lt (blk_lt (g := gb159) (o := .cells #[.string a0_0, .slice (some ad160) l0_1.length c0_1] 48 (0, 0)) (by (with_reducible repeat (first | refine blk_drewN ?_ _ | refine blk_drew ?_ | refine blk_alloc ?_ _)); exact BK159.out)) : gb159 ≠ gb161)); have n7_ := Aside0.mk ((by rw [hg]; exact Nat.ne_of_gt (blk_lt (g := gb159) (o := .cells #[.string a0_0, .slice (some ad160) l0_1.length c0_1] 48 (0, 0)) (by (with_reducible repeat (first | refine blk_drewN ?_ _ | refine blk_drew ?_ | refine blk_alloc ?_ _)); exact BK159.out)) : gb161 ≠ gb159)); clear HO_3; clear BK159; clear HB; have HO_3 := n0_; have BK159 := n1_; have HB := n2_; have BK161 := n3_; have GW161 := n4_; have GE161 := n5_; have NB159_161 := n6_; have NB161_159 := n7_; clear n0_ n1_ n2_ n3_ n4_ n5_ n6_ n7_; clear hb hbox hg; have hnb9 := NB161_159.out; have hnc9 := NB159_161.out; have hcz10_0 : w8.cell? ⟨gb161, 0, none⟩ = some (.string (⟨#[]⟩ : ByteArray)) := (blk_cell BK161.out 0).trans rfl; have hcz10_1 : w8.cell? ⟨gb161, 1, none⟩ = some (.int .i64 0) := (blk_cell BK161.out 1).trans rfl; have hfz10_0 := blk_frozen BK161.out 0; have hfz10_1 := blk_frozen BK161.out 1) | ((with_reducible refine gate_builtin (b := .append) (xs := #[.tmp 13, .tmp 16]) rfl ?_); at_builtin; refine Kd.R_append Kd.string (w0 := w) w.heap.size rfl (.tmp 13) (.tmp 16) 22 9 (.string ⟨#[]⟩) 16 rfl Try.underlying22 info9 rfl (by decide) (by omega) u3 x3_1 ((rd_T50 l0_1 x9_1).f0) [.string ((rd_T50 l0_1 x9_1).f0)] (fun _ => True) (fun _ => False) rfl (by first | (go_simp; done) | (go_simp; rfl)) ?aP (fun _ hk => hk.elim) ?aF ?aO ?aB ?aS ?aL ?_; (case aP => exact rfl); (case aB => exact (by repeat (first | (with_reducible first | exact HB.out | apply below_alloc | apply pw_below_drewN | apply below_drew1 | refine below_set ?_ GE159.out | refine below_set ?_ GE161.out) | exact HB.out))); (case aF => exact (fun _ _ => trivial)); (case aO => exact (by (with_reducible repeat (first | apply Kd.R_alloc | apply Kd.R_drewN | apply Kd.R_drew)); exact Kd.R_mono (Kd.R_far (p := ⟨gb161, 1, none⟩) (Kd.R_far (p := ⟨gb161, 0, none⟩) (Kd.R_types HO_3.out BK161.out (by decide)) (fun _ hk => hk.2) (.string ((rd_T50 l0_1 x9_1).f0))) (fun _ hk => hk.2) (.int .i64 ((rd_T50 l0_1 x9_1).f1))) (fun _ hk => trivial))); (case aS => exact (below_size (by repeat (first | (with_reducible first | exact HB.out | apply below_alloc | apply pw_below_drewN | apply below_drew1 | refine below_set ?_ GE159.out | refine below_set ?_ GE161.out) | exact HB.out)))); (case aL => have := LMc7.out; omega); intro v163 w11 ho hb hg hat; rw [← Ny162.out] at ho; have n0_ := Aside0.mk (blk_grown (g := gb159) (o := .cells #[.string a0_0, .slice (some ad160) l0_1.length c0_1] 48 (0, 0)) (by (with_reducible repeat (first | refine blk_drewN ?_ _ | refine blk_drew ?_ | refine blk_alloc ?_ _)); refine blk_far ?_ NB159_161.out _; (with_reducible repeat (first | refine blk_drewN ?_ _ | refine blk_drew ?_ | refine blk_alloc ?_ _)); refine blk_far ?_ NB159_161.out _; (with_reducible repeat (first | refine blk_drewN ?_ _ | refine blk_drew ?_ | refine blk_alloc ?_ _)); exact BK159.out) hg (Kd.R_ne HO_3.out BK159.out (by decide))); have n1_ := Aside0.mk (blk_grown (g := gb161) (o := .cells #[.string ((rd_T50 l0_1 x9_1).f0), .int .i64 ((rd_T50 l0_1 x9_1).f1)] 50 (0, 0)) (by (with_reducible repeat (first | refine blk_drewN ?_ _ | refine blk_drew ?_ | refine blk_alloc ?_ _)); refine blk_put (cs := #[.string ((rd_T50 l0_1 x9_1).f0), .int .i64 0]) ?_ 1 _ rfl; (with_reducible repeat (first | refine blk_drewN ?_ _ | refine blk_drew ?_ | refine blk_alloc ?_ _)); refine blk_put (cs := #[.string (⟨#[]⟩ : ByteArray), .int .i64 0]) ?_ 0 _ rfl; (with_reducible repeat (first | refine blk_drewN ?_ _ | refine blk_drew ?_ | refine blk_alloc ?_ _)); exact BK161.out) hg (Kd.R_ne HO_3.out BK161.out (by decide))); have n2_ := Aside0.mk (hb); have n3_ := Aside0.mk (ho); clear BK159; clear BK161; clear HB; clear HO_3; have BK159 := n0_; have BK161 := n1_; have HB := n2_; have HO164 := n3_; clear n0_ n1_ n2_ n3_; clear ho hb hg hat))
       go_roundg k1
       case measure => have := HK1.out; omega
       case rel => exact ⟨(y162), (wrap64 (x9_1 + 1)), (by first | rfl | (simp; done) | (simp [*]; done)), H', ⟨by have := HK1.out; omega⟩, ⟨by (with_reducible repeat (first | apply Kd.R_alloc | apply Kd.R_drewN | apply Kd.R_drew)); exact HO164.out⟩, ⟨by (with_reducible repeat (first | refine blk_drewN ?_ _ | refine blk_drew ?_ | refine blk_alloc ?_ _)); exact BK159.out⟩, ⟨by repeat (first | (with_reducible first | exact HB.out | apply below_alloc | apply pw_below_drewN | apply below_drew1 | refine below_set ?_ GE159.out | refine below_set ?_ GE161.out) | exact HB.out)⟩⟩
      ·rw [if_neg c7] at H
       exact absurd H (by simp)
     ·rw [if_neg c6] at H
      exact absurd H (by simp)
    ·rw [if_neg c5] at H
     exact absurd H (by simp)
   ·rw [if_neg c4] at H
    have c4b0 : decide (x9_1 < (l0_1.length : Int)) = false := decide_eq_false c4
    clear c4
    obtain rfl := Option.some.inj H
    go_wp2
    go_ret
    exact ⟨_, by first | rfl | (simp [errW_none, errW_some] <;> rfl) | (simp [*, errW_none, errW_some] <;> rfl), by (with_reducible repeat (first | apply Kd.R_alloc | apply Kd.R_drewN | apply Kd.R_drew)); exact HO_3.out, by repeat (first | (with_reducible first | exact HB.out | apply below_alloc | apply pw_below_drewN | apply below_drew1 | refine below_set ?_ GE159.out) | exact HB.out)⟩
end Go.Proofs.Ytelhcijoegjjnaa.P
namespace Go.Proofs.Ytelhcijoegjjnaa.P
open Go.RowKit Go.Proofs.YtelhcijoegjjnaaW.PrintWords Go.Proofs.YtelhcijoegjjnaaW.PrintLast Go.Proofs.YtelhcijoegjjnaaW.PrintMore
attribute [local go_sem] max2_int min2_int max_two min_two max_three min_three max_four min_four
set_option linter.unusedVariables false
set_option linter.unusedSimpArgs false
theorem schema_valueNames.l0_tells (m : List S50) (hm : m.length ≤ 8796093022208) (d : Nat) : ∀ (k i : Nat) (acc : List ByteArray), i + d = m.length → d < k → acc.length = i →
  schema_valueNames.l0 k acc m (m.length : Int) (i : Int) = some (acc ++ (m.drop i).map (·.f0)) := by
 induction d with
 | zero =>
  intro k i acc hi hk ha
  obtain ⟨k, rfl⟩ : ∃ q, k = q + 1 := ⟨k - 1, by omega⟩
  simp only [schema_valueNames.l0]
  rw [if_neg (by omega), List.drop_eq_nil_of_le (by omega)]
  simp
 | succ d ih =>
  intro k i acc hi hk ha
  obtain ⟨k, rfl⟩ : ∃ q, k = q + 1 := ⟨k - 1, by omega⟩
  have hlt : i < m.length := by omega
  simp only [schema_valueNames.l0]
  rw [if_pos (by omega), if_pos (by omega), if_pos (by omega), if_pos (by omega), show wrap64 ((i : Int) + 1) = ((i + 1 : Nat) : Int) by unfold wrap64; omega, show rd_T50 m (i : Int) = m[i] by simp [rd_T50, hlt], ih k (i + 1) _ (by omega) (by omega) (by simp; omega), List.drop_eq_getElem_cons hlt, List.map_cons, List.append_assoc]
  rfl
theorem schema_valueNames.tells (s : ByteArray) (m : List S50) (hm : m.length ≤ 8796093022208) : ∃ k, schema_valueNames.f k s m = some (m.map (·.f0)) :=
 ⟨m.length + 1, by
  have := schema_valueNames.l0_tells m hm m.length (m.length + 1) 0 [] (by omega) (by omega) rfl
  simpa [schema_valueNames.f] using this⟩
end Go.Proofs.Ytelhcijoegjjnaa.P
namespace Go.Proofs.Ytelhcijoegjjnaa.P
open Go.RowKit Go.Proofs.YtelhcijoegjjnaaW.PrintWords Go.Proofs.YtelhcijoegjjnaaW.PrintLast Go.Proofs.YtelhcijoegjjnaaW.PrintMore
attribute [local go_sem] max2_int min2_int max_two min_two max_three min_three max_four min_four
set_option linter.unusedVariables false
set_option linter.unusedSimpArgs false
set_option maxHeartbeats 1000000 in
set_option maxRecDepth 100000 in
theorem misnamed1_such (w : World) : Fn.Such1 Try.prog 36 #[] Value.string (fun s => some (!Str.rightB s)) w := by
 intro W x r hb hp
 have HR := Aside0.mk (Option.some.inj hp)
 have HC := Aside0.mk (fun (W : World) => ident_Right.calls x _ W rfl)
 clear hb hp
 go_enter Try.func36, Try.ntmps36
 go_wp2_with (go_at_call 16; (with_reducible refine (HC.out _).mono ?_); rintro e w' ⟨rfl, hb⟩)
 go_ret
 exact ⟨by rw [← HR.out] <;> rfl, hb⟩
def misE (x : S48) : Bool := !Str.rightB x.f0 || x.f1.any fun v => !Str.rightB v.f0
set_option maxHeartbeats 1000000 in
set_option maxRecDepth 100000 in
theorem misnamed3_such (w : World) (B : Nat) (hB : B < w.heap.size) (hc : w.cell? ⟨B, 0, none⟩ = some (.func (.func 36) #[] #[])) :
  Fn.Such Try.prog 40 #[.pointer (some ⟨B, 0, none⟩)] k38 (fun x => some (!Str.rightB x.f0)) w := by
 intro W x cs r hb hK hp
 obtain ⟨A1, c1, A2, c2, rfl, hl1, hC1, hl2, hC2⟩ := k38_open hK
 have HR := Aside0.mk (Option.some.inj hp)
 have hc2 : W.cell? ⟨B, 0, none⟩ = some (.func (.func 36) #[] #[]) := (hb.cell (p := ⟨B, 0, none⟩) hB).trans hc
 have hlt1 : B < W.heap.size := Nat.lt_of_lt_of_le hB hb.size
 have hne : ¬ B = W.heap.size := by have := hb.size; omega
 have eg := enters_of Try.func36 (by kernel_rfl) rfl
 have HC := Aside0.mk (fun (W' : World) => misnamed1_such W' W' x.f0 _ (Below.refl _ _) rfl)
 clear hb hK hp hC1 hC2 hc hB
 go_enter Try.func40, Try.ntmps40
 go_wp2_with (go_at_call 36; refine (HC.out _).mono ?_; rintro e w' ⟨rfl, hb⟩)
 go_ret
 exact ⟨by rw [← HR.out] <;> rfl, below_then (below_alloc (Below.refl _ _) _) (by simp) hb⟩
set_option maxHeartbeats 1000000 in
set_option maxRecDepth 100000 in
theorem misnamed2_such (w : World) (B : Nat) (hB : B < w.heap.size) (hc : w.cell? ⟨B, 0, none⟩ = some (.func (.func 36) #[] #[])) :
  Fn.Such Try.prog 37 #[.pointer (some ⟨B, 0, none⟩)] k48 (fun x => if x.f1.length ≤ 8796093022208 then some (misE x) else none) w := by
 intro W x cs r hb hK hp
 obtain ⟨A1, c1, rfl, hl1, hC1⟩ := k48_open hK
 replace hp : (if x.f1.length ≤ 8796093022208 then some (misE x) else none) = some r := hp
 split at hp
 case isFalse => cases hp
 case isTrue hlim =>
 obtain ⟨k, hk⟩ := schema_valueNames.tells x.f0 x.f1 hlim
 have HR := Aside0.mk (Option.some.inj hp)
 have hc2 : W.cell? ⟨B, 0, none⟩ = some (.func (.func 36) #[] #[]) := (hb.cell (p := ⟨B, 0, none⟩) hB).trans hc
 have hlt1 : B < W.heap.size := Nat.lt_of_lt_of_le hB hb.size
 have hne : ¬ B = W.heap.size := by have := hb.size; omega
 have eg := enters_of Try.func36 (by kernel_rfl) rfl
 have HC := Aside0.mk (fun (W' : World) => misnamed1_such W' W' x.f0 _ (Below.refl _ _) rfl)
 have HV := Aside0.mk (fun (W' : World) (hb' : Below W.heap.size W W') => schema_valueNames.calls k x.f0 A1 c1 x.f1 _ W' (Kd.C_below hC1 hb') hl1 hk)
 clear hb hK hp hC1 hc hB hk hlim
 go_enter Try.func37, Try.ntmps37
 have HB0 : Below W.heap.size W (W.alloc (.cells #[.string x.f0, .slice A1 x.f1.length c1] 48)) := below_alloc (Below.refl _ _) _
 have HB0d : Below W.heap.size W (W.alloc (.cells #[.string x.f0, .slice A1 x.f1.length c1] 48)).drew := below_drew HB0
 go_wp2_with fail
 cases hn : Str.rightB x.f0 with
 | false =>
  have HX := Aside0.mk (show misE x = true by unfold misE; rw [hn]; rfl)
  rw [hn] at HC
  clear hn HV
  go_region_with (go_at_call 36; refine (HC.out _).mono ?_; rintro e w' ⟨rfl, hb⟩)
  all_goals go_wp2
  all_goals
   go_ret
   exact ⟨by rw [← HR.out, HX.out] <;> rfl, below_then HB0d HB0d.size hb⟩
 | true =>
  have HX := Aside0.mk (show misE x = (x.f1.map (·.f0)).any (fun s => !Str.rightB s) by unfold misE; rw [hn, List.any_map]; rfl)
  rw [hn] at HC
  clear hn
  have HQ := Aside0.mk (fun (W' : World) (A : Option Addr) (c : Nat) (hl : (x.f1.map (·.f0)).length ≤ c) (hC : Kd.C Kd.string W' A (x.f1.map (·.f0)).length (x.f1.map (·.f0))) =>
   ContainsFunc_String 36 #[] eg _ A c _ _ W' (misnamed1_such W') hC hl (Fn.anyO_some (fun _ _ => rfl)))
  generalize x.f1.map (·.f0) = names at *
  generalize hb0 : names.any (fun s => !Str.rightB s) = b0 at *
  clear hb0
  go_region_held3 (fun w' => w'.cell? ⟨B, 0, none⟩ = some (.func (.func 36) #[] #[]) ∧ w'.cell? ⟨W.heap.size, 0, none⟩ = some (.string x.f0) ∧ w'.cell? ⟨W.heap.size, 1, none⟩ = some (.slice A1 x.f1.length c1) ∧ Below W.heap.size W w')
   (first | (go_split_ands; exact ⟨pw_cell_below hb (by assumption), pw_cell_below hb (by assumption), pw_cell_below hb (by assumption), below_then (by assumption) (Below.size (by assumption)) hb⟩) | go_keep)
   (first | (go_at_call 36; refine (HC.out _).mono ?_; rintro e w' ⟨rfl, hb⟩) | (go_at_call 39; refine (HV.out _ (by go_split_ands; assumption)).mono ?_; rintro e w' ⟨v0, rfl, hR0, hb⟩; obtain ⟨A, c, rfl, hl, hC⟩ := Kd.R_reads hR0; have HL := Aside0.mk hl; have HCC := Aside0.mk hC; clear hl hC hR0) | (go_at_call 38; refine (HQ.out _ _ _ HL.out HCC.out).mono ?_; rintro e w' ⟨rfl, hb⟩))
  all_goals go_wp2
  all_goals
   go_ret
   go_split_ands
   exact ⟨by rw [← HR.out, HX.out] <;> rfl, (by first | assumption | exact below_then (by assumption) (Below.size (by assumption)) hb)⟩
def schema_misnamed.f (l0_0 : List S48) (l0_1 : List S38) : Option Bool :=
 if l0_0.all (fun x => decide (x.f1.length ≤ 8796093022208)) = true then some (l0_0.any misE || l0_1.any (fun x => !Str.rightB x.f0)) else none
set_option maxHeartbeats 1000000 in
set_option maxRecDepth 100000 in
theorem schema_misnamed.calls (A0_0 : Option Addr) (c0_0 : Nat) (l0_0 : List S48) (A0_1 : Option Addr) (c0_1 : Nat) (l0_1 : List S38) (r : Bool) (w : World)
  (hr0_0 : Kd.C k48 w A0_0 l0_0.length l0_0) (hc0_0 : l0_0.length ≤ c0_0) (hr0_1 : Kd.C k38 w A0_1 l0_1.length l0_1) (hc0_1 : l0_1.length ≤ c0_1) (h : schema_misnamed.f l0_0 l0_1 = some r) :
  Calls Try.prog 21 #[.agg #[.slice A0_0 l0_0.length c0_0, .slice A0_1 l0_1.length c0_1]] w fun e w' => e = .returned (.bool r) ∧ Below w.heap.size w w' := by
 unfold schema_misnamed.f at h
 split at h
 case isFalse => cases h
 case isTrue hlim =>
 have hany : Fn.anyO (fun x : S48 => if x.f1.length ≤ 8796093022208 then some (misE x) else none) l0_0 = some (l0_0.any misE) :=
  Fn.anyO_some (fun x hx => if_pos (of_decide_eq_true (List.all_eq_true.1 hlim x hx)))
 have HR := Aside0.mk (Option.some.inj h)
 have C1 := Aside0.mk (fun (W : World) (hb : Below w.heap.size w W) (B : Nat) (hB : B < W.heap.size) (hc : W.cell? ⟨B, 0, none⟩ = some (.func (.func 36) #[] #[])) =>
  eachEnum_such 37 #[.pointer (some ⟨B, 0, none⟩)] (enters_of Try.func37 (by kernel_rfl) rfl) _ A0_0 c0_0 l0_0 (.slice A0_1 l0_1.length c0_1) _ W (misnamed2_such W B hB hc) (Kd.C_below hr0_0 hb) hc0_0 hany)
 have C2 := Aside0.mk (fun (W : World) (hb : Below w.heap.size w W) (B : Nat) (hB : B < W.heap.size) (hc : W.cell? ⟨B, 0, none⟩ = some (.func (.func 36) #[] #[])) =>
  eachMessage_such 40 #[.pointer (some ⟨B, 0, none⟩)] (enters_of Try.func40 (by kernel_rfl) rfl) _ (.slice A0_0 l0_0.length c0_0) A0_1 c0_1 l0_1 _ W (misnamed3_such W B hB hc) (Kd.C_below hr0_1 hb) hc0_1 (Fn.anyO_some (fun _ _ => rfl)))
 have HB0 := Aside0.mk (fun o o' => (below_alloc (below_alloc (Below.refl w.heap.size w) o) o'))
 generalize hb1 : l0_0.any misE = b1 at *
 generalize hb2 : l0_1.any (fun x => !Str.rightB x.f0) = b2 at *
 clear h hr0_0 hr0_1 hany hlim hb1 hb2
 go_enter Try.func21, Try.ntmps21
 go_wp2_with fail
 refine (C1.out _ (HB0.out _ _) (w.heap.size + 1) ?h1 ?h2).mono ?_
 case h1 => simp
 case h2 => simp
 rintro e w1 ⟨rfl, hb⟩
 have HB1 := Aside0.mk (below_then (HB0.out _ _) (HB0.out _ _).size hb)
 have hsz : w.heap.size + 1 < w1.heap.size := by have := hb.size; simp at this; omega
 have hc0 : w1.cell? ⟨w.heap.size, 0, none⟩ = some (.slice A0_0 l0_0.length c0_0) := (hb.cell (p := ⟨w.heap.size, 0, none⟩) (by simp; omega)).trans (by simp)
 have hc1 : w1.cell? ⟨w.heap.size, 1, none⟩ = some (.slice A0_1 l0_1.length c0_1) := (hb.cell (p := ⟨w.heap.size, 1, none⟩) (by simp; omega)).trans (by simp)
 have HCF := Aside0.mk (show w1.cell? ⟨w.heap.size + 1, 0, none⟩ = some (.func (.func 36) #[] #[]) from (hb.cell (p := ⟨w.heap.size + 1, 0, none⟩) (by simp)).trans (by simp))
 have HSZ := Aside0.mk hsz
 clear hb
 cases b1 with
 | true =>
  go_wp2_with fail
  go_ret
  exact ⟨by rw [← HR.out] <;> rfl, HB1.out⟩
 | false =>
  go_wp2_with fail
  refine (C2.out _ HB1.out (w.heap.size + 1) HSZ.out HCF.out).mono ?_
  rintro e w2 ⟨rfl, hb⟩
  have HB2 := Aside0.mk (HB1.out.trans (hb.mono HB1.out.size))
  clear hb
  go_wp2_with fail
  go_ret
  exact ⟨by rw [← HR.out] <;> rfl, HB2.out⟩
end Go.Proofs.Ytelhcijoegjjnaa.P
namespace Go.Proofs.Ytelhcijoegjjnaa.P
open Go.RowKit Go.Proofs.YtelhcijoegjjnaaW.PrintWords Go.Proofs.YtelhcijoegjjnaaW.PrintLast Go.Proofs.YtelhcijoegjjnaaW.PrintMore
attribute [local go_sem] max2_int min2_int max_two min_two max_three min_three max_four min_four
set_option linter.unusedVariables false
set_option linter.unusedSimpArgs false
def field_refers.f (a0 : Int) : Option (Bool) := if a0 = 14 then (some true) else (some (a0 == 15))
set_option maxHeartbeats 8000000 in
set_option maxRecDepth 100000 in
theorem field_refers.calls (a0 : Int) (r : Bool) (w : World) (h : field_refers.f a0 = some r) :
  Calls Try.prog 92 #[.int .i64 a0] w fun e w' => e = .returned (.bool r) ∧ Drawn0 w w' := by
 have H : (if a0 = 14 then (some true) else (some (a0 == 15))) = some r := h
 clear h
 by_cases c2 : a0 = 14
 ·rw [if_pos c2] at H
  have c2b0 : (a0 == 14) = true := beq_iff_eq.mpr c2
  have c2b1 : (a0 != 14) = false := bne_eq_false_iff_eq.mpr c2
  clear c2
  obtain rfl := Option.some.inj H
  go_enter Try.func92, Try.ntmps92
  go_wp2
  go_ret
  exact ⟨by first | rfl | (simp; done) | (simp [*]; done), by repeat (first | exact Drawn0.refl _ | apply Drawn0.step)⟩
 ·rw [if_neg c2] at H
  have c2b0 : (a0 == 14) = false := beq_eq_false_iff_ne.mpr c2
  have c2b1 : (a0 != 14) = true := bne_iff_ne.mpr c2
  obtain rfl := Option.some.inj H
  go_enter Try.func92, Try.ntmps92
  go_wp2
  go_ret
  exact ⟨by first | rfl | (simp; done) | (simp [*]; done), by repeat (first | exact Drawn0.refl _ | apply Drawn0.step)⟩
end Go.Proofs.Ytelhcijoegjjnaa.P
