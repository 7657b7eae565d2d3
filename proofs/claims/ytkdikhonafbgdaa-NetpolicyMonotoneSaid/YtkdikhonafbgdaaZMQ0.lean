/- Part of a claim: see its row. Conditions: stated at each. -/
import Derived.Test.YtkdikhonafbgdaaProg
import Derived.Below
import Derived.Deep.Draws
import Derived.Deep.AppendLies
import Derived.Maps.AppendAt
import Derived.OwnWalk
import Derived.Laws.BytesArg
import Derived.Laws.MakeOwn
import Derived.Laws.OwnMore
import Derived.Deep.OwnRows
import Derived.Tactics
import Derived.Lib.ConvBytes
import Derived.Laws.Slices
import Derived.WalkKit
import Derived.KernelRfl
import Derived.RowKit3
import Derived.Deep.LoopGhost
import Derived.Deep.QuietTactic
import Derived.BigQuiet
import Derived.WideLaws
import Derived.Deep.DeepCutAuto
import Derived.Deep.CutBlock
import Derived.Deep.RegionHeld3
import Derived.Laws.Rows
import Derived.Lib.AppendStr
import Derived.ArgAppend
import Derived.Laws.IdiomCopy
import Derived.OrdersHeld
import Derived.Laws.BitsLemmas
import Derived.RowKit
import Derived.Lib.SliceRun
import Derived.Test.YtkdikhonafbgdaaZMSh
import Derived.Test.YtkdikhonafbgdaaZMW0
namespace Go.Proofs.Ytkdikhonafbgdaa.Q
open Go.RowKit Go.Proofs.YtkdikhonafbgdaaW.PrintWords Go.Proofs.YtkdikhonafbgdaaW.PrintLast Go.Proofs.YtkdikhonafbgdaaW.PrintMore Go.Proofs.Ytkdikhonafbgdaa.Sh
attribute [local go_sem] max2_int min2_int max_two min_two max_three min_three max_four min_four
set_option linter.unusedVariables false
set_option linter.unusedSimpArgs false
def errW : Option Int → Value
 | none => .nilIface
 | some c => .iface 0 (.int .i64 c)
theorem errW_none : errW none = .nilIface := rfl
theorem errW_some (c : Int) : errW (some c) = .iface 0 (.int .i64 c) := rfl
theorem info48 : (Try.prog.info? 48).map (fun i => (i.zero, i.size, i.bytes)) = some (some (.agg #[(.int .i64 0), (.int .i64 0)]), 2, 16) := by kernel_rfl
theorem info54 : (Try.prog.info? 54).map (fun i => (i.zero, i.size, i.bytes)) = some (some (.agg #[(.string ⟨#[]⟩), (.string ⟨#[]⟩), (.string ⟨#[]⟩), (.int .i64 0), (.int .i64 0), (.int .i64 0), (.int .i64 0), (.bool false), (.int .i64 0), (.slice none 0 0), (.slice none 0 0), (.slice none 0 0), (.slice none 0 0), (.slice none 0 0), (.bool false), (.bool false), (.slice none 0 0)]), 17, 248) := by kernel_rfl
theorem info58 : (Try.prog.info? 58).map (fun i => (i.zero, i.size, i.bytes)) = some (some (.agg #[(.bool false), (.slice none 0 0), (.slice none 0 0)]), 3, 56) := by kernel_rfl
structure S72 where
 f0 : ByteArray
 f1 : ByteArray
def z72 : S72 := ⟨(⟨#[]⟩ : ByteArray), (⟨#[]⟩ : ByteArray)⟩
def k72 : Kd S72 := Kd.iso (Kd.pair Kd.string Kd.string) (fun x : S72 => (x.f0, x.f1))
theorem k72_heap : Kd.Heap k72 := Kd.heap_iso _ (Kd.heap_pair Kd.heap_string Kd.heap_string)
theorem k72_open {w : World} {x : S72} {cs : List Value} (h : k72.K w x cs) : cs = [.string x.f0, .string x.f1] := by
 obtain ⟨_, _, rfl, rfl, rfl⟩ := h
 exact rfl
theorem k72_mkM (w : World) (base : Nat) (ok : Nat → Prop) (x : S72)  : k72.M w base ok x [.string x.f0, .string x.f1] := ⟨[.string x.f0], [.string x.f1], rfl, rfl, rfl⟩
def rd_T72 (xs : List S72) (i : Int) : S72 := xs.getD i.toNat z72
theorem at_T72 {w : World} {A : Option Addr} {n : Nat} {xs : List S72} (h : Kd.C k72 w A n xs) (i : Int) (h0 : 0 ≤ i) (h1 : i < n) : ∃ ad , A = some ad ∧ w.cell? (ad.add (i.toNat * 2)) = some (.string (rd_T72 xs i).f0) ∧ w.cell? ⟨(ad.add (i.toNat * 2)).block, (ad.add (i.toNat * 2)).off + 1, none⟩ = some (.string (rd_T72 xs i).f1) := by
 obtain ⟨ad, c, e, _, hK, hc0⟩ := Kd.C_get h z72 i h0 h1
 have hc : ∀ j u, c[j]? = some u → w.cell? (ad.add (i.toNat * 2 + j)) = some u := hc0
 obtain rfl := k72_open hK
 exact ⟨ad, e, hc 0 _ rfl, by rw [← add_field _ _ 1 (by omega)]; exact hc 1 _ rfl⟩
structure S110 where
 f0 : ByteArray
 f1 : ByteArray
 f2 : Int
 f3 : Bool
 f4 : Bool
def k110 : Kd S110 := Kd.iso (Kd.pair Kd.string (Kd.pair Kd.string (Kd.pair (Kd.int .i64) (Kd.pair Kd.bool Kd.bool)))) (fun x : S110 => (x.f0, x.f1, x.f2, x.f3, x.f4))
theorem k110_heap : Kd.Heap k110 := Kd.heap_iso _ (Kd.heap_pair Kd.heap_string (Kd.heap_pair Kd.heap_string (Kd.heap_pair (Kd.heap_int .i64) (Kd.heap_pair Kd.heap_bool Kd.heap_bool))))
structure S112 where
 f0 : ByteArray
 f1 : (List ByteArray)
def k112 : Kd S112 := Kd.iso (Kd.pair Kd.string (Kd.slice 9 Kd.string)) (fun x : S112 => (x.f0, x.f1))
theorem k112_heap : Kd.Heap k112 := Kd.heap_iso _ (Kd.heap_pair Kd.heap_string (Kd.heap_slice 9 Kd.heap_string))
structure S28 where
 f0 : ByteArray
 f1 : ByteArray
 f2 : ByteArray
 f3 : Int
 f4 : Int
 f5 : Int
 f6 : Int
 f7 : Bool
 f8 : Int
 f9 : (List S72)
 f10 : (List S110)
 f11 : (List ByteArray)
 f12 : (List S112)
def z28 : S28 := ⟨(⟨#[]⟩ : ByteArray), (⟨#[]⟩ : ByteArray), (⟨#[]⟩ : ByteArray), (0 : Int), (0 : Int), (0 : Int), (0 : Int), false, (0 : Int), ([] : List S72), ([] : List S110), ([] : List ByteArray), ([] : List S112)⟩
def k28 : Kd S28 := Kd.iso (Kd.pair Kd.string (Kd.pair Kd.string (Kd.pair Kd.string (Kd.pair (Kd.int .i64) (Kd.pair (Kd.int .i64) (Kd.pair (Kd.int .i64) (Kd.pair (Kd.int .i64) (Kd.pair Kd.bool (Kd.pair (Kd.int .i64) (Kd.pair (Kd.slice 72 k72) (Kd.pair (Kd.slice 110 k110) (Kd.pair (Kd.slice 9 Kd.string) (Kd.slice 112 k112))))))))))))) (fun x : S28 => (x.f0, x.f1, x.f2, x.f3, x.f4, x.f5, x.f6, x.f7, x.f8, x.f9, x.f10, x.f11, x.f12))
theorem k28_heap : Kd.Heap k28 := Kd.heap_iso _ (Kd.heap_pair Kd.heap_string (Kd.heap_pair Kd.heap_string (Kd.heap_pair Kd.heap_string (Kd.heap_pair (Kd.heap_int .i64) (Kd.heap_pair (Kd.heap_int .i64) (Kd.heap_pair (Kd.heap_int .i64) (Kd.heap_pair (Kd.heap_int .i64) (Kd.heap_pair Kd.heap_bool (Kd.heap_pair (Kd.heap_int .i64) (Kd.heap_pair (Kd.heap_slice 72 k72_heap) (Kd.heap_pair (Kd.heap_slice 110 k110_heap) (Kd.heap_pair (Kd.heap_slice 9 Kd.heap_string) (Kd.heap_slice 112 k112_heap)))))))))))))
theorem k28_open {w : World} {x : S28} {cs : List Value} (h : k28.K w x cs) : ∃ A9 c9 A10 c10 A11 c11 A12 c12, cs = [.string x.f0, .string x.f1, .string x.f2, .int .i64 x.f3, .int .i64 x.f4, .int .i64 x.f5, .int .i64 x.f6, .bool x.f7, .int .i64 x.f8, .slice A9 x.f9.length c9, .slice A10 x.f10.length c10, .slice A11 x.f11.length c11, .slice A12 x.f12.length c12] ∧ x.f9.length ≤ c9 ∧ k72.C w A9 x.f9.length x.f9 ∧ x.f10.length ≤ c10 ∧ k110.C w A10 x.f10.length x.f10 ∧ x.f11.length ≤ c11 ∧ Kd.string.C w A11 x.f11.length x.f11 ∧ x.f12.length ≤ c12 ∧ k112.C w A12 x.f12.length x.f12 := by
 obtain ⟨_, _, rfl, rfl, ⟨_, _, rfl, rfl, ⟨_, _, rfl, rfl, ⟨_, _, rfl, rfl, ⟨_, _, rfl, rfl, ⟨_, _, rfl, rfl, ⟨_, _, rfl, rfl, ⟨_, _, rfl, rfl, ⟨_, _, rfl, rfl, ⟨_, _, rfl, ⟨A9, c9, rfl, l9, g9⟩, ⟨_, _, rfl, ⟨A10, c10, rfl, l10, g10⟩, ⟨_, _, rfl, ⟨A11, c11, rfl, l11, g11⟩, ⟨A12, c12, rfl, l12, g12⟩⟩⟩⟩⟩⟩⟩⟩⟩⟩⟩⟩⟩ := h
 exact ⟨A9, c9, A10, c10, A11, c11, A12, c12, rfl, l9, g9, l10, g10, l11, g11, l12, g12⟩
theorem k28_mk (w : World) (x : S28) {A9 : Option Addr} {c9 : Nat} (l9 : x.f9.length ≤ c9) (g9 : k72.C w A9 x.f9.length x.f9) {A10 : Option Addr} {c10 : Nat} (l10 : x.f10.length ≤ c10) (g10 : k110.C w A10 x.f10.length x.f10) {A11 : Option Addr} {c11 : Nat} (l11 : x.f11.length ≤ c11) (g11 : Kd.string.C w A11 x.f11.length x.f11) {A12 : Option Addr} {c12 : Nat} (l12 : x.f12.length ≤ c12) (g12 : k112.C w A12 x.f12.length x.f12) : k28.K w x [.string x.f0, .string x.f1, .string x.f2, .int .i64 x.f3, .int .i64 x.f4, .int .i64 x.f5, .int .i64 x.f6, .bool x.f7, .int .i64 x.f8, .slice A9 x.f9.length c9, .slice A10 x.f10.length c10, .slice A11 x.f11.length c11, .slice A12 x.f12.length c12] := ⟨[.string x.f0], [.string x.f1, .string x.f2, .int .i64 x.f3, .int .i64 x.f4, .int .i64 x.f5, .int .i64 x.f6, .bool x.f7, .int .i64 x.f8, .slice A9 x.f9.length c9, .slice A10 x.f10.length c10, .slice A11 x.f11.length c11, .slice A12 x.f12.length c12], rfl, rfl, ⟨[.string x.f1], [.string x.f2, .int .i64 x.f3, .int .i64 x.f4, .int .i64 x.f5, .int .i64 x.f6, .bool x.f7, .int .i64 x.f8, .slice A9 x.f9.length c9, .slice A10 x.f10.length c10, .slice A11 x.f11.length c11, .slice A12 x.f12.length c12], rfl, rfl, ⟨[.string x.f2], [.int .i64 x.f3, .int .i64 x.f4, .int .i64 x.f5, .int .i64 x.f6, .bool x.f7, .int .i64 x.f8, .slice A9 x.f9.length c9, .slice A10 x.f10.length c10, .slice A11 x.f11.length c11, .slice A12 x.f12.length c12], rfl, rfl, ⟨[.int .i64 x.f3], [.int .i64 x.f4, .int .i64 x.f5, .int .i64 x.f6, .bool x.f7, .int .i64 x.f8, .slice A9 x.f9.length c9, .slice A10 x.f10.length c10, .slice A11 x.f11.length c11, .slice A12 x.f12.length c12], rfl, rfl, ⟨[.int .i64 x.f4], [.int .i64 x.f5, .int .i64 x.f6, .bool x.f7, .int .i64 x.f8, .slice A9 x.f9.length c9, .slice A10 x.f10.length c10, .slice A11 x.f11.length c11, .slice A12 x.f12.length c12], rfl, rfl, ⟨[.int .i64 x.f5], [.int .i64 x.f6, .bool x.f7, .int .i64 x.f8, .slice A9 x.f9.length c9, .slice A10 x.f10.length c10, .slice A11 x.f11.length c11, .slice A12 x.f12.length c12], rfl, rfl, ⟨[.int .i64 x.f6], [.bool x.f7, .int .i64 x.f8, .slice A9 x.f9.length c9, .slice A10 x.f10.length c10, .slice A11 x.f11.length c11, .slice A12 x.f12.length c12], rfl, rfl, ⟨[.bool x.f7], [.int .i64 x.f8, .slice A9 x.f9.length c9, .slice A10 x.f10.length c10, .slice A11 x.f11.length c11, .slice A12 x.f12.length c12], rfl, rfl, ⟨[.int .i64 x.f8], [.slice A9 x.f9.length c9, .slice A10 x.f10.length c10, .slice A11 x.f11.length c11, .slice A12 x.f12.length c12], rfl, rfl, ⟨[.slice A9 x.f9.length c9], [.slice A10 x.f10.length c10, .slice A11 x.f11.length c11, .slice A12 x.f12.length c12], rfl, ⟨A9, c9, rfl, l9, g9⟩, ⟨[.slice A10 x.f10.length c10], [.slice A11 x.f11.length c11, .slice A12 x.f12.length c12], rfl, ⟨A10, c10, rfl, l10, g10⟩, ⟨[.slice A11 x.f11.length c11], [.slice A12 x.f12.length c12], rfl, ⟨A11, c11, rfl, l11, g11⟩, ⟨A12, c12, rfl, l12, g12⟩⟩⟩⟩⟩⟩⟩⟩⟩⟩⟩⟩⟩
structure S74 where
 f0 : ByteArray
 f1 : Int
 f2 : (List ByteArray)
def z74 : S74 := ⟨(⟨#[]⟩ : ByteArray), (0 : Int), ([] : List ByteArray)⟩
def k74 : Kd S74 := Kd.iso (Kd.pair Kd.string (Kd.pair (Kd.int .i64) (Kd.slice 9 Kd.string))) (fun x : S74 => (x.f0, x.f1, x.f2))
theorem k74_heap : Kd.Heap k74 := Kd.heap_iso _ (Kd.heap_pair Kd.heap_string (Kd.heap_pair (Kd.heap_int .i64) (Kd.heap_slice 9 Kd.heap_string)))
theorem k74_open {w : World} {x : S74} {cs : List Value} (h : k74.K w x cs) : ∃ A2 c2, cs = [.string x.f0, .int .i64 x.f1, .slice A2 x.f2.length c2] ∧ x.f2.length ≤ c2 ∧ Kd.string.C w A2 x.f2.length x.f2 := by
 obtain ⟨_, _, rfl, rfl, ⟨_, _, rfl, rfl, ⟨A2, c2, rfl, l2, g2⟩⟩⟩ := h
 exact ⟨A2, c2, rfl, l2, g2⟩
theorem k74_mk (w : World) (x : S74) {A2 : Option Addr} {c2 : Nat} (l2 : x.f2.length ≤ c2) (g2 : Kd.string.C w A2 x.f2.length x.f2) : k74.K w x [.string x.f0, .int .i64 x.f1, .slice A2 x.f2.length c2] := ⟨[.string x.f0], [.int .i64 x.f1, .slice A2 x.f2.length c2], rfl, rfl, ⟨[.int .i64 x.f1], [.slice A2 x.f2.length c2], rfl, rfl, ⟨A2, c2, rfl, l2, g2⟩⟩⟩
theorem k74_mkF (W : World) (ok : Nat → Prop) (x : S74) {A2 : Option Addr} {c2 : Nat} (l2 : x.f2.length ≤ c2) (g2 : Kd.F Kd.string W ok A2 x.f2.length x.f2) : Kd.FK k74 W ok x [.string x.f0, .int .i64 x.f1, .slice A2 x.f2.length c2] := fun W2 hW => k74_mk W2 x l2 (g2 W2 hW)
def rd_T74 (xs : List S74) (i : Int) : S74 := xs.getD i.toNat z74
theorem at_T74 {w : World} {A : Option Addr} {n : Nat} {xs : List S74} (h : Kd.C k74 w A n xs) (i : Int) (h0 : 0 ≤ i) (h1 : i < n) : ∃ ad A2 c2, A = some ad ∧ w.cell? (ad.add (i.toNat * 3)) = some (.string (rd_T74 xs i).f0) ∧ w.cell? ⟨(ad.add (i.toNat * 3)).block, (ad.add (i.toNat * 3)).off + 1, none⟩ = some (.int .i64 (rd_T74 xs i).f1) ∧ w.cell? ⟨(ad.add (i.toNat * 3)).block, (ad.add (i.toNat * 3)).off + 2, none⟩ = some (.slice A2 (rd_T74 xs i).f2.length c2) ∧ (rd_T74 xs i).f2.length ≤ c2 ∧ Kd.string.C w A2 (rd_T74 xs i).f2.length (rd_T74 xs i).f2 := by
 obtain ⟨ad, c, e, _, hK, hc0⟩ := Kd.C_get h z74 i h0 h1
 have hc : ∀ j u, c[j]? = some u → w.cell? (ad.add (i.toNat * 3 + j)) = some u := hc0
 obtain ⟨A2, c2, rfl, l2, g2⟩ := k74_open hK
 exact ⟨ad, A2, c2, e, hc 0 _ rfl, by rw [← add_field _ _ 1 (by omega)]; exact hc 1 _ rfl, by rw [← add_field _ _ 2 (by omega)]; exact hc 2 _ rfl, l2, g2⟩
structure S64 where
 f0 : ByteArray
 f1 : (List S74)
def z64 : S64 := ⟨(⟨#[]⟩ : ByteArray), ([] : List S74)⟩
def k64 : Kd S64 := Kd.iso (Kd.pair Kd.string (Kd.slice 74 k74)) (fun x : S64 => (x.f0, x.f1))
theorem k64_heap : Kd.Heap k64 := Kd.heap_iso _ (Kd.heap_pair Kd.heap_string (Kd.heap_slice 74 k74_heap))
theorem k64_open {w : World} {x : S64} {cs : List Value} (h : k64.K w x cs) : ∃ A1 c1, cs = [.string x.f0, .slice A1 x.f1.length c1] ∧ x.f1.length ≤ c1 ∧ k74.C w A1 x.f1.length x.f1 := by
 obtain ⟨_, _, rfl, rfl, ⟨A1, c1, rfl, l1, g1⟩⟩ := h
 exact ⟨A1, c1, rfl, l1, g1⟩
theorem k64_mk (w : World) (x : S64) {A1 : Option Addr} {c1 : Nat} (l1 : x.f1.length ≤ c1) (g1 : k74.C w A1 x.f1.length x.f1) : k64.K w x [.string x.f0, .slice A1 x.f1.length c1] := ⟨[.string x.f0], [.slice A1 x.f1.length c1], rfl, rfl, ⟨A1, c1, rfl, l1, g1⟩⟩
theorem k64_mkF (W : World) (ok : Nat → Prop) (x : S64) {A1 : Option Addr} {c1 : Nat} (l1 : x.f1.length ≤ c1) (g1 : Kd.F k74 W ok A1 x.f1.length x.f1) : Kd.FK k64 W ok x [.string x.f0, .slice A1 x.f1.length c1] := fun W2 hW => k64_mk W2 x l1 (g1 W2 hW)
def rd_T64 (xs : List S64) (i : Int) : S64 := xs.getD i.toNat z64
theorem at_T64 {w : World} {A : Option Addr} {n : Nat} {xs : List S64} (h : Kd.C k64 w A n xs) (i : Int) (h0 : 0 ≤ i) (h1 : i < n) : ∃ ad A1 c1, A = some ad ∧ w.cell? (ad.add (i.toNat * 2)) = some (.string (rd_T64 xs i).f0) ∧ w.cell? ⟨(ad.add (i.toNat * 2)).block, (ad.add (i.toNat * 2)).off + 1, none⟩ = some (.slice A1 (rd_T64 xs i).f1.length c1) ∧ (rd_T64 xs i).f1.length ≤ c1 ∧ k74.C w A1 (rd_T64 xs i).f1.length (rd_T64 xs i).f1 := by
 obtain ⟨ad, c, e, _, hK, hc0⟩ := Kd.C_get h z64 i h0 h1
 have hc : ∀ j u, c[j]? = some u → w.cell? (ad.add (i.toNat * 2 + j)) = some u := hc0
 obtain ⟨A1, c1, rfl, l1, g1⟩ := k64_open hK
 exact ⟨ad, A1, c1, e, hc 0 _ rfl, by rw [← add_field _ _ 1 (by omega)]; exact hc 1 _ rfl, l1, g1⟩
structure S58 where
 f0 : Bool
 f1 : (List S64)
 f2 : (List Int)
def z58 : S58 := ⟨false, ([] : List S64), ([] : List Int)⟩
def k58 : Kd S58 := Kd.iso (Kd.pair Kd.bool (Kd.pair (Kd.slice 64 k64) (Kd.slice 3 (Kd.int .i64)))) (fun x : S58 => (x.f0, x.f1, x.f2))
theorem k58_heap : Kd.Heap k58 := Kd.heap_iso _ (Kd.heap_pair Kd.heap_bool (Kd.heap_pair (Kd.heap_slice 64 k64_heap) (Kd.heap_slice 3 (Kd.heap_int .i64))))
theorem k58_open {w : World} {x : S58} {cs : List Value} (h : k58.K w x cs) : ∃ A1 c1 A2 c2, cs = [.bool x.f0, .slice A1 x.f1.length c1, .slice A2 x.f2.length c2] ∧ x.f1.length ≤ c1 ∧ k64.C w A1 x.f1.length x.f1 ∧ x.f2.length ≤ c2 ∧ (Kd.int .i64).C w A2 x.f2.length x.f2 := by
 obtain ⟨_, _, rfl, rfl, ⟨_, _, rfl, ⟨A1, c1, rfl, l1, g1⟩, ⟨A2, c2, rfl, l2, g2⟩⟩⟩ := h
 exact ⟨A1, c1, A2, c2, rfl, l1, g1, l2, g2⟩
theorem k58_mk (w : World) (x : S58) {A1 : Option Addr} {c1 : Nat} (l1 : x.f1.length ≤ c1) (g1 : k64.C w A1 x.f1.length x.f1) {A2 : Option Addr} {c2 : Nat} (l2 : x.f2.length ≤ c2) (g2 : (Kd.int .i64).C w A2 x.f2.length x.f2) : k58.K w x [.bool x.f0, .slice A1 x.f1.length c1, .slice A2 x.f2.length c2] := ⟨[.bool x.f0], [.slice A1 x.f1.length c1, .slice A2 x.f2.length c2], rfl, rfl, ⟨[.slice A1 x.f1.length c1], [.slice A2 x.f2.length c2], rfl, ⟨A1, c1, rfl, l1, g1⟩, ⟨A2, c2, rfl, l2, g2⟩⟩⟩
theorem k58_mkF (W : World) (ok : Nat → Prop) (x : S58) {A1 : Option Addr} {c1 : Nat} (l1 : x.f1.length ≤ c1) (g1 : Kd.F k64 W ok A1 x.f1.length x.f1) {A2 : Option Addr} {c2 : Nat} (l2 : x.f2.length ≤ c2) (g2 : Kd.F (Kd.int .i64) W ok A2 x.f2.length x.f2) : Kd.FK k58 W ok x [.bool x.f0, .slice A1 x.f1.length c1, .slice A2 x.f2.length c2] := fun W2 hW => k58_mk W2 x l1 (g1 W2 hW) l2 (g2 W2 hW)
def rd_T58 (xs : List S58) (i : Int) : S58 := xs.getD i.toNat z58
theorem at_T58 {w : World} {A : Option Addr} {n : Nat} {xs : List S58} (h : Kd.C k58 w A n xs) (i : Int) (h0 : 0 ≤ i) (h1 : i < n) : ∃ ad A1 c1 A2 c2, A = some ad ∧ w.cell? (ad.add (i.toNat * 3)) = some (.bool (rd_T58 xs i).f0) ∧ w.cell? ⟨(ad.add (i.toNat * 3)).block, (ad.add (i.toNat * 3)).off + 1, none⟩ = some (.slice A1 (rd_T58 xs i).f1.length c1) ∧ w.cell? ⟨(ad.add (i.toNat * 3)).block, (ad.add (i.toNat * 3)).off + 2, none⟩ = some (.slice A2 (rd_T58 xs i).f2.length c2) ∧ (rd_T58 xs i).f1.length ≤ c1 ∧ k64.C w A1 (rd_T58 xs i).f1.length (rd_T58 xs i).f1 ∧ (rd_T58 xs i).f2.length ≤ c2 ∧ (Kd.int .i64).C w A2 (rd_T58 xs i).f2.length (rd_T58 xs i).f2 := by
 obtain ⟨ad, c, e, _, hK, hc0⟩ := Kd.C_get h z58 i h0 h1
 have hc : ∀ j u, c[j]? = some u → w.cell? (ad.add (i.toNat * 3 + j)) = some u := hc0
 obtain ⟨A1, c1, A2, c2, rfl, l1, g1, l2, g2⟩ := k58_open hK
 exact ⟨ad, A1, c1, A2, c2, e, hc 0 _ rfl, by rw [← add_field _ _ 1 (by omega)]; exact hc 1 _ rfl, by rw [← add_field _ _ 2 (by omega)]; exact hc 2 _ rfl, l1, g1, l2, g2⟩
structure S54 where
 f0 : S28
 f1 : (List S74)
 f2 : Bool
 f3 : Bool
 f4 : (List S58)
def z54 : S54 := ⟨z28, ([] : List S74), false, false, ([] : List S58)⟩
def k54 : Kd S54 := Kd.iso (Kd.pair k28 (Kd.pair (Kd.slice 74 k74) (Kd.pair Kd.bool (Kd.pair Kd.bool (Kd.slice 58 k58))))) (fun x : S54 => (x.f0, x.f1, x.f2, x.f3, x.f4))
theorem k54_heap : Kd.Heap k54 := Kd.heap_iso _ (Kd.heap_pair k28_heap (Kd.heap_pair (Kd.heap_slice 74 k74_heap) (Kd.heap_pair Kd.heap_bool (Kd.heap_pair Kd.heap_bool (Kd.heap_slice 58 k58_heap)))))
theorem k54_open {w : World} {x : S54} {cs : List Value} (h : k54.K w x cs) : ∃ A9 c9 A10 c10 A11 c11 A12 c12 A13 c13 A16 c16, cs = [.string x.f0.f0, .string x.f0.f1, .string x.f0.f2, .int .i64 x.f0.f3, .int .i64 x.f0.f4, .int .i64 x.f0.f5, .int .i64 x.f0.f6, .bool x.f0.f7, .int .i64 x.f0.f8, .slice A9 x.f0.f9.length c9, .slice A10 x.f0.f10.length c10, .slice A11 x.f0.f11.length c11, .slice A12 x.f0.f12.length c12, .slice A13 x.f1.length c13, .bool x.f2, .bool x.f3, .slice A16 x.f4.length c16] ∧ x.f0.f9.length ≤ c9 ∧ k72.C w A9 x.f0.f9.length x.f0.f9 ∧ x.f0.f10.length ≤ c10 ∧ k110.C w A10 x.f0.f10.length x.f0.f10 ∧ x.f0.f11.length ≤ c11 ∧ Kd.string.C w A11 x.f0.f11.length x.f0.f11 ∧ x.f0.f12.length ≤ c12 ∧ k112.C w A12 x.f0.f12.length x.f0.f12 ∧ x.f1.length ≤ c13 ∧ k74.C w A13 x.f1.length x.f1 ∧ x.f4.length ≤ c16 ∧ k58.C w A16 x.f4.length x.f4 := by
 obtain ⟨_, _, rfl, s0, ⟨_, _, rfl, ⟨A13, c13, rfl, l13, g13⟩, ⟨_, _, rfl, rfl, ⟨_, _, rfl, rfl, ⟨A16, c16, rfl, l16, g16⟩⟩⟩⟩⟩ := h
 obtain ⟨A9, c9, A10, c10, A11, c11, A12, c12, rfl, l9, g9, l10, g10, l11, g11, l12, g12⟩ := k28_open s0
 exact ⟨A9, c9, A10, c10, A11, c11, A12, c12, A13, c13, A16, c16, rfl, l9, g9, l10, g10, l11, g11, l12, g12, l13, g13, l16, g16⟩
theorem k54_mk (w : World) (x : S54) {A9 : Option Addr} {c9 : Nat} (l9 : x.f0.f9.length ≤ c9) (g9 : k72.C w A9 x.f0.f9.length x.f0.f9) {A10 : Option Addr} {c10 : Nat} (l10 : x.f0.f10.length ≤ c10) (g10 : k110.C w A10 x.f0.f10.length x.f0.f10) {A11 : Option Addr} {c11 : Nat} (l11 : x.f0.f11.length ≤ c11) (g11 : Kd.string.C w A11 x.f0.f11.length x.f0.f11) {A12 : Option Addr} {c12 : Nat} (l12 : x.f0.f12.length ≤ c12) (g12 : k112.C w A12 x.f0.f12.length x.f0.f12) {A13 : Option Addr} {c13 : Nat} (l13 : x.f1.length ≤ c13) (g13 : k74.C w A13 x.f1.length x.f1) {A16 : Option Addr} {c16 : Nat} (l16 : x.f4.length ≤ c16) (g16 : k58.C w A16 x.f4.length x.f4) : k54.K w x [.string x.f0.f0, .string x.f0.f1, .string x.f0.f2, .int .i64 x.f0.f3, .int .i64 x.f0.f4, .int .i64 x.f0.f5, .int .i64 x.f0.f6, .bool x.f0.f7, .int .i64 x.f0.f8, .slice A9 x.f0.f9.length c9, .slice A10 x.f0.f10.length c10, .slice A11 x.f0.f11.length c11, .slice A12 x.f0.f12.length c12, .slice A13 x.f1.length c13, .bool x.f2, .bool x.f3, .slice A16 x.f4.length c16] := ⟨[.string x.f0.f0, .string x.f0.f1, .string x.f0.f2, .int .i64 x.f0.f3, .int .i64 x.f0.f4, .int .i64 x.f0.f5, .int .i64 x.f0.f6, .bool x.f0.f7, .int .i64 x.f0.f8, .slice A9 x.f0.f9.length c9, .slice A10 x.f0.f10.length c10, .slice A11 x.f0.f11.length c11, .slice A12 x.f0.f12.length c12], [.slice A13 x.f1.length c13, .bool x.f2, .bool x.f3, .slice A16 x.f4.length c16], rfl, (k28_mk w x.f0 l9 g9 l10 g10 l11 g11 l12 g12), ⟨[.slice A13 x.f1.length c13], [.bool x.f2, .bool x.f3, .slice A16 x.f4.length c16], rfl, ⟨A13, c13, rfl, l13, g13⟩, ⟨[.bool x.f2], [.bool x.f3, .slice A16 x.f4.length c16], rfl, rfl, ⟨[.bool x.f3], [.slice A16 x.f4.length c16], rfl, rfl, ⟨A16, c16, rfl, l16, g16⟩⟩⟩⟩⟩
theorem k54_openF {W : World} {ok : Nat → Prop} {x : S54} {cs : List Value} (h : Kd.FK k54 W ok x cs) : ∃ A9 c9 A10 c10 A11 c11 A12 c12 A13 c13 A16 c16, cs = [.string x.f0.f0, .string x.f0.f1, .string x.f0.f2, .int .i64 x.f0.f3, .int .i64 x.f0.f4, .int .i64 x.f0.f5, .int .i64 x.f0.f6, .bool x.f0.f7, .int .i64 x.f0.f8, .slice A9 x.f0.f9.length c9, .slice A10 x.f0.f10.length c10, .slice A11 x.f0.f11.length c11, .slice A12 x.f0.f12.length c12, .slice A13 x.f1.length c13, .bool x.f2, .bool x.f3, .slice A16 x.f4.length c16] ∧ x.f0.f9.length ≤ c9 ∧ Kd.F k72 W ok A9 x.f0.f9.length x.f0.f9 ∧ x.f0.f10.length ≤ c10 ∧ Kd.F k110 W ok A10 x.f0.f10.length x.f0.f10 ∧ x.f0.f11.length ≤ c11 ∧ Kd.F Kd.string W ok A11 x.f0.f11.length x.f0.f11 ∧ x.f0.f12.length ≤ c12 ∧ Kd.F k112 W ok A12 x.f0.f12.length x.f0.f12 ∧ x.f1.length ≤ c13 ∧ Kd.F k74 W ok A13 x.f1.length x.f1 ∧ x.f4.length ≤ c16 ∧ Kd.F k58 W ok A16 x.f4.length x.f4 := by
 obtain ⟨A9, c9, A10, c10, A11, c11, A12, c12, A13, c13, A16, c16, rfl, l9, _, l10, _, l11, _, l12, _, l13, _, l16, _⟩ := k54_open (Kd.FK_now h)
 exact ⟨A9, c9, A10, c10, A11, c11, A12, c12, A13, c13, A16, c16, rfl, l9, (fun W' hW => by obtain ⟨A9_, c9_, A10_, c10_, A11_, c11_, A12_, c12_, A13_, c13_, A16_, c16_, he, l9_, g9_, l10_, g10_, l11_, g11_, l12_, g12_, l13_, g13_, l16_, g16_⟩ := k54_open (h W' hW); injection (Option.some.inj (show some (Value.slice A9 x.f0.f9.length c9) = some (Value.slice A9_ x.f0.f9.length c9_) from congrArg (fun l => l[9]?) he)) with ha_ _ _; rw [ha_]; exact g9_), l10, (fun W' hW => by obtain ⟨A9_, c9_, A10_, c10_, A11_, c11_, A12_, c12_, A13_, c13_, A16_, c16_, he, l9_, g9_, l10_, g10_, l11_, g11_, l12_, g12_, l13_, g13_, l16_, g16_⟩ := k54_open (h W' hW); injection (Option.some.inj (show some (Value.slice A10 x.f0.f10.length c10) = some (Value.slice A10_ x.f0.f10.length c10_) from congrArg (fun l => l[10]?) he)) with ha_ _ _; rw [ha_]; exact g10_), l11, (fun W' hW => by obtain ⟨A9_, c9_, A10_, c10_, A11_, c11_, A12_, c12_, A13_, c13_, A16_, c16_, he, l9_, g9_, l10_, g10_, l11_, g11_, l12_, g12_, l13_, g13_, l16_, g16_⟩ := k54_open (h W' hW); injection (Option.some.inj (show some (Value.slice A11 x.f0.f11.length c11) = some (Value.slice A11_ x.f0.f11.length c11_) from congrArg (fun l => l[11]?) he)) with ha_ _ _; rw [ha_]; exact g11_), l12, (fun W' hW => by obtain ⟨A9_, c9_, A10_, c10_, A11_, c11_, A12_, c12_, A13_, c13_, A16_, c16_, he, l9_, g9_, l10_, g10_, l11_, g11_, l12_, g12_, l13_, g13_, l16_, g16_⟩ := k54_open (h W' hW); injection (Option.some.inj (show some (Value.slice A12 x.f0.f12.length c12) = some (Value.slice A12_ x.f0.f12.length c12_) from congrArg (fun l => l[12]?) he)) with ha_ _ _; rw [ha_]; exact g12_), l13, (fun W' hW => by obtain ⟨A9_, c9_, A10_, c10_, A11_, c11_, A12_, c12_, A13_, c13_, A16_, c16_, he, l9_, g9_, l10_, g10_, l11_, g11_, l12_, g12_, l13_, g13_, l16_, g16_⟩ := k54_open (h W' hW); injection (Option.some.inj (show some (Value.slice A13 x.f1.length c13) = some (Value.slice A13_ x.f1.length c13_) from congrArg (fun l => l[13]?) he)) with ha_ _ _; rw [ha_]; exact g13_), l16, (fun W' hW => by obtain ⟨A9_, c9_, A10_, c10_, A11_, c11_, A12_, c12_, A13_, c13_, A16_, c16_, he, l9_, g9_, l10_, g10_, l11_, g11_, l12_, g12_, l13_, g13_, l16_, g16_⟩ := k54_open (h W' hW); injection (Option.some.inj (show some (Value.slice A16 x.f4.length c16) = some (Value.slice A16_ x.f4.length c16_) from congrArg (fun l => l[16]?) he)) with ha_ _ _; rw [ha_]; exact g16_)⟩
theorem k54_mkF (W : World) (ok : Nat → Prop) (x : S54) {A9 : Option Addr} {c9 : Nat} (l9 : x.f0.f9.length ≤ c9) (g9 : Kd.F k72 W ok A9 x.f0.f9.length x.f0.f9) {A10 : Option Addr} {c10 : Nat} (l10 : x.f0.f10.length ≤ c10) (g10 : Kd.F k110 W ok A10 x.f0.f10.length x.f0.f10) {A11 : Option Addr} {c11 : Nat} (l11 : x.f0.f11.length ≤ c11) (g11 : Kd.F Kd.string W ok A11 x.f0.f11.length x.f0.f11) {A12 : Option Addr} {c12 : Nat} (l12 : x.f0.f12.length ≤ c12) (g12 : Kd.F k112 W ok A12 x.f0.f12.length x.f0.f12) {A13 : Option Addr} {c13 : Nat} (l13 : x.f1.length ≤ c13) (g13 : Kd.F k74 W ok A13 x.f1.length x.f1) {A16 : Option Addr} {c16 : Nat} (l16 : x.f4.length ≤ c16) (g16 : Kd.F k58 W ok A16 x.f4.length x.f4) : Kd.FK k54 W ok x [.string x.f0.f0, .string x.f0.f1, .string x.f0.f2, .int .i64 x.f0.f3, .int .i64 x.f0.f4, .int .i64 x.f0.f5, .int .i64 x.f0.f6, .bool x.f0.f7, .int .i64 x.f0.f8, .slice A9 x.f0.f9.length c9, .slice A10 x.f0.f10.length c10, .slice A11 x.f0.f11.length c11, .slice A12 x.f0.f12.length c12, .slice A13 x.f1.length c13, .bool x.f2, .bool x.f3, .slice A16 x.f4.length c16] := fun W2 hW => k54_mk W2 x l9 (g9 W2 hW) l10 (g10 W2 hW) l11 (g11 W2 hW) l12 (g12 W2 hW) l13 (g13 W2 hW) l16 (g16 W2 hW)
def rd_T54 (xs : List S54) (i : Int) : S54 := xs.getD i.toNat z54
theorem at_T54 {w : World} {A : Option Addr} {n : Nat} {xs : List S54} (h : Kd.C k54 w A n xs) (i : Int) (h0 : 0 ≤ i) (h1 : i < n) : ∃ ad A9 c9 A10 c10 A11 c11 A12 c12 A13 c13 A16 c16, A = some ad ∧ w.cell? (ad.add (i.toNat * 17)) = some (.string (rd_T54 xs i).f0.f0) ∧ w.cell? ⟨(ad.add (i.toNat * 17)).block, (ad.add (i.toNat * 17)).off + 1, none⟩ = some (.string (rd_T54 xs i).f0.f1) ∧ w.cell? ⟨(ad.add (i.toNat * 17)).block, (ad.add (i.toNat * 17)).off + 2, none⟩ = some (.string (rd_T54 xs i).f0.f2) ∧ w.cell? ⟨(ad.add (i.toNat * 17)).block, (ad.add (i.toNat * 17)).off + 3, none⟩ = some (.int .i64 (rd_T54 xs i).f0.f3) ∧ w.cell? ⟨(ad.add (i.toNat * 17)).block, (ad.add (i.toNat * 17)).off + 4, none⟩ = some (.int .i64 (rd_T54 xs i).f0.f4) ∧ w.cell? ⟨(ad.add (i.toNat * 17)).block, (ad.add (i.toNat * 17)).off + 5, none⟩ = some (.int .i64 (rd_T54 xs i).f0.f5) ∧ w.cell? ⟨(ad.add (i.toNat * 17)).block, (ad.add (i.toNat * 17)).off + 6, none⟩ = some (.int .i64 (rd_T54 xs i).f0.f6) ∧ w.cell? ⟨(ad.add (i.toNat * 17)).block, (ad.add (i.toNat * 17)).off + 7, none⟩ = some (.bool (rd_T54 xs i).f0.f7) ∧ w.cell? ⟨(ad.add (i.toNat * 17)).block, (ad.add (i.toNat * 17)).off + 8, none⟩ = some (.int .i64 (rd_T54 xs i).f0.f8) ∧ w.cell? ⟨(ad.add (i.toNat * 17)).block, (ad.add (i.toNat * 17)).off + 9, none⟩ = some (.slice A9 (rd_T54 xs i).f0.f9.length c9) ∧ w.cell? ⟨(ad.add (i.toNat * 17)).block, (ad.add (i.toNat * 17)).off + 10, none⟩ = some (.slice A10 (rd_T54 xs i).f0.f10.length c10) ∧ w.cell? ⟨(ad.add (i.toNat * 17)).block, (ad.add (i.toNat * 17)).off + 11, none⟩ = some (.slice A11 (rd_T54 xs i).f0.f11.length c11) ∧ w.cell? ⟨(ad.add (i.toNat * 17)).block, (ad.add (i.toNat * 17)).off + 12, none⟩ = some (.slice A12 (rd_T54 xs i).f0.f12.length c12) ∧ w.cell? ⟨(ad.add (i.toNat * 17)).block, (ad.add (i.toNat * 17)).off + 13, none⟩ = some (.slice A13 (rd_T54 xs i).f1.length c13) ∧ w.cell? ⟨(ad.add (i.toNat * 17)).block, (ad.add (i.toNat * 17)).off + 14, none⟩ = some (.bool (rd_T54 xs i).f2) ∧ w.cell? ⟨(ad.add (i.toNat * 17)).block, (ad.add (i.toNat * 17)).off + 15, none⟩ = some (.bool (rd_T54 xs i).f3) ∧ w.cell? ⟨(ad.add (i.toNat * 17)).block, (ad.add (i.toNat * 17)).off + 16, none⟩ = some (.slice A16 (rd_T54 xs i).f4.length c16) ∧ (rd_T54 xs i).f0.f9.length ≤ c9 ∧ k72.C w A9 (rd_T54 xs i).f0.f9.length (rd_T54 xs i).f0.f9 ∧ (rd_T54 xs i).f0.f10.length ≤ c10 ∧ k110.C w A10 (rd_T54 xs i).f0.f10.length (rd_T54 xs i).f0.f10 ∧ (rd_T54 xs i).f0.f11.length ≤ c11 ∧ Kd.string.C w A11 (rd_T54 xs i).f0.f11.length (rd_T54 xs i).f0.f11 ∧ (rd_T54 xs i).f0.f12.length ≤ c12 ∧ k112.C w A12 (rd_T54 xs i).f0.f12.length (rd_T54 xs i).f0.f12 ∧ (rd_T54 xs i).f1.length ≤ c13 ∧ k74.C w A13 (rd_T54 xs i).f1.length (rd_T54 xs i).f1 ∧ (rd_T54 xs i).f4.length ≤ c16 ∧ k58.C w A16 (rd_T54 xs i).f4.length (rd_T54 xs i).f4 := by
 obtain ⟨ad, c, e, _, hK, hc0⟩ := Kd.C_get h z54 i h0 h1
 have hc : ∀ j u, c[j]? = some u → w.cell? (ad.add (i.toNat * 17 + j)) = some u := hc0
 obtain ⟨A9, c9, A10, c10, A11, c11, A12, c12, A13, c13, A16, c16, rfl, l9, g9, l10, g10, l11, g11, l12, g12, l13, g13, l16, g16⟩ := k54_open hK
 exact ⟨ad, A9, c9, A10, c10, A11, c11, A12, c12, A13, c13, A16, c16, e, hc 0 _ rfl, by rw [← add_field _ _ 1 (by omega)]; exact hc 1 _ rfl, by rw [← add_field _ _ 2 (by omega)]; exact hc 2 _ rfl, by rw [← add_field _ _ 3 (by omega)]; exact hc 3 _ rfl, by rw [← add_field _ _ 4 (by omega)]; exact hc 4 _ rfl, by rw [← add_field _ _ 5 (by omega)]; exact hc 5 _ rfl, by rw [← add_field _ _ 6 (by omega)]; exact hc 6 _ rfl, by rw [← add_field _ _ 7 (by omega)]; exact hc 7 _ rfl, by rw [← add_field _ _ 8 (by omega)]; exact hc 8 _ rfl, by rw [← add_field _ _ 9 (by omega)]; exact hc 9 _ rfl, by rw [← add_field _ _ 10 (by omega)]; exact hc 10 _ rfl, by rw [← add_field _ _ 11 (by omega)]; exact hc 11 _ rfl, by rw [← add_field _ _ 12 (by omega)]; exact hc 12 _ rfl, by rw [← add_field _ _ 13 (by omega)]; exact hc 13 _ rfl, by rw [← add_field _ _ 14 (by omega)]; exact hc 14 _ rfl, by rw [← add_field _ _ 15 (by omega)]; exact hc 15 _ rfl, by rw [← add_field _ _ 16 (by omega)]; exact hc 16 _ rfl, l9, g9, l10, g10, l11, g11, l12, g12, l13, g13, l16, g16⟩
structure S114 where
 f0 : Int
 f1 : Int
 f2 : Int
def k114 : Kd S114 := Kd.iso (Kd.pair (Kd.int .i64) (Kd.pair (Kd.int .i64) (Kd.int .i64))) (fun x : S114 => (x.f0, x.f1, x.f2))
structure S130 where
 f0 : Int
 f1 : Int
 f2 : Int
 f3 : Int
def k130 : Kd S130 := Kd.iso (Kd.pair (Kd.int .i64) (Kd.pair (Kd.int .i64) (Kd.pair (Kd.int .i64) (Kd.int .i64)))) (fun x : S130 => (x.f0, x.f1, x.f2, x.f3))
structure S117 where
 f0 : ByteArray
 f1 : ByteArray
 f2 : S114
 f3 : S114
 f4 : (List S130)
 f5 : (List S130)
 f6 : (List S130)
def k117 : Kd S117 := Kd.iso (Kd.pair Kd.string (Kd.pair Kd.string (Kd.pair k114 (Kd.pair k114 (Kd.pair (Kd.slice 130 k130) (Kd.pair (Kd.slice 130 k130) (Kd.slice 130 k130))))))) (fun x : S117 => (x.f0, x.f1, x.f2, x.f3, x.f4, x.f5, x.f6))
structure S119 where
 f0 : Bool
 f1 : (List S74)
 f2 : Int
def k119 : Kd S119 := Kd.iso (Kd.pair Kd.bool (Kd.pair (Kd.slice 74 k74) (Kd.int .i64))) (fun x : S119 => (x.f0, x.f1, x.f2))
structure S121 where
 f0 : Bool
 f1 : Bool
 f2 : (List S74)
 f3 : ByteArray
 f4 : Int
def k121 : Kd S121 := Kd.iso (Kd.pair Kd.bool (Kd.pair Kd.bool (Kd.pair (Kd.slice 74 k74) (Kd.pair Kd.string (Kd.int .i64))))) (fun x : S121 => (x.f0, x.f1, x.f2, x.f3, x.f4))
structure S123 where
 f0 : Int
 f1 : ByteArray
 f2 : (List S74)
 f3 : Bool
def k123 : Kd S123 := Kd.iso (Kd.pair (Kd.int .i64) (Kd.pair Kd.string (Kd.pair (Kd.slice 74 k74) Kd.bool))) (fun x : S123 => (x.f0, x.f1, x.f2, x.f3))
structure S125 where
 f0 : ByteArray
 f1 : ByteArray
 f2 : Bool
 f3 : Int
 f4 : Int
def k125 : Kd S125 := Kd.iso (Kd.pair Kd.string (Kd.pair Kd.string (Kd.pair Kd.bool (Kd.pair (Kd.int .i64) (Kd.int .i64))))) (fun x : S125 => (x.f0, x.f1, x.f2, x.f3, x.f4))
structure S127 where
 f0 : ByteArray
 f1 : Int
 f2 : Int
 f3 : Int
 f4 : Int
 f5 : Bool
 f6 : Bool
def k127 : Kd S127 := Kd.iso (Kd.pair Kd.string (Kd.pair (Kd.int .i64) (Kd.pair (Kd.int .i64) (Kd.pair (Kd.int .i64) (Kd.pair (Kd.int .i64) (Kd.pair Kd.bool Kd.bool)))))) (fun x : S127 => (x.f0, x.f1, x.f2, x.f3, x.f4, x.f5, x.f6))
structure S48 where
 f0 : Int
 f1 : Int
def z48 : S48 := ⟨(0 : Int), (0 : Int)⟩
def k48 : Kd S48 := Kd.iso (Kd.pair (Kd.int .i64) (Kd.int .i64)) (fun x : S48 => (x.f0, x.f1))
theorem k48_open {w : World} {x : S48} {cs : List Value} (h : k48.K w x cs) : cs = [.int .i64 x.f0, .int .i64 x.f1] := by
 obtain ⟨_, _, rfl, rfl, rfl⟩ := h
 exact rfl
theorem k48_mkM (w : World) (base : Nat) (ok : Nat → Prop) (x : S48)  : k48.M w base ok x [.int .i64 x.f0, .int .i64 x.f1] := ⟨[.int .i64 x.f0], [.int .i64 x.f1], rfl, rfl, rfl⟩
def rd_T48 (xs : List S48) (i : Int) : S48 := xs.getD i.toNat z48
theorem at_T48 {w : World} {A : Option Addr} {n : Nat} {xs : List S48} (h : Kd.C k48 w A n xs) (i : Int) (h0 : 0 ≤ i) (h1 : i < n) : ∃ ad , A = some ad ∧ w.cell? (ad.add (i.toNat * 2)) = some (.int .i64 (rd_T48 xs i).f0) ∧ w.cell? ⟨(ad.add (i.toNat * 2)).block, (ad.add (i.toNat * 2)).off + 1, none⟩ = some (.int .i64 (rd_T48 xs i).f1) := by
 obtain ⟨ad, c, e, _, hK, hc0⟩ := Kd.C_get h z48 i h0 h1
 have hc : ∀ j u, c[j]? = some u → w.cell? (ad.add (i.toNat * 2 + j)) = some u := hc0
 obtain rfl := k48_open hK
 exact ⟨ad, e, hc 0 _ rfl, by rw [← add_field _ _ 1 (by omega)]; exact hc 1 _ rfl⟩
structure S36 where
 f0 : ByteArray
 f1 : Int
 f2 : Int
 f3 : Int
 f4 : (List S117)
 f5 : (List S74)
 f6 : (List S119)
 f7 : (List S121)
 f8 : (List S123)
 f9 : (List S125)
def z36 : S36 := ⟨(⟨#[]⟩ : ByteArray), (0 : Int), (0 : Int), (0 : Int), ([] : List S117), ([] : List S74), ([] : List S119), ([] : List S121), ([] : List S123), ([] : List S125)⟩
def k36 : Kd S36 := Kd.iso (Kd.pair Kd.string (Kd.pair (Kd.int .i64) (Kd.pair (Kd.int .i64) (Kd.pair (Kd.int .i64) (Kd.pair (Kd.slice 117 k117) (Kd.pair (Kd.slice 74 k74) (Kd.pair (Kd.slice 119 k119) (Kd.pair (Kd.slice 121 k121) (Kd.pair (Kd.slice 123 k123) (Kd.slice 125 k125)))))))))) (fun x : S36 => (x.f0, x.f1, x.f2, x.f3, x.f4, x.f5, x.f6, x.f7, x.f8, x.f9))
theorem k36_open {w : World} {x : S36} {cs : List Value} (h : k36.K w x cs) : ∃ A4 c4 A5 c5 A6 c6 A7 c7 A8 c8 A9 c9, cs = [.string x.f0, .int .i64 x.f1, .int .i64 x.f2, .int .i64 x.f3, .slice A4 x.f4.length c4, .slice A5 x.f5.length c5, .slice A6 x.f6.length c6, .slice A7 x.f7.length c7, .slice A8 x.f8.length c8, .slice A9 x.f9.length c9] ∧ x.f4.length ≤ c4 ∧ k117.C w A4 x.f4.length x.f4 ∧ x.f5.length ≤ c5 ∧ k74.C w A5 x.f5.length x.f5 ∧ x.f6.length ≤ c6 ∧ k119.C w A6 x.f6.length x.f6 ∧ x.f7.length ≤ c7 ∧ k121.C w A7 x.f7.length x.f7 ∧ x.f8.length ≤ c8 ∧ k123.C w A8 x.f8.length x.f8 ∧ x.f9.length ≤ c9 ∧ k125.C w A9 x.f9.length x.f9 := by
 obtain ⟨_, _, rfl, rfl, ⟨_, _, rfl, rfl, ⟨_, _, rfl, rfl, ⟨_, _, rfl, rfl, ⟨_, _, rfl, ⟨A4, c4, rfl, l4, g4⟩, ⟨_, _, rfl, ⟨A5, c5, rfl, l5, g5⟩, ⟨_, _, rfl, ⟨A6, c6, rfl, l6, g6⟩, ⟨_, _, rfl, ⟨A7, c7, rfl, l7, g7⟩, ⟨_, _, rfl, ⟨A8, c8, rfl, l8, g8⟩, ⟨A9, c9, rfl, l9, g9⟩⟩⟩⟩⟩⟩⟩⟩⟩⟩ := h
 exact ⟨A4, c4, A5, c5, A6, c6, A7, c7, A8, c8, A9, c9, rfl, l4, g4, l5, g5, l6, g6, l7, g7, l8, g8, l9, g9⟩
theorem k36_mk (w : World) (x : S36) {A4 : Option Addr} {c4 : Nat} (l4 : x.f4.length ≤ c4) (g4 : k117.C w A4 x.f4.length x.f4) {A5 : Option Addr} {c5 : Nat} (l5 : x.f5.length ≤ c5) (g5 : k74.C w A5 x.f5.length x.f5) {A6 : Option Addr} {c6 : Nat} (l6 : x.f6.length ≤ c6) (g6 : k119.C w A6 x.f6.length x.f6) {A7 : Option Addr} {c7 : Nat} (l7 : x.f7.length ≤ c7) (g7 : k121.C w A7 x.f7.length x.f7) {A8 : Option Addr} {c8 : Nat} (l8 : x.f8.length ≤ c8) (g8 : k123.C w A8 x.f8.length x.f8) {A9 : Option Addr} {c9 : Nat} (l9 : x.f9.length ≤ c9) (g9 : k125.C w A9 x.f9.length x.f9) : k36.K w x [.string x.f0, .int .i64 x.f1, .int .i64 x.f2, .int .i64 x.f3, .slice A4 x.f4.length c4, .slice A5 x.f5.length c5, .slice A6 x.f6.length c6, .slice A7 x.f7.length c7, .slice A8 x.f8.length c8, .slice A9 x.f9.length c9] := ⟨[.string x.f0], [.int .i64 x.f1, .int .i64 x.f2, .int .i64 x.f3, .slice A4 x.f4.length c4, .slice A5 x.f5.length c5, .slice A6 x.f6.length c6, .slice A7 x.f7.length c7, .slice A8 x.f8.length c8, .slice A9 x.f9.length c9], rfl, rfl, ⟨[.int .i64 x.f1], [.int .i64 x.f2, .int .i64 x.f3, .slice A4 x.f4.length c4, .slice A5 x.f5.length c5, .slice A6 x.f6.length c6, .slice A7 x.f7.length c7, .slice A8 x.f8.length c8, .slice A9 x.f9.length c9], rfl, rfl, ⟨[.int .i64 x.f2], [.int .i64 x.f3, .slice A4 x.f4.length c4, .slice A5 x.f5.length c5, .slice A6 x.f6.length c6, .slice A7 x.f7.length c7, .slice A8 x.f8.length c8, .slice A9 x.f9.length c9], rfl, rfl, ⟨[.int .i64 x.f3], [.slice A4 x.f4.length c4, .slice A5 x.f5.length c5, .slice A6 x.f6.length c6, .slice A7 x.f7.length c7, .slice A8 x.f8.length c8, .slice A9 x.f9.length c9], rfl, rfl, ⟨[.slice A4 x.f4.length c4], [.slice A5 x.f5.length c5, .slice A6 x.f6.length c6, .slice A7 x.f7.length c7, .slice A8 x.f8.length c8, .slice A9 x.f9.length c9], rfl, ⟨A4, c4, rfl, l4, g4⟩, ⟨[.slice A5 x.f5.length c5], [.slice A6 x.f6.length c6, .slice A7 x.f7.length c7, .slice A8 x.f8.length c8, .slice A9 x.f9.length c9], rfl, ⟨A5, c5, rfl, l5, g5⟩, ⟨[.slice A6 x.f6.length c6], [.slice A7 x.f7.length c7, .slice A8 x.f8.length c8, .slice A9 x.f9.length c9], rfl, ⟨A6, c6, rfl, l6, g6⟩, ⟨[.slice A7 x.f7.length c7], [.slice A8 x.f8.length c8, .slice A9 x.f9.length c9], rfl, ⟨A7, c7, rfl, l7, g7⟩, ⟨[.slice A8 x.f8.length c8], [.slice A9 x.f9.length c9], rfl, ⟨A8, c8, rfl, l8, g8⟩, ⟨A9, c9, rfl, l9, g9⟩⟩⟩⟩⟩⟩⟩⟩⟩⟩
structure S39 where
 f0 : Int
 f1 : Bool
 f2 : Int
 f3 : Int
 f4 : Int
 f5 : (List S127)
 f6 : Int
 f7 : ByteArray
 f8 : ByteArray
def z39 : S39 := ⟨(0 : Int), false, (0 : Int), (0 : Int), (0 : Int), ([] : List S127), (0 : Int), (⟨#[]⟩ : ByteArray), (⟨#[]⟩ : ByteArray)⟩
def k39 : Kd S39 := Kd.iso (Kd.pair (Kd.int .i64) (Kd.pair Kd.bool (Kd.pair (Kd.int .i64) (Kd.pair (Kd.int .i64) (Kd.pair (Kd.int .i64) (Kd.pair (Kd.slice 127 k127) (Kd.pair (Kd.int .i64) (Kd.pair Kd.string Kd.string)))))))) (fun x : S39 => (x.f0, x.f1, x.f2, x.f3, x.f4, x.f5, x.f6, x.f7, x.f8))
theorem k39_open {w : World} {x : S39} {cs : List Value} (h : k39.K w x cs) : ∃ A5 c5, cs = [.int .i64 x.f0, .bool x.f1, .int .i64 x.f2, .int .i64 x.f3, .int .i64 x.f4, .slice A5 x.f5.length c5, .int .i64 x.f6, .string x.f7, .string x.f8] ∧ x.f5.length ≤ c5 ∧ k127.C w A5 x.f5.length x.f5 := by
 obtain ⟨_, _, rfl, rfl, ⟨_, _, rfl, rfl, ⟨_, _, rfl, rfl, ⟨_, _, rfl, rfl, ⟨_, _, rfl, rfl, ⟨_, _, rfl, ⟨A5, c5, rfl, l5, g5⟩, ⟨_, _, rfl, rfl, ⟨_, _, rfl, rfl, rfl⟩⟩⟩⟩⟩⟩⟩⟩ := h
 exact ⟨A5, c5, rfl, l5, g5⟩
theorem k39_mk (w : World) (x : S39) {A5 : Option Addr} {c5 : Nat} (l5 : x.f5.length ≤ c5) (g5 : k127.C w A5 x.f5.length x.f5) : k39.K w x [.int .i64 x.f0, .bool x.f1, .int .i64 x.f2, .int .i64 x.f3, .int .i64 x.f4, .slice A5 x.f5.length c5, .int .i64 x.f6, .string x.f7, .string x.f8] := ⟨[.int .i64 x.f0], [.bool x.f1, .int .i64 x.f2, .int .i64 x.f3, .int .i64 x.f4, .slice A5 x.f5.length c5, .int .i64 x.f6, .string x.f7, .string x.f8], rfl, rfl, ⟨[.bool x.f1], [.int .i64 x.f2, .int .i64 x.f3, .int .i64 x.f4, .slice A5 x.f5.length c5, .int .i64 x.f6, .string x.f7, .string x.f8], rfl, rfl, ⟨[.int .i64 x.f2], [.int .i64 x.f3, .int .i64 x.f4, .slice A5 x.f5.length c5, .int .i64 x.f6, .string x.f7, .string x.f8], rfl, rfl, ⟨[.int .i64 x.f3], [.int .i64 x.f4, .slice A5 x.f5.length c5, .int .i64 x.f6, .string x.f7, .string x.f8], rfl, rfl, ⟨[.int .i64 x.f4], [.slice A5 x.f5.length c5, .int .i64 x.f6, .string x.f7, .string x.f8], rfl, rfl, ⟨[.slice A5 x.f5.length c5], [.int .i64 x.f6, .string x.f7, .string x.f8], rfl, ⟨A5, c5, rfl, l5, g5⟩, ⟨[.int .i64 x.f6], [.string x.f7, .string x.f8], rfl, rfl, ⟨[.string x.f7], [.string x.f8], rfl, rfl, rfl⟩⟩⟩⟩⟩⟩⟩⟩
structure S41 where
 f0 : S28
 f1 : S36
 f2 : S39
def z41 : S41 := ⟨z28, z36, z39⟩
def k41 : Kd S41 := Kd.iso (Kd.pair k28 (Kd.pair k36 k39)) (fun x : S41 => (x.f0, x.f1, x.f2))
theorem k41_open {w : World} {x : S41} {cs : List Value} (h : k41.K w x cs) : ∃ A9 c9 A10 c10 A11 c11 A12 c12 A17 c17 A18 c18 A19 c19 A20 c20 A21 c21 A22 c22 A28 c28, cs = [.string x.f0.f0, .string x.f0.f1, .string x.f0.f2, .int .i64 x.f0.f3, .int .i64 x.f0.f4, .int .i64 x.f0.f5, .int .i64 x.f0.f6, .bool x.f0.f7, .int .i64 x.f0.f8, .slice A9 x.f0.f9.length c9, .slice A10 x.f0.f10.length c10, .slice A11 x.f0.f11.length c11, .slice A12 x.f0.f12.length c12, .string x.f1.f0, .int .i64 x.f1.f1, .int .i64 x.f1.f2, .int .i64 x.f1.f3, .slice A17 x.f1.f4.length c17, .slice A18 x.f1.f5.length c18, .slice A19 x.f1.f6.length c19, .slice A20 x.f1.f7.length c20, .slice A21 x.f1.f8.length c21, .slice A22 x.f1.f9.length c22, .int .i64 x.f2.f0, .bool x.f2.f1, .int .i64 x.f2.f2, .int .i64 x.f2.f3, .int .i64 x.f2.f4, .slice A28 x.f2.f5.length c28, .int .i64 x.f2.f6, .string x.f2.f7, .string x.f2.f8] ∧ x.f0.f9.length ≤ c9 ∧ k72.C w A9 x.f0.f9.length x.f0.f9 ∧ x.f0.f10.length ≤ c10 ∧ k110.C w A10 x.f0.f10.length x.f0.f10 ∧ x.f0.f11.length ≤ c11 ∧ Kd.string.C w A11 x.f0.f11.length x.f0.f11 ∧ x.f0.f12.length ≤ c12 ∧ k112.C w A12 x.f0.f12.length x.f0.f12 ∧ x.f1.f4.length ≤ c17 ∧ k117.C w A17 x.f1.f4.length x.f1.f4 ∧ x.f1.f5.length ≤ c18 ∧ k74.C w A18 x.f1.f5.length x.f1.f5 ∧ x.f1.f6.length ≤ c19 ∧ k119.C w A19 x.f1.f6.length x.f1.f6 ∧ x.f1.f7.length ≤ c20 ∧ k121.C w A20 x.f1.f7.length x.f1.f7 ∧ x.f1.f8.length ≤ c21 ∧ k123.C w A21 x.f1.f8.length x.f1.f8 ∧ x.f1.f9.length ≤ c22 ∧ k125.C w A22 x.f1.f9.length x.f1.f9 ∧ x.f2.f5.length ≤ c28 ∧ k127.C w A28 x.f2.f5.length x.f2.f5 := by
 obtain ⟨_, _, rfl, s0, ⟨_, _, rfl, s13, s23⟩⟩ := h
 obtain ⟨A9, c9, A10, c10, A11, c11, A12, c12, rfl, l9, g9, l10, g10, l11, g11, l12, g12⟩ := k28_open s0
 obtain ⟨A17, c17, A18, c18, A19, c19, A20, c20, A21, c21, A22, c22, rfl, l17, g17, l18, g18, l19, g19, l20, g20, l21, g21, l22, g22⟩ := k36_open s13
 obtain ⟨A28, c28, rfl, l28, g28⟩ := k39_open s23
 exact ⟨A9, c9, A10, c10, A11, c11, A12, c12, A17, c17, A18, c18, A19, c19, A20, c20, A21, c21, A22, c22, A28, c28, rfl, l9, g9, l10, g10, l11, g11, l12, g12, l17, g17, l18, g18, l19, g19, l20, g20, l21, g21, l22, g22, l28, g28⟩
theorem k41_mk (w : World) (x : S41) {A9 : Option Addr} {c9 : Nat} (l9 : x.f0.f9.length ≤ c9) (g9 : k72.C w A9 x.f0.f9.length x.f0.f9) {A10 : Option Addr} {c10 : Nat} (l10 : x.f0.f10.length ≤ c10) (g10 : k110.C w A10 x.f0.f10.length x.f0.f10) {A11 : Option Addr} {c11 : Nat} (l11 : x.f0.f11.length ≤ c11) (g11 : Kd.string.C w A11 x.f0.f11.length x.f0.f11) {A12 : Option Addr} {c12 : Nat} (l12 : x.f0.f12.length ≤ c12) (g12 : k112.C w A12 x.f0.f12.length x.f0.f12) {A17 : Option Addr} {c17 : Nat} (l17 : x.f1.f4.length ≤ c17) (g17 : k117.C w A17 x.f1.f4.length x.f1.f4) {A18 : Option Addr} {c18 : Nat} (l18 : x.f1.f5.length ≤ c18) (g18 : k74.C w A18 x.f1.f5.length x.f1.f5) {A19 : Option Addr} {c19 : Nat} (l19 : x.f1.f6.length ≤ c19) (g19 : k119.C w A19 x.f1.f6.length x.f1.f6) {A20 : Option Addr} {c20 : Nat} (l20 : x.f1.f7.length ≤ c20) (g20 : k121.C w A20 x.f1.f7.length x.f1.f7) {A21 : Option Addr} {c21 : Nat} (l21 : x.f1.f8.length ≤ c21) (g21 : k123.C w A21 x.f1.f8.length x.f1.f8) {A22 : Option Addr} {c22 : Nat} (l22 : x.f1.f9.length ≤ c22) (g22 : k125.C w A22 x.f1.f9.length x.f1.f9) {A28 : Option Addr} {c28 : Nat} (l28 : x.f2.f5.length ≤ c28) (g28 : k127.C w A28 x.f2.f5.length x.f2.f5) : k41.K w x [.string x.f0.f0, .string x.f0.f1, .string x.f0.f2, .int .i64 x.f0.f3, .int .i64 x.f0.f4, .int .i64 x.f0.f5, .int .i64 x.f0.f6, .bool x.f0.f7, .int .i64 x.f0.f8, .slice A9 x.f0.f9.length c9, .slice A10 x.f0.f10.length c10, .slice A11 x.f0.f11.length c11, .slice A12 x.f0.f12.length c12, .string x.f1.f0, .int .i64 x.f1.f1, .int .i64 x.f1.f2, .int .i64 x.f1.f3, .slice A17 x.f1.f4.length c17, .slice A18 x.f1.f5.length c18, .slice A19 x.f1.f6.length c19, .slice A20 x.f1.f7.length c20, .slice A21 x.f1.f8.length c21, .slice A22 x.f1.f9.length c22, .int .i64 x.f2.f0, .bool x.f2.f1, .int .i64 x.f2.f2, .int .i64 x.f2.f3, .int .i64 x.f2.f4, .slice A28 x.f2.f5.length c28, .int .i64 x.f2.f6, .string x.f2.f7, .string x.f2.f8] := ⟨[.string x.f0.f0, .string x.f0.f1, .string x.f0.f2, .int .i64 x.f0.f3, .int .i64 x.f0.f4, .int .i64 x.f0.f5, .int .i64 x.f0.f6, .bool x.f0.f7, .int .i64 x.f0.f8, .slice A9 x.f0.f9.length c9, .slice A10 x.f0.f10.length c10, .slice A11 x.f0.f11.length c11, .slice A12 x.f0.f12.length c12], [.string x.f1.f0, .int .i64 x.f1.f1, .int .i64 x.f1.f2, .int .i64 x.f1.f3, .slice A17 x.f1.f4.length c17, .slice A18 x.f1.f5.length c18, .slice A19 x.f1.f6.length c19, .slice A20 x.f1.f7.length c20, .slice A21 x.f1.f8.length c21, .slice A22 x.f1.f9.length c22, .int .i64 x.f2.f0, .bool x.f2.f1, .int .i64 x.f2.f2, .int .i64 x.f2.f3, .int .i64 x.f2.f4, .slice A28 x.f2.f5.length c28, .int .i64 x.f2.f6, .string x.f2.f7, .string x.f2.f8], rfl, (k28_mk w x.f0 l9 g9 l10 g10 l11 g11 l12 g12), ⟨[.string x.f1.f0, .int .i64 x.f1.f1, .int .i64 x.f1.f2, .int .i64 x.f1.f3, .slice A17 x.f1.f4.length c17, .slice A18 x.f1.f5.length c18, .slice A19 x.f1.f6.length c19, .slice A20 x.f1.f7.length c20, .slice A21 x.f1.f8.length c21, .slice A22 x.f1.f9.length c22], [.int .i64 x.f2.f0, .bool x.f2.f1, .int .i64 x.f2.f2, .int .i64 x.f2.f3, .int .i64 x.f2.f4, .slice A28 x.f2.f5.length c28, .int .i64 x.f2.f6, .string x.f2.f7, .string x.f2.f8], rfl, (k36_mk w x.f1 l17 g17 l18 g18 l19 g19 l20 g20 l21 g21 l22 g22), (k39_mk w x.f2 l28 g28)⟩⟩
theorem k41_mkF (W : World) (ok : Nat → Prop) (x : S41) {A9 : Option Addr} {c9 : Nat} (l9 : x.f0.f9.length ≤ c9) (g9 : Kd.F k72 W ok A9 x.f0.f9.length x.f0.f9) {A10 : Option Addr} {c10 : Nat} (l10 : x.f0.f10.length ≤ c10) (g10 : Kd.F k110 W ok A10 x.f0.f10.length x.f0.f10) {A11 : Option Addr} {c11 : Nat} (l11 : x.f0.f11.length ≤ c11) (g11 : Kd.F Kd.string W ok A11 x.f0.f11.length x.f0.f11) {A12 : Option Addr} {c12 : Nat} (l12 : x.f0.f12.length ≤ c12) (g12 : Kd.F k112 W ok A12 x.f0.f12.length x.f0.f12) {A17 : Option Addr} {c17 : Nat} (l17 : x.f1.f4.length ≤ c17) (g17 : Kd.F k117 W ok A17 x.f1.f4.length x.f1.f4) {A18 : Option Addr} {c18 : Nat} (l18 : x.f1.f5.length ≤ c18) (g18 : Kd.F k74 W ok A18 x.f1.f5.length x.f1.f5) {A19 : Option Addr} {c19 : Nat} (l19 : x.f1.f6.length ≤ c19) (g19 : Kd.F k119 W ok A19 x.f1.f6.length x.f1.f6) {A20 : Option Addr} {c20 : Nat} (l20 : x.f1.f7.length ≤ c20) (g20 : Kd.F k121 W ok A20 x.f1.f7.length x.f1.f7) {A21 : Option Addr} {c21 : Nat} (l21 : x.f1.f8.length ≤ c21) (g21 : Kd.F k123 W ok A21 x.f1.f8.length x.f1.f8) {A22 : Option Addr} {c22 : Nat} (l22 : x.f1.f9.length ≤ c22) (g22 : Kd.F k125 W ok A22 x.f1.f9.length x.f1.f9) {A28 : Option Addr} {c28 : Nat} (l28 : x.f2.f5.length ≤ c28) (g28 : Kd.F k127 W ok A28 x.f2.f5.length x.f2.f5) : Kd.FK k41 W ok x [.string x.f0.f0, .string x.f0.f1, .string x.f0.f2, .int .i64 x.f0.f3, .int .i64 x.f0.f4, .int .i64 x.f0.f5, .int .i64 x.f0.f6, .bool x.f0.f7, .int .i64 x.f0.f8, .slice A9 x.f0.f9.length c9, .slice A10 x.f0.f10.length c10, .slice A11 x.f0.f11.length c11, .slice A12 x.f0.f12.length c12, .string x.f1.f0, .int .i64 x.f1.f1, .int .i64 x.f1.f2, .int .i64 x.f1.f3, .slice A17 x.f1.f4.length c17, .slice A18 x.f1.f5.length c18, .slice A19 x.f1.f6.length c19, .slice A20 x.f1.f7.length c20, .slice A21 x.f1.f8.length c21, .slice A22 x.f1.f9.length c22, .int .i64 x.f2.f0, .bool x.f2.f1, .int .i64 x.f2.f2, .int .i64 x.f2.f3, .int .i64 x.f2.f4, .slice A28 x.f2.f5.length c28, .int .i64 x.f2.f6, .string x.f2.f7, .string x.f2.f8] := fun W2 hW => k41_mk W2 x l9 (g9 W2 hW) l10 (g10 W2 hW) l11 (g11 W2 hW) l12 (g12 W2 hW) l17 (g17 W2 hW) l18 (g18 W2 hW) l19 (g19 W2 hW) l20 (g20 W2 hW) l21 (g21 W2 hW) l22 (g22 W2 hW) l28 (g28 W2 hW)
def rd_T41 (xs : List S41) (i : Int) : S41 := xs.getD i.toNat z41
theorem at_T41 {w : World} {A : Option Addr} {n : Nat} {xs : List S41} (h : Kd.C k41 w A n xs) (i : Int) (h0 : 0 ≤ i) (h1 : i < n) : ∃ ad A9 c9 A10 c10 A11 c11 A12 c12 A17 c17 A18 c18 A19 c19 A20 c20 A21 c21 A22 c22 A28 c28, A = some ad ∧ w.cell? (ad.add (i.toNat * 32)) = some (.string (rd_T41 xs i).f0.f0) ∧ w.cell? ⟨(ad.add (i.toNat * 32)).block, (ad.add (i.toNat * 32)).off + 1, none⟩ = some (.string (rd_T41 xs i).f0.f1) ∧ w.cell? ⟨(ad.add (i.toNat * 32)).block, (ad.add (i.toNat * 32)).off + 2, none⟩ = some (.string (rd_T41 xs i).f0.f2) ∧ w.cell? ⟨(ad.add (i.toNat * 32)).block, (ad.add (i.toNat * 32)).off + 3, none⟩ = some (.int .i64 (rd_T41 xs i).f0.f3) ∧ w.cell? ⟨(ad.add (i.toNat * 32)).block, (ad.add (i.toNat * 32)).off + 4, none⟩ = some (.int .i64 (rd_T41 xs i).f0.f4) ∧ w.cell? ⟨(ad.add (i.toNat * 32)).block, (ad.add (i.toNat * 32)).off + 5, none⟩ = some (.int .i64 (rd_T41 xs i).f0.f5) ∧ w.cell? ⟨(ad.add (i.toNat * 32)).block, (ad.add (i.toNat * 32)).off + 6, none⟩ = some (.int .i64 (rd_T41 xs i).f0.f6) ∧ w.cell? ⟨(ad.add (i.toNat * 32)).block, (ad.add (i.toNat * 32)).off + 7, none⟩ = some (.bool (rd_T41 xs i).f0.f7) ∧ w.cell? ⟨(ad.add (i.toNat * 32)).block, (ad.add (i.toNat * 32)).off + 8, none⟩ = some (.int .i64 (rd_T41 xs i).f0.f8) ∧ w.cell? ⟨(ad.add (i.toNat * 32)).block, (ad.add (i.toNat * 32)).off + 9, none⟩ = some (.slice A9 (rd_T41 xs i).f0.f9.length c9) ∧ w.cell? ⟨(ad.add (i.toNat * 32)).block, (ad.add (i.toNat * 32)).off + 10, none⟩ = some (.slice A10 (rd_T41 xs i).f0.f10.length c10) ∧ w.cell? ⟨(ad.add (i.toNat * 32)).block, (ad.add (i.toNat * 32)).off + 11, none⟩ = some (.slice A11 (rd_T41 xs i).f0.f11.length c11) ∧ w.cell? ⟨(ad.add (i.toNat * 32)).block, (ad.add (i.toNat * 32)).off + 12, none⟩ = some (.slice A12 (rd_T41 xs i).f0.f12.length c12) ∧ w.cell? ⟨(ad.add (i.toNat * 32)).block, (ad.add (i.toNat * 32)).off + 13, none⟩ = some (.string (rd_T41 xs i).f1.f0) ∧ w.cell? ⟨(ad.add (i.toNat * 32)).block, (ad.add (i.toNat * 32)).off + 14, none⟩ = some (.int .i64 (rd_T41 xs i).f1.f1) ∧ w.cell? ⟨(ad.add (i.toNat * 32)).block, (ad.add (i.toNat * 32)).off + 15, none⟩ = some (.int .i64 (rd_T41 xs i).f1.f2) ∧ w.cell? ⟨(ad.add (i.toNat * 32)).block, (ad.add (i.toNat * 32)).off + 16, none⟩ = some (.int .i64 (rd_T41 xs i).f1.f3) ∧ w.cell? ⟨(ad.add (i.toNat * 32)).block, (ad.add (i.toNat * 32)).off + 17, none⟩ = some (.slice A17 (rd_T41 xs i).f1.f4.length c17) ∧ w.cell? ⟨(ad.add (i.toNat * 32)).block, (ad.add (i.toNat * 32)).off + 18, none⟩ = some (.slice A18 (rd_T41 xs i).f1.f5.length c18) ∧ w.cell? ⟨(ad.add (i.toNat * 32)).block, (ad.add (i.toNat * 32)).off + 19, none⟩ = some (.slice A19 (rd_T41 xs i).f1.f6.length c19) ∧ w.cell? ⟨(ad.add (i.toNat * 32)).block, (ad.add (i.toNat * 32)).off + 20, none⟩ = some (.slice A20 (rd_T41 xs i).f1.f7.length c20) ∧ w.cell? ⟨(ad.add (i.toNat * 32)).block, (ad.add (i.toNat * 32)).off + 21, none⟩ = some (.slice A21 (rd_T41 xs i).f1.f8.length c21) ∧ w.cell? ⟨(ad.add (i.toNat * 32)).block, (ad.add (i.toNat * 32)).off + 22, none⟩ = some (.slice A22 (rd_T41 xs i).f1.f9.length c22) ∧ w.cell? ⟨(ad.add (i.toNat * 32)).block, (ad.add (i.toNat * 32)).off + 23, none⟩ = some (.int .i64 (rd_T41 xs i).f2.f0) ∧ w.cell? ⟨(ad.add (i.toNat * 32)).block, (ad.add (i.toNat * 32)).off + 24, none⟩ = some (.bool (rd_T41 xs i).f2.f1) ∧ w.cell? ⟨(ad.add (i.toNat * 32)).block, (ad.add (i.toNat * 32)).off + 25, none⟩ = some (.int .i64 (rd_T41 xs i).f2.f2) ∧ w.cell? ⟨(ad.add (i.toNat * 32)).block, (ad.add (i.toNat * 32)).off + 26, none⟩ = some (.int .i64 (rd_T41 xs i).f2.f3) ∧ w.cell? ⟨(ad.add (i.toNat * 32)).block, (ad.add (i.toNat * 32)).off + 27, none⟩ = some (.int .i64 (rd_T41 xs i).f2.f4) ∧ w.cell? ⟨(ad.add (i.toNat * 32)).block, (ad.add (i.toNat * 32)).off + 28, none⟩ = some (.slice A28 (rd_T41 xs i).f2.f5.length c28) ∧ w.cell? ⟨(ad.add (i.toNat * 32)).block, (ad.add (i.toNat * 32)).off + 29, none⟩ = some (.int .i64 (rd_T41 xs i).f2.f6) ∧ w.cell? ⟨(ad.add (i.toNat * 32)).block, (ad.add (i.toNat * 32)).off + 30, none⟩ = some (.string (rd_T41 xs i).f2.f7) ∧ w.cell? ⟨(ad.add (i.toNat * 32)).block, (ad.add (i.toNat * 32)).off + 31, none⟩ = some (.string (rd_T41 xs i).f2.f8) ∧ (rd_T41 xs i).f0.f9.length ≤ c9 ∧ k72.C w A9 (rd_T41 xs i).f0.f9.length (rd_T41 xs i).f0.f9 ∧ (rd_T41 xs i).f0.f10.length ≤ c10 ∧ k110.C w A10 (rd_T41 xs i).f0.f10.length (rd_T41 xs i).f0.f10 ∧ (rd_T41 xs i).f0.f11.length ≤ c11 ∧ Kd.string.C w A11 (rd_T41 xs i).f0.f11.length (rd_T41 xs i).f0.f11 ∧ (rd_T41 xs i).f0.f12.length ≤ c12 ∧ k112.C w A12 (rd_T41 xs i).f0.f12.length (rd_T41 xs i).f0.f12 ∧ (rd_T41 xs i).f1.f4.length ≤ c17 ∧ k117.C w A17 (rd_T41 xs i).f1.f4.length (rd_T41 xs i).f1.f4 ∧ (rd_T41 xs i).f1.f5.length ≤ c18 ∧ k74.C w A18 (rd_T41 xs i).f1.f5.length (rd_T41 xs i).f1.f5 ∧ (rd_T41 xs i).f1.f6.length ≤ c19 ∧ k119.C w A19 (rd_T41 xs i).f1.f6.length (rd_T41 xs i).f1.f6 ∧ (rd_T41 xs i).f1.f7.length ≤ c20 ∧ k121.C w A20 (rd_T41 xs i).f1.f7.length (rd_T41 xs i).f1.f7 ∧ (rd_T41 xs i).f1.f8.length ≤ c21 ∧ k123.C w A21 (rd_T41 xs i).f1.f8.length (rd_T41 xs i).f1.f8 ∧ (rd_T41 xs i).f1.f9.length ≤ c22 ∧ k125.C w A22 (rd_T41 xs i).f1.f9.length (rd_T41 xs i).f1.f9 ∧ (rd_T41 xs i).f2.f5.length ≤ c28 ∧ k127.C w A28 (rd_T41 xs i).f2.f5.length (rd_T41 xs i).f2.f5 := by
 obtain ⟨ad, c, e, _, hK, hc0⟩ := Kd.C_get h z41 i h0 h1
 have hc : ∀ j u, c[j]? = some u → w.cell? (ad.add (i.toNat * 32 + j)) = some u := hc0
 obtain ⟨A9, c9, A10, c10, A11, c11, A12, c12, A17, c17, A18, c18, A19, c19, A20, c20, A21, c21, A22, c22, A28, c28, rfl, l9, g9, l10, g10, l11, g11, l12, g12, l17, g17, l18, g18, l19, g19, l20, g20, l21, g21, l22, g22, l28, g28⟩ := k41_open hK
 exact ⟨ad, A9, c9, A10, c10, A11, c11, A12, c12, A17, c17, A18, c18, A19, c19, A20, c20, A21, c21, A22, c22, A28, c28, e, hc 0 _ rfl, by rw [← add_field _ _ 1 (by omega)]; exact hc 1 _ rfl, by rw [← add_field _ _ 2 (by omega)]; exact hc 2 _ rfl, by rw [← add_field _ _ 3 (by omega)]; exact hc 3 _ rfl, by rw [← add_field _ _ 4 (by omega)]; exact hc 4 _ rfl, by rw [← add_field _ _ 5 (by omega)]; exact hc 5 _ rfl, by rw [← add_field _ _ 6 (by omega)]; exact hc 6 _ rfl, by rw [← add_field _ _ 7 (by omega)]; exact hc 7 _ rfl, by rw [← add_field _ _ 8 (by omega)]; exact hc 8 _ rfl, by rw [← add_field _ _ 9 (by omega)]; exact hc 9 _ rfl, by rw [← add_field _ _ 10 (by omega)]; exact hc 10 _ rfl, by rw [← add_field _ _ 11 (by omega)]; exact hc 11 _ rfl, by rw [← add_field _ _ 12 (by omega)]; exact hc 12 _ rfl, by rw [← add_field _ _ 13 (by omega)]; exact hc 13 _ rfl, by rw [← add_field _ _ 14 (by omega)]; exact hc 14 _ rfl, by rw [← add_field _ _ 15 (by omega)]; exact hc 15 _ rfl, by rw [← add_field _ _ 16 (by omega)]; exact hc 16 _ rfl, by rw [← add_field _ _ 17 (by omega)]; exact hc 17 _ rfl, by rw [← add_field _ _ 18 (by omega)]; exact hc 18 _ rfl, by rw [← add_field _ _ 19 (by omega)]; exact hc 19 _ rfl, by rw [← add_field _ _ 20 (by omega)]; exact hc 20 _ rfl, by rw [← add_field _ _ 21 (by omega)]; exact hc 21 _ rfl, by rw [← add_field _ _ 22 (by omega)]; exact hc 22 _ rfl, by rw [← add_field _ _ 23 (by omega)]; exact hc 23 _ rfl, by rw [← add_field _ _ 24 (by omega)]; exact hc 24 _ rfl, by rw [← add_field _ _ 25 (by omega)]; exact hc 25 _ rfl, by rw [← add_field _ _ 26 (by omega)]; exact hc 26 _ rfl, by rw [← add_field _ _ 27 (by omega)]; exact hc 27 _ rfl, by rw [← add_field _ _ 28 (by omega)]; exact hc 28 _ rfl, by rw [← add_field _ _ 29 (by omega)]; exact hc 29 _ rfl, by rw [← add_field _ _ 30 (by omega)]; exact hc 30 _ rfl, by rw [← add_field _ _ 31 (by omega)]; exact hc 31 _ rfl, l9, g9, l10, g10, l11, g11, l12, g12, l17, g17, l18, g18, l19, g19, l20, g20, l21, g21, l22, g22, l28, g28⟩
theorem cells28 {W : World} {g : Nat} {v0 v1 v2 v3 v4 v5 v6 v7 v8 v9 v10 v11 v12 : Value} (h : W.heap[g]? = some (.cells #[v0, v1, v2, v3, v4, v5, v6, v7, v8, v9, v10, v11, v12] 28 (0, 0))) : W.cell? ⟨g, 0, none⟩ = some v0 ∧ W.cell? ⟨g, 1, none⟩ = some v1 ∧ W.cell? ⟨g, 2, none⟩ = some v2 ∧ W.cell? ⟨g, 3, none⟩ = some v3 ∧ W.cell? ⟨g, 4, none⟩ = some v4 ∧ W.cell? ⟨g, 5, none⟩ = some v5 ∧ W.cell? ⟨g, 6, none⟩ = some v6 ∧ W.cell? ⟨g, 7, none⟩ = some v7 ∧ W.cell? ⟨g, 8, none⟩ = some v8 ∧ W.cell? ⟨g, 9, none⟩ = some v9 ∧ W.cell? ⟨g, 10, none⟩ = some v10 ∧ W.cell? ⟨g, 11, none⟩ = some v11 ∧ W.cell? ⟨g, 12, none⟩ = some v12 := ⟨blk_cell h 0, blk_cell h 1, blk_cell h 2, blk_cell h 3, blk_cell h 4, blk_cell h 5, blk_cell h 6, blk_cell h 7, blk_cell h 8, blk_cell h 9, blk_cell h 10, blk_cell h 11, blk_cell h 12⟩
theorem cells41 {W : World} {g : Nat} {v0 v1 v2 v3 v4 v5 v6 v7 v8 v9 v10 v11 v12 v13 v14 v15 v16 v17 v18 v19 v20 v21 v22 v23 v24 v25 v26 v27 v28 v29 v30 v31 : Value} (h : W.heap[g]? = some (.cells #[v0, v1, v2, v3, v4, v5, v6, v7, v8, v9, v10, v11, v12, v13, v14, v15, v16, v17, v18, v19, v20, v21, v22, v23, v24, v25, v26, v27, v28, v29, v30, v31] 41 (0, 0))) : W.cell? ⟨g, 0, none⟩ = some v0 ∧ W.cell? ⟨g, 1, none⟩ = some v1 ∧ W.cell? ⟨g, 2, none⟩ = some v2 ∧ W.cell? ⟨g, 3, none⟩ = some v3 ∧ W.cell? ⟨g, 4, none⟩ = some v4 ∧ W.cell? ⟨g, 5, none⟩ = some v5 ∧ W.cell? ⟨g, 6, none⟩ = some v6 ∧ W.cell? ⟨g, 7, none⟩ = some v7 ∧ W.cell? ⟨g, 8, none⟩ = some v8 ∧ W.cell? ⟨g, 9, none⟩ = some v9 ∧ W.cell? ⟨g, 10, none⟩ = some v10 ∧ W.cell? ⟨g, 11, none⟩ = some v11 ∧ W.cell? ⟨g, 12, none⟩ = some v12 ∧ W.cell? ⟨g, 13, none⟩ = some v13 ∧ W.cell? ⟨g, 14, none⟩ = some v14 ∧ W.cell? ⟨g, 15, none⟩ = some v15 ∧ W.cell? ⟨g, 16, none⟩ = some v16 ∧ W.cell? ⟨g, 17, none⟩ = some v17 ∧ W.cell? ⟨g, 18, none⟩ = some v18 ∧ W.cell? ⟨g, 19, none⟩ = some v19 ∧ W.cell? ⟨g, 20, none⟩ = some v20 ∧ W.cell? ⟨g, 21, none⟩ = some v21 ∧ W.cell? ⟨g, 22, none⟩ = some v22 ∧ W.cell? ⟨g, 23, none⟩ = some v23 ∧ W.cell? ⟨g, 24, none⟩ = some v24 ∧ W.cell? ⟨g, 25, none⟩ = some v25 ∧ W.cell? ⟨g, 26, none⟩ = some v26 ∧ W.cell? ⟨g, 27, none⟩ = some v27 ∧ W.cell? ⟨g, 28, none⟩ = some v28 ∧ W.cell? ⟨g, 29, none⟩ = some v29 ∧ W.cell? ⟨g, 30, none⟩ = some v30 ∧ W.cell? ⟨g, 31, none⟩ = some v31 := ⟨blk_cell h 0, blk_cell h 1, blk_cell h 2, blk_cell h 3, blk_cell h 4, blk_cell h 5, blk_cell h 6, blk_cell h 7, blk_cell h 8, blk_cell h 9, blk_cell h 10, blk_cell h 11, blk_cell h 12, blk_cell h 13, blk_cell h 14, blk_cell h 15, blk_cell h 16, blk_cell h 17, blk_cell h 18, blk_cell h 19, blk_cell h 20, blk_cell h 21, blk_cell h 22, blk_cell h 23, blk_cell h 24, blk_cell h 25, blk_cell h 26, blk_cell h 27, blk_cell h 28, blk_cell h 29, blk_cell h 30, blk_cell h 31⟩
theorem cells54 {W : World} {g : Nat} {v0 v1 v2 v3 v4 v5 v6 v7 v8 v9 v10 v11 v12 v13 v14 v15 v16 : Value} (h : W.heap[g]? = some (.cells #[v0, v1, v2, v3, v4, v5, v6, v7, v8, v9, v10, v11, v12, v13, v14, v15, v16] 54 (0, 0))) : W.cell? ⟨g, 0, none⟩ = some v0 ∧ W.cell? ⟨g, 1, none⟩ = some v1 ∧ W.cell? ⟨g, 2, none⟩ = some v2 ∧ W.cell? ⟨g, 3, none⟩ = some v3 ∧ W.cell? ⟨g, 4, none⟩ = some v4 ∧ W.cell? ⟨g, 5, none⟩ = some v5 ∧ W.cell? ⟨g, 6, none⟩ = some v6 ∧ W.cell? ⟨g, 7, none⟩ = some v7 ∧ W.cell? ⟨g, 8, none⟩ = some v8 ∧ W.cell? ⟨g, 9, none⟩ = some v9 ∧ W.cell? ⟨g, 10, none⟩ = some v10 ∧ W.cell? ⟨g, 11, none⟩ = some v11 ∧ W.cell? ⟨g, 12, none⟩ = some v12 ∧ W.cell? ⟨g, 13, none⟩ = some v13 ∧ W.cell? ⟨g, 14, none⟩ = some v14 ∧ W.cell? ⟨g, 15, none⟩ = some v15 ∧ W.cell? ⟨g, 16, none⟩ = some v16 := ⟨blk_cell h 0, blk_cell h 1, blk_cell h 2, blk_cell h 3, blk_cell h 4, blk_cell h 5, blk_cell h 6, blk_cell h 7, blk_cell h 8, blk_cell h 9, blk_cell h 10, blk_cell h 11, blk_cell h 12, blk_cell h 13, blk_cell h 14, blk_cell h 15, blk_cell h 16⟩
theorem cells58 {W : World} {g : Nat} {v0 v1 v2 : Value} (h : W.heap[g]? = some (.cells #[v0, v1, v2] 58 (0, 0))) : W.cell? ⟨g, 0, none⟩ = some v0 ∧ W.cell? ⟨g, 1, none⟩ = some v1 ∧ W.cell? ⟨g, 2, none⟩ = some v2 := ⟨blk_cell h 0, blk_cell h 1, blk_cell h 2⟩
theorem cells64 {W : World} {g : Nat} {v0 v1 : Value} (h : W.heap[g]? = some (.cells #[v0, v1] 64 (0, 0))) : W.cell? ⟨g, 0, none⟩ = some v0 ∧ W.cell? ⟨g, 1, none⟩ = some v1 := ⟨blk_cell h 0, blk_cell h 1⟩
theorem cells72 {W : World} {g : Nat} {v0 v1 : Value} (h : W.heap[g]? = some (.cells #[v0, v1] 72 (0, 0))) : W.cell? ⟨g, 0, none⟩ = some v0 ∧ W.cell? ⟨g, 1, none⟩ = some v1 := ⟨blk_cell h 0, blk_cell h 1⟩
theorem cells74 {W : World} {g : Nat} {v0 v1 v2 : Value} (h : W.heap[g]? = some (.cells #[v0, v1, v2] 74 (0, 0))) : W.cell? ⟨g, 0, none⟩ = some v0 ∧ W.cell? ⟨g, 1, none⟩ = some v1 ∧ W.cell? ⟨g, 2, none⟩ = some v2 := ⟨blk_cell h 0, blk_cell h 1, blk_cell h 2⟩
theorem sz28 : (Try.prog.info? 28).map (·.size) = some 13 := by kernel_rfl
theorem sz41 : (Try.prog.info? 41).map (·.size) = some 32 := by kernel_rfl
theorem sz54 : (Try.prog.info? 54).map (·.size) = some 17 := by kernel_rfl
end Go.Proofs.Ytkdikhonafbgdaa.Q
