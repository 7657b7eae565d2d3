/- slices.Sorted of slices.Values of strings, as functions of the run. Conditions: stated at each. -/
import Derived.Test.YtilppppcafphbaaGreatVsq
import Derived.Test.YtilppppcafphbaaGreatSrt
import Derived.Sort.OwnSorted
import Derived.Shelf.SlLaysM
namespace Go.Proofs.YtilppppcafphbaaGreat.Ev
open Go Go.RowKit Go.Shelf
set_option linter.unusedVariables false
set_option linter.unusedSimpArgs false
/-- Where the library's functions lie in this program. -/
def lay_ssort_ren : Shelf.Ren := ⟨fun n => bif Nat.beq n 6 then 66 else bif Nat.beq n 8 then 104 else bif Nat.beq n 9 then 103 else bif Nat.beq n 19 then 132 else bif Nat.beq n 20 then 133 else bif Nat.beq n 21 then 123 else bif Nat.beq n 22 then 124 else bif Nat.beq n 23 then 125 else bif Nat.beq n 24 then 126 else bif Nat.beq n 25 then 127 else bif Nat.beq n 26 then 128 else bif Nat.beq n 27 then 129 else bif Nat.beq n 28 then 130 else bif Nat.beq n 29 then 131 else bif Nat.beq n 36 then 150 else bif Nat.beq n 31 then 151 else bif Nat.beq n 32 then 152 else bif Nat.beq n 37 then 153 else bif Nat.beq n 38 then 154 else bif Nat.beq n 39 then 155 else bif Nat.beq n 41 then 169 else n, fun n => bif Nat.beq n 27 then 29 else bif Nat.beq n 29 then 9 else bif Nat.beq n 3 then 3 else bif Nat.beq n 32 then 162 else bif Nat.beq n 26 then 29 else bif Nat.beq n 0 then 0 else bif Nat.beq n 44 then 187 else bif Nat.beq n 46 then 189 else bif Nat.beq n 4 then 4 else bif Nat.beq n 36 then 179 else bif Nat.beq n 35 then 178 else bif Nat.beq n 41 then 184 else bif Nat.beq n 5 then 5 else bif Nat.beq n 9 then 9 else bif Nat.beq n 53 then 207 else bif Nat.beq n 57 then 211 else bif Nat.beq n 63 then 224 else bif Nat.beq n 64 then 73 else n, fun n => n⟩
theorem lay_ssort : SlLaysM.n6 Tryz.prog lay_ssort_ren where
  mixed := by kernel_rfl
  f6 := ⟨ "slices.Sort[[]string,string]", by kernel_rfl, Tryz.func66.trans (congrArg some (by kernel_rfl))⟩
  f8 := by kernel_rfl
  f9 := ⟨ "slices.pdqsortOrdered[string]", by kernel_rfl, Tryz.func103.trans (congrArg some (by kernel_rfl))⟩
  f19 := by kernel_rfl
  f20 := by kernel_rfl
  f21 := ⟨ "slices.insertionSortOrdered[string]", by kernel_rfl, Tryz.func123.trans (congrArg some (by kernel_rfl))⟩
  f22 := ⟨ "slices.heapSortOrdered[string]", by kernel_rfl, Tryz.func124.trans (congrArg some (by kernel_rfl))⟩
  f23 := ⟨ "slices.breakPatternsOrdered[string]", by kernel_rfl, Tryz.func125.trans (congrArg some (by kernel_rfl))⟩
  f24 := ⟨ "slices.choosePivotOrdered[string]", by kernel_rfl, Tryz.func126.trans (congrArg some (by kernel_rfl))⟩
  f25 := ⟨ "slices.reverseRangeOrdered[string]", by kernel_rfl, Tryz.func127.trans (congrArg some (by kernel_rfl))⟩
  f26 := ⟨ "slices.partialInsertionSortOrdered[string]", by kernel_rfl, Tryz.func128.trans (congrArg some (by kernel_rfl))⟩
  f27 := ⟨ "cmp.Less[string]", by kernel_rfl, Tryz.func129.trans (congrArg some (by kernel_rfl))⟩
  f28 := ⟨ "slices.partitionEqualOrdered[string]", by kernel_rfl, Tryz.func130.trans (congrArg some (by kernel_rfl))⟩
  f29 := ⟨ "slices.partitionOrdered[string]", by kernel_rfl, Tryz.func131.trans (congrArg some (by kernel_rfl))⟩
  f31 := by kernel_rfl
  f32 := by kernel_rfl
  f36 := ⟨ "slices.siftDownOrdered[string]", by kernel_rfl, Tryz.func150.trans (congrArg some (by kernel_rfl))⟩
  f37 := ⟨ "slices.medianAdjacentOrdered[string]", by kernel_rfl, Tryz.func153.trans (congrArg some (by kernel_rfl))⟩
  f38 := ⟨ "slices.medianOrdered[string]", by kernel_rfl, Tryz.func154.trans (congrArg some (by kernel_rfl))⟩
  f39 := ⟨ "cmp.isNaN[string]", by kernel_rfl, Tryz.func155.trans (congrArg some (by kernel_rfl))⟩
  f41 := ⟨ "slices.order2Ordered[string]", by kernel_rfl, Tryz.func169.trans (congrArg some (by kernel_rfl))⟩
  t0 := by kernel_rfl
  a0 := fun w => by kernel_rfl
  z0 := fun w => by kernel_rfl
  v0 := fun w => by kernel_rfl
  t3 := by kernel_rfl
  a3 := fun w => by kernel_rfl
  z3 := fun w => by kernel_rfl
  v3 := fun w => by kernel_rfl
  t4 := by kernel_rfl
  a4 := fun w => by kernel_rfl
  z4 := fun w => by kernel_rfl
  v4 := fun w => by kernel_rfl
  t5 := by kernel_rfl
  a5 := fun w => by kernel_rfl
  z5 := fun w => by kernel_rfl
  v5 := fun w => by kernel_rfl
  t9 := by kernel_rfl
  a9 := fun w => by kernel_rfl
  z9 := fun w => by kernel_rfl
  v9 := fun w => by kernel_rfl
  t26 := by kernel_rfl
  a26 := fun w => by kernel_rfl
  z26 := fun w => by kernel_rfl
  v26 := fun w => by kernel_rfl
  t27 := by kernel_rfl
  a27 := fun w => by kernel_rfl
  z27 := fun w => by kernel_rfl
  v27 := fun w => by kernel_rfl
  t29 := by kernel_rfl
  a29 := fun w => by kernel_rfl
  z29 := fun w => by kernel_rfl
  v29 := fun w => by kernel_rfl
  t32 := by kernel_rfl
  a32 := fun w => by kernel_rfl
  z32 := fun w => by kernel_rfl
  v32 := fun w => by kernel_rfl
  t35 := by kernel_rfl
  a35 := fun w => by kernel_rfl
  z35 := fun w => by kernel_rfl
  v35 := fun w => by kernel_rfl
  t36 := by kernel_rfl
  a36 := fun w => by kernel_rfl
  z36 := fun w => by kernel_rfl
  v36 := fun w => by kernel_rfl
  t41 := by kernel_rfl
  a41 := fun w => by kernel_rfl
  z41 := fun w => by kernel_rfl
  v41 := fun w => by kernel_rfl
  t44 := by kernel_rfl
  a44 := fun w => by kernel_rfl
  z44 := fun w => by kernel_rfl
  v44 := fun w => by kernel_rfl
  t46 := by kernel_rfl
  a46 := fun w => by kernel_rfl
  z46 := fun w => by kernel_rfl
  v46 := fun w => by kernel_rfl
  t53 := by kernel_rfl
  a53 := fun w => by kernel_rfl
  z53 := fun w => by kernel_rfl
  v53 := fun w => by kernel_rfl
  t57 := by kernel_rfl
  a57 := fun w => by kernel_rfl
  z57 := fun w => by kernel_rfl
  v57 := fun w => by kernel_rfl
  t63 := by kernel_rfl
  a63 := fun w => by kernel_rfl
  z63 := fun w => by kernel_rfl
  v63 := fun w => by kernel_rfl
  t64 := by kernel_rfl
  a64 := fun w => by kernel_rfl
  z64 := fun w => by kernel_rfl
  v64 := fun w => by kernel_rfl

def sUn (s : ByteArray) : List UInt8 := s.data.toList
theorem encStr_un (s : ByteArray) : encStr (sUn s) = Value.string s := by
  show Value.string ⟨s.data.toList.toArray⟩ = _
  simp
def vqSorted (zs : List ByteArray) : List (List UInt8) := (zs.map sUn).mergeSort (fun x y => decide (x ≤ y))
set_option maxHeartbeats 1000000 in
theorem vq_sorted (A : Addr) (sv : Value) (zs : List ByteArray) (hlen : zs.length ≤ maxLen) (hbytes : zs.length * 16 ≤ 140737488355328) (w : World) (hA : A.block < w.heap.size) (hcA : w.cell? A = some sv) (hI : VqHas w.heap.size w sv zs) :
    Calls Tryz.prog 35 #[.func (.func 67) #[] #[.pointer (some A)]] w fun e W' => ∃ v, e = .returned v ∧ W'.ownsRow w.heap.size 9 1 v zs.length ((vqSorted zs).map encStr) ∧ RowKit.Below w.heap.size w W' := by
  refine (callsIn_wide (n := 6)).1 ?_
  have hsort1 : ∀ (blk off cap : Nat) (ss : List (List UInt8)) (W : World), Sort.Holds encStr W blk off ss.toArray → blk < W.heap.size → ss.length < 4611686018427387904 →
      CallsIn Fence.wide 5 Tryz.prog 66 #[.slice (some ⟨blk, off, none⟩) ss.length cap] W fun e w' => e = .returned (.tuple #[]) ∧ ∃ n os, w' = Sort.grow (Sort.putRow encStr (Sort.ahead W n) blk off (ss.mergeSort fun x y => decide (x ≤ y)).toArray) os :=
    fun blk off cap ss W hH hblk hsz => callsIn_wide.2 (AnyM.slices_Sort_string lay_ssort blk off cap ss W hH hblk hsz)
  have hsort0 : ∀ (p : Option Addr) (cap : Nat) (W : World), CallsIn Fence.wide 5 Tryz.prog 66 #[.slice p 0 cap] W fun e w' => e = .returned (.tuple #[]) ∧ w' = W :=
    fun p cap W => callsIn_wide.2 (AnyM.slices_Sort_string_none lay_ssort p cap W)
  have h1 : 1 ≤ 6 := by omega
  have hfC : Fence.wide.fn 65 := trivial
  have hfS : Fence.wide.fn 66 := trivial
  refine callsIn_of_wp Tryz.func35 rfl trivial ?_ rfl
  simp only [Tryz.ntmps35, List.size_toArray, List.length_cons, List.length_nil, Nat.reduceAdd, Nat.reduceSub, Array.replicate_succ, Array.replicate_zero, List.push_toArray, List.append_toArray, List.nil_append, List.cons_append]
  gi_wp2_with (gi_at_call 65; refine (vq_collect Fence.wide 5 trivial trivial trivial rfl (by omega) A sv zs hlen hbytes _ hA hcA hI).mono ?_; rintro e W ⟨v, rfl, hrow, hnil, hb⟩)
  have hme : zs.map Value.string = (zs.map sUn).map encStr := by
    rw [List.map_map]; exact (List.map_congr_left (fun s _ => encStr_un s)).symm
  rw [hme] at hrow
  have hl : (vqSorted zs).length = zs.length := by unfold vqSorted; simp
  rcases hrow.2 with ⟨rfl, hz⟩ | ⟨gb, cap, cur, rfl, hbase, hgb, r1, r2, r3, r4⟩
  · have hss : zs = [] := List.eq_nil_of_length_eq_zero hz
    subst hss
    gi_wp2_with (gi_at_call 66; refine (hsort0 none 0 W).mono ?_; rintro e w' ⟨rfl, rfl⟩)
    go_ret
    exact ⟨.slice none 0 0, rfl, by simpa [vqSorted] using hrow, hb⟩
  · have hH : Sort.Holds encStr W gb 0 (zs.map sUn).toArray := holds_of_block hgb (by simpa using r4)
    have hgl : gb < W.heap.size := (Array.getElem?_eq_some_iff.1 hgb).1
    have hl2 : (zs.map sUn).length = zs.length := by simp
    have cS := hsort1 gb 0 cap (zs.map sUn) W hH hgl (by rw [hl2]; omega)
    rw [hl2] at cS
    gi_wp2_with (gi_at_call 66; refine cS.mono ?_; rintro e w' ⟨rfl, nn, os, rfl⟩)
    go_ret
    refine ⟨_, rfl, ?_, hb.grown (grownBy_sorted _) hb.size (fun j hj => by cases hj; exact hbase)⟩
    have := ownsRow_sorted (w := W) (base := w.heap.size) (g := gb) (cap := cap) (n := nn) (e := 9) (os := os) (cur := cur) (ss := zs.map sUn) (ts := vqSorted zs) (by rw [hl, hl2]) hbase hgb (by rw [hl2]; exact r1) r2 r3
    rw [hl2] at this
    exact this
end Go.Proofs.YtilppppcafphbaaGreat.Ev
