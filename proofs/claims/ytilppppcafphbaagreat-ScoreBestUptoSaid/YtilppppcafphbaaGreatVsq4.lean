/- slices.Compact of strings in the run's table. Conditions: stated at each. -/
import Derived.Test.YtilppppcafphbaaGreatVsq3
import Derived.Shelf.SlicesG.CompactS
namespace Go.Proofs.YtilppppcafphbaaGreat.Ev
open Go Go.RowKit Go.Shelf
set_option linter.unusedVariables false
set_option linter.unusedSimpArgs false
/-- Where the library's functions lie in this program. -/
def lay_comp_ren : Shelf.Ren := ⟨fun n => bif Nat.beq n 44 then 34 else n, fun n => bif Nat.beq n 25 then 29 else bif Nat.beq n 26 then 9 else bif Nat.beq n 3 then 3 else bif Nat.beq n 4 then 4 else bif Nat.beq n 0 then 0 else n, fun n => n⟩
theorem lay_comp : SlLaysN.n44 Tryz.prog lay_comp_ren where
  mixed := by kernel_rfl
  f44 := ⟨ "slices.Compact[[]string,string]", by kernel_rfl, Tryz.func34.trans (congrArg some (by kernel_rfl))⟩
  t0 := by kernel_rfl
  a0 := fun w => by kernel_rfl
  z0 := fun w => by kernel_rfl
  v0 := fun w => by kernel_rfl
  t3 := by kernel_rfl
  a3 := fun w => by kernel_rfl
  z3 := fun w => by kernel_rfl
  v3 := fun w => by kernel_rfl
  t4 := by kernel_rfl
  a4 := fun w => by kernel_rfl
  z4 := fun w => by kernel_rfl
  v4 := fun w => by kernel_rfl
  t25 := by kernel_rfl
  a25 := fun w => by kernel_rfl
  z25 := fun w => by kernel_rfl
  v25 := fun w => by kernel_rfl
  t26 := by kernel_rfl
  a26 := fun w => by kernel_rfl
  z26 := fun w => by kernel_rfl
  v26 := fun w => by kernel_rfl
  i26 := by kernel_rfl

def sRow (l : List UInt8) : Row := [V.str ⟨l.toArray⟩]
theorem sRow_un (s : ByteArray) : sRow (sUn s) = [.str s] := by
  show [V.str ⟨s.data.toList.toArray⟩] = _
  simp
/-- The rows without repetitions behind one another. -/
def uqA (s : ByteArray) : Rows → Rows
  | [] => []
  | q :: l => bif sEq (rStr q 0) s then uqA s l else q :: uqA (rStr q 0) l
def uqC : Rows → Rows
  | [] => []
  | q :: l => q :: uqA (rStr q 0) l
def uqL (s : List UInt8) : List (List UInt8) → List (List UInt8)
  | [] => []
  | q :: l => bif q == s then uqL s l else q :: uqL q l
theorem compact_snoc (pre : List (List UInt8)) (x : List UInt8) (y : List UInt8) : Lib.compact (pre ++ [x] ++ [y]) = Lib.compact (pre ++ [x]) ++ (if y = x then [] else [y]) := by
  unfold Lib.compact
  have e1 : (pre ++ [x] ++ [y]).length = (pre ++ [x]).length + 1 := by simp
  rw [e1, Lib.compactUpTo_succ]
  have hg : ∀ (l m : List (List UInt8)) (j : Nat), j < l.length → (l ++ m).toArray[j]! = l.toArray[j]! := by
    intro l m j hj
    simp [getElem!_def, List.getElem?_append, hj]
  have e2 : Lib.compactUpTo (pre ++ [x] ++ [y]).toArray (pre ++ [x]).length = Lib.compactUpTo (pre ++ [x]).toArray (pre ++ [x]).length := by
    unfold Lib.compactUpTo
    have h1 : (List.range (pre ++ [x]).length).filter (Lib.keeps (pre ++ [x] ++ [y]).toArray) = (List.range (pre ++ [x]).length).filter (Lib.keeps (pre ++ [x]).toArray) := by
      refine List.filter_congr (fun j hj => ?_)
      have hj := List.mem_range.1 hj
      unfold Lib.keeps
      rw [hg (pre ++ [x]) [y] j hj, hg (pre ++ [x]) [y] (j - 1) (by omega)]
    rw [h1]
    refine List.map_congr_left (fun j hj => ?_)
    exact hg _ _ _ (List.mem_range.1 (List.mem_filter.1 hj).1)
  rw [e2]
  congr 1
  have hl : (pre ++ [x]).length = pre.length + 1 := by simp
  have h3 : (pre ++ [x] ++ [y]).toArray[(pre ++ [x]).length]! = y := by
    simp [getElem!_def]
  have h4 : (pre ++ [x] ++ [y]).toArray[(pre ++ [x]).length - 1]! = x := by
    rw [hl]; simp [getElem!_def]
  unfold Lib.keeps
  rw [h3, h4]
  by_cases h : y = x
  · simp [h]
  · simp [h]
theorem compact_more : ∀ (l pre : List (List UInt8)) (x : List UInt8), Lib.compact (pre ++ [x] ++ l) = Lib.compact (pre ++ [x]) ++ uqL x l
  | [], pre, x => by simp [uqL]
  | y :: l, pre, x => by
    have e : pre ++ [x] ++ y :: l = (pre ++ [x]) ++ [y] ++ l := by simp
    rw [e, compact_more l (pre ++ [x]) y, compact_snoc]
    by_cases h : y = x
    · subst h
      simp [uqL]
    · have : (y == x) = false := by simpa using h
      simp [uqL, h, this]
theorem compact_cons (x : List UInt8) (l : List (List UInt8)) : Lib.compact (x :: l) = x :: uqL x l := by
  have := compact_more l [] x
  simp only [List.nil_append] at this
  rw [show x :: l = [x] ++ l from rfl, this]
  rfl
theorem uqA_L : ∀ (es : Rows) (s : ByteArray), (∀ r, r ∈ es → r = [.str (rStr r 0)]) → (uqL (sUn s) (es.map fun r => sUn (rStr r 0))).map sRow = uqA s es
  | [], s, _ => rfl
  | q :: l, s, h => by
    have hq := h q (List.mem_cons_self ..)
    have hl := fun r hr => h r (List.mem_cons_of_mem _ hr)
    rw [List.map_cons]
    unfold uqL uqA
    have he : (sUn (rStr q 0) == sUn s) = sEq (rStr q 0) s := by
      unfold sEq sUn
      rw [ByteArray.toList_eq, ByteArray.toList_eq]
    rw [he]
    cases sEq (rStr q 0) s with
    | true => exact uqA_L l s hl
    | false =>
      show sRow (sUn (rStr q 0)) :: List.map sRow _ = q :: _
      rw [sRow_un, uqA_L l (rStr q 0) hl, ← hq]
theorem uqC_compact (es : Rows) (h : ∀ r, r ∈ es → r = [.str (rStr r 0)]) : (Lib.compact (es.map fun r => sUn (rStr r 0))).map sRow = uqC es := by
  cases es with
  | nil => rfl
  | cons q l =>
    rw [List.map_cons, compact_cons, List.map_cons, sRow_un]
    unfold uqC
    rw [uqA_L l _ (fun r hr => h r (List.mem_cons_of_mem _ hr)), ← h q (List.mem_cons_self ..)]
def uqZ (es : Rows) : Rows := uqC es ++ List.replicate (es.length - (uqC es).length) [.str ⟨#[]⟩]
theorem uqA_len : ∀ (es : Rows) (s : ByteArray), (uqA s es).length ≤ es.length
  | [], _ => Nat.le_refl _
  | q :: l, s => by
    unfold uqA
    cases sEq (rStr q 0) s with
    | true => exact Nat.le_trans (uqA_len l s) (by simp)
    | false => exact Nat.succ_le_succ (uqA_len l _)
theorem uqC_len (es : Rows) : (uqC es).length ≤ es.length := by
  cases es with
  | nil => exact Nat.le_refl _
  | cons q l => exact Nat.succ_le_succ (uqA_len l _)
theorem uqZ_len (es : Rows) : (uqZ es).length = es.length := by
  unfold uqZ
  have := uqC_len es
  rw [List.length_append, List.length_replicate]; omega
theorem uqZ_rows (es : Rows) (h : ∀ r, r ∈ es → r = [.str (rStr r 0)]) : (Lib.compact (es.map fun r => sUn (rStr r 0)) ++ List.replicate ((es.map fun r => sUn (rStr r 0)).length - (Lib.compact (es.map fun r => sUn (rStr r 0))).length) []).map sRow = uqZ es := by
  have h1 := uqC_compact es h
  have h2 := congrArg List.length h1
  rw [List.length_map] at h2
  rw [List.map_append, h1, List.map_replicate, h2, List.length_map]
  rfl
theorem frz_row {w : World} {b off : Nat} {arr : Array Value} {t : TypeId} (h : w.heap[b]? = some (.cells arr t (0, 0))) : w.frozen? ⟨b, off, none⟩ = false := by
  unfold World.frozen?
  rw [h]; simp
theorem compact_okM : FunOkM Tryz.prog 34 (mkFunM 9 true [] (fun es_ _ => (.test (rOk 16 0 (rLen es_)) (.ret (uqZ es_, rLen (uqC es_))) .fail : T (Rows × Int)))) := by
  refine ⟨⟨_, Tryz.func34, by kernel_rfl, by kernel_rfl⟩, fun w Fz Mm l es hes hI args v0 xs ys r hsz hn hrep0 hrep hr => ?_⟩
  have hn : normAs Tryz.prog [] xs = some ys := hn
  have hys : ys = [] := by
    cases xs with
    | nil => simp [normAs] at hn; first | exact hn | exact hn.symm
    | cons a b => simp [normAs] at hn
  subst hys
  have hargs : args = [] := List.eq_nil_of_length_eq_zero (by simpa using hsz)
  subst hargs
  have hr2 : ((T.test (rOk 16 0 (rLen es)) (.ret (uqZ es, rLen (uqC es))) .fail : T (Rows × Int)).eval.bind fun r => (T.ret r : T (Rows × Int)).eval) = some r := hr
  rw [Option.bind_eq_some_iff] at hr2
  obtain ⟨q0, q01, q02⟩ := hr2
  obtain ⟨q03, q04⟩ := T.test_eval q01
  simp [T.eval] at q02 q04
  subst q02; subst q04
  have hok : es.length * 16 ≤ 140737488355328 := by
    have := of_decide_eq_true q03
    unfold rLen at this
    omega
  have hrep0 := hrep0 rfl
  have hg : ([some (Blk.arr 9 0 es)] : List (Option Blk)).getD 0 none = some (.arr 9 0 es) := rfl
  have hI : Inv Tryz.prog w ⟨Fz, Mm⟩ ⟨w, Fz, fun _ => l, [some (.arr 9 0 es)]⟩ := hI
  have hrep0 : Rep Tryz.prog (⟨w, Fz, fun _ => l, [some (.arr 9 0 es)]⟩ : En) v0 (.aref 9 0 0 none (rLen es)) := hrep0
  obtain ⟨a0, c0, hv, g0, g1, g2, v'', es', q1, q2, q3⟩ := rep_aref_inv hrep0
  injection q1 with q1; injection q1 with q1 q4 q5; subst q4; subst q5
  obtain ⟨a, cap, sz, k1, k2, k3, k4, k5, k6⟩ := q3 rfl
  rw [vq_size] at k2; injection k2 with k2; subst k2
  obtain ⟨a', cap', sz', m1, m2, m3, m4, m5, m6⟩ := hI.arr 0 _ _ es hg
  have k1 : l = .arr a es.length cap 1 := k1
  have m1 : l = .arr a' es.length cap' sz' := m1
  rw [k1] at m1; injection m1 with n1 n2 n3 n4; subst n1; subst n3; subst n4
  obtain ⟨e1, e2⟩ := k5 rfl
  subst e1; subst e2
  have hl : (rLen es).toNat = es.length := by simp [rLen]
  rw [hl] at hv
  have hform : ∀ r, r ∈ es → r = [.str (rStr r 0)] := fun r hr => by
    obtain ⟨i, hi⟩ := List.mem_iff_getElem?.1 hr
    have := (m5 i r hi).2
    rw [vq_eta] at this
    exact this.symm
  show Calls Tryz.prog _ #[v0] w _
  rcases Nat.eq_zero_or_pos es.length with h0 | h0
  · have hes : es = [] := List.eq_nil_of_length_eq_zero h0
    subst hes
    rw [hv]
    have hcall : Calls Tryz.prog 34 #[.slice a0 0 c0] w fun e w' => e = .returned (.slice a0 0 c0) ∧ w' = w := AnyG.slices_Compact_string_empty lay_comp a0 c0 w
    refine hcall.mono ?_
    rintro e w' ⟨rfl, rfl⟩
    exact ⟨_, Fz, l, 0, rfl, hI, hv ▸ hrep0⟩
  · have hcap : 0 < c0 := by omega
    obtain ⟨b, arr, ty, p1, p2, p3, p4, p5, p6⟩ := m6 hcap
    subst p1
    have hcell : ∀ i, i < es.length → arr.getD i undef = .string (rStr (es.getD i []) 0) := by
      intro i hi
      have hr : es[i]? = some es[i] := List.getElem?_eq_getElem hi
      have hrow := hform _ (List.mem_of_getElem? hr)
      have hx : (es[i])[0]? = some (.str (rStr es[i] 0)) := by
        have := congrArg (fun q : Row => q[0]?) hrow
        simpa using this
      have := rep_str_inv (p6 i es[i] 0 _ hr hx)
      rw [List.getD_eq_getElem?_getD, hr]
      simpa using this
    have hsz' : ((es.map fun r => sUn (rStr r 0)).toArray).size = es.length := by simp
    have hsize : es.length ≤ arr.size := by omega
    have hH : Sort.Holds encStr w b 0 (es.map fun r => sUn (rStr r 0)).toArray := by
      intro j hj
      rw [hsz'] at hj
      refine ⟨?_, frz_row p3⟩
      rw [Nat.zero_add, cell_of_row _ _ _ arr ty (0, 0) p3]
      have h1 := hcell j hj
      have hlt : j < arr.size := by omega
      rw [Array.getD_eq_getD_getElem?, Array.getElem?_eq_getElem hlt] at h1
      have h1 : arr[j] = .string (rStr (es.getD j []) 0) := h1
      rw [Array.getElem?_eq_getElem hlt, h1]
      have h2 : (es.map fun r => sUn (rStr r 0)).toArray[j]! = sUn (rStr (es.getD j []) 0) := by
        simp [getElem!_def, List.getElem?_eq_getElem hj, List.getD_eq_getElem?_getD]
      show some _ = some (encStr _)
      rw [h2, encStr_un]
    have hcall : Calls Tryz.prog 34 #[.slice (some ⟨b, 0, none⟩) (es.map fun r => sUn (rStr r 0)).length c0] w _ := AnyG.slices_Compact_string lay_comp b 0 c0 (es.map fun r => sUn (rStr r 0)) w hH (by
      rw [List.length_map]; omega) (by rw [List.length_map]; exact m4)
    rw [List.length_map] at hcall
    rw [hv]
    refine hcall.mono ?_
    rintro e w' ⟨rfl, q, hw⟩
    have hZ := uqZ_rows es hform
    rw [List.length_map] at hZ
    have hC := congrArg List.length (uqC_compact es hform)
    rw [List.length_map] at hC
    generalize hd : (Lib.compact (es.map fun r => sUn (rStr r 0)) ++ List.replicate (es.length - (Lib.compact (es.map fun r => sUn (rStr r 0))).length) []) = d at hw hZ
    have hdl : d.length = es.length := by
      have := congrArg List.length hZ
      rw [List.length_map, uqZ_len] at this
      exact this
    let arr' : Array Value := Sort.putCells encStr 0 d.toArray arr
    have hs' : arr'.size = arr.size := by simp [arr', Sort.putCells]
    have hget' : ∀ (i : Nat) (x : List UInt8), d[i]? = some x → arr'.getD i undef = encStr x := by
      intro i x hi
      have hil : i < d.length := (List.getElem?_eq_some_iff.1 hi).1
      have hlt : i < arr.size := by omega
      have hdx : d[i] = x := (List.getElem?_eq_some_iff.1 hi).2
      simp [arr', Sort.putCells, Array.getD_eq_getD_getElem?, Array.getElem?_eq_getElem hlt, hil, hdx]
    have hrow' : ∀ (i : Nat) (r : Row), (uqZ es)[i]? = some r → ∃ x, d[i]? = some x ∧ r = sRow x := by
      intro i r hi
      rw [← hZ, List.getElem?_map, Option.map_eq_some_iff] at hi
      obtain ⟨x, hx, rfl⟩ := hi
      exact ⟨x, hx, rfl⟩
    have turn := hI.arrTurn (v' := 0) (es' := uqZ es) (arr' := arr') hg k1 hcap p3 (Or.inr ⟨rfl, uqZ_len es⟩) (by rw [uqZ_len]; exact m4)
      (fun i r hi => by
        obtain ⟨x, _, rfl⟩ := hrow' i r hi
        exact ⟨rfl, vq_eta _⟩) hs'
      (fun i r j x hi hj => by
        obtain ⟨y, hy, rfl⟩ := hrow' i r hi
        match j, hj with
        | 0, hj =>
          injection hj with hj; subst hj
          rw [Nat.mul_one, Nat.add_zero, hget' i y hy]; exact .str _)
    obtain ⟨t1, t2⟩ := turn
    have hbelow : RowKit.Below (w.setRow b arr').heap.size (w.setRow b arr') w' := by
      rw [hw]
      unfold Sort.putRow
      refine ⟨rfl, rfl, rfl, ?_, fun k hk => ?_⟩
      · rw [setRow_size]; simp [Sort.mapBlock, Sort.ahead]
      · rw [setRow_size] at hk
        show (w.heap.modify b (Sort.onCells (Sort.putCells encStr 0 d.toArray)))[k]? = _
        rw [Array.getElem?_modify]
        by_cases hkb : b = k
        · subst hkb
          rw [if_pos rfl, p3, setRow_heap _ _ _ _ _ _ p3]
          rfl
        · rw [if_neg hkb, setRow_other _ _ _ _ (Ne.symm hkb)]
    obtain ⟨u1, u2⟩ := t1.grow (F' := Fz) hbelow (fun _ _ h => h) (fun _ _ h => Or.inl h) (fun b o h => Nat.lt_of_lt_of_le (t1.Flt b o h) hbelow.size)
    have hgd : ([some (Blk.arr 9 0 (uqZ es))] : List (Option Blk)).getD 0 none = some (.arr 9 0 (uqZ es)) := rfl
    have hcl : (uqC es).length ≤ es.length := uqC_len es
    have hlz : (rLen (uqC es)).toNat = (Lib.compact (es.map fun r => sUn (rStr r 0))).length := by rw [hC]; simp [rLen]
    refine ⟨_, Fz, .arr (some ⟨b, 0, none⟩) (uqZ es).length c0 1, 0, rfl, ?_, ?_⟩
    · have := (u1.only (n := 0) hgd).1
      exact this
    · have hA : Rep Tryz.prog (⟨w', Fz, fun _ => .arr (some ⟨b, 0, none⟩) (uqZ es).length c0 1, [some (.arr 9 0 (uqZ es))]⟩ : En) (.slice (some ⟨b, 0, none⟩) (rLen (uqC es)).toNat c0) (.aref 9 0 0 none (rLen (uqC es))) := by
        refine .aref _ c0 9 0 0 none (rLen (uqC es)) (rl0 _) (by rw [hlz, hC]; omega) (fun _ => ⟨_, rfl⟩) ⟨0, uqZ es, rfl, Nat.le_refl _, fun _ => ⟨some ⟨b, 0, none⟩, c0, 1, rfl, vq_size, Int.le_refl _, ?_, fun _ => ⟨rfl, rfl⟩, fun _ => ⟨b, rfl, rfl⟩⟩⟩
        show 0 + rLen (uqC es) ≤ ((uqZ es).length : Int)
        rw [uqZ_len]; unfold rLen; omega
      rw [hlz] at hA
      exact hA
end Go.Proofs.YtilppppcafphbaaGreat.Ev
