/- The function's call, whole. Conditions: stated at each. -/
import Derived.Test.YtilppppcafphbaaGreatSndT
import Derived.Test.YtilppppcafphbaaGreatSrt
import Derived.Sort.Walk0
namespace Go.Proofs.YtilppppcafphbaaGreat.Ev
open Go Go.RowKit
set_option linter.unusedVariables false
set_option linter.unusedSimpArgs false
variable {P : Program}
theorem cmp_lt (x y : ByteArray × Int) : (decide (Lib.compareBytes x.1.data.toList y.1.data.toList < 0)) = sLt x.1 y.1 := by
  rw [sCmp_eq]
  unfold sCmp sLt
  cases Op.bytesLess x.1.toList y.1.toList with
  | true => rfl
  | false => cases x.1.toList == y.1.toList <;> rfl
theorem swo_sLt : Sort.SWO (fun x y : ByteArray × Int => sLt x.1 y.1) where
  irrefl x := by unfold sLt; exact bytesLess_irrefl _
  trans x y z h1 h2 := by
    rw [sLt_lt] at h1 h2 ⊢
    simp only [decide_eq_true_eq] at h1 h2 ⊢
    exact List.lt_trans h1 h2
  ntrans x y z h1 h2 := sLt_trans' h2 h1
/-- How a call ends, of what its run ends with. -/
theorem end_ok {C : Cx} {fn : Func} {w : World} {Fz : Nat → Nat → Prop} {E1 : En} {a' : Act} {x : X} {s' : St} {r : V} (k1 : Inv C.P w ⟨Fz, fun _ => False⟩ E1) (k2 : FS C.P E1 a' s'.ts) (k3 : E1.hs = s'.hs) (h : (endT C fn (x, s')).eval = some r) :
    bodyPost C.P fn (fun e w' => ∃ v F', e = .returned v ∧ Below w.heap.size w w' ∧ (∀ b o, Fz b o → F' b o) ∧ (∀ b o, F' b o → Fz b o ∨ w.heap.size ≤ b) ∧ (∀ b o, F' b o → b < w'.heap.size) ∧ Rep C.P (E0 w' F') v r) x.e a' E1.w := by
  obtain ⟨E', hw, k1, k2, k3⟩ := frzL_sound (id := endId) (l := C.fz) k1 k2 k3
  rw [← hw]
  have main : (ofOpt (((resV C.P (frzL C.P endId C.fz s') fn.results.toList).bind (normAs C.P (fn.resultTypes.toList.map .t))).map oneV)).eval = some r → a'.defers = [] ∧ ∃ v, (results fn a'.tmps).run C.P E'.w = .ok v E'.w ∧
      ∃ v_1 F', Ending.returned v = .returned v_1 ∧ Below w.heap.size w E'.w ∧ (∀ b o, Fz b o → F' b o) ∧ (∀ b o, F' b o → Fz b o ∨ w.heap.size ≤ b) ∧ (∀ b o, F' b o → b < E'.w.heap.size) ∧ Rep C.P (E0 E'.w F') v_1 r := by
    intro h
    refine ⟨k2.defers, ?_⟩
    cases hq : (resV C.P (frzL C.P endId C.fz s') fn.results.toList).bind (normAs C.P (fn.resultTypes.toList.map .t)) with
    | none => rw [hq] at h; cases h
    | some ys =>
      rw [hq] at h
      have hr' : oneV ys = r := by
        have : (some (oneV ys) : Option V) = some r := h
        injection this
      rw [Option.bind_eq_some_iff] at hq
      obtain ⟨xs', hx, hy⟩ := hq
      obtain ⟨vs, r1, r2, r3⟩ := resV_run k1 k2 k3 hx
      obtain ⟨n1, n2⟩ := rep_normAs (E := E') (vs := fun i => vs.toArray.getD i undef) hy (fun i x hi => by
        obtain ⟨v, hv, hrep'⟩ := r3 i x hi
        have : vs.toArray.getD i undef = v := by simp [Array.getD_eq_getD_getElem?, hv]
        show Rep C.P E' (vs.toArray.getD i undef) x
        rw [this]; exact hrep')
      refine ⟨_, results_run r1, _, E'.F, rfl, k1.below.to (fun _ h => h), k1.keep, fun b o h => (k1.Fnew b o h).imp id (fun h => h.elim id False.elim), k1.Flt, ?_⟩
      rw [← hr']
      have hlen : vs.length = ys.length := by rw [r2, n1]
      by_cases h1 : vs.toArray.size = 1
      · rw [dif_pos h1]
        match ys, vs, hlen, h1, n2 with
        | [y], [v], _, _, n2 => exact n2 0 y rfl
        | [], [v], hlen, _, _ => simp at hlen
        | [], [], _, h1, _ => simp at h1
        | _ :: _ :: _, [v], hlen, _, _ => simp at hlen
        | _, _ :: _ :: _, _, h1, _ => simp at h1
      · rw [dif_neg h1]
        have : oneV ys = .tuple ys := by
          match ys, vs, hlen, h1 with
          | [y], [v], _, h1 => simp at h1
          | [], _, _, _ => rfl
          | _ :: _ :: _, _, _, _ => rfl
        rw [this]
        exact .tuple _ _ (by simpa using hlen) n2
  cases x with
  | normal => exact main h
  | ret => exact main h
  | exit id => cases h
theorem stA_len (tm : Nat) (r : Rows) (it : Option (List Nat)) (x : V) (b : Option Blk) : (stA tm r it x b).ts.length = 118 ∧ (stA tm r it x b).hs.length = 118 := by simp [stA]
theorem stA_ts {tm : Nat} {r : Rows} {seen : List Nat} {x : V} {b : Option Blk} : getV (stA tm r (some seen) x b).ts 9 = .mref 23 ∧ getV (stA tm r (some seen) x b).ts 18 = x ∧ getV (stA tm r (some seen) x b).ts 103 = .it 103 23 := ⟨rfl, rfl, rfl⟩
theorem stA_hs {tm : Nat} {r : Rows} {seen : List Nat} {x : V} {b : Option Blk} : (stA tm r (some seen) x b).hs.getD 23 none = some (.obj (.mp tm r)) ∧ (stA tm r (some seen) x b).hs.getD 103 none = some (.obj (.it 23 (rLen r) seen)) ∧ (stA tm r (some seen) x b).hs.getD 114 none = b := ⟨rfl, rfl, rfl⟩
theorem stA_next (tm : Nat) (r : Rows) (seen seen' : List Nat) (x : V) (b : Option Blk) : (stA tm r (some seen) x b).hs.set 103 (some (.obj (.it 23 (rLen r) seen'))) = (stA tm r (some seen') x b).hs := rfl
/-- The next entry that a walk hands out: none is left, or one of those. -/
theorem next_run {w0 : World} {F0 : Fz} {E : En} (hI : Inv P w0 F0 E) {d m tm : Nat} {v : Value} {es : Rows} {seen : List Nat} {ty : TypeId} (hv : Rep P E v (.it d m)) (hd : E.hs.getD d none = some (.obj (.it m (rLen es) seen))) (hm : E.hs.getD m none = some (.obj (.mp tm es))) :
    ((∀ j, j < es.length → j ∈ seen) ∧ (Instr.next v false ty).run P E.w = .ok (.tuple #[.bool false]) E.w) ∨
    ∃ (j : Nat) (u : Value) (E' : En), j < es.length ∧ j ∉ seen ∧ (∃ k y, u = .tuple #[.bool true, k, y]) ∧ (Instr.next v false ty).run P E.w = .ok u E'.w ∧ Inv P w0 F0 E' ∧ En.Le E E' ∧ E'.hs = E.hs.set d (some (.obj (.it m (rLen es) (seen ++ [j])))) := by
  obtain ⟨b, rfl, hb, _⟩ := rep_it_inv hv
  obtain ⟨b', o, h1, h2, h3, ⟨mb, g1, gq, rfl⟩, h5⟩ := hI.obj d _ hd
  rw [hb] at h1; injection h1 with h1; subst h1
  obtain ⟨b2, o2, k1, k2, k3, ⟨e', arr, q1, rfl, q3, q4⟩, k5⟩ := hI.obj m _ hm
  rw [g1] at k1; injection k1 with k1; subst k1
  have hn : (rLen es).toNat = es.length := by simp [rLen]
  rw [hn] at h3
  have hborn : ∀ (i : Nat) (x : MapEntry), arr[i]? = some x → x.born = i := by
    intro i x hi
    have hil : i < es.length := by rw [← q3]; exact (Array.getElem?_eq_some_iff.1 hi).1
    obtain ⟨y, hy, s, cs, w, _, _, _, _, e5, _⟩ := q4 i _ (List.getElem?_eq_getElem hil)
    rw [hi] at hy; injection hy with hy; subst hy
    exact e5
  have hall : ∀ x ∈ arr, ∃ i, arr[i]? = some x ∧ x.born = i ∧ i < es.length := by
    intro x hx
    obtain ⟨i, hi, rfl⟩ := Array.mem_iff_getElem.1 hx
    exact ⟨i, Array.getElem?_eq_getElem hi, hborn i _ (Array.getElem?_eq_getElem hi), by rw [← q3]; exact hi⟩
  have htest : (!seen.toArray.isEmpty && !arr.isEmpty && arr.all (fun x => decide (x.born ≥ es.length))) = false := by
    cases he : arr.isEmpty with
    | true => simp
    | false =>
      have h0 : 0 < arr.size := by
        rcases Nat.eq_zero_or_pos arr.size with h0 | h0
        · simp [Array.isEmpty, h0] at he
        · exact h0
      have : arr.all (fun x => decide (x.born ≥ es.length)) = false := by
        rw [Bool.eq_false_iff]
        intro h
        rw [Array.all_eq_true_iff_forall_mem] at h
        have hm1 : arr[0] ∈ arr := Array.getElem_mem h0
        have := h _ hm1
        obtain ⟨i, _, e, hl⟩ := hall _ hm1
        simp at this
        omega
      simp [this]
  generalize hL : arr.filter (fun e => !seen.toArray.contains e.born) = L
  have hmem : ∀ x ∈ L, ∃ i, arr[i]? = some x ∧ x.born = i ∧ i < es.length ∧ i ∉ seen := by
    intro x hx
    rw [← hL] at hx
    obtain ⟨h1, h2⟩ := Array.mem_filter.1 hx
    obtain ⟨i, e1, e2, e3⟩ := hall x h1
    refine ⟨i, e1, e2, e3, fun hs => ?_⟩
    rw [e2] at h2
    simp [hs] at h2
  have e1 : L.filter (fun x => decide (x.born < es.length)) = L := Array.filter_eq_self.2 (fun x hx => by obtain ⟨i, _, e2, e3, _⟩ := hmem x hx; simp [e2, e3])
  have e2 : L.filter (fun x => decide (x.born ≥ es.length)) = #[] := by
    rw [Array.filter_eq_empty_iff]
    intro x hx
    obtain ⟨i, _, e2, e3, _⟩ := hmem x hx
    simp [e2]; omega
  have hget : (getObj b).run P E.w = .ok (.mapIter (some mb) es.length seen.toArray es.length) E.w := by simp [getObj, Sem.run, h3]
  have hgetm : (getObj mb).run P E.w = .ok (.map arr es.length) E.w := by simp [getObj, Sem.run, k3]
  by_cases h0 : L.size = 0
  · left
    have hLe : L = #[] := Array.eq_empty_of_size_eq_zero h0
    refine ⟨fun j hj => ?_, ?_⟩
    · rw [hLe] at hL
      rw [Array.filter_eq_empty_iff] at hL
      have hja : j < arr.size := by omega
      have := hL arr[j] (Array.getElem_mem hja)
      rw [hborn j _ (Array.getElem?_eq_getElem hja)] at this
      simpa using this
    · simp only [Instr.next, Sem.run_bind, hget, hgetm, Result.andThen, htest, Bool.false_eq_true, if_false, hL, e1, e2, Array.append_empty]
      subst hLe
      simp [choose, Sem.run, Question.forced]
  · right
    have hne : L.isEmpty = false := by simp [Array.isEmpty, h0]
    have hch : ∃ (j : Nat) (w1 : World), j < L.size ∧ Below E.w.heap.size E.w w1 ∧ w1.heap = E.w.heap ∧ (choose (Question.mapNext L.size)).run P E.w = .ok j w1 := by
      by_cases hf : L.size ≤ 1
      · exact ⟨0, E.w, by omega, Below.refl _ _, rfl, by simp [choose, Sem.run, Question.forced, hf]⟩
      · exact ⟨_, E.w.drew, Nat.mod_lt _ (by omega), (Below.refl _ _).drew, rfl, by
          simp only [choose, Sem.run, Question.forced, decide_eq_true_eq, hf, if_false, Question.cut]
          rfl⟩
    obtain ⟨j, w1, hj, hbel, hheap, hrun⟩ := hch
    obtain ⟨i, a1, a2, a3, a4⟩ := hmem L[j] (Array.getElem_mem hj)
    obtain ⟨I1, I2⟩ := hI.grow (F' := E.F) hbel (fun _ _ h => h) (fun _ _ h => Or.inl h) (fun b o h => Nat.lt_of_lt_of_le (hI.Flt b o h) hbel.size)
    have hq : QOk P ⟨w1, E.F, E.N, E.hs⟩ (.mapIter (some mb) es.length (seen.toArray.push i) es.length) (.it m (rLen es) (seen ++ [i])) := ⟨mb, g1, gq, by rw [hn]; simp⟩
    obtain ⟨J1, J2⟩ := I1.setObj hd hb hq
    refine ⟨i, .tuple #[.bool true, L[j].key, L[j].val], _, a3, a4, ⟨_, _, rfl⟩, ?_, J1, I2.trans J2, rfl⟩
    have hset : ∀ o', (setObj b o').run P w1 = .ok () (putObj w1 b o') := by
      intro o'
      have : w1.heap[b]? = some (.mapIter (some mb) es.length seen.toArray es.length) := by rw [hheap]; exact h3
      simp [setObj, Sem.run, this, putObj]
    simp only [Instr.next, Sem.run_bind, hget, hgetm, Result.andThen, htest, Bool.false_eq_true, if_false, hL, e1, e2, Array.append_empty, hne, Array.empty_append, Array.size_map, hrun, Array.getElem?_map, Array.getElem?_eq_getElem hj, Option.map_some, hset, a2]
    rfl
end Go.Proofs.YtilppppcafphbaaGreat.Ev
