/- Maps as rows: plain laws. Conditions: stated at each. -/
import Derived.Test.YtolackmpfnndhaaGreatDoorWk
namespace Go.Proofs.YtolackmpfnndhaaGreatDoor.Ev
open Go Go.RowKit
set_option linter.unusedVariables false
set_option linter.unusedSimpArgs false
theorem mHas_cons (q : Row) (l : Rows) (s : ByteArray) : mHas (q :: l) s = (sEq (rStr q 0) s || mHas l s) := rfl
theorem mGet_nil (s : ByteArray) (z : Row) : mGet [] s z = z := rfl
theorem mGet_cons (q : Row) (l : Rows) (s : ByteArray) (z : Row) : mGet (q :: l) s z = bif sEq (rStr q 0) s then q.drop 1 else mGet l s z := by
  unfold mGet
  rw [List.find?_cons]
  cases sEq (rStr q 0) s <;> rfl
theorem mSet_nil (s : ByteArray) (r : Row) : mSet [] s r = [.str s :: r] := rfl
theorem mSet_cons (q : Row) (l : Rows) (s : ByteArray) (r : Row) : mSet (q :: l) s r = bif sEq (rStr q 0) s then (.str s :: r) :: l else q :: mSet l s r := by
  unfold mSet
  rw [List.findIdx?_cons]
  cases hq : sEq (rStr q 0) s with
  | true => rfl
  | false =>
    simp only [Bool.false_eq_true, if_false, cond_false]
    cases l.findIdx? (fun r => sEq (rStr r 0) s) <;> rfl
theorem rStr_key (s : ByteArray) (r : Row) : rStr (.str s :: r) 0 = s := rfl
theorem sEq_comm' {s t u : ByteArray} (h : sEq s t = true) : sEq s u = sEq t u := by rw [sEq_iff.1 h]
theorem mSet_has : ∀ (m : Rows) (s : ByteArray) (r : Row) (t : ByteArray), mHas (mSet m s r) t = (sEq s t || mHas m t)
  | [], s, r, t => by rw [mSet_nil, mHas_cons, rStr_key]
  | q :: l, s, r, t => by
    rw [mSet_cons]
    cases hq : sEq (rStr q 0) s with
    | true =>
      simp only [cond_true, mHas_cons, rStr_key]
      rw [sEq_comm' hq]
      cases sEq s t <;> rfl
    | false =>
      simp only [cond_false, mHas_cons, mSet_has l s r t]
      cases sEq (rStr q 0) t <;> cases sEq s t <;> rfl
theorem mSet_get : ∀ (m : Rows) (s : ByteArray) (r : Row) (t : ByteArray) (z : Row), mGet (mSet m s r) t z = bif sEq s t then r else mGet m t z
  | [], s, r, t, z => by rw [mSet_nil, mGet_cons, rStr_key, mGet_nil]; rfl
  | q :: l, s, r, t, z => by
    rw [mSet_cons]
    cases hq : sEq (rStr q 0) s with
    | true =>
      simp only [cond_true, mGet_cons, rStr_key]
      rw [sEq_comm' hq]
      cases sEq s t <;> rfl
    | false =>
      simp only [cond_false, mGet_cons, mSet_get l s r t z]
      cases h1 : sEq (rStr q 0) t with
      | false => rfl
      | true =>
        cases h2 : sEq s t with
        | false => rfl
        | true => rw [← sEq_iff.1 h2] at h1; rw [h1] at hq; cases hq
theorem mOk_cons (q : Row) (l : Rows) : mOk (q :: l) = (!mHas l (rStr q 0) && mOk l) := rfl
theorem mSet_ok : ∀ {m : Rows} (s : ByteArray) (r : Row), mOk m = true → mOk (mSet m s r) = true
  | [], s, r, _ => rfl
  | q :: l, s, r, h => by
    rw [mOk_cons, Bool.and_eq_true] at h
    rw [mSet_cons]
    cases hq : sEq (rStr q 0) s with
    | true =>
      simp only [cond_true, mOk_cons, rStr_key, Bool.and_eq_true]
      rw [← sEq_iff.1 hq]; exact h
    | false =>
      simp only [cond_false, mOk_cons, Bool.and_eq_true]
      refine ⟨?_, mSet_ok s r h.2⟩
      rw [mSet_has, sEq_symm, hq]; exact h.1
theorem rLen_cons (q : Row) (l : Rows) : rLen (q :: l) = rLen l + 1 := by unfold rLen; simp
theorem mSet_len : ∀ (m : Rows) (s : ByteArray) (r : Row), rLen (mSet m s r) = bif mHas m s then rLen m else rLen m + 1
  | [], s, r => rfl
  | q :: l, s, r => by
    rw [mSet_cons, mHas_cons]
    cases hq : sEq (rStr q 0) s with
    | true => simp only [cond_true, Bool.true_or, rLen_cons]
    | false =>
      simp only [cond_false, Bool.false_or, rLen_cons, mSet_len l s r]
      cases mHas l s <;> rfl
theorem mSet_all {F : Row → Prop} : ∀ {m : Rows} {s : ByteArray} {r : Row}, (∀ q, q ∈ m → F q) → F (.str s :: r) → ∀ q, q ∈ mSet m s r → F q
  | [], s, r, _, h => fun q hq => by rw [mSet_nil] at hq; rcases List.mem_cons.1 hq with rfl | hq; exact h; cases hq
  | a :: l, s, r, hm, h => fun q hq => by
    rw [mSet_cons] at hq
    cases ha : sEq (rStr a 0) s with
    | true =>
      rw [ha] at hq
      rcases List.mem_cons.1 hq with rfl | hq
      · exact h
      · exact hm q (List.mem_cons_of_mem _ hq)
    | false =>
      rw [ha] at hq
      rcases List.mem_cons.1 hq with rfl | hq
      · exact hm _ (List.mem_cons_self ..)
      · exact mSet_all (fun q hq => hm q (List.mem_cons_of_mem _ hq)) h q hq
theorem br_drop {r : Row} (h : Br r) (n : Nat) : Br (r.drop n) := br_iff.2 (fun c hc => br_iff.1 h c (List.mem_of_mem_drop hc))
theorem mGet_br {z : Row} (hz : Br z) : ∀ {m : Rows} {s : ByteArray}, (∀ q, q ∈ m → Br q) → Br (mGet m s z)
  | [], s, _ => hz
  | a :: l, s, hm => by
    rw [mGet_cons]
    cases sEq (rStr a 0) s with
    | true => exact br_drop (hm a (List.mem_cons_self ..)) 1
    | false => exact mGet_br hz (fun q hq => hm q (List.mem_cons_of_mem _ hq))
/-- A row of a map is what a look finds. -/
theorem mGet_mem {z : Row} : ∀ {m : Rows} {q : Row}, mOk m = true → q ∈ m → mHas m (rStr q 0) = true ∧ mGet m (rStr q 0) z = q.drop 1
  | [], q, _, h => by cases h
  | a :: l, q, hm, h => by
    rw [mOk_cons, Bool.and_eq_true, Bool.not_eq_true'] at hm
    rw [mHas_cons, mGet_cons]
    rcases List.mem_cons.1 h with rfl | h
    · rw [sEq_refl]; exact ⟨rfl, rfl⟩
    · obtain ⟨h1, h2⟩ := mGet_mem (z := z) hm.2 h
      cases ha : sEq (rStr a 0) (rStr q 0) with
      | true =>
        exfalso
        rw [← sEq_iff.1 ha] at h1
        rw [hm.1] at h1; cases h1
      | false => exact ⟨by rw [h1]; rfl, h2⟩
theorem mHas_mem : ∀ {m : Rows} {s : ByteArray}, mHas m s = true → ∃ q, q ∈ m ∧ rStr q 0 = s
  | [], s, h => by cases h
  | a :: l, s, h => by
    rw [mHas_cons] at h
    cases ha : sEq (rStr a 0) s with
    | true => exact ⟨a, List.mem_cons_self .., sEq_iff.1 ha⟩
    | false =>
      rw [ha] at h
      obtain ⟨q, h1, h2⟩ := mHas_mem (m := l) h
      exact ⟨q, List.mem_cons_of_mem _ h1, h2⟩
/-- A map with short rows, of at most n entries. -/
def MpI (n : Int) (m : Rows) : Prop := mOk m = true ∧ rLen m ≤ n ∧ ∀ q, q ∈ m → Br q
theorem MpI.nil : MpI 0 [] := ⟨rfl, Int.le_refl _, all_nil⟩
theorem MpI.le {n k : Int} {m : Rows} (h : MpI n m) (hk : n ≤ k) : MpI k m := ⟨h.1, by have := h.2.1; omega, h.2.2⟩
theorem MpI.set {n : Int} {m : Rows} {s : ByteArray} {r : Row} (h : MpI n m) (hs : s.size ≤ 1048576) (hr : Br r) : MpI (n + 1) (mSet m s r) := by
  refine ⟨mSet_ok _ _ h.1, ?_, mSet_all h.2.2 (br_cons hs hr)⟩
  rw [mSet_len]
  have := h.2.1
  cases mHas m s
  · show rLen m + 1 ≤ n + 1; omega
  · show rLen m ≤ n + 1; omega
theorem MpI.put {n : Int} {m : Rows} {s : ByteArray} {r : Row} (h : MpI n m) (hs : s.size ≤ 1048576) (hr : Br r) (hh : mHas m s = true) : MpI n (mSet m s r) := by
  refine ⟨mSet_ok _ _ h.1, ?_, mSet_all h.2.2 (br_cons hs hr)⟩
  rw [mSet_len, hh]; exact h.2.1
theorem MpI.brs {n : Int} {m : Rows} (h : MpI n m) (hn : n ≤ 1048576) : Brs m := ⟨by have := h.2.1; unfold rLen at this; omega, h.2.2⟩
theorem MpI.ok {n : Int} {b : Nat} {m : Rows} (h : MpI n m) (hn : n ≤ 1048576) (hb : b ≤ 134217728) : bAnd (rOk b 0 (rLen m)) (mOk m) = true := by
  unfold bAnd; rw [rOk_new hb (h.brs hn), h.1]; rfl
end Go.Proofs.YtolackmpfnndhaaGreatDoor.Ev
