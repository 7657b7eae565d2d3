/- A stable sort of rows by their first string: insertion sort. Conditions: stated at each. -/
import Derived.Test.YtolackmpfnndhaaGreatDoorSrt
import Derived.Shelf.SlSortCmp.InsertionK
namespace Go.Proofs.YtolackmpfnndhaaGreatDoor.Ev
open Go Go.RowKit
set_option linter.unusedVariables false
set_option linter.unusedSimpArgs false
variable {P : Program}
section pure
open Go.Sort
theorem swp_at (d : Array Nat) (j m : Nat) (h : j + 1 < d.size) : (swp d (j + 1) j)[m]! = if m = j then d[j + 1]! else if m = j + 1 then d[j]! else d[m]! := by
  unfold swp
  simp only [getElem!_def, Array.getElem?_setIfInBounds, Array.size_setIfInBounds]
  by_cases h1 : m = j
  · subst h1
    simp [show m < d.size by omega]
  · by_cases h2 : m = j + 1
    · subst h2
      simp [h, show ¬ j = j + 1 by omega]
    · simp [h1, h2, Ne.symm h1, Ne.symm h2]
theorem swp_sz (d : Array Nat) (i j : Nat) : (swp d i j).size = d.size := by simp [swp]
theorem insInner_tie {lt lt' : Nat → Nat → Bool} (ht : ∀ x y, y < x → lt x y = lt' x y) : ∀ (j : Nat) (d : Array Nat), j < d.size → (∀ m, m < j → d[m]! < d[j]!) → insInner lt 0 j d = insInner lt' 0 j d
  | 0, d, _, _ => rfl
  | j + 1, d, hj, hm => by
    unfold insInner
    rw [ht _ _ (hm j (by omega))]
    split
    · refine insInner_tie ht j _ (by rw [swp_sz]; omega) (fun m hmj => ?_)
      rw [swp_at _ _ _ hj, swp_at _ _ _ hj, if_neg (by omega), if_neg (by omega), if_pos rfl]
      exact hm m (by omega)
    · rfl
theorem insInner_bd {lt : Nat → Nat → Bool} {c : Nat} : ∀ (j : Nat) (d : Array Nat), j < d.size → (∀ m, m ≤ j → d[m]! < c) →
    (insInner lt 0 j d).size = d.size ∧ (∀ m, m ≤ j → (insInner lt 0 j d)[m]! < c) ∧ ∀ m, j < m → (insInner lt 0 j d)[m]! = d[m]!
  | 0, d, _, h => ⟨rfl, h, fun _ _ => rfl⟩
  | j + 1, d, hj, h => by
    unfold insInner
    split
    · obtain ⟨h1, h2, h3⟩ := insInner_bd (lt := lt) (c := c) j (swp d (j + 1) j) (by rw [swp_sz]; omega) (fun m hm => by
        rw [swp_at _ _ _ hj]
        split
        · exact h _ (Nat.le_refl _)
        · rw [if_neg (by omega)]; exact h m (by omega))
      refine ⟨by rw [h1, swp_sz], fun m hm => ?_, fun m hm => ?_⟩
      · by_cases hmj : m ≤ j
        · exact h2 m hmj
        · rw [h3 m (by omega), swp_at _ _ _ hj, if_neg (by omega), if_pos (by omega)]
          exact h j (by omega)
      · rw [h3 m (by omega), swp_at _ _ _ hj, if_neg (by omega), if_neg (by omega)]
    · exact ⟨rfl, h, fun _ _ => rfl⟩
theorem out_go (lt : Nat → Nat → Bool) (b i : Nat) (d : Array Nat) (h : i < b) : insOuter lt 0 b i d = insOuter lt 0 b (i + 1) (insInner lt 0 i d) := by rw [insOuter, if_pos h]
theorem out_stop (lt : Nat → Nat → Bool) (b i : Nat) (d : Array Nat) (h : ¬ i < b) : insOuter lt 0 b i d = d := by rw [insOuter, if_neg h]
theorem insOuter_tie {lt lt' : Nat → Nat → Bool} (ht : ∀ x y, y < x → lt x y = lt' x y) (n : Nat) : ∀ (k i : Nat) (d : Array Nat), n - i = k → d.size = n → (∀ m, m < i → d[m]! < i) → (∀ m, i ≤ m → m < n → d[m]! = m) → insOuter lt 0 n i d = insOuter lt' 0 n i d
  | 0, i, d, hk, _, _, _ => by
    rw [out_stop _ _ _ _ (by omega), out_stop _ _ _ _ (by omega)]
  | k + 1, i, d, hk, hs, h1, h2 => by
    rw [out_go lt _ _ _ (by omega), out_go lt' _ _ _ (by omega)]
    have hi : d[i]! = i := h2 i (Nat.le_refl _) (by omega)
    rw [← insInner_tie ht i d (by omega) (fun m hm => by rw [hi]; exact h1 m hm)]
    obtain ⟨q1, q2, q3⟩ := insInner_bd (lt := lt) (c := i + 1) i d (by omega) (fun m hm => by
      rcases Nat.lt_or_eq_of_le hm with h | h
      · exact Nat.lt_succ_of_lt (h1 m h)
      · subst h; omega)
    refine insOuter_tie ht n k (i + 1) _ (by omega) (by rw [q1]; exact hs) (fun m hm => q2 m (by omega)) (fun m hm hn => ?_)
    rw [q3 m (by omega)]
    exact h2 m (by omega) hn
theorem insertionSort_tie {lt lt' : Nat → Nat → Bool} (ht : ∀ x y, y < x → lt x y = lt' x y) (n : Nat) : insertionSort lt (Array.range n) 0 n = insertionSort lt' (Array.range n) 0 n := by
  have hr : ∀ m, m < n → (Array.range n)[m]! = m := fun m h => by simp [getElem!_def, h]
  unfold insertionSort
  rcases Nat.eq_zero_or_pos n with h0 | h0
  · subst h0
    rw [out_stop _ _ _ _ (by omega), out_stop _ _ _ _ (by omega)]
  · refine insOuter_tie ht n _ 1 _ rfl (by simp) (fun m hm => ?_) (fun m _ hm => hr m hm)
    have : m = 0 := by omega
    subst this
    rw [hr 0 h0]; omega
/-- The tie broken by the place. -/
def tieLt (L : Nat → List UInt8) (x y : Nat) : Bool := decide (L x < L y ∨ (L x = L y ∧ x < y))
theorem tri (a b : List UInt8) : a < b ∨ a = b ∨ b < a := by
  by_cases h : a < b
  · exact .inl h
  · by_cases k : b < a
    · exact .inr (.inr k)
    · exact .inr (.inl (List.le_antisymm (List.not_lt.1 k) (List.not_lt.1 h)))
theorem tie_iff {L : Nat → List UInt8} {x y : Nat} : tieLt L x y = false ↔ L y < L x ∨ (L y = L x ∧ y ≤ x) := by
  unfold tieLt
  rw [decide_eq_false_iff_not]
  constructor
  · intro h
    rcases tri (L x) (L y) with k | k | k
    · exact absurd (.inl k) h
    · refine .inr ⟨k.symm, ?_⟩
      rcases Nat.lt_or_ge x y with q | q
      · exact absurd (.inr ⟨k, q⟩) h
      · exact q
    · exact .inl k
  · rintro (h | ⟨h, k⟩) (q | ⟨q, r⟩)
    · exact List.lt_irrefl _ (List.lt_trans h q)
    · rw [q] at h; exact List.lt_irrefl _ h
    · rw [h] at q; exact List.lt_irrefl _ q
    · omega
theorem tie_swo (L : Nat → List UInt8) : SWO (tieLt L) where
  irrefl x := tie_iff.2 (.inr ⟨rfl, Nat.le_refl _⟩)
  trans x y z h1 h2 := by
    unfold tieLt at h1 h2 ⊢
    rw [decide_eq_true_eq] at h1 h2 ⊢
    rcases h1 with h1 | ⟨h1, k1⟩ <;> rcases h2 with h2 | ⟨h2, k2⟩
    · exact .inl (List.lt_trans h1 h2)
    · exact .inl (h2 ▸ h1)
    · exact .inl (h1 ▸ h2)
    · exact .inr ⟨h1.trans h2, Nat.lt_trans k1 k2⟩
  ntrans x y z h1 h2 := by
    rw [tie_iff] at h1 h2 ⊢
    rcases h1 with h1 | ⟨h1, k1⟩ <;> rcases h2 with h2 | ⟨h2, k2⟩
    · exact .inl (List.lt_trans h2 h1)
    · exact .inl (h2 ▸ h1)
    · exact .inl (h1 ▸ h2)
    · exact .inr ⟨h2.trans h1, Nat.le_trans k2 k1⟩
def insI (lt : Nat → Nat → Bool) (q : Nat) : List Nat → List Nat
  | [] => [q]
  | a :: l => bif lt a q then a :: insI lt q l else q :: a :: l
theorem insI_perm (lt : Nat → Nat → Bool) (q : Nat) : ∀ (es : List Nat), (insI lt q es).Perm (q :: es)
  | [] => List.Perm.refl _
  | a :: l => by
    show (bif lt a q then a :: insI lt q l else q :: a :: l).Perm _
    cases lt a q with
    | true => exact ((insI_perm lt q l).cons a).trans (List.Perm.swap q a l)
    | false => exact List.Perm.refl _
theorem insI_sorted {L : Nat → List UInt8} (q : Nat) : ∀ (l : List Nat), (∀ a, a ∈ l → q < a) → (l.Pairwise fun a b => tieLt L b a = false) → ((insI (fun x y => decide (L x < L y)) q l).Pairwise fun a b => tieLt L b a = false)
  | [], _, _ => List.pairwise_singleton _ _
  | a :: l, hq, h => by
    rw [List.pairwise_cons] at h
    show (bif decide (L a < L q) then a :: insI (fun x y => decide (L x < L y)) q l else q :: a :: l).Pairwise _
    have ha := hq a (List.mem_cons_self ..)
    cases hc : decide (L a < L q) with
    | true =>
      have hc := of_decide_eq_true hc
      refine List.Pairwise.cons (fun b hb => ?_) (insI_sorted q l (fun b hb => hq b (List.mem_cons_of_mem _ hb)) h.2)
      rcases List.mem_cons.1 ((insI_perm _ q l).subset hb) with rfl | hb
      · exact tie_iff.2 (.inl hc)
      · exact h.1 b hb
    | false =>
      have hc := of_decide_eq_false hc
      have hqa : tieLt L a q = false := tie_iff.2 (by
        rcases tri (L q) (L a) with k | k | k
        · exact .inl k
        · exact .inr ⟨k, by omega⟩
        · exact absurd k hc)
      refine List.Pairwise.cons (fun b hb => ?_) (List.pairwise_cons.2 h)
      rcases List.mem_cons.1 hb with rfl | hb
      · exact hqa
      · exact (tie_swo L).ntrans _ _ _ (h.1 b hb) hqa
theorem foldI {L : Nat → List UInt8} : ∀ (l : List Nat), (l.Pairwise (· < ·)) → (l.foldr (insI fun x y => decide (L x < L y)) []).Perm l ∧ ((l.foldr (insI fun x y => decide (L x < L y)) []).Pairwise fun a b => tieLt L b a = false)
  | [], _ => ⟨List.Perm.refl _, List.Pairwise.nil⟩
  | q :: l, h => by
    rw [List.pairwise_cons] at h
    obtain ⟨h1, h2⟩ := foldI (L := L) l h.2
    exact ⟨(insI_perm _ q _).trans (h1.cons q), insI_sorted q _ (fun a ha => h.1 a (h1.subset ha)) h2⟩
theorem insI_map {L : Nat → List UInt8} {row : Nat → Row} (hL : ∀ i, L i = (rStr (row i) 0).data.toList) (q : Nat) : ∀ (l : List Nat), (insI (fun x y => decide (L x < L y)) q l).map row = insC (row q) (l.map row)
  | [] => rfl
  | a :: l => by
    show (bif decide (L a < L q) then a :: insI (fun x y => decide (L x < L y)) q l else q :: a :: l).map row = bif sLt (rStr (row a) 0) (rStr (row q) 0) then row a :: insC (row q) (l.map row) else row q :: row a :: l.map row
    rw [sLt_lt, ← hL, ← hL]
    cases decide (L a < L q) with
    | true => show row a :: List.map row _ = _; rw [insI_map hL q l]; rfl
    | false => rfl
theorem foldI_map {L : Nat → List UInt8} {row : Nat → Row} (hL : ∀ i, L i = (rStr (row i) 0).data.toList) : ∀ (l : List Nat), (l.foldr (insI fun x y => decide (L x < L y)) []).map row = sortC (l.map row)
  | [] => rfl
  | q :: l => by
    show (insI _ q (l.foldr _ [])).map row = insC (row q) (sortC (l.map row))
    rw [insI_map hL, foldI_map hL l]
/-- The insertion sort of the places, by the rows' strings: the rows in their stable order. -/
theorem ins_sortC {row : Nat → Row} (n : Nat) (lt : Nat → Nat → Bool) (hlt : ∀ x y, lt x y = sLt (rStr (row x) 0) (rStr (row y) 0)) :
    (insertionSort lt (Array.range n) 0 n).size = n ∧ (∀ i, i < n → (insertionSort lt (Array.range n) 0 n)[i]! < n) ∧ ((insertionSort lt (Array.range n) 0 n).toList.map row) = sortC ((List.range n).map row) := by
  have hL : ∀ i, (fun i => (rStr (row i) 0).data.toList) i = (rStr (row i) 0).data.toList := fun _ => rfl
  generalize (fun i => (rStr (row i) 0).data.toList) = L at hL
  have hlt' : ∀ x y, lt x y = decide (L x < L y) := fun x y => by rw [hlt, sLt_lt, hL, hL]
  rw [insertionSort_tie (lt' := tieLt L) (fun x y h => by
    rw [hlt']; unfold tieLt
    have : ¬ x < y := by omega
    simp [this])]
  obtain ⟨⟨p1, _, p2⟩, p3⟩ := insertionSort_holds (lt := tieLt L) (tie_swo L) (Array.range n) 0 n (Nat.zero_le _) (by simp)
  generalize insertionSort (tieLt L) (Array.range n) 0 n = d at p1 p2 p3
  have hs : d.size = n := by rw [p1]; simp
  have e1 : d.extract 0 n = d := by rw [← hs]; simp
  have e2 : (Array.range n).extract 0 n = Array.range n := by
    have : (Array.range n).extract 0 (Array.range n).size = Array.range n := by simp
    rwa [Array.size_range] at this
  rw [e1, e2, Array.toList_range] at p2
  refine ⟨hs, fun i hi => ?_, ?_⟩
  · have hi' : i < d.size := by omega
    have hm : d[i]! ∈ d.toList := by
      rw [getElem!_pos d i hi']
      exact Array.getElem_mem_toList hi'
    exact List.mem_range.1 (p2.subset hm)
  · obtain ⟨f1, f2⟩ := foldI (L := L) (List.range n) List.pairwise_lt_range
    rw [← foldI_map hL]
    congr 1
    refine List.Perm.eq_of_pairwise (le := fun a b => tieLt L b a = false) (fun a b _ _ h1 h2 => ?_) ?_ f2 (p2.trans f1.symm)
    · rw [tie_iff] at h1 h2
      rcases h1 with h1 | ⟨h1, k1⟩ <;> rcases h2 with h2 | ⟨h2, k2⟩
      · exact absurd (List.lt_trans h1 h2) (List.lt_irrefl _)
      · rw [h2] at h1; exact absurd h1 (List.lt_irrefl _)
      · rw [h1] at h2; exact absurd h2 (List.lt_irrefl _)
      · omega
    · rw [List.pairwise_iff_getElem]
      intro i j hi hj hij
      have hi' : i < d.size := by simpa using hi
      have hj' : j < d.size := by simpa using hj
      have := p3 i j (Nat.zero_le _) hij (by omega)
      simpa [getElem!_pos, hi', hj'] using this
end pure
end Go.Proofs.YtolackmpfnndhaaGreatDoor.Ev
