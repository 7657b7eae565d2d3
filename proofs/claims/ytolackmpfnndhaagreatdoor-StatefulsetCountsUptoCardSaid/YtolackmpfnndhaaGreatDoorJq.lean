/- Trees of values: size and text, of the program's functions; json.Print. Conditions: stated at each. -/
import Derived.Test.YtolackmpfnndhaaGreatDoorJp
namespace Go.Proofs.YtolackmpfnndhaaGreatDoor.Ev
open Go Go.RowKit
set_option linter.unusedVariables false
set_option maxRecDepth 100000
noncomputable section
/-- How many values a tree has. -/
def sz : Nat → Row → Nat
  | 0, _ => 1
  | n + 1, r => 1 + ((rSl r 3).map (sz n)).sum + ((rSl r 4).map fun q => sz n (q.drop 1)).sum
theorem sum_le {l : Rows} {g : Row → Nat} {b : Nat} (h : ∀ q, q ∈ l → g q ≤ b) : (l.map g).sum ≤ l.length * b := by
  induction l with
  | nil => simp
  | cons a l ih =>
    have h1 := h a (List.mem_cons_self ..)
    have h2 := ih (fun q hq => h q (List.mem_cons_of_mem _ hq))
    rw [List.map_cons, List.sum_cons, List.length_cons, Nat.add_mul]
    omega
/-- What validity says of a tree. -/
theorem vd_parts {n : Nat} {r : Row} (h : vd (n + 1) r = true) : sc r = true ∧ (rSl r 3).length ≤ 64 ∧ (rSl r 4).length ≤ 64 ∧ (∀ q, q ∈ rSl r 3 → vd n q = true) ∧ (∀ q, q ∈ rSl r 4 → nOk (rStr q 0) = true ∧ vd n (q.drop 1) = true) := by
  unfold vd at h
  simp only [Bool.and_eq_true, Bool.not_eq_true'] at h
  obtain ⟨⟨⟨⟨⟨⟨h1, _⟩, _⟩, h2⟩, h3⟩, h4⟩, h5⟩ := h
  have h2 := of_decide_eq_false h2
  have h3 := of_decide_eq_false h3
  refine ⟨h1, by unfold rLen at h2; omega, by unfold rLen at h3; omega, fun q hq => ?_, fun q hq => ?_⟩
  · obtain ⟨i, hi, rfl⟩ := List.mem_iff_getElem.1 hq
    have := List.any_eq_false.1 h4 i (List.mem_range.2 hi)
    rw [List.getD_eq_getElem?_getD, List.getElem?_eq_getElem hi] at this
    simpa using this
  · obtain ⟨i, hi, rfl⟩ := List.mem_iff_getElem.1 hq
    have := List.any_eq_false.1 h5 i (List.mem_range.2 hi)
    rw [List.getD_eq_getElem?_getD, List.getElem?_eq_getElem hi] at this
    simp only [Option.getD_some] at this
    generalize nOk (rStr (rSl r 4)[i] 0) = a at this ⊢
    generalize vd n (List.drop 1 (rSl r 4)[i]) = b at this ⊢
    cases a <;> cases b <;> simp at this ⊢
theorem sz_le : ∀ (n m : Nat) (r : Row), vd m r = true → sz n r ≤ 129 ^ n
  | 0, _, _, _ => Nat.le_refl _
  | n + 1, 0, r, h => by cases h
  | n + 1, m + 1, r, h => by
    obtain ⟨_, h3, h4, h5, h6⟩ := vd_parts h
    have a := sum_le (g := sz n) (fun q hq => sz_le n m q (h5 q hq))
    have b : ((rSl r 4).map fun q => sz n (q.drop 1)).sum ≤ (rSl r 4).length * 129 ^ n := sum_le (g := fun q => sz n (q.drop 1)) (fun q hq => sz_le n m _ (h6 q hq).2)
    have h7 : (rSl r 3).length * 129 ^ n ≤ 64 * 129 ^ n := Nat.mul_le_mul_right _ h3
    have h8 : (rSl r 4).length * 129 ^ n ≤ 64 * 129 ^ n := Nat.mul_le_mul_right _ h4
    have h9 : 1 ≤ 129 ^ n := Nat.one_le_pow _ _ (by decide)
    show 1 + ((rSl r 3).map (sz n)).sum + ((rSl r 4).map fun q => sz n (q.drop 1)).sum ≤ _
    rw [Nat.pow_succ]
    omega
theorem foldl_sum (g : Nat → Nat) (x0 : Int) : ∀ (l : List Nat), l.foldl (fun (a : Int) i => a + (g i : Int)) x0 = x0 + ((l.map g).sum : Nat)
  | [] => by simp
  | i :: l => by
    rw [List.foldl_cons, List.map_cons, List.sum_cons]
    have := foldl_sum g (x0 + (g i : Int)) l
    rw [this]; omega
theorem map_range {α : Type} (l : Rows) (g : Row → α) : (List.range l.length).map (fun i => g (l.getD i [])) = l.map g := by
  apply List.ext_getElem
  · simp
  · intro i h1 h2
    simp at h1
    simp [List.getD_eq_getElem?_getD, h1]
theorem part_le (l : Rows) (g : Row → Nat) : ∀ (i : Nat), i ≤ l.length → ((List.range i).map fun j => g (l.getD j [])).sum ≤ (l.map g).sum := fun i hi => by
  rw [← map_range l g]
  have e : List.range l.length = List.range i ++ (List.range (l.length - i)).map (· + i) := by
    have : l.length = i + (l.length - i) := by omega
    rw [this, List.range_add]
    simp [Nat.add_comm]
  rw [e, List.map_append, List.sum_append]
  omega
/-- A loop that adds up. -/
theorem D.sum {s : Nat → Int × Int → T ((Int × Int) ⊕ Int)} {l : Rows} (hn : l.length ≤ 1048576) (g : Row → Nat) (x0 : Nat) (hb : x0 + (l.map g).sum ≤ 9223372036854775807)
    (h : ∀ (i : Nat) (x : Int), i < l.length → D (fun k => (s k (x, (i : Int))).eval) (fun v => v = .inl (iAdd .i64 x (g (l.getD i [])), iAdd .i64 (i : Int) 1)))
    (he : ∀ (i : Nat) (x : Int), ¬ i < l.length → D (fun k => (s k (x, (i : Int))).eval) (fun v => v = .inr x)) : D (fun k => iter (s k) k ((x0 : Int), 0)) (fun v => v = ((x0 + (l.map g).sum : Nat) : Int)) := by
  refine (D.fold (n := l.length) (by omega) (fun a i => a + (g (l.getD i []) : Int)) id (fun i a => a = ((x0 + ((List.range i).map fun j => g (l.getD j [])).sum : Nat) : Int)) (x0 : Int) (by simp) (fun i x hi hx => ⟨?_, ?_⟩) (fun i x hi => he i x hi)).mono (fun v hv => ?_)
  · refine (h i x hi).mono (fun v hv => ?_)
    subst hv
    have h1 := part_le l g (i + 1) hi
    rw [List.range_succ, List.map_append, List.sum_append] at h1
    simp only [List.map_cons, List.map_nil, List.sum_cons, List.sum_nil] at h1
    rw [iAdd_in (a := x) (by omega) (by subst hx; omega)]
  · rw [List.range_succ, List.map_append, List.sum_append]
    subst hx
    simp only [List.map_cons, List.map_nil, List.sum_cons, List.sum_nil]; omega
  · subst hv
    rw [foldl_sum, map_range]
    simp
theorem size_val : ∀ (n : Nat) (r : Row), Nv n r → sz n r ≤ 9223372036854775807 → D (fun k => (value_Size.f k r).eval) (fun v => v = (sz n r : Int))
  | 0, r, h, _ => h.elim
  | n + 1, r, h, hb => by
    obtain ⟨he, h3, h4, hs, hl, hf⟩ := h
    have hb : 1 + ((rSl r 3).map (sz n)).sum + ((rSl r 4).map fun q => sz n (q.drop 1)).sum ≤ 9223372036854775807 := hb
    have mem_le : ∀ (l : Rows) (g : Row → Nat) (i : Nat), i < l.length → g (l.getD i []) ≤ (l.map g).sum := fun l g i hi => by
      have := part_le l g (i + 1) hi
      rw [List.range_succ, List.map_append, List.sum_append] at this
      simp only [List.map_cons, List.map_nil, List.sum_cons, List.sum_nil] at this; omega
    refine D.succ ?_
    refine D.bnd (q := fun v => v = ((1 + ((rSl r 3).map (sz n)).sum : Nat) : Int)) (D.sum h3 (sz n) 1 (by omega) (fun i x hi => ?_) (fun i x hi => ?_)) (fun r0 h0 => ?_)
    · refine D.tt (ilt_nat hi) (D.tt (iin_nat hi) ?_)
      have hm := hl _ (getD_mem hi)
      refine D.bnd (q := fun v => v = (sz n ((rSl r 3).getD i []) : Int)) ?_ (fun b hb => by subst hb; exact D.ret rfl)
      show D (fun k => (value_Size.f k (et 110 (rAt (rSl r 3) (i : Int)))).eval) _
      rw [rAt_nat, hm.et]
      exact size_val n _ hm (by have := mem_le (rSl r 3) (sz n) i hi; omega)
    · exact D.test (fun e => by rw [show iLt (i : Int) (rLen (rSl r 3)) = false from ilt_nat' hi] at e; cases e) (fun _ => D.ret rfl)
    subst h0
    refine D.bnd (q := fun v => v = (sz (n + 1) r : Int)) (D.sum h4 (fun q => sz n (q.drop 1)) _ (by omega) (fun i x hi => ?_) (fun i x hi => ?_)) (fun r0 h0 => by subst h0; exact D.ret rfl)
    · refine D.tt (ilt_nat hi) (D.tt (iin_nat hi) ?_)
      obtain ⟨hm1, hm2, hm3⟩ := hf _ (getD_mem hi)
      refine D.bnd (q := fun v => v = (sz n (((rSl r 4).getD i []).drop 1) : Int)) ?_ (fun b hb => by subst hb; exact D.ret rfl)
      show D (fun k => (value_Size.f k (eo 110 (rAt (rSl r 4) (i : Int)) 1)).eval) _
      rw [rAt_nat, eo1 hm1]
      exact size_val n _ hm3 (by have : sz n (((rSl r 4).getD i []).drop 1) ≤ ((rSl r 4).map fun q => sz n (q.drop 1)).sum := mem_le (rSl r 4) (fun q => sz n (q.drop 1)) i hi; omega)
    · exact D.test (fun e => by rw [show iLt (i : Int) (rLen (rSl r 4)) = false from ilt_nat' hi] at e; cases e) (fun _ => D.ret rfl)
/-- A tree that json.Print prints. -/
def okV (n : Nat) (r : Row) : Bool := vd 12 r && decide (sz n r ≤ 600)
theorem Valid_val {n : Nat} (hn : n ≤ 8) {r : Row} (h : Nv n r) : D (fun k => (value_Valid.f k r).eval) (fun v => v = okV n r) := by
  have he := h.et
  refine D.bnd (q := fun v => v = vd 12 r) ?_ (fun b hb => ?_)
  · show D (fun k => (value_valid.f k (et 110 r) 12).eval) _
    rw [he]; exact valid_val 12 (by decide) n r h
  subst hb
  unfold okV
  cases hc : vd 12 r with
  | false => exact D.opt (q := fun _ => True) (fun e => by cases e) (fun _ => trivial) (fun _ _ => D.ret rfl)
  | true =>
    have h1 := sz_le n 12 r hc
    have h2 : 129 ^ n ≤ 129 ^ 8 := Nat.pow_le_pow_right (by decide) hn
    have h3 : (129 : Nat) ^ 8 ≤ 9223372036854775807 := by decide
    refine D.opt (q := fun v => v = (sz n r : Int)) (fun _ => ?_) (fun e => by cases e) (fun b hb => D.ret ?_)
    · show D (fun k => (value_Size.f k (et 110 r)).eval) _
      rw [he]; exact size_val n r h (by omega)
    · subst hb
      show iLe (sz n r : Int) 600 = _
      unfold iLe
      by_cases h : sz n r ≤ 600
      · rw [decide_eq_true h, decide_eq_true (by omega)]; rfl
      · rw [decide_eq_false h, decide_eq_false (by omega)]; rfl
/-- Parts, joined by commas. -/
def jt : Bool → List (List UInt8) → List UInt8
  | _, [] => []
  | c, x :: l => (bif c then [] else [44]) ++ x ++ jt false l
/-- A tree's text. -/
def txt : Nat → Row → List UInt8
  | 0, _ => []
  | n + 1, r =>
    bif iEq (rInt r 0) 0 then [110, 117, 108, 108]
    else bif iEq (rInt r 0) 1 then (bif iEq (rInt r 1) 1 then [116, 114, 117, 101] else [102, 97, 108, 115, 101])
    else bif iEq (rInt r 0) 2 then strconv_Itoa.itz (rInt r 1)
    else bif iEq (rInt r 0) 3 then json_Print.qt (rStr r 2)
    else bif iEq (rInt r 0) 4 then 91 :: (jt true ((rSl r 3).map (txt n)) ++ [93])
    else 123 :: (jt true ((rSl r 4).map fun q => json_Print.qt (rStr q 0) ++ 58 :: txt n (q.drop 1)) ++ [125])
theorem jn_jt {g : Row → Option (List UInt8)} {h : Row → List UInt8} : ∀ (c : Bool) (l : Rows), (∀ q, q ∈ l → g q = some (h q)) → json_Print.jn g c l = some (jt c (l.map h))
  | _, [], _ => rfl
  | c, q :: l, hq => by
    show (g q).bind (fun x => (json_Print.jn g false l).map fun y => (bif c then [] else [44]) ++ x ++ y) = _
    rw [hq q (List.mem_cons_self ..), jn_jt false l (fun x hx => hq x (List.mem_cons_of_mem _ hx))]
    rfl
theorem sc_int {r : Row} (h : sc r = true) (e : iEq (rInt r 0) 2 = true) : -1000000000000000 ≤ rInt r 1 ∧ rInt r 1 ≤ 1000000000000000 := by
  have h0 := iEq_iff.1 e
  unfold sc at h
  have e1 : iEq (rInt r 0) 1 = false := by rw [h0]; rfl
  rw [e1, e] at h
  simp only [cond_true, cond_false, Bool.and_eq_true] at h
  exact ⟨iLe_iff.1 h.1.2, iLe_iff.1 h.2⟩
theorem vtxt_eq (k : Nat) : ∀ (n m g : Nat) (r : Row), Nv n r → vd m r = true → n ≤ g → json_Print.vtxt k g r = some (txt n r)
  | 0, _, _, r, h, _, _ => h.elim
  | n + 1, 0, _, r, _, h, _ => by cases h
  | n + 1, m + 1, 0, r, _, _, h => by omega
  | n + 1, m + 1, g + 1, r, hN, hv, hg => by
    obtain ⟨he, h3, h4, hs, hl, hf⟩ := hN
    obtain ⟨v1, _, _, v4, v5⟩ := vd_parts hv
    unfold json_Print.vtxt txt
    cases c0 : iEq (rInt r 0) 0 with
    | true => rfl
    | false =>
    cases c1 : iEq (rInt r 0) 1 with
    | true => cases iEq (rInt r 1) 1 <;> kernel_rfl
    | false =>
    cases c2 : iEq (rInt r 0) 2 with
    | true =>
      obtain ⟨a, b⟩ := sc_int v1 c2
      have : strconv_Itoa.iR (rInt r 1) = true := Bool.and_eq_true_iff.2 ⟨decide_eq_true (by omega), decide_eq_true (by omega)⟩
      simp only [cond_true, cond_false, this]
    | false =>
    cases c3 : iEq (rInt r 0) 3 with
    | true => rfl
    | false =>
    cases c4 : iEq (rInt r 0) 4 with
    | true =>
      simp only [cond_true, cond_false]
      rw [jn_jt (h := txt n) true _ (fun q hq => vtxt_eq k n m g q (hl q hq) (v4 q hq) (by omega))]
      rfl
    | false =>
      simp only [cond_true, cond_false]
      rw [jn_jt (h := fun q => json_Print.qt (rStr q 0) ++ 58 :: txt n (q.drop 1)) true _ (fun q hq => by rw [vtxt_eq k n m g _ (hf q hq).2.2 (v5 q hq).2 (by omega)]; rfl)]
      rfl
theorem qB_le : ∀ l : List UInt8, (json_Print.qB l).length ≤ 2 * l.length
  | [] => Nat.le_refl _
  | c :: l => by
    have := qB_le l
    show ((bif c == 10 then [92, 110] else bif c == 34 || c == 92 then [92, c] else [c]) ++ json_Print.qB l).length ≤ _
    rw [List.length_append, List.length_cons]
    cases c == 10 <;> cases (c == 34 || c == 92) <;> simp <;> omega
theorem qt_le (s : ByteArray) : (json_Print.qt s).length ≤ 2 * s.size + 2 := by
  have := qB_le s.data.toList
  unfold json_Print.qt
  rw [List.length_cons, List.length_append]
  have e : s.data.toList.length = s.size := by rw [Array.length_toList]; rfl
  rw [e] at this
  simp; omega
theorem dgs_le : ∀ (f u : Nat), (strconv_Itoa.dgs f u).length ≤ f + 1
  | 0, u => Nat.le_refl _
  | f + 1, u => by
    have := dgs_le f (u / 10)
    show (bif Nat.blt u 10 then [UInt8.ofNat (48 + u)] else strconv_Itoa.dgs f (u / 10) ++ [UInt8.ofNat (48 + u % 10)]).length ≤ _
    cases Nat.blt u 10 <;> simp only [cond_true, cond_false, List.length_append, List.length_cons, List.length_nil] <;> omega
theorem itz_le (n : Int) : (strconv_Itoa.itz n).length ≤ 26 := by
  unfold strconv_Itoa.itz
  have h1 := dgs_le 24 n.natAbs
  have h2 := dgs_le 24 n.toNat
  cases iLt n 0 <;> simp only [cond_true, cond_false, List.length_cons] <;> omega
theorem jt_le : ∀ (c : Bool) (l : List (List UInt8)), (jt c l).length ≤ (l.map fun x => x.length + 1).sum
  | _, [] => Nat.le_refl _
  | c, x :: l => by
    have := jt_le false l
    show ((bif c then [] else [44]) ++ x ++ jt false l).length ≤ _
    rw [List.map_cons, List.sum_cons, List.length_append, List.length_append]
    cases c <;> simp <;> omega
theorem sum_mono {l : Rows} {f g : Row → Nat} (h : ∀ q, q ∈ l → f q ≤ g q) : (l.map f).sum ≤ (l.map g).sum := by
  induction l with
  | nil => exact Nat.le_refl _
  | cons a l ih =>
    have h1 := h a (List.mem_cons_self ..)
    have h2 := ih (fun q hq => h q (List.mem_cons_of_mem _ hq))
    rw [List.map_cons, List.map_cons, List.sum_cons, List.sum_cons]; omega
theorem sum_mul (c : Nat) (g : Row → Nat) : ∀ l : Rows, (l.map fun q => c * g q).sum = c * (l.map g).sum
  | [] => by simp
  | a :: l => by rw [List.map_cons, List.map_cons, List.sum_cons, List.sum_cons, sum_mul c g l, Nat.mul_add]
theorem tOk_le {s : ByteArray} (h : tOk s = true) : s.size ≤ 200 := by
  have := iLe_iff.1 (Bool.and_eq_true_iff.1 h).2
  unfold sLen at this; omega
theorem nOk_le {s : ByteArray} (h : nOk s = true) : s.size ≤ 40 := by
  have h := (Bool.and_eq_true_iff.1 h).2
  rw [bIte_and] at h
  have := iLe_iff.1 (Bool.and_eq_true_iff.1 h).2
  unfold sLen at this; omega
theorem txt_le : ∀ (n m : Nat) (r : Row), Nv n r → vd m r = true → (txt n r).length + 90 ≤ 600 * sz n r
  | 0, _, r, h, _ => h.elim
  | n + 1, 0, r, _, h => by cases h
  | n + 1, m + 1, r, hN, hv => by
    obtain ⟨he, h3, h4, hs, hl, hf⟩ := hN
    obtain ⟨v1, _, _, v4, v5⟩ := vd_parts hv
    have e1 : 600 * sz (n + 1) r = 600 + 600 * ((rSl r 3).map (sz n)).sum + 600 * ((rSl r 4).map fun q => sz n (q.drop 1)).sum := by
      show 600 * (1 + _ + _) = _
      rw [Nat.mul_add, Nat.mul_add]
    rw [e1]
    unfold txt
    cases c0 : iEq (rInt r 0) 0 with
    | true => simp only [cond_true, List.length_cons, List.length_nil]; omega
    | false =>
    cases c1 : iEq (rInt r 0) 1 with
    | true => cases iEq (rInt r 1) 1 <;> simp only [cond_true, cond_false, List.length_cons, List.length_nil] <;> omega
    | false =>
    cases c2 : iEq (rInt r 0) 2 with
    | true => simp only [cond_true, cond_false]; have := itz_le (rInt r 1); omega
    | false =>
    cases c3 : iEq (rInt r 0) 3 with
    | true =>
      simp only [cond_true, cond_false]
      have h1 := qt_le (rStr r 2)
      have h2 : (rStr r 2).size ≤ 200 := by
        refine tOk_le ?_
        unfold sc at v1
        rw [c1, c2, c3] at v1
        simp only [cond_true, cond_false, Bool.and_eq_true] at v1
        exact v1.2
      omega
    | false =>
    cases c4 : iEq (rInt r 0) 4 with
    | true =>
      simp only [cond_true, cond_false, List.length_cons, List.length_append, List.length_nil]
      have h1 := jt_le true ((rSl r 3).map (txt n))
      have h2 : (((rSl r 3).map (txt n)).map fun x => x.length + 1).sum ≤ ((rSl r 3).map fun q => 600 * sz n q).sum := by
        rw [List.map_map]
        exact sum_mono (fun q hq => by have := txt_le n m q (hl q hq) (v4 q hq); show (txt n q).length + 1 ≤ _; omega)
      have h3 : ((rSl r 3).map fun q => 600 * sz n q).sum = 600 * ((rSl r 3).map (sz n)).sum := sum_mul 600 (sz n) _
      omega
    | false =>
      simp only [cond_true, cond_false, List.length_cons, List.length_append, List.length_nil]
      have h1 := jt_le true ((rSl r 4).map fun q => json_Print.qt (rStr q 0) ++ 58 :: txt n (q.drop 1))
      have h2 : (((rSl r 4).map fun q => json_Print.qt (rStr q 0) ++ 58 :: txt n (q.drop 1)).map fun x => x.length + 1).sum ≤ ((rSl r 4).map fun q => 600 * sz n (q.drop 1)).sum := by
        rw [List.map_map]
        refine sum_mono (fun q hq => ?_)
        have := txt_le n m _ (hf q hq).2.2 (v5 q hq).2
        have h5 := qt_le (rStr q 0)
        have h6 := nOk_le (v5 q hq).1
        show (json_Print.qt (rStr q 0) ++ 58 :: txt n (q.drop 1)).length + 1 ≤ _
        rw [List.length_append, List.length_cons]; omega
      have h3 : ((rSl r 4).map fun q => 600 * sz n (q.drop 1)).sum = 600 * ((rSl r 4).map fun q => sz n (q.drop 1)).sum := sum_mul 600 (fun q => sz n (q.drop 1)) _
      omega
/-- What json.Print answers with. -/
def prn (n : Nat) (r : Row) : ByteArray × Int := bif okV n r then (bif decide (20000 < (txt n r).length) then (⟨#[]⟩, 4) else (⟨(txt n r).toArray⟩, 0)) else (⟨#[]⟩, 1)
theorem Print_val {n : Nat} (hn : n ≤ 8) {r : Row} (h : Nv n r) : D (fun k => (json_Print.f k r).eval) (fun v => v = prn n r) := by
  refine D.bnd (q := fun v => v = okV n r) (Valid_val hn h) (fun b hb => ?_)
  subst hb
  unfold prn
  refine D.test (fun e => ?_) (fun e => ?_)
  · have e' := Bool.and_eq_true_iff.1 e
    have h1 := of_decide_eq_true e'.2
    have h2 := txt_le n 12 r h e'.1
    rw [e]
    refine D.bnd (q := fun v => v = txt n r) ⟨_, rfl, n, fun k hk => vtxt_eq k n 12 k r h e'.1 hk⟩ (fun x hx => ?_)
    subst hx
    refine D.tt (decide_eq_true (by omega)) ?_
    exact D.test (fun e => D.ret (by rw [e]; rfl)) (fun e => D.ret (by rw [e]; rfl))
  · rw [e]; exact D.ret rfl
theorem prn_le {n : Nat} {r : Row} : (prn n r).1.size ≤ 20000 := by
  unfold prn
  cases okV n r with
  | false => exact Nat.zero_le _
  | true =>
    cases hc : decide (20000 < (txt n r).length) with
    | true => exact Nat.zero_le _
    | false =>
      have := of_decide_eq_false hc
      show (txt n r).toArray.size ≤ 20000
      simp; omega
end
end Go.Proofs.YtolackmpfnndhaaGreatDoor.Ev
