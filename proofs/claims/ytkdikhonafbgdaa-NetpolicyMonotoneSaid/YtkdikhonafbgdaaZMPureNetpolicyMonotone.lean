/- Part of a claim: see its row. Conditions: stated at each. -/
import Derived.Test.YtkdikhonafbgdaaZMQSNetpolicyMonotone
import Derived.Test.YtkdikhonafbgdaaZMPLive
namespace Go.Proofs.Ytkdikhonafbgdaa.Pure
open Go.RowKit Go.Proofs.Ytkdikhonafbgdaa.Q Go.Proofs.Ytkdikhonafbgdaa.Opn Go.Proofs.YtkdikhonafbgdaaW.PrintWords Go.Proofs.YtkdikhonafbgdaaW.PrintLast Go.Proofs.YtkdikhonafbgdaaW.PrintMore Go.Proofs.Ytkdikhonafbgdaa.Pur
set_option linter.unusedVariables false
set_option linter.unusedSimpArgs false
theorem small_lim (l : List S54) (hl : XL 248 X54 l) : ∃ b, Ev (fun k => orchestratorlaw57_small.f k l) b ∧ (b = true → l.length ≤ 10 ∧ ∀ x ∈ l, x.f4.length ≤ 10) := by
  unfold orchestratorlaw57_small.f
  have hn := len_of hl (by decide)
  have key : ∀ (d j : Nat), j + d = l.length → ∃ b, Ev (fun k => orchestratorlaw57_small.l0 k l (j : Int)) b ∧ (b = true → l.length ≤ 10 ∧ ∀ x ∈ l.drop j, x.f4.length ≤ 10) := by
    intro d
    induction d with
    | zero =>
      intro j hj
      have : j = l.length := by omega
      subst this
      refine ⟨decide ((l.length : Int) ≤ 10), Ev.step (fun k => rfl) ?_, fun h => ⟨by have := of_decide_eq_true h; omega, by simp⟩⟩
      simp only [orchestratorlaw57_small.l0, Int.lt_irrefl, if_false]
      refine Ev.step (fun k => rfl) ?_
      simp only [orchestratorlaw57_small.j1, Bool.false_eq_true, if_false]
      exact Ev.now _
    | succ d ih =>
      intro j hj
      have hlt : j < l.length := by omega
      have h1 : (j : Int) < (l.length : Int) := by omega
      obtain ⟨b, hb, hq⟩ := ih (j + 1) (by omega)
      by_cases h11 : (j : Int) < 11
      · by_cases hr : ((rd_T54 l (j : Int)).f4.length : Int) > 10
        · refine ⟨false, Ev.step (fun k => rfl) ?_, fun h => by cases h⟩
          simp only [orchestratorlaw57_small.l0, if_pos h1]
          refine Ev.step (fun k => rfl) ?_
          simp only [orchestratorlaw57_small.j1, decide_eq_true h11, if_true, if_pos h1, if_pos (show (0 : Int) ≤ (j : Int) by omega), if_pos hr]
          exact Ev.now _
        · refine ⟨b, Ev.step (fun k => rfl) ?_, fun h => ⟨(hq h).1, fun x hx => ?_⟩⟩
          · simp only [orchestratorlaw57_small.l0, if_pos h1]
            refine Ev.step (fun k => rfl) ?_
            simp only [orchestratorlaw57_small.j1, decide_eq_true h11, if_true, if_pos h1, if_pos (show (0 : Int) ≤ (j : Int) by omega), if_neg hr, wrap_succ hlt (show l.length ≤ 4611686018427387904 by omega)]
            exact hb
          · rw [List.drop_eq_getElem_cons hlt] at hx
            rcases List.mem_cons.1 hx with rfl | hx
            · rw [rd54 hlt] at hr
              omega
            · exact (hq h).2 x hx
      · refine ⟨decide ((l.length : Int) ≤ 10), Ev.step (fun k => rfl) ?_, fun h => ?_⟩
        · simp only [orchestratorlaw57_small.l0, if_pos h1]
          refine Ev.step (fun k => rfl) ?_
          simp only [orchestratorlaw57_small.j1, decide_eq_false h11, Bool.false_eq_true, if_false]
          exact Ev.now _
        · have := of_decide_eq_true h
          omega
  obtain ⟨b, h1, h2⟩ := key l.length 0 (by omega)
  exact ⟨b, h1, fun h => by simpa using h2 h⟩
def addR (r : S58) (x : S54) : S54 := ⟨x.f0, x.f1, x.f2, x.f3, x.f4 ++ [r]⟩
def withL (m : Int) (r : S58) : List S54 → Int → List S54
  | [], _ => []
  | x :: t, i => (if i = m then addR r x else x) :: withL m r t (i + 1)
theorem with_len (m : Int) (r : S58) (l : List S54) : ∀ i, (withL m r l i).length = l.length := by
  induction l with
  | nil => intro i; rfl
  | cons x t ih => intro i; simp [withL, ih]
theorem with_mem (m : Int) (r : S58) (l : List S54) : ∀ i y, y ∈ withL m r l i → ∃ x ∈ l, y = x ∨ y = addR r x := by
  induction l with
  | nil => intro i y hy; cases hy
  | cons x t ih =>
    intro i y hy
    rcases List.mem_cons.1 hy with h | h
    · by_cases hi : i = m
      · rw [if_pos hi] at h; exact ⟨x, List.mem_cons_self, Or.inr h⟩
      · rw [if_neg hi] at h; exact ⟨x, List.mem_cons_self, Or.inl h⟩
    · obtain ⟨z, hz, h⟩ := ih _ _ h
      exact ⟨z, List.mem_cons_of_mem _ hz, h⟩
theorem with_fits (m : Int) (r : S58) (l : List S54) (i : Int) (hl : XL 248 X54 l) (hr : X58 r) (hs : ∀ x ∈ l, x.f4.length ≤ 10) : XL 248 X54 (withL m r l i) := by
  refine ⟨by rw [with_len]; exact hl.1, fun y hy => ?_⟩
  obtain ⟨x, hx, rfl | rfl⟩ := with_mem m r l i y hy
  · exact hl.2 _ hx
  · have h := hl.2 x hx
    have h2 := hs x hx
    refine ⟨h.1, h.2.1, h.2.2.1, h.2.2.2.1, ?_, ?_⟩
    · simp only [addR, List.length_append, List.length_cons, List.length_nil]; omega
    · intro q hq
      rcases List.mem_append.1 hq with hq | hq
      · exact h.2.2.2.2.2 q hq
      · rw [List.mem_singleton.1 hq]; exact hr
theorem with_iso (m : Int) (r : S58) (p : S41) (e : Bool) (l : List S54) : ∀ i, isolatedB (withL m r l i) p e = isolatedB l p e := by
  unfold isolatedB
  induction l with
  | nil => intro i; rfl
  | cons x t ih =>
    intro i
    simp only [withL, List.any_cons, ih]
    by_cases hi : i = m
    · rw [if_pos hi]; rfl
    · rw [if_neg hi]
theorem with_lets (m : Int) (r : S58) (p o : S41) (n : Int) (e : Bool) (l : List S54) : ∀ i, l.any (letsB p e o n) = true → (withL m r l i).any (letsB p e o n) = true := by
  induction l with
  | nil => intro i h; exact h
  | cons x t ih =>
    intro i h
    simp only [withL, List.any_cons, Bool.or_eq_true] at h ⊢
    rcases h with h | h
    · left
      by_cases hi : i = m
      · rw [if_pos hi]
        unfold letsB at h ⊢
        simp only [Bool.and_eq_true] at h ⊢
        refine ⟨h.1, ?_⟩
        simp only [addR, List.any_append, h.2, Bool.true_or]
      · rw [if_neg hi]; exact h
    · right; exact ih _ h
theorem with_open (m : Int) (r : S58) (l : List S54) (i : Int) (p o : S41) (n : Int) (e : Bool) (h : openB l p o n e = true) : openB (withL m r l i) p o n e = true := by
  unfold openB at h ⊢
  rw [with_iso]
  simp only [Bool.or_eq_true] at h ⊢
  rcases h with h | h
  · exact Or.inl h
  · exact Or.inr (with_lets m r p o n e l i h)
theorem with_allowed (m : Int) (r : S58) (l : List S54) (i : Int) (p o : S41) (n : Int) (h : allowedB l n p o = true) : allowedB (withL m r l i) n p o = true := by
  unfold allowedB at h ⊢
  simp only [Bool.or_eq_true, Bool.and_eq_true] at h ⊢
  rcases h with h | ⟨h1, h2⟩
  · exact Or.inl h
  · exact Or.inr ⟨with_open m r l i p o n true h1, with_open m r l i o p n false h2⟩
def bare (q : S54) : S54 := ⟨q.f0, q.f1, q.f2, q.f3, []⟩
theorem bare_open (l : List S54) (q : S54) (p o : S41) (n : Int) (e : Bool) (h : openB (l ++ [bare q]) p o n e = true) : openB l p o n e = true := by
  unfold openB isolatedB at h ⊢
  simp only [List.any_append, List.any_cons, List.any_nil, Bool.or_false, Bool.or_eq_true] at h ⊢
  rcases h with h | h | h
  · left
    simp only [Bool.not_or, Bool.and_eq_true] at h
    exact h.1
  · exact Or.inr h
  · simp [letsB, bare] at h
theorem bare_allowed (l : List S54) (q : S54) (p o : S41) (n : Int) (h : allowedB (l ++ [bare q]) n p o = true) : allowedB l n p o = true := by
  unfold allowedB at h ⊢
  simp only [Bool.or_eq_true, Bool.and_eq_true] at h ⊢
  rcases h with h | ⟨h1, h2⟩
  · exact Or.inl h
  · exact Or.inr ⟨bare_open l q p o n true h1, bare_open l q o p n false h2⟩
theorem more_open (l : List S54) (q : S54) (p o : S41) (n : Int) (e : Bool) (h : isolatedB [q] p e = false) : openB (l ++ [q]) p o n e = openB l p o n e := by
  have hq : isoB p e q = false := by simpa [isolatedB] using h
  unfold openB isolatedB
  simp only [List.any_append, List.any_cons, List.any_nil, letsB, hq, Bool.false_and, Bool.or_false]
theorem more_allowed (l : List S54) (q : S54) (p o : S41) (n : Int) (h1 : isolatedB [q] p true = false) (h2 : isolatedB [q] o false = false) : allowedB (l ++ [q]) n p o = allowedB l n p o := by
  unfold allowedB
  rw [more_open l q p o n true h1, more_open l q o p n false h2]
theorem one_fits (q : S54) (hq : X54 q) : XL 248 X54 [q] := ⟨by simp, fun x hx => by rw [List.mem_singleton.1 hx]; exact hq⟩
theorem more_fits (l : List S54) (q : S54) (hl : XL 248 X54 l) (hq : X54 q) (h : l.length ≤ 10) : XL 248 X54 (l ++ [q]) := by
  refine ⟨by simp only [List.length_append, List.length_cons, List.length_nil]; omega, fun x hx => ?_⟩
  rcases List.mem_append.1 hx with hx | hx
  · exact hl.2 x hx
  · rw [List.mem_singleton.1 hx]; exact hq
theorem bare_fits (q : S54) (hq : X54 q) : X54 (bare q) := ⟨hq.1, hq.2.1, hq.2.2.1, hq.2.2.2.1, by simp [bare], by simp [bare]⟩
theorem with_ev (l : List S54) (m : Int) (r : S58) (hl : XL 248 X54 l) : Ev (fun k => orchestratorlaw57_with.f k l m r.f0 r.f1 r.f2) (withL m r l 0) := by
  unfold orchestratorlaw57_with.f
  have hn := len_of hl (by decide)
  have key : ∀ (d j : Nat) (acc : List S54), j + d = l.length → acc.length = j → Ev (fun k => orchestratorlaw57_with.l0 k l m acc (j : Int) r.f0 r.f1 r.f2) (acc ++ withL m r (l.drop j) (j : Int)) := by
    intro d
    induction d with
    | zero =>
      intro j acc hj ha
      have : j = l.length := by omega
      subst this
      refine Ev.step (fun k => rfl) ?_
      simp only [orchestratorlaw57_with.l0, Int.lt_irrefl, if_false, List.drop_length, withL, List.append_nil]
      exact Ev.now _
    | succ d ih =>
      intro j acc hj ha
      have hlt : j < l.length := by omega
      have h1 : (j : Int) < (l.length : Int) := by omega
      have hx := (hl.2 _ (List.getElem_mem hlt)).2.2.2.2.1
      have hb := hl.1
      have e2 : (rd_T54 l (j : Int)) = l[j] := rd54 hlt
      have ht := ih (j + 1) (acc ++ [if (j : Int) = m then addR r l[j] else l[j]]) (by omega) (by simp [ha])
      rw [List.append_assoc] at ht
      rw [List.drop_eq_getElem_cons hlt]
      have ec : ((j + 1 : Nat) : Int) = (j : Int) + 1 := by omega
      rw [ec] at ht
      refine Ev.step (fun k => rfl) ?_
      have hw := wrap_succ hlt (show l.length ≤ 4611686018427387904 by omega)
      rw [ec] at hw
      simp only [orchestratorlaw57_with.l0, if_pos h1, if_pos (show (0 : Int) ≤ (j : Int) by omega), e2, List.nil_append, List.length_nil, Nat.zero_add, Option.bind_some, if_pos (show l[j].f4.length < 2513169434916 by omega), if_pos (show acc.length < 567489872400 by omega), hw]
      by_cases hi : (j : Int) = m
      · rw [if_pos hi] at ht
        simp only [if_pos hi]
        rw [show withL m r (l[j] :: l.drop (j + 1)) (j : Int) = [addR r l[j]] ++ withL m r (l.drop (j + 1)) ((j : Int) + 1) by simp only [withL, if_pos hi]; rfl]
        exact ht
      · rw [if_neg hi] at ht
        simp only [if_neg hi]
        rw [show withL m r (l[j] :: l.drop (j + 1)) (j : Int) = [l[j]] ++ withL m r (l.drop (j + 1)) ((j : Int) + 1) by simp only [withL, if_neg hi]; rfl]
        exact ht
  have h := key l.length 0 [] (by omega) rfl
  simpa using h
theorem mono2 (l : List S54) (p o : S41) (n : Int) (q : S54) (is : Bool) (his : allowedB l n p o = is) (hl : XL 248 X54 l) (hp : X41 p) (ho : X41 o) (hq : X54 q) (h10 : l.length ≤ 10) : Ev (fun k => orchestratorlaw57_NetpolicyMonotone.j2 k l n is (l ++ [q]) false p.f0.f0 p.f0.f1 p.f0.f2 p.f0.f3 p.f0.f4 p.f0.f5 p.f0.f6 p.f0.f7 p.f0.f8 p.f0.f9 p.f0.f10 p.f0.f11 p.f0.f12 p.f1.f0 p.f1.f1 p.f1.f2 p.f1.f3 p.f1.f4 p.f1.f5 p.f1.f6 p.f1.f7 p.f1.f8 p.f1.f9 p.f2.f0 p.f2.f1 p.f2.f2 p.f2.f3 p.f2.f4 p.f2.f5 p.f2.f6 p.f2.f7 p.f2.f8 o.f0.f0 o.f0.f1 o.f0.f2 o.f0.f3 o.f0.f4 o.f0.f5 o.f0.f6 o.f0.f7 o.f0.f8 o.f0.f9 o.f0.f10 o.f0.f11 o.f0.f12 o.f1.f0 o.f1.f1 o.f1.f2 o.f1.f3 o.f1.f4 o.f1.f5 o.f1.f6 o.f1.f7 o.f1.f8 o.f1.f9 o.f2.f0 o.f2.f1 o.f2.f2 o.f2.f3 o.f2.f4 o.f2.f5 o.f2.f6 o.f2.f7 o.f2.f8 q.f0.f0 q.f0.f1 q.f0.f2 q.f0.f3 q.f0.f4 q.f0.f5 q.f0.f6 q.f0.f7 q.f0.f8 q.f0.f9 q.f0.f10 q.f0.f11 q.f0.f12 q.f1 q.f2 q.f3 q.f4) true := by
  refine Ev.step (fun k => rfl) ?_
  have e1 : (l.length : Int) < ((l ++ [q]).length : Int) := by simp only [List.length_append, List.length_cons, List.length_nil]; omega
  have e2 : ∀ z : S54, (l ++ [q]).set ((l.length : Int) : Int).toNat z = l ++ [z] := by intro z; simp
  simp only [orchestratorlaw57_NetpolicyMonotone.j2, Bool.false_eq_true, if_false, if_pos (show (0 : Int) ≤ (l.length : Int) by omega), if_pos e1, e2]
  refine Ev.bind lives_ev ?_
  simp only [if_true]
  cases is with
  | true => simp only [if_true]; exact Ev.now _
  | false =>
    simp only [Bool.false_eq_true, if_false]
    refine Ev.bind (allowed_ev (l ++ [bare q]) p o n (more_fits l (bare q) hl (bare_fits q hq) h10) hp ho) ?_
    have hf : allowedB (l ++ [bare q]) n p o = false := by
      cases hc : allowedB (l ++ [bare q]) n p o with
      | false => rfl
      | true => rw [bare_allowed l q p o n hc] at his; cases his
    rw [hf]
    simp only [Bool.false_eq_true, if_false]
    exact Ev.now _
theorem mono1 (l : List S54) (p o : S41) (n : Int) (q : S54) (is : Bool) (his : allowedB l n p o = is) (hl : XL 248 X54 l) (hp : X41 p) (ho : X41 o) (hq : X54 q) (h10 : l.length ≤ 10) : Ev (fun k => orchestratorlaw57_NetpolicyMonotone.j1 k l n is false p.f0.f0 p.f0.f1 p.f0.f2 p.f0.f3 p.f0.f4 p.f0.f5 p.f0.f6 p.f0.f7 p.f0.f8 p.f0.f9 p.f0.f10 p.f0.f11 p.f0.f12 p.f1.f0 p.f1.f1 p.f1.f2 p.f1.f3 p.f1.f4 p.f1.f5 p.f1.f6 p.f1.f7 p.f1.f8 p.f1.f9 p.f2.f0 p.f2.f1 p.f2.f2 p.f2.f3 p.f2.f4 p.f2.f5 p.f2.f6 p.f2.f7 p.f2.f8 o.f0.f0 o.f0.f1 o.f0.f2 o.f0.f3 o.f0.f4 o.f0.f5 o.f0.f6 o.f0.f7 o.f0.f8 o.f0.f9 o.f0.f10 o.f0.f11 o.f0.f12 o.f1.f0 o.f1.f1 o.f1.f2 o.f1.f3 o.f1.f4 o.f1.f5 o.f1.f6 o.f1.f7 o.f1.f8 o.f1.f9 o.f2.f0 o.f2.f1 o.f2.f2 o.f2.f3 o.f2.f4 o.f2.f5 o.f2.f6 o.f2.f7 o.f2.f8 q.f0.f0 q.f0.f1 q.f0.f2 q.f0.f3 q.f0.f4 q.f0.f5 q.f0.f6 q.f0.f7 q.f0.f8 q.f0.f9 q.f0.f10 q.f0.f11 q.f0.f12 q.f1 q.f2 q.f3 q.f4) true := by
  have h2 := mono2 l p o n q is his hl hp ho hq h10
  refine Ev.step (fun k => rfl) ?_
  simp only [orchestratorlaw57_NetpolicyMonotone.j1, Bool.false_eq_true, if_false, List.nil_append, List.length_nil, Nat.zero_add, if_pos (show l.length < 567489872400 by omega), Option.bind_some]
  refine Ev.bind (isolated_ev [q] p true (one_fits q hq) hp) ?_
  cases h3 : isolatedB [q] p true with
  | true => simp only [if_true]; exact h2
  | false =>
    simp only [Bool.false_eq_true, if_false]
    refine Ev.bind (isolated_ev [q] o false (one_fits q hq) ho) ?_
    cases h4 : isolatedB [q] o false with
    | true => simp only [if_true]; exact h2
    | false =>
      simp only [Bool.false_eq_true, if_false]
      refine Ev.bind (allowed_ev (l ++ [q]) p o n (more_fits l q hl hq h10) hp ho) ?_
      rw [more_allowed l q p o n h3 h4, his]
      simp only [bne_self_eq_false]
      exact h2
theorem mono0t (l : List S54) (p o : S41) (n m : Int) (q : S54) (r : S58) : Ev (fun k => orchestratorlaw57_NetpolicyMonotone.j0 k l n m true p.f0.f0 p.f0.f1 p.f0.f2 p.f0.f3 p.f0.f4 p.f0.f5 p.f0.f6 p.f0.f7 p.f0.f8 p.f0.f9 p.f0.f10 p.f0.f11 p.f0.f12 p.f1.f0 p.f1.f1 p.f1.f2 p.f1.f3 p.f1.f4 p.f1.f5 p.f1.f6 p.f1.f7 p.f1.f8 p.f1.f9 p.f2.f0 p.f2.f1 p.f2.f2 p.f2.f3 p.f2.f4 p.f2.f5 p.f2.f6 p.f2.f7 p.f2.f8 o.f0.f0 o.f0.f1 o.f0.f2 o.f0.f3 o.f0.f4 o.f0.f5 o.f0.f6 o.f0.f7 o.f0.f8 o.f0.f9 o.f0.f10 o.f0.f11 o.f0.f12 o.f1.f0 o.f1.f1 o.f1.f2 o.f1.f3 o.f1.f4 o.f1.f5 o.f1.f6 o.f1.f7 o.f1.f8 o.f1.f9 o.f2.f0 o.f2.f1 o.f2.f2 o.f2.f3 o.f2.f4 o.f2.f5 o.f2.f6 o.f2.f7 o.f2.f8 q.f0.f0 q.f0.f1 q.f0.f2 q.f0.f3 q.f0.f4 q.f0.f5 q.f0.f6 q.f0.f7 q.f0.f8 q.f0.f9 q.f0.f10 q.f0.f11 q.f0.f12 q.f1 q.f2 q.f3 q.f4 r.f0 r.f1 r.f2) true := by
  refine Ev.step (fun k => rfl) ?_
  simp only [orchestratorlaw57_NetpolicyMonotone.j0, if_true]
  refine Ev.bind lives_ev ?_
  simp only [if_true]
  exact Ev.now _
theorem mono0 (l : List S54) (p o : S41) (n m : Int) (q : S54) (r : S58) (hl : XL 248 X54 l) (hp : X41 p) (ho : X41 o) (hq : X54 q) (hr : X58 r) (h10 : l.length ≤ 10) (hs : ∀ x ∈ l, x.f4.length ≤ 10) : Ev (fun k => orchestratorlaw57_NetpolicyMonotone.j0 k l n m false p.f0.f0 p.f0.f1 p.f0.f2 p.f0.f3 p.f0.f4 p.f0.f5 p.f0.f6 p.f0.f7 p.f0.f8 p.f0.f9 p.f0.f10 p.f0.f11 p.f0.f12 p.f1.f0 p.f1.f1 p.f1.f2 p.f1.f3 p.f1.f4 p.f1.f5 p.f1.f6 p.f1.f7 p.f1.f8 p.f1.f9 p.f2.f0 p.f2.f1 p.f2.f2 p.f2.f3 p.f2.f4 p.f2.f5 p.f2.f6 p.f2.f7 p.f2.f8 o.f0.f0 o.f0.f1 o.f0.f2 o.f0.f3 o.f0.f4 o.f0.f5 o.f0.f6 o.f0.f7 o.f0.f8 o.f0.f9 o.f0.f10 o.f0.f11 o.f0.f12 o.f1.f0 o.f1.f1 o.f1.f2 o.f1.f3 o.f1.f4 o.f1.f5 o.f1.f6 o.f1.f7 o.f1.f8 o.f1.f9 o.f2.f0 o.f2.f1 o.f2.f2 o.f2.f3 o.f2.f4 o.f2.f5 o.f2.f6 o.f2.f7 o.f2.f8 q.f0.f0 q.f0.f1 q.f0.f2 q.f0.f3 q.f0.f4 q.f0.f5 q.f0.f6 q.f0.f7 q.f0.f8 q.f0.f9 q.f0.f10 q.f0.f11 q.f0.f12 q.f1 q.f2 q.f3 q.f4 r.f0 r.f1 r.f2) true := by
  have h1 := mono1 l p o n q _ rfl hl hp ho hq h10
  refine Ev.step (fun k => rfl) ?_
  simp only [orchestratorlaw57_NetpolicyMonotone.j0, Bool.false_eq_true, if_false]
  refine Ev.bind (allowed_ev l p o n hl hp ho) (Ev.ite (fun hz => ?_) (fun hz => h1))
  cases h3 : allowedB l n p o with
  | false =>
    rw [h3] at h1
    simp only [Bool.false_eq_true, if_false]
    exact h1
  | true =>
    rw [h3] at h1
    simp only [if_true, if_neg (show ¬ (l.length : Int) = 0 by omega)]
    refine Ev.bind (with_ev l _ r hl) ?_
    refine Ev.bind (allowed_ev _ p o n (with_fits _ r l 0 hl hr hs) hp ho) ?_
    rw [with_allowed _ r l 0 p o n h3]
    simp only [Bool.not_true]
    exact h1
theorem NetpolicyMonotone : orchestratorlaw57_NetpolicyMonotone.Pure := by
  intro l p o n q r m hl hp ho _ hq hr _
  refine Ev.rounds (g := fun k => orchestratorlaw57_NetpolicyMonotone.f k l p.f0.f0 p.f0.f1 p.f0.f2 p.f0.f3 p.f0.f4 p.f0.f5 p.f0.f6 p.f0.f7 p.f0.f8 p.f0.f9 p.f0.f10 p.f0.f11 p.f0.f12 p.f1.f0 p.f1.f1 p.f1.f2 p.f1.f3 p.f1.f4 p.f1.f5 p.f1.f6 p.f1.f7 p.f1.f8 p.f1.f9 p.f2.f0 p.f2.f1 p.f2.f2 p.f2.f3 p.f2.f4 p.f2.f5 p.f2.f6 p.f2.f7 p.f2.f8 o.f0.f0 o.f0.f1 o.f0.f2 o.f0.f3 o.f0.f4 o.f0.f5 o.f0.f6 o.f0.f7 o.f0.f8 o.f0.f9 o.f0.f10 o.f0.f11 o.f0.f12 o.f1.f0 o.f1.f1 o.f1.f2 o.f1.f3 o.f1.f4 o.f1.f5 o.f1.f6 o.f1.f7 o.f1.f8 o.f1.f9 o.f2.f0 o.f2.f1 o.f2.f2 o.f2.f3 o.f2.f4 o.f2.f5 o.f2.f6 o.f2.f7 o.f2.f8 n q.f0.f0 q.f0.f1 q.f0.f2 q.f0.f3 q.f0.f4 q.f0.f5 q.f0.f6 q.f0.f7 q.f0.f8 q.f0.f9 q.f0.f10 q.f0.f11 q.f0.f12 q.f1 q.f2 q.f3 q.f4 r.f0 r.f1 r.f2 m) ?_
  unfold orchestratorlaw57_NetpolicyMonotone.f
  obtain ⟨b, hb, hs⟩ := small_lim l hl
  refine Ev.bind hb (Ev.ite (fun h => Ev.ite (fun h2 => ?_) (fun h2 => ?_)) (fun h => ?_))
  · exact mono0t l p o n m q r
  · by_cases hm : m < 0
    · rw [decide_eq_true hm]
      exact mono0t l p o n m q r
    · rw [decide_eq_false hm]
      exact mono0 l p o n m q r hl hp ho hq hr (hs h).1 (hs h).2
  · exact mono0t l p o n m q r
end Go.Proofs.Ytkdikhonafbgdaa.Pure
