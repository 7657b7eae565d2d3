/- Part of a claim: see its row. Conditions: stated at each. -/
import Derived.Test.YthkdpkgkejdcgaaZEPBeg
namespace Go.Proofs.Ythkdpkgkejdcgaa.Pure
open Go.RowKit Go.Proofs.Ythkdpkgkejdcgaa.Q Go.Proofs.Ythkdpkgkejdcgaa.Opn Go.Proofs.YthkdpkgkejdcgaaW.PrintWords Go.Proofs.YthkdpkgkejdcgaaW.PrintLast Go.Proofs.YthkdpkgkejdcgaaW.PrintMore Go.Proofs.Ythkdpkgkejdcgaa.Pur
set_option linter.unusedVariables false
set_option linter.unusedSimpArgs false
def keepB (s : ByteArray) (l : List ByteArray) : List ByteArray := l.filter (fun x => !(x.toList == s.toList))
theorem keep_take (s : ByteArray) (l : List ByteArray) {j : Nat} (h : j < l.length) : keepB s (l.take (j + 1)) = keepB s (l.take j) ++ (if (l[j].toList == s.toList) = true then [] else [l[j]]) := by
  unfold keepB
  rw [List.take_succ_eq_append_getElem h, List.filter_append]
  by_cases hb : (l[j].toList == s.toList) = true
  · rw [if_pos hb]; simp [hb]
  · rw [if_neg hb]; simp [hb]
theorem del_loop (s : ByteArray) (l : List ByteArray) (hn : l.length ≤ 4611686018427387904) : ∀ (d : Nat) (x : List ByteArray) (i j : Nat), x.length = l.length → j + d = l.length → i ≤ j → x.take i = keepB s (l.take j) → x.drop j = l.drop j → Ev (fun k => slices_DeleteFunc_string_string_c24.l0 k x (i : Int) (j : Int) s) (keepB s l) := by
  intro d
  induction d with
  | zero =>
    intro x i j hx hj hi ht hd
    have : j = l.length := by omega
    subst this
    refine Ev.step (fun k => rfl) ?_
    simp only [slices_DeleteFunc_string_string_c24.l0, if_neg (show ¬ ((l.length : Int) < (x.length : Int)) by omega), if_pos (show (0 : Int) ≤ (i : Int) by omega), if_pos (show (i : Int) ≤ (x.length : Int) by omega), Int.toNat_natCast]
    refine Ev.eq (Ev.now _) ?_
    rw [List.take_append_of_le_length (by rw [List.length_take]; omega), List.take_take, Nat.min_self, ht, List.take_length]
  | succ d ih =>
    intro x i j hx hj hi ht hd
    have hlt : j < l.length := by omega
    have hltx : j < x.length := by omega
    have e1 : x[j] = l[j] := by
      have h := congrArg (fun z => z[0]?) hd
      simp only [List.getElem?_drop, Nat.add_zero] at h
      rw [List.getElem?_eq_getElem hltx, List.getElem?_eq_getElem hlt] at h
      exact Option.some.inj h
    have hd2 : x.drop (j + 1) = l.drop (j + 1) := by rw [← List.drop_drop, ← List.drop_drop, hd]
    refine Ev.step (fun k => rfl) ?_
    simp only [slices_DeleteFunc_string_string_c24.l0, if_pos (show (j : Int) < (x.length : Int) by omega), if_pos (show (0 : Int) ≤ (j : Int) by omega), if_pos (show (0 : Int) ≤ (i : Int) by omega), if_pos (show (i : Int) < (x.length : Int) by omega), rdS hltx, e1, deletion_Finish_1.f, Option.bind_some, Int.toNat_natCast, wrap_succ hlt hn, wrap_succ (show i < l.length by omega) hn]
    refine Ev.ite (fun hb => ?_) (fun hb => ?_)
    · refine ih x i (j + 1) hx (by omega) (by omega) ?_ hd2
      rw [keep_take s l hlt, if_pos hb, List.append_nil]
      exact ht
    · refine ih (x.set i l[j]) (i + 1) (j + 1) (by rw [List.length_set]; exact hx) (by omega) (by omega) ?_ ?_
      · rw [keep_take s l hlt, if_neg hb, ← ht, List.take_succ_eq_append_getElem (show i < (x.set i l[j]).length by rw [List.length_set]; omega)]
        simp [List.take_set_of_le]
      · rw [List.drop_set_of_lt (by omega)]
        exact hd2
theorem del_ev (s : ByteArray) (l : List ByteArray) (hn : l.length ≤ 4611686018427387904) : Ev (fun k => slices_DeleteFunc_string_string_c24.f k l s) (keepB s l) := by
  unfold slices_DeleteFunc_string_string_c24.f slices_IndexFunc_string_string_c24.f
  have h := indexFunc_ev ByteArray.empty l (fun x => x.toList == s.toList) (fun k i => slices_IndexFunc_string_string_c24.l0 k l (l.length : Int) i s) (fun k y => deletion_Finish_1.f y s) hn (fun k i => by simp only [slices_IndexFunc_string_string_c24.l0]; rfl) (fun y hy => Ev.now _)
  refine Ev.bind h ?_
  rcases idx_some (fun x => x.toList == s.toList) l 0 (by omega) with ⟨e, hall⟩ | ⟨j, hj, e, hp, hlt⟩
  · rw [e]
    simp only [if_true]
    refine Ev.eq (Ev.now _) ?_
    unfold keepB
    exact (List.filter_eq_self.2 (fun x hx => by simp only [hall x hx, Bool.not_false])).symm
  · rw [e]
    simp only [if_neg (show ¬ ((0 : Int) + (j : Int) = -1) by omega), Int.zero_add, wrap_succ hj hn]
    refine del_loop s l hn (l.length - (j + 1)) l j (j + 1) rfl (by omega) (by omega) ?_ rfl
    rw [keep_take s l hj, if_pos hp, List.append_nil]
    unfold keepB
    refine (List.filter_eq_self.2 (fun x hx => ?_)).symm
    obtain ⟨q, hq, rfl⟩ := List.mem_iff_getElem.1 hx
    rw [List.length_take] at hq
    have := hlt q (by omega) (by omega)
    simp only [List.getElem_take, this, Bool.not_false]
def finS (s : ByteArray) (o : S33) : S33 := ⟨⟨o.f0.f0, o.f0.f1, o.f0.f2, o.f0.f3, o.f0.f4, o.f0.f5, o.f0.f6, o.f0.f7, o.f0.f8, o.f0.f9, o.f0.f10, keepB s o.f0.f11, o.f0.f12⟩, o.f1, o.f2⟩
def finishB (o : S33) (s : ByteArray) : S33 × Int := if hasS o.f0.f11 s = true then (finS s o, 0) else (zeroO, 7)
theorem finish_ev (o : S33) (ho : X33 o) (s : ByteArray) : Ev (fun k => deletion_Finish.f k o.f0.f0 o.f0.f1 o.f0.f2 o.f0.f3 o.f0.f4 o.f0.f5 o.f0.f6 o.f0.f7 o.f0.f8 o.f0.f9 o.f0.f10 o.f0.f11 o.f0.f12 o.f1.f0 o.f1.f1 o.f1.f2 o.f1.f3 o.f1.f4 o.f2.f0 o.f2.f1 o.f2.f2 o.f2.f3 o.f2.f4 s) (RT (finishB o s)) := by
  have hn := len_of ho.1.2.2.2.2.2.2.2.2.2.2.2.1 (by decide)
  unfold deletion_Finish.f
  refine Ev.bind (contains_ev o.f0.f11 s (by omega)) (Ev.ite (fun h => ?_) (fun h => ?_))
  · refine Ev.bind (dclone_ev o ho) (Ev.bind (del_ev s o.f0.f11 (by omega)) ?_)
    exact Ev.eq (Ev.now _) (by simp only [finishB, h, if_true, RT, finS])
  · exact Ev.eq (Ev.now _) (by simp only [finishB, if_neg h, RT, zeroO])
def dueB (o : S33) (now : Int) : Bool := o.f0.f7 && (decide ((o.f0.f11.length : Int) = 0) && decide (now ≥ o.f0.f8))
theorem due_some (o : S33) (now : Int) : deletion_Due.f o.f0.f0 o.f0.f1 o.f0.f2 o.f0.f3 o.f0.f4 o.f0.f5 o.f0.f6 o.f0.f7 o.f0.f8 o.f0.f9 o.f0.f10 o.f0.f11 o.f0.f12 o.f1.f0 o.f1.f1 o.f1.f2 o.f1.f3 o.f1.f4 o.f2.f0 o.f2.f1 o.f2.f2 o.f2.f3 o.f2.f4 now = some (dueB o now) := by
  unfold deletion_Due.f dueB
  by_cases h : o.f0.f7 = true
  · by_cases h2 : (o.f0.f11.length : Int) = 0
    · rw [if_pos h, if_pos h2, h, decide_eq_true h2]; rfl
    · rw [if_pos h, if_neg h2, h, decide_eq_false h2]; rfl
  · rw [if_neg h, Bool.eq_false_iff.2 h]; rfl
theorem lives_ev : Ev (fun k => orchestratorlaw21_lives.f k) true := Ev.of (fun k => orchestratorlaw21_lives.mono k) (k := 20) (by decide +kernel)
theorem i64_at {o : S33} (ho : X33 o) (a b : Int) : I64 (delAt o (endB a b)) := by
  have h8 : I64 o.f0.f8 := ho.1.2.2.2.2.2.2.2.2.1
  have he := clB_le (clB a + clB b)
  unfold I64 at h8 ⊢
  unfold delAt endB
  by_cases h : o.f0.f7 = true
  · rw [if_pos h]
    by_cases h2 : clB (clB a + clB b) < o.f0.f8
    · rw [if_pos h2]; omega
    · rw [if_neg h2]; exact h8
  · rw [if_neg h]; omega
theorem begS_fits (o : S33) (ho : X33 o) (add : Bool) (name : ByteArray) (hname : SzOk name) (a b : Int) (hl : add = true → o.f0.f11.length < 16) : X33 (begS add name o a b) := by
  obtain ⟨⟨q0, q1, q2, q3, q4, q5, q6, q7, q8, q9, q10, q11, q12⟩, hv1, hv2⟩ := ho
  refine ⟨⟨q0, q1, q2, q3, q4, q5, q6, trivial, i64_at ⟨⟨q0, q1, q2, q3, q4, q5, q6, q7, q8, q9, q10, q11, q12⟩, hv1, hv2⟩ a b, q9, q10, ?_, q12⟩, hv1, hv2⟩
  cases add with
  | false => exact q11
  | true =>
    have h16 := hl rfl
    refine ⟨?_, fun x hx => ?_⟩
    · simp only [begS, if_true, List.length_append, List.length_cons, List.length_nil]; omega
    · simp only [begS, if_true] at hx
      rcases List.mem_append.1 hx with hx | hx
      · exact q11.2 x hx
      · rw [List.mem_singleton.1 hx]; exact hname
theorem begin_fits (o : S33) (ho : X33 o) (a b p : Int) (h : (beginB o a b p).2 = 0) : ∃ add name, (beginB o a b p).1 = begS add name o a b ∧ X33 (beginB o a b p).1 := by
  have one : ∀ name, SzOk name → (begO name o a b).2 = 0 → ∃ add name', (begO name o a b).1 = begS add name' o a b ∧ X33 (begO name o a b).1 := by
    intro name hname h0
    unfold begO begA at h0 ⊢
    by_cases hc : addB name o = true ∧ 16 ≤ o.f0.f11.length
    · rw [if_pos hc] at h0; simp at h0
    · rw [if_neg hc]
      exact ⟨_, _, rfl, begS_fits o ho _ name hname a b (fun ha => Nat.lt_of_not_le (fun h2 => hc ⟨ha, h2⟩))⟩
  unfold beginB at h ⊢
  by_cases h0 : p = 0
  · rw [if_pos h0] at h ⊢; exact one _ (by unfold SzOk; decide) h
  · rw [if_neg h0] at h ⊢
    by_cases h1 : p = 1
    · rw [if_pos h1] at h ⊢; exact one _ (by unfold SzOk; decide) h
    · rw [if_neg h1] at h ⊢
      by_cases h2 : p = 2
      · rw [if_pos h2] at h ⊢; exact one _ (by unfold SzOk; decide) h
      · rw [if_neg h2] at h; simp at h
theorem keep_le (s : ByteArray) (l : List ByteArray) : (keepB s l).length ≤ l.length := List.length_filter_le _ _
theorem finS_fits (o : S33) (ho : X33 o) (s : ByteArray) : X33 (finS s o) := by
  obtain ⟨⟨q0, q1, q2, q3, q4, q5, q6, q7, q8, q9, q10, q11, q12⟩, hv1, hv2⟩ := ho
  refine ⟨⟨q0, q1, q2, q3, q4, q5, q6, q7, q8, q9, q10, ⟨?_, fun x hx => q11.2 x (List.mem_filter.1 hx).1⟩, q12⟩, hv1, hv2⟩
  have := keep_le s o.f0.f11
  have := q11.1
  simp only [finS]
  omega
end Go.Proofs.Ythkdpkgkejdcgaa.Pure
