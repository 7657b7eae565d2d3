/- Part of a claim: see its row. Conditions: stated at each. -/
import Derived.Test.YthkdpkgkejdcgaaZEQ7
import Derived.Test.YthkdpkgkejdcgaaZEQ10
import Derived.Test.YthkdpkgkejdcgaaZEPClo
namespace Go.Proofs.Ythkdpkgkejdcgaa.Pure
open Go.RowKit Go.Proofs.Ythkdpkgkejdcgaa.Q Go.Proofs.Ythkdpkgkejdcgaa.Opn Go.Proofs.YthkdpkgkejdcgaaW.PrintWords Go.Proofs.YthkdpkgkejdcgaaW.PrintLast Go.Proofs.YthkdpkgkejdcgaaW.PrintMore Go.Proofs.Ythkdpkgkejdcgaa.Pur
set_option linter.unusedVariables false
set_option linter.unusedSimpArgs false
theorem bite {β : Type} {c : Prop} [Decidable c] (x y : Option β) : (if c then x else y) = ((some (decide c)).bind fun t => if t = true then x else y) := by
  by_cases h : c <;> simp [h]
def hasS (l : List ByteArray) (a : ByteArray) : Bool := l.any (fun x => decide (a.toList = x.toList))
theorem contains_ev (l : List ByteArray) (a : ByteArray) (hl : l.length ≤ 4611686018427387904) : Ev (fun k => slices_Contains_string_string.f k l a) (hasS l a) := by
  unfold slices_Contains_string_string.f slices_Index_string_string.f hasS
  refine Ev.bind (firstOf_ev ByteArray.empty l (fun x => decide (a.toList = x.toList)) (fun i _ => i) (-1) (fun k i => slices_Index_string_string.l0 k l a (l.length : Int) i) (fun _ x => some (decide (a.toList = x.toList))) hl (fun k j hj => ?_) (fun k => ?_) (fun y _ => Ev.now _)) ?_
  · have h1 : (j : Int) < (l.length : Int) := by omega
    simp only [slices_Index_string_string.l0, if_pos h1, if_pos (show (0 : Int) ≤ (j : Int) by omega), rdS hj]
    exact bite _ _
  · simp only [slices_Index_string_string.l0, Int.lt_irrefl, if_false]
  · rw [firstOf_idx]
    exact Ev.eq (Ev.now _) (idx_ge _ _ _ (by omega))
def zeroO : S33 := ⟨⟨⟨#[]⟩, ⟨#[]⟩, ⟨#[]⟩, 0, 0, 0, 0, false, 0, [], [], [], []⟩, ⟨0, 0, ⟨#[]⟩, [], []⟩, ⟨0, 0, ⟨#[]⟩, [], []⟩⟩
def RT (p : S33 × Int) := (p.1.f0.f0, p.1.f0.f1, p.1.f0.f2, p.1.f0.f3, p.1.f0.f4, p.1.f0.f5, p.1.f0.f6, p.1.f0.f7, p.1.f0.f8, p.1.f0.f9, p.1.f0.f10, p.1.f0.f11, p.1.f0.f12, p.1.f1.f0, p.1.f1.f1, p.1.f1.f2, p.1.f1.f3, p.1.f1.f4, p.1.f2.f0, p.1.f2.f1, p.1.f2.f2, p.1.f2.f3, p.1.f2.f4, p.2)
def clB (n : Int) : Int := mn (mx n 0) 1000000000000
theorem clB_le (n : Int) : 0 ≤ clB n ∧ clB n ≤ 1000000000000 := by unfold clB; rw [mn_eq, mx_eq]; omega
def endB (now grace : Int) : Int := clB (clB now + clB grace)
def delAt (o : S33) (e : Int) : Int := if o.f0.f7 = true then (if e < o.f0.f8 then e else o.f0.f8) else e
def begS (add : Bool) (name : ByteArray) (o : S33) (now grace : Int) : S33 := ⟨⟨o.f0.f0, o.f0.f1, o.f0.f2, o.f0.f3, o.f0.f4, o.f0.f5, o.f0.f6, true, delAt o (endB now grace), o.f0.f9, o.f0.f10, if add = true then o.f0.f11 ++ [name] else o.f0.f11, o.f0.f12⟩, o.f1, o.f2⟩
def begA (add : Bool) (name : ByteArray) (o : S33) (now grace : Int) : S33 × Int := if add = true ∧ 16 ≤ o.f0.f11.length then (zeroO, 15) else (begS add name o now grace, 0)
theorem beg2_ev (o : S33) (ho : X33 o) (name : ByteArray) (now grace : Int) (add : Bool) (hl : add = true → o.f0.f11.length < 16) : Ev (fun k => deletion_Begin.j2 k now grace name add false o.f0.f0 o.f0.f1 o.f0.f2 o.f0.f3 o.f0.f4 o.f0.f5 o.f0.f6 o.f0.f7 o.f0.f8 o.f0.f9 o.f0.f10 o.f0.f11 o.f0.f12 o.f1.f0 o.f1.f1 o.f1.f2 o.f1.f3 o.f1.f4 o.f2.f0 o.f2.f1 o.f2.f2 o.f2.f3 o.f2.f4) (RT (begS add name o now grace, 0)) := by
  have hw : wrap64 (clB now + clB grace) = clB now + clB grace := wrap_id (by have := clB_le now; have := clB_le grace; omega) (by have := clB_le now; have := clB_le grace; omega)
  refine Ev.step (fun k => rfl) ?_
  simp only [deletion_Begin.j2, Bool.false_eq_true, if_false]
  refine Ev.bind (dclone_ev o ho) ?_
  simp only [deletion_clamp.f, Option.bind_some]
  have key : ∀ c : Bool, (c = true → delAt o (endB now grace) = endB now grace) → (c = false → delAt o (endB now grace) = o.f0.f8) → Ev (fun k => deletion_Begin.j3 k name add (endB now grace) c o.f0.f0 o.f0.f1 o.f0.f2 o.f0.f3 o.f0.f4 o.f0.f5 o.f0.f6 o.f0.f7 o.f0.f8 o.f0.f9 o.f0.f10 o.f0.f11 o.f0.f12 o.f1.f0 o.f1.f1 o.f1.f2 o.f1.f3 o.f1.f4 o.f2.f0 o.f2.f1 o.f2.f2 o.f2.f3 o.f2.f4) (RT (begS add name o now grace, 0)) := by
    intro c h1 h2
    refine Ev.step (fun k => rfl) ?_
    simp only [deletion_Begin.j3]
    cases add with
    | true =>
      have hl' := hl rfl
      cases c with
      | true => simp only [if_true, if_pos (show o.f0.f11.length < 8796093022208 by omega)]; exact Ev.eq (Ev.now _) (by simp only [RT, begS, h1 rfl, if_true])
      | false => simp only [Bool.false_eq_true, if_false, if_true, if_pos (show o.f0.f11.length < 8796093022208 by omega)]; exact Ev.eq (Ev.now _) (by simp only [RT, begS, h2 rfl, if_true])
    | false =>
      cases c with
      | true => simp only [Bool.false_eq_true, if_false, if_true]; exact Ev.eq (Ev.now _) (by simp only [RT, begS, h1 rfl, Bool.false_eq_true, if_false])
      | false => simp only [Bool.false_eq_true, if_false]; exact Ev.eq (Ev.now _) (by simp only [RT, begS, h2 rfl, Bool.false_eq_true, if_false])
  have he : mn (mx (wrap64 (mn (mx now 0) 1000000000000 + mn (mx grace 0) 1000000000000)) 0) 1000000000000 = endB now grace := by
    show clB (wrap64 (clB now + clB grace)) = endB now grace
    rw [hw]; rfl
  simp only [he]
  refine Ev.ite (fun h => ?_) (fun h => ?_)
  · by_cases hc : endB now grace < o.f0.f8
    · rw [decide_eq_true hc]; exact key true (fun _ => by simp only [delAt, h, if_true, if_pos hc]) (fun e => by cases e)
    · rw [decide_eq_false hc]; exact key false (fun e => by cases e) (fun _ => by simp only [delAt, h, if_true, if_neg hc])
  · exact key true (fun _ => by simp only [delAt, if_neg h]) (fun e => by cases e)
theorem beg1_ev (o : S33) (ho : X33 o) (name : ByteArray) (now grace : Int) (add : Bool) : Ev (fun k => deletion_Begin.j1 k now grace name add o.f0.f0 o.f0.f1 o.f0.f2 o.f0.f3 o.f0.f4 o.f0.f5 o.f0.f6 o.f0.f7 o.f0.f8 o.f0.f9 o.f0.f10 o.f0.f11 o.f0.f12 o.f1.f0 o.f1.f1 o.f1.f2 o.f1.f3 o.f1.f4 o.f2.f0 o.f2.f1 o.f2.f2 o.f2.f3 o.f2.f4) (RT (begA add name o now grace)) := by
  refine Ev.step (fun k => rfl) ?_
  simp only [deletion_Begin.j1]
  cases add with
  | true =>
    simp only [if_true]
    by_cases hc : 16 ≤ o.f0.f11.length
    · rw [decide_eq_true (show (o.f0.f11.length : Int) ≥ 16 by omega)]
      refine Ev.step (fun k => rfl) ?_
      simp only [deletion_Begin.j2, if_true]
      exact Ev.eq (Ev.now _) (by simp only [RT, begA, hc, and_self, if_true, zeroO])
    · rw [decide_eq_false (show ¬ (o.f0.f11.length : Int) ≥ 16 by omega)]
      exact Ev.eq (beg2_ev o ho name now grace true (fun _ => by omega)) (by simp only [begA, hc, and_false, if_false])
  | false =>
    simp only [Bool.false_eq_true, if_false]
    exact Ev.eq (beg2_ev o ho name now grace false (fun e => by cases e)) (by simp only [begA, Bool.false_eq_true, false_and, if_false])
def addB (name : ByteArray) (o : S33) : Bool := !decide (name.toList = ([] : List UInt8)) && !hasS o.f0.f11 name
def begO (name : ByteArray) (o : S33) (now grace : Int) : S33 × Int := begA (addB name o) name o now grace
theorem beg0_ev (o : S33) (ho : X33 o) (name : ByteArray) (now grace : Int) : Ev (fun k => deletion_Begin.j0 k now grace name o.f0.f0 o.f0.f1 o.f0.f2 o.f0.f3 o.f0.f4 o.f0.f5 o.f0.f6 o.f0.f7 o.f0.f8 o.f0.f9 o.f0.f10 o.f0.f11 o.f0.f12 o.f1.f0 o.f1.f1 o.f1.f2 o.f1.f3 o.f1.f4 o.f2.f0 o.f2.f1 o.f2.f2 o.f2.f3 o.f2.f4) (RT (begO name o now grace)) := by
  have hn := len_of ho.1.2.2.2.2.2.2.2.2.2.2.2.1 (by decide)
  refine Ev.step (fun k => rfl) ?_
  simp only [deletion_Begin.j0]
  refine Ev.ite (fun h => ?_) (fun h => ?_)
  · exact Ev.eq (beg1_ev o ho name now grace false) (by simp only [begO, addB, h, decide_true, Bool.not_true, Bool.false_and])
  · refine Ev.bind (contains_ev o.f0.f11 name (by omega)) ?_
    exact Ev.eq (beg1_ev o ho name now grace _) (by simp only [begO, addB, h, decide_false, Bool.not_false, Bool.true_and])
def fgB : ByteArray := ⟨#[102, 111, 114, 101, 103, 114, 111, 117, 110, 100, 45, 100, 101, 108, 101, 116, 105, 111, 110]⟩
def orB : ByteArray := ⟨#[111, 114, 112, 104, 97, 110, 45, 100, 101, 112, 101, 110, 100, 101, 110, 116, 115]⟩
def beginB (o : S33) (now grace p : Int) : S33 × Int := if p = 0 then begO ⟨#[]⟩ o now grace else if p = 1 then begO fgB o now grace else if p = 2 then begO orB o now grace else (zeroO, 5)
theorem begin_ev (o : S33) (ho : X33 o) (now grace p : Int) : Ev (fun k => deletion_Begin.f k o.f0.f0 o.f0.f1 o.f0.f2 o.f0.f3 o.f0.f4 o.f0.f5 o.f0.f6 o.f0.f7 o.f0.f8 o.f0.f9 o.f0.f10 o.f0.f11 o.f0.f12 o.f1.f0 o.f1.f1 o.f1.f2 o.f1.f3 o.f1.f4 o.f2.f0 o.f2.f1 o.f2.f2 o.f2.f3 o.f2.f4 now grace p) (RT (beginB o now grace p)) := by
  unfold deletion_Begin.f beginB
  refine Ev.ite (fun h => ?_) (fun h => ?_)
  · rw [if_pos h]; exact beg0_ev o ho _ now grace
  · rw [if_neg h]
    refine Ev.ite (fun h2 => ?_) (fun h2 => ?_)
    · rw [if_pos h2]; exact beg0_ev o ho _ now grace
    · rw [if_neg h2]
      refine Ev.ite (fun h3 => ?_) (fun h3 => ?_)
      · rw [if_pos h3]; exact beg0_ev o ho _ now grace
      · rw [if_neg h3]; exact Ev.now _
end Go.Proofs.Ythkdpkgkejdcgaa.Pure
