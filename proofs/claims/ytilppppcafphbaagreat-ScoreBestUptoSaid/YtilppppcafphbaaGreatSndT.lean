/- A function that fills a map, walks over it, and sorts what it has gathered. Conditions: stated at each. -/
import Derived.Test.YtilppppcafphbaaGreatSndS
namespace Go.Proofs.YtilppppcafphbaaGreat.Ev
open Go Go.RowKit
set_option linter.unusedVariables false
set_option linter.unusedSimpArgs false
variable {P : Program}
/-- What holds behind the first statements holds of all. -/
theorem goes_cut {C : Cx} (hC : CxOk C) {S : Subs} {Q : Exit → Act → World → Prop} {w0 : World} {F0 : Fz} : ∀ (n : Nat) (c : Code), Loops (LoopOk C.P S) (headC n c) → ∀ {s s' : St}, (codeV C S (headC n c) s).eval = some (.normal, s') →
    (∀ E a, Inv C.P w0 F0 E → FS C.P E a s'.ts → E.hs = s'.hs → (tailC n c).wp C.P Q a E.w) → ∀ E a, Inv C.P w0 F0 E → FS C.P E a s.ts → E.hs = s.hs → c.wp C.P Q a E.w := by
  have base : ∀ (c : Code) {s s' : St}, (codeV C S .skip s).eval = some (.normal, s') → (∀ E a, Inv C.P w0 F0 E → FS C.P E a s'.ts → E.hs = s'.hs → c.wp C.P Q a E.w) → ∀ E a, Inv C.P w0 F0 E → FS C.P E a s.ts → E.hs = s.hs → c.wp C.P Q a E.w := by
    intro c s s' h hK E a hI hf hh
    simp [codeV, T.eval] at h
    subst h
    exact hK E a hI hf hh
  intro n
  induction n with
  | zero =>
    intro c hl s s' h hK
    exact base c (by cases c <;> exact h) (by cases c <;> exact hK)
  | succ n ih =>
    intro c hl s s' h hK
    cases c with
    | seq a b =>
      have h : (codeV C S (.seq a (headC n b)) s).eval = some (.normal, s') := h
      unfold codeV at h
      obtain ⟨⟨y, s1⟩, h1, h2⟩ := T.eval_bind _ _ h
      intro E act hI hf hh
      refine wp_seq (wp_mono (codeV_sound hC hl.1 h1 E act hI hf hh) ?_)
      rintro e a' w' ⟨E', rfl, rfl, q1, q2, q3⟩
      cases y with
      | normal => exact ih b hl.2 h2 hK E' a' q1 q2 q3
      | exit id => simp [T.eval] at h2
      | ret => simp [T.eval] at h2
    | _ => exact base _ h hK
/-- What stays known of a state in the tail: the map, the slice, the walk. -/
def wkS (s : St) : St := ⟨(((List.replicate 118 V.dead).set 9 (getV s.ts 9)).set 18 (getV s.ts 18)).set 103 (getV s.ts 103), bif Nat.beq s.ts.length 118 then s.hs else []⟩
def wkX (p : X × St) : X × St := (p.1, wkS p.2)
def stA (tm : Nat) (r : Rows) (it : Option (List Nat)) (x : V) (b : Option Blk) : St :=
  ⟨(((List.replicate 118 V.dead).set 9 (.mref 23)).set 18 x).set 103 (match it with | none => .dead | some _ => .it 103 23),
   (((List.replicate 118 none).set 23 (some (.obj (.mp tm r)))).set 103 (match it with | none => none | some s => some (.obj (.it 23 (rLen r) s)))).set 114 b⟩
theorem FS.weak {E : En} {a : Act} {ts us : List V} (h : FS P E a ts) (hl : us.length = ts.length) (hw : ∀ t, getV us t = getV ts t ∨ getV us t = .dead) : FS P E a us :=
  ⟨h.defers, by rw [hl]; exact h.size, fun t => by
    rcases hw t with e | e
    · rw [e]; exact h.vals t
    · rw [e]; exact .dead _⟩
theorem getV_rep (n t : Nat) : getV (List.replicate n V.dead) t = .dead := by
  unfold getV
  rw [List.getD_eq_getElem?_getD, List.getElem?_replicate]
  split <;> rfl
theorem wk_fs {E : En} {a : Act} {s : St} (h : FS P E a s.ts) (hl : s.ts.length = 118) : FS P E a (wkS s).ts := by
  refine h.weak (by simp [wkS, hl]) (fun t => ?_)
  simp only [wkS, getV_set, List.length_set, List.length_replicate, getV_rep]
  by_cases h1 : t = 103
  · left; simp [h1]
  · by_cases h2 : t = 18
    · left; simp [h2]
    · by_cases h3 : t = 9
      · left; simp [h3]
      · right; simp [h1, h2, h3]
def rwOf (q : Row) : Row := [.str (rStr q 0), .int .i64 (rInt (q.drop 1) 0)]
/-- What a call ends with. -/
def endT (C : Cx) (fn : Func) (r : X × St) : T V :=
  match r with
  | (.exit _, _) => .fail
  | (_, s) => ofOpt (((resV C.P (frzL C.P endId C.fz s) fn.results.toList).bind (normAs C.P (fn.resultTypes.toList.map .t))).map oneV)
/-- The parts of the tail. -/
def seqL : Code → Code
  | .seq a _ => a
  | c => c
def seqR : Code → Code
  | .seq _ b => b
  | c => c
def inC : Code → Code
  | .block _ c => c
  | .loop c => c
  | c => c
def opAt (c : Code) (i : Nat) : Oper :=
  match c with
  | .region _ ops _ => ops.getD i default
  | _ => default
def callTys : Op → Array TypeId
  | .call c => c.argTypes
  | _ => #[]
def idAt : Code → Nat
  | .region id _ _ => id
  | _ => 0
/-- What is asked of the function: its first statements fill the map, its tail walks over it, gathers, sorts. -/
structure CntOk (C : Cx) (S : Subs) (fn : Func) (pts : List PT) (g : List V → T Rows) (tm te by_ fs cl : Nat) : Prop where
  ntmps : fn.ntmps = 118
  loops : Loops (LoopOk C.P S) (headC 6 (bodyF fn))
  pre : ∀ l, codeV C S (headC 6 (bodyF fn)) (startV 118 (canonAs C.P pts 0 l)) = mapT (fun r => (X.normal, stA tm r none .dead none)) (g l)
  code : tailC 6 (bodyF fn) = (let K := tailC 6 (bodyF fn); let LB := inC (inC (seqR (seqL (seqR K))));
    .seq (seqL K) (.seq (.seq (seqL (seqL (seqR K))) (.block 4 (.loop (.seq (.region (idAt (seqL LB)) #[opAt (seqL LB) 0, opAt (seqL LB) 1] false) (.seq (.cond (.tmp 105) .skip (.exit 4)) (.block 5 (inC (seqR (seqR LB)))))))))
      (.seq (.region (idAt (seqL (seqR (seqR K)))) #[opAt (seqL (seqR (seqR K))) 0, opAt (seqL (seqR (seqR K))) 1] false) (.seq (seqL (seqR (seqR (seqR K)))) .ret))))
  op1 : let o := opAt (seqL (inC (inC (seqR (seqL (seqR (tailC 6 (bodyF fn)))))))) 0; o.op = .next (.tmp 103) false ∧ o.dst = some 104 ∧ o.guard = none
  op2 : let o := opAt (seqL (inC (inC (seqR (seqL (seqR (tailC 6 (bodyF fn)))))))) 1; o.op = .extract (.tmp 104) 0 ∧ o.dst = some 105 ∧ o.guard = none
  op3 : let o := opAt (seqL (seqR (seqR (tailC 6 (bodyF fn))))) 0; o.op = .move (.tmp 18) ∧ o.dst = some 115 ∧ o.guard = none
  op4 : let o := opAt (seqL (seqR (seqR (tailC 6 (bodyF fn))))) 1; o.op = .call ⟨.value (.func fs), #[.tmp 115, .func cl], callTys o.op⟩ ∧ o.dst = some 116 ∧ o.guard = none
  ini : ∀ r, mapT wkX (codeV ⟨C.P, C.fn, [114], [(endId, 114)], C.fm⟩ S (.seq (seqL (tailC 6 (bodyF fn))) (seqL (seqL (seqR (tailC 6 (bodyF fn)))))) (stA tm r none .dead none)) = .ret (.normal, stA tm r (some []) .nils none)
  lp1 : ∀ r seen, mapT wkX (codeV ⟨C.P, C.fn, [114], [(endId, 114)], C.fm⟩ S (inC (seqR (seqR (inC (inC (seqR (seqL (seqR (tailC 6 (bodyF fn)))))))))) (stA tm r (some seen) .nils none)) =
    .test (bAnd (iEq (rLen r) (rLen r)) (iIn (lastI seen) (rLen r))) (.test (rOk by_ 0 (rLen [rwOf (rAt r (lastI seen))])) (.ret (.normal, stA tm r (some seen) (.aref te 114 0 none (rLen [rwOf (rAt r (lastI seen))])) (some (.arr te 0 [rwOf (rAt r (lastI seen))])))) .fail) .fail
  lp2 : ∀ r seen out, mapT wkX (codeV ⟨C.P, C.fn, [114], [(endId, 114)], C.fm⟩ S (inC (seqR (seqR (inC (inC (seqR (seqL (seqR (tailC 6 (bodyF fn)))))))))) (stA tm r (some seen) (.aref te 114 0 none (rLen out)) (some (.arr te 0 out)))) =
    .test (bAnd (iEq (rLen r) (rLen r)) (iIn (lastI seen) (rLen r))) (.test (rOk by_ (rLen out) (rLen [rwOf (rAt r (lastI seen))])) (.ret (.normal, stA tm r (some seen) (.aref te 114 1 none (rLen (rCat (rTake out (rLen out)) [rwOf (rAt r (lastI seen))]))) (some (.arr te 1 (rCat (rTake out (rLen out)) [rwOf (rAt r (lastI seen))]))))) .fail) .fail
  fin1 : ∀ r seen, (codeV ⟨C.P, C.fn, [114], [(endId, 114)], C.fm⟩ S (.seq (seqL (seqR (seqR (seqR (tailC 6 (bodyF fn)))))) .ret) (stA tm r (some seen) .nils none)).bind (endT ⟨C.P, C.fn, [114], [(endId, 114)], C.fm⟩ fn) = .ret (.slice te [] .open)
  fin2 : ∀ r seen out, (codeV ⟨C.P, C.fn, [114], [(endId, 114)], C.fm⟩ S (.seq (seqL (seqR (seqR (seqR (tailC 6 (bodyF fn)))))) .ret) (stA tm r (some seen) (.aref te 114 0 none (rLen out)) (some (.arr te 0 out)))).bind (endT ⟨C.P, C.fn, [114], [(endId, 114)], C.fm⟩ fn) = .ret (.slice te (rTake out (rLen out)) .open)
  noLoop : Loops (LoopOk C.P S) (seqL (tailC 6 (bodyF fn))) ∧ Loops (LoopOk C.P S) (seqL (seqL (seqR (tailC 6 (bodyF fn))))) ∧ Loops (LoopOk C.P S) (inC (seqR (seqR (inC (inC (seqR (seqL (seqR (tailC 6 (bodyF fn)))))))))) ∧ Loops (LoopOk C.P S) (seqL (seqR (seqR (seqR (tailC 6 (bodyF fn))))))
end Go.Proofs.YtilppppcafphbaaGreat.Ev
