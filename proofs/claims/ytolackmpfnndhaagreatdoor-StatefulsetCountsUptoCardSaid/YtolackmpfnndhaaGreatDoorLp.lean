/- Stateful sets: the reference's pods of the ordinals; the steps of an ordered set. Conditions: stated at each. -/
import Derived.Test.YtolackmpfnndhaaGreatDoorLs
namespace Go.Proofs.YtolackmpfnndhaaGreatDoor.Ev
open Go Go.RowKit
set_option linter.unusedVariables false
set_option maxRecDepth 100000
noncomputable section
def z54 : Row := [.slice 61 [] (.fullq true)]
def prw (a0 : Row) (l : Rows) (i : Nat) : Row := match fnd a0 l (nmc (rStr a0 2) i) with
  | none => z54
  | some p => [.slice 61 [et 61 p] (.fullq false)]
theorem rat_append {A : List Row} {r : Row} {B : List Row} {i : Nat} (hA : A.length = i) : rAt (A ++ [r] ++ B) (i : Int) = r := by
  rw [rAt_nat, List.getD_eq_getElem?_getD, List.append_assoc, List.getElem?_append_right (by omega), hA, Nat.sub_self]
  rfl
theorem inner_val (a0 : Row) (ha : Br a0) (l : Rows) (hl : Brs l) (A : Rows) (i : Nat) (hA : A.length = i) (hi : i < 40) :
    D (fun k => iter (ref47_Pods.s6 k l 40 (i : Int) (et 41 (et 41 a0))) k (0, A ++ List.replicate (40 - i) z54)) (fun v => v = A ++ [prw a0 l i] ++ List.replicate (40 - (i + 1)) z54) := by
  have hlb := hl.1
  have hin : iIn (i : Int) 40 = true := decide_eq_true ⟨by omega, by omega⟩
  have e0 : ∀ j : Nat, bImp (iLt (j : Int) (rLen l)) (iIn (i : Int) 40) = true := fun j => bimp_2 _ hin
  have hn : nmc (rStr (et 41 (et 41 (et 41 a0))) 2) i = nmc (rStr a0 2) i := rfl
  refine D.loop (fun x : Int × Rows => ∃ j : Nat, j ≤ l.length ∧ x.1 = (j : Int) ∧
      ((fnd a0 (l.take j) (nmc (rStr a0 2) i) = none ∧ x.2 = A ++ List.replicate (40 - i) z54) ∨
       (∃ p, fnd a0 l (nmc (rStr a0 2) i) = some p ∧ x.2 = A ++ [[.slice 61 [et 61 p] (.fullq false)]] ++ List.replicate (40 - (i + 1)) z54))) (fun x => l.length - x.1.toNat) _ (fun x hx => ?_) _ ⟨0, Nat.zero_le _, rfl, Or.inl ⟨rfl, rfl⟩⟩
  obtain ⟨j0, R⟩ := x
  obtain ⟨j, hj, h1, h2⟩ := hx
  simp only at h1 h2
  subst h1
  refine D.tt (e0 j) ?_
  rcases h2 with ⟨hf, rfl⟩ | ⟨p, hf, rfl⟩
  · have hat : rAt (A ++ List.replicate (40 - i) z54) (i : Int) = z54 := at_mid hA hi
    by_cases hlt : j < l.length
    · have hjl : rAt l (j : Int) = l[j] := by rw [rAt_nat, List.getD_eq_getElem?_getD, List.getElem?_eq_getElem hlt]; rfl
      have hm : l[j] ∈ l := List.getElem_mem hlt
      have hinj : iIn (j : Int) (rLen l) = true := iin_nat hlt
      have hsn : fnd a0 (l.take (j + 1)) (nmc (rStr a0 2) i) = bif ctl a0 l[j] && sEq (rStr l[j] 2) (nmc (rStr a0 2) i) then some l[j] else none := by
        rw [List.take_succ_eq_append_getElem hlt, fnd_snoc, hf]; rfl
      refine D.tt (by show bIte (iLt (j : Int) (rLen l)) (iEq (rLen (rSl (rAt (A ++ List.replicate (40 - i) z54) (i : Int)) 0)) 0) false = true; rw [hat, show iLt (j : Int) (rLen l) = true from ilt_nat hlt]; rfl) (D.tt hinj ?_)
      refine D.bnd (q := fun v => v = ctl a0 l[j]) ?_ (fun c hc => ?_)
      · show D (fun k => (ref44_Controls.f k (et 27 (et 41 (et 41 a0))) (et 61 (rAt l (j : Int)))).eval) _
        rw [hjl]
        exact D.mono (ref44_Controls.val _ _ (Br.eta (hl.2 _ hm) _)) (fun v hv => hv.1)
      subst hc
      refine D.tt (bimp_2 _ hinj) ?_
      refine D.opt (q := fun v => ctl a0 l[j] = true → v = nmc (rStr a0 2) i) (fun _ => (rname_val47 _ (Br.eta (Br.eta (Br.eta ha _) _) _) i (by omega)).mono (fun v hv _ => hv)) (fun e h => by rw [e] at h; cases h) (fun n hnn => ?_)
      have key : bIte (ctl a0 l[j]) (sEq (rStr (rAt l (j : Int)) 2) n) false = (ctl a0 l[j] && sEq (rStr l[j] 2) (nmc (rStr a0 2) i)) := by
        rw [bIte_and, hjl]
        cases hc : ctl a0 l[j] with
        | true => rw [hnn hc]
        | false => rfl
      have stp : (iAdd .i64 (j : Int) 1) = ((j + 1 : Nat) : Int) := by rw [iAdd_in (by omega) (by omega)]; omega
      refine D.test (fun e => ?_) (fun e => D.ret ?_)
      · have e := key.symm.trans e
        refine D.tt hin (D.tt hinj (D.tt (by show rFull (rAt (A ++ List.replicate (40 - i) z54) (i : Int)) 0 = true; rw [hat]; rfl) (D.tt ?_ (D.tt hin (D.ret ?_)))))
        · show rOk 480 (rLen (rSl (rAt (A ++ List.replicate (40 - i) z54) (i : Int)) 0)) (rLen [et 61 (rAt l (j : Int))]) = true
          rw [hat]; exact rOk_of (n := 0) (m := 1) (by decide) (by decide) (by decide) rfl
        · show (∃ j' : Nat, j' ≤ l.length ∧ iAdd .i64 (j : Int) 1 = (j' : Int) ∧ _) ∧ l.length - (iAdd .i64 (j : Int) 1).toNat < l.length - ((j : Int)).toNat
          rw [stp]
          refine ⟨⟨j + 1, by omega, rfl, Or.inr ⟨l[j], ?_, ?_⟩⟩, by omega⟩
          · have : fnd a0 l (nmc (rStr a0 2) i) = (fnd a0 (l.take (j + 1)) (nmc (rStr a0 2) i)).or (fnd a0 (l.drop (j + 1)) (nmc (rStr a0 2) i)) := by
              have h := List.take_append_drop (j + 1) l
              unfold fnd
              rw [← List.find?_append, h]
            rw [this, hsn, e]; rfl
          · show rSet (A ++ List.replicate (40 - i) z54) (i : Int) [.slice 61 (rCat (rSl (rAt (A ++ List.replicate (40 - i) z54) (i : Int)) 0) [et 61 (rAt l (j : Int))]) (.fullq false)] = _
            rw [hat, set_mid hA hi, hjl]; rfl
      · have e := key.symm.trans e
        show (∃ j' : Nat, j' ≤ l.length ∧ iAdd .i64 (j : Int) 1 = (j' : Int) ∧ _) ∧ l.length - (iAdd .i64 (j : Int) 1).toNat < l.length - ((j : Int)).toNat
        rw [stp]
        refine ⟨⟨j + 1, by omega, rfl, Or.inl ⟨by rw [hsn, e]; rfl, rfl⟩⟩, by omega⟩
    · have : j = l.length := by omega
      subst this
      rw [List.take_length] at hf
      refine D.test (fun e => by rw [show bIte (iLt ((l.length : Nat) : Int) (rLen l)) (iEq (rLen (rSl (rAt (A ++ List.replicate (40 - i) z54) (i : Int)) 0)) 0) false = false from by rw [show iLt ((l.length : Nat) : Int) (rLen l) = false from ilt_nat' (by omega)]; rfl] at e; cases e) (fun _ => D.ret ?_)
      have e2 : 40 - i = (40 - (i + 1)) + 1 := by omega
      have es : prw a0 l i = z54 := by unfold prw; rw [hf]
      show A ++ List.replicate (40 - i) z54 = _
      rw [es, e2, List.replicate_succ]; simp
  · have hat : rAt (A ++ [[V.slice 61 [et 61 p] (.fullq false)]] ++ List.replicate (40 - (i + 1)) z54) (i : Int) = [.slice 61 [et 61 p] (.fullq false)] := rat_append hA
    refine D.test (fun e => ?_) (fun _ => D.ret ?_)
    · have e : bIte (iLt (j : Int) (rLen l)) (iEq (rLen (rSl (rAt (A ++ [[V.slice 61 [et 61 p] (.fullq false)]] ++ List.replicate (40 - (i + 1)) z54) (i : Int)) 0)) 0) false = true := e
      rw [hat, bIte_and] at e
      have := (Bool.and_eq_true_iff.1 e).2
      cases this
    · have es : prw a0 l i = [.slice 61 [et 61 p] (.fullq false)] := by unfold prw; rw [hf]
      show _ = A ++ [prw a0 l i] ++ List.replicate (40 - (i + 1)) z54
      rw [es]
theorem pods_val (a0 : Row) (ha : Br a0) (l : Rows) (hl : Brs l) : D (fun k => (ref47_Pods.f k a0 l).eval) (fun v => v = (List.range 40).map (prw a0 l)) := by
  refine D.tt (by kernel_rfl) (D.tt (by kernel_rfl) (D.bnd (q := fun v => v = (List.range 40).map (prw a0 l)) ?_ (fun r hr => ?_)))
  · refine D.loop (p := fun v => v = (List.range 40).map (prw a0 l)) (fun x : Int × Rows => ∃ i : Nat, i ≤ 40 ∧ x = ((i : Int), (List.range i).map (prw a0 l) ++ List.replicate (40 - i) z54)) (fun x => 40 - x.1.toNat) (fun x hx => ?_) _ ⟨0, Nat.zero_le _, rfl⟩
    obtain ⟨i, hi, rfl⟩ := hx
    by_cases h40 : i < 40
    · refine D.tt (iLt_iff.2 (by show (i : Int) < 40; omega)) (D.bnd (inner_val a0 ha l hl ((List.range i).map (prw a0 l)) i (by simp) h40) (fun R hR => D.ret ?_))
      subst hR
      show (∃ j : Nat, j ≤ 40 ∧ (iAdd .i64 (i : Int) 1, _) = ((j : Int), (List.range j).map (prw a0 l) ++ List.replicate (40 - j) z54)) ∧ 40 - (iAdd .i64 (i : Int) 1).toNat < 40 - ((i : Int)).toNat
      rw [iAdd_in (by omega) (by omega)]
      refine ⟨⟨i + 1, by omega, ?_⟩, by omega⟩
      rw [List.range_succ, List.map_append]; rfl
    · have : i = 40 := by omega
      subst this
      refine D.test (fun e => by have := iLt_iff.1 e; simp at this) (fun _ => D.ret ?_)
      show (List.range 40).map (prw a0 l) ++ List.replicate (40 - 40) z54 = _
      simp
  · subst hr
    refine D.ret ?_
    show rTake ((List.range 40).map (prw a0 l)) 40 = _
    unfold rTake
    rw [List.take_of_length_le (by simp)]
end
end Go.Proofs.YtolackmpfnndhaaGreatDoor.Ev
