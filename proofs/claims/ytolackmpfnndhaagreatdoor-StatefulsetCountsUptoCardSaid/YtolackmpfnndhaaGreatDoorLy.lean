/- Stateful sets: the law StatefulsetPlans; integer arguments. Conditions: stated at each. -/
import Derived.Test.YtolackmpfnndhaaGreatDoorLr
import Derived.Test.YtolackmpfnndhaaGreatDoorEp0
namespace Go.Proofs.YtolackmpfnndhaaGreatDoor.Ev
open Go Go.RowKit
set_option linter.unusedVariables false
set_option maxRecDepth 100000
noncomputable section
theorem heavy_any (a0 : Row) (l : Rows) (hl : Brs l) : D (fun k => (law47_heavy.f k a0 l).eval) (fun _ => True) := D.mono (law47_heavy.val a0 l hl) (fun _ _ => trivial)
theorem awake_true : (law47_awake.f 1000).eval = some true := by kernel_rfl
theorem lv_true : D (fun k => (law47_lv.f k).eval) (fun v => v = true) := ⟨true, rfl, 0, fun k _ => awake_true⟩
/-- An integer argument lies in its kind's range. -/
theorem arg_wf {P : Program} {W : World} {n t : Nat} {K : IntKind} (hu : P.underlying t = some (.int K)) (hc : ctsF P t = [t]) {m : Int} {r : Row} (h : Opened P true W n t (Value.int K m).cells.toList r) : (Lit.int K m).wf = true := by
  obtain ⟨h1, h2, h3⟩ := h
  rw [show (Value.int K m).cells.toList = [.int K m] from rfl] at h1 h3
  match r, h1 with
  | [x], _ =>
    have h4 := h2.2 0 x t rfl (by rw [hc]; rfl)
    cases n with
    | zero => exact h4.elim
    | succ n =>
      unfold CellOk at h4
      rw [hu] at h4
      obtain ⟨m', rfl, h5⟩ := h4
      have e := rep_int_inv (h3 0 _ _ rfl rfl)
      injection e with _ e
      subst e
      exact h5
theorem arg_i64 {P : Program} {W : World} {n t : Nat} (hu : P.underlying t = some (.int .i64)) (hc : ctsF P t = [t]) {m : Int} {r : Row} (h : Opened P true W n t (Value.int .i64 m).cells.toList r) : -9223372036854775808 ≤ m ∧ m ≤ 9223372036854775807 := by
  have h6 : (decide ((-9223372036854775808 : Int) ≤ m) && decide (m ≤ 9223372036854775807)) = true := arg_wf hu hc h
  rw [Bool.and_eq_true] at h6
  exact ⟨of_decide_eq_true h6.1, of_decide_eq_true h6.2⟩
theorem arg_u8 {P : Program} {W : World} {n t : Nat} (hu : P.underlying t = some (.int .u8)) (hc : ctsF P t = [t]) {m : Int} {r : Row} (h : Opened P true W n t (Value.int .u8 m).cells.toList r) : 0 ≤ m ∧ m ≤ 255 := by
  have h6 : (decide ((0 : Int) ≤ m) && decide (m ≤ 255)) = true := arg_wf hu hc h
  rw [Bool.and_eq_true] at h6
  exact ⟨of_decide_eq_true h6.1, of_decide_eq_true h6.2⟩
theorem arg_u16 {P : Program} {W : World} {n t : Nat} (hu : P.underlying t = some (.int .u16)) (hc : ctsF P t = [t]) {m : Int} {r : Row} (h : Opened P true W n t (Value.int .u16 m).cells.toList r) : 0 ≤ m ∧ m ≤ 65535 := by
  have h6 : (decide ((0 : Int) ≤ m) && decide (m ≤ 65535)) = true := arg_wf hu hc h
  rw [Bool.and_eq_true] at h6
  exact ⟨of_decide_eq_true h6.1, of_decide_eq_true h6.2⟩
def Sml (v : Rows × Rows) : Prop := v.1.length ≤ 40 ∧ v.2.length ≤ 40
theorem sml0 : Sml ([], []) := ⟨Nat.zero_le _, Nat.zero_le _⟩
theorem sml1 (x : Row) : Sml ([x], []) := ⟨show (1 : Nat) ≤ 40 by decide, Nat.zero_le _⟩
theorem sml2 (x : Row) : Sml ([], [x]) := ⟨Nat.zero_le _, show (1 : Nat) ≤ 40 by decide⟩
theorem one1_le {g : Nat → Row} {c : Nat} : Sml (one1 g c) := by
  unfold one1
  cases rBool (g c) 0 with
  | false => exact sml1 _
  | true => cases rBool (g c) 3 && !rBool (g c) 4 <;> first | exact sml0 | exact sml1 _ | exact sml2 _
theorem two1_le {g : Nat → Row} {j : Nat} : Sml (two1 g j) := by
  unfold two1
  split <;> first | exact sml0 | exact sml1 _ | exact sml2 _
theorem thr1_le {g : Nat → Row} {o : Option Nat} : Sml (thr1 g o) := by
  cases o <;> first | exact sml0 | exact sml1 _ | exact sml2 _
theorem ordS_le {g : Nat → Row} {R Q : Nat} : Sml (ordS g R Q) := by
  unfold ordS
  split
  · exact one1_le
  · split
    · exact two1_le
    · exact thr1_le
theorem parS_le {g : Nat → Row} {R Q : Nat} : Sml (parS g R Q) := by
  unfold parS
  split
  · exact ⟨cr_le, rm_le⟩
  · split
    · exact sml0
    · split <;> first | exact sml0 | exact sml1 _ | exact sml2 _
theorem planS_le {a0 : Row} {g : Nat → Row} {R Q : Nat} : Sml (planS a0 g R Q) := by
  unfold planS
  split
  · exact sml0
  · split
    · exact parS_le
    · exact ordS_le
theorem ints_refl (l : Rows) (h : l.length ≤ 40) : D (fun k => (law47_ints.f k l l).eval) (fun v => v = true) := by
  refine D.test (fun e => ?_) (fun _ => D.cas (q := fun v => v = .inr ()) ?_ (fun r hr => by cases hr) (fun r _ => D.ret rfl))
  · have : iEq (rLen l) (rLen l) = true := beq_self_eq_true _
    rw [this] at e; cases e
  · refine D.loop (fun x : Int => ∃ i : Nat, x = (i : Int) ∧ i ≤ l.length) (fun x => l.length - x.toNat) _ (fun x hx => ?_) _ ⟨0, rfl, Nat.zero_le _⟩
    obtain ⟨i, rfl, hi⟩ := hx
    by_cases hlt : i < l.length
    · refine D.tt (ilt_nat hlt) (D.tt (iin_nat hlt) (D.tt (iin_nat hlt) (D.test (fun e => ?_) (fun _ => D.ret ?_))))
      · have : iEq (rInt (rAt l (i : Int)) 0) (rInt (rAt l (i : Int)) 0) = true := beq_self_eq_true _
        rw [this] at e; cases e
      · show (∃ j : Nat, iAdd .i64 (i : Int) 1 = (j : Int) ∧ j ≤ l.length) ∧ l.length - (iAdd .i64 (i : Int) 1).toNat < l.length - ((i : Int)).toNat
        rw [iAdd_in (by omega) (by omega)]
        exact ⟨⟨i + 1, by omega, by omega⟩, by omega⟩
    · exact D.test (fun e => by rw [show iLt (i : Int) (rLen l) = false from ilt_nat' hlt] at e; cases e) (fun _ => D.ret rfl)
theorem strings_refl (l : Rows) (h : l.length ≤ 40) : D (fun k => (ref13_SameStrings.f k l l).eval) (fun v => v = true) := by
  refine D.test (fun e => ?_) (fun _ => D.cas (q := fun v => v = .inr ()) ?_ (fun r hr => by cases hr) (fun r _ => D.ret rfl))
  · have : iEq (rLen l) (rLen l) = true := beq_self_eq_true _
    rw [this] at e; cases e
  · refine D.loop (fun x : Int => ∃ i : Nat, x = (i : Int) ∧ i ≤ l.length) (fun x => l.length - x.toNat) _ (fun x hx => ?_) _ ⟨0, rfl, Nat.zero_le _⟩
    obtain ⟨i, rfl, hi⟩ := hx
    by_cases hlt : i < l.length
    · refine D.tt (ilt_nat hlt) (D.tt (iin_nat hlt) (D.tt (iin_nat hlt) (D.test (fun e => ?_) (fun _ => D.ret ?_))))
      · have : sEq (rStr (rAt l (i : Int)) 0) (rStr (rAt l (i : Int)) 0) = true := sEq_iff.2 rfl
        rw [this] at e; cases e
      · show (∃ j : Nat, iAdd .i64 (i : Int) 1 = (j : Int) ∧ j ≤ l.length) ∧ l.length - (iAdd .i64 (i : Int) 1).toNat < l.length - ((i : Int)).toNat
        rw [iAdd_in (by omega) (by omega)]
        exact ⟨⟨i + 1, by omega, by omega⟩, by omega⟩
    · exact D.test (fun e => by rw [show iLt (i : Int) (rLen l) = false from ilt_nat' hlt] at e; cases e) (fun _ => D.ret rfl)
theorem imax_toNat (n : Int) : iMax n 0 = iMax ((n.toNat : Nat) : Int) 0 := by
  unfold iMax
  split <;> split <;> omega
theorem name_int (a0 : Row) (ha : Br a0) (n : Int) (h : n ≤ 9223372036854775807) : D (fun k => (statefulset_Name.f k a0 n).eval) (fun v => v = nmc (rStr a0 2) n.toNat) :=
  D.of_eq (G := fun k => (statefulset_Name.f k a0 ((n.toNat : Nat) : Int)).eval) (fun k => by unfold statefulset_Name.f meta_Child.f; rw [imax_toNat n]) (name_val47 a0 ha n.toNat (by omega))
theorem rname_int (a0 : Row) (ha : Br a0) (n : Int) (h : n ≤ 9223372036854775807) : D (fun k => (ref47_Name.f k a0 n).eval) (fun v => v = nmc (rStr a0 2) n.toNat) :=
  D.of_eq (G := fun k => (ref47_Name.f k a0 ((n.toNat : Nat) : Int)).eval) (fun k => by unfold ref47_Name.f ref13_Child.f; rw [imax_toNat n]) (rname_val47 a0 ha n.toNat (by omega))
theorem law47_StatefulsetPlans.true_ (a0 : Row) (l : Rows) (now n : Int) (ha : Br a0) (hl : Brs l) (hn : -9223372036854775808 ≤ n ∧ n ≤ 9223372036854775807) : D (fun k => (law47_StatefulsetPlans.f k a0 l now n).eval) (fun v => v = true) := by
  obtain ⟨R, h1, h2, h3⟩ := clamp_nat (rInt a0 13) 40 (by decide)
  obtain ⟨Q, g1, g2, g3⟩ := clamp_nat (rInt a0 14) (iMin (iMax (rInt a0 13) 0) 40) (by rw [h1]; omega)
  refine D.bnd (heavy_any _ _ hl) (fun r0 _ => D.test (fun _ => D.bnd lv_true (fun r hr => D.ret hr)) (fun _ => ?_))
  refine D.bnd (plan_eq (et 41 a0) (Br.eta ha _) l hl now R Q (by omega) h1 g1) (fun v hv => ?_)
  refine D.bnd (rplan_eq (et 41 a0) (Br.eta ha _) l hl now R Q (by omega) h1 g1) (fun w hw => ?_)
  have hs : Sml v := by rw [hv]; exact planS_le
  rw [← hv] at hw
  subst hw
  refine D.bnd (ints_refl _ hs.1) (fun b1 hb1 => ?_)
  subst hb1
  refine D.opt (fun _ => strings_refl _ hs.2) (fun e => by cases e) (fun b2 hb2 => ?_)
  subst hb2
  refine D.opt (fun _ => name_int (et 41 a0) (Br.eta ha _) n hn.2) (fun e => by cases e) (fun n1 hn1 => ?_)
  refine D.opt (fun _ => rname_int (et 41 a0) (Br.eta ha _) n hn.2) (fun e => by cases e) (fun n2 hn2 => ?_)
  have es : sEq n1 n2 = true := sEq_iff.2 (hn1.trans hn2.symm)
  refine D.opt (fun _ => lv_true) (fun e => by rw [es] at e; cases e) (fun b3 hb3 => D.ret ?_)
  rw [es, hb3]; rfl
end
end Go.Proofs.YtolackmpfnndhaaGreatDoor.Ev
