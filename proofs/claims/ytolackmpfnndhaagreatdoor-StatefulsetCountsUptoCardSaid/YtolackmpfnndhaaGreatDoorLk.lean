/- Stateful sets: the law StatefulsetCounts. Conditions: stated at each. -/
import Derived.Test.YtolackmpfnndhaaGreatDoorLy
import Derived.Test.YtolackmpfnndhaaGreatDoorEc0
namespace Go.Proofs.YtolackmpfnndhaaGreatDoor.Ev
open Go Go.RowKit
set_option linter.unusedVariables false
set_option maxRecDepth 100000
noncomputable section
theorem updated_X (a0 p X : Row) (ha : Br a0) (hp : Br p) (now : Int) (hX : et 37 X = eo 37 a0 18) :
    D (fun k => (ref44_Updated.f k X (et 61 (et 61 p))).eval) (fun v => v = rBool (srow a0 now (hsh (eo 37 a0 18)) p) 2) := by
  refine D.bnd (q := fun v => v = label_Get.v (rSl (et 61 p) 9) (bs [116, 101, 109, 112, 108, 97, 116, 101, 45, 104, 97, 115, 104])) ?_ (fun r hr => ?_)
  · refine D.mono (ref03_Get.val _ _ (Br.sl (Br.eta (Br.eta hp _) _) 9)) (fun v hv => ?_)
    rw [hv.1]; rfl
  · subst hr
    refine D.opt (q := fun v => (label_Get.v (rSl (et 61 p) 9) (bs [116, 101, 109, 112, 108, 97, 116, 101, 45, 104, 97, 115, 104])).2 = true → v = hsh (eo 37 a0 18)) (fun _ => ?_) (fun e h => by rw [h] at e; cases e) (fun h hh => D.ret ?_)
    · rw [hX]
      exact D.mono (rHash_val (eo 37 a0 18) (br_etaL ha _ _) (by kernel_rfl)) (fun v hv _ => hv)
    · show bIte (label_Get.v (rSl (et 61 p) 9) (bs [116, 101, 109, 112, 108, 97, 116, 101, 45, 104, 97, 115, 104])).2 (sEq (label_Get.v (rSl (et 61 p) 9) (bs [116, 101, 109, 112, 108, 97, 116, 101, 45, 104, 97, 115, 104])).1 h) false = bIte (label_Get.v (rSl (et 61 p) 9) (bs [116, 101, 109, 112, 108, 97, 116, 101, 45, 104, 97, 115, 104])).2 (sEq (label_Get.v (rSl (et 61 p) 9) (bs [116, 101, 109, 112, 108, 97, 116, 101, 45, 104, 97, 115, 104])).1 (hsh (eo 37 a0 18))) false
      cases e : (label_Get.v (rSl (et 61 p) 9) (bs [116, 101, 109, 112, 108, 97, 116, 101, 45, 104, 97, 115, 104])).2 with
      | false => rfl
      | true => rw [hh e]
def FA (s : Row) : Bool := pod_Active.v (eo 61 s 6)
def FU (s : Row) : Bool := FA s && rBool s 2
def FR (s : Row) : Bool := FA s && rBool s 30
def FV (s : Row) : Bool := FA s && rBool s 1
/-- The pods of the ordinals below n. -/
def pds (a0 : Row) (l : Rows) (n : Nat) : Rows := (List.range n).filterMap fun i => fnd a0 l (nmc (rStr a0 2) i)
def ct (a0 : Row) (now : Int) (h : ByteArray) (F : Row → Bool) (ps : Rows) : Nat := (ps.map (srow a0 now h)).countP F
theorem pds_succ (a0 : Row) (l : Rows) (n : Nat) : pds a0 l (n + 1) = pds a0 l n ++ (match fnd a0 l (nmc (rStr a0 2) n) with | none => [] | some p => [p]) := by
  unfold pds
  rw [List.range_succ, List.filterMap_append]
  congr 1
  cases h : fnd a0 l (nmc (rStr a0 2) n) with
  | none => simp [h]
  | some p => simp [h]
theorem pds_le (a0 : Row) (l : Rows) (n : Nat) : (pds a0 l n).length ≤ n := by
  unfold pds
  exact Nat.le_trans (List.length_filterMap_le _ _) (by simp)
theorem pds_mem {a0 : Row} {l : Rows} {n : Nat} {p : Row} (h : p ∈ pds a0 l n) : p ∈ l := by
  unfold pds at h
  obtain ⟨i, _, hi⟩ := List.mem_filterMap.1 h
  exact (fnd_mem hi).1
theorem ct_snoc (a0 : Row) (now : Int) (h : ByteArray) (F : Row → Bool) (ps : Rows) (p : Row) : ct a0 now h F (ps ++ [p]) = ct a0 now h F ps + bif F (srow a0 now h p) then 1 else 0 := by
  unfold ct
  rw [List.map_append, List.countP_append]
  rw [show List.map (srow a0 now h) [p] = [srow a0 now h p] from rfl, List.countP_singleton]
  cases F (srow a0 now h p) <;> rfl
theorem ct_le (a0 : Row) (now : Int) (h : ByteArray) (F : Row → Bool) (ps : Rows) : ct a0 now h F ps ≤ ps.length := by
  unfold ct
  exact Nat.le_trans List.countP_le_length (by simp)
def W (gen a b c d : Int) : Row := [.int .i64 gen, .int .i64 a, .int .i64 b, .int .i64 c, .int .i64 d, .int .i64 0, .bool false]
def Wc (a0 : Row) (now : Int) (h : ByteArray) (gen : Int) (ps : Rows) : Row := W gen (ct a0 now h FA ps) (ct a0 now h FU ps) (ct a0 now h FR ps) (ct a0 now h FV ps)
def bump (b : Bool) (n : Nat) : Int := bif b then iAdd .i64 (n : Int) 1 else (n : Int)
theorem bump_eq {b : Bool} {n : Nat} (h : n ≤ 1000) : bump b n = ((n + bif b then 1 else 0 : Nat) : Int) := by
  unfold bump
  cases b with
  | false => rfl
  | true => show iAdd .i64 (n : Int) 1 = _; rw [iAdd_in (by omega) (by omega)]; rfl
theorem wc_snoc {a0 : Row} {now : Int} {h : ByteArray} {gen : Int} {ps : Rows} {p : Row} (hl : ps.length ≤ 40) (hA : FA (srow a0 now h p) = true) {u r v : Bool} (hu : rBool (srow a0 now h p) 2 = u) (hr : rBool (srow a0 now h p) 30 = r) (hv : rBool (srow a0 now h p) 1 = v) :
    W gen (bump true (ct a0 now h FA ps)) (bump u (ct a0 now h FU ps)) (bump r (ct a0 now h FR ps)) (bump v (ct a0 now h FV ps)) = Wc a0 now h gen (ps ++ [p]) := by
  have hb : ∀ F, ct a0 now h F ps ≤ 1000 := fun F => Nat.le_trans (ct_le ..) (by omega)
  unfold Wc
  rw [bump_eq (hb _), bump_eq (hb _), bump_eq (hb _), bump_eq (hb _), ct_snoc, ct_snoc, ct_snoc, ct_snoc]
  have e1 : FU (srow a0 now h p) = u := by unfold FU; rw [hA, hu, Bool.true_and]
  have e2 : FR (srow a0 now h p) = r := by unfold FR; rw [hA, hr, Bool.true_and]
  have e3 : FV (srow a0 now h p) = v := by unfold FV; rw [hA, hv, Bool.true_and]
  rw [hA, e1, e2, e3]
theorem wc_same {a0 : Row} {now : Int} {h : ByteArray} {gen : Int} {ps : Rows} {p : Row} (hA : FA (srow a0 now h p) = false) : Wc a0 now h gen ps = Wc a0 now h gen (ps ++ [p]) := by
  unfold Wc
  rw [ct_snoc, ct_snoc, ct_snoc, ct_snoc]
  have e1 : FU (srow a0 now h p) = false := by unfold FU; rw [hA, Bool.false_and]
  have e2 : FR (srow a0 now h p) = false := by unfold FR; rw [hA, Bool.false_and]
  have e3 : FV (srow a0 now h p) = false := by unfold FV; rw [hA, Bool.false_and]
  rw [hA, e1, e2, e3]; rfl
theorem status_val (a0 : Row) (ha : Br a0) (l : Rows) (hl : Brs l) (now : Int) :
    D (fun k => (statefulset_Status.f k a0 l now).eval) (fun v => v = Wc a0 now (hsh (eo 37 a0 18)) (rInt a0 5) (pds a0 l 40)) := by
  refine D.bnd (q := fun v => v = (List.range 40).map (slt a0 l now (hsh (eo 37 a0 18)))) (slots_val (et 41 a0) (Br.eta ha _) l hl now) (fun r hr => ?_)
  subst hr
  generalize hsh (eo 37 a0 18) = h
  refine D.bnd (q := fun v => v = Wc a0 now h (rInt a0 5) (pds a0 l 40)) ?_ (fun r hr => D.ret (by subst hr; rfl))
  rw [len_map]
  refine D.loop (fun x : Int × Row => ∃ i : Nat, i ≤ 40 ∧ x = ((i : Int), Wc a0 now h (rInt a0 5) (pds a0 l i))) (fun x => 40 - x.1.toNat) _ (fun x hx => ?_) _ ⟨0, Nat.zero_le _, rfl⟩
  obtain ⟨i, hi, rfl⟩ := hx
  by_cases h40 : i < 40
  · have hat := rat_map (slt a0 l now h) i h40
    have hps := pds_succ a0 l i
    have nxt : ∀ r, r = Wc a0 now h (rInt a0 5) (pds a0 l (i + 1)) → (∃ j : Nat, j ≤ 40 ∧ ((iAdd .i64 (i : Int) 1, r) : Int × Row) = ((j : Int), Wc a0 now h (rInt a0 5) (pds a0 l j))) ∧ 40 - (iAdd .i64 (i : Int) 1).toNat < 40 - ((i : Int)).toNat := fun r hr => by
      rw [iAdd_in (by omega) (by omega)]
      exact ⟨⟨i + 1, by omega, by rw [hr]; rfl⟩, by omega⟩
    refine D.tt (ilt_nat h40) (D.tt (by rw [len_map]; exact decide_eq_true ⟨by show (0 : Int) ≤ (i : Int); omega, by show (i : Int) < 40; omega⟩) ?_)
    cases hf : fnd a0 l (nmc (rStr a0 2) i) with
    | none =>
      have es : slt a0 l now h i = zs := by unfold slt; rw [hf]
      rw [hf, List.append_nil] at hps
      rw [es] at hat
      refine D.opt (q := fun _ => True) (fun e => by rw [hat] at e; cases e) (fun _ => trivial) (fun b _ => D.tt (by show bIte (bNot (rBool (rAt ((List.range 40).map (slt a0 l now h)) (i : Int)) 0)) true (bNot b) = true; rw [hat]; rfl) (D.ret (nxt _ ?_)))
      rw [hps]; rfl
    | some p =>
      have es : slt a0 l now h i = srow a0 now h p := by unfold slt; rw [hf]
      rw [hf] at hps
      have hps : pds a0 l (i + 1) = pds a0 l i ++ [p] := hps
      rw [es] at hat
      refine D.opt (q := fun v => v = FA (srow a0 now h p)) (fun _ => ?_) (fun e => by rw [hat] at e; cases e) (fun b hb => ?_)
      · show D (fun k => (pod_Active.f k (eo 61 (rAt ((List.range 40).map (slt a0 l now h)) (i : Int)) 6)).eval) _
        rw [hat]
        exact D.mono (pod_Active.val _) (fun v hv => hv.1)
      subst hb
      have hT : rBool (rAt ((List.range 40).map (slt a0 l now h)) (i : Int)) 0 = true := by rw [hat]; rfl
      refine D.test (fun e => D.ret (nxt _ ?_)) (fun e => ?_)
      · have e : bIte (bNot (rBool (rAt ((List.range 40).map (slt a0 l now h)) (i : Int)) 0)) true (bNot (FA (srow a0 now h p))) = true := e
        rw [hT] at e
        rw [hps, ← wc_same (bnot_t e)]; rfl
      · have hA : FA (srow a0 now h p) = true := bnot_f (or_r e)
        have e2 : rBool (rAt ((List.range 40).map (slt a0 l now h)) (i : Int)) 2 = rBool (srow a0 now h p) 2 := by rw [hat]
        have e3 : rBool (rAt ((List.range 40).map (slt a0 l now h)) (i : Int)) 30 = rBool (srow a0 now h p) 30 := by rw [hat]
        have e1 : rBool (rAt ((List.range 40).map (slt a0 l now h)) (i : Int)) 1 = rBool (srow a0 now h p) 1 := by rw [hat]
        have fin : ∀ {u r v : Bool}, rBool (rAt ((List.range 40).map (slt a0 l now h)) (i : Int)) 2 = u → rBool (rAt ((List.range 40).map (slt a0 l now h)) (i : Int)) 30 = r → rBool (rAt ((List.range 40).map (slt a0 l now h)) (i : Int)) 1 = v → W (rInt a0 5) (bump true (ct a0 now h FA (pds a0 l i))) (bump u (ct a0 now h FU (pds a0 l i))) (bump r (ct a0 now h FR (pds a0 l i))) (bump v (ct a0 now h FV (pds a0 l i))) = Wc a0 now h (rInt a0 5) (pds a0 l (i + 1)) := fun hu hr hv => by
          rw [hps]
          exact wc_snoc (Nat.le_trans (pds_le _ _ _) hi) hA (e2.symm.trans hu) (e3.symm.trans hr) (e1.symm.trans hv)
        exact D.test (fun u => D.test (fun r => D.test (fun v => D.ret (nxt _ (fin u r v))) (fun v => D.ret (nxt _ (fin u r v)))) (fun r => D.test (fun v => D.ret (nxt _ (fin u r v))) (fun v => D.ret (nxt _ (fin u r v)))))
          (fun u => D.test (fun r => D.test (fun v => D.ret (nxt _ (fin u r v))) (fun v => D.ret (nxt _ (fin u r v)))) (fun r => D.test (fun v => D.ret (nxt _ (fin u r v))) (fun v => D.ret (nxt _ (fin u r v)))))
  · have : i = 40 := by omega
    subst this
    exact D.test (fun e => by have := iLt_iff.1 e; simp at this) (fun _ => D.ret rfl)
theorem all_val (a0 : Row) (l : Rows) (c : Int) (r1 r2 : Row) : D (fun k => iter (ref47_Status.s4 k c ((List.range 40).map (prw a0 l)) r1 r2) k ([], 0)) (fun v => v = (pds a0 l 40).map (et 61)) := by
  refine D.loop (fun x : Rows × Int => ∃ i : Nat, i ≤ 40 ∧ x = ((pds a0 l i).map (et 61), (i : Int))) (fun x => 40 - x.2.toNat) _ (fun x hx => ?_) _ ⟨0, Nat.zero_le _, rfl⟩
  obtain ⟨i, hi, rfl⟩ := hx
  by_cases h40 : i < 40
  · have hat := rat_map (prw a0 l) i h40
    have hps := pds_succ a0 l i
    have hpl := pds_le a0 l i
    have nxt : ∀ r, r = (pds a0 l (i + 1)).map (et 61) → (∃ j : Nat, j ≤ 40 ∧ ((r, iAdd .i64 (i : Int) 1) : Rows × Int) = ((pds a0 l j).map (et 61), (j : Int))) ∧ 40 - (iAdd .i64 (i : Int) 1).toNat < 40 - ((i : Int)).toNat := fun r hr => by
      rw [iAdd_in (by omega) (by omega)]
      exact ⟨⟨i + 1, by omega, by rw [hr]; rfl⟩, by omega⟩
    have hin : iIn (i : Int) (rLen ((List.range 40).map (prw a0 l))) = true := by rw [len_map]; exact decide_eq_true ⟨by omega, by omega⟩
    have hrl : rLen ((pds a0 l i).map (et 61)) = ((pds a0 l i).length : Int) := by unfold rLen; rw [List.length_map]
    refine D.tt (by show iLt (i : Int) (rLen ((List.range 40).map (prw a0 l))) = true; rw [len_map]; exact iLt_iff.2 (by omega)) (D.tt hin ?_)
    cases hf : fnd a0 l (nmc (rStr a0 2) i) with
    | none =>
      have es : prw a0 l i = z54 := by unfold prw; rw [hf]
      rw [hf, List.append_nil] at hps
      rw [es] at hat
      refine D.tt ?_ (D.ret (nxt _ ?_))
      · show rOk 480 (rLen ((pds a0 l i).map (et 61))) (rLen (rSl (rAt ((List.range 40).map (prw a0 l)) (i : Int)) 0)) = true
        rw [hat, hrl]
        show decide _ = true
        refine decide_eq_true ?_
        show (((pds a0 l i).length : Int) + 0) * ((480 : Nat) : Int) ≤ 140737488355328
        omega
      · show rCat ((pds a0 l i).map (et 61)) (rSl (rAt ((List.range 40).map (prw a0 l)) (i : Int)) 0) = _
        rw [hat, hps]
        exact List.append_nil _
    | some p =>
      have es : prw a0 l i = [.slice 61 [et 61 p] (.fullq false)] := by unfold prw; rw [hf]
      rw [hf] at hps
      have hps : pds a0 l (i + 1) = pds a0 l i ++ [p] := hps
      rw [es] at hat
      refine D.tt ?_ (D.ret (nxt _ ?_))
      · show rOk 480 (rLen ((pds a0 l i).map (et 61))) (rLen (rSl (rAt ((List.range 40).map (prw a0 l)) (i : Int)) 0)) = true
        rw [hat, hrl]
        exact rOk_of (by decide) (by omega) (by omega) rfl
      · show rCat ((pds a0 l i).map (et 61)) (rSl (rAt ((List.range 40).map (prw a0 l)) (i : Int)) 0) = _
        rw [hat, hps, List.map_append]; rfl
  · have : i = 40 := by omega
    subst this
    exact D.test (fun e => by have e : iLt ((40 : Nat) : Int) (rLen ((List.range 40).map (prw a0 l))) = true := e; rw [len_map] at e; cases e) (fun _ => D.ret rfl)
theorem tally_val (a0 : Row) (ha : Br a0) (ps : Rows) (hps : ∀ p, p ∈ ps → Br p) (hl : ps.length ≤ 40) (now : Int) (X : Row) (hX : et 37 (et 37 X) = eo 37 a0 18) :
    D (fun k => (ref44_Tally.f k (ps.map (et 61)) X (rInt (et 41 a0) 15) now).eval) (fun v => v = Wc a0 now (hsh (eo 37 a0 18)) 0 ps) := by
  obtain ⟨h, hh⟩ : ∃ h, h = hsh (eo 37 a0 18) := ⟨_, rfl⟩
  rw [← hh]
  refine D.bnd (q := fun v => v = Wc a0 now h 0 ps) ?_ (fun r hr => D.ret (by subst hr; rfl))
  have hlen : rLen (ps.map (et 61)) = (ps.length : Int) := by unfold rLen; rw [List.length_map]
  refine D.loop (fun x : Int × Row => ∃ i : Nat, i ≤ ps.length ∧ x = ((i : Int), Wc a0 now h 0 (ps.take i))) (fun x => ps.length - x.1.toNat) _ (fun x hx => ?_) _ ⟨0, Nat.zero_le _, rfl⟩
  obtain ⟨i, hi, rfl⟩ := hx
  by_cases hlt : i < ps.length
  · obtain ⟨p, hp⟩ : ∃ p, p = ps[i] := ⟨_, rfl⟩
    have hat : rAt (ps.map (et 61)) (i : Int) = et 61 p := by
      rw [rAt_nat, List.getD_eq_getElem?_getD, List.getElem?_map, List.getElem?_eq_getElem hlt, hp]; rfl
    have htk : ps.take (i + 1) = ps.take i ++ [p] := by rw [List.take_succ_eq_append_getElem hlt, hp]
    have hbp : Br p := hps p (by rw [hp]; exact List.getElem_mem hlt)
    have htl : (ps.take i).length ≤ 40 := by rw [List.length_take]; omega
    have nxt : ∀ r, r = Wc a0 now h 0 (ps.take (i + 1)) → (∃ j : Nat, j ≤ ps.length ∧ ((iAdd .i64 (i : Int) 1, r) : Int × Row) = ((j : Int), Wc a0 now h 0 (ps.take j))) ∧ ps.length - (iAdd .i64 (i : Int) 1).toNat < ps.length - ((i : Int)).toNat := fun r hr => by
      rw [iAdd_in (by omega) (by omega)]
      exact ⟨⟨i + 1, by omega, by rw [hr]; rfl⟩, by omega⟩
    have hI : iIn (i : Int) (rLen (ps.map (et 61))) = true := by rw [hlen]; exact iin_nat hlt
    have e24 : rBool (rAt (ps.map (et 61)) (i : Int)) 24 = rBool (srow a0 now h p) 30 := by rw [hat]; rfl
    refine D.tt (by show iLt (i : Int) (rLen (ps.map (et 61))) = true; rw [hlen]; exact ilt_nat hlt) (D.tt hI ?_)
    refine D.bnd (q := fun v => v = FA (srow a0 now h p)) ?_ (fun b hb => ?_)
    · rw [hat]
      exact D.mono (ref33_Active.val _) (fun v hv => by rw [hv.1]; rfl)
    subst hb
    refine D.test (fun e => D.ret (nxt _ ?_)) (fun e => ?_)
    · rw [htk, ← wc_same (bnot_t e)]; rfl
    have hA := bnot_f e
    have av : D (fun k => (ref33_Available.f k (et 61 (rAt (ps.map (et 61)) (i : Int))) (rInt (et 41 a0) 15) now).eval) (fun v => v = rBool (srow a0 now h p) 1) := by
      rw [hat]
      exact D.mono (ref33_Available.val _ _ _) (fun v hv => by rw [hv.1, avail_eq47]; rfl)
    have fin : ∀ {u r v : Bool}, rBool (srow a0 now h p) 2 = u → rBool (rAt (ps.map (et 61)) (i : Int)) 24 = r → rBool (srow a0 now h p) 1 = v → W 0 (bump true (ct a0 now h FA (ps.take i))) (bump u (ct a0 now h FU (ps.take i))) (bump r (ct a0 now h FR (ps.take i))) (bump v (ct a0 now h FV (ps.take i))) = Wc a0 now h 0 (ps.take (i + 1)) := fun hu hr hv => by
      rw [htk]
      exact wc_snoc htl hA hu (e24.symm.trans hr) hv
    refine D.tt hI (D.bnd (q := fun v => v = rBool (srow a0 now h p) 2) ?_ (fun b hb => ?_))
    · rw [hat, hh]
      exact updated_X a0 p _ ha hbp now hX
    subst hb
    refine D.test (fun u => D.tt hI (D.test (fun r => D.tt hI (D.bnd av (fun b hb => ?_))) (fun r => D.tt hI (D.bnd av (fun b hb => ?_))))) (fun u => D.tt hI (D.test (fun r => D.tt hI (D.bnd av (fun b hb => ?_))) (fun r => D.tt hI (D.bnd av (fun b hb => ?_)))))
    · exact D.test (fun v => D.ret (nxt _ (fin u r (hb.symm.trans v)))) (fun v => D.ret (nxt _ (fin u r (hb.symm.trans v))))
    · exact D.test (fun v => D.ret (nxt _ (fin u r (hb.symm.trans v)))) (fun v => D.ret (nxt _ (fin u r (hb.symm.trans v))))
    · exact D.test (fun v => D.ret (nxt _ (fin u r (hb.symm.trans v)))) (fun v => D.ret (nxt _ (fin u r (hb.symm.trans v))))
    · exact D.test (fun v => D.ret (nxt _ (fin u r (hb.symm.trans v)))) (fun v => D.ret (nxt _ (fin u r (hb.symm.trans v))))
  · have : i = ps.length := by omega
    subst this
    refine D.test (fun e => by have e : iLt (ps.length : Int) (rLen (ps.map (et 61))) = true := e; rw [hlen] at e; exact absurd e (by rw [ilt_nat' hlt]; decide)) (fun _ => D.ret ?_)
    show et 39 (Wc a0 now h 0 (ps.take ps.length)) = _
    rw [List.take_length]; rfl
theorem rstatus_val (a0 : Row) (ha : Br a0) (l : Rows) (hl : Brs l) (now : Int) :
    D (fun k => (ref47_Status.f k a0 l now).eval) (fun v => v = Wc a0 now (hsh (eo 37 a0 18)) (rInt a0 5) (pds a0 l 40)) := by
  refine D.bnd (q := fun v => v = (List.range 40).map (prw a0 l)) (pods_val (et 41 a0) (Br.eta ha _) l hl) (fun r hr => ?_)
  subst hr
  refine D.bnd (all_val a0 l _ _ _) (fun r hr => ?_)
  subst hr
  refine D.bnd (q := fun v => v = Wc a0 now (hsh (eo 37 a0 18)) 0 (pds a0 l 40)) ?_ (fun r hr => D.ret (by subst hr; rfl))
  exact tally_val a0 ha _ (fun p hp => hl.2 _ (pds_mem hp)) (pds_le _ _ _) now (eo 37 a0 18) (by kernel_rfl)
theorem same_w {x y : Row} (h : x = y) : bAnd (iEq (rInt x 0) (rInt y 0)) (bAnd (iEq (rInt x 1) (rInt y 1)) (bAnd (iEq (rInt x 2) (rInt y 2)) (bAnd (iEq (rInt x 3) (rInt y 3)) (bAnd (iEq (rInt x 4) (rInt y 4)) (bAnd (iEq (rInt x 5) (rInt y 5)) (bEq (rBool x 6) (rBool y 6))))))) = true := by
  subst h
  simp [iEq, bEq, bAnd]
theorem law47_StatefulsetCounts.true_ (a0 : Row) (l : Rows) (now : Int) (ha : Br a0) (hl : Brs l) : D (fun k => (law47_StatefulsetCounts.f k a0 l now).eval) (fun v => v = true) := by
  refine D.bnd (heavy_any _ _ hl) (fun r0 _ => D.test (fun _ => D.bnd lv_true (fun r hr => D.ret hr)) (fun _ => ?_))
  refine D.bnd (status_val (et 41 a0) (Br.eta ha _) l hl now) (fun v hv => ?_)
  refine D.bnd (rstatus_val (et 41 a0) (Br.eta ha _) l hl now) (fun w hw => ?_)
  have hs := same_w (hv.trans hw.symm)
  refine D.opt (fun _ => lv_true) (fun e => by rw [hs] at e; cases e) (fun b hb => D.ret ?_)
  rw [hs, hb]; rfl
end
end Go.Proofs.YtolackmpfnndhaaGreatDoor.Ev
