/- What the encoders of pods answer with. Conditions: stated at each. -/
import Derived.Test.YtolackmpfnndhaaGreatDoorJv
namespace Go.Proofs.YtolackmpfnndhaaGreatDoor.Ev
open Go Go.RowKit
set_option linter.unusedVariables false
set_option maxRecDepth 100000
noncomputable section
def podcodec_encodeLabel_v (a0 : Row) : Row := ob [fd (bs [107, 101, 121]) (st (rStr a0 0)), fd (bs [118, 97, 108, 117, 101]) (st (rStr a0 1))]
theorem podcodec_encodeLabel_nv (a0 : Row) (ha : Br a0) : Nv 2 (podcodec_encodeLabel_v a0) := nv_ob (Nat.le_of_ble_eq_true rfl) (all_cons (nf_fd (Nat.le_of_ble_eq_true rfl) ((nv_st (Br.str ha _)).le (by decide))) (all_cons (nf_fd (Nat.le_of_ble_eq_true rfl) ((nv_st (Br.str ha _)).le (by decide))) all_nil))
theorem podcodec_encodeLabel_val (a0 : Row) (ha : Br a0) : D (fun k => (podcodec_encodeLabel.f k a0).eval) (fun v => v = podcodec_encodeLabel_v a0) := by
  refine D.bnd (q := fun v => v = st (rStr a0 0)) (D.eqn (fun _ => by kernel_rfl)) (fun r h => ?_)
  subst h
  refine D.bnd (q := fun v => v = fd (bs [107, 101, 121]) (st (rStr a0 0))) (D.eqn (fun _ => by kernel_rfl)) (fun r h => ?_)
  subst h
  refine D.bnd (q := fun v => v = st (rStr a0 1)) (D.eqn (fun _ => by kernel_rfl)) (fun r h => ?_)
  subst h
  refine D.bnd (q := fun v => v = fd (bs [118, 97, 108, 117, 101]) (st (rStr a0 1))) (D.eqn (fun _ => by kernel_rfl)) (fun r h => ?_)
  subst h
  refine D.bnd (q := fun v => v = podcodec_encodeLabel_v a0) ?_ (fun r h => by subst h; exact D.ret (by kernel_rfl))
  exact D.of_eq (fun k => by kernel_rfl) (map_val (n := 1) (l := [fd (bs [107, 101, 121]) (st (rStr a0 0)), fd (bs [118, 97, 108, 117, 101]) (st (rStr a0 1))]) (Nat.lt_of_ble rfl) (by kernel_rfl) (by kernel_rfl) (all_cons (nf_fd (Nat.le_of_ble_eq_true rfl) ((nv_st (Br.str ha _)).le (by decide))) (all_cons (nf_fd (Nat.le_of_ble_eq_true rfl) ((nv_st (Br.str ha _)).le (by decide))) all_nil)))
def podcodec_list_api_Label_c80_v (l : Rows) : Row := li (l.map fun q => podcodec_encodeLabel_v (et 89 q))
theorem podcodec_list_api_Label_c80_nv (l : Rows) (hl : Brs l) : Nv 3 (podcodec_list_api_Label_c80_v l) := nv_li (by rw [List.length_map]; exact hl.1) (fun q hq => by obtain ⟨x, hx, rfl⟩ := List.mem_map.1 hq; exact podcodec_encodeLabel_nv _ (Br.eta (hl.2 x hx) _))
theorem podcodec_list_api_Label_c80_val (l : Rows) (hl : Brs l) : D (fun k => (podcodec_list_api_Label_c80.f k l).eval) (fun v => v = podcodec_list_api_Label_c80_v l) := by
  refine D.bnd (q := fun v => v = l.map fun q => podcodec_encodeLabel_v (et 89 q)) (D.madeV hl.1 (fun q => podcodec_encodeLabel_v (et 89 q)) (fun out i hi hlt ho => ?_) (fun out i hlt => ?_)) (fun r h => ?_)
  · refine D.tt hlt (D.tt (iIn_of hi hlt) (D.bnd (q := fun v => v = podcodec_encodeLabel_v (et 89 (rAt l i))) (podcodec_encodeLabel_val _ (Br.eta (Brs.at hl _) _)) (fun r0 h0 => ?_)))
    subst h0
    refine D.tt (made_ok hl hlt ho _) (D.ret ?_)
    show Sum.inl (rCat out [et 110 (podcodec_encodeLabel_v (et 89 (rAt l i)))], _) = _
    rw [(podcodec_encodeLabel_nv _ (Br.eta (Brs.at hl _) _)).et]
  · exact D.test (fun e => by rw [show iLt i (rLen l) = false from hlt] at e; cases e) (fun _ => D.ret rfl)
  · subst h
    exact D.bnd (q := fun v => v = podcodec_list_api_Label_c80_v l) (list_val (n := 2) (by rw [List.length_map]; exact hl.1) (fun q hq => by obtain ⟨x, hx, rfl⟩ := List.mem_map.1 hq; exact podcodec_encodeLabel_nv _ (Br.eta (hl.2 x hx) _))) (fun r h => by subst h; exact D.ret (by kernel_rfl))
def podcodec_encodeResources_v (a0 : Row) : Row := ob [fd (bs [99, 112, 117]) (nm (rInt a0 0)), fd (bs [100, 105, 115, 107]) (nm (rInt a0 2)), fd (bs [109, 101, 109, 111, 114, 121]) (nm (rInt a0 1))]
theorem podcodec_encodeResources_nv (a0 : Row) (ha : Br a0) : Nv 2 (podcodec_encodeResources_v a0) := nv_ob (Nat.le_of_ble_eq_true rfl) (all_cons (nf_fd (Nat.le_of_ble_eq_true rfl) ((nv_nm _).le (by decide))) (all_cons (nf_fd (Nat.le_of_ble_eq_true rfl) ((nv_nm _).le (by decide))) (all_cons (nf_fd (Nat.le_of_ble_eq_true rfl) ((nv_nm _).le (by decide))) all_nil)))
theorem podcodec_encodeResources_val (a0 : Row) (ha : Br a0) : D (fun k => (podcodec_encodeResources.f k a0).eval) (fun v => v = podcodec_encodeResources_v a0) := by
  refine D.bnd (q := fun v => v = nm (rInt a0 0)) (D.eqn (fun _ => by kernel_rfl)) (fun r h => ?_)
  subst h
  refine D.bnd (q := fun v => v = fd (bs [99, 112, 117]) (nm (rInt a0 0))) (D.eqn (fun _ => by kernel_rfl)) (fun r h => ?_)
  subst h
  refine D.bnd (q := fun v => v = nm (rInt a0 2)) (D.eqn (fun _ => by kernel_rfl)) (fun r h => ?_)
  subst h
  refine D.bnd (q := fun v => v = fd (bs [100, 105, 115, 107]) (nm (rInt a0 2))) (D.eqn (fun _ => by kernel_rfl)) (fun r h => ?_)
  subst h
  refine D.bnd (q := fun v => v = nm (rInt a0 1)) (D.eqn (fun _ => by kernel_rfl)) (fun r h => ?_)
  subst h
  refine D.bnd (q := fun v => v = fd (bs [109, 101, 109, 111, 114, 121]) (nm (rInt a0 1))) (D.eqn (fun _ => by kernel_rfl)) (fun r h => ?_)
  subst h
  refine D.bnd (q := fun v => v = podcodec_encodeResources_v a0) ?_ (fun r h => by subst h; exact D.ret (by kernel_rfl))
  exact D.of_eq (fun k => by kernel_rfl) (map_val (n := 1) (l := [fd (bs [99, 112, 117]) (nm (rInt a0 0)), fd (bs [100, 105, 115, 107]) (nm (rInt a0 2)), fd (bs [109, 101, 109, 111, 114, 121]) (nm (rInt a0 1))]) (Nat.lt_of_ble rfl) (by kernel_rfl) (by kernel_rfl) (all_cons (nf_fd (Nat.le_of_ble_eq_true rfl) ((nv_nm _).le (by decide))) (all_cons (nf_fd (Nat.le_of_ble_eq_true rfl) ((nv_nm _).le (by decide))) (all_cons (nf_fd (Nat.le_of_ble_eq_true rfl) ((nv_nm _).le (by decide))) all_nil))))
def podcodec_encodeProbe_v (a0 : Row) : Row := ob [fd (bs [100, 101, 108, 97, 121]) (nm (rInt a0 0)), fd (bs [102, 97, 105, 108, 117, 114, 101]) (nm (rInt a0 3)), fd (bs [112, 101, 114, 105, 111, 100]) (nm (rInt a0 1)), fd (bs [115, 117, 99, 99, 101, 115, 115]) (nm (rInt a0 2))]
theorem podcodec_encodeProbe_nv (a0 : Row) (ha : Br a0) : Nv 2 (podcodec_encodeProbe_v a0) := nv_ob (Nat.le_of_ble_eq_true rfl) (all_cons (nf_fd (Nat.le_of_ble_eq_true rfl) ((nv_nm _).le (by decide))) (all_cons (nf_fd (Nat.le_of_ble_eq_true rfl) ((nv_nm _).le (by decide))) (all_cons (nf_fd (Nat.le_of_ble_eq_true rfl) ((nv_nm _).le (by decide))) (all_cons (nf_fd (Nat.le_of_ble_eq_true rfl) ((nv_nm _).le (by decide))) all_nil))))
theorem podcodec_encodeProbe_val (a0 : Row) (ha : Br a0) : D (fun k => (podcodec_encodeProbe.f k a0).eval) (fun v => v = podcodec_encodeProbe_v a0) := by
  refine D.bnd (q := fun v => v = nm (rInt a0 0)) (D.eqn (fun _ => by kernel_rfl)) (fun r h => ?_)
  subst h
  refine D.bnd (q := fun v => v = fd (bs [100, 101, 108, 97, 121]) (nm (rInt a0 0))) (D.eqn (fun _ => by kernel_rfl)) (fun r h => ?_)
  subst h
  refine D.bnd (q := fun v => v = nm (rInt a0 3)) (D.eqn (fun _ => by kernel_rfl)) (fun r h => ?_)
  subst h
  refine D.bnd (q := fun v => v = fd (bs [102, 97, 105, 108, 117, 114, 101]) (nm (rInt a0 3))) (D.eqn (fun _ => by kernel_rfl)) (fun r h => ?_)
  subst h
  refine D.bnd (q := fun v => v = nm (rInt a0 1)) (D.eqn (fun _ => by kernel_rfl)) (fun r h => ?_)
  subst h
  refine D.bnd (q := fun v => v = fd (bs [112, 101, 114, 105, 111, 100]) (nm (rInt a0 1))) (D.eqn (fun _ => by kernel_rfl)) (fun r h => ?_)
  subst h
  refine D.bnd (q := fun v => v = nm (rInt a0 2)) (D.eqn (fun _ => by kernel_rfl)) (fun r h => ?_)
  subst h
  refine D.bnd (q := fun v => v = fd (bs [115, 117, 99, 99, 101, 115, 115]) (nm (rInt a0 2))) (D.eqn (fun _ => by kernel_rfl)) (fun r h => ?_)
  subst h
  refine D.bnd (q := fun v => v = podcodec_encodeProbe_v a0) ?_ (fun r h => by subst h; exact D.ret (by kernel_rfl))
  exact D.of_eq (fun k => by kernel_rfl) (map_val (n := 1) (l := [fd (bs [100, 101, 108, 97, 121]) (nm (rInt a0 0)), fd (bs [102, 97, 105, 108, 117, 114, 101]) (nm (rInt a0 3)), fd (bs [112, 101, 114, 105, 111, 100]) (nm (rInt a0 1)), fd (bs [115, 117, 99, 99, 101, 115, 115]) (nm (rInt a0 2))]) (Nat.lt_of_ble rfl) (by kernel_rfl) (by kernel_rfl) (all_cons (nf_fd (Nat.le_of_ble_eq_true rfl) ((nv_nm _).le (by decide))) (all_cons (nf_fd (Nat.le_of_ble_eq_true rfl) ((nv_nm _).le (by decide))) (all_cons (nf_fd (Nat.le_of_ble_eq_true rfl) ((nv_nm _).le (by decide))) (all_cons (nf_fd (Nat.le_of_ble_eq_true rfl) ((nv_nm _).le (by decide))) all_nil)))))
def podcodec_list_api_Probe_c141_v (l : Rows) : Row := li (l.map fun q => podcodec_encodeProbe_v (et 201 q))
theorem podcodec_list_api_Probe_c141_nv (l : Rows) (hl : Brs l) : Nv 3 (podcodec_list_api_Probe_c141_v l) := nv_li (by rw [List.length_map]; exact hl.1) (fun q hq => by obtain ⟨x, hx, rfl⟩ := List.mem_map.1 hq; exact podcodec_encodeProbe_nv _ (Br.eta (hl.2 x hx) _))
theorem podcodec_list_api_Probe_c141_val (l : Rows) (hl : Brs l) : D (fun k => (podcodec_list_api_Probe_c141.f k l).eval) (fun v => v = podcodec_list_api_Probe_c141_v l) := by
  refine D.bnd (q := fun v => v = l.map fun q => podcodec_encodeProbe_v (et 201 q)) (D.madeV hl.1 (fun q => podcodec_encodeProbe_v (et 201 q)) (fun out i hi hlt ho => ?_) (fun out i hlt => ?_)) (fun r h => ?_)
  · refine D.tt hlt (D.tt (iIn_of hi hlt) (D.bnd (q := fun v => v = podcodec_encodeProbe_v (et 201 (rAt l i))) (podcodec_encodeProbe_val _ (Br.eta (Brs.at hl _) _)) (fun r0 h0 => ?_)))
    subst h0
    refine D.tt (made_ok hl hlt ho _) (D.ret ?_)
    show Sum.inl (rCat out [et 110 (podcodec_encodeProbe_v (et 201 (rAt l i)))], _) = _
    rw [(podcodec_encodeProbe_nv _ (Br.eta (Brs.at hl _) _)).et]
  · exact D.test (fun e => by rw [show iLt i (rLen l) = false from hlt] at e; cases e) (fun _ => D.ret rfl)
  · subst h
    exact D.bnd (q := fun v => v = podcodec_list_api_Probe_c141_v l) (list_val (n := 2) (by rw [List.length_map]; exact hl.1) (fun q hq => by obtain ⟨x, hx, rfl⟩ := List.mem_map.1 hq; exact podcodec_encodeProbe_nv _ (Br.eta (hl.2 x hx) _))) (fun r h => by subst h; exact D.ret (by kernel_rfl))
def podcodec_encodeContainer_v (a0 : Row) : Row := ob [fd (bs [105, 109, 97, 103, 101]) (st (rStr a0 1)), fd (bs [108, 105, 109, 105, 116]) (podcodec_encodeResources_v (eo 161 a0 5)), fd (bs [108, 105, 118, 101]) (podcodec_list_api_Probe_c141_v (rSl a0 8)), fd (bs [110, 97, 109, 101]) (st (rStr a0 0)), fd (bs [114, 101, 97, 100, 121]) (podcodec_list_api_Probe_c141_v (rSl a0 9)), fd (bs [114, 101, 113, 117, 101, 115, 116]) (podcodec_encodeResources_v (eo 161 a0 2)), fd (bs [115, 116, 97, 114, 116, 117, 112]) (podcodec_list_api_Probe_c141_v (rSl a0 10))]
theorem podcodec_encodeContainer_nv (a0 : Row) (ha : Br a0) : Nv 4 (podcodec_encodeContainer_v a0) := nv_ob (Nat.le_of_ble_eq_true rfl) (all_cons (nf_fd (Nat.le_of_ble_eq_true rfl) ((nv_st (Br.str ha _)).le (by decide))) (all_cons (nf_fd (Nat.le_of_ble_eq_true rfl) ((podcodec_encodeResources_nv _ (br_etaL ha _ _)).le (by decide))) (all_cons (nf_fd (Nat.le_of_ble_eq_true rfl) ((podcodec_list_api_Probe_c141_nv _ (Br.sl ha _)).le (by decide))) (all_cons (nf_fd (Nat.le_of_ble_eq_true rfl) ((nv_st (Br.str ha _)).le (by decide))) (all_cons (nf_fd (Nat.le_of_ble_eq_true rfl) ((podcodec_list_api_Probe_c141_nv _ (Br.sl ha _)).le (by decide))) (all_cons (nf_fd (Nat.le_of_ble_eq_true rfl) ((podcodec_encodeResources_nv _ (br_etaL ha _ _)).le (by decide))) (all_cons (nf_fd (Nat.le_of_ble_eq_true rfl) ((podcodec_list_api_Probe_c141_nv _ (Br.sl ha _)).le (by decide))) all_nil)))))))
theorem podcodec_encodeContainer_val (a0 : Row) (ha : Br a0) : D (fun k => (podcodec_encodeContainer.f k a0).eval) (fun v => v = podcodec_encodeContainer_v a0) := by
  refine D.bnd (q := fun v => v = st (rStr a0 1)) (D.eqn (fun _ => by kernel_rfl)) (fun r h => ?_)
  subst h
  refine D.bnd (q := fun v => v = fd (bs [105, 109, 97, 103, 101]) (st (rStr a0 1))) (D.eqn (fun _ => by kernel_rfl)) (fun r h => ?_)
  subst h
  refine D.bnd (q := fun v => v = podcodec_encodeResources_v (eo 161 a0 5)) (podcodec_encodeResources_val _ (br_etaL ha _ _)) (fun r h => ?_)
  subst h
  refine D.bnd (q := fun v => v = fd (bs [108, 105, 109, 105, 116]) (podcodec_encodeResources_v (eo 161 a0 5))) (D.eqn (fun _ => by kernel_rfl)) (fun r h => ?_)
  subst h
  refine D.bnd (q := fun v => v = podcodec_list_api_Probe_c141_v (rSl a0 8)) (podcodec_list_api_Probe_c141_val _ (Br.sl ha _)) (fun r h => ?_)
  subst h
  refine D.bnd (q := fun v => v = fd (bs [108, 105, 118, 101]) (podcodec_list_api_Probe_c141_v (rSl a0 8))) (D.eqn (fun _ => by kernel_rfl)) (fun r h => ?_)
  subst h
  refine D.bnd (q := fun v => v = st (rStr a0 0)) (D.eqn (fun _ => by kernel_rfl)) (fun r h => ?_)
  subst h
  refine D.bnd (q := fun v => v = fd (bs [110, 97, 109, 101]) (st (rStr a0 0))) (D.eqn (fun _ => by kernel_rfl)) (fun r h => ?_)
  subst h
  refine D.bnd (q := fun v => v = podcodec_list_api_Probe_c141_v (rSl a0 9)) (podcodec_list_api_Probe_c141_val _ (Br.sl ha _)) (fun r h => ?_)
  subst h
  refine D.bnd (q := fun v => v = fd (bs [114, 101, 97, 100, 121]) (podcodec_list_api_Probe_c141_v (rSl a0 9))) (D.eqn (fun _ => by kernel_rfl)) (fun r h => ?_)
  subst h
  refine D.bnd (q := fun v => v = podcodec_encodeResources_v (eo 161 a0 2)) (podcodec_encodeResources_val _ (br_etaL ha _ _)) (fun r h => ?_)
  subst h
  refine D.bnd (q := fun v => v = fd (bs [114, 101, 113, 117, 101, 115, 116]) (podcodec_encodeResources_v (eo 161 a0 2))) (D.eqn (fun _ => by kernel_rfl)) (fun r h => ?_)
  subst h
  refine D.bnd (q := fun v => v = podcodec_list_api_Probe_c141_v (rSl a0 10)) (podcodec_list_api_Probe_c141_val _ (Br.sl ha _)) (fun r h => ?_)
  subst h
  refine D.bnd (q := fun v => v = fd (bs [115, 116, 97, 114, 116, 117, 112]) (podcodec_list_api_Probe_c141_v (rSl a0 10))) (D.eqn (fun _ => by kernel_rfl)) (fun r h => ?_)
  subst h
  refine D.bnd (q := fun v => v = podcodec_encodeContainer_v a0) ?_ (fun r h => by subst h; exact D.ret (by kernel_rfl))
  exact D.of_eq (fun k => by kernel_rfl) (map_val (n := 3) (l := [fd (bs [105, 109, 97, 103, 101]) (st (rStr a0 1)), fd (bs [108, 105, 109, 105, 116]) (podcodec_encodeResources_v (eo 161 a0 5)), fd (bs [108, 105, 118, 101]) (podcodec_list_api_Probe_c141_v (rSl a0 8)), fd (bs [110, 97, 109, 101]) (st (rStr a0 0)), fd (bs [114, 101, 97, 100, 121]) (podcodec_list_api_Probe_c141_v (rSl a0 9)), fd (bs [114, 101, 113, 117, 101, 115, 116]) (podcodec_encodeResources_v (eo 161 a0 2)), fd (bs [115, 116, 97, 114, 116, 117, 112]) (podcodec_list_api_Probe_c141_v (rSl a0 10))]) (Nat.lt_of_ble rfl) (by kernel_rfl) (by kernel_rfl) (all_cons (nf_fd (Nat.le_of_ble_eq_true rfl) ((nv_st (Br.str ha _)).le (by decide))) (all_cons (nf_fd (Nat.le_of_ble_eq_true rfl) ((podcodec_encodeResources_nv _ (br_etaL ha _ _)).le (by decide))) (all_cons (nf_fd (Nat.le_of_ble_eq_true rfl) ((podcodec_list_api_Probe_c141_nv _ (Br.sl ha _)).le (by decide))) (all_cons (nf_fd (Nat.le_of_ble_eq_true rfl) ((nv_st (Br.str ha _)).le (by decide))) (all_cons (nf_fd (Nat.le_of_ble_eq_true rfl) ((podcodec_list_api_Probe_c141_nv _ (Br.sl ha _)).le (by decide))) (all_cons (nf_fd (Nat.le_of_ble_eq_true rfl) ((podcodec_encodeResources_nv _ (br_etaL ha _ _)).le (by decide))) (all_cons (nf_fd (Nat.le_of_ble_eq_true rfl) ((podcodec_list_api_Probe_c141_nv _ (Br.sl ha _)).le (by decide))) all_nil))))))))
def podcodec_list_api_Container_c110_v (l : Rows) : Row := li (l.map fun q => podcodec_encodeContainer_v (et 164 q))
theorem podcodec_list_api_Container_c110_nv (l : Rows) (hl : Brs l) : Nv 5 (podcodec_list_api_Container_c110_v l) := nv_li (by rw [List.length_map]; exact hl.1) (fun q hq => by obtain ⟨x, hx, rfl⟩ := List.mem_map.1 hq; exact podcodec_encodeContainer_nv _ (Br.eta (hl.2 x hx) _))
theorem podcodec_list_api_Container_c110_val (l : Rows) (hl : Brs l) : D (fun k => (podcodec_list_api_Container_c110.f k l).eval) (fun v => v = podcodec_list_api_Container_c110_v l) := by
  refine D.bnd (q := fun v => v = l.map fun q => podcodec_encodeContainer_v (et 164 q)) (D.madeV hl.1 (fun q => podcodec_encodeContainer_v (et 164 q)) (fun out i hi hlt ho => ?_) (fun out i hlt => ?_)) (fun r h => ?_)
  · refine D.tt hlt (D.tt (iIn_of hi hlt) (D.bnd (q := fun v => v = podcodec_encodeContainer_v (et 164 (rAt l i))) (podcodec_encodeContainer_val _ (Br.eta (Brs.at hl _) _)) (fun r0 h0 => ?_)))
    subst h0
    refine D.tt (made_ok hl hlt ho _) (D.ret ?_)
    show Sum.inl (rCat out [et 110 (podcodec_encodeContainer_v (et 164 (rAt l i)))], _) = _
    rw [(podcodec_encodeContainer_nv _ (Br.eta (Brs.at hl _) _)).et]
  · exact D.test (fun e => by rw [show iLt i (rLen l) = false from hlt] at e; cases e) (fun _ => D.ret rfl)
  · subst h
    exact D.bnd (q := fun v => v = podcodec_list_api_Container_c110_v l) (list_val (n := 4) (by rw [List.length_map]; exact hl.1) (fun q hq => by obtain ⟨x, hx, rfl⟩ := List.mem_map.1 hq; exact podcodec_encodeContainer_nv _ (Br.eta (hl.2 x hx) _))) (fun r h => by subst h; exact D.ret (by kernel_rfl))
def podcodec_list_string_c108_v (l : Rows) : Row := li (l.map fun q => st (rStr q 0))
theorem podcodec_list_string_c108_nv (l : Rows) (hl : Brs l) : Nv 2 (podcodec_list_string_c108_v l) := nv_li (by rw [List.length_map]; exact hl.1) (fun q hq => by obtain ⟨x, hx, rfl⟩ := List.mem_map.1 hq; exact nv_st (Br.str (hl.2 x hx) _))
theorem podcodec_list_string_c108_val (l : Rows) (hl : Brs l) : D (fun k => (podcodec_list_string_c108.f k l).eval) (fun v => v = podcodec_list_string_c108_v l) := by
  refine D.bnd (q := fun v => v = l.map fun q => st (rStr q 0)) (D.madeV hl.1 (fun q => st (rStr q 0)) (fun out i hi hlt ho => ?_) (fun out i hlt => ?_)) (fun r h => ?_)
  · refine D.tt hlt (D.tt (iIn_of hi hlt) (D.bnd (q := fun v => v = st (rStr (rAt l i) 0)) (D.eqn (fun _ => by kernel_rfl)) (fun r0 h0 => ?_)))
    subst h0
    refine D.tt (made_ok hl hlt ho _) (D.ret ?_)
    show Sum.inl (rCat out [et 110 (st (rStr (rAt l i) 0))], _) = _
    rw [(nv_st (Br.str (Brs.at hl _) _)).et]
  · exact D.test (fun e => by rw [show iLt i (rLen l) = false from hlt] at e; cases e) (fun _ => D.ret rfl)
  · subst h
    exact D.bnd (q := fun v => v = podcodec_list_string_c108_v l) (list_val (n := 1) (by rw [List.length_map]; exact hl.1) (fun q hq => by obtain ⟨x, hx, rfl⟩ := List.mem_map.1 hq; exact nv_st (Br.str (hl.2 x hx) _))) (fun r h => by subst h; exact D.ret (by kernel_rfl))
def podcodec_encodeRequirement_v (a0 : Row) : Row := ob [fd (bs [107, 101, 121]) (st (rStr a0 0)), fd (bs [111, 112]) (nm (rInt a0 1)), fd (bs [118, 97, 108, 117, 101, 115]) (podcodec_list_string_c108_v (rSl a0 2))]
theorem podcodec_encodeRequirement_nv (a0 : Row) (ha : Br a0) : Nv 3 (podcodec_encodeRequirement_v a0) := nv_ob (Nat.le_of_ble_eq_true rfl) (all_cons (nf_fd (Nat.le_of_ble_eq_true rfl) ((nv_st (Br.str ha _)).le (by decide))) (all_cons (nf_fd (Nat.le_of_ble_eq_true rfl) ((nv_nm _).le (by decide))) (all_cons (nf_fd (Nat.le_of_ble_eq_true rfl) ((podcodec_list_string_c108_nv _ (Br.sl ha _)).le (by decide))) all_nil)))
theorem podcodec_encodeRequirement_val (a0 : Row) (ha : Br a0) : D (fun k => (podcodec_encodeRequirement.f k a0).eval) (fun v => v = podcodec_encodeRequirement_v a0) := by
  refine D.bnd (q := fun v => v = st (rStr a0 0)) (D.eqn (fun _ => by kernel_rfl)) (fun r h => ?_)
  subst h
  refine D.bnd (q := fun v => v = fd (bs [107, 101, 121]) (st (rStr a0 0))) (D.eqn (fun _ => by kernel_rfl)) (fun r h => ?_)
  subst h
  refine D.bnd (q := fun v => v = nm (rInt a0 1)) (D.eqn (fun _ => by kernel_rfl)) (fun r h => ?_)
  subst h
  refine D.bnd (q := fun v => v = fd (bs [111, 112]) (nm (rInt a0 1))) (D.eqn (fun _ => by kernel_rfl)) (fun r h => ?_)
  subst h
  refine D.bnd (q := fun v => v = podcodec_list_string_c108_v (rSl a0 2)) (podcodec_list_string_c108_val _ (Br.sl ha _)) (fun r h => ?_)
  subst h
  refine D.bnd (q := fun v => v = fd (bs [118, 97, 108, 117, 101, 115]) (podcodec_list_string_c108_v (rSl a0 2))) (D.eqn (fun _ => by kernel_rfl)) (fun r h => ?_)
  subst h
  refine D.bnd (q := fun v => v = podcodec_encodeRequirement_v a0) ?_ (fun r h => by subst h; exact D.ret (by kernel_rfl))
  exact D.of_eq (fun k => by kernel_rfl) (map_val (n := 2) (l := [fd (bs [107, 101, 121]) (st (rStr a0 0)), fd (bs [111, 112]) (nm (rInt a0 1)), fd (bs [118, 97, 108, 117, 101, 115]) (podcodec_list_string_c108_v (rSl a0 2))]) (Nat.lt_of_ble rfl) (by kernel_rfl) (by kernel_rfl) (all_cons (nf_fd (Nat.le_of_ble_eq_true rfl) ((nv_st (Br.str ha _)).le (by decide))) (all_cons (nf_fd (Nat.le_of_ble_eq_true rfl) ((nv_nm _).le (by decide))) (all_cons (nf_fd (Nat.le_of_ble_eq_true rfl) ((podcodec_list_string_c108_nv _ (Br.sl ha _)).le (by decide))) all_nil))))
def podcodec_list_api_Requirement_c113_v (l : Rows) : Row := li (l.map fun q => podcodec_encodeRequirement_v (et 168 q))
theorem podcodec_list_api_Requirement_c113_nv (l : Rows) (hl : Brs l) : Nv 4 (podcodec_list_api_Requirement_c113_v l) := nv_li (by rw [List.length_map]; exact hl.1) (fun q hq => by obtain ⟨x, hx, rfl⟩ := List.mem_map.1 hq; exact podcodec_encodeRequirement_nv _ (Br.eta (hl.2 x hx) _))
theorem podcodec_list_api_Requirement_c113_val (l : Rows) (hl : Brs l) : D (fun k => (podcodec_list_api_Requirement_c113.f k l).eval) (fun v => v = podcodec_list_api_Requirement_c113_v l) := by
  refine D.bnd (q := fun v => v = l.map fun q => podcodec_encodeRequirement_v (et 168 q)) (D.madeV hl.1 (fun q => podcodec_encodeRequirement_v (et 168 q)) (fun out i hi hlt ho => ?_) (fun out i hlt => ?_)) (fun r h => ?_)
  · refine D.tt hlt (D.tt (iIn_of hi hlt) (D.bnd (q := fun v => v = podcodec_encodeRequirement_v (et 168 (rAt l i))) (podcodec_encodeRequirement_val _ (Br.eta (Brs.at hl _) _)) (fun r0 h0 => ?_)))
    subst h0
    refine D.tt (made_ok hl hlt ho _) (D.ret ?_)
    show Sum.inl (rCat out [et 110 (podcodec_encodeRequirement_v (et 168 (rAt l i)))], _) = _
    rw [(podcodec_encodeRequirement_nv _ (Br.eta (Brs.at hl _) _)).et]
  · exact D.test (fun e => by rw [show iLt i (rLen l) = false from hlt] at e; cases e) (fun _ => D.ret rfl)
  · subst h
    exact D.bnd (q := fun v => v = podcodec_list_api_Requirement_c113_v l) (list_val (n := 3) (by rw [List.length_map]; exact hl.1) (fun q hq => by obtain ⟨x, hx, rfl⟩ := List.mem_map.1 hq; exact podcodec_encodeRequirement_nv _ (Br.eta (hl.2 x hx) _))) (fun r h => by subst h; exact D.ret (by kernel_rfl))
def podcodec_encodeNodeTerm_v (a0 : Row) : Row := ob [fd (bs [114, 101, 113, 117, 105, 114, 101, 100]) (tr (rBool a0 0)), fd (bs [115, 101, 108, 101, 99, 116, 111, 114]) (podcodec_list_api_Requirement_c113_v (rSl a0 1)), fd (bs [119, 101, 105, 103, 104, 116]) (nm (rInt a0 2))]
theorem podcodec_encodeNodeTerm_nv (a0 : Row) (ha : Br a0) : Nv 5 (podcodec_encodeNodeTerm_v a0) := nv_ob (Nat.le_of_ble_eq_true rfl) (all_cons (nf_fd (Nat.le_of_ble_eq_true rfl) ((nv_tr _).le (by decide))) (all_cons (nf_fd (Nat.le_of_ble_eq_true rfl) ((podcodec_list_api_Requirement_c113_nv _ (Br.sl ha _)).le (by decide))) (all_cons (nf_fd (Nat.le_of_ble_eq_true rfl) ((nv_nm _).le (by decide))) all_nil)))
theorem podcodec_encodeNodeTerm_val (a0 : Row) (ha : Br a0) : D (fun k => (podcodec_encodeNodeTerm.f k a0).eval) (fun v => v = podcodec_encodeNodeTerm_v a0) := by
  refine D.bnd (q := fun v => v = tr (rBool a0 0)) (D.eqn (fun _ => by cases (rBool a0 0) <;> kernel_rfl)) (fun r h => ?_)
  subst h
  refine D.bnd (q := fun v => v = fd (bs [114, 101, 113, 117, 105, 114, 101, 100]) (tr (rBool a0 0))) (D.eqn (fun _ => by kernel_rfl)) (fun r h => ?_)
  subst h
  refine D.bnd (q := fun v => v = podcodec_list_api_Requirement_c113_v (rSl a0 1)) (podcodec_list_api_Requirement_c113_val _ (Br.sl ha _)) (fun r h => ?_)
  subst h
  refine D.bnd (q := fun v => v = fd (bs [115, 101, 108, 101, 99, 116, 111, 114]) (podcodec_list_api_Requirement_c113_v (rSl a0 1))) (D.eqn (fun _ => by kernel_rfl)) (fun r h => ?_)
  subst h
  refine D.bnd (q := fun v => v = nm (rInt a0 2)) (D.eqn (fun _ => by kernel_rfl)) (fun r h => ?_)
  subst h
  refine D.bnd (q := fun v => v = fd (bs [119, 101, 105, 103, 104, 116]) (nm (rInt a0 2))) (D.eqn (fun _ => by kernel_rfl)) (fun r h => ?_)
  subst h
  refine D.bnd (q := fun v => v = podcodec_encodeNodeTerm_v a0) ?_ (fun r h => by subst h; exact D.ret (by kernel_rfl))
  exact D.of_eq (fun k => by kernel_rfl) (map_val (n := 4) (l := [fd (bs [114, 101, 113, 117, 105, 114, 101, 100]) (tr (rBool a0 0)), fd (bs [115, 101, 108, 101, 99, 116, 111, 114]) (podcodec_list_api_Requirement_c113_v (rSl a0 1)), fd (bs [119, 101, 105, 103, 104, 116]) (nm (rInt a0 2))]) (Nat.lt_of_ble rfl) (by kernel_rfl) (by kernel_rfl) (all_cons (nf_fd (Nat.le_of_ble_eq_true rfl) ((nv_tr _).le (by decide))) (all_cons (nf_fd (Nat.le_of_ble_eq_true rfl) ((podcodec_list_api_Requirement_c113_nv _ (Br.sl ha _)).le (by decide))) (all_cons (nf_fd (Nat.le_of_ble_eq_true rfl) ((nv_nm _).le (by decide))) all_nil))))
def podcodec_list_api_NodeTerm_c115_v (l : Rows) : Row := li (l.map fun q => podcodec_encodeNodeTerm_v (et 172 q))
theorem podcodec_list_api_NodeTerm_c115_nv (l : Rows) (hl : Brs l) : Nv 6 (podcodec_list_api_NodeTerm_c115_v l) := nv_li (by rw [List.length_map]; exact hl.1) (fun q hq => by obtain ⟨x, hx, rfl⟩ := List.mem_map.1 hq; exact podcodec_encodeNodeTerm_nv _ (Br.eta (hl.2 x hx) _))
theorem podcodec_list_api_NodeTerm_c115_val (l : Rows) (hl : Brs l) : D (fun k => (podcodec_list_api_NodeTerm_c115.f k l).eval) (fun v => v = podcodec_list_api_NodeTerm_c115_v l) := by
  refine D.bnd (q := fun v => v = l.map fun q => podcodec_encodeNodeTerm_v (et 172 q)) (D.madeV hl.1 (fun q => podcodec_encodeNodeTerm_v (et 172 q)) (fun out i hi hlt ho => ?_) (fun out i hlt => ?_)) (fun r h => ?_)
  · refine D.tt hlt (D.tt (iIn_of hi hlt) (D.bnd (q := fun v => v = podcodec_encodeNodeTerm_v (et 172 (rAt l i))) (podcodec_encodeNodeTerm_val _ (Br.eta (Brs.at hl _) _)) (fun r0 h0 => ?_)))
    subst h0
    refine D.tt (made_ok hl hlt ho _) (D.ret ?_)
    show Sum.inl (rCat out [et 110 (podcodec_encodeNodeTerm_v (et 172 (rAt l i)))], _) = _
    rw [(podcodec_encodeNodeTerm_nv _ (Br.eta (Brs.at hl _) _)).et]
  · exact D.test (fun e => by rw [show iLt i (rLen l) = false from hlt] at e; cases e) (fun _ => D.ret rfl)
  · subst h
    exact D.bnd (q := fun v => v = podcodec_list_api_NodeTerm_c115_v l) (list_val (n := 5) (by rw [List.length_map]; exact hl.1) (fun q hq => by obtain ⟨x, hx, rfl⟩ := List.mem_map.1 hq; exact podcodec_encodeNodeTerm_nv _ (Br.eta (hl.2 x hx) _))) (fun r h => by subst h; exact D.ret (by kernel_rfl))
def podcodec_encodePodTerm_v (a0 : Row) : Row := ob [fd (bs [97, 110, 116, 105]) (tr (rBool a0 1)), fd (bs [114, 101, 113, 117, 105, 114, 101, 100]) (tr (rBool a0 0)), fd (bs [115, 101, 108, 101, 99, 116, 111, 114]) (podcodec_list_api_Requirement_c113_v (rSl a0 2)), fd (bs [116, 111, 112, 111, 108, 111, 103, 121]) (st (rStr a0 3)), fd (bs [119, 101, 105, 103, 104, 116]) (nm (rInt a0 4))]
theorem podcodec_encodePodTerm_nv (a0 : Row) (ha : Br a0) : Nv 5 (podcodec_encodePodTerm_v a0) := nv_ob (Nat.le_of_ble_eq_true rfl) (all_cons (nf_fd (Nat.le_of_ble_eq_true rfl) ((nv_tr _).le (by decide))) (all_cons (nf_fd (Nat.le_of_ble_eq_true rfl) ((nv_tr _).le (by decide))) (all_cons (nf_fd (Nat.le_of_ble_eq_true rfl) ((podcodec_list_api_Requirement_c113_nv _ (Br.sl ha _)).le (by decide))) (all_cons (nf_fd (Nat.le_of_ble_eq_true rfl) ((nv_st (Br.str ha _)).le (by decide))) (all_cons (nf_fd (Nat.le_of_ble_eq_true rfl) ((nv_nm _).le (by decide))) all_nil)))))
theorem podcodec_encodePodTerm_val (a0 : Row) (ha : Br a0) : D (fun k => (podcodec_encodePodTerm.f k a0).eval) (fun v => v = podcodec_encodePodTerm_v a0) := by
  refine D.bnd (q := fun v => v = tr (rBool a0 1)) (D.eqn (fun _ => by cases (rBool a0 1) <;> kernel_rfl)) (fun r h => ?_)
  subst h
  refine D.bnd (q := fun v => v = fd (bs [97, 110, 116, 105]) (tr (rBool a0 1))) (D.eqn (fun _ => by kernel_rfl)) (fun r h => ?_)
  subst h
  refine D.bnd (q := fun v => v = tr (rBool a0 0)) (D.eqn (fun _ => by cases (rBool a0 0) <;> kernel_rfl)) (fun r h => ?_)
  subst h
  refine D.bnd (q := fun v => v = fd (bs [114, 101, 113, 117, 105, 114, 101, 100]) (tr (rBool a0 0))) (D.eqn (fun _ => by kernel_rfl)) (fun r h => ?_)
  subst h
  refine D.bnd (q := fun v => v = podcodec_list_api_Requirement_c113_v (rSl a0 2)) (podcodec_list_api_Requirement_c113_val _ (Br.sl ha _)) (fun r h => ?_)
  subst h
  refine D.bnd (q := fun v => v = fd (bs [115, 101, 108, 101, 99, 116, 111, 114]) (podcodec_list_api_Requirement_c113_v (rSl a0 2))) (D.eqn (fun _ => by kernel_rfl)) (fun r h => ?_)
  subst h
  refine D.bnd (q := fun v => v = st (rStr a0 3)) (D.eqn (fun _ => by kernel_rfl)) (fun r h => ?_)
  subst h
  refine D.bnd (q := fun v => v = fd (bs [116, 111, 112, 111, 108, 111, 103, 121]) (st (rStr a0 3))) (D.eqn (fun _ => by kernel_rfl)) (fun r h => ?_)
  subst h
  refine D.bnd (q := fun v => v = nm (rInt a0 4)) (D.eqn (fun _ => by kernel_rfl)) (fun r h => ?_)
  subst h
  refine D.bnd (q := fun v => v = fd (bs [119, 101, 105, 103, 104, 116]) (nm (rInt a0 4))) (D.eqn (fun _ => by kernel_rfl)) (fun r h => ?_)
  subst h
  refine D.bnd (q := fun v => v = podcodec_encodePodTerm_v a0) ?_ (fun r h => by subst h; exact D.ret (by kernel_rfl))
  exact D.of_eq (fun k => by kernel_rfl) (map_val (n := 4) (l := [fd (bs [97, 110, 116, 105]) (tr (rBool a0 1)), fd (bs [114, 101, 113, 117, 105, 114, 101, 100]) (tr (rBool a0 0)), fd (bs [115, 101, 108, 101, 99, 116, 111, 114]) (podcodec_list_api_Requirement_c113_v (rSl a0 2)), fd (bs [116, 111, 112, 111, 108, 111, 103, 121]) (st (rStr a0 3)), fd (bs [119, 101, 105, 103, 104, 116]) (nm (rInt a0 4))]) (Nat.lt_of_ble rfl) (by kernel_rfl) (by kernel_rfl) (all_cons (nf_fd (Nat.le_of_ble_eq_true rfl) ((nv_tr _).le (by decide))) (all_cons (nf_fd (Nat.le_of_ble_eq_true rfl) ((nv_tr _).le (by decide))) (all_cons (nf_fd (Nat.le_of_ble_eq_true rfl) ((podcodec_list_api_Requirement_c113_nv _ (Br.sl ha _)).le (by decide))) (all_cons (nf_fd (Nat.le_of_ble_eq_true rfl) ((nv_st (Br.str ha _)).le (by decide))) (all_cons (nf_fd (Nat.le_of_ble_eq_true rfl) ((nv_nm _).le (by decide))) all_nil))))))
def podcodec_list_api_PodTerm_c117_v (l : Rows) : Row := li (l.map fun q => podcodec_encodePodTerm_v (et 176 q))
theorem podcodec_list_api_PodTerm_c117_nv (l : Rows) (hl : Brs l) : Nv 6 (podcodec_list_api_PodTerm_c117_v l) := nv_li (by rw [List.length_map]; exact hl.1) (fun q hq => by obtain ⟨x, hx, rfl⟩ := List.mem_map.1 hq; exact podcodec_encodePodTerm_nv _ (Br.eta (hl.2 x hx) _))
theorem podcodec_list_api_PodTerm_c117_val (l : Rows) (hl : Brs l) : D (fun k => (podcodec_list_api_PodTerm_c117.f k l).eval) (fun v => v = podcodec_list_api_PodTerm_c117_v l) := by
  refine D.bnd (q := fun v => v = l.map fun q => podcodec_encodePodTerm_v (et 176 q)) (D.madeV hl.1 (fun q => podcodec_encodePodTerm_v (et 176 q)) (fun out i hi hlt ho => ?_) (fun out i hlt => ?_)) (fun r h => ?_)
  · refine D.tt hlt (D.tt (iIn_of hi hlt) (D.bnd (q := fun v => v = podcodec_encodePodTerm_v (et 176 (rAt l i))) (podcodec_encodePodTerm_val _ (Br.eta (Brs.at hl _) _)) (fun r0 h0 => ?_)))
    subst h0
    refine D.tt (made_ok hl hlt ho _) (D.ret ?_)
    show Sum.inl (rCat out [et 110 (podcodec_encodePodTerm_v (et 176 (rAt l i)))], _) = _
    rw [(podcodec_encodePodTerm_nv _ (Br.eta (Brs.at hl _) _)).et]
  · exact D.test (fun e => by rw [show iLt i (rLen l) = false from hlt] at e; cases e) (fun _ => D.ret rfl)
  · subst h
    exact D.bnd (q := fun v => v = podcodec_list_api_PodTerm_c117_v l) (list_val (n := 5) (by rw [List.length_map]; exact hl.1) (fun q hq => by obtain ⟨x, hx, rfl⟩ := List.mem_map.1 hq; exact podcodec_encodePodTerm_nv _ (Br.eta (hl.2 x hx) _))) (fun r h => by subst h; exact D.ret (by kernel_rfl))
def podcodec_encodeSpread_v (a0 : Row) : Row := ob [fd (bs [109, 97, 120, 83, 107, 101, 119]) (nm (rInt a0 0)), fd (bs [114, 101, 113, 117, 105, 114, 101, 100]) (tr (rBool a0 3)), fd (bs [115, 101, 108, 101, 99, 116, 111, 114]) (podcodec_list_api_Requirement_c113_v (rSl a0 2)), fd (bs [116, 111, 112, 111, 108, 111, 103, 121]) (st (rStr a0 1))]
theorem podcodec_encodeSpread_nv (a0 : Row) (ha : Br a0) : Nv 5 (podcodec_encodeSpread_v a0) := nv_ob (Nat.le_of_ble_eq_true rfl) (all_cons (nf_fd (Nat.le_of_ble_eq_true rfl) ((nv_nm _).le (by decide))) (all_cons (nf_fd (Nat.le_of_ble_eq_true rfl) ((nv_tr _).le (by decide))) (all_cons (nf_fd (Nat.le_of_ble_eq_true rfl) ((podcodec_list_api_Requirement_c113_nv _ (Br.sl ha _)).le (by decide))) (all_cons (nf_fd (Nat.le_of_ble_eq_true rfl) ((nv_st (Br.str ha _)).le (by decide))) all_nil))))
theorem podcodec_encodeSpread_val (a0 : Row) (ha : Br a0) : D (fun k => (podcodec_encodeSpread.f k a0).eval) (fun v => v = podcodec_encodeSpread_v a0) := by
  refine D.bnd (q := fun v => v = nm (rInt a0 0)) (D.eqn (fun _ => by kernel_rfl)) (fun r h => ?_)
  subst h
  refine D.bnd (q := fun v => v = fd (bs [109, 97, 120, 83, 107, 101, 119]) (nm (rInt a0 0))) (D.eqn (fun _ => by kernel_rfl)) (fun r h => ?_)
  subst h
  refine D.bnd (q := fun v => v = tr (rBool a0 3)) (D.eqn (fun _ => by cases (rBool a0 3) <;> kernel_rfl)) (fun r h => ?_)
  subst h
  refine D.bnd (q := fun v => v = fd (bs [114, 101, 113, 117, 105, 114, 101, 100]) (tr (rBool a0 3))) (D.eqn (fun _ => by kernel_rfl)) (fun r h => ?_)
  subst h
  refine D.bnd (q := fun v => v = podcodec_list_api_Requirement_c113_v (rSl a0 2)) (podcodec_list_api_Requirement_c113_val _ (Br.sl ha _)) (fun r h => ?_)
  subst h
  refine D.bnd (q := fun v => v = fd (bs [115, 101, 108, 101, 99, 116, 111, 114]) (podcodec_list_api_Requirement_c113_v (rSl a0 2))) (D.eqn (fun _ => by kernel_rfl)) (fun r h => ?_)
  subst h
  refine D.bnd (q := fun v => v = st (rStr a0 1)) (D.eqn (fun _ => by kernel_rfl)) (fun r h => ?_)
  subst h
  refine D.bnd (q := fun v => v = fd (bs [116, 111, 112, 111, 108, 111, 103, 121]) (st (rStr a0 1))) (D.eqn (fun _ => by kernel_rfl)) (fun r h => ?_)
  subst h
  refine D.bnd (q := fun v => v = podcodec_encodeSpread_v a0) ?_ (fun r h => by subst h; exact D.ret (by kernel_rfl))
  exact D.of_eq (fun k => by kernel_rfl) (map_val (n := 4) (l := [fd (bs [109, 97, 120, 83, 107, 101, 119]) (nm (rInt a0 0)), fd (bs [114, 101, 113, 117, 105, 114, 101, 100]) (tr (rBool a0 3)), fd (bs [115, 101, 108, 101, 99, 116, 111, 114]) (podcodec_list_api_Requirement_c113_v (rSl a0 2)), fd (bs [116, 111, 112, 111, 108, 111, 103, 121]) (st (rStr a0 1))]) (Nat.lt_of_ble rfl) (by kernel_rfl) (by kernel_rfl) (all_cons (nf_fd (Nat.le_of_ble_eq_true rfl) ((nv_nm _).le (by decide))) (all_cons (nf_fd (Nat.le_of_ble_eq_true rfl) ((nv_tr _).le (by decide))) (all_cons (nf_fd (Nat.le_of_ble_eq_true rfl) ((podcodec_list_api_Requirement_c113_nv _ (Br.sl ha _)).le (by decide))) (all_cons (nf_fd (Nat.le_of_ble_eq_true rfl) ((nv_st (Br.str ha _)).le (by decide))) all_nil)))))
def podcodec_list_api_SpreadRule_c119_v (l : Rows) : Row := li (l.map fun q => podcodec_encodeSpread_v (et 180 q))
theorem podcodec_list_api_SpreadRule_c119_nv (l : Rows) (hl : Brs l) : Nv 6 (podcodec_list_api_SpreadRule_c119_v l) := nv_li (by rw [List.length_map]; exact hl.1) (fun q hq => by obtain ⟨x, hx, rfl⟩ := List.mem_map.1 hq; exact podcodec_encodeSpread_nv _ (Br.eta (hl.2 x hx) _))
theorem podcodec_list_api_SpreadRule_c119_val (l : Rows) (hl : Brs l) : D (fun k => (podcodec_list_api_SpreadRule_c119.f k l).eval) (fun v => v = podcodec_list_api_SpreadRule_c119_v l) := by
  refine D.bnd (q := fun v => v = l.map fun q => podcodec_encodeSpread_v (et 180 q)) (D.madeV hl.1 (fun q => podcodec_encodeSpread_v (et 180 q)) (fun out i hi hlt ho => ?_) (fun out i hlt => ?_)) (fun r h => ?_)
  · refine D.tt hlt (D.tt (iIn_of hi hlt) (D.bnd (q := fun v => v = podcodec_encodeSpread_v (et 180 (rAt l i))) (podcodec_encodeSpread_val _ (Br.eta (Brs.at hl _) _)) (fun r0 h0 => ?_)))
    subst h0
    refine D.tt (made_ok hl hlt ho _) (D.ret ?_)
    show Sum.inl (rCat out [et 110 (podcodec_encodeSpread_v (et 180 (rAt l i)))], _) = _
    rw [(podcodec_encodeSpread_nv _ (Br.eta (Brs.at hl _) _)).et]
  · exact D.test (fun e => by rw [show iLt i (rLen l) = false from hlt] at e; cases e) (fun _ => D.ret rfl)
  · subst h
    exact D.bnd (q := fun v => v = podcodec_list_api_SpreadRule_c119_v l) (list_val (n := 5) (by rw [List.length_map]; exact hl.1) (fun q hq => by obtain ⟨x, hx, rfl⟩ := List.mem_map.1 hq; exact podcodec_encodeSpread_nv _ (Br.eta (hl.2 x hx) _))) (fun r h => by subst h; exact D.ret (by kernel_rfl))
def podcodec_encodeToleration_v (a0 : Row) : Row := ob [fd (bs [101, 102, 102, 101, 99, 116]) (nm (rInt a0 3)), fd (bs [101, 120, 105, 115, 116, 115]) (tr (rBool a0 2)), fd (bs [107, 101, 121]) (st (rStr a0 0)), fd (bs [115, 101, 99, 111, 110, 100, 115]) (nm (rInt a0 4)), fd (bs [118, 97, 108, 117, 101]) (st (rStr a0 1))]
theorem podcodec_encodeToleration_nv (a0 : Row) (ha : Br a0) : Nv 2 (podcodec_encodeToleration_v a0) := nv_ob (Nat.le_of_ble_eq_true rfl) (all_cons (nf_fd (Nat.le_of_ble_eq_true rfl) ((nv_nm _).le (by decide))) (all_cons (nf_fd (Nat.le_of_ble_eq_true rfl) ((nv_tr _).le (by decide))) (all_cons (nf_fd (Nat.le_of_ble_eq_true rfl) ((nv_st (Br.str ha _)).le (by decide))) (all_cons (nf_fd (Nat.le_of_ble_eq_true rfl) ((nv_nm _).le (by decide))) (all_cons (nf_fd (Nat.le_of_ble_eq_true rfl) ((nv_st (Br.str ha _)).le (by decide))) all_nil)))))
theorem podcodec_encodeToleration_val (a0 : Row) (ha : Br a0) : D (fun k => (podcodec_encodeToleration.f k a0).eval) (fun v => v = podcodec_encodeToleration_v a0) := by
  refine D.bnd (q := fun v => v = nm (rInt a0 3)) (D.eqn (fun _ => by kernel_rfl)) (fun r h => ?_)
  subst h
  refine D.bnd (q := fun v => v = fd (bs [101, 102, 102, 101, 99, 116]) (nm (rInt a0 3))) (D.eqn (fun _ => by kernel_rfl)) (fun r h => ?_)
  subst h
  refine D.bnd (q := fun v => v = tr (rBool a0 2)) (D.eqn (fun _ => by cases (rBool a0 2) <;> kernel_rfl)) (fun r h => ?_)
  subst h
  refine D.bnd (q := fun v => v = fd (bs [101, 120, 105, 115, 116, 115]) (tr (rBool a0 2))) (D.eqn (fun _ => by kernel_rfl)) (fun r h => ?_)
  subst h
  refine D.bnd (q := fun v => v = st (rStr a0 0)) (D.eqn (fun _ => by kernel_rfl)) (fun r h => ?_)
  subst h
  refine D.bnd (q := fun v => v = fd (bs [107, 101, 121]) (st (rStr a0 0))) (D.eqn (fun _ => by kernel_rfl)) (fun r h => ?_)
  subst h
  refine D.bnd (q := fun v => v = nm (rInt a0 4)) (D.eqn (fun _ => by kernel_rfl)) (fun r h => ?_)
  subst h
  refine D.bnd (q := fun v => v = fd (bs [115, 101, 99, 111, 110, 100, 115]) (nm (rInt a0 4))) (D.eqn (fun _ => by kernel_rfl)) (fun r h => ?_)
  subst h
  refine D.bnd (q := fun v => v = st (rStr a0 1)) (D.eqn (fun _ => by kernel_rfl)) (fun r h => ?_)
  subst h
  refine D.bnd (q := fun v => v = fd (bs [118, 97, 108, 117, 101]) (st (rStr a0 1))) (D.eqn (fun _ => by kernel_rfl)) (fun r h => ?_)
  subst h
  refine D.bnd (q := fun v => v = podcodec_encodeToleration_v a0) ?_ (fun r h => by subst h; exact D.ret (by kernel_rfl))
  exact D.of_eq (fun k => by kernel_rfl) (map_val (n := 1) (l := [fd (bs [101, 102, 102, 101, 99, 116]) (nm (rInt a0 3)), fd (bs [101, 120, 105, 115, 116, 115]) (tr (rBool a0 2)), fd (bs [107, 101, 121]) (st (rStr a0 0)), fd (bs [115, 101, 99, 111, 110, 100, 115]) (nm (rInt a0 4)), fd (bs [118, 97, 108, 117, 101]) (st (rStr a0 1))]) (Nat.lt_of_ble rfl) (by kernel_rfl) (by kernel_rfl) (all_cons (nf_fd (Nat.le_of_ble_eq_true rfl) ((nv_nm _).le (by decide))) (all_cons (nf_fd (Nat.le_of_ble_eq_true rfl) ((nv_tr _).le (by decide))) (all_cons (nf_fd (Nat.le_of_ble_eq_true rfl) ((nv_st (Br.str ha _)).le (by decide))) (all_cons (nf_fd (Nat.le_of_ble_eq_true rfl) ((nv_nm _).le (by decide))) (all_cons (nf_fd (Nat.le_of_ble_eq_true rfl) ((nv_st (Br.str ha _)).le (by decide))) all_nil))))))
def podcodec_list_api_Toleration_c121_v (l : Rows) : Row := li (l.map fun q => podcodec_encodeToleration_v (et 184 q))
theorem podcodec_list_api_Toleration_c121_nv (l : Rows) (hl : Brs l) : Nv 3 (podcodec_list_api_Toleration_c121_v l) := nv_li (by rw [List.length_map]; exact hl.1) (fun q hq => by obtain ⟨x, hx, rfl⟩ := List.mem_map.1 hq; exact podcodec_encodeToleration_nv _ (Br.eta (hl.2 x hx) _))
theorem podcodec_list_api_Toleration_c121_val (l : Rows) (hl : Brs l) : D (fun k => (podcodec_list_api_Toleration_c121.f k l).eval) (fun v => v = podcodec_list_api_Toleration_c121_v l) := by
  refine D.bnd (q := fun v => v = l.map fun q => podcodec_encodeToleration_v (et 184 q)) (D.madeV hl.1 (fun q => podcodec_encodeToleration_v (et 184 q)) (fun out i hi hlt ho => ?_) (fun out i hlt => ?_)) (fun r h => ?_)
  · refine D.tt hlt (D.tt (iIn_of hi hlt) (D.bnd (q := fun v => v = podcodec_encodeToleration_v (et 184 (rAt l i))) (podcodec_encodeToleration_val _ (Br.eta (Brs.at hl _) _)) (fun r0 h0 => ?_)))
    subst h0
    refine D.tt (made_ok hl hlt ho _) (D.ret ?_)
    show Sum.inl (rCat out [et 110 (podcodec_encodeToleration_v (et 184 (rAt l i)))], _) = _
    rw [(podcodec_encodeToleration_nv _ (Br.eta (Brs.at hl _) _)).et]
  · exact D.test (fun e => by rw [show iLt i (rLen l) = false from hlt] at e; cases e) (fun _ => D.ret rfl)
  · subst h
    exact D.bnd (q := fun v => v = podcodec_list_api_Toleration_c121_v l) (list_val (n := 2) (by rw [List.length_map]; exact hl.1) (fun q hq => by obtain ⟨x, hx, rfl⟩ := List.mem_map.1 hq; exact podcodec_encodeToleration_nv _ (Br.eta (hl.2 x hx) _))) (fun r h => by subst h; exact D.ret (by kernel_rfl))
def podcodec_encodeSpec_v (a0 : Row) : Row := ob [fd (bs [99, 111, 110, 116, 97, 105, 110, 101, 114, 115]) (podcodec_list_api_Container_c110_v (rSl a0 4)), fd (bs [103, 114, 97, 99, 101]) (nm (rInt a0 3)), fd (bs [110, 111, 100, 101]) (st (rStr a0 0)), fd (bs [110, 111, 100, 101, 83, 101, 108, 101, 99, 116, 111, 114]) (podcodec_list_api_Requirement_c113_v (rSl a0 5)), fd (bs [110, 111, 100, 101, 84, 101, 114, 109, 115]) (podcodec_list_api_NodeTerm_c115_v (rSl a0 6)), fd (bs [112, 111, 100, 84, 101, 114, 109, 115]) (podcodec_list_api_PodTerm_c117_v (rSl a0 7)), fd (bs [112, 114, 105, 111, 114, 105, 116, 121]) (nm (rInt a0 1)), fd (bs [114, 101, 115, 116, 97, 114, 116]) (nm (rInt a0 2)), fd (bs [115, 112, 114, 101, 97, 100]) (podcodec_list_api_SpreadRule_c119_v (rSl a0 8)), fd (bs [116, 111, 108, 101, 114, 97, 116, 105, 111, 110, 115]) (podcodec_list_api_Toleration_c121_v (rSl a0 9))]
theorem podcodec_encodeSpec_nv (a0 : Row) (ha : Br a0) : Nv 7 (podcodec_encodeSpec_v a0) := nv_ob (Nat.le_of_ble_eq_true rfl) (all_cons (nf_fd (Nat.le_of_ble_eq_true rfl) ((podcodec_list_api_Container_c110_nv _ (Br.sl ha _)).le (by decide))) (all_cons (nf_fd (Nat.le_of_ble_eq_true rfl) ((nv_nm _).le (by decide))) (all_cons (nf_fd (Nat.le_of_ble_eq_true rfl) ((nv_st (Br.str ha _)).le (by decide))) (all_cons (nf_fd (Nat.le_of_ble_eq_true rfl) ((podcodec_list_api_Requirement_c113_nv _ (Br.sl ha _)).le (by decide))) (all_cons (nf_fd (Nat.le_of_ble_eq_true rfl) ((podcodec_list_api_NodeTerm_c115_nv _ (Br.sl ha _)).le (by decide))) (all_cons (nf_fd (Nat.le_of_ble_eq_true rfl) ((podcodec_list_api_PodTerm_c117_nv _ (Br.sl ha _)).le (by decide))) (all_cons (nf_fd (Nat.le_of_ble_eq_true rfl) ((nv_nm _).le (by decide))) (all_cons (nf_fd (Nat.le_of_ble_eq_true rfl) ((nv_nm _).le (by decide))) (all_cons (nf_fd (Nat.le_of_ble_eq_true rfl) ((podcodec_list_api_SpreadRule_c119_nv _ (Br.sl ha _)).le (by decide))) (all_cons (nf_fd (Nat.le_of_ble_eq_true rfl) ((podcodec_list_api_Toleration_c121_nv _ (Br.sl ha _)).le (by decide))) all_nil))))))))))
theorem podcodec_encodeSpec_val (a0 : Row) (ha : Br a0) : D (fun k => (podcodec_encodeSpec.f k a0).eval) (fun v => v = podcodec_encodeSpec_v a0) := by
  refine D.bnd (q := fun v => v = podcodec_list_api_Container_c110_v (rSl a0 4)) (podcodec_list_api_Container_c110_val _ (Br.sl ha _)) (fun r h => ?_)
  subst h
  refine D.bnd (q := fun v => v = fd (bs [99, 111, 110, 116, 97, 105, 110, 101, 114, 115]) (podcodec_list_api_Container_c110_v (rSl a0 4))) (D.eqn (fun _ => by kernel_rfl)) (fun r h => ?_)
  subst h
  refine D.bnd (q := fun v => v = nm (rInt a0 3)) (D.eqn (fun _ => by kernel_rfl)) (fun r h => ?_)
  subst h
  refine D.bnd (q := fun v => v = fd (bs [103, 114, 97, 99, 101]) (nm (rInt a0 3))) (D.eqn (fun _ => by kernel_rfl)) (fun r h => ?_)
  subst h
  refine D.bnd (q := fun v => v = st (rStr a0 0)) (D.eqn (fun _ => by kernel_rfl)) (fun r h => ?_)
  subst h
  refine D.bnd (q := fun v => v = fd (bs [110, 111, 100, 101]) (st (rStr a0 0))) (D.eqn (fun _ => by kernel_rfl)) (fun r h => ?_)
  subst h
  refine D.bnd (q := fun v => v = podcodec_list_api_Requirement_c113_v (rSl a0 5)) (podcodec_list_api_Requirement_c113_val _ (Br.sl ha _)) (fun r h => ?_)
  subst h
  refine D.bnd (q := fun v => v = fd (bs [110, 111, 100, 101, 83, 101, 108, 101, 99, 116, 111, 114]) (podcodec_list_api_Requirement_c113_v (rSl a0 5))) (D.eqn (fun _ => by kernel_rfl)) (fun r h => ?_)
  subst h
  refine D.bnd (q := fun v => v = podcodec_list_api_NodeTerm_c115_v (rSl a0 6)) (podcodec_list_api_NodeTerm_c115_val _ (Br.sl ha _)) (fun r h => ?_)
  subst h
  refine D.bnd (q := fun v => v = fd (bs [110, 111, 100, 101, 84, 101, 114, 109, 115]) (podcodec_list_api_NodeTerm_c115_v (rSl a0 6))) (D.eqn (fun _ => by kernel_rfl)) (fun r h => ?_)
  subst h
  refine D.bnd (q := fun v => v = podcodec_list_api_PodTerm_c117_v (rSl a0 7)) (podcodec_list_api_PodTerm_c117_val _ (Br.sl ha _)) (fun r h => ?_)
  subst h
  refine D.bnd (q := fun v => v = fd (bs [112, 111, 100, 84, 101, 114, 109, 115]) (podcodec_list_api_PodTerm_c117_v (rSl a0 7))) (D.eqn (fun _ => by kernel_rfl)) (fun r h => ?_)
  subst h
  refine D.bnd (q := fun v => v = nm (rInt a0 1)) (D.eqn (fun _ => by kernel_rfl)) (fun r h => ?_)
  subst h
  refine D.bnd (q := fun v => v = fd (bs [112, 114, 105, 111, 114, 105, 116, 121]) (nm (rInt a0 1))) (D.eqn (fun _ => by kernel_rfl)) (fun r h => ?_)
  subst h
  refine D.bnd (q := fun v => v = nm (rInt a0 2)) (D.eqn (fun _ => by kernel_rfl)) (fun r h => ?_)
  subst h
  refine D.bnd (q := fun v => v = fd (bs [114, 101, 115, 116, 97, 114, 116]) (nm (rInt a0 2))) (D.eqn (fun _ => by kernel_rfl)) (fun r h => ?_)
  subst h
  refine D.bnd (q := fun v => v = podcodec_list_api_SpreadRule_c119_v (rSl a0 8)) (podcodec_list_api_SpreadRule_c119_val _ (Br.sl ha _)) (fun r h => ?_)
  subst h
  refine D.bnd (q := fun v => v = fd (bs [115, 112, 114, 101, 97, 100]) (podcodec_list_api_SpreadRule_c119_v (rSl a0 8))) (D.eqn (fun _ => by kernel_rfl)) (fun r h => ?_)
  subst h
  refine D.bnd (q := fun v => v = podcodec_list_api_Toleration_c121_v (rSl a0 9)) (podcodec_list_api_Toleration_c121_val _ (Br.sl ha _)) (fun r h => ?_)
  subst h
  refine D.bnd (q := fun v => v = fd (bs [116, 111, 108, 101, 114, 97, 116, 105, 111, 110, 115]) (podcodec_list_api_Toleration_c121_v (rSl a0 9))) (D.eqn (fun _ => by kernel_rfl)) (fun r h => ?_)
  subst h
  refine D.bnd (q := fun v => v = podcodec_encodeSpec_v a0) ?_ (fun r h => by subst h; exact D.ret (by kernel_rfl))
  exact D.of_eq (fun k => by kernel_rfl) (map_val (n := 6) (l := [fd (bs [99, 111, 110, 116, 97, 105, 110, 101, 114, 115]) (podcodec_list_api_Container_c110_v (rSl a0 4)), fd (bs [103, 114, 97, 99, 101]) (nm (rInt a0 3)), fd (bs [110, 111, 100, 101]) (st (rStr a0 0)), fd (bs [110, 111, 100, 101, 83, 101, 108, 101, 99, 116, 111, 114]) (podcodec_list_api_Requirement_c113_v (rSl a0 5)), fd (bs [110, 111, 100, 101, 84, 101, 114, 109, 115]) (podcodec_list_api_NodeTerm_c115_v (rSl a0 6)), fd (bs [112, 111, 100, 84, 101, 114, 109, 115]) (podcodec_list_api_PodTerm_c117_v (rSl a0 7)), fd (bs [112, 114, 105, 111, 114, 105, 116, 121]) (nm (rInt a0 1)), fd (bs [114, 101, 115, 116, 97, 114, 116]) (nm (rInt a0 2)), fd (bs [115, 112, 114, 101, 97, 100]) (podcodec_list_api_SpreadRule_c119_v (rSl a0 8)), fd (bs [116, 111, 108, 101, 114, 97, 116, 105, 111, 110, 115]) (podcodec_list_api_Toleration_c121_v (rSl a0 9))]) (Nat.lt_of_ble rfl) (by kernel_rfl) (by kernel_rfl) (all_cons (nf_fd (Nat.le_of_ble_eq_true rfl) ((podcodec_list_api_Container_c110_nv _ (Br.sl ha _)).le (by decide))) (all_cons (nf_fd (Nat.le_of_ble_eq_true rfl) ((nv_nm _).le (by decide))) (all_cons (nf_fd (Nat.le_of_ble_eq_true rfl) ((nv_st (Br.str ha _)).le (by decide))) (all_cons (nf_fd (Nat.le_of_ble_eq_true rfl) ((podcodec_list_api_Requirement_c113_nv _ (Br.sl ha _)).le (by decide))) (all_cons (nf_fd (Nat.le_of_ble_eq_true rfl) ((podcodec_list_api_NodeTerm_c115_nv _ (Br.sl ha _)).le (by decide))) (all_cons (nf_fd (Nat.le_of_ble_eq_true rfl) ((podcodec_list_api_PodTerm_c117_nv _ (Br.sl ha _)).le (by decide))) (all_cons (nf_fd (Nat.le_of_ble_eq_true rfl) ((nv_nm _).le (by decide))) (all_cons (nf_fd (Nat.le_of_ble_eq_true rfl) ((nv_nm _).le (by decide))) (all_cons (nf_fd (Nat.le_of_ble_eq_true rfl) ((podcodec_list_api_SpreadRule_c119_nv _ (Br.sl ha _)).le (by decide))) (all_cons (nf_fd (Nat.le_of_ble_eq_true rfl) ((podcodec_list_api_Toleration_c121_nv _ (Br.sl ha _)).le (by decide))) all_nil)))))))))))
def podcodec_FromTemplate_v (a0 : Row) : Row := ob [fd (bs [108, 97, 98, 101, 108, 115]) (podcodec_list_api_Label_c80_v (rSl a0 0)), fd (bs [115, 112, 101, 99]) (podcodec_encodeSpec_v (eo 35 a0 1))]
theorem podcodec_FromTemplate_nv (a0 : Row) (ha : Br a0) : Nv 8 (podcodec_FromTemplate_v a0) := nv_ob (Nat.le_of_ble_eq_true rfl) (all_cons (nf_fd (Nat.le_of_ble_eq_true rfl) ((podcodec_list_api_Label_c80_nv _ (Br.sl ha _)).le (by decide))) (all_cons (nf_fd (Nat.le_of_ble_eq_true rfl) ((podcodec_encodeSpec_nv _ (br_etaL ha _ _)).le (by decide))) all_nil))
theorem podcodec_FromTemplate_val (a0 : Row) (ha : Br a0) : D (fun k => (podcodec_FromTemplate.f k a0).eval) (fun v => v = podcodec_FromTemplate_v a0) := by
  refine D.bnd (q := fun v => v = podcodec_list_api_Label_c80_v (rSl a0 0)) (podcodec_list_api_Label_c80_val _ (Br.sl ha _)) (fun r h => ?_)
  subst h
  refine D.bnd (q := fun v => v = fd (bs [108, 97, 98, 101, 108, 115]) (podcodec_list_api_Label_c80_v (rSl a0 0))) (D.eqn (fun _ => by kernel_rfl)) (fun r h => ?_)
  subst h
  refine D.bnd (q := fun v => v = podcodec_encodeSpec_v (eo 35 a0 1)) (podcodec_encodeSpec_val _ (br_etaL ha _ _)) (fun r h => ?_)
  subst h
  refine D.bnd (q := fun v => v = fd (bs [115, 112, 101, 99]) (podcodec_encodeSpec_v (eo 35 a0 1))) (D.eqn (fun _ => by kernel_rfl)) (fun r h => ?_)
  subst h
  refine D.bnd (q := fun v => v = podcodec_FromTemplate_v a0) ?_ (fun r h => by subst h; exact D.ret (by kernel_rfl))
  exact D.of_eq (fun k => by kernel_rfl) (map_val (n := 7) (l := [fd (bs [108, 97, 98, 101, 108, 115]) (podcodec_list_api_Label_c80_v (rSl a0 0)), fd (bs [115, 112, 101, 99]) (podcodec_encodeSpec_v (eo 35 a0 1))]) (Nat.lt_of_ble rfl) (by kernel_rfl) (by kernel_rfl) (all_cons (nf_fd (Nat.le_of_ble_eq_true rfl) ((podcodec_list_api_Label_c80_nv _ (Br.sl ha _)).le (by decide))) (all_cons (nf_fd (Nat.le_of_ble_eq_true rfl) ((podcodec_encodeSpec_nv _ (br_etaL ha _ _)).le (by decide))) all_nil)))

end
end Go.Proofs.YtolackmpfnndhaaGreatDoor.Ev
