/- What the reference's encoders of pods answer with. Conditions: stated at each. -/
import Derived.Test.YtolackmpfnndhaaGreatDoorJe
namespace Go.Proofs.YtolackmpfnndhaaGreatDoor.Ev
open Go Go.RowKit
set_option linter.unusedVariables false
set_option maxRecDepth 100000
noncomputable section
theorem ref19_fromLabels_val (l : Rows) (hl : Brs l) : D (fun k => (ref19_fromLabels.f k l).eval) (fun v => v = podcodec_list_api_Label_c80_v l) := by
  refine D.bnd (q := fun v => v = l.map fun q => podcodec_encodeLabel_v (et 89 q)) (D.madeV hl.1 (fun q => podcodec_encodeLabel_v (et 89 q)) (fun out i hi hlt ho => ?_) (fun out i hlt => ?_)) (fun r h => ?_)
  · refine D.tt hlt (D.tt (iIn_of hi hlt) ?_)
    refine D.bnd (q := fun v => v = st (rStr (rAt l i) 0)) (D.eqn (fun _ => by kernel_rfl)) (fun r h => ?_)
    subst h
    refine D.bnd (q := fun v => v = fd (bs [107, 101, 121]) (st (rStr (rAt l i) 0))) (D.eqn (fun _ => by kernel_rfl)) (fun r h => ?_)
    subst h
    refine D.tt (iIn_of hi hlt) ?_
    refine D.bnd (q := fun v => v = st (rStr (rAt l i) 1)) (D.eqn (fun _ => by kernel_rfl)) (fun r h => ?_)
    subst h
    refine D.bnd (q := fun v => v = fd (bs [118, 97, 108, 117, 101]) (st (rStr (rAt l i) 1))) (D.eqn (fun _ => by kernel_rfl)) (fun r h => ?_)
    subst h
    refine D.bnd (q := fun v => v = ob [fd (bs [107, 101, 121]) (st (rStr (rAt l i) 0)), fd (bs [118, 97, 108, 117, 101]) (st (rStr (rAt l i) 1))]) (D.eqn (fun _ => by kernel_rfl)) (fun r h => ?_)
    subst h
    refine D.tt (made_ok hl hlt ho _) ?_
    exact D.ret (by kernel_rfl)
  · exact D.test (fun e => by rw [show iLt i (rLen l) = false from hlt] at e; cases e) (fun _ => D.ret rfl)
  · subst h
    exact D.bnd (q := fun v => v = podcodec_list_api_Label_c80_v l) (D.eqn (fun _ => by kernel_rfl)) (fun r h => by subst h; exact D.ret (by kernel_rfl))
theorem ref19_fromResources_val (a0 : Row) (ha : Br a0) : D (fun k => (ref19_fromResources.f k a0).eval) (fun v => v = podcodec_encodeResources_v a0) := by
  refine D.bnd (q := fun v => v = nm (rInt a0 0)) (D.eqn (fun _ => by kernel_rfl)) (fun r h => ?_)
  subst h
  refine D.bnd (q := fun v => v = fd (bs [99, 112, 117]) (nm (rInt a0 0))) (D.eqn (fun _ => by kernel_rfl)) (fun r h => ?_)
  subst h
  refine D.bnd (q := fun v => v = nm (rInt a0 2)) (D.eqn (fun _ => by kernel_rfl)) (fun r h => ?_)
  subst h
  refine D.bnd (q := fun v => v = fd (bs [100, 105, 115, 107]) (nm (rInt a0 2))) (D.eqn (fun _ => by kernel_rfl)) (fun r h => ?_)
  subst h
  refine D.bnd (q := fun v => v = nm (rInt a0 1)) (D.eqn (fun _ => by kernel_rfl)) (fun r h => ?_)
  subst h
  refine D.bnd (q := fun v => v = fd (bs [109, 101, 109, 111, 114, 121]) (nm (rInt a0 1))) (D.eqn (fun _ => by kernel_rfl)) (fun r h => ?_)
  subst h
  refine D.bnd (q := fun v => v = ob [fd (bs [99, 112, 117]) (nm (rInt a0 0)), fd (bs [100, 105, 115, 107]) (nm (rInt a0 2)), fd (bs [109, 101, 109, 111, 114, 121]) (nm (rInt a0 1))]) (D.eqn (fun _ => by kernel_rfl)) (fun r h => ?_)
  subst h
  exact D.ret (by kernel_rfl)
theorem ref19_fromProbes_val (l : Rows) (hl : Brs l) : D (fun k => (ref19_fromProbes.f k l).eval) (fun v => v = podcodec_list_api_Probe_c141_v l) := by
  refine D.bnd (q := fun v => v = l.map fun q => podcodec_encodeProbe_v (et 201 q)) (D.madeV hl.1 (fun q => podcodec_encodeProbe_v (et 201 q)) (fun out i hi hlt ho => ?_) (fun out i hlt => ?_)) (fun r h => ?_)
  · refine D.tt hlt (D.tt (iIn_of hi hlt) ?_)
    refine D.bnd (q := fun v => v = nm (rInt (rAt l i) 0)) (D.eqn (fun _ => by kernel_rfl)) (fun r h => ?_)
    subst h
    refine D.bnd (q := fun v => v = fd (bs [100, 101, 108, 97, 121]) (nm (rInt (rAt l i) 0))) (D.eqn (fun _ => by kernel_rfl)) (fun r h => ?_)
    subst h
    refine D.tt (iIn_of hi hlt) ?_
    refine D.bnd (q := fun v => v = nm (rInt (rAt l i) 3)) (D.eqn (fun _ => by kernel_rfl)) (fun r h => ?_)
    subst h
    refine D.bnd (q := fun v => v = fd (bs [102, 97, 105, 108, 117, 114, 101]) (nm (rInt (rAt l i) 3))) (D.eqn (fun _ => by kernel_rfl)) (fun r h => ?_)
    subst h
    refine D.tt (iIn_of hi hlt) ?_
    refine D.bnd (q := fun v => v = nm (rInt (rAt l i) 1)) (D.eqn (fun _ => by kernel_rfl)) (fun r h => ?_)
    subst h
    refine D.bnd (q := fun v => v = fd (bs [112, 101, 114, 105, 111, 100]) (nm (rInt (rAt l i) 1))) (D.eqn (fun _ => by kernel_rfl)) (fun r h => ?_)
    subst h
    refine D.tt (iIn_of hi hlt) ?_
    refine D.bnd (q := fun v => v = nm (rInt (rAt l i) 2)) (D.eqn (fun _ => by kernel_rfl)) (fun r h => ?_)
    subst h
    refine D.bnd (q := fun v => v = fd (bs [115, 117, 99, 99, 101, 115, 115]) (nm (rInt (rAt l i) 2))) (D.eqn (fun _ => by kernel_rfl)) (fun r h => ?_)
    subst h
    refine D.bnd (q := fun v => v = ob [fd (bs [100, 101, 108, 97, 121]) (nm (rInt (rAt l i) 0)), fd (bs [102, 97, 105, 108, 117, 114, 101]) (nm (rInt (rAt l i) 3)), fd (bs [112, 101, 114, 105, 111, 100]) (nm (rInt (rAt l i) 1)), fd (bs [115, 117, 99, 99, 101, 115, 115]) (nm (rInt (rAt l i) 2))]) (D.eqn (fun _ => by kernel_rfl)) (fun r h => ?_)
    subst h
    refine D.tt (made_ok hl hlt ho _) ?_
    exact D.ret (by kernel_rfl)
  · exact D.test (fun e => by rw [show iLt i (rLen l) = false from hlt] at e; cases e) (fun _ => D.ret rfl)
  · subst h
    exact D.bnd (q := fun v => v = podcodec_list_api_Probe_c141_v l) (D.eqn (fun _ => by kernel_rfl)) (fun r h => by subst h; exact D.ret (by kernel_rfl))
theorem ref19_fromContainers_val (l : Rows) (hl : Brs l) : D (fun k => (ref19_fromContainers.f k l).eval) (fun v => v = podcodec_list_api_Container_c110_v l) := by
  refine D.bnd (q := fun v => v = l.map fun q => podcodec_encodeContainer_v (et 164 q)) (D.madeV hl.1 (fun q => podcodec_encodeContainer_v (et 164 q)) (fun out i hi hlt ho => ?_) (fun out i hlt => ?_)) (fun r h => ?_)
  · refine D.tt hlt (D.tt (iIn_of hi hlt) ?_)
    refine D.bnd (q := fun v => v = st (rStr (rAt l i) 1)) (D.eqn (fun _ => by kernel_rfl)) (fun r h => ?_)
    subst h
    refine D.bnd (q := fun v => v = fd (bs [105, 109, 97, 103, 101]) (st (rStr (rAt l i) 1))) (D.eqn (fun _ => by kernel_rfl)) (fun r h => ?_)
    subst h
    refine D.bnd (q := fun v => v = podcodec_encodeResources_v (eo 161 (rAt l i) 5)) (ref19_fromResources_val _ (br_etaL (Brs.at hl _) _ _)) (fun r h => ?_)
    subst h
    refine D.bnd (q := fun v => v = fd (bs [108, 105, 109, 105, 116]) (podcodec_encodeResources_v (eo 161 (rAt l i) 5))) (D.eqn (fun _ => by kernel_rfl)) (fun r h => ?_)
    subst h
    refine D.bnd (q := fun v => v = podcodec_list_api_Probe_c141_v (rSl (rAt l i) 8)) (ref19_fromProbes_val _ (Br.sl (Brs.at hl _) _)) (fun r h => ?_)
    subst h
    refine D.bnd (q := fun v => v = fd (bs [108, 105, 118, 101]) (podcodec_list_api_Probe_c141_v (rSl (rAt l i) 8))) (D.eqn (fun _ => by kernel_rfl)) (fun r h => ?_)
    subst h
    refine D.bnd (q := fun v => v = st (rStr (rAt l i) 0)) (D.eqn (fun _ => by kernel_rfl)) (fun r h => ?_)
    subst h
    refine D.bnd (q := fun v => v = fd (bs [110, 97, 109, 101]) (st (rStr (rAt l i) 0))) (D.eqn (fun _ => by kernel_rfl)) (fun r h => ?_)
    subst h
    refine D.bnd (q := fun v => v = podcodec_list_api_Probe_c141_v (rSl (rAt l i) 9)) (ref19_fromProbes_val _ (Br.sl (Brs.at hl _) _)) (fun r h => ?_)
    subst h
    refine D.bnd (q := fun v => v = fd (bs [114, 101, 97, 100, 121]) (podcodec_list_api_Probe_c141_v (rSl (rAt l i) 9))) (D.eqn (fun _ => by kernel_rfl)) (fun r h => ?_)
    subst h
    refine D.bnd (q := fun v => v = podcodec_encodeResources_v (eo 161 (rAt l i) 2)) (ref19_fromResources_val _ (br_etaL (Brs.at hl _) _ _)) (fun r h => ?_)
    subst h
    refine D.bnd (q := fun v => v = fd (bs [114, 101, 113, 117, 101, 115, 116]) (podcodec_encodeResources_v (eo 161 (rAt l i) 2))) (D.eqn (fun _ => by kernel_rfl)) (fun r h => ?_)
    subst h
    refine D.bnd (q := fun v => v = podcodec_list_api_Probe_c141_v (rSl (rAt l i) 10)) (ref19_fromProbes_val _ (Br.sl (Brs.at hl _) _)) (fun r h => ?_)
    subst h
    refine D.bnd (q := fun v => v = fd (bs [115, 116, 97, 114, 116, 117, 112]) (podcodec_list_api_Probe_c141_v (rSl (rAt l i) 10))) (D.eqn (fun _ => by kernel_rfl)) (fun r h => ?_)
    subst h
    refine D.bnd (q := fun v => v = ob [fd (bs [105, 109, 97, 103, 101]) (st (rStr (rAt l i) 1)), fd (bs [108, 105, 109, 105, 116]) (podcodec_encodeResources_v (eo 161 (rAt l i) 5)), fd (bs [108, 105, 118, 101]) (podcodec_list_api_Probe_c141_v (rSl (rAt l i) 8)), fd (bs [110, 97, 109, 101]) (st (rStr (rAt l i) 0)), fd (bs [114, 101, 97, 100, 121]) (podcodec_list_api_Probe_c141_v (rSl (rAt l i) 9)), fd (bs [114, 101, 113, 117, 101, 115, 116]) (podcodec_encodeResources_v (eo 161 (rAt l i) 2)), fd (bs [115, 116, 97, 114, 116, 117, 112]) (podcodec_list_api_Probe_c141_v (rSl (rAt l i) 10))]) (D.eqn (fun _ => by kernel_rfl)) (fun r h => ?_)
    subst h
    refine D.tt (made_ok hl hlt ho _) ?_
    exact D.ret (by kernel_rfl)
  · exact D.test (fun e => by rw [show iLt i (rLen l) = false from hlt] at e; cases e) (fun _ => D.ret rfl)
  · subst h
    exact D.bnd (q := fun v => v = podcodec_list_api_Container_c110_v l) (D.eqn (fun _ => by kernel_rfl)) (fun r h => by subst h; exact D.ret (by kernel_rfl))
theorem ref19_FromStrings_val (l : Rows) (hl : Brs l) : D (fun k => (ref19_FromStrings.f k l).eval) (fun v => v = podcodec_list_string_c108_v l) := by
  refine D.bnd (q := fun v => v = l.map fun q => st (rStr q 0)) (D.madeV hl.1 (fun q => st (rStr q 0)) (fun out i hi hlt ho => ?_) (fun out i hlt => ?_)) (fun r h => ?_)
  · refine D.tt hlt (D.tt (iIn_of hi hlt) ?_)
    refine D.bnd (q := fun v => v = st (rStr (rAt l i) 0)) (D.eqn (fun _ => by kernel_rfl)) (fun r h => ?_)
    subst h
    refine D.tt (made_ok hl hlt ho _) ?_
    exact D.ret (by kernel_rfl)
  · exact D.test (fun e => by rw [show iLt i (rLen l) = false from hlt] at e; cases e) (fun _ => D.ret rfl)
  · subst h
    exact D.bnd (q := fun v => v = podcodec_list_string_c108_v l) (D.eqn (fun _ => by kernel_rfl)) (fun r h => by subst h; exact D.ret (by kernel_rfl))
theorem ref19_FromSelector_val (l : Rows) (hl : Brs l) : D (fun k => (ref19_FromSelector.f k l).eval) (fun v => v = podcodec_list_api_Requirement_c113_v l) := by
  refine D.bnd (q := fun v => v = l.map fun q => podcodec_encodeRequirement_v (et 168 q)) (D.madeV hl.1 (fun q => podcodec_encodeRequirement_v (et 168 q)) (fun out i hi hlt ho => ?_) (fun out i hlt => ?_)) (fun r h => ?_)
  · refine D.tt hlt (D.tt (iIn_of hi hlt) ?_)
    refine D.bnd (q := fun v => v = st (rStr (rAt l i) 0)) (D.eqn (fun _ => by kernel_rfl)) (fun r h => ?_)
    subst h
    refine D.bnd (q := fun v => v = fd (bs [107, 101, 121]) (st (rStr (rAt l i) 0))) (D.eqn (fun _ => by kernel_rfl)) (fun r h => ?_)
    subst h
    refine D.tt (iIn_of hi hlt) ?_
    refine D.bnd (q := fun v => v = nm (rInt (rAt l i) 1)) (D.eqn (fun _ => by kernel_rfl)) (fun r h => ?_)
    subst h
    refine D.bnd (q := fun v => v = fd (bs [111, 112]) (nm (rInt (rAt l i) 1))) (D.eqn (fun _ => by kernel_rfl)) (fun r h => ?_)
    subst h
    refine D.tt (iIn_of hi hlt) ?_
    refine D.bnd (q := fun v => v = podcodec_list_string_c108_v (rSl (rAt l i) 2)) (ref19_FromStrings_val _ (Br.sl (Brs.at hl _) _)) (fun r h => ?_)
    subst h
    refine D.bnd (q := fun v => v = fd (bs [118, 97, 108, 117, 101, 115]) (podcodec_list_string_c108_v (rSl (rAt l i) 2))) (D.eqn (fun _ => by kernel_rfl)) (fun r h => ?_)
    subst h
    refine D.bnd (q := fun v => v = ob [fd (bs [107, 101, 121]) (st (rStr (rAt l i) 0)), fd (bs [111, 112]) (nm (rInt (rAt l i) 1)), fd (bs [118, 97, 108, 117, 101, 115]) (podcodec_list_string_c108_v (rSl (rAt l i) 2))]) (D.eqn (fun _ => by kernel_rfl)) (fun r h => ?_)
    subst h
    refine D.tt (made_ok hl hlt ho _) ?_
    exact D.ret (by kernel_rfl)
  · exact D.test (fun e => by rw [show iLt i (rLen l) = false from hlt] at e; cases e) (fun _ => D.ret rfl)
  · subst h
    exact D.bnd (q := fun v => v = podcodec_list_api_Requirement_c113_v l) (D.eqn (fun _ => by kernel_rfl)) (fun r h => by subst h; exact D.ret (by kernel_rfl))
theorem ref19_fromNodeTerms_val (l : Rows) (hl : Brs l) : D (fun k => (ref19_fromNodeTerms.f k l).eval) (fun v => v = podcodec_list_api_NodeTerm_c115_v l) := by
  refine D.bnd (q := fun v => v = l.map fun q => podcodec_encodeNodeTerm_v (et 172 q)) (D.madeV hl.1 (fun q => podcodec_encodeNodeTerm_v (et 172 q)) (fun out i hi hlt ho => ?_) (fun out i hlt => ?_)) (fun r h => ?_)
  · refine D.tt hlt (D.tt (iIn_of hi hlt) ?_)
    refine D.bnd (q := fun v => v = tr (rBool (rAt l i) 0)) (D.eqn (fun _ => by cases (rBool (rAt l i) 0) <;> kernel_rfl)) (fun r h => ?_)
    subst h
    refine D.bnd (q := fun v => v = fd (bs [114, 101, 113, 117, 105, 114, 101, 100]) (tr (rBool (rAt l i) 0))) (D.eqn (fun _ => by kernel_rfl)) (fun r h => ?_)
    subst h
    refine D.tt (iIn_of hi hlt) ?_
    refine D.bnd (q := fun v => v = podcodec_list_api_Requirement_c113_v (rSl (rAt l i) 1)) (ref19_FromSelector_val _ (Br.sl (Brs.at hl _) _)) (fun r h => ?_)
    subst h
    refine D.bnd (q := fun v => v = fd (bs [115, 101, 108, 101, 99, 116, 111, 114]) (podcodec_list_api_Requirement_c113_v (rSl (rAt l i) 1))) (D.eqn (fun _ => by kernel_rfl)) (fun r h => ?_)
    subst h
    refine D.tt (iIn_of hi hlt) ?_
    refine D.bnd (q := fun v => v = nm (rInt (rAt l i) 2)) (D.eqn (fun _ => by kernel_rfl)) (fun r h => ?_)
    subst h
    refine D.bnd (q := fun v => v = fd (bs [119, 101, 105, 103, 104, 116]) (nm (rInt (rAt l i) 2))) (D.eqn (fun _ => by kernel_rfl)) (fun r h => ?_)
    subst h
    refine D.bnd (q := fun v => v = ob [fd (bs [114, 101, 113, 117, 105, 114, 101, 100]) (tr (rBool (rAt l i) 0)), fd (bs [115, 101, 108, 101, 99, 116, 111, 114]) (podcodec_list_api_Requirement_c113_v (rSl (rAt l i) 1)), fd (bs [119, 101, 105, 103, 104, 116]) (nm (rInt (rAt l i) 2))]) (D.eqn (fun _ => by kernel_rfl)) (fun r h => ?_)
    subst h
    refine D.tt (made_ok hl hlt ho _) ?_
    exact D.ret (by kernel_rfl)
  · exact D.test (fun e => by rw [show iLt i (rLen l) = false from hlt] at e; cases e) (fun _ => D.ret rfl)
  · subst h
    exact D.bnd (q := fun v => v = podcodec_list_api_NodeTerm_c115_v l) (D.eqn (fun _ => by kernel_rfl)) (fun r h => by subst h; exact D.ret (by kernel_rfl))
theorem ref19_fromPodTerms_val (l : Rows) (hl : Brs l) : D (fun k => (ref19_fromPodTerms.f k l).eval) (fun v => v = podcodec_list_api_PodTerm_c117_v l) := by
  refine D.bnd (q := fun v => v = l.map fun q => podcodec_encodePodTerm_v (et 176 q)) (D.madeV hl.1 (fun q => podcodec_encodePodTerm_v (et 176 q)) (fun out i hi hlt ho => ?_) (fun out i hlt => ?_)) (fun r h => ?_)
  · refine D.tt hlt (D.tt (iIn_of hi hlt) ?_)
    refine D.bnd (q := fun v => v = tr (rBool (rAt l i) 1)) (D.eqn (fun _ => by cases (rBool (rAt l i) 1) <;> kernel_rfl)) (fun r h => ?_)
    subst h
    refine D.bnd (q := fun v => v = fd (bs [97, 110, 116, 105]) (tr (rBool (rAt l i) 1))) (D.eqn (fun _ => by kernel_rfl)) (fun r h => ?_)
    subst h
    refine D.tt (iIn_of hi hlt) ?_
    refine D.bnd (q := fun v => v = tr (rBool (rAt l i) 0)) (D.eqn (fun _ => by cases (rBool (rAt l i) 0) <;> kernel_rfl)) (fun r h => ?_)
    subst h
    refine D.bnd (q := fun v => v = fd (bs [114, 101, 113, 117, 105, 114, 101, 100]) (tr (rBool (rAt l i) 0))) (D.eqn (fun _ => by kernel_rfl)) (fun r h => ?_)
    subst h
    refine D.tt (iIn_of hi hlt) ?_
    refine D.bnd (q := fun v => v = podcodec_list_api_Requirement_c113_v (rSl (rAt l i) 2)) (ref19_FromSelector_val _ (Br.sl (Brs.at hl _) _)) (fun r h => ?_)
    subst h
    refine D.bnd (q := fun v => v = fd (bs [115, 101, 108, 101, 99, 116, 111, 114]) (podcodec_list_api_Requirement_c113_v (rSl (rAt l i) 2))) (D.eqn (fun _ => by kernel_rfl)) (fun r h => ?_)
    subst h
    refine D.tt (iIn_of hi hlt) ?_
    refine D.bnd (q := fun v => v = st (rStr (rAt l i) 3)) (D.eqn (fun _ => by kernel_rfl)) (fun r h => ?_)
    subst h
    refine D.bnd (q := fun v => v = fd (bs [116, 111, 112, 111, 108, 111, 103, 121]) (st (rStr (rAt l i) 3))) (D.eqn (fun _ => by kernel_rfl)) (fun r h => ?_)
    subst h
    refine D.tt (iIn_of hi hlt) ?_
    refine D.bnd (q := fun v => v = nm (rInt (rAt l i) 4)) (D.eqn (fun _ => by kernel_rfl)) (fun r h => ?_)
    subst h
    refine D.bnd (q := fun v => v = fd (bs [119, 101, 105, 103, 104, 116]) (nm (rInt (rAt l i) 4))) (D.eqn (fun _ => by kernel_rfl)) (fun r h => ?_)
    subst h
    refine D.bnd (q := fun v => v = ob [fd (bs [97, 110, 116, 105]) (tr (rBool (rAt l i) 1)), fd (bs [114, 101, 113, 117, 105, 114, 101, 100]) (tr (rBool (rAt l i) 0)), fd (bs [115, 101, 108, 101, 99, 116, 111, 114]) (podcodec_list_api_Requirement_c113_v (rSl (rAt l i) 2)), fd (bs [116, 111, 112, 111, 108, 111, 103, 121]) (st (rStr (rAt l i) 3)), fd (bs [119, 101, 105, 103, 104, 116]) (nm (rInt (rAt l i) 4))]) (D.eqn (fun _ => by kernel_rfl)) (fun r h => ?_)
    subst h
    refine D.tt (made_ok hl hlt ho _) ?_
    exact D.ret (by kernel_rfl)
  · exact D.test (fun e => by rw [show iLt i (rLen l) = false from hlt] at e; cases e) (fun _ => D.ret rfl)
  · subst h
    exact D.bnd (q := fun v => v = podcodec_list_api_PodTerm_c117_v l) (D.eqn (fun _ => by kernel_rfl)) (fun r h => by subst h; exact D.ret (by kernel_rfl))
theorem ref19_fromSpread_val (l : Rows) (hl : Brs l) : D (fun k => (ref19_fromSpread.f k l).eval) (fun v => v = podcodec_list_api_SpreadRule_c119_v l) := by
  refine D.bnd (q := fun v => v = l.map fun q => podcodec_encodeSpread_v (et 180 q)) (D.madeV hl.1 (fun q => podcodec_encodeSpread_v (et 180 q)) (fun out i hi hlt ho => ?_) (fun out i hlt => ?_)) (fun r h => ?_)
  · refine D.tt hlt (D.tt (iIn_of hi hlt) ?_)
    refine D.bnd (q := fun v => v = nm (rInt (rAt l i) 0)) (D.eqn (fun _ => by kernel_rfl)) (fun r h => ?_)
    subst h
    refine D.bnd (q := fun v => v = fd (bs [109, 97, 120, 83, 107, 101, 119]) (nm (rInt (rAt l i) 0))) (D.eqn (fun _ => by kernel_rfl)) (fun r h => ?_)
    subst h
    refine D.tt (iIn_of hi hlt) ?_
    refine D.bnd (q := fun v => v = tr (rBool (rAt l i) 3)) (D.eqn (fun _ => by cases (rBool (rAt l i) 3) <;> kernel_rfl)) (fun r h => ?_)
    subst h
    refine D.bnd (q := fun v => v = fd (bs [114, 101, 113, 117, 105, 114, 101, 100]) (tr (rBool (rAt l i) 3))) (D.eqn (fun _ => by kernel_rfl)) (fun r h => ?_)
    subst h
    refine D.tt (iIn_of hi hlt) ?_
    refine D.bnd (q := fun v => v = podcodec_list_api_Requirement_c113_v (rSl (rAt l i) 2)) (ref19_FromSelector_val _ (Br.sl (Brs.at hl _) _)) (fun r h => ?_)
    subst h
    refine D.bnd (q := fun v => v = fd (bs [115, 101, 108, 101, 99, 116, 111, 114]) (podcodec_list_api_Requirement_c113_v (rSl (rAt l i) 2))) (D.eqn (fun _ => by kernel_rfl)) (fun r h => ?_)
    subst h
    refine D.tt (iIn_of hi hlt) ?_
    refine D.bnd (q := fun v => v = st (rStr (rAt l i) 1)) (D.eqn (fun _ => by kernel_rfl)) (fun r h => ?_)
    subst h
    refine D.bnd (q := fun v => v = fd (bs [116, 111, 112, 111, 108, 111, 103, 121]) (st (rStr (rAt l i) 1))) (D.eqn (fun _ => by kernel_rfl)) (fun r h => ?_)
    subst h
    refine D.bnd (q := fun v => v = ob [fd (bs [109, 97, 120, 83, 107, 101, 119]) (nm (rInt (rAt l i) 0)), fd (bs [114, 101, 113, 117, 105, 114, 101, 100]) (tr (rBool (rAt l i) 3)), fd (bs [115, 101, 108, 101, 99, 116, 111, 114]) (podcodec_list_api_Requirement_c113_v (rSl (rAt l i) 2)), fd (bs [116, 111, 112, 111, 108, 111, 103, 121]) (st (rStr (rAt l i) 1))]) (D.eqn (fun _ => by kernel_rfl)) (fun r h => ?_)
    subst h
    refine D.tt (made_ok hl hlt ho _) ?_
    exact D.ret (by kernel_rfl)
  · exact D.test (fun e => by rw [show iLt i (rLen l) = false from hlt] at e; cases e) (fun _ => D.ret rfl)
  · subst h
    exact D.bnd (q := fun v => v = podcodec_list_api_SpreadRule_c119_v l) (D.eqn (fun _ => by kernel_rfl)) (fun r h => by subst h; exact D.ret (by kernel_rfl))
theorem ref19_fromTolerations_val (l : Rows) (hl : Brs l) : D (fun k => (ref19_fromTolerations.f k l).eval) (fun v => v = podcodec_list_api_Toleration_c121_v l) := by
  refine D.bnd (q := fun v => v = l.map fun q => podcodec_encodeToleration_v (et 184 q)) (D.madeV hl.1 (fun q => podcodec_encodeToleration_v (et 184 q)) (fun out i hi hlt ho => ?_) (fun out i hlt => ?_)) (fun r h => ?_)
  · refine D.tt hlt (D.tt (iIn_of hi hlt) ?_)
    refine D.bnd (q := fun v => v = nm (rInt (rAt l i) 3)) (D.eqn (fun _ => by kernel_rfl)) (fun r h => ?_)
    subst h
    refine D.bnd (q := fun v => v = fd (bs [101, 102, 102, 101, 99, 116]) (nm (rInt (rAt l i) 3))) (D.eqn (fun _ => by kernel_rfl)) (fun r h => ?_)
    subst h
    refine D.tt (iIn_of hi hlt) ?_
    refine D.bnd (q := fun v => v = tr (rBool (rAt l i) 2)) (D.eqn (fun _ => by cases (rBool (rAt l i) 2) <;> kernel_rfl)) (fun r h => ?_)
    subst h
    refine D.bnd (q := fun v => v = fd (bs [101, 120, 105, 115, 116, 115]) (tr (rBool (rAt l i) 2))) (D.eqn (fun _ => by kernel_rfl)) (fun r h => ?_)
    subst h
    refine D.tt (iIn_of hi hlt) ?_
    refine D.bnd (q := fun v => v = st (rStr (rAt l i) 0)) (D.eqn (fun _ => by kernel_rfl)) (fun r h => ?_)
    subst h
    refine D.bnd (q := fun v => v = fd (bs [107, 101, 121]) (st (rStr (rAt l i) 0))) (D.eqn (fun _ => by kernel_rfl)) (fun r h => ?_)
    subst h
    refine D.tt (iIn_of hi hlt) ?_
    refine D.bnd (q := fun v => v = nm (rInt (rAt l i) 4)) (D.eqn (fun _ => by kernel_rfl)) (fun r h => ?_)
    subst h
    refine D.bnd (q := fun v => v = fd (bs [115, 101, 99, 111, 110, 100, 115]) (nm (rInt (rAt l i) 4))) (D.eqn (fun _ => by kernel_rfl)) (fun r h => ?_)
    subst h
    refine D.tt (iIn_of hi hlt) ?_
    refine D.bnd (q := fun v => v = st (rStr (rAt l i) 1)) (D.eqn (fun _ => by kernel_rfl)) (fun r h => ?_)
    subst h
    refine D.bnd (q := fun v => v = fd (bs [118, 97, 108, 117, 101]) (st (rStr (rAt l i) 1))) (D.eqn (fun _ => by kernel_rfl)) (fun r h => ?_)
    subst h
    refine D.bnd (q := fun v => v = ob [fd (bs [101, 102, 102, 101, 99, 116]) (nm (rInt (rAt l i) 3)), fd (bs [101, 120, 105, 115, 116, 115]) (tr (rBool (rAt l i) 2)), fd (bs [107, 101, 121]) (st (rStr (rAt l i) 0)), fd (bs [115, 101, 99, 111, 110, 100, 115]) (nm (rInt (rAt l i) 4)), fd (bs [118, 97, 108, 117, 101]) (st (rStr (rAt l i) 1))]) (D.eqn (fun _ => by kernel_rfl)) (fun r h => ?_)
    subst h
    refine D.tt (made_ok hl hlt ho _) ?_
    exact D.ret (by kernel_rfl)
  · exact D.test (fun e => by rw [show iLt i (rLen l) = false from hlt] at e; cases e) (fun _ => D.ret rfl)
  · subst h
    exact D.bnd (q := fun v => v = podcodec_list_api_Toleration_c121_v l) (D.eqn (fun _ => by kernel_rfl)) (fun r h => by subst h; exact D.ret (by kernel_rfl))
theorem ref19_FromSpec_val (a0 : Row) (ha : Br a0) : D (fun k => (ref19_FromSpec.f k a0).eval) (fun v => v = podcodec_encodeSpec_v a0) := by
  refine D.bnd (q := fun v => v = podcodec_list_api_Container_c110_v (rSl a0 4)) (ref19_fromContainers_val _ (Br.sl ha _)) (fun r h => ?_)
  subst h
  refine D.bnd (q := fun v => v = fd (bs [99, 111, 110, 116, 97, 105, 110, 101, 114, 115]) (podcodec_list_api_Container_c110_v (rSl a0 4))) (D.eqn (fun _ => by kernel_rfl)) (fun r h => ?_)
  subst h
  refine D.bnd (q := fun v => v = nm (rInt a0 3)) (D.eqn (fun _ => by kernel_rfl)) (fun r h => ?_)
  subst h
  refine D.bnd (q := fun v => v = fd (bs [103, 114, 97, 99, 101]) (nm (rInt a0 3))) (D.eqn (fun _ => by kernel_rfl)) (fun r h => ?_)
  subst h
  refine D.bnd (q := fun v => v = st (rStr a0 0)) (D.eqn (fun _ => by kernel_rfl)) (fun r h => ?_)
  subst h
  refine D.bnd (q := fun v => v = fd (bs [110, 111, 100, 101]) (st (rStr a0 0))) (D.eqn (fun _ => by kernel_rfl)) (fun r h => ?_)
  subst h
  refine D.bnd (q := fun v => v = podcodec_list_api_Requirement_c113_v (rSl a0 5)) (ref19_FromSelector_val _ (Br.sl ha _)) (fun r h => ?_)
  subst h
  refine D.bnd (q := fun v => v = fd (bs [110, 111, 100, 101, 83, 101, 108, 101, 99, 116, 111, 114]) (podcodec_list_api_Requirement_c113_v (rSl a0 5))) (D.eqn (fun _ => by kernel_rfl)) (fun r h => ?_)
  subst h
  refine D.bnd (q := fun v => v = podcodec_list_api_NodeTerm_c115_v (rSl a0 6)) (ref19_fromNodeTerms_val _ (Br.sl ha _)) (fun r h => ?_)
  subst h
  refine D.bnd (q := fun v => v = fd (bs [110, 111, 100, 101, 84, 101, 114, 109, 115]) (podcodec_list_api_NodeTerm_c115_v (rSl a0 6))) (D.eqn (fun _ => by kernel_rfl)) (fun r h => ?_)
  subst h
  refine D.bnd (q := fun v => v = podcodec_list_api_PodTerm_c117_v (rSl a0 7)) (ref19_fromPodTerms_val _ (Br.sl ha _)) (fun r h => ?_)
  subst h
  refine D.bnd (q := fun v => v = fd (bs [112, 111, 100, 84, 101, 114, 109, 115]) (podcodec_list_api_PodTerm_c117_v (rSl a0 7))) (D.eqn (fun _ => by kernel_rfl)) (fun r h => ?_)
  subst h
  refine D.bnd (q := fun v => v = nm (rInt a0 1)) (D.eqn (fun _ => by kernel_rfl)) (fun r h => ?_)
  subst h
  refine D.bnd (q := fun v => v = fd (bs [112, 114, 105, 111, 114, 105, 116, 121]) (nm (rInt a0 1))) (D.eqn (fun _ => by kernel_rfl)) (fun r h => ?_)
  subst h
  refine D.bnd (q := fun v => v = nm (rInt a0 2)) (D.eqn (fun _ => by kernel_rfl)) (fun r h => ?_)
  subst h
  refine D.bnd (q := fun v => v = fd (bs [114, 101, 115, 116, 97, 114, 116]) (nm (rInt a0 2))) (D.eqn (fun _ => by kernel_rfl)) (fun r h => ?_)
  subst h
  refine D.bnd (q := fun v => v = podcodec_list_api_SpreadRule_c119_v (rSl a0 8)) (ref19_fromSpread_val _ (Br.sl ha _)) (fun r h => ?_)
  subst h
  refine D.bnd (q := fun v => v = fd (bs [115, 112, 114, 101, 97, 100]) (podcodec_list_api_SpreadRule_c119_v (rSl a0 8))) (D.eqn (fun _ => by kernel_rfl)) (fun r h => ?_)
  subst h
  refine D.bnd (q := fun v => v = podcodec_list_api_Toleration_c121_v (rSl a0 9)) (ref19_fromTolerations_val _ (Br.sl ha _)) (fun r h => ?_)
  subst h
  refine D.bnd (q := fun v => v = fd (bs [116, 111, 108, 101, 114, 97, 116, 105, 111, 110, 115]) (podcodec_list_api_Toleration_c121_v (rSl a0 9))) (D.eqn (fun _ => by kernel_rfl)) (fun r h => ?_)
  subst h
  refine D.bnd (q := fun v => v = ob [fd (bs [99, 111, 110, 116, 97, 105, 110, 101, 114, 115]) (podcodec_list_api_Container_c110_v (rSl a0 4)), fd (bs [103, 114, 97, 99, 101]) (nm (rInt a0 3)), fd (bs [110, 111, 100, 101]) (st (rStr a0 0)), fd (bs [110, 111, 100, 101, 83, 101, 108, 101, 99, 116, 111, 114]) (podcodec_list_api_Requirement_c113_v (rSl a0 5)), fd (bs [110, 111, 100, 101, 84, 101, 114, 109, 115]) (podcodec_list_api_NodeTerm_c115_v (rSl a0 6)), fd (bs [112, 111, 100, 84, 101, 114, 109, 115]) (podcodec_list_api_PodTerm_c117_v (rSl a0 7)), fd (bs [112, 114, 105, 111, 114, 105, 116, 121]) (nm (rInt a0 1)), fd (bs [114, 101, 115, 116, 97, 114, 116]) (nm (rInt a0 2)), fd (bs [115, 112, 114, 101, 97, 100]) (podcodec_list_api_SpreadRule_c119_v (rSl a0 8)), fd (bs [116, 111, 108, 101, 114, 97, 116, 105, 111, 110, 115]) (podcodec_list_api_Toleration_c121_v (rSl a0 9))]) (D.eqn (fun _ => by kernel_rfl)) (fun r h => ?_)
  subst h
  exact D.ret (by kernel_rfl)
theorem ref19_FromTemplate_val (a0 : Row) (ha : Br a0) : D (fun k => (ref19_FromTemplate.f k a0).eval) (fun v => v = podcodec_FromTemplate_v a0) := by
  refine D.bnd (q := fun v => v = podcodec_list_api_Label_c80_v (rSl a0 0)) (ref19_fromLabels_val _ (Br.sl ha _)) (fun r h => ?_)
  subst h
  refine D.bnd (q := fun v => v = fd (bs [108, 97, 98, 101, 108, 115]) (podcodec_list_api_Label_c80_v (rSl a0 0))) (D.eqn (fun _ => by kernel_rfl)) (fun r h => ?_)
  subst h
  refine D.bnd (q := fun v => v = podcodec_encodeSpec_v (eo 35 a0 1)) (ref19_FromSpec_val _ (br_etaL ha _ _)) (fun r h => ?_)
  subst h
  refine D.bnd (q := fun v => v = fd (bs [115, 112, 101, 99]) (podcodec_encodeSpec_v (eo 35 a0 1))) (D.eqn (fun _ => by kernel_rfl)) (fun r h => ?_)
  subst h
  refine D.bnd (q := fun v => v = ob [fd (bs [108, 97, 98, 101, 108, 115]) (podcodec_list_api_Label_c80_v (rSl a0 0)), fd (bs [115, 112, 101, 99]) (podcodec_encodeSpec_v (eo 35 a0 1))]) (D.eqn (fun _ => by kernel_rfl)) (fun r h => ?_)
  subst h
  exact D.ret (by kernel_rfl)

end
end Go.Proofs.YtolackmpfnndhaaGreatDoor.Ev
