/- Part of a claim: see its row. Conditions: stated at each. -/
import Derived.Test.YtkdikhonafbgdaaZAQ0
import Derived.Test.YtkdikhonafbgdaaZAQ10
import Derived.Test.YtkdikhonafbgdaaZAQ11
import Derived.Test.YtkdikhonafbgdaaZAQ12
namespace Go.Proofs.Ytkdikhonafbgdaa.Q
open Go.RowKit Go.Proofs.YtkdikhonafbgdaaW.PrintWords Go.Proofs.YtkdikhonafbgdaaW.PrintLast Go.Proofs.YtkdikhonafbgdaaW.PrintMore Go.Proofs.Ytkdikhonafbgdaa.Sh
attribute [local go_sem] max2_int min2_int max_two min_two max_three min_three max_four min_four
set_option linter.unusedVariables false
set_option linter.unusedSimpArgs false
theorem sz58 : (Try.prog.info? 58).map (·.size) = some 3 := by kernel_rfl
mutual
def orchestratorref57_open.l0 : Nat → List (S54) → Bool → Int → Int → ByteArray → ByteArray → ByteArray → Int → Int → Int → Int → Bool → Int → List (S72) → List (S110) → List ByteArray → List (S112) → ByteArray → Int → Int → Int → List (S117) → List (S74) → List (S119) → List (S121) → List (S123) → List (S125) → Int → Bool → Int → Int → Int → List (S127) → Int → ByteArray → ByteArray → ByteArray → ByteArray → ByteArray → Int → Int → Int → Int → Bool → Int → List (S72) → List (S110) → List ByteArray → List (S112) → ByteArray → Int → Int → Int → List (S117) → List (S74) → List (S119) → List (S121) → List (S123) → List (S125) → Int → Bool → Int → Int → Int → List (S127) → Int → ByteArray → ByteArray → Option (Bool)
 | 0, _, _, _, _, _, _, _, _, _, _, _, _, _, _, _, _, _, _, _, _, _, _, _, _, _, _, _, _, _, _, _, _, _, _, _, _, _, _, _, _, _, _, _, _, _, _, _, _, _, _, _, _, _, _, _, _, _, _, _, _, _, _, _, _, _, _, _, _ => none
 | k + 1, x0, x3, x4, x11, x465000, x465001, x465002, x465003, x465004, x465005, x465006, x465007, x465008, x465009, x465010, x465011, x465012, x465013, x465014, x465015, x465016, x465017, x465018, x465019, x465020, x465021, x465022, x465023, x465024, x465025, x465026, x465027, x465028, x465029, x465030, x465031, x466000, x466001, x466002, x466003, x466004, x466005, x466006, x466007, x466008, x466009, x466010, x466011, x466012, x466013, x466014, x466015, x466016, x466017, x466018, x466019, x466020, x466021, x466022, x466023, x466024, x466025, x466026, x466027, x466028, x466029, x466030, x466031 => if x11 < (x0.length : Int) then (if 0 ≤ x11 then ((orchestratorref57_isolates.f k ((rd_T54 x0 x11).f0.f0) ((rd_T54 x0 x11).f0.f1) ((rd_T54 x0 x11).f0.f2) ((rd_T54 x0 x11).f0.f3) ((rd_T54 x0 x11).f0.f4) ((rd_T54 x0 x11).f0.f5) ((rd_T54 x0 x11).f0.f6) ((rd_T54 x0 x11).f0.f7) ((rd_T54 x0 x11).f0.f8) ((rd_T54 x0 x11).f0.f9) ((rd_T54 x0 x11).f0.f10) ((rd_T54 x0 x11).f0.f11) ((rd_T54 x0 x11).f0.f12) ((rd_T54 x0 x11).f1) ((rd_T54 x0 x11).f2) ((rd_T54 x0 x11).f3) ((rd_T54 x0 x11).f4) x465000 x465001 x465002 x465003 x465004 x465005 x465006 x465007 x465008 x465009 x465010 x465011 x465012 x465013 x465014 x465015 x465016 x465017 x465018 x465019 x465020 x465021 x465022 x465023 x465024 x465025 x465026 x465027 x465028 x465029 x465030 x465031 x3).bind fun t468 => (if t468 = true then (orchestratorref57_open.l1 k x0 x3 x4 x11 0 x465000 x465001 x465002 x465003 x465004 x465005 x465006 x465007 x465008 x465009 x465010 x465011 x465012 x465013 x465014 x465015 x465016 x465017 x465018 x465019 x465020 x465021 x465022 x465023 x465024 x465025 x465026 x465027 x465028 x465029 x465030 x465031 x466000 x466001 x466002 x466003 x466004 x466005 x466006 x466007 x466008 x466009 x466010 x466011 x466012 x466013 x466014 x466015 x466016 x466017 x466018 x466019 x466020 x466021 x466022 x466023 x466024 x466025 x466026 x466027 x466028 x466029 x466030 x466031) else (orchestratorref57_open.l0 k x0 x3 x4 (wrap64 (x11 + 1)) x465000 x465001 x465002 x465003 x465004 x465005 x465006 x465007 x465008 x465009 x465010 x465011 x465012 x465013 x465014 x465015 x465016 x465017 x465018 x465019 x465020 x465021 x465022 x465023 x465024 x465025 x465026 x465027 x465028 x465029 x465030 x465031 x466000 x466001 x466002 x466003 x466004 x466005 x466006 x466007 x466008 x466009 x466010 x466011 x466012 x466013 x466014 x466015 x466016 x466017 x466018 x466019 x466020 x466021 x466022 x466023 x466024 x466025 x466026 x466027 x466028 x466029 x466030 x466031))) else (none)) else (some false)
def orchestratorref57_open.l1 : Nat → List (S54) → Bool → Int → Int → Int → ByteArray → ByteArray → ByteArray → Int → Int → Int → Int → Bool → Int → List (S72) → List (S110) → List ByteArray → List (S112) → ByteArray → Int → Int → Int → List (S117) → List (S74) → List (S119) → List (S121) → List (S123) → List (S125) → Int → Bool → Int → Int → Int → List (S127) → Int → ByteArray → ByteArray → ByteArray → ByteArray → ByteArray → Int → Int → Int → Int → Bool → Int → List (S72) → List (S110) → List ByteArray → List (S112) → ByteArray → Int → Int → Int → List (S117) → List (S74) → List (S119) → List (S121) → List (S123) → List (S125) → Int → Bool → Int → Int → Int → List (S127) → Int → ByteArray → ByteArray → Option (Bool)
 | 0, _, _, _, _, _, _, _, _, _, _, _, _, _, _, _, _, _, _, _, _, _, _, _, _, _, _, _, _, _, _, _, _, _, _, _, _, _, _, _, _, _, _, _, _, _, _, _, _, _, _, _, _, _, _, _, _, _, _, _, _, _, _, _, _, _, _, _, _, _ => none
 | k + 1, x0, x3, x4, x11, x12, x465000, x465001, x465002, x465003, x465004, x465005, x465006, x465007, x465008, x465009, x465010, x465011, x465012, x465013, x465014, x465015, x465016, x465017, x465018, x465019, x465020, x465021, x465022, x465023, x465024, x465025, x465026, x465027, x465028, x465029, x465030, x465031, x466000, x466001, x466002, x466003, x466004, x466005, x466006, x466007, x466008, x466009, x466010, x466011, x466012, x466013, x466014, x466015, x466016, x466017, x466018, x466019, x466020, x466021, x466022, x466023, x466024, x466025, x466026, x466027, x466028, x466029, x466030, x466031 => if 0 ≤ x11 then (if x11 < (x0.length : Int) then (if x12 < (((rd_T54 x0 x11).f4).length : Int) then (if 0 ≤ x12 then (if (((rd_T58 ((rd_T54 x0 x11).f4) x12).f0) == x3) = true then ((orchestratorref57_peer.f k ((rd_T58 ((rd_T54 x0 x11).f4) x12).f1) x466000 x466001 x466002 x466003 x466004 x466005 x466006 x466007 x466008 x466009 x466010 x466011 x466012 x466013 x466014 x466015 x466016 x466017 x466018 x466019 x466020 x466021 x466022 x466023 x466024 x466025 x466026 x466027 x466028 x466029 x466030 x466031).bind fun t473 => (if t473 = true then ((orchestratorref57_port.f k ((rd_T58 ((rd_T54 x0 x11).f4) x12).f2) x4).bind fun t474 => (if t474 = true then (some true) else (orchestratorref57_open.l1 k x0 x3 x4 x11 (wrap64 (x12 + 1)) x465000 x465001 x465002 x465003 x465004 x465005 x465006 x465007 x465008 x465009 x465010 x465011 x465012 x465013 x465014 x465015 x465016 x465017 x465018 x465019 x465020 x465021 x465022 x465023 x465024 x465025 x465026 x465027 x465028 x465029 x465030 x465031 x466000 x466001 x466002 x466003 x466004 x466005 x466006 x466007 x466008 x466009 x466010 x466011 x466012 x466013 x466014 x466015 x466016 x466017 x466018 x466019 x466020 x466021 x466022 x466023 x466024 x466025 x466026 x466027 x466028 x466029 x466030 x466031))) else (orchestratorref57_open.l1 k x0 x3 x4 x11 (wrap64 (x12 + 1)) x465000 x465001 x465002 x465003 x465004 x465005 x465006 x465007 x465008 x465009 x465010 x465011 x465012 x465013 x465014 x465015 x465016 x465017 x465018 x465019 x465020 x465021 x465022 x465023 x465024 x465025 x465026 x465027 x465028 x465029 x465030 x465031 x466000 x466001 x466002 x466003 x466004 x466005 x466006 x466007 x466008 x466009 x466010 x466011 x466012 x466013 x466014 x466015 x466016 x466017 x466018 x466019 x466020 x466021 x466022 x466023 x466024 x466025 x466026 x466027 x466028 x466029 x466030 x466031))) else (orchestratorref57_open.l1 k x0 x3 x4 x11 (wrap64 (x12 + 1)) x465000 x465001 x465002 x465003 x465004 x465005 x465006 x465007 x465008 x465009 x465010 x465011 x465012 x465013 x465014 x465015 x465016 x465017 x465018 x465019 x465020 x465021 x465022 x465023 x465024 x465025 x465026 x465027 x465028 x465029 x465030 x465031 x466000 x466001 x466002 x466003 x466004 x466005 x466006 x466007 x466008 x466009 x466010 x466011 x466012 x466013 x466014 x466015 x466016 x466017 x466018 x466019 x466020 x466021 x466022 x466023 x466024 x466025 x466026 x466027 x466028 x466029 x466030 x466031)) else (none)) else (orchestratorref57_open.l0 k x0 x3 x4 (wrap64 (x11 + 1)) x465000 x465001 x465002 x465003 x465004 x465005 x465006 x465007 x465008 x465009 x465010 x465011 x465012 x465013 x465014 x465015 x465016 x465017 x465018 x465019 x465020 x465021 x465022 x465023 x465024 x465025 x465026 x465027 x465028 x465029 x465030 x465031 x466000 x466001 x466002 x466003 x466004 x466005 x466006 x466007 x466008 x466009 x466010 x466011 x466012 x466013 x466014 x466015 x466016 x466017 x466018 x466019 x466020 x466021 x466022 x466023 x466024 x466025 x466026 x466027 x466028 x466029 x466030 x466031)) else (none)) else (none)
end
def orchestratorref57_open.f (k : Nat) (l0 : List (S54)) (a1_0 : ByteArray) (a1_1 : ByteArray) (a1_2 : ByteArray) (a1_3 : Int) (a1_4 : Int) (a1_5 : Int) (a1_6 : Int) (a1_7 : Bool) (a1_8 : Int) (l1_9 : List (S72)) (l1_10 : List (S110)) (l1_11 : List ByteArray) (l1_12 : List (S112)) (a1_13 : ByteArray) (a1_14 : Int) (a1_15 : Int) (a1_16 : Int) (l1_17 : List (S117)) (l1_18 : List (S74)) (l1_19 : List (S119)) (l1_20 : List (S121)) (l1_21 : List (S123)) (l1_22 : List (S125)) (a1_23 : Int) (a1_24 : Bool) (a1_25 : Int) (a1_26 : Int) (a1_27 : Int) (l1_28 : List (S127)) (a1_29 : Int) (a1_30 : ByteArray) (a1_31 : ByteArray) (a2_0 : ByteArray) (a2_1 : ByteArray) (a2_2 : ByteArray) (a2_3 : Int) (a2_4 : Int) (a2_5 : Int) (a2_6 : Int) (a2_7 : Bool) (a2_8 : Int) (l2_9 : List (S72)) (l2_10 : List (S110)) (l2_11 : List ByteArray) (l2_12 : List (S112)) (a2_13 : ByteArray) (a2_14 : Int) (a2_15 : Int) (a2_16 : Int) (l2_17 : List (S117)) (l2_18 : List (S74)) (l2_19 : List (S119)) (l2_20 : List (S121)) (l2_21 : List (S123)) (l2_22 : List (S125)) (a2_23 : Int) (a2_24 : Bool) (a2_25 : Int) (a2_26 : Int) (a2_27 : Int) (l2_28 : List (S127)) (a2_29 : Int) (a2_30 : ByteArray) (a2_31 : ByteArray) (a3 : Bool) (a4 : Int) : Option (Bool) := (orchestratorref57_Isolated.f k l0 a1_0 a1_1 a1_2 a1_3 a1_4 a1_5 a1_6 a1_7 a1_8 l1_9 l1_10 l1_11 l1_12 a1_13 a1_14 a1_15 a1_16 l1_17 l1_18 l1_19 l1_20 l1_21 l1_22 a1_23 a1_24 a1_25 a1_26 a1_27 l1_28 a1_29 a1_30 a1_31 a3).bind fun t466 => (if t466 = true then (orchestratorref57_open.l0 k l0 a3 a4 0 a1_0 a1_1 a1_2 a1_3 a1_4 a1_5 a1_6 a1_7 a1_8 l1_9 l1_10 l1_11 l1_12 a1_13 a1_14 a1_15 a1_16 l1_17 l1_18 l1_19 l1_20 l1_21 l1_22 a1_23 a1_24 a1_25 a1_26 a1_27 l1_28 a1_29 a1_30 a1_31 a2_0 a2_1 a2_2 a2_3 a2_4 a2_5 a2_6 a2_7 a2_8 l2_9 l2_10 l2_11 l2_12 a2_13 a2_14 a2_15 a2_16 l2_17 l2_18 l2_19 l2_20 l2_21 l2_22 a2_23 a2_24 a2_25 a2_26 a2_27 l2_28 a2_29 a2_30 a2_31) else (some true))
theorem orchestratorref57_open.mono_l : ∀ k, (∀ y0 y1 y2 y3 y4 y5 y6 y7 y8 y9 y10 y11 y12 y13 y14 y15 y16 y17 y18 y19 y20 y21 y22 y23 y24 y25 y26 y27 y28 y29 y30 y31 y32 y33 y34 y35 y36 y37 y38 y39 y40 y41 y42 y43 y44 y45 y46 y47 y48 y49 y50 y51 y52 y53 y54 y55 y56 y57 y58 y59 y60 y61 y62 y63 y64 y65 y66 y67, LeO (orchestratorref57_open.l0 k y0 y1 y2 y3 y4 y5 y6 y7 y8 y9 y10 y11 y12 y13 y14 y15 y16 y17 y18 y19 y20 y21 y22 y23 y24 y25 y26 y27 y28 y29 y30 y31 y32 y33 y34 y35 y36 y37 y38 y39 y40 y41 y42 y43 y44 y45 y46 y47 y48 y49 y50 y51 y52 y53 y54 y55 y56 y57 y58 y59 y60 y61 y62 y63 y64 y65 y66 y67) (orchestratorref57_open.l0 (k + 1) y0 y1 y2 y3 y4 y5 y6 y7 y8 y9 y10 y11 y12 y13 y14 y15 y16 y17 y18 y19 y20 y21 y22 y23 y24 y25 y26 y27 y28 y29 y30 y31 y32 y33 y34 y35 y36 y37 y38 y39 y40 y41 y42 y43 y44 y45 y46 y47 y48 y49 y50 y51 y52 y53 y54 y55 y56 y57 y58 y59 y60 y61 y62 y63 y64 y65 y66 y67)) ∧ (∀ y0 y1 y2 y3 y4 y5 y6 y7 y8 y9 y10 y11 y12 y13 y14 y15 y16 y17 y18 y19 y20 y21 y22 y23 y24 y25 y26 y27 y28 y29 y30 y31 y32 y33 y34 y35 y36 y37 y38 y39 y40 y41 y42 y43 y44 y45 y46 y47 y48 y49 y50 y51 y52 y53 y54 y55 y56 y57 y58 y59 y60 y61 y62 y63 y64 y65 y66 y67 y68, LeO (orchestratorref57_open.l1 k y0 y1 y2 y3 y4 y5 y6 y7 y8 y9 y10 y11 y12 y13 y14 y15 y16 y17 y18 y19 y20 y21 y22 y23 y24 y25 y26 y27 y28 y29 y30 y31 y32 y33 y34 y35 y36 y37 y38 y39 y40 y41 y42 y43 y44 y45 y46 y47 y48 y49 y50 y51 y52 y53 y54 y55 y56 y57 y58 y59 y60 y61 y62 y63 y64 y65 y66 y67 y68) (orchestratorref57_open.l1 (k + 1) y0 y1 y2 y3 y4 y5 y6 y7 y8 y9 y10 y11 y12 y13 y14 y15 y16 y17 y18 y19 y20 y21 y22 y23 y24 y25 y26 y27 y28 y29 y30 y31 y32 y33 y34 y35 y36 y37 y38 y39 y40 y41 y42 y43 y44 y45 y46 y47 y48 y49 y50 y51 y52 y53 y54 y55 y56 y57 y58 y59 y60 y61 y62 y63 y64 y65 y66 y67 y68))
 | 0 => ⟨fun _ _ _ _ _ _ _ _ _ _ _ _ _ _ _ _ _ _ _ _ _ _ _ _ _ _ _ _ _ _ _ _ _ _ _ _ _ _ _ _ _ _ _ _ _ _ _ _ _ _ _ _ _ _ _ _ _ _ _ _ _ _ _ _ _ _ _ _ r h => by simp [orchestratorref57_open.l0] at h, fun _ _ _ _ _ _ _ _ _ _ _ _ _ _ _ _ _ _ _ _ _ _ _ _ _ _ _ _ _ _ _ _ _ _ _ _ _ _ _ _ _ _ _ _ _ _ _ _ _ _ _ _ _ _ _ _ _ _ _ _ _ _ _ _ _ _ _ _ _ r h => by simp [orchestratorref57_open.l1] at h⟩
 | k + 1 => by
  obtain ⟨ih0, ih1⟩ := orchestratorref57_open.mono_l k
  refine ⟨?_, ?_⟩
  ·intro y0 y1 y2 y3 y4 y5 y6 y7 y8 y9 y10 y11 y12 y13 y14 y15 y16 y17 y18 y19 y20 y21 y22 y23 y24 y25 y26 y27 y28 y29 y30 y31 y32 y33 y34 y35 y36 y37 y38 y39 y40 y41 y42 y43 y44 y45 y46 y47 y48 y49 y50 y51 y52 y53 y54 y55 y56 y57 y58 y59 y60 y61 y62 y63 y64 y65 y66 y67
   unfold orchestratorref57_open.l0
   repeat' first
   | (with_reducible exact ih0 _ _ _ _ _ _ _ _ _ _ _ _ _ _ _ _ _ _ _ _ _ _ _ _ _ _ _ _ _ _ _ _ _ _ _ _ _ _ _ _ _ _ _ _ _ _ _ _ _ _ _ _ _ _ _ _ _ _ _ _ _ _ _ _ _ _ _ _)
   | (with_reducible exact ih1 _ _ _ _ _ _ _ _ _ _ _ _ _ _ _ _ _ _ _ _ _ _ _ _ _ _ _ _ _ _ _ _ _ _ _ _ _ _ _ _ _ _ _ _ _ _ _ _ _ _ _ _ _ _ _ _ _ _ _ _ _ _ _ _ _ _ _ _ _)
   | (with_reducible exact orchestratorref57_Isolated.mono _ _ _ _ _ _ _ _ _ _ _ _ _ _ _ _ _ _ _ _ _ _ _ _ _ _ _ _ _ _ _ _ _ _ _)
   | (with_reducible exact orchestratorref57_isolates.mono _ _ _ _ _ _ _ _ _ _ _ _ _ _ _ _ _ _ _ _ _ _ _ _ _ _ _ _ _ _ _ _ _ _ _ _ _ _ _ _ _ _ _ _ _ _ _ _ _ _ _)
   | (with_reducible exact orchestratorref57_peer.mono _ _ _ _ _ _ _ _ _ _ _ _ _ _ _ _ _ _ _ _ _ _ _ _ _ _ _ _ _ _ _ _ _ _)
   | (with_reducible exact orchestratorref57_port.mono _ _ _)
   | (with_reducible exact LeO.refl _)
   | (with_reducible exact LeO.none _)
   | (with_reducible refine LeO.ite ?_ ?_)
   | (with_reducible refine LeO.bind ?_ (fun _ => ?_))
   | exact ih0 _ _ _ _ _ _ _ _ _ _ _ _ _ _ _ _ _ _ _ _ _ _ _ _ _ _ _ _ _ _ _ _ _ _ _ _ _ _ _ _ _ _ _ _ _ _ _ _ _ _ _ _ _ _ _ _ _ _ _ _ _ _ _ _ _ _ _ _
   | exact ih1 _ _ _ _ _ _ _ _ _ _ _ _ _ _ _ _ _ _ _ _ _ _ _ _ _ _ _ _ _ _ _ _ _ _ _ _ _ _ _ _ _ _ _ _ _ _ _ _ _ _ _ _ _ _ _ _ _ _ _ _ _ _ _ _ _ _ _ _ _
   | exact orchestratorref57_Isolated.mono _ _ _ _ _ _ _ _ _ _ _ _ _ _ _ _ _ _ _ _ _ _ _ _ _ _ _ _ _ _ _ _ _ _ _
   | exact orchestratorref57_isolates.mono _ _ _ _ _ _ _ _ _ _ _ _ _ _ _ _ _ _ _ _ _ _ _ _ _ _ _ _ _ _ _ _ _ _ _ _ _ _ _ _ _ _ _ _ _ _ _ _ _ _ _
   | exact orchestratorref57_peer.mono _ _ _ _ _ _ _ _ _ _ _ _ _ _ _ _ _ _ _ _ _ _ _ _ _ _ _ _ _ _ _ _ _ _
   | exact orchestratorref57_port.mono _ _ _
   | exact LeO.none _
   | refine LeO.ite ?_ ?_
   | refine LeO.bind ?_ (fun _ => ?_)
  ·intro y0 y1 y2 y3 y4 y5 y6 y7 y8 y9 y10 y11 y12 y13 y14 y15 y16 y17 y18 y19 y20 y21 y22 y23 y24 y25 y26 y27 y28 y29 y30 y31 y32 y33 y34 y35 y36 y37 y38 y39 y40 y41 y42 y43 y44 y45 y46 y47 y48 y49 y50 y51 y52 y53 y54 y55 y56 y57 y58 y59 y60 y61 y62 y63 y64 y65 y66 y67 y68
   unfold orchestratorref57_open.l1
   repeat' first
   | (with_reducible exact ih0 _ _ _ _ _ _ _ _ _ _ _ _ _ _ _ _ _ _ _ _ _ _ _ _ _ _ _ _ _ _ _ _ _ _ _ _ _ _ _ _ _ _ _ _ _ _ _ _ _ _ _ _ _ _ _ _ _ _ _ _ _ _ _ _ _ _ _ _)
   | (with_reducible exact ih1 _ _ _ _ _ _ _ _ _ _ _ _ _ _ _ _ _ _ _ _ _ _ _ _ _ _ _ _ _ _ _ _ _ _ _ _ _ _ _ _ _ _ _ _ _ _ _ _ _ _ _ _ _ _ _ _ _ _ _ _ _ _ _ _ _ _ _ _ _)
   | (with_reducible exact orchestratorref57_Isolated.mono _ _ _ _ _ _ _ _ _ _ _ _ _ _ _ _ _ _ _ _ _ _ _ _ _ _ _ _ _ _ _ _ _ _ _)
   | (with_reducible exact orchestratorref57_isolates.mono _ _ _ _ _ _ _ _ _ _ _ _ _ _ _ _ _ _ _ _ _ _ _ _ _ _ _ _ _ _ _ _ _ _ _ _ _ _ _ _ _ _ _ _ _ _ _ _ _ _ _)
   | (with_reducible exact orchestratorref57_peer.mono _ _ _ _ _ _ _ _ _ _ _ _ _ _ _ _ _ _ _ _ _ _ _ _ _ _ _ _ _ _ _ _ _ _)
   | (with_reducible exact orchestratorref57_port.mono _ _ _)
   | (with_reducible exact LeO.refl _)
   | (with_reducible exact LeO.none _)
   | (with_reducible refine LeO.ite ?_ ?_)
   | (with_reducible refine LeO.bind ?_ (fun _ => ?_))
   | exact ih0 _ _ _ _ _ _ _ _ _ _ _ _ _ _ _ _ _ _ _ _ _ _ _ _ _ _ _ _ _ _ _ _ _ _ _ _ _ _ _ _ _ _ _ _ _ _ _ _ _ _ _ _ _ _ _ _ _ _ _ _ _ _ _ _ _ _ _ _
   | exact ih1 _ _ _ _ _ _ _ _ _ _ _ _ _ _ _ _ _ _ _ _ _ _ _ _ _ _ _ _ _ _ _ _ _ _ _ _ _ _ _ _ _ _ _ _ _ _ _ _ _ _ _ _ _ _ _ _ _ _ _ _ _ _ _ _ _ _ _ _ _
   | exact orchestratorref57_Isolated.mono _ _ _ _ _ _ _ _ _ _ _ _ _ _ _ _ _ _ _ _ _ _ _ _ _ _ _ _ _ _ _ _ _ _ _
   | exact orchestratorref57_isolates.mono _ _ _ _ _ _ _ _ _ _ _ _ _ _ _ _ _ _ _ _ _ _ _ _ _ _ _ _ _ _ _ _ _ _ _ _ _ _ _ _ _ _ _ _ _ _ _ _ _ _ _
   | exact orchestratorref57_peer.mono _ _ _ _ _ _ _ _ _ _ _ _ _ _ _ _ _ _ _ _ _ _ _ _ _ _ _ _ _ _ _ _ _ _
   | exact orchestratorref57_port.mono _ _ _
   | exact LeO.none _
   | refine LeO.ite ?_ ?_
   | refine LeO.bind ?_ (fun _ => ?_)
theorem orchestratorref57_open.mono : ∀ a0 a1 a2 a3 a4 a5 a6 a7 a8 a9 a10 a11 a12 a13 a14 a15 a16 a17 a18 a19 a20 a21 a22 a23 a24 a25 a26 a27 a28 a29 a30 a31 a32 a33 a34 a35 a36 a37 a38 a39 a40 a41 a42 a43 a44 a45 a46 a47 a48 a49 a50 a51 a52 a53 a54 a55 a56 a57 a58 a59 a60 a61 a62 a63 a64 a65 a66 k, LeO (orchestratorref57_open.f k a0 a1 a2 a3 a4 a5 a6 a7 a8 a9 a10 a11 a12 a13 a14 a15 a16 a17 a18 a19 a20 a21 a22 a23 a24 a25 a26 a27 a28 a29 a30 a31 a32 a33 a34 a35 a36 a37 a38 a39 a40 a41 a42 a43 a44 a45 a46 a47 a48 a49 a50 a51 a52 a53 a54 a55 a56 a57 a58 a59 a60 a61 a62 a63 a64 a65 a66) (orchestratorref57_open.f (k + 1) a0 a1 a2 a3 a4 a5 a6 a7 a8 a9 a10 a11 a12 a13 a14 a15 a16 a17 a18 a19 a20 a21 a22 a23 a24 a25 a26 a27 a28 a29 a30 a31 a32 a33 a34 a35 a36 a37 a38 a39 a40 a41 a42 a43 a44 a45 a46 a47 a48 a49 a50 a51 a52 a53 a54 a55 a56 a57 a58 a59 a60 a61 a62 a63 a64 a65 a66) := by
 intro a0 a1 a2 a3 a4 a5 a6 a7 a8 a9 a10 a11 a12 a13 a14 a15 a16 a17 a18 a19 a20 a21 a22 a23 a24 a25 a26 a27 a28 a29 a30 a31 a32 a33 a34 a35 a36 a37 a38 a39 a40 a41 a42 a43 a44 a45 a46 a47 a48 a49 a50 a51 a52 a53 a54 a55 a56 a57 a58 a59 a60 a61 a62 a63 a64 a65 a66 k
 obtain ⟨ih0, ih1⟩ := orchestratorref57_open.mono_l k
 unfold orchestratorref57_open.f
 repeat' first
   | (with_reducible exact ih0 _ _ _ _ _ _ _ _ _ _ _ _ _ _ _ _ _ _ _ _ _ _ _ _ _ _ _ _ _ _ _ _ _ _ _ _ _ _ _ _ _ _ _ _ _ _ _ _ _ _ _ _ _ _ _ _ _ _ _ _ _ _ _ _ _ _ _ _)
   | (with_reducible exact ih1 _ _ _ _ _ _ _ _ _ _ _ _ _ _ _ _ _ _ _ _ _ _ _ _ _ _ _ _ _ _ _ _ _ _ _ _ _ _ _ _ _ _ _ _ _ _ _ _ _ _ _ _ _ _ _ _ _ _ _ _ _ _ _ _ _ _ _ _ _)
   | (with_reducible exact orchestratorref57_Isolated.mono _ _ _ _ _ _ _ _ _ _ _ _ _ _ _ _ _ _ _ _ _ _ _ _ _ _ _ _ _ _ _ _ _ _ _)
   | (with_reducible exact orchestratorref57_isolates.mono _ _ _ _ _ _ _ _ _ _ _ _ _ _ _ _ _ _ _ _ _ _ _ _ _ _ _ _ _ _ _ _ _ _ _ _ _ _ _ _ _ _ _ _ _ _ _ _ _ _ _)
   | (with_reducible exact orchestratorref57_peer.mono _ _ _ _ _ _ _ _ _ _ _ _ _ _ _ _ _ _ _ _ _ _ _ _ _ _ _ _ _ _ _ _ _ _)
   | (with_reducible exact orchestratorref57_port.mono _ _ _)
   | (with_reducible exact LeO.refl _)
   | (with_reducible exact LeO.none _)
   | (with_reducible refine LeO.ite ?_ ?_)
   | (with_reducible refine LeO.bind ?_ (fun _ => ?_))
   | exact ih0 _ _ _ _ _ _ _ _ _ _ _ _ _ _ _ _ _ _ _ _ _ _ _ _ _ _ _ _ _ _ _ _ _ _ _ _ _ _ _ _ _ _ _ _ _ _ _ _ _ _ _ _ _ _ _ _ _ _ _ _ _ _ _ _ _ _ _ _
   | exact ih1 _ _ _ _ _ _ _ _ _ _ _ _ _ _ _ _ _ _ _ _ _ _ _ _ _ _ _ _ _ _ _ _ _ _ _ _ _ _ _ _ _ _ _ _ _ _ _ _ _ _ _ _ _ _ _ _ _ _ _ _ _ _ _ _ _ _ _ _ _
   | exact orchestratorref57_Isolated.mono _ _ _ _ _ _ _ _ _ _ _ _ _ _ _ _ _ _ _ _ _ _ _ _ _ _ _ _ _ _ _ _ _ _ _
   | exact orchestratorref57_isolates.mono _ _ _ _ _ _ _ _ _ _ _ _ _ _ _ _ _ _ _ _ _ _ _ _ _ _ _ _ _ _ _ _ _ _ _ _ _ _ _ _ _ _ _ _ _ _ _ _ _ _ _
   | exact orchestratorref57_peer.mono _ _ _ _ _ _ _ _ _ _ _ _ _ _ _ _ _ _ _ _ _ _ _ _ _ _ _ _ _ _ _ _ _ _
   | exact orchestratorref57_port.mono _ _ _
   | exact LeO.none _
   | refine LeO.ite ?_ ?_
   | refine LeO.bind ?_ (fun _ => ?_)
def orchestratorref57_open.T6 : Bool × List (List Nat × List Nat) := (true, [([], []), ([], []), ([0, 1], [0, 1]), ([2], [2]), ([], []), ([], []), ([3, 4, 5], [3, 4, 5]), ([6], [6])])
def orchestratorref57_open.B6 : List Nat := [0, 0, 3, 7, 0, 0, 63, 127]
theorem orchestratorref57_open.tab6 : rtab .any (opsOf Try.f25 6) = orchestratorref57_open.T6 := by kernel_rfl
theorem orchestratorref57_open.bits6 : waitsOk orchestratorref57_open.T6.2 orchestratorref57_open.B6 = true := by kernel_rfl
set_option maxHeartbeats 8000000 in
set_option maxRecDepth 100000 in
theorem orchestratorref57_open.calls (k : Nat) (A0 : Option Addr) (c0 : Nat) (l0 : List (S54)) (a1_0 : ByteArray) (a1_1 : ByteArray) (a1_2 : ByteArray) (a1_3 : Int) (a1_4 : Int) (a1_5 : Int) (a1_6 : Int) (a1_7 : Bool) (a1_8 : Int) (A1_9 : Option Addr) (c1_9 : Nat) (l1_9 : List (S72)) (A1_10 : Option Addr) (c1_10 : Nat) (l1_10 : List (S110)) (A1_11 : Option Addr) (c1_11 : Nat) (l1_11 : List ByteArray) (A1_12 : Option Addr) (c1_12 : Nat) (l1_12 : List (S112)) (a1_13 : ByteArray) (a1_14 : Int) (a1_15 : Int) (a1_16 : Int) (A1_17 : Option Addr) (c1_17 : Nat) (l1_17 : List (S117)) (A1_18 : Option Addr) (c1_18 : Nat) (l1_18 : List (S74)) (A1_19 : Option Addr) (c1_19 : Nat) (l1_19 : List (S119)) (A1_20 : Option Addr) (c1_20 : Nat) (l1_20 : List (S121)) (A1_21 : Option Addr) (c1_21 : Nat) (l1_21 : List (S123)) (A1_22 : Option Addr) (c1_22 : Nat) (l1_22 : List (S125)) (a1_23 : Int) (a1_24 : Bool) (a1_25 : Int) (a1_26 : Int) (a1_27 : Int) (A1_28 : Option Addr) (c1_28 : Nat) (l1_28 : List (S127)) (a1_29 : Int) (a1_30 : ByteArray) (a1_31 : ByteArray) (a2_0 : ByteArray) (a2_1 : ByteArray) (a2_2 : ByteArray) (a2_3 : Int) (a2_4 : Int) (a2_5 : Int) (a2_6 : Int) (a2_7 : Bool) (a2_8 : Int) (A2_9 : Option Addr) (c2_9 : Nat) (l2_9 : List (S72)) (A2_10 : Option Addr) (c2_10 : Nat) (l2_10 : List (S110)) (A2_11 : Option Addr) (c2_11 : Nat) (l2_11 : List ByteArray) (A2_12 : Option Addr) (c2_12 : Nat) (l2_12 : List (S112)) (a2_13 : ByteArray) (a2_14 : Int) (a2_15 : Int) (a2_16 : Int) (A2_17 : Option Addr) (c2_17 : Nat) (l2_17 : List (S117)) (A2_18 : Option Addr) (c2_18 : Nat) (l2_18 : List (S74)) (A2_19 : Option Addr) (c2_19 : Nat) (l2_19 : List (S119)) (A2_20 : Option Addr) (c2_20 : Nat) (l2_20 : List (S121)) (A2_21 : Option Addr) (c2_21 : Nat) (l2_21 : List (S123)) (A2_22 : Option Addr) (c2_22 : Nat) (l2_22 : List (S125)) (a2_23 : Int) (a2_24 : Bool) (a2_25 : Int) (a2_26 : Int) (a2_27 : Int) (A2_28 : Option Addr) (c2_28 : Nat) (l2_28 : List (S127)) (a2_29 : Int) (a2_30 : ByteArray) (a2_31 : ByteArray) (a3 : Bool) (a4 : Int) (r : Bool) (w : World) (hr0 : Kd.C k54 w A0 l0.length l0) (hc0 : l0.length ≤ c0) (hr1_9 : Kd.C k72 w A1_9 l1_9.length l1_9) (hc1_9 : l1_9.length ≤ c1_9) (hr1_10 : Kd.C k110 w A1_10 l1_10.length l1_10) (hc1_10 : l1_10.length ≤ c1_10) (hr1_11 : Kd.C Kd.string w A1_11 l1_11.length l1_11) (hc1_11 : l1_11.length ≤ c1_11) (hr1_12 : Kd.C k112 w A1_12 l1_12.length l1_12) (hc1_12 : l1_12.length ≤ c1_12) (hr1_17 : Kd.C k117 w A1_17 l1_17.length l1_17) (hc1_17 : l1_17.length ≤ c1_17) (hr1_18 : Kd.C k74 w A1_18 l1_18.length l1_18) (hc1_18 : l1_18.length ≤ c1_18) (hr1_19 : Kd.C k119 w A1_19 l1_19.length l1_19) (hc1_19 : l1_19.length ≤ c1_19) (hr1_20 : Kd.C k121 w A1_20 l1_20.length l1_20) (hc1_20 : l1_20.length ≤ c1_20) (hr1_21 : Kd.C k123 w A1_21 l1_21.length l1_21) (hc1_21 : l1_21.length ≤ c1_21) (hr1_22 : Kd.C k125 w A1_22 l1_22.length l1_22) (hc1_22 : l1_22.length ≤ c1_22) (hr1_28 : Kd.C k127 w A1_28 l1_28.length l1_28) (hc1_28 : l1_28.length ≤ c1_28) (hr2_9 : Kd.C k72 w A2_9 l2_9.length l2_9) (hc2_9 : l2_9.length ≤ c2_9) (hr2_10 : Kd.C k110 w A2_10 l2_10.length l2_10) (hc2_10 : l2_10.length ≤ c2_10) (hr2_11 : Kd.C Kd.string w A2_11 l2_11.length l2_11) (hc2_11 : l2_11.length ≤ c2_11) (hr2_12 : Kd.C k112 w A2_12 l2_12.length l2_12) (hc2_12 : l2_12.length ≤ c2_12) (hr2_17 : Kd.C k117 w A2_17 l2_17.length l2_17) (hc2_17 : l2_17.length ≤ c2_17) (hr2_18 : Kd.C k74 w A2_18 l2_18.length l2_18) (hc2_18 : l2_18.length ≤ c2_18) (hr2_19 : Kd.C k119 w A2_19 l2_19.length l2_19) (hc2_19 : l2_19.length ≤ c2_19) (hr2_20 : Kd.C k121 w A2_20 l2_20.length l2_20) (hc2_20 : l2_20.length ≤ c2_20) (hr2_21 : Kd.C k123 w A2_21 l2_21.length l2_21) (hc2_21 : l2_21.length ≤ c2_21) (hr2_22 : Kd.C k125 w A2_22 l2_22.length l2_22) (hc2_22 : l2_22.length ≤ c2_22) (hr2_28 : Kd.C k127 w A2_28 l2_28.length l2_28) (hc2_28 : l2_28.length ≤ c2_28) (h : orchestratorref57_open.f k l0 a1_0 a1_1 a1_2 a1_3 a1_4 a1_5 a1_6 a1_7 a1_8 l1_9 l1_10 l1_11 l1_12 a1_13 a1_14 a1_15 a1_16 l1_17 l1_18 l1_19 l1_20 l1_21 l1_22 a1_23 a1_24 a1_25 a1_26 a1_27 l1_28 a1_29 a1_30 a1_31 a2_0 a2_1 a2_2 a2_3 a2_4 a2_5 a2_6 a2_7 a2_8 l2_9 l2_10 l2_11 l2_12 a2_13 a2_14 a2_15 a2_16 l2_17 l2_18 l2_19 l2_20 l2_21 l2_22 a2_23 a2_24 a2_25 a2_26 a2_27 l2_28 a2_29 a2_30 a2_31 a3 a4 = some r) :
  Calls Try.prog 25 #[.slice A0 l0.length c0, .agg #[.string a1_0, .string a1_1, .string a1_2, .int .i64 a1_3, .int .i64 a1_4, .int .i64 a1_5, .int .i64 a1_6, .bool a1_7, .int .i64 a1_8, .slice A1_9 l1_9.length c1_9, .slice A1_10 l1_10.length c1_10, .slice A1_11 l1_11.length c1_11, .slice A1_12 l1_12.length c1_12, .string a1_13, .int .i64 a1_14, .int .i64 a1_15, .int .i64 a1_16, .slice A1_17 l1_17.length c1_17, .slice A1_18 l1_18.length c1_18, .slice A1_19 l1_19.length c1_19, .slice A1_20 l1_20.length c1_20, .slice A1_21 l1_21.length c1_21, .slice A1_22 l1_22.length c1_22, .int .i64 a1_23, .bool a1_24, .int .i64 a1_25, .int .i64 a1_26, .int .i64 a1_27, .slice A1_28 l1_28.length c1_28, .int .i64 a1_29, .string a1_30, .string a1_31], .agg #[.string a2_0, .string a2_1, .string a2_2, .int .i64 a2_3, .int .i64 a2_4, .int .i64 a2_5, .int .i64 a2_6, .bool a2_7, .int .i64 a2_8, .slice A2_9 l2_9.length c2_9, .slice A2_10 l2_10.length c2_10, .slice A2_11 l2_11.length c2_11, .slice A2_12 l2_12.length c2_12, .string a2_13, .int .i64 a2_14, .int .i64 a2_15, .int .i64 a2_16, .slice A2_17 l2_17.length c2_17, .slice A2_18 l2_18.length c2_18, .slice A2_19 l2_19.length c2_19, .slice A2_20 l2_20.length c2_20, .slice A2_21 l2_21.length c2_21, .slice A2_22 l2_22.length c2_22, .int .i64 a2_23, .bool a2_24, .int .i64 a2_25, .int .i64 a2_26, .int .i64 a2_27, .slice A2_28 l2_28.length c2_28, .int .i64 a2_29, .string a2_30, .string a2_31], .bool a3, .int .i64 a4] w fun e w' => e = .returned (.bool r) ∧ Below w.heap.size w w' := by
 have hu41 := Try.underlying41
 have hu54 := Try.underlying54
 have hu58 := Try.underlying58
 have HR0 := s_a hr0
 have HC0 := s_a hc0
 clear hr0 hc0
 have HR1_9 := s_a hr1_9
 have HC1_9 := s_a hc1_9
 clear hr1_9 hc1_9
 have HR1_10 := s_a hr1_10
 have HC1_10 := s_a hc1_10
 clear hr1_10 hc1_10
 have HR1_11 := s_a hr1_11
 have HC1_11 := s_a hc1_11
 clear hr1_11 hc1_11
 have HR1_12 := s_a hr1_12
 have HC1_12 := s_a hc1_12
 clear hr1_12 hc1_12
 have HR1_17 := s_a hr1_17
 have HC1_17 := s_a hc1_17
 clear hr1_17 hc1_17
 have HR1_18 := s_a hr1_18
 have HC1_18 := s_a hc1_18
 clear hr1_18 hc1_18
 have HR1_19 := s_a hr1_19
 have HC1_19 := s_a hc1_19
 clear hr1_19 hc1_19
 have HR1_20 := s_a hr1_20
 have HC1_20 := s_a hc1_20
 clear hr1_20 hc1_20
 have HR1_21 := s_a hr1_21
 have HC1_21 := s_a hc1_21
 clear hr1_21 hc1_21
 have HR1_22 := s_a hr1_22
 have HC1_22 := s_a hc1_22
 clear hr1_22 hc1_22
 have HR1_28 := s_a hr1_28
 have HC1_28 := s_a hc1_28
 clear hr1_28 hc1_28
 have HR2_9 := s_a hr2_9
 have HC2_9 := s_a hc2_9
 clear hr2_9 hc2_9
 have HR2_10 := s_a hr2_10
 have HC2_10 := s_a hc2_10
 clear hr2_10 hc2_10
 have HR2_11 := s_a hr2_11
 have HC2_11 := s_a hc2_11
 clear hr2_11 hc2_11
 have HR2_12 := s_a hr2_12
 have HC2_12 := s_a hc2_12
 clear hr2_12 hc2_12
 have HR2_17 := s_a hr2_17
 have HC2_17 := s_a hc2_17
 clear hr2_17 hc2_17
 have HR2_18 := s_a hr2_18
 have HC2_18 := s_a hc2_18
 clear hr2_18 hc2_18
 have HR2_19 := s_a hr2_19
 have HC2_19 := s_a hc2_19
 clear hr2_19 hc2_19
 have HR2_20 := s_a hr2_20
 have HC2_20 := s_a hc2_20
 clear hr2_20 hc2_20
 have HR2_21 := s_a hr2_21
 have HC2_21 := s_a hc2_21
 clear hr2_21 hc2_21
 have HR2_22 := s_a hr2_22
 have HC2_22 := s_a hc2_22
 clear hr2_22 hc2_22
 have HR2_28 := s_a hr2_28
 have HC2_28 := s_a hc2_28
 clear hr2_28 hc2_28
 have HB := s_a (Below.refl w.heap.size w)
 have H := h; unfold orchestratorref57_open.f at H
 clear h
 replace H := Option.bind_eq_some_iff.mp H
 obtain ⟨t466, A60, H⟩ := H
 (try dsimp only at H)
 have A6 := s_a A60
 clear A60
 by_cases c7 : t466 = true
 ·subst c7
  (try rw [if_pos rfl] at H)
  have H' := s_a H
  clear H
  go_enter Try.func25, Try.ntmps25
  go_wp2_with (first | ((with_reducible refine gate_dst (N := 6) rfl ?_); refine box_event ?hg (N := 6) ?hd (cs := #[.string a1_0, .string a1_1, .string a1_2, .int .i64 a1_3, .int .i64 a1_4, .int .i64 a1_5, .int .i64 a1_6, .bool a1_7, .int .i64 a1_8, .slice A1_9 l1_9.length c1_9, .slice A1_10 l1_10.length c1_10, .slice A1_11 l1_11.length c1_11, .slice A1_12 l1_12.length c1_12, .string a1_13, .int .i64 a1_14, .int .i64 a1_15, .int .i64 a1_16, .slice A1_17 l1_17.length c1_17, .slice A1_18 l1_18.length c1_18, .slice A1_19 l1_19.length c1_19, .slice A1_20 l1_20.length c1_20, .slice A1_21 l1_21.length c1_21, .slice A1_22 l1_22.length c1_22, .int .i64 a1_23, .bool a1_24, .int .i64 a1_25, .int .i64 a1_26, .int .i64 a1_27, .slice A1_28 l1_28.length c1_28, .int .i64 a1_29, .string a1_30, .string a1_31]) (t := 41) ?hr ?_; (case hd => rfl); (case hg => rfl); (case hr => first | (go_simp; done) | (go_simp; rfl)); intro gb464 hg w8 hbox hb; have BK464 := s_a (hbox); have GW464 := s_a ((by rw [hg]; exact (below_size (by exact s_b HB.out)) : w.heap.size ≤ gb464)); have GE464 := s_a ((by rw [hg]; exact (below_size (by exact s_b HB.out)) : w.heap.size ≤ gb464)); replace HB := s_a (below_step (by exact s_b HB.out) hb); clear hb hbox hg) | ((with_reducible refine gate_dst (N := 7) rfl ?_); refine box_event ?hg (N := 7) ?hd (cs := #[.string a2_0, .string a2_1, .string a2_2, .int .i64 a2_3, .int .i64 a2_4, .int .i64 a2_5, .int .i64 a2_6, .bool a2_7, .int .i64 a2_8, .slice A2_9 l2_9.length c2_9, .slice A2_10 l2_10.length c2_10, .slice A2_11 l2_11.length c2_11, .slice A2_12 l2_12.length c2_12, .string a2_13, .int .i64 a2_14, .int .i64 a2_15, .int .i64 a2_16, .slice A2_17 l2_17.length c2_17, .slice A2_18 l2_18.length c2_18, .slice A2_19 l2_19.length c2_19, .slice A2_20 l2_20.length c2_20, .slice A2_21 l2_21.length c2_21, .slice A2_22 l2_22.length c2_22, .int .i64 a2_23, .bool a2_24, .int .i64 a2_25, .int .i64 a2_26, .int .i64 a2_27, .slice A2_28 l2_28.length c2_28, .int .i64 a2_29, .string a2_30, .string a2_31]) (t := 41) ?hr ?_; (case hd => rfl); (case hg => rfl); (case hr => first | (go_simp; done) | (go_simp; rfl)); intro gb465 hg w9 hbox hb; have BK465 := s_a (hbox); have GW465 := s_a ((by rw [hg]; exact (below_size (by exact s_b HB.out)) : w.heap.size ≤ gb465)); have GE465 := s_a ((by rw [hg]; exact (below_size (by exact s_b HB.out)) : w.heap.size ≤ gb465)); have NB464_465 := s_a ((by rw [hg]; exact Nat.ne_of_lt (blk_lt (s_k BK464.out)) : gb464 ≠ gb465)); have NB465_464 := s_a ((by rw [hg]; exact Nat.ne_of_gt (blk_lt (s_k BK464.out)) : gb465 ≠ gb464)); replace BK464 := s_a (blk_below (s_k BK464.out) hb); replace HB := s_a (below_step (by exact s_b HB.out) hb); clear hb hbox hg) | ((with_reducible refine gate_dst (N := 15) rfl ?_); refine wpList_load_row rfl 41 (.tmp 6) rfl gb464 rfl 41 _ (0, 0) _ (s_k BK464.out) Try.underlying41 rfl sz41 ?_) | ((with_reducible refine gate_callee (f := 10) rfl ?_); refine goesL_ (some 17) rfl rfl Try.func10 (by kernel_rfl) rfl #[.slice A0 l0.length c0, .agg #[.string a1_0, .string a1_1, .string a1_2, .int .i64 a1_3, .int .i64 a1_4, .int .i64 a1_5, .int .i64 a1_6, .bool a1_7, .int .i64 a1_8, .slice A1_9 l1_9.length c1_9, .slice A1_10 l1_10.length c1_10, .slice A1_11 l1_11.length c1_11, .slice A1_12 l1_12.length c1_12, .string a1_13, .int .i64 a1_14, .int .i64 a1_15, .int .i64 a1_16, .slice A1_17 l1_17.length c1_17, .slice A1_18 l1_18.length c1_18, .slice A1_19 l1_19.length c1_19, .slice A1_20 l1_20.length c1_20, .slice A1_21 l1_21.length c1_21, .slice A1_22 l1_22.length c1_22, .int .i64 a1_23, .bool a1_24, .int .i64 a1_25, .int .i64 a1_26, .int .i64 a1_27, .slice A1_28 l1_28.length c1_28, .int .i64 a1_29, .string a1_30, .string a1_31], .bool a3] rfl (by (try simp only [List.map_toArray, List.map_cons, List.map_nil]); first | done | rfl | (simp only [List.length_drop, List.length_take]; rfl)) ?_; (with_reducible refine (orchestratorref57_Isolated.calls k _ _ _ _ _ _ _ _ _ _ _ _ _ _ _ _ _ _ _ _ _ _ _ _ _ _ _ _ _ _ _ _ _ _ _ _ _ _ _ _ _ _ _ _ _ _ _ _ _ _ _ _ _ _ _ _ _ _ _ _ ?side1 ?side2 ?side3 ?side4 ?side5 ?side6 ?side7 ?side8 ?side9 ?side10 ?side11 ?side12 ?side13 ?side14 ?side15 ?side16 ?side17 ?side18 ?side19 ?side20 ?side21 ?side22 ?side23 ?side24 A6.out).mono ?_); (case side1 => exact s_D HR0.out HB.out); (case side2 => exact HC0.out); (case side3 => exact s_D HR1_9.out HB.out); (case side4 => exact HC1_9.out); (case side5 => exact s_D HR1_10.out HB.out); (case side6 => exact HC1_10.out); (case side7 => exact s_D HR1_11.out HB.out); (case side8 => exact HC1_11.out); (case side9 => exact s_D HR1_12.out HB.out); (case side10 => exact HC1_12.out); (case side11 => exact s_D HR1_17.out HB.out); (case side12 => exact HC1_17.out); (case side13 => exact s_D HR1_18.out HB.out); (case side14 => exact HC1_18.out); (case side15 => exact s_D HR1_19.out HB.out); (case side16 => exact HC1_19.out); (case side17 => exact s_D HR1_20.out HB.out); (case side18 => exact HC1_20.out); (case side19 => exact s_D HR1_21.out HB.out); (case side20 => exact HC1_21.out); (case side21 => exact s_D HR1_22.out HB.out); (case side22 => exact HC1_22.out); (case side23 => exact s_D HR1_28.out HB.out); (case side24 => exact HC1_28.out); rintro e w10 ⟨rfl, hb⟩; refine ⟨_, rfl, ?_⟩; replace BK464 := s_a (blk_below (s_k BK464.out) hb); replace BK465 := s_a (blk_below (s_k BK465.out) hb); replace HB := s_a (below_step (by exact s_b HB.out) hb); (try clear hb)))
  go_loopg [11] k (fun kq v11 w' => ∃ (x11_1 : Int), v11 = .int .i64 x11_1 ∧ Aside0 (orchestratorref57_open.l0 kq l0 a3 a4 x11_1 a1_0 a1_1 a1_2 a1_3 a1_4 a1_5 a1_6 a1_7 a1_8 l1_9 l1_10 l1_11 l1_12 a1_13 a1_14 a1_15 a1_16 l1_17 l1_18 l1_19 l1_20 l1_21 l1_22 a1_23 a1_24 a1_25 a1_26 a1_27 l1_28 a1_29 a1_30 a1_31 a2_0 a2_1 a2_2 a2_3 a2_4 a2_5 a2_6 a2_7 a2_8 l2_9 l2_10 l2_11 l2_12 a2_13 a2_14 a2_15 a2_16 l2_17 l2_18 l2_19 l2_20 l2_21 l2_22 a2_23 a2_24 a2_25 a2_26 a2_27 l2_28 a2_29 a2_30 a2_31 = some r) ∧ Aside0 (kq ≤ k) ∧ Aside0 (w'.heap[gb464]? = some (.cells #[.string a1_0, .string a1_1, .string a1_2, .int .i64 a1_3, .int .i64 a1_4, .int .i64 a1_5, .int .i64 a1_6, .bool a1_7, .int .i64 a1_8, (.slice A1_9 l1_9.length c1_9), (.slice A1_10 l1_10.length c1_10), (.slice A1_11 l1_11.length c1_11), (.slice A1_12 l1_12.length c1_12), .string a1_13, .int .i64 a1_14, .int .i64 a1_15, .int .i64 a1_16, (.slice A1_17 l1_17.length c1_17), (.slice A1_18 l1_18.length c1_18), (.slice A1_19 l1_19.length c1_19), (.slice A1_20 l1_20.length c1_20), (.slice A1_21 l1_21.length c1_21), (.slice A1_22 l1_22.length c1_22), .int .i64 a1_23, .bool a1_24, .int .i64 a1_25, .int .i64 a1_26, .int .i64 a1_27, (.slice A1_28 l1_28.length c1_28), .int .i64 a1_29, .string a1_30, .string a1_31] 41 (0, 0))) ∧ Aside0 (w'.heap[gb465]? = some (.cells #[.string a2_0, .string a2_1, .string a2_2, .int .i64 a2_3, .int .i64 a2_4, .int .i64 a2_5, .int .i64 a2_6, .bool a2_7, .int .i64 a2_8, (.slice A2_9 l2_9.length c2_9), (.slice A2_10 l2_10.length c2_10), (.slice A2_11 l2_11.length c2_11), (.slice A2_12 l2_12.length c2_12), .string a2_13, .int .i64 a2_14, .int .i64 a2_15, .int .i64 a2_16, (.slice A2_17 l2_17.length c2_17), (.slice A2_18 l2_18.length c2_18), (.slice A2_19 l2_19.length c2_19), (.slice A2_20 l2_20.length c2_20), (.slice A2_21 l2_21.length c2_21), (.slice A2_22 l2_22.length c2_22), .int .i64 a2_23, .bool a2_24, .int .i64 a2_25, .int .i64 a2_26, .int .i64 a2_27, (.slice A2_28 l2_28.length c2_28), .int .i64 a2_29, .string a2_30, .string a2_31] 41 (0, 0))) ∧ Aside0 (Below w.heap.size w w'))
  case atStart => exact ⟨(0), (by first | rfl | (simp; done) | (simp [*]; done)), H', ⟨Nat.le_refl _⟩, ⟨by exact s_k BK464.out⟩, ⟨by exact s_k BK465.out⟩, ⟨by exact s_b HB.out⟩⟩
  case round =>
   clear H'
   try clear c1
   try clear c2
   try clear p2
   try clear c7
   try clear c10
   obtain ⟨x11_1, rfl, HA, HK1, BK464, BK465, HB⟩ := hrel
   cases gk with
   | zero => exact absurd HA.out (by simp [orchestratorref57_open.l0])
   | succ k1 =>
    have H := HA.out
    clear HA
    simp only [orchestratorref57_open.l0] at H
    by_cases c11 : x11_1 < (l0.length : Int)
    ·rw [if_pos c11] at H
     have c11b0 : decide (x11_1 < (l0.length : Int)) = true := decide_eq_true c11
     clear c11
     by_cases c12 : 0 ≤ x11_1
     ·rw [if_pos c12] at H
      have c12b0 : decide (0 ≤ x11_1) = true := decide_eq_true c12
      clear c12
      replace H := Option.bind_eq_some_iff.mp H
      obtain ⟨t468, A130, H⟩ := H
      (try dsimp only at H)
      have A13 := s_a A130
      clear A130
      by_cases c14 : t468 = true
      ·subst c14
       (try rw [if_pos rfl] at H)
       have H' := s_a H
       clear H
       try go_wp2
       replace BK464 := s_a (blk_drew BK464.out)
       replace BK465 := s_a (blk_drew BK465.out)
       replace HB := s_a (below_drew1 HB.out)
       have p467 : 0 ≤ (x11_1 : Int) := of_decide_eq_true (by first | (with_reducible assumption) | assumption)
       have q467 : x11_1 < (l0.length : Int) := of_decide_eq_true (by first | (with_reducible assumption) | assumption)
       obtain ⟨ad467, A467_9, c467_9, A467_10, c467_10, A467_11, c467_11, A467_12, c467_12, A467_13, c467_13, A467_16, c467_16, e467, hx467_0, hx467_1, hx467_2, hx467_3, hx467_4, hx467_5, hx467_6, hx467_7, hx467_8, hx467_9, hx467_10, hx467_11, hx467_12, hx467_13, hx467_14, hx467_15, hx467_16, hl467_9, hi467_9, hl467_10, hi467_10, hl467_11, hi467_11, hl467_12, hi467_12, hl467_13, hi467_13, hl467_16, hi467_16⟩ := at_T54 HR0.out x11_1 p467 q467
       have hw467_16 := hx467_16
       have hw467_15 := hx467_15
       have hw467_14 := hx467_14
       have hw467_13 := hx467_13
       have hw467_12 := hx467_12
       have hw467_11 := hx467_11
       have hw467_10 := hx467_10
       have hw467_9 := hx467_9
       have hw467_8 := hx467_8
       have hw467_7 := hx467_7
       have hw467_6 := hx467_6
       have hw467_5 := hx467_5
       have hw467_4 := hx467_4
       have hw467_3 := hx467_3
       have hw467_2 := hx467_2
       have hw467_1 := hx467_1
       have hw467_0 := hx467_0
       cases e467
       replace hx467_0 := s_m HB.out hx467_0
       replace hx467_1 := s_m HB.out hx467_1
       replace hx467_2 := s_m HB.out hx467_2
       replace hx467_3 := s_m HB.out hx467_3
       replace hx467_4 := s_m HB.out hx467_4
       replace hx467_5 := s_m HB.out hx467_5
       replace hx467_6 := s_m HB.out hx467_6
       replace hx467_7 := s_m HB.out hx467_7
       replace hx467_8 := s_m HB.out hx467_8
       replace hx467_9 := s_m HB.out hx467_9
       replace hx467_10 := s_m HB.out hx467_10
       replace hx467_11 := s_m HB.out hx467_11
       replace hx467_12 := s_m HB.out hx467_12
       replace hx467_13 := s_m HB.out hx467_13
       replace hx467_14 := s_m HB.out hx467_14
       replace hx467_15 := s_m HB.out hx467_15
       replace hx467_16 := s_m HB.out hx467_16
       have HR467_9 := s_a hi467_9
       have HC467_9 := s_a hl467_9
       clear hi467_9 hl467_9
       have HR467_10 := s_a hi467_10
       have HC467_10 := s_a hl467_10
       clear hi467_10 hl467_10
       have HR467_11 := s_a hi467_11
       have HC467_11 := s_a hl467_11
       clear hi467_11 hl467_11
       have HR467_12 := s_a hi467_12
       have HC467_12 := s_a hl467_12
       clear hi467_12 hl467_12
       have HR467_13 := s_a hi467_13
       have HC467_13 := s_a hl467_13
       clear hi467_13 hl467_13
       have HR467_16 := s_a hi467_16
       have HC467_16 := s_a hl467_16
       clear hi467_16 hl467_16
       replace p467 := eq_true p467
       replace q467 := eq_true q467
       refine start_ (n := 8) (S := fun w' => w'.cell? ⟨gb464, 0, none⟩ = some (.string a1_0) ∧ w'.cell? ⟨gb464, 1, none⟩ = some (.string a1_1) ∧ w'.cell? ⟨gb464, 2, none⟩ = some (.string a1_2) ∧ w'.cell? ⟨gb464, 3, none⟩ = some (.int .i64 a1_3) ∧ w'.cell? ⟨gb464, 4, none⟩ = some (.int .i64 a1_4) ∧ w'.cell? ⟨gb464, 5, none⟩ = some (.int .i64 a1_5) ∧ w'.cell? ⟨gb464, 6, none⟩ = some (.int .i64 a1_6) ∧ w'.cell? ⟨gb464, 7, none⟩ = some (.bool a1_7) ∧ w'.cell? ⟨gb464, 8, none⟩ = some (.int .i64 a1_8) ∧ w'.cell? ⟨gb464, 9, none⟩ = some (.slice A1_9 l1_9.length c1_9) ∧ w'.cell? ⟨gb464, 10, none⟩ = some (.slice A1_10 l1_10.length c1_10) ∧ w'.cell? ⟨gb464, 11, none⟩ = some (.slice A1_11 l1_11.length c1_11) ∧ w'.cell? ⟨gb464, 12, none⟩ = some (.slice A1_12 l1_12.length c1_12) ∧ w'.cell? ⟨gb464, 13, none⟩ = some (.string a1_13) ∧ w'.cell? ⟨gb464, 14, none⟩ = some (.int .i64 a1_14) ∧ w'.cell? ⟨gb464, 15, none⟩ = some (.int .i64 a1_15) ∧ w'.cell? ⟨gb464, 16, none⟩ = some (.int .i64 a1_16) ∧ w'.cell? ⟨gb464, 17, none⟩ = some (.slice A1_17 l1_17.length c1_17) ∧ w'.cell? ⟨gb464, 18, none⟩ = some (.slice A1_18 l1_18.length c1_18) ∧ w'.cell? ⟨gb464, 19, none⟩ = some (.slice A1_19 l1_19.length c1_19) ∧ w'.cell? ⟨gb464, 20, none⟩ = some (.slice A1_20 l1_20.length c1_20) ∧ w'.cell? ⟨gb464, 21, none⟩ = some (.slice A1_21 l1_21.length c1_21) ∧ w'.cell? ⟨gb464, 22, none⟩ = some (.slice A1_22 l1_22.length c1_22) ∧ w'.cell? ⟨gb464, 23, none⟩ = some (.int .i64 a1_23) ∧ w'.cell? ⟨gb464, 24, none⟩ = some (.bool a1_24) ∧ w'.cell? ⟨gb464, 25, none⟩ = some (.int .i64 a1_25) ∧ w'.cell? ⟨gb464, 26, none⟩ = some (.int .i64 a1_26) ∧ w'.cell? ⟨gb464, 27, none⟩ = some (.int .i64 a1_27) ∧ w'.cell? ⟨gb464, 28, none⟩ = some (.slice A1_28 l1_28.length c1_28) ∧ w'.cell? ⟨gb464, 29, none⟩ = some (.int .i64 a1_29) ∧ w'.cell? ⟨gb464, 30, none⟩ = some (.string a1_30) ∧ w'.cell? ⟨gb464, 31, none⟩ = some (.string a1_31) ∧ w'.cell? (ad467.add ((x11_1).toNat * 17)) = some (.string ((rd_T54 l0 x11_1).f0.f0)) ∧ w'.cell? ⟨(ad467.add ((x11_1).toNat * 17)).block, (ad467.add ((x11_1).toNat * 17)).off + 1, none⟩ = some (.string ((rd_T54 l0 x11_1).f0.f1)) ∧ w'.cell? ⟨(ad467.add ((x11_1).toNat * 17)).block, (ad467.add ((x11_1).toNat * 17)).off + 2, none⟩ = some (.string ((rd_T54 l0 x11_1).f0.f2)) ∧ w'.cell? ⟨(ad467.add ((x11_1).toNat * 17)).block, (ad467.add ((x11_1).toNat * 17)).off + 3, none⟩ = some (.int .i64 ((rd_T54 l0 x11_1).f0.f3)) ∧ w'.cell? ⟨(ad467.add ((x11_1).toNat * 17)).block, (ad467.add ((x11_1).toNat * 17)).off + 4, none⟩ = some (.int .i64 ((rd_T54 l0 x11_1).f0.f4)) ∧ w'.cell? ⟨(ad467.add ((x11_1).toNat * 17)).block, (ad467.add ((x11_1).toNat * 17)).off + 5, none⟩ = some (.int .i64 ((rd_T54 l0 x11_1).f0.f5)) ∧ w'.cell? ⟨(ad467.add ((x11_1).toNat * 17)).block, (ad467.add ((x11_1).toNat * 17)).off + 6, none⟩ = some (.int .i64 ((rd_T54 l0 x11_1).f0.f6)) ∧ w'.cell? ⟨(ad467.add ((x11_1).toNat * 17)).block, (ad467.add ((x11_1).toNat * 17)).off + 7, none⟩ = some (.bool ((rd_T54 l0 x11_1).f0.f7)) ∧ w'.cell? ⟨(ad467.add ((x11_1).toNat * 17)).block, (ad467.add ((x11_1).toNat * 17)).off + 8, none⟩ = some (.int .i64 ((rd_T54 l0 x11_1).f0.f8)) ∧ w'.cell? ⟨(ad467.add ((x11_1).toNat * 17)).block, (ad467.add ((x11_1).toNat * 17)).off + 9, none⟩ = some (.slice A467_9 ((rd_T54 l0 x11_1).f0.f9).length c467_9) ∧ w'.cell? ⟨(ad467.add ((x11_1).toNat * 17)).block, (ad467.add ((x11_1).toNat * 17)).off + 10, none⟩ = some (.slice A467_10 ((rd_T54 l0 x11_1).f0.f10).length c467_10) ∧ w'.cell? ⟨(ad467.add ((x11_1).toNat * 17)).block, (ad467.add ((x11_1).toNat * 17)).off + 11, none⟩ = some (.slice A467_11 ((rd_T54 l0 x11_1).f0.f11).length c467_11) ∧ w'.cell? ⟨(ad467.add ((x11_1).toNat * 17)).block, (ad467.add ((x11_1).toNat * 17)).off + 12, none⟩ = some (.slice A467_12 ((rd_T54 l0 x11_1).f0.f12).length c467_12) ∧ w'.cell? ⟨(ad467.add ((x11_1).toNat * 17)).block, (ad467.add ((x11_1).toNat * 17)).off + 13, none⟩ = some (.slice A467_13 ((rd_T54 l0 x11_1).f1).length c467_13) ∧ w'.cell? ⟨(ad467.add ((x11_1).toNat * 17)).block, (ad467.add ((x11_1).toNat * 17)).off + 14, none⟩ = some (.bool ((rd_T54 l0 x11_1).f2)) ∧ w'.cell? ⟨(ad467.add ((x11_1).toNat * 17)).block, (ad467.add ((x11_1).toNat * 17)).off + 15, none⟩ = some (.bool ((rd_T54 l0 x11_1).f3)) ∧ w'.cell? ⟨(ad467.add ((x11_1).toNat * 17)).block, (ad467.add ((x11_1).toNat * 17)).off + 16, none⟩ = some (.slice A467_16 ((rd_T54 l0 x11_1).f4).length c467_16)) (ds := []) (bz 8 0) (by kernel_rfl) rfl rfl ⟨s_x BK464.out 0, s_x BK464.out 1, s_x BK464.out 2, s_x BK464.out 3, s_x BK464.out 4, s_x BK464.out 5, s_x BK464.out 6, s_x BK464.out 7, s_x BK464.out 8, s_x BK464.out 9, s_x BK464.out 10, s_x BK464.out 11, s_x BK464.out 12, s_x BK464.out 13, s_x BK464.out 14, s_x BK464.out 15, s_x BK464.out 16, s_x BK464.out 17, s_x BK464.out 18, s_x BK464.out 19, s_x BK464.out 20, s_x BK464.out 21, s_x BK464.out 22, s_x BK464.out 23, s_x BK464.out 24, s_x BK464.out 25, s_x BK464.out 26, s_x BK464.out 27, s_x BK464.out 28, s_x BK464.out 29, s_x BK464.out 30, s_x BK464.out 31, (s_m HB.out hw467_0), (s_m HB.out hw467_1), (s_m HB.out hw467_2), (s_m HB.out hw467_3), (s_m HB.out hw467_4), (s_m HB.out hw467_5), (s_m HB.out hw467_6), (s_m HB.out hw467_7), (s_m HB.out hw467_8), (s_m HB.out hw467_9), (s_m HB.out hw467_10), (s_m HB.out hw467_11), (s_m HB.out hw467_12), (s_m HB.out hw467_13), (s_m HB.out hw467_14), (s_m HB.out hw467_15), (s_m HB.out hw467_16)⟩ (fun hHeld => ?_); refine with_tabW orchestratorref57_open.tab6 orchestratorref57_open.bits6 (fun HT_ HW_ => ?_)
       generalize wr.drew = w15 at BK464 BK465 HB HR467_10 HR467_11 HR467_12 HR467_13 HR467_16 HR467_9 hx467_0 hx467_1 hx467_10 hx467_11 hx467_12 hx467_13 hx467_14 hx467_15 hx467_16 hx467_2 hx467_3 hx467_4 hx467_5 hx467_6 hx467_7 hx467_8 hx467_9 hHeld ⊢
       refine q_p 0 (some 25) (bz 8 1) (any_of HT_.out (by kernel_rfl)) (v := ?_) ?_ (a' := ?_) ?_ ?_; rotate_left 2
       ·intro w'; go_simp; with_reducible rfl
       ·simp only [Act.put, List.setIfInBounds_toArray, List.set_cons_zero, List.set_cons_succ, i64_w, i32_w]; rfl
       refine q_p 1 (some 26) (bz 8 3) (any_of HT_.out (by kernel_rfl)) (v := ?_) ?_ (a' := ?_) ?_ ?_; rotate_left 2
       ·intro w'; go_simp; with_reducible rfl
       ·simp only [Act.put, List.setIfInBounds_toArray, List.set_cons_zero, List.set_cons_succ, i64_w, i32_w]; rfl
       refine q_p 2 (some 27) (bz 8 7) (any_of HT_.out (by kernel_rfl)) (v := ?_) ?_ (a' := ?_) ?_ ?_; rotate_left 2
       ·intro w'; go_simp; with_reducible rfl
       ·simp only [Act.put, List.setIfInBounds_toArray, List.set_cons_zero, List.set_cons_succ, i64_w, i32_w]; rfl
       refine q_p 5 (some 30) (bz 8 39) (any_of HT_.out (by kernel_rfl)) (v := ?_) ?_ (a' := ?_) ?_ ?_; rotate_left 2
       ·intro w'; go_simp; with_reducible rfl
       ·simp only [Act.put, List.setIfInBounds_toArray, List.set_cons_zero, List.set_cons_succ, i64_w, i32_w]; rfl
       refine q_t 3 (some 28) (bz 8 47) (take_ofW HT_.out HW_.out (by kernel_rfl)) hHeld (v := ?_) ?_ (a' := ?_) ?_ ?_; rotate_left 2
       ·rintro w' ⟨s0, s1, s2, s3, s4, s5, s6, s7, s8, s9, s10, s11, s12, s13, s14, s15, s16, s17, s18, s19, s20, s21, s22, s23, s24, s25, s26, s27, s28, s29, s30, s31, s32, s33, s34, s35, s36, s37, s38, s39, s40, s41, s42, s43, s44, s45, s46, s47, s48⟩; (refine (s_ld rfl 54 (.tmp 27) ?_ _ ?_ _ _ (cells_at s32 (s_cc s33 (s_cc s34 (s_cc s35 (s_cc s36 (s_cc s37 (s_cc s38 (s_cc s39 (s_cc s40 (s_cc s41 (s_cc s42 (s_cc s43 (s_cc s44 (s_cc s45 (s_cc s46 (s_cc s47 (s_cc s48 s_cn))))))))))))))))) Try.underlying54 (by rfl) sz54).trans ?_ <;> first | (with_reducible rfl) | rfl)
       ·simp only [Act.put, List.setIfInBounds_toArray, List.set_cons_zero, List.set_cons_succ, i64_w, i32_w]; rfl
       refine q_t 4 (some 29) (bz 8 63) (take_ofW HT_.out HW_.out (by kernel_rfl)) hHeld (v := ?_) ?_ (a' := ?_) ?_ ?_; rotate_left 2
       ·rintro w' ⟨s0, s1, s2, s3, s4, s5, s6, s7, s8, s9, s10, s11, s12, s13, s14, s15, s16, s17, s18, s19, s20, s21, s22, s23, s24, s25, s26, s27, s28, s29, s30, s31, s32, s33, s34, s35, s36, s37, s38, s39, s40, s41, s42, s43, s44, s45, s46, s47, s48⟩; (refine (s_ld rfl 41 (.tmp 6) ?_ _ ?_ _ _ (cells_at s0 (s_cc s1 (s_cc s2 (s_cc s3 (s_cc s4 (s_cc s5 (s_cc s6 (s_cc s7 (s_cc s8 (s_cc s9 (s_cc s10 (s_cc s11 (s_cc s12 (s_cc s13 (s_cc s14 (s_cc s15 (s_cc s16 (s_cc s17 (s_cc s18 (s_cc s19 (s_cc s20 (s_cc s21 (s_cc s22 (s_cc s23 (s_cc s24 (s_cc s25 (s_cc s26 (s_cc s27 (s_cc s28 (s_cc s29 (s_cc s30 (s_cc s31 s_cn)))))))))))))))))))))))))))))))) Try.underlying41 (by rfl) sz41).trans ?_ <;> first | (with_reducible rfl) | rfl)
       ·simp only [Act.put, List.setIfInBounds_toArray, List.set_cons_zero, List.set_cons_succ, i64_w, i32_w]; rfl
       refine one_ (i := 6) (N := some 31) (bz 8 127) rfl rfl (one_of HT_.out (by kernel_rfl)) (by decide) (fun K hK => ?_)
       refine goes_ Try.func21 (by kernel_rfl) rfl #[.agg #[.string ((rd_T54 l0 x11_1).f0.f0), .string ((rd_T54 l0 x11_1).f0.f1), .string ((rd_T54 l0 x11_1).f0.f2), .int .i64 ((rd_T54 l0 x11_1).f0.f3), .int .i64 ((rd_T54 l0 x11_1).f0.f4), .int .i64 ((rd_T54 l0 x11_1).f0.f5), .int .i64 ((rd_T54 l0 x11_1).f0.f6), .bool ((rd_T54 l0 x11_1).f0.f7), .int .i64 ((rd_T54 l0 x11_1).f0.f8), .slice A467_9 ((rd_T54 l0 x11_1).f0.f9).length c467_9, .slice A467_10 ((rd_T54 l0 x11_1).f0.f10).length c467_10, .slice A467_11 ((rd_T54 l0 x11_1).f0.f11).length c467_11, .slice A467_12 ((rd_T54 l0 x11_1).f0.f12).length c467_12, .slice A467_13 ((rd_T54 l0 x11_1).f1).length c467_13, .bool ((rd_T54 l0 x11_1).f2), .bool ((rd_T54 l0 x11_1).f3), .slice A467_16 ((rd_T54 l0 x11_1).f4).length c467_16], .agg #[.string a1_0, .string a1_1, .string a1_2, .int .i64 a1_3, .int .i64 a1_4, .int .i64 a1_5, .int .i64 a1_6, .bool a1_7, .int .i64 a1_8, .slice A1_9 l1_9.length c1_9, .slice A1_10 l1_10.length c1_10, .slice A1_11 l1_11.length c1_11, .slice A1_12 l1_12.length c1_12, .string a1_13, .int .i64 a1_14, .int .i64 a1_15, .int .i64 a1_16, .slice A1_17 l1_17.length c1_17, .slice A1_18 l1_18.length c1_18, .slice A1_19 l1_19.length c1_19, .slice A1_20 l1_20.length c1_20, .slice A1_21 l1_21.length c1_21, .slice A1_22 l1_22.length c1_22, .int .i64 a1_23, .bool a1_24, .int .i64 a1_25, .int .i64 a1_26, .int .i64 a1_27, .slice A1_28 l1_28.length c1_28, .int .i64 a1_29, .string a1_30, .string a1_31], .bool a3] (by rfl) rfl rfl (by (try simp only [List.map_toArray, List.map_cons, List.map_nil]); first | done | rfl | (simp only [List.length_drop, List.length_take]; rfl)) ?_
       with_reducible refine (orchestratorref57_isolates.calls k1 _ _ _ _ _ _ _ _ _ _ _ _ _ _ _ _ _ _ _ _ _ _ _ _ _ _ _ _ _ _ _ _ _ _ _ _ _ _ _ _ _ _ _ _ _ _ _ _ _ _ _ _ _ _ _ _ _ _ _ _ _ _ _ _ _ _ _ _ _ _ _ _ _ _ _ _ _ _ _ _ _ _ _ _ _ _ ?side1 ?side2 ?side3 ?side4 ?side5 ?side6 ?side7 ?side8 ?side9 ?side10 ?side11 ?side12 ?side13 ?side14 ?side15 ?side16 ?side17 ?side18 ?side19 ?side20 ?side21 ?side22 ?side23 ?side24 ?side25 ?side26 ?side27 ?side28 ?side29 ?side30 ?side31 ?side32 ?side33 ?side34 A13.out).mono ?_
       (case side1 => exact s_D HR467_9.out HB.out)
       (case side2 => exact HC467_9.out)
       (case side3 => exact s_D HR467_10.out HB.out)
       (case side4 => exact HC467_10.out)
       (case side5 => exact s_D HR467_11.out HB.out)
       (case side6 => exact HC467_11.out)
       (case side7 => exact s_D HR467_12.out HB.out)
       (case side8 => exact HC467_12.out)
       (case side9 => exact s_D HR467_13.out HB.out)
       (case side10 => exact HC467_13.out)
       (case side11 => exact s_D HR467_16.out HB.out)
       (case side12 => exact HC467_16.out)
       (case side13 => exact s_D HR1_9.out HB.out)
       (case side14 => exact HC1_9.out)
       (case side15 => exact s_D HR1_10.out HB.out)
       (case side16 => exact HC1_10.out)
       (case side17 => exact s_D HR1_11.out HB.out)
       (case side18 => exact HC1_11.out)
       (case side19 => exact s_D HR1_12.out HB.out)
       (case side20 => exact HC1_12.out)
       (case side21 => exact s_D HR1_17.out HB.out)
       (case side22 => exact HC1_17.out)
       (case side23 => exact s_D HR1_18.out HB.out)
       (case side24 => exact HC1_18.out)
       (case side25 => exact s_D HR1_19.out HB.out)
       (case side26 => exact HC1_19.out)
       (case side27 => exact s_D HR1_20.out HB.out)
       (case side28 => exact HC1_20.out)
       (case side29 => exact s_D HR1_21.out HB.out)
       (case side30 => exact HC1_21.out)
       (case side31 => exact s_D HR1_22.out HB.out)
       (case side32 => exact HC1_22.out)
       (case side33 => exact s_D HR1_28.out HB.out)
       (case side34 => exact HC1_28.out)
       rintro e w16 ⟨rfl, hb⟩
       refine ⟨_, rfl, ?_⟩
       replace BK464 := s_a (blk_below (s_k BK464.out) hb)
       replace BK465 := s_a (blk_below (s_k BK465.out) hb)
       replace HB := s_a (below_step (by exact s_b HB.out) hb)
       (try clear hb)
       refine hK.out _ _ ⟨s_x BK464.out 0, s_x BK464.out 1, s_x BK464.out 2, s_x BK464.out 3, s_x BK464.out 4, s_x BK464.out 5, s_x BK464.out 6, s_x BK464.out 7, s_x BK464.out 8, s_x BK464.out 9, s_x BK464.out 10, s_x BK464.out 11, s_x BK464.out 12, s_x BK464.out 13, s_x BK464.out 14, s_x BK464.out 15, s_x BK464.out 16, s_x BK464.out 17, s_x BK464.out 18, s_x BK464.out 19, s_x BK464.out 20, s_x BK464.out 21, s_x BK464.out 22, s_x BK464.out 23, s_x BK464.out 24, s_x BK464.out 25, s_x BK464.out 26, s_x BK464.out 27, s_x BK464.out 28, s_x BK464.out 29, s_x BK464.out 30, s_x BK464.out 31, (s_m HB.out hw467_0), (s_m HB.out hw467_1), (s_m HB.out hw467_2), (s_m HB.out hw467_3), (s_m HB.out hw467_4), (s_m HB.out hw467_5), (s_m HB.out hw467_6), (s_m HB.out hw467_7), (s_m HB.out hw467_8), (s_m HB.out hw467_9), (s_m HB.out hw467_10), (s_m HB.out hw467_11), (s_m HB.out hw467_12), (s_m HB.out hw467_13), (s_m HB.out hw467_14), (s_m HB.out hw467_15), (s_m HB.out hw467_16)⟩ (fun hHeld => ?_)
       clear hK K
       refine norm_ (a' := ?_) ?_ ?_
       rotate_left
       ·show Act.put _ (some 31) _ = _
        simp only [Act.put, List.setIfInBounds_toArray, List.set_cons_zero, List.set_cons_succ, i64_w, i32_w]
        rfl
       refine q_p 7 (some 32) (bz 8 255) (any_of HT_.out (by kernel_rfl)) (v := ?_) ?_ (a' := ?_) ?_ ?_; rotate_left 2
       ·intro w'; go_simp; with_reducible rfl
       ·simp only [Act.put, List.setIfInBounds_toArray, List.set_cons_zero, List.set_cons_succ, i64_w, i32_w]; rfl
       refine done_ (done_of HT_.out (by kernel_rfl)) ?_
       try go_wp2
       go_loopg [12] k1 (fun kq v12 w' => ∃ (x12_2 : Int), v12 = .int .i64 x12_2 ∧ Aside0 (orchestratorref57_open.l1 kq l0 a3 a4 x11_1 x12_2 a1_0 a1_1 a1_2 a1_3 a1_4 a1_5 a1_6 a1_7 a1_8 l1_9 l1_10 l1_11 l1_12 a1_13 a1_14 a1_15 a1_16 l1_17 l1_18 l1_19 l1_20 l1_21 l1_22 a1_23 a1_24 a1_25 a1_26 a1_27 l1_28 a1_29 a1_30 a1_31 a2_0 a2_1 a2_2 a2_3 a2_4 a2_5 a2_6 a2_7 a2_8 l2_9 l2_10 l2_11 l2_12 a2_13 a2_14 a2_15 a2_16 l2_17 l2_18 l2_19 l2_20 l2_21 l2_22 a2_23 a2_24 a2_25 a2_26 a2_27 l2_28 a2_29 a2_30 a2_31 = some r) ∧ Aside0 (kq ≤ k1) ∧ Aside0 (w'.heap[gb464]? = some (.cells #[.string a1_0, .string a1_1, .string a1_2, .int .i64 a1_3, .int .i64 a1_4, .int .i64 a1_5, .int .i64 a1_6, .bool a1_7, .int .i64 a1_8, (.slice A1_9 l1_9.length c1_9), (.slice A1_10 l1_10.length c1_10), (.slice A1_11 l1_11.length c1_11), (.slice A1_12 l1_12.length c1_12), .string a1_13, .int .i64 a1_14, .int .i64 a1_15, .int .i64 a1_16, (.slice A1_17 l1_17.length c1_17), (.slice A1_18 l1_18.length c1_18), (.slice A1_19 l1_19.length c1_19), (.slice A1_20 l1_20.length c1_20), (.slice A1_21 l1_21.length c1_21), (.slice A1_22 l1_22.length c1_22), .int .i64 a1_23, .bool a1_24, .int .i64 a1_25, .int .i64 a1_26, .int .i64 a1_27, (.slice A1_28 l1_28.length c1_28), .int .i64 a1_29, .string a1_30, .string a1_31] 41 (0, 0))) ∧ Aside0 (w'.heap[gb465]? = some (.cells #[.string a2_0, .string a2_1, .string a2_2, .int .i64 a2_3, .int .i64 a2_4, .int .i64 a2_5, .int .i64 a2_6, .bool a2_7, .int .i64 a2_8, (.slice A2_9 l2_9.length c2_9), (.slice A2_10 l2_10.length c2_10), (.slice A2_11 l2_11.length c2_11), (.slice A2_12 l2_12.length c2_12), .string a2_13, .int .i64 a2_14, .int .i64 a2_15, .int .i64 a2_16, (.slice A2_17 l2_17.length c2_17), (.slice A2_18 l2_18.length c2_18), (.slice A2_19 l2_19.length c2_19), (.slice A2_20 l2_20.length c2_20), (.slice A2_21 l2_21.length c2_21), (.slice A2_22 l2_22.length c2_22), .int .i64 a2_23, .bool a2_24, .int .i64 a2_25, .int .i64 a2_26, .int .i64 a2_27, (.slice A2_28 l2_28.length c2_28), .int .i64 a2_29, .string a2_30, .string a2_31] 41 (0, 0))) ∧ Aside0 (Below w.heap.size w w'))
       case atStart => exact ⟨(0), (by first | rfl | (simp; done) | (simp [*]; done)), H', ⟨Nat.le_refl _⟩, ⟨by exact s_k BK464.out⟩, ⟨by exact s_k BK465.out⟩, ⟨by exact s_b HB.out⟩⟩
       case round =>
        clear H'
        try clear c1
        try clear c2
        try clear p2
        try clear c4
        try clear p4
        try clear q4
        try clear hx4
        try clear c7
        try clear c10
        try clear c11
        try clear c11b0
        try clear c12
        try clear c12b0
        try clear c14
        try clear hx467_0
        try clear hx467_1
        try clear hx467_10
        try clear hx467_11
        try clear hx467_12
        try clear hx467_13
        try clear hx467_14
        try clear hx467_15
        try clear hx467_16
        try clear hx467_2
        try clear hx467_3
        try clear hx467_4
        try clear hx467_5
        try clear hx467_6
        try clear hx467_7
        try clear hx467_8
        try clear hx467_9
        try clear p2
        try clear p467
        try clear q467
        obtain ⟨x12_2, rfl, HA, HK2, BK464, BK465, HB⟩ := hrel
        cases gk with
        | zero => exact absurd HA.out (by simp [orchestratorref57_open.l1])
        | succ k2 =>
         have H := HA.out
         clear HA
         simp only [orchestratorref57_open.l1] at H
         by_cases c17 : 0 ≤ x11_1
         ·rw [if_pos c17] at H
          have c17b0 : decide (0 ≤ x11_1) = true := decide_eq_true c17
          clear c17
          by_cases c18 : x11_1 < (l0.length : Int)
          ·rw [if_pos c18] at H
           have c18b0 : decide (x11_1 < (l0.length : Int)) = true := decide_eq_true c18
           clear c18
           by_cases c19 : x12_2 < (((rd_T54 l0 x11_1).f4).length : Int)
           ·rw [if_pos c19] at H
            have c19b0 : decide (x12_2 < (((rd_T54 l0 x11_1).f4).length : Int)) = true := decide_eq_true c19
            clear c19
            by_cases c20 : 0 ≤ x12_2
            ·rw [if_pos c20] at H
             have c20b0 : decide (0 ≤ x12_2) = true := decide_eq_true c20
             clear c20
             by_cases c21 : (((rd_T58 ((rd_T54 l0 x11_1).f4) x12_2).f0) == a3) = true
             ·rw [if_pos c21] at H
              have c21b0 : (((rd_T58 ((rd_T54 l0 x11_1).f4) x12_2).f0) == a3) = true := c21
              (try (have c21b1 : decide (((rd_T58 ((rd_T54 l0 x11_1).f4) x12_2).f0) = a3) = true := by simpa using c21))
              (try (have c21b2 : (((rd_T58 ((rd_T54 l0 x11_1).f4) x12_2).f0) == a3) = true := by simpa using c21))
              clear c21
              replace H := Option.bind_eq_some_iff.mp H
              obtain ⟨t473, A220, H⟩ := H
              (try dsimp only at H)
              have A22 := s_a A220
              clear A220
              by_cases c23 : t473 = true
              ·subst c23
               (try rw [if_pos rfl] at H)
               replace H := Option.bind_eq_some_iff.mp H
               obtain ⟨t474, A240, H⟩ := H
               (try dsimp only at H)
               have A24 := s_a A240
               clear A240
               by_cases c25 : t474 = true
               ·subst c25
                (try rw [if_pos rfl] at H)
                obtain rfl := Option.some.inj H
                have p469 : 0 ≤ (x11_1 : Int) := of_decide_eq_true (by first | (with_reducible assumption) | assumption)
                have q469 : x11_1 < (l0.length : Int) := of_decide_eq_true (by first | (with_reducible assumption) | assumption)
                obtain ⟨ad469, A469_9, c469_9, A469_10, c469_10, A469_11, c469_11, A469_12, c469_12, A469_13, c469_13, A469_16, c469_16, e469, hx469_0, hx469_1, hx469_2, hx469_3, hx469_4, hx469_5, hx469_6, hx469_7, hx469_8, hx469_9, hx469_10, hx469_11, hx469_12, hx469_13, hx469_14, hx469_15, hx469_16, hl469_9, hi469_9, hl469_10, hi469_10, hl469_11, hi469_11, hl469_12, hi469_12, hl469_13, hi469_13, hl469_16, hi469_16⟩ := at_T54 HR0.out x11_1 p469 q469
                obtain rfl : ad467 = ad469 := (by injection e469)
                replace hx469_0 := s_m HB.out hx469_0
                replace hx469_1 := s_m HB.out hx469_1
                replace hx469_2 := s_m HB.out hx469_2
                replace hx469_3 := s_m HB.out hx469_3
                replace hx469_4 := s_m HB.out hx469_4
                replace hx469_5 := s_m HB.out hx469_5
                replace hx469_6 := s_m HB.out hx469_6
                replace hx469_7 := s_m HB.out hx469_7
                replace hx469_8 := s_m HB.out hx469_8
                replace hx469_9 := s_m HB.out hx469_9
                replace hx469_10 := s_m HB.out hx469_10
                replace hx469_11 := s_m HB.out hx469_11
                replace hx469_12 := s_m HB.out hx469_12
                replace hx469_13 := s_m HB.out hx469_13
                replace hx469_14 := s_m HB.out hx469_14
                replace hx469_15 := s_m HB.out hx469_15
                replace hx469_16 := s_m HB.out hx469_16
                have HR469_9 := s_a hi469_9
                have HC469_9 := s_a hl469_9
                clear hi469_9 hl469_9
                have HR469_10 := s_a hi469_10
                have HC469_10 := s_a hl469_10
                clear hi469_10 hl469_10
                have HR469_11 := s_a hi469_11
                have HC469_11 := s_a hl469_11
                clear hi469_11 hl469_11
                have HR469_12 := s_a hi469_12
                have HC469_12 := s_a hl469_12
                clear hi469_12 hl469_12
                have HR469_13 := s_a hi469_13
                have HC469_13 := s_a hl469_13
                clear hi469_13 hl469_13
                have HR469_16 := s_a hi469_16
                have HC469_16 := s_a hl469_16
                clear hi469_16 hl469_16
                replace p469 := eq_true p469
                replace q469 := eq_true q469
                have p470 : 0 ≤ (x11_1 : Int) := of_decide_eq_true (by first | (with_reducible assumption) | assumption)
                have q470 : x11_1 < (l0.length : Int) := of_decide_eq_true (by first | (with_reducible assumption) | assumption)
                obtain ⟨ad470, A470_9, c470_9, A470_10, c470_10, A470_11, c470_11, A470_12, c470_12, A470_13, c470_13, A470_16, c470_16, e470, hx470_0, hx470_1, hx470_2, hx470_3, hx470_4, hx470_5, hx470_6, hx470_7, hx470_8, hx470_9, hx470_10, hx470_11, hx470_12, hx470_13, hx470_14, hx470_15, hx470_16, hl470_9, hi470_9, hl470_10, hi470_10, hl470_11, hi470_11, hl470_12, hi470_12, hl470_13, hi470_13, hl470_16, hi470_16⟩ := at_T54 HR0.out x11_1 p470 q470
                obtain rfl : ad467 = ad470 := (by injection e470)
                replace hx470_0 := s_m HB.out hx470_0
                replace hx470_1 := s_m HB.out hx470_1
                replace hx470_2 := s_m HB.out hx470_2
                replace hx470_3 := s_m HB.out hx470_3
                replace hx470_4 := s_m HB.out hx470_4
                replace hx470_5 := s_m HB.out hx470_5
                replace hx470_6 := s_m HB.out hx470_6
                replace hx470_7 := s_m HB.out hx470_7
                replace hx470_8 := s_m HB.out hx470_8
                replace hx470_9 := s_m HB.out hx470_9
                replace hx470_10 := s_m HB.out hx470_10
                replace hx470_11 := s_m HB.out hx470_11
                replace hx470_12 := s_m HB.out hx470_12
                replace hx470_13 := s_m HB.out hx470_13
                replace hx470_14 := s_m HB.out hx470_14
                replace hx470_15 := s_m HB.out hx470_15
                replace hx470_16 := s_m HB.out hx470_16
                have HR470_9 := s_a hi470_9
                have HC470_9 := s_a hl470_9
                clear hi470_9 hl470_9
                have HR470_10 := s_a hi470_10
                have HC470_10 := s_a hl470_10
                clear hi470_10 hl470_10
                have HR470_11 := s_a hi470_11
                have HC470_11 := s_a hl470_11
                clear hi470_11 hl470_11
                have HR470_12 := s_a hi470_12
                have HC470_12 := s_a hl470_12
                clear hi470_12 hl470_12
                have HR470_13 := s_a hi470_13
                have HC470_13 := s_a hl470_13
                clear hi470_13 hl470_13
                have HR470_16 := s_a hi470_16
                have HC470_16 := s_a hl470_16
                clear hi470_16 hl470_16
                replace p470 := eq_true p470
                replace q470 := eq_true q470
                have ea_ := Option.some.inj (hx469_9.symm.trans hx470_9)
                injection ea_ with ea_ en_ ec_
                subst ea_
                subst ec_
                clear en_
                have ea_ := Option.some.inj (hx469_10.symm.trans hx470_10)
                injection ea_ with ea_ en_ ec_
                subst ea_
                subst ec_
                clear en_
                have ea_ := Option.some.inj (hx469_11.symm.trans hx470_11)
                injection ea_ with ea_ en_ ec_
                subst ea_
                subst ec_
                clear en_
                have ea_ := Option.some.inj (hx469_12.symm.trans hx470_12)
                injection ea_ with ea_ en_ ec_
                subst ea_
                subst ec_
                clear en_
                have ea_ := Option.some.inj (hx469_13.symm.trans hx470_13)
                injection ea_ with ea_ en_ ec_
                subst ea_
                subst ec_
                clear en_
                have ea_ := Option.some.inj (hx469_16.symm.trans hx470_16)
                injection ea_ with ea_ en_ ec_
                subst ea_
                subst ec_
                clear en_
                have p471 : 0 ≤ (x12_2 : Int) := of_decide_eq_true (by first | (with_reducible assumption) | assumption)
                have q471 : x12_2 < (((rd_T54 l0 x11_1).f4).length : Int) := of_decide_eq_true (by first | (with_reducible assumption) | assumption)
                obtain ⟨ad471, A471_1, c471_1, A471_2, c471_2, e471, hx471_0, hx471_1, hx471_2, hl471_1, hi471_1, hl471_2, hi471_2⟩ := at_T58 HR470_16.out x12_2 p471 q471
                cases e471
                replace hx471_0 := s_m HB.out hx471_0
                replace hx471_1 := s_m HB.out hx471_1
                replace hx471_2 := s_m HB.out hx471_2
                have HR471_1 := s_a hi471_1
                have HC471_1 := s_a hl471_1
                clear hi471_1 hl471_1
                have HR471_2 := s_a hi471_2
                have HC471_2 := s_a hl471_2
                clear hi471_2 hl471_2
                replace p471 := eq_true p471
                replace q471 := eq_true q471
                go_wp2_with (first | ((with_reducible refine gate_dst (N := 13) rfl ?_); refine box_event ?hg (N := 13) ?hd (cs := #[.bool false, .slice none 0 0, .slice none 0 0]) (t := 58) ?hr ?_; (case hd => rfl); (case hg => rfl); (case hr => first | (go_simp; done) | (go_simp; rfl)); intro gb472 hg w26 hbox hb; have BK472 := s_a (hbox); have GW472 := s_a ((by rw [hg]; exact (below_size (by exact s_b HB.out)) : w.heap.size ≤ gb472)); have GE472 := s_a ((by rw [hg]; exact (below_size (by exact s_b HB.out)) : w.heap.size ≤ gb472)); have NB464_472 := s_a ((by rw [hg]; exact Nat.ne_of_lt (blk_lt (s_k BK464.out)) : gb464 ≠ gb472)); have NB472_464 := s_a ((by rw [hg]; exact Nat.ne_of_gt (blk_lt (s_k BK464.out)) : gb472 ≠ gb464)); have NB465_472 := s_a ((by rw [hg]; exact Nat.ne_of_lt (blk_lt (s_k BK465.out)) : gb465 ≠ gb472)); have NB472_465 := s_a ((by rw [hg]; exact Nat.ne_of_gt (blk_lt (s_k BK465.out)) : gb472 ≠ gb465)); replace BK464 := s_a (blk_below (s_k BK464.out) hb); replace BK465 := s_a (blk_below (s_k BK465.out) hb); replace HB := s_a (below_step (by exact s_b HB.out) hb); clear hb hbox hg; have hnb27 := NB472_464.out; have hnc27 := NB464_472.out; have hnb28 := NB472_465.out; have hnc28 := NB465_472.out; obtain ⟨hcz29_0, hcz29_1, hcz29_2⟩ := cells58 BK472.out; have hfz29_0 := blk_frozen BK472.out 0; have hfz29_1 := blk_frozen BK472.out 1; have hfz29_2 := blk_frozen BK472.out 2) | ((with_reducible refine gate_store (t := 58) (p := 13) rfl ?_); refine store_all rfl 58 (.tmp 13) _ rfl gb472 #[.bool ((rd_T58 ((rd_T54 l0 x11_1).f4) x12_2).f0), .slice A471_1 ((rd_T58 ((rd_T54 l0 x11_1).f4) x12_2).f1).length c471_1, .slice A471_2 ((rd_T58 ((rd_T54 l0 x11_1).f4) x12_2).f2).length c471_2] rfl rfl 58 _ (s_k BK472.out) sz58 rfl (by first | rfl | simp [Value.oneCell']) rfl ?_; intro w30 hnb hgr; have n0_ := s_a (s_g HB.out hgr GE472.out); have n1_ := s_a (blk_grown (s_k BK464.out) hgr (some_ne NB464_472.out)); have n2_ := s_a (blk_grown (s_k BK465.out) hgr (some_ne NB465_472.out)); clear HB; clear BK464; clear BK465; have HB := n0_; have BK464 := n1_; have BK465 := n2_; clear n0_ n1_ n2_; replace BK472 := s_a (hnb); clear hnb hgr; obtain ⟨hcz31_0, hcz31_1, hcz31_2⟩ := cells58 BK472.out; have hfz31_0 := blk_frozen BK472.out 0; have hfz31_1 := blk_frozen BK472.out 1; have hfz31_2 := blk_frozen BK472.out 2) | ((with_reducible refine gate_dst (N := 58) rfl ?_); (try (refine gate_guard (by rfl) ?_; dsimp only)); refine wpList_load_row rfl 41 (.tmp 7) rfl gb465 rfl 41 _ (0, 0) _ (s_k BK465.out) Try.underlying41 rfl sz41 ?_) | (go_at_call 35; (with_reducible refine (orchestratorref57_peer.calls k2 _ _ _ _ _ _ _ _ _ _ _ _ _ _ _ _ _ _ _ _ _ _ _ _ _ _ _ _ _ _ _ _ _ _ _ _ _ _ _ _ _ _ _ _ _ _ _ _ _ _ _ _ _ _ _ _ _ _ _ ?side1 ?side2 ?side3 ?side4 ?side5 ?side6 ?side7 ?side8 ?side9 ?side10 ?side11 ?side12 ?side13 ?side14 ?side15 ?side16 ?side17 ?side18 ?side19 ?side20 ?side21 ?side22 ?side23 ?side24 A22.out).mono ?_); (case side1 => exact s_D HR471_1.out HB.out); (case side2 => exact HC471_1.out); (case side3 => exact s_D HR2_9.out HB.out); (case side4 => exact HC2_9.out); (case side5 => exact s_D HR2_10.out HB.out); (case side6 => exact HC2_10.out); (case side7 => exact s_D HR2_11.out HB.out); (case side8 => exact HC2_11.out); (case side9 => exact s_D HR2_12.out HB.out); (case side10 => exact HC2_12.out); (case side11 => exact s_D HR2_17.out HB.out); (case side12 => exact HC2_17.out); (case side13 => exact s_D HR2_18.out HB.out); (case side14 => exact HC2_18.out); (case side15 => exact s_D HR2_19.out HB.out); (case side16 => exact HC2_19.out); (case side17 => exact s_D HR2_20.out HB.out); (case side18 => exact HC2_20.out); (case side19 => exact s_D HR2_21.out HB.out); (case side20 => exact HC2_21.out); (case side21 => exact s_D HR2_22.out HB.out); (case side22 => exact HC2_22.out); (case side23 => exact s_D HR2_28.out HB.out); (case side24 => exact HC2_28.out); rintro e w32 ⟨rfl, hb⟩; (try clear A22); replace BK464 := s_a (blk_below (s_k BK464.out) hb); replace BK465 := s_a (blk_below (s_k BK465.out) hb); replace BK472 := s_a (blk_below (s_k BK472.out) hb); replace HB := s_a (below_step (by exact s_b HB.out) hb); (try clear hb); obtain ⟨hcz33_0, hcz33_1, hcz33_2⟩ := cells58 BK472.out; have hfz33_0 := blk_frozen BK472.out 0; have hfz33_1 := blk_frozen BK472.out 1; have hfz33_2 := blk_frozen BK472.out 2) | (go_at_call 36; (with_reducible refine (orchestratorref57_port.calls k2 _ _ _ _ _ _ ?side1 ?side2 A24.out).mono ?_); (case side1 => exact s_D HR471_2.out HB.out); (case side2 => exact HC471_2.out); rintro e w' ⟨rfl, ⟨nd, rfl⟩⟩))
                go_ret
                exact ⟨by first | rfl | (simp [errW_none, errW_some] <;> rfl) | (simp [*, errW_none, errW_some] <;> rfl), by exact s_b HB.out⟩
               ·replace c25 := Bool.eq_false_iff.mpr c25
                subst c25
                (try rw [if_neg (show ¬ (false = true) by decide)] at H)
                have H' := s_a H
                clear H
                have p469 : 0 ≤ (x11_1 : Int) := of_decide_eq_true (by first | (with_reducible assumption) | assumption)
                have q469 : x11_1 < (l0.length : Int) := of_decide_eq_true (by first | (with_reducible assumption) | assumption)
                obtain ⟨ad469, A469_9, c469_9, A469_10, c469_10, A469_11, c469_11, A469_12, c469_12, A469_13, c469_13, A469_16, c469_16, e469, hx469_0, hx469_1, hx469_2, hx469_3, hx469_4, hx469_5, hx469_6, hx469_7, hx469_8, hx469_9, hx469_10, hx469_11, hx469_12, hx469_13, hx469_14, hx469_15, hx469_16, hl469_9, hi469_9, hl469_10, hi469_10, hl469_11, hi469_11, hl469_12, hi469_12, hl469_13, hi469_13, hl469_16, hi469_16⟩ := at_T54 HR0.out x11_1 p469 q469
                obtain rfl : ad467 = ad469 := (by injection e469)
                replace hx469_0 := s_m HB.out hx469_0
                replace hx469_1 := s_m HB.out hx469_1
                replace hx469_2 := s_m HB.out hx469_2
                replace hx469_3 := s_m HB.out hx469_3
                replace hx469_4 := s_m HB.out hx469_4
                replace hx469_5 := s_m HB.out hx469_5
                replace hx469_6 := s_m HB.out hx469_6
                replace hx469_7 := s_m HB.out hx469_7
                replace hx469_8 := s_m HB.out hx469_8
                replace hx469_9 := s_m HB.out hx469_9
                replace hx469_10 := s_m HB.out hx469_10
                replace hx469_11 := s_m HB.out hx469_11
                replace hx469_12 := s_m HB.out hx469_12
                replace hx469_13 := s_m HB.out hx469_13
                replace hx469_14 := s_m HB.out hx469_14
                replace hx469_15 := s_m HB.out hx469_15
                replace hx469_16 := s_m HB.out hx469_16
                have HR469_9 := s_a hi469_9
                have HC469_9 := s_a hl469_9
                clear hi469_9 hl469_9
                have HR469_10 := s_a hi469_10
                have HC469_10 := s_a hl469_10
                clear hi469_10 hl469_10
                have HR469_11 := s_a hi469_11
                have HC469_11 := s_a hl469_11
                clear hi469_11 hl469_11
                have HR469_12 := s_a hi469_12
                have HC469_12 := s_a hl469_12
                clear hi469_12 hl469_12
                have HR469_13 := s_a hi469_13
                have HC469_13 := s_a hl469_13
                clear hi469_13 hl469_13
                have HR469_16 := s_a hi469_16
                have HC469_16 := s_a hl469_16
                clear hi469_16 hl469_16
                replace p469 := eq_true p469
                replace q469 := eq_true q469
                have p470 : 0 ≤ (x11_1 : Int) := of_decide_eq_true (by first | (with_reducible assumption) | assumption)
                have q470 : x11_1 < (l0.length : Int) := of_decide_eq_true (by first | (with_reducible assumption) | assumption)
                obtain ⟨ad470, A470_9, c470_9, A470_10, c470_10, A470_11, c470_11, A470_12, c470_12, A470_13, c470_13, A470_16, c470_16, e470, hx470_0, hx470_1, hx470_2, hx470_3, hx470_4, hx470_5, hx470_6, hx470_7, hx470_8, hx470_9, hx470_10, hx470_11, hx470_12, hx470_13, hx470_14, hx470_15, hx470_16, hl470_9, hi470_9, hl470_10, hi470_10, hl470_11, hi470_11, hl470_12, hi470_12, hl470_13, hi470_13, hl470_16, hi470_16⟩ := at_T54 HR0.out x11_1 p470 q470
                obtain rfl : ad467 = ad470 := (by injection e470)
                replace hx470_0 := s_m HB.out hx470_0
                replace hx470_1 := s_m HB.out hx470_1
                replace hx470_2 := s_m HB.out hx470_2
                replace hx470_3 := s_m HB.out hx470_3
                replace hx470_4 := s_m HB.out hx470_4
                replace hx470_5 := s_m HB.out hx470_5
                replace hx470_6 := s_m HB.out hx470_6
                replace hx470_7 := s_m HB.out hx470_7
                replace hx470_8 := s_m HB.out hx470_8
                replace hx470_9 := s_m HB.out hx470_9
                replace hx470_10 := s_m HB.out hx470_10
                replace hx470_11 := s_m HB.out hx470_11
                replace hx470_12 := s_m HB.out hx470_12
                replace hx470_13 := s_m HB.out hx470_13
                replace hx470_14 := s_m HB.out hx470_14
                replace hx470_15 := s_m HB.out hx470_15
                replace hx470_16 := s_m HB.out hx470_16
                have HR470_9 := s_a hi470_9
                have HC470_9 := s_a hl470_9
                clear hi470_9 hl470_9
                have HR470_10 := s_a hi470_10
                have HC470_10 := s_a hl470_10
                clear hi470_10 hl470_10
                have HR470_11 := s_a hi470_11
                have HC470_11 := s_a hl470_11
                clear hi470_11 hl470_11
                have HR470_12 := s_a hi470_12
                have HC470_12 := s_a hl470_12
                clear hi470_12 hl470_12
                have HR470_13 := s_a hi470_13
                have HC470_13 := s_a hl470_13
                clear hi470_13 hl470_13
                have HR470_16 := s_a hi470_16
                have HC470_16 := s_a hl470_16
                clear hi470_16 hl470_16
                replace p470 := eq_true p470
                replace q470 := eq_true q470
                have ea_ := Option.some.inj (hx469_9.symm.trans hx470_9)
                injection ea_ with ea_ en_ ec_
                subst ea_
                subst ec_
                clear en_
                have ea_ := Option.some.inj (hx469_10.symm.trans hx470_10)
                injection ea_ with ea_ en_ ec_
                subst ea_
                subst ec_
                clear en_
                have ea_ := Option.some.inj (hx469_11.symm.trans hx470_11)
                injection ea_ with ea_ en_ ec_
                subst ea_
                subst ec_
                clear en_
                have ea_ := Option.some.inj (hx469_12.symm.trans hx470_12)
                injection ea_ with ea_ en_ ec_
                subst ea_
                subst ec_
                clear en_
                have ea_ := Option.some.inj (hx469_13.symm.trans hx470_13)
                injection ea_ with ea_ en_ ec_
                subst ea_
                subst ec_
                clear en_
                have ea_ := Option.some.inj (hx469_16.symm.trans hx470_16)
                injection ea_ with ea_ en_ ec_
                subst ea_
                subst ec_
                clear en_
                have p471 : 0 ≤ (x12_2 : Int) := of_decide_eq_true (by first | (with_reducible assumption) | assumption)
                have q471 : x12_2 < (((rd_T54 l0 x11_1).f4).length : Int) := of_decide_eq_true (by first | (with_reducible assumption) | assumption)
                obtain ⟨ad471, A471_1, c471_1, A471_2, c471_2, e471, hx471_0, hx471_1, hx471_2, hl471_1, hi471_1, hl471_2, hi471_2⟩ := at_T58 HR470_16.out x12_2 p471 q471
                cases e471
                replace hx471_0 := s_m HB.out hx471_0
                replace hx471_1 := s_m HB.out hx471_1
                replace hx471_2 := s_m HB.out hx471_2
                have HR471_1 := s_a hi471_1
                have HC471_1 := s_a hl471_1
                clear hi471_1 hl471_1
                have HR471_2 := s_a hi471_2
                have HC471_2 := s_a hl471_2
                clear hi471_2 hl471_2
                replace p471 := eq_true p471
                replace q471 := eq_true q471
                go_wp2_with (first | ((with_reducible refine gate_dst (N := 13) rfl ?_); refine box_event ?hg (N := 13) ?hd (cs := #[.bool false, .slice none 0 0, .slice none 0 0]) (t := 58) ?hr ?_; (case hd => rfl); (case hg => rfl); (case hr => first | (go_simp; done) | (go_simp; rfl)); intro gb472 hg w34 hbox hb; have BK472 := s_a (hbox); have GW472 := s_a ((by rw [hg]; exact (below_size (by exact s_b HB.out)) : w.heap.size ≤ gb472)); have GE472 := s_a ((by rw [hg]; exact (below_size (by exact s_b HB.out)) : w.heap.size ≤ gb472)); have NB464_472 := s_a ((by rw [hg]; exact Nat.ne_of_lt (blk_lt (s_k BK464.out)) : gb464 ≠ gb472)); have NB472_464 := s_a ((by rw [hg]; exact Nat.ne_of_gt (blk_lt (s_k BK464.out)) : gb472 ≠ gb464)); have NB465_472 := s_a ((by rw [hg]; exact Nat.ne_of_lt (blk_lt (s_k BK465.out)) : gb465 ≠ gb472)); have NB472_465 := s_a ((by rw [hg]; exact Nat.ne_of_gt (blk_lt (s_k BK465.out)) : gb472 ≠ gb465)); replace BK464 := s_a (blk_below (s_k BK464.out) hb); replace BK465 := s_a (blk_below (s_k BK465.out) hb); replace HB := s_a (below_step (by exact s_b HB.out) hb); clear hb hbox hg; have hnb35 := NB472_464.out; have hnc35 := NB464_472.out; have hnb36 := NB472_465.out; have hnc36 := NB465_472.out; obtain ⟨hcz37_0, hcz37_1, hcz37_2⟩ := cells58 BK472.out; have hfz37_0 := blk_frozen BK472.out 0; have hfz37_1 := blk_frozen BK472.out 1; have hfz37_2 := blk_frozen BK472.out 2) | ((with_reducible refine gate_store (t := 58) (p := 13) rfl ?_); refine store_all rfl 58 (.tmp 13) _ rfl gb472 #[.bool ((rd_T58 ((rd_T54 l0 x11_1).f4) x12_2).f0), .slice A471_1 ((rd_T58 ((rd_T54 l0 x11_1).f4) x12_2).f1).length c471_1, .slice A471_2 ((rd_T58 ((rd_T54 l0 x11_1).f4) x12_2).f2).length c471_2] rfl rfl 58 _ (s_k BK472.out) sz58 rfl (by first | rfl | simp [Value.oneCell']) rfl ?_; intro w38 hnb hgr; have n0_ := s_a (s_g HB.out hgr GE472.out); have n1_ := s_a (blk_grown (s_k BK464.out) hgr (some_ne NB464_472.out)); have n2_ := s_a (blk_grown (s_k BK465.out) hgr (some_ne NB465_472.out)); clear HB; clear BK464; clear BK465; have HB := n0_; have BK464 := n1_; have BK465 := n2_; clear n0_ n1_ n2_; replace BK472 := s_a (hnb); clear hnb hgr; obtain ⟨hcz39_0, hcz39_1, hcz39_2⟩ := cells58 BK472.out; have hfz39_0 := blk_frozen BK472.out 0; have hfz39_1 := blk_frozen BK472.out 1; have hfz39_2 := blk_frozen BK472.out 2) | ((with_reducible refine gate_dst (N := 58) rfl ?_); (try (refine gate_guard (by rfl) ?_; dsimp only)); refine wpList_load_row rfl 41 (.tmp 7) rfl gb465 rfl 41 _ (0, 0) _ (s_k BK465.out) Try.underlying41 rfl sz41 ?_) | (go_at_call 35; (with_reducible refine (orchestratorref57_peer.calls k2 _ _ _ _ _ _ _ _ _ _ _ _ _ _ _ _ _ _ _ _ _ _ _ _ _ _ _ _ _ _ _ _ _ _ _ _ _ _ _ _ _ _ _ _ _ _ _ _ _ _ _ _ _ _ _ _ _ _ _ ?side1 ?side2 ?side3 ?side4 ?side5 ?side6 ?side7 ?side8 ?side9 ?side10 ?side11 ?side12 ?side13 ?side14 ?side15 ?side16 ?side17 ?side18 ?side19 ?side20 ?side21 ?side22 ?side23 ?side24 A22.out).mono ?_); (case side1 => exact s_D HR471_1.out HB.out); (case side2 => exact HC471_1.out); (case side3 => exact s_D HR2_9.out HB.out); (case side4 => exact HC2_9.out); (case side5 => exact s_D HR2_10.out HB.out); (case side6 => exact HC2_10.out); (case side7 => exact s_D HR2_11.out HB.out); (case side8 => exact HC2_11.out); (case side9 => exact s_D HR2_12.out HB.out); (case side10 => exact HC2_12.out); (case side11 => exact s_D HR2_17.out HB.out); (case side12 => exact HC2_17.out); (case side13 => exact s_D HR2_18.out HB.out); (case side14 => exact HC2_18.out); (case side15 => exact s_D HR2_19.out HB.out); (case side16 => exact HC2_19.out); (case side17 => exact s_D HR2_20.out HB.out); (case side18 => exact HC2_20.out); (case side19 => exact s_D HR2_21.out HB.out); (case side20 => exact HC2_21.out); (case side21 => exact s_D HR2_22.out HB.out); (case side22 => exact HC2_22.out); (case side23 => exact s_D HR2_28.out HB.out); (case side24 => exact HC2_28.out); rintro e w40 ⟨rfl, hb⟩; (try clear A22); replace BK464 := s_a (blk_below (s_k BK464.out) hb); replace BK465 := s_a (blk_below (s_k BK465.out) hb); replace BK472 := s_a (blk_below (s_k BK472.out) hb); replace HB := s_a (below_step (by exact s_b HB.out) hb); (try clear hb); obtain ⟨hcz41_0, hcz41_1, hcz41_2⟩ := cells58 BK472.out; have hfz41_0 := blk_frozen BK472.out 0; have hfz41_1 := blk_frozen BK472.out 1; have hfz41_2 := blk_frozen BK472.out 2) | (go_at_call 36; (with_reducible refine (orchestratorref57_port.calls k2 _ _ _ _ _ _ ?side1 ?side2 A24.out).mono ?_); (case side1 => exact s_D HR471_2.out HB.out); (case side2 => exact HC471_2.out); rintro e w' ⟨rfl, ⟨nd, rfl⟩⟩))
                go_roundg k2
                case measure => have := HK1.out; have := HK2.out; omega
                case rel => exact ⟨(wrap64 (x12_2 + 1)), (by first | rfl | (simp; done) | (simp [*]; done)), H', ⟨by have := HK1.out; have := HK2.out; omega⟩, ⟨by exact s_k BK464.out⟩, ⟨by exact s_k BK465.out⟩, ⟨by exact s_b HB.out⟩⟩
              ·replace c23 := Bool.eq_false_iff.mpr c23
               subst c23
               (try rw [if_neg (show ¬ (false = true) by decide)] at H)
               have H' := s_a H
               clear H
               have p469 : 0 ≤ (x11_1 : Int) := of_decide_eq_true (by first | (with_reducible assumption) | assumption)
               have q469 : x11_1 < (l0.length : Int) := of_decide_eq_true (by first | (with_reducible assumption) | assumption)
               obtain ⟨ad469, A469_9, c469_9, A469_10, c469_10, A469_11, c469_11, A469_12, c469_12, A469_13, c469_13, A469_16, c469_16, e469, hx469_0, hx469_1, hx469_2, hx469_3, hx469_4, hx469_5, hx469_6, hx469_7, hx469_8, hx469_9, hx469_10, hx469_11, hx469_12, hx469_13, hx469_14, hx469_15, hx469_16, hl469_9, hi469_9, hl469_10, hi469_10, hl469_11, hi469_11, hl469_12, hi469_12, hl469_13, hi469_13, hl469_16, hi469_16⟩ := at_T54 HR0.out x11_1 p469 q469
               obtain rfl : ad467 = ad469 := (by injection e469)
               replace hx469_0 := s_m HB.out hx469_0
               replace hx469_1 := s_m HB.out hx469_1
               replace hx469_2 := s_m HB.out hx469_2
               replace hx469_3 := s_m HB.out hx469_3
               replace hx469_4 := s_m HB.out hx469_4
               replace hx469_5 := s_m HB.out hx469_5
               replace hx469_6 := s_m HB.out hx469_6
               replace hx469_7 := s_m HB.out hx469_7
               replace hx469_8 := s_m HB.out hx469_8
               replace hx469_9 := s_m HB.out hx469_9
               replace hx469_10 := s_m HB.out hx469_10
               replace hx469_11 := s_m HB.out hx469_11
               replace hx469_12 := s_m HB.out hx469_12
               replace hx469_13 := s_m HB.out hx469_13
               replace hx469_14 := s_m HB.out hx469_14
               replace hx469_15 := s_m HB.out hx469_15
               replace hx469_16 := s_m HB.out hx469_16
               have HR469_9 := s_a hi469_9
               have HC469_9 := s_a hl469_9
               clear hi469_9 hl469_9
               have HR469_10 := s_a hi469_10
               have HC469_10 := s_a hl469_10
               clear hi469_10 hl469_10
               have HR469_11 := s_a hi469_11
               have HC469_11 := s_a hl469_11
               clear hi469_11 hl469_11
               have HR469_12 := s_a hi469_12
               have HC469_12 := s_a hl469_12
               clear hi469_12 hl469_12
               have HR469_13 := s_a hi469_13
               have HC469_13 := s_a hl469_13
               clear hi469_13 hl469_13
               have HR469_16 := s_a hi469_16
               have HC469_16 := s_a hl469_16
               clear hi469_16 hl469_16
               replace p469 := eq_true p469
               replace q469 := eq_true q469
               have p470 : 0 ≤ (x11_1 : Int) := of_decide_eq_true (by first | (with_reducible assumption) | assumption)
               have q470 : x11_1 < (l0.length : Int) := of_decide_eq_true (by first | (with_reducible assumption) | assumption)
               obtain ⟨ad470, A470_9, c470_9, A470_10, c470_10, A470_11, c470_11, A470_12, c470_12, A470_13, c470_13, A470_16, c470_16, e470, hx470_0, hx470_1, hx470_2, hx470_3, hx470_4, hx470_5, hx470_6, hx470_7, hx470_8, hx470_9, hx470_10, hx470_11, hx470_12, hx470_13, hx470_14, hx470_15, hx470_16, hl470_9, hi470_9, hl470_10, hi470_10, hl470_11, hi470_11, hl470_12, hi470_12, hl470_13, hi470_13, hl470_16, hi470_16⟩ := at_T54 HR0.out x11_1 p470 q470
               obtain rfl : ad467 = ad470 := (by injection e470)
               replace hx470_0 := s_m HB.out hx470_0
               replace hx470_1 := s_m HB.out hx470_1
               replace hx470_2 := s_m HB.out hx470_2
               replace hx470_3 := s_m HB.out hx470_3
               replace hx470_4 := s_m HB.out hx470_4
               replace hx470_5 := s_m HB.out hx470_5
               replace hx470_6 := s_m HB.out hx470_6
               replace hx470_7 := s_m HB.out hx470_7
               replace hx470_8 := s_m HB.out hx470_8
               replace hx470_9 := s_m HB.out hx470_9
               replace hx470_10 := s_m HB.out hx470_10
               replace hx470_11 := s_m HB.out hx470_11
               replace hx470_12 := s_m HB.out hx470_12
               replace hx470_13 := s_m HB.out hx470_13
               replace hx470_14 := s_m HB.out hx470_14
               replace hx470_15 := s_m HB.out hx470_15
               replace hx470_16 := s_m HB.out hx470_16
               have HR470_9 := s_a hi470_9
               have HC470_9 := s_a hl470_9
               clear hi470_9 hl470_9
               have HR470_10 := s_a hi470_10
               have HC470_10 := s_a hl470_10
               clear hi470_10 hl470_10
               have HR470_11 := s_a hi470_11
               have HC470_11 := s_a hl470_11
               clear hi470_11 hl470_11
               have HR470_12 := s_a hi470_12
               have HC470_12 := s_a hl470_12
               clear hi470_12 hl470_12
               have HR470_13 := s_a hi470_13
               have HC470_13 := s_a hl470_13
               clear hi470_13 hl470_13
               have HR470_16 := s_a hi470_16
               have HC470_16 := s_a hl470_16
               clear hi470_16 hl470_16
               replace p470 := eq_true p470
               replace q470 := eq_true q470
               have ea_ := Option.some.inj (hx469_9.symm.trans hx470_9)
               injection ea_ with ea_ en_ ec_
               subst ea_
               subst ec_
               clear en_
               have ea_ := Option.some.inj (hx469_10.symm.trans hx470_10)
               injection ea_ with ea_ en_ ec_
               subst ea_
               subst ec_
               clear en_
               have ea_ := Option.some.inj (hx469_11.symm.trans hx470_11)
               injection ea_ with ea_ en_ ec_
               subst ea_
               subst ec_
               clear en_
               have ea_ := Option.some.inj (hx469_12.symm.trans hx470_12)
               injection ea_ with ea_ en_ ec_
               subst ea_
               subst ec_
               clear en_
               have ea_ := Option.some.inj (hx469_13.symm.trans hx470_13)
               injection ea_ with ea_ en_ ec_
               subst ea_
               subst ec_
               clear en_
               have ea_ := Option.some.inj (hx469_16.symm.trans hx470_16)
               injection ea_ with ea_ en_ ec_
               subst ea_
               subst ec_
               clear en_
               have p471 : 0 ≤ (x12_2 : Int) := of_decide_eq_true (by first | (with_reducible assumption) | assumption)
               have q471 : x12_2 < (((rd_T54 l0 x11_1).f4).length : Int) := of_decide_eq_true (by first | (with_reducible assumption) | assumption)
               obtain ⟨ad471, A471_1, c471_1, A471_2, c471_2, e471, hx471_0, hx471_1, hx471_2, hl471_1, hi471_1, hl471_2, hi471_2⟩ := at_T58 HR470_16.out x12_2 p471 q471
               cases e471
               replace hx471_0 := s_m HB.out hx471_0
               replace hx471_1 := s_m HB.out hx471_1
               replace hx471_2 := s_m HB.out hx471_2
               have HR471_1 := s_a hi471_1
               have HC471_1 := s_a hl471_1
               clear hi471_1 hl471_1
               have HR471_2 := s_a hi471_2
               have HC471_2 := s_a hl471_2
               clear hi471_2 hl471_2
               replace p471 := eq_true p471
               replace q471 := eq_true q471
               go_wp2_with (first | ((with_reducible refine gate_dst (N := 13) rfl ?_); refine box_event ?hg (N := 13) ?hd (cs := #[.bool false, .slice none 0 0, .slice none 0 0]) (t := 58) ?hr ?_; (case hd => rfl); (case hg => rfl); (case hr => first | (go_simp; done) | (go_simp; rfl)); intro gb472 hg w42 hbox hb; have BK472 := s_a (hbox); have GW472 := s_a ((by rw [hg]; exact (below_size (by exact s_b HB.out)) : w.heap.size ≤ gb472)); have GE472 := s_a ((by rw [hg]; exact (below_size (by exact s_b HB.out)) : w.heap.size ≤ gb472)); have NB464_472 := s_a ((by rw [hg]; exact Nat.ne_of_lt (blk_lt (s_k BK464.out)) : gb464 ≠ gb472)); have NB472_464 := s_a ((by rw [hg]; exact Nat.ne_of_gt (blk_lt (s_k BK464.out)) : gb472 ≠ gb464)); have NB465_472 := s_a ((by rw [hg]; exact Nat.ne_of_lt (blk_lt (s_k BK465.out)) : gb465 ≠ gb472)); have NB472_465 := s_a ((by rw [hg]; exact Nat.ne_of_gt (blk_lt (s_k BK465.out)) : gb472 ≠ gb465)); replace BK464 := s_a (blk_below (s_k BK464.out) hb); replace BK465 := s_a (blk_below (s_k BK465.out) hb); replace HB := s_a (below_step (by exact s_b HB.out) hb); clear hb hbox hg; have hnb43 := NB472_464.out; have hnc43 := NB464_472.out; have hnb44 := NB472_465.out; have hnc44 := NB465_472.out; obtain ⟨hcz45_0, hcz45_1, hcz45_2⟩ := cells58 BK472.out; have hfz45_0 := blk_frozen BK472.out 0; have hfz45_1 := blk_frozen BK472.out 1; have hfz45_2 := blk_frozen BK472.out 2) | ((with_reducible refine gate_store (t := 58) (p := 13) rfl ?_); refine store_all rfl 58 (.tmp 13) _ rfl gb472 #[.bool ((rd_T58 ((rd_T54 l0 x11_1).f4) x12_2).f0), .slice A471_1 ((rd_T58 ((rd_T54 l0 x11_1).f4) x12_2).f1).length c471_1, .slice A471_2 ((rd_T58 ((rd_T54 l0 x11_1).f4) x12_2).f2).length c471_2] rfl rfl 58 _ (s_k BK472.out) sz58 rfl (by first | rfl | simp [Value.oneCell']) rfl ?_; intro w46 hnb hgr; have n0_ := s_a (s_g HB.out hgr GE472.out); have n1_ := s_a (blk_grown (s_k BK464.out) hgr (some_ne NB464_472.out)); have n2_ := s_a (blk_grown (s_k BK465.out) hgr (some_ne NB465_472.out)); clear HB; clear BK464; clear BK465; have HB := n0_; have BK464 := n1_; have BK465 := n2_; clear n0_ n1_ n2_; replace BK472 := s_a (hnb); clear hnb hgr; obtain ⟨hcz47_0, hcz47_1, hcz47_2⟩ := cells58 BK472.out; have hfz47_0 := blk_frozen BK472.out 0; have hfz47_1 := blk_frozen BK472.out 1; have hfz47_2 := blk_frozen BK472.out 2) | ((with_reducible refine gate_dst (N := 58) rfl ?_); (try (refine gate_guard (by rfl) ?_; dsimp only)); refine wpList_load_row rfl 41 (.tmp 7) rfl gb465 rfl 41 _ (0, 0) _ (s_k BK465.out) Try.underlying41 rfl sz41 ?_) | (go_at_call 35; (with_reducible refine (orchestratorref57_peer.calls k2 _ _ _ _ _ _ _ _ _ _ _ _ _ _ _ _ _ _ _ _ _ _ _ _ _ _ _ _ _ _ _ _ _ _ _ _ _ _ _ _ _ _ _ _ _ _ _ _ _ _ _ _ _ _ _ _ _ _ _ ?side1 ?side2 ?side3 ?side4 ?side5 ?side6 ?side7 ?side8 ?side9 ?side10 ?side11 ?side12 ?side13 ?side14 ?side15 ?side16 ?side17 ?side18 ?side19 ?side20 ?side21 ?side22 ?side23 ?side24 A22.out).mono ?_); (case side1 => exact s_D HR471_1.out HB.out); (case side2 => exact HC471_1.out); (case side3 => exact s_D HR2_9.out HB.out); (case side4 => exact HC2_9.out); (case side5 => exact s_D HR2_10.out HB.out); (case side6 => exact HC2_10.out); (case side7 => exact s_D HR2_11.out HB.out); (case side8 => exact HC2_11.out); (case side9 => exact s_D HR2_12.out HB.out); (case side10 => exact HC2_12.out); (case side11 => exact s_D HR2_17.out HB.out); (case side12 => exact HC2_17.out); (case side13 => exact s_D HR2_18.out HB.out); (case side14 => exact HC2_18.out); (case side15 => exact s_D HR2_19.out HB.out); (case side16 => exact HC2_19.out); (case side17 => exact s_D HR2_20.out HB.out); (case side18 => exact HC2_20.out); (case side19 => exact s_D HR2_21.out HB.out); (case side20 => exact HC2_21.out); (case side21 => exact s_D HR2_22.out HB.out); (case side22 => exact HC2_22.out); (case side23 => exact s_D HR2_28.out HB.out); (case side24 => exact HC2_28.out); rintro e w48 ⟨rfl, hb⟩; (try clear A22); replace BK464 := s_a (blk_below (s_k BK464.out) hb); replace BK465 := s_a (blk_below (s_k BK465.out) hb); replace BK472 := s_a (blk_below (s_k BK472.out) hb); replace HB := s_a (below_step (by exact s_b HB.out) hb); (try clear hb)))
               go_roundg k2
               case measure => have := HK1.out; have := HK2.out; omega
               case rel => exact ⟨(wrap64 (x12_2 + 1)), (by first | rfl | (simp; done) | (simp [*]; done)), H', ⟨by have := HK1.out; have := HK2.out; omega⟩, ⟨by exact s_k BK464.out⟩, ⟨by exact s_k BK465.out⟩, ⟨by exact s_b HB.out⟩⟩
             ·rw [if_neg c21] at H
              have c21b0 : (((rd_T58 ((rd_T54 l0 x11_1).f4) x12_2).f0) == a3) = false := by simpa using c21
              (try (have c21b1 : decide (((rd_T58 ((rd_T54 l0 x11_1).f4) x12_2).f0) = a3) = false := by simpa using c21))
              (try (have c21b2 : (((rd_T58 ((rd_T54 l0 x11_1).f4) x12_2).f0) == a3) = false := by simpa using c21))
              (try (have c21b3 : ¬ (((rd_T58 ((rd_T54 l0 x11_1).f4) x12_2).f0) = a3) := by simpa using c21))
              clear c21
              have H' := s_a H
              clear H
              have p469 : 0 ≤ (x11_1 : Int) := of_decide_eq_true (by first | (with_reducible assumption) | assumption)
              have q469 : x11_1 < (l0.length : Int) := of_decide_eq_true (by first | (with_reducible assumption) | assumption)
              obtain ⟨ad469, A469_9, c469_9, A469_10, c469_10, A469_11, c469_11, A469_12, c469_12, A469_13, c469_13, A469_16, c469_16, e469, hx469_0, hx469_1, hx469_2, hx469_3, hx469_4, hx469_5, hx469_6, hx469_7, hx469_8, hx469_9, hx469_10, hx469_11, hx469_12, hx469_13, hx469_14, hx469_15, hx469_16, hl469_9, hi469_9, hl469_10, hi469_10, hl469_11, hi469_11, hl469_12, hi469_12, hl469_13, hi469_13, hl469_16, hi469_16⟩ := at_T54 HR0.out x11_1 p469 q469
              obtain rfl : ad467 = ad469 := (by injection e469)
              replace hx469_0 := s_m HB.out hx469_0
              replace hx469_1 := s_m HB.out hx469_1
              replace hx469_2 := s_m HB.out hx469_2
              replace hx469_3 := s_m HB.out hx469_3
              replace hx469_4 := s_m HB.out hx469_4
              replace hx469_5 := s_m HB.out hx469_5
              replace hx469_6 := s_m HB.out hx469_6
              replace hx469_7 := s_m HB.out hx469_7
              replace hx469_8 := s_m HB.out hx469_8
              replace hx469_9 := s_m HB.out hx469_9
              replace hx469_10 := s_m HB.out hx469_10
              replace hx469_11 := s_m HB.out hx469_11
              replace hx469_12 := s_m HB.out hx469_12
              replace hx469_13 := s_m HB.out hx469_13
              replace hx469_14 := s_m HB.out hx469_14
              replace hx469_15 := s_m HB.out hx469_15
              replace hx469_16 := s_m HB.out hx469_16
              have HR469_9 := s_a hi469_9
              have HC469_9 := s_a hl469_9
              clear hi469_9 hl469_9
              have HR469_10 := s_a hi469_10
              have HC469_10 := s_a hl469_10
              clear hi469_10 hl469_10
              have HR469_11 := s_a hi469_11
              have HC469_11 := s_a hl469_11
              clear hi469_11 hl469_11
              have HR469_12 := s_a hi469_12
              have HC469_12 := s_a hl469_12
              clear hi469_12 hl469_12
              have HR469_13 := s_a hi469_13
              have HC469_13 := s_a hl469_13
              clear hi469_13 hl469_13
              have HR469_16 := s_a hi469_16
              have HC469_16 := s_a hl469_16
              clear hi469_16 hl469_16
              replace p469 := eq_true p469
              replace q469 := eq_true q469
              have p470 : 0 ≤ (x11_1 : Int) := of_decide_eq_true (by first | (with_reducible assumption) | assumption)
              have q470 : x11_1 < (l0.length : Int) := of_decide_eq_true (by first | (with_reducible assumption) | assumption)
              obtain ⟨ad470, A470_9, c470_9, A470_10, c470_10, A470_11, c470_11, A470_12, c470_12, A470_13, c470_13, A470_16, c470_16, e470, hx470_0, hx470_1, hx470_2, hx470_3, hx470_4, hx470_5, hx470_6, hx470_7, hx470_8, hx470_9, hx470_10, hx470_11, hx470_12, hx470_13, hx470_14, hx470_15, hx470_16, hl470_9, hi470_9, hl470_10, hi470_10, hl470_11, hi470_11, hl470_12, hi470_12, hl470_13, hi470_13, hl470_16, hi470_16⟩ := at_T54 HR0.out x11_1 p470 q470
              obtain rfl : ad467 = ad470 := (by injection e470)
              replace hx470_0 := s_m HB.out hx470_0
              replace hx470_1 := s_m HB.out hx470_1
              replace hx470_2 := s_m HB.out hx470_2
              replace hx470_3 := s_m HB.out hx470_3
              replace hx470_4 := s_m HB.out hx470_4
              replace hx470_5 := s_m HB.out hx470_5
              replace hx470_6 := s_m HB.out hx470_6
              replace hx470_7 := s_m HB.out hx470_7
              replace hx470_8 := s_m HB.out hx470_8
              replace hx470_9 := s_m HB.out hx470_9
              replace hx470_10 := s_m HB.out hx470_10
              replace hx470_11 := s_m HB.out hx470_11
              replace hx470_12 := s_m HB.out hx470_12
              replace hx470_13 := s_m HB.out hx470_13
              replace hx470_14 := s_m HB.out hx470_14
              replace hx470_15 := s_m HB.out hx470_15
              replace hx470_16 := s_m HB.out hx470_16
              have HR470_9 := s_a hi470_9
              have HC470_9 := s_a hl470_9
              clear hi470_9 hl470_9
              have HR470_10 := s_a hi470_10
              have HC470_10 := s_a hl470_10
              clear hi470_10 hl470_10
              have HR470_11 := s_a hi470_11
              have HC470_11 := s_a hl470_11
              clear hi470_11 hl470_11
              have HR470_12 := s_a hi470_12
              have HC470_12 := s_a hl470_12
              clear hi470_12 hl470_12
              have HR470_13 := s_a hi470_13
              have HC470_13 := s_a hl470_13
              clear hi470_13 hl470_13
              have HR470_16 := s_a hi470_16
              have HC470_16 := s_a hl470_16
              clear hi470_16 hl470_16
              replace p470 := eq_true p470
              replace q470 := eq_true q470
              have ea_ := Option.some.inj (hx469_9.symm.trans hx470_9)
              injection ea_ with ea_ en_ ec_
              subst ea_
              subst ec_
              clear en_
              have ea_ := Option.some.inj (hx469_10.symm.trans hx470_10)
              injection ea_ with ea_ en_ ec_
              subst ea_
              subst ec_
              clear en_
              have ea_ := Option.some.inj (hx469_11.symm.trans hx470_11)
              injection ea_ with ea_ en_ ec_
              subst ea_
              subst ec_
              clear en_
              have ea_ := Option.some.inj (hx469_12.symm.trans hx470_12)
              injection ea_ with ea_ en_ ec_
              subst ea_
              subst ec_
              clear en_
              have ea_ := Option.some.inj (hx469_13.symm.trans hx470_13)
              injection ea_ with ea_ en_ ec_
              subst ea_
              subst ec_
              clear en_
              have ea_ := Option.some.inj (hx469_16.symm.trans hx470_16)
              injection ea_ with ea_ en_ ec_
              subst ea_
              subst ec_
              clear en_
              have p471 : 0 ≤ (x12_2 : Int) := of_decide_eq_true (by first | (with_reducible assumption) | assumption)
              have q471 : x12_2 < (((rd_T54 l0 x11_1).f4).length : Int) := of_decide_eq_true (by first | (with_reducible assumption) | assumption)
              obtain ⟨ad471, A471_1, c471_1, A471_2, c471_2, e471, hx471_0, hx471_1, hx471_2, hl471_1, hi471_1, hl471_2, hi471_2⟩ := at_T58 HR470_16.out x12_2 p471 q471
              cases e471
              replace hx471_0 := s_m HB.out hx471_0
              replace hx471_1 := s_m HB.out hx471_1
              replace hx471_2 := s_m HB.out hx471_2
              have HR471_1 := s_a hi471_1
              have HC471_1 := s_a hl471_1
              clear hi471_1 hl471_1
              have HR471_2 := s_a hi471_2
              have HC471_2 := s_a hl471_2
              clear hi471_2 hl471_2
              replace p471 := eq_true p471
              replace q471 := eq_true q471
              go_wp2_with (first | ((with_reducible refine gate_dst (N := 13) rfl ?_); refine box_event ?hg (N := 13) ?hd (cs := #[.bool false, .slice none 0 0, .slice none 0 0]) (t := 58) ?hr ?_; (case hd => rfl); (case hg => rfl); (case hr => first | (go_simp; done) | (go_simp; rfl)); intro gb472 hg w49 hbox hb; have BK472 := s_a (hbox); have GW472 := s_a ((by rw [hg]; exact (below_size (by exact s_b HB.out)) : w.heap.size ≤ gb472)); have GE472 := s_a ((by rw [hg]; exact (below_size (by exact s_b HB.out)) : w.heap.size ≤ gb472)); have NB464_472 := s_a ((by rw [hg]; exact Nat.ne_of_lt (blk_lt (s_k BK464.out)) : gb464 ≠ gb472)); have NB472_464 := s_a ((by rw [hg]; exact Nat.ne_of_gt (blk_lt (s_k BK464.out)) : gb472 ≠ gb464)); have NB465_472 := s_a ((by rw [hg]; exact Nat.ne_of_lt (blk_lt (s_k BK465.out)) : gb465 ≠ gb472)); have NB472_465 := s_a ((by rw [hg]; exact Nat.ne_of_gt (blk_lt (s_k BK465.out)) : gb472 ≠ gb465)); replace BK464 := s_a (blk_below (s_k BK464.out) hb); replace BK465 := s_a (blk_below (s_k BK465.out) hb); replace HB := s_a (below_step (by exact s_b HB.out) hb); clear hb hbox hg; have hnb50 := NB472_464.out; have hnc50 := NB464_472.out; have hnb51 := NB472_465.out; have hnc51 := NB465_472.out; obtain ⟨hcz52_0, hcz52_1, hcz52_2⟩ := cells58 BK472.out; have hfz52_0 := blk_frozen BK472.out 0; have hfz52_1 := blk_frozen BK472.out 1; have hfz52_2 := blk_frozen BK472.out 2) | ((with_reducible refine gate_store (t := 58) (p := 13) rfl ?_); refine store_all rfl 58 (.tmp 13) _ rfl gb472 #[.bool ((rd_T58 ((rd_T54 l0 x11_1).f4) x12_2).f0), .slice A471_1 ((rd_T58 ((rd_T54 l0 x11_1).f4) x12_2).f1).length c471_1, .slice A471_2 ((rd_T58 ((rd_T54 l0 x11_1).f4) x12_2).f2).length c471_2] rfl rfl 58 _ (s_k BK472.out) sz58 rfl (by first | rfl | simp [Value.oneCell']) rfl ?_; intro w53 hnb hgr; have n0_ := s_a (s_g HB.out hgr GE472.out); have n1_ := s_a (blk_grown (s_k BK464.out) hgr (some_ne NB464_472.out)); have n2_ := s_a (blk_grown (s_k BK465.out) hgr (some_ne NB465_472.out)); clear HB; clear BK464; clear BK465; have HB := n0_; have BK464 := n1_; have BK465 := n2_; clear n0_ n1_ n2_; replace BK472 := s_a (hnb); clear hnb hgr; obtain ⟨hcz54_0, hcz54_1, hcz54_2⟩ := cells58 BK472.out; have hfz54_0 := blk_frozen BK472.out 0; have hfz54_1 := blk_frozen BK472.out 1; have hfz54_2 := blk_frozen BK472.out 2))
              go_roundg k2
              case measure => have := HK1.out; have := HK2.out; omega
              case rel => exact ⟨(wrap64 (x12_2 + 1)), (by first | rfl | (simp; done) | (simp [*]; done)), H', ⟨by have := HK1.out; have := HK2.out; omega⟩, ⟨by exact s_k BK464.out⟩, ⟨by exact s_k BK465.out⟩, ⟨by exact s_b HB.out⟩⟩
            ·rw [if_neg c20] at H
             exact absurd H (by simp)
           ·rw [if_neg c19] at H
            have c19b0 : decide (x12_2 < (((rd_T54 l0 x11_1).f4).length : Int)) = false := decide_eq_false c19
            clear c19
            have H' := s_a H
            clear H
            have p469 : 0 ≤ (x11_1 : Int) := of_decide_eq_true (by first | (with_reducible assumption) | assumption)
            have q469 : x11_1 < (l0.length : Int) := of_decide_eq_true (by first | (with_reducible assumption) | assumption)
            obtain ⟨ad469, A469_9, c469_9, A469_10, c469_10, A469_11, c469_11, A469_12, c469_12, A469_13, c469_13, A469_16, c469_16, e469, hx469_0, hx469_1, hx469_2, hx469_3, hx469_4, hx469_5, hx469_6, hx469_7, hx469_8, hx469_9, hx469_10, hx469_11, hx469_12, hx469_13, hx469_14, hx469_15, hx469_16, hl469_9, hi469_9, hl469_10, hi469_10, hl469_11, hi469_11, hl469_12, hi469_12, hl469_13, hi469_13, hl469_16, hi469_16⟩ := at_T54 HR0.out x11_1 p469 q469
            obtain rfl : ad467 = ad469 := (by injection e469)
            replace hx469_0 := s_m HB.out hx469_0
            replace hx469_1 := s_m HB.out hx469_1
            replace hx469_2 := s_m HB.out hx469_2
            replace hx469_3 := s_m HB.out hx469_3
            replace hx469_4 := s_m HB.out hx469_4
            replace hx469_5 := s_m HB.out hx469_5
            replace hx469_6 := s_m HB.out hx469_6
            replace hx469_7 := s_m HB.out hx469_7
            replace hx469_8 := s_m HB.out hx469_8
            replace hx469_9 := s_m HB.out hx469_9
            replace hx469_10 := s_m HB.out hx469_10
            replace hx469_11 := s_m HB.out hx469_11
            replace hx469_12 := s_m HB.out hx469_12
            replace hx469_13 := s_m HB.out hx469_13
            replace hx469_14 := s_m HB.out hx469_14
            replace hx469_15 := s_m HB.out hx469_15
            replace hx469_16 := s_m HB.out hx469_16
            have HR469_9 := s_a hi469_9
            have HC469_9 := s_a hl469_9
            clear hi469_9 hl469_9
            have HR469_10 := s_a hi469_10
            have HC469_10 := s_a hl469_10
            clear hi469_10 hl469_10
            have HR469_11 := s_a hi469_11
            have HC469_11 := s_a hl469_11
            clear hi469_11 hl469_11
            have HR469_12 := s_a hi469_12
            have HC469_12 := s_a hl469_12
            clear hi469_12 hl469_12
            have HR469_13 := s_a hi469_13
            have HC469_13 := s_a hl469_13
            clear hi469_13 hl469_13
            have HR469_16 := s_a hi469_16
            have HC469_16 := s_a hl469_16
            clear hi469_16 hl469_16
            replace p469 := eq_true p469
            replace q469 := eq_true q469
            go_wp2
            go_roundg k2
            case measure => have := HK1.out; have := HK2.out; omega
            case rel => exact ⟨(wrap64 (x11_1 + 1)), (by first | rfl | (simp; done) | (simp [*]; done)), H', ⟨by have := HK1.out; have := HK2.out; omega⟩, ⟨by exact s_k BK464.out⟩, ⟨by exact s_k BK465.out⟩, ⟨by exact s_b HB.out⟩⟩
          ·rw [if_neg c18] at H
           exact absurd H (by simp)
         ·rw [if_neg c17] at H
          exact absurd H (by simp)
      ·replace c14 := Bool.eq_false_iff.mpr c14
       subst c14
       (try rw [if_neg (show ¬ (false = true) by decide)] at H)
       have H' := s_a H
       clear H
       try go_wp2
       replace BK464 := s_a (blk_drew BK464.out)
       replace BK465 := s_a (blk_drew BK465.out)
       replace HB := s_a (below_drew1 HB.out)
       have p467 : 0 ≤ (x11_1 : Int) := of_decide_eq_true (by first | (with_reducible assumption) | assumption)
       have q467 : x11_1 < (l0.length : Int) := of_decide_eq_true (by first | (with_reducible assumption) | assumption)
       obtain ⟨ad467, A467_9, c467_9, A467_10, c467_10, A467_11, c467_11, A467_12, c467_12, A467_13, c467_13, A467_16, c467_16, e467, hx467_0, hx467_1, hx467_2, hx467_3, hx467_4, hx467_5, hx467_6, hx467_7, hx467_8, hx467_9, hx467_10, hx467_11, hx467_12, hx467_13, hx467_14, hx467_15, hx467_16, hl467_9, hi467_9, hl467_10, hi467_10, hl467_11, hi467_11, hl467_12, hi467_12, hl467_13, hi467_13, hl467_16, hi467_16⟩ := at_T54 HR0.out x11_1 p467 q467
       have hw467_16 := hx467_16
       have hw467_15 := hx467_15
       have hw467_14 := hx467_14
       have hw467_13 := hx467_13
       have hw467_12 := hx467_12
       have hw467_11 := hx467_11
       have hw467_10 := hx467_10
       have hw467_9 := hx467_9
       have hw467_8 := hx467_8
       have hw467_7 := hx467_7
       have hw467_6 := hx467_6
       have hw467_5 := hx467_5
       have hw467_4 := hx467_4
       have hw467_3 := hx467_3
       have hw467_2 := hx467_2
       have hw467_1 := hx467_1
       have hw467_0 := hx467_0
       cases e467
       replace hx467_0 := s_m HB.out hx467_0
       replace hx467_1 := s_m HB.out hx467_1
       replace hx467_2 := s_m HB.out hx467_2
       replace hx467_3 := s_m HB.out hx467_3
       replace hx467_4 := s_m HB.out hx467_4
       replace hx467_5 := s_m HB.out hx467_5
       replace hx467_6 := s_m HB.out hx467_6
       replace hx467_7 := s_m HB.out hx467_7
       replace hx467_8 := s_m HB.out hx467_8
       replace hx467_9 := s_m HB.out hx467_9
       replace hx467_10 := s_m HB.out hx467_10
       replace hx467_11 := s_m HB.out hx467_11
       replace hx467_12 := s_m HB.out hx467_12
       replace hx467_13 := s_m HB.out hx467_13
       replace hx467_14 := s_m HB.out hx467_14
       replace hx467_15 := s_m HB.out hx467_15
       replace hx467_16 := s_m HB.out hx467_16
       have HR467_9 := s_a hi467_9
       have HC467_9 := s_a hl467_9
       clear hi467_9 hl467_9
       have HR467_10 := s_a hi467_10
       have HC467_10 := s_a hl467_10
       clear hi467_10 hl467_10
       have HR467_11 := s_a hi467_11
       have HC467_11 := s_a hl467_11
       clear hi467_11 hl467_11
       have HR467_12 := s_a hi467_12
       have HC467_12 := s_a hl467_12
       clear hi467_12 hl467_12
       have HR467_13 := s_a hi467_13
       have HC467_13 := s_a hl467_13
       clear hi467_13 hl467_13
       have HR467_16 := s_a hi467_16
       have HC467_16 := s_a hl467_16
       clear hi467_16 hl467_16
       replace p467 := eq_true p467
       replace q467 := eq_true q467
       refine start_ (n := 8) (S := fun w' => w'.cell? ⟨gb464, 0, none⟩ = some (.string a1_0) ∧ w'.cell? ⟨gb464, 1, none⟩ = some (.string a1_1) ∧ w'.cell? ⟨gb464, 2, none⟩ = some (.string a1_2) ∧ w'.cell? ⟨gb464, 3, none⟩ = some (.int .i64 a1_3) ∧ w'.cell? ⟨gb464, 4, none⟩ = some (.int .i64 a1_4) ∧ w'.cell? ⟨gb464, 5, none⟩ = some (.int .i64 a1_5) ∧ w'.cell? ⟨gb464, 6, none⟩ = some (.int .i64 a1_6) ∧ w'.cell? ⟨gb464, 7, none⟩ = some (.bool a1_7) ∧ w'.cell? ⟨gb464, 8, none⟩ = some (.int .i64 a1_8) ∧ w'.cell? ⟨gb464, 9, none⟩ = some (.slice A1_9 l1_9.length c1_9) ∧ w'.cell? ⟨gb464, 10, none⟩ = some (.slice A1_10 l1_10.length c1_10) ∧ w'.cell? ⟨gb464, 11, none⟩ = some (.slice A1_11 l1_11.length c1_11) ∧ w'.cell? ⟨gb464, 12, none⟩ = some (.slice A1_12 l1_12.length c1_12) ∧ w'.cell? ⟨gb464, 13, none⟩ = some (.string a1_13) ∧ w'.cell? ⟨gb464, 14, none⟩ = some (.int .i64 a1_14) ∧ w'.cell? ⟨gb464, 15, none⟩ = some (.int .i64 a1_15) ∧ w'.cell? ⟨gb464, 16, none⟩ = some (.int .i64 a1_16) ∧ w'.cell? ⟨gb464, 17, none⟩ = some (.slice A1_17 l1_17.length c1_17) ∧ w'.cell? ⟨gb464, 18, none⟩ = some (.slice A1_18 l1_18.length c1_18) ∧ w'.cell? ⟨gb464, 19, none⟩ = some (.slice A1_19 l1_19.length c1_19) ∧ w'.cell? ⟨gb464, 20, none⟩ = some (.slice A1_20 l1_20.length c1_20) ∧ w'.cell? ⟨gb464, 21, none⟩ = some (.slice A1_21 l1_21.length c1_21) ∧ w'.cell? ⟨gb464, 22, none⟩ = some (.slice A1_22 l1_22.length c1_22) ∧ w'.cell? ⟨gb464, 23, none⟩ = some (.int .i64 a1_23) ∧ w'.cell? ⟨gb464, 24, none⟩ = some (.bool a1_24) ∧ w'.cell? ⟨gb464, 25, none⟩ = some (.int .i64 a1_25) ∧ w'.cell? ⟨gb464, 26, none⟩ = some (.int .i64 a1_26) ∧ w'.cell? ⟨gb464, 27, none⟩ = some (.int .i64 a1_27) ∧ w'.cell? ⟨gb464, 28, none⟩ = some (.slice A1_28 l1_28.length c1_28) ∧ w'.cell? ⟨gb464, 29, none⟩ = some (.int .i64 a1_29) ∧ w'.cell? ⟨gb464, 30, none⟩ = some (.string a1_30) ∧ w'.cell? ⟨gb464, 31, none⟩ = some (.string a1_31) ∧ w'.cell? (ad467.add ((x11_1).toNat * 17)) = some (.string ((rd_T54 l0 x11_1).f0.f0)) ∧ w'.cell? ⟨(ad467.add ((x11_1).toNat * 17)).block, (ad467.add ((x11_1).toNat * 17)).off + 1, none⟩ = some (.string ((rd_T54 l0 x11_1).f0.f1)) ∧ w'.cell? ⟨(ad467.add ((x11_1).toNat * 17)).block, (ad467.add ((x11_1).toNat * 17)).off + 2, none⟩ = some (.string ((rd_T54 l0 x11_1).f0.f2)) ∧ w'.cell? ⟨(ad467.add ((x11_1).toNat * 17)).block, (ad467.add ((x11_1).toNat * 17)).off + 3, none⟩ = some (.int .i64 ((rd_T54 l0 x11_1).f0.f3)) ∧ w'.cell? ⟨(ad467.add ((x11_1).toNat * 17)).block, (ad467.add ((x11_1).toNat * 17)).off + 4, none⟩ = some (.int .i64 ((rd_T54 l0 x11_1).f0.f4)) ∧ w'.cell? ⟨(ad467.add ((x11_1).toNat * 17)).block, (ad467.add ((x11_1).toNat * 17)).off + 5, none⟩ = some (.int .i64 ((rd_T54 l0 x11_1).f0.f5)) ∧ w'.cell? ⟨(ad467.add ((x11_1).toNat * 17)).block, (ad467.add ((x11_1).toNat * 17)).off + 6, none⟩ = some (.int .i64 ((rd_T54 l0 x11_1).f0.f6)) ∧ w'.cell? ⟨(ad467.add ((x11_1).toNat * 17)).block, (ad467.add ((x11_1).toNat * 17)).off + 7, none⟩ = some (.bool ((rd_T54 l0 x11_1).f0.f7)) ∧ w'.cell? ⟨(ad467.add ((x11_1).toNat * 17)).block, (ad467.add ((x11_1).toNat * 17)).off + 8, none⟩ = some (.int .i64 ((rd_T54 l0 x11_1).f0.f8)) ∧ w'.cell? ⟨(ad467.add ((x11_1).toNat * 17)).block, (ad467.add ((x11_1).toNat * 17)).off + 9, none⟩ = some (.slice A467_9 ((rd_T54 l0 x11_1).f0.f9).length c467_9) ∧ w'.cell? ⟨(ad467.add ((x11_1).toNat * 17)).block, (ad467.add ((x11_1).toNat * 17)).off + 10, none⟩ = some (.slice A467_10 ((rd_T54 l0 x11_1).f0.f10).length c467_10) ∧ w'.cell? ⟨(ad467.add ((x11_1).toNat * 17)).block, (ad467.add ((x11_1).toNat * 17)).off + 11, none⟩ = some (.slice A467_11 ((rd_T54 l0 x11_1).f0.f11).length c467_11) ∧ w'.cell? ⟨(ad467.add ((x11_1).toNat * 17)).block, (ad467.add ((x11_1).toNat * 17)).off + 12, none⟩ = some (.slice A467_12 ((rd_T54 l0 x11_1).f0.f12).length c467_12) ∧ w'.cell? ⟨(ad467.add ((x11_1).toNat * 17)).block, (ad467.add ((x11_1).toNat * 17)).off + 13, none⟩ = some (.slice A467_13 ((rd_T54 l0 x11_1).f1).length c467_13) ∧ w'.cell? ⟨(ad467.add ((x11_1).toNat * 17)).block, (ad467.add ((x11_1).toNat * 17)).off + 14, none⟩ = some (.bool ((rd_T54 l0 x11_1).f2)) ∧ w'.cell? ⟨(ad467.add ((x11_1).toNat * 17)).block, (ad467.add ((x11_1).toNat * 17)).off + 15, none⟩ = some (.bool ((rd_T54 l0 x11_1).f3)) ∧ w'.cell? ⟨(ad467.add ((x11_1).toNat * 17)).block, (ad467.add ((x11_1).toNat * 17)).off + 16, none⟩ = some (.slice A467_16 ((rd_T54 l0 x11_1).f4).length c467_16)) (ds := []) (bz 8 0) (by kernel_rfl) rfl rfl ⟨s_x BK464.out 0, s_x BK464.out 1, s_x BK464.out 2, s_x BK464.out 3, s_x BK464.out 4, s_x BK464.out 5, s_x BK464.out 6, s_x BK464.out 7, s_x BK464.out 8, s_x BK464.out 9, s_x BK464.out 10, s_x BK464.out 11, s_x BK464.out 12, s_x BK464.out 13, s_x BK464.out 14, s_x BK464.out 15, s_x BK464.out 16, s_x BK464.out 17, s_x BK464.out 18, s_x BK464.out 19, s_x BK464.out 20, s_x BK464.out 21, s_x BK464.out 22, s_x BK464.out 23, s_x BK464.out 24, s_x BK464.out 25, s_x BK464.out 26, s_x BK464.out 27, s_x BK464.out 28, s_x BK464.out 29, s_x BK464.out 30, s_x BK464.out 31, (s_m HB.out hw467_0), (s_m HB.out hw467_1), (s_m HB.out hw467_2), (s_m HB.out hw467_3), (s_m HB.out hw467_4), (s_m HB.out hw467_5), (s_m HB.out hw467_6), (s_m HB.out hw467_7), (s_m HB.out hw467_8), (s_m HB.out hw467_9), (s_m HB.out hw467_10), (s_m HB.out hw467_11), (s_m HB.out hw467_12), (s_m HB.out hw467_13), (s_m HB.out hw467_14), (s_m HB.out hw467_15), (s_m HB.out hw467_16)⟩ (fun hHeld => ?_); refine with_tabW orchestratorref57_open.tab6 orchestratorref57_open.bits6 (fun HT_ HW_ => ?_)
       generalize wr.drew = w55 at BK464 BK465 HB HR467_10 HR467_11 HR467_12 HR467_13 HR467_16 HR467_9 hx467_0 hx467_1 hx467_10 hx467_11 hx467_12 hx467_13 hx467_14 hx467_15 hx467_16 hx467_2 hx467_3 hx467_4 hx467_5 hx467_6 hx467_7 hx467_8 hx467_9 hHeld ⊢
       refine q_p 0 (some 25) (bz 8 1) (any_of HT_.out (by kernel_rfl)) (v := ?_) ?_ (a' := ?_) ?_ ?_; rotate_left 2
       ·intro w'; go_simp; with_reducible rfl
       ·simp only [Act.put, List.setIfInBounds_toArray, List.set_cons_zero, List.set_cons_succ, i64_w, i32_w]; rfl
       refine q_p 1 (some 26) (bz 8 3) (any_of HT_.out (by kernel_rfl)) (v := ?_) ?_ (a' := ?_) ?_ ?_; rotate_left 2
       ·intro w'; go_simp; with_reducible rfl
       ·simp only [Act.put, List.setIfInBounds_toArray, List.set_cons_zero, List.set_cons_succ, i64_w, i32_w]; rfl
       refine q_p 2 (some 27) (bz 8 7) (any_of HT_.out (by kernel_rfl)) (v := ?_) ?_ (a' := ?_) ?_ ?_; rotate_left 2
       ·intro w'; go_simp; with_reducible rfl
       ·simp only [Act.put, List.setIfInBounds_toArray, List.set_cons_zero, List.set_cons_succ, i64_w, i32_w]; rfl
       refine q_p 5 (some 30) (bz 8 39) (any_of HT_.out (by kernel_rfl)) (v := ?_) ?_ (a' := ?_) ?_ ?_; rotate_left 2
       ·intro w'; go_simp; with_reducible rfl
       ·simp only [Act.put, List.setIfInBounds_toArray, List.set_cons_zero, List.set_cons_succ, i64_w, i32_w]; rfl
       refine q_t 3 (some 28) (bz 8 47) (take_ofW HT_.out HW_.out (by kernel_rfl)) hHeld (v := ?_) ?_ (a' := ?_) ?_ ?_; rotate_left 2
       ·rintro w' ⟨s0, s1, s2, s3, s4, s5, s6, s7, s8, s9, s10, s11, s12, s13, s14, s15, s16, s17, s18, s19, s20, s21, s22, s23, s24, s25, s26, s27, s28, s29, s30, s31, s32, s33, s34, s35, s36, s37, s38, s39, s40, s41, s42, s43, s44, s45, s46, s47, s48⟩; (refine (s_ld rfl 54 (.tmp 27) ?_ _ ?_ _ _ (cells_at s32 (s_cc s33 (s_cc s34 (s_cc s35 (s_cc s36 (s_cc s37 (s_cc s38 (s_cc s39 (s_cc s40 (s_cc s41 (s_cc s42 (s_cc s43 (s_cc s44 (s_cc s45 (s_cc s46 (s_cc s47 (s_cc s48 s_cn))))))))))))))))) Try.underlying54 (by rfl) sz54).trans ?_ <;> first | (with_reducible rfl) | rfl)
       ·simp only [Act.put, List.setIfInBounds_toArray, List.set_cons_zero, List.set_cons_succ, i64_w, i32_w]; rfl
       refine q_t 4 (some 29) (bz 8 63) (take_ofW HT_.out HW_.out (by kernel_rfl)) hHeld (v := ?_) ?_ (a' := ?_) ?_ ?_; rotate_left 2
       ·rintro w' ⟨s0, s1, s2, s3, s4, s5, s6, s7, s8, s9, s10, s11, s12, s13, s14, s15, s16, s17, s18, s19, s20, s21, s22, s23, s24, s25, s26, s27, s28, s29, s30, s31, s32, s33, s34, s35, s36, s37, s38, s39, s40, s41, s42, s43, s44, s45, s46, s47, s48⟩; (refine (s_ld rfl 41 (.tmp 6) ?_ _ ?_ _ _ (cells_at s0 (s_cc s1 (s_cc s2 (s_cc s3 (s_cc s4 (s_cc s5 (s_cc s6 (s_cc s7 (s_cc s8 (s_cc s9 (s_cc s10 (s_cc s11 (s_cc s12 (s_cc s13 (s_cc s14 (s_cc s15 (s_cc s16 (s_cc s17 (s_cc s18 (s_cc s19 (s_cc s20 (s_cc s21 (s_cc s22 (s_cc s23 (s_cc s24 (s_cc s25 (s_cc s26 (s_cc s27 (s_cc s28 (s_cc s29 (s_cc s30 (s_cc s31 s_cn)))))))))))))))))))))))))))))))) Try.underlying41 (by rfl) sz41).trans ?_ <;> first | (with_reducible rfl) | rfl)
       ·simp only [Act.put, List.setIfInBounds_toArray, List.set_cons_zero, List.set_cons_succ, i64_w, i32_w]; rfl
       refine one_ (i := 6) (N := some 31) (bz 8 127) rfl rfl (one_of HT_.out (by kernel_rfl)) (by decide) (fun K hK => ?_)
       refine goes_ Try.func21 (by kernel_rfl) rfl #[.agg #[.string ((rd_T54 l0 x11_1).f0.f0), .string ((rd_T54 l0 x11_1).f0.f1), .string ((rd_T54 l0 x11_1).f0.f2), .int .i64 ((rd_T54 l0 x11_1).f0.f3), .int .i64 ((rd_T54 l0 x11_1).f0.f4), .int .i64 ((rd_T54 l0 x11_1).f0.f5), .int .i64 ((rd_T54 l0 x11_1).f0.f6), .bool ((rd_T54 l0 x11_1).f0.f7), .int .i64 ((rd_T54 l0 x11_1).f0.f8), .slice A467_9 ((rd_T54 l0 x11_1).f0.f9).length c467_9, .slice A467_10 ((rd_T54 l0 x11_1).f0.f10).length c467_10, .slice A467_11 ((rd_T54 l0 x11_1).f0.f11).length c467_11, .slice A467_12 ((rd_T54 l0 x11_1).f0.f12).length c467_12, .slice A467_13 ((rd_T54 l0 x11_1).f1).length c467_13, .bool ((rd_T54 l0 x11_1).f2), .bool ((rd_T54 l0 x11_1).f3), .slice A467_16 ((rd_T54 l0 x11_1).f4).length c467_16], .agg #[.string a1_0, .string a1_1, .string a1_2, .int .i64 a1_3, .int .i64 a1_4, .int .i64 a1_5, .int .i64 a1_6, .bool a1_7, .int .i64 a1_8, .slice A1_9 l1_9.length c1_9, .slice A1_10 l1_10.length c1_10, .slice A1_11 l1_11.length c1_11, .slice A1_12 l1_12.length c1_12, .string a1_13, .int .i64 a1_14, .int .i64 a1_15, .int .i64 a1_16, .slice A1_17 l1_17.length c1_17, .slice A1_18 l1_18.length c1_18, .slice A1_19 l1_19.length c1_19, .slice A1_20 l1_20.length c1_20, .slice A1_21 l1_21.length c1_21, .slice A1_22 l1_22.length c1_22, .int .i64 a1_23, .bool a1_24, .int .i64 a1_25, .int .i64 a1_26, .int .i64 a1_27, .slice A1_28 l1_28.length c1_28, .int .i64 a1_29, .string a1_30, .string a1_31], .bool a3] (by rfl) rfl rfl (by (try simp only [List.map_toArray, List.map_cons, List.map_nil]); first | done | rfl | (simp only [List.length_drop, List.length_take]; rfl)) ?_
       with_reducible refine (orchestratorref57_isolates.calls k1 _ _ _ _ _ _ _ _ _ _ _ _ _ _ _ _ _ _ _ _ _ _ _ _ _ _ _ _ _ _ _ _ _ _ _ _ _ _ _ _ _ _ _ _ _ _ _ _ _ _ _ _ _ _ _ _ _ _ _ _ _ _ _ _ _ _ _ _ _ _ _ _ _ _ _ _ _ _ _ _ _ _ _ _ _ _ ?side1 ?side2 ?side3 ?side4 ?side5 ?side6 ?side7 ?side8 ?side9 ?side10 ?side11 ?side12 ?side13 ?side14 ?side15 ?side16 ?side17 ?side18 ?side19 ?side20 ?side21 ?side22 ?side23 ?side24 ?side25 ?side26 ?side27 ?side28 ?side29 ?side30 ?side31 ?side32 ?side33 ?side34 A13.out).mono ?_
       (case side1 => exact s_D HR467_9.out HB.out)
       (case side2 => exact HC467_9.out)
       (case side3 => exact s_D HR467_10.out HB.out)
       (case side4 => exact HC467_10.out)
       (case side5 => exact s_D HR467_11.out HB.out)
       (case side6 => exact HC467_11.out)
       (case side7 => exact s_D HR467_12.out HB.out)
       (case side8 => exact HC467_12.out)
       (case side9 => exact s_D HR467_13.out HB.out)
       (case side10 => exact HC467_13.out)
       (case side11 => exact s_D HR467_16.out HB.out)
       (case side12 => exact HC467_16.out)
       (case side13 => exact s_D HR1_9.out HB.out)
       (case side14 => exact HC1_9.out)
       (case side15 => exact s_D HR1_10.out HB.out)
       (case side16 => exact HC1_10.out)
       (case side17 => exact s_D HR1_11.out HB.out)
       (case side18 => exact HC1_11.out)
       (case side19 => exact s_D HR1_12.out HB.out)
       (case side20 => exact HC1_12.out)
       (case side21 => exact s_D HR1_17.out HB.out)
       (case side22 => exact HC1_17.out)
       (case side23 => exact s_D HR1_18.out HB.out)
       (case side24 => exact HC1_18.out)
       (case side25 => exact s_D HR1_19.out HB.out)
       (case side26 => exact HC1_19.out)
       (case side27 => exact s_D HR1_20.out HB.out)
       (case side28 => exact HC1_20.out)
       (case side29 => exact s_D HR1_21.out HB.out)
       (case side30 => exact HC1_21.out)
       (case side31 => exact s_D HR1_22.out HB.out)
       (case side32 => exact HC1_22.out)
       (case side33 => exact s_D HR1_28.out HB.out)
       (case side34 => exact HC1_28.out)
       rintro e w56 ⟨rfl, hb⟩
       refine ⟨_, rfl, ?_⟩
       replace BK464 := s_a (blk_below (s_k BK464.out) hb)
       replace BK465 := s_a (blk_below (s_k BK465.out) hb)
       replace HB := s_a (below_step (by exact s_b HB.out) hb)
       (try clear hb)
       refine hK.out _ _ ⟨s_x BK464.out 0, s_x BK464.out 1, s_x BK464.out 2, s_x BK464.out 3, s_x BK464.out 4, s_x BK464.out 5, s_x BK464.out 6, s_x BK464.out 7, s_x BK464.out 8, s_x BK464.out 9, s_x BK464.out 10, s_x BK464.out 11, s_x BK464.out 12, s_x BK464.out 13, s_x BK464.out 14, s_x BK464.out 15, s_x BK464.out 16, s_x BK464.out 17, s_x BK464.out 18, s_x BK464.out 19, s_x BK464.out 20, s_x BK464.out 21, s_x BK464.out 22, s_x BK464.out 23, s_x BK464.out 24, s_x BK464.out 25, s_x BK464.out 26, s_x BK464.out 27, s_x BK464.out 28, s_x BK464.out 29, s_x BK464.out 30, s_x BK464.out 31, (s_m HB.out hw467_0), (s_m HB.out hw467_1), (s_m HB.out hw467_2), (s_m HB.out hw467_3), (s_m HB.out hw467_4), (s_m HB.out hw467_5), (s_m HB.out hw467_6), (s_m HB.out hw467_7), (s_m HB.out hw467_8), (s_m HB.out hw467_9), (s_m HB.out hw467_10), (s_m HB.out hw467_11), (s_m HB.out hw467_12), (s_m HB.out hw467_13), (s_m HB.out hw467_14), (s_m HB.out hw467_15), (s_m HB.out hw467_16)⟩ (fun hHeld => ?_)
       clear hK K
       refine norm_ (a' := ?_) ?_ ?_
       rotate_left
       ·show Act.put _ (some 31) _ = _
        simp only [Act.put, List.setIfInBounds_toArray, List.set_cons_zero, List.set_cons_succ, i64_w, i32_w]
        rfl
       refine q_p 7 (some 32) (bz 8 255) (any_of HT_.out (by kernel_rfl)) (v := ?_) ?_ (a' := ?_) ?_ ?_; rotate_left 2
       ·intro w'; go_simp; with_reducible rfl
       ·simp only [Act.put, List.setIfInBounds_toArray, List.set_cons_zero, List.set_cons_succ, i64_w, i32_w]; rfl
       refine done_ (done_of HT_.out (by kernel_rfl)) ?_
       try go_wp2
       go_roundg k1
       case measure => have := HK1.out; omega
       case rel => exact ⟨(wrap64 (x11_1 + 1)), (by first | rfl | (simp; done) | (simp [*]; done)), H', ⟨by have := HK1.out; omega⟩, ⟨by exact s_k BK464.out⟩, ⟨by exact s_k BK465.out⟩, ⟨by exact s_b HB.out⟩⟩
     ·rw [if_neg c12] at H
      exact absurd H (by simp)
    ·rw [if_neg c11] at H
     have c11b0 : decide (x11_1 < (l0.length : Int)) = false := decide_eq_false c11
     clear c11
     obtain rfl := Option.some.inj H
     go_wp2
     go_ret
     exact ⟨by first | rfl | (simp [errW_none, errW_some] <;> rfl) | (simp [*, errW_none, errW_some] <;> rfl), by exact s_b HB.out⟩
 ·replace c7 := Bool.eq_false_iff.mpr c7
  subst c7
  (try rw [if_neg (show ¬ (false = true) by decide)] at H)
  obtain rfl := Option.some.inj H
  go_enter Try.func25, Try.ntmps25
  go_wp2_with (first | ((with_reducible refine gate_dst (N := 6) rfl ?_); refine box_event ?hg (N := 6) ?hd (cs := #[.string a1_0, .string a1_1, .string a1_2, .int .i64 a1_3, .int .i64 a1_4, .int .i64 a1_5, .int .i64 a1_6, .bool a1_7, .int .i64 a1_8, .slice A1_9 l1_9.length c1_9, .slice A1_10 l1_10.length c1_10, .slice A1_11 l1_11.length c1_11, .slice A1_12 l1_12.length c1_12, .string a1_13, .int .i64 a1_14, .int .i64 a1_15, .int .i64 a1_16, .slice A1_17 l1_17.length c1_17, .slice A1_18 l1_18.length c1_18, .slice A1_19 l1_19.length c1_19, .slice A1_20 l1_20.length c1_20, .slice A1_21 l1_21.length c1_21, .slice A1_22 l1_22.length c1_22, .int .i64 a1_23, .bool a1_24, .int .i64 a1_25, .int .i64 a1_26, .int .i64 a1_27, .slice A1_28 l1_28.length c1_28, .int .i64 a1_29, .string a1_30, .string a1_31]) (t := 41) ?hr ?_; (case hd => rfl); (case hg => rfl); (case hr => first | (go_simp; done) | (go_simp; rfl)); intro gb464 hg w57 hbox hb; have BK464 := s_a (hbox); have GW464 := s_a ((by rw [hg]; exact (below_size (by exact s_b HB.out)) : w.heap.size ≤ gb464)); have GE464 := s_a ((by rw [hg]; exact (below_size (by exact s_b HB.out)) : w.heap.size ≤ gb464)); replace HB := s_a (below_step (by exact s_b HB.out) hb); clear hb hbox hg) | ((with_reducible refine gate_dst (N := 7) rfl ?_); refine box_event ?hg (N := 7) ?hd (cs := #[.string a2_0, .string a2_1, .string a2_2, .int .i64 a2_3, .int .i64 a2_4, .int .i64 a2_5, .int .i64 a2_6, .bool a2_7, .int .i64 a2_8, .slice A2_9 l2_9.length c2_9, .slice A2_10 l2_10.length c2_10, .slice A2_11 l2_11.length c2_11, .slice A2_12 l2_12.length c2_12, .string a2_13, .int .i64 a2_14, .int .i64 a2_15, .int .i64 a2_16, .slice A2_17 l2_17.length c2_17, .slice A2_18 l2_18.length c2_18, .slice A2_19 l2_19.length c2_19, .slice A2_20 l2_20.length c2_20, .slice A2_21 l2_21.length c2_21, .slice A2_22 l2_22.length c2_22, .int .i64 a2_23, .bool a2_24, .int .i64 a2_25, .int .i64 a2_26, .int .i64 a2_27, .slice A2_28 l2_28.length c2_28, .int .i64 a2_29, .string a2_30, .string a2_31]) (t := 41) ?hr ?_; (case hd => rfl); (case hg => rfl); (case hr => first | (go_simp; done) | (go_simp; rfl)); intro gb465 hg w58 hbox hb; have BK465 := s_a (hbox); have GW465 := s_a ((by rw [hg]; exact (below_size (by exact s_b HB.out)) : w.heap.size ≤ gb465)); have GE465 := s_a ((by rw [hg]; exact (below_size (by exact s_b HB.out)) : w.heap.size ≤ gb465)); have NB464_465 := s_a ((by rw [hg]; exact Nat.ne_of_lt (blk_lt (s_k BK464.out)) : gb464 ≠ gb465)); have NB465_464 := s_a ((by rw [hg]; exact Nat.ne_of_gt (blk_lt (s_k BK464.out)) : gb465 ≠ gb464)); replace BK464 := s_a (blk_below (s_k BK464.out) hb); replace HB := s_a (below_step (by exact s_b HB.out) hb); clear hb hbox hg) | ((with_reducible refine gate_dst (N := 15) rfl ?_); refine wpList_load_row rfl 41 (.tmp 6) rfl gb464 rfl 41 _ (0, 0) _ (s_k BK464.out) Try.underlying41 rfl sz41 ?_) | ((with_reducible refine gate_callee (f := 10) rfl ?_); refine goesL_ (some 17) rfl rfl Try.func10 (by kernel_rfl) rfl #[.slice A0 l0.length c0, .agg #[.string a1_0, .string a1_1, .string a1_2, .int .i64 a1_3, .int .i64 a1_4, .int .i64 a1_5, .int .i64 a1_6, .bool a1_7, .int .i64 a1_8, .slice A1_9 l1_9.length c1_9, .slice A1_10 l1_10.length c1_10, .slice A1_11 l1_11.length c1_11, .slice A1_12 l1_12.length c1_12, .string a1_13, .int .i64 a1_14, .int .i64 a1_15, .int .i64 a1_16, .slice A1_17 l1_17.length c1_17, .slice A1_18 l1_18.length c1_18, .slice A1_19 l1_19.length c1_19, .slice A1_20 l1_20.length c1_20, .slice A1_21 l1_21.length c1_21, .slice A1_22 l1_22.length c1_22, .int .i64 a1_23, .bool a1_24, .int .i64 a1_25, .int .i64 a1_26, .int .i64 a1_27, .slice A1_28 l1_28.length c1_28, .int .i64 a1_29, .string a1_30, .string a1_31], .bool a3] rfl (by (try simp only [List.map_toArray, List.map_cons, List.map_nil]); first | done | rfl | (simp only [List.length_drop, List.length_take]; rfl)) ?_; (with_reducible refine (orchestratorref57_Isolated.calls k _ _ _ _ _ _ _ _ _ _ _ _ _ _ _ _ _ _ _ _ _ _ _ _ _ _ _ _ _ _ _ _ _ _ _ _ _ _ _ _ _ _ _ _ _ _ _ _ _ _ _ _ _ _ _ _ _ _ _ _ ?side1 ?side2 ?side3 ?side4 ?side5 ?side6 ?side7 ?side8 ?side9 ?side10 ?side11 ?side12 ?side13 ?side14 ?side15 ?side16 ?side17 ?side18 ?side19 ?side20 ?side21 ?side22 ?side23 ?side24 A6.out).mono ?_); (case side1 => exact s_D HR0.out HB.out); (case side2 => exact HC0.out); (case side3 => exact s_D HR1_9.out HB.out); (case side4 => exact HC1_9.out); (case side5 => exact s_D HR1_10.out HB.out); (case side6 => exact HC1_10.out); (case side7 => exact s_D HR1_11.out HB.out); (case side8 => exact HC1_11.out); (case side9 => exact s_D HR1_12.out HB.out); (case side10 => exact HC1_12.out); (case side11 => exact s_D HR1_17.out HB.out); (case side12 => exact HC1_17.out); (case side13 => exact s_D HR1_18.out HB.out); (case side14 => exact HC1_18.out); (case side15 => exact s_D HR1_19.out HB.out); (case side16 => exact HC1_19.out); (case side17 => exact s_D HR1_20.out HB.out); (case side18 => exact HC1_20.out); (case side19 => exact s_D HR1_21.out HB.out); (case side20 => exact HC1_21.out); (case side21 => exact s_D HR1_22.out HB.out); (case side22 => exact HC1_22.out); (case side23 => exact s_D HR1_28.out HB.out); (case side24 => exact HC1_28.out); rintro e w59 ⟨rfl, hb⟩; refine ⟨_, rfl, ?_⟩; replace BK464 := s_a (blk_below (s_k BK464.out) hb); replace BK465 := s_a (blk_below (s_k BK465.out) hb); replace HB := s_a (below_step (by exact s_b HB.out) hb); (try clear hb)))
  go_ret
  exact ⟨by first | rfl | (simp [errW_none, errW_some] <;> rfl) | (simp [*, errW_none, errW_some] <;> rfl), by exact s_b HB.out⟩
end Go.Proofs.Ytkdikhonafbgdaa.Q
