/- Part of a claim: see its row. Conditions: stated at each. -/
import Derived.Test.YtkdikhonafbgdaaZOQ0
import Derived.Test.YtkdikhonafbgdaaZOQ2
import Derived.Test.YtkdikhonafbgdaaZOQ3
import Derived.Test.YtkdikhonafbgdaaZOQ6
import Derived.Test.YtkdikhonafbgdaaZOQ9
namespace Go.Proofs.Ytkdikhonafbgdaa.Q
open Go.RowKit Go.Proofs.YtkdikhonafbgdaaW.PrintWords Go.Proofs.YtkdikhonafbgdaaW.PrintLast Go.Proofs.YtkdikhonafbgdaaW.PrintMore Go.Proofs.Ytkdikhonafbgdaa.Sh
attribute [local go_sem] max2_int min2_int max_two min_two max_three min_three max_four min_four
set_option linter.unusedVariables false
set_option linter.unusedSimpArgs false
mutual
def orchestratorlaw57_NetpolicyOrder.l0 : Nat → List (S54) → Int → List (S54) → Int → ByteArray → ByteArray → ByteArray → Int → Int → Int → Int → Bool → Int → List (S72) → List (S110) → List ByteArray → List (S112) → ByteArray → Int → Int → Int → List (S117) → List (S74) → List (S119) → List (S121) → List (S123) → List (S125) → Int → Bool → Int → Int → Int → List (S127) → Int → ByteArray → ByteArray → ByteArray → ByteArray → ByteArray → Int → Int → Int → Int → Bool → Int → List (S72) → List (S110) → List ByteArray → List (S112) → ByteArray → Int → Int → Int → List (S117) → List (S74) → List (S119) → List (S121) → List (S123) → List (S125) → Int → Bool → Int → Int → Int → List (S127) → Int → ByteArray → ByteArray → Option (Bool)
 | 0, _, _, _, _, _, _, _, _, _, _, _, _, _, _, _, _, _, _, _, _, _, _, _, _, _, _, _, _, _, _, _, _, _, _, _, _, _, _, _, _, _, _, _, _, _, _, _, _, _, _, _, _, _, _, _, _, _, _, _, _, _, _, _, _, _, _, _, _ => none
 | k + 1, x0, x3, x9, x10, x547000, x547001, x547002, x547003, x547004, x547005, x547006, x547007, x547008, x547009, x547010, x547011, x547012, x547013, x547014, x547015, x547016, x547017, x547018, x547019, x547020, x547021, x547022, x547023, x547024, x547025, x547026, x547027, x547028, x547029, x547030, x547031, x548000, x548001, x548002, x548003, x548004, x548005, x548006, x548007, x548008, x548009, x548010, x548011, x548012, x548013, x548014, x548015, x548016, x548017, x548018, x548019, x548020, x548021, x548022, x548023, x548024, x548025, x548026, x548027, x548028, x548029, x548030, x548031 => if x10 ≥ 0 then (if 0 ≤ x10 then (if x10 < (x0.length : Int) then (orchestratorlaw57_NetpolicyOrder.l1 k x0 x3 x9 x10 (wrap64 ((((rd_T54 x0 x10).f4).length : Int) - 1)) x547000 x547001 x547002 x547003 x547004 x547005 x547006 x547007 x547008 x547009 x547010 x547011 x547012 x547013 x547014 x547015 x547016 x547017 x547018 x547019 x547020 x547021 x547022 x547023 x547024 x547025 x547026 x547027 x547028 x547029 x547030 x547031 x548000 x548001 x548002 x548003 x548004 x548005 x548006 x548007 x548008 x548009 x548010 x548011 x548012 x548013 x548014 x548015 x548016 x548017 x548018 x548019 x548020 x548021 x548022 x548023 x548024 x548025 x548026 x548027 x548028 x548029 x548030 x548031 ((rd_T54 x0 x10).f0.f0) ((rd_T54 x0 x10).f0.f1) ((rd_T54 x0 x10).f0.f2) ((rd_T54 x0 x10).f0.f3) ((rd_T54 x0 x10).f0.f4) ((rd_T54 x0 x10).f0.f5) ((rd_T54 x0 x10).f0.f6) ((rd_T54 x0 x10).f0.f7) ((rd_T54 x0 x10).f0.f8) ((rd_T54 x0 x10).f0.f9) ((rd_T54 x0 x10).f0.f10) ((rd_T54 x0 x10).f0.f11) ((rd_T54 x0 x10).f0.f12) ((rd_T54 x0 x10).f1) ((rd_T54 x0 x10).f2) ((rd_T54 x0 x10).f3) ([] : List (S58))) else (none)) else (none)) else ((netpolicy_Allowed.f k x0 x547000 x547001 x547002 x547003 x547004 x547005 x547006 x547007 x547008 x547009 x547010 x547011 x547012 x547013 x547014 x547015 x547016 x547017 x547018 x547019 x547020 x547021 x547022 x547023 x547024 x547025 x547026 x547027 x547028 x547029 x547030 x547031 x548000 x548001 x548002 x548003 x548004 x548005 x548006 x548007 x548008 x548009 x548010 x548011 x548012 x548013 x548014 x548015 x548016 x548017 x548018 x548019 x548020 x548021 x548022 x548023 x548024 x548025 x548026 x548027 x548028 x548029 x548030 x548031 x3).bind fun t561 => ((netpolicy_Allowed.f k x9 x547000 x547001 x547002 x547003 x547004 x547005 x547006 x547007 x547008 x547009 x547010 x547011 x547012 x547013 x547014 x547015 x547016 x547017 x547018 x547019 x547020 x547021 x547022 x547023 x547024 x547025 x547026 x547027 x547028 x547029 x547030 x547031 x548000 x548001 x548002 x548003 x548004 x548005 x548006 x548007 x548008 x548009 x548010 x548011 x548012 x548013 x548014 x548015 x548016 x548017 x548018 x548019 x548020 x548021 x548022 x548023 x548024 x548025 x548026 x548027 x548028 x548029 x548030 x548031 x3).bind fun t562 => (if (t561 != t562) = true then (orchestratorlaw57_NetpolicyOrder.j2 k x0 x3 true x547000 x547001 x547002 x547003 x547004 x547005 x547006 x547007 x547008 x547009 x547010 x547011 x547012 x547013 x547014 x547015 x547016 x547017 x547018 x547019 x547020 x547021 x547022 x547023 x547024 x547025 x547026 x547027 x547028 x547029 x547030 x547031 x548000 x548001 x548002 x548003 x548004 x548005 x548006 x548007 x548008 x548009 x548010 x548011 x548012 x548013 x548014 x548015 x548016 x548017 x548018 x548019 x548020 x548021 x548022 x548023 x548024 x548025 x548026 x548027 x548028 x548029 x548030 x548031) else ((netpolicy_Isolated.f k x0 x547000 x547001 x547002 x547003 x547004 x547005 x547006 x547007 x547008 x547009 x547010 x547011 x547012 x547013 x547014 x547015 x547016 x547017 x547018 x547019 x547020 x547021 x547022 x547023 x547024 x547025 x547026 x547027 x547028 x547029 x547030 x547031 true).bind fun t563 => ((netpolicy_Isolated.f k x9 x547000 x547001 x547002 x547003 x547004 x547005 x547006 x547007 x547008 x547009 x547010 x547011 x547012 x547013 x547014 x547015 x547016 x547017 x547018 x547019 x547020 x547021 x547022 x547023 x547024 x547025 x547026 x547027 x547028 x547029 x547030 x547031 true).bind fun t564 => (orchestratorlaw57_NetpolicyOrder.j2 k x0 x3 (t563 != t564) x547000 x547001 x547002 x547003 x547004 x547005 x547006 x547007 x547008 x547009 x547010 x547011 x547012 x547013 x547014 x547015 x547016 x547017 x547018 x547019 x547020 x547021 x547022 x547023 x547024 x547025 x547026 x547027 x547028 x547029 x547030 x547031 x548000 x548001 x548002 x548003 x548004 x548005 x548006 x548007 x548008 x548009 x548010 x548011 x548012 x548013 x548014 x548015 x548016 x548017 x548018 x548019 x548020 x548021 x548022 x548023 x548024 x548025 x548026 x548027 x548028 x548029 x548030 x548031))))))
def orchestratorlaw57_NetpolicyOrder.l1 : Nat → List (S54) → Int → List (S54) → Int → Int → ByteArray → ByteArray → ByteArray → Int → Int → Int → Int → Bool → Int → List (S72) → List (S110) → List ByteArray → List (S112) → ByteArray → Int → Int → Int → List (S117) → List (S74) → List (S119) → List (S121) → List (S123) → List (S125) → Int → Bool → Int → Int → Int → List (S127) → Int → ByteArray → ByteArray → ByteArray → ByteArray → ByteArray → Int → Int → Int → Int → Bool → Int → List (S72) → List (S110) → List ByteArray → List (S112) → ByteArray → Int → Int → Int → List (S117) → List (S74) → List (S119) → List (S121) → List (S123) → List (S125) → Int → Bool → Int → Int → Int → List (S127) → Int → ByteArray → ByteArray → ByteArray → ByteArray → ByteArray → Int → Int → Int → Int → Bool → Int → List (S72) → List (S110) → List ByteArray → List (S112) → List (S74) → Bool → Bool → List (S58) → Option (Bool)
 | 0, _, _, _, _, _, _, _, _, _, _, _, _, _, _, _, _, _, _, _, _, _, _, _, _, _, _, _, _, _, _, _, _, _, _, _, _, _, _, _, _, _, _, _, _, _, _, _, _, _, _, _, _, _, _, _, _, _, _, _, _, _, _, _, _, _, _, _, _, _, _, _, _, _, _, _, _, _, _, _, _, _, _, _, _, _, _ => none
 | k + 1, x0, x3, x9, x10, x12, x547000, x547001, x547002, x547003, x547004, x547005, x547006, x547007, x547008, x547009, x547010, x547011, x547012, x547013, x547014, x547015, x547016, x547017, x547018, x547019, x547020, x547021, x547022, x547023, x547024, x547025, x547026, x547027, x547028, x547029, x547030, x547031, x548000, x548001, x548002, x548003, x548004, x548005, x548006, x548007, x548008, x548009, x548010, x548011, x548012, x548013, x548014, x548015, x548016, x548017, x548018, x548019, x548020, x548021, x548022, x548023, x548024, x548025, x548026, x548027, x548028, x548029, x548030, x548031, x552000, x552001, x552002, x552003, x552004, x552005, x552006, x552007, x552008, x552009, x552010, x552011, x552012, x552013, x552014, x552015, x552016 => if x12 ≥ 0 then (if 0 ≤ x10 then (if x10 < (x0.length : Int) then (if 0 ≤ x12 then (if x12 < (((rd_T54 x0 x10).f4).length : Int) then (if x552016.length < 2513169434916 then (orchestratorlaw57_NetpolicyOrder.l1 k x0 x3 x9 x10 (wrap64 (x12 - 1)) x547000 x547001 x547002 x547003 x547004 x547005 x547006 x547007 x547008 x547009 x547010 x547011 x547012 x547013 x547014 x547015 x547016 x547017 x547018 x547019 x547020 x547021 x547022 x547023 x547024 x547025 x547026 x547027 x547028 x547029 x547030 x547031 x548000 x548001 x548002 x548003 x548004 x548005 x548006 x548007 x548008 x548009 x548010 x548011 x548012 x548013 x548014 x548015 x548016 x548017 x548018 x548019 x548020 x548021 x548022 x548023 x548024 x548025 x548026 x548027 x548028 x548029 x548030 x548031 x552000 x552001 x552002 x552003 x552004 x552005 x552006 x552007 x552008 x552009 x552010 x552011 x552012 x552013 x552014 x552015 (x552016 ++ [(⟨(rd_T58 ((rd_T54 x0 x10).f4) x12).f0, (rd_T58 ((rd_T54 x0 x10).f4) x12).f1, (rd_T58 ((rd_T54 x0 x10).f4) x12).f2⟩ : S58)])) else (none)) else (none)) else (none)) else (none)) else (none)) else (if x9.length < 567489872400 then (orchestratorlaw57_NetpolicyOrder.l0 k x0 x3 (x9 ++ [(⟨(⟨x552000, x552001, x552002, x552003, x552004, x552005, x552006, x552007, x552008, x552009, x552010, x552011, x552012⟩ : S28), x552013, x552014, x552015, x552016⟩ : S54)]) (wrap64 (x10 - 1)) x547000 x547001 x547002 x547003 x547004 x547005 x547006 x547007 x547008 x547009 x547010 x547011 x547012 x547013 x547014 x547015 x547016 x547017 x547018 x547019 x547020 x547021 x547022 x547023 x547024 x547025 x547026 x547027 x547028 x547029 x547030 x547031 x548000 x548001 x548002 x548003 x548004 x548005 x548006 x548007 x548008 x548009 x548010 x548011 x548012 x548013 x548014 x548015 x548016 x548017 x548018 x548019 x548020 x548021 x548022 x548023 x548024 x548025 x548026 x548027 x548028 x548029 x548030 x548031) else (none))
def orchestratorlaw57_NetpolicyOrder.j2 : Nat → List (S54) → Int → Bool → ByteArray → ByteArray → ByteArray → Int → Int → Int → Int → Bool → Int → List (S72) → List (S110) → List ByteArray → List (S112) → ByteArray → Int → Int → Int → List (S117) → List (S74) → List (S119) → List (S121) → List (S123) → List (S125) → Int → Bool → Int → Int → Int → List (S127) → Int → ByteArray → ByteArray → ByteArray → ByteArray → ByteArray → Int → Int → Int → Int → Bool → Int → List (S72) → List (S110) → List ByteArray → List (S112) → ByteArray → Int → Int → Int → List (S117) → List (S74) → List (S119) → List (S121) → List (S123) → List (S125) → Int → Bool → Int → Int → Int → List (S127) → Int → ByteArray → ByteArray → Option (Bool)
 | 0, _, _, _, _, _, _, _, _, _, _, _, _, _, _, _, _, _, _, _, _, _, _, _, _, _, _, _, _, _, _, _, _, _, _, _, _, _, _, _, _, _, _, _, _, _, _, _, _, _, _, _, _, _, _, _, _, _, _, _, _, _, _, _, _, _, _, _ => none
 | k + 1, x0, x3, x76, x547000, x547001, x547002, x547003, x547004, x547005, x547006, x547007, x547008, x547009, x547010, x547011, x547012, x547013, x547014, x547015, x547016, x547017, x547018, x547019, x547020, x547021, x547022, x547023, x547024, x547025, x547026, x547027, x547028, x547029, x547030, x547031, x548000, x548001, x548002, x548003, x548004, x548005, x548006, x548007, x548008, x548009, x548010, x548011, x548012, x548013, x548014, x548015, x548016, x548017, x548018, x548019, x548020, x548021, x548022, x548023, x548024, x548025, x548026, x548027, x548028, x548029, x548030, x548031 => if x76 = true then (some false) else ((orchestratorlaw57_lives.f k).bind fun t565 => (if t565 = true then ((netpolicy_Allowed.f k ([] : List (S54)) x547000 x547001 x547002 x547003 x547004 x547005 x547006 x547007 x547008 x547009 x547010 x547011 x547012 x547013 x547014 x547015 x547016 x547017 x547018 x547019 x547020 x547021 x547022 x547023 x547024 x547025 x547026 x547027 x547028 x547029 x547030 x547031 x548000 x548001 x548002 x548003 x548004 x548005 x548006 x548007 x548008 x548009 x548010 x548011 x548012 x548013 x548014 x548015 x548016 x548017 x548018 x548019 x548020 x548021 x548022 x548023 x548024 x548025 x548026 x548027 x548028 x548029 x548030 x548031 x3).bind fun t566 => (if t566 = true then ((netpolicy_Allowed.f k x0 x547000 x547001 x547002 x547003 x547004 x547005 x547006 x547007 x547008 x547009 x547010 x547011 x547012 x547013 x547014 x547015 x547016 x547017 x547018 x547019 x547020 x547021 x547022 x547023 x547024 x547025 x547026 x547027 x547028 x547029 x547030 x547031 x547000 x547001 x547002 x547003 x547004 x547005 x547006 x547007 x547008 x547009 x547010 x547011 x547012 x547013 x547014 x547015 x547016 x547017 x547018 x547019 x547020 x547021 x547022 x547023 x547024 x547025 x547026 x547027 x547028 x547029 x547030 x547031 x3).bind fun t567 => (if t567 = true then ((netpolicy_Isolated.f k ([] : List (S54)) x547000 x547001 x547002 x547003 x547004 x547005 x547006 x547007 x547008 x547009 x547010 x547011 x547012 x547013 x547014 x547015 x547016 x547017 x547018 x547019 x547020 x547021 x547022 x547023 x547024 x547025 x547026 x547027 x547028 x547029 x547030 x547031 true).bind fun t568 => (if t568 = true then (some false) else (some true))) else (some false))) else (some false))) else (some false)))
end
def orchestratorlaw57_NetpolicyOrder.f (k : Nat) (l0 : List (S54)) (a1_0 : ByteArray) (a1_1 : ByteArray) (a1_2 : ByteArray) (a1_3 : Int) (a1_4 : Int) (a1_5 : Int) (a1_6 : Int) (a1_7 : Bool) (a1_8 : Int) (l1_9 : List (S72)) (l1_10 : List (S110)) (l1_11 : List ByteArray) (l1_12 : List (S112)) (a1_13 : ByteArray) (a1_14 : Int) (a1_15 : Int) (a1_16 : Int) (l1_17 : List (S117)) (l1_18 : List (S74)) (l1_19 : List (S119)) (l1_20 : List (S121)) (l1_21 : List (S123)) (l1_22 : List (S125)) (a1_23 : Int) (a1_24 : Bool) (a1_25 : Int) (a1_26 : Int) (a1_27 : Int) (l1_28 : List (S127)) (a1_29 : Int) (a1_30 : ByteArray) (a1_31 : ByteArray) (a2_0 : ByteArray) (a2_1 : ByteArray) (a2_2 : ByteArray) (a2_3 : Int) (a2_4 : Int) (a2_5 : Int) (a2_6 : Int) (a2_7 : Bool) (a2_8 : Int) (l2_9 : List (S72)) (l2_10 : List (S110)) (l2_11 : List ByteArray) (l2_12 : List (S112)) (a2_13 : ByteArray) (a2_14 : Int) (a2_15 : Int) (a2_16 : Int) (l2_17 : List (S117)) (l2_18 : List (S74)) (l2_19 : List (S119)) (l2_20 : List (S121)) (l2_21 : List (S123)) (l2_22 : List (S125)) (a2_23 : Int) (a2_24 : Bool) (a2_25 : Int) (a2_26 : Int) (a2_27 : Int) (l2_28 : List (S127)) (a2_29 : Int) (a2_30 : ByteArray) (a2_31 : ByteArray) (a3 : Int) : Option (Bool) := (orchestratorlaw57_small.f k l0).bind fun t548 => (if t548 = true then (orchestratorlaw57_NetpolicyOrder.l0 k l0 a3 ([] : List (S54)) (wrap64 ((l0.length : Int) - 1)) a1_0 a1_1 a1_2 a1_3 a1_4 a1_5 a1_6 a1_7 a1_8 l1_9 l1_10 l1_11 l1_12 a1_13 a1_14 a1_15 a1_16 l1_17 l1_18 l1_19 l1_20 l1_21 l1_22 a1_23 a1_24 a1_25 a1_26 a1_27 l1_28 a1_29 a1_30 a1_31 a2_0 a2_1 a2_2 a2_3 a2_4 a2_5 a2_6 a2_7 a2_8 l2_9 l2_10 l2_11 l2_12 a2_13 a2_14 a2_15 a2_16 l2_17 l2_18 l2_19 l2_20 l2_21 l2_22 a2_23 a2_24 a2_25 a2_26 a2_27 l2_28 a2_29 a2_30 a2_31) else ((orchestratorlaw57_lives.f k).bind fun t549 => (if t549 = true then (some true) else (some false))))
theorem orchestratorlaw57_NetpolicyOrder.mono_l : ∀ k, (∀ y0 y1 y2 y3 y4 y5 y6 y7 y8 y9 y10 y11 y12 y13 y14 y15 y16 y17 y18 y19 y20 y21 y22 y23 y24 y25 y26 y27 y28 y29 y30 y31 y32 y33 y34 y35 y36 y37 y38 y39 y40 y41 y42 y43 y44 y45 y46 y47 y48 y49 y50 y51 y52 y53 y54 y55 y56 y57 y58 y59 y60 y61 y62 y63 y64 y65 y66 y67, LeO (orchestratorlaw57_NetpolicyOrder.l0 k y0 y1 y2 y3 y4 y5 y6 y7 y8 y9 y10 y11 y12 y13 y14 y15 y16 y17 y18 y19 y20 y21 y22 y23 y24 y25 y26 y27 y28 y29 y30 y31 y32 y33 y34 y35 y36 y37 y38 y39 y40 y41 y42 y43 y44 y45 y46 y47 y48 y49 y50 y51 y52 y53 y54 y55 y56 y57 y58 y59 y60 y61 y62 y63 y64 y65 y66 y67) (orchestratorlaw57_NetpolicyOrder.l0 (k + 1) y0 y1 y2 y3 y4 y5 y6 y7 y8 y9 y10 y11 y12 y13 y14 y15 y16 y17 y18 y19 y20 y21 y22 y23 y24 y25 y26 y27 y28 y29 y30 y31 y32 y33 y34 y35 y36 y37 y38 y39 y40 y41 y42 y43 y44 y45 y46 y47 y48 y49 y50 y51 y52 y53 y54 y55 y56 y57 y58 y59 y60 y61 y62 y63 y64 y65 y66 y67)) ∧ (∀ y0 y1 y2 y3 y4 y5 y6 y7 y8 y9 y10 y11 y12 y13 y14 y15 y16 y17 y18 y19 y20 y21 y22 y23 y24 y25 y26 y27 y28 y29 y30 y31 y32 y33 y34 y35 y36 y37 y38 y39 y40 y41 y42 y43 y44 y45 y46 y47 y48 y49 y50 y51 y52 y53 y54 y55 y56 y57 y58 y59 y60 y61 y62 y63 y64 y65 y66 y67 y68 y69 y70 y71 y72 y73 y74 y75 y76 y77 y78 y79 y80 y81 y82 y83 y84 y85, LeO (orchestratorlaw57_NetpolicyOrder.l1 k y0 y1 y2 y3 y4 y5 y6 y7 y8 y9 y10 y11 y12 y13 y14 y15 y16 y17 y18 y19 y20 y21 y22 y23 y24 y25 y26 y27 y28 y29 y30 y31 y32 y33 y34 y35 y36 y37 y38 y39 y40 y41 y42 y43 y44 y45 y46 y47 y48 y49 y50 y51 y52 y53 y54 y55 y56 y57 y58 y59 y60 y61 y62 y63 y64 y65 y66 y67 y68 y69 y70 y71 y72 y73 y74 y75 y76 y77 y78 y79 y80 y81 y82 y83 y84 y85) (orchestratorlaw57_NetpolicyOrder.l1 (k + 1) y0 y1 y2 y3 y4 y5 y6 y7 y8 y9 y10 y11 y12 y13 y14 y15 y16 y17 y18 y19 y20 y21 y22 y23 y24 y25 y26 y27 y28 y29 y30 y31 y32 y33 y34 y35 y36 y37 y38 y39 y40 y41 y42 y43 y44 y45 y46 y47 y48 y49 y50 y51 y52 y53 y54 y55 y56 y57 y58 y59 y60 y61 y62 y63 y64 y65 y66 y67 y68 y69 y70 y71 y72 y73 y74 y75 y76 y77 y78 y79 y80 y81 y82 y83 y84 y85)) ∧ (∀ y0 y1 y2 y3 y4 y5 y6 y7 y8 y9 y10 y11 y12 y13 y14 y15 y16 y17 y18 y19 y20 y21 y22 y23 y24 y25 y26 y27 y28 y29 y30 y31 y32 y33 y34 y35 y36 y37 y38 y39 y40 y41 y42 y43 y44 y45 y46 y47 y48 y49 y50 y51 y52 y53 y54 y55 y56 y57 y58 y59 y60 y61 y62 y63 y64 y65 y66, LeO (orchestratorlaw57_NetpolicyOrder.j2 k y0 y1 y2 y3 y4 y5 y6 y7 y8 y9 y10 y11 y12 y13 y14 y15 y16 y17 y18 y19 y20 y21 y22 y23 y24 y25 y26 y27 y28 y29 y30 y31 y32 y33 y34 y35 y36 y37 y38 y39 y40 y41 y42 y43 y44 y45 y46 y47 y48 y49 y50 y51 y52 y53 y54 y55 y56 y57 y58 y59 y60 y61 y62 y63 y64 y65 y66) (orchestratorlaw57_NetpolicyOrder.j2 (k + 1) y0 y1 y2 y3 y4 y5 y6 y7 y8 y9 y10 y11 y12 y13 y14 y15 y16 y17 y18 y19 y20 y21 y22 y23 y24 y25 y26 y27 y28 y29 y30 y31 y32 y33 y34 y35 y36 y37 y38 y39 y40 y41 y42 y43 y44 y45 y46 y47 y48 y49 y50 y51 y52 y53 y54 y55 y56 y57 y58 y59 y60 y61 y62 y63 y64 y65 y66))
 | 0 => ⟨fun _ _ _ _ _ _ _ _ _ _ _ _ _ _ _ _ _ _ _ _ _ _ _ _ _ _ _ _ _ _ _ _ _ _ _ _ _ _ _ _ _ _ _ _ _ _ _ _ _ _ _ _ _ _ _ _ _ _ _ _ _ _ _ _ _ _ _ _ r h => by simp [orchestratorlaw57_NetpolicyOrder.l0] at h, fun _ _ _ _ _ _ _ _ _ _ _ _ _ _ _ _ _ _ _ _ _ _ _ _ _ _ _ _ _ _ _ _ _ _ _ _ _ _ _ _ _ _ _ _ _ _ _ _ _ _ _ _ _ _ _ _ _ _ _ _ _ _ _ _ _ _ _ _ _ _ _ _ _ _ _ _ _ _ _ _ _ _ _ _ _ _ r h => by simp [orchestratorlaw57_NetpolicyOrder.l1] at h, fun _ _ _ _ _ _ _ _ _ _ _ _ _ _ _ _ _ _ _ _ _ _ _ _ _ _ _ _ _ _ _ _ _ _ _ _ _ _ _ _ _ _ _ _ _ _ _ _ _ _ _ _ _ _ _ _ _ _ _ _ _ _ _ _ _ _ _ r h => by simp [orchestratorlaw57_NetpolicyOrder.j2] at h⟩
 | k + 1 => by
  obtain ⟨ih0, ih1, ih2⟩ := orchestratorlaw57_NetpolicyOrder.mono_l k
  refine ⟨?_, ?_, ?_⟩
  ·intro y0 y1 y2 y3 y4 y5 y6 y7 y8 y9 y10 y11 y12 y13 y14 y15 y16 y17 y18 y19 y20 y21 y22 y23 y24 y25 y26 y27 y28 y29 y30 y31 y32 y33 y34 y35 y36 y37 y38 y39 y40 y41 y42 y43 y44 y45 y46 y47 y48 y49 y50 y51 y52 y53 y54 y55 y56 y57 y58 y59 y60 y61 y62 y63 y64 y65 y66 y67
   unfold orchestratorlaw57_NetpolicyOrder.l0
   repeat' first
   | (with_reducible exact ih0 _ _ _ _ _ _ _ _ _ _ _ _ _ _ _ _ _ _ _ _ _ _ _ _ _ _ _ _ _ _ _ _ _ _ _ _ _ _ _ _ _ _ _ _ _ _ _ _ _ _ _ _ _ _ _ _ _ _ _ _ _ _ _ _ _ _ _ _)
   | (with_reducible exact ih1 _ _ _ _ _ _ _ _ _ _ _ _ _ _ _ _ _ _ _ _ _ _ _ _ _ _ _ _ _ _ _ _ _ _ _ _ _ _ _ _ _ _ _ _ _ _ _ _ _ _ _ _ _ _ _ _ _ _ _ _ _ _ _ _ _ _ _ _ _ _ _ _ _ _ _ _ _ _ _ _ _ _ _ _ _ _)
   | (with_reducible exact ih2 _ _ _ _ _ _ _ _ _ _ _ _ _ _ _ _ _ _ _ _ _ _ _ _ _ _ _ _ _ _ _ _ _ _ _ _ _ _ _ _ _ _ _ _ _ _ _ _ _ _ _ _ _ _ _ _ _ _ _ _ _ _ _ _ _ _ _)
   | (with_reducible exact netpolicy_Allowed.mono _ _ _ _ _ _ _ _ _ _ _ _ _ _ _ _ _ _ _ _ _ _ _ _ _ _ _ _ _ _ _ _ _ _ _ _ _ _ _ _ _ _ _ _ _ _ _ _ _ _ _ _ _ _ _ _ _ _ _ _ _ _ _ _ _ _ _)
   | (with_reducible exact netpolicy_Isolated.mono _ _ _ _ _ _ _ _ _ _ _ _ _ _ _ _ _ _ _ _ _ _ _ _ _ _ _ _ _ _ _ _ _ _ _)
   | (with_reducible exact orchestratorlaw57_lives.mono _)
   | (with_reducible exact orchestratorlaw57_small.mono _ _)
   | (with_reducible exact LeO.refl _)
   | (with_reducible exact LeO.none _)
   | (with_reducible refine LeO.ite ?_ ?_)
   | (with_reducible refine LeO.bind ?_ (fun _ => ?_))
   | exact ih0 _ _ _ _ _ _ _ _ _ _ _ _ _ _ _ _ _ _ _ _ _ _ _ _ _ _ _ _ _ _ _ _ _ _ _ _ _ _ _ _ _ _ _ _ _ _ _ _ _ _ _ _ _ _ _ _ _ _ _ _ _ _ _ _ _ _ _ _
   | exact ih1 _ _ _ _ _ _ _ _ _ _ _ _ _ _ _ _ _ _ _ _ _ _ _ _ _ _ _ _ _ _ _ _ _ _ _ _ _ _ _ _ _ _ _ _ _ _ _ _ _ _ _ _ _ _ _ _ _ _ _ _ _ _ _ _ _ _ _ _ _ _ _ _ _ _ _ _ _ _ _ _ _ _ _ _ _ _
   | exact ih2 _ _ _ _ _ _ _ _ _ _ _ _ _ _ _ _ _ _ _ _ _ _ _ _ _ _ _ _ _ _ _ _ _ _ _ _ _ _ _ _ _ _ _ _ _ _ _ _ _ _ _ _ _ _ _ _ _ _ _ _ _ _ _ _ _ _ _
   | exact netpolicy_Allowed.mono _ _ _ _ _ _ _ _ _ _ _ _ _ _ _ _ _ _ _ _ _ _ _ _ _ _ _ _ _ _ _ _ _ _ _ _ _ _ _ _ _ _ _ _ _ _ _ _ _ _ _ _ _ _ _ _ _ _ _ _ _ _ _ _ _ _ _
   | exact netpolicy_Isolated.mono _ _ _ _ _ _ _ _ _ _ _ _ _ _ _ _ _ _ _ _ _ _ _ _ _ _ _ _ _ _ _ _ _ _ _
   | exact orchestratorlaw57_lives.mono _
   | exact orchestratorlaw57_small.mono _ _
   | exact LeO.none _
   | refine LeO.ite ?_ ?_
   | refine LeO.bind ?_ (fun _ => ?_)
  ·intro y0 y1 y2 y3 y4 y5 y6 y7 y8 y9 y10 y11 y12 y13 y14 y15 y16 y17 y18 y19 y20 y21 y22 y23 y24 y25 y26 y27 y28 y29 y30 y31 y32 y33 y34 y35 y36 y37 y38 y39 y40 y41 y42 y43 y44 y45 y46 y47 y48 y49 y50 y51 y52 y53 y54 y55 y56 y57 y58 y59 y60 y61 y62 y63 y64 y65 y66 y67 y68 y69 y70 y71 y72 y73 y74 y75 y76 y77 y78 y79 y80 y81 y82 y83 y84 y85
   unfold orchestratorlaw57_NetpolicyOrder.l1
   repeat' first
   | (with_reducible exact ih0 _ _ _ _ _ _ _ _ _ _ _ _ _ _ _ _ _ _ _ _ _ _ _ _ _ _ _ _ _ _ _ _ _ _ _ _ _ _ _ _ _ _ _ _ _ _ _ _ _ _ _ _ _ _ _ _ _ _ _ _ _ _ _ _ _ _ _ _)
   | (with_reducible exact ih1 _ _ _ _ _ _ _ _ _ _ _ _ _ _ _ _ _ _ _ _ _ _ _ _ _ _ _ _ _ _ _ _ _ _ _ _ _ _ _ _ _ _ _ _ _ _ _ _ _ _ _ _ _ _ _ _ _ _ _ _ _ _ _ _ _ _ _ _ _ _ _ _ _ _ _ _ _ _ _ _ _ _ _ _ _ _)
   | (with_reducible exact ih2 _ _ _ _ _ _ _ _ _ _ _ _ _ _ _ _ _ _ _ _ _ _ _ _ _ _ _ _ _ _ _ _ _ _ _ _ _ _ _ _ _ _ _ _ _ _ _ _ _ _ _ _ _ _ _ _ _ _ _ _ _ _ _ _ _ _ _)
   | (with_reducible exact netpolicy_Allowed.mono _ _ _ _ _ _ _ _ _ _ _ _ _ _ _ _ _ _ _ _ _ _ _ _ _ _ _ _ _ _ _ _ _ _ _ _ _ _ _ _ _ _ _ _ _ _ _ _ _ _ _ _ _ _ _ _ _ _ _ _ _ _ _ _ _ _ _)
   | (with_reducible exact netpolicy_Isolated.mono _ _ _ _ _ _ _ _ _ _ _ _ _ _ _ _ _ _ _ _ _ _ _ _ _ _ _ _ _ _ _ _ _ _ _)
   | (with_reducible exact orchestratorlaw57_lives.mono _)
   | (with_reducible exact orchestratorlaw57_small.mono _ _)
   | (with_reducible exact LeO.refl _)
   | (with_reducible exact LeO.none _)
   | (with_reducible refine LeO.ite ?_ ?_)
   | (with_reducible refine LeO.bind ?_ (fun _ => ?_))
   | exact ih0 _ _ _ _ _ _ _ _ _ _ _ _ _ _ _ _ _ _ _ _ _ _ _ _ _ _ _ _ _ _ _ _ _ _ _ _ _ _ _ _ _ _ _ _ _ _ _ _ _ _ _ _ _ _ _ _ _ _ _ _ _ _ _ _ _ _ _ _
   | exact ih1 _ _ _ _ _ _ _ _ _ _ _ _ _ _ _ _ _ _ _ _ _ _ _ _ _ _ _ _ _ _ _ _ _ _ _ _ _ _ _ _ _ _ _ _ _ _ _ _ _ _ _ _ _ _ _ _ _ _ _ _ _ _ _ _ _ _ _ _ _ _ _ _ _ _ _ _ _ _ _ _ _ _ _ _ _ _
   | exact ih2 _ _ _ _ _ _ _ _ _ _ _ _ _ _ _ _ _ _ _ _ _ _ _ _ _ _ _ _ _ _ _ _ _ _ _ _ _ _ _ _ _ _ _ _ _ _ _ _ _ _ _ _ _ _ _ _ _ _ _ _ _ _ _ _ _ _ _
   | exact netpolicy_Allowed.mono _ _ _ _ _ _ _ _ _ _ _ _ _ _ _ _ _ _ _ _ _ _ _ _ _ _ _ _ _ _ _ _ _ _ _ _ _ _ _ _ _ _ _ _ _ _ _ _ _ _ _ _ _ _ _ _ _ _ _ _ _ _ _ _ _ _ _
   | exact netpolicy_Isolated.mono _ _ _ _ _ _ _ _ _ _ _ _ _ _ _ _ _ _ _ _ _ _ _ _ _ _ _ _ _ _ _ _ _ _ _
   | exact orchestratorlaw57_lives.mono _
   | exact orchestratorlaw57_small.mono _ _
   | exact LeO.none _
   | refine LeO.ite ?_ ?_
   | refine LeO.bind ?_ (fun _ => ?_)
  ·intro y0 y1 y2 y3 y4 y5 y6 y7 y8 y9 y10 y11 y12 y13 y14 y15 y16 y17 y18 y19 y20 y21 y22 y23 y24 y25 y26 y27 y28 y29 y30 y31 y32 y33 y34 y35 y36 y37 y38 y39 y40 y41 y42 y43 y44 y45 y46 y47 y48 y49 y50 y51 y52 y53 y54 y55 y56 y57 y58 y59 y60 y61 y62 y63 y64 y65 y66
   unfold orchestratorlaw57_NetpolicyOrder.j2
   repeat' first
   | (with_reducible exact ih0 _ _ _ _ _ _ _ _ _ _ _ _ _ _ _ _ _ _ _ _ _ _ _ _ _ _ _ _ _ _ _ _ _ _ _ _ _ _ _ _ _ _ _ _ _ _ _ _ _ _ _ _ _ _ _ _ _ _ _ _ _ _ _ _ _ _ _ _)
   | (with_reducible exact ih1 _ _ _ _ _ _ _ _ _ _ _ _ _ _ _ _ _ _ _ _ _ _ _ _ _ _ _ _ _ _ _ _ _ _ _ _ _ _ _ _ _ _ _ _ _ _ _ _ _ _ _ _ _ _ _ _ _ _ _ _ _ _ _ _ _ _ _ _ _ _ _ _ _ _ _ _ _ _ _ _ _ _ _ _ _ _)
   | (with_reducible exact ih2 _ _ _ _ _ _ _ _ _ _ _ _ _ _ _ _ _ _ _ _ _ _ _ _ _ _ _ _ _ _ _ _ _ _ _ _ _ _ _ _ _ _ _ _ _ _ _ _ _ _ _ _ _ _ _ _ _ _ _ _ _ _ _ _ _ _ _)
   | (with_reducible exact netpolicy_Allowed.mono _ _ _ _ _ _ _ _ _ _ _ _ _ _ _ _ _ _ _ _ _ _ _ _ _ _ _ _ _ _ _ _ _ _ _ _ _ _ _ _ _ _ _ _ _ _ _ _ _ _ _ _ _ _ _ _ _ _ _ _ _ _ _ _ _ _ _)
   | (with_reducible exact netpolicy_Isolated.mono _ _ _ _ _ _ _ _ _ _ _ _ _ _ _ _ _ _ _ _ _ _ _ _ _ _ _ _ _ _ _ _ _ _ _)
   | (with_reducible exact orchestratorlaw57_lives.mono _)
   | (with_reducible exact orchestratorlaw57_small.mono _ _)
   | (with_reducible exact LeO.refl _)
   | (with_reducible exact LeO.none _)
   | (with_reducible refine LeO.ite ?_ ?_)
   | (with_reducible refine LeO.bind ?_ (fun _ => ?_))
   | exact ih0 _ _ _ _ _ _ _ _ _ _ _ _ _ _ _ _ _ _ _ _ _ _ _ _ _ _ _ _ _ _ _ _ _ _ _ _ _ _ _ _ _ _ _ _ _ _ _ _ _ _ _ _ _ _ _ _ _ _ _ _ _ _ _ _ _ _ _ _
   | exact ih1 _ _ _ _ _ _ _ _ _ _ _ _ _ _ _ _ _ _ _ _ _ _ _ _ _ _ _ _ _ _ _ _ _ _ _ _ _ _ _ _ _ _ _ _ _ _ _ _ _ _ _ _ _ _ _ _ _ _ _ _ _ _ _ _ _ _ _ _ _ _ _ _ _ _ _ _ _ _ _ _ _ _ _ _ _ _
   | exact ih2 _ _ _ _ _ _ _ _ _ _ _ _ _ _ _ _ _ _ _ _ _ _ _ _ _ _ _ _ _ _ _ _ _ _ _ _ _ _ _ _ _ _ _ _ _ _ _ _ _ _ _ _ _ _ _ _ _ _ _ _ _ _ _ _ _ _ _
   | exact netpolicy_Allowed.mono _ _ _ _ _ _ _ _ _ _ _ _ _ _ _ _ _ _ _ _ _ _ _ _ _ _ _ _ _ _ _ _ _ _ _ _ _ _ _ _ _ _ _ _ _ _ _ _ _ _ _ _ _ _ _ _ _ _ _ _ _ _ _ _ _ _ _
   | exact netpolicy_Isolated.mono _ _ _ _ _ _ _ _ _ _ _ _ _ _ _ _ _ _ _ _ _ _ _ _ _ _ _ _ _ _ _ _ _ _ _
   | exact orchestratorlaw57_lives.mono _
   | exact orchestratorlaw57_small.mono _ _
   | exact LeO.none _
   | refine LeO.ite ?_ ?_
   | refine LeO.bind ?_ (fun _ => ?_)
theorem orchestratorlaw57_NetpolicyOrder.mono : ∀ a0 a1 a2 a3 a4 a5 a6 a7 a8 a9 a10 a11 a12 a13 a14 a15 a16 a17 a18 a19 a20 a21 a22 a23 a24 a25 a26 a27 a28 a29 a30 a31 a32 a33 a34 a35 a36 a37 a38 a39 a40 a41 a42 a43 a44 a45 a46 a47 a48 a49 a50 a51 a52 a53 a54 a55 a56 a57 a58 a59 a60 a61 a62 a63 a64 a65 k, LeO (orchestratorlaw57_NetpolicyOrder.f k a0 a1 a2 a3 a4 a5 a6 a7 a8 a9 a10 a11 a12 a13 a14 a15 a16 a17 a18 a19 a20 a21 a22 a23 a24 a25 a26 a27 a28 a29 a30 a31 a32 a33 a34 a35 a36 a37 a38 a39 a40 a41 a42 a43 a44 a45 a46 a47 a48 a49 a50 a51 a52 a53 a54 a55 a56 a57 a58 a59 a60 a61 a62 a63 a64 a65) (orchestratorlaw57_NetpolicyOrder.f (k + 1) a0 a1 a2 a3 a4 a5 a6 a7 a8 a9 a10 a11 a12 a13 a14 a15 a16 a17 a18 a19 a20 a21 a22 a23 a24 a25 a26 a27 a28 a29 a30 a31 a32 a33 a34 a35 a36 a37 a38 a39 a40 a41 a42 a43 a44 a45 a46 a47 a48 a49 a50 a51 a52 a53 a54 a55 a56 a57 a58 a59 a60 a61 a62 a63 a64 a65) := by
 intro a0 a1 a2 a3 a4 a5 a6 a7 a8 a9 a10 a11 a12 a13 a14 a15 a16 a17 a18 a19 a20 a21 a22 a23 a24 a25 a26 a27 a28 a29 a30 a31 a32 a33 a34 a35 a36 a37 a38 a39 a40 a41 a42 a43 a44 a45 a46 a47 a48 a49 a50 a51 a52 a53 a54 a55 a56 a57 a58 a59 a60 a61 a62 a63 a64 a65 k
 obtain ⟨ih0, ih1, ih2⟩ := orchestratorlaw57_NetpolicyOrder.mono_l k
 unfold orchestratorlaw57_NetpolicyOrder.f
 repeat' first
   | (with_reducible exact ih0 _ _ _ _ _ _ _ _ _ _ _ _ _ _ _ _ _ _ _ _ _ _ _ _ _ _ _ _ _ _ _ _ _ _ _ _ _ _ _ _ _ _ _ _ _ _ _ _ _ _ _ _ _ _ _ _ _ _ _ _ _ _ _ _ _ _ _ _)
   | (with_reducible exact ih1 _ _ _ _ _ _ _ _ _ _ _ _ _ _ _ _ _ _ _ _ _ _ _ _ _ _ _ _ _ _ _ _ _ _ _ _ _ _ _ _ _ _ _ _ _ _ _ _ _ _ _ _ _ _ _ _ _ _ _ _ _ _ _ _ _ _ _ _ _ _ _ _ _ _ _ _ _ _ _ _ _ _ _ _ _ _)
   | (with_reducible exact ih2 _ _ _ _ _ _ _ _ _ _ _ _ _ _ _ _ _ _ _ _ _ _ _ _ _ _ _ _ _ _ _ _ _ _ _ _ _ _ _ _ _ _ _ _ _ _ _ _ _ _ _ _ _ _ _ _ _ _ _ _ _ _ _ _ _ _ _)
   | (with_reducible exact netpolicy_Allowed.mono _ _ _ _ _ _ _ _ _ _ _ _ _ _ _ _ _ _ _ _ _ _ _ _ _ _ _ _ _ _ _ _ _ _ _ _ _ _ _ _ _ _ _ _ _ _ _ _ _ _ _ _ _ _ _ _ _ _ _ _ _ _ _ _ _ _ _)
   | (with_reducible exact netpolicy_Isolated.mono _ _ _ _ _ _ _ _ _ _ _ _ _ _ _ _ _ _ _ _ _ _ _ _ _ _ _ _ _ _ _ _ _ _ _)
   | (with_reducible exact orchestratorlaw57_lives.mono _)
   | (with_reducible exact orchestratorlaw57_small.mono _ _)
   | (with_reducible exact LeO.refl _)
   | (with_reducible exact LeO.none _)
   | (with_reducible refine LeO.ite ?_ ?_)
   | (with_reducible refine LeO.bind ?_ (fun _ => ?_))
   | exact ih0 _ _ _ _ _ _ _ _ _ _ _ _ _ _ _ _ _ _ _ _ _ _ _ _ _ _ _ _ _ _ _ _ _ _ _ _ _ _ _ _ _ _ _ _ _ _ _ _ _ _ _ _ _ _ _ _ _ _ _ _ _ _ _ _ _ _ _ _
   | exact ih1 _ _ _ _ _ _ _ _ _ _ _ _ _ _ _ _ _ _ _ _ _ _ _ _ _ _ _ _ _ _ _ _ _ _ _ _ _ _ _ _ _ _ _ _ _ _ _ _ _ _ _ _ _ _ _ _ _ _ _ _ _ _ _ _ _ _ _ _ _ _ _ _ _ _ _ _ _ _ _ _ _ _ _ _ _ _
   | exact ih2 _ _ _ _ _ _ _ _ _ _ _ _ _ _ _ _ _ _ _ _ _ _ _ _ _ _ _ _ _ _ _ _ _ _ _ _ _ _ _ _ _ _ _ _ _ _ _ _ _ _ _ _ _ _ _ _ _ _ _ _ _ _ _ _ _ _ _
   | exact netpolicy_Allowed.mono _ _ _ _ _ _ _ _ _ _ _ _ _ _ _ _ _ _ _ _ _ _ _ _ _ _ _ _ _ _ _ _ _ _ _ _ _ _ _ _ _ _ _ _ _ _ _ _ _ _ _ _ _ _ _ _ _ _ _ _ _ _ _ _ _ _ _
   | exact netpolicy_Isolated.mono _ _ _ _ _ _ _ _ _ _ _ _ _ _ _ _ _ _ _ _ _ _ _ _ _ _ _ _ _ _ _ _ _ _ _
   | exact orchestratorlaw57_lives.mono _
   | exact orchestratorlaw57_small.mono _ _
   | exact LeO.none _
   | refine LeO.ite ?_ ?_
   | refine LeO.bind ?_ (fun _ => ?_)
def orchestratorlaw57_NetpolicyOrder.T12 : Bool × List (List Nat × List Nat) := (true, [([], []), ([0], [0]), ([], []), ([], []), ([2, 3], [2, 3]), ([4], [4]), ([5], [5]), ([], []), ([6, 7], [6, 7]), ([8], [8]), ([9], [9]), ([1, 10], [1, 10]), ([0, 1, 2, 3, 4, 5, 6, 7, 8, 9, 10, 11], []), ([12, 11, 11, 0, 1, 2, 3, 4, 5, 6, 7, 8, 9, 10, 11], [11, 12])])
def orchestratorlaw57_NetpolicyOrder.B12 : List Nat := [0, 1, 0, 0, 12, 28, 60, 0, 252, 508, 1020, 2047, 4095, 8191]
theorem orchestratorlaw57_NetpolicyOrder.tab12 : rtab .any (opsOf Try.f6 12) = orchestratorlaw57_NetpolicyOrder.T12 := by kernel_rfl
theorem orchestratorlaw57_NetpolicyOrder.bits12 : waitsOk orchestratorlaw57_NetpolicyOrder.T12.2 orchestratorlaw57_NetpolicyOrder.B12 = true := by kernel_rfl
def orchestratorlaw57_NetpolicyOrder.T14 : Bool × List (List Nat × List Nat) := (true, [([], []), ([], []), ([], []), ([], []), ([0, 1, 2, 3], [0, 1, 2, 3]), ([], []), ([], []), ([], []), ([], []), ([5, 6, 7, 8, 4], [5, 6, 7, 8]), ([4, 9], [4, 9]), ([10, 9], [10]), ([11], [11]), ([11], [11]), ([12, 13, 11, 11], [11, 12, 13]), ([11], [11]), ([11], [11]), ([15, 16, 14, 11], [11, 15, 16]), ([14, 17, 11], [11, 14, 17]), ([11, 18], [11, 18])])
def orchestratorlaw57_NetpolicyOrder.B14 : List Nat := [0, 0, 0, 0, 15, 0, 0, 0, 0, 511, 1023, 2047, 4095, 4095, 16383, 4095, 4095, 131071, 262143, 524287]
theorem orchestratorlaw57_NetpolicyOrder.tab14 : rtab .any (opsOf Try.f6 14) = orchestratorlaw57_NetpolicyOrder.T14 := by kernel_rfl
theorem orchestratorlaw57_NetpolicyOrder.bits14 : waitsOk orchestratorlaw57_NetpolicyOrder.T14.2 orchestratorlaw57_NetpolicyOrder.B14 = true := by kernel_rfl
set_option maxHeartbeats 8000000 in
set_option maxRecDepth 100000 in
theorem orchestratorlaw57_NetpolicyOrder.calls (k : Nat) (P0_ : Nat → Prop) (A0 : Option Addr) (c0 : Nat) (l0 : List (S54)) (a1_0 : ByteArray) (a1_1 : ByteArray) (a1_2 : ByteArray) (a1_3 : Int) (a1_4 : Int) (a1_5 : Int) (a1_6 : Int) (a1_7 : Bool) (a1_8 : Int) (A1_9 : Option Addr) (c1_9 : Nat) (l1_9 : List (S72)) (A1_10 : Option Addr) (c1_10 : Nat) (l1_10 : List (S110)) (A1_11 : Option Addr) (c1_11 : Nat) (l1_11 : List ByteArray) (A1_12 : Option Addr) (c1_12 : Nat) (l1_12 : List (S112)) (a1_13 : ByteArray) (a1_14 : Int) (a1_15 : Int) (a1_16 : Int) (A1_17 : Option Addr) (c1_17 : Nat) (l1_17 : List (S117)) (A1_18 : Option Addr) (c1_18 : Nat) (l1_18 : List (S74)) (A1_19 : Option Addr) (c1_19 : Nat) (l1_19 : List (S119)) (A1_20 : Option Addr) (c1_20 : Nat) (l1_20 : List (S121)) (A1_21 : Option Addr) (c1_21 : Nat) (l1_21 : List (S123)) (A1_22 : Option Addr) (c1_22 : Nat) (l1_22 : List (S125)) (a1_23 : Int) (a1_24 : Bool) (a1_25 : Int) (a1_26 : Int) (a1_27 : Int) (A1_28 : Option Addr) (c1_28 : Nat) (l1_28 : List (S127)) (a1_29 : Int) (a1_30 : ByteArray) (a1_31 : ByteArray) (a2_0 : ByteArray) (a2_1 : ByteArray) (a2_2 : ByteArray) (a2_3 : Int) (a2_4 : Int) (a2_5 : Int) (a2_6 : Int) (a2_7 : Bool) (a2_8 : Int) (A2_9 : Option Addr) (c2_9 : Nat) (l2_9 : List (S72)) (A2_10 : Option Addr) (c2_10 : Nat) (l2_10 : List (S110)) (A2_11 : Option Addr) (c2_11 : Nat) (l2_11 : List ByteArray) (A2_12 : Option Addr) (c2_12 : Nat) (l2_12 : List (S112)) (a2_13 : ByteArray) (a2_14 : Int) (a2_15 : Int) (a2_16 : Int) (A2_17 : Option Addr) (c2_17 : Nat) (l2_17 : List (S117)) (A2_18 : Option Addr) (c2_18 : Nat) (l2_18 : List (S74)) (A2_19 : Option Addr) (c2_19 : Nat) (l2_19 : List (S119)) (A2_20 : Option Addr) (c2_20 : Nat) (l2_20 : List (S121)) (A2_21 : Option Addr) (c2_21 : Nat) (l2_21 : List (S123)) (A2_22 : Option Addr) (c2_22 : Nat) (l2_22 : List (S125)) (a2_23 : Int) (a2_24 : Bool) (a2_25 : Int) (a2_26 : Int) (a2_27 : Int) (A2_28 : Option Addr) (c2_28 : Nat) (l2_28 : List (S127)) (a2_29 : Int) (a2_30 : ByteArray) (a2_31 : ByteArray) (a3 : Int) (w : World) (hs0 : Kd.V k54 54 w w.heap.size (fun k_ => P0_ k_) (.slice A0 l0.length c0) l0) (hr1_9 : Kd.C k72 w A1_9 l1_9.length l1_9) (hc1_9 : l1_9.length ≤ c1_9) (hr1_10 : Kd.C k110 w A1_10 l1_10.length l1_10) (hc1_10 : l1_10.length ≤ c1_10) (hr1_11 : Kd.C Kd.string w A1_11 l1_11.length l1_11) (hc1_11 : l1_11.length ≤ c1_11) (hr1_12 : Kd.C k112 w A1_12 l1_12.length l1_12) (hc1_12 : l1_12.length ≤ c1_12) (hr1_17 : Kd.C k117 w A1_17 l1_17.length l1_17) (hc1_17 : l1_17.length ≤ c1_17) (hr1_18 : Kd.C k74 w A1_18 l1_18.length l1_18) (hc1_18 : l1_18.length ≤ c1_18) (hr1_19 : Kd.C k119 w A1_19 l1_19.length l1_19) (hc1_19 : l1_19.length ≤ c1_19) (hr1_20 : Kd.C k121 w A1_20 l1_20.length l1_20) (hc1_20 : l1_20.length ≤ c1_20) (hr1_21 : Kd.C k123 w A1_21 l1_21.length l1_21) (hc1_21 : l1_21.length ≤ c1_21) (hr1_22 : Kd.C k125 w A1_22 l1_22.length l1_22) (hc1_22 : l1_22.length ≤ c1_22) (hr1_28 : Kd.C k127 w A1_28 l1_28.length l1_28) (hc1_28 : l1_28.length ≤ c1_28) (hr2_9 : Kd.C k72 w A2_9 l2_9.length l2_9) (hc2_9 : l2_9.length ≤ c2_9) (hr2_10 : Kd.C k110 w A2_10 l2_10.length l2_10) (hc2_10 : l2_10.length ≤ c2_10) (hr2_11 : Kd.C Kd.string w A2_11 l2_11.length l2_11) (hc2_11 : l2_11.length ≤ c2_11) (hr2_12 : Kd.C k112 w A2_12 l2_12.length l2_12) (hc2_12 : l2_12.length ≤ c2_12) (hr2_17 : Kd.C k117 w A2_17 l2_17.length l2_17) (hc2_17 : l2_17.length ≤ c2_17) (hr2_18 : Kd.C k74 w A2_18 l2_18.length l2_18) (hc2_18 : l2_18.length ≤ c2_18) (hr2_19 : Kd.C k119 w A2_19 l2_19.length l2_19) (hc2_19 : l2_19.length ≤ c2_19) (hr2_20 : Kd.C k121 w A2_20 l2_20.length l2_20) (hc2_20 : l2_20.length ≤ c2_20) (hr2_21 : Kd.C k123 w A2_21 l2_21.length l2_21) (hc2_21 : l2_21.length ≤ c2_21) (hr2_22 : Kd.C k125 w A2_22 l2_22.length l2_22) (hc2_22 : l2_22.length ≤ c2_22) (hr2_28 : Kd.C k127 w A2_28 l2_28.length l2_28) (hc2_28 : l2_28.length ≤ c2_28) (h : orchestratorlaw57_NetpolicyOrder.f k l0 a1_0 a1_1 a1_2 a1_3 a1_4 a1_5 a1_6 a1_7 a1_8 l1_9 l1_10 l1_11 l1_12 a1_13 a1_14 a1_15 a1_16 l1_17 l1_18 l1_19 l1_20 l1_21 l1_22 a1_23 a1_24 a1_25 a1_26 a1_27 l1_28 a1_29 a1_30 a1_31 a2_0 a2_1 a2_2 a2_3 a2_4 a2_5 a2_6 a2_7 a2_8 l2_9 l2_10 l2_11 l2_12 a2_13 a2_14 a2_15 a2_16 l2_17 l2_18 l2_19 l2_20 l2_21 l2_22 a2_23 a2_24 a2_25 a2_26 a2_27 l2_28 a2_29 a2_30 a2_31 a3 = some true) :
  Calls Try.prog 6 #[.slice A0 l0.length c0, .agg #[.string a1_0, .string a1_1, .string a1_2, .int .i64 a1_3, .int .i64 a1_4, .int .i64 a1_5, .int .i64 a1_6, .bool a1_7, .int .i64 a1_8, .slice A1_9 l1_9.length c1_9, .slice A1_10 l1_10.length c1_10, .slice A1_11 l1_11.length c1_11, .slice A1_12 l1_12.length c1_12, .string a1_13, .int .i64 a1_14, .int .i64 a1_15, .int .i64 a1_16, .slice A1_17 l1_17.length c1_17, .slice A1_18 l1_18.length c1_18, .slice A1_19 l1_19.length c1_19, .slice A1_20 l1_20.length c1_20, .slice A1_21 l1_21.length c1_21, .slice A1_22 l1_22.length c1_22, .int .i64 a1_23, .bool a1_24, .int .i64 a1_25, .int .i64 a1_26, .int .i64 a1_27, .slice A1_28 l1_28.length c1_28, .int .i64 a1_29, .string a1_30, .string a1_31], .agg #[.string a2_0, .string a2_1, .string a2_2, .int .i64 a2_3, .int .i64 a2_4, .int .i64 a2_5, .int .i64 a2_6, .bool a2_7, .int .i64 a2_8, .slice A2_9 l2_9.length c2_9, .slice A2_10 l2_10.length c2_10, .slice A2_11 l2_11.length c2_11, .slice A2_12 l2_12.length c2_12, .string a2_13, .int .i64 a2_14, .int .i64 a2_15, .int .i64 a2_16, .slice A2_17 l2_17.length c2_17, .slice A2_18 l2_18.length c2_18, .slice A2_19 l2_19.length c2_19, .slice A2_20 l2_20.length c2_20, .slice A2_21 l2_21.length c2_21, .slice A2_22 l2_22.length c2_22, .int .i64 a2_23, .bool a2_24, .int .i64 a2_25, .int .i64 a2_26, .int .i64 a2_27, .slice A2_28 l2_28.length c2_28, .int .i64 a2_29, .string a2_30, .string a2_31], .int .i64 a3] w fun e w' => e = .returned (.bool true) ∧ Below w.heap.size w w' := by
 have hu41 := Try.underlying41
 have hu54 := Try.underlying54
 have hu58 := Try.underlying58
 have HO0 := s_a (show Kd.V k54 54 w w.heap.size (fun k_ => (P0_ k_ ∨ w.heap.size ≤ k_)) (.slice A0 l0.length c0) l0 from Kd.V_mono hs0 (fun k_ hk => .inl hk))
 have HR1_9 := s_a hr1_9
 have HC1_9 := s_a hc1_9
 clear hr1_9 hc1_9
 have HR1_10 := s_a hr1_10
 have HC1_10 := s_a hc1_10
 clear hr1_10 hc1_10
 have HR1_11 := s_a hr1_11
 have HC1_11 := s_a hc1_11
 clear hr1_11 hc1_11
 have HR1_12 := s_a hr1_12
 have HC1_12 := s_a hc1_12
 clear hr1_12 hc1_12
 have HR1_17 := s_a hr1_17
 have HC1_17 := s_a hc1_17
 clear hr1_17 hc1_17
 have HR1_18 := s_a hr1_18
 have HC1_18 := s_a hc1_18
 clear hr1_18 hc1_18
 have HR1_19 := s_a hr1_19
 have HC1_19 := s_a hc1_19
 clear hr1_19 hc1_19
 have HR1_20 := s_a hr1_20
 have HC1_20 := s_a hc1_20
 clear hr1_20 hc1_20
 have HR1_21 := s_a hr1_21
 have HC1_21 := s_a hc1_21
 clear hr1_21 hc1_21
 have HR1_22 := s_a hr1_22
 have HC1_22 := s_a hc1_22
 clear hr1_22 hc1_22
 have HR1_28 := s_a hr1_28
 have HC1_28 := s_a hc1_28
 clear hr1_28 hc1_28
 have HR2_9 := s_a hr2_9
 have HC2_9 := s_a hc2_9
 clear hr2_9 hc2_9
 have HR2_10 := s_a hr2_10
 have HC2_10 := s_a hc2_10
 clear hr2_10 hc2_10
 have HR2_11 := s_a hr2_11
 have HC2_11 := s_a hc2_11
 clear hr2_11 hc2_11
 have HR2_12 := s_a hr2_12
 have HC2_12 := s_a hc2_12
 clear hr2_12 hc2_12
 have HR2_17 := s_a hr2_17
 have HC2_17 := s_a hc2_17
 clear hr2_17 hc2_17
 have HR2_18 := s_a hr2_18
 have HC2_18 := s_a hc2_18
 clear hr2_18 hc2_18
 have HR2_19 := s_a hr2_19
 have HC2_19 := s_a hc2_19
 clear hr2_19 hc2_19
 have HR2_20 := s_a hr2_20
 have HC2_20 := s_a hc2_20
 clear hr2_20 hc2_20
 have HR2_21 := s_a hr2_21
 have HC2_21 := s_a hc2_21
 clear hr2_21 hc2_21
 have HR2_22 := s_a hr2_22
 have HC2_22 := s_a hc2_22
 clear hr2_22 hc2_22
 have HR2_28 := s_a hr2_28
 have HC2_28 := s_a hc2_28
 clear hr2_28 hc2_28
 have HB := s_a (Below.refl w.heap.size w)
 have H := h; unfold orchestratorlaw57_NetpolicyOrder.f at H
 clear h
 replace H := Option.bind_eq_some_iff.mp H
 obtain ⟨t548, A50, H⟩ := H
 (try dsimp only at H)
 have A5 := s_a A50
 clear A50
 by_cases c6 : t548 = true
 ·subst c6
  (try rw [if_pos rfl] at H)
  have H' := s_a H
  clear H
  go_enter Try.func6, Try.ntmps6
  go_wp2_with (first | ((with_reducible refine gate_dst (N := 5) rfl ?_); refine box_event ?hg (N := 5) ?hd (cs := #[.string a1_0, .string a1_1, .string a1_2, .int .i64 a1_3, .int .i64 a1_4, .int .i64 a1_5, .int .i64 a1_6, .bool a1_7, .int .i64 a1_8, .slice A1_9 l1_9.length c1_9, .slice A1_10 l1_10.length c1_10, .slice A1_11 l1_11.length c1_11, .slice A1_12 l1_12.length c1_12, .string a1_13, .int .i64 a1_14, .int .i64 a1_15, .int .i64 a1_16, .slice A1_17 l1_17.length c1_17, .slice A1_18 l1_18.length c1_18, .slice A1_19 l1_19.length c1_19, .slice A1_20 l1_20.length c1_20, .slice A1_21 l1_21.length c1_21, .slice A1_22 l1_22.length c1_22, .int .i64 a1_23, .bool a1_24, .int .i64 a1_25, .int .i64 a1_26, .int .i64 a1_27, .slice A1_28 l1_28.length c1_28, .int .i64 a1_29, .string a1_30, .string a1_31]) (t := 41) ?hr ?_; (case hd => rfl); (case hg => rfl); (case hr => first | (go_simp; done) | (go_simp; rfl)); intro gb546 hg w7 hbox hb; have BK546 := s_a (hbox); have GW546 := s_a ((by rw [hg]; exact (below_size (by exact s_b HB.out)) : w.heap.size ≤ gb546)); have GE546 := s_a ((by rw [hg]; exact (below_size (by exact s_b HB.out)) : w.heap.size ≤ gb546)); replace HO0 := s_a (Kd.V_below (Kd.V_elderB (by exact s_V (HO0.out)) gb546 (Nat.le_of_eq hg.symm)) hb); replace HB := s_a (below_step (by exact s_b HB.out) hb); clear hb hbox hg) | ((with_reducible refine gate_dst (N := 6) rfl ?_); refine box_event ?hg (N := 6) ?hd (cs := #[.string a2_0, .string a2_1, .string a2_2, .int .i64 a2_3, .int .i64 a2_4, .int .i64 a2_5, .int .i64 a2_6, .bool a2_7, .int .i64 a2_8, .slice A2_9 l2_9.length c2_9, .slice A2_10 l2_10.length c2_10, .slice A2_11 l2_11.length c2_11, .slice A2_12 l2_12.length c2_12, .string a2_13, .int .i64 a2_14, .int .i64 a2_15, .int .i64 a2_16, .slice A2_17 l2_17.length c2_17, .slice A2_18 l2_18.length c2_18, .slice A2_19 l2_19.length c2_19, .slice A2_20 l2_20.length c2_20, .slice A2_21 l2_21.length c2_21, .slice A2_22 l2_22.length c2_22, .int .i64 a2_23, .bool a2_24, .int .i64 a2_25, .int .i64 a2_26, .int .i64 a2_27, .slice A2_28 l2_28.length c2_28, .int .i64 a2_29, .string a2_30, .string a2_31]) (t := 41) ?hr ?_; (case hd => rfl); (case hg => rfl); (case hr => first | (go_simp; done) | (go_simp; rfl)); intro gb547 hg w8 hbox hb; have BK547 := s_a (hbox); have GW547 := s_a ((by rw [hg]; exact (below_size (by exact s_b HB.out)) : w.heap.size ≤ gb547)); have GE547 := s_a ((by rw [hg]; exact (below_size (by exact s_b HB.out)) : w.heap.size ≤ gb547)); have NB546_547 := s_a ((by rw [hg]; exact Nat.ne_of_lt (blk_lt (s_k BK546.out)) : gb546 ≠ gb547)); have NB547_546 := s_a ((by rw [hg]; exact Nat.ne_of_gt (blk_lt (s_k BK546.out)) : gb547 ≠ gb546)); replace HO0 := s_a (Kd.V_below (Kd.V_elderB (by exact s_V (HO0.out)) gb547 (Nat.le_of_eq hg.symm)) hb); replace BK546 := s_a (blk_below (s_k BK546.out) hb); replace HB := s_a (below_step (by exact s_b HB.out) hb); clear hb hbox hg) | ((with_reducible refine gate_callee (f := 7) rfl ?_); refine goesL_ (some 14) rfl rfl Try.func7 (by kernel_rfl) rfl #[.slice A0 l0.length c0] rfl (by (try simp only [List.map_toArray, List.map_cons, List.map_nil]); first | done | rfl | (simp only [List.length_drop, List.length_take]; rfl)) ?_; (with_reducible refine (orchestratorlaw57_small.calls k _ _ _ _ _ ?side1 ?side2 A5.out).mono ?_); (case side1 => exact s_C (Kd.V_reads' HO0.out).2.2); (case side2 => exact (Kd.V_reads' HO0.out).2.1); rintro e w' ⟨rfl, ⟨nd, rfl⟩⟩; refine ⟨_, rfl, ?_⟩))
  go_loopg [9, 10] k (fun kq v9 v10 w' => ∃ (x9_1 : List (S54)) (x10_1 : Int), v10 = .int .i64 x10_1 ∧ Aside0 (orchestratorlaw57_NetpolicyOrder.l0 kq l0 a3 x9_1 x10_1 a1_0 a1_1 a1_2 a1_3 a1_4 a1_5 a1_6 a1_7 a1_8 l1_9 l1_10 l1_11 l1_12 a1_13 a1_14 a1_15 a1_16 l1_17 l1_18 l1_19 l1_20 l1_21 l1_22 a1_23 a1_24 a1_25 a1_26 a1_27 l1_28 a1_29 a1_30 a1_31 a2_0 a2_1 a2_2 a2_3 a2_4 a2_5 a2_6 a2_7 a2_8 l2_9 l2_10 l2_11 l2_12 a2_13 a2_14 a2_15 a2_16 l2_17 l2_18 l2_19 l2_20 l2_21 l2_22 a2_23 a2_24 a2_25 a2_26 a2_27 l2_28 a2_29 a2_30 a2_31 = some true) ∧ Aside0 (kq ≤ k) ∧ Aside0 (Kd.V k54 54 w' w.heap.size (fun k_ => (P0_ k_ ∨ w.heap.size ≤ k_) ∧ some k_ ≠ (v9 : Value).ownBlock ∧ k_ ≠ gb546 ∧ k_ ≠ gb547) (.slice A0 l0.length c0) l0) ∧ Aside0 (Kd.N k54 54 w' w.heap.size (fun k_ => (P0_ k_ ∨ w.heap.size ≤ k_) ∧ k_ ≠ gb546 ∧ k_ ≠ gb547) v9 x9_1) ∧ Aside0 (w'.heap[gb546]? = some (.cells #[.string a1_0, .string a1_1, .string a1_2, .int .i64 a1_3, .int .i64 a1_4, .int .i64 a1_5, .int .i64 a1_6, .bool a1_7, .int .i64 a1_8, (.slice A1_9 l1_9.length c1_9), (.slice A1_10 l1_10.length c1_10), (.slice A1_11 l1_11.length c1_11), (.slice A1_12 l1_12.length c1_12), .string a1_13, .int .i64 a1_14, .int .i64 a1_15, .int .i64 a1_16, (.slice A1_17 l1_17.length c1_17), (.slice A1_18 l1_18.length c1_18), (.slice A1_19 l1_19.length c1_19), (.slice A1_20 l1_20.length c1_20), (.slice A1_21 l1_21.length c1_21), (.slice A1_22 l1_22.length c1_22), .int .i64 a1_23, .bool a1_24, .int .i64 a1_25, .int .i64 a1_26, .int .i64 a1_27, (.slice A1_28 l1_28.length c1_28), .int .i64 a1_29, .string a1_30, .string a1_31] 41 (0, 0))) ∧ Aside0 (w'.heap[gb547]? = some (.cells #[.string a2_0, .string a2_1, .string a2_2, .int .i64 a2_3, .int .i64 a2_4, .int .i64 a2_5, .int .i64 a2_6, .bool a2_7, .int .i64 a2_8, (.slice A2_9 l2_9.length c2_9), (.slice A2_10 l2_10.length c2_10), (.slice A2_11 l2_11.length c2_11), (.slice A2_12 l2_12.length c2_12), .string a2_13, .int .i64 a2_14, .int .i64 a2_15, .int .i64 a2_16, (.slice A2_17 l2_17.length c2_17), (.slice A2_18 l2_18.length c2_18), (.slice A2_19 l2_19.length c2_19), (.slice A2_20 l2_20.length c2_20), (.slice A2_21 l2_21.length c2_21), (.slice A2_22 l2_22.length c2_22), .int .i64 a2_23, .bool a2_24, .int .i64 a2_25, .int .i64 a2_26, .int .i64 a2_27, (.slice A2_28 l2_28.length c2_28), .int .i64 a2_29, .string a2_30, .string a2_31] 41 (0, 0))) ∧ Aside0 (Below w.heap.size w w'))
  case atStart => exact ⟨(([] : List (S54))), (wrap64 ((l0.length : Int) - 1)), (by first | rfl | (simp; done) | (simp [*]; done)), H', ⟨Nat.le_refl _⟩, ⟨by exact s_V (Kd.V_mono HO0.out (fun _ hk => ⟨hk.1.1, ⟨(by simp [Value.ownBlock]), ⟨hk.1.2, hk.2⟩⟩⟩))⟩, ⟨by first | exact Kd.R_nil _ _ _ _ _ | exact Kd.N_nil _ _ _ _ _ | exact Kd.V_nil _ _ _ _ _ | exact Kd.Q_nil _ _ _ _ _ | exact Kd.S_nil _ _ _ _ _⟩, ⟨by exact s_k BK546.out⟩, ⟨by exact s_k BK547.out⟩, ⟨by exact s_b HB.out⟩⟩
  case round =>
   clear H'
   try clear c1
   try clear c2
   try clear p2
   try clear c6
   try clear p6
   try clear c7
   obtain ⟨x9_1, x10_1, rfl, HA, HK1, HO_0, HO_9, BK546, BK547, HB⟩ := hrel
   cases gk with
   | zero => exact absurd HA.out (by simp [orchestratorlaw57_NetpolicyOrder.l0])
   | succ k1 =>
    have H := HA.out
    clear HA
    simp only [orchestratorlaw57_NetpolicyOrder.l0] at H
    by_cases c9 : x10_1 ≥ 0
    ·rw [if_pos c9] at H
     have c9b0 : decide (0 ≤ x10_1) = true := decide_eq_true c9
     clear c9
     by_cases c10 : 0 ≤ x10_1
     ·rw [if_pos c10] at H
      have c10b0 : decide (0 ≤ x10_1) = true := decide_eq_true c10
      clear c10
      by_cases c11 : x10_1 < (l0.length : Int)
      ·rw [if_pos c11] at H
       have c11b0 : decide (x10_1 < (l0.length : Int)) = true := decide_eq_true c11
       clear c11
       have H' := s_a H
       clear H
       have p550 : 0 ≤ (x10_1 : Int) := of_decide_eq_true (by first | (with_reducible assumption) | assumption)
       have q550 : x10_1 < (l0.length : Int) := of_decide_eq_true (by first | (with_reducible assumption) | assumption)
       obtain ⟨ad550, A550_9, c550_9, A550_10, c550_10, A550_11, c550_11, A550_12, c550_12, A550_13, c550_13, A550_16, c550_16, e550, hx550_0, hx550_1, hx550_2, hx550_3, hx550_4, hx550_5, hx550_6, hx550_7, hx550_8, hx550_9, hx550_10, hx550_11, hx550_12, hx550_13, hx550_14, hx550_15, hx550_16, hl550_9, hi550_9, hl550_10, hi550_10, hl550_11, hi550_11, hl550_12, hi550_12, hl550_13, hi550_13, hl550_16, hi550_16⟩ := at_T54 (Kd.V_reads' HO_0.out).2.2 x10_1 p550 q550
       cases e550
       obtain ⟨ce550, hce550, hMe550, hcc550⟩ := Kd.V_get HO_0.out z54 x10_1 p550 (by first | exact q550 | exact of_decide_eq_true (by first | (with_reducible assumption) | assumption) | (have e_ := (Kd.V_reads' HO_0.out).1; omega))
       obtain ⟨ua550_9, uc550_9, ua550_10, uc550_10, ua550_11, uc550_11, ua550_12, uc550_12, ua550_13, uc550_13, ua550_16, uc550_16, rfl, ul550_9, ge550_9, ul550_10, ge550_10, ul550_11, ge550_11, ul550_12, ge550_12, ul550_13, ge550_13, ul550_16, ge550_16⟩ := k54_openF hMe550
       have hv550_9 := hcc550 9 _ rfl
       rw [add_field _ _ 9 (by omega)] at hv550_9
       replace hv550_9 := Option.some.inj (hv550_9.symm.trans hx550_9)
       injection hv550_9 with hva_ hvn_ hvc_
       rw [hva_] at ge550_9
       rw [hvc_] at ul550_9
       have HL550_9 := s_a (show Kd.V k72 72 _ w.heap.size _ _ ((rd_T54 l0 x10_1).f0.f9) from Kd.V_mk ul550_9 ge550_9)
       clear hva_ hvn_ hvc_ ge550_9 ul550_9
       have hv550_10 := hcc550 10 _ rfl
       rw [add_field _ _ 10 (by omega)] at hv550_10
       replace hv550_10 := Option.some.inj (hv550_10.symm.trans hx550_10)
       injection hv550_10 with hva_ hvn_ hvc_
       rw [hva_] at ge550_10
       rw [hvc_] at ul550_10
       have HL550_10 := s_a (show Kd.V k110 110 _ w.heap.size _ _ ((rd_T54 l0 x10_1).f0.f10) from Kd.V_mk ul550_10 ge550_10)
       clear hva_ hvn_ hvc_ ge550_10 ul550_10
       have hv550_11 := hcc550 11 _ rfl
       rw [add_field _ _ 11 (by omega)] at hv550_11
       replace hv550_11 := Option.some.inj (hv550_11.symm.trans hx550_11)
       injection hv550_11 with hva_ hvn_ hvc_
       rw [hva_] at ge550_11
       rw [hvc_] at ul550_11
       have HL550_11 := s_a (show Kd.V Kd.string 9 _ w.heap.size _ _ ((rd_T54 l0 x10_1).f0.f11) from Kd.V_mk ul550_11 ge550_11)
       clear hva_ hvn_ hvc_ ge550_11 ul550_11
       have hv550_12 := hcc550 12 _ rfl
       rw [add_field _ _ 12 (by omega)] at hv550_12
       replace hv550_12 := Option.some.inj (hv550_12.symm.trans hx550_12)
       injection hv550_12 with hva_ hvn_ hvc_
       rw [hva_] at ge550_12
       rw [hvc_] at ul550_12
       have HL550_12 := s_a (show Kd.V k112 112 _ w.heap.size _ _ ((rd_T54 l0 x10_1).f0.f12) from Kd.V_mk ul550_12 ge550_12)
       clear hva_ hvn_ hvc_ ge550_12 ul550_12
       have hv550_13 := hcc550 13 _ rfl
       rw [add_field _ _ 13 (by omega)] at hv550_13
       replace hv550_13 := Option.some.inj (hv550_13.symm.trans hx550_13)
       injection hv550_13 with hva_ hvn_ hvc_
       rw [hva_] at ge550_13
       rw [hvc_] at ul550_13
       have HL550_13 := s_a (show Kd.V k74 74 _ w.heap.size _ _ ((rd_T54 l0 x10_1).f1) from Kd.V_mk ul550_13 ge550_13)
       clear hva_ hvn_ hvc_ ge550_13 ul550_13
       have hv550_16 := hcc550 16 _ rfl
       rw [add_field _ _ 16 (by omega)] at hv550_16
       replace hv550_16 := Option.some.inj (hv550_16.symm.trans hx550_16)
       injection hv550_16 with hva_ hvn_ hvc_
       rw [hva_] at ge550_16
       rw [hvc_] at ul550_16
       have HL550_16 := s_a (show Kd.V k58 58 _ w.heap.size _ _ ((rd_T54 l0 x10_1).f4) from Kd.V_mk ul550_16 ge550_16)
       clear hva_ hvn_ hvc_ ge550_16 ul550_16
       clear hcc550 hce550
       have HR550_9 := s_a hi550_9
       have HC550_9 := s_a hl550_9
       clear hi550_9 hl550_9
       have HR550_10 := s_a hi550_10
       have HC550_10 := s_a hl550_10
       clear hi550_10 hl550_10
       have HR550_11 := s_a hi550_11
       have HC550_11 := s_a hl550_11
       clear hi550_11 hl550_11
       have HR550_12 := s_a hi550_12
       have HC550_12 := s_a hl550_12
       clear hi550_12 hl550_12
       have HR550_13 := s_a hi550_13
       have HC550_13 := s_a hl550_13
       clear hi550_13 hl550_13
       have HR550_16 := s_a hi550_16
       have HC550_16 := s_a hl550_16
       clear hi550_16 hl550_16
       replace p550 := eq_true p550
       replace q550 := eq_true q550
       go_wp2_with (first | ((with_reducible refine gate_dst (N := 27) rfl ?_); refine load_at rfl 54 (.tmp 26) rfl _ rfl _ _ (cells_at hx550_0 (s_cc hx550_1 (s_cc hx550_2 (s_cc hx550_3 (s_cc hx550_4 (s_cc hx550_5 (s_cc hx550_6 (s_cc hx550_7 (s_cc hx550_8 (s_cc hx550_9 (s_cc hx550_10 (s_cc hx550_11 (s_cc hx550_12 (s_cc hx550_13 (s_cc hx550_14 (s_cc hx550_15 (s_cc hx550_16 s_cn))))))))))))))))) Try.underlying54 rfl sz54 ?_) | ((with_reducible refine gate_dst (N := 11) rfl ?_); refine box_event ?hg (N := 11) ?hd (cs := #[.string (⟨#[]⟩ : ByteArray), .string (⟨#[]⟩ : ByteArray), .string (⟨#[]⟩ : ByteArray), .int .i64 0, .int .i64 0, .int .i64 0, .int .i64 0, .bool false, .int .i64 0, .slice none 0 0, .slice none 0 0, .slice none 0 0, .slice none 0 0, .slice none 0 0, .bool false, .bool false, .slice none 0 0]) (t := 54) ?hr ?_; (case hd => rfl); (case hg => rfl); (case hr => first | (go_simp; done) | (go_simp; rfl)); intro gb551 hg w12 hbox hb; have BK551 := s_a (hbox); have GW551 := s_a ((by rw [hg]; exact (below_size (by exact s_b HB.out)) : w.heap.size ≤ gb551)); have GE551 := s_a ((by rw [hg]; exact (below_size (by exact s_b HB.out)) : w.heap.size ≤ gb551)); have NB546_551 := s_a ((by rw [hg]; exact Nat.ne_of_lt (blk_lt (s_k BK546.out)) : gb546 ≠ gb551)); have NB551_546 := s_a ((by rw [hg]; exact Nat.ne_of_gt (blk_lt (s_k BK546.out)) : gb551 ≠ gb546)); have NB547_551 := s_a ((by rw [hg]; exact Nat.ne_of_lt (blk_lt (s_k BK547.out)) : gb547 ≠ gb551)); have NB551_547 := s_a ((by rw [hg]; exact Nat.ne_of_gt (blk_lt (s_k BK547.out)) : gb551 ≠ gb547)); replace HO_0 := s_a (Kd.V_below (Kd.V_elderB (by exact s_V (HO_0.out)) gb551 (Nat.le_of_eq hg.symm)) hb); replace HO_9 := s_a (Kd.N_below (Kd.N_elderB (by exact s_N (HO_9.out)) gb551 (Nat.le_of_eq hg.symm)) hb); replace HL550_9 := s_a (Kd.V_below (Kd.V_elderB (by exact s_V (HL550_9.out)) gb551 (Nat.le_of_eq hg.symm)) hb); replace HL550_10 := s_a (Kd.V_below (Kd.V_elderB (by exact s_V (HL550_10.out)) gb551 (Nat.le_of_eq hg.symm)) hb); replace HL550_11 := s_a (Kd.V_below (Kd.V_elderB (by exact s_V (HL550_11.out)) gb551 (Nat.le_of_eq hg.symm)) hb); replace HL550_12 := s_a (Kd.V_below (Kd.V_elderB (by exact s_V (HL550_12.out)) gb551 (Nat.le_of_eq hg.symm)) hb); replace HL550_13 := s_a (Kd.V_below (Kd.V_elderB (by exact s_V (HL550_13.out)) gb551 (Nat.le_of_eq hg.symm)) hb); replace HL550_16 := s_a (Kd.V_below (Kd.V_elderB (by exact s_V (HL550_16.out)) gb551 (Nat.le_of_eq hg.symm)) hb); replace BK546 := s_a (blk_below (s_k BK546.out) hb); replace BK547 := s_a (blk_below (s_k BK547.out) hb); replace HR550_9 := s_a (Kd.C_below (by repeat (first | (with_reducible exact HR550_9.out) | (with_reducible refine Kd.C_alloc ?_ _) | (with_reducible refine Kd.C_drewN ?_ _) | (with_reducible refine Kd.C_drew ?_) | exact HR550_9.out)) hb); replace HR550_10 := s_a (Kd.C_below (by repeat (first | (with_reducible exact HR550_10.out) | (with_reducible refine Kd.C_alloc ?_ _) | (with_reducible refine Kd.C_drewN ?_ _) | (with_reducible refine Kd.C_drew ?_) | exact HR550_10.out)) hb); replace HR550_11 := s_a (Kd.C_below (by repeat (first | (with_reducible exact HR550_11.out) | (with_reducible refine Kd.C_alloc ?_ _) | (with_reducible refine Kd.C_drewN ?_ _) | (with_reducible refine Kd.C_drew ?_) | exact HR550_11.out)) hb); replace HR550_12 := s_a (Kd.C_below (by repeat (first | (with_reducible exact HR550_12.out) | (with_reducible refine Kd.C_alloc ?_ _) | (with_reducible refine Kd.C_drewN ?_ _) | (with_reducible refine Kd.C_drew ?_) | exact HR550_12.out)) hb); replace HR550_13 := s_a (Kd.C_below (by repeat (first | (with_reducible exact HR550_13.out) | (with_reducible refine Kd.C_alloc ?_ _) | (with_reducible refine Kd.C_drewN ?_ _) | (with_reducible refine Kd.C_drew ?_) | exact HR550_13.out)) hb); replace HR550_16 := s_a (Kd.C_below (by repeat (first | (with_reducible exact HR550_16.out) | (with_reducible refine Kd.C_alloc ?_ _) | (with_reducible refine Kd.C_drewN ?_ _) | (with_reducible refine Kd.C_drew ?_) | exact HR550_16.out)) hb); replace HB := s_a (below_step (by exact s_b HB.out) hb); clear hb hbox hg; have hnb13 := NB551_546.out; have hnc13 := NB546_551.out; have hnb14 := NB551_547.out; have hnc14 := NB547_551.out; obtain ⟨hcz15_0, hcz15_1, hcz15_2, hcz15_3, hcz15_4, hcz15_5, hcz15_6, hcz15_7, hcz15_8, hcz15_9, hcz15_10, hcz15_11, hcz15_12, hcz15_13, hcz15_14, hcz15_15, hcz15_16⟩ := cells54 BK551.out; have hfz15_0 := blk_frozen BK551.out 0; have hfz15_1 := blk_frozen BK551.out 1; have hfz15_2 := blk_frozen BK551.out 2; have hfz15_3 := blk_frozen BK551.out 3; have hfz15_4 := blk_frozen BK551.out 4; have hfz15_5 := blk_frozen BK551.out 5; have hfz15_6 := blk_frozen BK551.out 6; have hfz15_7 := blk_frozen BK551.out 7; have hfz15_8 := blk_frozen BK551.out 8; have hfz15_9 := blk_frozen BK551.out 9; have hfz15_10 := blk_frozen BK551.out 10; have hfz15_11 := blk_frozen BK551.out 11; have hfz15_12 := blk_frozen BK551.out 12; have hfz15_13 := blk_frozen BK551.out 13; have hfz15_14 := blk_frozen BK551.out 14; have hfz15_15 := blk_frozen BK551.out 15; have hfz15_16 := blk_frozen BK551.out 16) | ((with_reducible refine gate_store (t := 54) (p := 11) rfl ?_); refine store_all rfl 54 (.tmp 11) _ rfl gb551 #[.string ((rd_T54 l0 x10_1).f0.f0), .string ((rd_T54 l0 x10_1).f0.f1), .string ((rd_T54 l0 x10_1).f0.f2), .int .i64 ((rd_T54 l0 x10_1).f0.f3), .int .i64 ((rd_T54 l0 x10_1).f0.f4), .int .i64 ((rd_T54 l0 x10_1).f0.f5), .int .i64 ((rd_T54 l0 x10_1).f0.f6), .bool ((rd_T54 l0 x10_1).f0.f7), .int .i64 ((rd_T54 l0 x10_1).f0.f8), .slice A550_9 ((rd_T54 l0 x10_1).f0.f9).length c550_9, .slice A550_10 ((rd_T54 l0 x10_1).f0.f10).length c550_10, .slice A550_11 ((rd_T54 l0 x10_1).f0.f11).length c550_11, .slice A550_12 ((rd_T54 l0 x10_1).f0.f12).length c550_12, .slice A550_13 ((rd_T54 l0 x10_1).f1).length c550_13, .bool ((rd_T54 l0 x10_1).f2), .bool ((rd_T54 l0 x10_1).f3), .slice A550_16 ((rd_T54 l0 x10_1).f4).length c550_16] rfl rfl 54 _ (s_k BK551.out) sz54 rfl (by first | rfl | simp [Value.oneCell']) rfl ?_; intro w16 hnb hgr; have n0_ := s_a (s_g HB.out hgr GE551.out); have n1_ := s_a (blk_grown (s_k BK546.out) hgr (some_ne NB546_551.out)); have n2_ := s_a (blk_grown (s_k BK547.out) hgr (some_ne NB547_551.out)); clear HB; clear BK546; clear BK547; have HB := n0_; have BK546 := n1_; have BK547 := n2_; clear n0_ n1_ n2_; replace BK551 := s_a (hnb); replace HO_0 := s_a (Kd.V_grown (s_V HO_0.out) hgr (fun _ hk_ => some_ne hk_.2)); replace HO_9 := s_a (Kd.N_grown (s_N HO_9.out) hgr (fun _ hk_ => some_ne hk_.2)); replace HL550_9 := s_a (Kd.V_grown (s_V HL550_9.out) hgr (fun _ hk_ => some_ne hk_.2)); replace HL550_10 := s_a (Kd.V_grown (s_V HL550_10.out) hgr (fun _ hk_ => some_ne hk_.2)); replace HL550_11 := s_a (Kd.V_grown (s_V HL550_11.out) hgr (fun _ hk_ => some_ne hk_.2)); replace HL550_12 := s_a (Kd.V_grown (s_V HL550_12.out) hgr (fun _ hk_ => some_ne hk_.2)); replace HL550_13 := s_a (Kd.V_grown (s_V HL550_13.out) hgr (fun _ hk_ => some_ne hk_.2)); replace HL550_16 := s_a (Kd.V_grown (s_V HL550_16.out) hgr (fun _ hk_ => some_ne hk_.2)); clear hnb hgr; obtain ⟨hcz17_0, hcz17_1, hcz17_2, hcz17_3, hcz17_4, hcz17_5, hcz17_6, hcz17_7, hcz17_8, hcz17_9, hcz17_10, hcz17_11, hcz17_12, hcz17_13, hcz17_14, hcz17_15, hcz17_16⟩ := cells54 BK551.out; have hfz17_0 := blk_frozen BK551.out 0; have hfz17_1 := blk_frozen BK551.out 1; have hfz17_2 := blk_frozen BK551.out 2; have hfz17_3 := blk_frozen BK551.out 3; have hfz17_4 := blk_frozen BK551.out 4; have hfz17_5 := blk_frozen BK551.out 5; have hfz17_6 := blk_frozen BK551.out 6; have hfz17_7 := blk_frozen BK551.out 7; have hfz17_8 := blk_frozen BK551.out 8; have hfz17_9 := blk_frozen BK551.out 9; have hfz17_10 := blk_frozen BK551.out 10; have hfz17_11 := blk_frozen BK551.out 11; have hfz17_12 := blk_frozen BK551.out 12; have hfz17_13 := blk_frozen BK551.out 13; have hfz17_14 := blk_frozen BK551.out 14; have hfz17_15 := blk_frozen BK551.out 15; have hfz17_16 := blk_frozen BK551.out 16) | ((with_reducible refine gate_store (t := 52) (p := 28) rfl ?_); refine store_event (t := 52) (p := 28) (v := ?vo_w18) (w1 := (w16.setCell ⟨gb551, 16, none⟩ (.slice none 0 0))) ?hg ?ho ?hn ?hr ?_; (case ho => rfl); (case hg => rfl); (case hn => rfl); (case hr => first | (go_simp; done) | (go_simp; rfl)); intro w18 hw; have n0_ : Aside0 (Kd.V k54 54 w18 w.heap.size (fun k_ => (P0_ k_ ∨ w.heap.size ≤ k_) ∧ some k_ ≠ (u9 : Value).ownBlock ∧ k_ ≠ gb546 ∧ k_ ≠ gb547 ∧ k_ ≠ gb551) (.slice (some ad550) l0.length c0) l0) := ⟨(by rw [hw]; exact (by (with_reducible repeat (first | apply Kd.V_alloc | apply Kd.V_drewN | apply Kd.V_drew)); exact Kd.V_mono (Kd.V_far (p := ⟨gb551, 16, none⟩) (Kd.V_mono HO_0.out (fun k_ hk => (⟨hk, hk.2⟩ : _ ∧ k_ ≠ gb551))) (fun _ hk => hk.2) (.slice none 0 0)) (fun _ hk => ⟨hk.1.1.1, ⟨hk.1.1.2.1, ⟨hk.1.1.2.2.1, ⟨hk.1.1.2.2.2, hk.1.2⟩⟩⟩⟩)))⟩; have n1_ : Aside0 (Kd.N k54 54 w18 w.heap.size (fun k_ => (P0_ k_ ∨ w.heap.size ≤ k_) ∧ k_ ≠ gb546 ∧ k_ ≠ gb547 ∧ k_ ≠ gb551) u9 x9_1) := ⟨(by rw [hw]; exact (by (with_reducible repeat (first | apply Kd.N_alloc | apply Kd.N_drewN | apply Kd.N_drew)); exact Kd.N_mono (Kd.N_far (p := ⟨gb551, 16, none⟩) (Kd.N_mono HO_9.out (fun k_ hk => (⟨hk, hk.2⟩ : _ ∧ k_ ≠ gb551))) (fun _ hk => hk.2) (.slice none 0 0)) (fun _ hk => ⟨hk.1.1.1, ⟨hk.1.1.2.1, ⟨hk.1.1.2.2, hk.1.2⟩⟩⟩)))⟩; have n2_ : Aside0 (Kd.V k72 72 w18 w.heap.size (fun k_ => (P0_ k_ ∨ w.heap.size ≤ k_) ∧ some k_ ≠ (u9 : Value).ownBlock ∧ k_ ≠ gb546 ∧ k_ ≠ gb547 ∧ k_ ≠ gb551) (.slice A550_9 ((rd_T54 l0 x10_1).f0.f9).length c550_9) ((rd_T54 l0 x10_1).f0.f9)) := ⟨(by rw [hw]; exact (by (with_reducible repeat (first | apply Kd.V_alloc | apply Kd.V_drewN | apply Kd.V_drew)); exact Kd.V_mono (Kd.V_far (p := ⟨gb551, 16, none⟩) (Kd.V_mono HL550_9.out (fun k_ hk => (⟨hk, hk.2⟩ : _ ∧ k_ ≠ gb551))) (fun _ hk => hk.2) (.slice none 0 0)) (fun _ hk => ⟨hk.1.1.1, ⟨hk.1.1.2.1, ⟨hk.1.1.2.2.1, ⟨hk.1.1.2.2.2, hk.1.2⟩⟩⟩⟩)))⟩; have n3_ : Aside0 (Kd.V k110 110 w18 w.heap.size (fun k_ => (P0_ k_ ∨ w.heap.size ≤ k_) ∧ some k_ ≠ (u9 : Value).ownBlock ∧ k_ ≠ gb546 ∧ k_ ≠ gb547 ∧ k_ ≠ gb551) (.slice A550_10 ((rd_T54 l0 x10_1).f0.f10).length c550_10) ((rd_T54 l0 x10_1).f0.f10)) := ⟨(by rw [hw]; exact (by (with_reducible repeat (first | apply Kd.V_alloc | apply Kd.V_drewN | apply Kd.V_drew)); exact Kd.V_mono (Kd.V_far (p := ⟨gb551, 16, none⟩) (Kd.V_mono HL550_10.out (fun k_ hk => (⟨hk, hk.2⟩ : _ ∧ k_ ≠ gb551))) (fun _ hk => hk.2) (.slice none 0 0)) (fun _ hk => ⟨hk.1.1.1, ⟨hk.1.1.2.1, ⟨hk.1.1.2.2.1, ⟨hk.1.1.2.2.2, hk.1.2⟩⟩⟩⟩)))⟩; have n4_ : Aside0 (Kd.V Kd.string 9 w18 w.heap.size (fun k_ => (P0_ k_ ∨ w.heap.size ≤ k_) ∧ some k_ ≠ (u9 : Value).ownBlock ∧ k_ ≠ gb546 ∧ k_ ≠ gb547 ∧ k_ ≠ gb551) (.slice A550_11 ((rd_T54 l0 x10_1).f0.f11).length c550_11) ((rd_T54 l0 x10_1).f0.f11)) := ⟨(by rw [hw]; exact (by (with_reducible repeat (first | apply Kd.V_alloc | apply Kd.V_drewN | apply Kd.V_drew)); exact Kd.V_mono (Kd.V_far (p := ⟨gb551, 16, none⟩) (Kd.V_mono HL550_11.out (fun k_ hk => (⟨hk, hk.2⟩ : _ ∧ k_ ≠ gb551))) (fun _ hk => hk.2) (.slice none 0 0)) (fun _ hk => ⟨hk.1.1.1, ⟨hk.1.1.2.1, ⟨hk.1.1.2.2.1, ⟨hk.1.1.2.2.2, hk.1.2⟩⟩⟩⟩)))⟩; have n5_ : Aside0 (Kd.V k112 112 w18 w.heap.size (fun k_ => (P0_ k_ ∨ w.heap.size ≤ k_) ∧ some k_ ≠ (u9 : Value).ownBlock ∧ k_ ≠ gb546 ∧ k_ ≠ gb547 ∧ k_ ≠ gb551) (.slice A550_12 ((rd_T54 l0 x10_1).f0.f12).length c550_12) ((rd_T54 l0 x10_1).f0.f12)) := ⟨(by rw [hw]; exact (by (with_reducible repeat (first | apply Kd.V_alloc | apply Kd.V_drewN | apply Kd.V_drew)); exact Kd.V_mono (Kd.V_far (p := ⟨gb551, 16, none⟩) (Kd.V_mono HL550_12.out (fun k_ hk => (⟨hk, hk.2⟩ : _ ∧ k_ ≠ gb551))) (fun _ hk => hk.2) (.slice none 0 0)) (fun _ hk => ⟨hk.1.1.1, ⟨hk.1.1.2.1, ⟨hk.1.1.2.2.1, ⟨hk.1.1.2.2.2, hk.1.2⟩⟩⟩⟩)))⟩; have n6_ : Aside0 (Kd.V k74 74 w18 w.heap.size (fun k_ => (P0_ k_ ∨ w.heap.size ≤ k_) ∧ some k_ ≠ (u9 : Value).ownBlock ∧ k_ ≠ gb546 ∧ k_ ≠ gb547 ∧ k_ ≠ gb551) (.slice A550_13 ((rd_T54 l0 x10_1).f1).length c550_13) ((rd_T54 l0 x10_1).f1)) := ⟨(by rw [hw]; exact (by (with_reducible repeat (first | apply Kd.V_alloc | apply Kd.V_drewN | apply Kd.V_drew)); exact Kd.V_mono (Kd.V_far (p := ⟨gb551, 16, none⟩) (Kd.V_mono HL550_13.out (fun k_ hk => (⟨hk, hk.2⟩ : _ ∧ k_ ≠ gb551))) (fun _ hk => hk.2) (.slice none 0 0)) (fun _ hk => ⟨hk.1.1.1, ⟨hk.1.1.2.1, ⟨hk.1.1.2.2.1, ⟨hk.1.1.2.2.2, hk.1.2⟩⟩⟩⟩)))⟩; have n7_ : Aside0 (Kd.V k58 58 w18 w.heap.size (fun k_ => (P0_ k_ ∨ w.heap.size ≤ k_) ∧ some k_ ≠ (u9 : Value).ownBlock ∧ k_ ≠ gb546 ∧ k_ ≠ gb547 ∧ k_ ≠ gb551) (.slice A550_16 ((rd_T54 l0 x10_1).f4).length c550_16) ((rd_T54 l0 x10_1).f4)) := ⟨(by rw [hw]; exact (by (with_reducible repeat (first | apply Kd.V_alloc | apply Kd.V_drewN | apply Kd.V_drew)); exact Kd.V_mono (Kd.V_far (p := ⟨gb551, 16, none⟩) (Kd.V_mono HL550_16.out (fun k_ hk => (⟨hk, hk.2⟩ : _ ∧ k_ ≠ gb551))) (fun _ hk => hk.2) (.slice none 0 0)) (fun _ hk => ⟨hk.1.1.1, ⟨hk.1.1.2.1, ⟨hk.1.1.2.2.1, ⟨hk.1.1.2.2.2, hk.1.2⟩⟩⟩⟩)))⟩; have n8_ : Aside0 (w18.heap[gb546]? = some (.cells #[.string a1_0, .string a1_1, .string a1_2, .int .i64 a1_3, .int .i64 a1_4, .int .i64 a1_5, .int .i64 a1_6, .bool a1_7, .int .i64 a1_8, .slice A1_9 l1_9.length c1_9, .slice A1_10 l1_10.length c1_10, .slice A1_11 l1_11.length c1_11, .slice A1_12 l1_12.length c1_12, .string a1_13, .int .i64 a1_14, .int .i64 a1_15, .int .i64 a1_16, .slice A1_17 l1_17.length c1_17, .slice A1_18 l1_18.length c1_18, .slice A1_19 l1_19.length c1_19, .slice A1_20 l1_20.length c1_20, .slice A1_21 l1_21.length c1_21, .slice A1_22 l1_22.length c1_22, .int .i64 a1_23, .bool a1_24, .int .i64 a1_25, .int .i64 a1_26, .int .i64 a1_27, .slice A1_28 l1_28.length c1_28, .int .i64 a1_29, .string a1_30, .string a1_31] 41 (0, 0))) := ⟨(by rw [hw]; exact (by (with_reducible repeat (first | refine blk_drewN ?_ _ | refine blk_drew ?_ | refine blk_alloc ?_ _)); refine blk_far ?_ NB546_551.out _; (with_reducible repeat (first | refine blk_drewN ?_ _ | refine blk_drew ?_ | refine blk_alloc ?_ _)); exact BK546.out))⟩; have n9_ : Aside0 (w18.heap[gb547]? = some (.cells #[.string a2_0, .string a2_1, .string a2_2, .int .i64 a2_3, .int .i64 a2_4, .int .i64 a2_5, .int .i64 a2_6, .bool a2_7, .int .i64 a2_8, .slice A2_9 l2_9.length c2_9, .slice A2_10 l2_10.length c2_10, .slice A2_11 l2_11.length c2_11, .slice A2_12 l2_12.length c2_12, .string a2_13, .int .i64 a2_14, .int .i64 a2_15, .int .i64 a2_16, .slice A2_17 l2_17.length c2_17, .slice A2_18 l2_18.length c2_18, .slice A2_19 l2_19.length c2_19, .slice A2_20 l2_20.length c2_20, .slice A2_21 l2_21.length c2_21, .slice A2_22 l2_22.length c2_22, .int .i64 a2_23, .bool a2_24, .int .i64 a2_25, .int .i64 a2_26, .int .i64 a2_27, .slice A2_28 l2_28.length c2_28, .int .i64 a2_29, .string a2_30, .string a2_31] 41 (0, 0))) := ⟨(by rw [hw]; exact (by (with_reducible repeat (first | refine blk_drewN ?_ _ | refine blk_drew ?_ | refine blk_alloc ?_ _)); refine blk_far ?_ NB547_551.out _; (with_reducible repeat (first | refine blk_drewN ?_ _ | refine blk_drew ?_ | refine blk_alloc ?_ _)); exact BK547.out))⟩; have n10_ : Aside0 (w18.heap[gb551]? = some (.cells #[.string ((rd_T54 l0 x10_1).f0.f0), .string ((rd_T54 l0 x10_1).f0.f1), .string ((rd_T54 l0 x10_1).f0.f2), .int .i64 ((rd_T54 l0 x10_1).f0.f3), .int .i64 ((rd_T54 l0 x10_1).f0.f4), .int .i64 ((rd_T54 l0 x10_1).f0.f5), .int .i64 ((rd_T54 l0 x10_1).f0.f6), .bool ((rd_T54 l0 x10_1).f0.f7), .int .i64 ((rd_T54 l0 x10_1).f0.f8), .slice A550_9 ((rd_T54 l0 x10_1).f0.f9).length c550_9, .slice A550_10 ((rd_T54 l0 x10_1).f0.f10).length c550_10, .slice A550_11 ((rd_T54 l0 x10_1).f0.f11).length c550_11, .slice A550_12 ((rd_T54 l0 x10_1).f0.f12).length c550_12, .slice A550_13 ((rd_T54 l0 x10_1).f1).length c550_13, .bool ((rd_T54 l0 x10_1).f2), .bool ((rd_T54 l0 x10_1).f3), .slice none 0 0] 54 (0, 0))) := ⟨(by rw [hw]; exact (by (with_reducible repeat (first | refine blk_drewN ?_ _ | refine blk_drew ?_ | refine blk_alloc ?_ _)); refine blk_put (cs := #[.string ((rd_T54 l0 x10_1).f0.f0), .string ((rd_T54 l0 x10_1).f0.f1), .string ((rd_T54 l0 x10_1).f0.f2), .int .i64 ((rd_T54 l0 x10_1).f0.f3), .int .i64 ((rd_T54 l0 x10_1).f0.f4), .int .i64 ((rd_T54 l0 x10_1).f0.f5), .int .i64 ((rd_T54 l0 x10_1).f0.f6), .bool ((rd_T54 l0 x10_1).f0.f7), .int .i64 ((rd_T54 l0 x10_1).f0.f8), .slice A550_9 ((rd_T54 l0 x10_1).f0.f9).length c550_9, .slice A550_10 ((rd_T54 l0 x10_1).f0.f10).length c550_10, .slice A550_11 ((rd_T54 l0 x10_1).f0.f11).length c550_11, .slice A550_12 ((rd_T54 l0 x10_1).f0.f12).length c550_12, .slice A550_13 ((rd_T54 l0 x10_1).f1).length c550_13, .bool ((rd_T54 l0 x10_1).f2), .bool ((rd_T54 l0 x10_1).f3), .slice A550_16 ((rd_T54 l0 x10_1).f4).length c550_16]) ?_ 16 _ rfl; (with_reducible repeat (first | refine blk_drewN ?_ _ | refine blk_drew ?_ | refine blk_alloc ?_ _)); exact BK551.out))⟩; have n11_ : Aside0 (Below w.heap.size w w18) := ⟨(by rw [hw]; exact (by repeat (first | (with_reducible first | exact HB.out | apply below_alloc | apply pw_below_drewN | apply below_drew1 | refine below_set ?_ GE546.out | refine below_set ?_ GE547.out | refine below_set ?_ GE551.out) | exact HB.out)))⟩; clear hw; clear HO_0; clear HO_9; clear HL550_9; clear HL550_10; clear HL550_11; clear HL550_12; clear HL550_13; clear HL550_16; clear BK546; clear BK547; clear BK551; clear HB; have HO_0 := n0_; have HO_9 := n1_; have HL550_9 := n2_; have HL550_10 := n3_; have HL550_11 := n4_; have HL550_12 := n5_; have HL550_13 := n6_; have HL550_16 := n7_; have BK546 := n8_; have BK547 := n9_; have BK551 := n10_; have HB := n11_; clear n0_ n1_ n2_ n3_ n4_ n5_ n6_ n7_ n8_ n9_ n10_ n11_; have p552 : 0 ≤ (x10_1 : Int) := of_decide_eq_true (by first | (with_reducible assumption) | assumption); have q552 : x10_1 < (l0.length : Int) := of_decide_eq_true (by first | (with_reducible assumption) | assumption); obtain ⟨ad552, A552_9, c552_9, A552_10, c552_10, A552_11, c552_11, A552_12, c552_12, A552_13, c552_13, A552_16, c552_16, e552, hx552_0, hx552_1, hx552_2, hx552_3, hx552_4, hx552_5, hx552_6, hx552_7, hx552_8, hx552_9, hx552_10, hx552_11, hx552_12, hx552_13, hx552_14, hx552_15, hx552_16, hl552_9, hi552_9, hl552_10, hi552_10, hl552_11, hi552_11, hl552_12, hi552_12, hl552_13, hi552_13, hl552_16, hi552_16⟩ := at_T54 (Kd.V_reads' HO_0.out).2.2 x10_1 p552 q552; obtain rfl : ad550 = ad552 := (by injection e552); obtain ⟨ce552, hce552, hMe552, hcc552⟩ := Kd.V_get HO_0.out z54 x10_1 p552 (by first | exact q552 | exact of_decide_eq_true (by first | (with_reducible assumption) | assumption) | (have e_ := (Kd.V_reads' HO_0.out).1; omega)); obtain ⟨ua552_9, uc552_9, ua552_10, uc552_10, ua552_11, uc552_11, ua552_12, uc552_12, ua552_13, uc552_13, ua552_16, uc552_16, rfl, ul552_9, ge552_9, ul552_10, ge552_10, ul552_11, ge552_11, ul552_12, ge552_12, ul552_13, ge552_13, ul552_16, ge552_16⟩ := k54_openF hMe552; have hv552_9 := hcc552 9 _ rfl; rw [add_field _ _ 9 (by omega)] at hv552_9; replace hv552_9 := Option.some.inj (hv552_9.symm.trans hx552_9); injection hv552_9 with hva_ hvn_ hvc_; rw [hva_] at ge552_9; rw [hvc_] at ul552_9; have HL552_9 := s_a (show Kd.V k72 72 _ w.heap.size _ _ ((rd_T54 l0 x10_1).f0.f9) from Kd.V_mk ul552_9 ge552_9); clear hva_ hvn_ hvc_ ge552_9 ul552_9; have hv552_10 := hcc552 10 _ rfl; rw [add_field _ _ 10 (by omega)] at hv552_10; replace hv552_10 := Option.some.inj (hv552_10.symm.trans hx552_10); injection hv552_10 with hva_ hvn_ hvc_; rw [hva_] at ge552_10; rw [hvc_] at ul552_10; have HL552_10 := s_a (show Kd.V k110 110 _ w.heap.size _ _ ((rd_T54 l0 x10_1).f0.f10) from Kd.V_mk ul552_10 ge552_10); clear hva_ hvn_ hvc_ ge552_10 ul552_10; have hv552_11 := hcc552 11 _ rfl; rw [add_field _ _ 11 (by omega)] at hv552_11; replace hv552_11 := Option.some.inj (hv552_11.symm.trans hx552_11); injection hv552_11 with hva_ hvn_ hvc_; rw [hva_] at ge552_11; rw [hvc_] at ul552_11; have HL552_11 := s_a (show Kd.V Kd.string 9 _ w.heap.size _ _ ((rd_T54 l0 x10_1).f0.f11) from Kd.V_mk ul552_11 ge552_11); clear hva_ hvn_ hvc_ ge552_11 ul552_11; have hv552_12 := hcc552 12 _ rfl; rw [add_field _ _ 12 (by omega)] at hv552_12; replace hv552_12 := Option.some.inj (hv552_12.symm.trans hx552_12); injection hv552_12 with hva_ hvn_ hvc_; rw [hva_] at ge552_12; rw [hvc_] at ul552_12; have HL552_12 := s_a (show Kd.V k112 112 _ w.heap.size _ _ ((rd_T54 l0 x10_1).f0.f12) from Kd.V_mk ul552_12 ge552_12); clear hva_ hvn_ hvc_ ge552_12 ul552_12; have hv552_13 := hcc552 13 _ rfl; rw [add_field _ _ 13 (by omega)] at hv552_13; replace hv552_13 := Option.some.inj (hv552_13.symm.trans hx552_13); injection hv552_13 with hva_ hvn_ hvc_; rw [hva_] at ge552_13; rw [hvc_] at ul552_13; have HL552_13 := s_a (show Kd.V k74 74 _ w.heap.size _ _ ((rd_T54 l0 x10_1).f1) from Kd.V_mk ul552_13 ge552_13); clear hva_ hvn_ hvc_ ge552_13 ul552_13; have hv552_16 := hcc552 16 _ rfl; rw [add_field _ _ 16 (by omega)] at hv552_16; replace hv552_16 := Option.some.inj (hv552_16.symm.trans hx552_16); injection hv552_16 with hva_ hvn_ hvc_; rw [hva_] at ge552_16; rw [hvc_] at ul552_16; have HL552_16 := s_a (show Kd.V k58 58 _ w.heap.size _ _ ((rd_T54 l0 x10_1).f4) from Kd.V_mk ul552_16 ge552_16); clear hva_ hvn_ hvc_ ge552_16 ul552_16; clear hcc552 hce552; have HR552_9 := s_a hi552_9; have HC552_9 := s_a hl552_9; clear hi552_9 hl552_9; have HR552_10 := s_a hi552_10; have HC552_10 := s_a hl552_10; clear hi552_10 hl552_10; have HR552_11 := s_a hi552_11; have HC552_11 := s_a hl552_11; clear hi552_11 hl552_11; have HR552_12 := s_a hi552_12; have HC552_12 := s_a hl552_12; clear hi552_12 hl552_12; have HR552_13 := s_a hi552_13; have HC552_13 := s_a hl552_13; clear hi552_13 hl552_13; have HR552_16 := s_a hi552_16; have HC552_16 := s_a hl552_16; clear hi552_16 hl552_16; replace p552 := eq_true p552; replace q552 := eq_true q552))
       go_loopg [12] k1 (fun kq v12 w' => ∃ (x12_2 : Int) (x552016_2 : List (S58)) (u552016 : Value), v12 = .int .i64 x12_2 ∧ Aside0 (orchestratorlaw57_NetpolicyOrder.l1 kq l0 a3 x9_1 x10_1 x12_2 a1_0 a1_1 a1_2 a1_3 a1_4 a1_5 a1_6 a1_7 a1_8 l1_9 l1_10 l1_11 l1_12 a1_13 a1_14 a1_15 a1_16 l1_17 l1_18 l1_19 l1_20 l1_21 l1_22 a1_23 a1_24 a1_25 a1_26 a1_27 l1_28 a1_29 a1_30 a1_31 a2_0 a2_1 a2_2 a2_3 a2_4 a2_5 a2_6 a2_7 a2_8 l2_9 l2_10 l2_11 l2_12 a2_13 a2_14 a2_15 a2_16 l2_17 l2_18 l2_19 l2_20 l2_21 l2_22 a2_23 a2_24 a2_25 a2_26 a2_27 l2_28 a2_29 a2_30 a2_31 ((rd_T54 l0 x10_1).f0.f0) ((rd_T54 l0 x10_1).f0.f1) ((rd_T54 l0 x10_1).f0.f2) ((rd_T54 l0 x10_1).f0.f3) ((rd_T54 l0 x10_1).f0.f4) ((rd_T54 l0 x10_1).f0.f5) ((rd_T54 l0 x10_1).f0.f6) ((rd_T54 l0 x10_1).f0.f7) ((rd_T54 l0 x10_1).f0.f8) ((rd_T54 l0 x10_1).f0.f9) ((rd_T54 l0 x10_1).f0.f10) ((rd_T54 l0 x10_1).f0.f11) ((rd_T54 l0 x10_1).f0.f12) ((rd_T54 l0 x10_1).f1) ((rd_T54 l0 x10_1).f2) ((rd_T54 l0 x10_1).f3) x552016_2 = some true) ∧ Aside0 (kq ≤ k1) ∧ Aside0 (Kd.V k54 54 w' w.heap.size (fun k_ => (P0_ k_ ∨ w.heap.size ≤ k_) ∧ some k_ ≠ (u9 : Value).ownBlock ∧ some k_ ≠ (u552016 : Value).ownBlock ∧ k_ ≠ gb546 ∧ k_ ≠ gb547 ∧ k_ ≠ gb551) (.slice (some ad550) l0.length c0) l0) ∧ Aside0 (Kd.N k54 54 w' w.heap.size (fun k_ => (P0_ k_ ∨ w.heap.size ≤ k_) ∧ some k_ ≠ (u552016 : Value).ownBlock ∧ k_ ≠ gb546 ∧ k_ ≠ gb547 ∧ k_ ≠ gb551) u9 x9_1) ∧ Aside0 (Kd.V k72 72 w' w.heap.size (fun k_ => (P0_ k_ ∨ w.heap.size ≤ k_) ∧ some k_ ≠ (u9 : Value).ownBlock ∧ some k_ ≠ (u552016 : Value).ownBlock ∧ k_ ≠ gb546 ∧ k_ ≠ gb547 ∧ k_ ≠ gb551) (.slice A550_9 ((rd_T54 l0 x10_1).f0.f9).length c550_9) ((rd_T54 l0 x10_1).f0.f9)) ∧ Aside0 (Kd.V k110 110 w' w.heap.size (fun k_ => (P0_ k_ ∨ w.heap.size ≤ k_) ∧ some k_ ≠ (u9 : Value).ownBlock ∧ some k_ ≠ (u552016 : Value).ownBlock ∧ k_ ≠ gb546 ∧ k_ ≠ gb547 ∧ k_ ≠ gb551) (.slice A550_10 ((rd_T54 l0 x10_1).f0.f10).length c550_10) ((rd_T54 l0 x10_1).f0.f10)) ∧ Aside0 (Kd.V Kd.string 9 w' w.heap.size (fun k_ => (P0_ k_ ∨ w.heap.size ≤ k_) ∧ some k_ ≠ (u9 : Value).ownBlock ∧ some k_ ≠ (u552016 : Value).ownBlock ∧ k_ ≠ gb546 ∧ k_ ≠ gb547 ∧ k_ ≠ gb551) (.slice A550_11 ((rd_T54 l0 x10_1).f0.f11).length c550_11) ((rd_T54 l0 x10_1).f0.f11)) ∧ Aside0 (Kd.V k112 112 w' w.heap.size (fun k_ => (P0_ k_ ∨ w.heap.size ≤ k_) ∧ some k_ ≠ (u9 : Value).ownBlock ∧ some k_ ≠ (u552016 : Value).ownBlock ∧ k_ ≠ gb546 ∧ k_ ≠ gb547 ∧ k_ ≠ gb551) (.slice A550_12 ((rd_T54 l0 x10_1).f0.f12).length c550_12) ((rd_T54 l0 x10_1).f0.f12)) ∧ Aside0 (Kd.V k74 74 w' w.heap.size (fun k_ => (P0_ k_ ∨ w.heap.size ≤ k_) ∧ some k_ ≠ (u9 : Value).ownBlock ∧ some k_ ≠ (u552016 : Value).ownBlock ∧ k_ ≠ gb546 ∧ k_ ≠ gb547 ∧ k_ ≠ gb551) (.slice A550_13 ((rd_T54 l0 x10_1).f1).length c550_13) ((rd_T54 l0 x10_1).f1)) ∧ Aside0 (Kd.N k58 58 w' w.heap.size (fun k_ => (P0_ k_ ∨ w.heap.size ≤ k_) ∧ some k_ ≠ (u9 : Value).ownBlock ∧ k_ ≠ gb546 ∧ k_ ≠ gb547 ∧ k_ ≠ gb551) u552016 x552016_2) ∧ Aside0 (w'.heap[gb546]? = some (.cells #[.string a1_0, .string a1_1, .string a1_2, .int .i64 a1_3, .int .i64 a1_4, .int .i64 a1_5, .int .i64 a1_6, .bool a1_7, .int .i64 a1_8, (.slice A1_9 l1_9.length c1_9), (.slice A1_10 l1_10.length c1_10), (.slice A1_11 l1_11.length c1_11), (.slice A1_12 l1_12.length c1_12), .string a1_13, .int .i64 a1_14, .int .i64 a1_15, .int .i64 a1_16, (.slice A1_17 l1_17.length c1_17), (.slice A1_18 l1_18.length c1_18), (.slice A1_19 l1_19.length c1_19), (.slice A1_20 l1_20.length c1_20), (.slice A1_21 l1_21.length c1_21), (.slice A1_22 l1_22.length c1_22), .int .i64 a1_23, .bool a1_24, .int .i64 a1_25, .int .i64 a1_26, .int .i64 a1_27, (.slice A1_28 l1_28.length c1_28), .int .i64 a1_29, .string a1_30, .string a1_31] 41 (0, 0))) ∧ Aside0 (w'.heap[gb547]? = some (.cells #[.string a2_0, .string a2_1, .string a2_2, .int .i64 a2_3, .int .i64 a2_4, .int .i64 a2_5, .int .i64 a2_6, .bool a2_7, .int .i64 a2_8, (.slice A2_9 l2_9.length c2_9), (.slice A2_10 l2_10.length c2_10), (.slice A2_11 l2_11.length c2_11), (.slice A2_12 l2_12.length c2_12), .string a2_13, .int .i64 a2_14, .int .i64 a2_15, .int .i64 a2_16, (.slice A2_17 l2_17.length c2_17), (.slice A2_18 l2_18.length c2_18), (.slice A2_19 l2_19.length c2_19), (.slice A2_20 l2_20.length c2_20), (.slice A2_21 l2_21.length c2_21), (.slice A2_22 l2_22.length c2_22), .int .i64 a2_23, .bool a2_24, .int .i64 a2_25, .int .i64 a2_26, .int .i64 a2_27, (.slice A2_28 l2_28.length c2_28), .int .i64 a2_29, .string a2_30, .string a2_31] 41 (0, 0))) ∧ Aside0 (w'.heap[gb551]? = some (.cells #[.string ((rd_T54 l0 x10_1).f0.f0), .string ((rd_T54 l0 x10_1).f0.f1), .string ((rd_T54 l0 x10_1).f0.f2), .int .i64 ((rd_T54 l0 x10_1).f0.f3), .int .i64 ((rd_T54 l0 x10_1).f0.f4), .int .i64 ((rd_T54 l0 x10_1).f0.f5), .int .i64 ((rd_T54 l0 x10_1).f0.f6), .bool ((rd_T54 l0 x10_1).f0.f7), .int .i64 ((rd_T54 l0 x10_1).f0.f8), (.slice A550_9 ((rd_T54 l0 x10_1).f0.f9).length c550_9), (.slice A550_10 ((rd_T54 l0 x10_1).f0.f10).length c550_10), (.slice A550_11 ((rd_T54 l0 x10_1).f0.f11).length c550_11), (.slice A550_12 ((rd_T54 l0 x10_1).f0.f12).length c550_12), (.slice A550_13 ((rd_T54 l0 x10_1).f1).length c550_13), .bool ((rd_T54 l0 x10_1).f2), .bool ((rd_T54 l0 x10_1).f3), u552016] 54 (0, 0))) ∧ Aside0 (Below w.heap.size w w'))
       case atStart => exact ⟨(wrap64 ((((rd_T54 l0 x10_1).f4).length : Int) - 1)), (([] : List (S58))), (.slice none 0 0), (by first | rfl | (simp; done) | (simp [*]; done)), H', ⟨Nat.le_refl _⟩, ⟨by exact s_V (Kd.V_mono HO_0.out (fun _ hk => ⟨hk.1, ⟨hk.2.1, ⟨(by simp [Value.ownBlock]), ⟨hk.2.2.1, ⟨hk.2.2.2.1, hk.2.2.2.2⟩⟩⟩⟩⟩))⟩, ⟨by exact s_N (Kd.N_mono HO_9.out (fun _ hk => ⟨hk.1, ⟨(by simp [Value.ownBlock]), ⟨hk.2.1, ⟨hk.2.2.1, hk.2.2.2⟩⟩⟩⟩))⟩, ⟨by exact s_V (Kd.V_mono HL550_9.out (fun _ hk => ⟨hk.1, ⟨hk.2.1, ⟨(by simp [Value.ownBlock]), ⟨hk.2.2.1, ⟨hk.2.2.2.1, hk.2.2.2.2⟩⟩⟩⟩⟩))⟩, ⟨by exact s_V (Kd.V_mono HL550_10.out (fun _ hk => ⟨hk.1, ⟨hk.2.1, ⟨(by simp [Value.ownBlock]), ⟨hk.2.2.1, ⟨hk.2.2.2.1, hk.2.2.2.2⟩⟩⟩⟩⟩))⟩, ⟨by exact s_V (Kd.V_mono HL550_11.out (fun _ hk => ⟨hk.1, ⟨hk.2.1, ⟨(by simp [Value.ownBlock]), ⟨hk.2.2.1, ⟨hk.2.2.2.1, hk.2.2.2.2⟩⟩⟩⟩⟩))⟩, ⟨by exact s_V (Kd.V_mono HL550_12.out (fun _ hk => ⟨hk.1, ⟨hk.2.1, ⟨(by simp [Value.ownBlock]), ⟨hk.2.2.1, ⟨hk.2.2.2.1, hk.2.2.2.2⟩⟩⟩⟩⟩))⟩, ⟨by exact s_V (Kd.V_mono HL550_13.out (fun _ hk => ⟨hk.1, ⟨hk.2.1, ⟨(by simp [Value.ownBlock]), ⟨hk.2.2.1, ⟨hk.2.2.2.1, hk.2.2.2.2⟩⟩⟩⟩⟩))⟩, ⟨by first | exact Kd.R_nil _ _ _ _ _ | exact Kd.N_nil _ _ _ _ _ | exact Kd.V_nil _ _ _ _ _ | exact Kd.Q_nil _ _ _ _ _ | exact Kd.S_nil _ _ _ _ _⟩, ⟨by exact s_k BK546.out⟩, ⟨by exact s_k BK547.out⟩, ⟨by exact s_k BK551.out⟩, ⟨by exact s_b HB.out⟩⟩
       case round =>
        clear H'
        try clear c1
        try clear c2
        try clear p2
        try clear c5
        try clear p5
        try clear q5
        try clear hx5
        try clear c6
        try clear p6
        try clear c7
        try clear c9
        try clear c9b0
        try clear c10
        try clear c10b0
        try clear c11
        try clear c11b0
        try clear c13
        try clear c14
        try clear hcz15_0
        try clear hcz15_1
        try clear hcz15_10
        try clear hcz15_11
        try clear hcz15_12
        try clear hcz15_13
        try clear hcz15_14
        try clear hcz15_15
        try clear hcz15_16
        try clear hcz15_2
        try clear hcz15_3
        try clear hcz15_4
        try clear hcz15_5
        try clear hcz15_6
        try clear hcz15_7
        try clear hcz15_8
        try clear hcz15_9
        try clear hcz17_0
        try clear hcz17_1
        try clear hcz17_10
        try clear hcz17_11
        try clear hcz17_12
        try clear hcz17_13
        try clear hcz17_14
        try clear hcz17_15
        try clear hcz17_16
        try clear hcz17_2
        try clear hcz17_3
        try clear hcz17_4
        try clear hcz17_5
        try clear hcz17_6
        try clear hcz17_7
        try clear hcz17_8
        try clear hcz17_9
        try clear hfz15_0
        try clear hfz15_1
        try clear hfz15_10
        try clear hfz15_11
        try clear hfz15_12
        try clear hfz15_13
        try clear hfz15_14
        try clear hfz15_15
        try clear hfz15_16
        try clear hfz15_2
        try clear hfz15_3
        try clear hfz15_4
        try clear hfz15_5
        try clear hfz15_6
        try clear hfz15_7
        try clear hfz15_8
        try clear hfz15_9
        try clear hfz17_0
        try clear hfz17_1
        try clear hfz17_10
        try clear hfz17_11
        try clear hfz17_12
        try clear hfz17_13
        try clear hfz17_14
        try clear hfz17_15
        try clear hfz17_16
        try clear hfz17_2
        try clear hfz17_3
        try clear hfz17_4
        try clear hfz17_5
        try clear hfz17_6
        try clear hfz17_7
        try clear hfz17_8
        try clear hfz17_9
        try clear hx550_0
        try clear hx550_1
        try clear hx550_10
        try clear hx550_11
        try clear hx550_12
        try clear hx550_13
        try clear hx550_14
        try clear hx550_15
        try clear hx550_16
        try clear hx550_2
        try clear hx550_3
        try clear hx550_4
        try clear hx550_5
        try clear hx550_6
        try clear hx550_7
        try clear hx550_8
        try clear hx550_9
        try clear hx552_0
        try clear hx552_1
        try clear hx552_10
        try clear hx552_11
        try clear hx552_12
        try clear hx552_13
        try clear hx552_14
        try clear hx552_15
        try clear hx552_16
        try clear hx552_2
        try clear hx552_3
        try clear hx552_4
        try clear hx552_5
        try clear hx552_6
        try clear hx552_7
        try clear hx552_8
        try clear hx552_9
        try clear p2
        try clear p550
        try clear p552
        try clear p6
        try clear q550
        try clear q552
        obtain ⟨x12_2, x552016_2, u552016, rfl, HA, HK2, HO_0, HO_9, HO_552009, HO_552010, HO_552011, HO_552012, HO_552013, HO_552016, BK546, BK547, BK551, HB⟩ := hrel
        cases gk with
        | zero => exact absurd HA.out (by simp [orchestratorlaw57_NetpolicyOrder.l1])
        | succ k2 =>
         have H := HA.out
         clear HA
         simp only [orchestratorlaw57_NetpolicyOrder.l1] at H
         by_cases c19 : x12_2 ≥ 0
         ·rw [if_pos c19] at H
          have c19b0 : decide (0 ≤ x12_2) = true := decide_eq_true c19
          clear c19
          by_cases c20 : 0 ≤ x10_1
          ·rw [if_pos c20] at H
           have c20b0 : decide (0 ≤ x10_1) = true := decide_eq_true c20
           clear c20
           by_cases c21 : x10_1 < (l0.length : Int)
           ·rw [if_pos c21] at H
            have c21b0 : decide (x10_1 < (l0.length : Int)) = true := decide_eq_true c21
            clear c21
            by_cases c22 : 0 ≤ x12_2
            ·rw [if_pos c22] at H
             have c22b0 : decide (0 ≤ x12_2) = true := decide_eq_true c22
             clear c22
             by_cases c23 : x12_2 < (((rd_T54 l0 x10_1).f4).length : Int)
             ·rw [if_pos c23] at H
              have c23b0 : decide (x12_2 < (((rd_T54 l0 x10_1).f4).length : Int)) = true := decide_eq_true c23
              clear c23
              by_cases c24 : x552016_2.length < 2513169434916
              ·rw [if_pos c24] at H
               have LMc24 := s_a c24
               clear c24
               obtain ⟨y555, hy555⟩ : ∃ y_ : List (S58), y_ = (x552016_2 ++ [(⟨(rd_T58 ((rd_T54 l0 x10_1).f4) x12_2).f0, (rd_T58 ((rd_T54 l0 x10_1).f4) x12_2).f1, (rd_T58 ((rd_T54 l0 x10_1).f4) x12_2).f2⟩ : S58)]) := ⟨_, rfl⟩
               (try rw [← hy555] at H)
               have Ny555 := s_a hy555
               clear hy555
               have H' := s_a H
               clear H
               try go_wp2
               replace HO_0 := s_a (Kd.V_drew HO_0.out)
               replace HO_9 := s_a (Kd.N_drew HO_9.out)
               replace HO_552009 := s_a (Kd.V_drew HO_552009.out)
               replace HO_552010 := s_a (Kd.V_drew HO_552010.out)
               replace HO_552011 := s_a (Kd.V_drew HO_552011.out)
               replace HO_552012 := s_a (Kd.V_drew HO_552012.out)
               replace HO_552013 := s_a (Kd.V_drew HO_552013.out)
               replace HO_552016 := s_a (Kd.N_drew HO_552016.out)
               replace BK546 := s_a (blk_drew BK546.out)
               replace BK547 := s_a (blk_drew BK547.out)
               replace BK551 := s_a (blk_drew BK551.out)
               replace HB := s_a (below_drew1 HB.out)
               have p553 : 0 ≤ (x10_1 : Int) := of_decide_eq_true (by first | (with_reducible assumption) | assumption)
               have q553 : x10_1 < (l0.length : Int) := of_decide_eq_true (by first | (with_reducible assumption) | assumption)
               obtain ⟨ad553, A553_9, c553_9, A553_10, c553_10, A553_11, c553_11, A553_12, c553_12, A553_13, c553_13, A553_16, c553_16, e553, hx553_0, hx553_1, hx553_2, hx553_3, hx553_4, hx553_5, hx553_6, hx553_7, hx553_8, hx553_9, hx553_10, hx553_11, hx553_12, hx553_13, hx553_14, hx553_15, hx553_16, hl553_9, hi553_9, hl553_10, hi553_10, hl553_11, hi553_11, hl553_12, hi553_12, hl553_13, hi553_13, hl553_16, hi553_16⟩ := at_T54 (Kd.V_reads' HO_0.out).2.2 x10_1 p553 q553
               obtain rfl : ad550 = ad553 := (by injection e553)
               obtain ⟨ce553, hce553, hMe553, hcc553⟩ := Kd.V_get HO_0.out z54 x10_1 p553 (by first | exact q553 | exact of_decide_eq_true (by first | (with_reducible assumption) | assumption) | (have e_ := (Kd.V_reads' HO_0.out).1; omega))
               obtain ⟨ua553_9, uc553_9, ua553_10, uc553_10, ua553_11, uc553_11, ua553_12, uc553_12, ua553_13, uc553_13, ua553_16, uc553_16, rfl, ul553_9, ge553_9, ul553_10, ge553_10, ul553_11, ge553_11, ul553_12, ge553_12, ul553_13, ge553_13, ul553_16, ge553_16⟩ := k54_openF hMe553
               have hv553_9 := hcc553 9 _ rfl
               rw [add_field _ _ 9 (by omega)] at hv553_9
               replace hv553_9 := Option.some.inj (hv553_9.symm.trans hx553_9)
               injection hv553_9 with hva_ hvn_ hvc_
               rw [hva_] at ge553_9
               rw [hvc_] at ul553_9
               have HL553_9 := s_a (show Kd.V k72 72 _ w.heap.size _ _ ((rd_T54 l0 x10_1).f0.f9) from Kd.V_mk ul553_9 ge553_9)
               clear hva_ hvn_ hvc_ ge553_9 ul553_9
               have hv553_10 := hcc553 10 _ rfl
               rw [add_field _ _ 10 (by omega)] at hv553_10
               replace hv553_10 := Option.some.inj (hv553_10.symm.trans hx553_10)
               injection hv553_10 with hva_ hvn_ hvc_
               rw [hva_] at ge553_10
               rw [hvc_] at ul553_10
               have HL553_10 := s_a (show Kd.V k110 110 _ w.heap.size _ _ ((rd_T54 l0 x10_1).f0.f10) from Kd.V_mk ul553_10 ge553_10)
               clear hva_ hvn_ hvc_ ge553_10 ul553_10
               have hv553_11 := hcc553 11 _ rfl
               rw [add_field _ _ 11 (by omega)] at hv553_11
               replace hv553_11 := Option.some.inj (hv553_11.symm.trans hx553_11)
               injection hv553_11 with hva_ hvn_ hvc_
               rw [hva_] at ge553_11
               rw [hvc_] at ul553_11
               have HL553_11 := s_a (show Kd.V Kd.string 9 _ w.heap.size _ _ ((rd_T54 l0 x10_1).f0.f11) from Kd.V_mk ul553_11 ge553_11)
               clear hva_ hvn_ hvc_ ge553_11 ul553_11
               have hv553_12 := hcc553 12 _ rfl
               rw [add_field _ _ 12 (by omega)] at hv553_12
               replace hv553_12 := Option.some.inj (hv553_12.symm.trans hx553_12)
               injection hv553_12 with hva_ hvn_ hvc_
               rw [hva_] at ge553_12
               rw [hvc_] at ul553_12
               have HL553_12 := s_a (show Kd.V k112 112 _ w.heap.size _ _ ((rd_T54 l0 x10_1).f0.f12) from Kd.V_mk ul553_12 ge553_12)
               clear hva_ hvn_ hvc_ ge553_12 ul553_12
               have hv553_13 := hcc553 13 _ rfl
               rw [add_field _ _ 13 (by omega)] at hv553_13
               replace hv553_13 := Option.some.inj (hv553_13.symm.trans hx553_13)
               injection hv553_13 with hva_ hvn_ hvc_
               rw [hva_] at ge553_13
               rw [hvc_] at ul553_13
               have HL553_13 := s_a (show Kd.V k74 74 _ w.heap.size _ _ ((rd_T54 l0 x10_1).f1) from Kd.V_mk ul553_13 ge553_13)
               clear hva_ hvn_ hvc_ ge553_13 ul553_13
               have hv553_16 := hcc553 16 _ rfl
               rw [add_field _ _ 16 (by omega)] at hv553_16
               replace hv553_16 := Option.some.inj (hv553_16.symm.trans hx553_16)
               injection hv553_16 with hva_ hvn_ hvc_
               rw [hva_] at ge553_16
               rw [hvc_] at ul553_16
               have HL553_16 := s_a (show Kd.V k58 58 _ w.heap.size _ _ ((rd_T54 l0 x10_1).f4) from Kd.V_mk ul553_16 ge553_16)
               clear hva_ hvn_ hvc_ ge553_16 ul553_16
               clear hcc553 hce553
               have HR553_9 := s_a hi553_9
               have HC553_9 := s_a hl553_9
               clear hi553_9 hl553_9
               have HR553_10 := s_a hi553_10
               have HC553_10 := s_a hl553_10
               clear hi553_10 hl553_10
               have HR553_11 := s_a hi553_11
               have HC553_11 := s_a hl553_11
               clear hi553_11 hl553_11
               have HR553_12 := s_a hi553_12
               have HC553_12 := s_a hl553_12
               clear hi553_12 hl553_12
               have HR553_13 := s_a hi553_13
               have HC553_13 := s_a hl553_13
               clear hi553_13 hl553_13
               have HR553_16 := s_a hi553_16
               have HC553_16 := s_a hl553_16
               clear hi553_16 hl553_16
               replace p553 := eq_true p553
               replace q553 := eq_true q553
               have p554 : 0 ≤ (x12_2 : Int) := of_decide_eq_true (by first | (with_reducible assumption) | assumption)
               have q554 : x12_2 < (((rd_T54 l0 x10_1).f4).length : Int) := of_decide_eq_true (by first | (with_reducible assumption) | assumption)
               obtain ⟨ad554, A554_1, c554_1, A554_2, c554_2, e554, hx554_0, hx554_1, hx554_2, hl554_1, hi554_1, hl554_2, hi554_2⟩ := at_T58 (by repeat (first | (with_reducible exact HR553_16.out) | (with_reducible refine Kd.C_alloc ?_ _) | (with_reducible refine Kd.C_drewN ?_ _) | (with_reducible refine Kd.C_drew ?_) | exact HR553_16.out)) x12_2 p554 q554
               cases e554
               obtain ⟨ce554, hce554, hMe554, hcc554⟩ := Kd.V_get HL553_16.out z58 x12_2 p554 (by first | exact q554 | exact of_decide_eq_true (by first | (with_reducible assumption) | assumption) | (have e_ := (Kd.V_reads' HL553_16.out).1; omega))
               obtain ⟨ua554_1, uc554_1, ua554_2, uc554_2, rfl, ul554_1, ge554_1, ul554_2, ge554_2⟩ := k58_openF hMe554
               have hv554_1 := hcc554 1 _ rfl
               rw [add_field _ _ 1 (by omega)] at hv554_1
               replace hv554_1 := Option.some.inj (hv554_1.symm.trans hx554_1)
               injection hv554_1 with hva_ hvn_ hvc_
               rw [hva_] at ge554_1
               rw [hvc_] at ul554_1
               have HL554_1 := s_a (show Kd.V k64 64 _ w.heap.size _ _ ((rd_T58 ((rd_T54 l0 x10_1).f4) x12_2).f1) from Kd.V_mk ul554_1 ge554_1)
               clear hva_ hvn_ hvc_ ge554_1 ul554_1
               have hv554_2 := hcc554 2 _ rfl
               rw [add_field _ _ 2 (by omega)] at hv554_2
               replace hv554_2 := Option.some.inj (hv554_2.symm.trans hx554_2)
               injection hv554_2 with hva_ hvn_ hvc_
               rw [hva_] at ge554_2
               rw [hvc_] at ul554_2
               have HL554_2 := s_a (show Kd.V (Kd.int .i64) 3 _ w.heap.size _ _ ((rd_T58 ((rd_T54 l0 x10_1).f4) x12_2).f2) from Kd.V_mk ul554_2 ge554_2)
               clear hva_ hvn_ hvc_ ge554_2 ul554_2
               clear hcc554 hce554
               have HR554_1 := s_a hi554_1
               have HC554_1 := s_a hl554_1
               clear hi554_1 hl554_1
               have HR554_2 := s_a hi554_2
               have HC554_2 := s_a hl554_2
               clear hi554_2 hl554_2
               replace p554 := eq_true p554
               replace q554 := eq_true q554
               refine start_ (n := 14) (S := fun w' => w'.cell? ⟨gb551, 16, none⟩ = some (u552016) ∧ w'.cell? (ad550.add ((x10_1).toNat * 17)) = some (.string ((rd_T54 l0 x10_1).f0.f0)) ∧ w'.cell? ⟨(ad550.add ((x10_1).toNat * 17)).block, (ad550.add ((x10_1).toNat * 17)).off + 1, none⟩ = some (.string ((rd_T54 l0 x10_1).f0.f1)) ∧ w'.cell? ⟨(ad550.add ((x10_1).toNat * 17)).block, (ad550.add ((x10_1).toNat * 17)).off + 2, none⟩ = some (.string ((rd_T54 l0 x10_1).f0.f2)) ∧ w'.cell? ⟨(ad550.add ((x10_1).toNat * 17)).block, (ad550.add ((x10_1).toNat * 17)).off + 3, none⟩ = some (.int .i64 ((rd_T54 l0 x10_1).f0.f3)) ∧ w'.cell? ⟨(ad550.add ((x10_1).toNat * 17)).block, (ad550.add ((x10_1).toNat * 17)).off + 4, none⟩ = some (.int .i64 ((rd_T54 l0 x10_1).f0.f4)) ∧ w'.cell? ⟨(ad550.add ((x10_1).toNat * 17)).block, (ad550.add ((x10_1).toNat * 17)).off + 5, none⟩ = some (.int .i64 ((rd_T54 l0 x10_1).f0.f5)) ∧ w'.cell? ⟨(ad550.add ((x10_1).toNat * 17)).block, (ad550.add ((x10_1).toNat * 17)).off + 6, none⟩ = some (.int .i64 ((rd_T54 l0 x10_1).f0.f6)) ∧ w'.cell? ⟨(ad550.add ((x10_1).toNat * 17)).block, (ad550.add ((x10_1).toNat * 17)).off + 7, none⟩ = some (.bool ((rd_T54 l0 x10_1).f0.f7)) ∧ w'.cell? ⟨(ad550.add ((x10_1).toNat * 17)).block, (ad550.add ((x10_1).toNat * 17)).off + 8, none⟩ = some (.int .i64 ((rd_T54 l0 x10_1).f0.f8)) ∧ w'.cell? ⟨(ad550.add ((x10_1).toNat * 17)).block, (ad550.add ((x10_1).toNat * 17)).off + 9, none⟩ = some (.slice A553_9 ((rd_T54 l0 x10_1).f0.f9).length c553_9) ∧ w'.cell? ⟨(ad550.add ((x10_1).toNat * 17)).block, (ad550.add ((x10_1).toNat * 17)).off + 10, none⟩ = some (.slice A553_10 ((rd_T54 l0 x10_1).f0.f10).length c553_10) ∧ w'.cell? ⟨(ad550.add ((x10_1).toNat * 17)).block, (ad550.add ((x10_1).toNat * 17)).off + 11, none⟩ = some (.slice A553_11 ((rd_T54 l0 x10_1).f0.f11).length c553_11) ∧ w'.cell? ⟨(ad550.add ((x10_1).toNat * 17)).block, (ad550.add ((x10_1).toNat * 17)).off + 12, none⟩ = some (.slice A553_12 ((rd_T54 l0 x10_1).f0.f12).length c553_12) ∧ w'.cell? ⟨(ad550.add ((x10_1).toNat * 17)).block, (ad550.add ((x10_1).toNat * 17)).off + 13, none⟩ = some (.slice A553_13 ((rd_T54 l0 x10_1).f1).length c553_13) ∧ w'.cell? ⟨(ad550.add ((x10_1).toNat * 17)).block, (ad550.add ((x10_1).toNat * 17)).off + 14, none⟩ = some (.bool ((rd_T54 l0 x10_1).f2)) ∧ w'.cell? ⟨(ad550.add ((x10_1).toNat * 17)).block, (ad550.add ((x10_1).toNat * 17)).off + 15, none⟩ = some (.bool ((rd_T54 l0 x10_1).f3)) ∧ w'.cell? ⟨(ad550.add ((x10_1).toNat * 17)).block, (ad550.add ((x10_1).toNat * 17)).off + 16, none⟩ = some (.slice (some ad554) ((rd_T54 l0 x10_1).f4).length c553_16) ∧ w'.cell? (ad554.add ((x12_2).toNat * 3)) = some (.bool ((rd_T58 ((rd_T54 l0 x10_1).f4) x12_2).f0)) ∧ w'.cell? ⟨(ad554.add ((x12_2).toNat * 3)).block, (ad554.add ((x12_2).toNat * 3)).off + 1, none⟩ = some (.slice A554_1 ((rd_T58 ((rd_T54 l0 x10_1).f4) x12_2).f1).length c554_1) ∧ w'.cell? ⟨(ad554.add ((x12_2).toNat * 3)).block, (ad554.add ((x12_2).toNat * 3)).off + 2, none⟩ = some (.slice A554_2 ((rd_T58 ((rd_T54 l0 x10_1).f4) x12_2).f2).length c554_2)) (ds := [11, 13]) (bz 14 0) (by kernel_rfl) rfl rfl ⟨s_x BK551.out 16, hx553_0, hx553_1, hx553_2, hx553_3, hx553_4, hx553_5, hx553_6, hx553_7, hx553_8, hx553_9, hx553_10, hx553_11, hx553_12, hx553_13, hx553_14, hx553_15, hx553_16, hx554_0, hx554_1, hx554_2⟩ (fun hHeld => ?_); refine with_tabW orchestratorlaw57_NetpolicyOrder.tab12 orchestratorlaw57_NetpolicyOrder.bits12 (fun HT_ HW_ => ?_)
               generalize wr.drew = w25 at HO_0 HO_9 HO_552009 HO_552010 HO_552011 HO_552012 HO_552013 HO_552016 BK546 BK547 BK551 HB HL553_10 HL553_11 HL553_12 HL553_13 HL553_16 HL553_9 HL554_1 HL554_2 HR553_10 HR553_11 HR553_12 HR553_13 HR553_16 HR553_9 HR554_1 HR554_2 hx553_0 hx553_1 hx553_10 hx553_11 hx553_12 hx553_13 hx553_14 hx553_15 hx553_16 hx553_2 hx553_3 hx553_4 hx553_5 hx553_6 hx553_7 hx553_8 hx553_9 hx554_0 hx554_1 hx554_2 hHeld ⊢
               refine q_p 0 (some 40) (bz 14 1) (any_of HT_.out (by kernel_rfl)) (v := ?_) ?_ (a' := ?_) ?_ ?_; rotate_left 2
               ·intro w'; go_simp; with_reducible rfl
               ·simp only [Act.put, List.setIfInBounds_toArray, List.set_cons_zero, List.set_cons_succ, i64_w, i32_w]; rfl
               refine q_p 2 (some 42) (bz 14 5) (any_of HT_.out (by kernel_rfl)) (v := ?_) ?_ (a' := ?_) ?_ ?_; rotate_left 2
               ·intro w'; go_simp; with_reducible rfl
               ·simp only [Act.put, List.setIfInBounds_toArray, List.set_cons_zero, List.set_cons_succ, i64_w, i32_w]; rfl
               refine q_p 3 (some 43) (bz 14 13) (any_of HT_.out (by kernel_rfl)) (v := ?_) ?_ (a' := ?_) ?_ ?_; rotate_left 2
               ·intro w'; go_simp; with_reducible rfl
               ·simp only [Act.put, List.setIfInBounds_toArray, List.set_cons_zero, List.set_cons_succ, i64_w, i32_w]; rfl
               refine q_p 4 (some 44) (bz 14 29) (any_of HT_.out (by kernel_rfl)) (v := ?_) ?_ (a' := ?_) ?_ ?_; rotate_left 2
               ·intro w'; go_simp; with_reducible rfl
               ·simp only [Act.put, List.setIfInBounds_toArray, List.set_cons_zero, List.set_cons_succ, i64_w, i32_w]; rfl
               refine q_p 5 (some 45) (bz 14 61) (any_of HT_.out (by kernel_rfl)) (v := ?_) ?_ (a' := ?_) ?_ ?_; rotate_left 2
               ·intro w'; go_simp; with_reducible rfl
               ·simp only [Act.put, List.setIfInBounds_toArray, List.set_cons_zero, List.set_cons_succ, i64_w, i32_w]; rfl
               refine q_p 7 (some 47) (bz 14 189) (any_of HT_.out (by kernel_rfl)) (v := ?_) ?_ (a' := ?_) ?_ ?_; rotate_left 2
               ·intro w'; go_simp; with_reducible rfl
               ·simp only [Act.put, List.setIfInBounds_toArray, List.set_cons_zero, List.set_cons_succ, i64_w, i32_w]; rfl
               refine q_t 1 (some 41) (bz 14 191) (take_ofW HT_.out HW_.out (by kernel_rfl)) hHeld (v := ?_) ?_ (a' := ?_) ?_ ?_; rotate_left 2
               ·rintro w' ⟨s0, s1, s2, s3, s4, s5, s6, s7, s8, s9, s10, s11, s12, s13, s14, s15, s16, s17, s18, s19, s20⟩; go_simp; with_reducible rfl
               ·simp only [Act.put, List.setIfInBounds_toArray, List.set_cons_zero, List.set_cons_succ, i64_w, i32_w]; rfl
               refine q_t 6 (some 46) (bz 14 255) (take_ofW HT_.out HW_.out (by kernel_rfl)) hHeld (v := ?_) ?_ (a' := ?_) ?_ ?_; rotate_left 2
               ·rintro w' ⟨s0, s1, s2, s3, s4, s5, s6, s7, s8, s9, s10, s11, s12, s13, s14, s15, s16, s17, s18, s19, s20⟩; go_simp; with_reducible rfl
               ·simp only [Act.put, List.setIfInBounds_toArray, List.set_cons_zero, List.set_cons_succ, i64_w, i32_w]; rfl
               refine q_p 8 (some 48) (bz 14 511) (any_of HT_.out (by kernel_rfl)) (v := ?_) ?_ (a' := ?_) ?_ ?_; rotate_left 2
               ·intro w'; go_simp; with_reducible rfl
               ·simp only [Act.put, List.setIfInBounds_toArray, List.set_cons_zero, List.set_cons_succ, i64_w, i32_w]; rfl
               refine q_t 9 (some 49) (bz 14 1023) (take_ofW HT_.out HW_.out (by kernel_rfl)) hHeld (v := ?_) ?_ (a' := ?_) ?_ ?_; rotate_left 2
               ·rintro w' ⟨s0, s1, s2, s3, s4, s5, s6, s7, s8, s9, s10, s11, s12, s13, s14, s15, s16, s17, s18, s19, s20⟩; go_simp; with_reducible rfl
               ·simp only [Act.put, List.setIfInBounds_toArray, List.set_cons_zero, List.set_cons_succ, i64_w, i32_w]; rfl
               refine one_ (i := 10) (N := some 50) (bz 14 2047) rfl rfl (one_of HT_.out (by kernel_rfl)) (by decide) (fun K hK => ?_)
               refine value_ (w1 := ?_) (v := ?_) (by rfl) rfl ?_ ?_
               rotate_left 2
               ·go_simp
                constructor
                ·rfl
                ·rfl
               refine hK.out _ _ ⟨(blk_cell (blk_alloc BK551.out _) 16).trans rfl, (World.cell?_alloc_lt _ _ _ (World.block_lt_of_cell? _ _ (hHeld.2.1))).trans (hHeld.2.1), (World.cell?_alloc_lt _ _ _ (World.block_lt_of_cell? _ _ (hHeld.2.2.1))).trans (hHeld.2.2.1), (World.cell?_alloc_lt _ _ _ (World.block_lt_of_cell? _ _ (hHeld.2.2.2.1))).trans (hHeld.2.2.2.1), (World.cell?_alloc_lt _ _ _ (World.block_lt_of_cell? _ _ (hHeld.2.2.2.2.1))).trans (hHeld.2.2.2.2.1), (World.cell?_alloc_lt _ _ _ (World.block_lt_of_cell? _ _ (hHeld.2.2.2.2.2.1))).trans (hHeld.2.2.2.2.2.1), (World.cell?_alloc_lt _ _ _ (World.block_lt_of_cell? _ _ (hHeld.2.2.2.2.2.2.1))).trans (hHeld.2.2.2.2.2.2.1), (World.cell?_alloc_lt _ _ _ (World.block_lt_of_cell? _ _ (hHeld.2.2.2.2.2.2.2.1))).trans (hHeld.2.2.2.2.2.2.2.1), (World.cell?_alloc_lt _ _ _ (World.block_lt_of_cell? _ _ (hHeld.2.2.2.2.2.2.2.2.1))).trans (hHeld.2.2.2.2.2.2.2.2.1), (World.cell?_alloc_lt _ _ _ (World.block_lt_of_cell? _ _ (hHeld.2.2.2.2.2.2.2.2.2.1))).trans (hHeld.2.2.2.2.2.2.2.2.2.1), (World.cell?_alloc_lt _ _ _ (World.block_lt_of_cell? _ _ (hHeld.2.2.2.2.2.2.2.2.2.2.1))).trans (hHeld.2.2.2.2.2.2.2.2.2.2.1), (World.cell?_alloc_lt _ _ _ (World.block_lt_of_cell? _ _ (hHeld.2.2.2.2.2.2.2.2.2.2.2.1))).trans (hHeld.2.2.2.2.2.2.2.2.2.2.2.1), (World.cell?_alloc_lt _ _ _ (World.block_lt_of_cell? _ _ (hHeld.2.2.2.2.2.2.2.2.2.2.2.2.1))).trans (hHeld.2.2.2.2.2.2.2.2.2.2.2.2.1), (World.cell?_alloc_lt _ _ _ (World.block_lt_of_cell? _ _ (hHeld.2.2.2.2.2.2.2.2.2.2.2.2.2.1))).trans (hHeld.2.2.2.2.2.2.2.2.2.2.2.2.2.1), (World.cell?_alloc_lt _ _ _ (World.block_lt_of_cell? _ _ (hHeld.2.2.2.2.2.2.2.2.2.2.2.2.2.2.1))).trans (hHeld.2.2.2.2.2.2.2.2.2.2.2.2.2.2.1), (World.cell?_alloc_lt _ _ _ (World.block_lt_of_cell? _ _ (hHeld.2.2.2.2.2.2.2.2.2.2.2.2.2.2.2.1))).trans (hHeld.2.2.2.2.2.2.2.2.2.2.2.2.2.2.2.1), (World.cell?_alloc_lt _ _ _ (World.block_lt_of_cell? _ _ (hHeld.2.2.2.2.2.2.2.2.2.2.2.2.2.2.2.2.1))).trans (hHeld.2.2.2.2.2.2.2.2.2.2.2.2.2.2.2.2.1), (World.cell?_alloc_lt _ _ _ (World.block_lt_of_cell? _ _ (hHeld.2.2.2.2.2.2.2.2.2.2.2.2.2.2.2.2.2.1))).trans (hHeld.2.2.2.2.2.2.2.2.2.2.2.2.2.2.2.2.2.1), (World.cell?_alloc_lt _ _ _ (World.block_lt_of_cell? _ _ (hHeld.2.2.2.2.2.2.2.2.2.2.2.2.2.2.2.2.2.2.1))).trans (hHeld.2.2.2.2.2.2.2.2.2.2.2.2.2.2.2.2.2.2.1), (World.cell?_alloc_lt _ _ _ (World.block_lt_of_cell? _ _ (hHeld.2.2.2.2.2.2.2.2.2.2.2.2.2.2.2.2.2.2.2.1))).trans (hHeld.2.2.2.2.2.2.2.2.2.2.2.2.2.2.2.2.2.2.2.1), (World.cell?_alloc_lt _ _ _ (World.block_lt_of_cell? _ _ (hHeld.2.2.2.2.2.2.2.2.2.2.2.2.2.2.2.2.2.2.2.2))).trans (hHeld.2.2.2.2.2.2.2.2.2.2.2.2.2.2.2.2.2.2.2.2)⟩ (fun hHeld => ?_)
               clear hK K
               refine norm_ (a' := ?_) ?_ ?_
               rotate_left
               ·show Act.put _ (some 50) _ = _
                simp only [Act.put, List.setIfInBounds_toArray, List.set_cons_zero, List.set_cons_succ, i64_w, i32_w]
                rfl
               refine last_ (i := 11) (N := some 51) (bz 14 4095) rfl rfl (one_of HT_.out (by kernel_rfl)) (by decide) (fun K hK => ?_)
               refine Kd.N_append_step k58 (w0 := w) w.heap.size (by rfl) (.tmp 41) (.tmp 50) 52 58 (.agg #[(.bool false), (.slice none 0 0), (.slice none 0 0)]) 56 rfl Try.underlying52 info58 rfl (by decide) (by omega) u552016 x552016_2 (⟨(rd_T58 ((rd_T54 l0 x10_1).f4) x12_2).f0, (rd_T58 ((rd_T54 l0 x10_1).f4) x12_2).f1, (rd_T58 ((rd_T54 l0 x10_1).f4) x12_2).f2⟩ : S58) [.bool ((rd_T58 ((rd_T54 l0 x10_1).f4) x12_2).f0), .slice A554_1 ((rd_T58 ((rd_T54 l0 x10_1).f4) x12_2).f1).length c554_1, .slice A554_2 ((rd_T58 ((rd_T54 l0 x10_1).f4) x12_2).f2).length c554_2] (fun k_ => (P0_ k_ ∨ w.heap.size ≤ k_) ∧ some k_ ≠ (u9 : Value).ownBlock ∧ k_ ≠ gb546 ∧ k_ ≠ gb547 ∧ k_ ≠ gb551) (fun k_ => ((fun k_ => (P0_ k_ ∨ w.heap.size ≤ k_) ∧ some k_ ≠ (u9 : Value).ownBlock ∧ k_ ≠ gb546 ∧ k_ ≠ gb547 ∧ k_ ≠ gb551)) k_ ∧ some k_ ≠ (u552016 : Value).ownBlock) rfl rfl ?aP (fun _ hk => hk) ?aF ?aO ?aB ?aS ?aL ?_
               (case aP => exact (k58_mkF _ _ (⟨(rd_T58 ((rd_T54 l0 x10_1).f4) x12_2).f0, (rd_T58 ((rd_T54 l0 x10_1).f4) x12_2).f1, (rd_T58 ((rd_T54 l0 x10_1).f4) x12_2).f2⟩ : S58) (Kd.V_reads' (Kd.V_mono (ok' := (fun k_ => ((fun k_ => (P0_ k_ ∨ w.heap.size ≤ k_) ∧ some k_ ≠ (u9 : Value).ownBlock ∧ k_ ≠ gb546 ∧ k_ ≠ gb547 ∧ k_ ≠ gb551)) k_ ∧ some k_ ≠ (u552016 : Value).ownBlock)) (HL554_1.out) (fun k_ hk => ⟨⟨hk.1, ⟨hk.2.1, ⟨hk.2.2.2.1, ⟨hk.2.2.2.2.1, hk.2.2.2.2.2⟩⟩⟩⟩, hk.2.2.1⟩))).2.1 (Kd.V_F (Kd.V_mono (ok' := (fun k_ => ((fun k_ => (P0_ k_ ∨ w.heap.size ≤ k_) ∧ some k_ ≠ (u9 : Value).ownBlock ∧ k_ ≠ gb546 ∧ k_ ≠ gb547 ∧ k_ ≠ gb551)) k_ ∧ some k_ ≠ (u552016 : Value).ownBlock)) (HL554_1.out) (fun k_ hk => ⟨⟨hk.1, ⟨hk.2.1, ⟨hk.2.2.2.1, ⟨hk.2.2.2.2.1, hk.2.2.2.2.2⟩⟩⟩⟩, hk.2.2.1⟩))) (Kd.V_reads' (Kd.V_mono (ok' := (fun k_ => ((fun k_ => (P0_ k_ ∨ w.heap.size ≤ k_) ∧ some k_ ≠ (u9 : Value).ownBlock ∧ k_ ≠ gb546 ∧ k_ ≠ gb547 ∧ k_ ≠ gb551)) k_ ∧ some k_ ≠ (u552016 : Value).ownBlock)) (HL554_2.out) (fun k_ hk => ⟨⟨hk.1, ⟨hk.2.1, ⟨hk.2.2.2.1, ⟨hk.2.2.2.2.1, hk.2.2.2.2.2⟩⟩⟩⟩, hk.2.2.1⟩))).2.1 (Kd.V_F (Kd.V_mono (ok' := (fun k_ => ((fun k_ => (P0_ k_ ∨ w.heap.size ≤ k_) ∧ some k_ ≠ (u9 : Value).ownBlock ∧ k_ ≠ gb546 ∧ k_ ≠ gb547 ∧ k_ ≠ gb551)) k_ ∧ some k_ ≠ (u552016 : Value).ownBlock)) (HL554_2.out) (fun k_ hk => ⟨⟨hk.1, ⟨hk.2.1, ⟨hk.2.2.2.1, ⟨hk.2.2.2.2.1, hk.2.2.2.2.2⟩⟩⟩⟩, hk.2.2.1⟩)))))
               (case aB => exact (by exact s_b HB.out))
               (case aF => exact (fun k_ hk => ⟨(.inr (Nat.le_trans (below_size (by exact s_b HB.out)) hk)), Kd.fresh' (Kd.N_lt (by exact s_N (HO_9.out))) k_ hk, Kd.freshB (s_k BK546.out) k_ hk, Kd.freshB (s_k BK547.out) k_ hk, Kd.freshB (s_k BK551.out) k_ hk⟩))
               (case aO => exact (by exact s_N (HO_552016.out)))
               (case aS => exact (below_size (by exact s_b HB.out)))
               (case aL => have := LMc24.out; omega)
               intro v556 w26 ho hb hg hat
               rw [← Ny555.out] at ho
               have n0_ := s_a (blk_grown (s_k BK546.out) hg (Kd.N_ne HO_552016.out BK546.out (by decide)))
               have n1_ := s_a (blk_grown (s_k BK547.out) hg (Kd.N_ne HO_552016.out BK547.out (by decide)))
               have n2_ := s_a (blk_grown (s_k BK551.out) hg (Kd.N_ne HO_552016.out BK551.out (by decide)))
               have n3_ := s_a (ho)
               clear BK546
               clear BK547
               clear BK551
               clear HO_552016
               have BK546 := n0_
               have BK547 := n1_
               have BK551 := n2_
               have HO557 := n3_
               clear n0_ n1_ n2_ n3_
               replace HO_0 := s_a (Kd.V_afterv (ok := (fun k_ => (P0_ k_ ∨ w.heap.size ≤ k_) ∧ some k_ ≠ (u9 : Value).ownBlock ∧ k_ ≠ gb546 ∧ k_ ≠ gb547 ∧ k_ ≠ gb551)) (by exact s_V (Kd.V_mono HO_0.out (fun _ hk => ⟨⟨hk.1, ⟨hk.2.1, ⟨hk.2.2.2.1, ⟨hk.2.2.2.2.1, hk.2.2.2.2.2⟩⟩⟩⟩, hk.2.2.1⟩))) hg hat)
               replace HO_9 := s_a (Kd.N_afterv (ok := (fun k_ => (P0_ k_ ∨ w.heap.size ≤ k_) ∧ k_ ≠ gb546 ∧ k_ ≠ gb547 ∧ k_ ≠ gb551)) (by exact s_N (Kd.N_mono HO_9.out (fun _ hk => ⟨⟨hk.1, ⟨hk.2.2.1, ⟨hk.2.2.2.1, hk.2.2.2.2⟩⟩⟩, hk.2.1⟩))) hg hat)
               replace HO_552009 := s_a (Kd.V_afterv (ok := (fun k_ => (P0_ k_ ∨ w.heap.size ≤ k_) ∧ some k_ ≠ (u9 : Value).ownBlock ∧ k_ ≠ gb546 ∧ k_ ≠ gb547 ∧ k_ ≠ gb551)) (by exact s_V (Kd.V_mono HO_552009.out (fun _ hk => ⟨⟨hk.1, ⟨hk.2.1, ⟨hk.2.2.2.1, ⟨hk.2.2.2.2.1, hk.2.2.2.2.2⟩⟩⟩⟩, hk.2.2.1⟩))) hg hat)
               replace HO_552010 := s_a (Kd.V_afterv (ok := (fun k_ => (P0_ k_ ∨ w.heap.size ≤ k_) ∧ some k_ ≠ (u9 : Value).ownBlock ∧ k_ ≠ gb546 ∧ k_ ≠ gb547 ∧ k_ ≠ gb551)) (by exact s_V (Kd.V_mono HO_552010.out (fun _ hk => ⟨⟨hk.1, ⟨hk.2.1, ⟨hk.2.2.2.1, ⟨hk.2.2.2.2.1, hk.2.2.2.2.2⟩⟩⟩⟩, hk.2.2.1⟩))) hg hat)
               replace HO_552011 := s_a (Kd.V_afterv (ok := (fun k_ => (P0_ k_ ∨ w.heap.size ≤ k_) ∧ some k_ ≠ (u9 : Value).ownBlock ∧ k_ ≠ gb546 ∧ k_ ≠ gb547 ∧ k_ ≠ gb551)) (by exact s_V (Kd.V_mono HO_552011.out (fun _ hk => ⟨⟨hk.1, ⟨hk.2.1, ⟨hk.2.2.2.1, ⟨hk.2.2.2.2.1, hk.2.2.2.2.2⟩⟩⟩⟩, hk.2.2.1⟩))) hg hat)
               replace HO_552012 := s_a (Kd.V_afterv (ok := (fun k_ => (P0_ k_ ∨ w.heap.size ≤ k_) ∧ some k_ ≠ (u9 : Value).ownBlock ∧ k_ ≠ gb546 ∧ k_ ≠ gb547 ∧ k_ ≠ gb551)) (by exact s_V (Kd.V_mono HO_552012.out (fun _ hk => ⟨⟨hk.1, ⟨hk.2.1, ⟨hk.2.2.2.1, ⟨hk.2.2.2.2.1, hk.2.2.2.2.2⟩⟩⟩⟩, hk.2.2.1⟩))) hg hat)
               replace HO_552013 := s_a (Kd.V_afterv (ok := (fun k_ => (P0_ k_ ∨ w.heap.size ≤ k_) ∧ some k_ ≠ (u9 : Value).ownBlock ∧ k_ ≠ gb546 ∧ k_ ≠ gb547 ∧ k_ ≠ gb551)) (by exact s_V (Kd.V_mono HO_552013.out (fun _ hk => ⟨⟨hk.1, ⟨hk.2.1, ⟨hk.2.2.2.1, ⟨hk.2.2.2.2.1, hk.2.2.2.2.2⟩⟩⟩⟩, hk.2.2.1⟩))) hg hat)
               replace HL553_9 := s_a (Kd.V_afterv (ok := (fun k_ => (P0_ k_ ∨ w.heap.size ≤ k_) ∧ some k_ ≠ (u9 : Value).ownBlock ∧ k_ ≠ gb546 ∧ k_ ≠ gb547 ∧ k_ ≠ gb551)) (by exact s_V (Kd.V_mono HL553_9.out (fun _ hk => ⟨⟨hk.1, ⟨hk.2.1, ⟨hk.2.2.2.1, ⟨hk.2.2.2.2.1, hk.2.2.2.2.2⟩⟩⟩⟩, hk.2.2.1⟩))) hg hat)
               replace HL553_10 := s_a (Kd.V_afterv (ok := (fun k_ => (P0_ k_ ∨ w.heap.size ≤ k_) ∧ some k_ ≠ (u9 : Value).ownBlock ∧ k_ ≠ gb546 ∧ k_ ≠ gb547 ∧ k_ ≠ gb551)) (by exact s_V (Kd.V_mono HL553_10.out (fun _ hk => ⟨⟨hk.1, ⟨hk.2.1, ⟨hk.2.2.2.1, ⟨hk.2.2.2.2.1, hk.2.2.2.2.2⟩⟩⟩⟩, hk.2.2.1⟩))) hg hat)
               replace HL553_11 := s_a (Kd.V_afterv (ok := (fun k_ => (P0_ k_ ∨ w.heap.size ≤ k_) ∧ some k_ ≠ (u9 : Value).ownBlock ∧ k_ ≠ gb546 ∧ k_ ≠ gb547 ∧ k_ ≠ gb551)) (by exact s_V (Kd.V_mono HL553_11.out (fun _ hk => ⟨⟨hk.1, ⟨hk.2.1, ⟨hk.2.2.2.1, ⟨hk.2.2.2.2.1, hk.2.2.2.2.2⟩⟩⟩⟩, hk.2.2.1⟩))) hg hat)
               replace HL553_12 := s_a (Kd.V_afterv (ok := (fun k_ => (P0_ k_ ∨ w.heap.size ≤ k_) ∧ some k_ ≠ (u9 : Value).ownBlock ∧ k_ ≠ gb546 ∧ k_ ≠ gb547 ∧ k_ ≠ gb551)) (by exact s_V (Kd.V_mono HL553_12.out (fun _ hk => ⟨⟨hk.1, ⟨hk.2.1, ⟨hk.2.2.2.1, ⟨hk.2.2.2.2.1, hk.2.2.2.2.2⟩⟩⟩⟩, hk.2.2.1⟩))) hg hat)
               replace HL553_13 := s_a (Kd.V_afterv (ok := (fun k_ => (P0_ k_ ∨ w.heap.size ≤ k_) ∧ some k_ ≠ (u9 : Value).ownBlock ∧ k_ ≠ gb546 ∧ k_ ≠ gb547 ∧ k_ ≠ gb551)) (by exact s_V (Kd.V_mono HL553_13.out (fun _ hk => ⟨⟨hk.1, ⟨hk.2.1, ⟨hk.2.2.2.1, ⟨hk.2.2.2.2.1, hk.2.2.2.2.2⟩⟩⟩⟩, hk.2.2.1⟩))) hg hat)
               replace HL553_16 := s_a (Kd.V_afterv (ok := (fun k_ => (P0_ k_ ∨ w.heap.size ≤ k_) ∧ some k_ ≠ (u9 : Value).ownBlock ∧ k_ ≠ gb546 ∧ k_ ≠ gb547 ∧ k_ ≠ gb551)) (by exact s_V (Kd.V_mono HL553_16.out (fun _ hk => ⟨⟨hk.1, ⟨hk.2.1, ⟨hk.2.2.2.1, ⟨hk.2.2.2.2.1, hk.2.2.2.2.2⟩⟩⟩⟩, hk.2.2.1⟩))) hg hat)
               replace HL554_1 := s_a (Kd.V_afterv (ok := (fun k_ => (P0_ k_ ∨ w.heap.size ≤ k_) ∧ some k_ ≠ (u9 : Value).ownBlock ∧ k_ ≠ gb546 ∧ k_ ≠ gb547 ∧ k_ ≠ gb551)) (by exact s_V (Kd.V_mono HL554_1.out (fun _ hk => ⟨⟨hk.1, ⟨hk.2.1, ⟨hk.2.2.2.1, ⟨hk.2.2.2.2.1, hk.2.2.2.2.2⟩⟩⟩⟩, hk.2.2.1⟩))) hg hat)
               replace HL554_2 := s_a (Kd.V_afterv (ok := (fun k_ => (P0_ k_ ∨ w.heap.size ≤ k_) ∧ some k_ ≠ (u9 : Value).ownBlock ∧ k_ ≠ gb546 ∧ k_ ≠ gb547 ∧ k_ ≠ gb551)) (by exact s_V (Kd.V_mono HL554_2.out (fun _ hk => ⟨⟨hk.1, ⟨hk.2.1, ⟨hk.2.2.2.1, ⟨hk.2.2.2.2.1, hk.2.2.2.2.2⟩⟩⟩⟩, hk.2.2.1⟩))) hg hat)
               replace HB := s_a (hb)
               clear ho hb hg hat
               obtain ⟨Ao27, co27, eo27⟩ := Kd.N_slice HO557.out
               (first | subst eo27 | (injection eo27 with f1_ f2_ f3_; have f4_ := f1_.symm; have f5_ := f3_.symm; clear f1_ f2_ f3_; subst f4_; subst f5_))
               refine hK.out _ _ ?_
               clear hK K
               refine norm_ (a' := ?_) ?_ ?_
               rotate_left
               ·show Act.put _ (some 51) _ = _
                simp only [Act.put, List.setIfInBounds_toArray, List.set_cons_zero, List.set_cons_succ, i64_w, i32_w]
                rfl
               refine q_p 12 (some 52) (bz 14 8191) (any_of HT_.out (by kernel_rfl)) (v := ?_) ?_ (a' := ?_) ?_ ?_; rotate_left 2
               ·intro w'; go_simp; with_reducible rfl
               ·simp only [Act.put, List.setIfInBounds_toArray, List.set_cons_zero, List.set_cons_succ, i64_w, i32_w]; rfl
               refine last_ (i := 13) (N := none) (bz 14 16383) rfl rfl (one_of HT_.out (by kernel_rfl)) (by decide) (fun K hK => ?_)
               have hs28 : w26.cell? ⟨gb551, 16, none⟩ = some (u552016) := (blk_cell BK551.out 16).trans rfl
               have hfs28 := blk_frozen BK551.out 16
               have hns28_0 := NB546_551.out
               have hns28_1 := NB547_551.out
               have hms28_0 := NB551_546.out
               have hms28_1 := NB551_547.out
               refine skip_ (w1 := ?_) (by rfl) rfl ?_ ?_
               rotate_left
               ·go_simp
                rfl
               refine hK.out _ _ ?_
               clear hK K
               refine done_ (done_of HT_.out (by kernel_rfl)) ?_
               try go_wp2
               go_roundg k2
               case measure => have := HK1.out; have := HK2.out; omega
               case rel => exact ⟨(wrap64 (x12_2 - 1)), (y555), (.slice Ao27 y555.length co27), (by first | rfl | (simp; done) | (simp [*]; done)), H', ⟨by have := HK1.out; have := HK2.out; omega⟩, ⟨by (with_reducible repeat (first | apply Kd.V_alloc | apply Kd.V_drewN | apply Kd.V_drew)); exact Kd.V_mono (Kd.V_far (p := ⟨gb551, 16, none⟩) (Kd.V_mono HO_0.out (fun k_ hk => (⟨hk, hk.1.2.2.2.2⟩ : _ ∧ k_ ≠ gb551))) (fun _ hk => hk.2) (.slice Ao27 y555.length co27)) (fun _ hk => ⟨hk.1.1.1, ⟨hk.1.1.2.1, ⟨hk.1.2, ⟨hk.1.1.2.2.1, ⟨hk.1.1.2.2.2.1, hk.1.1.2.2.2.2⟩⟩⟩⟩⟩)⟩, ⟨by (with_reducible repeat (first | apply Kd.N_alloc | apply Kd.N_drewN | apply Kd.N_drew)); exact Kd.N_mono (Kd.N_far (p := ⟨gb551, 16, none⟩) (Kd.N_mono HO_9.out (fun k_ hk => (⟨hk, hk.1.2.2.2⟩ : _ ∧ k_ ≠ gb551))) (fun _ hk => hk.2) (.slice Ao27 y555.length co27)) (fun _ hk => ⟨hk.1.1.1, ⟨hk.1.2, ⟨hk.1.1.2.1, ⟨hk.1.1.2.2.1, hk.1.1.2.2.2⟩⟩⟩⟩)⟩, ⟨by (with_reducible repeat (first | apply Kd.V_alloc | apply Kd.V_drewN | apply Kd.V_drew)); exact Kd.V_mono (Kd.V_far (p := ⟨gb551, 16, none⟩) (Kd.V_mono HO_552009.out (fun k_ hk => (⟨hk, hk.1.2.2.2.2⟩ : _ ∧ k_ ≠ gb551))) (fun _ hk => hk.2) (.slice Ao27 y555.length co27)) (fun _ hk => ⟨hk.1.1.1, ⟨hk.1.1.2.1, ⟨hk.1.2, ⟨hk.1.1.2.2.1, ⟨hk.1.1.2.2.2.1, hk.1.1.2.2.2.2⟩⟩⟩⟩⟩)⟩, ⟨by (with_reducible repeat (first | apply Kd.V_alloc | apply Kd.V_drewN | apply Kd.V_drew)); exact Kd.V_mono (Kd.V_far (p := ⟨gb551, 16, none⟩) (Kd.V_mono HO_552010.out (fun k_ hk => (⟨hk, hk.1.2.2.2.2⟩ : _ ∧ k_ ≠ gb551))) (fun _ hk => hk.2) (.slice Ao27 y555.length co27)) (fun _ hk => ⟨hk.1.1.1, ⟨hk.1.1.2.1, ⟨hk.1.2, ⟨hk.1.1.2.2.1, ⟨hk.1.1.2.2.2.1, hk.1.1.2.2.2.2⟩⟩⟩⟩⟩)⟩, ⟨by (with_reducible repeat (first | apply Kd.V_alloc | apply Kd.V_drewN | apply Kd.V_drew)); exact Kd.V_mono (Kd.V_far (p := ⟨gb551, 16, none⟩) (Kd.V_mono HO_552011.out (fun k_ hk => (⟨hk, hk.1.2.2.2.2⟩ : _ ∧ k_ ≠ gb551))) (fun _ hk => hk.2) (.slice Ao27 y555.length co27)) (fun _ hk => ⟨hk.1.1.1, ⟨hk.1.1.2.1, ⟨hk.1.2, ⟨hk.1.1.2.2.1, ⟨hk.1.1.2.2.2.1, hk.1.1.2.2.2.2⟩⟩⟩⟩⟩)⟩, ⟨by (with_reducible repeat (first | apply Kd.V_alloc | apply Kd.V_drewN | apply Kd.V_drew)); exact Kd.V_mono (Kd.V_far (p := ⟨gb551, 16, none⟩) (Kd.V_mono HO_552012.out (fun k_ hk => (⟨hk, hk.1.2.2.2.2⟩ : _ ∧ k_ ≠ gb551))) (fun _ hk => hk.2) (.slice Ao27 y555.length co27)) (fun _ hk => ⟨hk.1.1.1, ⟨hk.1.1.2.1, ⟨hk.1.2, ⟨hk.1.1.2.2.1, ⟨hk.1.1.2.2.2.1, hk.1.1.2.2.2.2⟩⟩⟩⟩⟩)⟩, ⟨by (with_reducible repeat (first | apply Kd.V_alloc | apply Kd.V_drewN | apply Kd.V_drew)); exact Kd.V_mono (Kd.V_far (p := ⟨gb551, 16, none⟩) (Kd.V_mono HO_552013.out (fun k_ hk => (⟨hk, hk.1.2.2.2.2⟩ : _ ∧ k_ ≠ gb551))) (fun _ hk => hk.2) (.slice Ao27 y555.length co27)) (fun _ hk => ⟨hk.1.1.1, ⟨hk.1.1.2.1, ⟨hk.1.2, ⟨hk.1.1.2.2.1, ⟨hk.1.1.2.2.2.1, hk.1.1.2.2.2.2⟩⟩⟩⟩⟩)⟩, ⟨by (with_reducible repeat (first | apply Kd.N_alloc | apply Kd.N_drewN | apply Kd.N_drew)); exact Kd.N_mono (Kd.N_far (p := ⟨gb551, 16, none⟩) (Kd.N_mono HO557.out (fun k_ hk => (⟨hk, hk.2.2.2.2⟩ : _ ∧ k_ ≠ gb551))) (fun _ hk => hk.2) (.slice Ao27 y555.length co27)) (fun _ hk => ⟨hk.1.1, ⟨hk.1.2.1, ⟨hk.1.2.2.1, ⟨hk.1.2.2.2.1, hk.1.2.2.2.2⟩⟩⟩⟩)⟩, ⟨by (with_reducible repeat (first | refine blk_drewN ?_ _ | refine blk_drew ?_ | refine blk_alloc ?_ _)); refine blk_far ?_ NB546_551.out _; (with_reducible repeat (first | refine blk_drewN ?_ _ | refine blk_drew ?_ | refine blk_alloc ?_ _)); exact BK546.out⟩, ⟨by (with_reducible repeat (first | refine blk_drewN ?_ _ | refine blk_drew ?_ | refine blk_alloc ?_ _)); refine blk_far ?_ NB547_551.out _; (with_reducible repeat (first | refine blk_drewN ?_ _ | refine blk_drew ?_ | refine blk_alloc ?_ _)); exact BK547.out⟩, ⟨by (with_reducible repeat (first | refine blk_drewN ?_ _ | refine blk_drew ?_ | refine blk_alloc ?_ _)); refine blk_put (cs := #[.string ((rd_T54 l0 x10_1).f0.f0), .string ((rd_T54 l0 x10_1).f0.f1), .string ((rd_T54 l0 x10_1).f0.f2), .int .i64 ((rd_T54 l0 x10_1).f0.f3), .int .i64 ((rd_T54 l0 x10_1).f0.f4), .int .i64 ((rd_T54 l0 x10_1).f0.f5), .int .i64 ((rd_T54 l0 x10_1).f0.f6), .bool ((rd_T54 l0 x10_1).f0.f7), .int .i64 ((rd_T54 l0 x10_1).f0.f8), .slice A550_9 ((rd_T54 l0 x10_1).f0.f9).length c550_9, .slice A550_10 ((rd_T54 l0 x10_1).f0.f10).length c550_10, .slice A550_11 ((rd_T54 l0 x10_1).f0.f11).length c550_11, .slice A550_12 ((rd_T54 l0 x10_1).f0.f12).length c550_12, .slice A550_13 ((rd_T54 l0 x10_1).f1).length c550_13, .bool ((rd_T54 l0 x10_1).f2), .bool ((rd_T54 l0 x10_1).f3), u552016]) ?_ 16 _ rfl; (with_reducible repeat (first | refine blk_drewN ?_ _ | refine blk_drew ?_ | refine blk_alloc ?_ _)); exact BK551.out⟩, ⟨by repeat (first | (with_reducible first | exact HB.out | apply below_alloc | apply pw_below_drewN | apply below_drew1 | refine below_set ?_ GE546.out | refine below_set ?_ GE547.out | refine below_set ?_ GE551.out) | exact HB.out)⟩⟩
              ·rw [if_neg c24] at H
               exact absurd H (by simp)
             ·rw [if_neg c23] at H
              exact absurd H (by simp)
            ·rw [if_neg c22] at H
             exact absurd H (by simp)
           ·rw [if_neg c21] at H
            exact absurd H (by simp)
          ·rw [if_neg c20] at H
           exact absurd H (by simp)
         ·rw [if_neg c19] at H
          have c19b0 : decide (0 ≤ x12_2) = false := decide_eq_false c19
          clear c19
          by_cases c29 : x9_1.length < 567489872400
          ·rw [if_pos c29] at H
           have LMc29 := s_a c29
           clear c29
           obtain ⟨y558, hy558⟩ : ∃ y_ : List (S54), y_ = (x9_1 ++ [(⟨(⟨((rd_T54 l0 x10_1).f0.f0), ((rd_T54 l0 x10_1).f0.f1), ((rd_T54 l0 x10_1).f0.f2), ((rd_T54 l0 x10_1).f0.f3), ((rd_T54 l0 x10_1).f0.f4), ((rd_T54 l0 x10_1).f0.f5), ((rd_T54 l0 x10_1).f0.f6), ((rd_T54 l0 x10_1).f0.f7), ((rd_T54 l0 x10_1).f0.f8), ((rd_T54 l0 x10_1).f0.f9), ((rd_T54 l0 x10_1).f0.f10), ((rd_T54 l0 x10_1).f0.f11), ((rd_T54 l0 x10_1).f0.f12)⟩ : S28), ((rd_T54 l0 x10_1).f1), ((rd_T54 l0 x10_1).f2), ((rd_T54 l0 x10_1).f3), x552016_2⟩ : S54)]) := ⟨_, rfl⟩
           (try rw [← hy558] at H)
           have Ny558 := s_a hy558
           clear hy558
           have H' := s_a H
           clear H
           obtain ⟨Ao30, co30, eo30⟩ := Kd.N_slice HO_552016.out
           subst eo30
           go_wp2_with (first | ((with_reducible refine gate_dst (N := 54) rfl ?_); refine wpList_load_row rfl 54 (.tmp 11) rfl gb551 rfl 54 _ (0, 0) _ (s_k BK551.out) Try.underlying54 rfl sz54 ?_) | ((with_reducible refine gate_builtin (b := .append) (xs := #[.tmp 53, .tmp 55]) rfl ?_); at_builtin; refine Kd.N_append k54 (w0 := w) w.heap.size rfl (.tmp 53) (.tmp 55) 22 54 (.agg #[(.string ⟨#[]⟩), (.string ⟨#[]⟩), (.string ⟨#[]⟩), (.int .i64 0), (.int .i64 0), (.int .i64 0), (.int .i64 0), (.bool false), (.int .i64 0), (.slice none 0 0), (.slice none 0 0), (.slice none 0 0), (.slice none 0 0), (.slice none 0 0), (.bool false), (.bool false), (.slice none 0 0)]) 248 rfl Try.underlying22 info54 rfl (by decide) (by omega) u9 x9_1 (⟨(⟨((rd_T54 l0 x10_1).f0.f0), ((rd_T54 l0 x10_1).f0.f1), ((rd_T54 l0 x10_1).f0.f2), ((rd_T54 l0 x10_1).f0.f3), ((rd_T54 l0 x10_1).f0.f4), ((rd_T54 l0 x10_1).f0.f5), ((rd_T54 l0 x10_1).f0.f6), ((rd_T54 l0 x10_1).f0.f7), ((rd_T54 l0 x10_1).f0.f8), ((rd_T54 l0 x10_1).f0.f9), ((rd_T54 l0 x10_1).f0.f10), ((rd_T54 l0 x10_1).f0.f11), ((rd_T54 l0 x10_1).f0.f12)⟩ : S28), ((rd_T54 l0 x10_1).f1), ((rd_T54 l0 x10_1).f2), ((rd_T54 l0 x10_1).f3), x552016_2⟩ : S54) [.string ((rd_T54 l0 x10_1).f0.f0), .string ((rd_T54 l0 x10_1).f0.f1), .string ((rd_T54 l0 x10_1).f0.f2), .int .i64 ((rd_T54 l0 x10_1).f0.f3), .int .i64 ((rd_T54 l0 x10_1).f0.f4), .int .i64 ((rd_T54 l0 x10_1).f0.f5), .int .i64 ((rd_T54 l0 x10_1).f0.f6), .bool ((rd_T54 l0 x10_1).f0.f7), .int .i64 ((rd_T54 l0 x10_1).f0.f8), .slice A550_9 ((rd_T54 l0 x10_1).f0.f9).length c550_9, .slice A550_10 ((rd_T54 l0 x10_1).f0.f10).length c550_10, .slice A550_11 ((rd_T54 l0 x10_1).f0.f11).length c550_11, .slice A550_12 ((rd_T54 l0 x10_1).f0.f12).length c550_12, .slice A550_13 ((rd_T54 l0 x10_1).f1).length c550_13, .bool ((rd_T54 l0 x10_1).f2), .bool ((rd_T54 l0 x10_1).f3), .slice Ao30 x552016_2.length co30] (fun k_ => (P0_ k_ ∨ w.heap.size ≤ k_) ∧ k_ ≠ gb546 ∧ k_ ≠ gb547 ∧ k_ ≠ gb551) (fun k_ => ((fun k_ => (P0_ k_ ∨ w.heap.size ≤ k_) ∧ k_ ≠ gb546 ∧ k_ ≠ gb547 ∧ k_ ≠ gb551)) k_ ∧ some k_ ≠ (u9 : Value).ownBlock) rfl rfl ?aP (fun _ hk => hk) ?aF ?aO ?aB ?aS ?aL ?_; (case aP => exact (k54_mkF _ _ (⟨(⟨((rd_T54 l0 x10_1).f0.f0), ((rd_T54 l0 x10_1).f0.f1), ((rd_T54 l0 x10_1).f0.f2), ((rd_T54 l0 x10_1).f0.f3), ((rd_T54 l0 x10_1).f0.f4), ((rd_T54 l0 x10_1).f0.f5), ((rd_T54 l0 x10_1).f0.f6), ((rd_T54 l0 x10_1).f0.f7), ((rd_T54 l0 x10_1).f0.f8), ((rd_T54 l0 x10_1).f0.f9), ((rd_T54 l0 x10_1).f0.f10), ((rd_T54 l0 x10_1).f0.f11), ((rd_T54 l0 x10_1).f0.f12)⟩ : S28), ((rd_T54 l0 x10_1).f1), ((rd_T54 l0 x10_1).f2), ((rd_T54 l0 x10_1).f3), x552016_2⟩ : S54) (Kd.V_reads' (Kd.V_mono (ok' := (fun k_ => ((fun k_ => (P0_ k_ ∨ w.heap.size ≤ k_) ∧ k_ ≠ gb546 ∧ k_ ≠ gb547 ∧ k_ ≠ gb551)) k_ ∧ some k_ ≠ (u9 : Value).ownBlock)) (HO_552009.out) (fun k_ hk => ⟨⟨hk.1, ⟨hk.2.2.2.1, ⟨hk.2.2.2.2.1, hk.2.2.2.2.2⟩⟩⟩, hk.2.1⟩))).2.1 (Kd.V_F (Kd.V_mono (ok' := (fun k_ => ((fun k_ => (P0_ k_ ∨ w.heap.size ≤ k_) ∧ k_ ≠ gb546 ∧ k_ ≠ gb547 ∧ k_ ≠ gb551)) k_ ∧ some k_ ≠ (u9 : Value).ownBlock)) (HO_552009.out) (fun k_ hk => ⟨⟨hk.1, ⟨hk.2.2.2.1, ⟨hk.2.2.2.2.1, hk.2.2.2.2.2⟩⟩⟩, hk.2.1⟩))) (Kd.V_reads' (Kd.V_mono (ok' := (fun k_ => ((fun k_ => (P0_ k_ ∨ w.heap.size ≤ k_) ∧ k_ ≠ gb546 ∧ k_ ≠ gb547 ∧ k_ ≠ gb551)) k_ ∧ some k_ ≠ (u9 : Value).ownBlock)) (HO_552010.out) (fun k_ hk => ⟨⟨hk.1, ⟨hk.2.2.2.1, ⟨hk.2.2.2.2.1, hk.2.2.2.2.2⟩⟩⟩, hk.2.1⟩))).2.1 (Kd.V_F (Kd.V_mono (ok' := (fun k_ => ((fun k_ => (P0_ k_ ∨ w.heap.size ≤ k_) ∧ k_ ≠ gb546 ∧ k_ ≠ gb547 ∧ k_ ≠ gb551)) k_ ∧ some k_ ≠ (u9 : Value).ownBlock)) (HO_552010.out) (fun k_ hk => ⟨⟨hk.1, ⟨hk.2.2.2.1, ⟨hk.2.2.2.2.1, hk.2.2.2.2.2⟩⟩⟩, hk.2.1⟩))) (Kd.V_reads' (Kd.V_mono (ok' := (fun k_ => ((fun k_ => (P0_ k_ ∨ w.heap.size ≤ k_) ∧ k_ ≠ gb546 ∧ k_ ≠ gb547 ∧ k_ ≠ gb551)) k_ ∧ some k_ ≠ (u9 : Value).ownBlock)) (HO_552011.out) (fun k_ hk => ⟨⟨hk.1, ⟨hk.2.2.2.1, ⟨hk.2.2.2.2.1, hk.2.2.2.2.2⟩⟩⟩, hk.2.1⟩))).2.1 (Kd.V_F (Kd.V_mono (ok' := (fun k_ => ((fun k_ => (P0_ k_ ∨ w.heap.size ≤ k_) ∧ k_ ≠ gb546 ∧ k_ ≠ gb547 ∧ k_ ≠ gb551)) k_ ∧ some k_ ≠ (u9 : Value).ownBlock)) (HO_552011.out) (fun k_ hk => ⟨⟨hk.1, ⟨hk.2.2.2.1, ⟨hk.2.2.2.2.1, hk.2.2.2.2.2⟩⟩⟩, hk.2.1⟩))) (Kd.V_reads' (Kd.V_mono (ok' := (fun k_ => ((fun k_ => (P0_ k_ ∨ w.heap.size ≤ k_) ∧ k_ ≠ gb546 ∧ k_ ≠ gb547 ∧ k_ ≠ gb551)) k_ ∧ some k_ ≠ (u9 : Value).ownBlock)) (HO_552012.out) (fun k_ hk => ⟨⟨hk.1, ⟨hk.2.2.2.1, ⟨hk.2.2.2.2.1, hk.2.2.2.2.2⟩⟩⟩, hk.2.1⟩))).2.1 (Kd.V_F (Kd.V_mono (ok' := (fun k_ => ((fun k_ => (P0_ k_ ∨ w.heap.size ≤ k_) ∧ k_ ≠ gb546 ∧ k_ ≠ gb547 ∧ k_ ≠ gb551)) k_ ∧ some k_ ≠ (u9 : Value).ownBlock)) (HO_552012.out) (fun k_ hk => ⟨⟨hk.1, ⟨hk.2.2.2.1, ⟨hk.2.2.2.2.1, hk.2.2.2.2.2⟩⟩⟩, hk.2.1⟩))) (Kd.V_reads' (Kd.V_mono (ok' := (fun k_ => ((fun k_ => (P0_ k_ ∨ w.heap.size ≤ k_) ∧ k_ ≠ gb546 ∧ k_ ≠ gb547 ∧ k_ ≠ gb551)) k_ ∧ some k_ ≠ (u9 : Value).ownBlock)) (HO_552013.out) (fun k_ hk => ⟨⟨hk.1, ⟨hk.2.2.2.1, ⟨hk.2.2.2.2.1, hk.2.2.2.2.2⟩⟩⟩, hk.2.1⟩))).2.1 (Kd.V_F (Kd.V_mono (ok' := (fun k_ => ((fun k_ => (P0_ k_ ∨ w.heap.size ≤ k_) ∧ k_ ≠ gb546 ∧ k_ ≠ gb547 ∧ k_ ≠ gb551)) k_ ∧ some k_ ≠ (u9 : Value).ownBlock)) (HO_552013.out) (fun k_ hk => ⟨⟨hk.1, ⟨hk.2.2.2.1, ⟨hk.2.2.2.2.1, hk.2.2.2.2.2⟩⟩⟩, hk.2.1⟩))) (Kd.N_reads' (Kd.N_mono (ok' := (fun k_ => ((fun k_ => (P0_ k_ ∨ w.heap.size ≤ k_) ∧ k_ ≠ gb546 ∧ k_ ≠ gb547 ∧ k_ ≠ gb551)) k_ ∧ some k_ ≠ (u9 : Value).ownBlock)) (HO_552016.out) (fun k_ hk => ⟨⟨hk.1, ⟨hk.2.2.1, ⟨hk.2.2.2.1, hk.2.2.2.2⟩⟩⟩, hk.2.1⟩))).2.1 (Kd.N_F (Kd.N_mono (ok' := (fun k_ => ((fun k_ => (P0_ k_ ∨ w.heap.size ≤ k_) ∧ k_ ≠ gb546 ∧ k_ ≠ gb547 ∧ k_ ≠ gb551)) k_ ∧ some k_ ≠ (u9 : Value).ownBlock)) (HO_552016.out) (fun k_ hk => ⟨⟨hk.1, ⟨hk.2.2.1, ⟨hk.2.2.2.1, hk.2.2.2.2⟩⟩⟩, hk.2.1⟩))))); (case aB => exact (by exact s_b HB.out)); (case aF => exact (fun k_ hk => ⟨(.inr (Nat.le_trans (below_size (by exact s_b HB.out)) hk)), Kd.freshB (s_k BK546.out) k_ hk, Kd.freshB (s_k BK547.out) k_ hk, Kd.freshB (s_k BK551.out) k_ hk⟩)); (case aO => exact (by exact s_N (Kd.N_mono HO_9.out (fun _ hk => ⟨hk.1, ⟨hk.2.2.1, ⟨hk.2.2.2.1, hk.2.2.2.2⟩⟩⟩)))); (case aS => exact (below_size (by exact s_b HB.out))); (case aL => have := LMc29.out; omega); intro v559 w31 ho hb hg hat; rw [← Ny558.out] at ho; have n0_ := s_a (blk_grown (s_k BK546.out) hg (Kd.N_ne HO_9.out BK546.out (by decide))); have n1_ := s_a (blk_grown (s_k BK547.out) hg (Kd.N_ne HO_9.out BK547.out (by decide))); have n2_ := s_a (blk_grown (s_k BK551.out) hg (Kd.N_away HO_9.out (fun _ hk => hk.2.2.2.2))); have n3_ := s_a (ho); clear BK546; clear BK547; clear BK551; clear HO_9; clear HO_552016; have BK546 := n0_; have BK547 := n1_; have BK551 := n2_; have HO560 := n3_; clear n0_ n1_ n2_ n3_; replace HO_0 := s_a (Kd.V_afterv (ok := (fun k_ => (P0_ k_ ∨ w.heap.size ≤ k_) ∧ some k_ ≠ (.slice Ao30 x552016_2.length co30 : Value).ownBlock ∧ k_ ≠ gb546 ∧ k_ ≠ gb547 ∧ k_ ≠ gb551)) (by exact s_V (Kd.V_mono HO_0.out (fun _ hk => ⟨⟨hk.1, ⟨hk.2.2.1, ⟨hk.2.2.2.1, ⟨hk.2.2.2.2.1, hk.2.2.2.2.2⟩⟩⟩⟩, hk.2.1⟩))) hg hat); replace HO_552009 := s_a (Kd.V_afterv (ok := (fun k_ => (P0_ k_ ∨ w.heap.size ≤ k_) ∧ some k_ ≠ (.slice Ao30 x552016_2.length co30 : Value).ownBlock ∧ k_ ≠ gb546 ∧ k_ ≠ gb547 ∧ k_ ≠ gb551)) (by exact s_V (Kd.V_mono HO_552009.out (fun _ hk => ⟨⟨hk.1, ⟨hk.2.2.1, ⟨hk.2.2.2.1, ⟨hk.2.2.2.2.1, hk.2.2.2.2.2⟩⟩⟩⟩, hk.2.1⟩))) hg hat); replace HO_552010 := s_a (Kd.V_afterv (ok := (fun k_ => (P0_ k_ ∨ w.heap.size ≤ k_) ∧ some k_ ≠ (.slice Ao30 x552016_2.length co30 : Value).ownBlock ∧ k_ ≠ gb546 ∧ k_ ≠ gb547 ∧ k_ ≠ gb551)) (by exact s_V (Kd.V_mono HO_552010.out (fun _ hk => ⟨⟨hk.1, ⟨hk.2.2.1, ⟨hk.2.2.2.1, ⟨hk.2.2.2.2.1, hk.2.2.2.2.2⟩⟩⟩⟩, hk.2.1⟩))) hg hat); replace HO_552011 := s_a (Kd.V_afterv (ok := (fun k_ => (P0_ k_ ∨ w.heap.size ≤ k_) ∧ some k_ ≠ (.slice Ao30 x552016_2.length co30 : Value).ownBlock ∧ k_ ≠ gb546 ∧ k_ ≠ gb547 ∧ k_ ≠ gb551)) (by exact s_V (Kd.V_mono HO_552011.out (fun _ hk => ⟨⟨hk.1, ⟨hk.2.2.1, ⟨hk.2.2.2.1, ⟨hk.2.2.2.2.1, hk.2.2.2.2.2⟩⟩⟩⟩, hk.2.1⟩))) hg hat); replace HO_552012 := s_a (Kd.V_afterv (ok := (fun k_ => (P0_ k_ ∨ w.heap.size ≤ k_) ∧ some k_ ≠ (.slice Ao30 x552016_2.length co30 : Value).ownBlock ∧ k_ ≠ gb546 ∧ k_ ≠ gb547 ∧ k_ ≠ gb551)) (by exact s_V (Kd.V_mono HO_552012.out (fun _ hk => ⟨⟨hk.1, ⟨hk.2.2.1, ⟨hk.2.2.2.1, ⟨hk.2.2.2.2.1, hk.2.2.2.2.2⟩⟩⟩⟩, hk.2.1⟩))) hg hat); replace HO_552013 := s_a (Kd.V_afterv (ok := (fun k_ => (P0_ k_ ∨ w.heap.size ≤ k_) ∧ some k_ ≠ (.slice Ao30 x552016_2.length co30 : Value).ownBlock ∧ k_ ≠ gb546 ∧ k_ ≠ gb547 ∧ k_ ≠ gb551)) (by exact s_V (Kd.V_mono HO_552013.out (fun _ hk => ⟨⟨hk.1, ⟨hk.2.2.1, ⟨hk.2.2.2.1, ⟨hk.2.2.2.2.1, hk.2.2.2.2.2⟩⟩⟩⟩, hk.2.1⟩))) hg hat); replace HB := s_a (hb); clear ho hb hg hat))
           go_roundg k2
           case measure => have := HK1.out; have := HK2.out; omega
           case rel => exact ⟨(y558), (wrap64 (x10_1 - 1)), (by first | rfl | (simp; done) | (simp [*]; done)), H', ⟨by have := HK1.out; have := HK2.out; omega⟩, ⟨by exact s_V (Kd.V_mono HO_0.out (fun _ hk => ⟨hk.1.1, ⟨hk.2, ⟨hk.1.2.2.1, hk.1.2.2.2.1⟩⟩⟩))⟩, ⟨by exact s_N (Kd.N_mono HO560.out (fun _ hk => ⟨hk.1, ⟨hk.2.1, hk.2.2.1⟩⟩))⟩, ⟨by exact s_k BK546.out⟩, ⟨by exact s_k BK547.out⟩, ⟨by exact s_b HB.out⟩⟩
          ·rw [if_neg c29] at H
           exact absurd H (by simp)
      ·rw [if_neg c11] at H
       exact absurd H (by simp)
     ·rw [if_neg c10] at H
      exact absurd H (by simp)
    ·rw [if_neg c9] at H
     have c9b0 : decide (0 ≤ x10_1) = false := decide_eq_false c9
     clear c9
     have HC32 := s_a H
     clear H
     go_upto_region 14 with (fail)
     go_cut [76] (fun v76 wc => ∃ (kq : Nat) (x76_31 : Bool), v76 = .bool x76_31 ∧ Aside0 (orchestratorlaw57_NetpolicyOrder.j2 kq l0 a3 x76_31 a1_0 a1_1 a1_2 a1_3 a1_4 a1_5 a1_6 a1_7 a1_8 l1_9 l1_10 l1_11 l1_12 a1_13 a1_14 a1_15 a1_16 l1_17 l1_18 l1_19 l1_20 l1_21 l1_22 a1_23 a1_24 a1_25 a1_26 a1_27 l1_28 a1_29 a1_30 a1_31 a2_0 a2_1 a2_2 a2_3 a2_4 a2_5 a2_6 a2_7 a2_8 l2_9 l2_10 l2_11 l2_12 a2_13 a2_14 a2_15 a2_16 l2_17 l2_18 l2_19 l2_20 l2_21 l2_22 a2_23 a2_24 a2_25 a2_26 a2_27 l2_28 a2_29 a2_30 a2_31 = some true) ∧ Aside0 (kq ≤ k1) ∧ Aside0 (Kd.V k54 54 wc w.heap.size (fun k_ => (P0_ k_ ∨ w.heap.size ≤ k_) ∧ k_ ≠ gb546 ∧ k_ ≠ gb547) (.slice A0 l0.length c0) l0) ∧ Aside0 (wc.heap[gb546]? = some (.cells #[.string a1_0, .string a1_1, .string a1_2, .int .i64 a1_3, .int .i64 a1_4, .int .i64 a1_5, .int .i64 a1_6, .bool a1_7, .int .i64 a1_8, (.slice A1_9 l1_9.length c1_9), (.slice A1_10 l1_10.length c1_10), (.slice A1_11 l1_11.length c1_11), (.slice A1_12 l1_12.length c1_12), .string a1_13, .int .i64 a1_14, .int .i64 a1_15, .int .i64 a1_16, (.slice A1_17 l1_17.length c1_17), (.slice A1_18 l1_18.length c1_18), (.slice A1_19 l1_19.length c1_19), (.slice A1_20 l1_20.length c1_20), (.slice A1_21 l1_21.length c1_21), (.slice A1_22 l1_22.length c1_22), .int .i64 a1_23, .bool a1_24, .int .i64 a1_25, .int .i64 a1_26, .int .i64 a1_27, (.slice A1_28 l1_28.length c1_28), .int .i64 a1_29, .string a1_30, .string a1_31] 41 (0, 0))) ∧ Aside0 (wc.heap[gb547]? = some (.cells #[.string a2_0, .string a2_1, .string a2_2, .int .i64 a2_3, .int .i64 a2_4, .int .i64 a2_5, .int .i64 a2_6, .bool a2_7, .int .i64 a2_8, (.slice A2_9 l2_9.length c2_9), (.slice A2_10 l2_10.length c2_10), (.slice A2_11 l2_11.length c2_11), (.slice A2_12 l2_12.length c2_12), .string a2_13, .int .i64 a2_14, .int .i64 a2_15, .int .i64 a2_16, (.slice A2_17 l2_17.length c2_17), (.slice A2_18 l2_18.length c2_18), (.slice A2_19 l2_19.length c2_19), (.slice A2_20 l2_20.length c2_20), (.slice A2_21 l2_21.length c2_21), (.slice A2_22 l2_22.length c2_22), .int .i64 a2_23, .bool a2_24, .int .i64 a2_25, .int .i64 a2_26, .int .i64 a2_27, (.slice A2_28 l2_28.length c2_28), .int .i64 a2_29, .string a2_30, .string a2_31] 41 (0, 0))) ∧ Aside0 (Below w.heap.size w wc))
     case first =>
      have H := HC32.out
      clear HC32
      replace H := Option.bind_eq_some_iff.mp H
      obtain ⟨t561, A330, H⟩ := H
      (try dsimp only at H)
      have A33 := s_a A330
      clear A330
      replace H := Option.bind_eq_some_iff.mp H
      obtain ⟨t562, A340, H⟩ := H
      (try dsimp only at H)
      have A34 := s_a A340
      clear A340
      by_cases c35 : (t561 != t562) = true
      ·rw [if_pos c35] at H
       have c35b0 : (t561 != t562) = true := c35
       (try (have c35b1 : decide (t561 = t562) = false := by simpa using c35))
       (try (have c35b2 : (t561 == t562) = false := by simpa using c35))
       (try (have c35b3 : ¬ (t561 = t562) := by simpa using c35))
       clear c35
       (first | rw [c35b0] | (simp only [i64_w, i32_w]; rw [c35b0]) | skip)
       have H' := s_a H
       clear H
       try go_wp2
       replace HO_0 := s_a (Kd.V_drew HO_0.out)
       replace HO_9 := s_a (Kd.N_drew HO_9.out)
       replace BK546 := s_a (blk_drew BK546.out)
       replace BK547 := s_a (blk_drew BK547.out)
       replace HB := s_a (below_drew1 HB.out)
       refine start_ (n := 20) (S := fun w' => w'.cell? ⟨gb546, 0, none⟩ = some (.string a1_0) ∧ w'.cell? ⟨gb546, 1, none⟩ = some (.string a1_1) ∧ w'.cell? ⟨gb546, 2, none⟩ = some (.string a1_2) ∧ w'.cell? ⟨gb546, 3, none⟩ = some (.int .i64 a1_3) ∧ w'.cell? ⟨gb546, 4, none⟩ = some (.int .i64 a1_4) ∧ w'.cell? ⟨gb546, 5, none⟩ = some (.int .i64 a1_5) ∧ w'.cell? ⟨gb546, 6, none⟩ = some (.int .i64 a1_6) ∧ w'.cell? ⟨gb546, 7, none⟩ = some (.bool a1_7) ∧ w'.cell? ⟨gb546, 8, none⟩ = some (.int .i64 a1_8) ∧ w'.cell? ⟨gb546, 9, none⟩ = some (.slice A1_9 l1_9.length c1_9) ∧ w'.cell? ⟨gb546, 10, none⟩ = some (.slice A1_10 l1_10.length c1_10) ∧ w'.cell? ⟨gb546, 11, none⟩ = some (.slice A1_11 l1_11.length c1_11) ∧ w'.cell? ⟨gb546, 12, none⟩ = some (.slice A1_12 l1_12.length c1_12) ∧ w'.cell? ⟨gb546, 13, none⟩ = some (.string a1_13) ∧ w'.cell? ⟨gb546, 14, none⟩ = some (.int .i64 a1_14) ∧ w'.cell? ⟨gb546, 15, none⟩ = some (.int .i64 a1_15) ∧ w'.cell? ⟨gb546, 16, none⟩ = some (.int .i64 a1_16) ∧ w'.cell? ⟨gb546, 17, none⟩ = some (.slice A1_17 l1_17.length c1_17) ∧ w'.cell? ⟨gb546, 18, none⟩ = some (.slice A1_18 l1_18.length c1_18) ∧ w'.cell? ⟨gb546, 19, none⟩ = some (.slice A1_19 l1_19.length c1_19) ∧ w'.cell? ⟨gb546, 20, none⟩ = some (.slice A1_20 l1_20.length c1_20) ∧ w'.cell? ⟨gb546, 21, none⟩ = some (.slice A1_21 l1_21.length c1_21) ∧ w'.cell? ⟨gb546, 22, none⟩ = some (.slice A1_22 l1_22.length c1_22) ∧ w'.cell? ⟨gb546, 23, none⟩ = some (.int .i64 a1_23) ∧ w'.cell? ⟨gb546, 24, none⟩ = some (.bool a1_24) ∧ w'.cell? ⟨gb546, 25, none⟩ = some (.int .i64 a1_25) ∧ w'.cell? ⟨gb546, 26, none⟩ = some (.int .i64 a1_26) ∧ w'.cell? ⟨gb546, 27, none⟩ = some (.int .i64 a1_27) ∧ w'.cell? ⟨gb546, 28, none⟩ = some (.slice A1_28 l1_28.length c1_28) ∧ w'.cell? ⟨gb546, 29, none⟩ = some (.int .i64 a1_29) ∧ w'.cell? ⟨gb546, 30, none⟩ = some (.string a1_30) ∧ w'.cell? ⟨gb546, 31, none⟩ = some (.string a1_31) ∧ w'.cell? ⟨gb547, 0, none⟩ = some (.string a2_0) ∧ w'.cell? ⟨gb547, 1, none⟩ = some (.string a2_1) ∧ w'.cell? ⟨gb547, 2, none⟩ = some (.string a2_2) ∧ w'.cell? ⟨gb547, 3, none⟩ = some (.int .i64 a2_3) ∧ w'.cell? ⟨gb547, 4, none⟩ = some (.int .i64 a2_4) ∧ w'.cell? ⟨gb547, 5, none⟩ = some (.int .i64 a2_5) ∧ w'.cell? ⟨gb547, 6, none⟩ = some (.int .i64 a2_6) ∧ w'.cell? ⟨gb547, 7, none⟩ = some (.bool a2_7) ∧ w'.cell? ⟨gb547, 8, none⟩ = some (.int .i64 a2_8) ∧ w'.cell? ⟨gb547, 9, none⟩ = some (.slice A2_9 l2_9.length c2_9) ∧ w'.cell? ⟨gb547, 10, none⟩ = some (.slice A2_10 l2_10.length c2_10) ∧ w'.cell? ⟨gb547, 11, none⟩ = some (.slice A2_11 l2_11.length c2_11) ∧ w'.cell? ⟨gb547, 12, none⟩ = some (.slice A2_12 l2_12.length c2_12) ∧ w'.cell? ⟨gb547, 13, none⟩ = some (.string a2_13) ∧ w'.cell? ⟨gb547, 14, none⟩ = some (.int .i64 a2_14) ∧ w'.cell? ⟨gb547, 15, none⟩ = some (.int .i64 a2_15) ∧ w'.cell? ⟨gb547, 16, none⟩ = some (.int .i64 a2_16) ∧ w'.cell? ⟨gb547, 17, none⟩ = some (.slice A2_17 l2_17.length c2_17) ∧ w'.cell? ⟨gb547, 18, none⟩ = some (.slice A2_18 l2_18.length c2_18) ∧ w'.cell? ⟨gb547, 19, none⟩ = some (.slice A2_19 l2_19.length c2_19) ∧ w'.cell? ⟨gb547, 20, none⟩ = some (.slice A2_20 l2_20.length c2_20) ∧ w'.cell? ⟨gb547, 21, none⟩ = some (.slice A2_21 l2_21.length c2_21) ∧ w'.cell? ⟨gb547, 22, none⟩ = some (.slice A2_22 l2_22.length c2_22) ∧ w'.cell? ⟨gb547, 23, none⟩ = some (.int .i64 a2_23) ∧ w'.cell? ⟨gb547, 24, none⟩ = some (.bool a2_24) ∧ w'.cell? ⟨gb547, 25, none⟩ = some (.int .i64 a2_25) ∧ w'.cell? ⟨gb547, 26, none⟩ = some (.int .i64 a2_26) ∧ w'.cell? ⟨gb547, 27, none⟩ = some (.int .i64 a2_27) ∧ w'.cell? ⟨gb547, 28, none⟩ = some (.slice A2_28 l2_28.length c2_28) ∧ w'.cell? ⟨gb547, 29, none⟩ = some (.int .i64 a2_29) ∧ w'.cell? ⟨gb547, 30, none⟩ = some (.string a2_30) ∧ w'.cell? ⟨gb547, 31, none⟩ = some (.string a2_31)) (ds := []) (bz 20 0) (by kernel_rfl) rfl rfl ⟨s_x BK546.out 0, s_x BK546.out 1, s_x BK546.out 2, s_x BK546.out 3, s_x BK546.out 4, s_x BK546.out 5, s_x BK546.out 6, s_x BK546.out 7, s_x BK546.out 8, s_x BK546.out 9, s_x BK546.out 10, s_x BK546.out 11, s_x BK546.out 12, s_x BK546.out 13, s_x BK546.out 14, s_x BK546.out 15, s_x BK546.out 16, s_x BK546.out 17, s_x BK546.out 18, s_x BK546.out 19, s_x BK546.out 20, s_x BK546.out 21, s_x BK546.out 22, s_x BK546.out 23, s_x BK546.out 24, s_x BK546.out 25, s_x BK546.out 26, s_x BK546.out 27, s_x BK546.out 28, s_x BK546.out 29, s_x BK546.out 30, s_x BK546.out 31, s_x BK547.out 0, s_x BK547.out 1, s_x BK547.out 2, s_x BK547.out 3, s_x BK547.out 4, s_x BK547.out 5, s_x BK547.out 6, s_x BK547.out 7, s_x BK547.out 8, s_x BK547.out 9, s_x BK547.out 10, s_x BK547.out 11, s_x BK547.out 12, s_x BK547.out 13, s_x BK547.out 14, s_x BK547.out 15, s_x BK547.out 16, s_x BK547.out 17, s_x BK547.out 18, s_x BK547.out 19, s_x BK547.out 20, s_x BK547.out 21, s_x BK547.out 22, s_x BK547.out 23, s_x BK547.out 24, s_x BK547.out 25, s_x BK547.out 26, s_x BK547.out 27, s_x BK547.out 28, s_x BK547.out 29, s_x BK547.out 30, s_x BK547.out 31⟩ (fun hHeld => ?_); refine with_tabW orchestratorlaw57_NetpolicyOrder.tab14 orchestratorlaw57_NetpolicyOrder.bits14 (fun HT_ HW_ => ?_)
       generalize wr.drew = w36 at HO_0 HO_9 BK546 BK547 HB hHeld ⊢
       refine q_p 0 (some 57) (bz 20 1) (any_of HT_.out (by kernel_rfl)) (v := ?_) ?_ (a' := ?_) ?_ ?_; rotate_left 2
       ·intro w'; go_simp; with_reducible rfl
       ·simp only [Act.put, List.setIfInBounds_toArray, List.set_cons_zero, List.set_cons_succ, i64_w, i32_w]; rfl
       refine q_p 3 (some 60) (bz 20 9) (any_of HT_.out (by kernel_rfl)) (v := ?_) ?_ (a' := ?_) ?_ ?_; rotate_left 2
       ·intro w'; go_simp; with_reducible rfl
       ·simp only [Act.put, List.setIfInBounds_toArray, List.set_cons_zero, List.set_cons_succ, i64_w, i32_w]; rfl
       refine q_p 5 (some 62) (bz 20 41) (any_of HT_.out (by kernel_rfl)) (v := ?_) ?_ (a' := ?_) ?_ ?_; rotate_left 2
       ·intro w'; go_simp; with_reducible rfl
       ·simp only [Act.put, List.setIfInBounds_toArray, List.set_cons_zero, List.set_cons_succ, i64_w, i32_w]; rfl
       refine q_p 8 (some 65) (bz 20 297) (any_of HT_.out (by kernel_rfl)) (v := ?_) ?_ (a' := ?_) ?_ ?_; rotate_left 2
       ·intro w'; go_simp; with_reducible rfl
       ·simp only [Act.put, List.setIfInBounds_toArray, List.set_cons_zero, List.set_cons_succ, i64_w, i32_w]; rfl
       refine q_t 1 (some 58) (bz 20 299) (take_ofW HT_.out HW_.out (by kernel_rfl)) hHeld (v := ?_) ?_ (a' := ?_) ?_ ?_; rotate_left 2
       ·rintro w' ⟨s0, s1, s2, s3, s4, s5, s6, s7, s8, s9, s10, s11, s12, s13, s14, s15, s16, s17, s18, s19, s20, s21, s22, s23, s24, s25, s26, s27, s28, s29, s30, s31, s32, s33, s34, s35, s36, s37, s38, s39, s40, s41, s42, s43, s44, s45, s46, s47, s48, s49, s50, s51, s52, s53, s54, s55, s56, s57, s58, s59, s60, s61, s62, s63⟩; (refine (s_ld rfl 41 (.tmp 5) ?_ _ ?_ _ _ (cells_at s0 (s_cc s1 (s_cc s2 (s_cc s3 (s_cc s4 (s_cc s5 (s_cc s6 (s_cc s7 (s_cc s8 (s_cc s9 (s_cc s10 (s_cc s11 (s_cc s12 (s_cc s13 (s_cc s14 (s_cc s15 (s_cc s16 (s_cc s17 (s_cc s18 (s_cc s19 (s_cc s20 (s_cc s21 (s_cc s22 (s_cc s23 (s_cc s24 (s_cc s25 (s_cc s26 (s_cc s27 (s_cc s28 (s_cc s29 (s_cc s30 (s_cc s31 s_cn)))))))))))))))))))))))))))))))) Try.underlying41 (by rfl) sz41).trans ?_ <;> first | (with_reducible rfl) | rfl)
       ·simp only [Act.put, List.setIfInBounds_toArray, List.set_cons_zero, List.set_cons_succ, i64_w, i32_w]; rfl
       refine q_t 2 (some 59) (bz 20 303) (take_ofW HT_.out HW_.out (by kernel_rfl)) hHeld (v := ?_) ?_ (a' := ?_) ?_ ?_; rotate_left 2
       ·rintro w' ⟨s0, s1, s2, s3, s4, s5, s6, s7, s8, s9, s10, s11, s12, s13, s14, s15, s16, s17, s18, s19, s20, s21, s22, s23, s24, s25, s26, s27, s28, s29, s30, s31, s32, s33, s34, s35, s36, s37, s38, s39, s40, s41, s42, s43, s44, s45, s46, s47, s48, s49, s50, s51, s52, s53, s54, s55, s56, s57, s58, s59, s60, s61, s62, s63⟩; (refine (s_ld rfl 41 (.tmp 6) ?_ _ ?_ _ _ (cells_at s32 (s_cc s33 (s_cc s34 (s_cc s35 (s_cc s36 (s_cc s37 (s_cc s38 (s_cc s39 (s_cc s40 (s_cc s41 (s_cc s42 (s_cc s43 (s_cc s44 (s_cc s45 (s_cc s46 (s_cc s47 (s_cc s48 (s_cc s49 (s_cc s50 (s_cc s51 (s_cc s52 (s_cc s53 (s_cc s54 (s_cc s55 (s_cc s56 (s_cc s57 (s_cc s58 (s_cc s59 (s_cc s60 (s_cc s61 (s_cc s62 (s_cc s63 s_cn)))))))))))))))))))))))))))))))) Try.underlying41 (by rfl) sz41).trans ?_ <;> first | (with_reducible rfl) | rfl)
       ·simp only [Act.put, List.setIfInBounds_toArray, List.set_cons_zero, List.set_cons_succ, i64_w, i32_w]; rfl
       refine q_t 6 (some 63) (bz 20 367) (take_ofW HT_.out HW_.out (by kernel_rfl)) hHeld (v := ?_) ?_ (a' := ?_) ?_ ?_; rotate_left 2
       ·rintro w' ⟨s0, s1, s2, s3, s4, s5, s6, s7, s8, s9, s10, s11, s12, s13, s14, s15, s16, s17, s18, s19, s20, s21, s22, s23, s24, s25, s26, s27, s28, s29, s30, s31, s32, s33, s34, s35, s36, s37, s38, s39, s40, s41, s42, s43, s44, s45, s46, s47, s48, s49, s50, s51, s52, s53, s54, s55, s56, s57, s58, s59, s60, s61, s62, s63⟩; (refine (s_ld rfl 41 (.tmp 5) ?_ _ ?_ _ _ (cells_at s0 (s_cc s1 (s_cc s2 (s_cc s3 (s_cc s4 (s_cc s5 (s_cc s6 (s_cc s7 (s_cc s8 (s_cc s9 (s_cc s10 (s_cc s11 (s_cc s12 (s_cc s13 (s_cc s14 (s_cc s15 (s_cc s16 (s_cc s17 (s_cc s18 (s_cc s19 (s_cc s20 (s_cc s21 (s_cc s22 (s_cc s23 (s_cc s24 (s_cc s25 (s_cc s26 (s_cc s27 (s_cc s28 (s_cc s29 (s_cc s30 (s_cc s31 s_cn)))))))))))))))))))))))))))))))) Try.underlying41 (by rfl) sz41).trans ?_ <;> first | (with_reducible rfl) | rfl)
       ·simp only [Act.put, List.setIfInBounds_toArray, List.set_cons_zero, List.set_cons_succ, i64_w, i32_w]; rfl
       refine q_t 7 (some 64) (bz 20 495) (take_ofW HT_.out HW_.out (by kernel_rfl)) hHeld (v := ?_) ?_ (a' := ?_) ?_ ?_; rotate_left 2
       ·rintro w' ⟨s0, s1, s2, s3, s4, s5, s6, s7, s8, s9, s10, s11, s12, s13, s14, s15, s16, s17, s18, s19, s20, s21, s22, s23, s24, s25, s26, s27, s28, s29, s30, s31, s32, s33, s34, s35, s36, s37, s38, s39, s40, s41, s42, s43, s44, s45, s46, s47, s48, s49, s50, s51, s52, s53, s54, s55, s56, s57, s58, s59, s60, s61, s62, s63⟩; (refine (s_ld rfl 41 (.tmp 6) ?_ _ ?_ _ _ (cells_at s32 (s_cc s33 (s_cc s34 (s_cc s35 (s_cc s36 (s_cc s37 (s_cc s38 (s_cc s39 (s_cc s40 (s_cc s41 (s_cc s42 (s_cc s43 (s_cc s44 (s_cc s45 (s_cc s46 (s_cc s47 (s_cc s48 (s_cc s49 (s_cc s50 (s_cc s51 (s_cc s52 (s_cc s53 (s_cc s54 (s_cc s55 (s_cc s56 (s_cc s57 (s_cc s58 (s_cc s59 (s_cc s60 (s_cc s61 (s_cc s62 (s_cc s63 s_cn)))))))))))))))))))))))))))))))) Try.underlying41 (by rfl) sz41).trans ?_ <;> first | (with_reducible rfl) | rfl)
       ·simp only [Act.put, List.setIfInBounds_toArray, List.set_cons_zero, List.set_cons_succ, i64_w, i32_w]; rfl
       refine one_ (i := 4) (N := some 61) (bz 20 511) rfl rfl (one_of HT_.out (by kernel_rfl)) (by decide) (fun K hK => ?_)
       refine goes_ Try.func11 (by kernel_rfl) rfl #[.slice A0 l0.length c0, .agg #[.string a1_0, .string a1_1, .string a1_2, .int .i64 a1_3, .int .i64 a1_4, .int .i64 a1_5, .int .i64 a1_6, .bool a1_7, .int .i64 a1_8, .slice A1_9 l1_9.length c1_9, .slice A1_10 l1_10.length c1_10, .slice A1_11 l1_11.length c1_11, .slice A1_12 l1_12.length c1_12, .string a1_13, .int .i64 a1_14, .int .i64 a1_15, .int .i64 a1_16, .slice A1_17 l1_17.length c1_17, .slice A1_18 l1_18.length c1_18, .slice A1_19 l1_19.length c1_19, .slice A1_20 l1_20.length c1_20, .slice A1_21 l1_21.length c1_21, .slice A1_22 l1_22.length c1_22, .int .i64 a1_23, .bool a1_24, .int .i64 a1_25, .int .i64 a1_26, .int .i64 a1_27, .slice A1_28 l1_28.length c1_28, .int .i64 a1_29, .string a1_30, .string a1_31], .agg #[.string a2_0, .string a2_1, .string a2_2, .int .i64 a2_3, .int .i64 a2_4, .int .i64 a2_5, .int .i64 a2_6, .bool a2_7, .int .i64 a2_8, .slice A2_9 l2_9.length c2_9, .slice A2_10 l2_10.length c2_10, .slice A2_11 l2_11.length c2_11, .slice A2_12 l2_12.length c2_12, .string a2_13, .int .i64 a2_14, .int .i64 a2_15, .int .i64 a2_16, .slice A2_17 l2_17.length c2_17, .slice A2_18 l2_18.length c2_18, .slice A2_19 l2_19.length c2_19, .slice A2_20 l2_20.length c2_20, .slice A2_21 l2_21.length c2_21, .slice A2_22 l2_22.length c2_22, .int .i64 a2_23, .bool a2_24, .int .i64 a2_25, .int .i64 a2_26, .int .i64 a2_27, .slice A2_28 l2_28.length c2_28, .int .i64 a2_29, .string a2_30, .string a2_31], .int .i64 a3] (by rfl) rfl rfl (by (try simp only [List.map_toArray, List.map_cons, List.map_nil]); first | done | rfl | (simp only [List.length_drop, List.length_take]; rfl)) ?_
       with_reducible refine (netpolicy_Allowed.calls k1 _ _ _ _ _ _ _ _ _ _ _ _ _ _ _ _ _ _ _ _ _ _ _ _ _ _ _ _ _ _ _ _ _ _ _ _ _ _ _ _ _ _ _ _ _ _ _ _ _ _ _ _ _ _ _ _ _ _ _ _ _ _ _ _ _ _ _ _ _ _ _ _ _ _ _ _ _ _ _ _ _ _ _ _ _ _ _ _ _ _ _ _ _ _ _ _ _ _ _ _ _ _ _ _ _ _ _ _ _ _ _ _ _ _ ?side1 ?side2 ?side3 ?side4 ?side5 ?side6 ?side7 ?side8 ?side9 ?side10 ?side11 ?side12 ?side13 ?side14 ?side15 ?side16 ?side17 ?side18 ?side19 ?side20 ?side21 ?side22 ?side23 ?side24 ?side25 ?side26 ?side27 ?side28 ?side29 ?side30 ?side31 ?side32 ?side33 ?side34 ?side35 ?side36 ?side37 ?side38 ?side39 ?side40 ?side41 ?side42 ?side43 ?side44 ?side45 ?side46 A33.out).mono ?_
       (case side1 => exact s_C (Kd.V_reads' HO_0.out).2.2)
       (case side2 => exact (Kd.V_reads' HO_0.out).2.1)
       (case side3 => exact s_D HR1_9.out HB.out)
       (case side4 => exact HC1_9.out)
       (case side5 => exact s_D HR1_10.out HB.out)
       (case side6 => exact HC1_10.out)
       (case side7 => exact s_D HR1_11.out HB.out)
       (case side8 => exact HC1_11.out)
       (case side9 => exact s_D HR1_12.out HB.out)
       (case side10 => exact HC1_12.out)
       (case side11 => exact s_D HR1_17.out HB.out)
       (case side12 => exact HC1_17.out)
       (case side13 => exact s_D HR1_18.out HB.out)
       (case side14 => exact HC1_18.out)
       (case side15 => exact s_D HR1_19.out HB.out)
       (case side16 => exact HC1_19.out)
       (case side17 => exact s_D HR1_20.out HB.out)
       (case side18 => exact HC1_20.out)
       (case side19 => exact s_D HR1_21.out HB.out)
       (case side20 => exact HC1_21.out)
       (case side21 => exact s_D HR1_22.out HB.out)
       (case side22 => exact HC1_22.out)
       (case side23 => exact s_D HR1_28.out HB.out)
       (case side24 => exact HC1_28.out)
       (case side25 => exact s_D HR2_9.out HB.out)
       (case side26 => exact HC2_9.out)
       (case side27 => exact s_D HR2_10.out HB.out)
       (case side28 => exact HC2_10.out)
       (case side29 => exact s_D HR2_11.out HB.out)
       (case side30 => exact HC2_11.out)
       (case side31 => exact s_D HR2_12.out HB.out)
       (case side32 => exact HC2_12.out)
       (case side33 => exact s_D HR2_17.out HB.out)
       (case side34 => exact HC2_17.out)
       (case side35 => exact s_D HR2_18.out HB.out)
       (case side36 => exact HC2_18.out)
       (case side37 => exact s_D HR2_19.out HB.out)
       (case side38 => exact HC2_19.out)
       (case side39 => exact s_D HR2_20.out HB.out)
       (case side40 => exact HC2_20.out)
       (case side41 => exact s_D HR2_21.out HB.out)
       (case side42 => exact HC2_21.out)
       (case side43 => exact s_D HR2_22.out HB.out)
       (case side44 => exact HC2_22.out)
       (case side45 => exact s_D HR2_28.out HB.out)
       (case side46 => exact HC2_28.out)
       rintro e w37 ⟨rfl, hb⟩
       refine ⟨_, rfl, ?_⟩
       replace HO_0 := s_a (Kd.V_below (by exact s_V (HO_0.out)) hb)
       replace HO_9 := s_a (Kd.N_below (by exact s_N (HO_9.out)) hb)
       replace BK546 := s_a (blk_below (s_k BK546.out) hb)
       replace BK547 := s_a (blk_below (s_k BK547.out) hb)
       replace HB := s_a (below_step (by exact s_b HB.out) hb)
       (try clear hb)
       obtain ⟨Ao38, co38, eo38⟩ := Kd.N_slice HO_9.out
       (first | subst eo38 | (injection eo38 with f1_ f2_ f3_; have f4_ := f1_.symm; have f5_ := f3_.symm; clear f1_ f2_ f3_; subst f4_; subst f5_))
       refine hK.out _ _ ⟨s_x BK546.out 0, s_x BK546.out 1, s_x BK546.out 2, s_x BK546.out 3, s_x BK546.out 4, s_x BK546.out 5, s_x BK546.out 6, s_x BK546.out 7, s_x BK546.out 8, s_x BK546.out 9, s_x BK546.out 10, s_x BK546.out 11, s_x BK546.out 12, s_x BK546.out 13, s_x BK546.out 14, s_x BK546.out 15, s_x BK546.out 16, s_x BK546.out 17, s_x BK546.out 18, s_x BK546.out 19, s_x BK546.out 20, s_x BK546.out 21, s_x BK546.out 22, s_x BK546.out 23, s_x BK546.out 24, s_x BK546.out 25, s_x BK546.out 26, s_x BK546.out 27, s_x BK546.out 28, s_x BK546.out 29, s_x BK546.out 30, s_x BK546.out 31, s_x BK547.out 0, s_x BK547.out 1, s_x BK547.out 2, s_x BK547.out 3, s_x BK547.out 4, s_x BK547.out 5, s_x BK547.out 6, s_x BK547.out 7, s_x BK547.out 8, s_x BK547.out 9, s_x BK547.out 10, s_x BK547.out 11, s_x BK547.out 12, s_x BK547.out 13, s_x BK547.out 14, s_x BK547.out 15, s_x BK547.out 16, s_x BK547.out 17, s_x BK547.out 18, s_x BK547.out 19, s_x BK547.out 20, s_x BK547.out 21, s_x BK547.out 22, s_x BK547.out 23, s_x BK547.out 24, s_x BK547.out 25, s_x BK547.out 26, s_x BK547.out 27, s_x BK547.out 28, s_x BK547.out 29, s_x BK547.out 30, s_x BK547.out 31⟩ (fun hHeld => ?_)
       clear hK K
       refine norm_ (a' := ?_) ?_ ?_
       rotate_left
       ·show Act.put _ (some 61) _ = _
        simp only [Act.put, List.setIfInBounds_toArray, List.set_cons_zero, List.set_cons_succ, i64_w, i32_w]
        rfl
       refine one_ (i := 9) (N := some 66) (bz 20 1023) rfl rfl (one_of HT_.out (by kernel_rfl)) (by decide) (fun K hK => ?_)
       refine goes_ Try.func11 (by kernel_rfl) rfl #[.slice Ao38 x9_1.length co38, .agg #[.string a1_0, .string a1_1, .string a1_2, .int .i64 a1_3, .int .i64 a1_4, .int .i64 a1_5, .int .i64 a1_6, .bool a1_7, .int .i64 a1_8, .slice A1_9 l1_9.length c1_9, .slice A1_10 l1_10.length c1_10, .slice A1_11 l1_11.length c1_11, .slice A1_12 l1_12.length c1_12, .string a1_13, .int .i64 a1_14, .int .i64 a1_15, .int .i64 a1_16, .slice A1_17 l1_17.length c1_17, .slice A1_18 l1_18.length c1_18, .slice A1_19 l1_19.length c1_19, .slice A1_20 l1_20.length c1_20, .slice A1_21 l1_21.length c1_21, .slice A1_22 l1_22.length c1_22, .int .i64 a1_23, .bool a1_24, .int .i64 a1_25, .int .i64 a1_26, .int .i64 a1_27, .slice A1_28 l1_28.length c1_28, .int .i64 a1_29, .string a1_30, .string a1_31], .agg #[.string a2_0, .string a2_1, .string a2_2, .int .i64 a2_3, .int .i64 a2_4, .int .i64 a2_5, .int .i64 a2_6, .bool a2_7, .int .i64 a2_8, .slice A2_9 l2_9.length c2_9, .slice A2_10 l2_10.length c2_10, .slice A2_11 l2_11.length c2_11, .slice A2_12 l2_12.length c2_12, .string a2_13, .int .i64 a2_14, .int .i64 a2_15, .int .i64 a2_16, .slice A2_17 l2_17.length c2_17, .slice A2_18 l2_18.length c2_18, .slice A2_19 l2_19.length c2_19, .slice A2_20 l2_20.length c2_20, .slice A2_21 l2_21.length c2_21, .slice A2_22 l2_22.length c2_22, .int .i64 a2_23, .bool a2_24, .int .i64 a2_25, .int .i64 a2_26, .int .i64 a2_27, .slice A2_28 l2_28.length c2_28, .int .i64 a2_29, .string a2_30, .string a2_31], .int .i64 a3] (by rfl) rfl rfl (by (try simp only [List.map_toArray, List.map_cons, List.map_nil]); first | done | rfl | (simp only [List.length_drop, List.length_take]; rfl)) ?_
       with_reducible refine (netpolicy_Allowed.calls k1 _ _ _ _ _ _ _ _ _ _ _ _ _ _ _ _ _ _ _ _ _ _ _ _ _ _ _ _ _ _ _ _ _ _ _ _ _ _ _ _ _ _ _ _ _ _ _ _ _ _ _ _ _ _ _ _ _ _ _ _ _ _ _ _ _ _ _ _ _ _ _ _ _ _ _ _ _ _ _ _ _ _ _ _ _ _ _ _ _ _ _ _ _ _ _ _ _ _ _ _ _ _ _ _ _ _ _ _ _ _ _ _ _ _ ?side1 ?side2 ?side3 ?side4 ?side5 ?side6 ?side7 ?side8 ?side9 ?side10 ?side11 ?side12 ?side13 ?side14 ?side15 ?side16 ?side17 ?side18 ?side19 ?side20 ?side21 ?side22 ?side23 ?side24 ?side25 ?side26 ?side27 ?side28 ?side29 ?side30 ?side31 ?side32 ?side33 ?side34 ?side35 ?side36 ?side37 ?side38 ?side39 ?side40 ?side41 ?side42 ?side43 ?side44 ?side45 ?side46 A34.out).mono ?_
       (case side1 => exact s_C (Kd.N_reads' HO_9.out).2.2)
       (case side2 => exact (Kd.N_reads' HO_9.out).2.1)
       (case side3 => exact s_D HR1_9.out HB.out)
       (case side4 => exact HC1_9.out)
       (case side5 => exact s_D HR1_10.out HB.out)
       (case side6 => exact HC1_10.out)
       (case side7 => exact s_D HR1_11.out HB.out)
       (case side8 => exact HC1_11.out)
       (case side9 => exact s_D HR1_12.out HB.out)
       (case side10 => exact HC1_12.out)
       (case side11 => exact s_D HR1_17.out HB.out)
       (case side12 => exact HC1_17.out)
       (case side13 => exact s_D HR1_18.out HB.out)
       (case side14 => exact HC1_18.out)
       (case side15 => exact s_D HR1_19.out HB.out)
       (case side16 => exact HC1_19.out)
       (case side17 => exact s_D HR1_20.out HB.out)
       (case side18 => exact HC1_20.out)
       (case side19 => exact s_D HR1_21.out HB.out)
       (case side20 => exact HC1_21.out)
       (case side21 => exact s_D HR1_22.out HB.out)
       (case side22 => exact HC1_22.out)
       (case side23 => exact s_D HR1_28.out HB.out)
       (case side24 => exact HC1_28.out)
       (case side25 => exact s_D HR2_9.out HB.out)
       (case side26 => exact HC2_9.out)
       (case side27 => exact s_D HR2_10.out HB.out)
       (case side28 => exact HC2_10.out)
       (case side29 => exact s_D HR2_11.out HB.out)
       (case side30 => exact HC2_11.out)
       (case side31 => exact s_D HR2_12.out HB.out)
       (case side32 => exact HC2_12.out)
       (case side33 => exact s_D HR2_17.out HB.out)
       (case side34 => exact HC2_17.out)
       (case side35 => exact s_D HR2_18.out HB.out)
       (case side36 => exact HC2_18.out)
       (case side37 => exact s_D HR2_19.out HB.out)
       (case side38 => exact HC2_19.out)
       (case side39 => exact s_D HR2_20.out HB.out)
       (case side40 => exact HC2_20.out)
       (case side41 => exact s_D HR2_21.out HB.out)
       (case side42 => exact HC2_21.out)
       (case side43 => exact s_D HR2_22.out HB.out)
       (case side44 => exact HC2_22.out)
       (case side45 => exact s_D HR2_28.out HB.out)
       (case side46 => exact HC2_28.out)
       rintro e w39 ⟨rfl, hb⟩
       refine ⟨_, rfl, ?_⟩
       replace HO_0 := s_a (Kd.V_below (by exact s_V (HO_0.out)) hb)
       replace HO_9 := s_a (Kd.N_below (by exact s_N (HO_9.out)) hb)
       replace BK546 := s_a (blk_below (s_k BK546.out) hb)
       replace BK547 := s_a (blk_below (s_k BK547.out) hb)
       replace HB := s_a (below_step (by exact s_b HB.out) hb)
       (try clear hb)
       refine hK.out _ _ ⟨s_x BK546.out 0, s_x BK546.out 1, s_x BK546.out 2, s_x BK546.out 3, s_x BK546.out 4, s_x BK546.out 5, s_x BK546.out 6, s_x BK546.out 7, s_x BK546.out 8, s_x BK546.out 9, s_x BK546.out 10, s_x BK546.out 11, s_x BK546.out 12, s_x BK546.out 13, s_x BK546.out 14, s_x BK546.out 15, s_x BK546.out 16, s_x BK546.out 17, s_x BK546.out 18, s_x BK546.out 19, s_x BK546.out 20, s_x BK546.out 21, s_x BK546.out 22, s_x BK546.out 23, s_x BK546.out 24, s_x BK546.out 25, s_x BK546.out 26, s_x BK546.out 27, s_x BK546.out 28, s_x BK546.out 29, s_x BK546.out 30, s_x BK546.out 31, s_x BK547.out 0, s_x BK547.out 1, s_x BK547.out 2, s_x BK547.out 3, s_x BK547.out 4, s_x BK547.out 5, s_x BK547.out 6, s_x BK547.out 7, s_x BK547.out 8, s_x BK547.out 9, s_x BK547.out 10, s_x BK547.out 11, s_x BK547.out 12, s_x BK547.out 13, s_x BK547.out 14, s_x BK547.out 15, s_x BK547.out 16, s_x BK547.out 17, s_x BK547.out 18, s_x BK547.out 19, s_x BK547.out 20, s_x BK547.out 21, s_x BK547.out 22, s_x BK547.out 23, s_x BK547.out 24, s_x BK547.out 25, s_x BK547.out 26, s_x BK547.out 27, s_x BK547.out 28, s_x BK547.out 29, s_x BK547.out 30, s_x BK547.out 31⟩ (fun hHeld => ?_)
       clear hK K
       refine norm_ (a' := ?_) ?_ ?_
       rotate_left
       ·show Act.put _ (some 66) _ = _
        simp only [Act.put, List.setIfInBounds_toArray, List.set_cons_zero, List.set_cons_succ, i64_w, i32_w]
        rfl
       refine q_p 10 (some 67) (bz 20 2047) (any_of HT_.out (by kernel_rfl)) (v := ?_) ?_ (a' := ?_) ?_ ?_; rotate_left 2
       ·intro w'; go_simp; with_reducible rfl
       ·simp only [Act.put, List.setIfInBounds_toArray, List.set_cons_zero, List.set_cons_succ, i64_w, i32_w]; rfl
       refine q_p 11 (some 68) (bz 20 4095) (any_of HT_.out (by kernel_rfl)) (v := ?_) ?_ (a' := ?_) ?_ ?_; rotate_left 2
       ·intro w'; go_simp; with_reducible rfl
       ·simp only [Act.put, List.setIfInBounds_toArray, List.set_cons_zero, List.set_cons_succ, i64_w, i32_w]; rfl
       refine q_o 12 (some 69) (bz 20 8191) (any_of HT_.out (by kernel_rfl)) (a' := ?_) ?_ ?_; rotate_left
       ·simp only [Act.put, List.setIfInBounds_toArray, List.set_cons_zero, List.set_cons_succ, i64_w, i32_w]; rfl
       refine q_o 13 (some 70) (bz 20 16383) (any_of HT_.out (by kernel_rfl)) (a' := ?_) ?_ ?_; rotate_left
       ·simp only [Act.put, List.setIfInBounds_toArray, List.set_cons_zero, List.set_cons_succ, i64_w, i32_w]; rfl
       refine q_o 14 (some 71) (bz 20 32767) (any_of HT_.out (by kernel_rfl)) (a' := ?_) ?_ ?_; rotate_left
       ·simp only [Act.put, List.setIfInBounds_toArray, List.set_cons_zero, List.set_cons_succ, i64_w, i32_w]; rfl
       refine q_o 15 (some 72) (bz 20 65535) (any_of HT_.out (by kernel_rfl)) (a' := ?_) ?_ ?_; rotate_left
       ·simp only [Act.put, List.setIfInBounds_toArray, List.set_cons_zero, List.set_cons_succ, i64_w, i32_w]; rfl
       refine q_o 16 (some 73) (bz 20 131071) (any_of HT_.out (by kernel_rfl)) (a' := ?_) ?_ ?_; rotate_left
       ·simp only [Act.put, List.setIfInBounds_toArray, List.set_cons_zero, List.set_cons_succ, i64_w, i32_w]; rfl
       refine q_o 17 (some 74) (bz 20 262143) (any_of HT_.out (by kernel_rfl)) (a' := ?_) ?_ ?_; rotate_left
       ·simp only [Act.put, List.setIfInBounds_toArray, List.set_cons_zero, List.set_cons_succ, i64_w, i32_w]; rfl
       refine q_o 18 (some 75) (bz 20 524287) (any_of HT_.out (by kernel_rfl)) (a' := ?_) ?_ ?_; rotate_left
       ·simp only [Act.put, List.setIfInBounds_toArray, List.set_cons_zero, List.set_cons_succ, i64_w, i32_w]; rfl
       refine q_p 19 (some 76) (bz 20 1048575) (any_of HT_.out (by kernel_rfl)) (v := ?_) ?_ (a' := ?_) ?_ ?_; rotate_left 2
       ·intro w'; go_simp; with_reducible rfl
       ·simp only [Act.put, List.setIfInBounds_toArray, List.set_cons_zero, List.set_cons_succ, i64_w, i32_w]; rfl
       refine done_ (done_of HT_.out (by kernel_rfl)) ?_
       try go_wp2
       go_meet
       case rel => exact ⟨_, (true), (by first | rfl | (simp; done) | (simp [*]; done)), H', ⟨by have := HK1.out; first | omega | exact Nat.le_refl _⟩, ⟨by exact s_V (Kd.V_mono HO_0.out (fun _ hk => ⟨hk.1, ⟨hk.2.2.1, hk.2.2.2⟩⟩))⟩, ⟨by exact s_k BK546.out⟩, ⟨by exact s_k BK547.out⟩, ⟨by exact s_b HB.out⟩⟩
      ·rw [if_neg c35] at H
       have c35b0 : (t561 != t562) = false := by simpa using c35
       (try (have c35b1 : decide (t561 = t562) = true := by simpa using c35))
       (try (have c35b2 : (t561 == t562) = true := by simpa using c35))
       clear c35
       (first | rw [c35b0] | (simp only [i64_w, i32_w]; rw [c35b0]) | skip)
       replace H := Option.bind_eq_some_iff.mp H
       obtain ⟨t563, A400, H⟩ := H
       (try dsimp only at H)
       have A40 := s_a A400
       clear A400
       replace H := Option.bind_eq_some_iff.mp H
       obtain ⟨t564, A410, H⟩ := H
       (try dsimp only at H)
       have A41 := s_a A410
       clear A410
       have H' := s_a H
       clear H
       try go_wp2
       replace HO_0 := s_a (Kd.V_drew HO_0.out)
       replace HO_9 := s_a (Kd.N_drew HO_9.out)
       replace BK546 := s_a (blk_drew BK546.out)
       replace BK547 := s_a (blk_drew BK547.out)
       replace HB := s_a (below_drew1 HB.out)
       refine start_ (n := 20) (S := fun w' => w'.cell? ⟨gb546, 0, none⟩ = some (.string a1_0) ∧ w'.cell? ⟨gb546, 1, none⟩ = some (.string a1_1) ∧ w'.cell? ⟨gb546, 2, none⟩ = some (.string a1_2) ∧ w'.cell? ⟨gb546, 3, none⟩ = some (.int .i64 a1_3) ∧ w'.cell? ⟨gb546, 4, none⟩ = some (.int .i64 a1_4) ∧ w'.cell? ⟨gb546, 5, none⟩ = some (.int .i64 a1_5) ∧ w'.cell? ⟨gb546, 6, none⟩ = some (.int .i64 a1_6) ∧ w'.cell? ⟨gb546, 7, none⟩ = some (.bool a1_7) ∧ w'.cell? ⟨gb546, 8, none⟩ = some (.int .i64 a1_8) ∧ w'.cell? ⟨gb546, 9, none⟩ = some (.slice A1_9 l1_9.length c1_9) ∧ w'.cell? ⟨gb546, 10, none⟩ = some (.slice A1_10 l1_10.length c1_10) ∧ w'.cell? ⟨gb546, 11, none⟩ = some (.slice A1_11 l1_11.length c1_11) ∧ w'.cell? ⟨gb546, 12, none⟩ = some (.slice A1_12 l1_12.length c1_12) ∧ w'.cell? ⟨gb546, 13, none⟩ = some (.string a1_13) ∧ w'.cell? ⟨gb546, 14, none⟩ = some (.int .i64 a1_14) ∧ w'.cell? ⟨gb546, 15, none⟩ = some (.int .i64 a1_15) ∧ w'.cell? ⟨gb546, 16, none⟩ = some (.int .i64 a1_16) ∧ w'.cell? ⟨gb546, 17, none⟩ = some (.slice A1_17 l1_17.length c1_17) ∧ w'.cell? ⟨gb546, 18, none⟩ = some (.slice A1_18 l1_18.length c1_18) ∧ w'.cell? ⟨gb546, 19, none⟩ = some (.slice A1_19 l1_19.length c1_19) ∧ w'.cell? ⟨gb546, 20, none⟩ = some (.slice A1_20 l1_20.length c1_20) ∧ w'.cell? ⟨gb546, 21, none⟩ = some (.slice A1_21 l1_21.length c1_21) ∧ w'.cell? ⟨gb546, 22, none⟩ = some (.slice A1_22 l1_22.length c1_22) ∧ w'.cell? ⟨gb546, 23, none⟩ = some (.int .i64 a1_23) ∧ w'.cell? ⟨gb546, 24, none⟩ = some (.bool a1_24) ∧ w'.cell? ⟨gb546, 25, none⟩ = some (.int .i64 a1_25) ∧ w'.cell? ⟨gb546, 26, none⟩ = some (.int .i64 a1_26) ∧ w'.cell? ⟨gb546, 27, none⟩ = some (.int .i64 a1_27) ∧ w'.cell? ⟨gb546, 28, none⟩ = some (.slice A1_28 l1_28.length c1_28) ∧ w'.cell? ⟨gb546, 29, none⟩ = some (.int .i64 a1_29) ∧ w'.cell? ⟨gb546, 30, none⟩ = some (.string a1_30) ∧ w'.cell? ⟨gb546, 31, none⟩ = some (.string a1_31) ∧ w'.cell? ⟨gb547, 0, none⟩ = some (.string a2_0) ∧ w'.cell? ⟨gb547, 1, none⟩ = some (.string a2_1) ∧ w'.cell? ⟨gb547, 2, none⟩ = some (.string a2_2) ∧ w'.cell? ⟨gb547, 3, none⟩ = some (.int .i64 a2_3) ∧ w'.cell? ⟨gb547, 4, none⟩ = some (.int .i64 a2_4) ∧ w'.cell? ⟨gb547, 5, none⟩ = some (.int .i64 a2_5) ∧ w'.cell? ⟨gb547, 6, none⟩ = some (.int .i64 a2_6) ∧ w'.cell? ⟨gb547, 7, none⟩ = some (.bool a2_7) ∧ w'.cell? ⟨gb547, 8, none⟩ = some (.int .i64 a2_8) ∧ w'.cell? ⟨gb547, 9, none⟩ = some (.slice A2_9 l2_9.length c2_9) ∧ w'.cell? ⟨gb547, 10, none⟩ = some (.slice A2_10 l2_10.length c2_10) ∧ w'.cell? ⟨gb547, 11, none⟩ = some (.slice A2_11 l2_11.length c2_11) ∧ w'.cell? ⟨gb547, 12, none⟩ = some (.slice A2_12 l2_12.length c2_12) ∧ w'.cell? ⟨gb547, 13, none⟩ = some (.string a2_13) ∧ w'.cell? ⟨gb547, 14, none⟩ = some (.int .i64 a2_14) ∧ w'.cell? ⟨gb547, 15, none⟩ = some (.int .i64 a2_15) ∧ w'.cell? ⟨gb547, 16, none⟩ = some (.int .i64 a2_16) ∧ w'.cell? ⟨gb547, 17, none⟩ = some (.slice A2_17 l2_17.length c2_17) ∧ w'.cell? ⟨gb547, 18, none⟩ = some (.slice A2_18 l2_18.length c2_18) ∧ w'.cell? ⟨gb547, 19, none⟩ = some (.slice A2_19 l2_19.length c2_19) ∧ w'.cell? ⟨gb547, 20, none⟩ = some (.slice A2_20 l2_20.length c2_20) ∧ w'.cell? ⟨gb547, 21, none⟩ = some (.slice A2_21 l2_21.length c2_21) ∧ w'.cell? ⟨gb547, 22, none⟩ = some (.slice A2_22 l2_22.length c2_22) ∧ w'.cell? ⟨gb547, 23, none⟩ = some (.int .i64 a2_23) ∧ w'.cell? ⟨gb547, 24, none⟩ = some (.bool a2_24) ∧ w'.cell? ⟨gb547, 25, none⟩ = some (.int .i64 a2_25) ∧ w'.cell? ⟨gb547, 26, none⟩ = some (.int .i64 a2_26) ∧ w'.cell? ⟨gb547, 27, none⟩ = some (.int .i64 a2_27) ∧ w'.cell? ⟨gb547, 28, none⟩ = some (.slice A2_28 l2_28.length c2_28) ∧ w'.cell? ⟨gb547, 29, none⟩ = some (.int .i64 a2_29) ∧ w'.cell? ⟨gb547, 30, none⟩ = some (.string a2_30) ∧ w'.cell? ⟨gb547, 31, none⟩ = some (.string a2_31)) (ds := []) (bz 20 0) (by kernel_rfl) rfl rfl ⟨s_x BK546.out 0, s_x BK546.out 1, s_x BK546.out 2, s_x BK546.out 3, s_x BK546.out 4, s_x BK546.out 5, s_x BK546.out 6, s_x BK546.out 7, s_x BK546.out 8, s_x BK546.out 9, s_x BK546.out 10, s_x BK546.out 11, s_x BK546.out 12, s_x BK546.out 13, s_x BK546.out 14, s_x BK546.out 15, s_x BK546.out 16, s_x BK546.out 17, s_x BK546.out 18, s_x BK546.out 19, s_x BK546.out 20, s_x BK546.out 21, s_x BK546.out 22, s_x BK546.out 23, s_x BK546.out 24, s_x BK546.out 25, s_x BK546.out 26, s_x BK546.out 27, s_x BK546.out 28, s_x BK546.out 29, s_x BK546.out 30, s_x BK546.out 31, s_x BK547.out 0, s_x BK547.out 1, s_x BK547.out 2, s_x BK547.out 3, s_x BK547.out 4, s_x BK547.out 5, s_x BK547.out 6, s_x BK547.out 7, s_x BK547.out 8, s_x BK547.out 9, s_x BK547.out 10, s_x BK547.out 11, s_x BK547.out 12, s_x BK547.out 13, s_x BK547.out 14, s_x BK547.out 15, s_x BK547.out 16, s_x BK547.out 17, s_x BK547.out 18, s_x BK547.out 19, s_x BK547.out 20, s_x BK547.out 21, s_x BK547.out 22, s_x BK547.out 23, s_x BK547.out 24, s_x BK547.out 25, s_x BK547.out 26, s_x BK547.out 27, s_x BK547.out 28, s_x BK547.out 29, s_x BK547.out 30, s_x BK547.out 31⟩ (fun hHeld => ?_); refine with_tabW orchestratorlaw57_NetpolicyOrder.tab14 orchestratorlaw57_NetpolicyOrder.bits14 (fun HT_ HW_ => ?_)
       generalize wr.drew = w42 at HO_0 HO_9 BK546 BK547 HB hHeld ⊢
       refine q_p 0 (some 57) (bz 20 1) (any_of HT_.out (by kernel_rfl)) (v := ?_) ?_ (a' := ?_) ?_ ?_; rotate_left 2
       ·intro w'; go_simp; with_reducible rfl
       ·simp only [Act.put, List.setIfInBounds_toArray, List.set_cons_zero, List.set_cons_succ, i64_w, i32_w]; rfl
       refine q_p 3 (some 60) (bz 20 9) (any_of HT_.out (by kernel_rfl)) (v := ?_) ?_ (a' := ?_) ?_ ?_; rotate_left 2
       ·intro w'; go_simp; with_reducible rfl
       ·simp only [Act.put, List.setIfInBounds_toArray, List.set_cons_zero, List.set_cons_succ, i64_w, i32_w]; rfl
       refine q_p 5 (some 62) (bz 20 41) (any_of HT_.out (by kernel_rfl)) (v := ?_) ?_ (a' := ?_) ?_ ?_; rotate_left 2
       ·intro w'; go_simp; with_reducible rfl
       ·simp only [Act.put, List.setIfInBounds_toArray, List.set_cons_zero, List.set_cons_succ, i64_w, i32_w]; rfl
       refine q_p 8 (some 65) (bz 20 297) (any_of HT_.out (by kernel_rfl)) (v := ?_) ?_ (a' := ?_) ?_ ?_; rotate_left 2
       ·intro w'; go_simp; with_reducible rfl
       ·simp only [Act.put, List.setIfInBounds_toArray, List.set_cons_zero, List.set_cons_succ, i64_w, i32_w]; rfl
       refine q_t 1 (some 58) (bz 20 299) (take_ofW HT_.out HW_.out (by kernel_rfl)) hHeld (v := ?_) ?_ (a' := ?_) ?_ ?_; rotate_left 2
       ·rintro w' ⟨s0, s1, s2, s3, s4, s5, s6, s7, s8, s9, s10, s11, s12, s13, s14, s15, s16, s17, s18, s19, s20, s21, s22, s23, s24, s25, s26, s27, s28, s29, s30, s31, s32, s33, s34, s35, s36, s37, s38, s39, s40, s41, s42, s43, s44, s45, s46, s47, s48, s49, s50, s51, s52, s53, s54, s55, s56, s57, s58, s59, s60, s61, s62, s63⟩; (refine (s_ld rfl 41 (.tmp 5) ?_ _ ?_ _ _ (cells_at s0 (s_cc s1 (s_cc s2 (s_cc s3 (s_cc s4 (s_cc s5 (s_cc s6 (s_cc s7 (s_cc s8 (s_cc s9 (s_cc s10 (s_cc s11 (s_cc s12 (s_cc s13 (s_cc s14 (s_cc s15 (s_cc s16 (s_cc s17 (s_cc s18 (s_cc s19 (s_cc s20 (s_cc s21 (s_cc s22 (s_cc s23 (s_cc s24 (s_cc s25 (s_cc s26 (s_cc s27 (s_cc s28 (s_cc s29 (s_cc s30 (s_cc s31 s_cn)))))))))))))))))))))))))))))))) Try.underlying41 (by rfl) sz41).trans ?_ <;> first | (with_reducible rfl) | rfl)
       ·simp only [Act.put, List.setIfInBounds_toArray, List.set_cons_zero, List.set_cons_succ, i64_w, i32_w]; rfl
       refine q_t 2 (some 59) (bz 20 303) (take_ofW HT_.out HW_.out (by kernel_rfl)) hHeld (v := ?_) ?_ (a' := ?_) ?_ ?_; rotate_left 2
       ·rintro w' ⟨s0, s1, s2, s3, s4, s5, s6, s7, s8, s9, s10, s11, s12, s13, s14, s15, s16, s17, s18, s19, s20, s21, s22, s23, s24, s25, s26, s27, s28, s29, s30, s31, s32, s33, s34, s35, s36, s37, s38, s39, s40, s41, s42, s43, s44, s45, s46, s47, s48, s49, s50, s51, s52, s53, s54, s55, s56, s57, s58, s59, s60, s61, s62, s63⟩; (refine (s_ld rfl 41 (.tmp 6) ?_ _ ?_ _ _ (cells_at s32 (s_cc s33 (s_cc s34 (s_cc s35 (s_cc s36 (s_cc s37 (s_cc s38 (s_cc s39 (s_cc s40 (s_cc s41 (s_cc s42 (s_cc s43 (s_cc s44 (s_cc s45 (s_cc s46 (s_cc s47 (s_cc s48 (s_cc s49 (s_cc s50 (s_cc s51 (s_cc s52 (s_cc s53 (s_cc s54 (s_cc s55 (s_cc s56 (s_cc s57 (s_cc s58 (s_cc s59 (s_cc s60 (s_cc s61 (s_cc s62 (s_cc s63 s_cn)))))))))))))))))))))))))))))))) Try.underlying41 (by rfl) sz41).trans ?_ <;> first | (with_reducible rfl) | rfl)
       ·simp only [Act.put, List.setIfInBounds_toArray, List.set_cons_zero, List.set_cons_succ, i64_w, i32_w]; rfl
       refine q_t 6 (some 63) (bz 20 367) (take_ofW HT_.out HW_.out (by kernel_rfl)) hHeld (v := ?_) ?_ (a' := ?_) ?_ ?_; rotate_left 2
       ·rintro w' ⟨s0, s1, s2, s3, s4, s5, s6, s7, s8, s9, s10, s11, s12, s13, s14, s15, s16, s17, s18, s19, s20, s21, s22, s23, s24, s25, s26, s27, s28, s29, s30, s31, s32, s33, s34, s35, s36, s37, s38, s39, s40, s41, s42, s43, s44, s45, s46, s47, s48, s49, s50, s51, s52, s53, s54, s55, s56, s57, s58, s59, s60, s61, s62, s63⟩; (refine (s_ld rfl 41 (.tmp 5) ?_ _ ?_ _ _ (cells_at s0 (s_cc s1 (s_cc s2 (s_cc s3 (s_cc s4 (s_cc s5 (s_cc s6 (s_cc s7 (s_cc s8 (s_cc s9 (s_cc s10 (s_cc s11 (s_cc s12 (s_cc s13 (s_cc s14 (s_cc s15 (s_cc s16 (s_cc s17 (s_cc s18 (s_cc s19 (s_cc s20 (s_cc s21 (s_cc s22 (s_cc s23 (s_cc s24 (s_cc s25 (s_cc s26 (s_cc s27 (s_cc s28 (s_cc s29 (s_cc s30 (s_cc s31 s_cn)))))))))))))))))))))))))))))))) Try.underlying41 (by rfl) sz41).trans ?_ <;> first | (with_reducible rfl) | rfl)
       ·simp only [Act.put, List.setIfInBounds_toArray, List.set_cons_zero, List.set_cons_succ, i64_w, i32_w]; rfl
       refine q_t 7 (some 64) (bz 20 495) (take_ofW HT_.out HW_.out (by kernel_rfl)) hHeld (v := ?_) ?_ (a' := ?_) ?_ ?_; rotate_left 2
       ·rintro w' ⟨s0, s1, s2, s3, s4, s5, s6, s7, s8, s9, s10, s11, s12, s13, s14, s15, s16, s17, s18, s19, s20, s21, s22, s23, s24, s25, s26, s27, s28, s29, s30, s31, s32, s33, s34, s35, s36, s37, s38, s39, s40, s41, s42, s43, s44, s45, s46, s47, s48, s49, s50, s51, s52, s53, s54, s55, s56, s57, s58, s59, s60, s61, s62, s63⟩; (refine (s_ld rfl 41 (.tmp 6) ?_ _ ?_ _ _ (cells_at s32 (s_cc s33 (s_cc s34 (s_cc s35 (s_cc s36 (s_cc s37 (s_cc s38 (s_cc s39 (s_cc s40 (s_cc s41 (s_cc s42 (s_cc s43 (s_cc s44 (s_cc s45 (s_cc s46 (s_cc s47 (s_cc s48 (s_cc s49 (s_cc s50 (s_cc s51 (s_cc s52 (s_cc s53 (s_cc s54 (s_cc s55 (s_cc s56 (s_cc s57 (s_cc s58 (s_cc s59 (s_cc s60 (s_cc s61 (s_cc s62 (s_cc s63 s_cn)))))))))))))))))))))))))))))))) Try.underlying41 (by rfl) sz41).trans ?_ <;> first | (with_reducible rfl) | rfl)
       ·simp only [Act.put, List.setIfInBounds_toArray, List.set_cons_zero, List.set_cons_succ, i64_w, i32_w]; rfl
       refine one_ (i := 4) (N := some 61) (bz 20 511) rfl rfl (one_of HT_.out (by kernel_rfl)) (by decide) (fun K hK => ?_)
       refine goes_ Try.func11 (by kernel_rfl) rfl #[.slice A0 l0.length c0, .agg #[.string a1_0, .string a1_1, .string a1_2, .int .i64 a1_3, .int .i64 a1_4, .int .i64 a1_5, .int .i64 a1_6, .bool a1_7, .int .i64 a1_8, .slice A1_9 l1_9.length c1_9, .slice A1_10 l1_10.length c1_10, .slice A1_11 l1_11.length c1_11, .slice A1_12 l1_12.length c1_12, .string a1_13, .int .i64 a1_14, .int .i64 a1_15, .int .i64 a1_16, .slice A1_17 l1_17.length c1_17, .slice A1_18 l1_18.length c1_18, .slice A1_19 l1_19.length c1_19, .slice A1_20 l1_20.length c1_20, .slice A1_21 l1_21.length c1_21, .slice A1_22 l1_22.length c1_22, .int .i64 a1_23, .bool a1_24, .int .i64 a1_25, .int .i64 a1_26, .int .i64 a1_27, .slice A1_28 l1_28.length c1_28, .int .i64 a1_29, .string a1_30, .string a1_31], .agg #[.string a2_0, .string a2_1, .string a2_2, .int .i64 a2_3, .int .i64 a2_4, .int .i64 a2_5, .int .i64 a2_6, .bool a2_7, .int .i64 a2_8, .slice A2_9 l2_9.length c2_9, .slice A2_10 l2_10.length c2_10, .slice A2_11 l2_11.length c2_11, .slice A2_12 l2_12.length c2_12, .string a2_13, .int .i64 a2_14, .int .i64 a2_15, .int .i64 a2_16, .slice A2_17 l2_17.length c2_17, .slice A2_18 l2_18.length c2_18, .slice A2_19 l2_19.length c2_19, .slice A2_20 l2_20.length c2_20, .slice A2_21 l2_21.length c2_21, .slice A2_22 l2_22.length c2_22, .int .i64 a2_23, .bool a2_24, .int .i64 a2_25, .int .i64 a2_26, .int .i64 a2_27, .slice A2_28 l2_28.length c2_28, .int .i64 a2_29, .string a2_30, .string a2_31], .int .i64 a3] (by rfl) rfl rfl (by (try simp only [List.map_toArray, List.map_cons, List.map_nil]); first | done | rfl | (simp only [List.length_drop, List.length_take]; rfl)) ?_
       with_reducible refine (netpolicy_Allowed.calls k1 _ _ _ _ _ _ _ _ _ _ _ _ _ _ _ _ _ _ _ _ _ _ _ _ _ _ _ _ _ _ _ _ _ _ _ _ _ _ _ _ _ _ _ _ _ _ _ _ _ _ _ _ _ _ _ _ _ _ _ _ _ _ _ _ _ _ _ _ _ _ _ _ _ _ _ _ _ _ _ _ _ _ _ _ _ _ _ _ _ _ _ _ _ _ _ _ _ _ _ _ _ _ _ _ _ _ _ _ _ _ _ _ _ _ ?side1 ?side2 ?side3 ?side4 ?side5 ?side6 ?side7 ?side8 ?side9 ?side10 ?side11 ?side12 ?side13 ?side14 ?side15 ?side16 ?side17 ?side18 ?side19 ?side20 ?side21 ?side22 ?side23 ?side24 ?side25 ?side26 ?side27 ?side28 ?side29 ?side30 ?side31 ?side32 ?side33 ?side34 ?side35 ?side36 ?side37 ?side38 ?side39 ?side40 ?side41 ?side42 ?side43 ?side44 ?side45 ?side46 A33.out).mono ?_
       (case side1 => exact s_C (Kd.V_reads' HO_0.out).2.2)
       (case side2 => exact (Kd.V_reads' HO_0.out).2.1)
       (case side3 => exact s_D HR1_9.out HB.out)
       (case side4 => exact HC1_9.out)
       (case side5 => exact s_D HR1_10.out HB.out)
       (case side6 => exact HC1_10.out)
       (case side7 => exact s_D HR1_11.out HB.out)
       (case side8 => exact HC1_11.out)
       (case side9 => exact s_D HR1_12.out HB.out)
       (case side10 => exact HC1_12.out)
       (case side11 => exact s_D HR1_17.out HB.out)
       (case side12 => exact HC1_17.out)
       (case side13 => exact s_D HR1_18.out HB.out)
       (case side14 => exact HC1_18.out)
       (case side15 => exact s_D HR1_19.out HB.out)
       (case side16 => exact HC1_19.out)
       (case side17 => exact s_D HR1_20.out HB.out)
       (case side18 => exact HC1_20.out)
       (case side19 => exact s_D HR1_21.out HB.out)
       (case side20 => exact HC1_21.out)
       (case side21 => exact s_D HR1_22.out HB.out)
       (case side22 => exact HC1_22.out)
       (case side23 => exact s_D HR1_28.out HB.out)
       (case side24 => exact HC1_28.out)
       (case side25 => exact s_D HR2_9.out HB.out)
       (case side26 => exact HC2_9.out)
       (case side27 => exact s_D HR2_10.out HB.out)
       (case side28 => exact HC2_10.out)
       (case side29 => exact s_D HR2_11.out HB.out)
       (case side30 => exact HC2_11.out)
       (case side31 => exact s_D HR2_12.out HB.out)
       (case side32 => exact HC2_12.out)
       (case side33 => exact s_D HR2_17.out HB.out)
       (case side34 => exact HC2_17.out)
       (case side35 => exact s_D HR2_18.out HB.out)
       (case side36 => exact HC2_18.out)
       (case side37 => exact s_D HR2_19.out HB.out)
       (case side38 => exact HC2_19.out)
       (case side39 => exact s_D HR2_20.out HB.out)
       (case side40 => exact HC2_20.out)
       (case side41 => exact s_D HR2_21.out HB.out)
       (case side42 => exact HC2_21.out)
       (case side43 => exact s_D HR2_22.out HB.out)
       (case side44 => exact HC2_22.out)
       (case side45 => exact s_D HR2_28.out HB.out)
       (case side46 => exact HC2_28.out)
       rintro e w43 ⟨rfl, hb⟩
       refine ⟨_, rfl, ?_⟩
       replace HO_0 := s_a (Kd.V_below (by exact s_V (HO_0.out)) hb)
       replace HO_9 := s_a (Kd.N_below (by exact s_N (HO_9.out)) hb)
       replace BK546 := s_a (blk_below (s_k BK546.out) hb)
       replace BK547 := s_a (blk_below (s_k BK547.out) hb)
       replace HB := s_a (below_step (by exact s_b HB.out) hb)
       (try clear hb)
       obtain ⟨Ao44, co44, eo44⟩ := Kd.N_slice HO_9.out
       (first | subst eo44 | (injection eo44 with f1_ f2_ f3_; have f4_ := f1_.symm; have f5_ := f3_.symm; clear f1_ f2_ f3_; subst f4_; subst f5_))
       refine hK.out _ _ ⟨s_x BK546.out 0, s_x BK546.out 1, s_x BK546.out 2, s_x BK546.out 3, s_x BK546.out 4, s_x BK546.out 5, s_x BK546.out 6, s_x BK546.out 7, s_x BK546.out 8, s_x BK546.out 9, s_x BK546.out 10, s_x BK546.out 11, s_x BK546.out 12, s_x BK546.out 13, s_x BK546.out 14, s_x BK546.out 15, s_x BK546.out 16, s_x BK546.out 17, s_x BK546.out 18, s_x BK546.out 19, s_x BK546.out 20, s_x BK546.out 21, s_x BK546.out 22, s_x BK546.out 23, s_x BK546.out 24, s_x BK546.out 25, s_x BK546.out 26, s_x BK546.out 27, s_x BK546.out 28, s_x BK546.out 29, s_x BK546.out 30, s_x BK546.out 31, s_x BK547.out 0, s_x BK547.out 1, s_x BK547.out 2, s_x BK547.out 3, s_x BK547.out 4, s_x BK547.out 5, s_x BK547.out 6, s_x BK547.out 7, s_x BK547.out 8, s_x BK547.out 9, s_x BK547.out 10, s_x BK547.out 11, s_x BK547.out 12, s_x BK547.out 13, s_x BK547.out 14, s_x BK547.out 15, s_x BK547.out 16, s_x BK547.out 17, s_x BK547.out 18, s_x BK547.out 19, s_x BK547.out 20, s_x BK547.out 21, s_x BK547.out 22, s_x BK547.out 23, s_x BK547.out 24, s_x BK547.out 25, s_x BK547.out 26, s_x BK547.out 27, s_x BK547.out 28, s_x BK547.out 29, s_x BK547.out 30, s_x BK547.out 31⟩ (fun hHeld => ?_)
       clear hK K
       refine norm_ (a' := ?_) ?_ ?_
       rotate_left
       ·show Act.put _ (some 61) _ = _
        simp only [Act.put, List.setIfInBounds_toArray, List.set_cons_zero, List.set_cons_succ, i64_w, i32_w]
        rfl
       refine one_ (i := 9) (N := some 66) (bz 20 1023) rfl rfl (one_of HT_.out (by kernel_rfl)) (by decide) (fun K hK => ?_)
       refine goes_ Try.func11 (by kernel_rfl) rfl #[.slice Ao44 x9_1.length co44, .agg #[.string a1_0, .string a1_1, .string a1_2, .int .i64 a1_3, .int .i64 a1_4, .int .i64 a1_5, .int .i64 a1_6, .bool a1_7, .int .i64 a1_8, .slice A1_9 l1_9.length c1_9, .slice A1_10 l1_10.length c1_10, .slice A1_11 l1_11.length c1_11, .slice A1_12 l1_12.length c1_12, .string a1_13, .int .i64 a1_14, .int .i64 a1_15, .int .i64 a1_16, .slice A1_17 l1_17.length c1_17, .slice A1_18 l1_18.length c1_18, .slice A1_19 l1_19.length c1_19, .slice A1_20 l1_20.length c1_20, .slice A1_21 l1_21.length c1_21, .slice A1_22 l1_22.length c1_22, .int .i64 a1_23, .bool a1_24, .int .i64 a1_25, .int .i64 a1_26, .int .i64 a1_27, .slice A1_28 l1_28.length c1_28, .int .i64 a1_29, .string a1_30, .string a1_31], .agg #[.string a2_0, .string a2_1, .string a2_2, .int .i64 a2_3, .int .i64 a2_4, .int .i64 a2_5, .int .i64 a2_6, .bool a2_7, .int .i64 a2_8, .slice A2_9 l2_9.length c2_9, .slice A2_10 l2_10.length c2_10, .slice A2_11 l2_11.length c2_11, .slice A2_12 l2_12.length c2_12, .string a2_13, .int .i64 a2_14, .int .i64 a2_15, .int .i64 a2_16, .slice A2_17 l2_17.length c2_17, .slice A2_18 l2_18.length c2_18, .slice A2_19 l2_19.length c2_19, .slice A2_20 l2_20.length c2_20, .slice A2_21 l2_21.length c2_21, .slice A2_22 l2_22.length c2_22, .int .i64 a2_23, .bool a2_24, .int .i64 a2_25, .int .i64 a2_26, .int .i64 a2_27, .slice A2_28 l2_28.length c2_28, .int .i64 a2_29, .string a2_30, .string a2_31], .int .i64 a3] (by rfl) rfl rfl (by (try simp only [List.map_toArray, List.map_cons, List.map_nil]); first | done | rfl | (simp only [List.length_drop, List.length_take]; rfl)) ?_
       with_reducible refine (netpolicy_Allowed.calls k1 _ _ _ _ _ _ _ _ _ _ _ _ _ _ _ _ _ _ _ _ _ _ _ _ _ _ _ _ _ _ _ _ _ _ _ _ _ _ _ _ _ _ _ _ _ _ _ _ _ _ _ _ _ _ _ _ _ _ _ _ _ _ _ _ _ _ _ _ _ _ _ _ _ _ _ _ _ _ _ _ _ _ _ _ _ _ _ _ _ _ _ _ _ _ _ _ _ _ _ _ _ _ _ _ _ _ _ _ _ _ _ _ _ _ ?side1 ?side2 ?side3 ?side4 ?side5 ?side6 ?side7 ?side8 ?side9 ?side10 ?side11 ?side12 ?side13 ?side14 ?side15 ?side16 ?side17 ?side18 ?side19 ?side20 ?side21 ?side22 ?side23 ?side24 ?side25 ?side26 ?side27 ?side28 ?side29 ?side30 ?side31 ?side32 ?side33 ?side34 ?side35 ?side36 ?side37 ?side38 ?side39 ?side40 ?side41 ?side42 ?side43 ?side44 ?side45 ?side46 A34.out).mono ?_
       (case side1 => exact s_C (Kd.N_reads' HO_9.out).2.2)
       (case side2 => exact (Kd.N_reads' HO_9.out).2.1)
       (case side3 => exact s_D HR1_9.out HB.out)
       (case side4 => exact HC1_9.out)
       (case side5 => exact s_D HR1_10.out HB.out)
       (case side6 => exact HC1_10.out)
       (case side7 => exact s_D HR1_11.out HB.out)
       (case side8 => exact HC1_11.out)
       (case side9 => exact s_D HR1_12.out HB.out)
       (case side10 => exact HC1_12.out)
       (case side11 => exact s_D HR1_17.out HB.out)
       (case side12 => exact HC1_17.out)
       (case side13 => exact s_D HR1_18.out HB.out)
       (case side14 => exact HC1_18.out)
       (case side15 => exact s_D HR1_19.out HB.out)
       (case side16 => exact HC1_19.out)
       (case side17 => exact s_D HR1_20.out HB.out)
       (case side18 => exact HC1_20.out)
       (case side19 => exact s_D HR1_21.out HB.out)
       (case side20 => exact HC1_21.out)
       (case side21 => exact s_D HR1_22.out HB.out)
       (case side22 => exact HC1_22.out)
       (case side23 => exact s_D HR1_28.out HB.out)
       (case side24 => exact HC1_28.out)
       (case side25 => exact s_D HR2_9.out HB.out)
       (case side26 => exact HC2_9.out)
       (case side27 => exact s_D HR2_10.out HB.out)
       (case side28 => exact HC2_10.out)
       (case side29 => exact s_D HR2_11.out HB.out)
       (case side30 => exact HC2_11.out)
       (case side31 => exact s_D HR2_12.out HB.out)
       (case side32 => exact HC2_12.out)
       (case side33 => exact s_D HR2_17.out HB.out)
       (case side34 => exact HC2_17.out)
       (case side35 => exact s_D HR2_18.out HB.out)
       (case side36 => exact HC2_18.out)
       (case side37 => exact s_D HR2_19.out HB.out)
       (case side38 => exact HC2_19.out)
       (case side39 => exact s_D HR2_20.out HB.out)
       (case side40 => exact HC2_20.out)
       (case side41 => exact s_D HR2_21.out HB.out)
       (case side42 => exact HC2_21.out)
       (case side43 => exact s_D HR2_22.out HB.out)
       (case side44 => exact HC2_22.out)
       (case side45 => exact s_D HR2_28.out HB.out)
       (case side46 => exact HC2_28.out)
       rintro e w45 ⟨rfl, hb⟩
       refine ⟨_, rfl, ?_⟩
       replace HO_0 := s_a (Kd.V_below (by exact s_V (HO_0.out)) hb)
       replace HO_9 := s_a (Kd.N_below (by exact s_N (HO_9.out)) hb)
       replace BK546 := s_a (blk_below (s_k BK546.out) hb)
       replace BK547 := s_a (blk_below (s_k BK547.out) hb)
       replace HB := s_a (below_step (by exact s_b HB.out) hb)
       (try clear hb)
       refine hK.out _ _ ⟨s_x BK546.out 0, s_x BK546.out 1, s_x BK546.out 2, s_x BK546.out 3, s_x BK546.out 4, s_x BK546.out 5, s_x BK546.out 6, s_x BK546.out 7, s_x BK546.out 8, s_x BK546.out 9, s_x BK546.out 10, s_x BK546.out 11, s_x BK546.out 12, s_x BK546.out 13, s_x BK546.out 14, s_x BK546.out 15, s_x BK546.out 16, s_x BK546.out 17, s_x BK546.out 18, s_x BK546.out 19, s_x BK546.out 20, s_x BK546.out 21, s_x BK546.out 22, s_x BK546.out 23, s_x BK546.out 24, s_x BK546.out 25, s_x BK546.out 26, s_x BK546.out 27, s_x BK546.out 28, s_x BK546.out 29, s_x BK546.out 30, s_x BK546.out 31, s_x BK547.out 0, s_x BK547.out 1, s_x BK547.out 2, s_x BK547.out 3, s_x BK547.out 4, s_x BK547.out 5, s_x BK547.out 6, s_x BK547.out 7, s_x BK547.out 8, s_x BK547.out 9, s_x BK547.out 10, s_x BK547.out 11, s_x BK547.out 12, s_x BK547.out 13, s_x BK547.out 14, s_x BK547.out 15, s_x BK547.out 16, s_x BK547.out 17, s_x BK547.out 18, s_x BK547.out 19, s_x BK547.out 20, s_x BK547.out 21, s_x BK547.out 22, s_x BK547.out 23, s_x BK547.out 24, s_x BK547.out 25, s_x BK547.out 26, s_x BK547.out 27, s_x BK547.out 28, s_x BK547.out 29, s_x BK547.out 30, s_x BK547.out 31⟩ (fun hHeld => ?_)
       clear hK K
       refine norm_ (a' := ?_) ?_ ?_
       rotate_left
       ·show Act.put _ (some 66) _ = _
        simp only [Act.put, List.setIfInBounds_toArray, List.set_cons_zero, List.set_cons_succ, i64_w, i32_w]
        rfl
       refine q_p 10 (some 67) (bz 20 2047) (any_of HT_.out (by kernel_rfl)) (v := ?_) ?_ (a' := ?_) ?_ ?_; rotate_left 2
       ·intro w'; go_simp; with_reducible rfl
       ·simp only [Act.put, List.setIfInBounds_toArray, List.set_cons_zero, List.set_cons_succ, i64_w, i32_w]; rfl
       refine q_p 11 (some 68) (bz 20 4095) (any_of HT_.out (by kernel_rfl)) (v := ?_) ?_ (a' := ?_) ?_ ?_; rotate_left 2
       ·intro w'; go_simp; with_reducible rfl
       ·simp only [Act.put, List.setIfInBounds_toArray, List.set_cons_zero, List.set_cons_succ, i64_w, i32_w]; rfl
       refine q_p 12 (some 69) (bz 20 8191) (any_of HT_.out (by kernel_rfl)) (v := ?_) ?_ (a' := ?_) ?_ ?_; rotate_left 2
       ·intro w'; go_simp; with_reducible rfl
       ·simp only [Act.put, List.setIfInBounds_toArray, List.set_cons_zero, List.set_cons_succ, i64_w, i32_w]; rfl
       refine q_p 15 (some 72) (bz 20 40959) (any_of HT_.out (by kernel_rfl)) (v := ?_) ?_ (a' := ?_) ?_ ?_; rotate_left 2
       ·intro w'; go_simp; with_reducible rfl
       ·simp only [Act.put, List.setIfInBounds_toArray, List.set_cons_zero, List.set_cons_succ, i64_w, i32_w]; rfl
       refine q_t 13 (some 70) (bz 20 49151) (take_ofW HT_.out HW_.out (by kernel_rfl)) hHeld (v := ?_) ?_ (a' := ?_) ?_ ?_; rotate_left 2
       ·rintro w' ⟨s0, s1, s2, s3, s4, s5, s6, s7, s8, s9, s10, s11, s12, s13, s14, s15, s16, s17, s18, s19, s20, s21, s22, s23, s24, s25, s26, s27, s28, s29, s30, s31, s32, s33, s34, s35, s36, s37, s38, s39, s40, s41, s42, s43, s44, s45, s46, s47, s48, s49, s50, s51, s52, s53, s54, s55, s56, s57, s58, s59, s60, s61, s62, s63⟩; (refine (s_ld rfl 41 (.tmp 5) ?_ _ ?_ _ _ (cells_at s0 (s_cc s1 (s_cc s2 (s_cc s3 (s_cc s4 (s_cc s5 (s_cc s6 (s_cc s7 (s_cc s8 (s_cc s9 (s_cc s10 (s_cc s11 (s_cc s12 (s_cc s13 (s_cc s14 (s_cc s15 (s_cc s16 (s_cc s17 (s_cc s18 (s_cc s19 (s_cc s20 (s_cc s21 (s_cc s22 (s_cc s23 (s_cc s24 (s_cc s25 (s_cc s26 (s_cc s27 (s_cc s28 (s_cc s29 (s_cc s30 (s_cc s31 s_cn)))))))))))))))))))))))))))))))) Try.underlying41 (by rfl) sz41).trans ?_ <;> first | (with_reducible rfl) | rfl)
       ·simp only [Act.put, List.setIfInBounds_toArray, List.set_cons_zero, List.set_cons_succ, i64_w, i32_w]; rfl
       refine q_t 16 (some 73) (bz 20 114687) (take_ofW HT_.out HW_.out (by kernel_rfl)) hHeld (v := ?_) ?_ (a' := ?_) ?_ ?_; rotate_left 2
       ·rintro w' ⟨s0, s1, s2, s3, s4, s5, s6, s7, s8, s9, s10, s11, s12, s13, s14, s15, s16, s17, s18, s19, s20, s21, s22, s23, s24, s25, s26, s27, s28, s29, s30, s31, s32, s33, s34, s35, s36, s37, s38, s39, s40, s41, s42, s43, s44, s45, s46, s47, s48, s49, s50, s51, s52, s53, s54, s55, s56, s57, s58, s59, s60, s61, s62, s63⟩; (refine (s_ld rfl 41 (.tmp 5) ?_ _ ?_ _ _ (cells_at s0 (s_cc s1 (s_cc s2 (s_cc s3 (s_cc s4 (s_cc s5 (s_cc s6 (s_cc s7 (s_cc s8 (s_cc s9 (s_cc s10 (s_cc s11 (s_cc s12 (s_cc s13 (s_cc s14 (s_cc s15 (s_cc s16 (s_cc s17 (s_cc s18 (s_cc s19 (s_cc s20 (s_cc s21 (s_cc s22 (s_cc s23 (s_cc s24 (s_cc s25 (s_cc s26 (s_cc s27 (s_cc s28 (s_cc s29 (s_cc s30 (s_cc s31 s_cn)))))))))))))))))))))))))))))))) Try.underlying41 (by rfl) sz41).trans ?_ <;> first | (with_reducible rfl) | rfl)
       ·simp only [Act.put, List.setIfInBounds_toArray, List.set_cons_zero, List.set_cons_succ, i64_w, i32_w]; rfl
       refine one_ (i := 14) (N := some 71) (bz 20 131071) rfl rfl (one_of HT_.out (by kernel_rfl)) (by decide) (fun K hK => ?_)
       refine goes_ Try.func9 (by kernel_rfl) rfl #[.slice A0 l0.length c0, .agg #[.string a1_0, .string a1_1, .string a1_2, .int .i64 a1_3, .int .i64 a1_4, .int .i64 a1_5, .int .i64 a1_6, .bool a1_7, .int .i64 a1_8, .slice A1_9 l1_9.length c1_9, .slice A1_10 l1_10.length c1_10, .slice A1_11 l1_11.length c1_11, .slice A1_12 l1_12.length c1_12, .string a1_13, .int .i64 a1_14, .int .i64 a1_15, .int .i64 a1_16, .slice A1_17 l1_17.length c1_17, .slice A1_18 l1_18.length c1_18, .slice A1_19 l1_19.length c1_19, .slice A1_20 l1_20.length c1_20, .slice A1_21 l1_21.length c1_21, .slice A1_22 l1_22.length c1_22, .int .i64 a1_23, .bool a1_24, .int .i64 a1_25, .int .i64 a1_26, .int .i64 a1_27, .slice A1_28 l1_28.length c1_28, .int .i64 a1_29, .string a1_30, .string a1_31], .bool true] (by rfl) rfl rfl (by (try simp only [List.map_toArray, List.map_cons, List.map_nil]); first | done | rfl | (simp only [List.length_drop, List.length_take]; rfl)) ?_
       with_reducible refine (netpolicy_Isolated.calls k1 _ _ _ _ _ _ _ _ _ _ _ _ _ _ _ _ _ _ _ _ _ _ _ _ _ _ _ _ _ _ _ _ _ _ _ _ _ _ _ _ _ _ _ _ _ _ _ _ _ _ _ _ _ _ _ _ _ _ _ _ ?side1 ?side2 ?side3 ?side4 ?side5 ?side6 ?side7 ?side8 ?side9 ?side10 ?side11 ?side12 ?side13 ?side14 ?side15 ?side16 ?side17 ?side18 ?side19 ?side20 ?side21 ?side22 ?side23 ?side24 A40.out).mono ?_
       (case side1 => exact s_C (Kd.V_reads' HO_0.out).2.2)
       (case side2 => exact (Kd.V_reads' HO_0.out).2.1)
       (case side3 => exact s_D HR1_9.out HB.out)
       (case side4 => exact HC1_9.out)
       (case side5 => exact s_D HR1_10.out HB.out)
       (case side6 => exact HC1_10.out)
       (case side7 => exact s_D HR1_11.out HB.out)
       (case side8 => exact HC1_11.out)
       (case side9 => exact s_D HR1_12.out HB.out)
       (case side10 => exact HC1_12.out)
       (case side11 => exact s_D HR1_17.out HB.out)
       (case side12 => exact HC1_17.out)
       (case side13 => exact s_D HR1_18.out HB.out)
       (case side14 => exact HC1_18.out)
       (case side15 => exact s_D HR1_19.out HB.out)
       (case side16 => exact HC1_19.out)
       (case side17 => exact s_D HR1_20.out HB.out)
       (case side18 => exact HC1_20.out)
       (case side19 => exact s_D HR1_21.out HB.out)
       (case side20 => exact HC1_21.out)
       (case side21 => exact s_D HR1_22.out HB.out)
       (case side22 => exact HC1_22.out)
       (case side23 => exact s_D HR1_28.out HB.out)
       (case side24 => exact HC1_28.out)
       rintro e w46 ⟨rfl, hb⟩
       refine ⟨_, rfl, ?_⟩
       replace HO_0 := s_a (Kd.V_below (by exact s_V (HO_0.out)) hb)
       replace HO_9 := s_a (Kd.N_below (by exact s_N (HO_9.out)) hb)
       replace BK546 := s_a (blk_below (s_k BK546.out) hb)
       replace BK547 := s_a (blk_below (s_k BK547.out) hb)
       replace HB := s_a (below_step (by exact s_b HB.out) hb)
       (try clear hb)
       refine hK.out _ _ ⟨s_x BK546.out 0, s_x BK546.out 1, s_x BK546.out 2, s_x BK546.out 3, s_x BK546.out 4, s_x BK546.out 5, s_x BK546.out 6, s_x BK546.out 7, s_x BK546.out 8, s_x BK546.out 9, s_x BK546.out 10, s_x BK546.out 11, s_x BK546.out 12, s_x BK546.out 13, s_x BK546.out 14, s_x BK546.out 15, s_x BK546.out 16, s_x BK546.out 17, s_x BK546.out 18, s_x BK546.out 19, s_x BK546.out 20, s_x BK546.out 21, s_x BK546.out 22, s_x BK546.out 23, s_x BK546.out 24, s_x BK546.out 25, s_x BK546.out 26, s_x BK546.out 27, s_x BK546.out 28, s_x BK546.out 29, s_x BK546.out 30, s_x BK546.out 31, s_x BK547.out 0, s_x BK547.out 1, s_x BK547.out 2, s_x BK547.out 3, s_x BK547.out 4, s_x BK547.out 5, s_x BK547.out 6, s_x BK547.out 7, s_x BK547.out 8, s_x BK547.out 9, s_x BK547.out 10, s_x BK547.out 11, s_x BK547.out 12, s_x BK547.out 13, s_x BK547.out 14, s_x BK547.out 15, s_x BK547.out 16, s_x BK547.out 17, s_x BK547.out 18, s_x BK547.out 19, s_x BK547.out 20, s_x BK547.out 21, s_x BK547.out 22, s_x BK547.out 23, s_x BK547.out 24, s_x BK547.out 25, s_x BK547.out 26, s_x BK547.out 27, s_x BK547.out 28, s_x BK547.out 29, s_x BK547.out 30, s_x BK547.out 31⟩ (fun hHeld => ?_)
       clear hK K
       refine norm_ (a' := ?_) ?_ ?_
       rotate_left
       ·show Act.put _ (some 71) _ = _
        simp only [Act.put, List.setIfInBounds_toArray, List.set_cons_zero, List.set_cons_succ, i64_w, i32_w]
        rfl
       refine one_ (i := 17) (N := some 74) (bz 20 262143) rfl rfl (one_of HT_.out (by kernel_rfl)) (by decide) (fun K hK => ?_)
       refine goes_ Try.func9 (by kernel_rfl) rfl #[.slice Ao44 x9_1.length co44, .agg #[.string a1_0, .string a1_1, .string a1_2, .int .i64 a1_3, .int .i64 a1_4, .int .i64 a1_5, .int .i64 a1_6, .bool a1_7, .int .i64 a1_8, .slice A1_9 l1_9.length c1_9, .slice A1_10 l1_10.length c1_10, .slice A1_11 l1_11.length c1_11, .slice A1_12 l1_12.length c1_12, .string a1_13, .int .i64 a1_14, .int .i64 a1_15, .int .i64 a1_16, .slice A1_17 l1_17.length c1_17, .slice A1_18 l1_18.length c1_18, .slice A1_19 l1_19.length c1_19, .slice A1_20 l1_20.length c1_20, .slice A1_21 l1_21.length c1_21, .slice A1_22 l1_22.length c1_22, .int .i64 a1_23, .bool a1_24, .int .i64 a1_25, .int .i64 a1_26, .int .i64 a1_27, .slice A1_28 l1_28.length c1_28, .int .i64 a1_29, .string a1_30, .string a1_31], .bool true] (by rfl) rfl rfl (by (try simp only [List.map_toArray, List.map_cons, List.map_nil]); first | done | rfl | (simp only [List.length_drop, List.length_take]; rfl)) ?_
       with_reducible refine (netpolicy_Isolated.calls k1 _ _ _ _ _ _ _ _ _ _ _ _ _ _ _ _ _ _ _ _ _ _ _ _ _ _ _ _ _ _ _ _ _ _ _ _ _ _ _ _ _ _ _ _ _ _ _ _ _ _ _ _ _ _ _ _ _ _ _ _ ?side1 ?side2 ?side3 ?side4 ?side5 ?side6 ?side7 ?side8 ?side9 ?side10 ?side11 ?side12 ?side13 ?side14 ?side15 ?side16 ?side17 ?side18 ?side19 ?side20 ?side21 ?side22 ?side23 ?side24 A41.out).mono ?_
       (case side1 => exact s_C (Kd.N_reads' HO_9.out).2.2)
       (case side2 => exact (Kd.N_reads' HO_9.out).2.1)
       (case side3 => exact s_D HR1_9.out HB.out)
       (case side4 => exact HC1_9.out)
       (case side5 => exact s_D HR1_10.out HB.out)
       (case side6 => exact HC1_10.out)
       (case side7 => exact s_D HR1_11.out HB.out)
       (case side8 => exact HC1_11.out)
       (case side9 => exact s_D HR1_12.out HB.out)
       (case side10 => exact HC1_12.out)
       (case side11 => exact s_D HR1_17.out HB.out)
       (case side12 => exact HC1_17.out)
       (case side13 => exact s_D HR1_18.out HB.out)
       (case side14 => exact HC1_18.out)
       (case side15 => exact s_D HR1_19.out HB.out)
       (case side16 => exact HC1_19.out)
       (case side17 => exact s_D HR1_20.out HB.out)
       (case side18 => exact HC1_20.out)
       (case side19 => exact s_D HR1_21.out HB.out)
       (case side20 => exact HC1_21.out)
       (case side21 => exact s_D HR1_22.out HB.out)
       (case side22 => exact HC1_22.out)
       (case side23 => exact s_D HR1_28.out HB.out)
       (case side24 => exact HC1_28.out)
       rintro e w47 ⟨rfl, hb⟩
       refine ⟨_, rfl, ?_⟩
       replace HO_0 := s_a (Kd.V_below (by exact s_V (HO_0.out)) hb)
       replace HO_9 := s_a (Kd.N_below (by exact s_N (HO_9.out)) hb)
       replace BK546 := s_a (blk_below (s_k BK546.out) hb)
       replace BK547 := s_a (blk_below (s_k BK547.out) hb)
       replace HB := s_a (below_step (by exact s_b HB.out) hb)
       (try clear hb)
       refine hK.out _ _ ⟨s_x BK546.out 0, s_x BK546.out 1, s_x BK546.out 2, s_x BK546.out 3, s_x BK546.out 4, s_x BK546.out 5, s_x BK546.out 6, s_x BK546.out 7, s_x BK546.out 8, s_x BK546.out 9, s_x BK546.out 10, s_x BK546.out 11, s_x BK546.out 12, s_x BK546.out 13, s_x BK546.out 14, s_x BK546.out 15, s_x BK546.out 16, s_x BK546.out 17, s_x BK546.out 18, s_x BK546.out 19, s_x BK546.out 20, s_x BK546.out 21, s_x BK546.out 22, s_x BK546.out 23, s_x BK546.out 24, s_x BK546.out 25, s_x BK546.out 26, s_x BK546.out 27, s_x BK546.out 28, s_x BK546.out 29, s_x BK546.out 30, s_x BK546.out 31, s_x BK547.out 0, s_x BK547.out 1, s_x BK547.out 2, s_x BK547.out 3, s_x BK547.out 4, s_x BK547.out 5, s_x BK547.out 6, s_x BK547.out 7, s_x BK547.out 8, s_x BK547.out 9, s_x BK547.out 10, s_x BK547.out 11, s_x BK547.out 12, s_x BK547.out 13, s_x BK547.out 14, s_x BK547.out 15, s_x BK547.out 16, s_x BK547.out 17, s_x BK547.out 18, s_x BK547.out 19, s_x BK547.out 20, s_x BK547.out 21, s_x BK547.out 22, s_x BK547.out 23, s_x BK547.out 24, s_x BK547.out 25, s_x BK547.out 26, s_x BK547.out 27, s_x BK547.out 28, s_x BK547.out 29, s_x BK547.out 30, s_x BK547.out 31⟩ (fun hHeld => ?_)
       clear hK K
       refine norm_ (a' := ?_) ?_ ?_
       rotate_left
       ·show Act.put _ (some 74) _ = _
        simp only [Act.put, List.setIfInBounds_toArray, List.set_cons_zero, List.set_cons_succ, i64_w, i32_w]
        rfl
       refine q_p 18 (some 75) (bz 20 524287) (any_of HT_.out (by kernel_rfl)) (v := ?_) ?_ (a' := ?_) ?_ ?_; rotate_left 2
       ·intro w'; go_simp; with_reducible rfl
       ·simp only [Act.put, List.setIfInBounds_toArray, List.set_cons_zero, List.set_cons_succ, i64_w, i32_w]; rfl
       refine q_p 19 (some 76) (bz 20 1048575) (any_of HT_.out (by kernel_rfl)) (v := ?_) ?_ (a' := ?_) ?_ ?_; rotate_left 2
       ·intro w'; go_simp; with_reducible rfl
       ·simp only [Act.put, List.setIfInBounds_toArray, List.set_cons_zero, List.set_cons_succ, i64_w, i32_w]; rfl
       refine done_ (done_of HT_.out (by kernel_rfl)) ?_
       try go_wp2
       go_meet
       case rel => exact ⟨_, ((t563 != t564)), (by first | rfl | (simp; done) | (simp [*]; done)), H', ⟨by have := HK1.out; first | omega | exact Nat.le_refl _⟩, ⟨by exact s_V (Kd.V_mono HO_0.out (fun _ hk => ⟨hk.1, ⟨hk.2.2.1, hk.2.2.2⟩⟩))⟩, ⟨by exact s_k BK546.out⟩, ⟨by exact s_k BK547.out⟩, ⟨by exact s_b HB.out⟩⟩
     case rest =>
      clear HC32
      try clear c1
      try clear c2
      try clear p2
      try clear c3
      try clear c9
      try clear c11
      try clear c35
      try clear c35b0
      try clear c35b1
      try clear c35b2
      obtain ⟨kq, x76_31, rfl, HA, HJ31, HO_0, BK546, BK547, HB⟩ := hcut
      cases kq with
      | zero => exact absurd HA.out (by simp [orchestratorlaw57_NetpolicyOrder.j2])
      | succ kj31 =>
       have H := HA.out
       clear HA
       simp only [orchestratorlaw57_NetpolicyOrder.j2] at H
       by_cases c48 : x76_31 = true
       ·subst c48
        (try rw [if_pos rfl] at H)
        exact absurd H (by simp)
       ·replace c48 := Bool.eq_false_iff.mpr c48
        subst c48
        (try rw [if_neg (show ¬ (false = true) by decide)] at H)
        replace H := Option.bind_eq_some_iff.mp H
        obtain ⟨t565, A490, H⟩ := H
        (try dsimp only at H)
        have A49 := s_a A490
        clear A490
        by_cases c50 : t565 = true
        ·subst c50
         (try rw [if_pos rfl] at H)
         replace H := Option.bind_eq_some_iff.mp H
         obtain ⟨t566, A510, H⟩ := H
         (try dsimp only at H)
         have A51 := s_a A510
         clear A510
         by_cases c52 : t566 = true
         ·subst c52
          (try rw [if_pos rfl] at H)
          replace H := Option.bind_eq_some_iff.mp H
          obtain ⟨t567, A530, H⟩ := H
          (try dsimp only at H)
          have A53 := s_a A530
          clear A530
          by_cases c54 : t567 = true
          ·subst c54
           (try rw [if_pos rfl] at H)
           replace H := Option.bind_eq_some_iff.mp H
           obtain ⟨t568, A550, H⟩ := H
           replace H : (if t568 = true then (some false) else (some true)) = some true := H
           have A55 := s_a A550
           clear A550
           by_cases c56 : t568 = true
           ·subst c56
            (try rw [if_pos rfl] at H)
            exact absurd H (by simp)
           ·replace c56 := Bool.eq_false_iff.mpr c56
            subst c56
            (try rw [if_neg (show ¬ (false = true) by decide)] at H)
            clear H
            go_wp2_with (first | ((with_reducible refine gate_callee (f := 8) rfl ?_); refine goesL_ (some 77) rfl rfl Try.func8 (by kernel_rfl) rfl #[] rfl (by (try simp only [List.map_toArray, List.map_cons, List.map_nil]); first | done | rfl | (simp only [List.length_drop, List.length_take]; rfl)) ?_; (with_reducible refine (orchestratorlaw57_lives.calls kj31   _ A49.out).mono ?_); rintro e w57 ⟨rfl, hb⟩; refine ⟨_, rfl, ?_⟩; replace HO_0 := s_a (Kd.V_below (by exact s_V (HO_0.out)) hb); replace BK546 := s_a (blk_below (s_k BK546.out) hb); replace BK547 := s_a (blk_below (s_k BK547.out) hb); replace HB := s_a (below_step (by exact s_b HB.out) hb); (try clear hb)) | ((with_reducible refine gate_dst (N := 79) rfl ?_); (try (refine gate_guard (by rfl) ?_; dsimp only)); refine wpList_load_row rfl 41 (.tmp 5) rfl gb546 rfl 41 _ (0, 0) _ (s_k BK546.out) Try.underlying41 rfl sz41 ?_) | ((with_reducible refine gate_dst (N := 80) rfl ?_); (try (refine gate_guard (by rfl) ?_; dsimp only)); refine wpList_load_row rfl 41 (.tmp 6) rfl gb547 rfl 41 _ (0, 0) _ (s_k BK547.out) Try.underlying41 rfl sz41 ?_) | (go_at_call 11; (refine (netpolicy_Allowed.calls kj31 _ _ _ _ _ _ _ _ _ _ _ _ _ _ _ _ _ _ _ _ _ _ _ _ _ _ _ _ _ _ _ _ _ _ _ _ _ _ _ _ _ _ _ _ _ _ _ _ _ _ _ _ _ _ _ _ _ _ _ _ _ _ _ _ _ _ _ _ _ _ _ _ _ _ _ _ _ _ _ _ _ _ _ _ _ _ _ _ _ _ _ _ _ _ _ _ _ _ _ _ _ _ _ _ _ _ _ _ _ _ _ _ _ _ ?side1 ?side2 ?side3 ?side4 ?side5 ?side6 ?side7 ?side8 ?side9 ?side10 ?side11 ?side12 ?side13 ?side14 ?side15 ?side16 ?side17 ?side18 ?side19 ?side20 ?side21 ?side22 ?side23 ?side24 ?side25 ?side26 ?side27 ?side28 ?side29 ?side30 ?side31 ?side32 ?side33 ?side34 ?side35 ?side36 ?side37 ?side38 ?side39 ?side40 ?side41 ?side42 ?side43 ?side44 ?side45 ?side46 A51.out).mono ?_); (case side1 => exact Kd.C_nil _ _); (case side2 => exact Nat.le_refl _); (case side3 => exact s_D HR1_9.out HB.out); (case side4 => exact HC1_9.out); (case side5 => exact s_D HR1_10.out HB.out); (case side6 => exact HC1_10.out); (case side7 => exact s_D HR1_11.out HB.out); (case side8 => exact HC1_11.out); (case side9 => exact s_D HR1_12.out HB.out); (case side10 => exact HC1_12.out); (case side11 => exact s_D HR1_17.out HB.out); (case side12 => exact HC1_17.out); (case side13 => exact s_D HR1_18.out HB.out); (case side14 => exact HC1_18.out); (case side15 => exact s_D HR1_19.out HB.out); (case side16 => exact HC1_19.out); (case side17 => exact s_D HR1_20.out HB.out); (case side18 => exact HC1_20.out); (case side19 => exact s_D HR1_21.out HB.out); (case side20 => exact HC1_21.out); (case side21 => exact s_D HR1_22.out HB.out); (case side22 => exact HC1_22.out); (case side23 => exact s_D HR1_28.out HB.out); (case side24 => exact HC1_28.out); (case side25 => exact s_D HR2_9.out HB.out); (case side26 => exact HC2_9.out); (case side27 => exact s_D HR2_10.out HB.out); (case side28 => exact HC2_10.out); (case side29 => exact s_D HR2_11.out HB.out); (case side30 => exact HC2_11.out); (case side31 => exact s_D HR2_12.out HB.out); (case side32 => exact HC2_12.out); (case side33 => exact s_D HR2_17.out HB.out); (case side34 => exact HC2_17.out); (case side35 => exact s_D HR2_18.out HB.out); (case side36 => exact HC2_18.out); (case side37 => exact s_D HR2_19.out HB.out); (case side38 => exact HC2_19.out); (case side39 => exact s_D HR2_20.out HB.out); (case side40 => exact HC2_20.out); (case side41 => exact s_D HR2_21.out HB.out); (case side42 => exact HC2_21.out); (case side43 => exact s_D HR2_22.out HB.out); (case side44 => exact HC2_22.out); (case side45 => exact s_D HR2_28.out HB.out); (case side46 => exact HC2_28.out); rintro e w58 ⟨rfl, hb⟩; (try clear A51); replace HO_0 := s_a (Kd.V_below (by exact s_V (HO_0.out)) hb); replace BK546 := s_a (blk_below (s_k BK546.out) hb); replace BK547 := s_a (blk_below (s_k BK547.out) hb); replace HB := s_a (below_step (by exact s_b HB.out) hb); (try clear hb)) | ((with_reducible refine gate_dst (N := 86) rfl ?_); (try (refine gate_guard (by rfl) ?_; dsimp only)); refine wpList_load_row rfl 41 (.tmp 5) rfl gb546 rfl 41 _ (0, 0) _ (s_k BK546.out) Try.underlying41 rfl sz41 ?_) | ((with_reducible refine gate_dst (N := 87) rfl ?_); (try (refine gate_guard (by rfl) ?_; dsimp only)); refine wpList_load_row rfl 41 (.tmp 5) rfl gb546 rfl 41 _ (0, 0) _ (s_k BK546.out) Try.underlying41 rfl sz41 ?_) | (go_at_call 11; (with_reducible refine (netpolicy_Allowed.calls kj31 _ _ _ _ _ _ _ _ _ _ _ _ _ _ _ _ _ _ _ _ _ _ _ _ _ _ _ _ _ _ _ _ _ _ _ _ _ _ _ _ _ _ _ _ _ _ _ _ _ _ _ _ _ _ _ _ _ _ _ _ _ _ _ _ _ _ _ _ _ _ _ _ _ _ _ _ _ _ _ _ _ _ _ _ _ _ _ _ _ _ _ _ _ _ _ _ _ _ _ _ _ _ _ _ _ _ _ _ _ _ _ _ _ _ ?side1 ?side2 ?side3 ?side4 ?side5 ?side6 ?side7 ?side8 ?side9 ?side10 ?side11 ?side12 ?side13 ?side14 ?side15 ?side16 ?side17 ?side18 ?side19 ?side20 ?side21 ?side22 ?side23 ?side24 ?side25 ?side26 ?side27 ?side28 ?side29 ?side30 ?side31 ?side32 ?side33 ?side34 ?side35 ?side36 ?side37 ?side38 ?side39 ?side40 ?side41 ?side42 ?side43 ?side44 ?side45 ?side46 A53.out).mono ?_); (case side1 => exact s_C (Kd.V_reads' HO_0.out).2.2); (case side2 => exact (Kd.V_reads' HO_0.out).2.1); (case side3 => exact s_D HR1_9.out HB.out); (case side4 => exact HC1_9.out); (case side5 => exact s_D HR1_10.out HB.out); (case side6 => exact HC1_10.out); (case side7 => exact s_D HR1_11.out HB.out); (case side8 => exact HC1_11.out); (case side9 => exact s_D HR1_12.out HB.out); (case side10 => exact HC1_12.out); (case side11 => exact s_D HR1_17.out HB.out); (case side12 => exact HC1_17.out); (case side13 => exact s_D HR1_18.out HB.out); (case side14 => exact HC1_18.out); (case side15 => exact s_D HR1_19.out HB.out); (case side16 => exact HC1_19.out); (case side17 => exact s_D HR1_20.out HB.out); (case side18 => exact HC1_20.out); (case side19 => exact s_D HR1_21.out HB.out); (case side20 => exact HC1_21.out); (case side21 => exact s_D HR1_22.out HB.out); (case side22 => exact HC1_22.out); (case side23 => exact s_D HR1_28.out HB.out); (case side24 => exact HC1_28.out); (case side25 => exact s_D HR1_9.out HB.out); (case side26 => exact HC1_9.out); (case side27 => exact s_D HR1_10.out HB.out); (case side28 => exact HC1_10.out); (case side29 => exact s_D HR1_11.out HB.out); (case side30 => exact HC1_11.out); (case side31 => exact s_D HR1_12.out HB.out); (case side32 => exact HC1_12.out); (case side33 => exact s_D HR1_17.out HB.out); (case side34 => exact HC1_17.out); (case side35 => exact s_D HR1_18.out HB.out); (case side36 => exact HC1_18.out); (case side37 => exact s_D HR1_19.out HB.out); (case side38 => exact HC1_19.out); (case side39 => exact s_D HR1_20.out HB.out); (case side40 => exact HC1_20.out); (case side41 => exact s_D HR1_21.out HB.out); (case side42 => exact HC1_21.out); (case side43 => exact s_D HR1_22.out HB.out); (case side44 => exact HC1_22.out); (case side45 => exact s_D HR1_28.out HB.out); (case side46 => exact HC1_28.out); rintro e w59 ⟨rfl, hb⟩; (try clear A53); replace HO_0 := s_a (Kd.V_below (by exact s_V (HO_0.out)) hb); replace BK546 := s_a (blk_below (s_k BK546.out) hb); replace BK547 := s_a (blk_below (s_k BK547.out) hb); replace HB := s_a (below_step (by exact s_b HB.out) hb); (try clear hb)) | ((with_reducible refine gate_dst (N := 92) rfl ?_); (try (refine gate_guard (by rfl) ?_; dsimp only)); refine wpList_load_row rfl 41 (.tmp 5) rfl gb546 rfl 41 _ (0, 0) _ (s_k BK546.out) Try.underlying41 rfl sz41 ?_) | (go_at_call 9; (refine (netpolicy_Isolated.calls kj31 _ _ _ _ _ _ _ _ _ _ _ _ _ _ _ _ _ _ _ _ _ _ _ _ _ _ _ _ _ _ _ _ _ _ _ _ _ _ _ _ _ _ _ _ _ _ _ _ _ _ _ _ _ _ _ _ _ _ _ _ ?side1 ?side2 ?side3 ?side4 ?side5 ?side6 ?side7 ?side8 ?side9 ?side10 ?side11 ?side12 ?side13 ?side14 ?side15 ?side16 ?side17 ?side18 ?side19 ?side20 ?side21 ?side22 ?side23 ?side24 A55.out).mono ?_); (case side1 => exact Kd.C_nil _ _); (case side2 => exact Nat.le_refl _); (case side3 => exact s_D HR1_9.out HB.out); (case side4 => exact HC1_9.out); (case side5 => exact s_D HR1_10.out HB.out); (case side6 => exact HC1_10.out); (case side7 => exact s_D HR1_11.out HB.out); (case side8 => exact HC1_11.out); (case side9 => exact s_D HR1_12.out HB.out); (case side10 => exact HC1_12.out); (case side11 => exact s_D HR1_17.out HB.out); (case side12 => exact HC1_17.out); (case side13 => exact s_D HR1_18.out HB.out); (case side14 => exact HC1_18.out); (case side15 => exact s_D HR1_19.out HB.out); (case side16 => exact HC1_19.out); (case side17 => exact s_D HR1_20.out HB.out); (case side18 => exact HC1_20.out); (case side19 => exact s_D HR1_21.out HB.out); (case side20 => exact HC1_21.out); (case side21 => exact s_D HR1_22.out HB.out); (case side22 => exact HC1_22.out); (case side23 => exact s_D HR1_28.out HB.out); (case side24 => exact HC1_28.out); rintro e w60 ⟨rfl, hb⟩; (try clear A55); replace HO_0 := s_a (Kd.V_below (by exact s_V (HO_0.out)) hb); replace BK546 := s_a (blk_below (s_k BK546.out) hb); replace BK547 := s_a (blk_below (s_k BK547.out) hb); replace HB := s_a (below_step (by exact s_b HB.out) hb); (try clear hb)))
            go_ret
            exact ⟨by first | rfl | (simp [errW_none, errW_some] <;> rfl) | (simp [*, errW_none, errW_some] <;> rfl), by exact s_b HB.out⟩
          ·replace c54 := Bool.eq_false_iff.mpr c54
           subst c54
           (try rw [if_neg (show ¬ (false = true) by decide)] at H)
           exact absurd H (by simp)
         ·replace c52 := Bool.eq_false_iff.mpr c52
          subst c52
          (try rw [if_neg (show ¬ (false = true) by decide)] at H)
          exact absurd H (by simp)
        ·replace c50 := Bool.eq_false_iff.mpr c50
         subst c50
         (try rw [if_neg (show ¬ (false = true) by decide)] at H)
         exact absurd H (by simp)
 ·replace c6 := Bool.eq_false_iff.mpr c6
  subst c6
  (try rw [if_neg (show ¬ (false = true) by decide)] at H)
  replace H := Option.bind_eq_some_iff.mp H
  obtain ⟨t549, A610, H⟩ := H
  replace H : (if t549 = true then (some true) else (some false)) = some true := H
  have A61 := s_a A610
  clear A610
  by_cases c62 : t549 = true
  ·subst c62
   (try rw [if_pos rfl] at H)
   clear H
   go_enter Try.func6, Try.ntmps6
   go_wp2_with (first | ((with_reducible refine gate_dst (N := 5) rfl ?_); refine box_event ?hg (N := 5) ?hd (cs := #[.string a1_0, .string a1_1, .string a1_2, .int .i64 a1_3, .int .i64 a1_4, .int .i64 a1_5, .int .i64 a1_6, .bool a1_7, .int .i64 a1_8, .slice A1_9 l1_9.length c1_9, .slice A1_10 l1_10.length c1_10, .slice A1_11 l1_11.length c1_11, .slice A1_12 l1_12.length c1_12, .string a1_13, .int .i64 a1_14, .int .i64 a1_15, .int .i64 a1_16, .slice A1_17 l1_17.length c1_17, .slice A1_18 l1_18.length c1_18, .slice A1_19 l1_19.length c1_19, .slice A1_20 l1_20.length c1_20, .slice A1_21 l1_21.length c1_21, .slice A1_22 l1_22.length c1_22, .int .i64 a1_23, .bool a1_24, .int .i64 a1_25, .int .i64 a1_26, .int .i64 a1_27, .slice A1_28 l1_28.length c1_28, .int .i64 a1_29, .string a1_30, .string a1_31]) (t := 41) ?hr ?_; (case hd => rfl); (case hg => rfl); (case hr => first | (go_simp; done) | (go_simp; rfl)); intro gb546 hg w63 hbox hb; have BK546 := s_a (hbox); have GW546 := s_a ((by rw [hg]; exact (below_size (by exact s_b HB.out)) : w.heap.size ≤ gb546)); have GE546 := s_a ((by rw [hg]; exact (below_size (by exact s_b HB.out)) : w.heap.size ≤ gb546)); replace HO0 := s_a (Kd.V_below (Kd.V_elderB (by exact s_V (HO0.out)) gb546 (Nat.le_of_eq hg.symm)) hb); replace HB := s_a (below_step (by exact s_b HB.out) hb); clear hb hbox hg) | ((with_reducible refine gate_dst (N := 6) rfl ?_); refine box_event ?hg (N := 6) ?hd (cs := #[.string a2_0, .string a2_1, .string a2_2, .int .i64 a2_3, .int .i64 a2_4, .int .i64 a2_5, .int .i64 a2_6, .bool a2_7, .int .i64 a2_8, .slice A2_9 l2_9.length c2_9, .slice A2_10 l2_10.length c2_10, .slice A2_11 l2_11.length c2_11, .slice A2_12 l2_12.length c2_12, .string a2_13, .int .i64 a2_14, .int .i64 a2_15, .int .i64 a2_16, .slice A2_17 l2_17.length c2_17, .slice A2_18 l2_18.length c2_18, .slice A2_19 l2_19.length c2_19, .slice A2_20 l2_20.length c2_20, .slice A2_21 l2_21.length c2_21, .slice A2_22 l2_22.length c2_22, .int .i64 a2_23, .bool a2_24, .int .i64 a2_25, .int .i64 a2_26, .int .i64 a2_27, .slice A2_28 l2_28.length c2_28, .int .i64 a2_29, .string a2_30, .string a2_31]) (t := 41) ?hr ?_; (case hd => rfl); (case hg => rfl); (case hr => first | (go_simp; done) | (go_simp; rfl)); intro gb547 hg w64 hbox hb; have BK547 := s_a (hbox); have GW547 := s_a ((by rw [hg]; exact (below_size (by exact s_b HB.out)) : w.heap.size ≤ gb547)); have GE547 := s_a ((by rw [hg]; exact (below_size (by exact s_b HB.out)) : w.heap.size ≤ gb547)); have NB546_547 := s_a ((by rw [hg]; exact Nat.ne_of_lt (blk_lt (s_k BK546.out)) : gb546 ≠ gb547)); have NB547_546 := s_a ((by rw [hg]; exact Nat.ne_of_gt (blk_lt (s_k BK546.out)) : gb547 ≠ gb546)); replace HO0 := s_a (Kd.V_below (Kd.V_elderB (by exact s_V (HO0.out)) gb547 (Nat.le_of_eq hg.symm)) hb); replace BK546 := s_a (blk_below (s_k BK546.out) hb); replace HB := s_a (below_step (by exact s_b HB.out) hb); clear hb hbox hg) | ((with_reducible refine gate_callee (f := 7) rfl ?_); refine goesL_ (some 14) rfl rfl Try.func7 (by kernel_rfl) rfl #[.slice A0 l0.length c0] rfl (by (try simp only [List.map_toArray, List.map_cons, List.map_nil]); first | done | rfl | (simp only [List.length_drop, List.length_take]; rfl)) ?_; (with_reducible refine (orchestratorlaw57_small.calls k _ _ _ _ _ ?side1 ?side2 A5.out).mono ?_); (case side1 => exact s_C (Kd.V_reads' HO0.out).2.2); (case side2 => exact (Kd.V_reads' HO0.out).2.1); rintro e w' ⟨rfl, ⟨nd, rfl⟩⟩; refine ⟨_, rfl, ?_⟩) | ((with_reducible refine gate_callee (f := 8) rfl ?_); refine goesL_ (some 16) rfl rfl Try.func8 (by kernel_rfl) rfl #[] rfl (by (try simp only [List.map_toArray, List.map_cons, List.map_nil]); first | done | rfl | (simp only [List.length_drop, List.length_take]; rfl)) ?_; (with_reducible refine (orchestratorlaw57_lives.calls k   _ A61.out).mono ?_); rintro e w65 ⟨rfl, hb⟩; refine ⟨_, rfl, ?_⟩; replace HO0 := s_a (Kd.V_below (by exact s_V (HO0.out)) hb); replace BK546 := s_a (blk_below (s_k BK546.out) hb); replace BK547 := s_a (blk_below (s_k BK547.out) hb); replace HB := s_a (below_step (by exact s_b HB.out) hb); (try clear hb)))
   go_ret
   exact ⟨by first | rfl | (simp [errW_none, errW_some] <;> rfl) | (simp [*, errW_none, errW_some] <;> rfl), by exact s_b HB.out⟩
  ·replace c62 := Bool.eq_false_iff.mpr c62
   subst c62
   (try rw [if_neg (show ¬ (false = true) by decide)] at H)
   exact absurd H (by simp)
end Go.Proofs.Ytkdikhonafbgdaa.Q
