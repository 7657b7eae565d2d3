/- ScoreShares: the plain law. Conditions: stated at each. -/
import Derived.Test.YtilppppcafphbaaGreatL39s
namespace Go.Proofs.YtilppppcafphbaaGreat.Ev
open Go Go.RowKit
set_option linter.unusedVariables false
set_option linter.unusedSimpArgs false
set_option maxRecDepth 100000
noncomputable section
def M15 : Int := 1000000000000000
theorem clamp_form (a : Int) : resource_clamp.v a = iMin (iMax a 0) 1000000000000000 := rfl
theorem clamp_range (a : Int) : 0 ≤ resource_clamp.v a ∧ resource_clamp.v a ≤ 1000000000000000 := by
  rw [clamp_form]
  unfold iMin iMax
  split <;> (try split) <;> omega
theorem clamp_id {a : Int} (h : 0 ≤ a) (k : a ≤ 1000000000000000) : resource_clamp.v a = a := by
  rw [clamp_form]
  unfold iMin iMax
  split <;> (try split) <;> omega
theorem clamp_mono {a b : Int} (h : a ≤ b) : resource_clamp.v a ≤ resource_clamp.v b := by
  rw [clamp_form, clamp_form]
  unfold iMin iMax
  split <;> split <;> (try split) <;> (try split) <;> omega
theorem i64w {a : Int} (h : -9000000000000000000 ≤ a) (k : a ≤ 9000000000000000000) : IntKind.i64.wrap a = a := by rw [wrap_i64]; omega
theorem quo_pos {a c : Int} (ha : 0 ≤ a) (k : a ≤ 9000000000000000000) (hc : 0 < c) : iQuo .i64 a c = a / c := by
  unfold iQuo
  rw [Int.tdiv_eq_ediv_of_nonneg ha]
  have h1 := Int.ediv_nonneg ha (Int.le_of_lt hc)
  have h2 : a / c ≤ a := Int.ediv_le_self c ha
  exact i64w (by omega) (by omega)
theorem share_mono {f g c : Int} (hf : 0 ≤ f) (h : f ≤ g) (hg : g ≤ 1000000000000000) : score_share.v f c ≤ score_share.v g c := by
  show (bif iLe (iMin c 1000000000000000) 0 then 0 else iMin (iMax (iQuo .i64 (iMul .i64 100 f) (iMin c 1000000000000000)) 0) 100) ≤ (bif iLe (iMin c 1000000000000000) 0 then 0 else iMin (iMax (iQuo .i64 (iMul .i64 100 g) (iMin c 1000000000000000)) 0) 100)
  cases hc : iLe (iMin c 1000000000000000) 0 with
  | true => exact Int.le_refl _
  | false =>
    have hc' : 0 < iMin c 1000000000000000 := Int.not_le.1 (of_decide_eq_false hc)
    generalize iMin c 1000000000000000 = m at hc'
    have e : ∀ x : Int, 0 ≤ x → x ≤ 1000000000000000 → iQuo .i64 (iMul .i64 100 x) m = (100 * x) / m := fun x h0 h1 => by
      have : iMul .i64 100 x = 100 * x := by unfold iMul; exact i64w (by omega) (by omega)
      rw [this, quo_pos (by omega) (by omega) hc']
    rw [e f hf (by omega), e g (by omega) hg]
    have hd : (100 * f) / m ≤ (100 * g) / m := Int.ediv_le_ediv hc' (by omega)
    generalize (100 * f) / m = x at hd
    generalize (100 * g) / m = y at hd
    show iMin (iMax x 0) 100 ≤ iMin (iMax y 0) 100
    unfold iMin iMax
    split <;> split <;> (try split) <;> (try split) <;> omega
theorem half {a b : Int} (ha : 0 ≤ a ∧ a ≤ 100) (hb : 0 ≤ b ∧ b ≤ 100) : iQuo .i64 (iAdd .i64 a b) 2 = (a + b) / 2 := by
  rw [iAdd_in (by omega) (by omega), quo_pos (by omega) (by omega) (by decide)]
theorem spare_form (v p n : Row) : score_Spare.v v p n = iQuo .i64 (iAdd .i64 (score_shares.v (et 26 v) (et 45 p) (et 51 n)).1 (score_shares.v (et 26 v) (et 45 p) (et 51 n)).2) 2 := rfl
theorem spare_range (v p n : Row) : 0 ≤ score_Spare.v v p n ∧ score_Spare.v v p n ≤ 100 := by
  obtain ⟨h1, h2⟩ := shares_range (et 26 v) (et 45 p) (et 51 n)
  rw [spare_form, half h1 h2]
  omega
theorem balance_range (v p n : Row) : 0 ≤ score_Balance.v v p n ∧ score_Balance.v v p n ≤ 100 := by
  have e : score_Balance.v v p n = iSub .i64 100 (iMax (iSub .i64 (score_shares.v (et 26 v) (et 45 p) (et 51 n)).1 (score_shares.v (et 26 v) (et 45 p) (et 51 n)).2) (iSub .i64 (score_shares.v (et 26 v) (et 45 p) (et 51 n)).2 (score_shares.v (et 26 v) (et 45 p) (et 51 n)).1)) := rfl
  obtain ⟨⟨a1, a2⟩, b1, b2⟩ := shares_range (et 26 v) (et 45 p) (et 51 n)
  rw [e]
  generalize (score_shares.v (et 26 v) (et 45 p) (et 51 n)).1 = a at *
  generalize (score_shares.v (et 26 v) (et 45 p) (et 51 n)).2 = b at *
  rw [iSub_in' (a := a) (b := b) (by omega) (by omega), iSub_in' (a := b) (b := a) (by omega) (by omega)]
  have hm : 0 ≤ iMax (a - b) (b - a) ∧ iMax (a - b) (b - a) ≤ 100 := by unfold iMax; split <;> omega
  rw [iSub_in' (by omega) (by omega)]
  omega
/-- What containers ask for. -/
def reqs (es : Rows) : Row := es.foldl (fun x q => et 47 (resource_Add.v (et 47 x) (eo 47 q 2))) [.int .i64 0, .int .i64 0, .int .i64 0]
theorem req_form (r : Row) : resource_Requests.v r = et 47 (et 47 (reqs (rSl r 4))) := by
  have e1 : resource_Requests.v r = et 47 (walk resource_Requests.p3 resource_Requests.z3 (rSl r 4) 0 [.int .i64 0, .int .i64 0, .int .i64 0]) := rfl
  rw [e1, walk_fold (p := resource_Requests.p3) (z := resource_Requests.z3) (fun x q => et 47 (resource_Add.v (et 47 x) (eo 47 q 2))) (fun i q x _ => rfl)]
  rfl
theorem add_int (a b : Row) : rInt (et 47 (resource_Add.v (et 47 a) b)) 0 = resource_clamp.v (iAdd .i64 (resource_clamp.v (rInt a 0)) (resource_clamp.v (rInt b 0))) ∧ rInt (et 47 (resource_Add.v (et 47 a) b)) 1 = resource_clamp.v (iAdd .i64 (resource_clamp.v (rInt a 1)) (resource_clamp.v (rInt b 1))) := ⟨by kernel_rfl, by kernel_rfl⟩
theorem sub_int (a b : Row) : rInt (resource_Sub.v a b) 0 = resource_clamp.v (iSub .i64 (resource_clamp.v (rInt a 0)) (resource_clamp.v (rInt b 0))) ∧ rInt (resource_Sub.v a b) 1 = resource_clamp.v (iSub .i64 (resource_clamp.v (rInt a 1)) (resource_clamp.v (rInt b 1))) := ⟨by kernel_rfl, by kernel_rfl⟩
theorem et_int (a : Row) : rInt (et 47 (et 47 (et 47 a))) 0 = rInt a 0 ∧ rInt (et 47 (et 47 (et 47 a))) 1 = rInt a 1 := ⟨by kernel_rfl, by kernel_rfl⟩
theorem more_clamp (x y : Int) : resource_clamp.v x ≤ resource_clamp.v (resource_clamp.v (iAdd .i64 (resource_clamp.v x) (resource_clamp.v y))) := by
  obtain ⟨x0, x1⟩ := clamp_range x
  obtain ⟨y0, y1⟩ := clamp_range y
  generalize resource_clamp.v x = a at *
  generalize resource_clamp.v y = b at *
  have e : iAdd .i64 a b = a + b := by unfold iAdd; exact i64w (by omega) (by omega)
  rw [e]
  have h1 : a = resource_clamp.v (resource_clamp.v a) := by rw [clamp_id x0 x1, clamp_id x0 x1]
  conv => lhs; rw [h1]
  exact clamp_mono (clamp_mono (by omega))
theorem less_left {f a b : Int} (h : resource_clamp.v a ≤ resource_clamp.v b) : resource_clamp.v (iSub .i64 (resource_clamp.v f) (resource_clamp.v b)) ≤ resource_clamp.v (iSub .i64 (resource_clamp.v f) (resource_clamp.v a)) := by
  obtain ⟨x0, x1⟩ := clamp_range a
  obtain ⟨y0, y1⟩ := clamp_range b
  obtain ⟨z0, z1⟩ := clamp_range f
  refine clamp_mono ?_
  generalize resource_clamp.v f = c at *
  generalize resource_clamp.v a = x at *
  generalize resource_clamp.v b = y at *
  unfold iSub
  rw [i64w (by omega) (by omega), i64w (by omega) (by omega)]
  omega
/-- Spare, of a pod whose containers are es. -/
def spareOf (v n : Row) (es : Rows) : Int :=
  let r2 := resource_Sub.v (et 47 (filter_Free.v (et 26 (et 26 v)) (rStr (et 51 n) 2)).1) (et 47 (et 47 (et 47 (reqs es))))
  iQuo .i64 (iAdd .i64 (score_share.v (rInt r2 0) (rInt (et 51 n) 13)) (score_share.v (rInt r2 1) (rInt (et 51 n) 14))) 2
theorem spare_of (v p n : Row) (es : Rows) (h : rSl (eo 40 (et 45 p) 13) 4 = es) : score_Spare.v v p n = spareOf v n es := by
  have e1 : score_Spare.v v p n = (let r2 := resource_Sub.v (et 47 (filter_Free.v (et 26 (et 26 v)) (rStr (et 51 n) 2)).1) (et 47 (resource_Requests.v (eo 40 (et 45 p) 13)))
    iQuo .i64 (iAdd .i64 (score_share.v (rInt r2 0) (rInt (et 51 n) 13)) (score_share.v (rInt r2 1) (rInt (et 51 n) 14))) 2) := rfl
  rw [e1, req_form, h]
  rfl
theorem spare_more (v n : Row) (es : Rows) (c : Row) : spareOf v n (rCat (rCat [] es) [c]) ≤ spareOf v n es := by
  unfold spareOf
  dsimp only
  generalize et 47 (filter_Free.v (et 26 (et 26 v)) (rStr (et 51 n) 2)).1 = F
  have e1 : reqs (rCat (rCat [] es) [c]) = et 47 (resource_Add.v (et 47 (reqs es)) (eo 47 c 2)) := by
    unfold reqs rCat
    rw [List.nil_append, List.foldl_append]; rfl
  rw [e1]
  obtain ⟨s1, s2⟩ := sub_int F (et 47 (et 47 (et 47 (reqs es))))
  obtain ⟨t1, t2⟩ := sub_int F (et 47 (et 47 (et 47 (et 47 (resource_Add.v (et 47 (reqs es)) (eo 47 c 2))))))
  obtain ⟨u1, u2⟩ := et_int (reqs es)
  obtain ⟨w1, w2⟩ := et_int (et 47 (resource_Add.v (et 47 (reqs es)) (eo 47 c 2)))
  obtain ⟨a1, a2⟩ := add_int (reqs es) (eo 47 c 2)
  rw [u1] at s1; rw [u2] at s2
  rw [w1, a1] at t1; rw [w2, a2] at t2
  rw [s1, s2, t1, t2]
  have m1 := less_left (f := rInt F 0) (more_clamp (rInt (reqs es) 0) (rInt (eo 47 c 2) 0))
  have m2 := less_left (f := rInt F 1) (more_clamp (rInt (reqs es) 1) (rInt (eo 47 c 2) 1))
  have k1 := share_mono (c := rInt (et 51 n) 13) (clamp_range _).1 m1 (clamp_range _).2
  have k2 := share_mono (c := rInt (et 51 n) 14) (clamp_range _).1 m2 (clamp_range _).2
  have r1 := share_range (resource_clamp.v (iSub .i64 (resource_clamp.v (rInt F 0)) (resource_clamp.v (rInt (reqs es) 0)))) (rInt (et 51 n) 13)
  have r2 := share_range (resource_clamp.v (iSub .i64 (resource_clamp.v (rInt F 1)) (resource_clamp.v (rInt (reqs es) 1)))) (rInt (et 51 n) 14)
  have r3 := share_range (resource_clamp.v (iSub .i64 (resource_clamp.v (rInt F 0)) (resource_clamp.v (resource_clamp.v (iAdd .i64 (resource_clamp.v (rInt (reqs es) 0)) (resource_clamp.v (rInt (eo 47 c 2) 0))))))) (rInt (et 51 n) 13)
  have r4 := share_range (resource_clamp.v (iSub .i64 (resource_clamp.v (rInt F 1)) (resource_clamp.v (resource_clamp.v (iAdd .i64 (resource_clamp.v (rInt (reqs es) 1)) (resource_clamp.v (rInt (eo 47 c 2) 1))))))) (rInt (et 51 n) 14)
  rw [half r1 r2, half r3 r4]
  exact Int.ediv_le_ediv (by decide) (by omega)
def moreC (x : Row) : Row := rJ [[.str ByteArray.empty, .str ByteArray.empty], et 47 x, [.int .i64 0, .int .i64 0, .int .i64 0, .slice 227 [] .open, .slice 227 [] .open, .slice 227 [] .open]]
def morePod (p x : Row) : Row := rJ [[.str (rStr p 0), .str (rStr p 1), .str (rStr p 2)], eo 47 p 3, [.int .i64 (rInt p 6), .bool (rBool p 7), .int .i64 (rInt p 8), .slice 89 (rSl p 9) .open, .slice 91 (rSl p 10) .open, .slice 9 (rSl p 11) .open, .slice 93 (rSl p 12) .open, .str (rStr p 13)], eo 47 p 14, [.slice 65 (rCat (rCat [] (rSl p 17)) [moreC x]) .open, .slice 129 (rSl p 18) .open, .slice 103 (rSl p 19) .open, .slice 107 (rSl p 20) .open, .slice 112 (rSl p 21) .open, .slice 147 (rSl p 22) .open, .int .i64 (rInt p 23), .bool (rBool p 24)], eo 47 p 25, [.slice 218 (rSl p 28) .open, .int .i64 (rInt p 29), .str (rStr p 30), .str (rStr p 31)]]
theorem more_sl (p x : Row) : rSl (eo 40 (et 45 (morePod p x)) 13) 4 = rCat (rCat [] (rSl p 17)) [moreC x] := by kernel_rfl
theorem own_sl (p : Row) : rSl (eo 40 (et 45 (et 45 p)) 13) 4 = rSl p 17 := by kernel_rfl
theorem scoreSharesV (a0 a1 a2 a3 : Row) : law39_ScoreShares.v a0 a1 a2 a3 = true := by
  have e0 : law39_ScoreShares.v a0 a1 a2 a3 = (let r0 := (law39_small.v (et 26 a0) (et 45 a1) []); (let r1 := bif (bNot (bNot r0)) then (law36_SmallNode.v (et 51 a2)) else default; (let r2 := bif (bNot (bIte (bNot r0) true (bNot r1))) then (law36_Distinct.v (rSl a0 1)) else default; (bif (bIte (bIte (bNot r0) true (bNot r1)) true (bNot r2)) then law39_lives.v else (let r4 := (score_Spare.v (et 26 a0) (et 45 a1) (et 51 a2)); (let r5 := (score_Balance.v (et 26 a0) (et 45 a1) (et 51 a2)); (bif (bIte (bIte (bIte (iLt r4 0) true (iLt 100 r4)) true (iLt r5 0)) true (iLt 100 r5)) then false else (let r6 := (score_Spare.v (et 26 a0) (morePod a1 a3) (et 51 a2)); (let r7 := bif (iLe r6 r4) then (law39_lives.v ) else default; (bIte (iLe r6 r4) r7 false)))))))))) := rfl
  rw [e0, lives39V]
  dsimp only
  generalize (bIte (bIte (bNot (law39_small.v _ _ _)) true _) true _) = g
  cases g with
  | true => rfl
  | false =>
    obtain ⟨s1, s2⟩ := spare_range (et 26 a0) (et 45 a1) (et 51 a2)
    obtain ⟨b1, b2⟩ := balance_range (et 26 a0) (et 45 a1) (et 51 a2)
    have hm : score_Spare.v (et 26 a0) (morePod a1 a3) (et 51 a2) ≤ score_Spare.v (et 26 a0) (et 45 a1) (et 51 a2) := by
      rw [spare_of _ (morePod a1 a3) _ _ (more_sl a1 a3), spare_of _ (et 45 a1) _ _ (own_sl a1)]
      exact spare_more _ _ _ _
    rw [show iLe (score_Spare.v (et 26 a0) (morePod a1 a3) (et 51 a2)) (score_Spare.v (et 26 a0) (et 45 a1) (et 51 a2)) = true from decide_eq_true hm]
    generalize score_Spare.v (et 26 a0) (et 45 a1) (et 51 a2) = x at *
    generalize score_Balance.v (et 26 a0) (et 45 a1) (et 51 a2) = y at *
    rw [show iLt x 0 = false from decide_eq_false (by omega), show iLt 100 x = false from decide_eq_false (by omega), show iLt y 0 = false from decide_eq_false (by omega), show iLt 100 y = false from decide_eq_false (by omega)]
    rfl
theorem law39_ScoreShares.true_ (a0 a1 a2 a3 : Row) (h0 : Br a0) (h1 : Br a1) (h2 : Br a2) (h3 : Br a3) (hc : rLen (rSl a1 17) ≤ 1048575) : D (fun k => (law39_ScoreShares.f k a0 a1 a2 a3).eval) (fun u => u = true) := (law39_ScoreShares.val a0 a1 a2 a3 h0 h1 h2 h3 hc).true_ (scoreSharesV a0 a1 a2 a3)
end
end Go.Proofs.YtilppppcafphbaaGreat.Ev
