/- The plain laws of spread: the skew. Conditions: stated at each. -/
import Derived.Test.YtohhdiifohhghaaL37c
namespace Go.Proofs.Ytohhdiifohhghaa.Ev
open Go Go.RowKit
set_option linter.unusedVariables false
set_option linter.unusedSimpArgs false
set_option maxRecDepth 100000
noncomputable section
/-- A pod counts for a domain. -/
def OK (ns : Rows) (a1 : ByteArray) (ru : Row) (d : ByteArray) (q : Row) : Bool :=
  let D := match ns.find? (nameIs (rStr q 13)) with | some n => dm (rStr ru 1) n | none => (ByteArray.empty, false)
  D.2 && sEq D.1 d && ref33_Active.v (et 48 q) && sEq (rStr q 1) a1 && ref03_Matches.v (rSl ru 2) (rSl q 9)
theorem okQ_eq (a0 ru : Row) (a1 d : ByteArray) (q : Row) : ref37_Counts.okQ a1 d (et 26 (et 26 a0)) (et 29 (et 29 ru)) q = OK (rSl a0 0) a1 ru d q := by
  have hD : ref37_domain.v (et 26 (et 26 (et 26 a0))) (rStr q 13) (rStr (et 29 (et 29 ru)) 1) = match (rSl a0 0).find? (nameIs (rStr q 13)) with | some n => dm (rStr ru 1) n | none => (ByteArray.empty, false) := by
    rw [find_dom]; rfl
  have hm : ref03_Matches.v (rSl (et 29 (et 29 ru)) 2) (rSl q 9) = ref03_Matches.v (rSl ru 2) (rSl q 9) := rfl
  unfold ref37_Counts.okQ OK
  dsimp only
  rw [hD, hm, bite4]
def kk (ns : Rows) (a1 : ByteArray) (ru : Row) (ps : Rows) (d : ByteArray) : Int := (ps.countP (OK ns a1 ru d) : Int)
def kRow (ns : Rows) (a1 : ByteArray) (ru : Row) (ps : Rows) (d : ByteArray) : Row := [.str d, .int .i64 (kk ns a1 ru ps d)]
theorem counts_l {l : List ByteArray} {ns : Rows} {a0 ru : Row} (a1 : ByteArray) (hl : ref37_Counts.w3 (rStr ru 1) ns = nms l) (h0 : rSl a0 0 = ns) (hp : (rSl a0 1).length ≤ 1000000) : ref37_Counts.v a0 a1 ru = l.map (kRow ns a1 ru (rSl a0 1)) := by
  rw [counts_form, h0, hl]
  unfold nms
  rw [List.map_map]
  refine List.map_congr_left (fun d _ => ?_)
  show et 54 (walk (ref37_Counts.p14 a1 d (et 26 (et 26 a0)) (et 29 (et 29 ru))) ref37_Counts.z14 (rSl (et 26 (et 26 a0)) 1) 0 [.str d, .int .i64 (0)]) = _
  have hv : rSl (et 26 (et 26 a0)) 1 = rSl a0 1 := by kernel_rfl
  rw [count_v, hv, cnt_eq _ _ 0 (by omega) (by omega), Int.zero_add]
  have e : (ref37_Counts.okQ a1 d (et 26 (et 26 a0)) (et 29 (et 29 ru))) = OK ns a1 ru d := funext (fun q => by rw [okQ_eq, h0])
  rw [e]; rfl
theorem gap_le (lim : Int) (h0 : 0 ≤ lim) (C : Rows) (hb : ∀ q, q ∈ C → 0 ≤ rInt q 1 ∧ rInt q 1 ≤ 1000000) (h : ∀ a, a ∈ C → ∀ b, b ∈ C → rInt a 1 - rInt b 1 ≤ lim) : law37_gap.v C ≤ lim := by
  have key : (fun r : Int × Int => (C = [] ∧ r = (0, 0)) ∨ ((∃ a, a ∈ C ∧ r.1 = rInt a 1) ∧ ∃ b, b ∈ C ∧ r.2 = rInt b 1)) (law37_gap.w3 C (0, 0)) := by
    suffices ∀ (es : Rows) (i : Int) (x : Int × Int), (∀ q, q ∈ es → q ∈ C) → (i = 0 ∧ x = (0, 0) ∧ es = C) ∨ (0 < i ∧ (∃ a, a ∈ C ∧ x.1 = rInt a 1) ∧ ∃ b, b ∈ C ∧ x.2 = rInt b 1) →
        (fun r : Int × Int => (C = [] ∧ r = (0, 0)) ∨ ((∃ a, a ∈ C ∧ r.1 = rInt a 1) ∧ ∃ b, b ∈ C ∧ r.2 = rInt b 1)) (walk law37_gap.p3 law37_gap.z3 es i x) from
      this C 0 (0, 0) (fun q h => h) (Or.inl ⟨rfl, rfl, rfl⟩)
    intro es
    induction es with
    | nil =>
      intro i x _ hx
      rcases hx with ⟨_, h2, h3⟩ | ⟨_, h2⟩
      · exact Or.inl ⟨h3.symm, h2⟩
      · exact Or.inr h2
    | cons q es ih =>
      intro i x hm hx
      simp only [walk]
      have hq : q ∈ C := hm q (List.mem_cons_self ..)
      have hm' : ∀ y, y ∈ es → y ∈ C := fun y hy => hm y (List.mem_cons_of_mem _ hy)
      have hq' : ∃ a, a ∈ C ∧ rInt q 1 = rInt a 1 := ⟨q, hq, rfl⟩
      rcases hx with ⟨h1, h2, h3⟩ | ⟨h1, h2, h3⟩
      · subst h1
        have hp : law37_gap.p3 0 q x = .inl (rInt q 1, rInt q 1) := rfl
        rw [hp]
        exact ih (0 + 1) _ hm' (Or.inr ⟨by omega, hq', hq'⟩)
      · have hi : iEq i 0 = false := by
          cases h : iEq i 0 with
          | false => rfl
          | true => have := iEq_iff.1 h; omega
        unfold law37_gap.p3
        rw [hi]
        have e1 : ∀ b : Bool, bIte false true b = b := fun b => rfl
        simp only [e1]
        cases iLt x.1 (rInt q 1) <;> cases iLt (rInt q 1) x.2 <;> dsimp only [cond_true, cond_false]
        · exact ih (i + 1) _ hm' (Or.inr ⟨by omega, h2, h3⟩)
        · exact ih (i + 1) _ hm' (Or.inr ⟨by omega, h2, hq'⟩)
        · exact ih (i + 1) _ hm' (Or.inr ⟨by omega, hq', h3⟩)
        · exact ih (i + 1) _ hm' (Or.inr ⟨by omega, hq', hq'⟩)
  unfold law37_gap.v
  generalize law37_gap.w3 C (0, 0) = r at key
  dsimp only at key ⊢
  rcases key with ⟨_, rfl⟩ | ⟨⟨a, ha, e1⟩, b, hb', e2⟩
  · exact h0
  · rw [e1, e2]
    have h1 := hb a ha
    have h2 := hb b hb'
    have e : iSub .i64 (rInt a 1) (rInt b 1) = rInt a 1 - rInt b 1 := IntWalk.i64_in _ (by omega)
    rw [e]; exact h a ha b hb'
theorem distinct_pw (ns : Rows) (h : law37_distinct.v ns = true) : ∀ i k : Nat, k < i → i < ns.length → sEq (rStr (rAt ns i) 2) (rStr (rAt ns k) 2) = false := by
  have h2 : law37_distinct.w2 ns = bif (List.range ns.length).any (fun i => (ns.take i).any (fun q => sEq (rStr (rAt ns i) 2) (rStr q 2))) then .inl false else .inr () := by
    suffices ∀ (es : Rows) (i : Nat), i + es.length = ns.length → walk (law37_distinct.p2 ns) law37_distinct.z2 es (i : Int) () = bif (List.range' i es.length).any (fun i => (ns.take i).any (fun q => sEq (rStr (rAt ns i) 2) (rStr q 2))) then .inl false else .inr () by
      have h3 := this ns 0 (by omega)
      rw [← List.range_eq_range'] at h3
      exact h3
    intro es
    induction es with
    | nil => intro i _; rfl
    | cons q es ih =>
      intro i hi
      simp only [walk]
      rw [List.length_cons, List.range'_succ, List.any_cons]
      have hw : law37_distinct.w5 ns (i : Int) = bif (ns.take i).any (fun q => sEq (rStr (rAt ns i) 2) (rStr q 2)) then .inl false else .inr () := by
        show walk (law37_distinct.p5 ns (i : Int)) law37_distinct.z5 (ns.take (Int.toNat (i : Int))) 0 () = _
        rw [Int.toNat_natCast]
        exact walk_any (fun q => sEq (rStr (rAt ns i) 2) (rStr q 2)) (Sum.inl false) (fun j q _ => rfl)
      unfold law37_distinct.p2
      rw [hw]
      rw [List.length_cons] at hi
      cases (ns.take i).any (fun q => sEq (rStr (rAt ns i) 2) (rStr q 2)) with
      | true => rfl
      | false => exact ih (i + 1) (by omega)
  intro i k hk hi
  have hany : (List.range ns.length).any (fun i => (ns.take i).any (fun q => sEq (rStr (rAt ns i) 2) (rStr q 2))) = false := by
    unfold law37_distinct.v at h
    rw [h2] at h
    cases hb : (List.range ns.length).any (fun i => (ns.take i).any (fun q => sEq (rStr (rAt ns i) 2) (rStr q 2))) with
    | false => rfl
    | true => rw [hb] at h; cases h
  have h3 := List.any_eq_false.1 hany i (List.mem_range.2 hi)
  have h4 : (ns.take i).any (fun q => sEq (rStr (rAt ns i) 2) (rStr q 2)) = false := by simpa using h3
  have hmem : rAt ns (k : Int) ∈ ns.take i := by
    have e : rAt ns (k : Int) = ns[k]'(by omega) := by
      show ns.getD (Int.toNat (k : Int)) [] = _
      rw [Int.toNat_natCast, List.getD_eq_getElem?_getD, List.getElem?_eq_getElem (by omega)]; rfl
    rw [e]
    exact List.mem_take_iff_getElem.2 ⟨k, by omega, rfl⟩
  have := List.any_eq_false.1 h4 _ hmem
  simpa using this
/-- The first node with a node's name is that node. -/
theorem find_self (ns : Rows) (h : law37_distinct.v ns = true) (n : Row) (hn : n ∈ ns) : ns.find? (nameIs (rStr n 2)) = some n := by
  have hd := distinct_pw ns h
  obtain ⟨i, hi, rfl⟩ := List.mem_iff_getElem.1 hn
  have hat : ∀ k (hk : k < ns.length), rAt ns (k : Int) = ns[k] := fun k hk => by
    show ns.getD (Int.toNat (k : Int)) [] = _
    rw [Int.toNat_natCast, List.getD_eq_getElem?_getD, List.getElem?_eq_getElem hk]; rfl
  refine List.find?_eq_some_iff_getElem.2 ⟨?_, i, hi, rfl, fun j hj => ?_⟩
  · exact sEq_refl _
  · have := hd i j hj hi
    rw [hat i hi, hat j (by omega), sEq_symm] at this
    show (!sEq (rStr ns[j] 2) (rStr ns[i] 2)) = true
    rw [this]; rfl
-- the run
def NS : ByteArray := bs [110, 115]
def nmI (i : Int) : ByteArray := sCat (bs [112]) (ref01_Decimal.v i)
def kN (nm : ByteArray) : ByteArray := ref13_Key.v (bs [80, 111, 100]) NS nm
theorem key_all : (List.range 16).all (fun i => (List.range i).all (fun j => !sEq (kN (nmI (j : Int))) (kN (nmI (i : Int))))) = true := by kernel_rfl
theorem key_ne {i k : Int} (h0 : 0 ≤ k) (h1 : k < i) (h2 : i < 16) : sEq (kN (nmI k)) (kN (nmI i)) = false := by
  obtain ⟨a, rfl⟩ := Int.eq_ofNat_of_zero_le h0
  obtain ⟨b, rfl⟩ := Int.eq_ofNat_of_zero_le (show 0 ≤ i by omega)
  have h3 := List.all_eq_true.1 key_all b (List.mem_range.2 (by omega))
  have h4 := List.all_eq_true.1 h3 a (List.mem_range.2 (by omega))
  simpa using h4
theorem keyOf_row (q : Row) : ref13_KeyOf.v (et 36 q) = ref13_Key.v (rStr q 0) (rStr q 1) (rStr q 2) := by kernel_rfl
theorem active_row (q : Row) : ref33_Active.v (et 48 q) = bIte (bIte (iEq (rInt q 23) 0) true (iEq (rInt q 23) 1)) (bNot (rBool q 7)) false := by kernel_rfl
structure KR (L : Rows) (ru : Row) (p : Row) : Prop where
  kind : rStr p 0 = bs [80, 111, 100]
  ns : rStr p 1 = NS
  lab : rSl p 9 = L
  rule : rSl p 21 = [ru]
  phase : rInt p 23 = 1
  gone : rBool p 7 = false
open law37_SpreadSkew in
theorem KR.up {L : Rows} {ru p : Row} (h : KR L ru p) (nm nd : ByteArray) : KR L ru (up p nm nd) := ⟨h.kind, h.ns, h.lab, h.rule, h.phase, h.gone⟩
structure J (ns L : Rows) (l : List ByteArray) (ru : Row) (lim : Int) (i : Int) (x : Row × Row) : Prop where
  pod : KR L ru x.2
  nodes : rSl x.1 0 = ns
  len : ((rSl x.1 1).length : Int) ≤ i
  keys : ∀ q, q ∈ rSl x.1 1 → ∃ k, 0 ≤ k ∧ k < i ∧ ref13_KeyOf.v (et 36 q) = kN (nmI k)
  gap : ∀ a, a ∈ l → ∀ b, b ∈ l → kk ns NS ru (rSl x.1 1) a - kk ns NS ru (rSl x.1 1) b ≤ lim
theorem last_k (ns : Rows) (a1 : ByteArray) (ru : Row) (ps : Rows) (d : ByteArray) : ∀ (l : List ByteArray) (n : Int), d ∈ l ∨ n = kk ns a1 ru ps d → (l.map (kRow ns a1 ru ps)).foldl (fun n q => bif isR d q then rInt q 1 else n) n = kk ns a1 ru ps d
  | [], n, h => by rcases h with h | h; cases h; exact h
  | a :: l, n, h => by
    rw [List.map_cons, List.foldl_cons]
    have hr : isR d (kRow ns a1 ru ps a) = sEq a d := rfl
    have hi : rInt (kRow ns a1 ru ps a) 1 = kk ns a1 ru ps a := rfl
    rw [hr, hi]
    cases he : sEq a d with
    | true => exact last_k ns a1 ru ps d l _ (Or.inr (by rw [sEq_iff.1 he]; rfl))
    | false =>
      refine last_k ns a1 ru ps d l _ ?_
      rcases h with h | h
      · rcases List.mem_cons.1 h with h | h
        · exact absurd h.symm (sEq_ff.1 he)
        · exact Or.inl h
      · exact Or.inr h
/-- What a fit says. -/
theorem fit_says {ns L : Rows} {l : List ByteArray} {ru : Row} {lim i : Int} {x : Row × Row} (hl : ref37_Counts.w3 (rStr ru 1) ns = nms l) (hlim : lim = iMin (iMax (rInt ru 0) 0) 1000000000000000) (hru : rBool ru 3 = true) (hm : ref03_Matches.v (rSl ru 2) L = true)
    (h : J ns L l ru lim i x) (hi : 0 ≤ i ∧ i < 16) (n : Row) (hf : spread_Fits.v (et 26 x.1) (law37_SpreadSkew.up x.2 (nmI i) (rStr x.2 13)) (et 61 n) = true) :
    (dm (rStr ru 1) n).2 = true ∧ ∀ b, b ∈ l → kk ns NS ru (rSl x.1 1) (dm (rStr ru 1) n).1 + 1 ≤ kk ns NS ru (rSl x.1 1) b + lim := by
  have hl16 := h.len
  have hN : (rSl (et 26 x.1) 1).length ≤ 140737488351232 := by
    have e : rSl (et 26 x.1) 1 = rSl x.1 1 := by kernel_rfl
    rw [e]; omega
  rw [fitsV _ _ _ hN] at hf
  have hkr := h.pod.up (nmI i) (rStr x.2 13)
  generalize hp : law37_SpreadSkew.up x.2 (nmI i) (rStr x.2 13) = p at hf hkr
  have hkey : ref13_KeyOf.v (et 36 p) = kN (nmI i) := by
    rw [keyOf_row, hkr.kind, hkr.ns, ← hp]; rfl
  have hC : cOf (et 26 x.1) p ru = l.map (kRow ns NS ru (rSl x.1 1)) := by
    rw [← counts_l NS hl h.nodes (by omega)]
    unfold cOf
    rw [hkey, hkr.ns]
    have e4 : ∀ (w : Row) (n : ByteArray), ref37_Counts.v w n (et 29 ru) = ref37_Counts.v w n ru := fun w n => by kernel_rfl
    rw [e4]
    have e1 : rSl (et 26 (ref37_others.v (et 26 (et 26 x.1)) (kN (nmI i)))) 0 = rSl x.1 0 := by kernel_rfl
    have e2 : rSl (et 26 (ref37_others.v (et 26 (et 26 x.1)) (kN (nmI i)))) 1 = ref37_others.w4 (kN (nmI i)) (et 26 (et 26 (et 26 x.1))) [] := by kernel_rfl
    have e3 : rSl (et 26 (et 26 x.1)) 1 = rSl x.1 1 := by kernel_rfl
    refine counts_congr NS ru e1 ?_
    rw [e2, others_v, e3]
    rw [List.filter_eq_self.2 (fun q hq => by
      obtain ⟨k, k0, k1, k2⟩ := h.keys q hq
      unfold oth
      rw [k2, key_ne k0 k1 hi.2]; rfl)]
  have hw : ref37_Fits.v (et 26 x.1) p (et 61 n) = Sum.elim (fun r2 => r2) (fun r3 => true) (walk (ref37_Fits.p3 (et 48 p) (et 61 (et 61 n)) (et 26 (ref37_others.v (et 26 (et 26 x.1)) (ref13_KeyOf.v (et 36 p))))) ref37_Fits.z3 (rSl p 21) 0 ()) := by
    have e : rSl (et 48 p) 21 = rSl p 21 := by kernel_rfl
    rw [← e]; rfl
  rw [hw, hkr.rule] at hf
  simp only [walk] at hf
  unfold ref37_Fits.p3 at hf
  rw [cOf_eq, hC, hru] at hf
  have hdm : ref36_Domain.v (et 61 (et 61 (et 61 n))) (rStr ru 1) = dm (rStr ru 1) n := by kernel_rfl
  have hlab : rSl (et 48 p) 9 = rSl p 9 := by kernel_rfl
  rw [hdm, hlab, hkr.lab, hm] at hf
  generalize dm (rStr ru 1) n = D at hf ⊢
  obtain ⟨d, b⟩ := D
  dsimp only at hf ⊢
  cases b with
  | false => cases hf
  | true =>
    refine ⟨rfl, ?_⟩
    have hbig : ∀ a, 0 ≤ kk ns NS ru (rSl x.1 1) a ∧ kk ns NS ru (rSl x.1 1) a ≤ 16 := fun a => by
      have : (rSl x.1 1).countP (OK ns NS ru a) ≤ (rSl x.1 1).length := List.countP_le_length
      unfold kk
      omega
    cases hl' : l with
    | nil => intro b hb; cases hb
    | cons a l0 =>
      rw [hl', List.map_cons, of_cons, ← List.map_cons] at hf
      dsimp only at hf
      have hany : ((a :: l0).map (kRow ns NS ru (rSl x.1 1))).any (isR d) = true := by
        cases hb : ((a :: l0).map (kRow ns NS ru (rSl x.1 1))).any (isR d) with
        | true => rfl
        | false => rw [hb] at hf; cases hf
      have hd : d ∈ a :: l0 := by
        obtain ⟨r, hr, hs⟩ := List.any_eq_true.1 hany
        obtain ⟨c, hc, rfl⟩ := List.mem_map.1 hr
        have : c = d := sEq_iff.1 hs
        rw [← this]; exact hc
      rw [hany, last_k ns NS ru (rSl x.1 1) d (a :: l0) 0 (Or.inl hd)] at hf
      generalize hmn : (l0.map (kRow ns NS ru (rSl x.1 1))).foldl mn (rInt (kRow ns NS ru (rSl x.1 1) a) 1) = m at hf
      have hle := (mn_le (c := m) (es := l0.map (kRow ns NS ru (rSl x.1 1))) (x := rInt (kRow ns NS ru (rSl x.1 1) a) 1)).1 (by rw [hmn]; exact Int.le_refl _)
      have hge : 0 ≤ m := by
        rw [← hmn]
        refine mn_le.2 ⟨(hbig a).1, fun q hq => ?_⟩
        obtain ⟨c, _, rfl⟩ := List.mem_map.1 hq
        exact (hbig c).1
      have hmle : m ≤ 16 := Int.le_trans hle.1 (hbig a).2
      have hcl : ref01_Clamp.v (rInt ru 0) 0 1000000000000000 = lim := hlim.symm
      have hlb : 0 ≤ lim ∧ lim ≤ 1000000000000000 := by
        rw [hlim]
        unfold iMin iMax
        split <;> split <;> omega
      have hf2 : iLt (iAdd .i64 m lim) (iAdd .i64 (kk ns NS ru (rSl x.1 1) d) 1) = false := by
        cases hb : iLt (iAdd .i64 m lim) (iAdd .i64 (kk ns NS ru (rSl x.1 1) d) 1) with
        | false => rfl
        | true =>
          exfalso
          have e : (bif (bNot (bIte (bNot true) true (bNot true))) then (ref01_Clamp.v (rInt ru 0) 0 1000000000000000) else default) = lim := hcl
          rw [e, hb] at hf
          cases hf
      have h5 := of_decide_eq_false hf2
      have e1 : iAdd .i64 m lim = m + lim := IntWalk.i64_in _ (by omega)
      have hbd := hbig d
      have e2 : iAdd .i64 (kk ns NS ru (rSl x.1 1) d) 1 = kk ns NS ru (rSl x.1 1) d + 1 := IntWalk.i64_in _ (by omega)
      rw [e1, e2] at h5
      intro b hb
      have hmb : m ≤ kk ns NS ru (rSl x.1 1) b := by
        rcases List.mem_cons.1 hb with rfl | hb
        · exact hle.1
        · exact hle.2 _ (List.mem_map.2 ⟨b, hb, rfl⟩)
      omega
theorem dm_nil (t : ByteArray) : dm t [] = (ByteArray.empty, false) := by kernel_rfl
theorem at_or (es : Rows) (i : Int) : rAt es i ∈ es ∨ rAt es i = [] := by
  unfold rAt
  rw [List.getD_eq_getElem?_getD]
  cases h : es[i.toNat]? with
  | none => exact Or.inr rfl
  | some q => exact Or.inl (List.mem_of_getElem? h)
open law37_SpreadSkew in
theorem skew_step {ns L : Rows} {l : List ByteArray} {ru : Row} {lim : Int} (hd : law37_distinct.v ns = true) (hl : ref37_Counts.w3 (rStr ru 1) ns = nms l) (hlim : lim = iMin (iMax (rInt ru 0) 0) 1000000000000000) (hru : rBool ru 3 = true) (hm : ref03_Matches.v (rSl ru 2) L = true)
    (i : Int) (hi : 0 ≤ i ∧ i < 16) (q : Row) (x : Row × Row) (h : J ns L l ru lim i x) : ∃ y, p10 ns ru i q x = .inl y ∧ J ns L l ru lim (i + 1) y := by
  have hkr := h.pod.up (nmI i) (rStr x.2 13)
  have hl16 := h.len
  have hlb : 0 ≤ lim ∧ lim ≤ 1000000000000000 := by
    rw [hlim]
    unfold iMin iMax
    split <;> split <;> omega
  have hfs := fit_says hl hlim hru hm h hi (rAt ns (iRem (iCv .i64 (rInt q 0)) (rLen ns)))
  have hnm : sCat (bs [112]) (ref01_Decimal.v i) = nmI i := rfl
  unfold p10
  dsimp only
  rw [hnm]
  cases hr : spread_Fits.v (et 26 x.1) (up x.2 (nmI i) (rStr x.2 13)) (et 61 (rAt ns (iRem (iCv .i64 (rInt q 0)) (rLen ns)))) with
  | false =>
    refine ⟨_, rfl, hkr, ?_, ?_, fun q hq => ?_, fun a ha b hb => ?_⟩
    · have e : rSl (et 26 x.1) 0 = rSl x.1 0 := by kernel_rfl
      exact e.trans h.nodes
    · have e : rSl (et 26 x.1) 1 = rSl x.1 1 := by kernel_rfl
      show ((rSl (et 26 x.1) 1).length : Int) ≤ i + 1
      rw [e]; omega
    · have e : rSl (et 26 x.1) 1 = rSl x.1 1 := by kernel_rfl
      have hq : q ∈ rSl (et 26 x.1) 1 := hq
      rw [e] at hq
      obtain ⟨k, k0, k1, k2⟩ := h.keys q hq
      exact ⟨k, k0, by omega, k2⟩
    · have e : rSl (et 26 x.1) 1 = rSl x.1 1 := by kernel_rfl
      show kk ns NS ru (rSl (et 26 x.1) 1) a - kk ns NS ru (rSl (et 26 x.1) 1) b ≤ lim
      rw [e]; exact h.gap a ha b hb
  | true =>
    obtain ⟨hD, hfit⟩ := hfs hr
    generalize hn : rAt ns (iRem (iCv .i64 (rInt q 0)) (rLen ns)) = n at *
    have hmem : n ∈ ns := by
      rcases at_or ns (iRem (iCv .i64 (rInt q 0)) (rLen ns)) with hx | hx
      · rw [hn] at hx; exact hx
      · rw [hn] at hx
        rw [hx, dm_nil] at hD; cases hD
    have hfind := find_self ns hd n hmem
    generalize hq' : up x.2 (nmI i) (rStr n 2) = q'
    have kq : KR L ru q' := by rw [← hq']; exact h.pod.up _ _
    have hq13 : rStr q' 13 = rStr n 2 := by rw [← hq']; rfl
    have hok : ∀ d, OK ns NS ru d q' = sEq (dm (rStr ru 1) n).1 d := fun d => by
      unfold OK
      rw [hq13, hfind, active_row, kq.ns, kq.lab, kq.phase, kq.gone, hm]
      dsimp only
      rw [hD, sEq_refl]
      cases sEq (dm (rStr ru 1) n).1 d <;> rfl
    have hcat : rCat (rCat [] (rSl x.1 1)) [q'] = rSl x.1 1 ++ [q'] := rfl
    have hk : ∀ d, kk ns NS ru (rSl x.1 1 ++ [q']) d = kk ns NS ru (rSl x.1 1) d + (if sEq (dm (rStr ru 1) n).1 d then 1 else 0) := fun d => by
      unfold kk
      rw [List.countP_append]
      have : [q'].countP (OK ns NS ru d) = if sEq (dm (rStr ru 1) n).1 d then 1 else 0 := by
        rw [List.countP_singleton, hok]
      rw [this]
      split <;> simp
    have hnew : J ns L l ru lim (i + 1) (vw x.1 (rSl x.1 1 ++ [q']), up x.2 (nmI i) (rStr x.2 13)) := by
      refine ⟨hkr, h.nodes, ?_, fun q hq => ?_, fun a ha b hb => ?_⟩
      · show ((rSl x.1 1 ++ [q']).length : Int) ≤ i + 1
        rw [List.length_append]; simp; omega
      · have hq : q ∈ rSl x.1 1 ++ [q'] := hq
        rcases List.mem_append.1 hq with hq | hq
        · obtain ⟨k, k0, k1, k2⟩ := h.keys q hq
          exact ⟨k, k0, by omega, k2⟩
        · rw [List.mem_singleton.1 hq]
          refine ⟨i, hi.1, by omega, ?_⟩
          rw [keyOf_row, kq.kind, kq.ns, ← hq']; rfl
      · show kk ns NS ru (rSl x.1 1 ++ [q']) a - kk ns NS ru (rSl x.1 1 ++ [q']) b ≤ lim
        rw [hk, hk]
        have h1 := h.gap a ha b hb
        have h2 := hfit b hb
        cases hea : sEq (dm (rStr ru 1) n).1 a with
        | true =>
          have ea := sEq_iff.1 hea
          rw [ea] at h2 ⊢
          cases sEq a b <;> simp <;> omega
        | false => cases sEq (dm (rStr ru 1) n).1 b <;> simp <;> omega
    rw [hcat, hd]
    have hcounts : spread_Counts.v (vw x.1 (rSl x.1 1 ++ [q'])) (bs [110, 115]) (et 29 ru) = l.map (kRow ns NS ru (rSl x.1 1 ++ [q'])) := by
      rw [countsV_eq]
      have e4 : ∀ (w : Row) (n : ByteArray), ref37_Counts.v w n (et 29 ru) = ref37_Counts.v w n ru := fun w n => by kernel_rfl
      rw [e4]
      refine counts_l (a0 := vw x.1 (rSl x.1 1 ++ [q'])) NS hl h.nodes ?_
      show (rSl x.1 1 ++ [q']).length ≤ 1000000
      rw [List.length_append]; simp; omega
    rw [hcounts]
    have hg : law37_gap.v (l.map (kRow ns NS ru (rSl x.1 1 ++ [q']))) ≤ lim := by
      refine gap_le lim hlb.1 _ (fun q hq => ?_) (fun a ha b hb => ?_)
      · obtain ⟨c, _, rfl⟩ := List.mem_map.1 hq
        have : (rSl x.1 1 ++ [q']).countP (OK ns NS ru c) ≤ (rSl x.1 1 ++ [q']).length := List.countP_le_length
        rw [List.length_append] at this
        simp only [List.length_singleton] at this
        show 0 ≤ kk ns NS ru (rSl x.1 1 ++ [q']) c ∧ kk ns NS ru (rSl x.1 1 ++ [q']) c ≤ 1000000
        unfold kk
        omega
      · obtain ⟨c, hc, rfl⟩ := List.mem_map.1 ha
        obtain ⟨e, he, rfl⟩ := List.mem_map.1 hb
        exact hnew.gap c hc e he
    have hcl : ref01_Clamp.v (rInt ru 0) 0 1000000000000000 = lim := hlim.symm
    have hlt : iLt (ref01_Clamp.v (rInt ru 0) 0 1000000000000000) (law37_gap.v (l.map (kRow ns NS ru (rSl x.1 1 ++ [q'])))) = false := by
      rw [hcl]; exact decide_eq_false (by omega)
    rw [hlt]
    exact ⟨_, rfl, hnew⟩
open law37_SpreadSkew in
theorem skew_walk (ns : Rows) (a1 : Row) (es : Rows) (h16 : rLen es ≤ 16) (M : Row) (hM : KR (rSl M 9) (rl a1) (st M (rl a1))) (hm : ref03_Matches.v (rSl a1 2) (rSl M 9) = true) : w10 ns es (rl a1) (v0 ns, st M (rl a1)) = .inr () := by
  cases hd : law37_distinct.v ns with
  | false =>
    have : ∀ i q x, ∃ y, p10 ns (rl a1) i q x = .inl y := fun i q x => by
      unfold p10
      dsimp only
      rw [hd]
      generalize spread_Fits.v _ _ _ = r1
      cases r1 <;> exact ⟨_, rfl⟩
    exact walk_inv (p := p10 ns (rl a1)) (z := z10) (fun _ => True) (fun r => r = .inr ()) (fun i q x _ _ => by obtain ⟨y, hy⟩ := this i q x; exact Or.inl ⟨y, hy, trivial⟩) (fun x _ => rfl) trivial
  | true =>
    obtain ⟨l, hl, _, _⟩ := names_v (rStr (rl a1) 1) ns 0 [] List.Pairwise.nil
    have hru : rBool (rl a1) 3 = true := rfl
    have hm' : ref03_Matches.v (rSl (rl a1) 2) (rSl M 9) = true := hm
    refine walk_ind (rLen es) (p := p10 ns (rl a1)) (z := z10) (fun i x => 0 ≤ i ∧ J ns (rSl M 9) l (rl a1) (iMin (iMax (rInt (rl a1) 0) 0) 1000000000000000) i x) (fun r => r = .inr ()) (fun i q x hi hI => ?_) (fun x _ => rfl) (by omega) ⟨Int.le_refl _, hM, rfl, Int.le_refl _, fun q hq => (by cases hq), fun a _ b _ => ?_⟩
    · obtain ⟨y, h1, h2⟩ := skew_step hd hl rfl hru hm' i ⟨hI.1, by omega⟩ q x hI.2
      exact Or.inl ⟨y, h1, by have := hI.1; omega, h2⟩
    · have hlb : 0 ≤ iMin (iMax (rInt (rl a1) 0) 0) 1000000000000000 := by
        unfold iMin iMax
        split <;> split <;> omega
      show kk ns NS (rl a1) [] a - kk ns NS (rl a1) [] b ≤ _
      unfold kk
      simp; exact hlb
theorem spreadSkewV (a0 : Rows) (a1 : Row) (a2 : Rows) : law37_SpreadSkew.v a0 a1 a2 = true := by
  unfold law37_SpreadSkew.v
  rw [awakeV]
  have hg : ∀ r0 : Bool, bIte (bIte (bIte (iLt 8 (rLen a0)) true (iLt 16 (rLen a2))) true (iEq (rLen a0) 0)) true r0 = false → rLen a2 ≤ 16 := fun r0 h => by
    have g2 := bite_ff (bite_ff h)
    have g3 := bite_ff g2
    rw [g3] at g2
    have := of_decide_eq_false g2
    omega
  generalize (bif (bNot (bIte (bIte (iLt 8 (rLen a0)) true (iLt 16 (rLen a2))) true (iEq (rLen a0) 0))) then (law37_wide.v (rSl a1 2)) else default) = r0
  dsimp only
  cases hb : bIte (bIte (bIte (iLt 8 (rLen a0)) true (iLt 16 (rLen a2))) true (iEq (rLen a0) 0)) true r0 with
  | true => rfl
  | false =>
    have h16 := hg _ hb
    dsimp only [cond_false]
    generalize hM : law37_member.v ByteArray.empty ByteArray.empty = M
    have hKR : KR (rSl M 9) (law37_SpreadSkew.rl a1) (law37_SpreadSkew.st M (law37_SpreadSkew.rl a1)) := by
      rw [← hM]; exact ⟨rfl, rfl, rfl, rfl, rfl, rfl⟩
    generalize law37_heavy.v _ _ = r3
    cases r3 with
    | true => rfl
    | false =>
      cases hm : ref03_Matches.v (rSl a1 2) (rSl M 9) with
      | false => rfl
      | true =>
        rw [skew_walk a0 a1 a2 h16 M hKR hm]; rfl
theorem law37_SpreadSkew.true_ (a0 : Rows) (a1 : Row) (a2 : Rows) (h0 : Brs a0) (h1 : Br a1) (h2 : Brs a2) (ho : law37_SpreadSkew.Oct a2) : D (fun k => (law37_SpreadSkew.f k a0 a1 a2).eval) (fun u => u = true) := (law37_SpreadSkew.val a0 a1 a2 h0 h1 h2 ho).true_ (spreadSkewV a0 a1 a2)
end
end Go.Proofs.Ytohhdiifohhghaa.Ev
