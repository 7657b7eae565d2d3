/- The plain laws of spread: the total. Conditions: stated at each. -/
import Derived.Test.YtohhdiifohhghaaL37b
namespace Go.Proofs.Ytohhdiifohhghaa.Ev
open Go Go.RowKit
set_option linter.unusedVariables false
set_option linter.unusedSimpArgs false
set_option maxRecDepth 100000
noncomputable section
theorem cnt_eq (P : Row → Bool) : ∀ (es : Rows) (n : Int), 0 ≤ n → n + es.length ≤ 140737488351232 → cnt P es n = n + (es.countP P : Int)
  | [], n, _, _ => by simp [cnt]
  | q :: es, n, h0, h1 => by
    rw [cnt_cons, List.countP_cons]
    rw [List.length_cons] at h1
    cases hq : P q with
    | true =>
      have e : iAdd .i64 n 1 = n + 1 := iAdd_one h0 (by omega)
      dsimp only [cond_true]
      rw [e, cnt_eq P es (n + 1) (by omega) (by omega)]
      simp; omega
    | false =>
      dsimp only [cond_false]
      rw [cnt_eq P es n h0 (by omega)]
      simp
/-- Counted for all names. -/
def tot (P : ByteArray → Row → Bool) (es : Rows) (l : List ByteArray) : Nat := (l.map (fun d => es.countP (P d))).sum
theorem tot_cons (P : ByteArray → Row → Bool) (q : Row) (es : Rows) : ∀ (l : List ByteArray), tot P (q :: es) l = tot P es l + l.countP (fun d => P d q)
  | [] => rfl
  | d :: l => by
    have h1 : tot P (q :: es) (d :: l) = (q :: es).countP (P d) + tot P (q :: es) l := by simp [tot]
    have h2 : tot P es (d :: l) = es.countP (P d) + tot P es l := by simp [tot]
    rw [h1, h2, tot_cons P q es l, List.countP_cons, List.countP_cons]
    omega
theorem tot_eq {P : ByteArray → Row → Bool} {T : Row → Bool} {l : List ByteArray} (h : ∀ q, l.countP (fun d => P d q) = if T q then 1 else 0) : ∀ (es : Rows), tot P es l = es.countP T
  | [] => by
    unfold tot
    have : l.map (fun d => ([] : Rows).countP (P d)) = l.map (fun _ => 0) := List.map_congr_left (fun d _ => rfl)
    rw [this]
    clear this h
    show (l.map (fun _ => 0)).sum = 0
    induction l with
    | nil => rfl
    | cons d l ih => rw [List.map_cons, List.sum_cons, ih]
  | q :: es => by rw [tot_cons, tot_eq h es, h, List.countP_cons]
theorem one_name (x : ByteArray) : ∀ {l : List ByteArray}, l.Nodup → x ∈ l → l.countP (fun d => sEq x d) = 1
  | [], _, h => by cases h
  | d :: l, h, hm => by
    obtain ⟨h1, h2⟩ := List.nodup_cons.1 h
    rw [List.countP_cons]
    by_cases hx : x = d
    · subst hx
      have : l.countP (fun d => sEq x d) = 0 := List.countP_eq_zero.2 (fun d hd he => h1 (by rw [sEq_iff.1 he]; exact hd))
      rw [this, sEq_refl]; rfl
    · rcases List.mem_cons.1 hm with hm | hm
      · exact absurd hm hx
      · rw [one_name x h2 hm, sEq_ff.2 hx]; rfl
theorem sum_eq (k : ByteArray → Nat) (a0 : Row) (f : ByteArray → Row) (hf : ∀ d, rInt (f d) 1 = (k d : Int)) : ∀ (l : List ByteArray) (x : Int), 0 ≤ x → x + ((l.map k).sum : Nat) ≤ 140737488351232 → (l.map f).foldl (fun x q => iAdd .i64 x (rInt q 1)) x = x + ((l.map k).sum : Nat)
  | [], x, _, _ => by simp
  | d :: l, x, h0, h1 => by
    have e1 : ((d :: l).map k).sum = k d + (l.map k).sum := by simp
    rw [e1] at h1 ⊢
    rw [List.map_cons, List.foldl_cons, hf]
    have e : iAdd .i64 x (k d : Int) = x + k d := IntWalk.i64_in _ (by omega)
    rw [e, sum_eq k a0 f hf l (x + k d) (by omega) (by omega)]
    omega
theorem w17_eq (t s : ByteArray) : ∀ (ns : Rows), law37_SpreadTotal.w17 t ns s = match ns.find? (nameIs s) with | some q => (dm t q).2 | none => false
  | [] => rfl
  | q :: ns => by
    show law37_SpreadTotal.f17 t s q (law37_SpreadTotal.w17 t ns s) = _
    rw [w17_eq t s ns, List.find?_cons]
    unfold law37_SpreadTotal.f17 nameIs
    cases sEq (rStr q 2) s <;> rfl
def Pq (a0 : Row) (a1 : ByteArray) (a2 : Row) (d : ByteArray) (q : Row) : Bool := ref37_Counts.okQ a1 d (et 26 (et 26 (et 26 a0))) (et 29 (et 29 (et 29 a2))) q
theorem Pq_eq (a0 : Row) (a1 : ByteArray) (a2 : Row) (d : ByteArray) (q : Row) : Pq a0 a1 a2 d q = ((ref37_domain.v (et 26 a0) (rStr q 13) (rStr (et 29 a2) 1)).2 && sEq (ref37_domain.v (et 26 a0) (rStr q 13) (rStr (et 29 a2) 1)).1 d && ref33_Active.v (et 48 q) && sEq (rStr q 1) a1 && ref03_Matches.v (rSl (et 29 a2) 2) (rSl q 9)) := by
  have hD : ref37_domain.v (et 26 (et 26 (et 26 (et 26 a0)))) (rStr q 13) (rStr (et 29 (et 29 (et 29 a2))) 1) = ref37_domain.v (et 26 a0) (rStr q 13) (rStr (et 29 a2) 1) := by
    rw [find_dom, find_dom]; rfl
  have hm : ref03_Matches.v (rSl (et 29 (et 29 (et 29 a2))) 2) (rSl q 9) = ref03_Matches.v (rSl (et 29 a2) 2) (rSl q 9) := rfl
  unfold Pq ref37_Counts.okQ
  dsimp only
  rw [hD, hm, bite4]
theorem okT_eq (a0 : Row) (a1 : ByteArray) (a2 : Row) (q : Row) : law37_SpreadTotal.okT a1 (et 26 a0) (et 29 a2) q = ((ref37_domain.v (et 26 a0) (rStr q 13) (rStr (et 29 a2) 1)).2 && ref33_Active.v (et 48 q) && sEq (rStr q 1) a1 && ref03_Matches.v (rSl (et 29 a2) 2) (rSl q 9)) := by
  have hv0 : rSl (et 26 a0) 0 = rSl a0 0 := by kernel_rfl
  unfold law37_SpreadTotal.okT
  rw [bite3, hv0, w17_eq, find_dom]
  cases (rSl a0 0).find? (nameIs (rStr q 13)) <;> rfl
theorem hT (a0 : Row) (a1 : ByteArray) (a2 : Row) (l : List ByteArray) (h2 : Asc l) (h3 : ∀ x, x ∈ l ↔ (rSl (et 26 a0) 0).any (isD (rStr (et 29 a2) 1) x) = true) (q : Row) : l.countP (fun d => Pq a0 a1 a2 d q) = if law37_SpreadTotal.okT a1 (et 26 a0) (et 29 a2) q then 1 else 0 := by
  have hv0 : rSl (et 26 a0) 0 = rSl a0 0 := by kernel_rfl
  rw [okT_eq]
  simp only [Pq_eq]
  have hx : (ref37_domain.v (et 26 a0) (rStr q 13) (rStr (et 29 a2) 1)).2 = true → (ref37_domain.v (et 26 a0) (rStr q 13) (rStr (et 29 a2) 1)).1 ∈ l := fun hd => by
    rw [find_dom] at hd ⊢
    cases hf : (rSl a0 0).find? (nameIs (rStr q 13)) with
    | none => rw [hf] at hd; cases hd
    | some n =>
      rw [hf] at hd
      have hd' : (dm (rStr (et 29 a2) 1) n).2 = true := hd
      rw [h3, hv0]
      refine List.any_eq_true.2 ⟨n, List.mem_of_find?_eq_some hf, ?_⟩
      unfold isD
      rw [sEq_refl, Bool.and_true]; exact hd'
  generalize ref37_domain.v (et 26 a0) (rStr q 13) (rStr (et 29 a2) 1) = D at hx ⊢
  generalize ref33_Active.v (et 48 q) = b
  generalize sEq (rStr q 1) a1 = c
  generalize ref03_Matches.v (rSl (et 29 a2) 2) (rSl q 9) = m
  cases hd : D.2 with
  | false => simp
  | true =>
    have := one_name D.1 h2.nodup (hx hd)
    cases b <;> cases c <;> cases m <;> simp [this]
theorem totalCore (a0 : Row) (a1 : ByteArray) (a2 : Row) (h0 : Br a0) (ha1 : Sz 140737488351232 a1) (ha2 : Br a2) (hn : rLen (rSl (et 26 a0) 0) ≤ 1048576) : ∃ n : Int, law37_SpreadTotal.w6 (spread_Counts.v (et 26 a0) a1 (et 29 a2)) = .inr n ∧ law37_SpreadTotal.w12 a1 (et 26 a0) (et 29 a2) = n := by
  have hN : (rSl a0 1).length ≤ 140737488351232 := (h0.sl 1).1
  have hv1 : rSl (et 26 a0) 1 = rSl a0 1 := by kernel_rfl
  have hv0 : rSl (et 26 a0) 0 = rSl a0 0 := by kernel_rfl
  rw [countsV_eq]
  obtain ⟨l, h1, h2, h3⟩ := refCounts_v (et 26 a0) a1 (et 29 a2)
  rw [h1]
  have hlen : (l.map (cRow (et 26 a0) a1 (et 29 a2))).length ≤ 140737488351232 := by
    rw [← h1]; exact (ref37_Counts.val (et 26 a0) a1 (et 29 a2) (Br.eta h0 _) ha1 (Br.eta ha2 _) hn).post.1
  have hrow : ∀ d, rInt (cRow (et 26 a0) a1 (et 29 a2) d) 1 = ((rSl a0 1).countP (Pq a0 a1 a2 d) : Int) := fun d => by
    have e : rInt (cRow (et 26 a0) a1 (et 29 a2) d) 1 = cnt (Pq a0 a1 a2 d) (rSl (et 26 a0) 1) 0 := rfl
    rw [e, hv1, cnt_eq _ _ 0 (by omega) (by omega)]
    omega
  have hpw : (l.map (cRow (et 26 a0) a1 (et 29 a2))).Pairwise (fun a b => sLt (rStr a 0) (rStr b 0) = true) := List.pairwise_map.2 h2
  have htot := tot_eq (hT a0 a1 a2 l h2 h3) (rSl a0 1)
  have hle : (rSl a0 1).countP (law37_SpreadTotal.okT a1 (et 26 a0) (et 29 a2)) ≤ (rSl a0 1).length := List.countP_le_length
  have hw12 : law37_SpreadTotal.w12 a1 (et 26 a0) (et 29 a2) = ((rSl a0 1).countP (law37_SpreadTotal.okT a1 (et 26 a0) (et 29 a2)) : Int) := by
    have e : law37_SpreadTotal.w12 a1 (et 26 a0) (et 29 a2) = cnt (law37_SpreadTotal.okT a1 (et 26 a0) (et 29 a2)) (rSl (et 26 a0) 1) 0 :=
      walk_fold (fun n q => bif law37_SpreadTotal.okT a1 (et 26 a0) (et 29 a2) q then iAdd .i64 n 1 else n) (fun i q x _ => by
        unfold law37_SpreadTotal.p12
        cases law37_SpreadTotal.okT a1 (et 26 a0) (et 29 a2) q <;> rfl)
    rw [e, hv1, cnt_eq _ _ 0 (by omega) (by omega)]; omega
  have hw6 : law37_SpreadTotal.w6 (l.map (cRow (et 26 a0) a1 (et 29 a2))) = .inr (((rSl a0 1).countP (law37_SpreadTotal.okT a1 (et 26 a0) (et 29 a2)) : Nat) : Int) := by
    have e : law37_SpreadTotal.w6 (l.map (cRow (et 26 a0) a1 (et 29 a2))) = walk (fun i q x => (.inl (iAdd .i64 x (rInt q 1)) : Int ⊕ (Bool ⊕ Int))) (fun x => .inr x) (l.map (cRow (et 26 a0) a1 (et 29 a2))) 0 0 := by
      refine walk_at (fun i x hi hlt hmem => ?_)
      obtain ⟨d, _, hd⟩ := List.mem_map.1 hmem
      have hpos : iLt (rInt (rAt (l.map (cRow (et 26 a0) a1 (et 29 a2))) i) 1) 0 = false := by
        rw [← hd, hrow]; exact decide_eq_false (by omega)
      unfold law37_SpreadTotal.p6
      rw [hpos]
      cases hi0 : iLt 0 i with
      | false => rfl
      | true =>
        have hi1 : 0 < i := of_decide_eq_true hi0
        have hlen2 : i < ((l.map (cRow (et 26 a0) a1 (et 29 a2))).length : Int) := hlt
        have hs : iSub .i64 i 1 = i - 1 := IntWalk.i64_in _ (by omega)
        rw [hs]
        have hp := List.pairwise_iff_getElem.1 hpw (i - 1).toNat i.toNat (by omega) (by omega) (by omega)
        have g1 : rAt (l.map (cRow (et 26 a0) a1 (et 29 a2))) i = (l.map (cRow (et 26 a0) a1 (et 29 a2)))[i.toNat]'(by omega) := by
          unfold rAt
          rw [List.getD_eq_getElem?_getD, List.getElem?_eq_getElem (by omega)]; rfl
        have g2 : rAt (l.map (cRow (et 26 a0) a1 (et 29 a2))) (i - 1) = (l.map (cRow (et 26 a0) a1 (et 29 a2)))[(i - 1).toNat]'(by omega) := by
          unfold rAt
          rw [List.getD_eq_getElem?_getD, List.getElem?_eq_getElem (by omega)]; rfl
        rw [← g1, ← g2] at hp
        rw [sLt_asymm hp]
        have hne : sEq (rStr (rAt (l.map (cRow (et 26 a0) a1 (et 29 a2))) i) 0) (rStr (rAt (l.map (cRow (et 26 a0) a1 (et 29 a2))) (i - 1)) 0) = false := sEq_ff.2 (fun e => sLt_ne hp e.symm)
        rw [hne]; rfl
    rw [e, walk_fold (fun x q => iAdd .i64 x (rInt q 1)) (fun i q x h => rfl)]
    have hs := sum_eq (fun d => (rSl a0 1).countP (Pq a0 a1 a2 d)) a0 (cRow (et 26 a0) a1 (et 29 a2)) hrow l 0 (by omega) (by
      show (0 : Int) + (tot (Pq a0 a1 a2) (rSl a0 1) l : Nat) ≤ _
      rw [htot]; omega)
    rw [hs]
    show Sum.inr ((0 : Int) + (tot (Pq a0 a1 a2) (rSl a0 1) l : Nat)) = _
    rw [htot, Int.zero_add]
  exact ⟨_, hw6, hw12⟩
theorem spreadTotalV (a0 : Row) (a1 : ByteArray) (a2 : Row) (h0 : Br a0) (ha1 : Sz 140737488351232 a1) (ha2 : Br a2) : law37_SpreadTotal.v a0 a1 a2 = true := by
  unfold law37_SpreadTotal.v
  rw [awakeV]
  generalize hr : law37_heavy.v _ _ = r0
  dsimp only
  cases r0 with
  | true => rfl
  | false =>
    obtain ⟨n, e1, e2⟩ := totalCore a0 a1 a2 h0 ha1 ha2 (heavy_small hr).1
    rw [e1]
    dsimp only [Sum.elim]
    rw [e2, iEq_refl]
    cases bIte false true (bif bNot false then law37_wide.v (rSl a2 2) else default) <;> rfl
theorem law37_SpreadTotal.true_ (a0 : Row) (a1 : ByteArray) (a2 : Row) (h0 : Br a0) (h1 : Sz 140737488351232 a1) (h2 : Br a2) : D (fun k => (law37_SpreadTotal.f k a0 a1 a2).eval) (fun u => u = true) := (law37_SpreadTotal.val a0 a1 a2 h0 h1 h2).true_ (spreadTotalV a0 a1 a2 h0 h1 h2)
end
end Go.Proofs.Ytohhdiifohhghaa.Ev
