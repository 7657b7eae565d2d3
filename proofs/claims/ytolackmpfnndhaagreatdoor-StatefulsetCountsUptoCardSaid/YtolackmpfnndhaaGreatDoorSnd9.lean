/- Any order; code; loops; functions. Conditions: stated at each. -/
import Derived.Test.YtolackmpfnndhaaGreatDoorSnd8
namespace Go.Proofs.YtolackmpfnndhaaGreatDoor.Ev
open Go Go.RowKit
set_option linter.unusedVariables false
set_option linter.unusedSimpArgs false
variable {P : Program}
/-- Steps, each with what it looks at. -/
inductive Ch (C : Cx) (ops : List Oper) : St → List (Nat × List (Nat × Bool)) → St → Prop
  | nil (s : St) : Ch C ops s [] s
  | cons {s s1 s' : St} {i : Nat} {l : List (Nat × List (Nat × Bool))} (h : (stepV C ops s i).eval = some s1) (k : Ch C ops s1 l s') : Ch C ops s ((i, fpV ops s i) :: l) s'
/-- Two operations that may change places. -/
def Free (ops : List Oper) (x y : Nat × List (Nat × Bool)) : Prop := ∃ a b, ops[x.1]? = some a ∧ ops[y.1]? = some b ∧ Oper.apart ops.toArray a b = true ∧ fpOk x.2 y.2 = true
theorem Ch.swap {C : Cx} {ops : List Oper} {s s' : St} {x y : Nat × List (Nat × Bool)} {l : List (Nat × List (Nat × Bool))} (h : Ch C ops s (x :: y :: l) s') (hf : Free ops x y) : Ch C ops s (y :: x :: l) s' := by
  obtain ⟨a, b, ha, hb, hap, hfp⟩ := hf
  cases h with
  | cons h1 k => cases k with
    | cons h2 k =>
      obtain ⟨r, r1, r2, r3, r4⟩ := step_swap ha hb hap h1 h2 hfp
      have := Ch.cons r1 (Ch.cons r2 k)
      rw [r3, r4] at this
      exact this
theorem Ch.front {C : Cx} {ops : List Oper} {s' : St} {y : Nat × List (Nat × Bool)} {m : List (Nat × List (Nat × Bool))} : ∀ {l : List (Nat × List (Nat × Bool))} {s : St}, Ch C ops s (l ++ y :: m) s' → (∀ x, x ∈ l → Free ops x y) → Ch C ops s (y :: (l ++ m)) s'
  | [], s, h, _ => h
  | x :: l, s, h, hf => by
    have hx := hf x (List.mem_cons_self ..)
    cases h with
    | cons h1 k =>
      have := Ch.front k (fun z hz => hf z (List.mem_cons_of_mem _ hz))
      exact Ch.swap (Ch.cons h1 this) hx
theorem Ch.inv {C : Cx} {ops : List Oper} {s s' : St} {y : Nat × List (Nat × Bool)} {l : List (Nat × List (Nat × Bool))} (h : Ch C ops s (y :: l) s') : ∃ s1, (stepV C ops s y.1).eval = some s1 ∧ Ch C ops s1 l s' := by
  cases h with
  | cons h1 k => exact ⟨_, h1, k⟩
theorem anyOk_spec {ops : List Oper} {x : Nat × List (Nat × Bool)} {i : Nat} {f : List (Nat × Bool)} (h : anyOk ops x i f = true) : (∃ b, ops[i]? = some b ∧ edgeT ops 3 b x.1 = true) ∨ Free ops x (i, f) := by
  unfold anyOk at h
  split at h
  · rename_i a b ha hb
    rw [Bool.or_eq_true, Bool.or_eq_true] at h
    rcases h with (h | h) | h
    · exact Or.inl ⟨b, hb, by unfold edgeT; rw [h]; rfl⟩
    · rw [Bool.and_eq_true] at h
      exact Or.inr ⟨a, b, ha, hb, h.1, h.2⟩
    · exact Or.inl ⟨b, hb, h⟩
  · cases h
def Pairs (ops : List Oper) (x y : Nat × List (Nat × Bool)) : Prop := x.1 < y.1 ∧ ((∃ b, ops[y.1]? = some b ∧ edgeT ops 3 b x.1 = true) ∨ Free ops x y)
theorem opsA_chain {C : Cx} {ops : List Oper} : ∀ {n i : Nat} {acc : List (Nat × List (Nat × Bool))} {s s' : St}, (opsA C ops acc (List.range' i n) s).eval = some s' → (∀ x, x ∈ acc → x.1 < i) →
    ∃ l, Ch C ops s l s' ∧ l.map (·.1) = List.range' i n ∧ l.Pairwise (Pairs ops) ∧ ∀ x, x ∈ acc → ∀ y, y ∈ l → Pairs ops x y
  | 0, i, acc, s, s', h, ha => by
    simp [opsA, T.eval] at h; subst h
    exact ⟨[], .nil s, rfl, .nil, fun x _ y hy => by cases hy⟩
  | n + 1, i, acc, s, s', h, ha => by
    rw [List.range'_succ] at h
    unfold opsA at h
    simp only [] at h
    rw [cond_eq_ite] at h
    split at h
    · rename_i hc
      obtain ⟨s1, h1, h2⟩ := T.eval_bind _ _ h
      obtain ⟨l, l1, l2, l3, l4⟩ := opsA_chain h2 (fun x hx => by
        rcases List.mem_cons.1 hx with rfl | hx
        · exact Nat.lt_succ_self _
        · exact Nat.lt_succ_of_lt (ha x hx))
      refine ⟨(i, fpV ops s i) :: l, .cons h1 l1, by rw [List.map_cons, l2, List.range'_succ], List.pairwise_cons.2 ⟨fun y hy => l4 _ (List.mem_cons_self ..) y hy, l3⟩, fun x hx y hy => ?_⟩
      rcases List.mem_cons.1 hy with rfl | hy
      · exact ⟨ha x hx, anyOk_spec (List.all_eq_true.1 hc x hx)⟩
      · exact l4 x (List.mem_cons_of_mem _ hx) y hy
    · cases h
theorem edge_listed {ops : List Oper} {listed : Array Bool} {i : Nat} {b : Oper} (hb : ops[i]? = some b) (hr : i ∈ Region.ready .any ops.toArray listed) : i < ops.length ∧ listed.getD i true = false ∧ ∀ x, edgeB b x = true → listed.getD x false = true := by
  unfold Region.ready at hr
  rw [List.mem_filter] at hr
  obtain ⟨h1, h2⟩ := hr
  have hlt : i < ops.length := by simpa using List.mem_range.1 h1
  have hb' : ops.toArray[i]? = some b := by simpa using hb
  rw [hb'] at h2
  simp only [Option.map_some, Option.getD_some, Bool.and_eq_true, Bool.not_eq_true'] at h2
  refine ⟨hlt, h2.1, fun x hx => ?_⟩
  unfold edgeB at hx
  rw [List.any_eq_true] at hx
  obtain ⟨e, he, hx⟩ := hx
  rw [Bool.and_eq_true] at hx
  have := Array.all_eq_true_iff_forall_mem.1 h2.2 e (Array.mem_toList_iff.1 he)
  rw [hx.2] at this
  have e1 := Nat.eq_of_beq_eq_true hx.1
  rw [e1] at this
  simpa using this
/-- What has run is closed under the edges. -/
def Closed (ops : List Oper) (listed : Array Bool) : Prop := ∀ (j : Nat) (b : Oper), listed.getD j false = true → ops[j]? = some b → ∀ x, edgeB b x = true → listed.getD x false = true
theorem edgeT_listed {ops : List Oper} {listed : Array Bool} (hc : Closed ops listed) : ∀ (n : Nat) (b : Oper), (∀ x, edgeB b x = true → listed.getD x false = true) → ∀ x, edgeT ops n b x = true → listed.getD x false = true
  | 0, b, h, x, hx => h x hx
  | n + 1, b, h, x, hx => by
    unfold edgeT at hx
    rw [Bool.or_eq_true] at hx
    rcases hx with hx | hx
    · exact h x hx
    · rw [List.any_eq_true] at hx
      obtain ⟨e, he, hx⟩ := hx
      rw [Bool.and_eq_true] at hx
      obtain ⟨h1, h2⟩ := hx
      split at h2
      · rename_i p hp
        have hl : listed.getD e.on false = true := h e.on (by
          unfold edgeB
          rw [List.any_eq_true]
          exact ⟨e, he, by rw [h1]; simp⟩)
        exact edgeT_listed hc n p (fun z hz => hc e.on p hl hp z hz) x h2
      · cases h2
theorem getD_setIf_b (l : Array Bool) (i j : Nat) (d : Bool) : (l.setIfInBounds i true).getD j d = if i = j ∧ i < l.size then true else l.getD j d := by
  rw [Array.getD_eq_getD_getElem?, Array.getD_eq_getD_getElem?, Array.getElem?_setIfInBounds]
  by_cases h : i = j
  · subst h
    by_cases h2 : i < l.size <;> simp [h2]
  · rw [if_neg h, if_neg (fun e => h e.1)]
theorem opsA_sound {C : Cx} (hC : CxOk C) {w0 : World} {F0 : Fz} {ops : List Oper} (hg : anyGuard ops = false ∨ guardsOk ops = true) (he : edgesOk ops = true) {Q : Exit → Act → World → Prop} {s' : St}
    (hQ : ∀ a' E', Inv C.P w0 F0 E' → (∃ D, RS C.P ops D E' a' s'.ts) → E'.hs = s'.hs → Q .normal a' E'.w) :
    ∀ (n : Nat) {listed : Array Bool} {rem : List (Nat × List (Nat × Bool))} {E : En} {a : Act} {s : St}, rem.length = n → listed.size = ops.length → (∀ i, i ∈ rem.map (·.1) ↔ i < ops.length ∧ listed.getD i true = false) → Closed ops listed → Ch C ops s rem s' → rem.Pairwise (Pairs ops) →
      Inv C.P w0 F0 E → RS C.P ops (fun j => listed.getD j false = true) E a s.ts → E.hs = s.hs → wpAny C.P .any ops.toArray Q n listed a E.w
  | 0, listed, rem, E, a, s, hn, hsz, hrem, hcl, hch, hp, hI, h, hhs => by
    have : rem = [] := List.eq_nil_of_length_eq_zero hn
    subst this
    cases hch
    refine ⟨?_, hQ a E hI ⟨_, h⟩ hhs⟩
    apply List.eq_nil_iff_forall_not_mem.2
    intro i hi
    have hlt : i < ops.length := by
      unfold Region.ready at hi
      rw [List.mem_filter] at hi
      simpa using List.mem_range.1 hi.1
    obtain ⟨h1, h2, _⟩ := edge_listed (List.getElem?_eq_getElem hlt) hi
    have := (hrem i).2 ⟨h1, h2⟩
    simp at this
  | n + 1, listed, rem, E, a, s, hn, hsz, hrem, hcl, hch, hp, hI, h, hhs => by
    refine ⟨fun hr => ?_, fun i hi => ?_⟩
    · exfalso
      match rem, hn with
      | y :: l, _ =>
        have hy := (hrem y.1).1 (by simp)
        have hyo : ops[y.1]? = some ops[y.1] := List.getElem?_eq_getElem hy.1
        have : y.1 ∈ Region.ready .any ops.toArray listed := by
          unfold Region.ready
          rw [List.mem_filter]
          refine ⟨List.mem_range.2 (by simpa using hy.1), ?_⟩
          have hyo' : ops.toArray[y.1]? = some ops[y.1] := by simp [hyo]
          rw [hyo', hy.2]
          simp only [Option.map_some, Option.getD_some, Bool.not_false, Bool.true_and]
          rw [Array.all_eq_true_iff_forall_mem]
          intro e hee
          cases hbd : Region.binds .any e with
          | false => rfl
          | true =>
            have h1 := List.all_eq_true.1 he y.1 (List.mem_range.2 hy.1)
            rw [hyo] at h1
            have h2 := List.all_eq_true.1 h1 e (Array.mem_toList_iff.2 hee)
            rw [hbd] at h2
            have h3 : e.on < y.1 := by simpa [Nat.blt_eq] using h2
            cases hl : listed.getD e.on false with
            | true => simp
            | false =>
              exfalso
              have h4 : listed.getD e.on true = false := by
                rw [Array.getD_eq_getD_getElem?] at hl ⊢
                have : e.on < listed.size := by omega
                simp [this] at hl ⊢; exact hl
              have h5 := (hrem e.on).2 ⟨by omega, h4⟩
              rw [List.mem_map] at h5
              obtain ⟨z, hz, hz2⟩ := h5
              rcases List.mem_cons.1 hz with rfl | hz
              · omega
              · have := ((List.pairwise_cons.1 hp).1 z hz).1
                omega
        rw [hr] at this
        cases this
    · have hlt : i < ops.length := by
        unfold Region.ready at hi
        rw [List.mem_filter] at hi
        simpa using List.mem_range.1 hi.1
      obtain ⟨o, ho⟩ : ∃ o, ops[i]? = some o := ⟨_, List.getElem?_eq_getElem hlt⟩
      obtain ⟨h1, h2, h3⟩ := edge_listed ho hi
      have hmem := (hrem i).2 ⟨h1, h2⟩
      rw [List.mem_map] at hmem
      obtain ⟨y, hy, rfl⟩ := hmem
      obtain ⟨l1, l2, rfl⟩ := List.append_of_mem hy
      have hfree : ∀ x, x ∈ l1 → Free ops x y := by
        intro x hx
        have hpr := (List.pairwise_append.1 hp).2.2 x hx y (List.mem_cons_self ..)
        rcases hpr.2 with ⟨b, hb, hed⟩ | hf
        · exfalso
          rw [ho] at hb; injection hb with hb; subst hb
          have h4 := edgeT_listed hcl 3 o h3 x.1 hed
          have h5 := ((hrem x.1).1 (by simp; exact Or.inl ⟨x.2, hx⟩)).2
          have h6 := ((hrem x.1).1 (by simp; exact Or.inl ⟨x.2, hx⟩)).1
          rw [Array.getD_eq_getD_getElem?] at h4 h5
          have : x.1 < listed.size := by omega
          simp [this] at h4 h5
          rw [h4] at h5; cases h5
        · exact hf
      have hch' := hch.front hfree
      have hi0 : listed.getD y.1 false ≠ true := by
        intro e
        rw [Array.getD_eq_getD_getElem?] at e h2
        have : y.1 < listed.size := by omega
        simp [this] at e h2
        rw [e] at h2; cases h2
      obtain ⟨s1, q1, q2⟩ := hch'.inv
      · refine step_sound hC hI h hhs hi0 (fun o' g ho' hgd => ?_) q1 (fun a' E' k1 k2 k3 => ?_)
        · obtain ⟨_, g2, g3⟩ := guardsOk_spec hg ho' hgd
          rw [ho] at ho'; injection ho' with ho'; subst ho'
          exact ⟨h3 _ g3, g2⟩
        · refine opsA_sound hC hg he hQ n (rem := l1 ++ l2) (by simp at hn ⊢; omega) (by simp [hsz]) (fun j => ?_) (fun j b hj hb x hx => ?_) q2 ?_ k1 ?_ k3
          · rw [getD_setIf_b]
            have hnd : ∀ x, x ∈ l1 ++ l2 → x.1 ≠ y.1 := by
              intro x hx
              rcases List.mem_append.1 hx with hx | hx
              · have := ((List.pairwise_append.1 hp).2.2 x hx y (List.mem_cons_self ..)).1; omega
              · have := ((List.pairwise_cons.1 (List.pairwise_append.1 hp).2.1).1 x hx).1; omega
            constructor
            · intro hj
              rw [List.mem_map] at hj
              obtain ⟨x, hx, rfl⟩ := hj
              have hne := hnd x hx
              have := (hrem x.1).1 (by
                rw [List.mem_map]
                refine ⟨x, ?_, rfl⟩
                rcases List.mem_append.1 hx with hx | hx
                · exact List.mem_append.2 (Or.inl hx)
                · exact List.mem_append.2 (Or.inr (List.mem_cons_of_mem _ hx)))
              rw [if_neg (fun e => hne e.1.symm)]
              exact this
            · intro hj
              have hne : y.1 ≠ j := by
                intro e
                rw [if_pos ⟨e, by omega⟩] at hj
                exact absurd hj.2 (by simp)
              rw [if_neg (fun e => hne e.1)] at hj
              have := (hrem j).2 hj
              rw [List.mem_map] at this ⊢
              obtain ⟨x, hx, rfl⟩ := this
              refine ⟨x, ?_, rfl⟩
              rcases List.mem_append.1 hx with hx | hx
              · exact List.mem_append.2 (Or.inl hx)
              · rcases List.mem_cons.1 hx with rfl | hx
                · exact absurd rfl hne
                · exact List.mem_append.2 (Or.inr hx)
          · rw [getD_setIf_b] at hj ⊢
            by_cases hyx : y.1 = x
            · rw [if_pos ⟨hyx, by rw [hsz]; exact hlt⟩]
            · rw [if_neg (fun e => hyx e.1)]
              by_cases hyj : y.1 = j
              · subst hyj
                rw [ho] at hb; injection hb with hb; subst hb
                exact h3 x hx
              · rw [if_neg (fun e => hyj e.1)] at hj
                exact hcl j b hj hb x hx
          · rw [List.pairwise_append] at hp ⊢
            refine ⟨hp.1, (List.pairwise_cons.1 hp.2.1).2, fun x hx z hz => hp.2.2 x hx z (List.mem_cons_of_mem _ hz)⟩
          · have e : (fun j => listed.getD j false = true ∨ j = y.1) = fun j => (listed.setIfInBounds y.1 true).getD j false = true := by
              funext j
              apply propext
              rw [getD_setIf_b]
              by_cases hj : y.1 = j
              · rw [if_pos ⟨hj, by omega⟩]; exact ⟨fun _ => rfl, fun _ => Or.inr hj.symm⟩
              · rw [if_neg (fun e => hj e.1)]; exact ⟨fun h => h.resolve_right (fun e => hj e.symm), Or.inl⟩
            rw [e] at k2; exact k2
end Go.Proofs.YtolackmpfnndhaaGreatDoor.Ev
