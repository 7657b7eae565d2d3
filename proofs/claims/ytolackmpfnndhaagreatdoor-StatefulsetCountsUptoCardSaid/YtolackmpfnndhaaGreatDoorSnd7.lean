/- Regions: operations in their order and in any order. Conditions: stated at each. -/
import Derived.Test.YtolackmpfnndhaaGreatDoorSnd6
namespace Go.Proofs.YtolackmpfnndhaaGreatDoor.Ev
open Go Go.RowKit
set_option linter.unusedVariables false
set_option linter.unusedSimpArgs false
variable {P : Program}
theorem yielded_of {ops : List Oper} {tmps : Array Value} {j d : Nat} {b : Bool} (hd : (ops[j]?).bind (·.dst) = some d) (hv : tmps.getD d undef = .bool b) : yielded ops.toArray tmps j = some b := by
  unfold yielded
  have e : (ops.toArray[j]?).bind (·.dst) = some d := by simpa using hd
  rw [e]
  rw [Array.getD_eq_getD_getElem?] at hv
  cases hq : tmps[d]? with
  | none => rw [hq] at hv; cases hv
  | some u => rw [hq] at hv; simp at hv; subst hv; simp [hq]
theorem yielded_undef {ops : List Oper} {tmps : Array Value} {j d : Nat} (hd : (ops[j]?).bind (·.dst) = some d) (hv : tmps.getD d undef = undef) : yielded ops.toArray tmps j = none := by
  unfold yielded
  have e : (ops.toArray[j]?).bind (·.dst) = some d := by simpa using hd
  rw [e]
  rw [Array.getD_eq_getD_getElem?] at hv
  cases hq : tmps[d]? with
  | none => simp [hq]
  | some u => rw [hq] at hv; simp at hv; subst hv; simp [hq, undef]
theorem labOf_spec {E : En} {ops : List Oper} {D : Nat → Prop} {a : Act} {ts : List V} (h : RS P ops D E a ts) {o : Oper} {L : List (Nat × Bool)} {c : Bool} (hl : labOf ops ts o.guard = some (L, c)) (hg : ∀ g, o.guard = some g → D g.1 ∧ oneDst ops g.1 = true) :
    (Region.wanted o (yielded ops.toArray a.tmps) = true ↔ holds ops a.tmps L) ∧ (holds ops a.tmps L → c = true) ∧ (∀ p, p ∈ L → D p.1 ∧ oneDst ops p.1 = true) ∧ (L = [] ↔ o.guard = none) := by
  unfold labOf at hl
  cases hgd : o.guard with
  | none =>
    rw [hgd] at hl
    simp at hl
    obtain ⟨rfl, rfl⟩ := hl
    exact ⟨⟨fun _ p hp => (by cases hp), fun _ => (by simp [Region.wanted, hgd])⟩, fun _ => rfl, fun p hp => (by cases hp), (by simp)⟩
  | some g =>
    obtain ⟨j, w⟩ := g
    obtain ⟨g1, g2⟩ := hg _ hgd
    rw [hgd] at hl
    simp only [] at hl
    have hwant : Region.wanted o (yielded ops.toArray a.tmps) = (yielded ops.toArray a.tmps j == some w) := by simp [Region.wanted, hgd]
    split at hl
    · cases hl
    · rename_i d hd
      split at hl
      · rename_i b hb
        simp at hl
        obtain ⟨rfl, rfl⟩ := hl
        have hv := h.vals d
        rw [hb] at hv
        have hy := yielded_of hd (rep_bool_inv hv)
        refine ⟨?_, fun hh => ?_, fun p hp => ?_, by simp⟩
        · rw [hwant, hy]
          constructor
          · intro e p hp
            simp at hp; subst hp
            have : b = w := by simpa using e
            rw [hy, this]
          · intro hh
            have := hh (j, w) (by simp)
            rw [hy] at this
            simpa using this
        · have := hh (j, w) (by simp)
          rw [hy] at this
          injection this with this
          subst this
          cases b <;> rfl
        · simp at hp; subst hp; exact ⟨g1, g2⟩
      · rename_i c' L' b hb
        simp at hl
        obtain ⟨rfl, rfl⟩ := hl
        have hv := h.vals d
        rw [hb] at hv
        have hlab := h.labs d _ _ _ hb
        refine ⟨?_, fun hh => ?_, fun p hp => ?_, by simp⟩
        · rw [hwant]
          constructor
          · intro e
            have e' : yielded ops.toArray a.tmps j = some w := by simpa using e
            have hL' : holds ops a.tmps L' := by
              rcases Classical.em (holds ops a.tmps L') with h1 | h1
              · exact h1
              · rw [yielded_undef hd (hv.2 h1)] at e'; cases e'
            intro p hp
            rcases List.mem_cons.1 hp with rfl | hp
            · exact e'
            · exact hL' p hp
          · intro hh
            have := hh (j, w) (by simp)
            rw [this]; simp
        · have hL' : holds ops a.tmps L' := fun p hp => hh p (List.mem_cons_of_mem _ hp)
          obtain ⟨k1, k2⟩ := hv.1 hL'
          have := hh (j, w) (by simp)
          rw [yielded_of hd (rep_bool_inv k2)] at this
          injection this with this
          subst this
          rw [k1]
          cases b <;> rfl
        · rcases List.mem_cons.1 hp with rfl | hp
          · exact ⟨g1, g2⟩
          · exact hlab.2.1 p hp
      · cases hl
theorem callV_guarded {C : Cx} {p : Nat × Bool} {L : List (Nat × Bool)} {c : Bool} {s : St} {dst : Option Nat} {f : Nat} {xs caps : List V} {dl : Dl} (h : (callV C s (p :: L) c dst f xs caps).eval = some dl) : dl.b = none := by
  unfold callV at h
  rw [cond_eq_ite] at h
  split at h
  · split at h
    · rename_i M q hM
      cases hM
    · split at h
      · split at h
        · obtain ⟨r, h1, h2⟩ := T.eval_bind _ _ h
          simp [T.eval] at h2; rw [← h2]
        · cases h
      · cases h
  · cases h
theorem clearV_guarded {C : Cx} {p : Nat × Bool} {L : List (Nat × Bool)} {s : St} {dst : Option Nat} {cl : Call} {dl : Dl} (h : (clearV C s (p :: L) dst cl).eval = some dl) : dl.b = none := by
  unfold clearV at h
  split at h
  · contradiction
  · cases h
theorem opD_guarded {C : Cx} {ops : List Oper} {p : Nat × Bool} {L : List (Nat × Bool)} {c : Bool} {s : St} {o : Oper} {dl : Dl} (h : (opD C ops (p :: L) c s o).eval = some dl) : dl.b = none := by
  unfold opD at h
  split at h
  · have := (hold_eval h).1; rw [← this]
  · split at h
    · contradiction
    · contradiction
    · split at h
      · split at h
        · rw [cond_eq_ite] at h
          split at h
          · split at h
            · split at h
              · contradiction
              · simp [T.eval] at h; rw [← h]
            · cases h
          · cases h
        · cases h
      · cases h
    · contradiction
    · contradiction
    · split at h
      · split at h
        · contradiction
        · cases h
      · split at h
        · exact callV_guarded h
        · cases h
      · rw [cond_eq_ite] at h
        split at h
        · exact clearV_guarded h
        · cases h
    · unfold mapD at h
      split at h
      · split at h
        · contradiction
        · cases h
      · split at h
        · contradiction
        · cases h
      · split at h
        · contradiction
        · cases h
      · cases h
theorem wpOp_left {ops : Array Oper} {Q : Exit → Act → World → Prop} {i : Nat} {o : Oper} {K : Act → World → Prop} {a : Act} {w : World} (ho : ops[i]? = some o) (h1 : Region.wanted o (yielded ops a.tmps) = true → o.wp P a w K Q) (h2 : Region.wanted o (yielded ops a.tmps) = false → K (a.put o.dst undef) w) : wpOp P ops Q i K a w := by
  unfold wpOp
  rw [ho]
  simp only []
  cases hw : Region.wanted o (yielded ops a.tmps) with
  | true => rw [if_pos rfl]; exact Or.inl (h1 hw)
  | false => rw [if_neg (by simp)]; exact h2 hw
theorem step_sound {C : Cx} (hC : CxOk C) {w0 : World} {F0 : Fz} {E : En} (hI : Inv C.P w0 F0 E) {ops : List Oper} {D : Nat → Prop} {a : Act} {s s' : St} (h : RS C.P ops D E a s.ts) (hhs : E.hs = s.hs) {i : Nat} (hi : ¬ D i)
    (hg : ∀ o g, ops[i]? = some o → o.guard = some g → D g.1 ∧ oneDst ops g.1 = true) (hs : (stepV C ops s i).eval = some s') {K : Act → World → Prop} {Q : Exit → Act → World → Prop}
    (hK : ∀ a' E', Inv C.P w0 F0 E' → RS C.P ops (fun j => D j ∨ j = i) E' a' s'.ts → E'.hs = s'.hs → K a' E'.w) : wpOp C.P ops.toArray Q i K a E.w := by
  unfold stepV at hs
  split at hs
  · cases hs
  · rename_i o ho
    split at hs
    · cases hs
    · rename_i p hp
      obtain ⟨L, c⟩ := p
      obtain ⟨dl, h1, h2⟩ := T.eval_bind _ _ hs
      simp [T.eval] at h2
      subst h2
      obtain ⟨q1, q2, q3, q4⟩ := labOf_spec h hp (fun g hgd => hg o g ho hgd)
      refine wpOp_left (by simpa using ho) (fun hw => ?_) (fun hw => ?_)
      · have hL := q1.1 hw
        exact opD_sound hC hI h hhs hL q3 (q2 hL) ho hi h1 hK
      · have hnL : ¬ holds ops a.tmps L := fun hh => by rw [q1.2 hh] at hw; cases hw
        cases L with
        | nil => exact absurd (fun p hp => (by cases hp)) hnL
        | cons p L =>
          have hb := opD_guarded h1
          refine hK _ E hI ?_ (by rw [hhs]; unfold putD; rw [hb])
          exact h.put ho hi (En.Le.refl _) q3 ⟨fun hh => absurd hh hnL, fun _ => rfl⟩
theorem guardsOk_spec {ops : List Oper} (h : anyGuard ops = false ∨ guardsOk ops = true) {i : Nat} {o : Oper} {g : Nat × Bool} (ho : ops[i]? = some o) (hg : o.guard = some g) : g.1 < i ∧ oneDst ops g.1 = true ∧ edgeB o g.1 = true := by
  have hlt : i < ops.length := by
    rcases Nat.lt_or_ge i ops.length with h | h
    · exact h
    · rw [List.getElem?_eq_none h] at ho; cases ho
  rcases h with h | h
  · exfalso
    unfold anyGuard at h
    rw [List.any_eq_false] at h
    exact h o (List.mem_of_getElem? ho) (by simp [hg])
  · have := List.all_eq_true.1 h i (List.mem_range.2 hlt)
    rw [ho] at this
    simp only [Option.bind_some, hg, Bool.and_eq_true] at this
    exact ⟨by simpa [Nat.blt_eq] using this.1.1, this.1.2, this.2⟩
/-- The operations one behind the other. -/
theorem opsV_sound {C : Cx} (hC : CxOk C) {w0 : World} {F0 : Fz} {ops : List Oper} (hg : anyGuard ops = false ∨ guardsOk ops = true) {Q : Exit → Act → World → Prop} : ∀ (n i : Nat) {E : En} {a : Act} {s s' : St}, i + n = ops.length → Inv C.P w0 F0 E → RS C.P ops (fun j => j < i) E a s.ts → E.hs = s.hs →
    (opsV C ops ((List.range' i n)) s).eval = some s' → (∀ a' E', Inv C.P w0 F0 E' → RS C.P ops (fun j => j < ops.length) E' a' s'.ts → E'.hs = s'.hs → Q .normal a' E'.w) → wpOps C.P ops.toArray Q (List.range' i n) a E.w
  | 0, i, E, a, s, s', hn, hI, h, hhs, hs, hQ => by
    simp [opsV, T.eval] at hs; subst hs
    rw [Nat.add_zero] at hn; subst hn
    exact hQ a E hI h hhs
  | n + 1, i, E, a, s, s', hn, hI, h, hhs, hs, hQ => by
    rw [List.range'_succ] at hs ⊢
    obtain ⟨s1, h1, h2⟩ := T.eval_bind _ _ hs
    rw [wpOps_cons]
    refine step_sound hC hI h hhs (Nat.lt_irrefl i) (fun o g ho hgd => ?_) h1 (fun a' E' k1 k2 k3 => ?_)
    · obtain ⟨g1, g2, _⟩ := guardsOk_spec hg ho hgd
      exact ⟨g1, g2⟩
    · refine opsV_sound hC hg n (i + 1) (by omega) k1 ?_ k3 h2 hQ
      have e : (fun j => j < i ∨ j = i) = fun j => j < i + 1 := by funext j; exact propext (by omega)
      rw [e] at k2; exact k2
end Go.Proofs.YtolackmpfnndhaaGreatDoor.Ev
