/- Code, loops, functions. Conditions: stated at each. -/
import Derived.Test.YtolackmpfnndhaaGreatDoorSndZ
namespace Go.Proofs.YtolackmpfnndhaaGreatDoor.Ev
open Go Go.RowKit
set_option linter.unusedVariables false
set_option linter.unusedSimpArgs false
variable {P : Program}
/-- The temporaries between two regions. -/
structure FS (P : Program) (E : En) (a : Act) (ts : List V) : Prop where
  defers : a.defers = []
  size : a.tmps.size = ts.length
  vals : ∀ t, Rep P E (a.tmps.getD t undef) (getV ts t)
theorem FS.rs {E : En} {a : Act} {ts : List V} (h : FS P E a ts) (ops : List Oper) (D : Nat → Prop) : RS P ops D E a ts :=
  ⟨h.defers, h.size, fun t => (h.vals t).w, fun t c L x e => by have := h.vals t; rw [e] at this; exact this.noWhen.elim⟩
theorem RS.bare {ops : List Oper} {D : Nat → Prop} {E : En} {a : Act} {ts : List V} (h : RS P ops D E a ts) : FS P E a (ts.map Ev.bare) := by
  refine ⟨h.defers, by rw [h.size]; simp, fun t => ?_⟩
  have e : getV (ts.map Ev.bare) t = Ev.bare (getV ts t) := by
    unfold getV
    rw [List.getD_eq_getElem?_getD, List.getD_eq_getElem?_getD, List.getElem?_map]
    cases ts[t]? <;> rfl
  rw [e]
  have hv := h.vals t
  cases hx : getV ts t with
  | when c L x => exact .dead _
  | _ => rw [hx] at hv; exact hv
/-- No temporary hangs on a guard. -/
def Plain (ts : List V) : Prop := ∀ t c L x, getV ts t ≠ .when c L x
theorem FS.plain {E : En} {a : Act} {ts : List V} (h : FS P E a ts) : Plain ts := fun t c L x e => by have := h.vals t; rw [e] at this; exact this.noWhen
theorem RS.fs {ops : List Oper} {D : Nat → Prop} {E : En} {a : Act} {ts : List V} (h : RS P ops D E a ts) (hp : Plain ts) : FS P E a ts :=
  ⟨h.defers, h.size, fun t => (h.vals t).plain (fun c L y e => hp t c L y e)⟩
theorem stepV_plain {C : Cx} {ops : List Oper} (hg : anyGuard ops = false) {s s' : St} {i : Nat} (h : (stepV C ops s i).eval = some s') (hp : Plain s.ts) : Plain s'.ts := by
  obtain ⟨o, p, dl, ho, hl, _, rfl, _⟩ := stepV_split h
  have hgd : o.guard = none := by
    unfold anyGuard at hg
    rw [List.any_eq_false] at hg
    have := hg o (List.mem_of_getElem? ho)
    cases hq : o.guard with
    | none => rfl
    | some g => simp [hq] at this
  rw [hgd] at hl
  simp [labOf] at hl
  subst hl
  intro t c L x e
  unfold putD putV at e
  cases hd : o.dst with
  | none => rw [hd] at e; exact hp t c L x e
  | some d =>
    rw [hd] at e
    simp only [] at e
    rw [getV_set] at e
    split at e
    · exact bare_noWhen _ _ _ _ e
    · exact hp t c L x e
theorem opsV_plain {C : Cx} {ops : List Oper} (hg : anyGuard ops = false) : ∀ {l : List Nat} {s s' : St}, (opsV C ops l s).eval = some s' → Plain s.ts → Plain s'.ts
  | [], s, s', h, hp => by simp [opsV, T.eval] at h; subst h; exact hp
  | i :: l, s, s', h, hp => by
    obtain ⟨s1, h1, h2⟩ := T.eval_bind _ _ h
    exact opsV_plain hg h2 (stepV_plain hg h1 hp)
theorem opsA_plain {C : Cx} {ops : List Oper} (hg : anyGuard ops = false) : ∀ {l : List Nat} {acc : List (Nat × List (Nat × Bool))} {s s' : St}, (opsA C ops acc l s).eval = some s' → Plain s.ts → Plain s'.ts
  | [], acc, s, s', h, hp => by simp [opsA, T.eval] at h; subst h; exact hp
  | i :: l, acc, s, s', h, hp => by
    unfold opsA at h
    simp only [] at h
    rw [cond_eq_ite] at h
    split at h
    · obtain ⟨s1, h1, h2⟩ := T.eval_bind _ _ h
      exact opsA_plain hg h2 (stepV_plain hg h1 hp)
    · cases h
def X.e : X → Exit
  | .normal => .normal
  | .exit id => .exit id
  | .ret => .ret
/-- What a run of code says: where the code comes to, and how it leaves. -/
def Goes (P : Program) (w0 : World) (F0 : Fz) (c : Code) (s : St) (x : X) (s' : St) : Prop :=
  ∀ (E : En) (a : Act), Inv P w0 F0 E → FS P E a s.ts → E.hs = s.hs → c.wp P (fun e a' w' => ∃ E', e = x.e ∧ E'.w = w' ∧ Inv P w0 F0 E' ∧ FS P E' a' s'.ts ∧ E'.hs = s'.hs) a E.w
/-- Of a loop: what the table says is what it does. -/
def LoopOk (P : Program) (S : Subs) (c : Code) : Prop := ∀ f, S (keyOf c) = some f → ∀ w0 F0 s x s', (f s).eval = some (x, s') → Goes P w0 F0 (.loop c) s x s'
def Loops (Z : Code → Prop) : Code → Prop
  | .seq a b => Loops Z a ∧ Loops Z b
  | .cond _ a b => Loops Z a ∧ Loops Z b
  | .block _ c => Loops Z c
  | .loop c => Z c
  | _ => True
theorem Inv.drew {w0 : World} {F0 : Fz} {E : En} (hI : Inv P w0 F0 E) : Inv P w0 F0 ⟨E.w.drew, E.F, E.N, E.hs⟩ ∧ En.Le E ⟨E.w.drew, E.F, E.N, E.hs⟩ :=
  hI.grow ((Below.refl _ _).drew) (fun _ _ h => h) (fun _ _ h => Or.inl h) (fun b o h => hI.Flt b o h)
theorem FS.mono {E E' : En} (h : En.Le E E') {a : Act} {ts : List V} (hf : FS P E a ts) : FS P E' a ts := ⟨hf.defers, hf.size, fun t => (hf.vals t).mono h⟩
theorem frzS_sound {w0 : World} {F0 : Fz} {E : En} {a : Act} {s : St} (hI : Inv P w0 F0 E) (hf : FS P E a s.ts) (hh : E.hs = s.hs) (n : Nat) : ∃ E', E'.w = E.w ∧ Inv P w0 F0 E' ∧ FS P E' a (frzS P n s).ts ∧ E'.hs = (frzS P n s).hs := by
  have main : ∀ x0, E.hs.getD n none = some x0 → (∀ v, x0 ≠ .tail v) → (∀ q, x0 ≠ .obj q) → ∃ E', E'.w = E.w ∧ Inv P w0 F0 E' ∧ FS P E' a (s.ts.map (frz1 P s.hs n)) ∧ E'.hs = (s.hs.map (frzB P s.hs n)).set n none := by
    intro x0 hn ht hq0
    have hB : ∀ x b, E.hs.getD n none = some x → (E.N n).own x = some b → (E.N n).own x0 = some b := by
      intro x b hx ho
      rw [hn] at hx; injection hx with hx; subst hx; exact ho
    refine ⟨frzE P n (fun b => (E.N n).own x0 = some b) E, rfl, hI.frz hn ht hq0, ⟨hf.defers, by rw [hf.size]; simp, fun t => ?_⟩, by rw [← hh]; rfl⟩
    have e : getV (s.ts.map (frz1 P s.hs n)) t = frz1 P s.hs n (getV s.ts t) := by
      unfold getV
      rw [List.getD_eq_getElem?_getD, List.getD_eq_getElem?_getD, List.getElem?_map]
      cases s.ts[t]? <;> rfl
    show Rep P _ _ (getV (s.ts.map (frz1 P s.hs n)) t)
    rw [e, ← hh]
    exact frz1_rep hI hB (hf.vals t)
  unfold frzS
  cases hg : getB s.hs n with
  | none =>
    simp only []
    cases hga : getA s.hs n with
    | none => exact ⟨E, rfl, hI, hf, hh⟩
    | some p => exact main (.arr p.1 p.2.1 p.2.2) (by rw [hh]; exact getA_arr hga) (fun v e => by cases e) (fun q e => by cases e)
  | some cs => exact main (.box cs) (by rw [hh]; exact getB_box hg) (fun v e => by cases e) (fun q e => by cases e)
theorem frzL_sound {w0 : World} {F0 : Fz} {id : Nat} {a : Act} : ∀ {l : List (Nat × Nat)} {E : En} {s : St}, Inv P w0 F0 E → FS P E a s.ts → E.hs = s.hs → ∃ E', E'.w = E.w ∧ Inv P w0 F0 E' ∧ FS P E' a (frzL P id l s).ts ∧ E'.hs = (frzL P id l s).hs
  | [], E, s, hI, hf, hh => ⟨E, rfl, hI, hf, hh⟩
  | p :: l, E, s, hI, hf, hh => by
    unfold frzL
    cases Nat.beq p.1 id with
    | false => exact frzL_sound hI hf hh
    | true =>
      obtain ⟨E1, h1, h2, h3, h4⟩ := frzS_sound hI hf hh p.2
      obtain ⟨E2, k1, k2, k3, k4⟩ := frzL_sound (l := l) h2 h3 h4
      exact ⟨E2, k1.trans h1, k2, k3, k4⟩
theorem codeV_sound {C : Cx} (hC : CxOk C) {S : Subs} : ∀ {c : Code}, Loops (LoopOk C.P S) c → ∀ {w0 : World} {F0 : Fz} {s s' : St} {x : X}, (codeV C S c s).eval = some (x, s') → Goes C.P w0 F0 c s x s'
  | .skip, _, w0, F0, s, s', x, h => by
    simp [codeV, T.eval] at h
    obtain ⟨rfl, rfl⟩ := h
    exact fun E a hI hf hh => wp_skip ⟨E, rfl, rfl, hI, hf, hh⟩
  | .label l, _, w0, F0, s, s', x, h => by
    simp [codeV, T.eval] at h
    obtain ⟨rfl, rfl⟩ := h
    exact fun E a hI hf hh => wp_label ⟨E, rfl, rfl, hI, hf, hh⟩
  | .exit id, _, w0, F0, s, s', x, h => by
    simp [codeV, T.eval] at h
    obtain ⟨rfl, rfl⟩ := h
    exact fun E a hI hf hh => wp_exit ⟨E, rfl, rfl, hI, hf, hh⟩
  | .ret, _, w0, F0, s, s', x, h => by
    simp [codeV, T.eval] at h
    obtain ⟨rfl, rfl⟩ := h
    exact fun E a hI hf hh => wp_ret ⟨E, rfl, rfl, hI, hf, hh⟩
  | .seq a b, hl, w0, F0, s, s', x, h => by
    unfold codeV at h
    obtain ⟨⟨y, s1⟩, h1, h2⟩ := T.eval_bind _ _ h
    intro E act hI hf hh
    refine wp_seq (wp_mono (codeV_sound hC hl.1 h1 E act hI hf hh) ?_)
    rintro e a' w' ⟨E', rfl, rfl, q1, q2, q3⟩
    cases y with
    | normal => exact codeV_sound hC hl.2 h2 E' a' q1 q2 q3
    | exit id =>
      simp [T.eval] at h2
      obtain ⟨rfl, rfl⟩ := h2
      exact ⟨E', rfl, rfl, q1, q2, q3⟩
    | ret =>
      simp [T.eval] at h2
      obtain ⟨rfl, rfl⟩ := h2
      exact ⟨E', rfl, rfl, q1, q2, q3⟩
  | .cond c a b, hl, w0, F0, s, s', x, h => by
    unfold codeV at h
    split at h
    · rename_i t ht
      intro E act hI hf hh
      have hv := (hf.rs [] (fun _ => False)).ev (L := []) (fun p hp => (by cases hp)) c
      rw [ht] at hv
      refine wp_cond (rep_bool_inv hv) ?_
      cases t with
      | true => exact codeV_sound hC hl.1 h E act hI hf hh
      | false => exact codeV_sound hC hl.2 h E act hI hf hh
    · cases h
  | .block id c, hl, w0, F0, s, s', x, h => by
    unfold codeV at h
    obtain ⟨⟨y, s1⟩, h1, h2⟩ := T.eval_bind _ _ h
    intro E act hI hf hh
    refine wp_block (wp_mono (codeV_sound hC (c := c) hl h1 E act hI hf hh) ?_)
    rintro e a' w' ⟨E', rfl, rfl, q1, q2, q3⟩
    cases y with
    | normal =>
      simp [T.eval] at h2
      obtain ⟨rfl, rfl⟩ := h2
      exact ⟨E', rfl, rfl, q1, q2, q3⟩
    | exit i =>
      simp only [] at h2
      rw [cond_eq_ite] at h2
      split at h2
      · rename_i hb
        simp [T.eval] at h2
        obtain ⟨rfl, rfl⟩ := h2
        show Exit.inBlock id _ (.exit i) a' E'.w
        unfold Exit.inBlock
        simp only []
        rw [if_pos (Nat.eq_of_beq_eq_true hb)]
        exact ⟨E', rfl, rfl, q1, q2, q3⟩
      · rename_i hb
        simp [T.eval] at h2
        obtain ⟨rfl, rfl⟩ := h2
        show Exit.inBlock id _ (.exit i) a' E'.w
        unfold Exit.inBlock
        simp only []
        rw [if_neg (fun e => hb (by rw [e]; exact Nat.beq_refl id))]
        exact ⟨E', rfl, rfl, q1, q2, q3⟩
    | ret =>
      simp [T.eval] at h2
      obtain ⟨rfl, rfl⟩ := h2
      exact ⟨E', rfl, rfl, q1, q2, q3⟩
  | .loop c, hl, w0, F0, s, s', x, h => by
    unfold codeV at h
    split at h
    · rename_i f hf
      exact hl f hf w0 F0 s x s' h
    · cases h
  | .region id ops draw, _, w0, F0, s, s', x, h => by
    unfold codeV at h
    rw [cond_eq_ite] at h
    split at h
    · rename_i hg
      have hg' : anyGuard ops.toList = false ∨ guardsOk ops.toList = true := by
        rw [Bool.or_eq_true, Bool.not_eq_true'] at hg; exact hg
      obtain ⟨s1, h1, h2⟩ := T.eval_bind _ _ h
      simp [T.eval] at h2
      obtain ⟨rfl, rfl⟩ := h2
      intro E act hI hf hh
      obtain ⟨Ez, hz1, hz2, hz3, hz4⟩ := frzL_sound (id := id) (l := C.fz) hI hf hh
      rw [← hz1]
      clear hI hf hh hz1
      generalize frzL C.P id C.fz s = s at h1 hz3 hz4
      have hI := hz2; have hf := hz3; have hh := hz4
      clear hz2 hz3 hz4
      clear E
      generalize hE : Ez = E at hI hf hh ⊢
      clear hE
      have fin : ∀ (E' : En) (a' : Act) (D : Nat → Prop), Inv C.P w0 F0 E' → RS C.P ops.toList D E' a' s1.ts → E'.hs = s1.hs → (anyGuard ops.toList = false → Plain s1.ts) →
          FS C.P E' a' (bif anyGuard ops.toList then (⟨s1.ts.map Ev.bare, s1.hs⟩ : St) else s1).ts ∧ E'.hs = (bif anyGuard ops.toList then (⟨s1.ts.map Ev.bare, s1.hs⟩ : St) else s1).hs := by
        intro E' a' D k1 k2 k3 k4
        cases ha : anyGuard ops.toList with
        | true => exact ⟨k2.bare, k3⟩
        | false => exact ⟨k2.fs (k4 ha), k3⟩
      cases draw with
      | false =>
        simp only [cond_false] at h1
        have h1' : (opsV C ops.toList (List.range' 0 ops.size) s).eval = some s1 := by rw [← List.range_eq_range']; exact h1
        refine wp_region ?_
        have hop : ops.toList.toArray = ops := Array.toArray_toList
        have := opsV_sound hC hg' (Q := fun e a' w' => ∃ E', e = X.normal.e ∧ E'.w = w' ∧ Inv C.P w0 F0 E' ∧ FS C.P E' a' (bif anyGuard ops.toList then (⟨s1.ts.map Ev.bare, s1.hs⟩ : St) else s1).ts ∧ E'.hs = (bif anyGuard ops.toList then (⟨s1.ts.map Ev.bare, s1.hs⟩ : St) else s1).hs)
          ops.size 0 (by simp) hI (hf.rs ops.toList _) hh h1' (fun a' E' k1 k2 k3 => by
            obtain ⟨f1, f2⟩ := fin E' a' _ k1 k2 k3 (fun ha => opsV_plain ha h1' hf.plain)
            exact ⟨E', rfl, rfl, k1, f1, f2⟩)
        rw [hop, ← List.range_eq_range'] at this
        exact this
      | true =>
        simp only [cond_true] at h1
        rw [cond_eq_ite] at h1
        split at h1
        · rename_i hb
          rw [Bool.and_eq_true] at hb
          have h1' : (opsA C ops.toList [] (List.range' 0 ops.size) s).eval = some s1 := by rw [← List.range_eq_range']; exact h1
          obtain ⟨l, l1, l2, l3, _⟩ := opsA_chain h1' (fun x hx => by cases hx)
          obtain ⟨d1, d2⟩ := hI.drew
          refine wp_region_any hb.2 ?_
          have hop : ops.toList.toArray = ops := Array.toArray_toList
          have hlen : l.length = ops.size := by
            have := congrArg List.length l2
            simpa using this
          have := opsA_sound hC hg' hb.1 (Q := fun e a' w' => ∃ E', e = X.normal.e ∧ E'.w = w' ∧ Inv C.P w0 F0 E' ∧ FS C.P E' a' (bif anyGuard ops.toList then (⟨s1.ts.map Ev.bare, s1.hs⟩ : St) else s1).ts ∧ E'.hs = (bif anyGuard ops.toList then (⟨s1.ts.map Ev.bare, s1.hs⟩ : St) else s1).hs)
            (fun a' E' k1 ⟨D, k2⟩ k3 => by
              obtain ⟨f1, f2⟩ := fin E' a' _ k1 k2 k3 (fun ha => opsA_plain ha h1' hf.plain)
              exact ⟨E', rfl, rfl, k1, f1, f2⟩)
            ops.size (listed := Array.replicate ops.size false) (rem := l) hlen (by simp) (fun i => by
              rw [l2, List.mem_range'_1]
              constructor
              · intro hi
                refine ⟨by simpa using hi.2, ?_⟩
                have : i < ops.size := by omega
                simp [Array.getD_eq_getD_getElem?, this]
              · intro hi
                have : i < ops.size := by simpa using hi.1
                omega) (fun j b hj => by
              exfalso
              rw [Array.getD_eq_getD_getElem?] at hj
              by_cases hjs : j < ops.size
              · simp [hjs] at hj
              · simp [hjs] at hj) l1 l3 d1 ((hf.mono d2).rs ops.toList _) hh
          rw [hop] at this
          exact this
        · cases h1
    · cases h
  | .rangeFunc .., _, w0, F0, s, s', x, h => by cases h
  | .scope _, _, w0, F0, s, s', x, h => by cases h
  | .goto _, _, w0, F0, s, s', x, h => by cases h
  | .refuse _, _, w0, F0, s, s', x, h => by cases h
end Go.Proofs.YtolackmpfnndhaaGreatDoor.Ev
