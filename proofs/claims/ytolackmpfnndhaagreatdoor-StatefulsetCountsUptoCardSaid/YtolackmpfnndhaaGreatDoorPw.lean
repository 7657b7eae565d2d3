/- Plain values: what the printed functions come to, as plain functions, and the laws that say so. Conditions: stated at each. -/
import Derived.Test.YtolackmpfnndhaaGreatDoorPl
namespace Go.Proofs.YtolackmpfnndhaaGreatDoor.Ev
open Go Go.RowKit
set_option linter.unusedVariables false
set_option linter.unusedSimpArgs false
/-- A walk over rows, with what it carries. -/
def walk {X R : Type} (body : Int → Row → X → X ⊕ R) (fin : X → R) : Rows → Int → X → R
  | [], _, x => fin x
  | q :: es, i, x => match body i q x with
    | .inl y => walk body fin es (i + 1) y
    | .inr r => r
/-- Answers as the relation G says of w. -/
def DG {α W : Type} (F : Nat → Option α) (w : W) (G : W → α → Prop) : Prop := D F (G w)
/-- Equal, and P. -/
def Geq {α : Type} (P : α → Prop) (w v : α) : Prop := v = w ∧ P v
/-- Answers w, and so Q. -/
abbrev DV {α : Type} (F : Nat → Option α) (w : α) (Q : α → Prop) : Prop := DG F w (Geq Q)
/-- A round's outcome. -/
def StepG {A X R : Type} (mk : X → Int → A) (I : Int → X → Prop) (p : R → Prop) (i : Int) : X ⊕ R → A ⊕ R → Prop
  | .inl y, v => v = .inl (mk y (iAdd .i64 i 1)) ∧ I (i + 1) y
  | .inr r, v => v = .inr r ∧ p r
def ExitG {A R : Type} (p : R → Prop) (w : R) (v : A ⊕ R) : Prop := v = .inr w ∧ p w
abbrev Pt {α : Type} (_ : α) : Prop := True
abbrev Sz (n : Nat) (s : ByteArray) : Prop := s.size ≤ n
abbrev Pp {α β : Type} (P : α → Prop) (Q : β → Prop) (x : α × β) : Prop := P x.1 ∧ Q x.2
def Ps {α β : Type} (P : α → Prop) (Q : β → Prop) : α ⊕ β → Prop
  | .inl a => P a
  | .inr b => Q b
theorem Ps.mono {α β : Type} {P P' : α → Prop} {Q Q' : β → Prop} {x : α ⊕ β} (h : Ps P Q x) (f : ∀ a, P a → P' a) (g : ∀ b, Q b → Q' b) : Ps P' Q' x := by
  cases x with
  | inl a => exact f a h
  | inr b => exact g b h
theorem DG.ret {α : Type} {a : α} {P : α → Prop} (h : P a) : DG (fun _ => (T.ret a).eval) a (Geq P) := D.ret ⟨rfl, h⟩
theorem DG.inl {A X R : Type} {mk : X → Int → A} {I : Int → X → Prop} {p : R → Prop} {i : Int} {y : X} {a : A ⊕ R} (e : a = .inl (mk y (iAdd .i64 i 1))) (h : I (i + 1) y) : DG (fun _ => (T.ret a).eval) (Sum.inl y) (StepG mk I p i) := D.ret ⟨e, h⟩
theorem DG.inr {A X R : Type} {mk : X → Int → A} {I : Int → X → Prop} {p : R → Prop} {i : Int} {r : R} {a : A ⊕ R} (e : a = .inr r) (h : p r) : DG (fun _ => (T.ret a).eval) (Sum.inr r) (StepG mk I p i) := D.ret ⟨e, h⟩
theorem DG.ex {A R : Type} {p : R → Prop} {r : R} {a : A ⊕ R} (e : a = .inr r) (h : p r) : DG (fun _ => (T.ret a).eval) r (ExitG p) := D.ret ⟨e, h⟩
theorem DG.bnd {α W R : Type} {o : Nat → Option R} {w : R} {Q : R → Prop} {d : R} {f : Nat → R → T α} {v : W} {G : W → α → Prop} (h : DV o w Q) (k : Q w → DG (fun k => (f k w).eval) v G) : DG (fun k => (T.bnd (o k) d (f k)).eval) v G :=
  D.bnd h (fun r hr => by obtain ⟨rfl, hq⟩ := hr; exact k hq)
theorem DG.test {α W : Type} {b : Bool} {x y : Nat → T α} {v1 v2 : W} {G : W → α → Prop} (h : b = true → DG (fun k => (x k).eval) v1 G) (k : b = false → DG (fun k => (y k).eval) v2 G) : DG (fun k => (T.test b (x k) (y k)).eval) (bif b then v1 else v2) G := by
  cases b with
  | true => exact h rfl
  | false => exact k rfl
theorem DG.tt {α W : Type} {b : Bool} {x y : Nat → T α} {v : W} {G : W → α → Prop} (hb : b = true) (h : DG (fun k => (x k).eval) v G) : DG (fun k => (T.test b (x k) (y k)).eval) v G := by
  subst hb; exact h
theorem DG.ff {α W : Type} {b : Bool} {x y : Nat → T α} {v : W} {G : W → α → Prop} (hb : b = false) (h : DG (fun k => (y k).eval) v G) : DG (fun k => (T.test b (x k) (y k)).eval) v G := by
  subst hb; exact h
theorem DG.opt {α W R : Type} {c : Bool} {o : Nat → Option R} {w : R} {Q : R → Prop} {d : R} {f : Nat → R → T α} {v : W} {G : W → α → Prop} (h : c = true → DV o w Q) (hd : c = false → Q d) (k : Q (bif c then w else d) → DG (fun k => (f k (bif c then w else d)).eval) v G) : DG (fun k => (T.opt c (o k) d (f k)).eval) v G := by
  cases c with
  | true => exact DG.bnd (d := d) (h rfl) k
  | false => exact k (hd rfl)
theorem DG.cas {α W R S : Type} {o : Nat → Option (R ⊕ S)} {w : R ⊕ S} {Q : R ⊕ S → Prop} {f : Nat → R → T α} {g : Nat → S → T α} {vf : R → W} {vg : S → W} {G : W → α → Prop} (h : DV o w Q) (kf : ∀ r, Q (.inl r) → DG (fun k => (f k r).eval) (vf r) G) (kg : ∀ r, Q (.inr r) → DG (fun k => (g k r).eval) (vg r) G) : DG (fun k => (T.cas (o k) (f k) (g k)).eval) (Sum.elim vf vg w) G := by
  refine D.cas h (fun r hr => ?_) (fun r hr => ?_)
  · obtain ⟨e, hq⟩ := hr; rw [← e]; exact kf r hq
  · obtain ⟨e, hq⟩ := hr; rw [← e]; exact kg r hq
theorem DV.mono {α : Type} {F : Nat → Option α} {w : α} {P Q : α → Prop} (h : DV F w P) (k : P w → Q w) : DV F w Q := D.mono h (fun v hv => by obtain ⟨rfl, hp⟩ := hv; exact ⟨rfl, k hp⟩)
theorem DV.eq {α : Type} {F : Nat → Option α} {w v : α} {P : α → Prop} (h : DV F w P) (e : w = v) : DV F v P := e ▸ h
/-- A test of two parts, the second behind the first. -/
theorem DG.and_ {α W : Type} {a b : Bool} {x y : Nat → T α} {w : W} {G : W → α → Prop} (h : DG (fun k => (T.test a (.test b (x k) (y k)) (y k)).eval) w G) : DG (fun k => (T.test (bIte a b false) (x k) (y k)).eval) w G := by
  cases a <;> exact h
/-- A walk of the code is a walk over rows, from a place on. -/
theorem DV.walkFrom {A X R : Type} {s : Nat → A → T (A ⊕ R)} (mk : X → Int → A) {es : Rows} (hb : es.length ≤ 1048576) (body : Int → Row → X → X ⊕ R) (fin : X → R) (I : Int → X → Prop) (p : R → Prop)
    (h : ∀ i x, 0 ≤ i → iLt i (rLen es) = true → I i x → DG (fun k => (s k (mk x i)).eval) (body i (rAt es i) x) (StepG mk I p i))
    (he : ∀ i x, i = rLen es → iLt i (rLen es) = false → I i x → DG (fun k => (s k (mk x i)).eval) (fin x) (ExitG p))
    (x0 : X) (s0 : Int) (hs : 0 ≤ s0 ∧ s0 ≤ rLen es) (h0 : I s0 x0) : DV (fun k => iter (s k) k (mk x0 s0)) (Ev.walk body fin (es.drop s0.toNat) s0 x0) p := by
  suffices ∀ (l : Rows) (i : Int) (x : X), 0 ≤ i → es.drop i.toNat = l → i ≤ rLen es → I i x → ∃ K, ∀ k, K ≤ k → ∀ m, K ≤ m → iter (s k) m (mk x i) = some (Ev.walk body fin l i x) ∧ p (Ev.walk body fin l i x) by
    obtain ⟨K, hK⟩ := this (es.drop s0.toNat) s0 x0 hs.1 rfl hs.2 h0
    exact ⟨_, ⟨rfl, (hK K (Nat.le_refl _) K (Nat.le_refl _)).2⟩, K, fun k hk => (hK k hk k hk).1⟩
  intro l
  induction l with
  | nil =>
    intro i x hi hl hle hx
    have hlen : es.length ≤ i.toNat := List.drop_eq_nil_iff.1 hl
    have hi' : i = rLen es := by unfold rLen at *; omega
    have hlt : iLt i (rLen es) = false := decide_eq_false (by omega)
    obtain ⟨v, ⟨rfl, hp⟩, K, hK⟩ := he i x hi' hlt hx
    refine ⟨K + 1, fun k hk m hm => ⟨?_, hp⟩⟩
    match m, hm with
    | m + 1, _ =>
      simp only [Ev.iter]
      rw [show (s k (mk x i)).eval = _ from hK k (by omega)]
      rfl
  | cons q l ih =>
    intro i x hi hl hle hx
    have hlen : i.toNat < es.length := by
      rcases Nat.lt_or_ge i.toNat es.length with h1 | h1
      · exact h1
      · rw [List.drop_of_length_le h1] at hl; cases hl
    have hlt : iLt i (rLen es) = true := decide_eq_true (by unfold rLen; omega)
    have hq : rAt es i = q := by
      unfold rAt
      rw [List.getD_eq_getElem?_getD, List.getElem?_eq_getElem hlen]
      rw [List.drop_eq_getElem_cons hlen] at hl
      injection hl with h1 h2
    have hn : iAdd .i64 i 1 = i + 1 := iAdd_one hi (by omega)
    have h1 := h i x hi hlt hx
    rw [hq] at h1
    unfold DG at h1
    obtain ⟨v, hv, K, hK⟩ := h1
    cases hb1 : body i q x with
    | inl y =>
      rw [hb1] at hv
      obtain ⟨rfl, hI⟩ := hv
      rw [hn] at hK
      have hd : es.drop (i + 1).toNat = l := by
        have e : (i + 1).toNat = i.toNat + 1 := by omega
        rw [e]
        rw [List.drop_eq_getElem_cons hlen] at hl
        injection hl with h1 h2
      obtain ⟨K2, hK2⟩ := ih (i + 1) y (by omega) hd (by unfold rLen; omega) hI
      refine ⟨K + K2 + 1, fun k hk m hm => ?_⟩
      have e : Ev.walk body fin (q :: l) i x = Ev.walk body fin l (i + 1) y := by simp only [Ev.walk]; rw [hb1]
      rw [e]
      match m, hm with
      | m + 1, hm =>
        have h2 := hK2 k (by omega) m (by omega)
        refine ⟨?_, h2.2⟩
        simp only [Ev.iter]
        rw [show (s k (mk x i)).eval = _ from hK k (by omega)]
        exact h2.1
    | inr r =>
      rw [hb1] at hv
      obtain ⟨rfl, hp⟩ := hv
      refine ⟨K + 1, fun k hk m hm => ?_⟩
      have e : Ev.walk body fin (q :: l) i x = r := by simp only [Ev.walk]; rw [hb1]
      rw [e]
      refine ⟨?_, hp⟩
      match m, hm with
      | m + 1, hm =>
        simp only [Ev.iter]
        rw [show (s k (mk x i)).eval = _ from hK k (by omega)]
        rfl
/-- A walk of the code is a walk over rows. -/
theorem DV.walk {A X R : Type} {s : Nat → A → T (A ⊕ R)} (mk : X → Int → A) {es : Rows} (hb : es.length ≤ 1048576) (body : Int → Row → X → X ⊕ R) (fin : X → R) (I : Int → X → Prop) (p : R → Prop)
    (h : ∀ i x, 0 ≤ i → iLt i (rLen es) = true → I i x → DG (fun k => (s k (mk x i)).eval) (body i (rAt es i) x) (StepG mk I p i))
    (he : ∀ i x, i = rLen es → iLt i (rLen es) = false → I i x → DG (fun k => (s k (mk x i)).eval) (fin x) (ExitG p))
    (x0 : X) (h0 : I 0 x0) : DV (fun k => iter (s k) k (mk x0 0)) (walk body fin es 0 x0) p := by
  have := DV.walkFrom mk hb body fin I p h he x0 0 ⟨Int.le_refl _, by unfold rLen; omega⟩ h0
  simpa using this
/-- Places without rows. -/
def nRows (n : Int) : Rows := List.replicate n.toNat []
theorem nRows_len {n : Int} (h : 0 ≤ n) : rLen (nRows n) = n := by unfold rLen nRows; rw [List.length_replicate]; omega
theorem nRows_le {n : Int} (h : 0 ≤ n ∧ n ≤ 1048576) : (nRows n).length ≤ 1048576 := by unfold nRows; rw [List.length_replicate]; omega
theorem DV.walkN {A X R : Type} {s : Nat → A → T (A ⊕ R)} (mk : X → Int → A) {n : Int} (hn : 0 ≤ n ∧ n ≤ 1048576) (body : Int → Row → X → X ⊕ R) (fin : X → R) (I : Int → X → Prop) (p : R → Prop)
    (h : ∀ i x, 0 ≤ i → iLt i n = true → I i x → DG (fun k => (s k (mk x i)).eval) (body i [] x) (StepG mk I p i))
    (he : ∀ i x, i = n → iLt i n = false → I i x → DG (fun k => (s k (mk x i)).eval) (fin x) (ExitG p))
    (x0 : X) (h0 : I 0 x0) : DV (fun k => iter (s k) k (mk x0 0)) (Ev.walk body fin (nRows n) 0 x0) p := by
  have e := nRows_len hn.1
  refine DV.walk mk (nRows_le hn) body fin I p (fun i x hp hi hI => ?_) (fun i x hie hi hI => ?_) x0 h0
  · rw [e] at hi
    have q : rAt (nRows n) i = [] := by
      unfold rAt nRows
      rw [List.getD_eq_getElem?_getD, List.getElem?_replicate]
      split <;> rfl
    rw [q]
    exact h i x hp hi hI
  · rw [e] at hi hie
    exact he i x hie hi hI
theorem nRows_at {n i : Int} : rAt (nRows n) i = [] := by
  unfold rAt nRows
  rw [List.getD_eq_getElem?_getD, List.getElem?_replicate]
  split <;> rfl
theorem DV.walkNFrom {A X R : Type} {s : Nat → A → T (A ⊕ R)} (mk : X → Int → A) {n : Int} (hn : 0 ≤ n ∧ n ≤ 1048576) (body : Int → Row → X → X ⊕ R) (fin : X → R) (I : Int → X → Prop) (p : R → Prop)
    (h : ∀ i x, 0 ≤ i → iLt i n = true → I i x → DG (fun k => (s k (mk x i)).eval) (body i [] x) (StepG mk I p i))
    (he : ∀ i x, i = n → iLt i n = false → I i x → DG (fun k => (s k (mk x i)).eval) (fin x) (ExitG p))
    (x0 : X) (s0 : Int) (hs : 0 ≤ s0 ∧ s0 ≤ n) (h0 : I s0 x0) : DV (fun k => iter (s k) k (mk x0 s0)) (Ev.walk body fin ((nRows n).drop s0.toNat) s0 x0) p := by
  have e := nRows_len hn.1
  refine DV.walkFrom mk (nRows_le hn) body fin I p (fun i x hp hi hI => ?_) (fun i x hie hi hI => ?_) x0 s0 (by rw [e]; exact hs) h0
  · rw [e] at hi
    rw [nRows_at]
    exact h i x hp hi hI
  · rw [e] at hi hie
    exact he i x hie hi hI
theorem DV.post {α : Type} {F : Nat → Option α} {w : α} {Q : α → Prop} (h : DV F w Q) : Q w := by
  obtain ⟨v, ⟨rfl, hq⟩, _⟩ := h; exact hq
/-- Rows that grow by one a round at most. -/
def Grow (i : Int) (x : Rows) : Prop := rLen x ≤ i ∧ ∀ q, q ∈ x → Br q
theorem Grow.nil : Grow 0 [] := ⟨by unfold rLen; simp, all_nil⟩
theorem Grow.same {i : Int} {x : Rows} (h : Grow i x) : Grow (i + 1) x := ⟨by have := h.1; omega, h.2⟩
theorem Grow.push {i : Int} {x : Rows} {q : Row} (h : Grow i x) (k : Br q) : Grow (i + 1) (rCat x [q]) := by
  refine ⟨?_, fun p hp => ?_⟩
  · have := h.1
    show ((x ++ [q]).length : Int) ≤ _
    unfold rLen at this
    simp; omega
  · rcases List.mem_append.1 hp with hp | hp
    · exact h.2 p hp
    · rw [List.mem_singleton.1 hp]; exact k
theorem Grow.done {i : Int} {x : Rows} (h : Grow i x) (k : i ≤ 1048576) : Brs x := ⟨by have := h.1; unfold rLen at this; omega, h.2⟩
theorem Grow.ok {b : Nat} {i : Int} {x : Rows} {q : Row} (h : Grow i x) (k : i < 1048576) (hb : b ≤ 134217728) : rOk b (rLen x) (rLen [q]) = true :=
  rOk_of hb (by have := h.1; omega) (by unfold rLen; omega) (by unfold rLen; simp)
theorem lt_of {es : Rows} (hb : es.length ≤ 1048576) {i : Int} (h : iLt i (rLen es) = true) : i < 1048576 := by
  have := of_decide_eq_true h; unfold rLen at this; omega
theorem eq_le {es : Rows} (hb : es.length ≤ 1048576) {i : Int} (h : i = rLen es) : i ≤ 1048576 := by unfold rLen at h; omega
theorem ltn_of {n : Int} (hn : 0 ≤ n ∧ n ≤ 1048576) {i : Int} (h : iLt i n = true) : i < 1048576 := by
  have := of_decide_eq_true h; omega
theorem eqn_le {n : Int} (hn : 0 ≤ n ∧ n ≤ 1048576) {i : Int} (h : i = n) : i ≤ 1048576 := by omega
theorem br_ite {c : Bool} {a b : Row} (h : Br a) (k : Br b) : Br (bif c then a else b) := by cases c; exact k; exact h
theorem brs_ite {c : Bool} {a b : Rows} (h : Brs a) (k : Brs b) : Brs (rIte c a b) := by unfold rIte; cases c; exact k; exact h
theorem brs_cut {a : Rows} (h : Brs a) (l k : Int) : Brs (rCut a l k) := by
  unfold rCut
  refine ⟨?_, fun q hq => h.2 q (List.mem_of_mem_take (List.mem_of_mem_drop hq))⟩
  rw [List.length_drop, List.length_take]; have := h.1; omega
theorem brs_nilcat {a : Rows} (h : Brs a) : Brs (rCat [] a) := h
theorem brs_push {a : Rows} {q : Row} (h : Brs a) (k : Br q) (n : rLen a ≤ 1048575) : Brs (rCat a [q]) := by
  refine ⟨?_, fun p hp => ?_⟩
  · unfold rLen at n
    show (a ++ [q]).length ≤ _
    simp; omega
  · rcases List.mem_append.1 hp with hp | hp
    · exact h.2 p hp
    · rw [List.mem_singleton.1 hp]; exact k
theorem dflt_true {c b : Bool} (h : (bif c then b else (default : Bool)) = true) : b = true := by
  cases c with
  | true => exact h
  | false => cases h
theorem sz_cat {a b : ByteArray} {n m : Nat} (h : a.size ≤ n) (k : b.size ≤ m) : Sz (n + m) (sCat a b) := by
  unfold Sz sCat; rw [ByteArray.size_append]; omega
theorem sz_ite {c : Bool} {a b : ByteArray} {n : Nat} (h : a.size ≤ n) (k : b.size ≤ n) : Sz n (sIte c a b) := by unfold sIte; cases c; exact k; exact h
theorem sz_cut {a : ByteArray} {n : Nat} (h : a.size ≤ n) (l k : Int) : Sz n (sCut a l k) := by
  unfold Sz sCut; rw [ByteArray.size_extract]; omega
theorem rOk_new {b : Nat} {es : Rows} (hb : b ≤ 134217728) (h : Brs es) : rOk b 0 (rLen es) = true := by
  unfold rOk
  refine decide_eq_true ?_
  have h1 := rl_le h
  have h2 : (0 + rLen es) * (b : Int) ≤ 1048576 * (b : Int) := Int.mul_le_mul_of_nonneg_right (by omega) (by omega)
  omega
theorem rOk_two {b : Nat} {es fs : Rows} (hb : b ≤ 67108864) (h : Brs es) (k : Brs fs) : rOk b (rLen es) (rLen fs) = true := by
  unfold rOk
  refine decide_eq_true ?_
  have h1 := rl_le h
  have h3 := rl_le k
  have h2 : (rLen es + rLen fs) * (b : Int) ≤ 2097152 * (b : Int) := Int.mul_le_mul_of_nonneg_right (by omega) (by omega)
  omega
theorem sOk_sz {a b : ByteArray} {n m : Nat} (h : a.size ≤ n) (k : b.size ≤ m) (e : n + m ≤ 9223372036854775807) : sOk (sLen a) (sLen b) = true := by
  unfold sOk sLen
  exact decide_eq_true (by omega)
theorem iin_eq {n m i : Int} (h : iEq n m = true) (k : 0 ≤ i ∧ i < m) : iIn i n = true := by
  have : n = m := by simpa [iEq] using h
  exact decide_eq_true (by omega)
theorem iin_gt {n m i : Int} (h : iLt m n = true) (k : 0 ≤ i) (l : i ≤ m) : iIn i n = true := by
  have := of_decide_eq_true h
  exact decide_eq_true (by omega)
theorem iin_ge {n m i : Int} (h : iLt n m = false) (k : 0 ≤ i) (l : i < m) : iIn i n = true := by
  have := of_decide_eq_false h
  exact decide_eq_true (by omega)
theorem iin_ne {n : Int} (h : iEq n 0 = false) (k : 0 ≤ n) : iIn 0 n = true := by
  have : n ≠ 0 := by simpa [iEq] using h
  exact decide_eq_true (by omega)
theorem bimp_of {c b : Bool} (h : c = true → b = true) : bImp c b = true := by
  cases c with
  | true => rw [h rfl]; rfl
  | false => rfl
theorem bnot_t {b : Bool} (h : bNot b = true) : b = false := by cases b; rfl; cases h
theorem bnot_f {b : Bool} (h : bNot b = false) : b = true := by cases b; cases h; rfl
theorem and_l {a b : Bool} (h : bIte a b false = true) : a = true := by cases a; cases h; rfl
theorem and_r {a b : Bool} (h : bIte a b false = true) : b = true := by cases a; cases h; exact h
theorem or_l {a b : Bool} (h : bIte a true b = false) : a = false := by cases a; rfl; cases h
theorem or_r {a b : Bool} (h : bIte a true b = false) : b = false := by cases a; exact h; cases h
theorem band_l {a b : Bool} (h : bAnd a b = true) : a = true := by cases a; cases h; rfl
theorem band_r {a b : Bool} (h : bAnd a b = true) : b = true := by cases a; cases h; exact h
theorem brs_take {a : Rows} (h : Brs a) (k : Int) : Brs (rTake a k) := by
  unfold rTake
  refine ⟨?_, fun q hq => h.2 q (List.mem_of_mem_take hq)⟩
  rw [List.length_take]; have := h.1; omega
theorem iin_eqn {i n m : Int} (e : m = n) (hp : 0 ≤ i) (hi : iLt i n = true) : iIn i m = true := by rw [e]; exact iIn_lt hp hi
theorem sz_rows {n : Nat} (es : Rows) (h : es.length ≤ n) : Sz n (sRows es) := by
  unfold Sz sRows
  show ((es.map _).toArray).size ≤ n
  simp; exact h
theorem ne_gt {a b n : Int} (h : iLt a b = true) (k : n ≤ a) : bNot (iEq b n) = true := by
  have := of_decide_eq_true h
  cases hq : iEq b n with
  | false => rfl
  | true => have e : b = n := by simpa [iEq] using hq
            omega
theorem bnot_mk {c : Bool} (h : c = false) : bNot c = true := by rw [h]; rfl
theorem rem_in {a n : Int} (h : 0 ≤ a ∧ a ≤ 255) (k : 0 ≤ n) (l : iEq n 0 = false) : iIn (iRem (iCv .i64 a) n) n = true := by
  have hn : n ≠ 0 := by simpa [iEq] using l
  have e : iCv .i64 a = a := by unfold iCv; exact IntWalk.i64_in _ (by omega)
  unfold iIn iRem
  rw [e]
  exact decide_eq_true ⟨Int.tmod_nonneg _ h.1, Int.tmod_lt_of_pos _ (by omega)⟩
theorem idx_in {n : Int} {es : Rows} (h : n < rLen es) (k : iLt n 0 = false) : iIn n (rLen es) = true := by
  have := of_decide_eq_false k
  exact decide_eq_true ⟨by omega, h⟩
theorem brs_fill {x : Rows} {z : Row} (h : Brs x) (k : Br z) (l m : Int) : Brs (rFill x l m z) := by
  unfold rFill
  refine ⟨by rw [List.length_mapIdx]; exact h.1, fun q hq => ?_⟩
  rw [List.mem_mapIdx] at hq
  obtain ⟨i, hi, rfl⟩ := hq
  split
  · exact k
  · exact h.2 _ (List.getElem_mem _)
theorem take_le {a : Rows} {n m : Int} (h : rLen a ≤ m) : rLen (rTake a n) ≤ m := by
  unfold rLen rTake at *
  rw [List.length_take]; omega
theorem rOk_push {b : Nat} (hb : b ≤ 67108864) {n : Int} {r : Row} (h : n ≤ 1048575) : rOk b n (rLen [r]) = true := by
  unfold rOk rLen
  refine decide_eq_true ?_
  have : (n + 1) * (b : Int) ≤ 1048576 * (b : Int) := Int.mul_le_mul_of_nonneg_right (by omega) (by omega)
  simp; omega
/-- Rows that are written into, each at its place. -/
def SetI (n : Int) (x : Rows) : Prop := Brs x ∧ rLen x = n
theorem brs_set {x : Rows} {r : Row} (h : Brs x) (k : Br r) (i : Int) : Brs (rSet x i r) := by
  refine ⟨?_, fun q hq => ?_⟩
  · show (x.set i.toNat r).length ≤ _
    rw [List.length_set]; exact h.1
  · rcases List.mem_or_eq_of_mem_set hq with hq | rfl
    · exact h.2 q hq
    · exact k
theorem len_set {x : Rows} {r : Row} {i n : Int} (h : rLen x = n) : rLen (rSet x i r) = n := by
  show ((x.set i.toNat r).length : Int) = n
  rw [List.length_set]; exact h
theorem SetI.set {n : Int} {x : Rows} {r : Row} (h : SetI n x) (k : Br r) (i : Int) : SetI n (rSet x i r) := ⟨brs_set h.1 k i, len_set h.2⟩
theorem in_len {i n : Int} {x : Rows} (h : rLen x = n) (hp : 0 ≤ i) (hi : iLt i n = true) : iIn i (rLen x) = true := by
  rw [h]
  have := of_decide_eq_true hi
  exact decide_eq_true ⟨hp, this⟩
/-- What a function comes to. -/
noncomputable def lim {α : Type} [Inhabited α] (F : Nat → Option α) : α := Classical.epsilon (fun v => ∃ K, ∀ k, K ≤ k → F k = some v)
theorem DV.lim {α : Type} [Inhabited α] {F : Nat → Option α} {p : α → Prop} (h : D F p) : DV F (Ev.lim F) Pt := by
  obtain ⟨v, hv, K, hK⟩ := h
  have h2 : ∃ v, ∃ K, ∀ k, K ≤ k → F k = some v := ⟨v, K, hK⟩
  obtain ⟨K2, hK2⟩ := Classical.epsilon_spec h2
  exact ⟨_, ⟨rfl, trivial⟩, K2, hK2⟩
end Go.Proofs.YtolackmpfnndhaaGreatDoor.Ev
