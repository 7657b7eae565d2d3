/- Names in order, and ref10 (put, Union). Conditions: stated at each. -/
import Derived.Test.YtilppppcafphbaaGreatWk
import Derived.Test.YtilppppcafphbaaGreatMp
import Derived.Test.YtilppppcafphbaaGreatVa
namespace Go.Proofs.YtilppppcafphbaaGreat.Ev
open Go Go.RowKit
set_option linter.unusedVariables false
set_option linter.unusedSimpArgs false
set_option maxRecDepth 100000
noncomputable section
theorem sLt_asymm {a b : ByteArray} (h : sLt a b = true) : sLt b a = false := by
  have := sLt_total b a
  rw [h] at this
  cases hb : sLt b a with
  | false => rfl
  | true => rw [hb] at this; exact absurd this (by decide)
theorem sLt_tr {a b c : ByteArray} (h : sLt a b = true) (k : sLt b c = true) : sLt a c = true := by
  cases hc : sLt a c with
  | true => rfl
  | false =>
    have := sLt_trans' (a := b) (b := c) (c := a) (sLt_asymm k) hc
    rw [h] at this; cases this
theorem sLt_irr (a : ByteArray) : sLt a a = false := by
  cases h : sLt a a with
  | false => rfl
  | true => have := sLt_asymm h; rw [h] at this; exact this
theorem sLt_ne {a b : ByteArray} (h : sLt a b = true) : a ≠ b := fun e => by rw [e, sLt_irr] at h; cases h
theorem sEq_ff {s t : ByteArray} : sEq s t = false ↔ s ≠ t := by
  cases h : sEq s t with
  | true => exact ⟨fun h => (by cases h), fun k => absurd (sEq_iff.1 h) k⟩
  | false => exact ⟨fun _ e => (by rw [sEq_iff.2 e] at h; cases h), fun _ => rfl⟩
/-- Names as rows of one string. -/
def nms (l : List ByteArray) : Rows := l.map (fun s => [V.str s])
def Asc (l : List ByteArray) : Prop := l.Pairwise (fun a b => sLt a b = true)
def putL (d : ByteArray) : List ByteArray → List ByteArray
  | [] => [d]
  | e :: l => bif bOr (sLt d e) (sEq d e) then d :: (e :: l).filter (fun x => !sEq x d) else e :: putL d l
theorem rCat_assoc (a b c : Rows) : rCat (rCat a b) c = rCat a (rCat b c) := List.append_assoc ..
theorem put_tt (d : ByteArray) : ∀ (l : List ByteArray) (i : Int) (y : Rows), walk (ref10_put.p4 d) ref10_put.z4 (nms l) i (y, true) = (rCat y (nms (l.filter (fun x => !sEq x d))), true)
  | [], i, y => by
    show (y, true) = (y ++ [], true)
    rw [List.append_nil]
  | e :: l, i, y => by
    show walk (ref10_put.p4 d) ref10_put.z4 ([.str e] :: nms l) i (y, true) = _
    simp only [walk]
    rw [List.filter_cons]
    cases he : sEq e d with
    | true =>
      have hp : ref10_put.p4 d i [.str e] (y, true) = .inl (y, true) := by
        show (bif bNot (sEq e d) then _ else _) = _
        rw [he]; rfl
      rw [hp]
      exact put_tt d l (i + 1) y
    | false =>
      have hp : ref10_put.p4 d i [.str e] (y, true) = .inl (rCat y [[.str e]], true) := by
        show (bif bNot (sEq e d) then _ else _) = _
        rw [he]; rfl
      rw [hp]
      refine (put_tt d l (i + 1) _).trans ?_
      rw [rCat_assoc]; rfl
theorem put_ff (d : ByteArray) : ∀ (l : List ByteArray) (i : Int) (y : Rows), (let r0 := walk (ref10_put.p4 d) ref10_put.z4 (nms l) i (y, false); (bif (bNot r0.2) then (rCat r0.1 [[.str d]]) else r0.1)) = rCat y (nms (putL d l))
  | [], i, y => rfl
  | e :: l, i, y => by
    show (let r0 := walk (ref10_put.p4 d) ref10_put.z4 ([.str e] :: nms l) i (y, false); (bif (bNot r0.2) then (rCat r0.1 [[.str d]]) else r0.1)) = _
    simp only [walk]
    have h0 : ref10_put.p4 d i [.str e] (y, false) = bif bOr (sLt d e) (sEq d e) then (bif (bNot (sEq e d)) then .inl (rCat (rCat y [[.str d]]) [[.str e]], true) else .inl (rCat y [[.str d]], true)) else (bif (bNot (sEq e d)) then .inl (rCat y [[.str e]], false) else .inl (y, false)) := rfl
    rw [h0]
    show _ = rCat y (nms (bif bOr (sLt d e) (sEq d e) then _ else _))
    cases hc : bOr (sLt d e) (sEq d e) with
    | true =>
      simp only [cond_true]
      rw [List.filter_cons]
      cases he : sEq e d with
      | true =>
        have hw := put_tt d l (i + 1) (rCat y [[.str d]])
        show (let r0 := walk (ref10_put.p4 d) ref10_put.z4 (nms l) (i + 1) (rCat y [[.str d]], true); (bif (bNot r0.2) then (rCat r0.1 [[.str d]]) else r0.1)) = _
        rw [hw]
        show rCat (rCat y [[.str d]]) _ = _
        rw [rCat_assoc]; rfl
      | false =>
        have hw := put_tt d l (i + 1) (rCat (rCat y [[.str d]]) [[.str e]])
        show (let r0 := walk (ref10_put.p4 d) ref10_put.z4 (nms l) (i + 1) (rCat (rCat y [[.str d]]) [[.str e]], true); (bif (bNot r0.2) then (rCat r0.1 [[.str d]]) else r0.1)) = _
        rw [hw]
        show rCat (rCat (rCat y [[.str d]]) [[.str e]]) _ = _
        rw [rCat_assoc, rCat_assoc]; rfl
    | false =>
      have he : sEq e d = false := by
        rw [sEq_symm]
        cases h : sEq d e with
        | false => rfl
        | true => rw [h] at hc; cases hx : sLt d e <;> rw [hx] at hc <;> cases hc
      rw [he]
      refine (put_ff d l (i + 1) (rCat y [[.str e]])).trans ?_
      rw [rCat_assoc]; rfl
theorem put_v (d : ByteArray) (l : List ByteArray) : ref10_put.v (nms l) d = nms (putL d l) := (put_ff d l 0 []).trans rfl
theorem putL_mem {d x : ByteArray} : ∀ {l : List ByteArray}, x ∈ putL d l ↔ x = d ∨ x ∈ l
  | [] => by simp [putL]
  | e :: l => by
    unfold putL
    cases bOr (sLt d e) (sEq d e) with
    | true =>
      simp only [cond_true, List.mem_cons, List.mem_filter, Bool.not_eq_true']
      constructor
      · rintro (h | h)
        · exact Or.inl h
        · exact Or.inr h.1
      · rintro (h | h)
        · exact Or.inl h
        · by_cases hx : x = d
          · exact Or.inl hx
          · exact Or.inr ⟨h, sEq_ff.2 hx⟩
    | false =>
      simp only [cond_false, List.mem_cons, putL_mem (l := l)]
      constructor
      · rintro (h | h | h)
        · exact Or.inr (Or.inl h)
        · exact Or.inl h
        · exact Or.inr (Or.inr h)
      · rintro (h | h | h)
        · exact Or.inr (Or.inl h)
        · exact Or.inl h
        · exact Or.inr (Or.inr h)
theorem putL_asc (d : ByteArray) : ∀ {l : List ByteArray}, Asc l → Asc (putL d l)
  | [], _ => List.pairwise_singleton ..
  | e :: l, h => by
    obtain ⟨h1, h2⟩ := List.pairwise_cons.1 h
    unfold putL
    cases hc : bOr (sLt d e) (sEq d e) with
    | true =>
      refine List.pairwise_cons.2 ⟨fun x hx => ?_, List.Pairwise.filter _ h⟩
      rw [List.mem_filter, Bool.not_eq_true'] at hx
      obtain ⟨hx, hn⟩ := hx
      have hde : sLt d e = true ∨ d = e := by
        cases hlt : sLt d e with
        | true => exact Or.inl rfl
        | false => rw [hlt] at hc; exact Or.inr (sEq_iff.1 hc)
      rcases List.mem_cons.1 hx with rfl | hx
      · rcases hde with h | h
        · exact h
        · exact absurd h.symm (sEq_ff.1 hn)
      · rcases hde with h | h
        · exact sLt_tr h (h1 x hx)
        · rw [h]; exact h1 x hx
    | false =>
      refine List.pairwise_cons.2 ⟨fun x hx => ?_, putL_asc d h2⟩
      rcases putL_mem.1 hx with rfl | hx
      · cases hlt : sLt e x with
        | true => rfl
        | false =>
          have h3 : sLt x e = false := by
            cases h : sLt x e with
            | false => rfl
            | true => rw [h] at hc; cases hc
          have := sLt_false h3 hlt
          rw [this, sEq_refl] at hc
          rw [sLt_irr] at hc; cases hc
      · exact h1 x hx
/-- All of a list put into another. -/
def putAll (l y : List ByteArray) : List ByteArray := l.foldl (fun y d => putL d y) y
theorem putAll_v : ∀ (l y : List ByteArray) (i : Int), walk ref10_Union.p3 (fun x => x) (nms l) i (nms y) = nms (putAll l y)
  | [], y, i => rfl
  | d :: l, y, i => by
    show walk ref10_Union.p3 (fun x => x) ([.str d] :: nms l) i (nms y) = _
    simp only [walk]
    show walk ref10_Union.p3 (fun x => x) (nms l) (i + 1) (ref10_put.v (nms y) d) = _
    rw [put_v]
    exact putAll_v l (putL d y) (i + 1)
theorem putAll_mem {x : ByteArray} : ∀ {l y : List ByteArray}, x ∈ putAll l y ↔ x ∈ l ∨ x ∈ y
  | [], y => by simp [putAll]
  | d :: l, y => by
    show x ∈ putAll l (putL d y) ↔ _
    rw [putAll_mem, putL_mem, List.mem_cons]
    constructor
    · rintro (h | h | h)
      · exact Or.inl (Or.inr h)
      · exact Or.inl (Or.inl h)
      · exact Or.inr h
    · rintro ((h | h) | h)
      · exact Or.inr (Or.inl h)
      · exact Or.inl h
      · exact Or.inr (Or.inr h)
theorem putAll_asc : ∀ (l : List ByteArray) {y : List ByteArray}, Asc y → Asc (putAll l y)
  | [], _, h => h
  | d :: l, _, h => putAll_asc l (putL_asc d h)
def uni (a b : List ByteArray) : List ByteArray := putAll b (putAll a [])
theorem union_v (a b : List ByteArray) : ref10_Union.v (nms a) (nms b) = nms (uni a b) := by
  show walk ref10_Union.p3 (fun x => x) (nms b) 0 (walk ref10_Union.p3 (fun x => x) (nms a) 0 (nms [])) = _
  rw [putAll_v, putAll_v]; rfl
theorem uni_mem {x : ByteArray} {a b : List ByteArray} : x ∈ uni a b ↔ x ∈ a ∨ x ∈ b := by
  unfold uni
  rw [putAll_mem, putAll_mem]
  constructor
  · rintro (h | h | h)
    · exact Or.inr h
    · exact Or.inl h
    · cases h
  · rintro (h | h)
    · exact Or.inr (Or.inl h)
    · exact Or.inl h
theorem uni_asc (a b : List ByteArray) : Asc (uni a b) := putAll_asc b (putAll_asc a List.Pairwise.nil)
theorem Asc.nodup {l : List ByteArray} (h : Asc l) : l.Nodup := List.Pairwise.imp (fun h => sLt_ne h) h
end
end Go.Proofs.YtilppppcafphbaaGreat.Ev
