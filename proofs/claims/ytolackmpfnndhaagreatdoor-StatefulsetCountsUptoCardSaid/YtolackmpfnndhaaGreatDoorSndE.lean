/- Functions of the library by their contracts; sorted rows. Conditions: stated at each. -/
import Derived.Test.YtolackmpfnndhaaGreatDoorSndD
import Derived.Shelf.Small.Strs
namespace Go.Proofs.YtolackmpfnndhaaGreatDoor.Ev
open Go Go.RowKit
set_option linter.unusedVariables false
set_option linter.unusedSimpArgs false
variable {P : Program}
theorem bytesLess_irrefl : ∀ (s : List UInt8), Op.bytesLess s s = false
  | [] => rfl
  | a :: s => by
    show (decide (a < a) || (a == a && Op.bytesLess s s)) = false
    rw [bytesLess_irrefl s]; simp
theorem compareBytes_eq : ∀ (s t : List UInt8), Lib.compareBytes s t = bif Op.bytesLess s t then -1 else bif s == t then 0 else 1
  | [], [] => rfl
  | [], _ :: _ => rfl
  | _ :: _, [] => rfl
  | a :: s, b :: t => by
    have ih := compareBytes_eq s t
    show (if a < b then (-1 : Int) else if b < a then 1 else Lib.compareBytes s t) = bif (decide (a < b) || (a == b && Op.bytesLess s t)) then -1 else bif (a :: s == b :: t) then 0 else 1
    by_cases h1 : a < b
    · simp [h1]
    · by_cases h2 : b < a
      · have hne : a ≠ b := fun e => by subst e; exact h1 h2
        have : (a == b) = false := by simpa using hne
        simp [h1, h2, this, hne]
      · have e : a = b := by
          have h3 : ¬ a.toNat < b.toNat := h1
          have h4 : ¬ b.toNat < a.toNat := h2
          exact UInt8.toNat_inj.1 (by omega)
        subst e
        rw [ih]
        simp [h1]
theorem sCmp_eq (s t : ByteArray) : Lib.compareBytes s.data.toList t.data.toList = sCmp s t := by
  unfold sCmp
  rw [compareBytes_eq, ByteArray.toList_eq, ByteArray.toList_eq]
/-- strings.Compare. -/
theorem compare_ok {ρ : Shelf.Ren} (L : Lays.n106 P ρ) (hb : ∃ fn, P.funcs[ρ.f 106]? = some fn ∧ (fn.name == "runtime.NumGoroutine") = false ∧ fn.body.isSome = true) :
    FunOk P (ρ.f 106) (mkFun [.t (ρ.t 9), .t (ρ.t 9)] (fun as_ => (T.ret (sCmp (vStr (vN as_ 0)) (vStr (vN as_ 1))) : T Int)) default (fun r => .int .i64 r)) := by
  refine ⟨hb, fun w Fz hF hG args xs ys r hsz hn hrep hr => ?_⟩
  obtain ⟨h1, h2⟩ := normAs_get hn
  have form : ∀ (i : Nat) (y : V), ys[i]? = some y → i < 2 → ∃ s, y = .str s := by
    intro i y hy hi
    obtain ⟨x, hx⟩ := h2 i (.t (ρ.t 9)) y (by match i, hi with | 0, _ => rfl | 1, _ => rfl) hy
    have hx' : normA P (ρ.t 9) x = some y := hx
    unfold normA at hx'
    rw [L.t9] at hx'
    simp only [] at hx'
    unfold norm1 at hx'
    rw [L.t9] at hx'
    cases x <;> simp at hx'
    exact ⟨_, hx'.symm⟩
  match ys, h1 with
  | [x, y], _ =>
    obtain ⟨s, rfl⟩ := form 0 x rfl (by omega)
    obtain ⟨t, rfl⟩ := form 1 y rfl (by omega)
    have e1 := rep_str_inv (hrep 0 _ rfl)
    have e2 := rep_str_inv (hrep 1 _ rfl)
    have hargs : args = #[.string s, .string t] := by
      apply Array.ext (by simpa using hsz)
      intro i h1 h2
      match i, h2 with
      | 0, _ => simpa [Array.getD_eq_getD_getElem?, h1] using e1
      | 1, _ => simpa [Array.getD_eq_getD_getElem?, h1] using e2
    have hr' : r = .int .i64 (sCmp s t) := by
      have : (some (sCmp s t)).bind (fun q => (T.ret (V.int .i64 q) : T V).eval) = some r := hr
      simp [T.eval] at this
      exact this.symm
    rw [hargs]
    refine (Any.strings_Compare L s t w).mono ?_
    rintro e w' ⟨rfl, rfl⟩
    refine ⟨_, Fz, rfl, Below.refl _ _, fun _ _ h => h, fun _ _ h => Or.inl h, hF, ?_⟩
    rw [hr', sCmp_eq]
    exact .int _ _
end Go.Proofs.YtolackmpfnndhaaGreatDoor.Ev
