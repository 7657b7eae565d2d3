/- The operations that turn memory. Conditions: stated at each. -/
import Derived.Test.YtolackmpfnndhaaGreatDoorSnd2
import Derived.Laws.CopyRow
namespace Go.Proofs.YtolackmpfnndhaaGreatDoor.Ev
open Go Go.RowKit
set_option linter.unusedVariables false
set_option linter.unusedSimpArgs false
variable {P : Program}
theorem getD_set_blk (hs : List (Option Blk)) (d n : Nat) (b : Option Blk) : (hs.set d b).getD n none = if n = d ∧ d < hs.length then b else hs.getD n none := by
  rw [List.getD_eq_getElem?_getD, List.getD_eq_getElem?_getD, List.getElem?_set]
  by_cases h : d = n
  · subst h
    by_cases h2 : d < hs.length <;> simp [h2]
  · rw [if_neg h, if_neg (fun e => h e.1.symm)]
def upd (N : Nat → Loc) (d : Nat) (l : Loc) : Nat → Loc := fun n => if n = d then l else N n
theorem upd_same (N : Nat → Loc) (d : Nat) (l : Loc) : upd N d l d = l := if_pos rfl
theorem upd_other (N : Nat → Loc) {d n : Nat} (l : Loc) (h : n ≠ d) : upd N d l n = N n := if_neg h
theorem Loc.own_none_of {x : Blk} {l : Loc} {b : Nat} (h : l.own x = some b) : (∃ cs, x = .box cs ∧ l = .blk b) ∨ (∃ v A len cap sz, x = .tail v ∧ l = .tail (some A) len cap sz ∧ len < cap ∧ b = A.block) ∨ (∃ t v es A len cap sz, x = .arr t v es ∧ l = .arr (some A) len cap sz ∧ 0 < cap ∧ b = A.block) ∨ ∃ q, x = .obj q ∧ l = .blk b := by
  unfold Loc.own at h
  split at h
  · injection h with h; subst h; exact Or.inl ⟨_, rfl, rfl⟩
  · rename_i v A len cap sz
    split at h
    · rename_i hlt; injection h with h; exact Or.inr (Or.inl ⟨_, _, _, _, _, rfl, rfl, hlt, h.symm⟩)
    · cases h
  · rename_i t v es A len cap sz
    split at h
    · rename_i hlt; injection h with h; exact Or.inr (Or.inr (Or.inl ⟨_, _, _, _, _, _, _, rfl, rfl, hlt, h.symm⟩))
    · cases h
  · injection h with h; subst h; exact Or.inr (Or.inr (Or.inr ⟨_, rfl, rfl⟩))
  · cases h
theorem own_arr {t v : Nat} {es : Rows} {A : Addr} {len cap sz : Nat} (h : 0 < cap) : (Loc.arr (some A) len cap sz).own (.arr t v es) = some A.block := by
  unfold Loc.own; simp only []; rw [if_pos h]
/-- An array's clause, told of a memory that holds its block. -/
theorem Inv.arrKeep {w0 : World} {F0 : Fz} {E E' : En} (hI : Inv P w0 F0 E) (hle : En.Le E E') {n t v : Nat} {es : Rows} (hn : E.hs.getD n none = some (.arr t v es)) (hN : E'.N n = E.N n)
    (hb : ∀ b, (E.N n).own (.arr t v es) = some b → E'.w.heap[b]? = E.w.heap[b]? ∧ ∀ o, ¬ E'.F b o) :
    ∃ a cap sz, E'.N n = .arr a es.length cap sz ∧ sizeT P t = some sz ∧ 0 < sz ∧ es.length ≤ cap ∧ (∀ (i : Nat) (r : Row), es[i]? = some r → r.length = sz ∧ eta P t r = r) ∧
    (0 < cap → ∃ b arr ty, a = some ⟨b, 0, none⟩ ∧ (w0.heap.size ≤ b ∨ F0.M b) ∧ E'.w.heap[b]? = some (.cells arr ty (0, 0)) ∧ cap * sz ≤ arr.size ∧ (∀ o, ¬ E'.F b o) ∧
      ∀ (i : Nat) (r : Row) (j : Nat) (x : V), es[i]? = some r → r[j]? = some x → Rep P E' (arr.getD (i * sz + j) undef) x) := by
  obtain ⟨a, cap, sz, g1, g2, g3, g4, g5, g6⟩ := hI.arr n t v es hn
  refine ⟨a, cap, sz, hN.trans g1, g2, g3, g4, g5, fun hc => ?_⟩
  obtain ⟨b, arr, ty, k1, k2, k3, k4, k5, k6⟩ := g6 hc
  obtain ⟨h1, h2⟩ := hb b (by rw [g1, k1]; exact own_arr hc)
  exact ⟨b, arr, ty, k1, k2, h1.trans k3, k4, h2, fun i r j x hi hj => (k6 i r j x hi hj).mono hle⟩
theorem Inv.arrOwn {w0 : World} {F0 : Fz} {E : En} (hI : Inv P w0 F0 E) {n t v b : Nat} {es : Rows} (hn : E.hs.getD n none = some (.arr t v es)) (ho : (E.N n).own (.arr t v es) = some b) : b < E.w.heap.size ∧ (w0.heap.size ≤ b ∨ F0.M b) ∧ ∀ o, ¬ E.F b o := by
  obtain ⟨a, cap, sz, g1, g2, g3, g4, g5, g6⟩ := hI.arr n t v es hn
  rcases Loc.own_none_of ho with ⟨cs, h, _⟩ | ⟨_, _, _, _, _, h, _⟩ | ⟨t', v', es', A, len, cap', sz', h, hl, hc, rfl⟩ | ⟨_, h, _⟩
  · cases h
  · cases h
  · rw [g1] at hl; injection hl with e1 e2 e3 e4; subst e1; subst e3
    obtain ⟨b, arr, ty, k1, k2, k3, k4, k5, k6⟩ := g6 hc
    injection k1 with k1; subst k1
    exact ⟨(Array.getElem?_eq_some_iff.1 k3).1, k2, k5⟩
  · cases h
/-- An object's clause, told of a memory that holds its block. -/
theorem Inv.objKeep {w0 : World} {F0 : Fz} {E E' : En} (hI : Inv P w0 F0 E) (hle : En.Le E E') {n : Nat} {q : Q} (hn : E.hs.getD n none = some (.obj q)) (hN : E'.N n = E.N n)
    (hb : ∀ b, E.N n = .blk b → E'.w.heap[b]? = E.w.heap[b]? ∧ ∀ o, ¬ E'.F b o) :
    ∃ b o, E'.N n = .blk b ∧ (w0.heap.size ≤ b ∨ F0.M b) ∧ E'.w.heap[b]? = some o ∧ QOk P E' o q ∧ ∀ o, ¬ E'.F b o := by
  obtain ⟨b, o, h1, h2, h3, h4, h5⟩ := hI.obj n q hn
  obtain ⟨k1, k2⟩ := hb b h1
  exact ⟨b, o, hN.trans h1, h2, k1.trans h3, h4.mono hle, k2⟩
theorem Inv.objAt {w0 : World} {F0 : Fz} {E : En} (hI : Inv P w0 F0 E) {n b : Nat} {q : Q} (hn : E.hs.getD n none = some (.obj q)) (hb : E.N n = .blk b) : b < E.w.heap.size ∧ (w0.heap.size ≤ b ∨ F0.M b) ∧ ∀ o, ¬ E.F b o := by
  obtain ⟨b', o, h1, h2, h3, h4, h5⟩ := hI.obj n q hn
  rw [hb] at h1; injection h1 with h1; subst h1
  exact ⟨(Array.getElem?_eq_some_iff.1 h3).1, h2, h5⟩
theorem own_obj {q : Q} {l : Loc} {b : Nat} (h : l = .blk b) : l.own (.obj q) = some b := by subst h; rfl
/-- A slot's block lies in the memory of the call. -/
theorem Inv.ownLt {w0 : World} {F0 : Fz} {E : En} (hI : Inv P w0 F0 E) {n b : Nat} {x : Blk} (hx : E.hs.getD n none = some x) (h : (E.N n).own x = some b) : b < E.w.heap.size := by
  rcases Loc.own_none_of h with ⟨cs, rfl, hl⟩ | ⟨v, A, len, cap, sz, rfl, hl, hlt, rfl⟩ | ⟨t, v, es, A, len, cap, sz, rfl, hl, hlt, rfl⟩ | ⟨q, rfl, hl⟩
  · obtain ⟨b', arr, t, h1, h2, h3, _⟩ := hI.box n cs hx
    rw [hl] at h1; injection h1 with h1; subst h1
    exact (Array.getElem?_eq_some_iff.1 h3).1
  · obtain ⟨a, len', cap', sz', h1, h2, h3⟩ := hI.tail n v hx
    rw [hl] at h1; injection h1 with h1 h4 h5 h6; subst h1; subst h4; subst h5; subst h6
    obtain ⟨A', arr, t, h7, h8, h9, _⟩ := h3 hlt
    injection h7 with h7; subst h7
    exact (Array.getElem?_eq_some_iff.1 h9).1
  · exact (hI.arrOwn hx h).1
  · exact (hI.objAt hx hl).1
theorem cell_alloc_lt {w : World} {o : Obj} {A : Addr} (h : A.block < w.heap.size) : (w.alloc o).cell? A = w.cell? A := by apply World.cell?_alloc_lt; exact h
theorem alloc_new (w : World) (o : Obj) : (w.alloc o).heap[w.heap.size]? = some o := by
  show (w.heap.push o)[w.heap.size]? = _
  simp
/-- A box made. -/
theorem Inv.newBox {w0 : World} {F0 : Fz} {E : En} (hI : Inv P w0 F0 E) {d : Nat} (hd : E.hs.getD d none = none) (hlt : d < E.hs.length) {arr : Array Value} {cs : List V} (t : TypeId) (hs : arr.size = cs.length)
    (hx : ∀ (j : Nat) (y : V), cs[j]? = some y → Rep P E (arr.getD j undef) y) :
    let E' : En := ⟨E.w.alloc (.cells arr t), E.F, upd E.N d (.blk E.w.heap.size), E.hs.set d (some (.box cs))⟩
    Inv P w0 F0 E' ∧ En.Le E E' ∧ Rep P E' (.pointer (some ⟨E.w.heap.size, 0, none⟩)) (.optr d 0) := by
  intro E'
  have hget : ∀ n, E'.hs.getD n none = if n = d then some (.box cs) else E.hs.getD n none := by
    intro n
    show (E.hs.set d _).getD n none = _
    rw [getD_set_blk]
    by_cases hn : n = d <;> simp [hn, hlt]
  have hle : En.Le E E' := by
    refine ⟨fun A hA => cell_alloc_lt (hI.Flt _ _ hA), fun b o h => h, fun n c hn => ?_, fun n v hn => ?_, fun n t v es hn => ?_, fun n q hn => ?_⟩
    · have hnd : n ≠ d := fun e => by subst e; rw [hd] at hn; cases hn
      rw [hget, if_neg hnd]
      exact ⟨⟨c, hn⟩, upd_other _ _ hnd⟩
    · have hnd : n ≠ d := fun e => by subst e; rw [hd] at hn; cases hn
      rw [hget, if_neg hnd]
      exact ⟨v, hn, Nat.le_refl _, fun _ => upd_other _ _ hnd⟩
    · have hnd : n ≠ d := fun e => by subst e; rw [hd] at hn; cases hn
      rw [hget, if_neg hnd]
      exact ⟨v, es, hn, Nat.le_refl _, fun _ => ⟨rfl, upd_other _ _ hnd⟩⟩
    · have hnd : n ≠ d := fun e => by subst e; rw [hd] at hn; cases hn
      rw [hget, if_neg hnd]
      exact ⟨⟨q, hn⟩, upd_other _ _ hnd⟩
  have hbl : ∀ b, b < E.w.heap.size → E'.w.heap[b]? = E.w.heap[b]? := fun b hb => Below.heap_alloc E.w _ b hb
  refine ⟨⟨hI.below.after ((Below.refl _ _).alloc (Nat.le_refl _) _), hI.keep, hI.Fnew, fun b o h => Nat.lt_of_lt_of_le (hI.Flt b o h) (by show E.w.heap.size ≤ (E.w.alloc _).heap.size; simp), fun n c hn => ?_, fun n v hn => ?_, fun n t' v es hn => ?_, fun n q hn => ?_, fun n m x y b hn hm h1 h2 => ?_, hI.glob⟩, hle, ?_⟩
  · rw [hget] at hn
    by_cases hnd : n = d
    · rw [if_pos hnd] at hn
      injection hn with hn; injection hn with hn; subst hn; subst hnd
      exact ⟨E.w.heap.size, arr, t, upd_same .., Or.inl hI.size, alloc_new E.w _, hs, fun j x hj => (hx j x hj).mono hle, fun o h => Nat.lt_irrefl _ (hI.Flt _ _ h)⟩
    · rw [if_neg hnd] at hn
      obtain ⟨b, arr', t', h1, h2, h3, h4, h5, h6⟩ := hI.box n c hn
      exact ⟨b, arr', t', (upd_other _ _ hnd).trans h1, h2, (hbl b (Array.getElem?_eq_some_iff.1 h3).1).trans h3, h4, fun j x hj => (h5 j x hj).mono hle, h6⟩
  · rw [hget] at hn
    by_cases hnd : n = d
    · rw [if_pos hnd] at hn; cases hn
    · rw [if_neg hnd] at hn
      obtain ⟨a, len, cap, sz, h1, h2, h3⟩ := hI.tail n v hn
      refine ⟨a, len, cap, sz, (upd_other _ _ hnd).trans h1, h2, fun hl => ?_⟩
      obtain ⟨A, arr', t', q1, q2, q3, q4, q5⟩ := h3 hl
      exact ⟨A, arr', t', q1, q2, (hbl _ (Array.getElem?_eq_some_iff.1 q3).1).trans q3, q4, q5⟩
  · rw [hget] at hn
    by_cases hnd : n = d
    · rw [if_pos hnd] at hn; cases hn
    · rw [if_neg hnd] at hn
      exact hI.arrKeep hle hn (upd_other _ _ hnd) (fun b hb => ⟨hbl b (hI.arrOwn hn hb).1, (hI.arrOwn hn hb).2.2⟩)
  · rw [hget] at hn
    by_cases hnd : n = d
    · rw [if_pos hnd] at hn; cases hn
    · rw [if_neg hnd] at hn
      exact hI.objKeep hle hn (upd_other _ _ hnd) (fun b hb => ⟨hbl b (hI.objAt hn hb).1, (hI.objAt hn hb).2.2⟩)
  · rw [hget] at hn hm
    have key : ∀ k z, k ≠ d → E.hs.getD k none = some z → (E'.N k).own z = some b → b < E.w.heap.size := fun k z hk hz hb =>
      hI.ownLt hz (by rw [← hb]; show _ = (upd E.N d _ k).own z; rw [upd_other _ _ hk])
    have new : ∀ z, (upd E.N d (.blk E.w.heap.size) d).own z = some b → b = E.w.heap.size := by
      intro z hz
      rw [upd_same] at hz
      unfold Loc.own at hz
      split at hz
      · rename_i e; injection e with e; injection hz with hz; rw [← hz, ← e]
      · rename_i e; cases e
      · rename_i e; cases e
      · rename_i e; injection e with e; injection hz with hz; rw [← hz, ← e]
      · cases hz
    by_cases hnd : n = d <;> by_cases hmd : m = d
    · rw [hnd, hmd]
    · exfalso
      rw [if_neg hmd] at hm
      have e1 := key m y hmd hm h2
      have e2 := new x (by rw [← h1, hnd])
      omega
    · exfalso
      rw [if_neg hnd] at hn
      have e1 := key n x hnd hn h1
      have e2 := new y (by rw [← h2, hmd])
      omega
    · rw [if_neg hnd] at hn
      rw [if_neg hmd] at hm
      refine hI.disj n m x y b hn hm ?_ ?_
      · rw [← h1]; show _ = (upd E.N d _ n).own x; rw [upd_other _ _ hnd]
      · rw [← h2]; show _ = (upd E.N d _ m).own y; rw [upd_other _ _ hmd]
  · exact .optr d 0 _ (upd_same ..) ⟨cs, by rw [hget, if_pos rfl]⟩
theorem Below.setRow {B : Nat} {a w : World} (h : Below B a w) {g : Nat} (hg : B ≤ g) (cs : Array Value) : Below B a (w.setRow g cs) :=
  h.trans ⟨rfl, rfl, rfl, by simp, fun k hk => setRow_other w g k cs (by omega)⟩
theorem BelowM.setRow {M : Nat → Prop} {a w : World} (h : BelowM M a w) {g : Nat} (hg : a.heap.size ≤ g ∨ M g) (cs : Array Value) : BelowM M a (w.setRow g cs) :=
  h.trans (M' := fun k => k = g) ⟨rfl, rfl, rfl, by simp, fun k hk hn => setRow_other w g k cs hn⟩ (fun k hk => by subst hk; exact hg.symm)
/-- A box's cells replaced. -/
theorem Inv.setBox {w0 : World} {F0 : Fz} {E : En} (hI : Inv P w0 F0 E) {n b : Nat} {cs cs' : List V} {arr arr' : Array Value} {t : TypeId} (hn : E.hs.getD n none = some (.box cs)) (hN : E.N n = .blk b)
    (hh : E.w.heap[b]? = some (.cells arr t (0, 0))) (hs : arr'.size = cs'.length) (hx : ∀ (j : Nat) (y : V), cs'[j]? = some y → Rep P E (arr'.getD j undef) y) :
    let E' : En := ⟨E.w.setRow b arr', E.F, E.N, E.hs.set n (some (.box cs'))⟩
    Inv P w0 F0 E' ∧ En.Le E E' := by
  intro E'
  obtain ⟨b', arr0, t0, g1, g2, g3, g4, g5, g6⟩ := hI.box n cs hn
  rw [hN] at g1; injection g1 with g1; subst g1
  have hlt : n < E.hs.length := by
    rcases Nat.lt_or_ge n E.hs.length with h | h
    · exact h
    · rw [List.getD_eq_getElem?_getD, List.getElem?_eq_none h] at hn; cases hn
  have hget : ∀ m, E'.hs.getD m none = if m = n then some (.box cs') else E.hs.getD m none := by
    intro m
    show (E.hs.set n _).getD m none = _
    rw [getD_set_blk]
    by_cases hm : m = n <;> simp [hm, hlt]
  have hle : En.Le E E' := by
    refine ⟨fun A hA => cell_setRow_other _ _ _ _ (fun e => g6 A.off (e ▸ hA)), fun _ _ h => h, fun m c hm => ?_, fun m v hm => ?_, fun m t v es hm => ?_, fun m q hm => ?_⟩
    · rw [hget]
      by_cases hmn : m = n
      · rw [if_pos hmn]; exact ⟨⟨_, rfl⟩, rfl⟩
      · rw [if_neg hmn]; exact ⟨⟨c, hm⟩, rfl⟩
    · have hmn : m ≠ n := fun e => by subst e; rw [hn] at hm; cases hm
      rw [hget, if_neg hmn]
      exact ⟨v, hm, Nat.le_refl _, fun _ => rfl⟩
    · have hmn : m ≠ n := fun e => by subst e; rw [hn] at hm; cases hm
      rw [hget, if_neg hmn]
      exact ⟨v, es, hm, Nat.le_refl _, fun _ => ⟨rfl, rfl⟩⟩
    · have hmn : m ≠ n := fun e => by subst e; rw [hn] at hm; cases hm
      rw [hget, if_neg hmn]
      exact ⟨⟨q, hm⟩, rfl⟩
  have hother : ∀ (k : Nat), k ≠ b → E'.w.heap[k]? = E.w.heap[k]? := fun k hk => setRow_other _ _ _ _ hk
  refine ⟨⟨BelowM.setRow hI.below g2 _, hI.keep, hI.Fnew, fun b o h => by show b < (E.w.setRow _ _).heap.size; rw [setRow_size]; exact hI.Flt b o h, fun m c hm => ?_, fun m v hm => ?_, fun m t' v es hm => ?_, fun m q hm => ?_, fun m k x y q hm hk h1 h2 => ?_, hI.glob⟩, hle⟩
  · rw [hget] at hm
    by_cases hmn : m = n
    · rw [if_pos hmn] at hm
      injection hm with hm; injection hm with hm; subst hm; subst hmn
      exact ⟨b, arr', t, hN, g2, setRow_heap _ _ _ _ _ _ hh, hs, fun j x hj => (hx j x hj).mono hle, g6⟩
    · rw [if_neg hmn] at hm
      obtain ⟨b2, arr2, t2, h1, h2, h3, h4, h5, h6⟩ := hI.box m c hm
      have hne : b2 ≠ b := fun e => hmn (hI.disj m n _ _ b hm hn (by rw [h1, e]; rfl) (by rw [hN]; rfl))
      exact ⟨b2, arr2, t2, h1, h2, (hother b2 hne).trans h3, h4, fun j x hj => (h5 j x hj).mono hle, h6⟩
  · rw [hget] at hm
    by_cases hmn : m = n
    · rw [if_pos hmn] at hm; cases hm
    · rw [if_neg hmn] at hm
      obtain ⟨a, len, cap, sz, h1, h2, h3⟩ := hI.tail m v hm
      refine ⟨a, len, cap, sz, h1, h2, fun hl => ?_⟩
      obtain ⟨A, arr2, t2, q1, q2, q3, q4, q5⟩ := h3 hl
      have hne : A.block ≠ b := fun e => hmn (hI.disj m n _ _ b hm hn (by rw [h1, q1]; unfold Loc.own; simp only []; rw [if_pos hl, e]) (by rw [hN]; rfl))
      exact ⟨A, arr2, t2, q1, q2, (hother _ hne).trans q3, q4, q5⟩
  · rw [hget] at hm
    by_cases hmn : m = n
    · rw [if_pos hmn] at hm; cases hm
    · rw [if_neg hmn] at hm
      refine hI.arrKeep hle hm rfl (fun q hq => ⟨hother q (fun e => hmn (hI.disj m n _ _ b hm hn (by rw [hq, e]) (by rw [hN]; rfl))), (hI.arrOwn hm hq).2.2⟩)
  · rw [hget] at hm
    by_cases hmn : m = n
    · rw [if_pos hmn] at hm; cases hm
    · rw [if_neg hmn] at hm
      refine hI.objKeep hle hm rfl (fun q' hq => ⟨hother q' (fun e => hmn (hI.disj m n _ _ b hm hn (by rw [hq, e]; rfl) (by rw [hN]; rfl))), (hI.objAt hm hq).2.2⟩)
  · rw [hget] at hm hk
    have hown : ∀ z, (E.N n).own z = some q → z = .box cs' ∨ (E.N n).own (.box cs) = some q := by
      intro z hz; right
      rw [hN] at hz ⊢
      unfold Loc.own at hz
      split at hz
      · rename_i e; injection e with e; subst e; exact hz
      · rename_i e; cases e
      · rename_i e; cases e
      · rename_i e; injection e with e; subst e; exact hz
      · cases hz
    by_cases hmn : m = n <;> by_cases hkn : k = n
    · rw [hmn, hkn]
    · rw [if_neg hkn] at hk
      subst hmn
      refine hI.disj m k _ y q hn hk ?_ h2
      rw [if_pos rfl] at hm; injection hm with hm; subst hm
      rw [hN] at h1 ⊢; exact h1
    · rw [if_neg hmn] at hm
      subst hkn
      refine hI.disj m k x _ q hm hn h1 ?_
      rw [if_pos rfl] at hk; injection hk with hk; subst hk
      rw [hN] at h2 ⊢; exact h2
    · rw [if_neg hmn] at hm
      rw [if_neg hkn] at hk
      exact hI.disj m k x y q hm hk h1 h2
/-- New memory, more that stays. -/
theorem Inv.grow {w0 : World} {F0 : Fz} {E : En} (hI : Inv P w0 F0 E) {w' : World} {F' : Nat → Nat → Prop} (hb : Below E.w.heap.size E.w w') (h1 : ∀ b o, E.F b o → F' b o) (h2 : ∀ b o, F' b o → E.F b o ∨ E.w.heap.size ≤ b)
    (h3 : ∀ b o, F' b o → b < w'.heap.size) : let E' : En := ⟨w', F', E.N, E.hs⟩
    Inv P w0 F0 E' ∧ En.Le E E' := by
  intro E'
  have hle : En.Le E E' := ⟨fun A hA => hb.cell (hI.Flt _ _ hA), h1, fun n c hn => ⟨⟨c, hn⟩, rfl⟩, fun n v hn => ⟨v, hn, Nat.le_refl _, fun _ => rfl⟩, fun n t v es hn => ⟨v, es, hn, Nat.le_refl _, fun _ => ⟨rfl, rfl⟩⟩, fun n q hn => ⟨⟨q, hn⟩, rfl⟩⟩
  refine ⟨⟨hI.below.after hb, fun b o h => h1 b o (hI.keep b o h), fun b o h => ?_, h3, fun n c hn => ?_, fun n v hn => ?_, fun n t v es hn => hI.arrKeep hle hn rfl (fun b ho => ⟨hb.block b (hI.arrOwn hn ho).1, fun o h => ?_⟩), fun n q hn => hI.objKeep hle hn rfl (fun b ho => ⟨hb.block b (hI.objAt hn ho).1, fun o h => ?_⟩), hI.disj, hI.glob⟩, hle⟩
  · rcases h2 b o h with h | h
    · exact hI.Fnew b o h
    · exact Or.inr (Or.inl (Nat.le_trans hI.size h))
  · obtain ⟨b, arr, t, q1, q2, q3, q4, q5, q6⟩ := hI.box n c hn
    have hlt := (Array.getElem?_eq_some_iff.1 q3).1
    refine ⟨b, arr, t, q1, q2, (hb.block b hlt).trans q3, q4, fun j x hj => (q5 j x hj).mono hle, fun o h => ?_⟩
    rcases h2 b o h with h | h
    · exact q6 o h
    · omega
  · obtain ⟨a, len, cap, sz, q1, q2, q3⟩ := hI.tail n v hn
    refine ⟨a, len, cap, sz, q1, q2, fun hl => ?_⟩
    obtain ⟨A, arr, t, r1, r2, r3, r4, r5, r6⟩ := q3 hl
    have hlt := (Array.getElem?_eq_some_iff.1 r3).1
    refine ⟨A, arr, t, r1, r2, (hb.block _ hlt).trans r3, r4, r5, fun o ho h => ?_⟩
    rcases h2 _ o h with h | h
    · exact r6 o ho h
    · omega
  · rcases h2 b o h with h | h
    · exact (hI.arrOwn hn ho).2.2 o h
    · have := (hI.arrOwn hn ho).1; omega
  · rcases h2 b o h with h | h
    · exact (hI.objAt hn ho).2.2 o h
    · have := (hI.objAt hn ho).1; omega
/-- A slot made an own slice's. -/
theorem Inv.setTail {w0 : World} {F0 : Fz} {E : En} (hI : Inv P w0 F0 E) {n v : Nat} {a : Option Addr} {len cap sz : Nat} {F' : Nat → Nat → Prop} (hcur : E.hs.getD n none = none ∨ ∃ v0, E.hs.getD n none = some (.tail v0) ∧ v0 < v) (hlt : n < E.hs.length)
    (hlc : len ≤ cap) (h1 : ∀ b o, E.F b o → F' b o) (h2 : ∀ b o, F' b o → E.F b o ∨ ((w0.heap.size ≤ b ∨ F0.M b) ∧ b < E.w.heap.size ∧ ∀ m x, m ≠ n → E.hs.getD m none = some x → (E.N m).own x ≠ some b))
    (hown : len < cap → ∃ A arr t, a = some A ∧ (w0.heap.size ≤ A.block ∨ F0.M A.block) ∧ E.w.heap[A.block]? = some (.cells arr t (0, 0)) ∧ A.off + cap * sz ≤ arr.size ∧ A.spot = none ∧ (∀ o, A.off + len * sz ≤ o → ¬ F' A.block o) ∧
      ∀ m x, m ≠ n → E.hs.getD m none = some x → (E.N m).own x ≠ some A.block) :
    let E' : En := ⟨E.w, F', upd E.N n (.tail a len cap sz), E.hs.set n (some (.tail v))⟩
    Inv P w0 F0 E' ∧ En.Le E E' := by
  intro E'
  have hget : ∀ m, E'.hs.getD m none = if m = n then some (.tail v) else E.hs.getD m none := by
    intro m
    show (E.hs.set n _).getD m none = _
    rw [getD_set_blk]
    by_cases hm : m = n <;> simp [hm, hlt]
  have hnb : ∀ c, E.hs.getD n none ≠ some (.box c) := by
    intro c e
    rcases hcur with h | ⟨v0, h, _⟩
    · rw [h] at e; cases e
    · rw [h] at e; injection e with e; cases e
  have hno : ∀ q, E.hs.getD n none ≠ some (.obj q) := by
    intro q e
    rcases hcur with h | ⟨v0, h, _⟩
    · rw [h] at e; cases e
    · rw [h] at e; injection e with e; cases e
  have hna : ∀ t v es, E.hs.getD n none ≠ some (.arr t v es) := by
    intro t v es e
    rcases hcur with h | ⟨v0, h, _⟩
    · rw [h] at e; cases e
    · rw [h] at e; injection e with e; cases e
  have hle : En.Le E E' := by
    refine ⟨fun _ _ => rfl, h1, fun m c hm => ?_, fun m v' hm => ?_, fun m t v' es hm => ?_, fun m q hm => ?_⟩
    · have hmn : m ≠ n := fun e => hnb c (e ▸ hm)
      rw [hget, if_neg hmn]
      exact ⟨⟨c, hm⟩, upd_other _ _ hmn⟩
    · rw [hget]
      by_cases hmn : m = n
      · rw [if_pos hmn]
        subst hmn
        rcases hcur with h | ⟨v0, h, hv⟩
        · rw [h] at hm; cases hm
        · rw [h] at hm; injection hm with hm; injection hm with hm; subst hm
          exact ⟨v, rfl, Nat.le_of_lt hv, fun e => by omega⟩
      · rw [if_neg hmn]
        exact ⟨v', hm, Nat.le_refl _, fun _ => upd_other _ _ hmn⟩
    · have hmn : m ≠ n := fun e => hna t v' es (e ▸ hm)
      rw [hget, if_neg hmn]
      exact ⟨v', es, hm, Nat.le_refl _, fun _ => ⟨rfl, upd_other _ _ hmn⟩⟩
    · have hmn : m ≠ n := fun e => hno q (e ▸ hm)
      rw [hget, if_neg hmn]
      exact ⟨⟨q, hm⟩, upd_other _ _ hmn⟩
  refine ⟨⟨hI.below, fun b o h => h1 b o (hI.keep b o h), fun b o h => ?_, fun b o h => ?_, fun m c hm => ?_, fun m v' hm => ?_, fun m t v' es hm => ?_, fun m q hm => ?_, fun m k x y q hm hk q1 q2 => ?_, hI.glob⟩, hle⟩
  · rcases h2 b o h with h | h
    · exact hI.Fnew b o h
    · exact Or.inr h.1
  · rcases h2 b o h with h | h
    · exact hI.Flt b o h
    · exact h.2.1
  · rw [hget] at hm
    by_cases hmn : m = n
    · rw [if_pos hmn] at hm; cases hm
    · rw [if_neg hmn] at hm
      obtain ⟨b, arr, t, q1, q2, q3, q4, q5, q6⟩ := hI.box m c hm
      refine ⟨b, arr, t, (upd_other _ _ hmn).trans q1, q2, q3, q4, fun j x hj => (q5 j x hj).mono hle, fun o h => ?_⟩
      rcases h2 b o h with h | h
      · exact q6 o h
      · exact h.2.2 m _ hmn hm (by rw [q1]; rfl)
  · rw [hget] at hm
    by_cases hmn : m = n
    · rw [if_pos hmn] at hm
      subst hmn
      refine ⟨a, len, cap, sz, upd_same .., hlc, fun hl => ?_⟩
      obtain ⟨A, arr, t, r1, r2, r3, r4, r5, r6, _⟩ := hown hl
      exact ⟨A, arr, t, r1, r2, r3, r4, r5, r6⟩
    · rw [if_neg hmn] at hm
      obtain ⟨a', len', cap', sz', q1, q2, q3⟩ := hI.tail m v' hm
      refine ⟨a', len', cap', sz', (upd_other _ _ hmn).trans q1, q2, fun hl => ?_⟩
      obtain ⟨A, arr, t, r1, r2, r3, r4, r5, r6⟩ := q3 hl
      refine ⟨A, arr, t, r1, r2, r3, r4, r5, fun o ho h => ?_⟩
      rcases h2 _ o h with h | h
      · exact r6 o ho h
      · exact h.2.2 m _ hmn hm (by rw [q1, r1]; unfold Loc.own; simp only []; rw [if_pos hl])
  · rw [hget] at hm
    by_cases hmn : m = n
    · rw [if_pos hmn] at hm; cases hm
    · rw [if_neg hmn] at hm
      refine hI.arrKeep hle hm (upd_other _ _ hmn) (fun b ho => ⟨rfl, fun o h => ?_⟩)
      rcases h2 _ o h with h | h
      · exact (hI.arrOwn hm ho).2.2 o h
      · exact h.2.2 m _ hmn hm ho
  · rw [hget] at hm
    by_cases hmn : m = n
    · rw [if_pos hmn] at hm; cases hm
    · rw [if_neg hmn] at hm
      refine hI.objKeep hle hm (upd_other _ _ hmn) (fun b ho => ⟨rfl, fun o h => ?_⟩)
      rcases h2 _ o h with h | h
      · exact (hI.objAt hm ho).2.2 o h
      · exact h.2.2 m _ hmn hm (own_obj ho)
  · rw [hget] at hm hk
    have new : ∀ z, (upd E.N n (.tail a len cap sz) n).own z = some q → ∃ A, a = some A ∧ len < cap ∧ q = A.block := by
      intro z hz
      rw [upd_same] at hz
      rcases Loc.own_none_of hz with ⟨c, _, e⟩ | ⟨v1, A, l1, c1, s1, _, e, hl, e2⟩ | ⟨_, _, _, _, _, _, _, _, e, _⟩ | ⟨_, _, e⟩
      · cases e
      · injection e with e3 e4 e5 e6; subst e4; subst e5; exact ⟨A, e3, hl, e2⟩
      · cases e
      · cases e
    by_cases hmn : m = n <;> by_cases hkn : k = n
    · rw [hmn, hkn]
    · exfalso
      rw [if_neg hkn] at hk
      obtain ⟨A, e1, e2, e3⟩ := new x (by rw [← q1, hmn])
      obtain ⟨A', arr, t, r1, r2, r3, r4, r5, r6, r7⟩ := hown e2
      rw [e1] at r1; injection r1 with r1; subst r1
      refine r7 k y hkn hk ?_
      rw [← e3, ← q2]; show _ = (upd E.N n _ k).own y; rw [upd_other _ _ hkn]
    · exfalso
      rw [if_neg hmn] at hm
      obtain ⟨A, e1, e2, e3⟩ := new y (by rw [← q2, hkn])
      obtain ⟨A', arr, t, r1, r2, r3, r4, r5, r6, r7⟩ := hown e2
      rw [e1] at r1; injection r1 with r1; subst r1
      refine r7 m x hmn hm ?_
      rw [← e3, ← q1]; show _ = (upd E.N n _ m).own x; rw [upd_other _ _ hmn]
    · rw [if_neg hmn] at hm
      rw [if_neg hkn] at hk
      refine hI.disj m k x y q hm hk ?_ ?_
      · rw [← q1]; show _ = (upd E.N n _ m).own x; rw [upd_other _ _ hmn]
      · rw [← q2]; show _ = (upd E.N n _ k).own y; rw [upd_other _ _ hkn]
/-- Cells of an own slice's tail written. -/
theorem Inv.write {w0 : World} {F0 : Fz} {E : En} (hI : Inv P w0 F0 E) {n v : Nat} {A : Addr} {len cap sz : Nat} {arr arr' : Array Value} {t : TypeId} (hn : E.hs.getD n none = some (.tail v)) (hN : E.N n = .tail (some A) len cap sz) (hlc : len < cap)
    (hh : E.w.heap[A.block]? = some (.cells arr t (0, 0))) (hs : arr'.size = arr.size) (hsame : ∀ j, j < A.off + len * sz → arr'[j]? = arr[j]?) :
    let E' : En := ⟨E.w.setRow A.block arr', E.F, E.N, E.hs⟩
    Inv P w0 F0 E' ∧ En.Le E E' := by
  intro E'
  obtain ⟨a, len', cap', sz', g1, g2, g3⟩ := hI.tail n v hn
  rw [hN] at g1; injection g1 with g1 g4 g5 g6; subst g1; subst g4; subst g5; subst g6
  obtain ⟨A', arr0, t0, r1, r2, r3, r4, r5, r6⟩ := g3 hlc
  injection r1 with r1; subst r1
  have hle : En.Le E E' := by
    refine ⟨fun B hB => ?_, fun _ _ h => h, fun m c hm => ⟨⟨c, hm⟩, rfl⟩, fun m v hm => ⟨v, hm, Nat.le_refl _, fun _ => rfl⟩, fun m t v es hm => ⟨v, es, hm, Nat.le_refl _, fun _ => ⟨rfl, rfl⟩⟩, fun m q hm => ⟨⟨q, hm⟩, rfl⟩⟩
    by_cases hb : B.block = A.block
    · have hlt : B.off < A.off + len * sz := by
        rcases Nat.lt_or_ge B.off (A.off + len * sz) with h | h
        · exact h
        · exact absurd (hb ▸ hB) (r6 B.off h)
      unfold World.cell?
      rw [hb, hh]
      show (match (E.w.setRow A.block arr').heap[A.block]? with | some (.cells c _ _) => _ | _ => _) = _
      rw [setRow_heap _ _ _ _ _ _ hh]
      simp only []
      rw [hsame _ hlt]
    · exact cell_setRow_other _ _ _ _ hb
  have hother : ∀ (k : Nat), k ≠ A.block → E'.w.heap[k]? = E.w.heap[k]? := fun k hk => setRow_other _ _ _ _ hk
  refine ⟨⟨BelowM.setRow hI.below r2 _, hI.keep, hI.Fnew, fun b o h => by show b < (E.w.setRow _ _).heap.size; rw [setRow_size]; exact hI.Flt b o h, fun m c hm => ?_, fun m v' hm => ?_, fun m t' v' es hm => hI.arrKeep hle hm rfl (fun q hq => ⟨hother q (fun e => ?_), (hI.arrOwn hm hq).2.2⟩), fun m q0 hm => hI.objKeep hle hm rfl (fun q hq => ⟨hother q (fun e => ?_), (hI.objAt hm hq).2.2⟩), hI.disj, hI.glob⟩, hle⟩
  · obtain ⟨b2, arr2, t2, h1, h2, h3, h4, h5, h6⟩ := hI.box m c hm
    have hne : b2 ≠ A.block := fun e => by
      have := hI.disj m n _ _ b2 hm hn (by rw [h1]; rfl) (by rw [hN]; unfold Loc.own; simp only []; rw [if_pos hlc, e])
      subst this; rw [hm] at hn; injection hn with hn; cases hn
    exact ⟨b2, arr2, t2, h1, h2, (hother b2 hne).trans h3, h4, fun j x hj => (h5 j x hj).mono hle, h6⟩
  · obtain ⟨a', len', cap', sz', q1, q2, q3⟩ := hI.tail m v' hm
    refine ⟨a', len', cap', sz', q1, q2, fun hl => ?_⟩
    obtain ⟨B, arr2, t2, p1, p2, p3, p4, p5, p6⟩ := q3 hl
    by_cases hb : B.block = A.block
    · rw [hb] at p3
      rw [hh] at p3; injection p3 with p3; injection p3 with p3 p3'; subst p3
      exact ⟨B, arr', t, p1, p2, by rw [hb]; exact setRow_heap _ _ _ _ _ _ hh, by rw [hs]; exact p4, p5, p6⟩
    · exact ⟨B, arr2, t2, p1, p2, (hother _ hb).trans p3, p4, p5, p6⟩
  · have := hI.disj m n _ _ A.block hm hn (by rw [hq, e]) (by rw [hN]; unfold Loc.own; simp only []; rw [if_pos hlc])
    subst this; rw [hm] at hn; injection hn with hn; cases hn
  · have := hI.disj m n _ _ A.block hm hn (by rw [hq, e]; rfl) (by rw [hN]; unfold Loc.own; simp only []; rw [if_pos hlc])
    subst this; rw [hm] at hn; injection hn with hn; cases hn
theorem own_arr_inv {t v : Nat} {es : Rows} {a : Option Addr} {len cap sz q : Nat} (h : (Loc.arr a len cap sz).own (.arr t v es) = some q) : 0 < cap ∧ ∃ A, a = some A ∧ q = A.block := by
  rcases Loc.own_none_of h with ⟨c, e, _⟩ | ⟨_, _, _, _, _, e, _⟩ | ⟨_, _, _, A, _, _, _, _, e, hc, e2⟩ | ⟨_, e, _⟩
  · cases e
  · cases e
  · injection e with e1 e2' e3 e4; subst e3; exact ⟨hc, A, e1, e2⟩
  · cases e
/-- An array's rows (and its edition) turned, in its own block. -/
theorem Inv.arrTurn {w0 : World} {F0 : Fz} {E : En} (hI : Inv P w0 F0 E) {n t v v' b cap sz : Nat} {es es' : Rows} {arr arr' : Array Value} {ty : TypeId} (hn : E.hs.getD n none = some (.arr t v es)) (hN : E.N n = .arr (some ⟨b, 0, none⟩) es.length cap sz)
    (hc : 0 < cap) (hh : E.w.heap[b]? = some (.cells arr ty (0, 0))) (hver : v < v' ∨ (v = v' ∧ es'.length = es.length)) (hcap : es'.length ≤ cap) (hrow : ∀ (i : Nat) (r : Row), es'[i]? = some r → r.length = sz ∧ eta P t r = r) (hs : arr'.size = arr.size)
    (hx : ∀ (i : Nat) (r : Row) (j : Nat) (x : V), es'[i]? = some r → r[j]? = some x → Rep P E (arr'.getD (i * sz + j) undef) x) :
    let E' : En := ⟨E.w.setRow b arr', E.F, upd E.N n (.arr (some ⟨b, 0, none⟩) es'.length cap sz), E.hs.set n (some (.arr t v' es'))⟩
    Inv P w0 F0 E' ∧ En.Le E E' := by
  intro E'
  obtain ⟨a, cap', sz', g1, g2, g3, g4, g5, g6⟩ := hI.arr n t v es hn
  rw [hN] at g1; injection g1 with g1 e2 e3 e4; subst g1; subst e3; subst e4
  obtain ⟨b', arr0, ty0, k1, k2, k3, k4, k5, k6⟩ := g6 hc
  injection k1 with k1; injection k1 with k1; subst k1
  rw [hh] at k3; injection k3 with k3; injection k3 with k3 k3' _; subst k3; subst k3'
  have hown : (E.N n).own (.arr t v es) = some b := by rw [hN]; exact own_arr hc
  have hlt : n < E.hs.length := by
    rcases Nat.lt_or_ge n E.hs.length with h | h
    · exact h
    · rw [List.getD_eq_getElem?_getD, List.getElem?_eq_none h] at hn; cases hn
  have hget : ∀ m, E'.hs.getD m none = if m = n then some (.arr t v' es') else E.hs.getD m none := by
    intro m
    show (E.hs.set n _).getD m none = _
    rw [getD_set_blk]
    by_cases hm : m = n <;> simp [hm, hlt]
  have hle : En.Le E E' := by
    refine ⟨fun A hA => cell_setRow_other _ _ _ _ (fun e => k5 A.off (e ▸ hA)), fun _ _ h => h, fun m c hm => ?_, fun m v hm => ?_, fun m t1 v1 es1 hm => ?_, fun m q hm => ?_⟩
    · have hmn : m ≠ n := fun e => by subst e; rw [hn] at hm; cases hm
      rw [hget, if_neg hmn]; exact ⟨⟨c, hm⟩, upd_other _ _ hmn⟩
    · have hmn : m ≠ n := fun e => by subst e; rw [hn] at hm; cases hm
      rw [hget, if_neg hmn]; exact ⟨v, hm, Nat.le_refl _, fun _ => upd_other _ _ hmn⟩
    · rw [hget]
      by_cases hmn : m = n
      · rw [if_pos hmn]
        subst hmn
        rw [hn] at hm; injection hm with hm; injection hm with e1 e2 e3; subst e1; subst e2; subst e3
        refine ⟨v', es', rfl, ?_, fun e => ?_⟩
        · rcases hver with h | h
          · exact Nat.le_of_lt h
          · exact Nat.le_of_eq h.1
        · rcases hver with h | h
          · omega
          · refine ⟨h.2, ?_⟩
            show upd E.N m _ m = _
            rw [upd_same, hN, h.2]
      · rw [if_neg hmn]
        exact ⟨v1, es1, hm, Nat.le_refl _, fun _ => ⟨rfl, upd_other _ _ hmn⟩⟩
    · have hmn : m ≠ n := fun e => by subst e; rw [hn] at hm; cases hm
      rw [hget, if_neg hmn]; exact ⟨⟨q, hm⟩, upd_other _ _ hmn⟩
  have hother : ∀ (k : Nat), k ≠ b → E'.w.heap[k]? = E.w.heap[k]? := fun k hk => setRow_other _ _ _ _ hk
  refine ⟨⟨BelowM.setRow hI.below k2 _, hI.keep, hI.Fnew, fun b o h => by show b < (E.w.setRow _ _).heap.size; rw [setRow_size]; exact hI.Flt b o h, fun m c hm => ?_, fun m v1 hm => ?_, fun m t1 v1 es1 hm => ?_, fun m q hm => ?_, fun m k x y q hm hk h1 h2 => ?_, hI.glob⟩, hle⟩
  · rw [hget] at hm
    by_cases hmn : m = n
    · rw [if_pos hmn] at hm; cases hm
    · rw [if_neg hmn] at hm
      obtain ⟨b2, arr2, t2, h1, h2, h3, h4, h5, h6⟩ := hI.box m c hm
      have hne : b2 ≠ b := fun e => hmn (hI.disj m n _ _ b hm hn (by rw [h1, e]; rfl) hown)
      exact ⟨b2, arr2, t2, (upd_other _ _ hmn).trans h1, h2, (hother b2 hne).trans h3, h4, fun j x hj => (h5 j x hj).mono hle, h6⟩
  · rw [hget] at hm
    by_cases hmn : m = n
    · rw [if_pos hmn] at hm; cases hm
    · rw [if_neg hmn] at hm
      obtain ⟨a, len, cap, sz, h1, h2, h3⟩ := hI.tail m v1 hm
      refine ⟨a, len, cap, sz, (upd_other _ _ hmn).trans h1, h2, fun hl => ?_⟩
      obtain ⟨A, arr2, t2, q1, q2, q3, q4, q5⟩ := h3 hl
      have hne : A.block ≠ b := fun e => hmn (hI.disj m n _ _ b hm hn (by rw [h1, q1]; unfold Loc.own; simp only []; rw [if_pos hl, e]) hown)
      exact ⟨A, arr2, t2, q1, q2, (hother _ hne).trans q3, q4, q5⟩
  · rw [hget] at hm
    by_cases hmn : m = n
    · rw [if_pos hmn] at hm
      injection hm with hm; injection hm with e1 e2 e3; subst e1; subst e2; subst e3; subst hmn
      exact ⟨_, cap, sz, upd_same .., g2, g3, hcap, hrow, fun _ => ⟨b, arr', ty, rfl, k2, setRow_heap _ _ _ _ _ _ hh, by rw [hs]; exact k4, k5, fun i r j x hi hj => (hx i r j x hi hj).mono hle⟩⟩
    · rw [if_neg hmn] at hm
      exact hI.arrKeep hle hm (upd_other _ _ hmn) (fun q hq => ⟨hother q (fun e => hmn (hI.disj m n _ _ b hm hn (by rw [hq, e]) hown)), (hI.arrOwn hm hq).2.2⟩)
  · rw [hget] at hm
    by_cases hmn : m = n
    · rw [if_pos hmn] at hm; cases hm
    · rw [if_neg hmn] at hm
      exact hI.objKeep hle hm (upd_other _ _ hmn) (fun q hq => ⟨hother q (fun e => hmn (hI.disj m n _ _ b hm hn (by rw [hq, e]; rfl) hown)), (hI.objAt hm hq).2.2⟩)
  · rw [hget] at hm hk
    have new : ∀ z, some (Blk.arr t v' es') = some z → (E'.N n).own z = some q → q = b := by
      intro z hz hq
      injection hz with hz; subst hz
      have hq' : (upd E.N n (.arr (some ⟨b, 0, none⟩) es'.length cap sz) n).own (.arr t v' es') = some q := hq
      rw [upd_same] at hq'
      obtain ⟨_, A, e1, e2⟩ := own_arr_inv hq'
      injection e1 with e1; subst e1; exact e2
    by_cases hmn : m = n <;> by_cases hkn : k = n
    · rw [hmn, hkn]
    · rw [if_neg hkn] at hk
      rw [if_pos hmn] at hm
      have e := new x hm (hmn ▸ h1)
      have h2' : (E.N k).own y = some q := by rw [← h2]; show _ = (upd E.N n _ k).own y; rw [upd_other _ _ hkn]
      rw [hmn]
      exact (hI.disj k n y _ q hk hn h2' (by rw [hown, e])).symm
    · rw [if_neg hmn] at hm
      rw [if_pos hkn] at hk
      have e := new y hk (hkn ▸ h2)
      have h1' : (E.N m).own x = some q := by rw [← h1]; show _ = (upd E.N n _ m).own x; rw [upd_other _ _ hmn]
      rw [hkn]
      exact hI.disj m n x _ q hm hn h1' (by rw [hown, e])
    · rw [if_neg hmn] at hm
      rw [if_neg hkn] at hk
      refine hI.disj m k x y q hm hk ?_ ?_
      · rw [← h1]; show _ = (upd E.N n _ m).own x; rw [upd_other _ _ hmn]
      · rw [← h2]; show _ = (upd E.N n _ k).own y; rw [upd_other _ _ hkn]
/-- A slot made an array's. -/
theorem Inv.setArr {w0 : World} {F0 : Fz} {E : En} (hI : Inv P w0 F0 E) {n t v cap sz : Nat} {a : Option Addr} {es : Rows} (hcur : E.hs.getD n none = none ∨ ∃ v0 es0, E.hs.getD n none = some (.arr t v0 es0) ∧ v0 < v) (hlt : n < E.hs.length)
    (hsz : sizeT P t = some sz) (hp : 0 < sz) (hlc : es.length ≤ cap) (hrow : ∀ (i : Nat) (r : Row), es[i]? = some r → r.length = sz ∧ eta P t r = r)
    (hown : 0 < cap → ∃ b arr ty, a = some ⟨b, 0, none⟩ ∧ (w0.heap.size ≤ b ∨ F0.M b) ∧ E.w.heap[b]? = some (.cells arr ty (0, 0)) ∧ cap * sz ≤ arr.size ∧ (∀ o, ¬ E.F b o) ∧
      (∀ (i : Nat) (r : Row) (j : Nat) (x : V), es[i]? = some r → r[j]? = some x → Rep P E (arr.getD (i * sz + j) undef) x) ∧ ∀ m x, m ≠ n → E.hs.getD m none = some x → (E.N m).own x ≠ some b) :
    let E' : En := ⟨E.w, E.F, upd E.N n (.arr a es.length cap sz), E.hs.set n (some (.arr t v es))⟩
    Inv P w0 F0 E' ∧ En.Le E E' := by
  intro E'
  have hget : ∀ m, E'.hs.getD m none = if m = n then some (.arr t v es) else E.hs.getD m none := by
    intro m
    show (E.hs.set n _).getD m none = _
    rw [getD_set_blk]
    by_cases hm : m = n <;> simp [hm, hlt]
  have hnb : ∀ x, E.hs.getD n none = some x → ∃ v0 es0, x = .arr t v0 es0 ∧ v0 < v := by
    intro x e
    rcases hcur with h | ⟨v0, es0, h, h2⟩
    · rw [h] at e; cases e
    · rw [h] at e; injection e with e; exact ⟨v0, es0, e.symm, h2⟩
  have hle : En.Le E E' := by
    refine ⟨fun _ _ => rfl, fun _ _ h => h, fun m c hm => ?_, fun m v' hm => ?_, fun m t1 v1 es1 hm => ?_, fun m q hm => ?_⟩
    · have hmn : m ≠ n := fun e => by obtain ⟨_, _, e2, _⟩ := hnb _ (e ▸ hm); cases e2
      rw [hget, if_neg hmn]
      exact ⟨⟨c, hm⟩, upd_other _ _ hmn⟩
    · have hmn : m ≠ n := fun e => by obtain ⟨_, _, e2, _⟩ := hnb _ (e ▸ hm); cases e2
      rw [hget, if_neg hmn]
      exact ⟨v', hm, Nat.le_refl _, fun _ => upd_other _ _ hmn⟩
    · rw [hget]
      by_cases hmn : m = n
      · rw [if_pos hmn]
        subst hmn
        obtain ⟨v0, es0, e2, h3⟩ := hnb _ hm
        injection e2 with e2 e3 e4; subst e2; subst e3
        exact ⟨v, es, rfl, Nat.le_of_lt h3, fun e => by omega⟩
      · rw [if_neg hmn]
        exact ⟨v1, es1, hm, Nat.le_refl _, fun _ => ⟨rfl, upd_other _ _ hmn⟩⟩
    · have hmn : m ≠ n := fun e => by obtain ⟨_, _, e2, _⟩ := hnb _ (e ▸ hm); cases e2
      rw [hget, if_neg hmn]
      exact ⟨⟨q, hm⟩, upd_other _ _ hmn⟩
  refine ⟨⟨hI.below, hI.keep, hI.Fnew, hI.Flt, fun m c hm => ?_, fun m v' hm => ?_, fun m t1 v1 es1 hm => ?_, fun m q hm => ?_, fun m k x y q hm hk q1 q2 => ?_, hI.glob⟩, hle⟩
  · rw [hget] at hm
    by_cases hmn : m = n
    · rw [if_pos hmn] at hm; cases hm
    · rw [if_neg hmn] at hm
      obtain ⟨b, arr, t, q1, q2, q3, q4, q5, q6⟩ := hI.box m c hm
      exact ⟨b, arr, t, (upd_other _ _ hmn).trans q1, q2, q3, q4, fun j x hj => (q5 j x hj).mono hle, q6⟩
  · rw [hget] at hm
    by_cases hmn : m = n
    · rw [if_pos hmn] at hm; cases hm
    · rw [if_neg hmn] at hm
      obtain ⟨a', len', cap', sz', q1, q2, q3⟩ := hI.tail m v' hm
      exact ⟨a', len', cap', sz', (upd_other _ _ hmn).trans q1, q2, q3⟩
  · rw [hget] at hm
    by_cases hmn : m = n
    · rw [if_pos hmn] at hm
      injection hm with hm; injection hm with e1 e2 e3; subst e1; subst e2; subst e3; subst hmn
      refine ⟨a, cap, sz, upd_same .., hsz, hp, hlc, hrow, fun hc => ?_⟩
      obtain ⟨b, arr, ty, k1, k2, k3, k4, k5, k6, _⟩ := hown hc
      exact ⟨b, arr, ty, k1, k2, k3, k4, k5, fun i r j x hi hj => (k6 i r j x hi hj).mono hle⟩
    · rw [if_neg hmn] at hm
      exact hI.arrKeep hle hm (upd_other _ _ hmn) (fun q hq => ⟨rfl, (hI.arrOwn hm hq).2.2⟩)
  · rw [hget] at hm
    by_cases hmn : m = n
    · rw [if_pos hmn] at hm; cases hm
    · rw [if_neg hmn] at hm
      exact hI.objKeep hle hm (upd_other _ _ hmn) (fun q hq => ⟨rfl, (hI.objAt hm hq).2.2⟩)
  · rw [hget] at hm hk
    have new : ∀ z, some (Blk.arr t v es) = some z → (E'.N n).own z = some q → ∀ m x, m ≠ n → E.hs.getD m none = some x → (E.N m).own x ≠ some q := by
      intro z hz hq
      injection hz with hz; subst hz
      have hq' : (upd E.N n (.arr a es.length cap sz) n).own (.arr t v es) = some q := hq
      rw [upd_same] at hq'
      obtain ⟨hc, A, e1, e2⟩ := own_arr_inv hq'
      obtain ⟨b, arr, ty, k1, k2, k3, k4, k5, k6, k7⟩ := hown hc
      rw [e1] at k1; injection k1 with k1; subst k1
      rw [e2]; exact k7
    by_cases hmn : m = n <;> by_cases hkn : k = n
    · rw [hmn, hkn]
    · exfalso
      rw [if_neg hkn] at hk
      rw [if_pos hmn] at hm
      refine new x hm (hmn ▸ q1) k y hkn hk ?_
      rw [← q2]; show _ = (upd E.N n _ k).own y; rw [upd_other _ _ hkn]
    · exfalso
      rw [if_neg hmn] at hm
      rw [if_pos hkn] at hk
      refine new y hk (hkn ▸ q2) m x hmn hm ?_
      rw [← q1]; show _ = (upd E.N n _ m).own x; rw [upd_other _ _ hmn]
    · rw [if_neg hmn] at hm
      rw [if_neg hkn] at hk
      refine hI.disj m k x y q hm hk ?_ ?_
      · rw [← q1]; show _ = (upd E.N n _ m).own x; rw [upd_other _ _ hmn]
      · rw [← q2]; show _ = (upd E.N n _ k).own y; rw [upd_other _ _ hkn]
theorem rep_oneCell {E : En} {v : Value} {x : V} (h : Rep P E v x) (hx : isCell x = true) : v.oneCell' = true := by
  cases h <;> first | rfl | (simp [isCell] at hx; done)
end Go.Proofs.YtolackmpfnndhaaGreatDoor.Ev
