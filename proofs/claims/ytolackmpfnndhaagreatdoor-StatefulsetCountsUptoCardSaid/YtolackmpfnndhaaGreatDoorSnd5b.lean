/- Objects that are no cells: made, changed; maps. Conditions: stated at each. -/
import Derived.Test.YtolackmpfnndhaaGreatDoorSnd5a
namespace Go.Proofs.YtolackmpfnndhaaGreatDoor.Ev
open Go Go.RowKit
set_option linter.unusedVariables false
set_option linter.unusedSimpArgs false
variable {P : Program}
/-- An object made. -/
theorem Inv.newObj {w0 : World} {F0 : Fz} {E : En} (hI : Inv P w0 F0 E) {d : Nat} (hd : E.hs.getD d none = none) (hlt : d < E.hs.length) {ob : Obj} {q : Q} (hq : QOk P E ob q) :
    let E' : En := ⟨E.w.alloc ob, E.F, upd E.N d (.blk E.w.heap.size), E.hs.set d (some (.obj q))⟩
    Inv P w0 F0 E' ∧ En.Le E E' ∧ Rep P E' (.map (some E.w.heap.size)) (.mref d) := by
  intro E'
  have hget : ∀ n, E'.hs.getD n none = if n = d then some (.obj q) else E.hs.getD n none := by
    intro n
    show (E.hs.set d _).getD n none = _
    rw [getD_set_blk]
    by_cases hn : n = d <;> simp [hn, hlt]
  have hle : En.Le E E' := by
    refine ⟨fun A hA => cell_alloc_lt (hI.Flt _ _ hA), fun b o h => h, fun n c hn => ?_, fun n v hn => ?_, fun n t v es hn => ?_, fun n q hn => ?_⟩
    · have hnd : n ≠ d := fun e => by subst e; rw [hd] at hn; cases hn
      rw [hget, if_neg hnd]
      exact ⟨⟨c, hn⟩, upd_other _ _ hnd⟩
    · have hnd : n ≠ d := fun e => by subst e; rw [hd] at hn; cases hn
      rw [hget, if_neg hnd]
      exact ⟨v, hn, Nat.le_refl _, fun _ => upd_other _ _ hnd⟩
    · have hnd : n ≠ d := fun e => by subst e; rw [hd] at hn; cases hn
      rw [hget, if_neg hnd]
      exact ⟨v, es, hn, Nat.le_refl _, fun _ => ⟨rfl, upd_other _ _ hnd⟩⟩
    · have hnd : n ≠ d := fun e => by subst e; rw [hd] at hn; cases hn
      rw [hget, if_neg hnd]
      exact ⟨⟨q, hn⟩, upd_other _ _ hnd⟩
  have hbl : ∀ b, b < E.w.heap.size → E'.w.heap[b]? = E.w.heap[b]? := fun b hb => Below.heap_alloc E.w _ b hb
  refine ⟨⟨hI.below.after ((Below.refl _ _).alloc (Nat.le_refl _) _), hI.keep, hI.Fnew, fun b o h => Nat.lt_of_lt_of_le (hI.Flt b o h) (by show E.w.heap.size ≤ (E.w.alloc _).heap.size; simp), fun n c hn => ?_, fun n v hn => ?_, fun n t' v es hn => ?_, fun n q hn => ?_, fun n m x y b hn hm h1 h2 => ?_, hI.glob⟩, hle, ?_⟩
  · rw [hget] at hn
    by_cases hnd : n = d
    · rw [if_pos hnd] at hn; cases hn
    · rw [if_neg hnd] at hn
      obtain ⟨b, arr', t', h1, h2, h3, h4, h5, h6⟩ := hI.box n c hn
      exact ⟨b, arr', t', (upd_other _ _ hnd).trans h1, h2, (hbl b (Array.getElem?_eq_some_iff.1 h3).1).trans h3, h4, fun j x hj => (h5 j x hj).mono hle, h6⟩
  · rw [hget] at hn
    by_cases hnd : n = d
    · rw [if_pos hnd] at hn; cases hn
    · rw [if_neg hnd] at hn
      obtain ⟨a, len, cap, sz, h1, h2, h3⟩ := hI.tail n v hn
      refine ⟨a, len, cap, sz, (upd_other _ _ hnd).trans h1, h2, fun hl => ?_⟩
      obtain ⟨A, arr', t', q1, q2, q3, q4, q5⟩ := h3 hl
      exact ⟨A, arr', t', q1, q2, (hbl _ (Array.getElem?_eq_some_iff.1 q3).1).trans q3, q4, q5⟩
  · rw [hget] at hn
    by_cases hnd : n = d
    · rw [if_pos hnd] at hn; cases hn
    · rw [if_neg hnd] at hn
      exact hI.arrKeep hle hn (upd_other _ _ hnd) (fun b hb => ⟨hbl b (hI.arrOwn hn hb).1, (hI.arrOwn hn hb).2.2⟩)
  · rw [hget] at hn
    by_cases hnd : n = d
    · rw [if_pos hnd] at hn
      injection hn with hn; injection hn with hn; subst hn; subst hnd
      exact ⟨E.w.heap.size, ob, upd_same .., Or.inl hI.size, alloc_new E.w _, hq.mono hle, fun o h => Nat.lt_irrefl _ (hI.Flt _ _ h)⟩
    · rw [if_neg hnd] at hn
      exact hI.objKeep hle hn (upd_other _ _ hnd) (fun b hb => ⟨hbl b (hI.objAt hn hb).1, (hI.objAt hn hb).2.2⟩)
  · rw [hget] at hn hm
    have key : ∀ k z, k ≠ d → E.hs.getD k none = some z → (E'.N k).own z = some b → b < E.w.heap.size := fun k z hk hz hb =>
      hI.ownLt hz (by rw [← hb]; show _ = (upd E.N d _ k).own z; rw [upd_other _ _ hk])
    have new : ∀ z, (upd E.N d (.blk E.w.heap.size) d).own z = some b → b = E.w.heap.size := by
      intro z hz
      rw [upd_same] at hz
      unfold Loc.own at hz
      split at hz
      · rename_i e; injection e with e; injection hz with hz; rw [← hz, ← e]
      · rename_i e; cases e
      · rename_i e; cases e
      · rename_i e; injection e with e; injection hz with hz; rw [← hz, ← e]
      · cases hz
    by_cases hnd : n = d <;> by_cases hmd : m = d
    · rw [hnd, hmd]
    · exfalso
      rw [if_neg hmd] at hm
      have e1 := key m y hmd hm h2
      have e2 := new x (by rw [← h1, hnd])
      omega
    · exfalso
      rw [if_neg hnd] at hn
      have e1 := key n x hnd hn h1
      have e2 := new y (by rw [← h2, hmd])
      omega
    · rw [if_neg hnd] at hn
      rw [if_neg hmd] at hm
      refine hI.disj n m x y b hn hm ?_ ?_
      · rw [← h1]; show _ = (upd E.N d _ n).own x; rw [upd_other _ _ hnd]
      · rw [← h2]; show _ = (upd E.N d _ m).own y; rw [upd_other _ _ hmd]
  · exact .mref d _ (upd_same ..) ⟨q, by rw [hget, if_pos rfl]⟩
/-- The world, block b now o. -/
def putObj (w : World) (b : Nat) (o : Obj) : World := { w with heap := w.heap.setIfInBounds b o }
theorem putObj_same {w : World} {b : Nat} {o : Obj} (h : b < w.heap.size) : (putObj w b o).heap[b]? = some o := by simp [putObj, h]
theorem putObj_other {w : World} {b k : Nat} {o : Obj} (h : k ≠ b) : (putObj w b o).heap[k]? = w.heap[k]? := by simp [putObj, Ne.symm h]
theorem putObj_size {w : World} {b : Nat} {o : Obj} : (putObj w b o).heap.size = w.heap.size := by simp [putObj]
theorem putObj_cell {w : World} {b : Nat} {o : Obj} {A : Addr} (h : A.block ≠ b) : (putObj w b o).cell? A = w.cell? A := World.cell?_of_block (w := w) (putObj_other h)
theorem BelowM.putObj {M : Nat → Prop} {a w : World} (h : BelowM M a w) {g : Nat} (hg : a.heap.size ≤ g ∨ M g) (o : Obj) : BelowM M a (putObj w g o) :=
  h.trans (M' := fun k => k = g) ⟨rfl, rfl, rfl, by rw [putObj_size]; exact Nat.le_refl _, fun k hk hn => putObj_other hn⟩ (fun k hk => by subst hk; exact hg.symm)
/-- An object changed. -/
theorem Inv.setObj {w0 : World} {F0 : Fz} {E : En} (hI : Inv P w0 F0 E) {n b : Nat} {q q' : Q} {ob : Obj} (hn : E.hs.getD n none = some (.obj q)) (hN : E.N n = .blk b) (hq : QOk P E ob q') :
    let E' : En := ⟨putObj E.w b ob, E.F, E.N, E.hs.set n (some (.obj q'))⟩
    Inv P w0 F0 E' ∧ En.Le E E' := by
  intro E'
  obtain ⟨g1, g2, g6⟩ := hI.objAt hn hN
  have hlt : n < E.hs.length := by
    rcases Nat.lt_or_ge n E.hs.length with h | h
    · exact h
    · rw [List.getD_eq_getElem?_getD, List.getElem?_eq_none h] at hn; cases hn
  have hget : ∀ m, E'.hs.getD m none = if m = n then some (.obj q') else E.hs.getD m none := by
    intro m
    show (E.hs.set n _).getD m none = _
    rw [getD_set_blk]
    by_cases hm : m = n <;> simp [hm, hlt]
  have hle : En.Le E E' := by
    refine ⟨fun A hA => putObj_cell (fun e => g6 A.off (e ▸ hA)), fun _ _ h => h, fun m c hm => ?_, fun m v hm => ?_, fun m t v es hm => ?_, fun m q1 hm => ?_⟩
    · have hmn : m ≠ n := fun e => by subst e; rw [hn] at hm; cases hm
      rw [hget, if_neg hmn]
      exact ⟨⟨c, hm⟩, rfl⟩
    · have hmn : m ≠ n := fun e => by subst e; rw [hn] at hm; cases hm
      rw [hget, if_neg hmn]
      exact ⟨v, hm, Nat.le_refl _, fun _ => rfl⟩
    · have hmn : m ≠ n := fun e => by subst e; rw [hn] at hm; cases hm
      rw [hget, if_neg hmn]
      exact ⟨v, es, hm, Nat.le_refl _, fun _ => ⟨rfl, rfl⟩⟩
    · rw [hget]
      by_cases hmn : m = n
      · rw [if_pos hmn]; exact ⟨⟨_, rfl⟩, rfl⟩
      · rw [if_neg hmn]; exact ⟨⟨q1, hm⟩, rfl⟩
  have hother : ∀ (k : Nat), k ≠ b → E'.w.heap[k]? = E.w.heap[k]? := fun k hk => putObj_other hk
  have hown : (E.N n).own (.obj q) = some b := own_obj hN
  refine ⟨⟨hI.below.putObj g2 _, hI.keep, hI.Fnew, fun b o h => by show b < (putObj E.w _ _).heap.size; rw [putObj_size]; exact hI.Flt b o h, fun m c hm => ?_, fun m v hm => ?_, fun m t' v es hm => ?_, fun m q1 hm => ?_, fun m k x y q1 hm hk h1 h2 => ?_, hI.glob⟩, hle⟩
  · rw [hget] at hm
    by_cases hmn : m = n
    · rw [if_pos hmn] at hm; cases hm
    · rw [if_neg hmn] at hm
      obtain ⟨b2, arr2, t2, h1, h2, h3, h4, h5, h6⟩ := hI.box m c hm
      have hne : b2 ≠ b := fun e => hmn (hI.disj m n _ _ b hm hn (by rw [h1, e]; rfl) hown)
      exact ⟨b2, arr2, t2, h1, h2, (hother b2 hne).trans h3, h4, fun j x hj => (h5 j x hj).mono hle, h6⟩
  · rw [hget] at hm
    by_cases hmn : m = n
    · rw [if_pos hmn] at hm; cases hm
    · rw [if_neg hmn] at hm
      obtain ⟨a, len, cap, sz, h1, h2, h3⟩ := hI.tail m v hm
      refine ⟨a, len, cap, sz, h1, h2, fun hl => ?_⟩
      obtain ⟨A, arr2, t2, q1, q2, q3, q4, q5⟩ := h3 hl
      have hne : A.block ≠ b := fun e => hmn (hI.disj m n _ _ b hm hn (by rw [h1, q1]; unfold Loc.own; simp only []; rw [if_pos hl, e]) hown)
      exact ⟨A, arr2, t2, q1, q2, (hother _ hne).trans q3, q4, q5⟩
  · rw [hget] at hm
    by_cases hmn : m = n
    · rw [if_pos hmn] at hm; cases hm
    · rw [if_neg hmn] at hm
      refine hI.arrKeep hle hm rfl (fun q2 hq2 => ⟨hother q2 (fun e => hmn (hI.disj m n _ _ b hm hn (by rw [hq2, e]) hown)), (hI.arrOwn hm hq2).2.2⟩)
  · rw [hget] at hm
    by_cases hmn : m = n
    · rw [if_pos hmn] at hm
      injection hm with hm; injection hm with hm; subst hm; subst hmn
      exact ⟨b, ob, hN, g2, putObj_same g1, hq.mono hle, g6⟩
    · rw [if_neg hmn] at hm
      refine hI.objKeep hle hm rfl (fun q2 hq2 => ⟨hother q2 (fun e => hmn (hI.disj m n _ _ b hm hn (by rw [hq2, e]; rfl) hown)), (hI.objAt hm hq2).2.2⟩)
  · rw [hget] at hm hk
    have new : ∀ z, some (Blk.obj q') = some z → (E.N n).own z = some q1 → q1 = b := by
      intro z hz hq2
      injection hz with hz; subst hz
      rw [hN] at hq2
      have : (Loc.blk b).own (.obj q') = some b := rfl
      rw [this] at hq2; injection hq2 with hq2; exact hq2.symm
    by_cases hmn : m = n <;> by_cases hkn : k = n
    · rw [hmn, hkn]
    · rw [if_neg hkn] at hk
      rw [if_pos hmn] at hm
      have e := new x hm (hmn ▸ h1)
      rw [hmn]
      exact (hI.disj k n y _ q1 hk hn h2 (by rw [hown, e])).symm
    · rw [if_neg hmn] at hm
      rw [if_pos hkn] at hk
      have e := new y hk (hkn ▸ h2)
      rw [hkn]
      exact hI.disj m n x _ q1 hm hn h1 (by rw [hown, e])
    · rw [if_neg hmn] at hm
      rw [if_neg hkn] at hk
      exact hI.disj m k x y q1 hm hk h1 h2
theorem keyStays {w : World} (s : ByteArray) : (Instr.keyThatStays (.string s) (.string s)).run P w = .ok (.string s) w := MapKept.run_keyThatStays (d := .string) (by trivial)
/-- A change of a map. -/
theorem update_run {w0 : World} {F0 : Fz} {E : En} (hI : Inv P w0 F0 E) {t e n : Nat} {v val : Value} {s : ByteArray} {p : Nat × Rows} {c r : List V} {x : V} (hm : mapE P t = some e) (hv : Rep P E v (.mref n)) (hq : getQ E.hs n = some p) (ht : p.1 = t)
    (hx : Rep P E val x) (hc : cellsV x = some c) (hr : normL P (ctsOf P e) c = some r) (ha : isAggT P e = isAggV x) :
    ∃ E', (Instr.mapUpdate t v (.string s) val).run P E.w = .ok () E'.w ∧ Inv P w0 F0 E' ∧ En.Le E E' ∧ E'.hs = E.hs.set n (some (.obj (.mp t (mSet p.2 s r)))) := by
  obtain ⟨k, sz, hu, hk, hs, hl, hp, hck, haz, hso⟩ := mapE_spec hm
  obtain ⟨b, rfl, hb, _⟩ := rep_mref_inv hv
  obtain ⟨b', o, h1, h2, h3, h4, h5⟩ := hI.obj n _ (getQ_obj hq)
  rw [hb] at h1; injection h1 with h1; subst h1
  obtain ⟨e', arr, g1, rfl, g3, g4⟩ := h4
  rw [ht] at g1
  rw [hm] at g1; injection g1 with g1; subst g1
  obtain ⟨z1, z2⟩ := rep_cells hx hc
  obtain ⟨n1, n2, n3, n4⟩ := normL_spec (P := P) (E := E) hr
  obtain ⟨n5, n6⟩ := normL_eta hr
  -- what the value is, as one that stays
  have hval : ∃ y, loadV P e r 0 = some y ∧ Rep P E val y := by
    have hcell := n4 (fun j => val.cells.getD j undef) z2
    cases hag : isAggT P e with
    | true =>
      rw [hag] at ha
      cases x with
      | agg cs =>
        cases hx with
        | agg ar xs hl2 hx2 =>
          refine ⟨.agg r, ?_, .agg ar r (by rw [hl2]; simp [cellsV] at hc; rw [hc]; omega) (fun j y hj => hcell j y hj)⟩
          have hgr : getR r 0 sz = some r := by
            have hrl : r.length = sz := by omega
            clear hcell n6 n5 n4 n3 n1 hr
            subst hrl
            clear hs hl hp
            induction r with
            | nil => rfl
            | cons c z ih => simp only [List.length_cons, getR, ih, Option.map_some]
          unfold isAggT at hag
          unfold loadV
          split at hag
          · rename_i fs hu2; rw [hu2, hs]; simp [hgr]
          · rename_i m el hu2; rw [hu2, hs]; simp [hgr]
          · cases hag
      | _ => cases ha
    | false =>
      rw [hag] at ha
      have hlr : 0 < r.length := by omega
      have hc1 : val.cells = #[val] := by
        cases val with
        | agg cs =>
          cases hx with
          | agg => cases ha
          | dead => simp [cellsV] at hc
        | _ => rfl
      refine ⟨r[0], ?_, by simpa [hc1] using hcell 0 r[0] (List.getElem?_eq_getElem hlr)⟩
      have hr0 : r[0]? = some r[0] := List.getElem?_eq_getElem hlr
      unfold isAggT at hag
      unfold loadV
      cases hu2 : P.underlying e with
      | none => rw [hu2] at hso; cases hso
      | some d => rw [hu2] at hag; cases d <;> first | exact hr0 | cases hag
  obtain ⟨y, hy1, hy2⟩ := hval
  have hE : Ents P E e arr.toList p.2 0 := ⟨by simpa using g3, fun i r hi => by obtain ⟨y, q1, q2⟩ := g4 i r hi; exact ⟨y, by simpa using q1, by simpa using q2⟩⟩
  have hnew : ∀ i, EntOk P E e ⟨.string s, val, i⟩ i (.str s :: r) := fun i => ⟨s, r, y, rfl, n5, hy1, rfl, rfl, hy2⟩
  rcases findNow_rows s (i := 0) hE with ⟨q1, q2⟩ | ⟨j, y0, r0, q1, q2, q3, q4, q5, q6, q7⟩
  · have hset : mSet p.2 s r = p.2 ++ [.str s :: r] := by unfold mSet; rw [q1]
    have hok : QOk P E (.map (arr.push ⟨.string s, val, p.2.length⟩) (p.2.length + 1)) (.mp t (mSet p.2 s r)) := by
      rw [hset]
      refine ⟨e, arr.push ⟨.string s, val, p.2.length⟩, hm, by simp, by simp [g3], fun i q hi => ?_⟩
      rw [List.getElem?_append] at hi
      split at hi
      · rename_i hlt
        obtain ⟨x1, k1, k2⟩ := g4 i q hi
        refine ⟨x1, ?_, k2⟩
        rw [Array.getElem?_push, if_neg (by omega)]; exact k1
      · rename_i hge
        have hi0 : i - p.2.length = 0 := by
          rcases Nat.eq_zero_or_pos (i - p.2.length) with h | h
          · exact h
          · rw [List.getElem?_eq_none (by simp; omega)] at hi; cases hi
        rw [hi0] at hi
        simp at hi; subst hi
        have : i = arr.size := by omega
        refine ⟨⟨.string s, val, p.2.length⟩, ?_, ?_⟩
        · rw [Array.getElem?_push, if_pos this]
        · rw [show i = p.2.length by omega]; exact hnew _
    obtain ⟨k1, k2⟩ := hI.setObj (getQ_obj hq) hb hok
    refine ⟨_, ?_, k1, k2, rfl⟩
    simp [Instr.mapUpdate, run_underlying hu, MapKept.run_getObj_map h3, run_checkStr hk, run_findStr hk q2, MapKept.run_setObj_map _ h3, Result.andThen, putObj]
  · have hset : mSet p.2 s r = p.2.set j (.str s :: r) := by unfold mSet; rw [q1]
    have hjl : j < arr.size := by
      rw [Array.getElem?_toList] at q2
      exact (Array.getElem?_eq_some_iff.1 q2).1
    have hj0 : arr[j]? = some y0 := by rw [Array.getElem?_toList] at q2; exact q2
    obtain ⟨s0, cs0, v0, e1, e2, e3, e4, e5, e6⟩ := q6
    have hok : QOk P E (.map (arr.modify j fun z => { z with key := .string s, val := val }) p.2.length) (.mp t (mSet p.2 s r)) := by
      rw [hset]
      refine ⟨e, arr.modify j fun z => { z with key := .string s, val := val }, hm, by simp, by simp [g3], fun i q hi => ?_⟩
      rw [List.getElem?_set] at hi
      rw [Array.getElem?_modify]
      by_cases hij : j = i
      · subst hij
        rw [if_pos rfl] at hi
        rw [if_pos (by omega)] at hi
        injection hi with hi; subst hi
        rw [if_pos rfl, hj0]
        have : y0.born = j := by rw [e5]; omega
        refine ⟨_, rfl, s, r, y, rfl, n5, hy1, rfl, this, hy2⟩
      · rw [if_neg hij] at hi
        rw [if_neg hij]
        exact g4 i q hi
    obtain ⟨k1, k2⟩ := hI.setObj (getQ_obj hq) hb hok
    refine ⟨_, ?_, k1, k2, rfl⟩
    simp [Instr.mapUpdate, run_underlying hu, MapKept.run_getObj_map h3, run_checkStr hk, run_findStr hk q7, hj0, q5, keyStays, MapKept.run_setObj_map _ h3, Result.andThen, putObj]
end Go.Proofs.YtolackmpfnndhaaGreatDoor.Ev
