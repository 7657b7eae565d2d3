/- append. Conditions: stated at each. -/
import Derived.Test.YtolackmpfnndhaaGreatDoorSnd4
namespace Go.Proofs.YtolackmpfnndhaaGreatDoor.Ev
open Go Go.RowKit
set_option linter.unusedVariables false
set_option linter.unusedSimpArgs false
variable {P : Program}
/-- A slice's content: its cells' values. -/
structure Content (P : Program) (E : En) (t sz : Nat) (a : Option Addr) (es : Rows) (vs : Nat → Value) : Prop where
  row : ∀ (i : Nat) (r : Row), es[i]? = some r → r.length = sz ∧ eta P t r = r
  cell : ∀ A, a = some A → ∀ j, j < es.length * sz → E.w.cell? (A.add j) = some (vs j) ∧ E.F A.block (A.off + j)
  rep : ∀ (i : Nat) (r : Row) (j : Nat) (x : V), es[i]? = some r → r[j]? = some x → Rep P E (vs (i * sz + j)) x
theorem split_idx {k sz j : Nat} (h : j < k * sz) : j / sz < k ∧ j % sz < sz ∧ j / sz * sz + j % sz = j := by
  have hp : 0 < sz := by
    rcases Nat.eq_zero_or_pos sz with h0 | h0
    · subst h0; simp at h
    · exact h0
  refine ⟨(Nat.div_lt_iff_lt_mul hp).2 h, Nat.mod_lt _ hp, ?_⟩
  rw [Nat.mul_comm]; exact Nat.div_add_mod j sz
theorem content_of {E : En} {t : Nat} {es : Rows} {k : K} {a : Option Addr} {len cap sz : Nat} (h : Rep P E (.slice a len cap) (.slice t es k)) (hsz : sizeT P t = some sz) :
    len = es.length ∧ es.length ≤ cap ∧ (a = none → cap = 0) ∧ KOk E a es.length cap sz k ∧ ∃ vs, Content P E t sz a es vs := by
  cases h with
  | slice t es k a cap sz' vs hcap hnone hsz' hrow hc hx hk =>
    rw [hsz] at hsz'; injection hsz' with e; subst e
    refine ⟨rfl, hcap, hnone, hk, vs, hrow, fun A hA j hj => ?_, hx⟩
    obtain ⟨h1, h2, h3⟩ := split_idx hj
    obtain ⟨r, hr⟩ : ∃ r, es[j / sz]? = some r := ⟨es[j / sz], List.getElem?_eq_getElem h1⟩
    have hl := (hrow _ _ hr).1
    obtain ⟨x, hx'⟩ : ∃ x, r[j % sz]? = some x := ⟨r[j % sz]'(by omega), List.getElem?_eq_getElem (by omega)⟩
    have := hc _ _ _ _ hr hx' A hA
    rw [h3] at this
    exact this
theorem content_nil {E : En} {t sz : Nat} {a : Option Addr} : Content P E t sz a [] (fun _ => undef) :=
  ⟨fun i r h => by simp at h, fun A _ j hj => by simp at hj, fun i r j x h => by simp at h⟩
theorem etaC_isCell {t : Nat} {r : Row} {j : Nat} (h : (match P.underlying t with | some .bool | some (.int _) | some .string | some (.slice _) => true | _ => false) = true) : isCell (etaC P r j t) = true := by
  unfold etaC
  split at h <;> first | (rename_i hu; rw [hu]; rfl) | cases h
theorem etaX_isCell {t : Nat} {r : Row} {j : Nat} (h : xOk P t = true) : isCell (etaX P r j t) = true := by
  unfold xOk at h
  unfold etaX
  split at h
  · split at h
    · rename_i hu; unfold etaE; rw [hu]; rfl
    · cases h
  · exact etaC_isCell h
theorem etaL_isCell : ∀ {ts : List Nat} {r : Row} {k : Nat}, (ts.all (xOk P)) = true → ∀ (j : Nat) (x : V), (etaL P r k ts)[j]? = some x → isCell x = true
  | [], r, k, _, j, x, h => by simp [etaL] at h
  | t :: ts, r, k, ha, j, x, h => by
    rw [List.all_cons, Bool.and_eq_true] at ha
    cases j with
    | zero => simp [etaL] at h; subst h; exact etaX_isCell ha.1
    | succ j => simp only [etaL, List.getElem?_cons_succ] at h; exact etaL_isCell ha.2 j x h
theorem Content.one {E : En} {t sz : Nat} {a : Option Addr} {es : Rows} {vs : Nat → Value} (h : Content P E t sz a es vs) (hk : ctsOk P t = true) {j : Nat} (hj : j < es.length * sz) : (vs j).oneCell' = true := by
  obtain ⟨h1, h2, h3⟩ := split_idx hj
  obtain ⟨r, hr⟩ : ∃ r, es[j / sz]? = some r := ⟨es[j / sz], List.getElem?_eq_getElem h1⟩
  obtain ⟨hl, he⟩ := h.row _ _ hr
  obtain ⟨x, hx'⟩ : ∃ x, r[j % sz]? = some x := ⟨r[j % sz]'(by omega), List.getElem?_eq_getElem (by omega)⟩
  have := h.rep _ _ _ _ hr hx'
  rw [h3] at this
  refine rep_oneCell this ?_
  rw [← he] at hx'
  exact etaL_isCell hk _ _ hx'
/-- Two contents side by side, at another place. -/
theorem Content.app {E E' : En} (hle : En.Le E E') {t sz : Nat} {a b c : Option Addr} {es fs : Rows} {vs us : Nat → Value} (h : Content P E t sz a es vs) (g : Content P E t sz b fs us)
    (hc : ∀ A, c = some A → ∀ j, j < (es.length + fs.length) * sz → E'.w.cell? (A.add j) = some (if j < es.length * sz then vs j else us (j - es.length * sz)) ∧ E'.F A.block (A.off + j)) :
    Content P E' t sz c (es ++ fs) (fun j => if j < es.length * sz then vs j else us (j - es.length * sz)) := by
  have hidx : ∀ (i : Nat) (r : Row), (es ++ fs)[i]? = some r → (i < es.length ∧ es[i]? = some r) ∨ (es.length ≤ i ∧ fs[i - es.length]? = some r) := by
    intro i r hi
    rw [List.getElem?_append] at hi
    split at hi
    · rename_i hlt; exact Or.inl ⟨hlt, hi⟩
    · rename_i hlt; exact Or.inr ⟨by omega, hi⟩
  refine ⟨fun i r hi => ?_, fun A hA j hj => hc A hA j (by rwa [List.length_append] at hj), fun i r j x hi hj => ?_⟩
  · rcases hidx i r hi with ⟨_, h1⟩ | ⟨_, h1⟩
    · exact h.row _ _ h1
    · exact g.row _ _ h1
  · rcases hidx i r hi with ⟨h0, h1⟩ | ⟨h0, h1⟩
    · have hl := (h.row _ _ h1).1
      have hj' : j < sz := by
        rcases Nat.lt_or_ge j r.length with h | h
        · rw [hl] at h; exact h
        · rw [List.getElem?_eq_none h] at hj; cases hj
      have hb : i * sz + j < es.length * sz := by
        have : (i + 1) * sz ≤ es.length * sz := Nat.mul_le_mul_right _ h0
        rw [Nat.add_mul] at this; omega
      show Rep P E' (if i * sz + j < es.length * sz then vs (i * sz + j) else us (i * sz + j - es.length * sz)) x
      rw [if_pos hb]
      exact (h.rep _ _ _ _ h1 hj).mono hle
    · have hge : es.length * sz ≤ i * sz := Nat.mul_le_mul_right _ h0
      show Rep P E' (if i * sz + j < es.length * sz then vs (i * sz + j) else us (i * sz + j - es.length * sz)) x
      rw [if_neg (by omega)]
      have e : i * sz + j - es.length * sz = (i - es.length) * sz + j := by rw [Nat.sub_mul]; omega
      rw [e]
      exact (g.rep _ _ _ _ h1 hj).mono hle
theorem Content.slice {E : En} {t sz : Nat} {a : Option Addr} {es : Rows} {vs : Nat → Value} (h : Content P E t sz a es vs) (hsz : sizeT P t = some sz) {cap : Nat} (hcap : es.length ≤ cap) (hnone : a = none → cap = 0) {k : K} (hk : KOk E a es.length cap sz k) :
    Rep P E (.slice a es.length cap) (.slice t es k) := by
  refine .slice t es k a cap sz vs hcap hnone hsz h.row (fun i r j x hi hj A hA => ?_) h.rep hk
  refine h.cell A hA _ ?_
  have hl := (h.row _ _ hi).1
  have hj' : j < sz := by
    rcases Nat.lt_or_ge j r.length with h | h
    · rw [hl] at h; exact h
    · rw [List.getElem?_eq_none h] at hj; cases hj
  have hi' : i < es.length := by
    rcases Nat.lt_or_ge i es.length with h | h
    · exact h
    · rw [List.getElem?_eq_none h] at hi; cases hi
  have : (i + 1) * sz ≤ es.length * sz := Nat.mul_le_mul_right _ hi'
  rw [Nat.add_mul] at this; omega
/-- What append does. -/
theorem run_append_fits {w : World} {ats : Array TypeId} {ty t1 t2 e e2 : TypeId} {i : TypeInfo} {base b : Option Addr} {len cap n c : Nat} (h0 : ats[0]? = some t1) (h1 : ats[1]? = some t2) (hu1 : P.underlying t1 = some (.slice e)) (hu2 : P.underlying t2 = some (.slice e2))
    (hi : P.info? e = some i) {news : List Value} (hl : news.length = n * i.size) (hb : b = none → n = 0) (hnews : ∀ A, b = some A → ∀ j v, news[j]? = some v → w.cell? (A.add j) = some v) (hfit : len + n ≤ cap) :
    (Builtin.append_ ats ty #[.slice base len cap, .slice b n c]).run P w = match (generalizing := false) base with
      | none => .ok (.slice none (len + n) cap) w
      | some A => ((storeCells (A.add (len * i.size)) news).run P w).andThen fun _ w' => .ok (.slice (some A) (len + n) cap) w' := by
  have hf : (Builtin.firstCells i.size n (.slice b n c)).run P w = .ok news.toArray w := by
    cases b with
    | none =>
      have : n = 0 := hb rfl
      subst this
      have : news = [] := List.eq_nil_of_length_eq_zero (by simpa using hl)
      subst this
      exact run_firstCells_none w _ _ _ _
    | some A => exact run_firstCells_some w i.size n A n c news hl (hnews A rfl)
  cases base <;> simp [Builtin.append_, h0, h1, run_underlying hu1, run_underlying hu2, sizeOf, typeInfo, hi, Builtin.lenOf, hfit, hf]
theorem run_append_grows {w : World} {ats : Array TypeId} {ty t1 t2 e e2 : TypeId} {i : TypeInfo} {z : Value} {base b : Option Addr} {len cap n c : Nat} (h0 : ats[0]? = some t1) (h1 : ats[1]? = some t2) (hu1 : P.underlying t1 = some (.slice e)) (hu2 : P.underlying t2 = some (.slice e2))
    (hi : P.info? e = some i) (hz : i.zero = some z) {news olds : List Value} (hl : news.length = n * i.size) (hb : b = none → n = 0) (hnews : ∀ A, b = some A → ∀ j v, news[j]? = some v → w.cell? (A.add j) = some v)
    (hlo : olds.length = len * i.size) (hbase : base = none → len = 0) (holds : ∀ A, base = some A → ∀ j v, olds[j]? = some v → w.cell? (A.add j) = some v) (hg : cap < len + n) (hpos : 0 < i.bytes) (hfit : (len + n) * i.bytes ≤ 140737488355328) :
    (Builtin.append_ ats ty #[.slice base len cap, .slice b n c]).run P w = .ok (.slice (some ⟨w.heap.size, 0, none⟩) (len + n) (grownCap w (len + n) cap e))
        (w.drew.alloc (.cells (olds.toArray ++ news.toArray ++ Builtin.zeroCells z.cells (grownCap w (len + n) cap e - (len + n))) e)) := by
  have hf : (Builtin.firstCells i.size n (.slice b n c)).run P w.drew = .ok news.toArray w.drew := by
    cases b with
    | none =>
      have : n = 0 := hb rfl
      subst this
      have : news = [] := List.eq_nil_of_length_eq_zero (by simpa using hl)
      subst this
      exact run_firstCells_none w.drew _ _ _ _
    | some A => exact run_firstCells_some w.drew i.size n A n c news hl (by simpa using hnews A rfl)
  have hfo : (Builtin.firstCells i.size len (.slice base len cap)).run P w.drew = .ok olds.toArray w.drew := by
    cases base with
    | none =>
      have : len = 0 := hbase rfl
      subst this
      have : olds = [] := List.eq_nil_of_length_eq_zero (by simpa using hlo)
      subst this
      exact run_firstCells_none w.drew _ _ _ _
    | some A => exact run_firstCells_some w.drew i.size len A len cap olds hlo (by simpa using holds A rfl)
  have hn : ¬ (len + n ≤ cap) := by omega
  have h48 := growslice_fits hg hfit
  have h48' : ¬ (281474976710656 < Builtin.nextslicecap (len + n) cap * i.bytes) := by omega
  have hle : len + n ≤ 140737488355328 := by
    have : (len + n) * 1 ≤ (len + n) * i.bytes := Nat.mul_le_mul_left _ hpos
    omega
  have h63 : ¬ (9223372036854775807 < ((len : Int) + (n : Int))) := by omega
  simp [Builtin.append_, h0, h1, run_underlying hu1, run_underlying hu2, sizeOf, typeInfo, zeroValue, hi, hz, Builtin.lenOf, hn, h63, h48', Question.forced, hf, hfo, newRow, grownCap]
  congr 2
  apply Array.ext'
  simp [List.append_assoc]
theorem grownCap_ge (w : World) (need old : Nat) (e : TypeId) : need ≤ grownCap w need old e := by
  show need ≤ need + _
  omega
theorem getD_range_map (n : Nat) (f : Nat → Value) (j : Nat) : ((List.range n).map f)[j]? = if j < n then some (f j) else none := by
  rw [List.getElem?_map]
  by_cases h : j < n
  · rw [List.getElem?_range h, if_pos h]; rfl
  · rw [if_neg h, List.getElem?_eq_none (by simpa using h)]; rfl
theorem append_sound {w0 : World} {F0 : Fz} {E : En} (hI : Inv P w0 F0 E) {ats : Array TypeId} {ty t1 t2 el e2 : Nat} {i : TypeInfo} {z : Value} {base b : Option Addr} {cap c sz n ver : Nat} {es fs : Rows} {vs us : Nat → Value}
    (h0 : ats[0]? = some t1) (h1 : ats[1]? = some t2) (hu1 : P.underlying t1 = some (.slice el)) (hu2 : P.underlying t2 = some (.slice e2)) (hi : P.info? el = some i) (hz : i.zero = some z) (hsi : i.size = sz) (hzs : z.cells.size = sz) (hp : 0 < sz) (hpb : 0 < i.bytes) (hck : ctsOk P el = true)
    (hcap : es.length ≤ cap) (hnone : base = none → cap = 0) (hes : Content P E el sz base es vs) (hbn : b = none → fs.length = 0) (hfs : Content P E el sz b fs us)
    (hfit : (es.length + fs.length) * i.bytes ≤ 140737488355328) (hlt : n < E.hs.length) (hcur : E.hs.getD n none = none ∨ ∃ v0, E.hs.getD n none = some (.tail v0) ∧ v0 < ver)
    (hown : es.length < cap → ∃ v0, E.hs.getD n none = some (.tail v0) ∧ E.N n = .tail base es.length cap sz) :
    ∃ v E', (Builtin.append_ ats ty #[.slice base es.length cap, .slice b fs.length c]).run P E.w = .ok v E'.w ∧ Inv P w0 F0 E' ∧ En.Le E E' ∧ E'.hs = E.hs.set n (some (.tail ver)) ∧ Rep P E' v (.slice el (es ++ fs) (.own n ver)) := by
  have hsz : sizeT P el = some sz := by simp [sizeT, hi, hsi]
  have ownK : ∀ (E' : En) a len cap, E'.hs = E.hs.set n (some (.tail ver)) → E'.N n = .tail a len cap sz → KOk E' a len cap sz (.own n ver) := by
    intro E' a len cap e1 e2
    refine ⟨ver, ?_, Nat.le_refl _, fun _ => e2⟩
    rw [e1, getD_set_blk, if_pos ⟨rfl, hlt⟩]
  have hnews : ∀ A, b = some A → ∀ (j : Nat) (v : Value), ((List.range (fs.length * sz)).map us)[j]? = some v → E.w.cell? (A.add j) = some v := by
    intro A hA j v hv
    rw [getD_range_map] at hv
    split at hv
    · rename_i hj; injection hv with hv; subst hv; exact (hfs.cell A hA j hj).1
    · cases hv
  have holds : ∀ A, base = some A → ∀ (j : Nat) (v : Value), ((List.range (es.length * sz)).map vs)[j]? = some v → E.w.cell? (A.add j) = some v := by
    intro A hA j v hv
    rw [getD_range_map] at hv
    split at hv
    · rename_i hj; injection hv with hv; subst hv; exact (hes.cell A hA j hj).1
    · cases hv
  have hl : ((List.range (fs.length * sz)).map us).length = fs.length * i.size := by simp [hsi]
  have hlo : ((List.range (es.length * sz)).map vs).length = es.length * i.size := by simp [hsi]
  rcases Nat.lt_or_ge cap (es.length + fs.length) with hg | hg
  · -- a new row
    have hrun := run_append_grows (P := P) (w := E.w) (ats := ats) (ty := ty) (c := c) h0 h1 hu1 hu2 hi hz hl hbn hnews hlo (fun e => by have := hnone e; omega) holds hg hpb hfit
    generalize hC : grownCap E.w (es.length + fs.length) cap el = C at hrun
    have hCge : es.length + fs.length ≤ C := by rw [← hC]; exact grownCap_ge _ _ _ _
    let arr : Array Value := ((List.range (es.length * sz)).map vs).toArray ++ ((List.range (fs.length * sz)).map us).toArray ++ Builtin.zeroCells z.cells (C - (es.length + fs.length))
    have hrun' : (Builtin.append_ ats ty #[.slice base es.length cap, .slice b fs.length c]).run P E.w = .ok (.slice (some ⟨E.w.heap.size, 0, none⟩) (es.length + fs.length) C) (E.w.drew.alloc (.cells arr el)) := hrun
    have hbelow : Below E.w.heap.size E.w (E.w.drew.alloc (.cells arr el)) := ((Below.refl _ _).drew).alloc (Nat.le_refl _) _
    have hsize : (E.w.drew.alloc (.cells arr el)).heap.size = E.w.heap.size + 1 := by simp
    have hnewb : (E.w.drew.alloc (.cells arr el)).heap[E.w.heap.size]? = some (.cells arr el (0, 0)) := alloc_new E.w.drew _
    obtain ⟨g1, g2⟩ := hI.grow hbelow (F' := E.F) (fun _ _ h => h) (fun _ _ h => Or.inl h) (fun b o h => by have := hI.Flt b o h; omega)
    have harr : arr.size = C * sz := by
      simp only [arr, Array.size_append, List.size_toArray, List.length_map, List.length_range, Builtin.zeroCells, Array.size_map, Array.size_range, hzs]
      have : C * sz = (es.length + fs.length) * sz + (C - (es.length + fs.length)) * sz := by rw [← Nat.add_mul]; congr 1; omega
      rw [this, Nat.add_mul]
    have hget : ∀ j, j < (es.length + fs.length) * sz → arr[j]? = some (if j < es.length * sz then vs j else us (j - es.length * sz)) := by
      intro j hj
      rw [Nat.add_mul] at hj
      simp only [arr]
      rw [Array.getElem?_append, if_pos (by simp; omega), Array.getElem?_append]
      by_cases hj2 : j < es.length * sz
      · rw [if_pos (by simpa using hj2), if_pos hj2, List.getElem?_toArray, getD_range_map, if_pos hj2]
      · rw [if_neg (by simpa using hj2), if_neg hj2, List.getElem?_toArray, getD_range_map]
        simp only [List.size_toArray, List.length_map, List.length_range]
        rw [if_pos (by omega)]
    obtain ⟨s1, s2⟩ := Inv.setTail g1 (n := n) (v := ver) (a := some ⟨E.w.heap.size, 0, none⟩) (len := es.length + fs.length) (cap := C) (sz := sz) (F' := fun b o => E.F b o ∨ (b = E.w.heap.size ∧ o < (es.length + fs.length) * sz)) hcur hlt hCge (fun _ _ h => Or.inl h)
      (fun b o h => by
        rcases h with h | ⟨rfl, h⟩
        · exact Or.inl h
        · refine Or.inr ⟨Or.inl hI.size, by show E.w.heap.size < (E.w.drew.alloc (.cells arr el)).heap.size; omega, fun m x _ hm he => ?_⟩
          exact Nat.lt_irrefl _ (hI.ownLt hm he))
      (fun hl => ⟨⟨E.w.heap.size, 0, none⟩, arr, el, rfl, Or.inl hI.size, hnewb, by show 0 + C * sz ≤ arr.size; omega, rfl, fun o ho h => by
          rcases h with h | ⟨_, h⟩
          · exact Nat.lt_irrefl _ (hI.Flt _ _ h)
          · simp at ho; omega, fun m x _ hm he => Nat.lt_irrefl _ (hI.ownLt hm he)⟩)
    have hle := g2.trans s2
    refine ⟨_, _, hrun', s1, hle, rfl, ?_⟩
    have hcont := hes.app hle hfs (c := some ⟨E.w.heap.size, 0, none⟩) (fun A hA j hj => by
      injection hA with hA; subst hA
      have e : Addr.add ⟨E.w.heap.size, 0, none⟩ j = ⟨E.w.heap.size, j, none⟩ := by unfold Addr.add; split <;> simp_all
      refine ⟨?_, Or.inr ⟨rfl, by simpa using hj⟩⟩
      rw [e]
      show (E.w.drew.alloc (.cells arr el)).cell? _ = _
      rw [cell_of_row _ _ _ arr el (0, 0) hnewb]
      exact hget j hj)
    have := hcont.slice hsz (cap := C) (k := .own n ver) (by rw [List.length_append]; exact hCge) (fun h => by cases h) (by
      refine ownK _ _ _ _ rfl ?_
      rw [List.length_append]; exact upd_same ..)
    rw [List.length_append] at this
    exact this
  · -- in place
    have hrun := run_append_fits (P := P) (w := E.w) (ats := ats) (ty := ty) (c := c) (base := base) h0 h1 hu1 hu2 hi hl hbn hnews hg
    have disj' : es.length < cap → ∀ A, base = some A → ∀ m x, m ≠ n → E.hs.getD m none = some x → (E.N m).own x ≠ some A.block := by
      intro hlt' A hA m x hm hx he
      obtain ⟨v0, h3, h4⟩ := hown hlt'
      exact hm (hI.disj m n x _ A.block hx h3 he (by rw [h4, hA]; unfold Loc.own; simp only []; rw [if_pos hlt']))
    rcases Nat.eq_zero_or_pos fs.length with hk0 | hk0
    · have hfs0 : fs = [] := List.eq_nil_of_length_eq_zero hk0
      have hrun' : (Builtin.append_ ats ty #[.slice base es.length cap, .slice b fs.length c]).run P E.w = .ok (.slice base (es.length + fs.length) cap) E.w := by
        rw [hrun]
        cases base with
        | none => rfl
        | some A =>
          have : (List.range (fs.length * sz)).map us = [] := by rw [hk0]; simp
          rw [this]; rfl
      obtain ⟨s1, s2⟩ := Inv.setTail hI (n := n) (v := ver) (a := base) (len := es.length + fs.length) (cap := cap) (sz := sz) (F' := E.F) hcur hlt hg (fun _ _ h => h) (fun b o h => Or.inl h)
        (fun hl' => by
          rw [hk0, Nat.add_zero] at hl'
          obtain ⟨v0, h3, h4⟩ := hown hl'
          obtain ⟨a, len, cap', sz', q1, q2, q3⟩ := hI.tail n v0 h3
          rw [h4] at q1; injection q1 with e1 e2 e3 e4; subst e1; subst e2; subst e3; subst e4
          obtain ⟨A, arr, t, r1, r2, r3, r4, r5, r6⟩ := q3 hl'
          exact ⟨A, arr, t, r1, r2, r3, r4, r5, fun o ho => r6 o (by rw [hk0, Nat.add_zero] at ho; exact ho), disj' hl' A r1⟩)
      refine ⟨_, (⟨E.w, E.F, upd E.N n (.tail base (es.length + fs.length) cap sz), E.hs.set n (some (.tail ver))⟩ : En), hrun', s1, s2, rfl, ?_⟩
      have hcont := hes.app s2 hfs (c := base) (fun A hA j hj => by
        rw [hk0, Nat.add_zero] at hj
        rw [if_pos hj]
        exact hes.cell A hA j hj)
      have := hcont.slice hsz (cap := cap) (k := .own n ver) (by rw [List.length_append]; exact hg) hnone (by
        refine ownK _ _ _ _ rfl ?_
        rw [List.length_append]; exact upd_same ..)
      rw [List.length_append] at this
      exact this
    · have hl' : es.length < cap := by omega
      obtain ⟨v0, h3, h4⟩ := hown hl'
      obtain ⟨a, len, cap', sz', q1, q2, q3⟩ := hI.tail n v0 h3
      rw [h4] at q1; injection q1 with e1 e2 e3 e4; subst e1; subst e2; subst e3; subst e4
      obtain ⟨A, arr, t, rfl, r2, r3, r4, r5, r6⟩ := q3 hl'
      have hA : A.add (es.length * i.size) = ⟨A.block, A.off + es.length * sz, none⟩ := by
        rw [hsi]
        unfold Addr.add
        split
        · rename_i h; rw [h]; cases A; simp at r5; subst r5; rfl
        · rfl
      have hroom : A.off + es.length * sz + fs.length * sz ≤ arr.size := by
        have : (es.length + fs.length) * sz ≤ cap * sz := Nat.mul_le_mul_right _ hg
        rw [Nat.add_mul] at this; omega
      have hst := run_storeCells_at P A.block (A.off + es.length * sz) t ((List.range (fs.length * sz)).map us) 0 arr E.w r3 (by simp; omega) (fun v hv => by
        rw [List.mem_map] at hv
        obtain ⟨j, hj, rfl⟩ := hv
        exact hfs.one hck (List.mem_range.1 hj))
      generalize harr' : (arr.toList.take (A.off + es.length * sz + 0) ++ (List.range (fs.length * sz)).map us ++ arr.toList.drop (A.off + es.length * sz + 0 + ((List.range (fs.length * sz)).map us).length)).toArray = arr' at hst
      have hget : ∀ j, arr'[j]? = if j < A.off + es.length * sz then arr[j]? else if j < A.off + (es.length + fs.length) * sz then some (us (j - (A.off + es.length * sz))) else arr[j]? := by
        intro j
        rw [← harr', Nat.add_mul]
        simp only [Nat.add_zero, List.length_map, List.length_range, List.getElem?_toArray]
        rw [List.append_assoc, List.getElem?_append]
        have ht : (arr.toList.take (A.off + es.length * sz)).length = A.off + es.length * sz := by simp; omega
        rw [ht]
        by_cases hj : j < A.off + es.length * sz
        · rw [if_pos hj, if_pos hj, List.getElem?_take, if_pos hj, Array.getElem?_toList]
        · rw [if_neg hj, if_neg hj, List.getElem?_append]
          simp only [List.length_map, List.length_range]
          by_cases hj2 : j < A.off + (es.length * sz + fs.length * sz)
          · rw [if_pos (by omega), if_pos hj2, getD_range_map, if_pos (by omega)]
          · rw [if_neg (by omega), if_neg hj2, List.getElem?_drop, Array.getElem?_toList]
            congr 1
            omega
      have hsize' : arr'.size = arr.size := by
        rw [← harr']; simp; omega
      obtain ⟨g1, g2⟩ := Inv.write hI h3 h4 hl' r3 hsize' (fun j hj => by rw [hget, if_pos hj])
      have hrun' : (Builtin.append_ ats ty #[.slice (some A) es.length cap, .slice b fs.length c]).run P E.w = .ok (.slice (some A) (es.length + fs.length) cap) (E.w.setRow A.block arr') := by
        rw [hrun]
        show ((storeCells (A.add (es.length * i.size)) ((List.range (fs.length * sz)).map us)).run P E.w).andThen _ = _
        rw [hA, hst]; rfl
      have hrow' : (E.w.setRow A.block arr').heap[A.block]? = some (.cells arr' t (0, 0)) := setRow_heap _ _ _ _ _ _ r3
      obtain ⟨s1, s2⟩ := Inv.setTail g1 (n := n) (v := ver) (a := some A) (len := es.length + fs.length) (cap := cap) (sz := sz) (F' := fun b o => E.F b o ∨ (b = A.block ∧ o < A.off + (es.length + fs.length) * sz ∧ A.off + es.length * sz ≤ o)) hcur hlt hg (fun _ _ h => Or.inl h)
        (fun b o h => by
          rcases h with h | ⟨rfl, h, _⟩
          · exact Or.inl h
          · refine Or.inr ⟨r2, ?_, disj' hl' A rfl⟩
            show A.block < (E.w.setRow A.block arr').heap.size
            rw [setRow_size]; exact (Array.getElem?_eq_some_iff.1 r3).1)
        (fun _ => ⟨A, arr', t, rfl, r2, hrow', by rw [hsize']; exact r4, r5, fun o ho h => by
            rcases h with h | ⟨_, h, _⟩
            · refine r6 o ?_ h
              rw [Nat.add_mul] at ho; omega
            · omega, disj' hl' A rfl⟩)
      have hle := g2.trans s2
      refine ⟨_, _, hrun', s1, hle, rfl, ?_⟩
      have hcont := hes.app hle hfs (c := some A) (fun B hB j hj => by
        injection hB with hB; subst hB
        by_cases hj2 : j < es.length * sz
        · rw [if_pos hj2]
          obtain ⟨c1, c2⟩ := hes.cell A rfl j hj2
          refine ⟨(hle.cell _ ?_).trans c1, Or.inl c2⟩
          rw [addr_add_block, addr_add_off]; exact c2
        · rw [if_neg hj2]
          refine ⟨?_, Or.inr ⟨rfl, by omega, by omega⟩⟩
          have e : A.add j = ⟨A.block, A.off + j, none⟩ := by
            unfold Addr.add
            split
            · rename_i h; rw [h]; cases A; simp at r5; subst r5; rfl
            · rfl
          rw [e]
          show (E.w.setRow A.block arr').cell? _ = _
          rw [cell_of_row _ _ _ arr' t (0, 0) hrow', hget, if_neg (by omega), if_pos (by omega)]
          congr 2
          omega)
      have := hcont.slice hsz (cap := cap) (k := .own n ver) (by rw [List.length_append]; exact hg) (fun h => by cases h) (by
        refine ownK _ _ _ _ rfl ?_
        rw [List.length_append]; exact upd_same ..)
      rw [List.length_append] at this
      exact this
end Go.Proofs.YtolackmpfnndhaaGreatDoor.Ev
