/- Functions. Conditions: stated at each. -/
import Derived.Test.YtolackmpfnndhaaGreatDoorSndB
namespace Go.Proofs.YtolackmpfnndhaaGreatDoor.Ev
open Go Go.RowKit
set_option linter.unusedVariables false
set_option linter.unusedSimpArgs false
variable {P : Program}
theorem getV_start (n : Nat) (as : List V) (t : Nat) : getV (as ++ List.replicate (n - as.length) .dead) t = (as[t]?).getD .dead := by
  unfold getV
  rw [List.getD_eq_getElem?_getD, List.getElem?_append]
  split
  · rfl
  · rename_i h
    rw [List.getElem?_eq_none (by omega : as.length ≤ t), List.getElem?_replicate]
    split <;> rfl
/-- A call's first temporaries. -/
theorem FS.start {w : World} {F : Nat → Nat → Prop} {args : Array Value} {as : List V} (hl : args.size = as.length) (h : ∀ (i : Nat) (x : V), as[i]? = some x → Rep P (E0 w F) (args.getD i undef) x) (n : Nat) :
    FS P ⟨w, F, fun _ => .blk 0, List.replicate n none⟩ { tmps := args ++ Array.replicate (n - args.size) undef, defers := [] } (startV n as).ts := by
  have hle : En.Le (E0 w F) ⟨w, F, fun _ => .blk 0, List.replicate n none⟩ := E0_le (E := E0 w F) rfl rfl
  refine ⟨rfl, by simp [startV, hl], fun t => ?_⟩
  show Rep P _ ((args ++ Array.replicate (n - args.size) undef).getD t undef) (getV (as ++ List.replicate (n - as.length) .dead) t)
  rw [getV_start]
  cases ht : as[t]? with
  | none => exact .dead _
  | some x =>
    have hlt : t < args.size := by
      rw [hl]
      rcases Nat.lt_or_ge t as.length with h | h
      · exact h
      · rw [List.getElem?_eq_none h] at ht; cases ht
    have e : (args ++ Array.replicate (n - args.size) undef).getD t undef = args.getD t undef := by
      rw [Array.getD_eq_getD_getElem?, Array.getD_eq_getD_getElem?, Array.getElem?_append, if_pos hlt]
    rw [e]
    exact (h t x ht).mono hle
theorem Inv.start {w : World} {F0 : Fz} (hF : ∀ b o, F0 b o → b < w.heap.size) (hG : GOk w F0.M) (n : Nat) : Inv P w F0 ⟨w, F0.F, fun _ => .blk 0, List.replicate n none⟩ :=
  ⟨.of (Below.refl _ _), fun _ _ h => h, fun _ _ h => Or.inl h, hF, fun k cs h => (by rw [show (_ : List (Option Blk)).getD k none = none from getD_replicate n k] at h; cases h), fun k v h => (by rw [show (_ : List (Option Blk)).getD k none = none from getD_replicate n k] at h; cases h), fun k t v es h => (by rw [show (_ : List (Option Blk)).getD k none = none from getD_replicate n k] at h; cases h), fun k q h => (by rw [show (_ : List (Option Blk)).getD k none = none from getD_replicate n k] at h; cases h), fun k m x y b h => (by rw [show (_ : List (Option Blk)).getD k none = none from getD_replicate n k] at h; cases h), hG⟩
def resF (tmps : Array Value) : ResultVar → Sem Value
  | .tmp t => pure (tmps.getD t undef)
  | .cell b t => do loadVar t (← asAddr (tmps.getD b undef))
theorem resV_run {w0 : World} {F0 : Fz} {E : En} (hI : Inv P w0 F0 E) {a : Act} {s : St} (hf : FS P E a s.ts) (hh : E.hs = s.hs) : ∀ {l : List ResultVar} {xs : List V}, resV P s l = some xs →
    ∃ vs : List Value, (l.mapM (resF a.tmps)).run P E.w = .ok vs E.w ∧ vs.length = xs.length ∧ ∀ (i : Nat) (x : V), xs[i]? = some x → ∃ v, vs[i]? = some v ∧ Rep P E v x
  | [], xs, h => by
    simp [resV] at h; subst h
    exact ⟨[], by simp, rfl, fun i x hi => by simp at hi⟩
  | .tmp t :: l, xs, h => by
    simp only [resV] at h
    rw [Option.map_eq_some_iff] at h
    obtain ⟨ys, hy, rfl⟩ := h
    obtain ⟨vs, h1, h2, h3⟩ := resV_run hI hf hh hy
    refine ⟨a.tmps.getD t undef :: vs, ?_, by simp [h2], fun i x hi => ?_⟩
    · rw [List.mapM_cons]
      simp [resF, h1]
    · cases i with
      | zero => simp at hi; subst hi; exact ⟨_, rfl, hf.vals t⟩
      | succ i => exact h3 i x (by simpa using hi)
  | .cell b t :: l, xs, h => by
    simp only [resV] at h
    split at h
    · rename_i bb off hb
      rw [Option.bind_eq_some_iff] at h
      obtain ⟨cs, hcs, h⟩ := h
      rw [Option.bind_eq_some_iff] at h
      obtain ⟨x0, hx0, h⟩ := h
      rw [Option.map_eq_some_iff] at h
      obtain ⟨ys, hy, rfl⟩ := h
      obtain ⟨vs, h1, h2, h3⟩ := resV_run hI hf hh hy
      have hv := hf.vals b
      rw [hb] at hv
      obtain ⟨bk, hv, hN, _⟩ := rep_optr_inv hv
      rw [← hh] at hcs
      obtain ⟨us, hus⟩ := hI.boxed (off := off) hN hcs
      obtain ⟨v, r1, r2⟩ := load_run hx0 hus
      refine ⟨v :: vs, ?_, by simp [h2], fun i x hi => ?_⟩
      · rw [List.mapM_cons]
        simp [resF, hv, asAddr, r1, h1]
      · cases i with
        | zero => simp at hi; subst hi; exact ⟨_, rfl, r2⟩
        | succ i => exact h3 i x (by simpa using hi)
    · cases h
theorem results_run {E : En} {fn : Func} {tmps : Array Value} {vs : List Value} (h : (fn.results.toList.mapM (resF tmps)).run P E.w = .ok vs E.w) : (results fn tmps).run P E.w = .ok (if h : vs.toArray.size = 1 then vs.toArray[0] else .tuple vs.toArray) E.w := by
  have e0 : results fn tmps = (do let vs ← fn.results.mapM (resF tmps); pure (if h : vs.size = 1 then vs[0] else .tuple vs)) := by
    unfold results
    congr 1
  rw [e0, Array.mapM_eq_mapM_toList]
  simp [h]
/-- A function: what its run says is what its call does. -/
theorem funOk_of {C : Cx} (hC : CxOk C) {S : Subs} {f : Nat} {fn : Func} (hfn : C.P.funcs[f]? = some fn) (hname : (fn.name == "runtime.NumGoroutine") = false) {c : Code} (hbody : fn.body = some c) (hl : Loops (LoopOk C.P S) c) {F : Fun}
    (hden : ∀ xs as r, normAs C.P F.pts xs = some as → (F.den as).eval = some r → (funV C S fn as).eval = some r) : FunOk C.P f F := by
  refine ⟨⟨fn, hfn, hname, by rw [hbody]; rfl⟩, fun w Fz hF hG args xs as r hsz hn hrep hr => ?_⟩
  have hrun := hden xs as r hn hr
  unfold funV at hrun
  rw [hbody] at hrun
  simp only [] at hrun
  obtain ⟨⟨x, s'⟩, h1, h2⟩ := T.eval_bind _ _ hrun
  have hgo := codeV_sound hC hl h1 ⟨w, Fz, fun _ => .blk 0, List.replicate fn.ntmps none⟩ _ (Inv.start (P := C.P) (F0 := ⟨Fz, fun _ => False⟩) hF hG fn.ntmps) (FS.start hsz hrep fn.ntmps) rfl
  refine calls_of_wp hfn hbody (wp_mono hgo ?_)
  rintro e a' w' ⟨E1, rfl, rfl, k1, k2, k3⟩
  obtain ⟨E', hw, k1, k2, k3⟩ := frzL_sound (id := endId) (l := C.fz) k1 k2 k3
  rw [← hw]
  have main : ofOpt (((resV C.P (frzL C.P endId C.fz s') fn.results.toList).bind (normAs C.P (fn.resultTypes.toList.map .t))).map oneV) = T.ret r → a'.defers = [] ∧ ∃ v, (results fn a'.tmps).run C.P E'.w = .ok v E'.w ∧
      ∃ v_1 F', Ending.returned v = .returned v_1 ∧ Below w.heap.size w E'.w ∧ (∀ b o, Fz b o → F' b o) ∧ (∀ b o, F' b o → Fz b o ∨ w.heap.size ≤ b) ∧ (∀ b o, F' b o → b < E'.w.heap.size) ∧ Rep C.P (E0 E'.w F') v_1 r := by
    intro h
    refine ⟨k2.defers, ?_⟩
    cases hq : (resV C.P (frzL C.P endId C.fz s') fn.results.toList).bind (normAs C.P (fn.resultTypes.toList.map .t)) with
    | none => rw [hq] at h; cases h
    | some ys =>
      rw [hq] at h
      have hr' : oneV ys = r := by injection h
      rw [Option.bind_eq_some_iff] at hq
      obtain ⟨xs', hx, hy⟩ := hq
      obtain ⟨vs, r1, r2, r3⟩ := resV_run k1 k2 k3 hx
      obtain ⟨n1, n2⟩ := rep_normAs (E := E') (vs := fun i => vs.toArray.getD i undef) hy (fun i x hi => by
        obtain ⟨v, hv, hrep'⟩ := r3 i x hi
        have : vs.toArray.getD i undef = v := by simp [Array.getD_eq_getD_getElem?, hv]
        show Rep C.P E' (vs.toArray.getD i undef) x
        rw [this]; exact hrep')
      refine ⟨_, results_run r1, _, E'.F, rfl, k1.below.to (fun _ h => h), k1.keep, fun b o h => (k1.Fnew b o h).imp id (fun h => h.elim id False.elim), k1.Flt, ?_⟩
      rw [← hr']
      have hlen : vs.length = ys.length := by rw [r2, n1]
      by_cases h1 : vs.toArray.size = 1
      · rw [dif_pos h1]
        match ys, vs, hlen, h1, n2 with
        | [y], [v], _, _, n2 => exact n2 0 y rfl
        | [], [v], hlen, _, _ => simp at hlen
        | [], [], _, h1, _ => simp at h1
        | _ :: _ :: _, [v], hlen, _, _ => simp at hlen
        | _, _ :: _ :: _, _, h1, _ => simp at h1
      · rw [dif_neg h1]
        have : oneV ys = .tuple ys := by
          match ys, vs, hlen, h1 with
          | [y], [v], _, h1 => simp at h1
          | [], _, _, _ => rfl
          | _ :: _ :: _, _, _, _ => rfl
        rw [this]
        exact .tuple _ _ (by simpa using hlen) n2
  cases x with
  | normal =>
    have : ofOpt (((resV C.P (frzL C.P endId C.fz s') fn.results.toList).bind (normAs C.P (fn.resultTypes.toList.map .t))).map oneV) = T.ret r := by
      simp only [] at h2
      cases hq : ((resV C.P (frzL C.P endId C.fz s') fn.results.toList).bind (normAs C.P (fn.resultTypes.toList.map .t))).map oneV with
      | none => rw [hq] at h2; cases h2
      | some y => rw [hq] at h2; simp [ofOpt, T.eval] at h2; rw [h2]; rfl
    exact main this
  | ret =>
    have : ofOpt (((resV C.P (frzL C.P endId C.fz s') fn.results.toList).bind (normAs C.P (fn.resultTypes.toList.map .t))).map oneV) = T.ret r := by
      simp only [] at h2
      cases hq : ((resV C.P (frzL C.P endId C.fz s') fn.results.toList).bind (normAs C.P (fn.resultTypes.toList.map .t))).map oneV with
      | none => rw [hq] at h2; cases h2
      | some y => rw [hq] at h2; simp [ofOpt, T.eval] at h2; rw [h2]; rfl
    exact main this
  | exit id => cases h2
theorem tab_ok.{u} {α : Type u} {Q : Nat → α → Prop} {l : List (Nat × α)} (h : ∀ p, p ∈ l → Q (p.1 % 1000000) p.2) : ∀ f F, tab l f = some F → Q (f % 1000000) F := by
  intro f F hF'
  induction l with
  | nil => cases hF'
  | cons p l ih =>
    unfold tab at hF'
    rw [cond_eq_ite] at hF'
    split at hF'
    · rename_i hb
      injection hF' with hF'; subst hF'
      have := Nat.eq_of_beq_eq_true hb
      rw [← this]
      exact h p (List.mem_cons_self ..)
    · exact ih (fun q hq => h q (List.mem_cons_of_mem _ hq)) hF'
theorem tab_cons.{u} {α : Type u} {Q : Nat → α → Prop} {p : Nat × α} {l : List (Nat × α)} (h : Q (p.1 % 1000000) p.2) (k : ∀ f F, tab l f = some F → Q (f % 1000000) F) : ∀ f F, tab (p :: l) f = some F → Q (f % 1000000) F := by
  intro f F hF'
  unfold tab at hF'
  rw [cond_eq_ite] at hF'
  split at hF'
  · rename_i hb
    injection hF' with hF'; subst hF'
    have := Nat.eq_of_beq_eq_true hb
    rw [← this]; exact h
  · exact k f F hF'
theorem CxOk.nil {P : Program} {ms : List Nat} {fz : List (Nat × Nat)} : CxOk ⟨P, tab [], ms, fz, tab []⟩ := ⟨fun f F h => (by cases h), fun f F h => (by cases h)⟩
theorem CxOk.cons {P : Program} {ms : List Nat} {fz : List (Nat × Nat)} {fm : Nat → Option FunM} {p : Nat × Fun} {l : List (Nat × Fun)} (h : FunOk P (p.1 % 1000000) p.2) (k : CxOk ⟨P, tab l, ms, fz, fm⟩) : CxOk ⟨P, tab (p :: l), ms, fz, fm⟩ :=
  ⟨tab_cons (Q := FunOk P) h k.fn, k.fm⟩
theorem CxOk.consM {P : Program} {ms : List Nat} {fz : List (Nat × Nat)} {fn : Nat → Option Fun} {p : Nat × FunM} {l : List (Nat × FunM)} (h : FunOkM P (p.1 % 1000000) p.2) (k : CxOk ⟨P, fn, ms, fz, tab l⟩) : CxOk ⟨P, fn, ms, fz, tab (p :: l)⟩ :=
  ⟨k.fn, tab_cons (Q := FunOkM P) h k.fm⟩
theorem CxOk.consK {P : Program} {ms : List Nat} {fz : List (Nat × Nat)} {fm : Nat → Option FunM} {p : Nat × Fun} {f : Nat} {l : List (Nat × Fun)} (e : p.1 % 1000000 = f) (h : FunOk P f p.2) (k : CxOk ⟨P, tab l, ms, fz, fm⟩) : CxOk ⟨P, tab (p :: l), ms, fz, fm⟩ := CxOk.cons (e ▸ h) k
theorem CxOk.consMK {P : Program} {ms : List Nat} {fz : List (Nat × Nat)} {fn : Nat → Option Fun} {p : Nat × FunM} {f : Nat} {l : List (Nat × FunM)} (e : p.1 % 1000000 = f) (h : FunOkM P f p.2) (k : CxOk ⟨P, fn, ms, fz, tab l⟩) : CxOk ⟨P, fn, ms, fz, tab (p :: l)⟩ := CxOk.consM (e ▸ h) k
/-- What is held of others is in its type's form. -/
theorem normAs_get : ∀ {ts : List PT} {xs ys : List V}, normAs P ts xs = some ys → ys.length = ts.length ∧ ∀ (i : Nat) (t : PT) (y : V), ts[i]? = some t → ys[i]? = some y → ∃ x, normP P t x = some y
  | [], [], ys, h => by simp [normAs] at h; subst h; exact ⟨rfl, fun i t y hi => by simp at hi⟩
  | t :: ts, x :: xs, ys, h => by
    simp only [normAs] at h
    rw [Option.bind_eq_some_iff] at h
    obtain ⟨y, hy, h⟩ := h
    rw [Option.map_eq_some_iff] at h
    obtain ⟨l, hl, rfl⟩ := h
    obtain ⟨h1, h2⟩ := normAs_get hl
    refine ⟨by simp [h1], fun i u z hi hz => ?_⟩
    cases i with
    | zero => simp at hi hz; subst hi; subst hz; exact ⟨x, hy⟩
    | succ i => exact h2 i u z (by simpa using hi) (by simpa using hz)
  | [], _ :: _, _, h => by simp [normAs] at h
  | _ :: _, [], _, h => by simp [normAs] at h
theorem normCs_get : ∀ {es : List Nat} {xs ys : List V}, normCs P es xs = some ys → ys.length = es.length ∧ ∀ (i e : Nat) (y : V), es[i]? = some e → ys[i]? = some y → ∃ l, y = .rptr l ∧ eta P e l = l
  | [], [], ys, h => by simp [normCs] at h; subst h; exact ⟨rfl, fun i t y hi => by simp at hi⟩
  | e :: es, x :: xs, ys, h => by
    simp only [normCs] at h
    rw [Option.bind_eq_some_iff] at h
    obtain ⟨y, hy, h⟩ := h
    rw [Option.map_eq_some_iff] at h
    obtain ⟨l, hl, rfl⟩ := h
    obtain ⟨h1, h2⟩ := normCs_get hl
    refine ⟨by simp [h1], fun i u z hi hz => ?_⟩
    cases i with
    | zero => simp at hi hz; subst hi; subst hz; exact normC_form hy
    | succ i => exact h2 i u z (by simpa using hi) (by simpa using hz)
  | [], _ :: _, _, h => by simp [normCs] at h
  | _ :: _, [], _, h => by simp [normCs] at h
theorem canonC_get : ∀ {es : List Nat} {ys : List V} {rs : List Row} {i : Nat}, ys.length = es.length → (∀ (j : Nat) (y : V), ys[j]? = some y → ∃ l, y = .rptr l ∧ rs[i + j]? = some l) → (∀ (j e : Nat) (y : V), es[j]? = some e → ys[j]? = some y → ∃ l, y = .rptr l ∧ eta P e l = l) → canonC P es i rs = ys.map vPtr
  | [], [], rs, i, _, _, _ => rfl
  | e :: es, y :: ys, rs, i, hl, hb, h => by
    obtain ⟨l, rfl, hl0⟩ := hb 0 y rfl
    obtain ⟨l', e1, he⟩ := h 0 e _ rfl rfl
    injection e1 with e1; subst e1
    rw [Nat.add_zero] at hl0
    simp only [canonC, List.map_cons]
    have h0 : rs.getD i [] = l := by simp [List.getD_eq_getElem?_getD, hl0]
    rw [h0, he, canonC_get (by simpa using hl) (fun j z hj => by
      have := hb (j + 1) z (by simpa using hj)
      have e : i + 1 + j = i + (j + 1) := by omega
      rw [e]; exact this) (fun j u z hu hz => h (j + 1) u z (by simpa using hu) (by simpa using hz))]
    rfl
  | [], _ :: _, _, _, h, _, _ => by simp at h
  | _ :: _, [], _, _, h, _, _ => by simp at h
theorem canonCs_get : ∀ {es : List Nat} {ys xs : List V} {i : Nat}, ys.length = es.length → (∀ (j : Nat) (y : V), ys[j]? = some y → xs[i + j]? = some y) → (∀ (j e : Nat) (y : V), es[j]? = some e → ys[j]? = some y → ∃ l, y = .rptr l ∧ eta P e l = l) → canonCs P es i xs = ys
  | [], [], xs, i, _, _, _ => rfl
  | e :: es, y :: ys, xs, i, hl, hb, h => by
    have h0 : vN xs i = y := by
      have := hb 0 y rfl
      rw [Nat.add_zero] at this
      simp [vN, List.getD_eq_getElem?_getD, this]
    obtain ⟨l, rfl, he⟩ := h 0 e _ rfl rfl
    simp only [canonCs]
    rw [h0, canonCs_get (by simpa using hl) (fun j z hj => by
      have := hb (j + 1) z (by simpa using hj)
      have e : i + 1 + j = i + (j + 1) := by omega
      rw [e]; exact this) (fun j u z hu hz => h (j + 1) u z (by simpa using hu) (by simpa using hz))]
    show V.rptr (eta P e l) :: ys = _
    rw [he]
  | [], _ :: _, _, _, h, _, _ => by simp at h
  | _ :: _, [], _, _, h, _, _ => by simp at h
theorem normA_agg {t : Nat} {x : V} {c : List V} (h : normA P t x = some (.agg c)) : eta P t c = c := by
  have key : ∀ x : V, (match x with | .agg cs => (normL P (ctsOf P t) cs).map V.agg | _ => none) = some (.agg c) → eta P t c = c := by
    intro x h
    split at h
    · rw [Option.map_eq_some_iff] at h
      obtain ⟨l, hl, e⟩ := h
      injection e with e; subst e
      exact (normL_eta hl).1
    · cases h
  unfold normA at h
  split at h
  · exact key x h
  · exact key x h
  · have := norm1_frz h; exact this.elim
theorem canonA_cut {hs : List (Option Blk)} {sh : Sh} {x : V} {a : At} (h : cutV P hs sh x = some a) : canonA P sh a = a := by
  unfold cutV at h
  split at h
  · injection h with h; subst h; rfl
  · rw [cond_eq_ite] at h
    split at h
    · injection h with h; subst h; rfl
    · cases h
  · injection h with h; subst h; rfl
  · rw [Option.map_eq_some_iff] at h
    obtain ⟨sz, _, rfl⟩ := h; rfl
  · rw [cond_eq_ite] at h
    split at h
    · injection h with h; subst h; rfl
    · cases h
  · split at h
    · rw [cond_eq_ite] at h
      split at h
      · injection h with h; subst h; rfl
      · cases h
    · cases h
  · rw [Option.map_eq_some_iff] at h
    obtain ⟨l, hl, rfl⟩ := h
    show At.w (eta P _ l) = _
    rw [(normL_eta hl).1]
  · split at h
    · rw [cond_eq_ite] at h
      split at h
      · injection h with h; subst h; rfl
      · cases h
    · cases h
  · rw [Option.map_eq_some_iff] at h
    obtain ⟨l, hl, rfl⟩ := h
    show At.w (eta P _ l) = _
    rw [(normL_eta hl).1]
  · rename_i f es g xs
    rw [cond_eq_ite] at h
    split at h
    · rw [Option.map_eq_some_iff] at h
      obtain ⟨ys, hys, rfl⟩ := h
      obtain ⟨c1, c2⟩ := normCs_get hys
      show At.c (canonC P es 0 (ys.map vPtr)) = _
      rw [canonC_get c1 (fun j y hj => by
        have hlt : j < es.length := by
          rw [← c1]
          rcases Nat.lt_or_ge j ys.length with h | h
          · exact h
          · rw [List.getElem?_eq_none h] at hj; cases hj
        obtain ⟨l, rfl, _⟩ := c2 j es[j] y (List.getElem?_eq_getElem hlt) hj
        exact ⟨l, rfl, by rw [Nat.zero_add, List.getElem?_map, hj]; rfl⟩) c2]
    · cases h
  · rw [cond_eq_ite] at h
    split at h
    · cases h; rfl
    · cases h
  · rw [cond_eq_ite] at h
    split at h
    · cases h; rfl
    · cases h
  · cases h
theorem canonTs_get : ∀ {l : List Sh} {as bs : List At} {i : Nat}, as.length = l.length → (∀ j a, as[j]? = some a → bs[i + j]? = some a) → (∀ sh a, (sh, a) ∈ l.zip as → canonA P sh a = a) → canonTs P l i bs = as
  | [], [], bs, i, _, _, _ => rfl
  | sh :: l, a :: as, bs, i, hl, hb, h => by
    have h0 : aN bs i = a := by
      have := hb 0 a rfl
      rw [Nat.add_zero] at this
      simp [aN, List.getD_eq_getElem?_getD, this]
    simp only [canonTs]
    rw [h0, h sh a (by simp), canonTs_get (by simpa using hl) (fun j b hj => by
      have := hb (j + 1) b (by simpa using hj)
      have e : i + 1 + j = i + (j + 1) := by omega
      rw [e]; exact this) (fun s b hs => h s b (by rw [List.zip_cons_cons]; exact List.mem_cons_of_mem _ hs))]
  | [], _ :: _, _, _, h, _, _ => by simp at h
  | _ :: _, [], _, _, h, _, _ => by simp at h
theorem cutTs_canon {s : St} {l : List (Nat × Sh)} {as : List At} (h : cutTs P s l = some as) : canonTs P (l.map (·.2)) 0 as = as := by
  obtain ⟨h1, h2⟩ := cutTs_zip h
  refine canonTs_get (by simp [h1]) (fun j a hj => by rw [Nat.zero_add]; exact hj) (fun sh a hz => ?_)
  rw [List.zip_map_left, List.mem_map] at hz
  obtain ⟨⟨p, b⟩, hp, e⟩ := hz
  injection e with e1 e2
  simp at e1 e2
  rw [← e1, ← e2]
  exact canonA_cut (h2 p b hp)
theorem cutCs_canon {hs : List (Option Blk)} : ∀ {l : List Sh} {xs : List V} {as : List At}, cutCs P hs l xs = some as → as.length = l.length ∧ ∀ sh a, (sh, a) ∈ l.zip as → canonA P sh a = a
  | [], [], as, h => by simp [cutCs] at h; subst h; exact ⟨rfl, fun sh a hz => by simp at hz⟩
  | p :: l, x :: xs, as, h => by
    simp only [cutCs] at h
    rw [Option.bind_eq_some_iff] at h
    obtain ⟨a, ha, h⟩ := h
    rw [Option.map_eq_some_iff] at h
    obtain ⟨l', hl, rfl⟩ := h
    obtain ⟨h1, h2⟩ := cutCs_canon hl
    refine ⟨by simp [h1], fun sh b hz => ?_⟩
    rw [List.zip_cons_cons] at hz
    rcases List.mem_cons.1 hz with e | hz
    · injection e with e1 e2; subst e1; subst e2; exact canonA_cut ha
    · exact h2 sh b hz
  | [], _ :: _, _, h => by simp [cutCs] at h
  | _ :: _, [], _, h => by simp [cutCs] at h
theorem canonBs_get {hs : List (Option Blk)} : ∀ {l : List (Nat × List Sh)} {as bs : List (List At)} {i : Nat}, cutBs P hs l = some as → (∀ j a, as[j]? = some a → bs[i + j]? = some a) → canonBs P l i bs = as
  | [], as, bs, i, h, _ => by simp [cutBs] at h; subst h; rfl
  | p :: l, as, bs, i, h, hb => by
    simp only [cutBs] at h
    rw [Option.bind_eq_some_iff] at h
    obtain ⟨cs, hcs, h⟩ := h
    rw [Option.bind_eq_some_iff] at h
    obtain ⟨a, ha, h⟩ := h
    rw [Option.map_eq_some_iff] at h
    obtain ⟨l', hl, rfl⟩ := h
    have h0 : bs.getD i [] = a := by
      have := hb 0 a rfl
      rw [Nat.add_zero] at this
      simp [List.getD_eq_getElem?_getD, this]
    simp only [canonBs]
    obtain ⟨c1, c2⟩ := cutCs_canon ha
    rw [h0, canonTs_get c1 (fun j b hj => by rw [Nat.zero_add]; exact hj) c2, canonBs_get hl (fun j b hj => by
      have := hb (j + 1) b (by simpa using hj)
      have e : i + 1 + j = i + (j + 1) := by omega
      rw [e]; exact this)]
theorem canonRs_get {hs : List (Option Blk)} : ∀ {l : List (Nat × Nat)} {as bs : List Row} {i : Nat}, cutRs P hs l = some as → (∀ j a, as[j]? = some a → bs[i + j]? = some a) → canonRs P l i bs = as
  | [], as, bs, i, h, _ => by simp [cutRs] at h; subst h; rfl
  | p :: l, as, bs, i, h, hb => by
    simp only [cutRs] at h
    rw [Option.bind_eq_some_iff] at h
    obtain ⟨cs, hcs, h⟩ := h
    rw [Option.bind_eq_some_iff] at h
    obtain ⟨a, ha, h⟩ := h
    rw [Option.map_eq_some_iff] at h
    obtain ⟨l', hl, rfl⟩ := h
    have h0 : bs.getD i [] = a := by
      have := hb 0 a rfl
      rw [Nat.add_zero] at this
      simp [List.getD_eq_getElem?_getD, this]
    simp only [canonRs]
    rw [h0, (normL_eta ha).1, canonRs_get hl (fun j b hj => by
      have := hb (j + 1) b (by simpa using hj)
      have e : i + 1 + j = i + (j + 1) := by omega
      rw [e]; exact this)]
theorem canonMs_get {hs : List (Option Blk)} : ∀ {l : List (Nat × Nat)} {as bs : List Rows} {i : Nat}, as.length = l.length → (∀ j a, as[j]? = some a → bs[i + j]? = some a) → canonMs l i bs = as
  | [], [], bs, i, _, _ => rfl
  | p :: l, a :: as, bs, i, hl, hb => by
    have h0 : bs.getD i [] = a := by
      have := hb 0 a rfl
      rw [Nat.add_zero] at this
      simp [List.getD_eq_getElem?_getD, this]
    simp only [canonMs]
    rw [h0, canonMs_get (hs := hs) (by simpa using hl) (fun j b hj => by
      have := hb (j + 1) b (by simpa using hj)
      have e : i + 1 + j = i + (j + 1) := by omega
      rw [e]; exact this)]
  | [], _ :: _, _, _, h, _ => by simp at h
  | _ :: _, [], _, _, h, _ => by simp at h
theorem cutS_canon {tp : Tpl} {s : St} {d : Dt} (hc : cutS P tp s = some d) : canonD P tp d = d := by
  unfold cutS at hc
  rw [Option.bind_eq_some_iff] at hc
  obtain ⟨s1, h1, hc⟩ := hc
  rw [Option.bind_eq_some_iff] at hc
  obtain ⟨da, h2, hc⟩ := hc
  rw [Option.bind_eq_some_iff] at hc
  obtain ⟨db, h3, hc⟩ := hc
  rw [Option.bind_eq_some_iff] at hc
  obtain ⟨dr, h4, hc⟩ := hc
  rw [Option.bind_eq_some_iff] at hc
  obtain ⟨dm, h5, hc⟩ := hc
  rw [cond_eq_ite] at hc
  split at hc
  · injection hc with hc; subst hc
    show Dt.mk _ _ _ _ = _
    rw [cutTs_canon h2, canonBs_get h3 (fun j a hj => by rw [Nat.zero_add]; exact hj), canonRs_get h4 (fun j a hj => by rw [Nat.zero_add]; exact hj), canonMs_get (hs := s1.hs) (cutMs_zip h5).1 (fun j a hj => by rw [Nat.zero_add]; exact hj)]
  · cases hc
/-- The table's entry of a loop, of what is printed for it. -/
theorem loopOk_mk {C : Cx} (hC : CxOk C) {S : Subs} {c : Code} (hl : Loops (LoopOk C.P S) c) {lt : LoopT} {den : Dt → T (X × Dt)} (hS : S (keyOf c) = some (loopV C.P lt den)) {N A R : Type} (fA : N → A → Dt) (fR : N → R → X × Dt) (step : N → A → T (A ⊕ R)) (k : Nat) (n : Dt → N) (a : Dt → A)
    (hden : ∀ d y, (den d).eval = some y → ∃ r, iter (step (n d)) k (a d) = some r ∧ fR (n d) r = y) (hcan : ∀ d, canonD C.P lt.head d = fA (n (canonD C.P lt.head d)) (a (canonD C.P lt.head d)))
    (hstep : ∀ n a, roundV C S lt c (fA n a) = mapT (fun r => match r with | .inl a => .inl (fA n a) | .inr r => .inr (fR n r)) (step n a)) (hx : ∀ n r, ∃ tp, lt.exits (fR n r).1 = some tp) : LoopOk C.P S c := by
  intro f hf w0 F0 s x s' hs E act hI hfs hh
  rw [hS] at hf; injection hf with hf; subst hf
  unfold loopV at hs
  split at hs
  · cases hs
  · rename_i d hd
    obtain ⟨⟨y, d'⟩, h1, h2⟩ := T.eval_bind _ _ hs
    split at h2
    · rename_i tp htp
      simp [T.eval] at h2
      obtain ⟨rfl, rfl⟩ := h2
      obtain ⟨E', g1, g2, g3, g4⟩ := cutS_sound hI hfs hh hd
      rw [← g4]
      obtain ⟨r, r1, r2⟩ := hden _ _ h1
      have e : d = fA (n (canonD C.P lt.head d)) (a (canonD C.P lt.head d)) := by rw [← hcan]; exact (cutS_canon hd).symm
      have hgo := loop_sound hC hl (hstep (n (canonD C.P lt.head d))) (hx _) r1 w0 F0 tp (by rw [r2]; exact htp)
      rw [r2, ← e] at hgo
      exact hgo E' act g1 g2 g3
    · cases h2
theorem out1_eval {R : Type} {o : Option R} {d : R} {p : R → X × Dt} {y : X × Dt} (h : (out1 o d p).eval = some y) : ∃ r, o = some r ∧ p r = y := by
  cases o with
  | none => simp [out1, T.eval] at h
  | some r => simp [out1, T.eval] at h; exact ⟨r, rfl, h⟩
theorem out2_eval {R S : Type} {o : Option (R ⊕ S)} {p : R → X × Dt} {q : S → X × Dt} {y : X × Dt} (h : (out2 o p q).eval = some y) : ∃ r, o = some r ∧ Sum.elim p q r = y := by
  cases o with
  | none => simp [out2, T.eval] at h
  | some r => cases r <;> (simp [out2, T.eval] at h; exact ⟨_, rfl, h⟩)
theorem out3_eval {R S U : Type} {o : Option (R ⊕ (S ⊕ U))} {p : R → X × Dt} {q : S → X × Dt} {t : U → X × Dt} {y : X × Dt} (h : (out3 o p q t).eval = some y) : ∃ r, o = some r ∧ Sum.elim p (Sum.elim q t) r = y := by
  cases o with
  | none => simp [out3, T.eval] at h
  | some r => rcases r with r | r | r <;> (simp [out3, T.eval] at h; exact ⟨_, rfl, h⟩)
theorem Loops.of {Z : Code → Prop} : ∀ {c : Code}, (∀ b, b ∈ loopsOf c → Z b) → Loops Z c
  | .seq a b, h => ⟨Loops.of (fun x hx => h x (List.mem_append.2 (Or.inl hx))), Loops.of (fun x hx => h x (List.mem_append.2 (Or.inr hx)))⟩
  | .cond _ a b, h => ⟨Loops.of (fun x hx => h x (List.mem_append.2 (Or.inl hx))), Loops.of (fun x hx => h x (List.mem_append.2 (Or.inr hx)))⟩
  | .block _ c, h => Loops.of (c := c) h
  | .loop c, h => h c (by simp [loopsOf])
  | .skip, _ | .region .., _ | .rangeFunc .., _ | .exit _, _ | .scope _, _ | .label _, _ | .goto _, _ | .ret, _ | .refuse _, _ => trivial
def LpL (Z : Code → Prop) (c : Code) : Nat → Prop
  | 0 => True
  | n + 1 => LpL Z c n ∧ Z (lp c n)
theorem LpL.get {Z : Code → Prop} {c : Code} : ∀ {n : Nat}, LpL Z c n → ∀ i, i < n → Z (lp c i)
  | 0, _, i, hi => by omega
  | n + 1, h, i, hi => by
    rcases Nat.lt_or_ge i n with h1 | h1
    · exact LpL.get h.1 i h1
    · have : i = n := by omega
      rw [this]; exact h.2
theorem Loops.all {Z : Code → Prop} {c : Code} {n : Nat} (h : (loopsOf c).length = n) (hz : LpL Z c n) : Loops Z c := by
  refine Loops.of (fun b hb => ?_)
  rw [List.mem_iff_getElem?] at hb
  obtain ⟨i, hi⟩ := hb
  have hlt : i < n := by
    rw [← h]
    rcases Nat.lt_or_ge i (loopsOf c).length with h | h
    · exact h
    · rw [List.getElem?_eq_none h] at hi; cases hi
  have := hz.get i hlt
  have e : lp c i = b := by simp [lp, List.getD_eq_getElem?_getD, hi]
  rw [e] at this; exact this
theorem canonL {t : Nat} {x y : V} (h : (match x with | .agg cs => (normL P (ctsOf P t) cs).map V.agg | _ => none) = some y) : V.agg (eta P t (vRow y)) = y := by
  cases x with
  | agg cs =>
    simp only [] at h
    rw [Option.map_eq_some_iff] at h
    obtain ⟨l, hl, rfl⟩ := h
    show V.agg (eta P t l) = _
    rw [(normL_eta hl).1]
  | _ => cases h
theorem canonV_norm {t : Nat} {x y : V} (h : normA P t x = some y) : canonV P t y = y := by
  unfold normA at h
  unfold canonV
  cases hu : P.underlying t with
  | none =>
    rw [hu] at h
    simp only [] at h ⊢
    unfold norm1 at h
    rw [hu] at h
    simp at h; exact h
  | some d =>
    rw [hu] at h
    cases d with
    | struct fs => exact canonL h
    | array n e => exact canonL h
    | _ =>
      simp only [] at h ⊢
      unfold norm1 at h
      rw [hu] at h
      cases x <;> simp at h <;> first
        | (subst h; rfl)
        | (obtain ⟨_, rfl⟩ := h; rfl)
        | (rw [cond_eq_ite] at h; split at h <;> first | (cases h; done) | (injection h with h; subst h; rfl))
        | (obtain ⟨⟨_, _⟩, rfl⟩ := h; rfl)
        | (obtain ⟨_, _, rfl⟩ := h; rfl)
theorem canonP_norm {t : PT} {x y : V} (h : normP P t x = some y) : canonP P t y = y := by
  cases t with
  | t n => exact canonV_norm h
  | p e =>
    obtain ⟨l, rfl, he⟩ := normC_form h
    show V.rptr (eta P e l) = _
    rw [he]
  | fn f es =>
    cases x with
    | fn g xs =>
      simp only [normP] at h
      rw [cond_eq_ite] at h
      split at h
      · rw [Option.map_eq_some_iff] at h
        obtain ⟨l, hl, rfl⟩ := h
        obtain ⟨c1, c2⟩ := normCs_get hl
        show V.fn f (canonCs P es 0 l) = _
        rw [canonCs_get c1 (fun j y hj => by rw [Nat.zero_add]; exact hj) c2]
      · cases h
    | _ => simp [normP] at h
theorem canonAs_get : ∀ {ts : List PT} {ys as : List V} {i : Nat}, ys.length = ts.length → (∀ (j : Nat) (y : V), ys[j]? = some y → as[i + j]? = some y) → (∀ (j : Nat) (t : PT) (y : V), ts[j]? = some t → ys[j]? = some y → canonP P t y = y) → canonAs P ts i as = ys
  | [], [], as, i, _, _, _ => rfl
  | t :: ts, y :: ys, as, i, hl, ha, h => by
    have h0 : vN as i = y := by
      have := ha 0 y rfl
      rw [Nat.add_zero] at this
      simp [vN, List.getD_eq_getElem?_getD, this]
    simp only [canonAs]
    rw [h0, h 0 t y rfl rfl, canonAs_get (by simpa using hl) (fun j z hj => by
      have := ha (j + 1) z (by simpa using hj)
      have e : i + 1 + j = i + (j + 1) := by omega
      rw [e]; exact this) (fun j u z hu hz => h (j + 1) u z (by simpa using hu) (by simpa using hz))]
  | [], _ :: _, _, _, h, _, _ => by simp at h
  | _ :: _, [], _, _, h, _, _ => by simp at h
/-- A function, of what is printed for it. -/
theorem fun_mk {C : Cx} (hC : CxOk C) {S : Subs} {f : Nat} {fn : Func} (hfn : C.P.funcs[f]? = some fn) (hname : (fn.name == "runtime.NumGoroutine") = false) (hbody : fn.body = some (bodyF fn)) (hl : Loops (LoopOk C.P S) (bodyF fn)) {R : Type} {pts : List PT} {g : List V → T R} {d : R} {enc : R → V}
    (hrun : ∀ as, funV C S fn (canonAs C.P pts 0 as) = mapT enc (g as)) : FunOk C.P f (mkFun pts g d enc) := by
  refine funOk_of hC hfn hname hbody hl (fun xs as r hn hr => ?_)
  obtain ⟨h1, h2⟩ := normAs_get hn
  have e : canonAs C.P pts 0 as = as := canonAs_get h1 (fun j y hj => by rw [Nat.zero_add]; exact hj) (fun j t y ht hy => by
    obtain ⟨x, hx⟩ := h2 j t y ht hy
    exact canonP_norm hx)
  have h3 := hrun as
  rw [e] at h3
  rw [h3]
  have hr' : ((g as).eval.bind fun r => (T.ret (enc r) : T V).eval) = some r := hr
  rw [Option.bind_eq_some_iff] at hr'
  obtain ⟨q, q1, q2⟩ := hr'
  simp [T.eval] at q2
  rw [T.map_eval enc (g as) q1, q2]
/-- No rounds: nothing is said. -/
theorem fun_zero {P : Program} {f : Nat} {fn : Func} (hfn : P.funcs[f]? = some fn) (hname : (fn.name == "runtime.NumGoroutine") = false) (hbody : fn.body = some (bodyF fn)) {R : Type} {pts : List PT} {g : List V → T R} {d : R} {enc : R → V}
    (hg : ∀ as, (g as).eval = none) : FunOk P f (mkFun pts g d enc) := by
  refine ⟨⟨fn, hfn, hname, by rw [hbody]; rfl⟩, fun w Fz hF hG args xs as r hsz hn hrep hr => ?_⟩
  have hr' : ((g as).eval.bind fun r => (T.ret (enc r) : T V).eval) = some r := hr
  rw [hg as] at hr'
  cases hr'
end Go.Proofs.YtolackmpfnndhaaGreatDoor.Ev
