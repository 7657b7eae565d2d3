/- Functions that are lent an array, or make one. Conditions: stated at each. -/
import Derived.Test.YtolackmpfnndhaaGreatDoorSndC
namespace Go.Proofs.YtolackmpfnndhaaGreatDoor.Ev
open Go Go.RowKit
set_option linter.unusedVariables false
set_option linter.unusedSimpArgs false
variable {P : Program}
theorem En.Le.same {E E' : En} (hw : E'.w = E.w) (hF : E'.F = E.F) (hN : E'.N = E.N) (hh : ∀ n, E'.hs.getD n none = E.hs.getD n none) : En.Le E E' :=
  ⟨fun A _ => by rw [hw], fun b o h => by rw [hF]; exact h, fun n cs h => ⟨⟨cs, (hh n).trans h⟩, by rw [hN]⟩, fun n v h => ⟨v, (hh n).trans h, Nat.le_refl _, fun _ => by rw [hN]⟩, fun n t v es h => ⟨v, es, (hh n).trans h, Nat.le_refl _, fun _ => ⟨rfl, by rw [hN]⟩⟩, fun n q h => ⟨⟨q, (hh n).trans h⟩, by rw [hN]⟩⟩
theorem Inv.same {w0 : World} {F0 : Fz} {E E' : En} (hI : Inv P w0 F0 E) (hw : E'.w = E.w) (hF : E'.F = E.F) (hN : E'.N = E.N) (hh : ∀ n, E'.hs.getD n none = E.hs.getD n none) : Inv P w0 F0 E' := by
  have hle := En.Le.same hw hF hN hh
  refine ⟨by rw [hw]; exact hI.below, fun b o h => by rw [hF]; exact hI.keep b o h, fun b o h => hI.Fnew b o (by rw [hF] at h; exact h), fun b o h => by rw [hw]; exact hI.Flt b o (by rw [hF] at h; exact h), fun n cs hn => ?_, fun n v hn => ?_, fun n t v es hn => ?_, fun n q hn => ?_, fun n m x y b hn hm h1 h2 => ?_, hI.glob⟩
  · rw [hh] at hn
    obtain ⟨b, arr, t, q1, q2, q3, q4, q5, q6⟩ := hI.box n cs hn
    exact ⟨b, arr, t, by rw [hN]; exact q1, q2, by rw [hw]; exact q3, q4, fun j x hj => (q5 j x hj).mono hle, fun o h => q6 o (by rw [hF] at h; exact h)⟩
  · rw [hh] at hn
    obtain ⟨a, len, cap, sz, q1, q2, q3⟩ := hI.tail n v hn
    refine ⟨a, len, cap, sz, by rw [hN]; exact q1, q2, fun hl => ?_⟩
    obtain ⟨A, arr, t, r1, r2, r3, r4, r5, r6⟩ := q3 hl
    exact ⟨A, arr, t, r1, r2, by rw [hw]; exact r3, r4, r5, fun o ho h => r6 o ho (by rw [hF] at h; exact h)⟩
  · rw [hh] at hn
    exact hI.arrKeep hle hn (by rw [hN]) (fun b ho => ⟨by rw [hw], fun o h => (hI.arrOwn hn ho).2.2 o (by rw [hF] at h; exact h)⟩)
  · rw [hh] at hn
    exact hI.objKeep hle hn (by rw [hN]) (fun b ho => ⟨by rw [hw], fun o h => (hI.objAt hn ho).2.2 o (by rw [hF] at h; exact h)⟩)
  · rw [hh] at hn hm
    rw [hN] at h1 h2
    exact hI.disj n m x y b hn hm h1 h2
/-- One array alone. -/
theorem Inv.only {w0 : World} {F0 : Fz} {E : En} (hI : Inv P w0 F0 E) {n t v : Nat} {es : Rows} (hg : E.hs.getD n none = some (.arr t v es)) :
    Inv P w0 F0 ⟨E.w, E.F, fun _ => E.N n, [some (.arr t v es)]⟩ ∧ ∀ x len, Rep P E x (.aref t n v none len) → Rep P ⟨E.w, E.F, fun _ => E.N n, [some (.arr t v es)]⟩ x (.aref t 0 v none len) := by
  have h1 : ∀ m x, ([some (Blk.arr t v es)] : List (Option Blk)).getD m none = some x → m = 0 ∧ x = .arr t v es := by
    intro m x hm
    cases m with
    | zero => exact ⟨rfl, by simpa using hm.symm⟩
    | succ m => simp at hm
  have hle : En.Le (E0 E.w E.F) (⟨E.w, E.F, fun _ => E.N n, [some (.arr t v es)]⟩ : En) := e0le rfl (fun _ _ h => h)
  refine ⟨⟨hI.below, hI.keep, hI.Fnew, hI.Flt, fun m cs hm => ?_, fun m v hm => ?_, fun m t1 v1 es1 hm => ?_, fun m q hm => ?_, fun m k x y b hm hk _ _ => ?_, hI.glob⟩, fun x len h => ?_⟩
  · cases (h1 m _ hm).2
  · cases (h1 m _ hm).2
  · have e := (h1 m _ hm).2
    injection e with e1 e2 e3; subst e1; subst e2; subst e3
    obtain ⟨a, cap, sz, g1, g2, g3, g4, g5, g6⟩ := hI.arr n _ _ _ hg
    refine ⟨a, cap, sz, g1, g2, g3, g4, g5, fun hc => ?_⟩
    obtain ⟨b, arr, ty, p1, p2, p3, p4, p5, p6⟩ := g6 hc
    refine ⟨b, arr, ty, p1, p2, p3, p4, p5, fun i r j x hi hj => ?_⟩
    refine ((p6 i r j x hi hj).frozen ?_).mono hle
    obtain ⟨_, he⟩ := g5 i r hi
    rw [← he] at hj
    exact etaL_frz r _ 0 j x hj
  · cases (h1 m _ hm).2
  · rw [(h1 m _ hm).1, (h1 k _ hk).1]
  · obtain ⟨a0, c0, hv, g0, g1, g2, v', es', q1, q2, q3⟩ := rep_aref_inv h
    rw [hg] at q1; injection q1 with q1; injection q1 with q1 q4 q5; subst q4; subst q5
    rw [hv]
    exact .aref a0 c0 t 0 v none len g0 g1 g2 ⟨v, es, rfl, Nat.le_refl _, fun _ => q3 rfl⟩
theorem hsM_get (n : Nat) (M : FunM) (es : Rows) (as : List V) (k : Nat) : (startM n M.el M.lent es as).hs.getD k none = (hsM M es).getD k none := by
  unfold startM hsM
  cases M.lent with
  | true =>
    simp only [cond_true]
    cases k with
    | zero => rfl
    | succ k =>
      show (List.replicate (n - 1) none).getD k none = _
      rw [getD_replicate]; rfl
  | false =>
    simp only [cond_false]
    show (List.replicate n none).getD k none = _
    rw [getD_replicate]; simp
/-- Such a function: what its run says is what its call does. -/
theorem callsM {C : Cx} (hC : CxOk C) {S : Subs} {f : Nat} {fn : Func} (hfn : C.P.funcs[f]? = some fn) {c : Code} (hbody : fn.body = some c) (hl : Loops (LoopOk C.P S) c) {M : FunM} {w : World} {Fz : Nat → Nat → Prop} {Mm : Nat → Prop} {l : Loc} {es : Rows} (hI : Inv C.P w ⟨Fz, Mm⟩ ⟨w, Fz, fun _ => l, hsM M es⟩)
    {args : List Value} {v0 : Value} {as : List V} {r : Rows × Int} (hsz : args.length = as.length) (hrep0 : M.lent = true → Rep C.P ⟨w, Fz, fun _ => l, hsM M es⟩ v0 (.aref M.el 0 0 none (rLen es))) (hrep : ∀ (i : Nat) (x : V), as[i]? = some x → Rep C.P (E0 w Fz) (args.getD i undef) x)
    (hrun : (funMV C S fn M.el M.lent es as).eval = some r) :
    Calls C.P f ((bif M.lent then v0 :: args else args).toArray) w fun e w' => ∃ v F' l' v', e = .returned v ∧ Inv C.P w ⟨Fz, Mm⟩ ⟨w', F', fun _ => l', [some (.arr M.el v' r.1)]⟩ ∧ Rep C.P ⟨w', F', fun _ => l', [some (.arr M.el v' r.1)]⟩ v (.aref M.el 0 v' none r.2) := by
  unfold funMV at hrun
  rw [hbody] at hrun
  simp only [] at hrun
  obtain ⟨⟨x, s'⟩, h1, h2⟩ := T.eval_bind _ _ hrun
  have hI' : Inv C.P w ⟨Fz, Mm⟩ ⟨w, Fz, fun _ => l, (startM fn.ntmps M.el M.lent es as).hs⟩ := hI.same rfl rfl rfl (fun k => hsM_get _ _ _ _ _)
  have hle0 : En.Le (⟨w, Fz, fun _ => l, hsM M es⟩ : En) ⟨w, Fz, fun _ => l, (startM fn.ntmps M.el M.lent es as).hs⟩ := En.Le.same rfl rfl rfl (fun k => hsM_get _ _ _ _ _)
  have hle1 : En.Le (E0 w Fz) (⟨w, Fz, fun _ => l, (startM fn.ntmps M.el M.lent es as).hs⟩ : En) := e0le rfl (fun _ _ h => h)
  have hfs : FS C.P ⟨w, Fz, fun _ => l, (startM fn.ntmps M.el M.lent es as).hs⟩ { tmps := (bif M.lent then v0 :: args else args).toArray ++ Array.replicate (fn.ntmps - (bif M.lent then v0 :: args else args).toArray.size) undef, defers := [] } (startM fn.ntmps M.el M.lent es as).ts := by
    have key : ∀ (vs : List Value) (ys : List V), vs.length = ys.length → (∀ (i : Nat) (y : V), ys[i]? = some y → Rep C.P ⟨w, Fz, fun _ => l, (startM fn.ntmps M.el M.lent es as).hs⟩ (vs.getD i undef) y) →
        FS C.P ⟨w, Fz, fun _ => l, (startM fn.ntmps M.el M.lent es as).hs⟩ { tmps := vs.toArray ++ Array.replicate (fn.ntmps - vs.toArray.size) undef, defers := [] } (ys ++ List.replicate (fn.ntmps - ys.length) .dead) := by
      intro vs ys hl h
      refine ⟨rfl, by simp [hl], fun t => ?_⟩
      show Rep C.P _ ((vs.toArray ++ Array.replicate (fn.ntmps - vs.toArray.size) undef).getD t undef) (getV (ys ++ List.replicate (fn.ntmps - ys.length) .dead) t)
      rw [getV_start]
      cases ht : ys[t]? with
      | none => exact .dead _
      | some y =>
        have hlt : t < vs.length := by
          rw [hl]
          rcases Nat.lt_or_ge t ys.length with h | h
          · exact h
          · rw [List.getElem?_eq_none h] at ht; cases ht
        have e : (vs.toArray ++ Array.replicate (fn.ntmps - vs.toArray.size) undef).getD t undef = vs.getD t undef := by
          rw [Array.getD_eq_getD_getElem?, Array.getElem?_append, if_pos (by simpa using hlt)]
          simp [List.getD_eq_getElem?_getD]
        rw [e]
        exact h t y ht
    unfold startM at key ⊢
    cases hlent : M.lent with
    | false =>
      rw [hlent] at key
      exact key args as hsz (fun i y hi => by
        have := (hrep i y hi).mono hle1
        unfold startM at this
        rw [hlent] at this
        exact this)
    | true =>
      rw [hlent] at key
      refine key (v0 :: args) (.aref M.el 0 0 none (rLen es) :: as) (by simp [hsz]) (fun i y hi => ?_)
      cases i with
      | zero =>
        simp at hi; subst hi
        have := (hrep0 hlent).mono hle0
        unfold startM at this
        rw [hlent] at this
        exact this
      | succ i =>
        have := (hrep i y (by simpa using hi)).mono hle1
        unfold startM at this
        rw [hlent] at this
        exact this
  have hgo := codeV_sound hC hl h1 (w0 := w) (F0 := ⟨Fz, Mm⟩) _ _ hI' hfs rfl
  refine calls_of_wp hfn hbody (wp_mono hgo ?_)
  rintro e a' w' ⟨E1, rfl, rfl, k1, k2, k3⟩
  obtain ⟨E', hw, k1, k2, k3⟩ := frzL_sound (id := endId) (l := C.fz) k1 k2 k3
  rw [← hw]
  have main : resM C.P M.el (frzL C.P endId C.fz s') fn = some r → a'.defers = [] ∧ ∃ v, (results fn a'.tmps).run C.P E'.w = .ok v E'.w ∧
      ∃ v_1 F' l' v', Ending.returned v = .returned v_1 ∧ Inv C.P w ⟨Fz, Mm⟩ ⟨E'.w, F', fun _ => l', [some (.arr M.el v' r.1)]⟩ ∧ Rep C.P ⟨E'.w, F', fun _ => l', [some (.arr M.el v' r.1)]⟩ v_1 (.aref M.el 0 v' none r.2) := by
    intro h
    refine ⟨k2.defers, ?_⟩
    unfold resM at h
    split at h
    · rename_i el' n ver len hx
      split at h
      · rename_i p hga
        rw [cond_eq_ite] at h
        split at h
        · rename_i hb
          rw [Bool.and_eq_true, Bool.and_eq_true] at hb
          have b1 := Nat.eq_of_beq_eq_true hb.1.1
          have b2 := Nat.eq_of_beq_eq_true hb.1.2
          have b3 := Nat.eq_of_beq_eq_true hb.2
          obtain ⟨el2, v2, es2⟩ := p
          simp only [] at b1 b2 b3 h
          subst b2; subst b3
          injection h with h
          subst h
          rw [← k3] at hga
          have hgd := getA_arr hga
          obtain ⟨vs, r1, r2, r3⟩ := resV_run k1 k2 k3 hx
          match vs, r2 with
          | [v], _ =>
            obtain ⟨v1, hv1, hrv⟩ := r3 0 _ rfl
            simp at hv1; subst hv1
            rw [b1] at hrv
            obtain ⟨o1, o2⟩ := k1.only hgd
            exact ⟨_, results_run r1, _, _, _, _, rfl, o1, o2 _ _ hrv⟩
        · cases h
      · cases h
    · -- nil
      rename_i hx
      cases hsz0 : sizeT C.P M.el with
      | none => rw [hsz0] at h; cases h
      | some sz =>
        rw [hsz0] at h
        simp only [] at h
        rw [cond_eq_ite] at h
        split at h
        case isFalse => cases h
        rename_i hp
        have hp : 0 < sz := by simpa [Nat.blt_eq] using hp
        injection h with h; subst h
        obtain ⟨vs, r1, r2, r3⟩ := resV_run k1 k2 k3 hx
        match vs, r2 with
        | [v], _ =>
          obtain ⟨v1, hv1, hrv⟩ := r3 0 _ rfl
          simp at hv1; subst hv1
          have hv := rep_nils_inv hrv
          subst hv
          have h1 : ∀ m x, ([some (Blk.arr M.el 0 [])] : List (Option Blk)).getD m none = some x → m = 0 ∧ x = .arr M.el 0 [] := by
            intro m x hm
            cases m with
            | zero => exact ⟨rfl, by simpa using hm.symm⟩
            | succ m => simp at hm
          refine ⟨_, results_run r1, _, E'.F, .arr none 0 0 sz, 0, rfl, ⟨k1.below, k1.keep, k1.Fnew, k1.Flt, fun m cs hm => ?_, fun m v hm => ?_, fun m t1 v1 es1 hm => ?_, fun m q hm => ?_, fun m k x y b hm hk _ _ => ?_, k1.glob⟩, ?_⟩
          · cases (h1 m _ hm).2
          · cases (h1 m _ hm).2
          · have e := (h1 m _ hm).2
            injection e with e1 e2 e3; subst e1; subst e2; subst e3
            exact ⟨none, 0, sz, rfl, hsz0, hp, Nat.le_refl _, fun i r hi => by simp at hi, fun h => by cases h⟩
          · cases (h1 m _ hm).2
          · rw [(h1 m _ hm).1, (h1 k _ hk).1]
          · exact .aref none 0 M.el 0 0 none 0 (Int.le_refl _) (Nat.le_refl _) (fun h => by cases h) ⟨0, [], rfl, Nat.le_refl _, fun _ => ⟨none, 0, sz, rfl, hsz0, Int.le_refl _, Int.le_refl _, fun _ => ⟨rfl, rfl⟩, fun h => by cases h⟩⟩
    · cases h
  have fin : (ofOpt (resM C.P M.el (frzL C.P endId C.fz s') fn)).eval = some r → resM C.P M.el (frzL C.P endId C.fz s') fn = some r := by
    intro h
    cases hq : resM C.P M.el (frzL C.P endId C.fz s') fn with
    | none => rw [hq] at h; cases h
    | some y => rw [hq] at h; simp [ofOpt, T.eval] at h; rw [h]
  cases x with
  | normal => exact main (fin h2)
  | ret => exact main (fin h2)
  | exit id => cases h2
theorem funOkM_of {C : Cx} (hC : CxOk C) {S : Subs} {f : Nat} {fn : Func} (hfn : C.P.funcs[f]? = some fn) (hname : (fn.name == "runtime.NumGoroutine") = false) {c : Code} (hbody : fn.body = some c) (hl : Loops (LoopOk C.P S) c) {M : FunM} (hu : M.unit = false)
    (hden : ∀ es xs as r, (M.lent = false → es = []) → normAs C.P M.pts xs = some as → (M.den es as).eval = some r → (funMV C S fn M.el M.lent es as).eval = some r) : FunOkM C.P f M := by
  refine ⟨⟨fn, hfn, hname, by rw [hbody]; rfl⟩, fun w Fz Mm l es hes hI args v0 xs as r hsz hn hrep0 hrep hr => ?_⟩
  refine (callsM hC hfn hbody hl hI hsz hrep0 hrep (hden es xs as r hes hn hr)).mono fun e w' he => ?_
  obtain ⟨v, F', l', v', h1, h2, h3⟩ := he
  exact ⟨v, F', l', v', h1, h2, by unfold RetM; rw [hu]; exact h3⟩
theorem fun_mkM {C : Cx} (hC : CxOk C) {S : Subs} {f : Nat} {fn : Func} (hfn : C.P.funcs[f]? = some fn) (hname : (fn.name == "runtime.NumGoroutine") = false) (hbody : fn.body = some (bodyF fn)) (hl : Loops (LoopOk C.P S) (bodyF fn)) {el : Nat} {lent : Bool} {pts : List PT} {g : Rows → List V → T (Rows × Int)}
    (hrun : ∀ es as, funMV C S fn el lent es (canonAs C.P pts 0 as) = g es as) : FunOkM C.P f (mkFunM el lent pts g) := by
  refine funOkM_of hC hfn hname hbody hl rfl (fun es xs as r _ hn hr => ?_)
  obtain ⟨h1, h2⟩ := normAs_get hn
  have e : canonAs C.P pts 0 as = as := canonAs_get h1 (fun j y hj => by rw [Nat.zero_add]; exact hj) (fun j t y ht hy => by
    obtain ⟨x, hx⟩ := h2 j t y ht hy
    exact canonP_norm hx)
  have h3 := hrun es as
  rw [e] at h3
  show (funMV C S fn el lent es as).eval = _
  rw [h3]
  have hr' : ((g es as).eval.bind fun r => (T.ret r : T (Rows × Int)).eval) = some r := hr
  rw [Option.bind_eq_some_iff] at hr'
  obtain ⟨q, q1, q2⟩ := hr'
  simp [T.eval] at q2
  rw [q1, q2]
theorem fun_zeroM {P : Program} {f : Nat} {fn : Func} (hfn : P.funcs[f]? = some fn) (hname : (fn.name == "runtime.NumGoroutine") = false) (hbody : fn.body = some (bodyF fn)) {el : Nat} {lent : Bool} {pts : List PT} {g : Rows → List V → T (Rows × Int)}
    (hg : ∀ es as, (g es as).eval = none) : FunOkM P f (mkFunM el lent pts g) := by
  refine ⟨⟨fn, hfn, hname, by rw [hbody]; rfl⟩, fun w Fz Mm l es _ _ args v0 xs as r _ _ _ _ hr => ?_⟩
  have hr' : ((g es as).eval.bind fun r => (T.ret r : T (Rows × Int)).eval) = some r := hr
  rw [hg es as] at hr'
  cases hr'
/-- A made array, as rows that stay. -/
def plainM (M : FunM) : Fun := ⟨M.pts, fun as => (M.den [] as).bind fun r => .ret (.slice M.el (rTake r.1 r.2) .open)⟩
theorem FunOkM.plain {f : Nat} {M : FunM} (h : FunOkM P f M) (hl : M.lent = false) (hu : M.unit = false) : FunOk P f (plainM M) := by
  refine ⟨h.1, fun w Fz hF hG args xs as r hsz hn hrep hr => ?_⟩
  obtain ⟨q, q1, q2⟩ := T.eval_bind _ _ hr
  simp [T.eval] at q2
  have hs : hsM M [] = [] := by unfold hsM; rw [hl]; rfl
  have hcalls := h.2 w Fz (fun _ => False) (.blk 0) [] (fun _ => rfl) (by rw [hs]; exact Inv.start0 hF hG) args.toList undef xs as q (by simpa using hsz) hn (fun e => by rw [hl] at e; cases e) (fun i x hi => by
    have := hrep i x hi
    have e : args.toList.getD i undef = args.getD i undef := by simp [List.getD_eq_getElem?_getD, Array.getD_eq_getD_getElem?]
    rw [e]; exact this) q1
  rw [hl] at hcalls
  have e : (bif false then undef :: args.toList else args.toList).toArray = args := by simp
  rw [e] at hcalls
  refine hcalls.mono fun e w' he => ?_
  obtain ⟨v, F', l', v', rfl, k1, k2⟩ := he
  unfold RetM at k2
  rw [hu] at k2
  have hb : ∀ b, l'.own (.arr M.el v' q.1) = some b → b < w'.heap.size ∧ w.heap.size ≤ b := by
    intro b hb
    obtain ⟨h1, h2, _⟩ := k1.arrOwn (n := 0) rfl hb
    exact ⟨h1, h2.elim id (fun e => e.elim)⟩
  refine ⟨v, fun b o => F' b o ∨ l'.own (.arr M.el v' q.1) = some b, rfl, k1.below.to (fun _ e => e), fun b o h => Or.inl (k1.keep b o h), fun b o h => ?_, fun b o h => ?_, ?_⟩
  · rcases h with h | h
    · rcases k1.Fnew b o h with h | h | h
      · exact Or.inl h
      · exact Or.inr h
      · exact h.elim
    · exact Or.inr (hb b h).2
  · rcases h with h | h
    · exact k1.Flt b o h
    · exact (hb b h).1
  · rw [← q2]
    exact aref_part (m := 0) (lo := none) k1 rfl k2 rfl (fun b o h => Or.inl h) (fun b h o => Or.inr h)
theorem clone_okM {C : Cx} (hC : CxOk C) {S : Subs} {f : Nat} {fn : Func} (hfn : C.P.funcs[f]? = some fn) (hname : (fn.name == "runtime.NumGoroutine") = false) (hbody : fn.body = some (bodyF fn)) (hl : Loops (LoopOk C.P S) (bodyF fn)) {t el by_ : Nat} (hu : C.P.underlying t = some (.slice el))
    (hrun : ∀ es b, funMV C S fn el false [] [.slice el es (.nilq b)] = .test b (.ret ([], 0)) (.test (rOk by_ 0 (rLen es)) (.ret (es, rLen es)) .fail)) : FunOkM C.P f (cloneM t el by_) := by
  refine ⟨⟨fn, hfn, hname, by rw [hbody]; rfl⟩, fun w Fz Mm l es0 hes hI args v0 xs as r hsz hn hrep0 hrep hr => ?_⟩
  obtain rfl : es0 = [] := hes rfl
  -- the argument
  obtain ⟨h1, h2⟩ := normAs_get hn
  match as, h1 with
  | [y], _ =>
    obtain ⟨x, hx⟩ := h2 0 _ y rfl rfl
    have hy : ∃ es, y = .slice el es .open := by
      have hx' : normA C.P t x = some y := hx
      unfold normA at hx'
      rw [hu] at hx'
      simp only [] at hx'
      unfold norm1 at hx'
      rw [hu] at hx'
      cases x <;> simp at hx'
      · obtain ⟨_, _, rfl⟩ := hx'; exact ⟨_, rfl⟩
      · rw [cond_eq_ite] at hx'
        split at hx'
        · rename_i hb
          have e := Nat.eq_of_beq_eq_true hb
          subst e
          injection hx' with hx'; exact ⟨_, hx'.symm⟩
        · cases hx'
    obtain ⟨es, rfl⟩ := hy
    have hr' : ((T.test (rOk by_ 0 (rLen es)) (.ret (es, rLen es)) .fail : T (Rows × Int)).eval.bind fun r => (T.ret r : T (Rows × Int)).eval) = some r := hr
    rw [Option.bind_eq_some_iff] at hr'
    obtain ⟨q, q1, q2⟩ := hr'
    obtain ⟨q3, q4⟩ := T.test_eval q1
    simp [T.eval] at q2 q4
    subst q2; subst q4
    have hrep1 := hrep 0 _ rfl
    cases hq : args.getD 0 undef with
    | slice a n cap =>
      rw [hq] at hrep1
      cases hrep1 with
      | slice t0 es k a cap sz vs hcap hnone hsz' hrow hc hx hk =>
        have hrep2 : ∀ (i : Nat) (x : V), ([V.slice el es (.nilq a.isNone)] : List V)[i]? = some x → Rep C.P (E0 w Fz) (args.getD i undef) x := by
          intro i x hi
          cases i with
          | zero =>
            simp at hi; subst hi
            rw [hq]
            exact .slice el es _ a cap sz vs hcap hnone hsz' hrow hc hx rfl
          | succ i => simp at hi
        have hev : (funMV C S fn el false [] [.slice el es (.nilq a.isNone)]).eval = some (es, rLen es) := by
          rw [hrun]
          cases a with
          | none =>
            have hc0 := hnone rfl
            have hn0 : es = [] := List.eq_nil_of_length_eq_zero (by omega)
            subst hn0
            rfl
          | some A =>
            show (T.test (rOk by_ 0 (rLen es)) (.ret (es, rLen es)) .fail : T (Rows × Int)).eval = _
            rw [q3]; rfl
        exact callsM (M := cloneM t el by_) hC hfn hbody hl hI (as := [.slice el es (.nilq a.isNone)]) (by simpa using hsz) (fun e => by cases e) hrep2 hev
    | _ => rw [hq] at hrep1; cases hrep1
theorem clone_ok {f : Nat} {t el by_ : Nat} (h : FunOkM P f (cloneM t el by_)) : FunOk P f (cloneF t el by_) := by
  have h1 := h.plain rfl rfl
  refine ⟨h1.1, fun w Fz hF hG args xs as r hsz hn hrep hr => h1.2 w Fz hF hG args xs as r hsz hn hrep ?_⟩
  have hr' : ((T.test (rOk by_ 0 (rLen (vRows (vN as 0)))) (.ret (vRows (vN as 0))) .fail : T Rows).eval.bind fun r => (T.ret (V.slice el r .open) : T V).eval) = some r := hr
  rw [Option.bind_eq_some_iff] at hr'
  obtain ⟨q, q1, q2⟩ := hr'
  obtain ⟨q3, q4⟩ := T.test_eval q1
  simp [T.eval] at q2 q4
  subst q2; subst q4
  show ((T.test (rOk by_ 0 (rLen (vRows (vN as 0)))) (.ret (vRows (vN as 0), rLen (vRows (vN as 0)))) .fail : T (Rows × Int)).eval.bind fun r => (T.ret (V.slice el (rTake r.1 r.2) .open) : T V).eval) = _
  rw [q3]
  have e : rTake (vRows (vN as 0)) (rLen (vRows (vN as 0))) = vRows (vN as 0) := by unfold rTake rLen; simp
  simp [T.eval, e]
end Go.Proofs.YtolackmpfnndhaaGreatDoor.Ev
