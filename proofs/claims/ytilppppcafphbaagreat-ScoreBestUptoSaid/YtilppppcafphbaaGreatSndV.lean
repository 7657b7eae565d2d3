/- The function's call: the map filled, walked over, what was gathered sorted. Conditions: stated at each. -/
import Derived.Test.YtilppppcafphbaaGreatSndU
namespace Go.Proofs.YtilppppcafphbaaGreat.Ev
open Go Go.RowKit
set_option linter.unusedVariables false
set_option linter.unusedSimpArgs false
variable {P : Program}
/-- A region of two operations. -/
theorem wp_two {id : Nat} {o1 o2 : Oper} (g1 : o1.guard = none) (g2 : o2.guard = none) {Q : Exit → Act → World → Prop} {a : Act} {w : World} (h : o1.wp P a w (fun a' w' => o2.wp P a' w' (fun a2 w2 => Q .normal a2 w2) Q) Q) : (Code.region id #[o1, o2] false).wp P Q a w := by
  refine wp_region ?_
  have e : List.range (#[o1, o2] : Array Oper).size = [0, 1] := rfl
  rw [e, wpOps_cons]
  unfold wpOp
  have h1 : (#[o1, o2] : Array Oper)[0]? = some o1 := rfl
  rw [h1]
  simp only []
  rw [if_pos (by simp [Region.wanted, g1])]
  refine Or.inl (Oper.wp_mono (fun a' w' h' => ?_) h)
  rw [wpOps_cons]
  unfold wpOp
  have h2 : (#[o1, o2] : Array Oper)[1]? = some o2 := rfl
  rw [h2]
  simp only []
  rw [if_pos (by simp [Region.wanted, g2])]
  exact Or.inl h'
theorem FS.put_dead {E : En} {a : Act} {ts : List V} (h : FS P E a ts) {d : Nat} (hd : getV ts d = .dead) (v : Value) : FS P E (a.put (some d) v) ts := by
  refine ⟨h.defers, by simp [Act.put, h.size], fun t => ?_⟩
  by_cases ht : t = d
  · subst ht; rw [hd]; exact .dead _
  · have : (a.put (some d) v).tmps.getD t undef = a.tmps.getD t undef := by
      simp [Act.put, Array.getD_eq_getD_getElem?, Array.getElem?_setIfInBounds, Ne.symm ht]
    rw [this]; exact h.vals t
theorem put_get {a : Act} {d : Nat} (hd : d < a.tmps.size) (v : Value) : (a.put (some d) v).eval (.tmp d) = v := by
  simp [Act.put, Act.eval, Array.getD_eq_getD_getElem?, hd]
theorem stA_dead (tm : Nat) (r : Rows) (seen : List Nat) (x : V) (b : Option Blk) (t : Nat) (h1 : t ≠ 9) (h2 : t ≠ 18) (h3 : t ≠ 103) : getV (stA tm r (some seen) x b).ts t = .dead := by
  simp only [stA, getV_set, List.length_set, List.length_replicate, getV_rep]
  simp [h1, h2, h3]
/-- The part of a state that stays known. -/
theorem wk_of {x y : X} {s s' : St} (h : wkX (x, s) = (y, s')) (hl : s'.hs ≠ []) : x = y ∧ wkS s = s' ∧ s.ts.length = 118 ∧ s.hs = s'.hs := by
  injection h with h1 h2
  have h2 : wkS s = s' := h2
  have hb : Nat.beq s.ts.length 118 = true := by
    cases hb : Nat.beq s.ts.length 118 with
    | true => rfl
    | false =>
      exfalso; apply hl
      rw [← h2]; unfold wkS; rw [hb]; rfl
  refine ⟨h1, h2, Nat.eq_of_beq_eq_true hb, ?_⟩
  rw [← h2]; unfold wkS; rw [hb]; rfl
theorem stA_ne (tm : Nat) (r : Rows) (it : Option (List Nat)) (x : V) (b : Option Blk) : (stA tm r it x b).hs ≠ [] := by
  intro e
  have := (stA_len tm r it x b).2
  rw [e] at this; cases this
/-- What has been gathered: the slice, its block. -/
def Gath (te : Nat) (out : Rows) (x : V) (b : Option Blk) : Prop := (x = .nils ∧ b = none ∧ out = []) ∨ (x = .aref te 114 0 none (rLen out) ∧ b = some (.arr te 0 out))
theorem stA_get {tm : Nat} {r : Rows} {seen : List Nat} {x : V} {b : Option Blk} {n : Nat} {y : Blk} (h : (stA tm r (some seen) x b).hs.getD n none = some y) : (n = 23 ∧ y = .obj (.mp tm r)) ∨ (n = 103 ∧ y = .obj (.it 23 (rLen r) seen)) ∨ (n = 114 ∧ b = some y) := by
  simp only [stA, getD_set_blk, List.length_set, List.length_replicate, getD_replicate] at h
  by_cases h1 : n = 114
  · simp [h1] at h; exact Or.inr (Or.inr ⟨h1, h⟩)
  · by_cases h2 : n = 103
    · simp [h2] at h; exact Or.inr (Or.inl ⟨h2, h.symm⟩)
    · by_cases h3 : n = 23
      · simp [h3] at h; exact Or.inl ⟨h3, h.symm⟩
      · simp [h1, h2, h3] at h
/-- An array's edition counted from 0 again. -/
theorem ed_zero {w0 : World} {F0 : Fz} {E : En} (hI : Inv P w0 F0 E) {a : Act} {tm te v : Nat} {r out : Rows} {seen : List Nat} {len : Int} (hf : FS P E a (stA tm r (some seen) (.aref te 114 v none len) (some (.arr te v out))).ts) (hh : E.hs = (stA tm r (some seen) (.aref te 114 v none len) (some (.arr te v out))).hs) :
    let E' : En := ⟨E.w, E.F, E.N, (stA tm r (some seen) (.aref te 114 0 none len) (some (.arr te 0 out))).hs⟩
    Inv P w0 F0 E' ∧ FS P E' a (stA tm r (some seen) (.aref te 114 0 none len) (some (.arr te 0 out))).ts := by
  intro E'
  have hle : En.Le (E0 E.w E.F) E' := e0le rfl (fun _ _ h => h)
  have k23 : E.hs.getD 23 none = some (.obj (.mp tm r)) := by rw [hh]; rfl
  have k103 : E.hs.getD 103 none = some (.obj (.it 23 (rLen r) seen)) := by rw [hh]; rfl
  have k114 : E.hs.getD 114 none = some (.arr te v out) := by rw [hh]; rfl
  refine ⟨⟨hI.below, hI.keep, hI.Fnew, hI.Flt, fun n cs hn => ?_, fun n v1 hn => ?_, fun n t v1 es hn => ?_, fun n q hn => ?_, fun n m x y b hn hm h1 h2 => ?_⟩, hf.defers, hf.size.trans (by rw [(stA_len _ _ _ _ _).1, (stA_len _ _ _ _ _).1]), fun t => ?_⟩
  · rcases stA_get (x := .aref te 114 0 none len) hn with ⟨_, e⟩ | ⟨_, e⟩ | ⟨_, e⟩
    · cases e
    · cases e
    · injection e with e; cases e
  · rcases stA_get (x := .aref te 114 0 none len) hn with ⟨_, e⟩ | ⟨_, e⟩ | ⟨_, e⟩
    · cases e
    · cases e
    · injection e with e; cases e
  · rcases stA_get (x := .aref te 114 0 none len) hn with ⟨_, e⟩ | ⟨_, e⟩ | ⟨rfl, e⟩
    · cases e
    · cases e
    · injection e with e; injection e with e1 e2 e3; subst e1; subst e2; subst e3
      obtain ⟨a0, cap, sz, g1, g2, g3, g4, g5, g6⟩ := hI.arr 114 te v out k114
      refine ⟨a0, cap, sz, g1, g2, g3, g4, g5, fun hc => ?_⟩
      obtain ⟨b, arr, ty, p1, p2, p3, p4, p5, p6⟩ := g6 hc
      refine ⟨b, arr, ty, p1, p2, p3, p4, p5, fun i r j x hi hj => ?_⟩
      have hf : Frz x := by
        obtain ⟨_, he⟩ := g5 i r hi
        rw [← he] at hj
        exact etaL_frz r _ 0 j x hj
      exact ((p6 i r j x hi hj).frozen hf).mono hle
  · rcases stA_get (x := .aref te 114 0 none len) hn with ⟨rfl, e⟩ | ⟨rfl, e⟩ | ⟨_, e⟩
    · injection e with e; subst e
      obtain ⟨b, o, p1, p2, p3, p4, p5⟩ := hI.obj 23 _ k23
      exact ⟨b, o, p1, p2, p3, p4.frozen.mono hle, p5⟩
    · injection e with e; subst e
      obtain ⟨b, o, p1, p2, p3, ⟨mb, q1, _, q3⟩, p5⟩ := hI.obj 103 _ k103
      exact ⟨b, o, p1, p2, p3, ⟨mb, q1, ⟨_, rfl⟩, q3⟩, p5⟩
    · injection e with e; cases e
  · have old : ∀ k z, E'.hs.getD k none = some z → ∃ z', E.hs.getD k none = some z' ∧ ∀ q, (E.N k).own z = some q → (E.N k).own z' = some q := by
      intro k z hz
      rcases stA_get (x := .aref te 114 0 none len) hz with ⟨rfl, e⟩ | ⟨rfl, e⟩ | ⟨rfl, e⟩
      · exact ⟨_, k23, fun q hq => by rw [e] at hq; exact hq⟩
      · exact ⟨_, k103, fun q hq => by rw [e] at hq; exact hq⟩
      · injection e with e
        refine ⟨_, k114, fun q hq => ?_⟩
        rw [← e] at hq
        unfold Loc.own at hq ⊢
        cases hN : E.N 114 with
        | blk b => rw [hN] at hq; cases hq
        | tail a len cap sz => rw [hN] at hq; cases hq
        | arr a len cap sz => rw [hN] at hq; cases a <;> exact hq
    obtain ⟨x', x1, x2⟩ := old n x hn
    obtain ⟨y', y1, y2⟩ := old m y hm
    exact hI.disj n m x' y' b x1 y1 (x2 b h1) (y2 b h2)
  · have hv := hf.vals t
    by_cases h1 : t = 9
    · subst h1
      have hv : Rep P E (a.tmps.getD 9 undef) (.mref 23) := hv
      show Rep P E' (a.tmps.getD 9 undef) (.mref 23)
      obtain ⟨b, e, hb, _⟩ := rep_mref_inv hv
      rw [e]; exact .mref 23 b hb ⟨_, rfl⟩
    · by_cases h2 : t = 103
      · subst h2
        have hv : Rep P E (a.tmps.getD 103 undef) (.it 103 23) := hv
        show Rep P E' (a.tmps.getD 103 undef) (.it 103 23)
        obtain ⟨b, e, hb, _⟩ := rep_it_inv hv
        rw [e]; exact .it 103 23 b hb ⟨_, rfl⟩
      · by_cases h3 : t = 18
        · subst h3
          have hv : Rep P E (a.tmps.getD 18 undef) (.aref te 114 v none len) := hv
          show Rep P E' (a.tmps.getD 18 undef) (.aref te 114 0 none len)
          obtain ⟨a0, c0, e, g0, g1, g2, v', es', q1, q2, q3⟩ := rep_aref_inv hv
          rw [k114] at q1; injection q1 with q1; injection q1 with _ q4 q5; subst q4; subst q5
          rw [e]
          exact .aref a0 c0 te 114 0 none len g0 g1 g2 ⟨0, out, rfl, Nat.le_refl _, fun _ => q3 rfl⟩
        · rw [stA_dead _ _ _ _ _ t h1 h3 h2]; exact .dead _
theorem nodup_len {n : Nat} : ∀ {l : List Nat}, l.Nodup → (∀ j, j ∈ l → j < n) → l.length ≤ n := by
  induction n with
  | zero =>
    intro l hn hl
    cases l with
    | nil => exact Nat.le_refl _
    | cons a l => exact absurd (hl a (List.mem_cons_self ..)) (Nat.not_lt_zero _)
  | succ n ih =>
    intro l hn hl
    by_cases h : n ∈ l
    · have h1 := ih (l := l.erase n) (hn.erase n) (fun j hj => by
        have h2 := hl j (List.mem_of_mem_erase hj)
        have h3 : j ≠ n := ((List.Nodup.mem_erase_iff hn).1 hj).1
        omega)
      rw [List.length_erase_of_mem h] at h1
      omega
    · have h1 := ih hn (fun j hj => by
        have h2 := hl j hj
        have h3 : j ≠ n := fun e => h (e ▸ hj)
        omega)
      omega
theorem nodup_all {n : Nat} {l : List Nat} (hn : l.Nodup) (hl : ∀ j, j ∈ l → j < n) (hall : ∀ j, j < n → j ∈ l) : l.Perm (List.range n) :=
  (List.perm_ext_iff_of_nodup hn List.nodup_range).2 (fun j => ⟨fun h => List.mem_range.2 (hl j h), fun h => hall j (List.mem_range.1 h)⟩)
theorem lastI_app (l : List Nat) (j : Nat) : lastI (l ++ [j]) = (j : Int) := by
  unfold lastI
  rw [List.getLast?_concat]
theorem rTake_all (es : Rows) : rTake es (rLen es) = es := by simp [rTake, rLen]
theorem rowsMap (rows : Rows) : (List.range rows.length).map (fun (j : Nat) => rwOf (rAt rows (j : Int))) = rows.map rwOf := by
  refine List.ext_getElem? fun i => ?_
  rw [List.getElem?_map, List.getElem?_map]
  by_cases h : i < rows.length
  · rw [List.getElem?_range h, List.getElem?_eq_getElem h]
    simp [rAt, h]
  · rw [List.getElem?_eq_none (by simpa using h), List.getElem?_eq_none (by simpa using h)]; rfl
set_option maxHeartbeats 1000000 in
theorem counts_ok {C : Cx} (hC : CxOk C) {S : Subs} {f : Nat} {fn : Func} {pts : List PT} {g : List V → T Rows} {tm te by_ fs cl : Nat} (H : CntOk C S fn pts g tm te by_ fs cl)
    (hfn : C.P.funcs[f]? = some fn) (hname : (fn.name == "runtime.NumGoroutine") = false) (hbody : fn.body = some (bodyF fn)) (hT : CntT C.P te) {ev_ : Nat} (hm : mapE C.P tm = some ev_) (hE : ∀ cs, eta C.P ev_ cs = [.int .i64 (rInt cs 0)]) (hby : 0 < by_)
    (hfs : ∃ fn2, C.P.funcs[fs]? = some fn2 ∧ (fn2.name == "runtime.NumGoroutine") = false ∧ fn2.body.isSome = true)
    (hsort : ∀ blk off cap (d : Array (ByteArray × Int)) w, Sort.HoldsK cntEnc 2 w blk off d → blk < w.heap.size → d.size < 4611686018427387904 → Calls C.P fs #[.slice (some ⟨blk, off, none⟩) d.size cap, .func (.func cl) #[] #[]] w fun e w' => e = .returned (.tuple #[]) ∧ ∃ d' m os, Sort.PermIn 0 d.size d d' ∧ Sort.SortedIn (fun x y => sLt x.1 y.1) 0 d.size d' ∧ w' = Go.Proofs.sortWorldK cntEnc 2 w blk off m d' os)
    (hnone : ∀ p cap w, Calls C.P fs #[.slice p 0 cap, .func (.func cl) #[] #[]] w fun e w' => e = .returned (.tuple #[]) ∧ w' = w) :
    FunOk C.P f (mkFun pts (fun l => .bnd (g l).eval default fun r => .test (bAnd (rOk by_ 0 (rLen r)) (mOk r)) (.ret (sortC r)) .fail) default (fun r => .slice te r .open)) := by
  refine ⟨⟨fn, hfn, hname, by rw [hbody]; rfl⟩, fun w Fz hF args xs ys r hsz hn hrep hr => ?_⟩
  have hden : ∃ rows, (g ys).eval = some rows ∧ rOk by_ 0 (rLen rows) = true ∧ mOk rows = true ∧ r = .slice te (sortC rows) .open := by
    have hr' : ((T.bnd (g ys).eval default fun r => .test (bAnd (rOk by_ 0 (rLen r)) (mOk r)) (.ret (sortC r)) .fail : T Rows).eval.bind fun r => (T.ret (V.slice te r .open) : T V).eval) = some r := hr
    rw [Option.bind_eq_some_iff] at hr'
    obtain ⟨q, q1, q2⟩ := hr'
    have q1' : ((g ys).eval.bind fun r => (T.test (bAnd (rOk by_ 0 (rLen r)) (mOk r)) (.ret (sortC r)) .fail : T Rows).eval) = some q := q1
    rw [Option.bind_eq_some_iff] at q1'
    obtain ⟨rows, q3, q4⟩ := q1'
    obtain ⟨q5, q6⟩ := T.test_eval q4
    simp [T.eval] at q2 q6
    have q5' : rOk by_ 0 (rLen rows) = true ∧ mOk rows = true := by simpa [bAnd] using q5
    exact ⟨rows, q3, q5'.1, q5'.2, by rw [← q2, ← q6]⟩
  obtain ⟨rows, hg, hrok, hmok, rfl⟩ := hden
  have hlenlt : rows.length < 4611686018427387904 := by
    have := of_decide_eq_true hrok
    simp only [rLen] at this
    have h2 : ((rows.length : Int)) * 1 ≤ (rows.length : Int) * by_ := Int.mul_le_mul_of_nonneg_left (by omega) (by omega)
    rw [Int.zero_add] at this
    omega
  obtain ⟨hcl, hcg⟩ := normAs_get hn
  have hcan : canonAs C.P pts 0 ys = ys := canonAs_get hcl (fun j y hj => by rw [Nat.zero_add]; exact hj) (fun j t y ht hy => by
    obtain ⟨x, hx⟩ := hcg j t y ht hy
    exact canonP_norm hx)
  have hpre : (codeV C S (headC 6 (bodyF fn)) (startV 118 ys)).eval = some (.normal, stA tm rows none .dead none) := by
    have := H.pre ys
    rw [hcan] at this
    rw [this]
    exact T.map_eval _ _ hg
  refine calls_of_wp hfn hbody ?_
  rw [H.ntmps]
  refine goes_cut hC 6 (bodyF fn) H.loops hpre ?_ ⟨w, Fz, fun _ => .blk 0, List.replicate 118 none⟩ _ (Inv.start (P := C.P) (F0 := ⟨Fz, fun _ => False⟩) hF 118) (FS.start hsz hrep 118) rfl
  intro E a hI hf hh
  have hC' : CxOk ⟨C.P, C.fn, [114], [(endId, 114)], C.fm⟩ := ⟨hC.fn, hC.fm⟩
  -- the rows are what they are gathered as
  have hrows : rows.map rwOf = rows := by
    have h23 : E.hs.getD 23 none = some (.obj (.mp tm rows)) := by rw [hh]; rfl
    obtain ⟨b, o, _, _, _, ⟨e', arr, q1, _, q3, q4⟩, _⟩ := hI.obj 23 _ h23
    rw [hm] at q1; injection q1 with q1; subst q1
    refine List.ext_getElem? fun i => ?_
    rw [List.getElem?_map]
    cases hi : rows[i]? with
    | none => rfl
    | some q =>
      obtain ⟨y, _, s, cs, v, rfl, e2, _⟩ := q4 i q hi
      rw [hE] at e2
      show some (rwOf (.str s :: cs)) = _
      rw [← e2]; rfl
  rw [H.code]
  obtain ⟨l1, l2, l3, l4⟩ := H.noLoop
  obtain ⟨⟨x1, s1⟩, hi1, hi2⟩ := T.eval_map _ _ (show (mapT wkX _).eval = some _ by rw [H.ini rows]; rfl)
  obtain ⟨rfl, w1, w2, w3⟩ := wk_of hi2 (stA_ne _ _ _ _ _)
  unfold codeV at hi1
  obtain ⟨⟨y0, s0⟩, hj1, hj2⟩ := T.eval_bind _ _ hi1
  cases y0 with
  | exit id => simp [T.eval] at hj2
  | ret => simp [T.eval] at hj2
  | normal =>
  refine wp_seq (wp_mono (codeV_sound hC' l1 hj1 E a hI hf hh) ?_)
  rintro e a1 w' ⟨E1, rfl, rfl, I1, f1, h1⟩
  refine wp_seq (wp_seq (wp_mono (codeV_sound hC' l2 hj2 E1 a1 I1 f1 h1) ?_))
  rintro e a2 w' ⟨E2, rfl, rfl, I2, f2, h2⟩
  have f2 : FS C.P E2 a2 (stA tm rows (some []) .nils none).ts := by rw [← w1]; exact wk_fs f2 w2
  have h2 : E2.hs = (stA tm rows (some []) .nils none).hs := h2.trans w3
  -- the walk
  refine wp_block ?_
  refine wp_loop_n (P := C.P) (fun k a w => ∃ (E : En) (seen : List Nat) (x : V) (b : Option Blk) (out : Rows), E.w = w ∧ Inv C.P _ ⟨Fz, fun _ => False⟩ E ∧ FS C.P E a (stA tm rows (some seen) x b).ts ∧ E.hs = (stA tm rows (some seen) x b).hs ∧ Gath te out x b ∧ seen.Nodup ∧ (∀ j, j ∈ seen → j < rows.length) ∧ out = seen.map (fun (j : Nat) => rwOf (rAt rows (j : Int))) ∧ k = rows.length - seen.length + 1) ?_ ?_ (n := rows.length + 1)
    ⟨E2, [], .nils, none, [], rfl, I2, f2, h2, Or.inl ⟨rfl, rfl, rfl⟩, List.nodup_nil, fun j hj => (by cases hj), rfl, (by simp)⟩
  · rintro a w ⟨E, seen, x, b, out, _, _, _, _, _, _, _, _, hk⟩
    omega
  · rintro n a w ⟨E, seen, x, b, out, rfl, hI, hf, hh, hgath, hnd, hlt, hout, hk⟩
    obtain ⟨p1, p2, p3⟩ := H.op1
    obtain ⟨p4, p5, p6⟩ := H.op2
    have hsize : a.tmps.size = 118 := by rw [hf.size]; exact (stA_len _ _ _ _ _).1
    have hit := (hf.rs [] (fun _ => False)).ev (L := []) (fun p hp => (by cases hp)) (.tmp 103)
    have hit : Rep C.P E (a.eval (.tmp 103)) (.it 103 23) := hit
    refine wp_seq (wp_two p3 p6 ?_)
    rcases next_run (ty := (opAt (seqL (inC (inC (seqR (seqL (seqR (tailC 6 (bodyF fn)))))))) 0).type) hI hit (by rw [hh]; rfl) (by rw [hh]; rfl) with ⟨hall, hrun⟩ | ⟨j, u, E', hjl, hjn, ⟨ku, yu, rfl⟩, hrun, J1, J2, J3⟩
    · -- none is left
      refine wp_value (v := .tuple #[.bool false]) (w' := E.w) (by simp [execOp, p1, hrun]) ?_
      rw [p2]
      have g1 := hf.put_dead (stA_dead tm rows seen x b 104 (by decide) (by decide) (by decide)) (.tuple #[.bool false])
      have e1 : (a.put (some 104) (.tuple #[.bool false])).eval (.tmp 104) = .tuple #[.bool false] := put_get (by omega) _
      refine wp_value (v := .bool false) (w' := E.w) (by simp [execOp, p4, e1, Instr.extract]) ?_
      rw [p5]
      have g2 := g1.put_dead (stA_dead tm rows seen x b 105 (by decide) (by decide) (by decide)) (.bool false)
      have e2 : ((a.put (some 104) (.tuple #[.bool false])).put (some 105) (.bool false)).eval (.tmp 105) = .bool false := put_get (by simp [Act.put]; omega) _
      generalize ((a.put (some 104) (.tuple #[.bool false])).put (some 105) (.bool false)) = a' at g2 e2 ⊢
      refine wp_seq (wp_cond e2 ?_)
      refine wp_exit ?_
      -- behind the walk
      simp only [Exit.then, Exit.inBlock, if_true]
      have hperm : out.Perm rows := by
        rw [hout]
        have := (nodup_all hnd hlt hall).map (fun (j : Nat) => rwOf (rAt rows (j : Int)))
        rw [rowsMap, hrows] at this
        exact this
      obtain ⟨t1, t2, t3⟩ := H.op3
      obtain ⟨t4', t5, t6⟩ := H.op4
      obtain ⟨ats, t4⟩ : ∃ ats, (opAt (seqL (seqR (seqR (tailC 6 (bodyF fn))))) 1).op = .call ⟨.value (.func fs), #[.tmp 115, .func cl], ats⟩ := ⟨_, t4'⟩
      clear t4'
      show (Code.seq _ _).wp C.P _ a' E.w
      refine wp_seq (wp_two t3 t6 ?_)
      have hx18 : Rep C.P E (a'.eval (.tmp 18)) x := g2.vals 18
      refine wp_value (v := a'.eval (.tmp 18)) (w' := E.w) (by simp [execOp, t1]) ?_
      rw [t2]
      have hsize' : a'.tmps.size = 118 := by rw [g2.size]; exact (stA_len _ _ _ _ _).1
      have g3 := g2.put_dead (stA_dead tm rows seen x b 115 (by decide) (by decide) (by decide)) (a'.eval (.tmp 18))
      have e3 : (a'.put (some 115) (a'.eval (.tmp 18))).eval (.tmp 115) = a'.eval (.tmp 18) := put_get (by omega) _
      generalize ha3 : a'.put (some 115) (a'.eval (.tmp 18)) = a3 at g3 e3 ⊢
      obtain ⟨fn2, hfn2, hname2, hbody2⟩ := hfs
      have hn' : ¬ fn2.body = none := by intro e; rw [e] at hbody2; cases hbody2
      have hname' : ¬ fn2.name = "runtime.NumGoroutine" := by intro e; rw [e] at hname2; simp at hname2
      have hrun2 : (execOp a3.eval (opAt (seqL (seqR (seqR (tailC 6 (bodyF fn))))) 1)).run C.P E.w = .ok (.enter fs #[a'.eval (.tmp 18), .func (.func cl) #[] #[]]) E.w := by
        simp [execOp, t4, resolve, Deferred.ofValue, invoke, callFunc, hfn2, hname', hn', Act.eval]
        have h := e3
        simp [Act.eval] at h
        exact h
      unfold Oper.wp
      rw [hrun2]
      have hfin : ∀ (E4 : En) (v : Value) (x4 : V) (b4 : Option Blk) (out4 : Rows), Inv C.P w ⟨Fz, fun _ => False⟩ E4 → FS C.P E4 a3 (stA tm rows (some seen) x4 b4).ts → E4.hs = (stA tm rows (some seen) x4 b4).hs → Gath te out4 x4 b4 → out4 = sortC rows →
          (Code.seq (seqL (seqR (seqR (seqR (tailC 6 (bodyF fn)))))) .ret).wp C.P (bodyPost C.P fn (fun e w' => ∃ v F', e = .returned v ∧ Below w.heap.size w w' ∧ (∀ b o, Fz b o → F' b o) ∧ (∀ b o, F' b o → Fz b o ∨ w.heap.size ≤ b) ∧ (∀ b o, F' b o → b < w'.heap.size) ∧ Rep C.P (E0 w' F') v (.slice te (sortC rows) .open))) (a3.put (some 116) v) E4.w := by
        intro E4 v x4 b4 out4 I4 f4 h4 g4 ho4
        have f5 := f4.put_dead (stA_dead tm rows seen x4 b4 116 (by decide) (by decide) (by decide)) v
        have hev : ∃ y s9, (codeV ⟨C.P, C.fn, [114], [(endId, 114)], C.fm⟩ S (.seq (seqL (seqR (seqR (seqR (tailC 6 (bodyF fn)))))) .ret) (stA tm rows (some seen) x4 b4)).eval = some (y, s9) ∧ (endT ⟨C.P, C.fn, [114], [(endId, 114)], C.fm⟩ fn (y, s9)).eval = some (.slice te (sortC rows) .open) := by
          rcases g4 with ⟨rfl, rfl, g5⟩ | ⟨rfl, rfl⟩
          · have := H.fin1 rows seen
            obtain ⟨⟨y, s9⟩, z1, z2⟩ := T.eval_bind _ _ (show ((codeV _ S _ _).bind _).eval = some _ by rw [this]; rfl)
            refine ⟨y, s9, z1, ?_⟩
            rw [z2, ← ho4, g5]
          · have := H.fin2 rows seen out4
            obtain ⟨⟨y, s9⟩, z1, z2⟩ := T.eval_bind _ _ (show ((codeV _ S _ _).bind _).eval = some _ by rw [this]; rfl)
            refine ⟨y, s9, z1, ?_⟩
            rw [z2, rTake_all, ho4]
        obtain ⟨y, s9, z1, z2⟩ := hev
        refine wp_mono (codeV_sound hC' (c := .seq _ .ret) ⟨l4, trivial⟩ z1 E4 _ I4 f5 h4) ?_
        rintro e a9 w9 ⟨E9, rfl, rfl, I9, f9, h9⟩
        exact end_ok (C := ⟨C.P, C.fn, [114], [(endId, 114)], C.fm⟩) I9 f9 h9 z2
      rcases hgath with ⟨rfl, rfl, hout0⟩ | ⟨rfl, rfl⟩
      · have hv0 := rep_nils_inv hx18
        rw [hv0]
        rw [Oper.upon_enter]
        refine (hnone none 0 E.w).mono ?_
        rintro e w' ⟨rfl, rfl⟩
        show (Code.seq _ _).wp C.P _ _ E.w
        rw [t5]
        refine hfin E _ .nils none [] hI g3 hh (Or.inl ⟨rfl, rfl, rfl⟩) ?_
        rw [hout0] at hperm
        have : rows = [] := hperm.symm.eq_nil
        rw [this]; rfl
      · rw [Oper.upon_enter]
        have h114 : E.hs.getD 114 none = some (.arr te 0 out) := by rw [hh]; rfl
        have hlen2 : out.length < 4611686018427387904 := by rw [hperm.length_eq]; exact hlenlt
        refine (sort_cnt hI hT h114 hx18 hlen2 hsort hnone).mono ?_
        rintro e w' ⟨rfl, E4, ds, rfl, I4, L4, h4, hp4, hs4⟩
        show (Code.seq _ _).wp C.P _ _ E4.w
        rw [t5]
        have hout1 : (out.map cntOf).map cntRow = out := by
          rw [hout, List.map_map, List.map_map]
          exact List.map_congr_left (fun j _ => rfl)
        have hl : (ds.map cntRow).length = out.length := by rw [List.length_map, hp4.length_eq, List.length_map]
        have hrl : rLen (ds.map cntRow) = rLen out := by simp only [rLen, hl]
        refine hfin E4 _ (.aref te 114 0 none (rLen (ds.map cntRow))) (some (.arr te 0 (ds.map cntRow))) (ds.map cntRow) I4 ?_ ?_ (Or.inr ⟨rfl, rfl⟩) ?_
        · rw [hrl]; exact g3.mono L4
        · rw [h4, hh]; rfl
        · refine sortC_unique ?_ ?_ hmok
          · refine List.Perm.trans ?_ hperm
            have := hp4.map cntRow
            rw [hout1] at this
            exact this
          · rw [List.pairwise_map]
            exact hs4.imp (fun h => h)
    · -- one more
      refine wp_value (w' := E'.w) (by simp [execOp, p1, hrun]; rfl) ?_
      rw [p2]
      have f0 : FS C.P E' a (stA tm rows (some (seen ++ [j])) x b).ts := hf.mono J2
      have h0 : E'.hs = (stA tm rows (some (seen ++ [j])) x b).hs := by rw [J3, hh]; rfl
      generalize hU : (Value.tuple #[.bool true, ku, yu]) = u
      have g1 := f0.put_dead (stA_dead tm rows (seen ++ [j]) x b 104 (by decide) (by decide) (by decide)) u
      have e1 : (a.put (some 104) u).eval (.tmp 104) = u := put_get (by omega) _
      refine wp_value (v := .bool true) (w' := E'.w) (by subst hU; simp [execOp, p4, e1, Instr.extract]) ?_
      rw [p5]
      have g2 := g1.put_dead (stA_dead tm rows (seen ++ [j]) x b 105 (by decide) (by decide) (by decide)) (.bool true)
      have e2 : ((a.put (some 104) u).put (some 105) (.bool true)).eval (.tmp 105) = .bool true := put_get (by simp [Act.put]; omega) _
      generalize ((a.put (some 104) u).put (some 105) (.bool true)) = a' at g2 e2 ⊢
      refine wp_seq (wp_cond e2 (wp_skip ?_))
      have hnd' : (seen ++ [j]).Nodup := by
        rw [List.nodup_append]
        exact ⟨hnd, by simp, fun p hp q hq e => by simp at hq; subst hq; subst e; exact hjn hp⟩
      have hlt' : ∀ p, p ∈ seen ++ [j] → p < rows.length := by
        intro p hp
        rcases List.mem_append.1 hp with hp | hp
        · exact hlt p hp
        · simp at hp; omega
      have hlen' := nodup_len hnd' hlt'
      rw [List.length_append, List.length_singleton] at hlen'
      have hq1 : bAnd (iEq (rLen rows) (rLen rows)) (iIn (lastI (seen ++ [j])) (rLen rows)) = true := by
        rw [lastI_app]
        simp [bAnd, iEq, iIn, rLen]; omega
      have hol : out.length = seen.length := by rw [hout, List.length_map]
      have hq2 : ∀ q : Row, rOk by_ (rLen out) (rLen [q]) = true := by
        intro q
        have := of_decide_eq_true hrok
        refine decide_eq_true ?_
        simp only [rLen, List.length_singleton] at this ⊢
        refine Int.le_trans (Int.mul_le_mul_of_nonneg_right ?_ (by omega)) this
        omega
      rcases hgath with ⟨rfl, rfl, hout0⟩ | ⟨rfl, rfl⟩
      · have h5 := H.lp1 rows (seen ++ [j])
        rw [hq1] at h5
        have hq3 := hq2 (rwOf (rAt rows (lastI (seen ++ [j]))))
        rw [hout0] at hq3
        have hq3 : rOk by_ 0 (rLen [rwOf (rAt rows (lastI (seen ++ [j])))]) = true := hq3
        rw [hq3] at h5
        obtain ⟨⟨y, s5⟩, z1, z2⟩ := T.eval_map _ _ (show (mapT wkX _).eval = some _ by rw [h5]; rfl)
        obtain ⟨rfl, z3, z4, z5⟩ := wk_of z2 (stA_ne _ _ _ _ _)
        refine wp_block (wp_mono (codeV_sound hC' l3 z1 E' a' J1 g2 h0) ?_)
        rintro e a5 w5 ⟨E5, rfl, rfl, I5, f5, h5⟩
        show Exit.inBlock 5 _ .normal a5 E5.w
        refine ⟨E5, seen ++ [j], _, _, out ++ [rwOf (rAt rows (j : Int))], rfl, I5, by rw [← z3]; exact wk_fs f5 z4, h5.trans z5, Or.inr ⟨?_, ?_⟩, hnd', hlt', ?_, ?_⟩
        · rw [hout0, lastI_app]; rfl
        · rw [hout0, lastI_app]; rfl
        · rw [hout, List.map_append]; rfl
        · rw [List.length_append, List.length_singleton]; omega
      · have h5 := H.lp2 rows (seen ++ [j]) out
        rw [hq1, hq2] at h5
        obtain ⟨⟨y, s5⟩, z1, z2⟩ := T.eval_map _ _ (show (mapT wkX _).eval = some _ by rw [h5]; rfl)
        obtain ⟨rfl, z3, z4, z5⟩ := wk_of z2 (stA_ne _ _ _ _ _)
        refine wp_block (wp_mono (codeV_sound hC' l3 z1 E' a' J1 g2 h0) ?_)
        rintro e a5 w5 ⟨E5, rfl, rfl, I5, f5, h5⟩
        show Exit.inBlock 5 _ .normal a5 E5.w
        obtain ⟨I6, f6⟩ := ed_zero I5 (by rw [← z3]; exact wk_fs f5 z4) (h5.trans z5)
        have key : ∀ (E6 : En) (x6 : V) (b6 : Option Blk), Inv C.P w ⟨Fz, fun _ => False⟩ E6 → FS C.P E6 a5 (stA tm rows (some (seen ++ [j])) x6 b6).ts → E6.hs = (stA tm rows (some (seen ++ [j])) x6 b6).hs → E6.w = E5.w → Gath te (out ++ [rwOf (rAt rows (j : Int))]) x6 b6 → ∃ (E : En) (seen : List Nat) (x : V) (b : Option Blk) (out : Rows), E.w = E5.w ∧ Inv C.P w ⟨Fz, fun _ => False⟩ E ∧ FS C.P E a5 (stA tm rows (some seen) x b).ts ∧ E.hs = (stA tm rows (some seen) x b).hs ∧ Gath te out x b ∧ seen.Nodup ∧ (∀ j, j ∈ seen → j < rows.length) ∧ out = seen.map (fun (j : Nat) => rwOf (rAt rows (j : Int))) ∧ n = rows.length - seen.length + 1 :=
          fun E6 x6 b6 i6 f6 h6 w6 g6 => ⟨E6, seen ++ [j], x6, b6, _, w6, i6, f6, h6, g6, hnd', hlt', by rw [hout, List.map_append]; rfl, by rw [List.length_append, List.length_singleton]; omega⟩
        refine key _ _ _ I6 f6 rfl rfl (Or.inr ⟨?_, ?_⟩)
        · rw [lastI_app, rTake_all]; rfl
        · rw [lastI_app, rTake_all]; rfl
/-- slices.SortFunc by the shelf's contract, of rows of a string and a number, by the string. -/
theorem sort_con {ρ : Shelf.Ren} (L : SlLaysF0.n6 P ρ) (aE : ∀ w, (isAgg (ρ.t 24)).run P w = .ok true w) (zE : ∀ w, (Go.sizeOf (ρ.t 24)).run P w = .ok 2 w) {cl : Nat} (eg : ∀ args w, (callFunc cl args).run P w = .ok (.enter cl args) w)
    (hclo : ∀ (x y : ByteArray × Int) (W : World), Calls P cl #[.agg #[.string x.1, .int .i64 x.2], .agg #[.string y.1, .int .i64 y.2]] W fun e w' => e = .returned (.int .i64 (Lib.compareBytes x.1.data.toList y.1.data.toList)) ∧ ∃ q os', w' = Sort.grow (W.drewN q) os') :
    (∀ blk off cap (d : Array (ByteArray × Int)) w, Sort.HoldsK cntEnc 2 w blk off d → blk < w.heap.size → d.size < 4611686018427387904 → Calls P (ρ.f 6) #[.slice (some ⟨blk, off, none⟩) d.size cap, .func (.func cl) #[] #[]] w fun e w' => e = .returned (.tuple #[]) ∧ ∃ d' m os, Sort.PermIn 0 d.size d d' ∧ Sort.SortedIn (fun x y => sLt x.1 y.1) 0 d.size d' ∧ w' = Go.Proofs.sortWorldK cntEnc 2 w blk off m d' os) ∧
    (∀ p cap w, Calls P (ρ.f 6) #[.slice p 0 cap, .func (.func cl) #[] #[]] w fun e w' => e = .returned (.tuple #[]) ∧ w' = w) := by
  have hlt : ltOf (fun x y : ByteArray × Int => Lib.compareBytes x.1.data.toList y.1.data.toList) = fun x y => sLt x.1 y.1 := funext fun x => funext fun y => cmp_lt x y
  refine ⟨fun blk off cap d w hH hb hs => ?_, fun p cap w => AnyF.slices_SortFunc_none L p cap _ w⟩
  have := AnyQ.slices_SortFunc L 2 aE zE cntEnc (fun _ => rfl) (fun x v hv => by simp [cntEnc] at hv; rcases hv with rfl | rfl <;> rfl) (fun x y => Lib.compareBytes x.1.data.toList y.1.data.toList) (by rw [hlt]; exact swo_sLt) cl #[] blk off cap d w eg (fun _ _ _ _ x y => hclo x y _) hH hb hs
  rw [hlt] at this
  exact this
end Go.Proofs.YtilppppcafphbaaGreat.Ev
