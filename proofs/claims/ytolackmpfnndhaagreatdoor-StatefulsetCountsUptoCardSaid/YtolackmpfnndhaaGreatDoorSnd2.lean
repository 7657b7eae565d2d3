/- The operations that turn nothing, all of them. Conditions: stated at each. -/
import Derived.Test.YtolackmpfnndhaaGreatDoorSnd1
import Derived.Laws.BytesString
import Derived.Lib.SliceRun
namespace Go.Proofs.YtolackmpfnndhaaGreatDoor.Ev
open Go Go.RowKit
set_option linter.unusedVariables false
set_option linter.unusedSimpArgs false
variable {P : Program}
theorem run_binV {E : En} {t : Nat} {op : BinOp} {x y z : V} {chk : Option Bool} {v w : Value} (h : binV P t op x y = some (z, chk)) (hc : ∀ b, chk = some b → b = true) (hx : Rep P E v x) (hy : Rep P E w y) (a c : Operand) (W : World) :
    ∃ u, (do eqGuard op t a c v w; binOp op t v w : Sem Value).run P W = .ok u W ∧ Rep P E u z := by
  have eqs : ∀ b, eqV P t x y = some b → (∀ k m n, v = .int k m → w = .int k n → b = (m == n)) ∧ (∀ s r, v = .string s → w = .string r → b = (s.toList == r.toList)) := by
    intro b hb
    refine ⟨fun k m n e1 e2 => ?_, fun s r e1 e2 => ?_⟩
    · subst e1; subst e2
      unfold eqV at hb
      split at hb
      · cases hx
      · unfold eqC at hb
        split at hb
        · cases hx
        · cases hx; cases hy
          split at hb
          · simp at hb; subst hb; rfl
          · cases hb
        · cases hx
        · cases hb
    · subst e1; subst e2
      unfold eqV at hb
      split at hb
      · cases hx
      · unfold eqC at hb
        split at hb
        · cases hx
        · cases hx
        · cases hx; cases hy
          split at hb
          · simp at hb; subst hb; rfl
          · cases hb
        · cases hb
  unfold binV at h
  split at h
  · rw [Option.map_eq_some_iff] at h
    obtain ⟨b, hb, h⟩ := h
    injection h with h1 h2; subst h1
    obtain ⟨r1, r2⟩ := run_eqV hb hx hy .eql a c W
    refine ⟨.bool b, ?_, .bool b⟩
    obtain ⟨e1, e2⟩ := eqs b hb
    unfold eqV at hb
    split at hb
    · cases hx with
      | agg => cases hy with
        | agg => simp [r2, binOp, r1]
    · unfold eqC at hb
      split at hb
      · rw [rep_bool_inv hx, rep_bool_inv hy] at r1 r2 ⊢; simp [r2, binOp, r1]
      · rw [rep_int_inv hx, rep_int_inv hy] at r2 ⊢
        split at hb
        · rw [cond_eq_ite] at hb
          split at hb
          · rename_i hk
            have hk' := eq_of_beq hk
            subst hk'
            simp [r2, binOp, Op.intCmp, e1 _ _ _ (rep_int_inv hx) (rep_int_inv hy)]
          · cases hb
        · cases hb
      · rw [rep_str_inv hx, rep_str_inv hy] at r2 ⊢; simp [r2, binOp, Op.stringOp, e2 _ _ (rep_str_inv hx) (rep_str_inv hy)]
      · cases hb
  · rw [Option.map_eq_some_iff] at h
    obtain ⟨b, hb, h⟩ := h
    injection h with h1 h2; subst h1
    obtain ⟨r1, r2⟩ := run_eqV hb hx hy .neq a c W
    refine ⟨.bool (bNot b), ?_, .bool _⟩
    obtain ⟨e1, e2⟩ := eqs b hb
    unfold eqV at hb
    split at hb
    · cases hx with
      | agg => cases hy with
        | agg => simp [r2, binOp, r1, bNot]
    · unfold eqC at hb
      split at hb
      · rw [rep_bool_inv hx, rep_bool_inv hy] at r1 r2 ⊢; simp [r2, binOp, r1, bNot]
      · rw [rep_int_inv hx, rep_int_inv hy] at r2 ⊢
        split at hb
        · rw [cond_eq_ite] at hb
          split at hb
          · rename_i hk
            have hk' := eq_of_beq hk
            subst hk'
            simp [r2, binOp, Op.intCmp, e1 _ _ _ (rep_int_inv hx) (rep_int_inv hy), bNot, bne]
          · cases hb
        · cases hb
      · rw [rep_str_inv hx, rep_str_inv hy] at r2 ⊢; simp [r2, binOp, Op.stringOp, e2 _ _ (rep_str_inv hx) (rep_str_inv hy), bNot]
      · cases hb
  · split at h
    · rename_i k m k' n
      injection h with h; injection h with h1 h2; subst h1; subst h2
      rw [rep_int_inv hx, rep_int_inv hy]
      have h0 : ¬ n < 0 := Int.not_lt.2 (of_decide_eq_true (hc _ rfl))
      refine ⟨.int k (iShr k m n), ?_, .int _ _⟩
      simp [eqGuard, binOp, Op.shift, h0, iShr]
    · cases h
  · rename_i n1 n2 n3
    have g : (eqGuard op t a c v w).run P W = .ok () W := by
      cases op <;> first | exact absurd rfl n1 | exact absurd rfl n2 | exact absurd rfl n3 | simp [eqGuard]
    split at h
    · rw [rep_int_inv hx, rep_int_inv hy] at g ⊢
      rw [cond_eq_ite] at h
      split at h
      · rename_i hk
        have hk' := eq_of_beq hk
        subst hk'
        cases op <;> first | exact absurd rfl n1 | exact absurd rfl n2 | exact absurd rfl n3 | (cases h; done) | skip
        all_goals (injection h with h; injection h with h1 h2; subst h1; subst h2)
        all_goals first
          | exact ⟨_, by simp [g, binOp, Op.intBits]; rfl, .int _ _⟩
          | exact ⟨_, by simp [g, binOp, Op.intArith]; rfl, .int _ _⟩
          | exact ⟨_, by simp [g, binOp, Op.intCmp]; rfl, .bool _⟩
          | (have h0 := hc _ rfl
             refine ⟨_, ?_, .int _ _⟩
             have h1 := h0
             simp [bNot, iEq] at h1
             simp [g, binOp, Op.intDiv, h1]; rfl)
      · cases h
    · rw [rep_str_inv hx, rep_str_inv hy] at g ⊢
      cases op <;> first | exact absurd rfl n1 | exact absurd rfl n2 | exact absurd rfl n3 | (cases h; done) | skip
      all_goals (injection h with h; injection h with h1 h2; subst h1; subst h2)
      all_goals first
        | (refine ⟨_, ?_, .bool _⟩
           simp [g, binOp, Op.stringOp, bNot, bOr, sLt, sEq]; done)
        | (rename_i s r
           have h0 := hc _ rfl
           refine ⟨_, ?_, .str _⟩
           have h1 := of_decide_eq_true h0
           have hm : IntKind.i64.max = 9223372036854775807 := by decide
           simp only [sLen] at h1
           have h2 : ¬ ((9223372036854775807 : Int) < (s.size : Int) + (r.size : Int)) := Int.not_lt.2 h1
           simp [g, binOp, Op.stringOp, h2, hm, sCat])
    · cases h
/-- Ends: a value, nothing turned. -/
def Says (P : Program) (E : En) (a : Act) (o : Oper) (x : V) : Prop := ∃ v, (execOp a.eval o).run P E.w = .ok (.value v) E.w ∧ Rep P E v x
theorem run_binN {E : En} {t : Nat} {op : BinOp} {x y z : V} {chk : Option Bool} {v w : Value} (h : (match nilB P t op x y with | some b => some (V.bool b, none) | none => binV P t op x y) = some (z, chk)) (hc : ∀ b, chk = some b → b = true) (hx : Rep P E v x) (hy : Rep P E w y) (a c : Operand) (W : World) :
    ∃ u, (do eqGuard op t a c v w; binOp op t v w : Sem Value).run P W = .ok u W ∧ Rep P E u z := by
  cases hn : nilB P t op x y with
  | none => rw [hn] at h; exact run_binV h hc hx hy a c W
  | some b =>
    rw [hn] at h
    injection h with h; injection h with h1 h2; subst h1
    unfold nilB at hn
    split at hn
    · split at hn
      · rename_i el hu
        injection hn with hn; subst hn
        cases hx with
        | slice t0 es k a0 cap sz vs hcap hnone hsz hrow hc' hx' hk =>
          cases hy with
          | nils =>
            have hk' : a0.isNone = _ := hk
            refine ⟨.bool a0.isNone, ?_, by rw [hk']; exact .bool _⟩
            simp [eqGuard, Lib.run_eql_slice_nil W t _ a0 _ cap 0 0 hu]
      · cases hn
    · cases hn
theorem rep_opt {E : En} {ops : List Oper} {D : Nat → Prop} {a : Act} {ts : List V} (h : RS P ops D E a ts) {L : List (Nat × Bool)} (hL : holds ops a.tmps L) (x : Option Operand) :
    OptRep P E (x.map a.eval) (x.map (ev ts L)) := by
  cases x with
  | none => trivial
  | some x => exact h.ev hL x
theorem args_rep {E : En} {ops : List Oper} {D : Nat → Prop} {a : Act} {ts : List V} (h : RS P ops D E a ts) {L : List (Nat × Bool)} (hL : holds ops a.tmps L) (as : Array Operand) :
    ∀ (i : Nat) (x : V), (as.toList.map (ev ts L))[i]? = some x → ∃ y, as[i]? = some y ∧ Rep P E (a.eval y) x := by
  intro i x hx
  rw [List.getElem?_map, Option.map_eq_some_iff] at hx
  obtain ⟨y, hy, rfl⟩ := hx
  exact ⟨y, by simpa using hy, h.ev hL y⟩
theorem rep_sliced {E : En} {el : Nat} {es : Rows} {k : K} {a : Option Addr} {len cap sz : Nat} (h : Rep P E (.slice a len cap) (.slice el es k)) (hsz : sizeT P el = some sz) (l hh : Nat) (h1 : l ≤ hh) (h2 : hh ≤ es.length) :
    Rep P E (sliced a l hh cap sz) (.slice el ((es.take hh).drop l) .open) := by
  cases h with
  | slice t es k a cap sz' vs hcap hnone hsz' hrow hc hx hk =>
    rw [hsz] at hsz'; injection hsz' with e; subst e
    have hlen : ((es.take hh).drop l).length = hh - l := by simp; omega
    have hget : ∀ i, ((es.take hh).drop l)[i]? = if l + i < hh then es[l + i]? else none := by
      intro i; rw [List.getElem?_drop, List.getElem?_take]
    unfold sliced
    rw [← hlen]
    refine .slice _ _ _ _ _ sz (fun n => vs (l * sz + n)) (by rw [hlen]; omega) ?_ hsz (fun i r hr => ?_) (fun i r j x hr hj A hA => ?_) (fun i r j x hr hj => ?_) trivial
    · intro hn
      have : a = none := by
        by_cases hm : cap = l
        · rw [if_pos hm] at hn; exact hn
        · rw [if_neg hm] at hn; simpa using hn
      have := hnone this; omega
    · rw [hget] at hr
      split at hr
      · exact hrow _ _ hr
      · cases hr
    · rw [hget] at hr
      split at hr
      · rename_i hlt
        have hcl : ¬ cap = l := by omega
        rw [if_neg hcl] at hA
        rw [Option.map_eq_some_iff] at hA
        obtain ⟨B, hB, rfl⟩ := hA
        obtain ⟨c1, c2⟩ := hc _ _ _ _ hr hj B hB
        have e1 : (l + i) * sz + j = l * sz + (i * sz + j) := by rw [Nat.add_mul, Nat.add_assoc]
        rw [e1] at c1 c2
        have e2 : (B.add (l * sz)).add (i * sz + j) = B.add (l * sz + (i * sz + j)) := by
          unfold Addr.add
          by_cases hn : l * sz = 0
          · rw [hn]; simp
          · by_cases hj0 : i * sz + j = 0
            · rw [hj0]; simp [hn]
            · simp only [hn, hj0, if_false]; rw [if_neg (by omega)]; simp [Nat.add_assoc]
        rw [e2, addr_add_block, addr_add_off, Nat.add_assoc]
        exact ⟨c1, c2⟩
      · cases hr
    · rw [hget] at hr
      split at hr
      · have := hx _ _ _ _ hr hj
        have e1 : (l + i) * sz + j = l * sz + (i * sz + j) := by rw [Nat.add_mul, Nat.add_assoc]
        rw [e1] at this; exact this
      · cases hr
theorem part_run {E : En} {t : Nat} {cs : List V} {off : Nat} {x : V} {arr : Array Value} (h : loadV P t cs off = some x) (hl : arr.size = cs.length)
    (hc : ∀ (j : Nat) (y : V), cs[j]? = some y → Rep P E (arr.getD j undef) y) (W : World) : ∃ v, (part t arr off).run P W = .ok v W ∧ Rep P E v x := by
  have one : cs[off]? = some x → ∀ d, P.underlying t = some d → (∀ fs, d ≠ .struct fs) → (∀ n e, d ≠ .array n e) → ∃ v, (part t arr off).run P W = .ok v W ∧ Rep P E v x := by
    intro h1 d hd n1 n2
    have hlt : off < arr.size := by
      rw [hl]
      rcases Nat.lt_or_ge off cs.length with h | h
      · exact h
      · rw [List.getElem?_eq_none h] at h1; cases h1
    refine ⟨arr.getD off undef, ?_, hc _ _ h1⟩
    cases d <;> first | exact absurd rfl (n1 _) | exact absurd rfl (n2 _ _) | simp [part, isAgg, underlying, hd, hlt, Array.getD_eq_getD_getElem?]
  have many : ∀ d, P.underlying t = some d → ((∃ fs, d = .struct fs) ∨ ∃ n e, d = .array n e) → ((sizeT P t).bind fun n => (getR cs off n).map V.agg) = some x → ∃ v, (part t arr off).run P W = .ok v W ∧ Rep P E v x := by
    intro d hd hor h1
    rw [Option.bind_eq_some_iff] at h1
    obtain ⟨n, hn, h1⟩ := h1
    rw [Option.map_eq_some_iff] at h1
    obtain ⟨l, hl', rfl⟩ := h1
    obtain ⟨h2, h3, h4⟩ := getR_spec hl'
    obtain ⟨i, hi, hs⟩ := sizeT_info hn
    refine ⟨.agg (arr.extract off (off + n)), ?_, .agg _ l ?_ ?_⟩
    · rcases hor with ⟨fs, rfl⟩ | ⟨m, e, rfl⟩ <;> simp [part, isAgg, underlying, hd, sizeOf, typeInfo, hi, hs]
    · simp only [Array.size_extract, h2, hl]; split at h3 <;> omega
    · intro j y hy
      have hj : j < n := by
        rcases Nat.lt_or_ge j n with h | h
        · exact h
        · rw [List.getElem?_eq_none (by omega)] at hy; cases hy
      have e : (arr.extract off (off + n)).getD j undef = arr.getD (off + j) undef := by
        rw [Array.getD_eq_getD_getElem?, Array.getD_eq_getD_getElem?, Array.getElem?_extract, if_pos (by split at h3 <;> omega)]
      rw [e]
      exact hc _ _ (by rw [← h4 j hj, hy])
  unfold loadV at h
  split at h
  · cases h
  · rename_i fs hd; exact many _ hd (Or.inl ⟨_, rfl⟩) h
  · rename_i n e hd; exact many _ hd (Or.inr ⟨_, _, rfl⟩) h
  · rename_i d n1 n2 hd; exact one h _ hd (fun fs e => n1 fs e) (fun n el e => n2 n el e)
theorem push_all (ns : List Int) (s : ByteArray) : ns.foldl (fun r n => r.push (UInt8.ofNat n.toNat)) s = ⟨s.data ++ (ns.map fun n => UInt8.ofNat n.toNat).toArray⟩ := by
  induction ns generalizing s with
  | nil => simp
  | cons n ns ih =>
    rw [List.foldl_cons, ih]
    congr 1
    apply Array.ext'
    simp [ByteArray.push]
theorem cts_int {t : Nat} {k : IntKind} (h : P.underlying t = some (.int k)) : ctsOf P t = [t] := by
  unfold ctsOf cts
  rw [h]
theorem bytes_run {E : En} {v : Value} {el : Nat} {es : Rows} {k : K} (h : Rep P E v (.slice el es k)) (hu : P.underlying el = some (.int .u8)) :
    ∃ v', v = v' ∧ (Conv.bytesToString v').run P E.w = .ok (.string (sRows es)) E.w := by
  refine ⟨v, rfl, ?_⟩
  cases h with
  | slice t es k a cap sz vs hcap hnone hsz hrow hc hx hk =>
    cases a with
    | none =>
      have := hnone rfl
      have : es = [] := List.eq_nil_of_length_eq_zero (by omega)
      subst this
      rfl
    | some A =>
      have hone : ∀ (i : Nat) (r : Row), es[i]? = some r → r = [.int .u8 (rInt r 0)] ∧ sz = 1 := by
        intro i r hr
        obtain ⟨h1, h2⟩ := hrow i r hr
        unfold eta at h2
        rw [cts_int hu] at h2
        have h3 : etaL P r 0 [el] = [.int .u8 (rInt r 0)] := by simp [etaL, etaX, etaC, hu]
        rw [h3] at h2
        refine ⟨h2.symm, ?_⟩
        rw [← h1, ← h2]; rfl
      have hl : (loadCells A es.length).run P E.w = .ok ((es.map fun r => rInt r 0).map (Value.int .u8)).toArray E.w := by
        have := run_loadCells (P := P) (w := E.w) A es.length vs (fun j hj => by
          obtain ⟨r, hr⟩ : ∃ r, es[j]? = some r := ⟨es[j], List.getElem?_eq_getElem hj⟩
          obtain ⟨e1, e2⟩ := hone j r hr
          have := (hc j r 0 (.int .u8 (rInt r 0)) hr (by rw [e1]; rfl) A rfl).1
          rw [e2] at this
          simpa using this)
        rw [this]
        congr 2
        apply List.ext_getElem?
        intro j
        rw [List.getElem?_map, List.getElem?_map, List.getElem?_map]
        by_cases hj : j < es.length
        · obtain ⟨r, hr⟩ : ∃ r, es[j]? = some r := ⟨es[j], List.getElem?_eq_getElem hj⟩
          obtain ⟨e1, e2⟩ := hone j r hr
          have := hx j r 0 (.int .u8 (rInt r 0)) hr (by rw [e1]; rfl)
          rw [e2] at this
          simp at this
          rw [List.getElem?_range hj, hr]
          show some (vs j) = some (Value.int .u8 (rInt r 0))
          rw [rep_int_inv this]
        · rw [List.getElem?_eq_none (by simpa using hj), List.getElem?_eq_none (by omega)]; rfl
      rw [run_bytesToString E.w A es.length cap (es.map fun r => rInt r 0) hl, push_all]
      have : (⟨ByteArray.empty.data ++ ((es.map fun r => rInt r 0).map fun n => UInt8.ofNat n.toNat).toArray⟩ : ByteArray) = sRows es := by
        unfold sRows
        congr 1
        have e0 : ByteArray.empty.data = #[] := rfl
        rw [e0, List.map_map, Array.empty_append]
        congr 2
        funext r
        show UInt8.ofNat (rInt r 0).toNat = _
        unfold rInt
        split <;> rfl
      rw [this]
theorem pureV_sound {w0 : World} {F0 : Fz} {E : En} (hI : Inv P w0 F0 E) {ops : List Oper} {D : Nat → Prop} {a : Act} {ts : List V} (h : RS P ops D E a ts) {L : List (Nat × Bool)} (hL : holds ops a.tmps L)
    {o : Oper} {x : V} {chk : Option Bool} (hp : pureV P ops ts E.hs L o.op = some (x, chk)) (hc : ∀ b, chk = some b → b = true) : Says P E a o x := by
  have E_ := fun y => h.ev hL y
  unfold pureV at hp
  split at hp
  · rename_i y ho
    simp at hp; obtain ⟨rfl, rfl⟩ := hp
    exact ⟨_, by simp [execOp, ho], E_ y⟩
  · rename_i y ho
    simp at hp; obtain ⟨rfl, rfl⟩ := hp
    exact ⟨_, by simp [execOp, ho], E_ y⟩
  · -- pick
    rename_i t y z ho
    split at hp
    · rename_i bc j hb hj
      rw [Option.map_eq_some_iff] at hp
      obtain ⟨m, hm, hp⟩ := hp
      injection hp with e1 e2; subst e1
      have hcv : a.eval (.tmp t) = .bool bc := rep_bool_inv (hb ▸ E_ (.tmp t))
      obtain ⟨_, hd⟩ := idxOf_spec hj
      have hy : yielded ops.toArray a.tmps j = some bc := by
        unfold yielded
        have e : (ops.toArray[j]?).bind (·.dst) = some t := by simpa using hd
        rw [e]
        have : a.tmps.getD t undef = .bool bc := hcv
        rw [Array.getD_eq_getD_getElem?] at this
        cases hq : a.tmps[t]? with
        | none => rw [hq] at this; cases this
        | some u => rw [hq] at this; simp at this; subst this; simp [hq]
      have key : ∀ w, bc = w → holds ops a.tmps ((j, w) :: L) := by
        intro w e p hp
        rcases List.mem_cons.1 hp with rfl | hp
        · rw [hy, e]
        · exact hL p hp
      refine ⟨_, ?_, rep_merge hm (fun e => h.ev (key true e) y) (fun e => h.ev (key false e) z)⟩
      simp [execOp, ho, hcv, asBool]
    · cases hp
  · -- build
    rename_i t parts ho
    split at hp
    · rename_i fs hu
      rw [Option.bind_eq_some_iff] at hp
      obtain ⟨z, hz, hp⟩ := hp
      rw [Option.bind_eq_some_iff] at hp
      obtain ⟨pl, hpl, hp⟩ := hp
      rw [Option.map_eq_some_iff] at hp
      obtain ⟨l, hl, hp⟩ := hp
      injection hp with e1 e2; subst e1
      obtain ⟨i, zv, hi, hzv, rfl⟩ := zeroV_info hz
      obtain ⟨z1, z2⟩ := rep_zero (P := P) (E := E) zv
      obtain ⟨arr, f1, f2, f3⟩ := fill_run (f := a.eval) (g := ev ts L) E_ z1 z2 hl
      refine ⟨.agg arr, ?_, .agg arr l f2 f3⟩
      have hb : P.built t (parts.map fun (i, x) => (i, a.eval x)).toList = some arr := by
        unfold Program.built
        have hpl' : fs.toList.mapM (fun f => (P.info? f.type).map fun i => (f.offset, i.size)) = some pl := hpl
        simp only [hi, hu, hzv, hpl']
        rw [← f1]
        simp
      have := run_build (P := P) E.w t (parts.map fun (i, x) => (i, a.eval x)) arr hb
      simp [execOp, ho] at this ⊢
      simp [this]
    · cases hp
  · -- load
    rename_i t y ho
    split at hp
    · rename_i b off hy
      rw [Option.bind_eq_some_iff] at hp
      obtain ⟨cs, hcs, hp⟩ := hp
      rw [Option.map_eq_some_iff] at hp
      obtain ⟨z, hz, hp⟩ := hp
      injection hp with e1 e2; subst e1
      obtain ⟨bk, hv, hN, _⟩ := rep_optr_inv (hy ▸ E_ y)
      obtain ⟨vs, hvs⟩ := hI.boxed (off := off) hN hcs
      obtain ⟨v, r1, r2⟩ := load_run hz hvs
      exact ⟨v, by simp [execOp, ho, hv, Instr.loadAt, Instr.sureAddr, r1], r2⟩
    · rename_i cs hy
      rw [Option.map_eq_some_iff] at hp
      obtain ⟨z, hz, hp⟩ := hp
      injection hp with e1 e2; subst e1
      have hr := hy ▸ E_ y
      obtain ⟨A, hv⟩ := rep_rptr_inv hr
      rw [hv] at hr
      cases hr with
      | rptr _ _ vs hcc hx =>
        obtain ⟨v, r1, r2⟩ := load_run (A := A) (vs := vs) hz (fun j y hj => by
          rw [Nat.zero_add] at hj
          exact ⟨(hcc j y hj).1, hx j y hj⟩)
        exact ⟨v, by simp [execOp, ho, hv, Instr.loadAt, Instr.sureAddr, r1], r2⟩
    · rename_i el n ver i off hy
      rw [Option.bind_eq_some_iff] at hp
      obtain ⟨⟨t', v', es⟩, hcs, hp⟩ := hp
      rw [cond_eq_ite] at hp
      split at hp
      · rename_i hb
        rw [Bool.and_eq_true] at hb
        have e1 := Nat.eq_of_beq_eq_true hb.1
        have e2 := Nat.eq_of_beq_eq_true hb.2
        simp only [] at e1 e2
        subst e1; subst e2
        rw [Option.map_eq_some_iff] at hp
        obtain ⟨z, hz, hp⟩ := hp
        injection hp with e1 e2; subst e1
        obtain ⟨A, hv, vs, hvs⟩ := hI.elem (hy ▸ E_ y) hcs
        obtain ⟨v, r1, r2⟩ := load_run (A := A) (vs := vs) hz hvs
        exact ⟨v, by simp [execOp, ho, hv, Instr.loadAt, Instr.sureAddr, r1], r2⟩
      · cases hp
    · cases hp
  · -- nilCheck
    rename_i y ho
    split at hp
    · rename_i b off hy
      injection hp with hp; injection hp with e1 e2; subst e1
      obtain ⟨bk, hv, hN, _⟩ := rep_optr_inv (hy ▸ E_ y)
      exact ⟨a.eval y, by simp [execOp, ho, hv], hy ▸ E_ y⟩
    · rename_i cs hy
      injection hp with hp; injection hp with e1 e2; subst e1
      obtain ⟨A, hv⟩ := rep_rptr_inv (hy ▸ E_ y)
      exact ⟨a.eval y, by simp [execOp, ho, hv], hy ▸ E_ y⟩
    · rename_i el n ver i off hy
      injection hp with hp; injection hp with e1 e2; subst e1
      obtain ⟨A, hv⟩ := rep_eptr_ptr (hy ▸ E_ y)
      exact ⟨a.eval y, by simp [execOp, ho, hv], hy ▸ E_ y⟩
    · cases hp
  · -- binOp
    rename_i op t y z yt ho
    obtain ⟨u, r1, r2⟩ := run_binN hp hc (E_ y) (E_ z) y z E.w
    refine ⟨u, ?_, r2⟩
    simp only [Sem.run_bind] at r1
    cases hA : (eqGuard op t y z (a.eval y) (a.eval z)).run P E.w with
    | halt hh w' => rw [hA] at r1; cases r1
    | ok uu w' =>
      rw [hA] at r1
      simp only [Result.andThen_ok] at r1
      simp [execOp, ho, hA, r1]
  · -- unOp
    rename_i op t y ho
    split at hp
    · rename_i b hy
      injection hp with hp; injection hp with e1 e2; subst e1
      have hv := rep_bool_inv (hy ▸ E_ y)
      exact ⟨.bool (bNot b), by simp [execOp, ho, hv, Op.unary, bNot], .bool _⟩
    · rename_i k n hy
      injection hp with hp; injection hp with e1 e2; subst e1
      have hv := rep_int_inv (hy ▸ E_ y)
      exact ⟨.int k (iSub k 0 n), by simp [execOp, ho, hv, Op.unary, Op.intArith, iSub], .int _ _⟩
    · cases hp
  · -- extract
    rename_i y i ho
    split at hp
    · rename_i vs hy
      rw [Option.map_eq_some_iff] at hp
      obtain ⟨z, hz, hp⟩ := hp
      injection hp with e1 e2; subst e1
      have hr := hy ▸ E_ y
      generalize hv : a.eval y = v at hr
      cases hr with
      | tuple cs _ hl hx =>
        have hlt : i < cs.size := by
          rw [hl]
          rcases Nat.lt_or_ge i vs.length with h | h
          · exact h
          · rw [List.getElem?_eq_none h] at hz; cases hz
        refine ⟨cs.getD i undef, ?_, hx _ _ hz⟩
        simp [execOp, ho, hv, Instr.extract, hlt, Array.getD_eq_getD_getElem?]
    · cases hp
  · -- fieldAddr
    rename_i t y f ho
    split at hp
    · rename_i b off p hy hf
      injection hp with hp; injection hp with e1 e2; subst e1
      obtain ⟨fs, fl, n, h1, h2, rfl, h4, h5⟩ := fieldT_spec hf
      obtain ⟨i, hi, hs⟩ := sizeT_info h4
      obtain ⟨bk, hv, hN, hh⟩ := rep_optr_inv (hy ▸ E_ y)
      have hn0 : ¬ i.size = 0 := by omega
      refine ⟨.pointer (some (Addr.add ⟨bk, off, none⟩ fl.offset)), ?_, ?_⟩
      · simp [execOp, ho, hv, Instr.fieldAt, Instr.sureAddr, underlying, h1, h2, fieldPlace, sizeOf, typeInfo, hi, hn0]
      · have e : Addr.add ⟨bk, off, none⟩ fl.offset = ⟨bk, off + fl.offset, none⟩ := by unfold Addr.add; split <;> simp_all
        rw [e]; exact .optr _ _ _ hN hh
    · rename_i cs p hy hf
      injection hp with hp; injection hp with e1 e2; subst e1
      obtain ⟨fs, fl, n, h1, h2, rfl, h4, h5⟩ := fieldT_spec hf
      obtain ⟨i, hi, hs⟩ := sizeT_info h4
      have hr := hy ▸ E_ y
      obtain ⟨A, hv⟩ := rep_rptr_inv hr
      rw [hv] at hr
      have hn0 : ¬ i.size = 0 := by omega
      refine ⟨.pointer (some (A.add fl.offset)), ?_, rep_dropped hr _⟩
      simp [execOp, ho, hv, Instr.fieldAt, Instr.sureAddr, underlying, h1, h2, fieldPlace, sizeOf, typeInfo, hi, hn0]
    · rename_i el nn ver ix off p hy hf
      injection hp with hp; injection hp with e1 e2; subst e1
      obtain ⟨fs, fl, n, h1, h2, rfl, h4, h5⟩ := fieldT_spec hf
      obtain ⟨i, hi, hs⟩ := sizeT_info h4
      have hr := hy ▸ E_ y
      obtain ⟨A, hv⟩ := rep_eptr_ptr hr
      have hn0 : ¬ i.size = 0 := by omega
      refine ⟨.pointer (some (A.add fl.offset)), ?_, ?_⟩
      · simp [execOp, ho, hv, Instr.fieldAt, Instr.sureAddr, underlying, h1, h2, fieldPlace, sizeOf, typeInfo, hi, hn0]
      · rw [hv] at hr
        cases hr with
        | eptr A t n v i off hh =>
          obtain ⟨v', es, q1, q2, q3⟩ := hh
          refine .eptr _ _ _ _ _ _ ⟨v', es, q1, q2, fun e => ?_⟩
          obtain ⟨b, cap, sz, k1, k2, k3, k4, k5⟩ := q3 e
          refine ⟨b, cap, sz, k1, k2, k3, k4, ?_⟩
          rw [k5]; unfold Addr.add; split <;> simp_all [Nat.add_assoc]
    · cases hp
  · -- field
    rename_i t y f ho
    split at hp
    · rename_i cs p hy hf
      rw [Option.map_eq_some_iff] at hp
      obtain ⟨z, hz, hp⟩ := hp
      injection hp with e1 e2; subst e1
      obtain ⟨fs, fl, n, h1, h2, rfl, h4, h5⟩ := fieldT_spec hf
      have hr := hy ▸ E_ y
      generalize hv : a.eval y = v at hr
      cases hr with
      | agg arr _ hl hx =>
        obtain ⟨v, r1, r2⟩ := part_run (P := P) hz hl hx E.w
        exact ⟨v, by simp [execOp, ho, hv, Instr.field, underlying, h1, h2, asAgg, r1], r2⟩
    · cases hp
  · -- indexAddr
    rename_i t y ix ho
    split at hp
    · rename_i el el' es k kk n hu hy hi
      rw [cond_eq_ite] at hp
      split at hp
      · rename_i hb
        have hb' := Nat.eq_of_beq_eq_true hb
        subst hb'
        injection hp with hp; injection hp with e1 e2; subst e1; subst e2
        have hin := hc _ rfl
        have hr := hy ▸ E_ y
        have hiv := rep_int_inv (hi ▸ E_ ix)
        obtain ⟨a0, cap, sz, hv, _, hsz⟩ := rep_slice_inv hr
        rw [hv] at hr
        obtain ⟨i1, i2, A, rfl, i4⟩ := rep_elem hr hsz hin
        refine ⟨_, ?_, i4⟩
        obtain ⟨inf, hi1, hi2⟩ := sizeT_info hsz
        simp [execOp, ho, hv, hiv, Instr.indexAt, asIntOf, underlying, hu, sizeOf, typeInfo, hi1, hi2, i1, i2]
      · cases hp
    · rename_i el el' b len kk n hu hy hi
      rw [Option.bind_eq_some_iff] at hp
      obtain ⟨m, hm, hp⟩ := hp
      rw [Option.bind_eq_some_iff] at hp
      obtain ⟨sz, hsz, hp⟩ := hp
      rw [cond_eq_ite] at hp
      split at hp
      · rename_i hb
        rw [Bool.and_eq_true] at hb
        have hlt : m < len := by simpa [Nat.blt_eq] using hb.2
        injection hp with hp; injection hp with e1 e2; subst e1
        have hn := litN_spec hm
        subst hn
        obtain ⟨bk, hv, hN, hh⟩ := rep_sref_inv (hy ▸ E_ y)
        have hiv := rep_int_inv (hi ▸ E_ ix)
        obtain ⟨inf, hi1, hi2⟩ := sizeT_info hsz
        refine ⟨.pointer (some (Addr.add ⟨bk, 0, none⟩ (m * sz))), ?_, ?_⟩
        · simp [execOp, ho, hv, hiv, Instr.indexAt, asIntOf, underlying, hu, sizeOf, typeInfo, hi1, hi2, Instr.sureAddr, hlt]
        · have e : Addr.add ⟨bk, 0, none⟩ (m * sz) = ⟨bk, m * sz, none⟩ := by unfold Addr.add; split <;> simp_all
          rw [e]; exact .optr _ _ _ hN hh
      · cases hp
    · rename_i el el' b ver lo len kk n hu hy hi
      rw [cond_eq_ite] at hp
      split at hp
      · rename_i hb
        have hb' := Nat.eq_of_beq_eq_true hb
        subst hb'
        injection hp with hp; injection hp with e1 e2; subst e1; subst e2
        have hin := of_decide_eq_true (hc _ rfl)
        have hiv := rep_int_inv (hi ▸ E_ ix)
        obtain ⟨a0, c0, hv, g0, g1, g2, v', es, q1, q2, q3⟩ := rep_aref_inv (hy ▸ E_ y)
        obtain ⟨A, rfl⟩ := g2 (by omega)
        obtain ⟨sz, hsz⟩ : ∃ sz, sizeT P el = some sz := by
          obtain ⟨a, cap, sz, _, h2, _⟩ := hI.arr b el v' es q1
          exact ⟨_, by assumption⟩
        obtain ⟨inf, hi1, hi2⟩ := sizeT_info hsz
        have i1 : 0 ≤ n := hin.1
        have i2 : n < (len.toNat : Int) := by have := hin.2; omega
        refine ⟨.pointer (some (A.add (n.toNat * sz))), ?_, .eptr _ _ _ _ _ _ ⟨v', es, q1, q2, fun e => ?_⟩⟩
        · have i3 : ¬ (max len 0 ≤ n) := by omega
          simp [execOp, ho, hv, hiv, Instr.indexAt, asIntOf, underlying, hu, sizeOf, typeInfo, hi1, hi2, i1, i2, i3]
        · obtain ⟨a, cap, sz', k1, k2, k3, k4, k5, k6⟩ := q3 e
          rw [hsz] at k2; injection k2 with k2; subst k2
          obtain ⟨bb, m1, m2⟩ := k6 (by omega)
          injection m2 with m2
          refine ⟨bb, cap, sz, by rw [k1, m1], hsz, ?_, ?_, ?_⟩
          · cases lo with
            | none => exact i1
            | some l => show 0 ≤ l + n; simp at k3; omega
          · cases lo with
            | none => show n < (es.length : Int); simp at k4; omega
            | some l => show l + n < (es.length : Int); simp at k4; omega
          · rw [m2]
            have e2 : (Addr.add ⟨bb, (lo.getD 0).toNat * sz, none⟩ (n.toNat * sz) : Addr) = ⟨bb, (lo.getD 0).toNat * sz + n.toNat * sz, none⟩ := by unfold Addr.add; split <;> simp_all
            rw [e2]
            congr 1
            cases lo with
            | none => simp
            | some l =>
              have : (iPlus l n).toNat = l.toNat + n.toNat := by show (l + n).toNat = _; simp at k3; omega
              simp only [this, Option.getD_some, Nat.add_mul]; omega
      · cases hp
    · rename_i len el b off kk n hu hy hi
      rw [Option.bind_eq_some_iff] at hp
      obtain ⟨m, hm, hp⟩ := hp
      rw [Option.bind_eq_some_iff] at hp
      obtain ⟨sz, hsz, hp⟩ := hp
      rw [cond_eq_ite] at hp
      split at hp
      · rename_i hb
        have hlt : m < len := by simpa [Nat.blt_eq] using hb
        injection hp with hp; injection hp with e1 e2; subst e1
        have hn := litN_spec hm
        subst hn
        obtain ⟨bk, hv, hN, hh⟩ := rep_optr_inv (hy ▸ E_ y)
        have hiv := rep_int_inv (hi ▸ E_ ix)
        obtain ⟨inf, hi1, hi2⟩ := sizeT_info hsz
        refine ⟨.pointer (some (Addr.add ⟨bk, off, none⟩ (m * sz))), ?_, ?_⟩
        · simp [execOp, ho, hv, hiv, Instr.indexAt, asIntOf, underlying, hu, sizeOf, typeInfo, hi1, hi2, Instr.sureAddr, hlt]
        · have e : Addr.add ⟨bk, off, none⟩ (m * sz) = ⟨bk, off + m * sz, none⟩ := by unfold Addr.add; split <;> simp_all
          rw [e]; exact .optr _ _ _ hN hh
      · cases hp
    · cases hp
  · -- index
    rename_i t y ix ho
    split at hp
    · rename_i b kk n hu hy hi
      injection hp with hp; injection hp with e1 e2; subst e1; subst e2
      have hin := of_decide_eq_true (hc _ rfl)
      have hv := rep_str_inv (hy ▸ E_ y)
      have hiv := rep_int_inv (hi ▸ E_ ix)
      refine ⟨.int .u8 (sAt b n), ?_, .int _ _⟩
      have h1 : 0 ≤ n := hin.1
      have h2 : n.toNat < b.size := by have := hin.2; simp only [sLen] at this; omega
      have h3 := run_index_string (P := P) E.w t b kk n hu
      rw [dif_pos ⟨h1, hin.2⟩] at h3
      have h4 : sAt b n = (b[n.toNat].toNat : Int) := by
        unfold sAt
        have : b.data.getD n.toNat 0 = b[n.toNat] := by
          show b.data.getD n.toNat 0 = b.data[n.toNat]
          rw [Array.getD_eq_getD_getElem?, Array.getElem?_eq_getElem h2]; rfl
        rw [this]
      rw [h4]
      simp [execOp, ho, hv, hiv, h3]
    · cases hp
  · -- slice
    rename_i t y lo hi ho
    split at hp
    · rename_i b l hq hu hy hl hh
      injection hp with hp; injection hp with e1 e2; subst e1; subst e2
      have hin := of_decide_eq_true (hc _ rfl)
      have hv := rep_str_inv (hy ▸ E_ y)
      have hlo := loV_run hl (rep_opt h hL lo)
      have hhi := hiV_run hh (rep_opt h hL hi)
      refine ⟨.string (sCut b l (hq.getD (sLen b))), ?_, .str _⟩
      obtain ⟨i1, i2, i3⟩ := hin
      rcases hlo with ⟨e1, rfl⟩ | ⟨kl, e1⟩ <;> rcases hhi with ⟨e2, rfl⟩ | ⟨kh, hn, e2, rfl⟩ <;> simp only [Option.getD_none, Option.getD_some, sLen] at i1 i2 i3
      · simp [execOp, ho, hv, e1, e2, run_sliceAt_string (h := hu), Instr.slice, run_underlying hu, Instr.sliceBounds, run_sliceBound, sliced, sCut, sLen]
      · simp [execOp, ho, hv, e1, e2, run_sliceAt_string (h := hu), Instr.slice, run_underlying hu, Instr.sliceBounds, run_sliceBound, sliced, i1, i2, i3, sCut, sLen]
      · simp [execOp, ho, hv, e1, e2, run_sliceAt_string (h := hu), Instr.slice, run_underlying hu, Instr.sliceBounds, run_sliceBound, sliced, i1, i2, i3, sCut, sLen]
      · simp [execOp, ho, hv, e1, e2, run_sliceAt_string (h := hu), Instr.slice, run_underlying hu, Instr.sliceBounds, run_sliceBound, sliced, i1, i2, i3, (by omega : 0 ≤ hn), Int.toNat_of_nonneg (by omega : 0 ≤ hn), sCut, sLen]
    · rename_i e0 el b ver len l hq hu hy hl hh
      rw [cond_eq_ite] at hp
      split at hp
      case isFalse => cases hp
      rename_i hb
      have hb' := Nat.eq_of_beq_eq_true hb
      subst hb'
      have hlo := loV_run hl (rep_opt h hL lo)
      have hhi := hiV_run hh (rep_opt h hL hi)
      obtain ⟨a0, c0, hv, g0, g1, g2, v', es, q1, q2, q3⟩ := rep_aref_inv (hy ▸ E_ y)
      obtain ⟨sz, hz⟩ : ∃ sz, sizeT P e0 = some sz := by
        obtain ⟨a, cap, sz, _, h2, _⟩ := hI.arr b e0 v' es q1
        exact ⟨_, by assumption⟩
      have hel : P.elem t = e0 := by simp [Program.elem, hu]
      have hu' : P.underlying t = some (.slice (P.elem t)) := by rw [hel]; exact hu
      obtain ⟨inf, hi1, hi2⟩ := sizeT_info hz
      have hso : ∀ W, (sizeOf (P.elem t)).run P W = .ok sz W := by intro W; rw [hel]; simp [sizeOf, typeInfo, hi1, hi2]
      split at hp
      · -- s[:h]
        rename_i oh
        injection hp with hp; injection hp with e1 e2; subst e1; subst e2
        have hin := of_decide_eq_true (hc _ rfl)
        rcases hhi with ⟨e2, rfl⟩ | ⟨kh, hn, e2, rfl⟩
        · simp at e2
        · simp only [Option.getD_some] at hin ⊢
          have e2' : a.eval oh = .int kh hn := by simpa using e2
          have hnc : hn ≤ (c0 : Int) := by have := hin.2.2; omega
          refine ⟨sliced a0 0 hn.toNat c0 sz, ?_, ?_⟩
          · simp [execOp, ho, hv, e2', run_sliceAt_slice (h := hu'), run_slice_h (ht := hu') (h0 := hin.2.1) (h2 := hnc), hso]
          · have e : sliced a0 0 hn.toNat c0 sz = .slice a0 hn.toNat c0 := by
              unfold sliced
              have : a0.map (·.add (0 * sz)) = a0 := by cases a0 <;> simp [Addr.add]
              rw [this]; simp
            rw [e]
            refine .aref a0 c0 _ _ _ _ _ hin.2.1 (by have := hin.2.2; omega) (fun hpos => g2 (by have := hin.2.2; omega)) ⟨v', es, q1, q2, fun ev => ?_⟩
            obtain ⟨a, cap, sz', k1, k2, k3, k4, k5, k6⟩ := q3 ev
            exact ⟨a, cap, sz', k1, k2, k3, by have := hin.2.2; simp at k4 ⊢; omega, k5, fun hpos => k6 (by have := hin.2.2; omega)⟩
      · -- s[l:]
        rename_i ol
        injection hp with hp; injection hp with e1 e2; subst e1; subst e2
        have hin := of_decide_eq_true (hc _ rfl)
        rcases hlo with ⟨e1, rfl⟩ | ⟨kl, e1⟩
        · simp at e1
        · have e1' : a.eval ol = .int kl l := by simpa using e1
          have hl0 : 0 ≤ l := hin.1
          have hl1 : l ≤ len := hin.2.1
          have hl2 : l ≤ (len.toNat : Int) := by omega
          refine ⟨sliced a0 l.toNat len.toNat c0 sz, ?_, ?_⟩
          · simp [execOp, ho, hv, e1', run_sliceAt_slice (h := hu'), run_slice_l (ht := hu') (h0 := hl0) (h1 := hl2), hso]
          · have hm : (iMinus len l).toNat = len.toNat - l.toNat := by show (len - l).toNat = _; omega
            have hm2 : 0 ≤ iMinus len l := by show 0 ≤ len - l; omega
            have hmp : 0 < iMinus len l → l < len := by intro hh; have : 0 < len - l := hh; omega
            unfold sliced
            rw [← hm]
            refine .aref _ _ _ _ _ _ _ hm2 (by omega) (fun hpos => ?_) ⟨v', es, q1, q2, fun ev => ?_⟩
            · obtain ⟨A, rfl⟩ := g2 (by omega)
              split
              · exact ⟨_, rfl⟩
              · exact ⟨_, rfl⟩
            · obtain ⟨a, cap, sz', k1, k2, k3, k4, k5, k6⟩ := q3 ev
              rw [hz] at k2; injection k2 with k2; subst k2
              refine ⟨a, cap, sz, k1, hz, hl0, ?_, (fun e => by cases e), fun hpos => ?_⟩
              · show l + (len - l) ≤ _
                simp at k4; omega
              · have hpos' := hmp hpos
                obtain ⟨bb, m1, m2⟩ := k6 (by omega)
                refine ⟨bb, m1, ?_⟩
                have hne : ¬ c0 = l.toNat := by omega
                rw [if_neg hne, m2]
                simp only [Option.map_some, Option.getD_none, Option.getD_some]
                congr 1
                unfold Addr.add; split <;> simp_all
      · cases hp
    · rename_i e0 el es k l hq hu hy hl hh
      rw [cond_eq_ite] at hp
      split at hp
      case isFalse => cases hp
      rename_i hb
      have hb' := Nat.eq_of_beq_eq_true hb
      subst hb'
      injection hp with hp; injection hp with e1 e2; subst e1; subst e2
      have hin := of_decide_eq_true (hc _ rfl)
      have hlo := loV_run hl (rep_opt h hL lo)
      have hhi := hiV_run hh (rep_opt h hL hi)
      have hr := hy ▸ E_ y
      obtain ⟨a0, cap, sz, hv, hcap, hz⟩ := rep_slice_inv hr
      rw [hv] at hr
      obtain ⟨i1, i2, i3⟩ := hin
      have hel : P.elem t = e0 := by simp [Program.elem, hu]
      have hu' : P.underlying t = some (.slice (P.elem t)) := by rw [hel]; exact hu
      have i3' : (hq.getD (rLen es)) ≤ (cap : Int) := by simp only [rLen] at i3 ⊢; omega
      obtain ⟨inf, hi1, hi2⟩ := sizeT_info hz
      have hso : ∀ W, (sizeOf (P.elem t)).run P W = .ok sz W := by intro W; rw [hel]; simp [sizeOf, typeInfo, hi1, hi2]
      have hrep := rep_sliced hr hz l.toNat (hq.getD (rLen es)).toNat (by omega) (by simp only [rLen] at i3 ⊢; omega)
      refine ⟨sliced a0 l.toNat (hq.getD (rLen es)).toNat cap sz, ?_, hrep⟩
      rcases hlo with ⟨e1, rfl⟩ | ⟨kl, e1⟩ <;> rcases hhi with ⟨e2, rfl⟩ | ⟨kh, hn, e2, rfl⟩ <;> simp only [Option.getD_none, Option.getD_some, rLen] at i1 i2 i3 i3'
      · simp [execOp, ho, hv, e1, e2, run_sliceAt_slice (h := hu'), run_slice_all (ht := hu'), hso, rLen]
      · simp [execOp, ho, hv, e1, e2, run_sliceAt_slice (h := hu'), run_slice_h (ht := hu') (h0 := i2) (h2 := i3'), hso, rLen]
      · simp [execOp, ho, hv, e1, e2, run_sliceAt_slice (h := hu'), run_slice_l (ht := hu') (h0 := i1) (h1 := i2), hso, rLen]
      · simp [execOp, ho, hv, e1, e2, run_sliceAt_slice (h := hu'), run_slice_lh (ht := hu') (h0 := i1) (h1 := i2) (h2 := i3'), hso, rLen]
    · cases hp
  · -- slice3
    rename_i t y lo hi mx ho
    have hmx : ∀ z, hiV (some (ev ts L mx)) = some (some z) → ∃ k, a.eval mx = .int k z := by
      intro z hz
      rcases hiV_run hz (rep_opt h hL (some mx)) with ⟨_, e⟩ | ⟨km, m, e1, e2⟩
      · cases e
      · injection e2 with e2; subst e2
        exact ⟨km, by simpa using e1⟩
    split at hp
    · rename_i e0 el es k hu hy hl hh hm
      rw [cond_eq_ite] at hp
      split at hp
      · rename_i hb
        have hb' := Nat.eq_of_beq_eq_true hb
        subst hb'
        injection hp with hp; injection hp with e1 e2; subst e1
        have hlo := loV_run hl (rep_opt h hL lo)
        have hhi := hiV_run hh (rep_opt h hL hi)
        obtain ⟨km, e3⟩ := hmx 0 hm
        have hr := hy ▸ E_ y
        obtain ⟨a0, cap, sz, hv, hcap, hz⟩ := rep_slice_inv hr
        have hel : P.elem t = e0 := by simp [Program.elem, hu]
        have hu' : P.underlying t = some (.slice (P.elem t)) := by rw [hel]; exact hu
        obtain ⟨inf, hi1, hi2⟩ := sizeT_info hz
        have hso : ∀ W, (sizeOf (P.elem t)).run P W = .ok sz W := by intro W; rw [hel]; simp [sizeOf, typeInfo, hi1, hi2]
        refine ⟨.slice a0 0 0, ?_, .slice e0 [] .full a0 0 sz (fun _ => undef) (Nat.le_refl _) (fun _ => rfl) hz (fun i r hh => by simp at hh) (fun i r j x hh => by simp at hh) (fun i r j x hh => by simp at hh) rfl⟩
        rcases hhi with ⟨_, e⟩ | ⟨kh, hn, e2, e⟩
        · cases e
        · injection e with e; subst e
          rcases hlo with ⟨e1, _⟩ | ⟨kl, e1⟩
          · have q := run_slice_hm (P := P) E.w t a0 es.length cap hu' kh km 0 0 (Int.le_refl _) (Int.le_refl _) (Int.natCast_nonneg _)
            simp [execOp, ho, hv, e1, e2, e3, run_sliceAt_slice (h := hu'), q, hso, sliced]
          · have q := run_slice_lhm (P := P) E.w t a0 es.length cap hu' kl kh km 0 0 0 (Int.le_refl _) (Int.le_refl _) (Int.le_refl _) (Int.natCast_nonneg _)
            simp [execOp, ho, hv, e1, e2, e3, run_sliceAt_slice (h := hu'), q, hso, sliced]
      · cases hp
    · rename_i e0 hu hy hl hh hm
      have hlo := loV_run hl (rep_opt h hL lo)
      have hhi := hiV_run hh (rep_opt h hL hi)
      obtain ⟨km, e3⟩ := hmx 0 hm
      have hv := rep_nils_inv (hy ▸ E_ y)
      have hel : P.elem t = e0 := by simp [Program.elem, hu]
      have hu' : P.underlying t = some (.slice (P.elem t)) := by rw [hel]; exact hu
      obtain ⟨sz, hz⟩ : ∃ sz, sizeT P e0 = some sz := by
        cases hq : sizeT P e0 with
        | some sz => exact ⟨sz, rfl⟩
        | none => rw [hq] at hp; cases hp
      rw [hz] at hp
      injection hp with hp; injection hp with e1 e2; subst e1
      obtain ⟨inf, hi1, hi2⟩ := sizeT_info hz
      have hso : ∀ W, (sizeOf (P.elem t)).run P W = .ok sz W := by intro W; rw [hel]; simp [sizeOf, typeInfo, hi1, hi2]
      refine ⟨.slice none 0 0, ?_, .nils⟩
      rcases hhi with ⟨_, e⟩ | ⟨kh, hn, e2, e⟩
      · cases e
      · injection e with e; subst e
        rcases hlo with ⟨e1, _⟩ | ⟨kl, e1⟩
        · have q := run_slice_hm (P := P) E.w t none 0 0 hu' kh km 0 0 (Int.le_refl _) (Int.le_refl _) (Int.natCast_nonneg _)
          simp [execOp, ho, hv, e1, e2, e3, run_sliceAt_slice (h := hu'), q, hso, sliced]
        · have q := run_slice_lhm (P := P) E.w t none 0 0 hu' kl kh km 0 0 0 (Int.le_refl _) (Int.le_refl _) (Int.le_refl _) (Int.natCast_nonneg _)
          simp [execOp, ho, hv, e1, e2, e3, run_sliceAt_slice (h := hu'), q, hso, sliced]
    · cases hp
  · -- makeFunc
    rename_i f first caps ho
    split at hp
    · rename_i xs hf hxs
      rw [cond_eq_ite] at hp
      split at hp
      · injection hp with hp; injection hp with e1 e2; subst e1
        refine ⟨.func (.func f) #[] (caps.map a.eval), ?_, ?_⟩
        · have : first = #[] := by cases first; simp_all
          simp [execOp, ho, Instr.makeFunc, this]
        · refine .fn f _ _ (by simp) (fun i x hi => ?_)
          rw [List.getElem?_map, Option.map_eq_some_iff] at hi
          obtain ⟨y, hy, rfl⟩ := hi
          have : (caps.map a.eval).getD i undef = a.eval y := by
            rw [Array.getElem?_toList] at hy
            simp [Array.getD_eq_getD_getElem?, hy]
          rw [this]; exact E_ y
      · cases hp
    · cases hp
  · -- entry
    rename_i y ho
    split at hp
    · rename_i d m hy
      rw [Option.bind_eq_some_iff] at hp
      obtain ⟨q, hq, hp⟩ := hp
      rw [Option.bind_eq_some_iff] at hp
      obtain ⟨p, hpq, hp⟩ := hp
      rw [Option.bind_eq_some_iff] at hp
      obtain ⟨e, he, hp⟩ := hp
      rw [cond_eq_ite] at hp
      split at hp
      · rename_i hb
        have hb := Nat.eq_of_beq_eq_true hb
        rw [Option.map_eq_some_iff] at hp
        obtain ⟨u, hu, hp⟩ := hp
        injection hp with e1 e2; subst e1
        have hcc := hc _ e2.symm
        simp only [bAnd, Bool.and_eq_true] at hcc
        obtain ⟨m', n, seen⟩ := q
        simp only [] at hb hcc hu
        subst hb
        obtain ⟨v, r1, r2⟩ := entry_sound hI (hy ▸ E_ y) hq hpq he (by simpa [iEq] using hcc.1) hcc.2 hu
        refine ⟨_, by simp [execOp, ho, r1]; rfl, ?_⟩
        refine .tuple _ _ rfl (fun j z hj => ?_)
        match j, hj with
        | 0, hj => injection hj with hj; subst hj; exact .str _
        | 1, hj => injection hj with hj; subst hj; exact r2
        | j + 2, hj => simp at hj
      · cases hp
    · cases hp
  · -- lookup
    rename_i t y i ok ho
    split at hp
    · rename_i e n ks hm hy hi
      rw [Option.bind_eq_some_iff] at hp
      obtain ⟨p, hq, hp⟩ := hp
      rw [cond_eq_ite] at hp
      split at hp
      · rename_i ht
        have ht := Nat.eq_of_beq_eq_true ht
        rw [Option.bind_eq_some_iff] at hp
        obtain ⟨z, hz, hp⟩ := hp
        rw [Option.bind_eq_some_iff] at hz
        obtain ⟨z0, hz0, hz⟩ := hz
        rw [Option.map_eq_some_iff] at hp
        obtain ⟨u, hu, hp⟩ := hp
        injection hp with e1 e2; subst e1
        obtain ⟨v, r1, r2⟩ := lookup_sound hI hm (hy ▸ E_ y) hq ht hz0 hz hu ok
        have hk := rep_str_inv (hi ▸ E_ i)
        refine ⟨_, by simp [execOp, ho, hk, r1]; rfl, ?_⟩
        cases ok with
        | false => exact r2
        | true =>
          refine .tuple _ _ rfl (fun j y hj => ?_)
          match j, hj with
          | 0, hj => injection hj with hj; subst hj; exact r2
          | 1, hj => injection hj with hj; subst hj; exact .bool _
          | j + 2, hj => simp at hj
      · cases hp
    · cases hp
  · -- convert
    rename_i src dst y ho
    split at hp
    · rename_i k0 k kk n h1 h2 hy
      injection hp with hp; injection hp with e1 e2; subst e1
      have hv := rep_int_inv (hy ▸ E_ y)
      exact ⟨_, by simp [execOp, ho, hv, convert, underlying, h1, h2, Conv.intToInt]; rfl, .int _ _⟩
    · rename_i b h1 h2 hy
      injection hp with hp; injection hp with e1 e2; subst e1
      have hv := rep_str_inv (hy ▸ E_ y)
      exact ⟨.string b, by simp [execOp, ho, hv, convert, underlying, h1, h2], .str _⟩
    · rename_i e0 el es k h1 h2 hy
      split at hp
      · rename_i hu8
        rw [cond_eq_ite] at hp
        split at hp
        · rename_i hb
          have hb' := Nat.eq_of_beq_eq_true hb
          subst hb'
          injection hp with hp; injection hp with e1 e2; subst e1
          have hr := hy ▸ E_ y
          obtain ⟨a0, cap, sz, hv, hcap, hz⟩ := rep_slice_inv hr
          rw [hv] at hr
          obtain ⟨v, r1, r2⟩ := bytes_run hr hu8
          subst r1
          refine ⟨.string (sRows es), ?_, .str _⟩
          simp [execOp, ho, hv, convert, underlying, h1, h2, hu8, r2]
        · cases hp
      · cases hp
    · cases hp
  · -- call
    rename_i cl ho
    have arr : ∀ l, cl.args.toList.map (ev ts L) = l → ∃ vs : List Value, (cl.args.map a.eval) = vs.toArray ∧ vs.length = l.length ∧ ∀ (i : Nat) (x : V), l[i]? = some x → ∃ v, vs[i]? = some v ∧ Rep P E v x := by
      intro l hl
      refine ⟨cl.args.toList.map a.eval, by rw [← Array.toList_map], by subst hl; simp, fun i x hx => ?_⟩
      rw [← hl, List.getElem?_map, Option.map_eq_some_iff] at hx
      obtain ⟨y, hy, rfl⟩ := hx
      exact ⟨a.eval y, by rw [List.getElem?_map, hy]; rfl, E_ y⟩
    split at hp
    · rename_i y hcl has
      obtain ⟨vs, h1, h2, h3⟩ := arr _ has
      obtain ⟨v, h4, h5⟩ := h3 0 y rfl
      have h6 : cl.args.map a.eval = #[v] := by
        rw [h1]
        match vs, h2, h4 with
        | [w], _, h4 => simp at h4; subst h4; rfl
      have key : ∀ (n : Int), (∀ t0, cl.argTypes[0]? = some t0 → (Builtin.len_ cl.argTypes o.type (cl.args.map a.eval)).run P E.w = .ok (goInt n) E.w) → (∃ t0, cl.argTypes[0]? = some t0) → x = .int .i64 n → Says P E a o x := by
        intro n hr ht hx
        obtain ⟨t0, ht0⟩ := ht
        refine ⟨goInt n, ?_, by rw [hx]; exact .int _ _⟩
        simp [execOp, ho, resolve, hcl, invoke, builtin, hr t0 ht0]
      have t0' : ∀ d, (cl.argTypes[0]?).bind P.underlying = some d → ∃ t0, cl.argTypes[0]? = some t0 ∧ P.underlying t0 = some d := by
        intro d hd
        rw [Option.bind_eq_some_iff] at hd
        exact hd
      split at hp
      · rename_i b hd
        injection hp with hp; injection hp with e1 e2
        obtain ⟨t0, ht0, hu⟩ := t0' _ hd
        refine key (sLen b) (fun t1 ht1 => ?_) ⟨t0, ht0⟩ e1.symm
        rw [ht0] at ht1; injection ht1 with ht1; subst ht1
        rw [h6, rep_str_inv h5]
        simp [Builtin.len_, ht0, run_underlying hu, sLen]
      · rename_i e0 e1 es k hd
        injection hp with hp; injection hp with q1 q2
        obtain ⟨t0, ht0, hu⟩ := t0' _ hd
        refine key (rLen es) (fun t1 ht1 => ?_) ⟨t0, ht0⟩ q1.symm
        rw [ht0] at ht1; injection ht1 with ht1; subst ht1
        obtain ⟨a0, cap, sz, hv, _⟩ := rep_slice_inv h5
        rw [h6, hv]
        simp [Builtin.len_, ht0, run_underlying hu, rLen]
      · rename_i e0 hd
        injection hp with hp; injection hp with q1 q2
        obtain ⟨t0, ht0, hu⟩ := t0' _ hd
        refine key 0 (fun t1 ht1 => ?_) ⟨t0, ht0⟩ q1.symm
        rw [ht0] at ht1; injection ht1 with ht1; subst ht1
        rw [h6, rep_nils_inv h5]
        simp [Builtin.len_, ht0, run_underlying hu]
      · rename_i e0 _ _ _ _ len hd
        injection hp with hp; injection hp with q1 q2
        obtain ⟨t0, ht0, hu⟩ := t0' _ hd
        refine key len (fun t1 ht1 => ?_) ⟨t0, ht0⟩ q1.symm
        rw [ht0] at ht1; injection ht1 with ht1; subst ht1
        obtain ⟨a0, c0, hv, g0, _⟩ := rep_aref_inv h5
        rw [h6, hv]
        simp [Builtin.len_, ht0, run_underlying hu, Int.toNat_of_nonneg g0]
      · cases hp
    · rename_i k m k' n hcl has
      rw [cond_eq_ite] at hp
      split at hp
      · rename_i hk
        have hk' := eq_of_beq hk
        subst hk'
        injection hp with hp; injection hp with e1 e2; subst e1
        obtain ⟨vs, h1, h2, h3⟩ := arr _ has
        obtain ⟨v, h4, h5⟩ := h3 0 _ rfl
        obtain ⟨w, h6, h7⟩ := h3 1 _ rfl
        match vs, h2, h4, h6 with
        | [p, q], _, h4, h6 =>
          simp at h4 h6; subst h4; subst h6
          rw [rep_int_inv h5, rep_int_inv h7] at h1
          refine ⟨.int k (iMax m n), ?_, .int _ _⟩
          simp [execOp, ho, resolve, hcl, invoke, builtin, h1, Builtin.max_, Builtin.max2, iMax] <;> rfl
      · cases hp
    · rename_i k m k' n hcl has
      rw [cond_eq_ite] at hp
      split at hp
      · rename_i hk
        have hk' := eq_of_beq hk
        subst hk'
        injection hp with hp; injection hp with e1 e2; subst e1
        obtain ⟨vs, h1, h2, h3⟩ := arr _ has
        obtain ⟨v, h4, h5⟩ := h3 0 _ rfl
        obtain ⟨w, h6, h7⟩ := h3 1 _ rfl
        match vs, h2, h4, h6 with
        | [p, q], _, h4, h6 =>
          simp at h4 h6; subst h4; subst h6
          rw [rep_int_inv h5, rep_int_inv h7] at h1
          refine ⟨.int k (iMin m n), ?_, .int _ _⟩
          simp [execOp, ho, resolve, hcl, invoke, builtin, h1, Builtin.min_, Builtin.min2, iMin] <;> rfl
      · cases hp
    · rename_i k m k' n k'' r hcl has
      rw [cond_eq_ite] at hp
      split at hp
      · rename_i hk
        rw [Bool.and_eq_true] at hk
        have hk' := eq_of_beq hk.1
        have hk'' := eq_of_beq hk.2
        subst hk'; subst hk''
        injection hp with hp; injection hp with e1 e2; subst e1
        obtain ⟨vs, h1, h2, h3⟩ := arr _ has
        obtain ⟨v, h4, h5⟩ := h3 0 _ rfl
        obtain ⟨w, h6, h7⟩ := h3 1 _ rfl
        obtain ⟨w2, h8, h9⟩ := h3 2 _ rfl
        match vs, h2, h4, h6, h8 with
        | [p, q, s], _, h4, h6, h8 =>
          simp at h4 h6 h8; subst h4; subst h6; subst h8
          rw [rep_int_inv h5, rep_int_inv h7, rep_int_inv h9] at h1
          refine ⟨.int k (iMax (iMax m n) r), ?_, .int _ _⟩
          simp [execOp, ho, resolve, hcl, invoke, builtin, h1, Builtin.max_, Builtin.max2, iMax] <;> rfl
      · cases hp
    · rename_i k m k' n k'' r hcl has
      rw [cond_eq_ite] at hp
      split at hp
      · rename_i hk
        rw [Bool.and_eq_true] at hk
        have hk' := eq_of_beq hk.1
        have hk'' := eq_of_beq hk.2
        subst hk'; subst hk''
        injection hp with hp; injection hp with e1 e2; subst e1
        obtain ⟨vs, h1, h2, h3⟩ := arr _ has
        obtain ⟨v, h4, h5⟩ := h3 0 _ rfl
        obtain ⟨w, h6, h7⟩ := h3 1 _ rfl
        obtain ⟨w2, h8, h9⟩ := h3 2 _ rfl
        match vs, h2, h4, h6, h8 with
        | [p, q, s], _, h4, h6, h8 =>
          simp at h4 h6 h8; subst h4; subst h6; subst h8
          rw [rep_int_inv h5, rep_int_inv h7, rep_int_inv h9] at h1
          refine ⟨.int k (iMin (iMin m n) r), ?_, .int _ _⟩
          simp [execOp, ho, resolve, hcl, invoke, builtin, h1, Builtin.min_, Builtin.min2, iMin] <;> rfl
      · cases hp
    · cases hp
  · cases hp
end Go.Proofs.YtolackmpfnndhaaGreatDoor.Ev
