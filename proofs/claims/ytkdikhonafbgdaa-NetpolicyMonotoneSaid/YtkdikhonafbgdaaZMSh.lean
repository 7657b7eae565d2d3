/- Part of a claim: see its row. Conditions: stated at each. -/
import Derived.Test.YtkdikhonafbgdaaZMW0
import Derived.ChangeKeysEq
namespace Go.Proofs.Ytkdikhonafbgdaa.Sh
open Go.RowKit Go.Proofs.YtkdikhonafbgdaaW.PrintWords Go.Proofs.YtkdikhonafbgdaaW.PrintLast Go.Proofs.YtkdikhonafbgdaaW.PrintMore
set_option linter.unusedVariables false
theorem s_a {p : Prop} (h : p) : Aside0 p := ⟨h⟩
theorem s_b {w W0 W : World} (h : Below w.heap.size w W0) (hq : Below W0.heap.size W0 W := by repeat (first | exact Below.refl _ _ | apply below_alloc | apply pw_below_drewN | apply below_drew1)) : Below w.heap.size w W := below_step h hq
theorem s_k {W0 W : World} {g : Nat} {o : Obj} (h : W0.heap[g]? = some o) (hq : Below W0.heap.size W0 W := by repeat (first | exact Below.refl _ _ | apply below_alloc | apply pw_below_drewN | apply below_drew1)) : W.heap[g]? = some o := blk_below h hq
section
variable {α : Type} {d : Kd α} {e : Nat} {w W0 W : World} {base : Nat} {ok : Nat → Prop} {v : Value} {xs : List α}
theorem s_C {A : Option Addr} {n : Nat} (h : d.C W0 A n xs) (hq : Below W0.heap.size W0 W := by repeat (first | exact Below.refl _ _ | apply below_alloc | apply pw_below_drewN | apply below_drew1)) : d.C W A n xs := Kd.C_below h hq
theorem s_D {A : Option Addr} {n : Nat} (h : d.C w A n xs) (hb : Below w.heap.size w W0) (hq : Below W0.heap.size W0 W := by repeat (first | exact Below.refl _ _ | apply below_alloc | apply pw_below_drewN | apply below_drew1)) : d.C W A n xs := Kd.C_below (Kd.C_below h hb) hq
theorem s_R (h : Kd.R d e W0 base ok v xs) (hq : Below W0.heap.size W0 W := by repeat (first | exact Below.refl _ _ | apply below_alloc | apply pw_below_drewN | apply below_drew1)) : Kd.R d e W base ok v xs := Kd.R_below h hq
theorem s_N (h : Kd.N d e W0 base ok v xs) (hq : Below W0.heap.size W0 W := by repeat (first | exact Below.refl _ _ | apply below_alloc | apply pw_below_drewN | apply below_drew1)) : Kd.N d e W base ok v xs := Kd.N_below h hq
theorem s_V (h : Kd.V d e W0 base ok v xs) (hq : Below W0.heap.size W0 W := by repeat (first | exact Below.refl _ _ | apply below_alloc | apply pw_below_drewN | apply below_drew1)) : Kd.V d e W base ok v xs := Kd.V_below h hq
end
theorem some_ne {a b : Nat} (h : a ≠ b) : (some a : Option Nat) ≠ some b := fun e => h (Option.some.inj e)
theorem s_m {w W : World} {p : Addr} {v : Value} (hb : Below w.heap.size w W) (h : w.cell? p = some v) : W.cell? p = some v := (hb.cell (World.block_lt_of_cell? w _ h)).trans h
section
variable {P : Program} {w : World} {d : Nat} {e : TypeId} {sz : Nat} {xs ys : Array Value} {j : Nat} {is : List Nat} {a b : Value} {r s : Bool}
theorem eqi_last (ha : (part e xs (j * sz)).run P w = .ok a w) (hb : (part e ys (j * sz)).run P w = .ok b w) (he : (Op.equalIn d e a b).run P w = .ok r w) : (Op.eqItems d e sz xs ys [j]).run P w = .ok r w := by
  simp only [Op.eqItems, Sem.run_bind, ha, hb, he, Result.andThen_ok]
  cases r <;> simp
theorem eqi_cons (ha : (part e xs (j * sz)).run P w = .ok a w) (hb : (part e ys (j * sz)).run P w = .ok b w) (he : (Op.equalIn d e a b).run P w = .ok r w) (hr : (Op.eqItems d e sz xs ys is).run P w = .ok s w) : (Op.eqItems d e sz xs ys (j :: is)).run P w = .ok (r && s) w := by
  rw [Op.eqItems]
  simp only [Sem.run_bind, ha, hb, he, Result.andThen_ok]
  cases r
  · simp
  · simpa using hr
theorem eqi_of {t : TypeId} {n : Nat} (hu : P.underlying t = some (.array n e)) (hi : (P.info? e).isSome = true) (hc : P.cellsOf e = sz) (h : (Op.eqItems d e sz xs ys (List.range n)).run P w = .ok r w) : (Op.equalIn (d + 1) t (.agg xs) (.agg ys)).run P w = .ok r w := by
  obtain ⟨i, hi⟩ := Option.isSome_iff_exists.1 hi
  rw [run_equalIn_array (w := w) d xs ys hu hi, hc]
  exact h
end
section
variable {P : Program} {ops : Array Oper} {rest : List Oper} {o : Oper} {a : Act} {Q : Exit → Act → World → Prop}
theorem load_at {w : World} (hgd : o.guard = none) (ty : TypeId) (x : Operand) (ho : o.op = .load ty x) (A : Addr) (hx : a.eval x = .pointer (some A)) (cs : Array Value) (d : TypeDesc)
    (hc : ∀ j v, cs[j]? = some v → w.cell? (A.add j) = some v) (hu : P.underlying ty = some d) (hd : (match d with | .struct _ | .array _ _ => true | _ => false) = true) (hi : (P.info? ty).map (·.size) = some cs.size)
    (h : wpList P ops Q rest (a.put o.dst (.agg cs)) w) : wpList P ops Q (o :: rest) a w := by
  have hl : (loadCells A cs.toList.length).run P w = .ok cs.toList.toArray w := run_loadCells_list (P := P) w A cs.toList (fun j v hv => hc j v (by simpa using hv))
  have hrun : (loadVar ty A).run P w = .ok (.agg cs) w := by
    cases hq : P.info? ty with
    | none => simp [hq] at hi
    | some i =>
      have hs : i.size = cs.size := by simpa [hq] using hi
      have hagg : (isAgg ty).run P w = .ok true w := by
        unfold isAgg
        rw [Sem.run_bind, run_underlying hu w]
        cases d <;> simp_all
      simp only [Array.length_toList, Array.toArray_toList] at hl
      simp [loadVar, Sem.run_bind, hagg, sizeOf, typeInfo, hq, hs, hl]
  refine wpList_plain hgd fun K hK => ?_
  unfold Oper.wp execOp
  simp only [ho, hx, Instr.loadAt, Instr.sureAddr, Sem.run_bind, Sem.run_pure, Result.andThen_ok, hrun]
  exact hK _ _ h
theorem store_all {w : World} (hgd : o.guard = none) (ty : TypeId) (x y : Operand) (ho : o.op = .store ty x y) (g : Nat) (cells : Array Value) (hx : a.eval x = .pointer (some ⟨g, 0, none⟩)) (hy : a.eval y = .agg cells)
    (t : TypeId) (old : Array Value) (hg : w.heap[g]? = some (.cells old t (0, 0))) (hi : (P.info? ty).map (·.size) = some cells.size) (hold : old.size = cells.size) (h1 : cells.all (·.oneCell') = true) (hN : o.dst = none)
    (h : ∀ w', w'.heap[g]? = some (.cells cells t (0, 0)) → w.grownBy w' (some g) → wpList P ops Q rest a w') : wpList P ops Q (o :: rest) a w := by
  refine wpList_store_row hgd ty x y ho g cells hx hy t old hg hi hold h1 ?_
  rw [hN]
  exact h _ (setRow_heap w g old cells t (0, 0) hg) ⟨rfl, rfl, rfl, by simp, fun k hk hne => setRow_other w g k cells (fun e => hne (by rw [e]))⟩
end
theorem s_g {w W W1 : World} {g : Nat} (h : Below w.heap.size w W) (hg : W.grownBy W1 (some g)) (hge : w.heap.size ≤ g) : Below w.heap.size w W1 :=
  ⟨hg.os.trans h.os, hg.tape.trans h.tape, hg.output.trans h.output, Nat.le_trans h.size hg.size, fun k hk => (hg.block k (Nat.lt_of_lt_of_le hk h.size) (fun e => by have := Option.some.inj e; omega)).trans (h.block k hk)⟩
def CellsL (W : World) (X : Addr) : Nat → List Value → Prop
  | _, [] => True
  | k, c :: cs => W.cell? ⟨X.block, X.off + k, none⟩ = some c ∧ CellsL W X (k + 1) cs
theorem s_cn {W : World} {X : Addr} {k : Nat} : CellsL W X k [] := trivial
theorem s_cc {W : World} {X : Addr} {k : Nat} {c : Value} {cs : List Value} (h : W.cell? ⟨X.block, X.off + k, none⟩ = some c) (hs : CellsL W X (k + 1) cs) : CellsL W X k (c :: cs) := ⟨h, hs⟩
theorem cellsL_get {W : World} {X : Addr} : ∀ (cs : List Value) (k j : Nat) (v : Value), CellsL W X k cs → cs[j]? = some v → W.cell? ⟨X.block, X.off + (k + j), none⟩ = some v
  | c :: cs, k, 0, v, h, hv => by
    simp only [List.getElem?_cons_zero, Option.some.injEq] at hv
    subst hv
    exact h.1
  | c :: cs, k, j + 1, v, h, hv => by
    have := cellsL_get cs (k + 1) j v h.2 (by simpa using hv)
    rwa [show k + 1 + j = k + (j + 1) by omega] at this
  | [], k, j, v, _, hv => by simp at hv
theorem cells_at {W : World} {X : Addr} {c : Value} {cs : List Value} (h0 : W.cell? X = some c) (h : CellsL W X 1 cs) : ∀ j v, (c :: cs).toArray[j]? = some v → W.cell? (X.add j) = some v := by
  intro j v hj
  cases j with
  | zero =>
    have : c = v := by simpa using hj
    subst this
    unfold Addr.add
    simpa using h0
  | succ j =>
    have h2 := cellsL_get cs 1 j v h (by simpa using hj)
    unfold Addr.add
    rw [if_neg (by omega)]
    rwa [show 1 + j = j + 1 by omega] at h2
theorem s_ld {P : Program} {o : Oper} {f : Operand → Value} {w : World} (hgd : True = True) (ty : TypeId) (x : Operand) (ho : o.op = .load ty x) (A : Addr) (hx : f x = .pointer (some A)) (cs : Array Value) (d : TypeDesc)
    (hc : ∀ j v, cs[j]? = some v → w.cell? (A.add j) = some v) (hu : P.underlying ty = some d) (hd : (match d with | .struct _ | .array _ _ => true | _ => false) = true) (hi : (P.info? ty).map (·.size) = some cs.size) :
    (execOp f o).run P w = .ok (.value (.agg cs)) w := by
  have hl : (loadCells A cs.toList.length).run P w = .ok cs.toList.toArray w := run_loadCells_list (P := P) w A cs.toList (fun j v hv => hc j v (by simpa using hv))
  have hrun : (loadVar ty A).run P w = .ok (.agg cs) w := by
    cases hq : P.info? ty with
    | none => simp [hq] at hi
    | some i =>
      have hs : i.size = cs.size := by simpa [hq] using hi
      have hagg : (isAgg ty).run P w = .ok true w := by
        unfold isAgg
        rw [Sem.run_bind, run_underlying hu w]
        cases d <;> simp_all
      simp only [Array.length_toList, Array.toArray_toList] at hl
      simp [loadVar, Sem.run_bind, hagg, sizeOf, typeInfo, hq, hs, hl]
  unfold execOp
  simp only [ho, hx, Instr.loadAt, Instr.sureAddr, Sem.run_bind, Sem.run_pure, Result.andThen_ok, hrun]
def bzl : Nat → Nat → List Bool
  | 0, _ => []
  | n + 1, m => (m % 2 == 1) :: bzl n (m / 2)
def bz (n m : Nat) : Array Bool := (bzl n m).toArray
section
variable {P : Program} {ops : Array Oper} {Q : Exit → Act → World → Prop} {md : Region.Mode} {S : World → Prop} {ds : List Nat}
theorem q_p (i : Nat) (N : Option Tmp) {oi : Oper} {v : Value} {a' : Act} {fuel : Nat} {l : Array Bool} {a : Act} {w : World} (l' : Array Bool) (hc : anyB md ops l l' i = true) (hy : ∀ w, (execOp a.eval oi).run P w = .ok (.value v) w) (ha : a.put N v = a')
    (h : wpAnyLast P md ops Q S ds fuel l' a' w) (hi : ops[i]? = some oi := by exact rfl) (hN : oi.dst = N := by exact rfl) (hw : Region.wanted oi (yielded ops a.tmps) = true := by rfl) (hQ : ∀ c a w, Q (.panic c) (a.put oi.dst v) w → Q (.panic c) a w := by exact fun _ _ _ h => h) :
    wpAnyLast P md ops Q S ds (fuel + 1) l a w := pure_ l' hi hN hc hQ (Or.inl ⟨hw, hy⟩) ha h
theorem q_t (i : Nat) (N : Option Tmp) {oi : Oper} {v : Value} {a' : Act} {fuel : Nat} {l : Array Bool} {a : Act} {w : World} (l' : Array Bool) (hc : takeB md ops ds l l' i = true) (hS : S w) (hy : ∀ w, S w → (execOp a.eval oi).run P w = .ok (.value v) w) (ha : a.put N v = a')
    (h : wpAnyLast P md ops Q S ds fuel l' a' w) (hi : ops[i]? = some oi := by exact rfl) (hN : oi.dst = N := by exact rfl) (hw : Region.wanted oi (yielded ops a.tmps) = true := by rfl) (hQ : ∀ c a w, Q (.panic c) (a.put oi.dst v) w → Q (.panic c) a w := by exact fun _ _ _ h => h) :
    wpAnyLast P md ops Q S ds (fuel + 1) l a w := take_ l' hi hN hc hQ (Or.inl ⟨hw, hy⟩) hS ha h
theorem q_o (i : Nat) (N : Option Tmp) {oi : Oper} {fuel : Nat} {l : Array Bool} {a : Act} {w : World} (l' : Array Bool) (hc : anyB md ops l l' i = true) {a' : Act} (ha : a.put N undef = a')
    (h : wpAnyLast P md ops Q S ds fuel l' a' w) (hi : ops[i]? = some oi := by exact rfl) (hN : oi.dst = N := by exact rfl) (hw : Region.wanted oi (yielded ops a.tmps) = false := by rfl) (hQ : ∀ c a w, Q (.panic c) (a.put oi.dst undef) w → Q (.panic c) a w := by exact fun _ _ _ h => h) :
    wpAnyLast P md ops Q S ds (fuel + 1) l a w := pure_ l' hi hN hc hQ (Or.inr ⟨hw, rfl⟩) ha h
end
theorem s_x {W : World} {g : Nat} {cs : Array Value} {t : TypeId} (h : W.heap[g]? = some (.cells cs t (0, 0))) (j : Nat) {v : Value} (hv : cs[j]? = some v := by exact rfl) : W.cell? ⟨g, j, none⟩ = some v := (blk_cell h j).trans hv
end Go.Proofs.Ytkdikhonafbgdaa.Sh
