/- Part of a claim: see its row. Conditions: stated at each. -/
import Derived.Test.YthkdpkgkejdcgaaZEW0
import Derived.ChangeKeysEq
import Derived.Lib.SliceRun
namespace Go.Proofs.Ythkdpkgkejdcgaa.Sh
open Go.RowKit Go.Proofs.YthkdpkgkejdcgaaW.PrintWords Go.Proofs.YthkdpkgkejdcgaaW.PrintLast Go.Proofs.YthkdpkgkejdcgaaW.PrintMore
set_option linter.unusedVariables false
theorem s_a {p : Prop} (h : p) : Aside0 p := ⟨h⟩
theorem s_b {w W0 W : World} (h : Below w.heap.size w W0) (hq : Below W0.heap.size W0 W := by repeat (first | exact Below.refl _ _ | apply below_alloc | apply pw_below_drewN | apply below_drew1)) : Below w.heap.size w W := below_step h hq
theorem s_k {W0 W : World} {g : Nat} {o : Obj} (h : W0.heap[g]? = some o) (hq : Below W0.heap.size W0 W := by repeat (first | exact Below.refl _ _ | apply below_alloc | apply pw_below_drewN | apply below_drew1)) : W.heap[g]? = some o := blk_below h hq
section
variable {α : Type} {d : Kd α} {e : Nat} {w W0 W : World} {base : Nat} {ok : Nat → Prop} {v : Value} {xs : List α}
theorem s_C {A : Option Addr} {n : Nat} (h : d.C W0 A n xs) (hq : Below W0.heap.size W0 W := by repeat (first | exact Below.refl _ _ | apply below_alloc | apply pw_below_drewN | apply below_drew1)) : d.C W A n xs := Kd.C_below h hq
theorem s_D {A : Option Addr} {n : Nat} (h : d.C w A n xs) (hb : Below w.heap.size w W0) (hq : Below W0.heap.size W0 W := by repeat (first | exact Below.refl _ _ | apply below_alloc | apply pw_below_drewN | apply below_drew1)) : d.C W A n xs := Kd.C_below (Kd.C_below h hb) hq
theorem s_R (h : Kd.R d e W0 base ok v xs) (hq : Below W0.heap.size W0 W := by repeat (first | exact Below.refl _ _ | apply below_alloc | apply pw_below_drewN | apply below_drew1)) : Kd.R d e W base ok v xs := Kd.R_below h hq
theorem s_N (h : Kd.N d e W0 base ok v xs) (hq : Below W0.heap.size W0 W := by repeat (first | exact Below.refl _ _ | apply below_alloc | apply pw_below_drewN | apply below_drew1)) : Kd.N d e W base ok v xs := Kd.N_below h hq
theorem s_V (h : Kd.V d e W0 base ok v xs) (hq : Below W0.heap.size W0 W := by repeat (first | exact Below.refl _ _ | apply below_alloc | apply pw_below_drewN | apply below_drew1)) : Kd.V d e W base ok v xs := Kd.V_below h hq
end
theorem some_ne {a b : Nat} (h : a ≠ b) : (some a : Option Nat) ≠ some b := fun e => h (Option.some.inj e)
theorem s_m {w W : World} {p : Addr} {v : Value} (hb : Below w.heap.size w W) (h : w.cell? p = some v) : W.cell? p = some v := (hb.cell (World.block_lt_of_cell? w _ h)).trans h
section
variable {P : Program} {ops : Array Oper} {rest : List Oper} {o : Oper} {a : Act} {Q : Exit → Act → World → Prop}
theorem load_at {w : World} (hgd : o.guard = none) (ty : TypeId) (x : Operand) (ho : o.op = .load ty x) (A : Addr) (hx : a.eval x = .pointer (some A)) (cs : Array Value) (d : TypeDesc)
    (hc : ∀ j v, cs[j]? = some v → w.cell? (A.add j) = some v) (hu : P.underlying ty = some d) (hd : (match d with | .struct _ | .array _ _ => true | _ => false) = true) (hi : (P.info? ty).map (·.size) = some cs.size)
    (h : wpList P ops Q rest (a.put o.dst (.agg cs)) w) : wpList P ops Q (o :: rest) a w := by
  have hl : (loadCells A cs.toList.length).run P w = .ok cs.toList.toArray w := run_loadCells_list (P := P) w A cs.toList (fun j v hv => hc j v (by simpa using hv))
  have hrun : (loadVar ty A).run P w = .ok (.agg cs) w := by
    cases hq : P.info? ty with
    | none => simp [hq] at hi
    | some i =>
      have hs : i.size = cs.size := by simpa [hq] using hi
      have hagg : (isAgg ty).run P w = .ok true w := by
        unfold isAgg
        rw [Sem.run_bind, run_underlying hu w]
        cases d <;> simp_all
      simp only [Array.length_toList, Array.toArray_toList] at hl
      simp [loadVar, Sem.run_bind, hagg, sizeOf, typeInfo, hq, hs, hl]
  refine wpList_plain hgd fun K hK => ?_
  unfold Oper.wp execOp
  simp only [ho, hx, Instr.loadAt, Instr.sureAddr, Sem.run_bind, Sem.run_pure, Result.andThen_ok, hrun]
  exact hK _ _ h
theorem store_all {w : World} (hgd : o.guard = none) (ty : TypeId) (x y : Operand) (ho : o.op = .store ty x y) (g : Nat) (cells : Array Value) (hx : a.eval x = .pointer (some ⟨g, 0, none⟩)) (hy : a.eval y = .agg cells)
    (t : TypeId) (old : Array Value) (hg : w.heap[g]? = some (.cells old t (0, 0))) (hi : (P.info? ty).map (·.size) = some cells.size) (hold : old.size = cells.size) (h1 : cells.all (·.oneCell') = true) (hN : o.dst = none)
    (h : ∀ w', w'.heap[g]? = some (.cells cells t (0, 0)) → w.grownBy w' (some g) → wpList P ops Q rest a w') : wpList P ops Q (o :: rest) a w := by
  refine wpList_store_row hgd ty x y ho g cells hx hy t old hg hi hold h1 ?_
  rw [hN]
  exact h _ (setRow_heap w g old cells t (0, 0) hg) ⟨rfl, rfl, rfl, by simp, fun k hk hne => setRow_other w g k cells (fun e => hne (by rw [e]))⟩
end
theorem s_g {w W W1 : World} {g : Nat} (h : Below w.heap.size w W) (hg : W.grownBy W1 (some g)) (hge : w.heap.size ≤ g) : Below w.heap.size w W1 :=
  ⟨hg.os.trans h.os, hg.tape.trans h.tape, hg.output.trans h.output, Nat.le_trans h.size hg.size, fun k hk => (hg.block k (Nat.lt_of_lt_of_le hk h.size) (fun e => by have := Option.some.inj e; omega)).trans (h.block k hk)⟩
def CellsL (W : World) (X : Addr) : Nat → List Value → Prop
  | _, [] => True
  | k, c :: cs => W.cell? ⟨X.block, X.off + k, none⟩ = some c ∧ CellsL W X (k + 1) cs
theorem s_cn {W : World} {X : Addr} {k : Nat} : CellsL W X k [] := trivial
theorem s_cc {W : World} {X : Addr} {k : Nat} {c : Value} {cs : List Value} (h : W.cell? ⟨X.block, X.off + k, none⟩ = some c) (hs : CellsL W X (k + 1) cs) : CellsL W X k (c :: cs) := ⟨h, hs⟩
theorem cellsL_get {W : World} {X : Addr} : ∀ (cs : List Value) (k j : Nat) (v : Value), CellsL W X k cs → cs[j]? = some v → W.cell? ⟨X.block, X.off + (k + j), none⟩ = some v
  | c :: cs, k, 0, v, h, hv => by
    simp only [List.getElem?_cons_zero, Option.some.injEq] at hv
    subst hv
    exact h.1
  | c :: cs, k, j + 1, v, h, hv => by
    have := cellsL_get cs (k + 1) j v h.2 (by simpa using hv)
    rwa [show k + 1 + j = k + (j + 1) by omega] at this
  | [], k, j, v, _, hv => by simp at hv
theorem cells_at {W : World} {X : Addr} {c : Value} {cs : List Value} (h0 : W.cell? X = some c) (h : CellsL W X 1 cs) : ∀ j v, (c :: cs).toArray[j]? = some v → W.cell? (X.add j) = some v := by
  intro j v hj
  cases j with
  | zero =>
    have : c = v := by simpa using hj
    subst this
    unfold Addr.add
    simpa using h0
  | succ j =>
    have h2 := cellsL_get cs 1 j v h (by simpa using hj)
    unfold Addr.add
    rw [if_neg (by omega)]
    rwa [show 1 + j = j + 1 by omega] at h2
theorem s_ld {P : Program} {o : Oper} {f : Operand → Value} {w : World} (hgd : True = True) (ty : TypeId) (x : Operand) (ho : o.op = .load ty x) (A : Addr) (hx : f x = .pointer (some A)) (cs : Array Value) (d : TypeDesc)
    (hc : ∀ j v, cs[j]? = some v → w.cell? (A.add j) = some v) (hu : P.underlying ty = some d) (hd : (match d with | .struct _ | .array _ _ => true | _ => false) = true) (hi : (P.info? ty).map (·.size) = some cs.size) :
    (execOp f o).run P w = .ok (.value (.agg cs)) w := by
  have hl : (loadCells A cs.toList.length).run P w = .ok cs.toList.toArray w := run_loadCells_list (P := P) w A cs.toList (fun j v hv => hc j v (by simpa using hv))
  have hrun : (loadVar ty A).run P w = .ok (.agg cs) w := by
    cases hq : P.info? ty with
    | none => simp [hq] at hi
    | some i =>
      have hs : i.size = cs.size := by simpa [hq] using hi
      have hagg : (isAgg ty).run P w = .ok true w := by
        unfold isAgg
        rw [Sem.run_bind, run_underlying hu w]
        cases d <;> simp_all
      simp only [Array.length_toList, Array.toArray_toList] at hl
      simp [loadVar, Sem.run_bind, hagg, sizeOf, typeInfo, hq, hs, hl]
  unfold execOp
  simp only [ho, hx, Instr.loadAt, Instr.sureAddr, Sem.run_bind, Sem.run_pure, Result.andThen_ok, hrun]
def bzl : Nat → Nat → List Bool
  | 0, _ => []
  | n + 1, m => (m % 2 == 1) :: bzl n (m / 2)
def bz (n m : Nat) : Array Bool := (bzl n m).toArray
section
variable {P : Program} {ops : Array Oper} {Q : Exit → Act → World → Prop} {md : Region.Mode} {S : World → Prop} {ds : List Nat}
theorem q_p (i : Nat) (N : Option Tmp) {oi : Oper} {v : Value} {a' : Act} {fuel : Nat} {l : Array Bool} {a : Act} {w : World} (l' : Array Bool) (hc : anyB md ops l l' i = true) (hy : ∀ w, (execOp a.eval oi).run P w = .ok (.value v) w) (ha : a.put N v = a')
    (h : wpAnyLast P md ops Q S ds fuel l' a' w) (hi : ops[i]? = some oi := by exact rfl) (hN : oi.dst = N := by exact rfl) (hw : Region.wanted oi (yielded ops a.tmps) = true := by rfl) (hQ : ∀ c a w, Q (.panic c) (a.put oi.dst v) w → Q (.panic c) a w := by exact fun _ _ _ h => h) :
    wpAnyLast P md ops Q S ds (fuel + 1) l a w := pure_ l' hi hN hc hQ (Or.inl ⟨hw, hy⟩) ha h
theorem q_t (i : Nat) (N : Option Tmp) {oi : Oper} {v : Value} {a' : Act} {fuel : Nat} {l : Array Bool} {a : Act} {w : World} (l' : Array Bool) (hc : takeB md ops ds l l' i = true) (hS : S w) (hy : ∀ w, S w → (execOp a.eval oi).run P w = .ok (.value v) w) (ha : a.put N v = a')
    (h : wpAnyLast P md ops Q S ds fuel l' a' w) (hi : ops[i]? = some oi := by exact rfl) (hN : oi.dst = N := by exact rfl) (hw : Region.wanted oi (yielded ops a.tmps) = true := by rfl) (hQ : ∀ c a w, Q (.panic c) (a.put oi.dst v) w → Q (.panic c) a w := by exact fun _ _ _ h => h) :
    wpAnyLast P md ops Q S ds (fuel + 1) l a w := take_ l' hi hN hc hQ (Or.inl ⟨hw, hy⟩) hS ha h
end
theorem s_x {W : World} {g : Nat} {cs : Array Value} {t : TypeId} (h : W.heap[g]? = some (.cells cs t (0, 0))) (j : Nat) {v : Value} (hv : cs[j]? = some v := by exact rfl) : W.cell? ⟨g, j, none⟩ = some v := (blk_cell h j).trans hv
theorem blk_add {a : Addr} {n g : Nat} (h : a.block ≠ g) : (a.add n).block ≠ g := by rw [add_block]; exact h
abbrev V_ok {α : Type} {d : Kd α} {e base : Nat} {w : World} {ok : Nat → Prop} {v : Value} {xs : List α} (_ : Kd.V d e w base ok v xs) : Nat → Prop := ok
theorem C_none {α : Type} {d : Kd α} {w : World} {n : Nat} {xs : List α} (h : d.C w none n xs) : xs = [] := by
  rcases Nat.eq_zero_or_pos n with hz | hpos
  · exact List.eq_nil_of_length_eq_zero (h.1.trans hz)
  · obtain ⟨ad, e, _⟩ := h.2.2 hpos
    cases e
theorem V_none {α : Type} {d : Kd α} {e base n c : Nat} {w : World} {ok : Nat → Prop} {xs : List α} (h : Kd.V d e w base ok (.slice none n c) xs) : xs = [] := by
  obtain ⟨A, c, e, _, hf⟩ := h
  cases e
  exact C_none (Kd.F_now hf)
section
variable {α : Type} {enc : α → Value} {h1 : ∀ x, (enc x).oneCell' = true} {e base g n cap : Nat} {ok : Nat → Prop} {W : World} {xs : List α}
theorem clears (z : α) : ∀ (m i : Nat) (W : World) (xs : List α), (Kd.scalar enc h1).R e W base ok (.slice (some ⟨g, 0, none⟩) n cap) xs → i + m ≤ n →
    (Kd.scalar enc h1).R e (W.setCells g i (List.replicate m (enc z))) base ok (.slice (some ⟨g, 0, none⟩) n cap) (xs.take i ++ (List.replicate m z ++ xs.drop (i + m))) ∧ W.grownBy (W.setCells g i (List.replicate m (enc z))) (some g)
  | 0, i, W, xs, h, _ => by
    refine ⟨?_, World.grownBy.refl W _⟩
    simpa [World.setCells, List.take_append_drop] using h
  | m + 1, i, W, xs, h, hm => by
    have hp := Kd.R_putg h (i : Int) z
    rw [Int.toNat_natCast] at hp
    obtain ⟨h2, h3⟩ := clears z m (i + 1) _ _ hp.1 (by omega)
    have hl : xs.length = n := by have := (Kd.R_reads' h).1; omega
    have e1 : (xs.set i z).take (i + 1) ++ (List.replicate m z ++ (xs.set i z).drop (i + 1 + m)) = xs.take i ++ (List.replicate (m + 1) z ++ xs.drop (i + (m + 1))) := by
      rw [List.drop_set_of_lt (by omega), List.take_set, List.replicate_succ, List.take_succ_eq_append_getElem (by omega)]
      rw [List.set_append_right _ _ (by simp [Nat.min_le_left])]
      simp [Nat.min_eq_left (show i ≤ xs.length by omega), show i + 1 + m = i + (m + 1) by omega]
    rw [e1] at h2
    exact ⟨h2, hp.2.trans h3⟩
theorem R_clearg (h : (Kd.scalar enc h1).R e W base ok (.slice (some ⟨g, 0, none⟩) n cap) xs) (i : Int) (h0 : 0 ≤ i) (hi : i ≤ (n : Int)) (z : α) :
    (Kd.scalar enc h1).R e (W.setCells g i.toNat (List.replicate (n - i.toNat) (enc z))) base ok (.slice (some ⟨g, 0, none⟩) n cap) (xs.take i.toNat ++ List.replicate (n - i.toNat) z) ∧ W.grownBy (W.setCells g i.toNat (List.replicate (n - i.toNat) (enc z))) (some g) := by
  have hl : xs.length = n := by have := (Kd.R_reads' h).1; omega
  have h2 := clears z (n - i.toNat) i.toNat W xs h (by omega)
  rw [show i.toNat + (n - i.toNat) = xs.length by omega, List.drop_length, List.append_nil] at h2
  exact h2
theorem below_setCells {w0 : World} {b : Nat} : ∀ (vs : List Value) (o : Nat) (W : World), Below w0.heap.size w0 W → w0.heap.size ≤ b → Below w0.heap.size w0 (W.setCells b o vs)
  | [], _, _, h, _ => h
  | v :: r, o, W, h, hb => below_setCells r (o + 1) _ (below_set h hb) hb
theorem clear_run {P : Program} {t ty eT : TypeId} (h : (Kd.scalar enc h1).R e W base ok (.slice (some ⟨g, 0, none⟩) n cap) xs) (i : Int) (h0 : 0 ≤ i) (hi : i ≤ (n : Int)) (z : α) (c : Nat) (ht : P.underlying t = some (.slice eT)) (hv : ∀ w, (zeroValue eT).run P w = .ok (enc z) w) :
    (Builtin.clear_ #[t] ty #[.slice (some ⟨g, i.toNat, none⟩) (n - i.toNat) c]).run P W = .ok (.tuple #[]) (W.setCells g i.toNat (List.replicate (n - i.toNat) (enc z))) := by
  have hl : xs.length = n := by have := (Kd.R_reads' h).1; omega
  have hcz : (enc z).cells = #[enc z] := by have := h1 z; revert this; cases enc z <;> simp [Value.oneCell', Value.cells]
  rcases Nat.eq_zero_or_pos (n - i.toNat) with hz | hp
  · rw [hz]
    simp [Builtin.clear_, run_underlying ht, World.setCells]
  · refine Go.Lib.run_clear_slice W t eT ty (enc z) ht hv hcz (h1 z) g i.toNat _ c hp (fun j hj => ?_) (fun j hj => ?_)
    · obtain ⟨ha, hb⟩ := Kd.R_celln z h ((i.toNat + j : Nat) : Int) (by omega) (by omega)
      rw [Int.toNat_natCast] at ha
      rw [ha]; rfl
    · obtain ⟨ha, hb⟩ := Kd.R_celln z h ((i.toNat + j : Nat) : Int) (by omega) (by omega)
      rw [Int.toNat_natCast] at hb
      exact hb
theorem clear_run2 {P : Program} {t eT : TypeId} (h : (Kd.scalar enc h1).R e W base ok (.slice (some ⟨g, 0, none⟩) n cap) xs) (i : Int) (h0 : 0 ≤ i) (hi : i ≤ (n : Int)) (z : α) {A1 : Option Addr} {m : Nat} (hA : A1 = (if cap = i.toNat then (some ⟨g, 0, none⟩ : Option Addr) else (some ⟨g, 0, none⟩ : Option Addr).map (·.add (i.toNat * 1)))) (hm : m = n - i.toNat) (ht : P.underlying t = some (.slice eT)) (hv : ∀ w, (zeroValue eT).run P w = .ok (enc z) w) (ty : TypeId) (c : Nat) :
    (Builtin.clear_ #[t] ty #[.slice A1 m c]).run P W = .ok (.tuple #[]) (W.setCells g i.toNat (List.replicate (n - i.toNat) (enc z))) := by
  have hl : xs.length = n := by have := (Kd.R_reads' h).1; omega
  have hr := (Kd.R_reads' h).2.1
  subst hm
  by_cases hc : cap = i.toNat
  · have hz : n - i.toNat = 0 := by omega
    rw [hz, hA, if_pos hc]
    simp [Builtin.clear_, run_underlying ht, World.setCells]
  · rw [hA, if_neg hc]
    have he : (some ⟨g, 0, none⟩ : Option Addr).map (·.add (i.toNat * 1)) = some ⟨g, i.toNat, none⟩ := by simp [Addr.add]; omega
    rw [he]
    exact clear_run h i h0 hi z c ht hv
theorem clear_any {P : Program} {t eT : TypeId} {A0 : Option Addr} (h : (Kd.scalar enc h1).R e W base ok (.slice A0 n cap) xs) (i : Int) (h0 : 0 ≤ i) (hi : i ≤ (n : Int)) (z : α) {A1 : Option Addr} {m : Nat} (hA : A1 = (if cap = i.toNat then A0 else A0.map (·.add (i.toNat * 1)))) (hm : m = n - i.toNat) (ht : P.underlying t = some (.slice eT)) (hv : ∀ w, (zeroValue eT).run P w = .ok (enc z) w) :
    ∃ w1, (∀ (ty : TypeId) (c : Nat), (Builtin.clear_ #[t] ty #[.slice A1 m c]).run P W = .ok (.tuple #[]) w1) ∧ (Kd.scalar enc h1).R e w1 base ok (.slice A0 n cap) (xs.take i.toNat ++ List.replicate (n - i.toNat) z) ∧ W.grownBy w1 (Value.slice A0 n cap).ownBlock ∧ (∀ {w0 : World}, Below w0.heap.size w0 W → w0.heap.size ≤ base → Below w0.heap.size w0 w1) := by
  have hl : xs.length = n := by have := (Kd.R_reads' h).1; omega
  rcases Nat.eq_zero_or_pos n with hz | hp
  · have hm0 : m = 0 := by omega
    have hx : xs = [] := List.eq_nil_of_length_eq_zero (by omega)
    refine ⟨W, fun ty c => ?_, ?_, World.grownBy.refl W _, fun hb _ => hb⟩
    · rw [hm0]
      cases A1 <;> simp [Builtin.clear_, run_underlying ht]
    · subst hz
      rw [hx]
      simpa [hx] using h
  · obtain ⟨g, cap', he, hg, _, _⟩ := Kd.R_form h (by omega)
    injection he with e1 e2 e3
    subst e1
    obtain ⟨h2, h3⟩ := R_clearg h i h0 hi z
    exact ⟨_, fun ty c => clear_run2 h i h0 hi z hA hm ht hv ty c, h2, h3, fun hb hle => below_setCells _ _ _ hb (Nat.le_trans hle hg)⟩
end
section
variable {P : Program} {ops : Array Oper} {rest : List Oper} {o : Oper} {a : Act} {Q : Exit → Act → World → Prop}
theorem clear_event {W w1 : World} (hgd : o.guard = none) {s : Operand} {t : TypeId} (ho : o.op = .call { callee := .builtin .clear, args := #[s], argTypes := #[t] }) (hN : o.dst = none) {v : Value} (hs : a.eval s = v)
    (hrun : ∀ ty, (Builtin.clear_ #[t] ty #[v]).run P W = .ok (.tuple #[]) w1) (h : ∀ w', w' = w1 → wpList P ops Q rest a w') : wpList P ops Q (o :: rest) a W := by
  refine wpList_plain hgd fun K hK => ?_
  unfold Oper.wp
  have hr : (execOp a.eval o).run P W = .ok (.value (.tuple #[])) w1 := by
    simp [execOp, ho, Go.resolve, Go.invoke, Go.builtin, hs, hrun, Result.andThen_ok]
  rw [hr]
  show K (a.put o.dst _) w1
  rw [hN]
  exact hK _ _ (h _ rfl)
end
theorem C_back_fam {β : Type} {D : Kd β} {d : Nat → Kd β} (hs : ∀ n, (d n).sz = D.sz) (hle : ∀ n m, n ≤ m → ∀ w x cs, (d n).K w x cs → (d m).K w x cs) (hc : ∀ w x cs, D.K w x cs → ∃ n, (d n).K w x cs) {w : World} {A : Option Addr} {m : Nat} {xs : List β} (h : D.C w A m xs) : ∃ n, (d n).C w A m xs := by
  rcases Nat.eq_zero_or_pos m with hz | hpos
  · subst hz
    exact ⟨0, h.1, h.2.1, fun hp => absurd hp (Nat.lt_irrefl 0)⟩
  · obtain ⟨ad, e, hcc⟩ := h.2.2 hpos
    obtain ⟨N, hN⟩ := Kd.bounded (P := fun n j => ∀ p, xs[j]? = some p → ∃ c, c.length = D.sz ∧ (d n).K w p c ∧ ∀ i u, c[i]? = some u → w.cell? (ad.add (j * D.sz + i)) = some u)
      (fun n n' j hnm hp p hj => by
        obtain ⟨c, h1, h2, h3⟩ := hp p hj
        exact ⟨c, h1, hle _ _ hnm _ _ _ h2, h3⟩) xs.length
      (fun j hj => by
        obtain ⟨c, h1, h2, h3⟩ := hcc j _ (List.getElem?_eq_getElem hj)
        obtain ⟨n, h2⟩ := hc _ _ _ h2
        refine ⟨n, fun p hp => ?_⟩
        rw [List.getElem?_eq_getElem hj] at hp
        injection hp with hp
        rw [← hp]
        exact ⟨c, h1, h2, h3⟩)
    refine ⟨N, h.1, h.2.1, fun _ => ⟨ad, e, fun j p hj => ?_⟩⟩
    rw [hs N]
    exact hN j (List.getElem?_eq_some_iff.1 hj).1 p hj
theorem nil_is {l : List UInt8} {b : Bool} (h : (l == ([] : List UInt8)) = b) : l.isEmpty = b := by rw [← h]; cases l <;> rfl
theorem nil_not {l : List UInt8} {b : Bool} (h : (l != ([] : List UInt8)) = b) : (!l.isEmpty) = b := by rw [← h]; cases l <;> rfl
def nestW (w : World) (g : Nat) : Nat → List Value → World
  | _, [] => w
  | k, v :: vs => nestW (w.setCell ⟨g, k, none⟩ v) g (k + 1) vs
theorem nest_row {g : Nat} {t : TypeId} : ∀ (vs : List Value) (k : Nat) (cur : Array Value) (w : World), w.heap[g]? = some (.cells cur t (0, 0)) → k + vs.length = cur.size → nestW w g k vs = w.setRow g (cur.toList.take k ++ vs).toArray
  | [], k, cur, w, hg, hl => by
    have h := run_storeCells_from (P := default) g t [] k cur w hg hl (by simp)
    have h2 : (storeCells ⟨g, 0, none⟩ [] k).run default w = .ok () w := rfl
    rw [h2] at h
    injection h with _ h3
  | v :: rest, i, cur, w, hg, hl => by
    have hi : i < cur.size := by simp at hl; omega
    unfold nestW
    rw [setCell_eq_setRow w g i cur t (0, 0) v hg, nest_row rest (i + 1) (cur.setIfInBounds i v) _ (setRow_heap w g cur _ t _ hg) (by simp at hl ⊢; omega), setRow_setRow]
    congr 2
    apply List.ext_getElem?
    intro k
    simp only [Array.toList_setIfInBounds, List.getElem?_append, List.length_take, List.length_set, Array.length_toList]
    by_cases hk : k < i
    · simp [hk, show k < i + 1 by omega, show min (i + 1) cur.size = i + 1 by omega, show min i cur.size = i by omega, show i ≠ k by omega]
    · by_cases hk2 : k = i
      · subst hk2
        simp [show min (k + 1) cur.size = k + 1 by omega, show min k cur.size = k by omega]
      · simp [hk, show ¬ k < i + 1 by omega, show min (i + 1) cur.size = i + 1 by omega, show min i cur.size = i by omega, show k - i = (k - (i + 1)) + 1 by omega]
theorem s_st {P : Program} {o : Oper} {f : Operand → Value} {w : World} (ty : TypeId) (x y : Operand) (ho : o.op = .store ty x y) (g : Nat) (vs : List Value) (hx : f x = .pointer (some ⟨g, 0, none⟩)) (hy : f y = .agg vs.toArray)
    (t : TypeId) (old : Array Value) (hg : w.heap[g]? = some (.cells old t (0, 0))) (hi : (P.info? ty).map (·.size) = some vs.toArray.size) (hold : old.size = vs.toArray.size) (h1 : vs.toArray.all (·.oneCell') = true) :
    (execOp f o).run P w = .ok .skip (nestW w g 0 vs) := by
  rw [nest_row vs 0 old w hg (by simpa using hold.symm)]
  unfold execOp
  simp only [ho, hx, hy, Instr.storeAt, Instr.sureAddr, Sem.run_bind, Sem.run_pure, Result.andThen_ok, run_storeVar_row w g t ty old vs.toArray hg hi hold h1, List.take_zero, List.nil_append]
theorem far5 {W : World} {a : Addr} {g : Nat} {p0 p1 p2 p3 p4 : Nat} {v0 v1 v2 v3 v4 : Value} (h : a.block ≠ g) : (((((W.setCell ⟨g, p0, none⟩ v0).setCell ⟨g, p1, none⟩ v1).setCell ⟨g, p2, none⟩ v2).setCell ⟨g, p3, none⟩ v3).setCell ⟨g, p4, none⟩ v4).cell? a = W.cell? a := ((((cell_far (p := ⟨g, p4, none⟩) h _).trans (cell_far (p := ⟨g, p3, none⟩) h _)).trans (cell_far (p := ⟨g, p2, none⟩) h _)).trans (cell_far (p := ⟨g, p1, none⟩) h _)).trans (cell_far (p := ⟨g, p0, none⟩) h _)
theorem far23 {W : World} {a : Addr} {g : Nat} {p0 p1 p2 p3 p4 p5 p6 p7 p8 p9 p10 p11 p12 p13 p14 p15 p16 p17 p18 p19 p20 p21 p22 : Nat} {v0 v1 v2 v3 v4 v5 v6 v7 v8 v9 v10 v11 v12 v13 v14 v15 v16 v17 v18 v19 v20 v21 v22 : Value} (h : a.block ≠ g) : (((((((((((((((((((((((W.setCell ⟨g, p0, none⟩ v0).setCell ⟨g, p1, none⟩ v1).setCell ⟨g, p2, none⟩ v2).setCell ⟨g, p3, none⟩ v3).setCell ⟨g, p4, none⟩ v4).setCell ⟨g, p5, none⟩ v5).setCell ⟨g, p6, none⟩ v6).setCell ⟨g, p7, none⟩ v7).setCell ⟨g, p8, none⟩ v8).setCell ⟨g, p9, none⟩ v9).setCell ⟨g, p10, none⟩ v10).setCell ⟨g, p11, none⟩ v11).setCell ⟨g, p12, none⟩ v12).setCell ⟨g, p13, none⟩ v13).setCell ⟨g, p14, none⟩ v14).setCell ⟨g, p15, none⟩ v15).setCell ⟨g, p16, none⟩ v16).setCell ⟨g, p17, none⟩ v17).setCell ⟨g, p18, none⟩ v18).setCell ⟨g, p19, none⟩ v19).setCell ⟨g, p20, none⟩ v20).setCell ⟨g, p21, none⟩ v21).setCell ⟨g, p22, none⟩ v22).cell? a = W.cell? a := ((((((((((((((((((((((cell_far (p := ⟨g, p22, none⟩) h _).trans (cell_far (p := ⟨g, p21, none⟩) h _)).trans (cell_far (p := ⟨g, p20, none⟩) h _)).trans (cell_far (p := ⟨g, p19, none⟩) h _)).trans (cell_far (p := ⟨g, p18, none⟩) h _)).trans (cell_far (p := ⟨g, p17, none⟩) h _)).trans (cell_far (p := ⟨g, p16, none⟩) h _)).trans (cell_far (p := ⟨g, p15, none⟩) h _)).trans (cell_far (p := ⟨g, p14, none⟩) h _)).trans (cell_far (p := ⟨g, p13, none⟩) h _)).trans (cell_far (p := ⟨g, p12, none⟩) h _)).trans (cell_far (p := ⟨g, p11, none⟩) h _)).trans (cell_far (p := ⟨g, p10, none⟩) h _)).trans (cell_far (p := ⟨g, p9, none⟩) h _)).trans (cell_far (p := ⟨g, p8, none⟩) h _)).trans (cell_far (p := ⟨g, p7, none⟩) h _)).trans (cell_far (p := ⟨g, p6, none⟩) h _)).trans (cell_far (p := ⟨g, p5, none⟩) h _)).trans (cell_far (p := ⟨g, p4, none⟩) h _)).trans (cell_far (p := ⟨g, p3, none⟩) h _)).trans (cell_far (p := ⟨g, p2, none⟩) h _)).trans (cell_far (p := ⟨g, p1, none⟩) h _)).trans (cell_far (p := ⟨g, p0, none⟩) h _)
theorem frz5 {w : World} {g : Nat} {t : TypeId} {cs : Array Value} (h : w.heap[g]? = some (.cells cs t (0, 0))) : w.frozen? ⟨g, 0, none⟩ = false ∧ w.frozen? ⟨g, 1, none⟩ = false ∧ w.frozen? ⟨g, 2, none⟩ = false ∧ w.frozen? ⟨g, 3, none⟩ = false ∧ w.frozen? ⟨g, 4, none⟩ = false := ⟨blk_frozen h 0, blk_frozen h 1, blk_frozen h 2, blk_frozen h 3, blk_frozen h 4⟩
theorem frz6 {w : World} {g : Nat} {t : TypeId} {cs : Array Value} (h : w.heap[g]? = some (.cells cs t (0, 0))) : w.frozen? ⟨g, 0, none⟩ = false ∧ w.frozen? ⟨g, 1, none⟩ = false ∧ w.frozen? ⟨g, 2, none⟩ = false ∧ w.frozen? ⟨g, 3, none⟩ = false ∧ w.frozen? ⟨g, 4, none⟩ = false ∧ w.frozen? ⟨g, 5, none⟩ = false := ⟨blk_frozen h 0, blk_frozen h 1, blk_frozen h 2, blk_frozen h 3, blk_frozen h 4, blk_frozen h 5⟩
theorem frz23 {w : World} {g : Nat} {t : TypeId} {cs : Array Value} (h : w.heap[g]? = some (.cells cs t (0, 0))) : w.frozen? ⟨g, 0, none⟩ = false ∧ w.frozen? ⟨g, 1, none⟩ = false ∧ w.frozen? ⟨g, 2, none⟩ = false ∧ w.frozen? ⟨g, 3, none⟩ = false ∧ w.frozen? ⟨g, 4, none⟩ = false ∧ w.frozen? ⟨g, 5, none⟩ = false ∧ w.frozen? ⟨g, 6, none⟩ = false ∧ w.frozen? ⟨g, 7, none⟩ = false ∧ w.frozen? ⟨g, 8, none⟩ = false ∧ w.frozen? ⟨g, 9, none⟩ = false ∧ w.frozen? ⟨g, 10, none⟩ = false ∧ w.frozen? ⟨g, 11, none⟩ = false ∧ w.frozen? ⟨g, 12, none⟩ = false ∧ w.frozen? ⟨g, 13, none⟩ = false ∧ w.frozen? ⟨g, 14, none⟩ = false ∧ w.frozen? ⟨g, 15, none⟩ = false ∧ w.frozen? ⟨g, 16, none⟩ = false ∧ w.frozen? ⟨g, 17, none⟩ = false ∧ w.frozen? ⟨g, 18, none⟩ = false ∧ w.frozen? ⟨g, 19, none⟩ = false ∧ w.frozen? ⟨g, 20, none⟩ = false ∧ w.frozen? ⟨g, 21, none⟩ = false ∧ w.frozen? ⟨g, 22, none⟩ = false := ⟨blk_frozen h 0, blk_frozen h 1, blk_frozen h 2, blk_frozen h 3, blk_frozen h 4, blk_frozen h 5, blk_frozen h 6, blk_frozen h 7, blk_frozen h 8, blk_frozen h 9, blk_frozen h 10, blk_frozen h 11, blk_frozen h 12, blk_frozen h 13, blk_frozen h 14, blk_frozen h 15, blk_frozen h 16, blk_frozen h 17, blk_frozen h 18, blk_frozen h 19, blk_frozen h 20, blk_frozen h 21, blk_frozen h 22⟩
theorem wst23 {P : Program} {o : Oper} {f : Operand → Value} {w : World} {g : Nat} {v0 v1 v2 v3 v4 v5 v6 v7 v8 v9 v10 v11 v12 v13 v14 v15 v16 v17 v18 v19 v20 v21 v22 : Value} (ty : TypeId) (x y : Operand) (ho : o.op = .store ty x y) (hx : f x = .pointer (some ⟨g, 0, none⟩)) (hy : f y = .agg #[v0, v1, v2, v3, v4, v5, v6, v7, v8, v9, v10, v11, v12, v13, v14, v15, v16, v17, v18, v19, v20, v21, v22])
    (t : TypeId) (old : Array Value) (hg : w.heap[g]? = some (.cells old t (0, 0))) (hi : (P.info? ty).map (·.size) = some 23) (hold : old.size = 23) (h1 : (#[v0, v1, v2, v3, v4, v5, v6, v7, v8, v9, v10, v11, v12, v13, v14, v15, v16, v17, v18, v19, v20, v21, v22] : Array Value).all (·.oneCell') = true) :
    (execOp f o).run P w = .ok .skip (((((((((((((((((((((((w.setCell ⟨g, 0, none⟩ v0).setCell ⟨g, 1, none⟩ v1).setCell ⟨g, 2, none⟩ v2).setCell ⟨g, 3, none⟩ v3).setCell ⟨g, 4, none⟩ v4).setCell ⟨g, 5, none⟩ v5).setCell ⟨g, 6, none⟩ v6).setCell ⟨g, 7, none⟩ v7).setCell ⟨g, 8, none⟩ v8).setCell ⟨g, 9, none⟩ v9).setCell ⟨g, 10, none⟩ v10).setCell ⟨g, 11, none⟩ v11).setCell ⟨g, 12, none⟩ v12).setCell ⟨g, 13, none⟩ v13).setCell ⟨g, 14, none⟩ v14).setCell ⟨g, 15, none⟩ v15).setCell ⟨g, 16, none⟩ v16).setCell ⟨g, 17, none⟩ v17).setCell ⟨g, 18, none⟩ v18).setCell ⟨g, 19, none⟩ v19).setCell ⟨g, 20, none⟩ v20).setCell ⟨g, 21, none⟩ v21).setCell ⟨g, 22, none⟩ v22) := by
  have h := s_st (P := P) (o := o) (f := f) (w := w) ty x y ho g [v0, v1, v2, v3, v4, v5, v6, v7, v8, v9, v10, v11, v12, v13, v14, v15, v16, v17, v18, v19, v20, v21, v22] hx hy t old hg hi hold h1
  simpa only [nestW, Nat.zero_add, Nat.reduceAdd] using h
end Go.Proofs.Ythkdpkgkejdcgaa.Sh
