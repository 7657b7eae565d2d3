/- What is written into a strings.Builder. Conditions: stated at each. -/
import Derived.Test.YtolackmpfnndhaaGreatDoorStb
import Derived.Shelf.Strings.BuilderK
import Derived.Shelf.Strconv.Itoa3
namespace Go.Proofs.YtolackmpfnndhaaGreatDoor.Ev
open Go Go.RowKit
set_option linter.unusedVariables false
set_option linter.unusedSimpArgs false
variable {P : Program}
/-- Behind a call that writes: the builder holds l, all else is as it was. -/
structure BA (T U : TypeId) (B b : Nat) (w : World) (l : List UInt8) (w' : World) : Prop where
  is : Lib.IsBuilderF T U B b (Lib.byteCells l) w'
  below : Below B w w'
  others : Lib.OthersKept U (some b) w w'
theorem BA.trans {T U : TypeId} {B b : Nat} {w w1 w2 : World} {l l' : List UInt8} (h : BA T U B b w l w1) (k : BA T U B b w1 l' w2) : BA T U B b w l' w2 :=
  ⟨k.is, h.below.trans k.below, h.others.trans k.others⟩
theorem BA.size {T U : TypeId} {B b : Nat} {w w1 : World} {l : List UInt8} (h : BA T U B b w l w1) (hB : B ≤ w.heap.size) : B ≤ w1.heap.size := Nat.le_trans hB h.below.size
theorem isB_alloc {T U : TypeId} {B b : Nat} {w : World} {l : List Value} (h : Lib.IsBuilderF T U B b l w) (o : Obj) : Lib.IsBuilderF T U B b l (w.alloc o) := h.alloc o
theorem BA.refl {T U : TypeId} {B b : Nat} {w : World} {l : List UInt8} (h : Lib.IsBuilderF T U B b (Lib.byteCells l) w) : BA T U B b w l w := ⟨h, Below.refl _ _, Lib.OthersKept.refl _ _ _⟩
theorem BA.alloc {T U : TypeId} {B b : Nat} {w w1 : World} {l : List UInt8} (h : BA T U B b w l w1) (hB : B ≤ w.heap.size) (o : Obj) : BA T U B b w l (w1.alloc o) := ⟨h.is.alloc o, h.below.alloc (h.size hB) o, h.others.alloc o⟩
/-- A builder and its bytes lie below what a call may lay. -/
theorem isB_below {T U : TypeId} {B b : Nat} {w w' : World} {l : List Value} (h : Lib.IsBuilderF T U B b l w) (k : Below w.heap.size w w') : Lib.IsBuilderF T U B b l w' := by
  have at_ : ∀ p, Lib.BuilderAtF T U B b p l w → Lib.BuilderAtF T U B b p l w' := by
    rintro p ⟨hB, v, hb, hown, hne⟩
    have hlt : b < w.heap.size := (Array.getElem?_eq_some_iff.1 hb).1
    refine ⟨hB, v, (k.block b hlt).trans hb, ⟨hown.1, ?_⟩, hne⟩
    rcases hown.2 with hn | ⟨g, cap, cur, fz, hv, hbg, hg, rest⟩
    · exact .inl hn
    · exact .inr ⟨g, cap, cur, fz, hv, hbg, (k.block g (Array.getElem?_eq_some_iff.1 hg).1).trans hg, rest⟩
  exact h.elim (fun x => .inl (at_ _ x)) (fun x => .inr (at_ _ x))
theorem others_below {U : TypeId} {b : Option Nat} {w w' : World} (k : Below w.heap.size w w') : Lib.OthersKept U b w w' := fun i o hi _ _ => (k.block i (Array.getElem?_eq_some_iff.1 hi).1).trans hi
theorem BA.call {T U : TypeId} {B b : Nat} {w w1 w2 : World} {l : List UInt8} (h : BA T U B b w l w1) (hB : B ≤ w.heap.size) (k : Below w1.heap.size w1 w2) : BA T U B b w l w2 :=
  ⟨isB_below h.is k, h.below.trans (k.mono (h.size hB)), h.others.trans (others_below k)⟩
def ptrB (b : Nat) : Value := .pointer (some ⟨b, 0, none⟩)
/-- A call writes these bytes. -/
def Writes (P : Program) (T U : TypeId) (B b f : Nat) (args : List Value) (out : List UInt8) : Prop :=
  ∀ (w : World) (pre : List UInt8), Lib.IsBuilderF T U B b (Lib.byteCells pre) w → B ≤ w.heap.size → pre.length + out.length ≤ 140737488355328 →
    Calls P f (.pointer (some ⟨b, 0, none⟩) :: args).toArray w fun e w' => (∃ v, e = .returned v) ∧ BA T U B b w (pre ++ out) w'
theorem writes_byte {ρ : Shelf.Ren} (L : Lays.n167 P ρ) (X : Builder.Extra P ρ) (B b : Nat) (c : UInt8) : Writes P (ρ.t 72) (ρ.t 5) B b (ρ.f 167) [.int .u8 c.toNat] [c] := fun w pre h hB hl => by
  refine (Any.Builder_WriteByte_k L X B b (Lib.byteCells pre) c.toNat w h (by rw [Lib.byteCells_length]; exact hl) hB).mono ?_
  rintro e w' ⟨rfl, h1, h2, h3⟩
  refine ⟨⟨_, rfl⟩, .inr ?_, h2, h3⟩
  rw [Lib.byteCells_append]; exact h1
theorem writes_string {ρ : Shelf.Ren} (L : Lays.n166 P ρ) (X : Builder.Extra P ρ) (B b : Nat) (s : ByteArray) : Writes P (ρ.t 72) (ρ.t 5) B b (ρ.f 166) [.string s] s.data.toList := fun w pre h hB hl => by
  refine (Any.Builder_WriteString_k L X B b (Lib.byteCells pre) s w h (by rw [Lib.byteCells_length]; exact hl) hB).mono ?_
  rintro e w' ⟨rfl, h1, h2, h3⟩
  refine ⟨⟨_, rfl⟩, .inr ?_, h2, h3⟩
  rw [Lib.byteCells_append, ← Lib.strCells_eq]; exact h1
/-- A block that is no row of bytes stays. -/
theorem BA.box {T U : TypeId} {B b : Nat} {w w' : World} {l : List UInt8} (h : BA T U B b w l w') {n : Nat} {arr : Array Value} {t : TypeId} {fz : Nat × Nat} (hb : w.heap[n]? = some (.cells arr t fz)) (hn : n ≠ b) (ht : t ≠ U) : w'.heap[n]? = some (.cells arr t fz) :=
  h.others n _ hb (fun e => hn (Option.some.inj e)) (fun c f e => ht (by injection e))
theorem BA.lt {T U : TypeId} {B b : Nat} {w w' : World} {l : List UInt8} (h : BA T U B b w l w') : b < w'.heap.size := by
  rcases h.is with ⟨_, v, hb, _⟩ | ⟨_, v, hb, _⟩ <;> exact (Array.getElem?_eq_some_iff.1 hb).1
theorem cell_box {w : World} {n j : Nat} {arr : Array Value} {t : TypeId} {fz : Nat × Nat} (h : w.heap[n]? = some (.cells arr t fz)) : w.cell? ⟨n, j, none⟩ = arr[j]? := Lib.cell_of_heap h j
theorem add_fld (A : Addr) (m j : Nat) (hj : 0 < j) : A.add (m + j) = ⟨(A.add m).block, (A.add m).off + j, none⟩ := by
  unfold Addr.add
  by_cases hm : m = 0
  · subst hm; simp [Nat.ne_of_gt hj]
  · rw [if_neg (by omega), if_neg hm]; simp [Nat.add_assoc]
/-- A slice's elements, where they lie. -/
theorem sl_at {E : En} {a : Option Addr} {l c t : Nat} {es : Rows} {k : K} (h : Rep P E (.slice a l c) (.slice t es k)) : l = es.length ∧ l ≤ c ∧ ∀ (i : Nat) (hi : i < es.length), ∃ (A : Addr) (sz : Nat) (cs : List Value), a = some A ∧ sizeT P t = some sz ∧ cs.length = sz ∧ eta P t es[i] = es[i] ∧ Rep P E (.agg cs.toArray) (.agg es[i]) ∧
    ∀ j v, cs[j]? = some v → E.w.cell? (A.add (i * sz + j)) = some v ∧ E.F A.block (A.off + (i * sz + j)) := by
  cases h with
  | slice t es k a cap sz vs hcap hnone hsz hrow hc hx hk =>
    refine ⟨rfl, hcap, fun i hi => ?_⟩
    have hget : es[i]? = some es[i] := List.getElem?_eq_getElem hi
    obtain ⟨h1, h2⟩ := hrow i _ hget
    cases ha : a with
    | none => have := hnone ha; omega
    | some A =>
      refine ⟨A, sz, (List.range sz).map fun j => vs (i * sz + j), rfl, hsz, by simp, h2, .agg _ _ (by simp [h1]) (fun j x hj => ?_), fun j v hj => ?_⟩
      · have hjs : j < sz := by
          rcases Nat.lt_or_ge j es[i].length with h | h
          · rw [h1] at h; exact h
          · rw [List.getElem?_eq_none h] at hj; cases hj
        have e : (((List.range sz).map fun j => vs (i * sz + j)).toArray).getD j undef = vs (i * sz + j) := by simp [Array.getD_eq_getD_getElem?, hjs]
        rw [e]
        exact hx i _ j x hget hj
      · rw [List.getElem?_map, Option.map_eq_some_iff] at hj
        obtain ⟨q, hq, rfl⟩ := hj
        have hqs : j < sz := by
          rcases Nat.lt_or_ge j (List.range sz).length with h | h
          · simpa using h
          · rw [List.getElem?_eq_none h] at hq; cases hq
        rw [List.getElem?_range hqs] at hq; injection hq with hq; subst hq
        have hjr : j < es[i].length := by rw [h1]; exact hqs
        exact hc i _ j _ hget (List.getElem?_eq_getElem hjr) A ha
theorem rep_agg_list {E : En} {v : Value} {r : Row} (h : Rep P E v (.agg r)) : ∃ cs : List Value, v = .agg cs.toArray ∧ cs.length = r.length ∧ ∀ (i : Nat) (x : V), r[i]? = some x → Rep P E (cs.getD i undef) x := by
  cases h with
  | agg cs xs hl hx =>
    refine ⟨cs.toList, rfl, by simpa using hl, fun i x hi => ?_⟩
    have := hx i x hi
    simpa [Array.getD_eq_getD_getElem?, List.getD_eq_getElem?_getD] using this
theorem rep_slice_list {E : En} {v : Value} {t : Nat} {es : Rows} {k : K} (h : Rep P E v (.slice t es k)) : ∃ a l c, v = .slice a l c := by
  cases h with
  | slice t es k a cap sz vs => exact ⟨_, _, _, rfl⟩
/-- A function of scalars that answers with a string. -/
theorem fun_str {f : Nat} {F : Fun} (h : FunOk P f F) {xs ys : List V} {args : List Value} {s : ByteArray} (hl : args.length = ys.length) (hn : normAs P F.pts xs = some ys) (hr : ∀ E : En, ∀ (i : Nat) (x : V), ys[i]? = some x → Rep P E (args.getD i undef) x) (hd : (F.den ys).eval = some (.str s)) (w : World) (hG : GOk w (fun _ => False)) :
    Calls P f args.toArray w fun e w' => e = .returned (.string s) ∧ Below w.heap.size w w' := by
  refine (h.2 w (fun _ _ => False) (fun _ _ h => h.elim) hG args.toArray xs ys _ (by simpa using hl) hn (fun i x hi => ?_) hd).mono ?_
  · have := hr (E0 w fun _ _ => False) i x hi
    simpa [Array.getD_eq_getD_getElem?, List.getD_eq_getElem?_getD] using this
  · rintro e w' ⟨v, F', rfl, hb, _, _, _, hv⟩
    exact ⟨by rw [rep_str_inv hv], hb⟩
/-- The tables stay. -/
theorem GOk.to {B : Nat} {w w' : World} (h : GOk w (fun _ => False)) (hB : w.heap.size ≤ B) (k : Below B w w') : GOk w' (fun _ => False) := fun p hp => by
  obtain ⟨⟨t, fz, h1⟩, h2⟩ := h p hp
  exact ⟨⟨t, fz, (k.block _ (Nat.lt_of_lt_of_le (Array.getElem?_eq_some_iff.1 h1).1 hB)).trans h1⟩, h2⟩
theorem GOk.under {B : Nat} {w w' : World} (h : GOk w (fun _ => False)) (hT : ∀ p, p ∈ tabs → p.1 < B) (k : Below B w w') : GOk w' (fun _ => False) := fun p hp => by
  obtain ⟨⟨t, fz, h1⟩, h2⟩ := h p hp
  exact ⟨⟨t, fz, (k.block _ (hT p hp)).trans h1⟩, h2⟩
theorem rep0_below {F : Nat → Nat → Prop} {B : Nat} {w w' : World} {v : Value} {x : V} (hF : ∀ b o, F b o → b < B) (k : Below B w w') (h : Rep P (E0 w F) v x) : Rep P (E0 w' F) v x :=
  Rep.mono (E := E0 w F) (E' := E0 w' F) ⟨fun A hA => k.cell (hF _ _ hA), fun _ _ h => h, fun n cs h => by simp [E0] at h, fun n v h => by simp [E0] at h, fun n t v es h => by simp [E0] at h, fun n q h => by simp [E0] at h⟩ h
end Go.Proofs.YtolackmpfnndhaaGreatDoor.Ev
