/- Part of a claim: see its row. Conditions: stated at each. -/
import Derived.Test.YthkdpkgkejdcgaaZEW0
import Derived.ChangeArms
import Derived.SizedLaws
namespace Go.Proofs.Ythkdpkgkejdcgaa.Opn
open Go.RowKit Go.Proofs.YthkdpkgkejdcgaaW.PrintWords
set_option linter.unusedVariables false
def OpensN (P : Program) (n : Nat) (t : TypeId) {α : Type} (d : Kd α) (X : α → Prop) : Prop :=
  ∀ (H : Type) (enc : TypeId × Value → H) (w : World) (cs : List Value) (x : DataW H × List MemPlace),
    DataW.trod enc P w 0 (fun _ => true) true n t cs = some x → (∀ m ∈ x.1.weights P t, m ≤ reachBytes) → ∃ a : α, d.K w a cs ∧ X a
def Opens (P : Program) (t : TypeId) {α : Type} (d : Kd α) (X : α → Prop) : Prop := ∀ n, OpensN P n t d X
theorem OpensN.weak {P : Program} {n : Nat} {t : TypeId} {α : Type} {d : Kd α} {X Y : α → Prop} (h : OpensN P n t d X) (hXY : ∀ a, X a → Y a) : OpensN P n t d Y := by
  intro H enc w cs x ht hw
  obtain ⟨a, h1, h2⟩ := h H enc w cs x ht hw
  exact ⟨a, h1, hXY a h2⟩
theorem opens_int {P : Program} {n : Nat} {t : TypeId} {k : IntKind} (hu : P.underlying t = some (.int k)) : OpensN P n t (Kd.int k) (fun a => (Lit.int k a).wf = true) := by
  intro H enc w cs x h _
  obtain ⟨a, rfl, _, hw⟩ := DataW.trod_int hu h
  exact ⟨a, rfl, hw⟩
theorem opens_bool {P : Program} {n : Nat} {t : TypeId} (hu : P.underlying t = some .bool) : OpensN P n t Kd.bool (fun _ => True) := by
  intro H enc w cs x h _
  obtain ⟨a, rfl, _⟩ := DataW.trod_bool hu h
  exact ⟨a, rfl, trivial⟩
theorem opens_string {P : Program} {n : Nat} {t : TypeId} (hu : P.underlying t = some .string) : OpensN P n t Kd.string (fun s => s.size ≤ 140737488351232) := by
  intro H enc w cs x h hw
  obtain ⟨s, rfl, rfl, _⟩ := DataW.trod_string hu h
  have := hw s.data.toList.length (by simp [DataW.weights])
  refine ⟨s, rfl, ?_⟩
  rw [Array.length_toList] at this
  exact this
theorem mapM_range {α : Type} {f : Nat → Option α} {n : Nat} {l : List α} (h : (List.range n).mapM f = some l) : l.length = n ∧ ∀ i, i < n → f i = l[i]? := by
  refine ⟨by simpa using mapM_some_length h, fun i hi => ?_⟩
  exact mapM_some_get h i i (by simp [hi])
theorem collect {α β : Type} {R : β → α → Nat → Prop} (l : List β) (h : ∀ i (h : i < l.length), ∃ a, R l[i] a i) : ∃ as : List α, as.length = l.length ∧ ∀ i (h : i < l.length) (h' : i < as.length), R l[i] as[i] i := by
  refine ⟨List.ofFn (fun i : Fin l.length => Classical.choose (h i.1 i.2)), by simp, fun i h1 h2 => ?_⟩
  rw [List.getElem_ofFn]
  exact Classical.choose_spec (h i h1)
theorem weightsAll_mem {H : Type} {P : Program} {e : TypeId} : ∀ {l : List (DataW H)} {i : Nat} (h : i < l.length), ∀ m ∈ l[i].weights P e, m ∈ DataW.weightsAll P e l
  | d :: r, 0, _, m, hm => by simp only [DataW.weightsAll, List.mem_append]; exact Or.inl hm
  | d :: r, i + 1, h, m, hm => by
    simp only [DataW.weightsAll, List.mem_append]
    exact Or.inr (weightsAll_mem (by simpa using h) m (by simpa using hm))
theorem opens_slice {P : Program} {n : Nat} {t e : TypeId} {B : Nat} {α : Type} {d : Kd α} {X : α → Prop} (hu : P.underlying t = some (.slice e)) (hc : P.cellsOf e = d.sz) (hB : P.bytesOf e = B) (he : OpensN P n e d X) :
    OpensN P (n + 1) t (Kd.slice e d) (fun l => l.length * B ≤ 140737488351232 ∧ ∀ x ∈ l, X x) := by
  intro H enc w cs x h hw
  rcases DataW.trod_slice hu h with ⟨rfl, rfl⟩ | ⟨ad, len, cap, elems, rest, m, hm, rfl, rfl, _, hlc, hcm, hel, hget, hsp, _⟩
  · exact ⟨[], ⟨none, 0, rfl, Nat.le_refl _, Kd.C_nil _ _⟩, by simp, by simp⟩
  · obtain rfl : n = m := by omega
    have hwt : ∀ k ∈ (DataW.weights P t (.slice (elems.map (·.1)) (rest.map (·.1))) : List Nat), k ≤ reachBytes := hw
    simp only [DataW.weights, hu] at hwt
    have hsz := hwt _ List.mem_cons_self
    simp only [List.length_map, hB] at hsz
    have one : ∀ i (hi : i < elems.length), ∃ a : α, ∃ c, c.length = d.sz ∧ d.K w a c ∧ X a ∧ ∀ j u, c[j]? = some u → w.cell? (ad.add (i * d.sz + j)) = some u := by
      intro i hi
      have h1 := hget i (by omega)
      rw [List.getElem?_eq_getElem hi, Option.bind_eq_some_iff] at h1
      obtain ⟨c, h2, h3⟩ := h1
      have hwi : ∀ k ∈ elems[i].1.weights P e, k ≤ reachBytes := fun k hk => hwt k (List.mem_cons_of_mem _ (List.mem_append_left _ (weightsAll_mem (l := elems.map (·.1)) (i := i) (by simpa using hi) k (by simpa using hk))))
      obtain ⟨a, ha, hx⟩ := he H enc w c _ h3 hwi
      unfold World.cells? at h2
      simp only [Nat.zero_le, if_true] at h2
      obtain ⟨hl, hg⟩ := mapM_range h2
      refine ⟨a, c, by rw [hl, hc], ha, hx, fun j u hj => ?_⟩
      have hjl : j < c.length := (List.getElem?_eq_some_iff.1 hj).1
      have h4 := hg j (by omega)
      rw [hj, Addr.add_add, hc] at h4
      exact h4
    obtain ⟨as, hl, has⟩ := collect (R := fun (_ : DataW H × List MemPlace) (a : α) i => ∃ c, c.length = d.sz ∧ d.K w a c ∧ X a ∧ ∀ j u, c[j]? = some u → w.cell? (ad.add (i * d.sz + j)) = some u) elems one
    refine ⟨as, ⟨some ad, cap, ?_, by omega, ?_⟩, ?_, ?_⟩
    · rw [hl, hel]
    · refine ⟨rfl, by unfold maxLen at hcm; omega, fun _ => ⟨ad, rfl, fun j p hj => ?_⟩⟩
      obtain ⟨hj1, rfl⟩ := List.getElem?_eq_some_iff.1 hj
      obtain ⟨c, h1, h2, _, h4⟩ := has j (by omega) hj1
      exact ⟨c, h1, h2, h4⟩
    · rw [hl]
      exact Nat.le_trans (Nat.mul_le_mul_right _ (Nat.le_add_right _ _)) hsz
    · intro p hp
      obtain ⟨i, hi, rfl⟩ := List.mem_iff_getElem.1 hp
      obtain ⟨_, _, _, h3, _⟩ := has i (by omega) hi
      exact h3
def OpensFs (P : Program) (n : Nat) (fs : List Field) (o : Nat) {α : Type} (d : Kd α) (X : α → Prop) : Prop :=
  ∀ (H : Type) (enc : TypeId × Value → H) (w : World) (cs : List Value) (xs : List (DataW H × List MemPlace)), cs.length = o + d.sz → xs.length = fs.length →
    (∀ (i : Nat) (f : Field), fs[i]? = some f → DataW.trod enc P w 0 (fun _ => true) true n f.type ((cs.drop f.offset).take (P.cellsOf f.type)) = xs[i]?) →
    (∀ m ∈ DataW.weightsEach P (fs.map (·.type)) (xs.map (·.1)), m ≤ reachBytes) → ∃ a : α, d.K w a (cs.drop o) ∧ X a
theorem opensFs_one {P : Program} {n : Nat} {f : Field} {o : Nat} {α : Type} {d : Kd α} {X : α → Prop} (ho : f.offset = o) (hc : P.cellsOf f.type = d.sz) (h : OpensN P n f.type d X) : OpensFs P n [f] o d X := by
  intro H enc w cs xs hl hx ht hw
  obtain ⟨x, rfl⟩ : ∃ x, xs = [x] := by
    match xs, hx with
    | [x], _ => exact ⟨x, rfl⟩
  have h1 := ht 0 f rfl
  rw [ho, hc] at h1
  have h2 : (cs.drop o).take d.sz = cs.drop o := List.take_of_length_le (by rw [List.length_drop]; omega)
  rw [h2] at h1
  exact h H enc w _ x h1 (fun m hm => hw m (by simpa [DataW.weightsEach] using hm))
theorem opensFs_cons {P : Program} {n : Nat} {f : Field} {fs : List Field} {o : Nat} {α β : Type} {d : Kd α} {X : α → Prop} {d' : Kd β} {Y : β → Prop} (ho : f.offset = o) (hc : P.cellsOf f.type = d.sz) (h : OpensN P n f.type d X) (hs : OpensFs P n fs (o + d.sz) d' Y) :
    OpensFs P n (f :: fs) o (Kd.pair d d') (fun p => X p.1 ∧ Y p.2) := by
  intro H enc w cs xs hl hx ht hw
  obtain ⟨x, xs, rfl⟩ : ∃ x xs', xs = x :: xs' := by
    match xs, hx with
    | x :: xs', _ => exact ⟨x, xs', rfl⟩
  have hsz : (Kd.pair d d').sz = d.sz + d'.sz := rfl
  rw [hsz] at hl
  have h1 := ht 0 f rfl
  rw [ho, hc] at h1
  have hwx : ∀ m ∈ x.1.weights P f.type, m ≤ reachBytes := fun m hm => hw m (by simp only [List.map_cons, DataW.weightsEach, List.mem_append]; exact Or.inl hm)
  obtain ⟨a, ha, hxa⟩ := h H enc w _ x h1 hwx
  obtain ⟨b, hb, hyb⟩ := hs H enc w cs xs (by omega) (by simpa using hx) (fun i g hg => by simpa using ht (i + 1) g (by simpa using hg)) (fun m hm => hw m (by simp only [List.map_cons, DataW.weightsEach, List.mem_append]; exact Or.inr hm))
  refine ⟨(a, b), ⟨_, _, ?_, ha, hb⟩, hxa, hyb⟩
  rw [← List.drop_drop]
  exact (List.take_append_drop _ _).symm
theorem opens_struct {P : Program} {n : Nat} {t : TypeId} {fs : Array Field} {α β : Type} {d : Kd α} {X : α → Prop} {f : β → α} {g : α → β} (hu : P.underlying t = some (.struct fs)) (hc : P.cellsOf t = d.sz) (h : OpensFs P n fs.toList 0 d X) (hfg : ∀ a, f (g a) = a) :
    OpensN P (n + 1) t (Kd.iso d f) (fun b => X (f b)) := by
  intro H enc w cs x ht hw
  obtain ⟨xs, m, hm, rfl, hl, hx, hget⟩ := DataW.trod_struct hu ht
  obtain rfl : n = m := by omega
  have hw2 : ∀ k ∈ DataW.weightsEach P (fs.toList.map (·.type)) (xs.map (·.1)), k ≤ reachBytes := by
    intro k hk
    refine hw k ?_
    simp only [DataW.weights, hu]
    exact hk
  obtain ⟨a, ha, hxa⟩ := h H enc w cs xs (by rw [hl, hc]; omega) (by simpa using hx) (fun i q hq => hget i q (by simpa using hq)) hw2
  refine ⟨g a, ?_, ?_⟩
  · show d.K w (f (g a)) cs
    rw [hfg]
    simpa using ha
  · show X (f (g a))
    rw [hfg]
    exact hxa
theorem opensN_zero {P : Program} {t : TypeId} {α : Type} {d : Kd α} {X : α → Prop} : OpensN P 0 t d X := by
  intro H enc w cs x h _
  simp [DataW.trod] at h
theorem opens_of {P : Program} {t : TypeId} {α : Type} {d : Kd α} {X : α → Prop} (h : ∀ n, OpensN P (n + 1) t d X) : Opens P t d X := by
  intro n
  cases n with
  | zero => exact opensN_zero
  | succ n => exact h n
def I64 (n : Int) : Prop := -9223372036854775808 ≤ n ∧ n ≤ 9223372036854775807
def SzOk (s : ByteArray) : Prop := s.size ≤ 140737488351232
def XL {α : Type} (B : Nat) (X : α → Prop) (l : List α) : Prop := l.length * B ≤ 140737488351232 ∧ ∀ x ∈ l, X x
theorem i64_of_wf {n : Int} (h : (Lit.int .i64 n).wf = true) : I64 n := by
  simp [Lit.wf, IntKind.min, IntKind.max, IntKind.signed, IntKind.bits] at h
  unfold I64
  omega
theorem Opens.i64 {P : Program} {t : TypeId} (hu : P.underlying t = some (.int .i64)) : Opens P t (Kd.int .i64) I64 := fun _ => (opens_int hu).weak fun _ h => i64_of_wf h
theorem Opens.int {P : Program} {t : TypeId} {k : IntKind} (hu : P.underlying t = some (.int k)) : Opens P t (Kd.int k) (fun a => (Lit.int k a).wf = true) := fun _ => opens_int hu
theorem Opens.bool {P : Program} {t : TypeId} (hu : P.underlying t = some .bool) : Opens P t Kd.bool (fun _ => True) := fun _ => opens_bool hu
theorem Opens.string {P : Program} {t : TypeId} (hu : P.underlying t = some .string) : Opens P t Kd.string SzOk := fun _ => opens_string hu
theorem Opens.slice {P : Program} {t e : TypeId} {B : Nat} {α : Type} {d : Kd α} {X : α → Prop} (hu : P.underlying t = some (.slice e)) (hc : P.cellsOf e = d.sz) (hB : P.bytesOf e = B) (he : Opens P e d X) : Opens P t (Kd.slice e d) (XL B X) := opens_of fun n => opens_slice hu hc hB (he n)
theorem Opens.struct {P : Program} {t : TypeId} {fs : Array Field} {α β : Type} {d : Kd α} {X : α → Prop} {f : β → α} (g : α → β) (hu : P.underlying t = some (.struct fs)) (hc : P.cellsOf t = d.sz) (h : ∀ n, OpensFs P n fs.toList 0 d X) (hfg : ∀ a, f (g a) = a) : Opens P t (Kd.iso d f) (fun b => X (f b)) := opens_of fun n => opens_struct hu hc (h n) hfg
theorem open_arg {H : Type} {enc : TypeId × Value → H} {P : Program} {W : World} {t : TypeId} {v : Value} {dd : DataW H} {ps : List MemPlace} {ts : List TypeId} {ds : List (DataW H)} {j : Nat} {α : Type} {d : Kd α} {X : α → Prop} (ho : Opens P t d X)
    (hsz : (DataW.weightsEach P ts ds).all (· ≤ reachBytes) = true) (ht : ts[j]? = some t) (hd : ds[j]? = some dd) (h : DataW.Trod enc P W 0 (fun _ => true) true t v dd ps) : ∃ a : α, d.K W a v.cells.toList ∧ X a := by
  obtain ⟨fuel, hf⟩ := h
  refine ho fuel H enc W _ _ hf (fun m hm => ?_)
  have := List.all_eq_true.1 hsz _ (DataW.weights_mem_each ht hd m hm)
  simpa using this
end Go.Proofs.Ythkdpkgkejdcgaa.Opn
