/- Plain laws: that a printed function answers, and what. Conditions: stated at each. -/
import Derived.Test.YtolackmpfnndhaaGreatDoorOpn2
import Derived.IntWalk
namespace Go.Proofs.YtolackmpfnndhaaGreatDoor.Ev
open Go Go.RowKit
set_option linter.unusedVariables false
set_option linter.unusedSimpArgs false
/-- From some number of rounds on it answers, by what p says. -/
def D {α : Type} (F : Nat → Option α) (p : α → Prop) : Prop := ∃ v, p v ∧ ∃ K, ∀ k, K ≤ k → F k = some v
theorem D.ret {α : Type} {a : α} {p : α → Prop} (h : p a) : D (fun _ => (T.ret a).eval) p := ⟨a, h, 0, fun _ _ => rfl⟩
theorem D.bnd {α R : Type} {o : Nat → Option R} {q : R → Prop} {d : R} {f : Nat → R → T α} {p : α → Prop} (h : D o q) (k : ∀ r, q r → D (fun k => (f k r).eval) p) : D (fun k => (T.bnd (o k) d (f k)).eval) p := by
  obtain ⟨r, hr, K, h⟩ := h
  obtain ⟨v, hv, K2, h2⟩ := k r hr
  refine ⟨v, hv, K + K2, fun k hk => ?_⟩
  show ((o k).bind fun r => (f k r).eval) = _
  rw [h k (by omega)]
  exact h2 k (by omega)
theorem D.test {α : Type} {b : Bool} {x y : Nat → T α} {p : α → Prop} (h : b = true → D (fun k => (x k).eval) p) (k : b = false → D (fun k => (y k).eval) p) : D (fun k => (T.test b (x k) (y k)).eval) p := by
  cases b with
  | true => exact h rfl
  | false => exact k rfl
theorem D.tt {α : Type} {b : Bool} {x y : Nat → T α} {p : α → Prop} (hb : b = true) (h : D (fun k => (x k).eval) p) : D (fun k => (T.test b (x k) (y k)).eval) p := D.test (fun _ => h) (fun e => by rw [hb] at e; cases e)
theorem D.opt {α R : Type} {c : Bool} {o : Nat → Option R} {q : R → Prop} {d : R} {f : Nat → R → T α} {p : α → Prop} (h : c = true → D o q) (hd : c = false → q d) (k : ∀ r, q r → D (fun k => (f k r).eval) p) : D (fun k => (T.opt c (o k) d (f k)).eval) p := by
  cases c with
  | true => exact D.bnd (d := d) (h rfl) k
  | false => exact k d (hd rfl)
theorem D.cas {α R S : Type} {o : Nat → Option (R ⊕ S)} {q : R ⊕ S → Prop} {f : Nat → R → T α} {g : Nat → S → T α} {p : α → Prop} (h : D o q) (kf : ∀ r, q (.inl r) → D (fun k => (f k r).eval) p) (kg : ∀ r, q (.inr r) → D (fun k => (g k r).eval) p) : D (fun k => (T.cas (o k) (f k) (g k)).eval) p := by
  obtain ⟨r, hr, K, h⟩ := h
  cases r with
  | inl r =>
    obtain ⟨v, hv, K2, h2⟩ := kf r hr
    refine ⟨v, hv, K + K2, fun k hk => ?_⟩
    simp only [T.eval]
    rw [h k (by omega)]
    exact h2 k (by omega)
  | inr r =>
    obtain ⟨v, hv, K2, h2⟩ := kg r hr
    refine ⟨v, hv, K + K2, fun k hk => ?_⟩
    simp only [T.eval]
    rw [h k (by omega)]
    exact h2 k (by omega)
theorem D.mono {α : Type} {F : Nat → Option α} {p q : α → Prop} (h : D F p) (k : ∀ v, p v → q v) : D F q := by
  obtain ⟨v, hv, h⟩ := h; exact ⟨v, k v hv, h⟩
/-- A loop that comes nearer its end. -/
theorem D.loop {A R : Type} {s : Nat → A → T (A ⊕ R)} (I : A → Prop) (μ : A → Nat) (p : R → Prop) (h : ∀ x, I x → D (fun k => (s k x).eval) (fun v => match v with | .inl y => I y ∧ μ y < μ x | .inr r => p r)) (x : A) (hx : I x) : D (fun k => iter (s k) k x) p := by
  suffices ∀ n x, μ x ≤ n → I x → ∃ r, p r ∧ ∃ K, ∀ k, K ≤ k → ∀ m, K ≤ m → iter (s k) m x = some r by
    obtain ⟨r, hr, K, hK⟩ := this (μ x) x (Nat.le_refl _) hx
    exact ⟨r, hr, K, fun k hk => hK k hk k hk⟩
  intro n
  induction n with
  | zero =>
    intro x hm hx
    obtain ⟨v, hv, K, hK⟩ := h x hx
    have hK : ∀ k, K ≤ k → (s k x).eval = some v := hK
    cases v with
    | inl y => exact absurd hv.2 (by omega)
    | inr r =>
      refine ⟨r, hv, K + 1, fun k hk m hm => ?_⟩
      match m, hm with
      | m + 1, _ => simp only [iter]; rw [hK k (by omega)]; rfl
  | succ n ih =>
    intro x hm hx
    obtain ⟨v, hv, K, hK⟩ := h x hx
    have hK : ∀ k, K ≤ k → (s k x).eval = some v := hK
    cases v with
    | inl y =>
      obtain ⟨r, hr, K2, hK2⟩ := ih y (by have := hv.2; omega) hv.1
      refine ⟨r, hr, K + K2 + 1, fun k hk m hm => ?_⟩
      match m, hm with
      | m + 1, hm =>
        simp only [iter]
        rw [hK k (by omega)]
        exact hK2 k (by omega) m (by omega)
    | inr r =>
      refine ⟨r, hv, K + 1, fun k hk m hm => ?_⟩
      match m, hm with
      | m + 1, _ => simp only [iter]; rw [hK k (by omega)]; rfl
theorem iter_congr {A R : Type} {s t : A → T (A ⊕ R)} (h : ∀ x, (s x).eval = (t x).eval) : ∀ k x, iter s k x = iter t k x
  | 0, x => rfl
  | k + 1, x => by
    simp only [iter]
    rw [h x]
    cases (t x).eval with
    | none => rfl
    | some v => cases v with
      | inl y => exact iter_congr h k y
      | inr r => rfl
/-- Rows whose slices and strings are short, all the way down. -/
def brn : Nat → Row → Prop
  | 0, _ => True
  | n + 1, r => ∀ c, c ∈ r → match c with
    | .slice _ es _ => es.length ≤ 1048576 ∧ ∀ q, q ∈ es → brn n q
    | .str s => s.size ≤ 1048576
    | _ => True
def Br (r : Row) : Prop := ∀ n, brn n r
def Brs (es : Rows) : Prop := es.length ≤ 1048576 ∧ ∀ q, q ∈ es → Br q
def Brc : V → Prop
  | .slice _ es _ => Brs es
  | .str s => s.size ≤ 1048576
  | _ => True
theorem br_iff {r : Row} : Br r ↔ ∀ c, c ∈ r → Brc c := by
  constructor
  · intro h c hc
    cases c with
    | slice t es k => exact ⟨(h 1 _ hc).1, fun q hq n => (h (n + 1) _ hc).2 q hq⟩
    | str s => exact h 1 _ hc
    | _ => trivial
  · intro h n
    cases n with
    | zero => trivial
    | succ n =>
      intro c hc
      have := h c hc
      cases c with
      | slice t es k => exact ⟨this.1, fun q hq => this.2 q hq n⟩
      | str s => exact this
      | _ => trivial
theorem br_nil : Br [] := br_iff.2 (fun c h => by cases h)
theorem br_cons {c : V} {r : Row} (h : Brc c) (k : Br r) : Br (c :: r) := br_iff.2 (fun x hx => by
  rcases List.mem_cons.1 hx with rfl | hx
  · exact h
  · exact br_iff.1 k x hx)
theorem br_append {a b : Row} (h : Br a) (k : Br b) : Br (a ++ b) := br_iff.2 (fun x hx => by
  rcases List.mem_append.1 hx with hx | hx
  · exact br_iff.1 h x hx
  · exact br_iff.1 k x hx)
theorem br_rJ : ∀ {l : List Row}, (∀ r, r ∈ l → Br r) → Br (rJ l)
  | [], _ => br_nil
  | r :: l, h => br_append (h r (List.mem_cons_self ..)) (br_rJ (fun q hq => h q (List.mem_cons_of_mem _ hq)))
theorem brs_nil : Brs [] := ⟨Nat.zero_le _, fun q h => by cases h⟩
theorem getD_mem_or {r : Row} (j : Nat) : r.getD j .dead ∈ r ∨ r.getD j .dead = .dead := by
  rw [List.getD_eq_getElem?_getD]
  cases h : r[j]? with
  | none => exact Or.inr rfl
  | some c => exact Or.inl (List.mem_of_getElem? h)
theorem brc_get {r : Row} (h : Br r) (j : Nat) : Brc (r.getD j .dead) := by
  rcases getD_mem_or (r := r) j with hm | hm
  · exact br_iff.1 h _ hm
  · rw [hm]; trivial
theorem Br.sl {r : Row} (h : Br r) (j : Nat) : Brs (rSl r j) := by
  have := brc_get h j
  unfold rSl
  split
  · rename_i es k e; rw [e] at this; exact this
  · exact brs_nil
theorem Br.str {r : Row} (h : Br r) (j : Nat) : (rStr r j).size ≤ 1048576 := by
  have := brc_get h j
  unfold rStr
  split
  · rename_i s e; rw [e] at this; exact this
  · exact Nat.zero_le _
theorem brc_eta {P : Program} {r : Row} (h : Br r) (j t : Nat) : Brc (etaC P r j t) := by
  unfold etaC
  split
  · trivial
  · trivial
  · exact h.str j
  · exact h.sl j
  · trivial
theorem brc_etaX {P : Program} {r : Row} (h : Br r) (j t : Nat) : Brc (etaX P r j t) := by
  unfold etaX
  split
  · unfold etaE
    split
    · exact h.sl j
    · trivial
  · exact brc_eta h j t
theorem br_etaL {P : Program} {r : Row} (h : Br r) : ∀ (l : List Nat) (k : Nat), Br (etaL P r k l)
  | [], k => br_nil
  | t :: l, k => br_cons (brc_etaX h k t) (br_etaL h l (k + 1))
theorem Br.eta {P : Program} {r : Row} (h : Br r) (t : Nat) : Br (eta P t r) := br_etaL h _ _
theorem Brs.at {es : Rows} (h : Brs es) (i : Int) : Br (rAt es i) := by
  unfold rAt
  rw [List.getD_eq_getElem?_getD]
  cases he : es[i.toNat]? with
  | none => exact br_nil
  | some q => exact h.2 q (List.mem_of_getElem? he)
theorem CellOk.br {P : Program} : ∀ {n t : Nat} {v : V}, CellOk P true n t v → Brc v
  | 0, _, _, h => h.elim
  | n + 1, t, v, h => by
    unfold CellOk at h
    cases hu : P.underlying t with
    | none => rw [hu] at h; exact h.elim
    | some d =>
      rw [hu] at h
      cases d with
      | bool => obtain ⟨b, rfl⟩ := h; trivial
      | int k => obtain ⟨m, rfl, _⟩ := h; trivial
      | string =>
        obtain ⟨s, rfl, h⟩ := h
        have h : s.size ≤ 1048575 := h
        show s.size ≤ 1048576
        omega
      | slice e =>
        obtain ⟨es, rfl, h1, h2⟩ := h
        have h1 : es.length ≤ 1048575 := h1
        refine ⟨by omega, fun q hq => br_iff.2 (fun c hc => ?_)⟩
        obtain ⟨j, hj⟩ := List.mem_iff_getElem?.1 hc
        have hl : j < (ctsF P e).length := by
          rw [← (h2 q hq).1]; exact (List.getElem?_eq_some_iff.1 hj).1
        exact ((h2 q hq).2 j c _ hj (List.getElem?_eq_getElem hl)).br
      | _ => exact h.elim
theorem RowOk.br {P : Program} {n t : Nat} {r : Row} (h : RowOk P true n t r) : Br r := br_iff.2 (fun c hc => by
  obtain ⟨j, hj⟩ := List.mem_iff_getElem?.1 hc
  have hl : j < (ctsF P t).length := by
    rw [← h.1]; exact (List.getElem?_eq_some_iff.1 hj).1
  exact (h.2 j c _ hj (List.getElem?_eq_getElem hl)).br)
/-- A slice that came in is a little shorter than what the bound lets. -/
theorem RowOk.len {P : Program} {n t : Nat} {r : Row} (h : RowOk P true n t r) {j ct e : Nat} (hj : (ctsF P t)[j]? = some ct) (hu : P.underlying ct = some (.slice e)) : rLen (rSl r j) ≤ 1048575 := by
  have hl : j < r.length := by rw [h.1]; exact (List.getElem?_eq_some_iff.1 hj).1
  have h1 := h.2 j _ ct (List.getElem?_eq_getElem hl) hj
  have h2 : rSl r j = match r[j] with | .slice _ es _ => es | _ => [] := by
    unfold rSl
    rw [List.getD_eq_getElem?_getD, List.getElem?_eq_getElem hl]
    rfl
  cases n with
  | zero => exact h1.elim
  | succ n =>
    unfold CellOk at h1
    rw [hu] at h1
    obtain ⟨es, he, h5, _⟩ := h1
    have h5 : es.length ≤ 1048575 := h5
    rw [h2, he]
    show (es.length : Int) ≤ 1048575
    omega
/-- The places of a walk over a slice. -/
theorem iAdd_one {i : Int} (h : 0 ≤ i) (k : i ≤ 1048576) : iAdd .i64 i 1 = i + 1 := by
  unfold iAdd; exact IntWalk.i64_in _ (by omega)
theorem iIn_of {es : Rows} {i : Int} (h : 0 ≤ i) (k : iLt i (rLen es) = true) : iIn i (rLen es) = true := by
  unfold iLt at k; unfold iIn
  have := of_decide_eq_true k
  exact decide_eq_true ⟨h, this⟩
theorem rOk_of {b : Nat} {n m : Int} (hb : b ≤ 134217728) (hn : n ≤ 1048575) (h0 : 0 ≤ n) (hm : m = 1) : rOk b n m = true := by
  unfold rOk
  refine decide_eq_true ?_
  subst hm
  have h1 : (n + 1) * (b : Int) ≤ 1048576 * (b : Int) := Int.mul_le_mul_of_nonneg_right (by omega) (by omega)
  have h2 : (1048576 : Int) * (b : Int) ≤ 140737488355328 := by omega
  exact Int.le_trans h1 h2
/-- The places that a walk over es may be at. -/
def Place (es : Rows) (i : Int) : Prop := 0 ≤ i ∧ i ≤ rLen es
theorem Place.next {es : Rows} (hb : Brs es) {i : Int} (h : Place es i) (k : iLt i (rLen es) = true) : Place es (iAdd .i64 i 1) ∧ (rLen es - iAdd .i64 i 1).toNat < (rLen es - i).toNat := by
  have k := of_decide_eq_true k
  have hl : rLen es ≤ 1048576 := by have := hb.1; unfold rLen; omega
  rw [iAdd_one h.1 (by omega)]
  exact ⟨⟨by have := h.1; omega, by omega⟩, by have := h.1; omega⟩
/-- A loop that makes one row of each. -/
theorem D.made {s : Nat → Rows × Int → T ((Rows × Int) ⊕ Rows)} {es : Rows} (hb : Brs es)
    (h : ∀ (out : Rows) (i : Int), Place es i → iLt i (rLen es) = true → rLen out = i → (∀ q, q ∈ out → Br q) → D (fun k => (s k (out, i)).eval) (fun v => ∃ r, Br r ∧ v = .inl (rCat out [r], iAdd .i64 i 1)))
    (he : ∀ (out : Rows) (i : Int), iLt i (rLen es) = false → D (fun k => (s k (out, i)).eval) (fun v => v = .inr out)) : D (fun k => iter (s k) k ([], 0)) Brs := by
  refine D.loop (fun x => Place es x.2 ∧ rLen x.1 = x.2 ∧ ∀ q, q ∈ x.1 → Br q) (fun x => (rLen es - x.2).toNat) Brs (fun x hx => ?_) _ ⟨⟨Int.le_refl _, by unfold rLen; simp⟩, rfl, fun q hq => by cases hq⟩
  obtain ⟨out, i⟩ := x
  obtain ⟨h1, h2, h3⟩ := hx
  cases hi : iLt i (rLen es) with
  | true =>
    refine (h out i h1 hi h2 h3).mono ?_
    rintro _ ⟨r, hr, rfl⟩
    obtain ⟨n1, n2⟩ := h1.next hb hi
    refine ⟨⟨n1, ?_, fun q hq => ?_⟩, n2⟩
    · have hl : rLen es ≤ 1048576 := by have := hb.1; unfold rLen; omega
      have := of_decide_eq_true hi
      rw [iAdd_one h1.1 (by omega)]
      show ((out ++ [r]).length : Int) = _
      have h2' : (out.length : Int) = i := h2
      simp; omega
    · rcases List.mem_append.1 hq with hq | hq
      · exact h3 q hq
      · rw [List.mem_singleton.1 hq]; exact hr
  | false =>
    refine (he out i hi).mono ?_
    rintro _ rfl
    refine ⟨?_, h3⟩
    have h4 := h1.2
    have h5 := hb.1
    have h2' : (out.length : Int) = i := h2
    unfold rLen at h4
    omega
/-- A loop that looks at one after the other. -/
theorem D.looked {R : Type} {s : Nat → Int → T (Int ⊕ R)} {es : Rows} (hb : Brs es) (p : R → Prop)
    (h : ∀ i, Place es i → D (fun k => (s k i).eval) (fun v => match v with | .inl j => j = iAdd .i64 i 1 ∧ iLt i (rLen es) = true | .inr r => p r)) : D (fun k => iter (s k) k 0) p := by
  refine D.loop (Place es) (fun i => (rLen es - i).toNat) p (fun i hi => ?_) 0 ⟨Int.le_refl _, by unfold rLen; simp⟩
  refine (h i hi).mono ?_
  intro v hv
  cases v with
  | inl j => obtain ⟨rfl, hlt⟩ := hv; exact hi.next hb hlt
  | inr r => exact hv
theorem brs_of {l : Rows} (h : l.length ≤ 1048576) (k : ∀ q, q ∈ l → Br q) : Brs l := ⟨h, k⟩
theorem all_nil {p : Row → Prop} : ∀ q, q ∈ ([] : Rows) → p q := fun q h => by cases h
theorem all_cons {p : Row → Prop} {a : Row} {l : Rows} (h : p a) (k : ∀ q, q ∈ l → p q) : ∀ q, q ∈ a :: l → p q := fun q hq => by
  rcases List.mem_cons.1 hq with rfl | hq
  · exact h
  · exact k q hq
theorem brc_slice {t : Nat} {es : Rows} {k : K} (h : Brs es) : Brc (.slice t es k) := h
theorem brc_str {s : ByteArray} (h : s.size ≤ 1048576) : Brc (.str s) := h
theorem brc_int {k : IntKind} {n : Int} : Brc (.int k n) := trivial
theorem brc_bool {b : Bool} : Brc (.bool b) := trivial
theorem made_ok {es out : Rows} (h : Brs es) {i : Int} (hi : iLt i (rLen es) = true) (hl : rLen out = i) (q : Row) : rOk 80 (rLen out) (rLen [q]) = true :=
  rOk_of (by decide) (by have h9 := of_decide_eq_true hi; have h8 := h.1; unfold rLen at h9 hl ⊢; omega) (by unfold rLen; omega) rfl
theorem bimp_ {c b : Bool} (h : b = true) : bImp c b = true := by unfold bImp; rw [h]; cases c <;> rfl
/-- Answers stay. -/
def OLe {α : Type} (o u : Option α) : Prop := ∀ v, o = some v → u = some v
def Le {α : Type} (t u : T α) : Prop := OLe t.eval u.eval
theorem Le.refl {α : Type} (t : T α) : Le t t := fun _ h => h
theorem Le.test {α : Type} {b : Bool} {x y x' y' : T α} (h : Le x x') (k : Le y y') : Le (.test b x y) (.test b x' y') := by
  cases b with
  | true => exact h
  | false => exact k
theorem Le.bnd {α R : Type} {o o' : Option R} {d : R} {f f' : R → T α} (h : OLe o o') (k : ∀ r, Le (f r) (f' r)) : Le (.bnd o d f) (.bnd o' d f') := by
  intro v hv
  have hv : (o.bind fun r => (f r).eval) = some v := hv
  rw [Option.bind_eq_some_iff] at hv
  obtain ⟨r, h1, h2⟩ := hv
  show (o'.bind fun r => (f' r).eval) = some v
  rw [h r h1]
  exact k r v h2
theorem Le.opt {α R : Type} {c : Bool} {o o' : Option R} {d : R} {f f' : R → T α} (h : OLe o o') (k : ∀ r, Le (f r) (f' r)) : Le (.opt c o d f) (.opt c o' d f') := by
  cases c with
  | true => exact Le.bnd (d := d) h k
  | false => exact k d
theorem Le.cas {α R S : Type} {o o' : Option (R ⊕ S)} {f f' : R → T α} {g g' : S → T α} (h : OLe o o') (k : ∀ r, Le (f r) (f' r)) (l : ∀ r, Le (g r) (g' r)) : Le (.cas o f g) (.cas o' f' g') := by
  intro v hv
  simp only [T.eval] at hv ⊢
  rw [Option.bind_eq_some_iff] at hv
  obtain ⟨r, h1, h2⟩ := hv
  rw [h r h1]
  cases r with
  | inl r => exact k r v h2
  | inr r => exact l r v h2
theorem Le.iter {A R : Type} {s t : A → T (A ⊕ R)} (h : ∀ x, Le (s x) (t x)) : ∀ {k m : Nat} (_ : k ≤ m) (x : A), OLe (iter s k x) (iter t m x)
  | 0, _, _, x => fun v hv => by cases hv
  | k + 1, 0, hk, x => absurd hk (by omega)
  | k + 1, m + 1, hk, x => by
    intro v hv
    simp only [Ev.iter] at hv ⊢
    rw [Option.bind_eq_some_iff] at hv
    obtain ⟨r, h1, h2⟩ := hv
    rw [h x r h1]
    cases r with
    | inl y => exact Le.iter h (by omega) y v h2
    | inr r => exact h2
theorem D.of_up {α : Type} {F : Nat → Option α} (h : ∀ {k m : Nat}, k ≤ m → OLe (F k) (F m)) {k : Nat} {v : α} (hv : F k = some v) : D F (fun u => u = v) := ⟨v, rfl, k, fun m hm => h hm v hv⟩
theorem D.both {α : Type} {F G : Nat → Option α} {p : α → Prop} (h : ∀ k, F k = G k) (k : D F p) : D F (fun v => p v ∧ D G (fun u => u = v)) := by
  obtain ⟨v, hv, K, hK⟩ := k
  exact ⟨v, ⟨hv, v, rfl, K, fun m hm => by rw [← h m]; exact hK m hm⟩, K, hK⟩
theorem iter_sim {A R S : Type} {s : A → T (A ⊕ R)} {t : A → T (A ⊕ S)} (g : R → S) (h : ∀ x, ((s x).eval).map (Sum.map id g) = (t x).eval) : ∀ k x, (iter s k x).map g = iter t k x
  | 0, x => rfl
  | k + 1, x => by
    simp only [Ev.iter]
    rw [← h x]
    cases (s x).eval with
    | none => rfl
    | some v => cases v with
      | inl y => exact iter_sim g h k y
      | inr r => rfl
/-- A walk over n places, with what it carries. -/
theorem D.walk {A R : Type} {s : Nat → A → T (A ⊕ R)} {n : Int} (h0n : 0 ≤ n) (hn : n ≤ 1048576) (ix : A → Int) (p : R → Prop)
    (h : ∀ x, 0 ≤ ix x → ix x ≤ n → D (fun k => (s k x).eval) (fun v => match v with | .inl y => ix y = iAdd .i64 (ix x) 1 ∧ iLt (ix x) n = true | .inr r => p r)) (x : A) (hx : ix x = 0) : D (fun k => iter (s k) k x) p := by
  refine D.loop (fun x => 0 ≤ ix x ∧ ix x ≤ n) (fun x => (n - ix x).toNat) p (fun x hx => ?_) x (by rw [hx]; exact ⟨Int.le_refl _, h0n⟩)
  refine (h x hx.1 hx.2).mono ?_
  intro v hv
  cases v with
  | inl y =>
    obtain ⟨h1, h2⟩ := hv
    have h2 := of_decide_eq_true h2
    rw [iAdd_one hx.1 (by omega)] at h1
    show (0 ≤ ix y ∧ ix y ≤ n) ∧ _
    rw [h1]
    exact ⟨⟨by have := hx.1; omega, by omega⟩, by have := hx.1; omega⟩
  | inr r => exact hv
theorem rl_le {es : Rows} (h : Brs es) : rLen es ≤ 1048576 := by have := h.1; unfold rLen; omega
theorem rl_pos (es : Rows) : 0 ≤ rLen es := by unfold rLen; omega
theorem sl_le {s : ByteArray} (h : s.size ≤ 1048576) : sLen s ≤ 1048576 := by unfold sLen; omega
theorem sl_pos (s : ByteArray) : 0 ≤ sLen s := by unfold sLen; omega
theorem iIn_lt {i n : Int} (h : 0 ≤ i) (k : iLt i n = true) : iIn i n = true := by
  have := of_decide_eq_true k
  exact decide_eq_true ⟨h, this⟩
theorem bimp_sub {a : Bool} {i n : Int} (h : 0 ≤ i) (k : iLt i n = true) (hn : n ≤ 1048576) : bImp (bAnd a (iLt 0 i)) (iIn (iSub .i64 i 1) n) = true := by
  have k := of_decide_eq_true k
  cases hi : iLt 0 i with
  | false => cases a <;> rfl
  | true =>
    have hi := of_decide_eq_true hi
    have e : iSub .i64 i 1 = i - 1 := IntWalk.i64_in _ (by omega)
    rw [e]
    exact bimp_ (decide_eq_true ⟨by omega, by omega⟩)
theorem vk1 (n : Int) (b : Bool) : bImp (bNot (bIte (iLt n 1) true b)) (iIn 0 n) = true := by
  cases h : iLt n 1 with
  | true => rfl
  | false =>
    have := of_decide_eq_false h
    exact bimp_ (decide_eq_true ⟨by omega, by omega⟩)
theorem vk2 (n : Int) (b c : Bool) : bImp (bNot (bIte (bIte (iLt n 1) true b) true c)) (iIn 0 n) = true := by
  cases h : iLt n 1 with
  | true => rfl
  | false =>
    have := of_decide_eq_false h
    exact bimp_ (decide_eq_true ⟨by omega, by omega⟩)
theorem sOk_of {n m : Int} (hn : n ≤ 1000000000) (hm : m ≤ 1000000000) : sOk n m = true := decide_eq_true (by omega)
theorem sLen_cat (s t : ByteArray) : sLen (sCat s t) = sLen s + sLen t := by unfold sLen sCat; rw [ByteArray.size_append]; omega
theorem norm_slice {P : Program} {t e : Nat} (es : Rows) (k : K) (hu : P.underlying t = some (.slice e)) : normA P t (.slice e es k) = some (.slice e es .open) := by unfold normA norm1; rw [hu]; simp
/-- An argument that is a slice. -/
theorem arg_slice {P : Program} {W : World} {n t e : Nat} (hu : P.underlying t = some (.slice e)) (hc : ctsF P t = [t]) {a : Option Addr} {len cap : Nat} {r : Row} (h : Opened P true W n t (Value.slice a len cap).cells.toList r) : ∃ es, Brs es ∧ Rep P (E0 W (All W)) (.slice a len cap) (.slice e es .open) := by
  obtain ⟨h1, h2, h3⟩ := h
  rw [show (Value.slice a len cap).cells.toList = [.slice a len cap] from rfl] at h1 h3
  match r, h1 with
  | [x], _ =>
    have h4 := h2.2 0 x t rfl (by rw [hc]; rfl)
    cases n with
    | zero => exact h4.elim
    | succ n =>
      unfold CellOk at h4
      rw [hu] at h4
      obtain ⟨es, rfl, h5, h6⟩ := h4
      refine ⟨es, ⟨?_, fun q hq => RowOk.br (P := P) (n := n) (t := e) ⟨(h6 q hq).1, (h6 q hq).2⟩⟩, h3 0 _ _ rfl rfl⟩
      have h5 : es.length ≤ 1048575 := h5
      omega
end Go.Proofs.YtolackmpfnndhaaGreatDoor.Ev
