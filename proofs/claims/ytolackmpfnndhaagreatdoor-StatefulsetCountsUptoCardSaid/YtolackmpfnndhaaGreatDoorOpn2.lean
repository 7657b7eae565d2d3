/- A law's arguments, opened: what reads as data is a value of the abstract run; the law's row. Conditions: stated at each. -/
import Derived.Test.YtolackmpfnndhaaGreatDoorSndD
import Derived.ChangeArms
import Derived.SizedLaws
import Derived.Test.YtolackmpfnndhaaGreatDoorRows
import Derived.Lib.LaidTab
namespace Go.Proofs.YtolackmpfnndhaaGreatDoor.Ev
open Go Go.RowKit
set_option linter.unusedVariables false
set_option linter.unusedSimpArgs false
variable {P : Program} {U : Bool}
/-- How long a thing may be: by the bound of the second form, or by the first form's reach. -/
def okLen (U : Bool) (n b : Nat) : Prop := if U = true then n ≤ 1048575 else n * b ≤ 140737488351232
/-- A variable's cells, plain. -/
def ctsF (P : Program) (t : Nat) : List Nat := cts P 12 t
/-- A cell of its type; n bounds its depth. -/
def CellOk (P : Program) (U : Bool) : Nat → Nat → V → Prop
  | 0, _, _ => False
  | n + 1, t, v =>
    match P.underlying t with
    | some .bool => ∃ b, v = .bool b
    | some (.int k) => ∃ m, v = .int k m ∧ (Lit.int k m).wf = true
    | some .string => ∃ s, v = .str s ∧ okLen U s.size 1
    | some (.slice e) => ∃ es, v = .slice e es .open ∧ okLen U es.length (P.bytesOf e) ∧ ∀ r : Row, r ∈ es → r.length = (ctsF P e).length ∧ ∀ (j : Nat) (u : V) (ct : Nat), r[j]? = some u → (ctsF P e)[j]? = some ct → CellOk P U n ct u
    | _ => False
/-- A row of a type. -/
def RowOk (P : Program) (U : Bool) (n t : Nat) (r : Row) : Prop := r.length = (ctsF P t).length ∧ ∀ (j : Nat) (u : V) (ct : Nat), r[j]? = some u → (ctsF P t)[j]? = some ct → CellOk P U n ct u
theorem CellOk.step : ∀ {n : Nat} {t : Nat} {v : V}, CellOk P U n t v → CellOk P U (n + 1) t v
  | 0, t, v, h => h.elim
  | n + 1, t, v, h => by
    unfold CellOk at h ⊢
    cases hu : P.underlying t with
    | none => rw [hu] at h; exact h
    | some d =>
      rw [hu] at h
      cases d with
      | slice e =>
        obtain ⟨es, h1, h2, h3⟩ := h
        exact ⟨es, h1, h2, fun r hr => ⟨(h3 r hr).1, fun j u ct hj hc => ((h3 r hr).2 j u ct hj hc).step⟩⟩
      | _ => exact h
/-- The fields of a struct lie side by side. -/
def layF (P : Program) (Ts : List Nat) : List Field → Nat → List Nat → Bool
  | [], _, [] => true
  | [], _, _ :: _ => false
  | f :: fs, o, l => Nat.beq f.offset o && natIn f.type Ts && (ctsF P f.type == l.take (ctsF P f.type).length) && Nat.beq (P.cellsOf f.type) (ctsF P f.type).length && layF P Ts fs (o + (ctsF P f.type).length) (l.drop (ctsF P f.type).length)
/-- A type whose data are read so; those that it is made of are in Ts. -/
def okT (P : Program) (Ts : List Nat) (t : Nat) : Bool :=
  match P.underlying t with
  | some .bool | some (.int _) | some .string => ctsF P t == [t]
  | some (.slice e) => (ctsF P t == [t]) && natIn e Ts && Nat.beq (P.cellsOf e) (ctsF P e).length && Nat.blt 0 (ctsF P e).length && (sizeT P e).isSome && (ctsOf P e == ctsF P e)
  | some (.struct fs) => layF P Ts fs.toList 0 (ctsF P t) && Nat.beq (P.cellsOf t) (ctsF P t).length
  | _ => false
/-- The types that types are made of. -/
def partsT (P : Program) (t : Nat) : List Nat :=
  match P.underlying t with
  | some (.slice e) => [e]
  | some (.struct fs) => fs.toList.map (·.type)
  | _ => []
def closeT (P : Program) : Nat → List Nat → List Nat
  | 0, l => l
  | n + 1, l => closeT P n (l.foldl (fun s t => (partsT P t).foldl (fun s x => bif natIn x s then s else x :: s) s) l)
theorem natIn_mem {n : Nat} : ∀ {l : List Nat}, natIn n l = true → n ∈ l
  | [], h => by cases h
  | a :: l, h => by
    unfold natIn at h
    rw [cond_eq_ite] at h
    split at h
    · rename_i hb; rw [Nat.eq_of_beq_eq_true hb]; exact List.mem_cons_self ..
    · exact List.mem_cons_of_mem _ (natIn_mem h)
/-- What a cell's form is. -/
theorem CellOk.eta : ∀ {n t : Nat} {v : V} {r : Row} {j : Nat}, CellOk P U n t v → r[j]? = some v → etaC P r j t = v
  | 0, t, v, r, j, h, _ => h.elim
  | n + 1, t, v, r, j, h, hr => by
    unfold CellOk at h
    unfold etaC
    cases hu : P.underlying t with
    | none => rw [hu] at h; exact h.elim
    | some d =>
      rw [hu] at h
      cases d with
      | bool => obtain ⟨b, rfl⟩ := h; simp [rBool, hr]
      | int k => obtain ⟨m, rfl, _⟩ := h; simp [rInt, hr]
      | string => obtain ⟨s, rfl, _⟩ := h; simp [rStr, hr]
      | slice e => obtain ⟨es, rfl, _⟩ := h; simp [rSl, hr]
      | _ => exact h.elim
theorem CellOk.etaX {n t : Nat} {v : V} {r : Row} {j : Nat} (h : CellOk P U n t v) (hr : r[j]? = some v) : etaX P r j t = v := by
  have h1 := h.eta hr
  unfold Ev.etaX
  split
  · rename_i hu
    cases n with
    | zero => exact h.elim
    | succ n => unfold CellOk at h; rw [hu] at h; exact h.elim
  · exact h1
theorem CellOk.has_ {n t : Nat} {v : V} (h : CellOk P U n t v) : ∃ d, P.underlying t = some d := by
  cases n with
  | zero => exact h.elim
  | succ n =>
    unfold CellOk at h
    cases hu : P.underlying t with
    | none => rw [hu] at h; exact h.elim
    | some d => exact ⟨d, rfl⟩
theorem etaL_of : ∀ {ts : List Nat} {r l : Row} {k : Nat}, l.length = ts.length → (∀ j v, l[j]? = some v → r[k + j]? = some v) → (∀ (j : Nat) (v : V) (ct : Nat), l[j]? = some v → ts[j]? = some ct → ∃ n, CellOk P U n ct v) → etaL P r k ts = l
  | [], r, [], k, _, _, _ => rfl
  | t :: ts, r, v :: l, k, hl, hr, h => by
    obtain ⟨n, hn⟩ := h 0 v t rfl rfl
    simp only [etaL]
    rw [hn.etaX (show r[k]? = some v by simpa using hr 0 v rfl), etaL_of (by simpa using hl) (fun j u hj => by
      have := hr (j + 1) u (by simpa using hj)
      have e : k + 1 + j = k + (j + 1) := by omega
      rw [e]; exact this) (fun j u ct hj hc => h (j + 1) u ct (by simpa using hj) (by simpa using hc))]
  | [], _, _ :: _, _, h, _, _ => by simp at h
  | _ :: _, _, [], _, h, _, _ => by simp at h
theorem RowOk.eta {n t : Nat} {r : Row} (h : RowOk P U n t r) (hc : ctsOf P t = ctsF P t) : eta P t r = r := by
  unfold Ev.eta
  rw [hc]
  exact etaL_of h.1 (fun j v hj => by rw [Nat.zero_add]; exact hj) (fun j v ct hj hc => ⟨n, h.2 j v ct hj hc⟩)
/-- All that lies in the world stays. -/
def All (w : World) : Nat → Nat → Prop := fun b _ => b < w.heap.size
theorem mapM_range_ {α : Type} {f : Nat → Option α} {n : Nat} {l : List α} (h : (List.range n).mapM f = some l) : l.length = n ∧ ∀ i, i < n → f i = l[i]? := by
  refine ⟨by simpa using mapM_some_length h, fun i hi => ?_⟩
  exact mapM_some_get h i i (by simp [hi])
theorem collect_ {α β : Type} {R : β → α → Nat → Prop} (l : List β) (h : ∀ i (h : i < l.length), ∃ a, R l[i] a i) : ∃ ys : List α, ys.length = l.length ∧ ∀ i (h : i < l.length) (h' : i < ys.length), R l[i] ys[i] i := by
  refine ⟨List.ofFn (fun i : Fin l.length => Classical.choose (h i.1 i.2)), by simp, fun i h1 h2 => ?_⟩
  rw [List.getElem_ofFn]
  exact Classical.choose_spec (h i h1)
theorem weightsAll_mem_ {H : Type} {e : TypeId} : ∀ {l : List (DataW H)} {i : Nat} (h : i < l.length), ∀ m ∈ l[i].weights P e, m ∈ DataW.weightsAll P e l
  | d :: r, 0, _, m, hm => by simp only [DataW.weightsAll, List.mem_append]; exact Or.inl hm
  | d :: r, i + 1, h, m, hm => by
    simp only [DataW.weightsAll, List.mem_append]
    exact Or.inr (weightsAll_mem_ (by simpa using h) m (by simpa using hm))
/-- What reads as data of a type. -/
def Opened (P : Program) (U : Bool) (w : World) (n t : Nat) (cs : List Value) (r : Row) : Prop :=
  cs.length = r.length ∧ RowOk P U n t r ∧ ∀ (j : Nat) (v : Value) (u : V), cs[j]? = some v → r[j]? = some u → Rep P (E0 w (All w)) v u
theorem open_one {w : World} {n t : Nat} {v : Value} {u : V} (hc : ctsF P t = [t]) (h : CellOk P U n t u) (hr : Rep P (E0 w (All w)) v u) : Opened P U w n t [v] [u] := by
  refine ⟨rfl, ⟨by rw [hc]; rfl, fun j x ct hj hct => ?_⟩, fun j x y hj hy => ?_⟩
  · rw [hc] at hct
    cases j with
    | zero => simp at hj hct; subst hj; subst hct; exact h
    | succ j => simp at hj
  · cases j with
    | zero => simp at hj hy; subst hj; subst hy; exact hr
    | succ j => simp at hj
/-- What bounds a reading's parts. -/
structure Bnd (P : Program) (U : Bool) {H : Type} (G : Nat → DataW H → Prop) : Prop where
  str : ∀ t l, P.underlying t = some .string → G t (.lit (.string l)) → okLen U l.length 1
  slice : ∀ t e es rest, P.underlying t = some (.slice e) → G t (.slice es rest) → okLen U es.length (P.bytesOf e) ∧ ∀ i (h : i < es.length), G e es[i]
  agg : ∀ t (fs : Array Field) ds, P.underlying t = some (.struct fs) → G t (.agg ds) → ∀ (i : Nat) (f : Field) (d : DataW H), fs[i]? = some f → ds[i]? = some d → G f.type d
theorem weightsEach_mem_ {H : Type} : ∀ {ts : List Nat} {ds : List (DataW H)} {i t : Nat} {d : DataW H}, ts[i]? = some t → ds[i]? = some d → ∀ m ∈ d.weights P t, m ∈ DataW.weightsEach P ts ds
  | [], _, i, _, _, h, _, _, _ => by simp at h
  | t0 :: ts, [], i, _, _, _, h, _, _ => by simp at h
  | t0 :: ts, d0 :: ds, 0, _, _, h, k, m, hm => by
    simp at h k; subst h; subst k
    simp only [DataW.weightsEach, List.mem_append]; exact Or.inl hm
  | t0 :: ts, d0 :: ds, i + 1, _, _, h, k, m, hm => by
    simp only [DataW.weightsEach, List.mem_append]
    exact Or.inr (weightsEach_mem_ (by simpa using h) (by simpa using k) m hm)
theorem Bnd.reach {H : Type} : Bnd P false (H := H) (fun t d => ∀ m ∈ d.weights P t, m ≤ reachBytes) := by
  refine ⟨fun t l hu h => ?_, fun t e es rest hu h => ?_, fun t fs ds hu h i f d hf hd m hm => ?_⟩
  · have := h l.length (by simp [DataW.weights])
    show l.length * 1 ≤ _
    rw [Nat.mul_one]; exact this
  · simp only [DataW.weights, hu] at h
    have h1 := h _ List.mem_cons_self
    refine ⟨?_, fun i hi m hm => h m (List.mem_cons_of_mem _ (List.mem_append_left _ (weightsAll_mem_ hi m hm)))⟩
    exact Nat.le_trans (Nat.mul_le_mul_right _ (Nat.le_add_right _ _)) h1
  · refine h m ?_
    simp only [DataW.weights, hu]
    refine weightsEach_mem_ (i := i) (t := f.type) ?_ hd m hm
    rw [List.getElem?_map, Array.getElem?_toList, hf]; rfl
theorem bulk_part {H : Type} {d : DataW H} : ∀ {l : List (DataW H)}, d ∈ l → Rows.uptoBulk d ≤ Rows.uptoBulkAll l
  | x :: r, h => by
    simp only [Rows.uptoBulkAll]
    rcases List.mem_cons.1 h with rfl | e
    · omega
    · have := bulk_part e; omega
theorem bulk_one {H : Type} (d : DataW H) : 1 ≤ Rows.uptoBulk d := by
  cases d with
  | lit l => cases l <;> simp [Rows.uptoBulk]
  | _ => simp [Rows.uptoBulk]
theorem bulk_len {H : Type} : ∀ (l : List (DataW H)), l.length ≤ Rows.uptoBulkAll l
  | [] => Nat.zero_le _
  | x :: r => by have := bulk_one x; have := bulk_len r; simp only [Rows.uptoBulkAll, List.length_cons]; omega
theorem Bnd.bulk {H : Type} : Bnd P true (H := H) (fun _ d => Rows.uptoBulk d ≤ 1048576) := by
  refine ⟨fun t l hu h => ?_, fun t e es rest hu h => ⟨?_, fun i hi => ?_⟩, fun t fs ds hu h i f d hf hd => ?_⟩
  · simp only [Rows.uptoBulk] at h
    show l.length ≤ _
    omega
  · have := bulk_len es
    simp only [Rows.uptoBulk] at h
    show es.length ≤ _
    omega
  · have := bulk_part (List.getElem_mem hi)
    simp only [Rows.uptoBulk] at h
    omega
  · have := bulk_part (List.mem_of_getElem? hd)
    simp only [Rows.uptoBulk] at h
    omega
theorem open_cells {H : Type} {G : Nat → DataW H → Prop} (hG : Bnd P U G) {Ts : List Nat} (hT : Ts.all (okT P Ts) = true) : ∀ (n : Nat) {t : Nat}, t ∈ Ts → ∀ {enc : TypeId × Value → H} {w : World} {cs : List Value} {x : DataW H × List MemPlace},
    DataW.trod enc P w 0 (fun _ => true) true n t cs = some x → G t x.1 → ∃ r : Row, Opened P U w n t cs r
  | 0, t, _, enc, w, cs, x, h, _ => by simp [DataW.trod] at h
  | n + 1, t, ht, enc, w, cs, x, h, hw => by
    have hok := List.all_eq_true.1 hT t ht
    unfold okT at hok
    cases hu : P.underlying t with
    | none => rw [hu] at hok; cases hok
    | some d =>
      rw [hu] at hok
      cases d with
      | bool =>
        have hc : ctsF P t = [t] := by simpa using hok
        obtain ⟨b, rfl, _⟩ := DataW.trod_bool hu h
        exact ⟨[.bool b], open_one hc (by unfold CellOk; rw [hu]; exact ⟨b, rfl⟩) (.bool b)⟩
      | int k =>
        have hc : ctsF P t = [t] := by simpa using hok
        obtain ⟨m, rfl, _, hwf⟩ := DataW.trod_int hu h
        exact ⟨[.int k m], open_one hc (by unfold CellOk; rw [hu]; exact ⟨m, rfl, hwf⟩) (.int k m)⟩
      | string =>
        have hc : ctsF P t = [t] := by simpa using hok
        obtain ⟨s, rfl, rfl, _⟩ := DataW.trod_string hu h
        have : okLen U s.size 1 := by
          have := hG.str t _ hu hw
          rw [Array.length_toList] at this; exact this
        exact ⟨[.str s], open_one hc (by unfold CellOk; rw [hu]; exact ⟨s, rfl, this⟩) (.str s)⟩
      | slice e =>
        simp only [Bool.and_eq_true] at hok
        obtain ⟨⟨⟨⟨⟨k1, k2⟩, k3⟩, k4⟩, k5⟩, k6⟩ := hok
        have hce : ctsOf P e = ctsF P e := by simpa using k6
        have hc : ctsF P t = [t] := by simpa using k1
        have he := natIn_mem k2
        have hsz := Nat.eq_of_beq_eq_true k3
        have hpos : 0 < (ctsF P e).length := by simpa [Nat.blt_eq] using k4
        obtain ⟨sz, hszT⟩ := Option.isSome_iff_exists.1 k5
        have hsz' : sz = (ctsF P e).length := by
          rw [← hsz]
          unfold sizeT at hszT
          unfold Program.cellsOf
          rw [hszT]; rfl
        rcases DataW.trod_slice hu h with ⟨rfl, rfl⟩ | ⟨ad, len, cap, elems, rest, m, hm, rfl, rfl, _, hlc, hcm, hel, hget, hsp, _⟩
        · refine ⟨[.slice e [] .open], open_one hc (by unfold CellOk; rw [hu]; exact ⟨[], rfl, by unfold okLen; split <;> simp, fun r hr => by cases hr⟩) ?_⟩
          exact content_nil.slice (a := none) hszT (Nat.le_refl _) (fun _ => rfl) trivial
        · obtain rfl : n = m := by omega
          obtain ⟨hsz2, hels⟩ := hG.slice t e _ _ hu hw
          rw [List.length_map] at hsz2
          have one : ∀ i (hi : i < elems.length), ∃ a : Row, ∃ c, Opened P U w n e c a ∧ c.length = sz ∧ ∀ j u, c[j]? = some u → w.cell? (ad.add (i * sz + j)) = some u := by
            intro i hi
            have h1 := hget i (by omega)
            rw [List.getElem?_eq_getElem hi, Option.bind_eq_some_iff] at h1
            obtain ⟨c, h2, h3⟩ := h1
            have hwi : G e elems[i].1 := by
              have := hels i (by simpa using hi)
              simpa using this
            obtain ⟨a, ha⟩ := open_cells hG hT n he h3 hwi
            unfold World.cells? at h2
            simp only [Nat.zero_le, if_true] at h2
            obtain ⟨hl, hg⟩ := mapM_range_ h2
            refine ⟨a, c, ha, by rw [hl, hsz, hsz'], fun j u hj => ?_⟩
            have hjl : j < c.length := (List.getElem?_eq_some_iff.1 hj).1
            have h4 := hg j (by omega)
            rw [hj, Addr.add_add, hsz, ← hsz'] at h4
            exact h4
          obtain ⟨es, hl, has⟩ := collect_ (R := fun (_ : DataW H × List MemPlace) (a : Row) i => ∃ c, Opened P U w n e c a ∧ c.length = sz ∧ ∀ j u, c[j]? = some u → w.cell? (ad.add (i * sz + j)) = some u) elems one
          have hlen : len = es.length := by rw [hl, hel]
          have hrow : ∀ (i : Nat) (r : Row), es[i]? = some r → ∃ c, Opened P U w n e c r ∧ c.length = sz ∧ ∀ j u, c[j]? = some u → w.cell? (ad.add (i * sz + j)) = some u := by
            intro i r hi
            obtain ⟨hi1, rfl⟩ := List.getElem?_eq_some_iff.1 hi
            exact has i (by omega) hi1
          refine ⟨[.slice e es .open], open_one hc ?_ ?_⟩
          · unfold CellOk
            rw [hu]
            refine ⟨es, rfl, ?_, fun r hr => ?_⟩
            · rw [hl]; exact hsz2
            · obtain ⟨i, hi, rfl⟩ := List.mem_iff_getElem.1 hr
              obtain ⟨c, h1, _⟩ := hrow i es[i] (List.getElem?_eq_getElem hi)
              exact h1.2.1
          · rw [hlen]
            have hvs : ∃ vs : Nat → Value, ∀ (i : Nat) (r : Row), es[i]? = some r → ∀ (j : Nat) (u : V), r[j]? = some u → w.cell? (ad.add (i * sz + j)) = some (vs (i * sz + j)) ∧ Rep P (E0 w (All w)) (vs (i * sz + j)) u := by
              refine ⟨fun k => (w.cell? (ad.add k)).getD undef, fun i r hi j u hj => ?_⟩
              obtain ⟨c, h1, h2, h3⟩ := hrow i r hi
              have hjl : j < c.length := by
                rw [h1.1]
                exact (List.getElem?_eq_some_iff.1 hj).1
              have hcj : c[j]? = some c[j] := List.getElem?_eq_getElem hjl
              have h4 := h3 j _ hcj
              simp only [h4, Option.getD_some]
              exact ⟨trivial, h1.2.2 j _ u hcj hj⟩
            obtain ⟨vs, hvs⟩ := hvs
            refine .slice e es .open (some ad) cap sz vs (by omega) (fun e => by cases e) hszT (fun i r hi => ?_) (fun i r j u hi hj A hA => ?_) (fun i r j u hi hj => (hvs i r hi j u hj).2) trivial
            · obtain ⟨c, h1, h2, _⟩ := hrow i r hi
              exact ⟨by rw [h1.2.1.1, hsz'], h1.2.1.eta hce⟩
            · injection hA with hA; subst hA
              have h5 := (hvs i r hi j u hj).1
              refine ⟨h5, ?_⟩
              have := World.block_lt_of_cell? (h := h5)
              rw [addr_add_block] at this
              exact this
      | struct fs =>
        obtain ⟨xs, m, hm, rfl, hl, hx, hget⟩ := DataW.trod_struct hu h
        obtain rfl : n = m := by omega
        have hw2 : ∀ (i : Nat) (f : Field) (d : DataW H × List MemPlace), fs.toList[i]? = some f → xs[i]? = some d → G f.type d.1 := by
          intro i f d hf hd
          refine hG.agg t fs _ hu hw i f d.1 (by simpa using hf) ?_
          rw [List.getElem?_map, hd]; rfl
        have key : ∀ (l : List Field) (o : Nat) (cts : List Nat) (xs : List (DataW H × List MemPlace)), layF P Ts l o cts = true → xs.length = l.length → o + cts.length ≤ cs.length → (∀ (i : Nat) (f : Field), l[i]? = some f → DataW.trod enc P w 0 (fun _ => true) true n f.type ((cs.drop f.offset).take (P.cellsOf f.type)) = xs[i]?) →
            (∀ (i : Nat) (f : Field) (d : DataW H × List MemPlace), l[i]? = some f → xs[i]? = some d → G f.type d.1) → ∃ r : Row, r.length = cts.length ∧ (∀ (j : Nat) (u : V) (ct : Nat), r[j]? = some u → cts[j]? = some ct → CellOk P U n ct u) ∧ ∀ (j : Nat) (v : Value) (u : V), cs[o + j]? = some v → r[j]? = some u → Rep P (E0 w (All w)) v u := by
          intro l
          induction l with
          | nil =>
            intro o cts xs hlay _ _ _ _
            cases cts with
            | nil => exact ⟨[], rfl, fun j u ct hj => (by simp at hj), fun j v u _ hj => (by simp at hj)⟩
            | cons a l => cases hlay
          | cons f l ih =>
            intro o cts xs hlay hxl hol hg hwe
            unfold layF at hlay
            simp only [Bool.and_eq_true] at hlay
            obtain ⟨⟨⟨⟨q1, q2⟩, q3⟩, q4⟩, q5⟩ := hlay
            have q1 := Nat.eq_of_beq_eq_true q1
            have q2 := natIn_mem q2
            have q3 : ctsF P f.type = cts.take (ctsF P f.type).length := by simpa using q3
            have q4 := Nat.eq_of_beq_eq_true q4
            match xs, hxl with
            | x :: xs, hxl =>
              have h1 := hg 0 f rfl
              rw [q1, q4] at h1
              obtain ⟨a, ha1, ha2, ha3⟩ := open_cells hG hT n q2 h1 (hwe 0 f x rfl rfl)
              have hK : (ctsF P f.type).length ≤ cts.length := by
                have := congrArg List.length q3
                rw [List.length_take] at this; omega
              obtain ⟨b, hb1, hb2, hb3⟩ := ih (o + (ctsF P f.type).length) (cts.drop (ctsF P f.type).length) xs q5 (by simpa using hxl) (by rw [List.length_drop]; omega) (fun i g hi => by simpa using hg (i + 1) g (by simpa using hi)) (fun i g d hg hd => hwe (i + 1) g d (by simpa using hg) (by simpa using hd))
              have hal : a.length = (ctsF P f.type).length := ha2.1
              refine ⟨a ++ b, by rw [List.length_append, hal, hb1, List.length_drop]; omega, fun j u ct hj hct => ?_, fun j v u hj hu' => ?_⟩
              · rw [List.getElem?_append] at hj
                split at hj
                · rename_i hlt
                  refine ha2.2 j u ct hj ?_
                  rw [q3, List.getElem?_take, if_pos (by omega)]; exact hct
                · rename_i hge
                  refine hb2 _ u ct hj ?_
                  rw [List.getElem?_drop]
                  have e : (ctsF P f.type).length + (j - a.length) = j := by omega
                  rw [e]; exact hct
              · rw [List.getElem?_append] at hu'
                split at hu'
                · rename_i hlt
                  refine ha3 j v u ?_ hu'
                  rw [List.getElem?_take, if_pos (by omega), List.getElem?_drop]; exact hj
                · rename_i hge
                  refine hb3 (j - a.length) v u ?_ hu'
                  have e : o + (ctsF P f.type).length + (j - a.length) = o + j := by omega
                  rw [e]; exact hj
        simp only [Bool.and_eq_true] at hok
        have hlen := Nat.eq_of_beq_eq_true hok.2
        obtain ⟨r, r1, r2, r3⟩ := key fs.toList 0 (ctsF P t) xs hok.1 (by simpa using hx) (by omega) (fun i q hq => hget i q (by simpa using hq)) hw2
        exact ⟨r, by omega, ⟨r1, fun j u ct hj hct => (r2 j u ct hj hct).step⟩, fun j v u hj hu' => r3 j v u (by rw [Nat.zero_add]; exact hj) hu'⟩
      | _ => cases hok
theorem CellOk.norm : ∀ {n t : Nat} {v : V}, CellOk P U n t v → (∀ e, P.underlying t = some (.slice e) → True) → norm1 P t v = some v
  | 0, _, _, h, _ => h.elim
  | n + 1, t, v, h, _ => by
    unfold CellOk at h
    unfold norm1
    cases hu : P.underlying t with
    | none => rw [hu] at h; exact h.elim
    | some d =>
      rw [hu] at h
      cases d with
      | bool => obtain ⟨b, rfl⟩ := h; rfl
      | int k => obtain ⟨m, rfl, _⟩ := h; simp
      | string => obtain ⟨s, rfl, _⟩ := h; rfl
      | slice e => obtain ⟨es, rfl, _⟩ := h; simp
      | _ => exact h.elim
theorem normL_of {n : Nat} : ∀ {ts : List Nat} {r : Row}, r.length = ts.length → (∀ (j : Nat) (v : V) (ct : Nat), r[j]? = some v → ts[j]? = some ct → CellOk P U n ct v) → normL P ts r = some r
  | [], [], _, _ => rfl
  | t :: ts, v :: r, hl, h => by
    simp only [normL]
    have hx : normX P t v = some v := by
      obtain ⟨d, hd⟩ := (h 0 v t rfl rfl).has_
      unfold normX
      rw [hd]
      exact (h 0 v t rfl rfl).norm (fun _ _ => trivial)
    rw [hx, normL_of (ts := ts) (r := r) (by simpa using hl) (fun j u ct hj hc => h (j + 1) u ct (by simpa using hj) (by simpa using hc))]
    rfl
  | [], _ :: _, h, _ => by simp at h
  | _ :: _, [], h, _ => by simp at h
theorem RowOk.norm {n t : Nat} {r : Row} (h : RowOk P U n t r) {fs : Array Field} (hu : P.underlying t = some (.struct fs)) : normA P t (.agg r) = some (.agg r) := by
  unfold normA
  rw [hu]
  have hc : ctsOf P t = ctsF P t := by unfold ctsOf; rw [hu]; rfl
  show (normL P (ctsOf P t) r).map V.agg = _
  rw [hc, normL_of h.1 h.2]; rfl
theorem norm_str {t : Nat} (s : ByteArray) (hu : P.underlying t = some .string) : normA P t (.str s) = some (.str s) := by unfold normA norm1; rw [hu]
theorem norm_int {t : Nat} {k : IntKind} (m : Int) (hu : P.underlying t = some (.int k)) : normA P t (.int k m) = some (.int k m) := by unfold normA norm1; rw [hu]; simp
theorem norm_bool {t : Nat} (b : Bool) (hu : P.underlying t = some .bool) : normA P t (.bool b) = some (.bool b) := by unfold normA norm1; rw [hu]
theorem normAs_cons {t : Nat} {ts : List PT} {x y : V} {xs ys : List V} (h : normA P t x = some y) (k : normAs P ts xs = some ys) : normAs P (.t t :: ts) (x :: xs) = some (y :: ys) := by
  simp only [normAs, normP, h, k, Option.bind_some, Option.map_some]
/-- An argument that is a struct. -/
theorem arg_struct {W : World} {n t : Nat} {cs : Array Value} {r : Row} (h : Opened P U W n t (Value.agg cs).cells.toList r) : RowOk P U n t r ∧ Rep P (E0 W (All W)) (.agg cs) (.agg r) := by
  obtain ⟨h1, h2, h3⟩ := h
  have e : (Value.agg cs).cells = cs := rfl
  rw [e] at h1 h3
  refine ⟨h2, .agg cs r (by simpa using h1) (fun i x hx => ?_)⟩
  have hlt : i < cs.size := by
    rcases Nat.lt_or_ge i r.length with h | h
    · simp at h1; omega
    · rw [List.getElem?_eq_none h] at hx; cases hx
  have e2 : cs.toList[i]? = some (cs.getD i undef) := by
    rw [Array.getElem?_toList, Array.getD_eq_getD_getElem?, Array.getElem?_eq_getElem hlt]; rfl
  exact h3 i _ x e2 hx
/-- An argument that is a string. -/
theorem arg_string {W : World} {n t : Nat} (hu : P.underlying t = some .string) (hc : ctsF P t = [t]) {s : ByteArray} {r : Row} (h : Opened P U W n t (Value.string s).cells.toList r) : okLen U s.size 1 ∧ Rep P (E0 W (All W)) (.string s) (.str s) := by
  obtain ⟨h1, h2, h3⟩ := h
  refine ⟨?_, .str s⟩
  rw [show (Value.string s).cells.toList = [.string s] from rfl] at h1 h3
  match r, h1 with
  | [x], _ =>
    have h4 := h2.2 0 x t rfl (by rw [hc]; rfl)
    cases n with
    | zero => exact h4.elim
    | succ n =>
      unfold CellOk at h4
      rw [hu] at h4
      obtain ⟨s', rfl, h5⟩ := h4
      have := rep_str_inv (h3 0 _ _ rfl rfl)
      injection this with this
      rw [this]; exact h5
/-- Of a law: what its run says is what its call does. -/
theorem law_calls {f : Nat} {F : Fun} (hf : FunOk P f F) {W : World} {args : Array Value} {xs : List V} {b : Bool} (hl : args.size = xs.length) (hn : normAs P F.pts xs = some xs)
    (hx : ∀ (i : Nat) (x : V), xs[i]? = some x → Rep P (E0 W (All W)) (args.getD i undef) x) (h : (F.den xs).eval = some (.bool b)) (hG : GOk W (fun _ => False)) : Calls P f args W fun e w' => e = .returned (.bool b) ∧ Below W.heap.size W w' := by
  refine (hf.2 W (All W) (fun _ _ h => h) hG args xs xs (.bool b) hl hn hx h).mono ?_
  rintro e w' ⟨v, F', rfl, hb, _, _, _, hr⟩
  exact ⟨by rw [rep_bool_inv hr], hb⟩
theorem laidVars_mem {w : World} : ∀ {l : List (String × DataW Unit)} {ps : List MemPlace}, DataW.LaidVars P w l ps → ∀ x, x ∈ l →
    ∃ g t cs fuel p, P.globalNamed x.1 = some g ∧ (P.globals[g]?).map (·.type) = some t ∧ w.var? P x.1 = some cs ∧ DataW.trod (fun _ => ()) P w 0 (fun _ => true) false fuel t cs.toList = some (x.2, p)
  | [], _, _, x, hx => by cases hx
  | (n, d) :: r, ps, h, x, hx => by
    obtain ⟨g, t, cs, fuel, p, q, h1, h2, h3, h4, h5, _⟩ := h
    rcases List.mem_cons.1 hx with rfl | hx
    · exact ⟨g, t, cs, fuel, p, h1, h2, h3, h4⟩
    · exact laidVars_mem h5 x hx
/-- A table that the row lists: its block, and what it holds. -/
theorem laid_tab {W : World} {l : List (String × DataW Unit)} (h : laidMet P l W) {name : String} {k : IntKind} {zs : List Int} {g n : Nat} {t e : TypeId} (hm : (name, Lib.tabData k zs) ∈ l)
    (hg : P.globalNamed name = some g) (hty : (P.globals[g]?).map (·.type) = some t) (ht : P.underlying t = some (.array n e)) (he : P.underlying e = some (.int k)) (hce : P.cellsOf e = 1) (hct : P.cellsOf t = n) :
    ∃ ty fz, W.heap[g]? = some (.cells (zs.map fun z => Value.int k z).toArray ty fz) := by
  obtain ⟨ps, hv, _⟩ := h
  obtain ⟨g', t', cs, fuel, p, hg', ht', hvar, hd⟩ := laidVars_mem hv _ hm
  obtain rfl := Option.some.inj (hg.symm.trans hg')
  obtain rfl := Option.some.inj (hty.symm.trans ht')
  have e := Lib.cells_of_tab ht he hce hct hd
  unfold World.var? at hvar
  rw [hg] at hvar
  have hvar : (match W.heap[g]? with | some (.cells cs _ _) => some cs | _ => none) = some cs := hvar
  split at hvar
  · rename_i c t0 fz0 hh
    injection hvar with hvar
    refine ⟨t0, fz0, ?_⟩
    rw [hh, hvar, ← e]
  · cases hvar
end Go.Proofs.YtolackmpfnndhaaGreatDoor.Ev
