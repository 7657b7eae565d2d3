/- append onto arrays that may be written into; stores into them. Conditions: stated at each. -/
import Derived.Test.YtolackmpfnndhaaGreatDoorSnd5
import Derived.Laws.MakeOwn
namespace Go.Proofs.YtolackmpfnndhaaGreatDoor.Ev
open Go Go.RowKit
set_option linter.unusedVariables false
set_option linter.unusedSimpArgs false
variable {P : Program}
def Frz : V → Prop
  | .dead | .bool _ | .int _ _ | .str _ | .slice _ _ .open | .slice _ _ (.fullq _) => True
  | _ => False
theorem etaC_frz (r : Row) (j t : Nat) : Frz (etaC P r j t) := by
  unfold etaC
  split <;> trivial
theorem etaX_frz (r : Row) (j t : Nat) : Frz (etaX P r j t) := by
  unfold etaX
  split
  · unfold etaE; split <;> trivial
  · exact etaC_frz _ _ _
theorem etaL_frz (r : Row) : ∀ (ts : List Nat) (k m : Nat) (x : V), (etaL P r k ts)[m]? = some x → Frz x
  | [], k, m, x, h => by simp [etaL] at h
  | t :: ts, k, m, x, h => by
    cases m with
    | zero => simp [etaL] at h; subst h; exact etaX_frz _ _ _
    | succ m => simp only [etaL, List.getElem?_cons_succ] at h; exact etaL_frz r ts (k + 1) m x h
theorem addr_zero_add (b j : Nat) : Addr.add ⟨b, 0, none⟩ j = ⟨b, j, none⟩ := by unfold Addr.add; split <;> simp_all
theorem row_idx {k sz j : Nat} {es : Rows} {r : Row} {x : V} (hl : r.length = sz) (hi : es[k]? = some r) (hj : r[j]? = some x) : k < es.length ∧ j < sz ∧ k * sz + j < es.length * sz := by
  have hj' : j < sz := by
    rcases Nat.lt_or_ge j r.length with h | h
    · rw [hl] at h; exact h
    · rw [List.getElem?_eq_none h] at hj; cases hj
  have hi' : k < es.length := by
    rcases Nat.lt_or_ge k es.length with h | h
    · exact h
    · rw [List.getElem?_eq_none h] at hi; cases hi
  have : (k + 1) * sz ≤ es.length * sz := Nat.mul_le_mul_right _ hi'
  rw [Nat.add_mul] at this
  exact ⟨hi', hj', by omega⟩
theorem app_idx {es fs : Rows} {i : Nat} {r : Row} (h : (es ++ fs)[i]? = some r) : (i < es.length ∧ es[i]? = some r) ∨ (es.length ≤ i ∧ fs[i - es.length]? = some r) := by
  rw [List.getElem?_append] at h
  split at h
  · rename_i hlt; exact Or.inl ⟨hlt, h⟩
  · rename_i hlt; exact Or.inr ⟨by omega, h⟩
/-- The rows that an append begins with: none, or an array's. -/
def Base (E : En) (el sz m ver cap : Nat) (base : Option Addr) (es : Rows) : Prop :=
  (es = [] ∧ cap = 0 ∧ E.hs.getD m none = none) ∨ ∃ v0 es0, E.hs.getD m none = some (.arr el v0 es0) ∧ v0 < ver ∧ E.N m = .arr base es0.length cap sz ∧ es.length ≤ es0.length ∧ es = es0.take es.length
theorem append_arr {w0 : World} {F0 : Fz} {E : En} (hI : Inv P w0 F0 E) {ats : Array TypeId} {ty t1 t2 el e2 : Nat} {i : TypeInfo} {z : Value} {base b : Option Addr} {cap c sz m ver : Nat} {es fs : Rows} {us : Nat → Value}
    (h0 : ats[0]? = some t1) (h1 : ats[1]? = some t2) (hu1 : P.underlying t1 = some (.slice el)) (hu2 : P.underlying t2 = some (.slice e2)) (hi : P.info? el = some i) (hz : i.zero = some z) (hsi : i.size = sz) (hzs : z.cells.size = sz) (hp : 0 < sz) (hpb : 0 < i.bytes) (hck : ctsOk P el = true)
    (hbase : Base E el sz m ver cap base es) (hbn : b = none → fs.length = 0) (hfs : Content P E el sz b fs us)
    (hfit : (es.length + fs.length) * i.bytes ≤ 140737488355328) (hlt : m < E.hs.length) :
    ∃ v E', (Builtin.append_ ats ty #[.slice base es.length cap, .slice b fs.length c]).run P E.w = .ok v E'.w ∧ Inv P w0 F0 E' ∧ En.Le E E' ∧ E'.hs = E.hs.set m (some (.arr el ver (es ++ fs))) ∧ Rep P E' v (.aref el m ver none (rLen (es ++ fs))) := by
  have hsz : sizeT P el = some sz := by simp [sizeT, hi, hsi]
  -- the rows that were there
  have hold : es.length ≤ cap ∧ (base = none → cap = 0) ∧ (∀ (i : Nat) (r : Row), es[i]? = some r → r.length = sz ∧ eta P el r = r) ∧
      ∃ vs : Nat → Value, (∀ A, base = some A → ∀ j, j < es.length * sz → E.w.cell? (A.add j) = some (vs j)) ∧ ∀ (i : Nat) (r : Row) (j : Nat) (x : V), es[i]? = some r → r[j]? = some x → Rep P E (vs (i * sz + j)) x := by
    rcases hbase with ⟨rfl, rfl, _⟩ | ⟨v0, es0, hn, hv, hN, hl, hes⟩
    · exact ⟨Nat.le_refl _, fun _ => rfl, fun i r h => by simp at h, fun _ => undef, fun A _ j hj => by simp at hj, fun i r j x h => by simp at h⟩
    · obtain ⟨a, cap', sz', g1, g2, g3, g4, g5, g6⟩ := hI.arr m el v0 es0 hn
      rw [hN] at g1; injection g1 with e1 e2 e3 e4; subst e1; subst e3; subst e4
      have hget : ∀ (i : Nat) (r : Row), es[i]? = some r → es0[i]? = some r := by
        intro i r h
        have hlt : i < es.length := by
          rcases Nat.lt_or_ge i es.length with h2 | h2
          · exact h2
          · rw [List.getElem?_eq_none h2] at h; cases h
        rw [hes, List.getElem?_take, if_pos hlt] at h
        exact h
      refine ⟨by omega, fun e => ?_, fun i r h => g5 i r (hget i r h), ?_⟩
      · rcases Nat.eq_zero_or_pos cap with h | h
        · exact h
        · obtain ⟨b, _, _, k1, _⟩ := g6 h; rw [e] at k1; cases k1
      · rcases Nat.eq_zero_or_pos cap with hc0 | hc0
        · have : es.length = 0 := by omega
          have : es = [] := List.eq_nil_of_length_eq_zero this
          subst this
          exact ⟨fun _ => undef, fun A _ j hj => by simp at hj, fun i r j x h => by simp at h⟩
        · obtain ⟨bb, arr, ty', k1, k2, k3, k4, k5, k6⟩ := g6 hc0
          subst k1
          refine ⟨fun j => arr.getD j undef, fun A hA j hj => ?_, fun i r j x h1 h2 => k6 i r j x (hget i r h1) h2⟩
          injection hA with hA; subst hA
          rw [addr_zero_add, cell_of_row E.w bb j arr ty' _ k3]
          have : es.length * sz ≤ cap * sz := Nat.mul_le_mul_right _ (by omega)
          have : j < arr.size := by omega
          simp [Array.getD_eq_getD_getElem?, this]
  obtain ⟨hcap, hnone, hrowE, vs, hcells, hreps⟩ := hold
  have hrow : ∀ (i : Nat) (r : Row), (es ++ fs)[i]? = some r → r.length = sz ∧ eta P el r = r := by
    intro i r h
    rcases app_idx h with ⟨_, h⟩ | ⟨_, h⟩
    · exact hrowE i r h
    · exact hfs.row _ r h
  have hnews : ∀ A, b = some A → ∀ (j : Nat) (v : Value), ((List.range (fs.length * sz)).map us)[j]? = some v → E.w.cell? (A.add j) = some v := by
    intro A hA j v hv
    rw [getD_range_map] at hv
    split at hv
    · rename_i hj; injection hv with hv; subst hv; exact (hfs.cell A hA j hj).1
    · cases hv
  have holds : ∀ A, base = some A → ∀ (j : Nat) (v : Value), ((List.range (es.length * sz)).map vs)[j]? = some v → E.w.cell? (A.add j) = some v := by
    intro A hA j v hv
    rw [getD_range_map] at hv
    split at hv
    · rename_i hj; injection hv with hv; subst hv; exact hcells A hA j hj
    · cases hv
  have hl : ((List.range (fs.length * sz)).map us).length = fs.length * i.size := by simp [hsi]
  have hlo : ((List.range (es.length * sz)).map vs).length = es.length * i.size := by simp [hsi]
  have hcur : E.hs.getD m none = none ∨ ∃ v0 es0, E.hs.getD m none = some (.arr el v0 es0) ∧ v0 < ver := by
    rcases hbase with ⟨_, _, h⟩ | ⟨v0, es0, hn, hv, _⟩
    · exact Or.inl h
    · exact Or.inr ⟨v0, es0, hn, hv⟩
  have mkRep : ∀ (E' : En) (a : Option Addr) (C : Nat), E'.hs = E.hs.set m (some (.arr el ver (es ++ fs))) → E'.N m = .arr a (es ++ fs).length C sz → (es ++ fs).length ≤ C → (0 < C → ∃ b, a = some ⟨b, 0, none⟩) →
      Rep P E' (.slice a (es.length + fs.length) C) (.aref el m ver none (rLen (es ++ fs))) := by
    intro E' a C e1 e2 e3 e4
    have : es.length + fs.length = (rLen (es ++ fs)).toNat := by unfold rLen; rw [List.length_append]; omega
    rw [this]
    have hlen : (rLen (es ++ fs)).toNat = (es ++ fs).length := by unfold rLen; omega
    refine .aref a C el m ver none _ (by unfold rLen; omega) (by rw [hlen]; exact e3) (fun hp => ?_) ⟨ver, es ++ fs, ?_, Nat.le_refl _, fun _ => ⟨a, C, sz, e2, hsz, Int.le_refl _, by unfold rLen; simp, fun _ => ⟨rfl, rfl⟩, fun hp => ?_⟩⟩
    · obtain ⟨b, hb⟩ := e4 hp
      exact ⟨_, hb⟩
    · rw [e1, getD_set_blk, if_pos ⟨rfl, hlt⟩]
    · obtain ⟨b, hb⟩ := e4 (by unfold rLen at hp; omega)
      refine ⟨b, hb, ?_⟩
      rw [hb]; simp
  rcases Nat.lt_or_ge cap (es.length + fs.length) with hg | hg
  · -- a new block
    have hrun := run_append_grows (P := P) (w := E.w) (ats := ats) (ty := ty) (c := c) h0 h1 hu1 hu2 hi hz hl hbn hnews hlo (fun e => by have := hnone e; omega) holds hg hpb hfit
    generalize hC : grownCap E.w (es.length + fs.length) cap el = C at hrun
    have hCge : es.length + fs.length ≤ C := by rw [← hC]; exact grownCap_ge _ _ _ _
    let arr : Array Value := ((List.range (es.length * sz)).map vs).toArray ++ ((List.range (fs.length * sz)).map us).toArray ++ Builtin.zeroCells z.cells (C - (es.length + fs.length))
    have hrun' : (Builtin.append_ ats ty #[.slice base es.length cap, .slice b fs.length c]).run P E.w = .ok (.slice (some ⟨E.w.heap.size, 0, none⟩) (es.length + fs.length) C) (E.w.drew.alloc (.cells arr el)) := hrun
    have hbelow : Below E.w.heap.size E.w (E.w.drew.alloc (.cells arr el)) := ((Below.refl _ _).drew).alloc (Nat.le_refl _) _
    have hnewb : (E.w.drew.alloc (.cells arr el)).heap[E.w.heap.size]? = some (.cells arr el (0, 0)) := alloc_new E.w.drew _
    have hsz1 : (E.w.drew.alloc (.cells arr el)).heap.size = E.w.heap.size + 1 := by simp
    obtain ⟨g1, g2⟩ := hI.grow hbelow (F' := E.F) (fun _ _ h => h) (fun _ _ h => Or.inl h) (fun b o h => by have := hI.Flt b o h; omega)
    have harr : arr.size = C * sz := by
      simp only [arr, Array.size_append, List.size_toArray, List.length_map, List.length_range, Builtin.zeroCells, Array.size_map, Array.size_range, hzs]
      have : C * sz = (es.length + fs.length) * sz + (C - (es.length + fs.length)) * sz := by rw [← Nat.add_mul]; congr 1; omega
      rw [this, Nat.add_mul]
    have hget : ∀ j, j < (es.length + fs.length) * sz → arr.getD j undef = (if j < es.length * sz then vs j else us (j - es.length * sz)) := by
      intro j hj
      rw [Nat.add_mul] at hj
      rw [Array.getD_eq_getD_getElem?]
      simp only [arr]
      rw [Array.getElem?_append, if_pos (by simp; omega), Array.getElem?_append]
      by_cases hj2 : j < es.length * sz
      · rw [if_pos (by simpa using hj2), if_pos hj2, List.getElem?_toArray, getD_range_map, if_pos hj2]; rfl
      · rw [if_neg (by simpa using hj2), if_neg hj2, List.getElem?_toArray, getD_range_map]
        simp only [List.size_toArray, List.length_map, List.length_range]
        rw [if_pos (by omega)]; rfl
    obtain ⟨s1, s2⟩ := Inv.setArr g1 (n := m) (t := el) (v := ver) (cap := C) (sz := sz) (a := some ⟨E.w.heap.size, 0, none⟩) (es := es ++ fs) hcur hlt hsz hp (by rw [List.length_append]; exact hCge) hrow (fun _ => by
      refine ⟨E.w.heap.size, arr, el, rfl, Or.inl hI.size, hnewb, Nat.le_of_eq harr.symm, fun o h => Nat.lt_irrefl _ (hI.Flt _ _ h), fun i r j x h1 h2 => ?_, fun k x _ hm he => Nat.lt_irrefl _ (hI.ownLt hm he)⟩
      have hl := (hrow i r h1).1
      obtain ⟨q1, q2, q3⟩ := row_idx hl h1 h2
      rw [List.length_append] at q1 q3
      rw [hget _ q3]
      rcases app_idx h1 with ⟨h3, h4⟩ | ⟨h3, h4⟩
      · obtain ⟨_, _, q4⟩ := row_idx hl h4 h2
        rw [if_pos q4]
        exact (hreps i r j x h4 h2).mono g2
      · have hge : es.length * sz ≤ i * sz := Nat.mul_le_mul_right _ h3
        rw [if_neg (by omega)]
        have e : i * sz + j - es.length * sz = (i - es.length) * sz + j := by rw [Nat.sub_mul]; omega
        rw [e]
        exact (hfs.rep _ _ _ _ h4 h2).mono g2)
    refine ⟨_, _, hrun', s1, g2.trans s2, rfl, mkRep _ _ _ rfl (upd_same ..) (by rw [List.length_append]; exact hCge) (fun _ => ⟨_, rfl⟩)⟩
  · -- in place
    have hrun := run_append_fits (P := P) (w := E.w) (ats := ats) (ty := ty) (c := c) (base := base) h0 h1 hu1 hu2 hi hl hbn hnews hg
    rcases hbase with ⟨rfl, rfl, hn⟩ | ⟨v0, es0, hn, hv, hN, hle0, hes⟩
    · have hf0 : fs = [] := List.eq_nil_of_length_eq_zero (by rw [List.length_nil] at hg; omega)
      subst hf0
      have hrun' : (Builtin.append_ ats ty #[.slice base 0 0, .slice b 0 c]).run P E.w = .ok (.slice base 0 0) E.w := by
        have h3 := hrun
        simp only [List.length_nil, Nat.zero_mul, List.range_zero, List.map_nil] at h3
        rw [h3]
        cases base <;> rfl
      obtain ⟨s1, s2⟩ := Inv.setArr hI (n := m) (t := el) (v := ver) (cap := 0) (sz := sz) (a := base) (es := []) (Or.inl hn) hlt hsz hp (Nat.le_refl _) (fun i r h => by simp at h) (fun h => by cases h)
      exact ⟨_, (⟨E.w, E.F, upd E.N m (.arr base 0 0 sz), E.hs.set m (some (.arr el ver []))⟩ : En), hrun', s1, s2, rfl, mkRep _ base 0 rfl (upd_same ..) (Nat.le_refl _) (fun h => by simp at h)⟩
    · obtain ⟨a, cap', sz', g1, g2, g3, g4, g5, g6⟩ := hI.arr m el v0 es0 hn
      rw [hN] at g1; injection g1 with e1 e2 e3 e4; subst e1; subst e3; subst e4
      rcases Nat.eq_zero_or_pos cap with hc0 | hc0
      · have hes0 : es = [] := List.eq_nil_of_length_eq_zero (by omega)
        have hf0 : fs = [] := List.eq_nil_of_length_eq_zero (by omega)
        subst hes0; subst hf0; subst hc0
        have hrun' : (Builtin.append_ ats ty #[.slice base 0 0, .slice b 0 c]).run P E.w = .ok (.slice base 0 0) E.w := by
          have h3 := hrun
          simp only [List.length_nil, Nat.zero_mul, List.range_zero, List.map_nil] at h3
          rw [h3]
          cases base <;> rfl
        obtain ⟨s1, s2⟩ := Inv.setArr hI (n := m) (t := el) (v := ver) (cap := 0) (sz := sz) (a := base) (es := []) (Or.inr ⟨v0, es0, hn, hv⟩) hlt hsz hp (Nat.le_refl _) (fun i r h => by simp at h) (fun h => by cases h)
        exact ⟨_, (⟨E.w, E.F, upd E.N m (.arr base 0 0 sz), E.hs.set m (some (.arr el ver []))⟩ : En), hrun', s1, s2, rfl, mkRep _ base 0 rfl (upd_same ..) (Nat.le_refl _) (fun h => by simp at h)⟩
      · obtain ⟨bb, arr, ty', k1, k2, k3, k4, k5, k6⟩ := g6 hc0
        subst k1
        have hA : Addr.add ⟨bb, 0, none⟩ (es.length * i.size) = ⟨bb, es.length * sz, none⟩ := by rw [hsi, addr_zero_add]
        have hroom : es.length * sz + fs.length * sz ≤ arr.size := by
          have : (es.length + fs.length) * sz ≤ cap * sz := Nat.mul_le_mul_right _ hg
          rw [Nat.add_mul] at this; omega
        have hst := run_storeCells_at P bb (es.length * sz) ty' ((List.range (fs.length * sz)).map us) 0 arr E.w k3 (by simp; omega) (fun v hv => by
          rw [List.mem_map] at hv
          obtain ⟨j, hj, rfl⟩ := hv
          exact hfs.one hck (List.mem_range.1 hj))
        generalize harr' : (arr.toList.take (es.length * sz + 0) ++ (List.range (fs.length * sz)).map us ++ arr.toList.drop (es.length * sz + 0 + ((List.range (fs.length * sz)).map us).length)).toArray = arr' at hst
        have hget : ∀ j, arr'[j]? = if j < es.length * sz then arr[j]? else if j < (es.length + fs.length) * sz then some (us (j - es.length * sz)) else arr[j]? := by
          intro j
          rw [← harr', Nat.add_mul]
          simp only [Nat.add_zero, List.length_map, List.length_range, List.getElem?_toArray]
          rw [List.append_assoc, List.getElem?_append]
          have ht : (arr.toList.take (es.length * sz)).length = es.length * sz := by simp; omega
          rw [ht]
          by_cases hj : j < es.length * sz
          · rw [if_pos hj, if_pos hj, List.getElem?_take, if_pos hj, Array.getElem?_toList]
          · rw [if_neg hj, if_neg hj, List.getElem?_append]
            simp only [List.length_map, List.length_range]
            by_cases hj2 : j < es.length * sz + fs.length * sz
            · rw [if_pos (by omega), if_pos hj2, getD_range_map, if_pos (by omega)]
            · rw [if_neg (by omega), if_neg hj2, List.getElem?_drop, Array.getElem?_toList]
              congr 1
              omega
        have hsize' : arr'.size = arr.size := by
          rw [← harr']; simp; omega
        have hrun' : (Builtin.append_ ats ty #[.slice (some ⟨bb, 0, none⟩) es.length cap, .slice b fs.length c]).run P E.w = .ok (.slice (some ⟨bb, 0, none⟩) (es.length + fs.length) cap) (E.w.setRow bb arr') := by
          rw [hrun]
          show ((storeCells (Addr.add ⟨bb, 0, none⟩ (es.length * i.size)) ((List.range (fs.length * sz)).map us)).run P E.w).andThen _ = _
          rw [hA, hst]; rfl
        obtain ⟨s1, s2⟩ := hI.arrTurn (v' := ver) (es' := es ++ fs) (arr' := arr') hn hN hc0 k3 (Or.inl hv) (by rw [List.length_append]; exact hg) hrow hsize' (fun i r j x h1 h2 => by
          have hl := (hrow i r h1).1
          obtain ⟨q1, q2, q3⟩ := row_idx hl h1 h2
          rw [List.length_append] at q1 q3
          rw [Array.getD_eq_getD_getElem?, hget]
          rcases app_idx h1 with ⟨h3, h4⟩ | ⟨h3, h4⟩
          · obtain ⟨_, _, q4⟩ := row_idx hl h4 h2
            rw [if_pos q4]
            have h5 : es0[i]? = some r := by
              rw [hes, List.getElem?_take, if_pos h3] at h4
              exact h4
            have := k6 i r j x h5 h2
            rw [Array.getD_eq_getD_getElem?] at this
            exact this
          · have hge : es.length * sz ≤ i * sz := Nat.mul_le_mul_right _ h3
            rw [if_neg (by omega), if_pos q3]
            have e : i * sz + j - es.length * sz = (i - es.length) * sz + j := by rw [Nat.sub_mul]; omega
            rw [e]
            exact hfs.rep _ _ _ _ h4 h2)
        refine ⟨_, _, hrun', s1, s2, rfl, mkRep _ (some ⟨bb, 0, none⟩) cap rfl (upd_same ..) (by rw [List.length_append]; exact hg) (fun _ => ⟨_, rfl⟩)⟩
/-- A store into an array's row. -/
theorem store_arr {w0 : World} {F0 : Fz} {E : En} (hI : Inv P w0 F0 E) {v : Value} {el n ver : Nat} {i : Int} {off : Nat} {es : Rows} (h : Rep P E v (.eptr el n ver i off)) (hg : E.hs.getD n none = some (.arr el ver es))
    {c : List V} {us : Array Value} (hc : us.size = c.length) (hr : ∀ (j : Nat) (y : V), c[j]? = some y → Rep P E (us.getD j undef) y) (hone : ∀ v ∈ us.toList, v.oneCell' = true) (hpos : 0 < c.length)
    {r1 r2 : List V} (h1 : setR (eta P el (rAt es i)) off c = some r1) (h2 : normL P (ctsOf P el) r1 = some r2) :
    ∃ A E', v = .pointer (some A) ∧ (storeCells A us.toList).run P E.w = .ok () E'.w ∧ Inv P w0 F0 E' ∧ En.Le E E' ∧ E'.hs = E.hs.set n (some (.arr el ver (rSet es i r2))) := by
  obtain ⟨b, cap, sz, k1, k2, k3, k4, k5⟩ := eptr_now h hg
  obtain ⟨arr, ty, q1, q2, q3, q4, q5, q6, q7, q8, q9, q10, q11, q12⟩ := hI.rowAt hg k1 k3 k4
  rw [q8] at h1
  obtain ⟨s1, s2⟩ := setR_spec h1
  have hlast : off + c.length ≤ sz := by
    have h9 := s2 (off + (c.length - 1))
    rw [if_pos (by omega)] at h9
    have h10 : off + (c.length - 1) - off < c.length := by omega
    rw [List.getElem?_eq_getElem h10] at h9
    rcases Nat.lt_or_ge (off + (c.length - 1)) r1.length with h | h
    · omega
    · rw [List.getElem?_eq_none h] at h9; cases h9
  obtain ⟨n1, n2, n3, n4⟩ := normL_spec (P := P) (E := E) h2
  have n5 := normL_eta h2
  have hroom : i.toNat * sz + off + us.toList.length ≤ arr.size := by rw [Array.length_toList, hc]; omega
  have hst := run_storeCells_at P b (i.toNat * sz + off) ty us.toList 0 arr E.w q1 (by omega) hone
  generalize harr' : (arr.toList.take (i.toNat * sz + off + 0) ++ us.toList ++ arr.toList.drop (i.toNat * sz + off + 0 + us.toList.length)).toArray = arr' at hst
  have hsize' : arr'.size = arr.size := by rw [← harr']; simp; omega
  have hget : ∀ j, arr'.getD j undef = if i.toNat * sz + off ≤ j ∧ j < i.toNat * sz + off + c.length then us.getD (j - (i.toNat * sz + off)) undef else arr.getD j undef := by
    intro j
    rw [← harr', Array.getD_eq_getD_getElem?, Array.getD_eq_getD_getElem?, Array.getD_eq_getD_getElem?]
    simp only [Nat.add_zero, List.getElem?_toArray]
    have ht : (arr.toList.take (i.toNat * sz + off)).length = i.toNat * sz + off := by simp; omega
    rw [List.append_assoc, List.getElem?_append, ht]
    by_cases hj : j < i.toNat * sz + off
    · rw [if_pos hj, if_neg (by omega), List.getElem?_take, if_pos hj, Array.getElem?_toList]
    · rw [if_neg hj, List.getElem?_append]
      by_cases hj2 : j < i.toNat * sz + off + c.length
      · rw [if_pos (by rw [Array.length_toList, hc]; omega), if_pos ⟨by omega, hj2⟩, Array.getElem?_toList]
      · rw [if_neg (by rw [Array.length_toList, hc]; omega), if_neg (by omega), List.getElem?_drop, Array.getElem?_toList]
        have : i.toNat * sz + off + us.toList.length + (j - (i.toNat * sz + off) - us.toList.length) = j := by rw [Array.length_toList, hc]; omega
        rw [this]
  have hlen : (rSet es i r2).length = es.length := by unfold rSet; simp
  have hidx : ∀ (k : Nat) (r : Row), (rSet es i r2)[k]? = some r → (k = i.toNat ∧ r = r2) ∨ (k ≠ i.toNat ∧ es[k]? = some r) := by
    intro k r hk
    unfold rSet at hk
    rw [List.getElem?_set] at hk
    by_cases e : i.toNat = k
    · rw [if_pos e] at hk
      split at hk
      · injection hk with hk; exact Or.inl ⟨e.symm, hk.symm⟩
      · cases hk
    · rw [if_neg e] at hk; exact Or.inr ⟨fun e2 => e e2.symm, hk⟩
  have hr1 : r1.length = sz := by rw [s1, q7]
  have hr2 : r2.length = sz := by rw [n1, ← n2, hr1]
  obtain ⟨t1, t2⟩ := hI.arrTurn (v' := ver) (es' := rSet es i r2) (arr' := arr') hg k1 q4 q1 (Or.inr ⟨rfl, hlen⟩) (by rw [hlen]; exact q3) (fun k r hk => by
    rcases hidx k r hk with ⟨_, rfl⟩ | ⟨_, h⟩
    · exact ⟨hr2, n5.1⟩
    · exact q12 k r h) hsize' (fun k r j x hk hj => by
    rcases hidx k r hk with ⟨rfl, rfl⟩ | ⟨hne, h⟩
    · refine n4 (fun j => arr'.getD (i.toNat * sz + j) undef) (fun j y hy => ?_) j x hj
      rw [s2 j] at hy
      show Rep P E (arr'.getD (i.toNat * sz + j) undef) y
      rw [hget]
      by_cases hj2 : off ≤ j ∧ j < off + c.length
      · rw [if_pos hj2] at hy
        rw [if_pos (by omega)]
        have : i.toNat * sz + j - (i.toNat * sz + off) = j - off := by omega
        rw [this]; exact hr _ _ hy
      · rw [if_neg hj2] at hy
        rw [if_neg (by omega)]
        exact q11 _ _ _ _ q9 hy
    · obtain ⟨l1, _⟩ := q12 k r h
      obtain ⟨p1, p2, p3⟩ := row_idx l1 h hj
      have : ¬ (i.toNat * sz + off ≤ k * sz + j ∧ k * sz + j < i.toNat * sz + off + c.length) := by
        intro ⟨a1, a2⟩
        rcases Nat.lt_or_gt_of_ne hne with hlt | hgt
        · have : (k + 1) * sz ≤ i.toNat * sz := Nat.mul_le_mul_right _ hlt
          rw [Nat.add_mul] at this; omega
        · have : (i.toNat + 1) * sz ≤ k * sz := Nat.mul_le_mul_right _ hgt
          rw [Nat.add_mul] at this; omega
      rw [hget, if_neg this]
      exact q11 _ _ _ _ h hj)
  exact ⟨_, _, k5, hst, t1, t2, rfl⟩
/-- A row of zeros, again and again. -/
theorem made_laid {E : En} {el sz : Nat} {z : List V} (hz : (zeroV P el).bind (normL P (ctsOf P el)) = some z) (hcl : (ctsOf P el).length = sz) {zv : Value} {inf : TypeInfo} (hi : P.info? el = some inf) (hzv : inf.zero = some zv) (hzs : zv.cells.size = sz) (k : Nat) :
    Laid P E el sz (fun j => (madeCells zv.cells (k * sz)).getD j undef) (List.replicate k z) ∧ ∀ (i : Nat) (r : Row) (j : Nat) (x : V), (List.replicate k z)[i]? = some r → r[j]? = some x → Frz x := by
  rw [Option.bind_eq_some_iff] at hz
  obtain ⟨z0, h1, h2⟩ := hz
  have h1' : z0 = ofCs zv := by simp [zeroV, hi, hzv] at h1; exact h1.symm
  subst h1'
  obtain ⟨r1, r2⟩ := rep_zero (P := P) (E := E) zv
  obtain ⟨n1, n2, n3, n4⟩ := normL_spec (P := P) (E := E) h2
  have n5 := normL_eta h2
  have hget : ∀ i r, (List.replicate k z)[i]? = some r → i < k ∧ r = z := by
    intro i r h
    rw [List.getElem?_replicate] at h
    split at h
    · injection h with h; exact ⟨by assumption, h.symm⟩
    · cases h
  refine ⟨fun i r h => ?_, fun i r j x h hj => ?_⟩
  · obtain ⟨hik, rfl⟩ := hget i r h
    refine ⟨by rw [n1, hcl], n5.1, fun j y hj => ?_⟩
    have hjs : j < sz := by
      rcases Nat.lt_or_ge j r.length with h | h
      · rw [n1, hcl] at h; exact h
      · rw [List.getElem?_eq_none h] at hj; cases hj
    have hb : i * sz + j < k * sz := by
      have : (i + 1) * sz ≤ k * sz := Nat.mul_le_mul_right _ hik
      rw [Nat.add_mul] at this; omega
    have e : (madeCells zv.cells (k * sz)).getD (i * sz + j) undef = zv.cells.getD j undef := by
      have hm : (i * sz + j) % sz = j := by rw [Nat.add_comm, Nat.add_mul_mod_self_right, Nat.mod_eq_of_lt hjs]
      unfold madeCells
      rw [Array.getD_eq_getD_getElem?, Array.getElem?_map, Array.getElem?_range, if_pos hb]
      simp only [Option.map_some, Option.getD_some]
      rw [hzs, hm]
      have : j < zv.cells.size := by omega
      simp [Array.getD_eq_getD_getElem?, this, getElem!_pos]
    show Rep P E ((madeCells zv.cells (k * sz)).getD (i * sz + j) undef) y
    rw [e]
    exact n4 (fun j => zv.cells.getD j undef) r2 j y hj
  · obtain ⟨_, rfl⟩ := hget i r h
    rw [← n5.1] at hj
    exact etaL_frz r _ 0 j x hj
theorem partR_len {es : Rows} {lo : Option Int} {len : Int} (h0 : 0 ≤ lo.getD 0) (h1 : 0 ≤ len) (h2 : lo.getD 0 + len ≤ es.length) : (partR es lo len).length = len.toNat := by
  unfold partR
  cases lo with
  | none => unfold rTake; rw [List.length_take]; simp at h2; omega
  | some l =>
    simp at h0 h2
    unfold rCut iPlus; rw [List.length_drop, List.length_take]; omega
theorem partR_get {es : Rows} {lo : Option Int} {len : Int} (h0 : 0 ≤ lo.getD 0) (h1 : 0 ≤ len) (h2 : lo.getD 0 + len ≤ es.length) {i : Nat} {r : Row} (hi : (partR es lo len)[i]? = some r) : i < len.toNat ∧ es[(lo.getD 0).toNat + i]? = some r := by
  have hl := partR_len h0 h1 h2
  have hlt : i < (partR es lo len).length := by
    rcases Nat.lt_or_ge i (partR es lo len).length with h2 | h2
    · exact h2
    · rw [List.getElem?_eq_none h2] at hi; cases hi
  refine ⟨by omega, ?_⟩
  unfold partR at hi
  cases lo with
  | none =>
    unfold rTake at hi
    rw [List.getElem?_take, if_pos (by omega)] at hi
    simpa using hi
  | some l =>
    simp at h0
    unfold rCut iPlus at hi
    rw [List.getElem?_drop, List.getElem?_take, if_pos (by omega)] at hi
    exact hi
/-- The builtin clear. -/
theorem clear_arr {w0 : World} {F0 : Fz} {E : En} (hI : Inv P w0 F0 E) {v : Value} {el n ver t ty : Nat} {lo : Option Int} {len : Int} {es : Rows} (h : Rep P E v (.aref el n ver lo len)) (hg : E.hs.getD n none = some (.arr el ver es))
    {ats : Array TypeId} (h0 : ats[0]? = some t) (hu : P.underlying t = some (.slice el)) (hck : ctsOk P el = true) {sz : Nat} (hsz : sizeT P el = some sz) (hp : 0 < sz) {z : List V} (hz : (zeroV P el).bind (normL P (ctsOf P el)) = some z) (hcl : (ctsOf P el).length = sz) :
    ∃ E', (Builtin.clear_ ats ty #[v]).run P E.w = .ok (.tuple #[]) E'.w ∧ Inv P w0 F0 E' ∧ En.Le E E' ∧ E'.hs = E.hs.set n (some (.arr el ver (rFill es (lo.getD 0) (iPlus (lo.getD 0) len) z))) := by
  obtain ⟨a0, c0, hv, g0, g1, g2, v'', es', q1, q2, q3⟩ := rep_aref_inv h
  rw [hg] at q1; injection q1 with q1; injection q1 with q1 q4 q5; subst q4; subst q5
  obtain ⟨a, cap, sz', k1, k2, k3, k4, k5, k6⟩ := q3 rfl
  rw [hsz] at k2; injection k2 with k2; subst k2
  have hset : ∀ x, E.hs.getD n none = some x → E.hs.set n (some x) = E.hs := by
    intro x hx
    apply List.ext_getElem?
    intro j
    rw [List.getElem?_set]
    split
    · rename_i e; subst e
      rw [List.getD_eq_getElem?_getD] at hx
      cases hq : E.hs[n]? with
      | none => rw [hq] at hx; cases hx
      | some y =>
        rw [hq] at hx
        have hx : y = some x := hx
        rw [if_pos (by rcases Nat.lt_or_ge n E.hs.length with h | h; exact h; rw [List.getElem?_eq_none h] at hq; cases hq), hx]
    · rfl
  have hfill : ∀ (i : Nat) (r : Row), (rFill es (lo.getD 0) (iPlus (lo.getD 0) len) z)[i]? = some r → i < es.length ∧ ((((lo.getD 0).toNat ≤ i ∧ i < (lo.getD 0).toNat + len.toNat) ∧ r = z) ∨ (¬ ((lo.getD 0).toNat ≤ i ∧ i < (lo.getD 0).toNat + len.toNat) ∧ es[i]? = some r)) := by
    intro i r hi
    unfold rFill iPlus at hi
    rw [List.getElem?_mapIdx, Option.map_eq_some_iff] at hi
    obtain ⟨q, hq, hr⟩ := hi
    have hlt : i < es.length := by
      rcases Nat.lt_or_ge i es.length with h | h
      · exact h
      · rw [List.getElem?_eq_none h] at hq; cases hq
    refine ⟨hlt, ?_⟩
    have e : (lo.getD 0 + len).toNat = (lo.getD 0).toNat + len.toNat := by omega
    rw [e] at hr
    by_cases hc : (lo.getD 0).toNat ≤ i ∧ i < (lo.getD 0).toNat + len.toNat
    · rw [if_pos hc] at hr; exact Or.inl ⟨hc, hr.symm⟩
    · rw [if_neg hc] at hr; exact Or.inr ⟨hc, by rw [hq, hr]⟩
  rcases Nat.eq_zero_or_pos len.toNat with hz0 | hz0
  · have hsame : rFill es (lo.getD 0) (iPlus (lo.getD 0) len) z = es := by
      apply List.ext_getElem?
      intro i
      cases hq : (rFill es (lo.getD 0) (iPlus (lo.getD 0) len) z)[i]? with
      | none =>
        rw [List.getElem?_eq_none_iff] at hq
        have : (rFill es (lo.getD 0) (iPlus (lo.getD 0) len) z).length = es.length := by unfold rFill; simp
        rw [List.getElem?_eq_none (by omega)]
      | some r =>
        rcases (hfill i r hq).2 with ⟨h1, _⟩ | ⟨_, h1⟩
        · omega
        · rw [h1]
    refine ⟨E, ?_, hI, En.Le.refl _, ?_⟩
    · rw [hv, hz0]
      cases a0 <;> simp [Builtin.clear_, h0, run_underlying hu]
    · rw [hsame, hset _ hg]
  · obtain ⟨bb, e1, e2⟩ := k6 (by omega)
    obtain ⟨a', cap', sz', m1, m2, m3, m4, m5, m6⟩ := hI.arr n el ver es hg
    rw [k1] at m1; injection m1 with n1 n2 n3 n4; subst n1; subst n3; subst n4
    have hcap : 0 < cap := by omega
    obtain ⟨b, arr, ty', p1, p2, p3, p4, p5, p6⟩ := m6 hcap
    rw [e1] at p1; injection p1 with p1; injection p1 with p1; subst p1
    obtain ⟨inf, hi1, hi2⟩ := sizeT_info hsz
    have hz' := hz
    rw [Option.bind_eq_some_iff] at hz'
    obtain ⟨z0, hz1, hz2⟩ := hz'
    cases hzr : inf.zero with
    | none => exfalso; simp [zeroV, hi1, hzr] at hz1
    | some zv =>
    have hz1' : z0 = ofCs zv := by simp [zeroV, hi1, hzr] at hz1; exact hz1.symm
    subst hz1'
    have hzs : zv.cells.size = sz := by
      rw [(rep_zero (P := P) (E := E) zv).1, ← hcl]
      exact (normL_spec (P := P) (E := E) hz2).2.1
    obtain ⟨l1, l2⟩ := made_laid (E := E) hz hcl hi1 hzr hzs len.toNat
    have hzc : Builtin.zeroCells zv.cells len.toNat = madeCells zv.cells (len.toNat * sz) := by
      unfold Builtin.zeroCells madeCells; rw [hzs]
    have hsum : (lo.getD 0).toNat + len.toNat ≤ es.length := by clear m6 k6 g2 p6 hfill; omega
    have hroomN : (lo.getD 0).toNat * sz + len.toNat * sz ≤ arr.size := by
      have : ((lo.getD 0).toNat + len.toNat) * sz ≤ cap * sz := Nat.mul_le_mul_right _ (by omega)
      rw [Nat.add_mul] at this; omega
    have hszm : (madeCells zv.cells (len.toNat * sz)).size = len.toNat * sz := size_madeCells _ _
    have hone : ∀ v ∈ (madeCells zv.cells (len.toNat * sz)).toList, v.oneCell' = true := by
      intro v hv
      rw [List.mem_iff_getElem?] at hv
      obtain ⟨j, hj⟩ := hv
      have hjl : j < len.toNat * sz := by
        rcases Nat.lt_or_ge j (len.toNat * sz) with h | h
        · exact h
        · rw [List.getElem?_eq_none (by simp [hszm]; omega)] at hj; cases hj
      obtain ⟨s1, s2, s3⟩ := split_idx hjl
      have hr : (List.replicate len.toNat z)[j / sz]? = some z := by rw [List.getElem?_replicate, if_pos s1]
      obtain ⟨t1, t2, t3⟩ := l1 _ _ hr
      obtain ⟨x, hx⟩ : ∃ x, z[j % sz]? = some x := ⟨z[j % sz]'(by omega), List.getElem?_eq_getElem (by omega)⟩
      have hrep := t3 _ _ hx
      rw [s3] at hrep
      have hrep : Rep P E ((madeCells zv.cells (len.toNat * sz)).getD j undef) x := hrep
      have e : (madeCells zv.cells (len.toNat * sz)).getD j undef = v := by
        rw [Array.getElem?_toList] at hj
        simp [Array.getD_eq_getD_getElem?, hj]
      rw [e] at hrep
      refine rep_oneCell hrep ?_
      rw [← t2] at hx
      exact etaL_isCell hck _ _ hx
    have hst := run_storeCells_at P bb ((lo.getD 0).toNat * sz) ty' (madeCells zv.cells (len.toNat * sz)).toList 0 arr E.w p3 (by rw [Array.length_toList, hszm]; omega) hone
    generalize harr' : (arr.toList.take ((lo.getD 0).toNat * sz + 0) ++ (madeCells zv.cells (len.toNat * sz)).toList ++ arr.toList.drop ((lo.getD 0).toNat * sz + 0 + (madeCells zv.cells (len.toNat * sz)).toList.length)).toArray = arr' at hst
    have hsize' : arr'.size = arr.size := by rw [← harr']; simp [hszm]; omega
    have hget : ∀ j, arr'.getD j undef = if (lo.getD 0).toNat * sz ≤ j ∧ j < (lo.getD 0).toNat * sz + len.toNat * sz then (madeCells zv.cells (len.toNat * sz)).getD (j - (lo.getD 0).toNat * sz) undef else arr.getD j undef := by
      intro j
      rw [← harr', Array.getD_eq_getD_getElem?, Array.getD_eq_getD_getElem?, Array.getD_eq_getD_getElem?]
      simp only [Nat.add_zero, List.getElem?_toArray]
      have ht : (arr.toList.take ((lo.getD 0).toNat * sz)).length = (lo.getD 0).toNat * sz := by simp; omega
      rw [List.append_assoc, List.getElem?_append, ht]
      by_cases hj : j < (lo.getD 0).toNat * sz
      · rw [if_pos hj, if_neg (by omega), List.getElem?_take, if_pos hj, Array.getElem?_toList]
      · rw [if_neg hj, List.getElem?_append]
        by_cases hj2 : j < (lo.getD 0).toNat * sz + len.toNat * sz
        · rw [if_pos (by rw [Array.length_toList, hszm]; omega), if_pos ⟨by omega, hj2⟩, Array.getElem?_toList]
        · rw [if_neg (by rw [Array.length_toList, hszm]; omega), if_neg (by omega), List.getElem?_drop, Array.getElem?_toList]
          have : (lo.getD 0).toNat * sz + (madeCells zv.cells (len.toNat * sz)).toList.length + (j - (lo.getD 0).toNat * sz - (madeCells zv.cells (len.toNat * sz)).toList.length) = j := by rw [Array.length_toList, hszm]; omega
          rw [this]
    have hlen : (rFill es (lo.getD 0) (iPlus (lo.getD 0) len) z).length = es.length := by unfold rFill; simp
    have hzrow : z.length = sz ∧ eta P el z = z := by
      have hr : (List.replicate len.toNat z)[0]? = some z := by rw [List.getElem?_replicate, if_pos hz0]
      exact ⟨(l1 _ _ hr).1, (l1 _ _ hr).2.1⟩
    obtain ⟨t1, t2⟩ := hI.arrTurn (v' := ver) (es' := rFill es (lo.getD 0) (iPlus (lo.getD 0) len) z) (arr' := arr') hg (by rw [k1, e1]) hcap p3 (Or.inr ⟨rfl, hlen⟩) (by rw [hlen]; exact m4) (fun i r hi => by
      rcases (hfill i r hi).2 with ⟨_, rfl⟩ | ⟨_, h1⟩
      · exact hzrow
      · exact m5 i r h1) hsize' (fun i r j x hi hj => by
      have hjs : j < sz := by
        have hl : r.length = sz := by
          rcases (hfill i r hi).2 with ⟨_, rfl⟩ | ⟨_, h1⟩
          · exact hzrow.1
          · exact (m5 i r h1).1
        rcases Nat.lt_or_ge j r.length with h | h
        · omega
        · rw [List.getElem?_eq_none h] at hj; cases hj
      rw [hget]
      rcases (hfill i r hi).2 with ⟨⟨h1, h2⟩, rfl⟩ | ⟨h1, h2⟩
      · have e3 : (lo.getD 0).toNat * sz ≤ i * sz := Nat.mul_le_mul_right _ h1
        have e4 : (i + 1) * sz ≤ ((lo.getD 0).toNat + len.toNat) * sz := Nat.mul_le_mul_right _ h2
        rw [Nat.add_mul, Nat.add_mul] at e4
        rw [if_pos (by omega)]
        have hr : (List.replicate len.toNat r)[i - (lo.getD 0).toNat]? = some r := by rw [List.getElem?_replicate, if_pos (by omega)]
        have := (l1 _ _ hr).2.2 j x hj
        have e5 : i * sz + j - (lo.getD 0).toNat * sz = (i - (lo.getD 0).toNat) * sz + j := by rw [Nat.sub_mul]; omega
        rw [e5]; exact this
      · have : ¬ ((lo.getD 0).toNat * sz ≤ i * sz + j ∧ i * sz + j < (lo.getD 0).toNat * sz + len.toNat * sz) := by
          intro ⟨a1, a2⟩
          rcases Nat.lt_or_ge i (lo.getD 0).toNat with h3 | h3
          · have : (i + 1) * sz ≤ (lo.getD 0).toNat * sz := Nat.mul_le_mul_right _ h3
            rw [Nat.add_mul] at this; omega
          · have h4 : (lo.getD 0).toNat + len.toNat ≤ i := by omega
            have : ((lo.getD 0).toNat + len.toNat) * sz ≤ i * sz := Nat.mul_le_mul_right _ h4
            rw [Nat.add_mul] at this; omega
        rw [if_neg this]
        exact p6 i r j x h2 hj)
    refine ⟨_, ?_, t1, t2, rfl⟩
    rw [hv, e2]
    obtain ⟨k, hk⟩ : ∃ k, len.toNat = k + 1 := ⟨len.toNat - 1, by omega⟩
    rw [← hzc] at hst
    rw [hk] at hst ⊢
    simp [Builtin.clear_, h0, run_underlying hu, zeroValue, typeInfo, hi1, hzr, hst]
end Go.Proofs.YtolackmpfnndhaaGreatDoor.Ev
