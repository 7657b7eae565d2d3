/- slices.Values and slices.Sorted in the run's table. Conditions: stated at each. -/
import Derived.Test.YtilppppcafphbaaGreatVsq2
import Derived.Test.YtilppppcafphbaaGreatSndD
namespace Go.Proofs.YtilppppcafphbaaGreat.Ev
open Go Go.RowKit Go.Shelf
set_option linter.unusedVariables false
set_option linter.unusedSimpArgs false
theorem vq_und : Tryz.prog.underlying 29 = some (.slice 9) := by kernel_rfl
theorem vq_size : sizeT Tryz.prog 9 = some 1 := by kernel_rfl
theorem vq_eta (r : Row) : eta Tryz.prog 9 r = [.str (rStr r 0)] := by kernel_rfl
set_option maxRecDepth 100000 in
theorem vq_norm1 {x y : V} (h : norm1 Tryz.prog 29 x = some y) : ∃ es, y = .slice 9 es .open := by
  unfold norm1 at h
  rw [vq_und] at h
  cases x <;> simp at h
  · obtain ⟨_, _, rfl⟩ := h; exact ⟨_, rfl⟩
  · rw [cond_eq_ite] at h
    split at h
    · rename_i hb
      have e := Nat.eq_of_beq_eq_true hb
      subst e
      injection h with h; exact ⟨_, h.symm⟩
    · cases h
theorem vq_spot {w : World} {A : Addr} {v : Value} (h : w.cell? A = some v) : A = ⟨A.block, A.off, none⟩ := by
  obtain ⟨b, o, s⟩ := A
  cases s with
  | none => rfl
  | some n =>
    unfold World.cell? at h
    split at h
    · simp at h
    · cases h
/-- A slice of strings that the run knows, in the memory. -/
theorem vq_has {w : World} {Fz : Nat → Nat → Prop} (hF : ∀ b o, Fz b o → b < w.heap.size) {v : Value} {es : Rows} (h : Rep Tryz.prog (E0 w Fz) v (.slice 9 es .open)) :
    VqHas w.heap.size w v (es.map fun r => rStr r 0) ∧ (∃ a cap, v = .slice a es.length cap) ∧ ∀ r, r ∈ es → r = [.str (rStr r 0)] := by
  obtain ⟨a, cap, sz, hv, hcap, hsz⟩ := rep_slice_inv h
  rw [vq_size] at hsz
  injection hsz with hsz; subst hsz
  rw [hv] at h
  obtain ⟨_, q1, q2, q3, vs, q4⟩ := content_of h vq_size
  have hrow : ∀ (i : Nat) (r : Row), es[i]? = some r → r = [.str (rStr r 0)] := fun i r hi => by
    have := (q4.row i r hi).2
    rw [vq_eta] at this
    exact this.symm
  refine ⟨?_, ⟨a, cap, hv⟩, fun r hr => by
    obtain ⟨i, hi⟩ := List.mem_iff_getElem?.1 hr
    exact hrow i r hi⟩
  rcases Nat.eq_zero_or_pos es.length with h0 | h0
  · have : es = [] := List.eq_nil_of_length_eq_zero h0
    subst this
    exact .inl ⟨a, cap, hv, rfl⟩
  · have hcell : ∀ A, a = some A → ∀ j, j < es.length → w.cell? (A.add j) = some (.string (rStr (es.getD j []) 0)) ∧ Fz A.block (A.off + j) := by
      intro A hA j hj
      have hi : es[j]? = some es[j] := List.getElem?_eq_getElem hj
      have hr := hrow j _ hi
      have hx : (es[j])[0]? = some (.str (rStr es[j] 0)) := by
        have := congrArg (fun q : Row => q[0]?) hr
        simpa using this
      obtain ⟨c1, c2⟩ := q4.cell A hA j (by omega)
      have c3 := rep_str_inv (q4.rep j _ 0 _ hi hx)
      have e : j * 1 + 0 = j := by omega
      rw [e] at c3
      rw [c3] at c1
      refine ⟨?_, c2⟩
      have : es.getD j [] = es[j] := by rw [List.getD_eq_getElem?_getD, hi]; rfl
      rw [this]; exact c1
    cases a with
    | none =>
      have := q2 rfl
      omega
    | some A =>
      have e0 : A.add 0 = A := rfl
      have c0 := (hcell A rfl 0 h0).1
      rw [e0] at c0
      have hA := vq_spot c0
      refine .inr ⟨A.block, A.off, cap, by rw [hv, List.length_map, ← hA], hF _ _ (hcell A rfl 0 h0).2, fun j hj => ?_⟩
      rw [List.length_map] at hj
      have c1 := (hcell A rfl j hj).1
      have e1 : A.add j = ⟨A.block, A.off + j, none⟩ := by
        rcases Nat.eq_zero_or_pos j with hj0 | hj0
        · subst hj0; exact hA
        · unfold Addr.add; rw [if_neg (by omega)]
      rw [e1] at c1
      rw [c1, List.getElem?_map, List.getElem?_eq_getElem hj, List.getD_eq_getElem?_getD, List.getElem?_eq_getElem hj]
      rfl
set_option maxHeartbeats 1000000 in
theorem vq_values (a : Option Addr) (n cap : Nat) (w : World) : Calls Tryz.prog 36 #[.slice a n cap] w fun e w' => e = .returned (.func (.func 67) #[] #[.pointer (some ⟨w.heap.size, 0, none⟩)]) ∧ w' = w.alloc (.cells #[.slice a n cap] 29) := by
  go_enter Tryz.func36, Tryz.ntmps36
  go_wp2
  go_ret
  exact ⟨rfl, rfl⟩
set_option maxRecDepth 100000 in
/-- slices.Values. -/
theorem values_ok : FunOk Tryz.prog 36 (mkFun [.t 29] (fun as_ => (T.ret (vRows (vN as_ 0)) : T Rows)) default (fun r => .fn 67 [.rptr [.slice 9 r .open]])) := by
  refine ⟨⟨_, Tryz.func36, by kernel_rfl, by kernel_rfl⟩, fun w Fz hF args xs ys r hsz hn hrep hr => ?_⟩
  obtain ⟨h1, h2⟩ := normAs_get hn
  match ys, h1 with
  | [y], _ =>
    obtain ⟨x, hx⟩ := h2 0 _ y rfl rfl
    have hx' : normA Tryz.prog 29 x = some y := hx
    unfold normA at hx'
    rw [vq_und] at hx'
    obtain ⟨es, rfl⟩ := vq_norm1 hx'
    have hr' : r = .fn 67 [.rptr [.slice 9 es .open]] := by
      have : (some es).bind (fun q => (T.ret (V.fn 67 [.rptr [.slice 9 q .open]]) : T V).eval) = some r := hr
      simp [T.eval] at this
      exact this.symm
    have hrep1 := hrep 0 _ rfl
    have hargs : args = #[args.getD 0 undef] := by
      apply Array.ext (by simpa using hsz)
      intro i h1 h2
      match i, h2 with
      | 0, _ => simp [Array.getD_eq_getD_getElem?, h1]
    generalize args.getD 0 undef = v at hargs hrep1
    rw [hargs]
    obtain ⟨_, ⟨a, cap, hva⟩, _⟩ := vq_has hF hrep1
    rw [hva] at hrep1 ⊢
    generalize hvv : Value.slice a es.length cap = v at hrep1 ⊢
    have hcall := vq_values a es.length cap w
    rw [hvv] at hcall
    refine hcall.mono ?_
    rintro e w' ⟨rfl, rfl⟩
    have hb : RowKit.Below w.heap.size w (w.alloc (.cells #[v] 29)) := (RowKit.Below.refl _ w).alloc (Nat.le_refl _) _
    refine ⟨_, fun b o => Fz b o ∨ b = w.heap.size, rfl, hb, fun b o h => Or.inl h, fun b o h => h.elim Or.inl (fun e => Or.inr (by rw [e]; exact Nat.le_refl _)), fun b o h => ?_, ?_⟩
    · rcases h with h | h
      · exact Nat.lt_of_lt_of_le (hF b o h) hb.size
      · rw [h]; simp
    · rw [hr']
      have hle : En.Le (E0 w Fz) (E0 (w.alloc (.cells #[v] 29)) (fun b o => Fz b o ∨ b = w.heap.size)) :=
        ⟨fun A hA => hb.cell (p := A) (hF _ _ hA), fun b o h => Or.inl h, fun n cs h => by simp [E0] at h, fun n v h => by simp [E0] at h, fun n t v es h => by simp [E0] at h, fun n q h => by simp [E0] at h⟩
      refine .fn _ _ _ rfl (fun i x hi => ?_)
      match i, hi with
      | 0, hi =>
        simp at hi; subst hi
        refine .rptr ⟨w.heap.size, 0, none⟩ [.slice 9 es .open] (fun _ => v) (fun j x hj => ?_) (fun j x hj => ?_)
        · match j, hj with
          | 0, _ => exact ⟨cell_one_new _ _ _ 0 _ rfl, Or.inr rfl⟩
        · match j, hj with
          | 0, hj => simp at hj; subst hj; exact hrep1.mono hle
theorem rl0 (es : Rows) : 0 ≤ rLen es := by unfold rLen; omega
theorem vqSorted_rows (es : Rows) (hf : ∀ r, r ∈ es → r = [.str (rStr r 0)]) : (vqSorted (es.map fun r => rStr r 0)).map (fun l => [V.str ⟨l.toArray⟩]) = sortC es := by
  have hback : (es.map fun r => sUn (rStr r 0)).map (fun l => [V.str ⟨l.toArray⟩]) = es := by
    rw [List.map_map]
    conv => rhs; rw [← List.map_id es]
    refine List.map_congr_left (fun r hr => ?_)
    have := hf r hr
    show [V.str ⟨(rStr r 0).data.toList.toArray⟩] = id r
    rw [id, Array.toArray_toList]; exact this.symm
  have hp : ((vqSorted (es.map fun r => rStr r 0)).map (fun l => [V.str ⟨l.toArray⟩])).Perm es := by
    have h0 := (List.mergeSort_perm ((es.map fun r => rStr r 0).map sUn) (fun x y => decide (x ≤ y))).map (fun l : List UInt8 => [V.str ⟨l.toArray⟩])
    rw [show (((es.map fun r => rStr r 0).map sUn).map fun l : List UInt8 => [V.str ⟨l.toArray⟩]) = es from by rw [List.map_map, List.map_map]; rw [List.map_map] at hback; exact hback] at h0
    exact h0
  have hs : ((vqSorted (es.map fun r => rStr r 0)).map (fun l => [V.str ⟨l.toArray⟩])).Pairwise fun a b => sLt (rStr b 0) (rStr a 0) = false := by
    rw [List.pairwise_map]
    have h1 : (vqSorted (es.map fun r => rStr r 0)).Pairwise (fun x y => decide (x ≤ y) = true) := by
      unfold vqSorted
      exact List.pairwise_mergeSort (fun a b c h1 h2 => by simp at h1 h2 ⊢; exact List.le_trans h1 h2) (fun a b => by simp; exact List.le_total a b) _
    refine h1.imp (fun {a b} h => ?_)
    rw [sLt_lt]
    have h : a ≤ b := of_decide_eq_true h
    refine decide_eq_false (fun hlt => ?_)
    exact absurd (List.le_of_lt hlt) (by
      intro hle
      exact absurd hlt (by simpa [rStr] using List.not_lt.2 h))
  refine List.Perm.eq_of_pairwise (le := fun a b => sLt (rStr b 0) (rStr a 0) = false) (fun a b ha hb h1 h2 => ?_) hs (sortC_sorted es) (hp.trans (sortC_perm es).symm)
  have ha' := hf a (hp.subset ha)
  have hb' := hf b ((sortC_perm es).subset hb)
  rw [ha', hb', sLt_false h2 h1]
set_option maxRecDepth 100000 in
/-- slices.Sorted, of what slices.Values gives. -/
theorem sorted_okM : FunOkM Tryz.prog 35 (mkFunM 9 false [.fn 67 [29]] (fun _ as_ => (.test (rOk 16 0 (rLen (vRows (vN (vPtr (vN (vCaps (vN as_ 0)) 0)) 0)))) (.ret (sortC (vRows (vN (vPtr (vN (vCaps (vN as_ 0)) 0)) 0)), rLen (vRows (vN (vPtr (vN (vCaps (vN as_ 0)) 0)) 0)))) .fail : T (Rows × Int)))) := by
  refine ⟨⟨_, Tryz.func35, by kernel_rfl, by kernel_rfl⟩, fun w Fz Mm l es0 hes hI args v0 xs ys r hsz hn hrep0 hrep hr => ?_⟩
  obtain rfl : es0 = [] := hes rfl
  obtain ⟨h1, h2⟩ := normAs_get hn
  match ys, h1 with
  | [y], _ =>
    obtain ⟨x, hx⟩ := h2 0 _ y rfl rfl
    have hy : ∃ es, y = .fn 67 [.rptr [.slice 9 es .open]] := by
      have hx' : normP Tryz.prog (.fn 67 [29]) x = some y := hx
      cases x with
      | fn g cs =>
        simp only [normP] at hx'
        rw [cond_eq_ite] at hx'
        split at hx'
        · match cs, hx' with
          | [c], hx' =>
            rw [Option.map_eq_some_iff] at hx'
            obtain ⟨l1, hl1, rfl⟩ := hx'
            simp only [normCs] at hl1
            rw [Option.bind_eq_some_iff] at hl1
            obtain ⟨c1, hc1, hl1⟩ := hl1
            simp at hl1; subst hl1
            cases c with
            | rptr q =>
              simp only [normC] at hc1
              rw [Option.map_eq_some_iff] at hc1
              obtain ⟨q1, hq1, rfl⟩ := hc1
              have ec : ctsOf Tryz.prog 29 = [29] := by kernel_rfl
              rw [ec] at hq1
              match q, hq1 with
              | [z], hq1 =>
                simp only [normL] at hq1
                rw [Option.bind_eq_some_iff] at hq1
                obtain ⟨z1, hz1, hq1⟩ := hq1
                simp at hq1; subst hq1
                obtain ⟨es, rfl⟩ := vq_norm1 hz1
                exact ⟨es, rfl⟩
              | [], hq1 => simp [normL] at hq1
              | _ :: _ :: _, hq1 => simp [normL] at hq1
            | _ => simp [normC] at hc1
          | [], hx' => simp [normCs] at hx'
          | _ :: _ :: _, hx' => simp [normCs] at hx'
        · cases hx'
      | _ => simp [normP] at hx'
    obtain ⟨es, rfl⟩ := hy
    have hr' : ((T.test (rOk 16 0 (rLen es)) (.ret (sortC es, rLen es)) .fail : T (Rows × Int)).eval.bind fun r => (T.ret r : T (Rows × Int)).eval) = some r := hr
    rw [Option.bind_eq_some_iff] at hr'
    obtain ⟨q, q1, q2⟩ := hr'
    obtain ⟨q3, q4⟩ := T.test_eval q1
    simp [T.eval] at q2 q4
    subst q2; subst q4
    have hF : ∀ b o, Fz b o → b < w.heap.size := hI.Flt
    have hrep1 := hrep 0 _ rfl
    have hargs : args = [args.getD 0 undef] := by
      match args, hsz with
      | [a], _ => rfl
    generalize args.getD 0 undef = fv at hargs hrep1
    rw [hargs]
    cases hrep1 with
    | fn f cs xs hl h =>
      have hp := h 0 _ rfl
      have hcs : cs = #[cs.getD 0 undef] := by
        apply Array.ext (by simpa using hl)
        intro i h1 h2
        match i, h2 with
        | 0, _ => simp [Array.getD_eq_getD_getElem?, h1]
      generalize cs.getD 0 undef = pv at hcs hp
      rw [hcs]
      cases hp with
      | rptr A ds vs hc hx =>
        obtain ⟨c1, c2⟩ := hc 0 _ rfl
        have c1 : w.cell? A = some (vs 0) := c1
        have hAl : A.block < w.heap.size := hF _ _ c2
        obtain ⟨hhas, ⟨a, cap, hva⟩, hform⟩ := vq_has hF (hx 0 _ rfl)
        have hok : es.length * 16 ≤ 140737488355328 := by
          have := of_decide_eq_true q3
          unfold rLen at this
          omega
        have hlm : (es.map fun r => rStr r 0).length = es.length := by simp
        refine (vq_sorted A (vs 0) _ (by rw [hlm]; exact Nat.le_trans (by omega : es.length ≤ 8796093022208) (by decide)) (by rw [hlm]; exact hok) w hAl c1 hhas).mono ?_
        rintro e w' ⟨v, rfl, hown, hb⟩
        rw [hlm] at hown
        have hrows := vqSorted_rows es hform
        have hlen : (sortC es).length = es.length := (sortC_perm es).length_eq
        have hone : ∀ (L : Loc) m x, ([some (Blk.arr 9 0 (sortC es))] : List (Option Blk)).getD m none = some x → m = 0 ∧ x = .arr 9 0 (sortC es) := by
          intro L m x hm
          cases m with
          | zero => exact ⟨rfl, by simpa using hm.symm⟩
          | succ m => simp at hm
        have hFlt : ∀ b o, Fz b o → b < w'.heap.size := fun b o h => Nat.lt_of_lt_of_le (hF b o h) hb.size
        rcases hown.2 with ⟨rfl, hz⟩ | ⟨g, cap', cur, rfl, hbase, hg, r1, r2, r3, r4⟩
        · have hes : es = [] := List.eq_nil_of_length_eq_zero hz
          subst hes
          refine ⟨_, Fz, .arr none 0 0 1, 0, rfl, ⟨BelowM.of hb, fun _ _ h => h, fun _ _ h => Or.inl h, hFlt, fun m cs hm => ?_, fun m v hm => ?_, fun m t1 v1 es1 hm => ?_, fun m q hm => ?_, fun m k x y b hm hk _ _ => ?_⟩, ?_⟩
          · cases (hone (.blk 0) m _ hm).2
          · cases (hone (.blk 0) m _ hm).2
          · have e := (hone (.blk 0) m _ hm).2
            injection e with e1 e2 e3; subst e1; subst e2; subst e3
            exact ⟨none, 0, 1, rfl, vq_size, by decide, Nat.le_refl _, fun i r hi => by simp [sortC] at hi, fun h => by cases h⟩
          · cases (hone (.blk 0) m _ hm).2
          · rw [(hone (.blk 0) m _ hm).1, (hone (.blk 0) k _ hk).1]
          · exact .aref none 0 9 0 0 none 0 (Int.le_refl _) (Nat.le_refl _) (fun h => by cases h) ⟨0, [], rfl, Nat.le_refl _, fun _ => ⟨none, 0, 1, rfl, vq_size, Int.le_refl _, Int.le_refl _, fun _ => ⟨rfl, rfl⟩, fun h => by cases h⟩⟩
        · have hcell : ∀ (i : Nat) (r : Row), (sortC es)[i]? = some r → ∃ s, r = [.str s] ∧ cur.getD (i * 1) undef = .string s := by
            intro i r hi
            have hil : i < es.length := by rw [← hlen]; exact (List.getElem?_eq_some_iff.1 hi).1
            rw [← hrows, List.getElem?_map, Option.map_eq_some_iff] at hi
            obtain ⟨b, hb1, rfl⟩ := hi
            refine ⟨_, rfl, ?_⟩
            have hq : (cur.toList.take (es.length * 1))[i]? = some (encStr b) := by rw [r4, List.getElem?_map, hb1]; rfl
            rw [List.getElem?_take_of_lt (by omega), Array.getElem?_toList] at hq
            rw [Nat.mul_one, Array.getD_eq_getD_getElem?, hq]
            rfl
          refine ⟨_, Fz, .arr (some ⟨g, 0, none⟩) (sortC es).length cap' 1, 0, rfl, ⟨BelowM.of hb, fun _ _ h => h, fun _ _ h => Or.inl h, hFlt, fun m cs hm => ?_, fun m v hm => ?_, fun m t1 v1 es1 hm => ?_, fun m q hm => ?_, fun m k x y b hm hk _ _ => ?_⟩, ?_⟩
          · cases (hone (.blk 0) m _ hm).2
          · cases (hone (.blk 0) m _ hm).2
          · have e := (hone (.blk 0) m _ hm).2
            injection e with e1 e2 e3; subst e1; subst e2; subst e3
            refine ⟨_, cap', 1, rfl, vq_size, by decide, by rw [hlen]; exact r1, fun i r hi => ?_, fun _ => ⟨g, cur, 9, rfl, Or.inl hbase, hg, by omega, fun o h => ?_, fun i r j x hi hj => ?_⟩⟩
            · obtain ⟨s, rfl, _⟩ := hcell i r hi
              exact ⟨rfl, vq_eta _⟩
            · exact absurd (hF _ _ h) (by omega)
            · obtain ⟨s, rfl, hcs⟩ := hcell i r hi
              match j, hj with
              | 0, hj =>
                injection hj with hj; subst hj
                rw [Nat.add_zero, hcs]; exact .str _
          · cases (hone (.blk 0) m _ hm).2
          · rw [(hone (.blk 0) m _ hm).1, (hone (.blk 0) k _ hk).1]
          · have hlz : (rLen es).toNat = es.length := by unfold rLen; simp
            have hA : Rep Tryz.prog (⟨w', Fz, fun _ => .arr (some ⟨g, 0, none⟩) (sortC es).length cap' 1, [some (.arr 9 0 (sortC es))]⟩ : En) (.slice (some ⟨g, 0, none⟩) (rLen es).toNat cap') (.aref 9 0 0 none (rLen es)) := by
              refine .aref _ cap' 9 0 0 none (rLen es) (rl0 es) (by rw [hlz]; exact r1) (fun _ => ⟨_, rfl⟩) ⟨0, sortC es, rfl, Nat.le_refl _, fun _ => ⟨some ⟨g, 0, none⟩, cap', 1, rfl, vq_size, Int.le_refl _, ?_, fun _ => ⟨rfl, rfl⟩, fun _ => ⟨g, rfl, rfl⟩⟩⟩
              show 0 + rLen es ≤ ((sortC es).length : Int)
              rw [hlen]; unfold rLen; omega
            rw [hlz] at hA
            exact hA
end Go.Proofs.YtilppppcafphbaaGreat.Ev
