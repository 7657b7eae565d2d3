/- Templates, loops, functions. Conditions: stated at each. -/
import Derived.Test.YtolackmpfnndhaaGreatDoorSndA
import Derived.Test.YtolackmpfnndhaaGreatDoorTpl
namespace Go.Proofs.YtolackmpfnndhaaGreatDoor.Ev
open Go Go.RowKit
set_option linter.unusedVariables false
set_option linter.unusedSimpArgs false
variable {P : Program}
theorem ownV_sound {w0 : World} {F0 : Fz} {E : En} (hI : Inv P w0 F0 E) {v : Value} {x y : V} {e n : Nat} {hs' : List (Option Blk)} (h : Rep P E v x) (ho : ownV P e n E.hs x = some (y, hs')) :
    ∃ E', Inv P w0 F0 E' ∧ En.Le E E' ∧ E'.hs = hs' ∧ E'.w = E.w ∧ Rep P E' v y ∧ ∀ m, E.hs.getD m none ≠ none → E'.hs.getD m none = E.hs.getD m none := by
  have main : ∀ (a : Option Addr) (es : Rows) (k : K) (e' sz : Nat) (cap : Nat), E.hs.getD n none = none → n < E.hs.length → cap = es.length → (a = none → cap = 0) → sizeT P e' = some sz → Rep P E (.slice a es.length cap) (.slice e' es k) → y = .slice e' es (.own n 0) → hs' = E.hs.set n (some (.tail 0)) → v = .slice a es.length cap →
      ∃ E', Inv P w0 F0 E' ∧ En.Le E E' ∧ E'.hs = hs' ∧ E'.w = E.w ∧ Rep P E' v y ∧ ∀ m, E.hs.getD m none ≠ none → E'.hs.getD m none = E.hs.getD m none := by
    intro a es k e' sz cap hn hlt hcap hnone hsz hr hy hhs hv
    obtain ⟨s1, s2⟩ := Inv.setTail hI (n := n) (v := 0) (a := a) (len := es.length) (cap := cap) (sz := sz) (F' := E.F) (Or.inl hn) hlt (by omega) (fun _ _ h => h) (fun b o h => Or.inl h) (fun hl => by omega)
    obtain ⟨_, q1, q2, _, vs, q3⟩ := content_of hr hsz
    refine ⟨_, s1, s2, hhs.symm, rfl, ?_, fun m hm => ?_⟩
    · rw [hy, hv]
      have hc : Content P (⟨E.w, E.F, upd E.N n (.tail a es.length cap sz), E.hs.set n (some (.tail 0))⟩ : En) e' sz a es vs := ⟨q3.row, q3.cell, fun i r j x hi hj => (q3.rep i r j x hi hj).mono s2⟩
      exact hc.slice hsz (by omega) hnone ⟨0, by show (E.hs.set n _).getD n none = _; rw [getD_set_blk, if_pos ⟨rfl, hlt⟩], Nat.le_refl _, fun _ => upd_same ..⟩
    · show (E.hs.set n _).getD m none = _
      rw [getD_set_blk, if_neg (fun e => hm (by rw [e.1]; exact hn))]
  unfold ownV at ho
  split at ho
  · split at ho
    · rename_i sz hn hsz
      rw [cond_eq_ite] at ho
      split at ho
      · rename_i hb
        injection ho with ho; injection ho with e1 e2
        have hlt : n < E.hs.length := by simpa [Nat.blt_eq] using hb
        have hv := rep_nils_inv h
        refine main none [] .open e sz 0 hn hlt rfl (fun _ => rfl) hsz ?_ e1.symm e2.symm hv
        exact content_nil.slice (sz := sz) hsz (Nat.le_refl _) (fun _ => rfl) trivial
      · cases ho
    · cases ho
  · split at ho
    · rename_i e' es hn
      rw [cond_eq_ite] at ho
      split at ho
      · rename_i hb
        injection ho with ho; injection ho with e1 e2
        have hlt : n < E.hs.length := by simpa [Nat.blt_eq] using hb
        obtain ⟨a, cap, sz, hv, hcap, hsz⟩ := rep_slice_inv h
        rw [hv] at h
        obtain ⟨_, q1, q2, q3, vs, q4⟩ := content_of h hsz
        exact main a _ .full _ sz cap (by assumption) hlt q3 q2 hsz h e1.symm e2.symm hv
      · cases ho
    · cases ho
  · injection ho with ho; injection ho with e1 e2
    exact ⟨E, hI, En.Le.refl _, e2, rfl, e1 ▸ h, fun _ _ => rfl⟩
theorem adV_sound {w0 : World} {F0 : Fz} {E : En} (hI : Inv P w0 F0 E) {a : Act} {s s' : St} (hf : FS P E a s.ts) (hh : E.hs = s.hs) {d : Ad} (h : adV P d s = some s') : ∃ E', Inv P w0 F0 E' ∧ FS P E' a s'.ts ∧ E'.hs = s'.hs ∧ E'.w = E.w := by
  cases d with
  | tmp t n e =>
    simp only [adV] at h
    rw [Option.map_eq_some_iff] at h
    obtain ⟨⟨y, hs'⟩, ho, rfl⟩ := h
    rw [← hh] at ho
    obtain ⟨E', k1, k2, k3, k4, k5, _⟩ := ownV_sound hI (hf.vals t) ho
    refine ⟨E', k1, ⟨hf.defers, by rw [hf.size]; simp, fun u => ?_⟩, k3, k4⟩
    rw [getV_set]
    split
    · rename_i hu; rw [hu.1]; exact k5
    · exact (hf.vals u).mono k2
  | cell b j n e =>
    simp only [adV] at h
    split at h
    · rename_i cs hb
      split at h
      · rename_i x hx
        rw [Option.bind_eq_some_iff] at h
        obtain ⟨⟨y, hs'⟩, ho, h⟩ := h
        rw [cond_eq_ite] at h
        split at h
        · cases h
        · rename_i hne
          injection h with h; subst h
          rw [← hh] at ho hb
          obtain ⟨bk, arr, t, g1, g2, g3, g4, g5, g6⟩ := hI.box b cs hb
          obtain ⟨E', k1, k2, k3, k4, k5, k6⟩ := ownV_sound hI (g5 j x hx) ho
          have hb' : E'.hs.getD b none = some (.box cs) := by rw [k6 b (by rw [hb]; simp)]; exact hb
          have hN : E'.N b = .blk bk := (k2.box b cs hb).2.trans g1
          obtain ⟨m1, m2⟩ := k1.setBox (cs' := cs.set j y) (arr' := arr) hb' hN (by rw [k4]; exact g3) (by rw [g4]; simp) (fun i z hi => by
            rw [List.getElem?_set] at hi
            split at hi
            · rename_i hij; subst hij
              split at hi
              · injection hi with hi; subst hi; exact k5
              · cases hi
            · exact (g5 i z hi).mono k2)
          refine ⟨⟨E'.w, E'.F, E'.N, E'.hs.set b (some (.box (cs.set j y)))⟩, ?_, ?_, by show E'.hs.set b _ = _; rw [k3], k4⟩
          · have e : E'.w.setRow bk arr = E'.w := setRow_self E'.w bk arr t (0, 0) (by rw [k4]; exact g3)
            rw [e] at m1; exact m1
          · have e : E'.w.setRow bk arr = E'.w := setRow_self E'.w bk arr t (0, 0) (by rw [k4]; exact g3)
            rw [e] at m2
            exact (hf.mono k2).mono m2
      · cases h
    · cases h
theorem adsV_sound {w0 : World} {F0 : Fz} {a : Act} : ∀ {l : List Ad} {E : En} {s s' : St}, Inv P w0 F0 E → FS P E a s.ts → E.hs = s.hs → adsV P l s = some s' → ∃ E', Inv P w0 F0 E' ∧ FS P E' a s'.ts ∧ E'.hs = s'.hs ∧ E'.w = E.w
  | [], E, s, s', hI, hf, hh, h => by simp [adsV] at h; subst h; exact ⟨E, hI, hf, hh, rfl⟩
  | d :: l, E, s, s', hI, hf, hh, h => by
    simp only [adsV] at h
    rw [Option.bind_eq_some_iff] at h
    obtain ⟨s1, h1, h2⟩ := h
    obtain ⟨E1, a1, a2, a3, a4⟩ := adV_sound hI hf hh h1
    obtain ⟨E2, b1, b2, b3, b4⟩ := adsV_sound a1 a2 a3 h2
    exact ⟨E2, b1, b2, b3, b4.trans a4⟩
/-- The names that a shape asks for. -/
def ShOk (E E' : En) : Sh → Prop
  | .sl _ (some n) => E'.hs.getD n none = some (.tail 0)
  | .ptr n _ => ∃ cs, E'.hs.getD n none = some (.box cs)
  | .mref n => ∃ q, E'.hs.getD n none = some (.obj q)
  | .aref t n => ∃ v es es', E.hs.getD n none = some (.arr t v es) ∧ E'.hs.getD n none = some (.arr t 0 es') ∧ es'.length = es.length
  | _ => True
theorem E0_le {E E' : En} (hw : E'.w = E.w) (hF : E'.F = E.F) : En.Le (E0 E.w E.F) E' :=
  ⟨fun _ _ => by rw [hw]; rfl, fun _ _ h => by rw [hF]; exact h, fun n cs h => by simp [E0] at h, fun n v h => by simp [E0] at h, fun n t v es h => by simp [E0] at h, fun n q h => by simp [E0] at h⟩
theorem normC_form {e : Nat} {x y : V} (h : normC P e x = some y) : ∃ l, y = .rptr l ∧ eta P e l = l := by
  cases x with
  | rptr cs =>
    simp only [normC] at h
    rw [Option.map_eq_some_iff] at h
    obtain ⟨l, hl, rfl⟩ := h
    exact ⟨l, rfl, (normL_eta hl).1⟩
  | _ => simp [normC] at h
theorem fillC_norm : ∀ {es : List Nat} {xs ys : List V}, normCs P es xs = some ys → fillC P es (ys.map vPtr) = ys
  | [], [], ys, h => by simp [normCs] at h; subst h; rfl
  | e :: es, x :: xs, ys, h => by
    simp only [normCs] at h
    rw [Option.bind_eq_some_iff] at h
    obtain ⟨y, hy, h⟩ := h
    rw [Option.map_eq_some_iff] at h
    obtain ⟨l, hl, rfl⟩ := h
    obtain ⟨r, rfl, hr⟩ := normC_form hy
    show V.rptr (eta P e r) :: fillC P es (l.map vPtr) = _
    rw [hr, fillC_norm hl]
  | [], _ :: _, _, h => by simp [normCs] at h
  | _ :: _, [], _, h => by simp [normCs] at h
theorem cutV_sound {E E' : En} (hw : E'.w = E.w) (hF : E'.F = E.F) (hN : E'.N = E.N) {sh : Sh} {v : Value} {x : V} {a : At} (h : Rep P E v x) (hc : cutV P E.hs sh x = some a) (hok : ShOk E E' sh) : Rep P E' v (fillV1 P sh a) := by
  unfold cutV at hc
  split at hc
  · injection hc with hc; subst hc; rw [rep_bool_inv h]; exact .bool _
  · rw [cond_eq_ite] at hc
    split at hc
    · rename_i hk
      have hk' := eq_of_beq hk
      subst hk'
      injection hc with hc; subst hc; rw [rep_int_inv h]; exact .int _ _
    · cases hc
  · injection hc with hc; subst hc; rw [rep_str_inv h]; exact .str _
  · rw [Option.map_eq_some_iff] at hc
    obtain ⟨sz, hsz, rfl⟩ := hc
    rw [rep_nils_inv h]
    exact content_nil.slice (a := none) hsz (Nat.le_refl _) (fun _ => rfl) trivial
  · rw [cond_eq_ite] at hc
    split at hc
    · rename_i hk
      have hk' := Nat.eq_of_beq_eq_true hk
      subst hk'
      injection hc with hc; subst hc
      obtain ⟨a0, cap, sz, hv, hcap, hsz⟩ := rep_slice_inv h
      cases h with
      | slice t es k a cap sz vs hcap hnone hsz hrow hcc hx hk =>
        have h' := Rep.slice (P := P) (E := E) _ _ K.open a cap sz vs hcap hnone hsz hrow hcc hx trivial
        exact (h'.frozen trivial).mono (E0_le hw hF)
    · cases hc
  · split at hc
    · rename_i v' hn
      rw [cond_eq_ite] at hc
      split at hc
      · rename_i hk
        rw [Bool.and_eq_true, Bool.and_eq_true] at hk
        have e1 := Nat.eq_of_beq_eq_true hk.1.1
        have e2 := Nat.eq_of_beq_eq_true hk.1.2
        have e3 := Nat.eq_of_beq_eq_true hk.2
        subst e1; subst e2; subst e3
        injection hc with hc; subst hc
        obtain ⟨a0, cap, sz, hv, hcap, hsz⟩ := rep_slice_inv h
        rw [hv] at h
        obtain ⟨_, q1, q2, ⟨v'', q5, q6, q7⟩, vs, q4⟩ := content_of h hsz
        rw [hn] at q5; injection q5 with q5; injection q5 with q5; subst q5
        rw [hv]
        have hc : Content P E' _ sz a0 _ vs := ⟨q4.row, fun A hA j hj => by
          have := q4.cell A hA j hj
          rw [hw, hF]; exact this, fun i r j x hi hj => by
          obtain ⟨_, he⟩ := q4.row i r hi
          have hj' := hj
          rw [← he] at hj'
          exact ((q4.rep i r j x hi hj).frozen (etaL_frz r _ 0 j x hj')).mono (E0_le hw hF)⟩
        exact hc.slice hsz q1 q2 ⟨0, hok, Nat.le_refl _, fun _ => by rw [hN]; exact q7 rfl⟩
      · cases hc
    · cases hc
  · rename_i t cs
    rw [Option.map_eq_some_iff] at hc
    obtain ⟨l, hl, rfl⟩ := hc
    have h1 := rep_normL (P := P) (E := E) (t := t) (v := v) (x := .agg cs) (y := .agg l) (by show (normL P (ctsOf P t) cs).map V.agg = _; rw [hl]; rfl) h
    have : fillV1 P (.row t) (.w l) = .agg l := by show V.agg (eta P t l) = _; rw [(normL_eta hl).1]
    rw [this]
    exact h1.mono (E0_le hw hF)
  · rename_i t n t' n' ver len
    split at hc
    · rename_i t'' v' es hn
      rw [cond_eq_ite] at hc
      split at hc
      · rename_i hk
        simp only [Bool.and_eq_true] at hk
        obtain ⟨⟨⟨k1, k2⟩, k3⟩, k4⟩ := hk
        have e1 := Nat.eq_of_beq_eq_true k1
        have e2 := Nat.eq_of_beq_eq_true k2
        have e3 := Nat.eq_of_beq_eq_true k3
        have e4 := Nat.eq_of_beq_eq_true k4
        subst e1; subst e2; subst e3; subst e4
        injection hc with hc; subst hc
        obtain ⟨v2, es2, es', o1, o2, o3⟩ := hok
        cases h with
        | aref a0 c0 t n v lo len g0 g1 g2 hh =>
          obtain ⟨v3, es3, q1, q2, q3⟩ := hh
          rw [hn] at q1; injection q1 with q1; injection q1 with _ q4 q5; subst q4; subst q5
          rw [hn] at o1; injection o1 with o1; injection o1 with _ o4 o5; subst o4; subst o5
          refine .aref a0 c0 _ _ 0 none len g0 g1 g2 ⟨0, es', o2, Nat.le_refl _, fun _ => ?_⟩
          rw [hN, o3]; exact q3 rfl
      · cases hc
    · cases hc
  · rename_i t cs
    rw [Option.map_eq_some_iff] at hc
    obtain ⟨l, hl, rfl⟩ := hc
    have h1 := rep_normC (P := P) (E := E) (e := t) (v := v) (x := .rptr cs) (y := .rptr l) h (by show (normL P (ctsOf P t) cs).map V.rptr = _; rw [hl]; rfl)
    have : fillV1 P (.rptr t) (.w l) = .rptr l := by show V.rptr (eta P t l) = _; rw [(normL_eta hl).1]
    rw [this]
    exact h1.mono (E0_le hw hF)
  · rename_i f es g xs
    rw [cond_eq_ite] at hc
    split at hc
    · rename_i hk
      have e1 := Nat.eq_of_beq_eq_true hk
      subst e1
      rw [Option.map_eq_some_iff] at hc
      obtain ⟨ys, hys, rfl⟩ := hc
      have h1 := rep_normP (P := P) (E := E) (t := .fn f es) (v := v) (x := .fn f xs) (y := .fn f ys) h (by show (bif Nat.beq f f then (normCs P es xs).map (V.fn f) else none) = _; rw [Nat.beq_refl, hys]; rfl)
      have : fillV1 P (.fn f es) (.c (ys.map vPtr)) = .fn f ys := by
        show V.fn f (fillC P es (ys.map vPtr)) = _
        rw [fillC_norm hys]
      rw [this]
      exact h1.mono (E0_le hw hF)
    · cases hc
  · rw [cond_eq_ite] at hc
    split at hc
    · rename_i hk
      rw [Bool.and_eq_true] at hk
      have e1 := Nat.eq_of_beq_eq_true hk.1
      have e2 := Nat.eq_of_beq_eq_true hk.2
      subst e1; subst e2
      injection hc with hc; subst hc
      obtain ⟨b, hv, hb, _⟩ := rep_optr_inv h
      rw [hv]
      exact .optr _ _ _ (by rw [hN]; exact hb) hok
    · cases hc
  · rw [cond_eq_ite] at hc
    split at hc
    · rename_i hk
      have e1 := Nat.eq_of_beq_eq_true hk
      subst e1
      injection hc with hc; subst hc
      obtain ⟨b, hv, hb, _⟩ := rep_mref_inv h
      rw [hv]
      exact .mref _ _ (by rw [hN]; exact hb) hok
    · cases hc
  · cases hc
/-- What lies in a list of slots comes of one that was set. -/
theorem getD_set_cases {hs : List (Option Blk)} {d n : Nat} {b x : Blk} (h : (hs.set d (some b)).getD n none = some x) : (n = d ∧ x = b) ∨ hs.getD n none = some x := by
  rw [getD_set_blk] at h
  split at h
  · rename_i e; injection h with h; exact Or.inl ⟨e.1, h.symm⟩
  · exact Or.inr h
theorem getD_replicate (n m : Nat) : (List.replicate n (none : Option Blk)).getD m none = none := by
  rw [List.getD_eq_getElem?_getD, List.getElem?_replicate]
  split <;> rfl
theorem tails_cases {hs : List (Option Blk)} : ∀ {l : List Nat} {n : Nat} {x : Blk}, (setTails hs l).getD n none = some x → (n ∈ l ∧ x = .tail 0) ∨ hs.getD n none = some x
  | [], n, x, h => Or.inr h
  | m :: l, n, x, h => by
    rcases getD_set_cases h with ⟨rfl, rfl⟩ | h
    · exact Or.inl ⟨List.mem_cons_self .., rfl⟩
    · rcases tails_cases h with ⟨h1, h2⟩ | h
      · exact Or.inl ⟨List.mem_cons_of_mem _ h1, h2⟩
      · exact Or.inr h
theorem boxes_cases {hs : List (Option Blk)} : ∀ {l : List (Nat × List Sh)} {as : List (List At)} {n : Nat} {x : Blk}, (fillBs P hs l as).getD n none = some x → (∃ (p : Nat × List Sh) (a : List At), (p, a) ∈ l.zip as ∧ n = p.1 ∧ x = .box (fillCs P p.2 a)) ∨ hs.getD n none = some x
  | [], as, n, x, h => Or.inr (by simpa [fillBs] using h)
  | p :: l, [], n, x, h => Or.inr (by simpa [fillBs] using h)
  | p :: l, a :: as, n, x, h => by
    rcases getD_set_cases h with ⟨rfl, rfl⟩ | h
    · exact Or.inl ⟨p, a, by simp, rfl, rfl⟩
    · rcases boxes_cases h with ⟨q, b, h1, h2, h3⟩ | h
      · exact Or.inl ⟨q, b, by rw [List.zip_cons_cons]; exact List.mem_cons_of_mem _ h1, h2, h3⟩
      · exact Or.inr h
theorem rows_cases {hs : List (Option Blk)} : ∀ {l : List (Nat × Nat)} {as : List Row} {n : Nat} {x : Blk}, (fillRs P hs l as).getD n none = some x → (∃ (p : Nat × Nat) (a : Row), (p, a) ∈ l.zip as ∧ n = p.1 ∧ x = .box (eta P p.2 a)) ∨ hs.getD n none = some x
  | [], as, n, x, h => Or.inr (by simpa [fillRs] using h)
  | p :: l, [], n, x, h => Or.inr (by simpa [fillRs] using h)
  | p :: l, a :: as, n, x, h => by
    rcases getD_set_cases h with ⟨rfl, rfl⟩ | h
    · exact Or.inl ⟨p, a, by simp, rfl, rfl⟩
    · rcases rows_cases h with ⟨q, b, h1, h2, h3⟩ | h
      · exact Or.inl ⟨q, b, by rw [List.zip_cons_cons]; exact List.mem_cons_of_mem _ h1, h2, h3⟩
      · exact Or.inr h
theorem arrs_cases {hs : List (Option Blk)} : ∀ {l : List (Nat × Nat)} {as : List Rows} {n : Nat} {x : Blk}, (fillMs hs l as).getD n none = some x → (∃ (p : Nat × Nat) (a : Rows), (p, a) ∈ l.zip as ∧ n = p.1 ∧ x = blkM p.2 a) ∨ hs.getD n none = some x
  | [], as, n, x, h => Or.inr (by simpa [fillMs] using h)
  | p :: l, [], n, x, h => Or.inr (by simpa [fillMs] using h)
  | p :: l, a :: as, n, x, h => by
    rcases getD_set_cases h with ⟨rfl, rfl⟩ | h
    · exact Or.inl ⟨p, a, by simp, rfl, rfl⟩
    · rcases arrs_cases h with ⟨q, b, h1, h2, h3⟩ | h
      · exact Or.inl ⟨q, b, by rw [List.zip_cons_cons]; exact List.mem_cons_of_mem _ h1, h2, h3⟩
      · exact Or.inr h
theorem cutMs_zip {hs : List (Option Blk)} : ∀ {l : List (Nat × Nat)} {as : List Rows}, cutMs hs l = some as → as.length = l.length ∧ ∀ p a, (p, a) ∈ l.zip as → (∃ v, blkM p.2 a = .arr p.2 0 a ∧ hs.getD p.1 none = some (.arr p.2 v a)) ∨ ∃ t, blkM p.2 a = .obj (.mp t a) ∧ hs.getD p.1 none = some (.obj (.mp t a))
  | [], as, h => by simp [cutMs] at h; subst h; exact ⟨rfl, fun p a hp => by simp at hp⟩
  | q :: l, as, h => by
    simp only [cutMs] at h
    split at h
    · rename_i t v es hn
      rw [cond_eq_ite] at h
      split at h
      · rename_i hb
        rw [Bool.and_eq_true] at hb
        have e := Nat.eq_of_beq_eq_true hb.1
        have hbl := hb.2
        subst e
        rw [Option.map_eq_some_iff] at h
        obtain ⟨l', hl, rfl⟩ := h
        obtain ⟨h1, h2⟩ := cutMs_zip hl
        refine ⟨by simp [h1], fun p b hp => ?_⟩
        rw [List.zip_cons_cons] at hp
        rcases List.mem_cons.1 hp with e | hp
        · injection e with e1 e2; subst e1; subst e2; exact Or.inl ⟨v, by unfold blkM; rw [hbl]; rfl, hn⟩
        · exact h2 p b hp
      · cases h
    · rename_i t es hn
      rw [cond_eq_ite] at h
      split at h
      · rename_i hb
        have e := Nat.eq_of_beq_eq_true hb
        rw [Option.map_eq_some_iff] at h
        obtain ⟨l', hl, rfl⟩ := h
        obtain ⟨h1, h2⟩ := cutMs_zip hl
        refine ⟨by simp [h1], fun p b hp => ?_⟩
        rw [List.zip_cons_cons] at hp
        rcases List.mem_cons.1 hp with e' | hp
        · injection e' with e1 e2; subst e1; subst e2
          refine Or.inr ⟨t, ?_, hn⟩
          unfold blkM
          rw [← e, cond_eq_ite, if_neg (by simp [Nat.blt_eq]), Nat.add_sub_cancel_left]
        · exact h2 p b hp
      · cases h
    · cases h
theorem mem_arefsOf {t n : Nat} : ∀ {l : List Sh}, Sh.aref t n ∈ l → (t, n) ∈ arefsOf l
  | [], h => by cases h
  | p :: l, h => by
    rcases List.mem_cons.1 h with e | h
    · subst e; exact List.mem_cons_self ..
    · have := mem_arefsOf h
      cases p with
      | aref t' n' => exact List.mem_cons_of_mem _ this
      | _ => exact this
theorem mem_mrefsOf {n : Nat} : ∀ {l : List Sh}, Sh.mref n ∈ l → n ∈ mrefsOf l
  | [], h => by cases h
  | p :: l, h => by
    rcases List.mem_cons.1 h with e | h
    · subst e; exact List.mem_cons_self ..
    · have := mem_mrefsOf h
      cases p with
      | mref n' => exact List.mem_cons_of_mem _ this
      | _ => exact this
theorem cutTs_zip {s : St} : ∀ {l : List (Nat × Sh)} {as : List At}, cutTs P s l = some as → as.length = l.length ∧ ∀ p a, (p, a) ∈ l.zip as → cutV P s.hs p.2 (getV s.ts p.1) = some a
  | [], as, h => by simp [cutTs] at h; subst h; exact ⟨rfl, fun p a hp => by simp at hp⟩
  | q :: l, as, h => by
    simp only [cutTs] at h
    rw [Option.bind_eq_some_iff] at h
    obtain ⟨a, ha, h⟩ := h
    rw [Option.map_eq_some_iff] at h
    obtain ⟨l', hl, rfl⟩ := h
    obtain ⟨h1, h2⟩ := cutTs_zip hl
    refine ⟨by simp [h1], fun p b hp => ?_⟩
    rw [List.zip_cons_cons] at hp
    rcases List.mem_cons.1 hp with e | hp
    · injection e with e1 e2; subst e1; subst e2; exact ha
    · exact h2 p b hp
theorem cutCs_fill {E E' : En} (hw : E'.w = E.w) (hF : E'.F = E.F) (hN : E'.N = E.N) : ∀ {l : List Sh} {xs : List V} {as : List At} {vs : Nat → Value}, cutCs P E.hs l xs = some as → (∀ p, p ∈ l → ShOk E E' p) → (∀ (j : Nat) (x : V), xs[j]? = some x → Rep P E (vs j) x) →
    (fillCs P l as).length = xs.length ∧ ∀ (j : Nat) (y : V), (fillCs P l as)[j]? = some y → Rep P E' (vs j) y
  | [], [], as, vs, h, _, _ => by simp [cutCs] at h; subst h; exact ⟨rfl, fun j y hj => by simp [fillCs] at hj⟩
  | p :: l, x :: xs, as, vs, h, hok, hv => by
    simp only [cutCs] at h
    rw [Option.bind_eq_some_iff] at h
    obtain ⟨a, ha, h⟩ := h
    rw [Option.map_eq_some_iff] at h
    obtain ⟨l', hl, rfl⟩ := h
    obtain ⟨h1, h2⟩ := cutCs_fill hw hF hN (vs := fun j => vs (j + 1)) hl (fun q hq => hok q (List.mem_cons_of_mem _ hq)) (fun j x hj => hv (j + 1) x (by simpa using hj))
    refine ⟨by simp [fillCs, h1], fun j y hj => ?_⟩
    cases j with
    | zero => simp [fillCs] at hj; subst hj; exact cutV_sound hw hF hN (hv 0 x rfl) ha (hok p (List.mem_cons_self ..))
    | succ j => exact h2 j y (by simpa [fillCs] using hj)
  | [], _ :: _, _, _, h, _, _ => by simp [cutCs] at h
  | _ :: _, [], _, _, h, _, _ => by simp [cutCs] at h
theorem cutCs_len {hs : List (Option Blk)} : ∀ {l : List Sh} {xs : List V} {as : List At}, cutCs P hs l xs = some as → (fillCs P l as).length = xs.length
  | [], [], as, h => by simp [cutCs] at h; subst h; rfl
  | p :: l, x :: xs, as, h => by
    simp only [cutCs] at h
    rw [Option.bind_eq_some_iff] at h
    obtain ⟨a, ha, h⟩ := h
    rw [Option.map_eq_some_iff] at h
    obtain ⟨l', hl, rfl⟩ := h
    simp [fillCs, cutCs_len hl]
  | [], _ :: _, _, h => by simp [cutCs] at h
  | _ :: _, [], _, h => by simp [cutCs] at h
theorem cutBs_zip {hs : List (Option Blk)} : ∀ {l : List (Nat × List Sh)} {as : List (List At)}, cutBs P hs l = some as → ∀ p a, (p, a) ∈ l.zip as → ∃ cs, getB hs p.1 = some cs ∧ cutCs P hs p.2 cs = some a
  | [], as, h => fun p a hp => by simp at hp
  | q :: l, as, h => by
    simp only [cutBs] at h
    rw [Option.bind_eq_some_iff] at h
    obtain ⟨cs, hcs, h⟩ := h
    rw [Option.bind_eq_some_iff] at h
    obtain ⟨a, ha, h⟩ := h
    rw [Option.map_eq_some_iff] at h
    obtain ⟨l', hl, rfl⟩ := h
    intro p b hp
    rw [List.zip_cons_cons] at hp
    rcases List.mem_cons.1 hp with e | hp
    · injection e with e1 e2; subst e1; subst e2; exact ⟨cs, hcs, ha⟩
    · exact cutBs_zip hl p b hp
theorem cutRs_zip {hs : List (Option Blk)} : ∀ {l : List (Nat × Nat)} {as : List Row}, cutRs P hs l = some as → ∀ p a, (p, a) ∈ l.zip as → ∃ cs, getB hs p.1 = some cs ∧ normL P (ctsOf P p.2) cs = some a
  | [], as, h => fun p a hp => by simp at hp
  | q :: l, as, h => by
    simp only [cutRs] at h
    rw [Option.bind_eq_some_iff] at h
    obtain ⟨cs, hcs, h⟩ := h
    rw [Option.bind_eq_some_iff] at h
    obtain ⟨a, ha, h⟩ := h
    rw [Option.map_eq_some_iff] at h
    obtain ⟨l', hl, rfl⟩ := h
    intro p b hp
    rw [List.zip_cons_cons] at hp
    rcases List.mem_cons.1 hp with e | hp
    · injection e with e1 e2; subst e1; subst e2; exact ⟨cs, hcs, ha⟩
    · exact cutRs_zip hl p b hp
theorem fillTs_spec {ts : List V} : ∀ {l : List (Nat × Sh)} {as : List At}, (fillTs P ts l as).length = ts.length ∧ ∀ t, (∃ (p : Nat × Sh) (a : At), (p, a) ∈ l.zip as ∧ t = p.1 ∧ getV (fillTs P ts l as) t = fillV1 P p.2 a) ∨ getV (fillTs P ts l as) t = getV ts t
  | [], as => ⟨rfl, fun t => Or.inr rfl⟩
  | p :: l, [] => ⟨rfl, fun t => Or.inr rfl⟩
  | p :: l, a :: as => by
    obtain ⟨h1, h2⟩ := fillTs_spec (ts := ts) (l := l) (as := as)
    refine ⟨by simp [fillTs, h1], fun t => ?_⟩
    show (∃ q b, (q, b) ∈ _ ∧ _ ∧ getV ((fillTs P ts l as).set p.1 (fillV1 P p.2 a)) t = _) ∨ getV ((fillTs P ts l as).set p.1 (fillV1 P p.2 a)) t = _
    rw [getV_set]
    split
    · rename_i e; exact Or.inl ⟨p, a, by simp, e.1, rfl⟩
    · rcases h2 t with ⟨q, b, q1, q2, q3⟩ | h
      · exact Or.inl ⟨q, b, by rw [List.zip_cons_cons]; exact List.mem_cons_of_mem _ q1, q2, q3⟩
      · exact Or.inr h
theorem mem_tailsOf {t n : Nat} : ∀ {l : List Sh}, Sh.sl t (some n) ∈ l → n ∈ tailsOf l
  | [], h => by cases h
  | p :: l, h => by
    rcases List.mem_cons.1 h with e | h
    · subst e; exact List.mem_cons_self ..
    · have := mem_tailsOf h
      cases p with
      | sl t' o => cases o with
        | none => exact this
        | some m => exact List.mem_cons_of_mem _ this
      | _ => exact this
theorem mem_ptrsOf {n off : Nat} : ∀ {l : List Sh}, Sh.ptr n off ∈ l → n ∈ ptrsOf l
  | [], h => by cases h
  | p :: l, h => by
    rcases List.mem_cons.1 h with e | h
    · subst e; exact List.mem_cons_self ..
    · have := mem_ptrsOf h
      cases p with
      | ptr n' o => exact List.mem_cons_of_mem _ this
      | _ => exact this
theorem tailsOf_mem {n : Nat} : ∀ {l : List Sh}, n ∈ tailsOf l → ∃ t, Sh.sl t (some n) ∈ l
  | [], h => by cases h
  | p :: l, h => by
    cases p with
    | sl t' o => cases o with
      | none => obtain ⟨t, ht⟩ := tailsOf_mem (l := l) h; exact ⟨t, List.mem_cons_of_mem _ ht⟩
      | some m =>
        rcases List.mem_cons.1 h with rfl | h
        · exact ⟨t', List.mem_cons_self ..⟩
        · obtain ⟨t, ht⟩ := tailsOf_mem (l := l) h; exact ⟨t, List.mem_cons_of_mem _ ht⟩
    | _ => obtain ⟨t, ht⟩ := tailsOf_mem (l := l) h; exact ⟨t, List.mem_cons_of_mem _ ht⟩
theorem cutV_tail {hs : List (Option Blk)} {t n : Nat} {x : V} {a : At} (h : cutV P hs (.sl t (some n)) x = some a) : ∃ v, hs.getD n none = some (.tail v) := by
  cases x with
  | slice t' es k =>
    cases k with
    | own n' v =>
      simp only [cutV] at h
      split at h
      · rename_i v' hn; exact ⟨v', hn⟩
      · cases h
    | _ => simp [cutV] at h
  | _ => simp [cutV] at h
theorem cutCs_tail {hs : List (Option Blk)} {t n : Nat} : ∀ {l : List Sh} {xs : List V} {as : List At}, cutCs P hs l xs = some as → Sh.sl t (some n) ∈ l → ∃ v, hs.getD n none = some (.tail v)
  | [], [], as, h, hm => by cases hm
  | p :: l, x :: xs, as, h, hm => by
    simp only [cutCs] at h
    rw [Option.bind_eq_some_iff] at h
    obtain ⟨a, ha, h⟩ := h
    rw [Option.map_eq_some_iff] at h
    obtain ⟨l', hl, rfl⟩ := h
    rcases List.mem_cons.1 hm with e | hm
    · subst e; exact cutV_tail ha
    · exact cutCs_tail hl hm
  | [], _ :: _, _, h, _ => by simp [cutCs] at h
  | _ :: _, [], _, h, _ => by simp [cutCs] at h
theorem cutBs_mem {hs : List (Option Blk)} : ∀ {l : List (Nat × List Sh)} {as : List (List At)}, cutBs P hs l = some as → ∀ p, p ∈ l → ∃ cs a, getB hs p.1 = some cs ∧ cutCs P hs p.2 cs = some a
  | [], as, h => fun p hp => by cases hp
  | q :: l, as, h => by
    simp only [cutBs] at h
    rw [Option.bind_eq_some_iff] at h
    obtain ⟨cs, hcs, h⟩ := h
    rw [Option.bind_eq_some_iff] at h
    obtain ⟨a, ha, h⟩ := h
    rw [Option.map_eq_some_iff] at h
    obtain ⟨l', hl, rfl⟩ := h
    intro p hp
    rcases List.mem_cons.1 hp with rfl | hp
    · exact ⟨cs, a, hcs, ha⟩
    · exact cutBs_mem hl p hp
theorem cutTs_mem {s : St} : ∀ {l : List (Nat × Sh)} {as : List At}, cutTs P s l = some as → ∀ p, p ∈ l → ∃ a, cutV P s.hs p.2 (getV s.ts p.1) = some a
  | [], as, h => fun p hp => by cases hp
  | q :: l, as, h => by
    simp only [cutTs] at h
    rw [Option.bind_eq_some_iff] at h
    obtain ⟨a, ha, h⟩ := h
    rw [Option.map_eq_some_iff] at h
    obtain ⟨l', hl, rfl⟩ := h
    intro p hp
    rcases List.mem_cons.1 hp with rfl | hp
    · exact ⟨a, ha⟩
    · exact cutTs_mem hl p hp
/-- A state, less known: as its template says. -/
theorem cutS_sound {w0 : World} {F0 : Fz} {E : En} {tp : Tpl} {s : St} {d : Dt} {a : Act} (hI : Inv P w0 F0 E) (hf : FS P E a s.ts) (hh : E.hs = s.hs) (hc : cutS P tp s = some d) :
    ∃ E', Inv P w0 F0 E' ∧ FS P E' a (fillS P tp d).ts ∧ E'.hs = (fillS P tp d).hs ∧ E'.w = E.w := by
  unfold cutS at hc
  rw [Option.bind_eq_some_iff] at hc
  obtain ⟨s1, h1, hc⟩ := hc
  obtain ⟨E1, hI1, hf1, hh1, hw1⟩ := adsV_sound hI hf hh h1
  rw [Option.bind_eq_some_iff] at hc
  obtain ⟨da, h2, hc⟩ := hc
  rw [Option.bind_eq_some_iff] at hc
  obtain ⟨db, h3, hc⟩ := hc
  rw [Option.bind_eq_some_iff] at hc
  obtain ⟨dr, h4, hc⟩ := hc
  rw [Option.bind_eq_some_iff] at hc
  obtain ⟨dm, h5, hc⟩ := hc
  rw [cond_eq_ite] at hc
  split at hc
  · rename_i hb
    injection hc with hc; subst hc
    simp only [Bool.and_eq_true] at hb
    obtain ⟨⟨⟨⟨b1, b2⟩, b3⟩, b4⟩, b5⟩ := hb
    have b1 := Nat.eq_of_beq_eq_true b1
    rw [← hh1] at h3 h4 h5
    have h2' : cutTs P ⟨s1.ts, E1.hs⟩ tp.tmps = some da := by rw [hh1]; exact h2
    let hs' := (fillS P tp ⟨da, db, dr, dm⟩).hs
    let E' : En := ⟨E1.w, E1.F, E1.N, hs'⟩
    have harr : ∀ n t es, hs'.getD n none = some (.arr t 0 es) → ∃ v, E1.hs.getD n none = some (.arr t v es) := by
      intro n t es hn
      rcases arrs_cases hn with ⟨p, r, q1, q2, q3⟩ | hx
      · rcases (cutMs_zip h5).2 p r q1 with ⟨v, k1, hv⟩ | ⟨t', k1, hv⟩
        · rw [k1] at q3
          injection q3 with e1 _ e3
          exact ⟨v, by rw [q2, e1, e3]; exact hv⟩
        · rw [k1] at q3; cases q3
      · rcases rows_cases hx with ⟨_, _, _, _, q3⟩ | hx
        · cases q3
        · rcases boxes_cases hx with ⟨_, _, _, _, q3⟩ | hx
          · cases q3
          · rcases tails_cases hx with ⟨_, q3⟩ | hx
            · cases q3
            · rw [getD_replicate] at hx; cases hx
    have hok : ∀ sh, sh ∈ tp.shs → ShOk E1 E' sh := by
      intro sh hsh
      cases sh with
      | sl t o => cases o with
        | none => trivial
        | some n =>
          have := List.all_eq_true.1 b2 n (mem_tailsOf hsh)
          unfold isTail at this
          show hs'.getD n none = _
          split at this
          · rename_i e; exact e
          · cases this
      | ptr n off =>
        have := List.all_eq_true.1 b3 n (mem_ptrsOf hsh)
        unfold isBox at this
        show ∃ cs, hs'.getD n none = _
        split at this
        · rename_i cs e; exact ⟨cs, e⟩
        · cases this
      | aref t n =>
        have := List.all_eq_true.1 b4 (t, n) (mem_arefsOf hsh)
        unfold isArr at this
        split at this
        · rename_i t' es e
          have e2 := Nat.eq_of_beq_eq_true this
          simp only [] at e2
          subst e2
          obtain ⟨v, hv⟩ := harr n _ es e
          exact ⟨v, es, es, hv, e, rfl⟩
        · cases this
      | mref n =>
        have := List.all_eq_true.1 b5 n (mem_mrefsOf hsh)
        unfold isObj at this
        show ∃ q, hs'.getD n none = _
        split at this
        · rename_i q e; exact ⟨q, e⟩
        · cases this
      | _ => trivial
    obtain ⟨z1, z2⟩ := cutTs_zip h2'
    -- the slots
    have slot : ∀ n x, hs'.getD n none = some x → (∃ cs cs', x = .box cs' ∧ E1.hs.getD n none = some (.box cs) ∧ cs'.length = cs.length ∧ ∀ vs : Nat → Value, (∀ (j : Nat) (y : V), cs[j]? = some y → Rep P E1 (vs j) y) → ∀ (j : Nat) (y : V), cs'[j]? = some y → Rep P E' (vs j) y) ∨
        (x = .tail 0 ∧ ∃ v, E1.hs.getD n none = some (.tail v)) ∨ (∃ t v es, x = .arr t 0 es ∧ E1.hs.getD n none = some (.arr t v es)) ∨ ∃ t es, x = .obj (.mp t es) ∧ E1.hs.getD n none = some (.obj (.mp t es)) := by
      intro n x hx
      rcases arrs_cases hx with ⟨p, r, q1, q2, rfl⟩ | hx
      · right; right
        rcases (cutMs_zip h5).2 p r q1 with ⟨v, k1, hv⟩ | ⟨t', k1, hv⟩
        · exact Or.inl ⟨p.2, v, r, k1, by rw [q2]; exact hv⟩
        · exact Or.inr ⟨_, _, k1, by rw [q2]; exact hv⟩
      rcases rows_cases hx with ⟨p, r, q1, q2, rfl⟩ | hx
      · left
        obtain ⟨cs, c1, c2⟩ := cutRs_zip h4 p r q1
        have := normL_eta c2
        rw [q2]
        obtain ⟨n1, n2, n3, n4⟩ := normL_spec (P := P) (E := E1) c2
        refine ⟨cs, _, rfl, getB_box c1, by rw [this.1, n1, n2], fun vs hv j y hj => ?_⟩
        rw [this.1] at hj
        have hr := n4 vs hv j y hj
        rw [← this.1] at hj
        exact (hr.frozen (etaL_frz r _ 0 j y hj)).mono (E0_le (E := E1) (E' := E') rfl rfl)
      · rcases boxes_cases hx with ⟨p, as, q1, q2, rfl⟩ | hx
        · left
          obtain ⟨cs, c1, c2⟩ := cutBs_zip h3 p as q1
          rw [q2]
          have hmem : ∀ q, q ∈ p.2 → ShOk E1 E' q := fun q hq => hok q (List.mem_append.2 (Or.inr (List.mem_flatMap.2 ⟨p, (List.of_mem_zip q1).1, hq⟩)))
          exact ⟨cs, _, rfl, getB_box c1, cutCs_len c2, fun vs hv => (cutCs_fill (E := E1) (E' := E') rfl rfl rfl c2 hmem hv).2⟩
        · rcases tails_cases hx with ⟨q1, rfl⟩ | hx
          · right; left
            refine ⟨rfl, ?_⟩
            obtain ⟨t, ht⟩ := tailsOf_mem q1
            rcases List.mem_append.1 ht with ht | ht
            · rw [List.mem_map] at ht
              obtain ⟨p, p1, p2⟩ := ht
              obtain ⟨a', ha'⟩ := cutTs_mem h2' p p1
              rw [p2] at ha'
              exact cutV_tail ha'
            · rw [List.mem_flatMap] at ht
              obtain ⟨p, p1, p2⟩ := ht
              obtain ⟨cs, as, c1, c2⟩ := cutBs_mem h3 p p1
              exact cutCs_tail c2 p2
          · rw [getD_replicate] at hx; cases hx
    refine ⟨E', ⟨hI1.below, hI1.keep, hI1.Fnew, hI1.Flt, fun n cs hn => ?_, fun n v hn => ?_, fun n t v es hn => ?_, fun n q hn => ?_, fun n m x y b hn hm e1 e2 => ?_, hI.glob⟩, ⟨hf1.defers, ?_, fun t => ?_⟩, rfl, hw1⟩
    · rcases slot n _ hn with ⟨cs0, cs', e, k1, k2, k3⟩ | ⟨e, _⟩ | ⟨_, _, _, e, _⟩ | ⟨_, _, e, _⟩
      · injection e with e; subst e
        obtain ⟨b, arr, t, g1, g2, g3, g4, g5, g6⟩ := hI1.box n cs0 k1
        exact ⟨b, arr, t, g1, g2, g3, by rw [g4, k2], k3 _ g5, g6⟩
      · cases e
      · cases e
      · cases e
    · rcases slot n _ hn with ⟨cs0, cs', e, k1, k2, k3⟩ | ⟨e, v', k⟩ | ⟨_, _, _, e, _⟩ | ⟨_, _, e, _⟩
      · cases e
      · exact hI1.tail n v' k
      · cases e
      · cases e
    · rcases slot n _ hn with ⟨cs0, cs', e, k1, k2, k3⟩ | ⟨e, v', k⟩ | ⟨t', v', es', e, k⟩ | ⟨_, _, e, _⟩
      · cases e
      · cases e
      · injection e with e1 e2 e3; subst e1; subst e2; subst e3
        obtain ⟨a, cap, sz, g1, g2, g3, g4, g5, g6⟩ := hI1.arr n t v' es k
        refine ⟨a, cap, sz, g1, g2, g3, g4, g5, fun hc => ?_⟩
        obtain ⟨b, arr, ty, p1, p2, p3, p4, p5, p6⟩ := g6 hc
        refine ⟨b, arr, ty, p1, p2, p3, p4, p5, fun i r j x hi hj => ?_⟩
        have hf : Frz x := by
          obtain ⟨_, he⟩ := g5 i r hi
          rw [← he] at hj
          exact etaL_frz r _ 0 j x hj
        exact ((p6 i r j x hi hj).frozen hf).mono (E0_le (E := E1) (E' := E') rfl rfl)
      · cases e
    · rcases slot n _ hn with ⟨cs0, cs', e, k1, k2, k3⟩ | ⟨e, v', k⟩ | ⟨t', v', es', e, k⟩ | ⟨tq, eq, e, k⟩
      · cases e
      · cases e
      · cases e
      · injection e with e; subst e
        obtain ⟨b, o, p1, p2, p3, p4, p5⟩ := hI1.obj n _ k
        exact ⟨b, o, p1, p2, p3, p4.frozen.mono (E0_le (E := E1) (E' := E') rfl rfl), p5⟩
    · have old : ∀ k z, hs'.getD k none = some z → ∃ z', E1.hs.getD k none = some z' ∧ ∀ q, (E1.N k).own z = some q → (E1.N k).own z' = some q := by
        intro k z hz
        rcases slot k z hz with ⟨cs0, cs', rfl, k1, _, _⟩ | ⟨rfl, v', k1⟩ | ⟨t', v', es', rfl, k1⟩ | ⟨tq, eq, rfl, k1⟩
        · refine ⟨_, k1, fun q hq => ?_⟩
          unfold Loc.own at hq ⊢
          cases hN : E1.N k <;> rw [hN] at hq <;> first | exact hq | cases hq
        · refine ⟨_, k1, fun q hq => ?_⟩
          unfold Loc.own at hq ⊢
          cases hN : E1.N k with
          | blk b => rw [hN] at hq; cases hq
          | tail a len cap sz => rw [hN] at hq; cases a <;> exact hq
          | arr a len cap sz => rw [hN] at hq; cases hq
        · refine ⟨_, k1, fun q hq => ?_⟩
          unfold Loc.own at hq ⊢
          cases hN : E1.N k with
          | blk b => rw [hN] at hq; cases hq
          | tail a len cap sz => rw [hN] at hq; cases hq
          | arr a len cap sz => rw [hN] at hq; cases a <;> exact hq
        · exact ⟨_, k1, fun q hq => hq⟩
      obtain ⟨x', x1, x2⟩ := old n x hn
      obtain ⟨y', y1, y2⟩ := old m y hm
      exact hI1.disj n m x' y' b x1 y1 (x2 b e1) (y2 b e2)
    · show _ = (fillTs P (List.replicate tp.n .dead) tp.tmps da).length
      rw [(fillTs_spec (P := P)).1, List.length_replicate, hf1.size, b1]
    · show Rep P E' _ (getV (fillTs P (List.replicate tp.n .dead) tp.tmps da) t)
      rcases (fillTs_spec (P := P) (ts := List.replicate tp.n .dead) (l := tp.tmps) (as := da)).2 t with ⟨p, a', q1, rfl, q3⟩ | h
      · rw [q3]
        exact cutV_sound (E := E1) (E' := E') rfl rfl rfl (hf1.vals p.1) (z2 p a' q1) (hok p.2 (List.mem_append.2 (Or.inl (List.mem_map.2 ⟨p, (List.of_mem_zip q1).1, rfl⟩))))
      · rw [h]
        have : getV (List.replicate tp.n V.dead) t = .dead := by
          unfold getV
          rw [List.getD_eq_getElem?_getD, List.getElem?_replicate]
          split <;> rfl
        rw [this]; exact .dead _
  · cases hc
theorem least {p : Nat → Prop} (h : ∃ n, p n) : ∃ n, p n ∧ ∀ m, p m → n ≤ m := by
  obtain ⟨n, hn⟩ := h
  induction n using Nat.strongRecOn with
  | _ n ih =>
    rcases Classical.em (∃ m, m < n ∧ p m) with ⟨m, h1, h2⟩ | h1
    · exact ih m h1 h2
    · exact ⟨n, hn, fun m hm => Nat.le_of_not_lt (fun hl => h1 ⟨m, hl, hm⟩)⟩
/-- Rounds, one behind the other. -/
theorem wp_loop_n {c : Code} {Q : Exit → Act → World → Prop} (I : Nat → Act → World → Prop) (zero : ∀ a w, ¬ I 0 a w) (round : ∀ n a w, I (n + 1) a w → c.wp P (Exit.then (I n) Q) a w) {n : Nat} {a : Act} {w : World} (h : I n a w) : (Code.loop c).wp P Q a w := by
  classical
  refine wp_loop (P := P) (Q := Q) (fun a w => ∃ n, I n a w) (fun a w => if h : ∃ n, I n a w then Classical.choose (least h) else 0) ⟨n, h⟩ ?_
  intro a w hI
  have h1 := (Classical.choose_spec (least hI)).1
  cases hn : Classical.choose (least hI) with
  | zero => rw [hn] at h1; exact absurd h1 (zero a w)
  | succ m =>
    rw [hn] at h1
    refine wp_mono (round m a w h1) ?_
    intro e a' w' he
    cases e with
    | normal =>
      have he' : I m a' w' := he
      refine ⟨⟨m, he'⟩, ?_⟩
      show (if h : ∃ n, I n a' w' then Classical.choose (least h) else 0) < (if h : ∃ n, I n a w then Classical.choose (least h) else 0)
      rw [dif_pos hI, dif_pos ⟨m, he'⟩, hn]
      exact Nat.lt_succ_of_le ((Classical.choose_spec (least ⟨m, he'⟩)).2 m he')
    | _ => exact he
theorem T.eval_map.{u, v} {α : Type u} {β : Type v} (f : α → β) (t : T.{u} α) {b : β} (h : (mapT f t).eval = some b) : ∃ a, t.eval = some a ∧ f a = b := by
  obtain ⟨a, h1, h2⟩ := T.eval_bind _ _ h
  simp [T.eval] at h2
  exact ⟨a, h1, h2⟩
theorem T.map_eval.{u, v} {α : Type u} {β : Type v} (f : α → β) (t : T.{u} α) {a : α} (h : t.eval = some a) : (mapT f t).eval = some (f a) := by
  unfold mapT
  induction t with
  | ret a' => simp [T.eval] at h; subst h; rfl
  | fail => cases h
  | test c x y hx hy => cases c with
    | true => exact hx h
    | false => exact hy h
  | bnd o d g ih => cases o with
    | none => cases h
    | some r => exact ih r h
  | cas o g k ih1 ih2 => cases o with
    | none => simp [T.eval] at h
    | some r => cases r with
      | inl r =>
        have := ih1 r (by simpa [T.eval] using h)
        simpa [T.bind, T.eval] using this
      | inr r =>
        have := ih2 r (by simpa [T.eval] using h)
        simpa [T.bind, T.eval] using this
  | opt c o d g ih => cases c with
    | true => cases o with
      | none => cases h
      | some r => exact ih r h
    | false => exact ih d h
/-- A loop: its rounds as printed, by any number. -/
theorem loop_sound {C : Cx} (hC : CxOk C) {S : Subs} {c : Code} (hl : Loops (LoopOk C.P S) c) {lt : LoopT} {A R : Type} {fA : A → Dt} {fR : R → X × Dt} {step : A → T (A ⊕ R)}
    (hstep : ∀ a, roundV C S lt c (fA a) = mapT (fun r => match r with | .inl a => .inl (fA a) | .inr r => .inr (fR r)) (step a)) (hx : ∀ r, ∃ tp, lt.exits (fR r).1 = some tp) :
    ∀ {k : Nat} {a : A} {r : R}, iter step k a = some r → ∀ w0 F0 tp, lt.exits (fR r).1 = some tp → Goes C.P w0 F0 (.loop c) (fillS C.P lt.head (fA a)) (fR r).1 (fillS C.P tp (fR r).2) := by
  intro k a r hk w0 F0 tp htp E act hI hf hh
  refine wp_loop_n (fun n act w => ∃ E a, iter step n a = some r ∧ E.w = w ∧ Inv C.P w0 F0 E ∧ FS C.P E act (fillS C.P lt.head (fA a)).ts ∧ E.hs = (fillS C.P lt.head (fA a)).hs) ?_ ?_ (n := k) ⟨E, a, hk, rfl, hI, hf, hh⟩
  · rintro act w ⟨E, a, h, _⟩; cases h
  · rintro n act w ⟨E, a, h, rfl, hI, hf, hh⟩
    have h' : ((step a).eval.bind fun | .inl b => iter step n b | .inr r => some r) = some r := h
    rw [Option.bind_eq_some_iff] at h'
    obtain ⟨q, hq, h'⟩ := h'
    have hr := T.map_eval (fun r => match r with | .inl a => Sum.inl (fA a) | .inr r => Sum.inr (fR r)) (step a) hq
    rw [← hstep a] at hr
    obtain ⟨⟨x, s1⟩, c1, c2⟩ := T.eval_bind _ _ hr
    refine wp_mono (codeV_sound hC hl c1 E act hI hf hh) ?_
    rintro e a' w' ⟨E', rfl, rfl, k1, k2, k3⟩
    have away : x ≠ .normal → ∃ tp', lt.exits x = some tp' ∧ ∃ d, cutS C.P tp' s1 = some d ∧ q.elim (fun a => Sum.inl (fA a)) (fun r => Sum.inr (fR r)) = (Sum.inr (x, d) : Dt ⊕ (X × Dt)) := by
      intro hne
      cases hop : lt.exits x with
      | none => cases x <;> first | exact absurd rfl hne | (simp [hop, ofOpt, T.eval] at c2)
      | some tp' =>
        refine ⟨tp', rfl, ?_⟩
        cases hcut : cutS C.P tp' s1 with
        | none => cases x <;> first | exact absurd rfl hne | (simp [hop, hcut, ofOpt, T.eval] at c2)
        | some d =>
          refine ⟨d, rfl, ?_⟩
          cases x <;> first | exact absurd rfl hne | (simp [hop, hcut, ofOpt, T.eval] at c2; cases q <;> simp at c2 ⊢ <;> (try exact c2.symm) <;> exact ⟨c2.1.symm, c2.2.symm⟩)
    cases x with
    | normal =>
      simp only [] at c2
      cases hcut : cutS C.P lt.head s1 with
      | none => simp [hcut, ofOpt, T.eval] at c2
      | some d =>
        simp [hcut, ofOpt, T.eval] at c2
        cases q with
        | inr r' => cases c2
        | inl b =>
          simp only [] at c2 h'
          injection c2 with c2
          subst c2
          obtain ⟨E2, g1, g2, g3, g4⟩ := cutS_sound k1 k2 k3 hcut
          exact ⟨E2, b, h', g4, g1, g2, g3⟩
    | exit id =>
      obtain ⟨tp', t1, d, t2, t3⟩ := away (by intro e; cases e)
      cases q with
      | inl b => cases t3
      | inr r' =>
        simp only [] at h'
        injection h' with h'; subst h'
        simp at t3
        rw [t3] at htp ⊢
        simp only [] at htp ⊢
        rw [t1] at htp; injection htp with htp; subst htp
        obtain ⟨E2, g1, g2, g3, g4⟩ := cutS_sound k1 k2 k3 t2
        exact ⟨E2, rfl, g4, g1, g2, g3⟩
    | ret =>
      obtain ⟨tp', t1, d, t2, t3⟩ := away (by intro e; cases e)
      cases q with
      | inl b => cases t3
      | inr r' =>
        simp only [] at h'
        injection h' with h'; subst h'
        simp at t3
        rw [t3] at htp ⊢
        simp only [] at htp ⊢
        rw [t1] at htp; injection htp with htp; subst htp
        obtain ⟨E2, g1, g2, g3, g4⟩ := cutS_sound k1 k2 k3 t2
        exact ⟨E2, rfl, g4, g1, g2, g3⟩
end Go.Proofs.YtolackmpfnndhaaGreatDoor.Ev
