/- Part of a claim: see its row. Conditions: stated at each. -/
import Derived.Test.YthkdpkgkejdcgaaZEQ0
import Derived.Test.YthkdpkgkejdcgaaZEQ3
namespace Go.Proofs.Ythkdpkgkejdcgaa.Q
open Go.RowKit Go.Proofs.YthkdpkgkejdcgaaW.PrintWords Go.Proofs.YthkdpkgkejdcgaaW.PrintLast Go.Proofs.YthkdpkgkejdcgaaW.PrintMore Go.Proofs.Ythkdpkgkejdcgaa.Sh
attribute [local go_sem] max2_int min2_int max_two min_two max_three min_three max_four min_four
set_option linter.unusedVariables false
set_option linter.unusedSimpArgs false
mutual
def value_clone.l0 : Nat → Int → Int → Int → Int → ByteArray → List (S31) → List (S70) → Option (Int × Int × ByteArray × (List (S31)) × (List (S70)))
 | 0, _, _, _, _, _, _, _ => none
 | k + 1, x13, x14, x146000, x146001, x146002, x146003, x146004 => if x14 < x13 then (if 0 ≤ x14 then (if x14 < (x146003.length : Int) then ((value_clone.f k ((rd_T31 x146003 x14).f0) ((rd_T31 x146003 x14).f1) ((rd_T31 x146003 x14).f2) ((rd_T31 x146003 x14).f3) ((rd_T31 x146003 x14).f4)).bind fun bt152 => (value_clone.l0 k x13 (wrap64 (x14 + 1)) x146000 x146001 x146002 (x146003.set (x14 : Int).toNat (⟨bt152.1, bt152.2.1, bt152.2.2.1, bt152.2.2.2.1, bt152.2.2.2.2⟩ : S31)) x146004)) else (none)) else (none)) else ((api_Field.f x146004).bind fun t162 => (value_clone.l1 k (t162.length : Int) 0 x146000 x146001 x146002 x146003 t162))
def value_clone.l1 : Nat → Int → Int → Int → Int → ByteArray → List (S31) → List (S70) → Option (Int × Int × ByteArray × (List (S31)) × (List (S70)))
 | 0, _, _, _, _, _, _, _ => none
 | k + 1, x32, x33, x146000, x146001, x146002, x146003, x146004 => if x33 < x32 then (if 0 ≤ x33 then (if x33 < (x146004.length : Int) then ((value_clone.f k ((rd_T70 x146004 x33).f1.f0) ((rd_T70 x146004 x33).f1.f1) ((rd_T70 x146004 x33).f1.f2) ((rd_T70 x146004 x33).f1.f3) ((rd_T70 x146004 x33).f1.f4)).bind fun bt167 => (value_clone.l1 k x32 (wrap64 (x33 + 1)) x146000 x146001 x146002 x146003 (x146004.set (x33 : Int).toNat (⟨(rd_T70 x146004 x33).f0, (⟨bt167.1, bt167.2.1, bt167.2.2.1, bt167.2.2.2.1, bt167.2.2.2.2⟩ : S31)⟩ : S70)))) else (none)) else (none)) else (some (x146000, x146001, x146002, x146003, x146004))
def value_clone.f : Nat → Int → Int → ByteArray → List (S31) → List (S70) → Option (Int × Int × ByteArray × (List (S31)) × (List (S70)))
 | 0, _, _, _, _, _ => none
 | k + 1, a0_0, a0_1, a0_2, l0_3, l0_4 => (api_Value.f l0_3).bind fun t147 => (value_clone.l0 k (t147.length : Int) 0 a0_0 a0_1 a0_2 t147 l0_4)
end
theorem value_clone.mono_l : ∀ k, (∀ y0 y1 y2 y3 y4, LeO (value_clone.f k y0 y1 y2 y3 y4) (value_clone.f (k + 1) y0 y1 y2 y3 y4)) ∧ (∀ y0 y1 y2 y3 y4 y5 y6, LeO (value_clone.l0 k y0 y1 y2 y3 y4 y5 y6) (value_clone.l0 (k + 1) y0 y1 y2 y3 y4 y5 y6)) ∧ (∀ y0 y1 y2 y3 y4 y5 y6, LeO (value_clone.l1 k y0 y1 y2 y3 y4 y5 y6) (value_clone.l1 (k + 1) y0 y1 y2 y3 y4 y5 y6))
 | 0 => ⟨fun _ _ _ _ _ r h => by simp [value_clone.f] at h, fun _ _ _ _ _ _ _ r h => by simp [value_clone.l0] at h, fun _ _ _ _ _ _ _ r h => by simp [value_clone.l1] at h⟩
 | k + 1 => by
  obtain ⟨ih0, ih1, ih2⟩ := value_clone.mono_l k
  refine ⟨?_, ?_, ?_⟩
  ·intro y0 y1 y2 y3 y4
   unfold value_clone.f
   repeat' first
   | (with_reducible exact ih0 _ _ _ _ _)
   | (with_reducible exact ih1 _ _ _ _ _ _ _)
   | (with_reducible exact ih2 _ _ _ _ _ _ _)
   | (with_reducible exact LeO.refl _)
   | (with_reducible exact LeO.none _)
   | (with_reducible refine LeO.ite ?_ ?_)
   | (with_reducible refine LeO.bind ?_ (fun _ => ?_))
   | exact ih0 _ _ _ _ _
   | exact ih1 _ _ _ _ _ _ _
   | exact ih2 _ _ _ _ _ _ _
   | exact LeO.none _
   | refine LeO.ite ?_ ?_
   | refine LeO.bind ?_ (fun _ => ?_)
  ·intro y0 y1 y2 y3 y4 y5 y6
   unfold value_clone.l0
   repeat' first
   | (with_reducible exact ih0 _ _ _ _ _)
   | (with_reducible exact ih1 _ _ _ _ _ _ _)
   | (with_reducible exact ih2 _ _ _ _ _ _ _)
   | (with_reducible exact LeO.refl _)
   | (with_reducible exact LeO.none _)
   | (with_reducible refine LeO.ite ?_ ?_)
   | (with_reducible refine LeO.bind ?_ (fun _ => ?_))
   | exact ih0 _ _ _ _ _
   | exact ih1 _ _ _ _ _ _ _
   | exact ih2 _ _ _ _ _ _ _
   | exact LeO.none _
   | refine LeO.ite ?_ ?_
   | refine LeO.bind ?_ (fun _ => ?_)
  ·intro y0 y1 y2 y3 y4 y5 y6
   unfold value_clone.l1
   repeat' first
   | (with_reducible exact ih0 _ _ _ _ _)
   | (with_reducible exact ih1 _ _ _ _ _ _ _)
   | (with_reducible exact ih2 _ _ _ _ _ _ _)
   | (with_reducible exact LeO.refl _)
   | (with_reducible exact LeO.none _)
   | (with_reducible refine LeO.ite ?_ ?_)
   | (with_reducible refine LeO.bind ?_ (fun _ => ?_))
   | exact ih0 _ _ _ _ _
   | exact ih1 _ _ _ _ _ _ _
   | exact ih2 _ _ _ _ _ _ _
   | exact LeO.none _
   | refine LeO.ite ?_ ?_
   | refine LeO.bind ?_ (fun _ => ?_)
theorem value_clone.mono : ∀ a0 a1 a2 a3 a4 k, LeO (value_clone.f k a0 a1 a2 a3 a4) (value_clone.f (k + 1) a0 a1 a2 a3 a4) := by
 intro a0 a1 a2 a3 a4 k
 obtain ⟨ih0, ih1, ih2⟩ := value_clone.mono_l k
 exact ih0 a0 a1 a2 a3 a4
def value_clone.T11 : Bool × List (List Nat × List Nat) := (true, [([], []), ([0], [0]), ([], []), ([], []), ([3], [3]), ([4], [4]), ([1, 2, 0, 1, 2, 3, 4, 5], [1, 2]), ([6, 0, 1, 2, 3, 4, 5], [6]), ([7, 5, 5, 0, 1, 2, 3, 4, 5], [5, 7])])
def value_clone.B11 : List Nat := [0, 1, 0, 0, 8, 24, 63, 127, 255]
theorem value_clone.tab11 : rtab .any (opsOf Try.f33 11) = value_clone.T11 := by kernel_rfl
theorem value_clone.bits11 : waitsOk value_clone.T11.2 value_clone.B11 = true := by kernel_rfl
set_option maxHeartbeats 8000000 in
set_option maxRecDepth 100000 in
theorem value_clone.calls (k : Nat) : ∀ (a0_0 : Int) (a0_1 : Int) (a0_2 : ByteArray) (P0_3_ : Nat → Prop) (A0_3 : Option Addr) (c0_3 : Nat) (l0_3 : List (S31)) (P0_4_ : Nat → Prop) (A0_4 : Option Addr) (c0_4 : Nat) (l0_4 : List (S70)) (r1 : Int) (r2 : Int) (r3 : ByteArray) (r4 : List (S31)) (r5 : List (S70)) (w : World) (hs0_3 : Kd.V k31 31 w w.heap.size (fun k_ => P0_3_ k_) (.slice A0_3 l0_3.length c0_3) l0_3) (hs0_4 : Kd.V k70 70 w w.heap.size (fun k_ => P0_4_ k_) (.slice A0_4 l0_4.length c0_4) l0_4) (h : value_clone.f k a0_0 a0_1 a0_2 l0_3 l0_4 = some (r1, r2, r3, r4, r5)),
  Calls Try.prog 33 #[.agg #[.int .i64 a0_0, .int .i64 a0_1, .string a0_2, .slice A0_3 l0_3.length c0_3, .slice A0_4 l0_4.length c0_4]] w fun e w' => ∃ v3_ v4_ : Value, e = .returned (.agg #[.int .i64 r1, .int .i64 r2, .string r3, v3_, v4_]) ∧ Kd.N k31 31 w' w.heap.size (fun k_ => ((P0_3_ k_ ∨ P0_4_ k_) ∨ w.heap.size ≤ k_) ∧ some k_ ≠ (v4_ : Value).ownBlock) v3_ r4 ∧ Kd.N k70 70 w' w.heap.size (fun k_ => ((P0_3_ k_ ∨ P0_4_ k_) ∨ w.heap.size ≤ k_) ∧ some k_ ≠ (v3_ : Value).ownBlock) v4_ r5 ∧ Below w.heap.size w w' := by
 induction k using Nat.strongRecOn with
 | _ k ih =>
 intro a0_0 a0_1 a0_2 P0_3_ A0_3 c0_3 l0_3 P0_4_ A0_4 c0_4 l0_4 r1 r2 r3 r4 r5 w hs0_3 hs0_4 h
 cases k with
 | zero => exact absurd h (by simp [value_clone.f])
 | succ k =>
 simp only [value_clone.f] at h
 have hu31 := Try.underlying31
 have hu70 := Try.underlying70
 have HO0_3 := s_a (show Kd.V k31 31 w w.heap.size (fun k_ => ((P0_3_ k_ ∨ P0_4_ k_) ∨ w.heap.size ≤ k_)) (.slice A0_3 l0_3.length c0_3) l0_3 from Kd.V_mono hs0_3 (fun k_ hk => .inl (.inl hk)))
 have HO0_4 := s_a (show Kd.V k70 70 w w.heap.size (fun k_ => ((P0_3_ k_ ∨ P0_4_ k_) ∨ w.heap.size ≤ k_)) (.slice A0_4 l0_4.length c0_4) l0_4 from Kd.V_mono hs0_4 (fun k_ hk => .inl (.inr hk)))
 have HB := s_a (Below.refl w.heap.size w)
 have H : ((api_Value.f l0_3).bind fun t147 => (value_clone.l0 k (t147.length : Int) 0 a0_0 a0_1 a0_2 t147 l0_4)) = some (r1, r2, r3, r4, r5) := h
 clear h
 replace H := Option.bind_eq_some_iff.mp H
 obtain ⟨t147, A20, H⟩ := H
 replace H : (value_clone.l0 k (t147.length : Int) 0 a0_0 a0_1 a0_2 t147 l0_4) = some (r1, r2, r3, r4, r5) := H
 have A2 := s_a A20
 clear A20
 have H' := s_a H
 clear H
 go_enter Try.func33, Try.ntmps33
 go_wp2_with (first | ((with_reducible refine gate_dst (N := 1) rfl ?_); refine box_event ?hg (N := 1) ?hd (cs := #[.int .i64 a0_0, .int .i64 a0_1, .string a0_2, .slice A0_3 l0_3.length c0_3, .slice A0_4 l0_4.length c0_4]) (t := 31) ?hr ?_; (case hd => rfl); (case hg => rfl); (case hr => first | (go_simp; done) | (go_simp; rfl)); intro gb145 hg w3 hbox hb; have BK145 := s_a (hbox); have GE145 := s_a ((by rw [hg]; exact (below_size (by exact s_b HB.out)) : w.heap.size ≤ gb145)); replace HO0_3 := s_a (Kd.V_below (Kd.V_elderB (by exact s_V (HO0_3.out)) gb145 (Nat.le_of_eq hg.symm)) hb); replace HO0_4 := s_a (Kd.V_below (Kd.V_elderB (by exact s_V (HO0_4.out)) gb145 (Nat.le_of_eq hg.symm)) hb); replace HB := s_a (below_step (by exact s_b HB.out) hb); clear hb hbox hg) | ((with_reducible refine gate_dst (N := 2) rfl ?_); refine box_event ?hg (N := 2) ?hd (cs := #[.int .i64 0, .int .i64 0, .string (⟨#[]⟩ : ByteArray), .slice none 0 0, .slice none 0 0]) (t := 31) ?hr ?_; (case hd => rfl); (case hg => rfl); (case hr => first | (go_simp; done) | (go_simp; rfl)); intro gb146 hg w4 hbox hb; have BK146 := s_a (hbox); have GE146 := s_a ((by rw [hg]; exact (below_size (by exact s_b HB.out)) : w.heap.size ≤ gb146)); have NB145_146 := s_a ((by rw [hg]; exact Nat.ne_of_lt (blk_lt (s_k BK145.out)) : gb145 ≠ gb146)); have NB146_145 := s_a ((by rw [hg]; exact Nat.ne_of_gt (blk_lt (s_k BK145.out)) : gb146 ≠ gb145)); replace HO0_3 := s_a (Kd.V_below (Kd.V_elderB (by exact s_V (HO0_3.out)) gb146 (Nat.le_of_eq hg.symm)) hb); replace HO0_4 := s_a (Kd.V_below (Kd.V_elderB (by exact s_V (HO0_4.out)) gb146 (Nat.le_of_eq hg.symm)) hb); replace BK145 := s_a (blk_below (s_k BK145.out) hb); replace HB := s_a (below_step (by exact s_b HB.out) hb); clear hb hbox hg; have hnb5 := NB145_146.out; have hnc5 := NB146_145.out; obtain ⟨hcz6_0, hcz6_1, hcz6_2, hcz6_3, hcz6_4⟩ := cells31 BK145.out; obtain ⟨hfz6_0, hfz6_1, hfz6_2, hfz6_3, hfz6_4⟩ := frz5 BK145.out) | ((with_reducible refine gate_callee (f := 34) rfl ?_); refine goesL_ (some 9) rfl rfl Try.func34 (by kernel_rfl) rfl #[.slice A0_3 l0_3.length c0_3] rfl (by (try simp only [List.map_toArray, List.map_cons, List.map_nil]); first | done | rfl | (simp only [List.length_drop, List.length_take]; rfl)) ?_; (with_reducible refine (api_Value.calls (fun k_ => ((((P0_3_ k_ ∨ P0_4_ k_) ∨ w.heap.size ≤ k_) ∧ k_ ≠ gb145) ∧ k_ ≠ gb146)) _ _ l0_3 _ _ ?side1 A2.out).mono ?_); (case side1 => exact HO0_3.out); rintro e w7 ⟨v148, rfl, ho0, hb⟩; refine ⟨_, rfl, ?_⟩; have HO149 := s_a (Kd.N_lower (Kd.N_mono (ok' := fun k_ => ((P0_3_ k_ ∨ P0_4_ k_) ∨ w.heap.size ≤ k_) ∧ k_ ≠ gb145 ∧ k_ ≠ gb146) ho0 (fun k_ hk_ => ⟨Or.elim hk_ (fun hs_ => hs_.1.1) (fun hn_ => (.inr (Nat.le_trans (below_size (by exact s_b HB.out)) hn_))), Or.elim hk_ (fun hs_ => hs_.1.2) (fun hn_ => (Kd.freshB (s_k BK145.out) k_ hn_)), Or.elim hk_ (fun hs_ => hs_.2) (fun hn_ => (Kd.freshB (s_k BK146.out) k_ hn_))⟩)) (below_size (by exact s_b HB.out))); replace HO0_4 := s_a (Kd.V_elder' (by exact s_V (HO0_4.out)) (Kd.N_base ho0) hb); replace BK145 := s_a (blk_below (s_k BK145.out) hb); replace BK146 := s_a (blk_below (s_k BK146.out) hb); replace HB := s_a (below_step (by exact s_b HB.out) hb); (try clear hb); (try clear ho0); obtain ⟨Ao8, co8, eo8⟩ := Kd.N_slice HO149.out; subst eo8; obtain ⟨hcz9_0, hcz9_1, hcz9_2, hcz9_3, hcz9_4⟩ := cells31 BK145.out; obtain ⟨hfz9_0, hfz9_1, hfz9_2, hfz9_3, hfz9_4⟩ := frz5 BK145.out))
 go_loopg [14] k (fun kq v14 w' => ∃ (x14_1 : Int) (x146003_1 : List (S31)), v14 = .int .i64 x14_1 ∧ Aside0 (value_clone.l0 kq (t147.length : Int) x14_1 a0_0 a0_1 a0_2 x146003_1 l0_4 = some (r1, r2, r3, r4, r5)) ∧ Aside0 (kq ≤ k) ∧ Aside0 (Kd.N k31 31 w' w.heap.size (fun k_ => ((P0_3_ k_ ∨ P0_4_ k_) ∨ w.heap.size ≤ k_) ∧ k_ ≠ gb145 ∧ k_ ≠ gb146) (.slice Ao8 t147.length co8) x146003_1) ∧ Aside0 (Kd.V k70 70 w' w.heap.size (fun k_ => ((P0_3_ k_ ∨ P0_4_ k_) ∨ w.heap.size ≤ k_) ∧ some k_ ≠ ((.slice Ao8 t147.length co8) : Value).ownBlock ∧ k_ ≠ gb145 ∧ k_ ≠ gb146) (.slice A0_4 l0_4.length c0_4) l0_4) ∧ Aside0 (w'.heap[gb145]? = some (.cells #[.int .i64 a0_0, .int .i64 a0_1, .string a0_2, (.slice Ao8 t147.length co8), (.slice A0_4 l0_4.length c0_4)] 31 (0, 0))) ∧ Aside0 (w'.heap[gb146]? = some (.cells #[.int .i64 0, .int .i64 0, .string (⟨#[]⟩ : ByteArray), (.slice none 0 0), (.slice none 0 0)] 31 (0, 0))) ∧ Aside0 (Below w.heap.size w w'))
 case atStart => exact ⟨(0), (t147), (by first | rfl | (simp; done) | (simp [*]; done)), H', ⟨Nat.le_refl _⟩, ⟨by (with_reducible repeat (first | apply Kd.N_alloc | apply Kd.N_drewN | apply Kd.N_drew)); exact Kd.N_mono (Kd.N_far (p := ⟨gb145, 3, none⟩) (Kd.N_mono HO149.out (fun k_ hk => (⟨hk, hk.2.1⟩ : _ ∧ k_ ≠ gb145))) (fun _ hk => hk.2) (.slice Ao8 t147.length co8)) (fun _ hk => ⟨hk.1.1, ⟨hk.1.2.1, hk.1.2.2⟩⟩)⟩, ⟨by (with_reducible repeat (first | apply Kd.V_alloc | apply Kd.V_drewN | apply Kd.V_drew)); exact Kd.V_mono (Kd.V_far (p := ⟨gb145, 3, none⟩) (Kd.V_mono HO0_4.out (fun k_ hk => (⟨hk, hk.1.1.2⟩ : _ ∧ k_ ≠ gb145))) (fun _ hk => hk.2) (.slice Ao8 t147.length co8)) (fun _ hk => ⟨hk.1.1.1.1, ⟨hk.1.2, ⟨hk.1.1.1.2, hk.1.1.2⟩⟩⟩)⟩, ⟨by (with_reducible repeat (first | refine blk_drewN ?_ _ | refine blk_drew ?_ | refine blk_alloc ?_ _)); refine blk_put (cs := #[.int .i64 a0_0, .int .i64 a0_1, .string a0_2, .slice A0_3 l0_3.length c0_3, .slice A0_4 l0_4.length c0_4]) ?_ 3 _ rfl; (with_reducible repeat (first | refine blk_drewN ?_ _ | refine blk_drew ?_ | refine blk_alloc ?_ _)); exact BK145.out⟩, ⟨by (with_reducible repeat (first | refine blk_drewN ?_ _ | refine blk_drew ?_ | refine blk_alloc ?_ _)); refine blk_far ?_ NB146_145.out _; (with_reducible repeat (first | refine blk_drewN ?_ _ | refine blk_drew ?_ | refine blk_alloc ?_ _)); exact BK146.out⟩, ⟨by repeat (first | (with_reducible first | exact HB.out | apply below_alloc | apply pw_below_drewN | apply below_drew1 | refine below_set ?_ GE145.out | refine below_set ?_ GE146.out) | exact HB.out)⟩⟩
 case round =>
  clear H'
  try clear p2
  try clear c3
  try clear c5
  try clear hcz6_0 hcz6_1 hcz6_2 hcz6_3 hcz6_4
  try clear hcz9_0 hcz9_1 hcz9_2 hcz9_3 hcz9_4
  try clear hfz6_0 hfz6_1 hfz6_2 hfz6_3 hfz6_4
  try clear hfz9_0 hfz9_1 hfz9_2 hfz9_3 hfz9_4
  obtain ⟨x14_1, x146003_1, rfl, HA, HK1, HO_146003, HO_146004, BK145, BK146, HB⟩ := hrel
  have hl146003_1 := (Kd.N_reads' HO_146003.out).1
  rw [hl146003_1] at HO_146003
  (try simp only [hl146003_1])
  (try simp only [hl146003_1] at BK145)
  (try simp only [hl146003_1] at BK146)
  (try simp only [hl146003_1] at HO_146004)
  cases gk with
  | zero => exact absurd HA.out (by simp [value_clone.l0])
  | succ k1 =>
   have H := HA.out
   clear HA
   simp only [value_clone.l0] at H
   by_cases c10 : x14_1 < (t147.length : Int)
   ·rw [if_pos c10] at H
    have c10b0 : decide (x14_1 < (t147.length : Int)) = true := decide_eq_true c10
    clear c10
    (try (have c10h0 := c10b0; simp only [hl146003_1] at c10h0))
    by_cases c11 : 0 ≤ x14_1
    ·rw [if_pos c11] at H
     have c11b0 : decide (0 ≤ x14_1) = true := decide_eq_true c11
     clear c11
     by_cases c12 : x14_1 < (x146003_1.length : Int)
     ·rw [if_pos c12] at H
      have c12b0 : decide (x14_1 < (x146003_1.length : Int)) = true := decide_eq_true c12
      clear c12
      (try (have c12h0 := c12b0; simp only [hl146003_1] at c12h0))
      replace H := Option.bind_eq_some_iff.mp H
      obtain ⟨⟨t152, t153, t154, t155, t158⟩, A130, H⟩ := H
      replace H : (value_clone.l0 k1 (t147.length : Int) (wrap64 (x14_1 + 1)) a0_0 a0_1 a0_2 (x146003_1.set (x14_1 : Int).toNat (⟨t152, t153, t154, t155, t158⟩ : S31)) l0_4) = some (r1, r2, r3, r4, r5) := H
      have A13 := s_a A130
      clear A130
      obtain ⟨y161, hy161⟩ : ∃ y_ : List (S31), y_ = (x146003_1.set (x14_1 : Int).toNat (⟨t152, t153, t154, t155, t158⟩ : S31)) := ⟨_, rfl⟩
      replace H : (value_clone.l0 k1 (t147.length : Int) (wrap64 (x14_1 + 1)) a0_0 a0_1 a0_2 y161 l0_4) = some (r1, r2, r3, r4, r5) := by first | (rw [hy161]; with_reducible exact H) | (have H2_ := (Option.bind_some _ _).symm.trans H; rw [hy161]; with_reducible exact H2_) | (have H2_ := (Option.bind_some _ _).symm.trans H; with_reducible exact H2_) | with_reducible exact H | (rw [hy161]; exact H) | exact H
      have Ny161 := s_a hy161
      clear hy161
      have H' := s_a H
      clear H
      have p150 : 0 ≤ (x14_1 : Int) := of_decide_eq_true (by first | (with_reducible assumption) | assumption)
      have q150 : x14_1 < (x146003_1.length : Int) := of_decide_eq_true (by first | (with_reducible assumption) | assumption)
      obtain ⟨ad150, A150_3, c150_3, A150_4, c150_4, e150, hx150_0, hx150_1, hx150_2, hx150_3, hx150_4, hl150_3, hi150_3, hl150_4, hi150_4⟩ := at_T31 (Kd.N_reads' HO_146003.out).2.2 x14_1 p150 q150
      cases e150
      obtain ⟨ce150, hce150, hMe150, hcc150⟩ := Kd.N_get HO_146003.out z31 x14_1 p150 (by first | exact q150 | exact of_decide_eq_true (by first | (with_reducible assumption) | assumption) | (have e_ := (Kd.N_reads' HO_146003.out).1; omega))
      obtain ⟨ua150_3, uc150_3, ua150_4, uc150_4, rfl, ul150_3, ge150_3, ul150_4, ge150_4⟩ := k31_openF hMe150
      have hv150_3 := hcc150 3 _ rfl
      rw [add_field _ _ 3 (by omega)] at hv150_3
      replace hv150_3 := Option.some.inj (hv150_3.symm.trans hx150_3)
      injection hv150_3 with hva_ hvn_ hvc_
      rw [hva_] at ge150_3
      rw [hvc_] at ul150_3
      have HL150_3 := s_a (show Kd.V k31 31 _ w.heap.size _ _ ((rd_T31 x146003_1 x14_1).f3) from Kd.V_mk ul150_3 ge150_3)
      clear hva_ hvn_ hvc_ ge150_3 ul150_3
      have hv150_4 := hcc150 4 _ rfl
      rw [add_field _ _ 4 (by omega)] at hv150_4
      replace hv150_4 := Option.some.inj (hv150_4.symm.trans hx150_4)
      injection hv150_4 with hva_ hvn_ hvc_
      rw [hva_] at ge150_4
      rw [hvc_] at ul150_4
      have HL150_4 := s_a (show Kd.V k70 70 _ w.heap.size _ _ ((rd_T31 x146003_1 x14_1).f4) from Kd.V_mk ul150_4 ge150_4)
      clear hva_ hvn_ hvc_ ge150_4 ul150_4
      clear hcc150 hce150
      have HR150_3 := s_a hi150_3
      have HC150_3 := s_a hl150_3
      clear hi150_3 hl150_3
      have HR150_4 := s_a hi150_4
      have HC150_4 := s_a hl150_4
      clear hi150_4 hl150_4
      replace p150 := eq_true p150
      replace q150 := eq_true q150
      try go_wp2_with (first | ((with_reducible refine gate_dst (N := 18) rfl ?_); refine load_at rfl 31 (.tmp 17) rfl _ rfl _ _ (cells_at hx150_0 (s_cc hx150_1 (s_cc hx150_2 (s_cc hx150_3 (s_cc hx150_4 s_cn))))) Try.underlying31 rfl sz31 ?_) | ((with_reducible refine gate_dst (N := 4) rfl ?_); refine box_event ?hg (N := 4) ?hd (cs := #[.int .i64 0, .int .i64 0, .string (⟨#[]⟩ : ByteArray), .slice none 0 0, .slice none 0 0]) (t := 31) ?hr ?_; (case hd => rfl); (case hg => rfl); (case hr => first | (go_simp; done) | (go_simp; rfl)); intro gb151 hg w15 hbox hb; have BK151 := s_a (hbox); have GE151 := s_a ((by rw [hg]; exact (below_size (by exact s_b HB.out)) : w.heap.size ≤ gb151)); have NB145_151 := s_a ((by rw [hg]; exact Nat.ne_of_lt (blk_lt (s_k BK145.out)) : gb145 ≠ gb151)); have NB151_145 := s_a ((by rw [hg]; exact Nat.ne_of_gt (blk_lt (s_k BK145.out)) : gb151 ≠ gb145)); have NB146_151 := s_a ((by rw [hg]; exact Nat.ne_of_lt (blk_lt (s_k BK146.out)) : gb146 ≠ gb151)); have NB151_146 := s_a ((by rw [hg]; exact Nat.ne_of_gt (blk_lt (s_k BK146.out)) : gb151 ≠ gb146)); replace HO_146003 := s_a (Kd.N_below (Kd.N_elderB (by exact s_N (HO_146003.out)) gb151 (Nat.le_of_eq hg.symm)) hb); replace HO_146004 := s_a (Kd.V_below (Kd.V_elderB (by exact s_V (HO_146004.out)) gb151 (Nat.le_of_eq hg.symm)) hb); replace HL150_3 := s_a (Kd.V_below (Kd.V_elderB (by exact s_V (HL150_3.out)) gb151 (Nat.le_of_eq hg.symm)) hb); replace HL150_4 := s_a (Kd.V_below (Kd.V_elderB (by exact s_V (HL150_4.out)) gb151 (Nat.le_of_eq hg.symm)) hb); replace BK145 := s_a (blk_below (s_k BK145.out) hb); replace BK146 := s_a (blk_below (s_k BK146.out) hb); replace HR150_3 := s_a (Kd.C_below (by repeat (first | (with_reducible exact HR150_3.out) | (with_reducible refine Kd.C_alloc ?_ _) | (with_reducible refine Kd.C_drewN ?_ _) | (with_reducible refine Kd.C_drew ?_) | exact HR150_3.out)) hb); replace HR150_4 := s_a (Kd.C_below (by repeat (first | (with_reducible exact HR150_4.out) | (with_reducible refine Kd.C_alloc ?_ _) | (with_reducible refine Kd.C_drewN ?_ _) | (with_reducible refine Kd.C_drew ?_) | exact HR150_4.out)) hb); replace HB := s_a (below_step (by exact s_b HB.out) hb); clear hb hbox hg; have hnb16 := NB151_145.out; have hnc16 := NB145_151.out; have hnb17 := NB151_146.out; have hnc17 := NB146_151.out; obtain ⟨hcz18_0, hcz18_1, hcz18_2, hcz18_3, hcz18_4⟩ := cells31 BK151.out; obtain ⟨hfz18_0, hfz18_1, hfz18_2, hfz18_3, hfz18_4⟩ := frz5 BK151.out) | ((with_reducible refine gate_store (t := 31) (p := 4) rfl ?_); refine store_all rfl 31 (.tmp 4) _ rfl gb151 #[.int .i64 ((rd_T31 x146003_1 x14_1).f0), .int .i64 ((rd_T31 x146003_1 x14_1).f1), .string ((rd_T31 x146003_1 x14_1).f2), .slice A150_3 ((rd_T31 x146003_1 x14_1).f3).length c150_3, .slice A150_4 ((rd_T31 x146003_1 x14_1).f4).length c150_4] rfl rfl 31 _ (s_k BK151.out) sz31 rfl (by first | rfl | simp [Value.oneCell']) rfl ?_; intro w19 hnb hgr; have n0_ := s_a (s_g HB.out hgr GE151.out); have n1_ := s_a (blk_grown (s_k BK145.out) hgr (some_ne NB145_151.out)); have n2_ := s_a (blk_grown (s_k BK146.out) hgr (some_ne NB146_151.out)); clear HB; clear BK145; clear BK146; have HB := n0_; have BK145 := n1_; have BK146 := n2_; clear n0_ n1_ n2_; replace BK151 := s_a (hnb); replace HO_146003 := s_a (Kd.N_grown (s_N HO_146003.out) hgr (fun _ hk_ => some_ne hk_.2)); replace HO_146004 := s_a (Kd.V_grown (s_V HO_146004.out) hgr (fun _ hk_ => some_ne hk_.2)); replace HL150_3 := s_a (Kd.V_grown (s_V HL150_3.out) hgr (fun _ hk_ => some_ne hk_.2)); replace HL150_4 := s_a (Kd.V_grown (s_V HL150_4.out) hgr (fun _ hk_ => some_ne hk_.2)); clear hnb hgr))
      replace HO_146003 := s_a (Kd.N_drew HO_146003.out)
      replace HO_146004 := s_a (Kd.V_drew HO_146004.out)
      replace HL150_3 := s_a (Kd.V_drew HL150_3.out)
      replace HL150_4 := s_a (Kd.V_drew HL150_4.out)
      replace BK145 := s_a (blk_drew BK145.out)
      replace BK146 := s_a (blk_drew BK146.out)
      replace BK151 := s_a (blk_drew BK151.out)
      replace HB := s_a (below_drew1 HB.out)
      refine start_ (n := 7) (S := fun w' => w'.cell? ⟨gb145, 3, none⟩ = some (.slice (some ad150) x146003_1.length co8) ∧ w'.cell? ⟨gb151, 0, none⟩ = some (.int .i64 ((rd_T31 x146003_1 x14_1).f0)) ∧ w'.cell? ⟨gb151, 1, none⟩ = some (.int .i64 ((rd_T31 x146003_1 x14_1).f1)) ∧ w'.cell? ⟨gb151, 2, none⟩ = some (.string ((rd_T31 x146003_1 x14_1).f2)) ∧ w'.cell? ⟨gb151, 3, none⟩ = some (.slice A150_3 ((rd_T31 x146003_1 x14_1).f3).length c150_3) ∧ w'.cell? ⟨gb151, 4, none⟩ = some (.slice A150_4 ((rd_T31 x146003_1 x14_1).f4).length c150_4)) (ds := [6]) (bz 7 0) (by kernel_rfl) rfl rfl ⟨s_x BK145.out 3, s_x BK151.out 0, s_x BK151.out 1, s_x BK151.out 2, s_x BK151.out 3, s_x BK151.out 4⟩ (fun hHeld => ?_)
      generalize w19.drew = w20 at HO_146003 HO_146004 HL150_3 HL150_4 BK145 BK146 BK151 HB hHeld ⊢
      refine q_p 0 (some 19) (bz 7 1) (by kernel_rfl) (v := ?_) ?_ (a' := ?_) ?_ ?_; rotate_left 2
      ·intro w'; go_simp; with_reducible rfl
      ·simp only [Act.put, List.setIfInBounds_toArray, List.set_cons_zero, List.set_cons_succ, i64_w, i32_w]; rfl
      refine q_p 2 (some 21) (bz 7 5) (by kernel_rfl) (v := ?_) ?_ (a' := ?_) ?_ ?_; rotate_left 2
      ·intro w'; go_simp; with_reducible rfl
      ·simp only [Act.put, List.setIfInBounds_toArray, List.set_cons_zero, List.set_cons_succ, i64_w, i32_w]; rfl
      refine q_t 1 (some 20) (bz 7 7) (by kernel_rfl) hHeld (v := ?_) ?_ (a' := ?_) ?_ ?_; rotate_left 2
      ·rintro w' ⟨s0, s1, s2, s3, s4, s5⟩; go_simp; with_reducible rfl
      ·simp only [Act.put, List.setIfInBounds_toArray, List.set_cons_zero, List.set_cons_succ, i64_w, i32_w]; rfl
      refine q_t 3 (some 22) (bz 7 15) (by kernel_rfl) hHeld (v := ?_) ?_ (a' := ?_) ?_ ?_; rotate_left 2
      ·rintro w' ⟨s0, s1, s2, s3, s4, s5⟩; (refine (s_ld rfl 31 (.tmp 4) ?_ _ ?_ _ _ (cells_at s1 (s_cc s2 (s_cc s3 (s_cc s4 (s_cc s5 s_cn))))) Try.underlying31 (by rfl) sz31).trans ?_ <;> first | (with_reducible rfl) | rfl)
      ·simp only [Act.put, List.setIfInBounds_toArray, List.set_cons_zero, List.set_cons_succ, i64_w, i32_w]; rfl
      refine one_ (i := 4) (N := some 23) (bz 7 31) rfl rfl (by kernel_rfl) (by decide) (fun K hK => ?_)
      refine goes_ Try.func33 (by kernel_rfl) rfl #[.agg #[.int .i64 ((rd_T31 x146003_1 x14_1).f0), .int .i64 ((rd_T31 x146003_1 x14_1).f1), .string ((rd_T31 x146003_1 x14_1).f2), .slice A150_3 ((rd_T31 x146003_1 x14_1).f3).length c150_3, .slice A150_4 ((rd_T31 x146003_1 x14_1).f4).length c150_4]] (by rfl) rfl rfl (by (try simp only [List.map_toArray, List.map_cons, List.map_nil]); first | done | rfl | (simp only [List.length_drop, List.length_take]; rfl)) ?_
      with_reducible refine (ih k1 (by have := HK1.out; omega) _ _ _ (fun k_ => (((((P0_3_ k_ ∨ P0_4_ k_) ∨ w.heap.size ≤ k_) ∧ (k_ ≠ gb145 ∧ k_ ≠ gb146)) ∧ some k_ ≠ (.slice (some ad150) x146003_1.length co8 : Value).ownBlock) ∧ k_ ≠ gb151)) _ _ ((rd_T31 x146003_1 x14_1).f3) (fun k_ => (((((P0_3_ k_ ∨ P0_4_ k_) ∨ w.heap.size ≤ k_) ∧ (k_ ≠ gb145 ∧ k_ ≠ gb146)) ∧ some k_ ≠ (.slice (some ad150) x146003_1.length co8 : Value).ownBlock) ∧ k_ ≠ gb151)) _ _ ((rd_T31 x146003_1 x14_1).f4) _ _ _ _ _ _ ?side1 ?side2 A13.out).mono ?_
      (case side1 => exact HL150_3.out)
      (case side2 => exact HL150_4.out)
      rintro e w21 ⟨v156, v159, rfl, ho0, ho1, hb⟩
      refine ⟨_, rfl, ?_⟩
      have n0_ := s_a (Kd.N_lower (Kd.N_mono (ok' := fun k_ => ((P0_3_ k_ ∨ P0_4_ k_) ∨ w.heap.size ≤ k_) ∧ some k_ ≠ (v159 : Value).ownBlock ∧ some k_ ≠ (.slice (some ad150) x146003_1.length co8 : Value).ownBlock ∧ k_ ≠ gb145 ∧ k_ ≠ gb146 ∧ k_ ≠ gb151) ho0 (fun k_ hk_ => ⟨Or.elim hk_.1 (fun hs_ => Or.elim hs_ (fun hs_ => hs_.1.1.1) (fun hs_ => hs_.1.1.1)) (fun hn_ => (.inr (Nat.le_trans (below_size (by exact s_b HB.out)) hn_))), hk_.2, Or.elim hk_.1 (fun hs_ => Or.elim hs_ (fun hs_ => hs_.1.2) (fun hs_ => hs_.1.2)) (fun hn_ => (Kd.fresh' (Kd.N_lt (by exact s_N (HO_146003.out))) k_ hn_)), Or.elim hk_.1 (fun hs_ => Or.elim hs_ (fun hs_ => hs_.1.1.2.1) (fun hs_ => hs_.1.1.2.1)) (fun hn_ => (Kd.freshB (s_k BK145.out) k_ hn_)), Or.elim hk_.1 (fun hs_ => Or.elim hs_ (fun hs_ => hs_.1.1.2.2) (fun hs_ => hs_.1.1.2.2)) (fun hn_ => (Kd.freshB (s_k BK146.out) k_ hn_)), Or.elim hk_.1 (fun hs_ => Or.elim hs_ (fun hs_ => hs_.2) (fun hs_ => hs_.2)) (fun hn_ => (Kd.freshB (s_k BK151.out) k_ hn_))⟩)) (below_size (by exact s_b HB.out)))
      have n1_ := s_a (Kd.N_lower (Kd.N_mono (ok' := fun k_ => ((P0_3_ k_ ∨ P0_4_ k_) ∨ w.heap.size ≤ k_) ∧ some k_ ≠ (v156 : Value).ownBlock ∧ some k_ ≠ (.slice (some ad150) x146003_1.length co8 : Value).ownBlock ∧ k_ ≠ gb145 ∧ k_ ≠ gb146 ∧ k_ ≠ gb151) ho1 (fun k_ hk_ => ⟨Or.elim hk_.1 (fun hs_ => Or.elim hs_ (fun hs_ => hs_.1.1.1) (fun hs_ => hs_.1.1.1)) (fun hn_ => (.inr (Nat.le_trans (below_size (by exact s_b HB.out)) hn_))), hk_.2, Or.elim hk_.1 (fun hs_ => Or.elim hs_ (fun hs_ => hs_.1.2) (fun hs_ => hs_.1.2)) (fun hn_ => (Kd.fresh' (Kd.N_lt (by exact s_N (HO_146003.out))) k_ hn_)), Or.elim hk_.1 (fun hs_ => Or.elim hs_ (fun hs_ => hs_.1.1.2.1) (fun hs_ => hs_.1.1.2.1)) (fun hn_ => (Kd.freshB (s_k BK145.out) k_ hn_)), Or.elim hk_.1 (fun hs_ => Or.elim hs_ (fun hs_ => hs_.1.1.2.2) (fun hs_ => hs_.1.1.2.2)) (fun hn_ => (Kd.freshB (s_k BK146.out) k_ hn_)), Or.elim hk_.1 (fun hs_ => Or.elim hs_ (fun hs_ => hs_.2) (fun hs_ => hs_.2)) (fun hn_ => (Kd.freshB (s_k BK151.out) k_ hn_))⟩)) (below_size (by exact s_b HB.out)))
      have HO157 := n0_
      have HO160 := n1_
      clear n0_ n1_
      replace HO_146003 := s_a (Kd.N_mono (Kd.N_told (Kd.N_told (Kd.N_old (by exact s_N (HO_146003.out)) hb) (Kd.N_base ho0)) (Kd.N_base ho1)) (fun _ h_ => h_.1))
      replace HO_146004 := s_a (Kd.V_mono (Kd.V_told (Kd.V_told (Kd.V_old (by exact s_V (HO_146004.out)) hb) (Kd.N_base ho0)) (Kd.N_base ho1)) (fun _ h_ => h_.1))
      replace BK145 := s_a (blk_below (s_k BK145.out) hb)
      replace BK146 := s_a (blk_below (s_k BK146.out) hb)
      replace BK151 := s_a (blk_below (s_k BK151.out) hb)
      replace HB := s_a (below_step (by exact s_b HB.out) hb)
      (try clear hb)
      (try clear ho0)
      (try clear ho1)
      have p14 : 0 ≤ (x14_1 : Int) := of_decide_eq_true (by first | (with_reducible assumption) | assumption)
      have q14 : (x14_1 : Int) < ((x146003_1.length : Int) : Int) := of_decide_eq_true (by first | (with_reducible assumption) | assumption)
      obtain ⟨go14, co14, eo14, gb14, gl14, cl14, HG14⟩ := Kd.N_form HO_146003.out (by omega)
      (first | cases eo14 | (injection eo14 with ea_ en_ ec_; (first | subst ea_ | (injection ea_ with ea_; subst ea_)); subst ec_; clear en_))
      have GB14 := s_a gb14
      have GG14 := s_a HG14
      clear gb14 gl14 HG14
      (first | simp only [add_plain] at hx150_0 | skip)
      (first | simp only [add_plain] at hx150_1 | skip)
      (first | simp only [add_plain] at hx150_2 | skip)
      (first | simp only [add_plain] at hx150_3 | skip)
      (first | simp only [add_plain] at hx150_4 | skip)
      obtain ⟨ce14, hcl14, hM14, hcc14, hfr14⟩ := Kd.N_elem HO_146003.out z31 (x14_1 : Int) p14 q14
      obtain ⟨ua14_3, uc14_3, ua14_4, uc14_4, rfl, ul14_3, ge14_3, ul14_4, ge14_4⟩ := k31_openF hM14
      have hx14_0 : World.cell? _ ⟨go14, (x14_1 : Int).toNat * 5, none⟩ = some (.int .i64 ((rd_T31 x146003_1 x14_1).f0)) := hcc14 0 _ rfl
      have hx14_1 : World.cell? _ ⟨go14, (x14_1 : Int).toNat * 5 + 1, none⟩ = some (.int .i64 ((rd_T31 x146003_1 x14_1).f1)) := hcc14 1 _ rfl
      have hx14_2 : World.cell? _ ⟨go14, (x14_1 : Int).toNat * 5 + 2, none⟩ = some (.string ((rd_T31 x146003_1 x14_1).f2)) := hcc14 2 _ rfl
      have hx14_3 : World.cell? _ ⟨go14, (x14_1 : Int).toNat * 5 + 3, none⟩ = some (.slice ua14_3 ((rd_T31 x146003_1 x14_1).f3).length uc14_3) := hcc14 3 _ rfl
      have hx14_4 : World.cell? _ ⟨go14, (x14_1 : Int).toNat * 5 + 4, none⟩ = some (.slice ua14_4 ((rd_T31 x146003_1 x14_1).f4).length uc14_4) := hcc14 4 _ rfl
      have hf14_0 : World.frozen? _ ⟨go14, (x14_1 : Int).toNat * 5, none⟩ = false := hfr14 0
      have hf14_1 : World.frozen? _ ⟨go14, (x14_1 : Int).toNat * 5 + 1, none⟩ = false := hfr14 1
      have hf14_2 : World.frozen? _ ⟨go14, (x14_1 : Int).toNat * 5 + 2, none⟩ = false := hfr14 2
      have hf14_3 : World.frozen? _ ⟨go14, (x14_1 : Int).toNat * 5 + 3, none⟩ = false := hfr14 3
      have hf14_4 : World.frozen? _ ⟨go14, (x14_1 : Int).toNat * 5 + 4, none⟩ = false := hfr14 4
      clear hcl14 hcc14 hfr14 hM14
      replace p14 := eq_true p14
      replace q14 := eq_true q14
      obtain ⟨Ao23, co23, eo23⟩ := Kd.N_slice HO157.out
      (first | subst eo23 | (injection eo23 with f1_ f2_ f3_; have f4_ := f1_.symm; have f5_ := f3_.symm; clear f1_ f2_ f3_; subst f4_; subst f5_))
      obtain ⟨Ao24, co24, eo24⟩ := Kd.N_slice HO160.out
      (first | subst eo24 | (injection eo24 with f1_ f2_ f3_; have f4_ := f1_.symm; have f5_ := f3_.symm; clear f1_ f2_ f3_; subst f4_; subst f5_))
      have HX22 := s_a (show Kd.N k31 31 _ w.heap.size (fun k_ => ((P0_3_ k_ ∨ P0_4_ k_) ∨ w.heap.size ≤ k_) ∧ some k_ ≠ (.slice Ao23 t155.length co23 : Value).ownBlock ∧ some k_ ≠ (.slice Ao24 t158.length co24 : Value).ownBlock ∧ k_ ≠ gb145 ∧ k_ ≠ gb146 ∧ k_ ≠ gb151) (.slice (some ⟨go14, 0, none⟩) x146003_1.length co8) x146003_1 from (Kd.N_mono (HO_146003.out) (fun k_ hk => ⟨hk.1.1.1.1, ⟨hk.1.2, ⟨hk.2, ⟨hk.1.1.1.2.1, ⟨hk.1.1.1.2.2, hk.1.1.2⟩⟩⟩⟩⟩)))
      replace HX22 := s_a (show Kd.N k31 31 _ w.heap.size (fun k_ => ((P0_3_ k_ ∨ P0_4_ k_) ∨ w.heap.size ≤ k_) ∧ k_ ≠ gb145 ∧ k_ ≠ gb146 ∧ k_ ≠ gb151) (.slice (some ⟨go14, 0, none⟩) x146003_1.length co8) x146003_1 from Kd.N_mono HX22.out (fun k_ hk => ⟨hk.1, ⟨hk.2.2.2.1, ⟨hk.2.2.2.2.1, hk.2.2.2.2.2⟩⟩⟩))
      obtain ⟨ce22, hcl22, hM22, hcc22, hfr22⟩ := Kd.N_elem HX22.out z31 (x14_1 : Int) (of_decide_eq_true (by first | (with_reducible assumption) | assumption)) (by have h_ : (x14_1 : Int) < ((x146003_1.length : Int) : Int) := of_decide_eq_true (by first | (with_reducible assumption) | assumption); first | exact h_ | (have e_ := (Kd.N_reads' HO_146003.out).1; omega) | simpa using h_)
      obtain ⟨ua22_3, uc22_3, ua22_4, uc22_4, rfl, ul22_3, ge22_3, ul22_4, ge22_4⟩ := k31_openF hM22
      have HP22 := (Kd.N_seg HX22.out (x14_1 : Int) (of_decide_eq_true (by first | (with_reducible assumption) | assumption)) (by have h_ : (x14_1 : Int) < ((x146003_1.length : Int) : Int) := of_decide_eq_true (by first | (with_reducible assumption) | assumption); first | exact h_ | (have e_ := (Kd.N_reads' HO_146003.out).1; omega) | simpa using h_) (seg := [.int .i64 t152, .int .i64 t153, .string t154, .slice Ao23 t155.length co23, .slice Ao24 t158.length co24]) (j := 0) hcl22 hcc22 (show 5 ≤ 5 from by decide) (x' := (⟨t152, t153, t154, t155, t158⟩ : S31)) (k31_mkF _ _ (⟨t152, t153, t154, t155, t158⟩ : S31) (Kd.N_reads' (Kd.N_mono (ok' := (fun k_ => ((fun k_ => ((P0_3_ k_ ∨ P0_4_ k_) ∨ w.heap.size ≤ k_) ∧ k_ ≠ gb145 ∧ k_ ≠ gb146 ∧ k_ ≠ gb151)) k_ ∧ k_ ≠ go14)) (HO157.out) (fun k_ hk => ⟨⟨hk.1, ⟨hk.2.2.2.1, ⟨hk.2.2.2.2.1, hk.2.2.2.2.2⟩⟩⟩, fun e_ => (hk.2.2.1) (by rw [e_]; rfl)⟩))).2.1 (Kd.N_F (Kd.N_mono (ok' := (fun k_ => ((fun k_ => ((P0_3_ k_ ∨ P0_4_ k_) ∨ w.heap.size ≤ k_) ∧ k_ ≠ gb145 ∧ k_ ≠ gb146 ∧ k_ ≠ gb151)) k_ ∧ k_ ≠ go14)) (HO157.out) (fun k_ hk => ⟨⟨hk.1, ⟨hk.2.2.2.1, ⟨hk.2.2.2.2.1, hk.2.2.2.2.2⟩⟩⟩, fun e_ => (hk.2.2.1) (by rw [e_]; rfl)⟩))) (Kd.N_reads' (Kd.N_mono (ok' := (fun k_ => ((fun k_ => ((P0_3_ k_ ∨ P0_4_ k_) ∨ w.heap.size ≤ k_) ∧ k_ ≠ gb145 ∧ k_ ≠ gb146 ∧ k_ ≠ gb151)) k_ ∧ k_ ≠ go14)) (HO160.out) (fun k_ hk => ⟨⟨hk.1, ⟨hk.2.2.2.1, ⟨hk.2.2.2.2.1, hk.2.2.2.2.2⟩⟩⟩, fun e_ => (hk.2.2.1) (by rw [e_]; rfl)⟩))).2.1 (Kd.N_F (Kd.N_mono (ok' := (fun k_ => ((fun k_ => ((P0_3_ k_ ∨ P0_4_ k_) ∨ w.heap.size ≤ k_) ∧ k_ ≠ gb145 ∧ k_ ≠ gb146 ∧ k_ ≠ gb151)) k_ ∧ k_ ≠ go14)) (HO160.out) (fun k_ hk => ⟨⟨hk.1, ⟨hk.2.2.2.1, ⟨hk.2.2.2.2.1, hk.2.2.2.2.2⟩⟩⟩, fun e_ => (hk.2.2.1) (by rw [e_]; rfl)⟩)))) (fun _ hk => hk)).1
      rw [← Ny161.out] at HP22
      have HQ22 := s_a HP22
      clear hcl22 hcc22 hfr22 hM22 HP22
      refine hK.out _ _ ⟨s_x BK145.out 3, s_x BK151.out 0, s_x BK151.out 1, s_x BK151.out 2, s_x BK151.out 3, s_x BK151.out 4⟩ (fun hHeld => ?_)
      clear hK K
      refine norm_ (a' := ?_) ?_ ?_
      rotate_left
      ·show Act.put _ (some 23) _ = _
       simp only [Act.put, List.setIfInBounds_toArray, List.set_cons_zero, List.set_cons_succ, i64_w, i32_w]
       rfl
      refine q_p 5 (some 24) (bz 7 63) (by kernel_rfl) (v := ?_) ?_ (a' := ?_) ?_ ?_; rotate_left 2
      ·intro w'; go_simp; with_reducible rfl
      ·simp only [Act.put, List.setIfInBounds_toArray, List.set_cons_zero, List.set_cons_succ, i64_w, i32_w]; rfl
      refine last_ (i := 6) (N := none) (bz 7 127) rfl rfl (by kernel_rfl) (by decide) (fun K hK => ?_)
      refine skip_ (w1 := ?_) (by rfl) rfl ?_ ?_
      rotate_left
      ·go_simp
       rfl
      refine hK.out _ _ ?_
      clear hK K
      refine done_ (by kernel_rfl) ?_
      try go_wp2
      (try simp only [← hl146003_1])
      go_roundg k1
      case measure => have := HK1.out; omega
      case rel => exact ⟨(wrap64 (x14_1 + 1)), (y161), (by first | rfl | (simp; done) | (simp [*]; done)), H', ⟨by have := HK1.out; omega⟩, ⟨by (try simp only [hl146003_1]); (with_reducible repeat (first | apply Kd.N_alloc | apply Kd.N_drewN | apply Kd.N_drew)); exact Kd.N_mono HQ22.out (fun _ hk => ⟨hk.1, ⟨hk.2.1, hk.2.2.1⟩⟩)⟩, ⟨by (try simp only [hl146003_1]); (with_reducible repeat (first | apply Kd.V_alloc | apply Kd.V_drewN | apply Kd.V_drew)); exact Kd.V_mono (Kd.V_far (p := ⟨go14, (x14_1 : Int).toNat * 5 + 4, none⟩) (Kd.V_far (p := ⟨go14, (x14_1 : Int).toNat * 5 + 3, none⟩) (Kd.V_far (p := ⟨go14, (x14_1 : Int).toNat * 5 + 2, none⟩) (Kd.V_far (p := ⟨go14, (x14_1 : Int).toNat * 5 + 1, none⟩) (Kd.V_far (p := ⟨go14, (x14_1 : Int).toNat * 5, none⟩) (Kd.V_mono HO_146004.out (fun k_ hk => (⟨hk, fun e_ => hk.1.1.1.2.1 (by rw [e_]; rfl)⟩ : _ ∧ k_ ≠ go14))) (fun _ hk => hk.2) (.int .i64 t152)) (fun _ hk => hk.2) (.int .i64 t153)) (fun _ hk => hk.2) (.string t154)) (fun _ hk => hk.2) (.slice Ao23 t155.length co23)) (fun _ hk => hk.2) (.slice Ao24 t158.length co24)) (fun _ hk => ⟨hk.1.1.1.1.1, ⟨hk.1.1.1.1.2.1, ⟨hk.1.1.1.1.2.2.1, hk.1.1.1.1.2.2.2⟩⟩⟩)⟩, ⟨by (try simp only [hl146003_1]); (with_reducible repeat (first | refine blk_drewN ?_ _ | refine blk_drew ?_ | refine blk_alloc ?_ _)); refine blk_far ?_ (by have h_ := Kd.N_away HQ22.out (fun _ hk => hk.2.1); intro e_; exact h_ (by rw [e_]; rfl)) _; (with_reducible repeat (first | refine blk_drewN ?_ _ | refine blk_drew ?_ | refine blk_alloc ?_ _)); refine blk_far ?_ (by have h_ := Kd.N_away HQ22.out (fun _ hk => hk.2.1); intro e_; exact h_ (by rw [e_]; rfl)) _; (with_reducible repeat (first | refine blk_drewN ?_ _ | refine blk_drew ?_ | refine blk_alloc ?_ _)); refine blk_far ?_ (by have h_ := Kd.N_away HQ22.out (fun _ hk => hk.2.1); intro e_; exact h_ (by rw [e_]; rfl)) _; (with_reducible repeat (first | refine blk_drewN ?_ _ | refine blk_drew ?_ | refine blk_alloc ?_ _)); refine blk_far ?_ (by have h_ := Kd.N_away HQ22.out (fun _ hk => hk.2.1); intro e_; exact h_ (by rw [e_]; rfl)) _; (with_reducible repeat (first | refine blk_drewN ?_ _ | refine blk_drew ?_ | refine blk_alloc ?_ _)); refine blk_far ?_ (by have h_ := Kd.N_away HQ22.out (fun _ hk => hk.2.1); intro e_; exact h_ (by rw [e_]; rfl)) _; (with_reducible repeat (first | refine blk_drewN ?_ _ | refine blk_drew ?_ | refine blk_alloc ?_ _)); exact BK145.out⟩, ⟨by (try simp only [hl146003_1]); (with_reducible repeat (first | refine blk_drewN ?_ _ | refine blk_drew ?_ | refine blk_alloc ?_ _)); refine blk_far ?_ (by have h_ := Kd.N_away HQ22.out (fun _ hk => hk.2.2.1); intro e_; exact h_ (by rw [e_]; rfl)) _; (with_reducible repeat (first | refine blk_drewN ?_ _ | refine blk_drew ?_ | refine blk_alloc ?_ _)); refine blk_far ?_ (by have h_ := Kd.N_away HQ22.out (fun _ hk => hk.2.2.1); intro e_; exact h_ (by rw [e_]; rfl)) _; (with_reducible repeat (first | refine blk_drewN ?_ _ | refine blk_drew ?_ | refine blk_alloc ?_ _)); refine blk_far ?_ (by have h_ := Kd.N_away HQ22.out (fun _ hk => hk.2.2.1); intro e_; exact h_ (by rw [e_]; rfl)) _; (with_reducible repeat (first | refine blk_drewN ?_ _ | refine blk_drew ?_ | refine blk_alloc ?_ _)); refine blk_far ?_ (by have h_ := Kd.N_away HQ22.out (fun _ hk => hk.2.2.1); intro e_; exact h_ (by rw [e_]; rfl)) _; (with_reducible repeat (first | refine blk_drewN ?_ _ | refine blk_drew ?_ | refine blk_alloc ?_ _)); refine blk_far ?_ (by have h_ := Kd.N_away HQ22.out (fun _ hk => hk.2.2.1); intro e_; exact h_ (by rw [e_]; rfl)) _; (with_reducible repeat (first | refine blk_drewN ?_ _ | refine blk_drew ?_ | refine blk_alloc ?_ _)); exact BK146.out⟩, ⟨by repeat (first | (with_reducible first | exact HB.out | apply below_alloc | apply pw_below_drewN | apply below_drew1 | refine below_set ?_ GB14.out | refine below_set ?_ GB14.out | refine below_set ?_ GB14.out | refine below_set ?_ GB14.out | refine below_set ?_ GB14.out | refine below_set ?_ GE145.out | refine below_set ?_ GE146.out | refine below_set ?_ GE151.out) | exact HB.out)⟩⟩
     ·rw [if_neg c12] at H
      exact absurd H (by simp)
    ·rw [if_neg c11] at H
     exact absurd H (by simp)
   ·rw [if_neg c10] at H
    have c10b0 : decide (x14_1 < (t147.length : Int)) = false := decide_eq_false c10
    clear c10
    (try (have c10h0 := c10b0; simp only [hl146003_1] at c10h0))
    replace H := Option.bind_eq_some_iff.mp H
    obtain ⟨t162, A250, H⟩ := H
    replace H : (value_clone.l1 k1 (t162.length : Int) 0 a0_0 a0_1 a0_2 x146003_1 t162) = some (r1, r2, r3, r4, r5) := H
    have A25 := s_a A250
    clear A250
    have H' := s_a H
    clear H
    have hnb26 := NB145_146.out
    have hnc26 := NB146_145.out
    obtain ⟨hcz27_0, hcz27_1, hcz27_2, hcz27_3, hcz27_4⟩ := cells31 BK145.out
    obtain ⟨hfz27_0, hfz27_1, hfz27_2, hfz27_3, hfz27_4⟩ := frz5 BK145.out
    go_wp2_with (first | ((with_reducible refine gate_callee (f := 35) rfl ?_); refine goesL_ (some 28) rfl rfl Try.func35 (by kernel_rfl) rfl #[.slice A0_4 l0_4.length c0_4] rfl (by (try simp only [List.map_toArray, List.map_cons, List.map_nil]); first | done | rfl | (simp only [List.length_drop, List.length_take]; rfl)) ?_; (with_reducible refine (api_Field.calls (fun k_ => (((P0_3_ k_ ∨ P0_4_ k_) ∨ w.heap.size ≤ k_) ∧ (some k_ ≠ (.slice Ao8 x146003_1.length co8 : Value).ownBlock ∧ (k_ ≠ gb145 ∧ k_ ≠ gb146)))) _ _ l0_4 _ _ ?side1 A25.out).mono ?_); (case side1 => exact HO_146004.out); rintro e w28 ⟨v163, rfl, ho0, hb⟩; refine ⟨_, rfl, ?_⟩; have HO164 := s_a (Kd.N_lower (Kd.N_mono (ok' := fun k_ => ((P0_3_ k_ ∨ P0_4_ k_) ∨ w.heap.size ≤ k_) ∧ some k_ ≠ (.slice Ao8 x146003_1.length co8 : Value).ownBlock ∧ k_ ≠ gb145 ∧ k_ ≠ gb146) ho0 (fun k_ hk_ => ⟨Or.elim hk_ (fun hs_ => hs_.1) (fun hn_ => (.inr (Nat.le_trans (below_size (by exact s_b HB.out)) hn_))), Or.elim hk_ (fun hs_ => hs_.2.1) (fun hn_ => (Kd.fresh' (Kd.N_lt (by exact s_N (HO_146003.out))) k_ hn_)), Or.elim hk_ (fun hs_ => hs_.2.2.1) (fun hn_ => (Kd.freshB (s_k BK145.out) k_ hn_)), Or.elim hk_ (fun hs_ => hs_.2.2.2) (fun hn_ => (Kd.freshB (s_k BK146.out) k_ hn_))⟩)) (below_size (by exact s_b HB.out))); replace HO_146003 := s_a (Kd.N_elder' (by exact s_N (HO_146003.out)) (Kd.N_base ho0) hb); replace HO_146004 := s_a (Kd.V_elder' (by exact s_V (HO_146004.out)) (Kd.N_base ho0) hb); replace BK145 := s_a (blk_below (s_k BK145.out) hb); replace BK146 := s_a (blk_below (s_k BK146.out) hb); replace HB := s_a (below_step (by exact s_b HB.out) hb); (try clear hb); (try clear ho0); obtain ⟨Ao29, co29, eo29⟩ := Kd.N_slice HO164.out; subst eo29; obtain ⟨hcz30_0, hcz30_1, hcz30_2, hcz30_3, hcz30_4⟩ := cells31 BK145.out; obtain ⟨hfz30_0, hfz30_1, hfz30_2, hfz30_3, hfz30_4⟩ := frz5 BK145.out))
    go_loopg [33] k1 (fun kq v33 w' => ∃ (x33_2 : Int) (x146004_2 : List (S70)), v33 = .int .i64 x33_2 ∧ Aside0 (value_clone.l1 kq (t162.length : Int) x33_2 a0_0 a0_1 a0_2 x146003_1 x146004_2 = some (r1, r2, r3, r4, r5)) ∧ Aside0 (kq ≤ k1) ∧ Aside0 (Kd.N k31 31 w' w.heap.size (fun k_ => ((P0_3_ k_ ∨ P0_4_ k_) ∨ w.heap.size ≤ k_) ∧ some k_ ≠ ((.slice Ao29 t162.length co29) : Value).ownBlock ∧ k_ ≠ gb145 ∧ k_ ≠ gb146) (.slice Ao8 x146003_1.length co8) x146003_1) ∧ Aside0 (Kd.N k70 70 w' w.heap.size (fun k_ => ((P0_3_ k_ ∨ P0_4_ k_) ∨ w.heap.size ≤ k_) ∧ some k_ ≠ ((.slice Ao8 x146003_1.length co8) : Value).ownBlock ∧ k_ ≠ gb145 ∧ k_ ≠ gb146) (.slice Ao29 t162.length co29) x146004_2) ∧ Aside0 (w'.heap[gb145]? = some (.cells #[.int .i64 a0_0, .int .i64 a0_1, .string a0_2, (.slice Ao8 x146003_1.length co8), (.slice Ao29 t162.length co29)] 31 (0, 0))) ∧ Aside0 (w'.heap[gb146]? = some (.cells #[.int .i64 0, .int .i64 0, .string (⟨#[]⟩ : ByteArray), (.slice none 0 0), (.slice none 0 0)] 31 (0, 0))) ∧ Aside0 (Below w.heap.size w w'))
    case atStart => exact ⟨(0), (t162), (by first | rfl | (simp; done) | (simp [*]; done)), H', ⟨Nat.le_refl _⟩, ⟨by (try simp only [hl146003_1]); (with_reducible repeat (first | apply Kd.N_alloc | apply Kd.N_drewN | apply Kd.N_drew)); exact Kd.N_mono (Kd.N_far (p := ⟨gb145, 4, none⟩) (Kd.N_mono HO_146003.out (fun k_ hk => (⟨hk, hk.1.2.1⟩ : _ ∧ k_ ≠ gb145))) (fun _ hk => hk.2) (.slice Ao29 t162.length co29)) (fun _ hk => ⟨hk.1.1.1, ⟨hk.1.2, ⟨hk.1.1.2.1, hk.1.1.2.2⟩⟩⟩)⟩, ⟨by (try simp only [hl146003_1]); (with_reducible repeat (first | apply Kd.N_alloc | apply Kd.N_drewN | apply Kd.N_drew)); exact Kd.N_mono (Kd.N_far (p := ⟨gb145, 4, none⟩) (Kd.N_mono HO164.out (fun k_ hk => (⟨hk, hk.2.2.1⟩ : _ ∧ k_ ≠ gb145))) (fun _ hk => hk.2) (.slice Ao29 t162.length co29)) (fun _ hk => ⟨hk.1.1, ⟨hk.1.2.1, ⟨hk.1.2.2.1, hk.1.2.2.2⟩⟩⟩)⟩, ⟨by (try simp only [hl146003_1]); (with_reducible repeat (first | refine blk_drewN ?_ _ | refine blk_drew ?_ | refine blk_alloc ?_ _)); refine blk_put (cs := #[.int .i64 a0_0, .int .i64 a0_1, .string a0_2, .slice Ao8 x146003_1.length co8, .slice A0_4 l0_4.length c0_4]) ?_ 4 _ rfl; (with_reducible repeat (first | refine blk_drewN ?_ _ | refine blk_drew ?_ | refine blk_alloc ?_ _)); exact BK145.out⟩, ⟨by (try simp only [hl146003_1]); (with_reducible repeat (first | refine blk_drewN ?_ _ | refine blk_drew ?_ | refine blk_alloc ?_ _)); refine blk_far ?_ NB146_145.out _; (with_reducible repeat (first | refine blk_drewN ?_ _ | refine blk_drew ?_ | refine blk_alloc ?_ _)); exact BK146.out⟩, ⟨by repeat (first | (with_reducible first | exact HB.out | apply below_alloc | apply pw_below_drewN | apply below_drew1 | refine below_set ?_ GE145.out | refine below_set ?_ GE146.out) | exact HB.out)⟩⟩
    case round =>
     clear H'
     try clear c1
     try clear p1
     try clear q1
     try clear hx1
     try clear hf1
     try clear c2
     try clear p2
     try clear c3
     try clear c5
     try clear p6
     try clear c10
     try clear c10b0
     try clear c11
     try clear c11b0
     try clear c12
     try clear c12b0
     try clear c14
     try clear p14
     try clear q14
     try clear hx14
     try clear hf14
     try clear c15
     try clear p15
     try clear q15
     try clear hx15
     try clear c16
     try clear c17
     try clear c22
     try clear c26
     try clear hcz18_0 hcz18_1 hcz18_2 hcz18_3 hcz18_4
     try clear hcz27_0 hcz27_1 hcz27_2 hcz27_3 hcz27_4
     try clear hcz30_0 hcz30_1 hcz30_2 hcz30_3 hcz30_4
     try clear hcz6_0 hcz6_1 hcz6_2 hcz6_3 hcz6_4
     try clear hcz9_0 hcz9_1 hcz9_2 hcz9_3 hcz9_4
     try clear hfz18_0 hfz18_1 hfz18_2 hfz18_3 hfz18_4
     try clear hfz27_0 hfz27_1 hfz27_2 hfz27_3 hfz27_4
     try clear hfz30_0 hfz30_1 hfz30_2 hfz30_3 hfz30_4
     try clear hfz6_0 hfz6_1 hfz6_2 hfz6_3 hfz6_4
     try clear hfz9_0 hfz9_1 hfz9_2 hfz9_3 hfz9_4
     try clear hx14_0
     try clear hx14_1
     try clear hx14_2
     try clear hx14_3
     try clear hx14_4
     try clear hx150_0
     try clear hx150_1
     try clear hx150_2
     try clear hx150_3
     try clear hx150_4
     try clear p14
     try clear p150
     try clear p2
     try clear q14
     try clear q150
     obtain ⟨x33_2, x146004_2, rfl, HA, HK2, HO_146003, HO_146004, BK145, BK146, HB⟩ := hrel
     have hl146004_2 := (Kd.N_reads' HO_146004.out).1
     rw [hl146004_2] at HO_146004
     (try simp only [hl146004_2])
     (try simp only [hl146004_2] at BK145)
     (try simp only [hl146004_2] at BK146)
     (try simp only [hl146004_2] at HO_146003)
     cases gk with
     | zero => exact absurd HA.out (by simp [value_clone.l1])
     | succ k2 =>
      have H := HA.out
      clear HA
      simp only [value_clone.l1] at H
      by_cases c31 : x33_2 < (t162.length : Int)
      ·rw [if_pos c31] at H
       have c31b0 : decide (x33_2 < (t162.length : Int)) = true := decide_eq_true c31
       clear c31
       (try (have c31h0 := c31b0; simp only [hl146003_1, hl146004_2] at c31h0))
       by_cases c32 : 0 ≤ x33_2
       ·rw [if_pos c32] at H
        have c32b0 : decide (0 ≤ x33_2) = true := decide_eq_true c32
        clear c32
        by_cases c33 : x33_2 < (x146004_2.length : Int)
        ·rw [if_pos c33] at H
         have c33b0 : decide (x33_2 < (x146004_2.length : Int)) = true := decide_eq_true c33
         clear c33
         (try (have c33h0 := c33b0; simp only [hl146003_1, hl146004_2] at c33h0))
         replace H := Option.bind_eq_some_iff.mp H
         obtain ⟨⟨t167, t168, t169, t170, t173⟩, A340, H⟩ := H
         replace H : (value_clone.l1 k2 (t162.length : Int) (wrap64 (x33_2 + 1)) a0_0 a0_1 a0_2 x146003_1 (x146004_2.set (x33_2 : Int).toNat (⟨(rd_T70 x146004_2 x33_2).f0, (⟨t167, t168, t169, t170, t173⟩ : S31)⟩ : S70))) = some (r1, r2, r3, r4, r5) := H
         have A34 := s_a A340
         clear A340
         obtain ⟨y176, hy176⟩ : ∃ y_ : List (S70), y_ = (x146004_2.set (x33_2 : Int).toNat (⟨(rd_T70 x146004_2 x33_2).f0, (⟨t167, t168, t169, t170, t173⟩ : S31)⟩ : S70)) := ⟨_, rfl⟩
         replace H : (value_clone.l1 k2 (t162.length : Int) (wrap64 (x33_2 + 1)) a0_0 a0_1 a0_2 x146003_1 y176) = some (r1, r2, r3, r4, r5) := by first | (rw [hy176]; with_reducible exact H) | (have H2_ := (Option.bind_some _ _).symm.trans H; rw [hy176]; with_reducible exact H2_) | (have H2_ := (Option.bind_some _ _).symm.trans H; with_reducible exact H2_) | with_reducible exact H | (rw [hy176]; exact H) | exact H
         have Ny176 := s_a hy176
         clear hy176
         have H' := s_a H
         clear H
         have p165 : 0 ≤ (x33_2 : Int) := of_decide_eq_true (by first | (with_reducible assumption) | assumption)
         have q165 : x33_2 < (x146004_2.length : Int) := of_decide_eq_true (by first | (with_reducible assumption) | assumption)
         obtain ⟨ad165, A165_4, c165_4, A165_5, c165_5, e165, hx165_0, hx165_1, hx165_2, hx165_3, hx165_4, hx165_5, hl165_4, hi165_4, hl165_5, hi165_5⟩ := at_T70 (Kd.N_reads' HO_146004.out).2.2 x33_2 p165 q165
         cases e165
         obtain ⟨ce165, hce165, hMe165, hcc165⟩ := Kd.N_get HO_146004.out z70 x33_2 p165 (by first | exact q165 | exact of_decide_eq_true (by first | (with_reducible assumption) | assumption) | (have e_ := (Kd.N_reads' HO_146004.out).1; omega))
         obtain ⟨ua165_4, uc165_4, ua165_5, uc165_5, rfl, ul165_4, ge165_4, ul165_5, ge165_5⟩ := k70_openF hMe165
         have hv165_4 := hcc165 4 _ rfl
         rw [add_field _ _ 4 (by omega)] at hv165_4
         replace hv165_4 := Option.some.inj (hv165_4.symm.trans hx165_4)
         injection hv165_4 with hva_ hvn_ hvc_
         rw [hva_] at ge165_4
         rw [hvc_] at ul165_4
         have HL165_4 := s_a (show Kd.V k31 31 _ w.heap.size _ _ ((rd_T70 x146004_2 x33_2).f1.f3) from Kd.V_mk ul165_4 ge165_4)
         clear hva_ hvn_ hvc_ ge165_4 ul165_4
         have hv165_5 := hcc165 5 _ rfl
         rw [add_field _ _ 5 (by omega)] at hv165_5
         replace hv165_5 := Option.some.inj (hv165_5.symm.trans hx165_5)
         injection hv165_5 with hva_ hvn_ hvc_
         rw [hva_] at ge165_5
         rw [hvc_] at ul165_5
         have HL165_5 := s_a (show Kd.V k70 70 _ w.heap.size _ _ ((rd_T70 x146004_2 x33_2).f1.f4) from Kd.V_mk ul165_5 ge165_5)
         clear hva_ hvn_ hvc_ ge165_5 ul165_5
         clear hcc165 hce165
         have HR165_4 := s_a hi165_4
         have HC165_4 := s_a hl165_4
         clear hi165_4 hl165_4
         have HR165_5 := s_a hi165_5
         have HC165_5 := s_a hl165_5
         clear hi165_5 hl165_5
         replace p165 := eq_true p165
         replace q165 := eq_true q165
         try go_wp2_with (first | ((with_reducible refine gate_dst (N := 37) rfl ?_); refine load_at rfl 70 (.tmp 36) rfl _ rfl _ _ (cells_at hx165_0 (s_cc hx165_1 (s_cc hx165_2 (s_cc hx165_3 (s_cc hx165_4 (s_cc hx165_5 s_cn)))))) Try.underlying70 rfl sz70 ?_) | ((with_reducible refine gate_dst (N := 6) rfl ?_); refine box_event ?hg (N := 6) ?hd (cs := #[.string (⟨#[]⟩ : ByteArray), .int .i64 0, .int .i64 0, .string (⟨#[]⟩ : ByteArray), .slice none 0 0, .slice none 0 0]) (t := 70) ?hr ?_; (case hd => rfl); (case hg => rfl); (case hr => first | (go_simp; done) | (go_simp; rfl)); intro gb166 hg w36 hbox hb; have BK166 := s_a (hbox); have GE166 := s_a ((by rw [hg]; exact (below_size (by exact s_b HB.out)) : w.heap.size ≤ gb166)); have NB145_166 := s_a ((by rw [hg]; exact Nat.ne_of_lt (blk_lt (s_k BK145.out)) : gb145 ≠ gb166)); have NB166_145 := s_a ((by rw [hg]; exact Nat.ne_of_gt (blk_lt (s_k BK145.out)) : gb166 ≠ gb145)); have NB146_166 := s_a ((by rw [hg]; exact Nat.ne_of_lt (blk_lt (s_k BK146.out)) : gb146 ≠ gb166)); have NB166_146 := s_a ((by rw [hg]; exact Nat.ne_of_gt (blk_lt (s_k BK146.out)) : gb166 ≠ gb146)); replace HO_146003 := s_a (Kd.N_below (Kd.N_elderB (by exact s_N (HO_146003.out)) gb166 (Nat.le_of_eq hg.symm)) hb); replace HO_146004 := s_a (Kd.N_below (Kd.N_elderB (by exact s_N (HO_146004.out)) gb166 (Nat.le_of_eq hg.symm)) hb); replace HL165_4 := s_a (Kd.V_below (Kd.V_elderB (by exact s_V (HL165_4.out)) gb166 (Nat.le_of_eq hg.symm)) hb); replace HL165_5 := s_a (Kd.V_below (Kd.V_elderB (by exact s_V (HL165_5.out)) gb166 (Nat.le_of_eq hg.symm)) hb); replace BK145 := s_a (blk_below (s_k BK145.out) hb); replace BK146 := s_a (blk_below (s_k BK146.out) hb); replace HR165_4 := s_a (Kd.C_below (by repeat (first | (with_reducible exact HR165_4.out) | (with_reducible refine Kd.C_alloc ?_ _) | (with_reducible refine Kd.C_drewN ?_ _) | (with_reducible refine Kd.C_drew ?_) | exact HR165_4.out)) hb); replace HR165_5 := s_a (Kd.C_below (by repeat (first | (with_reducible exact HR165_5.out) | (with_reducible refine Kd.C_alloc ?_ _) | (with_reducible refine Kd.C_drewN ?_ _) | (with_reducible refine Kd.C_drew ?_) | exact HR165_5.out)) hb); replace HB := s_a (below_step (by exact s_b HB.out) hb); clear hb hbox hg; have hnb37 := NB166_145.out; have hnc37 := NB145_166.out; have hnb38 := NB166_146.out; have hnc38 := NB146_166.out; obtain ⟨hcz39_0, hcz39_1, hcz39_2, hcz39_3, hcz39_4, hcz39_5⟩ := cells70 BK166.out; obtain ⟨hfz39_0, hfz39_1, hfz39_2, hfz39_3, hfz39_4, hfz39_5⟩ := frz6 BK166.out) | ((with_reducible refine gate_store (t := 70) (p := 6) rfl ?_); refine store_all rfl 70 (.tmp 6) _ rfl gb166 #[.string ((rd_T70 x146004_2 x33_2).f0), .int .i64 ((rd_T70 x146004_2 x33_2).f1.f0), .int .i64 ((rd_T70 x146004_2 x33_2).f1.f1), .string ((rd_T70 x146004_2 x33_2).f1.f2), .slice A165_4 ((rd_T70 x146004_2 x33_2).f1.f3).length c165_4, .slice A165_5 ((rd_T70 x146004_2 x33_2).f1.f4).length c165_5] rfl rfl 70 _ (s_k BK166.out) sz70 rfl (by first | rfl | simp [Value.oneCell']) rfl ?_; intro w40 hnb hgr; have n0_ := s_a (s_g HB.out hgr GE166.out); have n1_ := s_a (blk_grown (s_k BK145.out) hgr (some_ne NB145_166.out)); have n2_ := s_a (blk_grown (s_k BK146.out) hgr (some_ne NB146_166.out)); clear HB; clear BK145; clear BK146; have HB := n0_; have BK145 := n1_; have BK146 := n2_; clear n0_ n1_ n2_; replace BK166 := s_a (hnb); replace HO_146003 := s_a (Kd.N_grown (s_N HO_146003.out) hgr (fun _ hk_ => some_ne hk_.2)); replace HO_146004 := s_a (Kd.N_grown (s_N HO_146004.out) hgr (fun _ hk_ => some_ne hk_.2)); replace HL165_4 := s_a (Kd.V_grown (s_V HL165_4.out) hgr (fun _ hk_ => some_ne hk_.2)); replace HL165_5 := s_a (Kd.V_grown (s_V HL165_5.out) hgr (fun _ hk_ => some_ne hk_.2)); clear hnb hgr))
         replace HO_146003 := s_a (Kd.N_drew HO_146003.out)
         replace HO_146004 := s_a (Kd.N_drew HO_146004.out)
         replace HL165_4 := s_a (Kd.V_drew HL165_4.out)
         replace HL165_5 := s_a (Kd.V_drew HL165_5.out)
         replace BK145 := s_a (blk_drew BK145.out)
         replace BK146 := s_a (blk_drew BK146.out)
         replace BK166 := s_a (blk_drew BK166.out)
         replace HB := s_a (below_drew1 HB.out)
         refine start_ (n := 9) (S := fun w' => w'.cell? ⟨gb145, 4, none⟩ = some (.slice (some ad165) x146004_2.length co29) ∧ w'.cell? ⟨gb166, 1, none⟩ = some (.int .i64 ((rd_T70 x146004_2 x33_2).f1.f0)) ∧ w'.cell? ⟨gb166, 2, none⟩ = some (.int .i64 ((rd_T70 x146004_2 x33_2).f1.f1)) ∧ w'.cell? ⟨gb166, 3, none⟩ = some (.string ((rd_T70 x146004_2 x33_2).f1.f2)) ∧ w'.cell? ⟨gb166, 4, none⟩ = some (.slice A165_4 ((rd_T70 x146004_2 x33_2).f1.f3).length c165_4) ∧ w'.cell? ⟨gb166, 5, none⟩ = some (.slice A165_5 ((rd_T70 x146004_2 x33_2).f1.f4).length c165_5)) (ds := [8]) (bz 9 0) (by kernel_rfl) rfl rfl ⟨s_x BK145.out 4, s_x BK166.out 1, s_x BK166.out 2, s_x BK166.out 3, s_x BK166.out 4, s_x BK166.out 5⟩ (fun hHeld => ?_); refine with_tabW value_clone.tab11 value_clone.bits11 (fun HT_ HW_ => ?_)
         generalize w40.drew = w41 at HO_146003 HO_146004 HL165_4 HL165_5 BK145 BK146 BK166 HB hHeld ⊢
         refine q_p 0 (some 38) (bz 9 1) (any_of HT_.out (by kernel_rfl)) (v := ?_) ?_ (a' := ?_) ?_ ?_; rotate_left 2
         ·intro w'; go_simp; with_reducible rfl
         ·simp only [Act.put, List.setIfInBounds_toArray, List.set_cons_zero, List.set_cons_succ, i64_w, i32_w]; rfl
         refine q_p 2 (some 40) (bz 9 5) (any_of HT_.out (by kernel_rfl)) (v := ?_) ?_ (a' := ?_) ?_ ?_; rotate_left 2
         ·intro w'; go_simp; with_reducible rfl
         ·simp only [Act.put, List.setIfInBounds_toArray, List.set_cons_zero, List.set_cons_succ, i64_w, i32_w]; rfl
         refine q_p 3 (some 41) (bz 9 13) (any_of HT_.out (by kernel_rfl)) (v := ?_) ?_ (a' := ?_) ?_ ?_; rotate_left 2
         ·intro w'; go_simp; with_reducible rfl
         ·simp only [Act.put, List.setIfInBounds_toArray, List.set_cons_zero, List.set_cons_succ, i64_w, i32_w]; rfl
         refine q_t 1 (some 39) (bz 9 15) (take_ofW HT_.out HW_.out (by kernel_rfl)) hHeld (v := ?_) ?_ (a' := ?_) ?_ ?_; rotate_left 2
         ·rintro w' ⟨s0, s1, s2, s3, s4, s5⟩; go_simp; with_reducible rfl
         ·simp only [Act.put, List.setIfInBounds_toArray, List.set_cons_zero, List.set_cons_succ, i64_w, i32_w]; rfl
         refine q_t 4 (some 42) (bz 9 31) (take_ofW HT_.out HW_.out (by kernel_rfl)) hHeld (v := ?_) ?_ (a' := ?_) ?_ ?_; rotate_left 2
         ·rintro w' ⟨s0, s1, s2, s3, s4, s5⟩; (refine (s_ld rfl 31 (.tmp 41) ?_ _ ?_ _ _ (cells_at s1 (s_cc s2 (s_cc s3 (s_cc s4 (s_cc s5 s_cn))))) Try.underlying31 (by rfl) sz31).trans ?_ <;> first | (with_reducible rfl) | rfl)
         ·simp only [Act.put, List.setIfInBounds_toArray, List.set_cons_zero, List.set_cons_succ, i64_w, i32_w]; rfl
         refine one_ (i := 5) (N := some 43) (bz 9 63) rfl rfl (one_of HT_.out (by kernel_rfl)) (by decide) (fun K hK => ?_)
         refine goes_ Try.func33 (by kernel_rfl) rfl #[.agg #[.int .i64 ((rd_T70 x146004_2 x33_2).f1.f0), .int .i64 ((rd_T70 x146004_2 x33_2).f1.f1), .string ((rd_T70 x146004_2 x33_2).f1.f2), .slice A165_4 ((rd_T70 x146004_2 x33_2).f1.f3).length c165_4, .slice A165_5 ((rd_T70 x146004_2 x33_2).f1.f4).length c165_5]] (by rfl) rfl rfl (by (try simp only [List.map_toArray, List.map_cons, List.map_nil]); first | done | rfl | (simp only [List.length_drop, List.length_take]; rfl)) ?_
         with_reducible refine (ih k2 (by have := HK1.out; have := HK2.out; omega) _ _ _ (fun k_ => (((((P0_3_ k_ ∨ P0_4_ k_) ∨ w.heap.size ≤ k_) ∧ (some k_ ≠ (.slice Ao8 x146003_1.length co8 : Value).ownBlock ∧ (k_ ≠ gb145 ∧ k_ ≠ gb146))) ∧ some k_ ≠ (.slice (some ad165) x146004_2.length co29 : Value).ownBlock) ∧ k_ ≠ gb166)) _ _ ((rd_T70 x146004_2 x33_2).f1.f3) (fun k_ => (((((P0_3_ k_ ∨ P0_4_ k_) ∨ w.heap.size ≤ k_) ∧ (some k_ ≠ (.slice Ao8 x146003_1.length co8 : Value).ownBlock ∧ (k_ ≠ gb145 ∧ k_ ≠ gb146))) ∧ some k_ ≠ (.slice (some ad165) x146004_2.length co29 : Value).ownBlock) ∧ k_ ≠ gb166)) _ _ ((rd_T70 x146004_2 x33_2).f1.f4) _ _ _ _ _ _ ?side1 ?side2 A34.out).mono ?_
         (case side1 => exact HL165_4.out)
         (case side2 => exact HL165_5.out)
         rintro e w42 ⟨v171, v174, rfl, ho0, ho1, hb⟩
         refine ⟨_, rfl, ?_⟩
         have n0_ := s_a (Kd.N_lower (Kd.N_mono (ok' := fun k_ => ((P0_3_ k_ ∨ P0_4_ k_) ∨ w.heap.size ≤ k_) ∧ some k_ ≠ (v174 : Value).ownBlock ∧ some k_ ≠ (.slice Ao8 x146003_1.length co8 : Value).ownBlock ∧ some k_ ≠ (.slice (some ad165) x146004_2.length co29 : Value).ownBlock ∧ k_ ≠ gb145 ∧ k_ ≠ gb146 ∧ k_ ≠ gb166) ho0 (fun k_ hk_ => ⟨Or.elim hk_.1 (fun hs_ => Or.elim hs_ (fun hs_ => hs_.1.1.1) (fun hs_ => hs_.1.1.1)) (fun hn_ => (.inr (Nat.le_trans (below_size (by exact s_b HB.out)) hn_))), hk_.2, Or.elim hk_.1 (fun hs_ => Or.elim hs_ (fun hs_ => hs_.1.1.2.1) (fun hs_ => hs_.1.1.2.1)) (fun hn_ => (Kd.fresh' (Kd.N_lt (by exact s_N (HO_146003.out))) k_ hn_)), Or.elim hk_.1 (fun hs_ => Or.elim hs_ (fun hs_ => hs_.1.2) (fun hs_ => hs_.1.2)) (fun hn_ => (Kd.fresh' (Kd.N_lt (by exact s_N (HO_146004.out))) k_ hn_)), Or.elim hk_.1 (fun hs_ => Or.elim hs_ (fun hs_ => hs_.1.1.2.2.1) (fun hs_ => hs_.1.1.2.2.1)) (fun hn_ => (Kd.freshB (s_k BK145.out) k_ hn_)), Or.elim hk_.1 (fun hs_ => Or.elim hs_ (fun hs_ => hs_.1.1.2.2.2) (fun hs_ => hs_.1.1.2.2.2)) (fun hn_ => (Kd.freshB (s_k BK146.out) k_ hn_)), Or.elim hk_.1 (fun hs_ => Or.elim hs_ (fun hs_ => hs_.2) (fun hs_ => hs_.2)) (fun hn_ => (Kd.freshB (s_k BK166.out) k_ hn_))⟩)) (below_size (by exact s_b HB.out)))
         have n1_ := s_a (Kd.N_lower (Kd.N_mono (ok' := fun k_ => ((P0_3_ k_ ∨ P0_4_ k_) ∨ w.heap.size ≤ k_) ∧ some k_ ≠ (v171 : Value).ownBlock ∧ some k_ ≠ (.slice Ao8 x146003_1.length co8 : Value).ownBlock ∧ some k_ ≠ (.slice (some ad165) x146004_2.length co29 : Value).ownBlock ∧ k_ ≠ gb145 ∧ k_ ≠ gb146 ∧ k_ ≠ gb166) ho1 (fun k_ hk_ => ⟨Or.elim hk_.1 (fun hs_ => Or.elim hs_ (fun hs_ => hs_.1.1.1) (fun hs_ => hs_.1.1.1)) (fun hn_ => (.inr (Nat.le_trans (below_size (by exact s_b HB.out)) hn_))), hk_.2, Or.elim hk_.1 (fun hs_ => Or.elim hs_ (fun hs_ => hs_.1.1.2.1) (fun hs_ => hs_.1.1.2.1)) (fun hn_ => (Kd.fresh' (Kd.N_lt (by exact s_N (HO_146003.out))) k_ hn_)), Or.elim hk_.1 (fun hs_ => Or.elim hs_ (fun hs_ => hs_.1.2) (fun hs_ => hs_.1.2)) (fun hn_ => (Kd.fresh' (Kd.N_lt (by exact s_N (HO_146004.out))) k_ hn_)), Or.elim hk_.1 (fun hs_ => Or.elim hs_ (fun hs_ => hs_.1.1.2.2.1) (fun hs_ => hs_.1.1.2.2.1)) (fun hn_ => (Kd.freshB (s_k BK145.out) k_ hn_)), Or.elim hk_.1 (fun hs_ => Or.elim hs_ (fun hs_ => hs_.1.1.2.2.2) (fun hs_ => hs_.1.1.2.2.2)) (fun hn_ => (Kd.freshB (s_k BK146.out) k_ hn_)), Or.elim hk_.1 (fun hs_ => Or.elim hs_ (fun hs_ => hs_.2) (fun hs_ => hs_.2)) (fun hn_ => (Kd.freshB (s_k BK166.out) k_ hn_))⟩)) (below_size (by exact s_b HB.out)))
         have HO172 := n0_
         have HO175 := n1_
         clear n0_ n1_
         replace HO_146003 := s_a (Kd.N_mono (Kd.N_told (Kd.N_told (Kd.N_old (by exact s_N (HO_146003.out)) hb) (Kd.N_base ho0)) (Kd.N_base ho1)) (fun _ h_ => h_.1))
         replace HO_146004 := s_a (Kd.N_mono (Kd.N_told (Kd.N_told (Kd.N_old (by exact s_N (HO_146004.out)) hb) (Kd.N_base ho0)) (Kd.N_base ho1)) (fun _ h_ => h_.1))
         replace BK145 := s_a (blk_below (s_k BK145.out) hb)
         replace BK146 := s_a (blk_below (s_k BK146.out) hb)
         replace BK166 := s_a (blk_below (s_k BK166.out) hb)
         replace HB := s_a (below_step (by exact s_b HB.out) hb)
         (try clear hb)
         (try clear ho0)
         (try clear ho1)
         have p35 : 0 ≤ (x33_2 : Int) := of_decide_eq_true (by first | (with_reducible assumption) | assumption)
         have q35 : (x33_2 : Int) < ((x146004_2.length : Int) : Int) := of_decide_eq_true (by first | (with_reducible assumption) | assumption)
         obtain ⟨go35, co35, eo35, gb35, gl35, cl35, HG35⟩ := Kd.N_form HO_146004.out (by omega)
         (first | cases eo35 | (injection eo35 with ea_ en_ ec_; (first | subst ea_ | (injection ea_ with ea_; subst ea_)); subst ec_; clear en_))
         have GB35 := s_a gb35
         have GG35 := s_a HG35
         clear gb35 gl35 HG35
         (first | simp only [add_plain] at hx165_0 | skip)
         (first | simp only [add_plain] at hx165_1 | skip)
         (first | simp only [add_plain] at hx165_2 | skip)
         (first | simp only [add_plain] at hx165_3 | skip)
         (first | simp only [add_plain] at hx165_4 | skip)
         (first | simp only [add_plain] at hx165_5 | skip)
         obtain ⟨ce35, hcl35, hM35, hcc35, hfr35⟩ := Kd.N_elem HO_146004.out z70 (x33_2 : Int) p35 q35
         obtain ⟨ua35_4, uc35_4, ua35_5, uc35_5, rfl, ul35_4, ge35_4, ul35_5, ge35_5⟩ := k70_openF hM35
         have hx35_0 : World.cell? _ ⟨go35, (x33_2 : Int).toNat * 6, none⟩ = some (.string ((rd_T70 x146004_2 x33_2).f0)) := hcc35 0 _ rfl
         have hx35_1 : World.cell? _ ⟨go35, (x33_2 : Int).toNat * 6 + 1, none⟩ = some (.int .i64 ((rd_T70 x146004_2 x33_2).f1.f0)) := hcc35 1 _ rfl
         have hx35_2 : World.cell? _ ⟨go35, (x33_2 : Int).toNat * 6 + 2, none⟩ = some (.int .i64 ((rd_T70 x146004_2 x33_2).f1.f1)) := hcc35 2 _ rfl
         have hx35_3 : World.cell? _ ⟨go35, (x33_2 : Int).toNat * 6 + 3, none⟩ = some (.string ((rd_T70 x146004_2 x33_2).f1.f2)) := hcc35 3 _ rfl
         have hx35_4 : World.cell? _ ⟨go35, (x33_2 : Int).toNat * 6 + 4, none⟩ = some (.slice ua35_4 ((rd_T70 x146004_2 x33_2).f1.f3).length uc35_4) := hcc35 4 _ rfl
         have hx35_5 : World.cell? _ ⟨go35, (x33_2 : Int).toNat * 6 + 5, none⟩ = some (.slice ua35_5 ((rd_T70 x146004_2 x33_2).f1.f4).length uc35_5) := hcc35 5 _ rfl
         have hf35_0 : World.frozen? _ ⟨go35, (x33_2 : Int).toNat * 6, none⟩ = false := hfr35 0
         have hf35_1 : World.frozen? _ ⟨go35, (x33_2 : Int).toNat * 6 + 1, none⟩ = false := hfr35 1
         have hf35_2 : World.frozen? _ ⟨go35, (x33_2 : Int).toNat * 6 + 2, none⟩ = false := hfr35 2
         have hf35_3 : World.frozen? _ ⟨go35, (x33_2 : Int).toNat * 6 + 3, none⟩ = false := hfr35 3
         have hf35_4 : World.frozen? _ ⟨go35, (x33_2 : Int).toNat * 6 + 4, none⟩ = false := hfr35 4
         have hf35_5 : World.frozen? _ ⟨go35, (x33_2 : Int).toNat * 6 + 5, none⟩ = false := hfr35 5
         clear hcl35 hcc35 hfr35 hM35
         replace p35 := eq_true p35
         replace q35 := eq_true q35
         obtain ⟨Ao44, co44, eo44⟩ := Kd.N_slice HO172.out
         (first | subst eo44 | (injection eo44 with f1_ f2_ f3_; have f4_ := f1_.symm; have f5_ := f3_.symm; clear f1_ f2_ f3_; subst f4_; subst f5_))
         obtain ⟨Ao45, co45, eo45⟩ := Kd.N_slice HO175.out
         (first | subst eo45 | (injection eo45 with f1_ f2_ f3_; have f4_ := f1_.symm; have f5_ := f3_.symm; clear f1_ f2_ f3_; subst f4_; subst f5_))
         have HX43 := s_a (show Kd.N k70 70 _ w.heap.size (fun k_ => ((P0_3_ k_ ∨ P0_4_ k_) ∨ w.heap.size ≤ k_) ∧ some k_ ≠ (.slice Ao8 x146003_1.length co8 : Value).ownBlock ∧ some k_ ≠ (.slice Ao44 t170.length co44 : Value).ownBlock ∧ some k_ ≠ (.slice Ao45 t173.length co45 : Value).ownBlock ∧ k_ ≠ gb145 ∧ k_ ≠ gb146 ∧ k_ ≠ gb166) (.slice (some ⟨go35, 0, none⟩) x146004_2.length co29) x146004_2 from (Kd.N_mono (HO_146004.out) (fun k_ hk => ⟨hk.1.1.1.1, ⟨hk.1.1.1.2.1, ⟨hk.1.2, ⟨hk.2, ⟨hk.1.1.1.2.2.1, ⟨hk.1.1.1.2.2.2, hk.1.1.2⟩⟩⟩⟩⟩⟩)))
         replace HX43 := s_a (show Kd.N k70 70 _ w.heap.size (fun k_ => ((P0_3_ k_ ∨ P0_4_ k_) ∨ w.heap.size ≤ k_) ∧ some k_ ≠ (.slice Ao8 x146003_1.length co8 : Value).ownBlock ∧ k_ ≠ gb145 ∧ k_ ≠ gb146 ∧ k_ ≠ gb166) (.slice (some ⟨go35, 0, none⟩) x146004_2.length co29) x146004_2 from Kd.N_mono HX43.out (fun k_ hk => ⟨hk.1, ⟨hk.2.1, ⟨hk.2.2.2.2.1, ⟨hk.2.2.2.2.2.1, hk.2.2.2.2.2.2⟩⟩⟩⟩))
         obtain ⟨ce43, hcl43, hM43, hcc43, hfr43⟩ := Kd.N_elem HX43.out z70 (x33_2 : Int) (of_decide_eq_true (by first | (with_reducible assumption) | assumption)) (by have h_ : (x33_2 : Int) < ((x146004_2.length : Int) : Int) := of_decide_eq_true (by first | (with_reducible assumption) | assumption); first | exact h_ | (have e_ := (Kd.N_reads' HO_146004.out).1; omega) | simpa using h_)
         obtain ⟨ua43_4, uc43_4, ua43_5, uc43_5, rfl, ul43_4, ge43_4, ul43_5, ge43_5⟩ := k70_openF hM43
         have HP43 := (Kd.N_seg HX43.out (x33_2 : Int) (of_decide_eq_true (by first | (with_reducible assumption) | assumption)) (by have h_ : (x33_2 : Int) < ((x146004_2.length : Int) : Int) := of_decide_eq_true (by first | (with_reducible assumption) | assumption); first | exact h_ | (have e_ := (Kd.N_reads' HO_146004.out).1; omega) | simpa using h_) (seg := [.int .i64 t167, .int .i64 t168, .string t169, .slice Ao44 t170.length co44, .slice Ao45 t173.length co45]) (j := 1) hcl43 hcc43 (show 6 ≤ 6 from by decide) (x' := (⟨(rd_T70 x146004_2 x33_2).f0, (⟨t167, t168, t169, t170, t173⟩ : S31)⟩ : S70)) (k70_mkF _ _ (⟨(rd_T70 x146004_2 x33_2).f0, (⟨t167, t168, t169, t170, t173⟩ : S31)⟩ : S70) (Kd.N_reads' (Kd.N_mono (ok' := (fun k_ => ((fun k_ => ((P0_3_ k_ ∨ P0_4_ k_) ∨ w.heap.size ≤ k_) ∧ some k_ ≠ (.slice Ao8 x146003_1.length co8 : Value).ownBlock ∧ k_ ≠ gb145 ∧ k_ ≠ gb146 ∧ k_ ≠ gb166)) k_ ∧ k_ ≠ go35)) (HO172.out) (fun k_ hk => ⟨⟨hk.1, ⟨hk.2.2.1, ⟨hk.2.2.2.2.1, ⟨hk.2.2.2.2.2.1, hk.2.2.2.2.2.2⟩⟩⟩⟩, fun e_ => (hk.2.2.2.1) (by rw [e_]; rfl)⟩))).2.1 (Kd.N_F (Kd.N_mono (ok' := (fun k_ => ((fun k_ => ((P0_3_ k_ ∨ P0_4_ k_) ∨ w.heap.size ≤ k_) ∧ some k_ ≠ (.slice Ao8 x146003_1.length co8 : Value).ownBlock ∧ k_ ≠ gb145 ∧ k_ ≠ gb146 ∧ k_ ≠ gb166)) k_ ∧ k_ ≠ go35)) (HO172.out) (fun k_ hk => ⟨⟨hk.1, ⟨hk.2.2.1, ⟨hk.2.2.2.2.1, ⟨hk.2.2.2.2.2.1, hk.2.2.2.2.2.2⟩⟩⟩⟩, fun e_ => (hk.2.2.2.1) (by rw [e_]; rfl)⟩))) (Kd.N_reads' (Kd.N_mono (ok' := (fun k_ => ((fun k_ => ((P0_3_ k_ ∨ P0_4_ k_) ∨ w.heap.size ≤ k_) ∧ some k_ ≠ (.slice Ao8 x146003_1.length co8 : Value).ownBlock ∧ k_ ≠ gb145 ∧ k_ ≠ gb146 ∧ k_ ≠ gb166)) k_ ∧ k_ ≠ go35)) (HO175.out) (fun k_ hk => ⟨⟨hk.1, ⟨hk.2.2.1, ⟨hk.2.2.2.2.1, ⟨hk.2.2.2.2.2.1, hk.2.2.2.2.2.2⟩⟩⟩⟩, fun e_ => (hk.2.2.2.1) (by rw [e_]; rfl)⟩))).2.1 (Kd.N_F (Kd.N_mono (ok' := (fun k_ => ((fun k_ => ((P0_3_ k_ ∨ P0_4_ k_) ∨ w.heap.size ≤ k_) ∧ some k_ ≠ (.slice Ao8 x146003_1.length co8 : Value).ownBlock ∧ k_ ≠ gb145 ∧ k_ ≠ gb146 ∧ k_ ≠ gb166)) k_ ∧ k_ ≠ go35)) (HO175.out) (fun k_ hk => ⟨⟨hk.1, ⟨hk.2.2.1, ⟨hk.2.2.2.2.1, ⟨hk.2.2.2.2.2.1, hk.2.2.2.2.2.2⟩⟩⟩⟩, fun e_ => (hk.2.2.2.1) (by rw [e_]; rfl)⟩)))) (fun _ hk => hk)).1
         rw [← Ny176.out] at HP43
         have HQ43 := s_a HP43
         clear hcl43 hcc43 hfr43 hM43 HP43
         refine hK.out _ _ ⟨s_x BK145.out 4, s_x BK166.out 1, s_x BK166.out 2, s_x BK166.out 3, s_x BK166.out 4, s_x BK166.out 5⟩ (fun hHeld => ?_)
         clear hK K
         refine norm_ (a' := ?_) ?_ ?_
         rotate_left
         ·show Act.put _ (some 43) _ = _
          simp only [Act.put, List.setIfInBounds_toArray, List.set_cons_zero, List.set_cons_succ, i64_w, i32_w]
          rfl
         refine q_p 6 (some 44) (bz 9 127) (any_of HT_.out (by kernel_rfl)) (v := ?_) ?_ (a' := ?_) ?_ ?_; rotate_left 2
         ·intro w'; go_simp; with_reducible rfl
         ·simp only [Act.put, List.setIfInBounds_toArray, List.set_cons_zero, List.set_cons_succ, i64_w, i32_w]; rfl
         refine q_p 7 (some 45) (bz 9 255) (any_of HT_.out (by kernel_rfl)) (v := ?_) ?_ (a' := ?_) ?_ ?_; rotate_left 2
         ·intro w'; go_simp; with_reducible rfl
         ·simp only [Act.put, List.setIfInBounds_toArray, List.set_cons_zero, List.set_cons_succ, i64_w, i32_w]; rfl
         refine last_ (i := 8) (N := none) (bz 9 511) rfl rfl (one_of HT_.out (by kernel_rfl)) (by decide) (fun K hK => ?_)
         refine skip_ (w1 := ?_) (by rfl) rfl ?_ ?_
         rotate_left
         ·go_simp
          rfl
         refine hK.out _ _ ?_
         clear hK K
         refine done_ (done_of HT_.out (by kernel_rfl)) ?_
         try go_wp2
         (try simp only [← hl146004_2])
         go_roundg k2
         case measure => have := HK1.out; have := HK2.out; omega
         case rel => exact ⟨(wrap64 (x33_2 + 1)), (y176), (by first | rfl | (simp; done) | (simp [*]; done)), H', ⟨by have := HK1.out; have := HK2.out; omega⟩, ⟨by (try simp only [hl146003_1]); (try simp only [hl146004_2]); (with_reducible repeat (first | apply Kd.N_alloc | apply Kd.N_drewN | apply Kd.N_drew)); exact Kd.N_mono (Kd.N_far (p := ⟨go35, (x33_2 : Int).toNat * 6 + 5, none⟩) (Kd.N_far (p := ⟨go35, (x33_2 : Int).toNat * 6 + 4, none⟩) (Kd.N_far (p := ⟨go35, (x33_2 : Int).toNat * 6 + 3, none⟩) (Kd.N_far (p := ⟨go35, (x33_2 : Int).toNat * 6 + 2, none⟩) (Kd.N_far (p := ⟨go35, (x33_2 : Int).toNat * 6 + 1, none⟩) (Kd.N_mono HO_146003.out (fun k_ hk => (⟨hk, fun e_ => hk.1.1.1.2.1 (by rw [e_]; rfl)⟩ : _ ∧ k_ ≠ go35))) (fun _ hk => hk.2) (.int .i64 t167)) (fun _ hk => hk.2) (.int .i64 t168)) (fun _ hk => hk.2) (.string t169)) (fun _ hk => hk.2) (.slice Ao44 t170.length co44)) (fun _ hk => hk.2) (.slice Ao45 t173.length co45)) (fun _ hk => ⟨hk.1.1.1.1.1, ⟨hk.1.1.1.1.2.1, ⟨hk.1.1.1.1.2.2.1, hk.1.1.1.1.2.2.2⟩⟩⟩)⟩, ⟨by (try simp only [hl146003_1]); (try simp only [hl146004_2]); (with_reducible repeat (first | apply Kd.N_alloc | apply Kd.N_drewN | apply Kd.N_drew)); exact Kd.N_mono HQ43.out (fun _ hk => ⟨hk.1, ⟨hk.2.1, ⟨hk.2.2.1, hk.2.2.2.1⟩⟩⟩)⟩, ⟨by (try simp only [hl146003_1]); (try simp only [hl146004_2]); (with_reducible repeat (first | refine blk_drewN ?_ _ | refine blk_drew ?_ | refine blk_alloc ?_ _)); refine blk_far ?_ (by have h_ := Kd.N_away HQ43.out (fun _ hk => hk.2.2.1); intro e_; exact h_ (by rw [e_]; rfl)) _; (with_reducible repeat (first | refine blk_drewN ?_ _ | refine blk_drew ?_ | refine blk_alloc ?_ _)); refine blk_far ?_ (by have h_ := Kd.N_away HQ43.out (fun _ hk => hk.2.2.1); intro e_; exact h_ (by rw [e_]; rfl)) _; (with_reducible repeat (first | refine blk_drewN ?_ _ | refine blk_drew ?_ | refine blk_alloc ?_ _)); refine blk_far ?_ (by have h_ := Kd.N_away HQ43.out (fun _ hk => hk.2.2.1); intro e_; exact h_ (by rw [e_]; rfl)) _; (with_reducible repeat (first | refine blk_drewN ?_ _ | refine blk_drew ?_ | refine blk_alloc ?_ _)); refine blk_far ?_ (by have h_ := Kd.N_away HQ43.out (fun _ hk => hk.2.2.1); intro e_; exact h_ (by rw [e_]; rfl)) _; (with_reducible repeat (first | refine blk_drewN ?_ _ | refine blk_drew ?_ | refine blk_alloc ?_ _)); refine blk_far ?_ (by have h_ := Kd.N_away HQ43.out (fun _ hk => hk.2.2.1); intro e_; exact h_ (by rw [e_]; rfl)) _; (with_reducible repeat (first | refine blk_drewN ?_ _ | refine blk_drew ?_ | refine blk_alloc ?_ _)); exact BK145.out⟩, ⟨by (try simp only [hl146003_1]); (try simp only [hl146004_2]); (with_reducible repeat (first | refine blk_drewN ?_ _ | refine blk_drew ?_ | refine blk_alloc ?_ _)); refine blk_far ?_ (by have h_ := Kd.N_away HQ43.out (fun _ hk => hk.2.2.2.1); intro e_; exact h_ (by rw [e_]; rfl)) _; (with_reducible repeat (first | refine blk_drewN ?_ _ | refine blk_drew ?_ | refine blk_alloc ?_ _)); refine blk_far ?_ (by have h_ := Kd.N_away HQ43.out (fun _ hk => hk.2.2.2.1); intro e_; exact h_ (by rw [e_]; rfl)) _; (with_reducible repeat (first | refine blk_drewN ?_ _ | refine blk_drew ?_ | refine blk_alloc ?_ _)); refine blk_far ?_ (by have h_ := Kd.N_away HQ43.out (fun _ hk => hk.2.2.2.1); intro e_; exact h_ (by rw [e_]; rfl)) _; (with_reducible repeat (first | refine blk_drewN ?_ _ | refine blk_drew ?_ | refine blk_alloc ?_ _)); refine blk_far ?_ (by have h_ := Kd.N_away HQ43.out (fun _ hk => hk.2.2.2.1); intro e_; exact h_ (by rw [e_]; rfl)) _; (with_reducible repeat (first | refine blk_drewN ?_ _ | refine blk_drew ?_ | refine blk_alloc ?_ _)); refine blk_far ?_ (by have h_ := Kd.N_away HQ43.out (fun _ hk => hk.2.2.2.1); intro e_; exact h_ (by rw [e_]; rfl)) _; (with_reducible repeat (first | refine blk_drewN ?_ _ | refine blk_drew ?_ | refine blk_alloc ?_ _)); exact BK146.out⟩, ⟨by repeat (first | (with_reducible first | exact HB.out | apply below_alloc | apply pw_below_drewN | apply below_drew1 | refine below_set ?_ GB35.out | refine below_set ?_ GB35.out | refine below_set ?_ GB35.out | refine below_set ?_ GB35.out | refine below_set ?_ GB35.out | refine below_set ?_ GE145.out | refine below_set ?_ GE146.out | refine below_set ?_ GE166.out) | exact HB.out)⟩⟩
        ·rw [if_neg c33] at H
         exact absurd H (by simp)
       ·rw [if_neg c32] at H
        exact absurd H (by simp)
      ·rw [if_neg c31] at H
       have c31b0 : decide (x33_2 < (t162.length : Int)) = false := decide_eq_false c31
       clear c31
       (try (have c31h0 := c31b0; simp only [hl146003_1, hl146004_2] at c31h0))
       simp only [Option.some.injEq, Prod.mk.injEq] at H
       obtain ⟨rfl, rfl, rfl, rfl, rfl⟩ := H
       go_wp2_with (first | ((with_reducible refine gate_dst (N := 47) rfl ?_); refine wpList_load_row rfl 31 (.tmp 1) rfl gb145 rfl 31 _ (0, 0) _ (s_k BK145.out) Try.underlying31 rfl sz31 ?_; have hnb46 := NB146_145.out; have hnc46 := NB145_146.out; obtain ⟨hcz47_0, hcz47_1, hcz47_2, hcz47_3, hcz47_4⟩ := cells31 BK146.out; obtain ⟨hfz47_0, hfz47_1, hfz47_2, hfz47_3, hfz47_4⟩ := frz5 BK146.out) | ((with_reducible refine gate_store (t := 31) (p := 2) rfl ?_); refine store_all rfl 31 (.tmp 2) _ rfl gb146 #[.int .i64 a0_0, .int .i64 a0_1, .string a0_2, .slice Ao8 x146003_1.length co8, .slice Ao29 x146004_2.length co29] rfl rfl 31 _ (s_k BK146.out) sz31 rfl (by first | rfl | simp [Value.oneCell']) rfl ?_; intro w48 hnb hgr; have n0_ := s_a (s_g HB.out hgr GE146.out); clear HB; have HB := n0_; clear n0_; replace BK146 := s_a (hnb); replace HO_146003 := s_a (Kd.N_grown (s_N HO_146003.out) hgr (fun _ hk_ => some_ne hk_.2.2.2)); replace HO_146004 := s_a (Kd.N_grown (s_N HO_146004.out) hgr (fun _ hk_ => some_ne hk_.2.2.2)); clear hnb hgr))
       refine bodyPost_ret (results_cell_row rfl _ _ gb146 31 #[.int .i64 a0_0, .int .i64 a0_1, .string a0_2, .slice Ao8 x146003_1.length co8, .slice Ao29 x146004_2.length co29] (0, 0) _ rfl (by exact s_k BK146.out) Try.underlying31 rfl (by kernel_rfl)) rfl ?_
       exact ⟨_, _, by first | rfl | (simp [errW_none, errW_some] <;> rfl) | (simp [*, errW_none, errW_some] <;> rfl), by exact s_N (Kd.N_mono HO_146003.out (fun _ hk => ⟨hk.1, hk.2.1⟩)), by exact s_N (Kd.N_mono HO_146004.out (fun _ hk => ⟨hk.1, hk.2.1⟩)), by exact s_b HB.out⟩
def value_List.f (k : Nat) (l0 : List (S31)) : Option (Int × Int × ByteArray × (List (S31)) × (List (S70))) := (value_clone.f k 4 0 (⟨#[]⟩ : ByteArray) l0 ([] : List (S70))).bind fun bt178 => (some (bt178.1, bt178.2.1, bt178.2.2.1, bt178.2.2.2.1, bt178.2.2.2.2))
theorem value_List.mono : ∀ a0 k, LeO (value_List.f k a0) (value_List.f (k + 1) a0) := by
 intro a0 k
 unfold value_List.f
 repeat' first
   | (with_reducible exact value_clone.mono _ _ _ _ _ _)
   | (with_reducible exact LeO.refl _)
   | (with_reducible exact LeO.none _)
   | (with_reducible refine LeO.ite ?_ ?_)
   | (with_reducible refine LeO.bind ?_ (fun _ => ?_))
   | exact value_clone.mono _ _ _ _ _ _
   | exact LeO.none _
   | refine LeO.ite ?_ ?_
   | refine LeO.bind ?_ (fun _ => ?_)
set_option maxHeartbeats 8000000 in
set_option maxRecDepth 100000 in
theorem value_List.calls (k : Nat) (P0_ : Nat → Prop) (A0 : Option Addr) (c0 : Nat) (l0 : List (S31)) (r1 : Int) (r2 : Int) (r3 : ByteArray) (r4 : List (S31)) (r5 : List (S70)) (w : World) (hs0 : Kd.V k31 31 w w.heap.size (fun k_ => P0_ k_) (.slice A0 l0.length c0) l0) (h : value_List.f k l0 = some (r1, r2, r3, r4, r5)) :
  Calls Try.prog 30 #[.slice A0 l0.length c0] w fun e w' => ∃ v3_ v4_ : Value, e = .returned (.agg #[.int .i64 r1, .int .i64 r2, .string r3, v3_, v4_]) ∧ Kd.N k31 31 w' w.heap.size (fun k_ => (P0_ k_ ∨ w.heap.size ≤ k_) ∧ some k_ ≠ (v4_ : Value).ownBlock) v3_ r4 ∧ Kd.N k70 70 w' w.heap.size (fun k_ => (P0_ k_ ∨ w.heap.size ≤ k_) ∧ some k_ ≠ (v3_ : Value).ownBlock) v4_ r5 ∧ Below w.heap.size w w' := by
 have hu31 := Try.underlying31
 have HO0 := s_a (show Kd.V k31 31 w w.heap.size (fun k_ => (P0_ k_ ∨ w.heap.size ≤ k_)) (.slice A0 l0.length c0) l0 from Kd.V_mono hs0 (fun k_ hk => .inl hk))
 have HB := s_a (Below.refl w.heap.size w)
 have H : ((value_clone.f k 4 0 (⟨#[]⟩ : ByteArray) l0 ([] : List (S70))).bind fun bt178 => (some (bt178.1, bt178.2.1, bt178.2.2.1, bt178.2.2.2.1, bt178.2.2.2.2))) = some (r1, r2, r3, r4, r5) := h
 clear h
 replace H := Option.bind_eq_some_iff.mp H
 obtain ⟨⟨t178, t179, t180, t181, t184⟩, A20, H⟩ := H
 replace H : (some (t178, t179, t180, t181, t184)) = some (r1, r2, r3, r4, r5) := H
 have A2 := s_a A20
 clear A20
 simp only [Option.some.injEq, Prod.mk.injEq] at H
 obtain ⟨rfl, rfl, rfl, rfl, rfl⟩ := H
 go_enter Try.func30, Try.ntmps30
 go_wp2_with (first | ((with_reducible refine gate_dst (N := 2) rfl ?_); refine box_event ?hg (N := 2) ?hd (cs := #[.int .i64 0, .int .i64 0, .string (⟨#[]⟩ : ByteArray), .slice none 0 0, .slice none 0 0]) (t := 31) ?hr ?_; (case hd => rfl); (case hg => rfl); (case hr => first | (go_simp; done) | (go_simp; rfl)); intro gb177 hg w3 hbox hb; have BK177 := s_a (hbox); have GE177 := s_a ((by rw [hg]; exact (below_size (by exact s_b HB.out)) : w.heap.size ≤ gb177)); replace HO0 := s_a (Kd.V_below (Kd.V_elderB (by exact s_V (HO0.out)) gb177 (Nat.le_of_eq hg.symm)) hb); replace HB := s_a (below_step (by exact s_b HB.out) hb); clear hb hbox hg) | ((with_reducible refine gate_callee (f := 33) rfl ?_); refine goesL_ (some 5) rfl rfl Try.func33 (by kernel_rfl) rfl #[.agg #[.int .i64 4, .int .i64 0, .string (⟨#[]⟩ : ByteArray), .slice A0 l0.length c0, .slice none 0 0]] rfl (by (try simp only [List.map_toArray, List.map_cons, List.map_nil]); first | done | rfl | (simp only [List.length_drop, List.length_take]; rfl)) ?_; (refine (value_clone.calls k _ _ _ (fun k_ => ((P0_ k_ ∨ w.heap.size ≤ k_) ∧ k_ ≠ gb177)) _ _ l0 (fun k_ => False) _ _ ([] : List (S70)) _ _ _ _ _ _ ?side1 ?side2 A2.out).mono ?_); (case side1 => exact HO0.out); (case side2 => exact Kd.V_nil _ _ _ _ _); rintro e w4 ⟨v182, v185, rfl, ho0, ho1, hb⟩; refine ⟨_, rfl, ?_⟩; have HO183 := s_a (Kd.N_lower (Kd.N_mono (ok' := fun k_ => (P0_ k_ ∨ w.heap.size ≤ k_) ∧ some k_ ≠ (v185 : Value).ownBlock ∧ k_ ≠ gb177) ho0 (fun k_ hk_ => ⟨Or.elim hk_.1 (fun hs_ => Or.elim hs_ (fun hs_ => hs_.1) (fun hs_ => (hs_).elim)) (fun hn_ => (.inr (Nat.le_trans (below_size (by exact s_b HB.out)) hn_))), hk_.2, Or.elim hk_.1 (fun hs_ => Or.elim hs_ (fun hs_ => hs_.2) (fun hs_ => (hs_).elim)) (fun hn_ => (Kd.freshB (s_k BK177.out) k_ hn_))⟩)) (below_size (by exact s_b HB.out))); have HO186 := s_a (Kd.N_lower (Kd.N_mono (ok' := fun k_ => (P0_ k_ ∨ w.heap.size ≤ k_) ∧ some k_ ≠ (v182 : Value).ownBlock ∧ k_ ≠ gb177) ho1 (fun k_ hk_ => ⟨Or.elim hk_.1 (fun hs_ => Or.elim hs_ (fun hs_ => hs_.1) (fun hs_ => (hs_).elim)) (fun hn_ => (.inr (Nat.le_trans (below_size (by exact s_b HB.out)) hn_))), hk_.2, Or.elim hk_.1 (fun hs_ => Or.elim hs_ (fun hs_ => hs_.2) (fun hs_ => (hs_).elim)) (fun hn_ => (Kd.freshB (s_k BK177.out) k_ hn_))⟩)) (below_size (by exact s_b HB.out))); replace BK177 := s_a (blk_below (s_k BK177.out) hb); replace HB := s_a (below_step (by exact s_b HB.out) hb); (try clear hb); (try clear ho0); (try clear ho1); obtain ⟨hcz5_0, hcz5_1, hcz5_2, hcz5_3, hcz5_4⟩ := cells31 BK177.out; obtain ⟨hfz5_0, hfz5_1, hfz5_2, hfz5_3, hfz5_4⟩ := frz5 BK177.out; obtain ⟨Ao6, co6, eo6⟩ := Kd.N_slice HO183.out; subst eo6; obtain ⟨Ao7, co7, eo7⟩ := Kd.N_slice HO186.out; subst eo7) | ((with_reducible refine gate_store (t := 31) (p := 2) rfl ?_); refine store_all rfl 31 (.tmp 2) _ rfl gb177 #[.int .i64 t178, .int .i64 t179, .string t180, .slice Ao6 t181.length co6, .slice Ao7 t184.length co7] rfl rfl 31 _ (s_k BK177.out) sz31 rfl (by first | rfl | simp [Value.oneCell']) rfl ?_; intro w8 hnb hgr; have n0_ := s_a (s_g HB.out hgr GE177.out); clear HB; have HB := n0_; clear n0_; replace BK177 := s_a (hnb); replace HO183 := s_a (Kd.N_grown (s_N HO183.out) hgr (fun _ hk_ => some_ne hk_.2.2)); replace HO186 := s_a (Kd.N_grown (s_N HO186.out) hgr (fun _ hk_ => some_ne hk_.2.2)); clear hnb hgr))
 refine bodyPost_ret (results_cell_row rfl _ _ gb177 31 #[.int .i64 t178, .int .i64 t179, .string t180, .slice Ao6 t181.length co6, .slice Ao7 t184.length co7] (0, 0) _ rfl (by exact s_k BK177.out) Try.underlying31 rfl (by kernel_rfl)) rfl ?_
 exact ⟨_, _, by first | rfl | (simp [errW_none, errW_some] <;> rfl) | (simp [*, errW_none, errW_some] <;> rfl), by exact s_N (Kd.N_mono HO183.out (fun _ hk => ⟨hk.1, hk.2.1⟩)), by exact s_N (Kd.N_mono HO186.out (fun _ hk => ⟨hk.1, hk.2.1⟩)), by exact s_b HB.out⟩
end Go.Proofs.Ythkdpkgkejdcgaa.Q
