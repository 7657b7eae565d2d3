/- Go functions as Lean functions, printed by a program of this claim's author; each with its proof. Conditions: stated at each. -/
import Derived.Test.YtolackmpfnndhaaGreatDoorE0
namespace Go.Proofs.YtolackmpfnndhaaGreatDoor.Ev
open Go
set_option linter.unusedVariables false
set_option maxRecDepth 100000
namespace json_Print
noncomputable def qB : List UInt8 → List UInt8
  | [] => []
  | c :: l => (bif c == 10 then [92, 110] else bif c == 34 || c == 92 then [92, c] else [c]) ++ qB l
noncomputable def jn (g : Row → Option (List UInt8)) : Bool → Rows → Option (List UInt8)
  | _, [] => some []
  | c, r :: l => (g r).bind fun x => (jn g false l).map fun y => (bif c then [] else [44]) ++ x ++ y
noncomputable def qt (s : ByteArray) : List UInt8 := 34 :: (qB s.data.toList ++ [34])
noncomputable def vtxt (k : Nat) : Nat → Row → Option (List UInt8)
  | 0, _ => none
  | g + 1, r =>
    bif iEq (rInt r 0) 0 then some [110, 117, 108, 108]
    else bif iEq (rInt r 0) 1 then (strconv_FormatBool.f k (iEq (rInt r 1) 1)).eval.map (·.data.toList)
    else bif iEq (rInt r 0) 2 then (bif strconv_Itoa.iR (rInt r 1) then some (strconv_Itoa.itz (rInt r 1)) else none)
    else bif iEq (rInt r 0) 3 then some (qt (rStr r 2))
    else bif iEq (rInt r 0) 4 then (jn (vtxt k g) true (rSl r 3)).map fun x => 91 :: (x ++ [93])
    else (jn (fun q => (vtxt k g (q.drop 1)).map fun x => qt (rStr q 0) ++ 58 :: x) true (rSl r 4)).map fun x => 123 :: (x ++ [125])
noncomputable def f (k : Nat) (a0 : Row) : T (ByteArray × Int) :=
  .bnd (value_Valid.f k a0).eval default fun b =>
  .test b
   (.bnd (vtxt k k a0) [] fun x =>
   .test (decide (x.length ≤ 140737488355328)) (.test (decide (20000 < x.length)) (.ret (⟨#[]⟩, 4)) (.ret (⟨x.toArray⟩, 0))) (.fail))
   (.ret (⟨#[]⟩, 1))
noncomputable def d (k : Nat) : Fun := mkFun [110] (fun as_ => f k (vRow (vN as_ 0))) default (fun r => .tuple [.str r.1, .int .i64 r.2])
theorem qB_drop (l : List UInt8) (i : Nat) (h : i < l.length) : qB (l.drop i) = (bif l[i] == 10 then [92, 110] else bif l[i] == 34 || l[i] == 92 then [92, l[i]] else [l[i]]) ++ qB (l.drop (i + 1)) := by
  rw [List.drop_eq_getElem_cons h]; rfl
theorem qB_len : ∀ l : List UInt8, l.length ≤ (qB l).length
  | [] => Nat.le_refl _
  | c :: l => by
    have := qB_len l
    show _ ≤ ((bif c == 10 then [92, 110] else bif c == 34 || c == 92 then [92, c] else [c]) ++ qB l).length
    rw [List.length_append, List.length_cons]
    cases c == 10 <;> cases (c == 34 || c == 92) <;> simp <;> omega
theorem u8_eq (c d : UInt8) (n : Int) (h : (d.toNat : Int) = n) : ((c.toNat : Int) == n) = (c == d) := by
  subst h
  by_cases h1 : c = d
  · subst h1; simp
  · have : ¬ c.toNat = d.toNat := fun e => h1 (UInt8.toNat_inj.1 e)
    have h2 : (c == d) = false := by simpa using h1
    rw [h2]; simp; omega
theorem quote_w (B b : Nat) (s : ByteArray) : Writes Tryz.prog 126 5 B b 100 [.string s] (34 :: (qB s.data.toList ++ [34])) := fun w pre h hB hl => by
  have hb := fun c => writes_byte lay_wb lay_bx B b c
  have hs := fun s => writes_string lay_ws lay_bx B b s
  change ∀ c, Writes Tryz.prog 126 5 B b 101 _ _ at hb
  change ∀ s, Writes Tryz.prog 126 5 B b 98 _ _ at hs
  have hl' : pre.length + (qB s.data.toList).length + 2 ≤ 140737488355328 := by simp at hl; omega
  have STEP : Aside (∀ (f : Nat) (args : List Value) (out q : List UInt8) (wr : World), Writes Tryz.prog 126 5 B b f args out → Aside (BA 126 5 B b w (pre ++ 34 :: q) wr) → q.length + out.length ≤ (qB s.data.toList).length + 1 →
      Calls Tryz.prog f (.pointer (some ⟨b, 0, none⟩) :: args).toArray wr fun e w' => (∃ v, e = .returned v) ∧ BA 126 5 B b w (pre ++ 34 :: (q ++ out)) w') := fun f args out q wr hw H hl2 => by
    have H' : BA 126 5 B b w (pre ++ 34 :: q) wr := H
    refine (hw wr _ H'.is (H'.size hB) (by simp; omega)).mono ?_
    rintro e w' ⟨hv, h2⟩
    refine ⟨hv, ?_⟩
    have := H'.trans h2
    simpa using this
  have HB2 : Aside (Writes Tryz.prog 126 5 B b 101 [.int .u8 34] [34]) := hb 34
  have HLEN : Aside (pre.length + (qB s.data.toList).length + 2 ≤ 140737488355328) := hl'
  go_enter Tryz.func100, Tryz.ntmps100
  go_wp2_with (go_at_call 101; refine (hb 34 _ _ h hB ?_).mono ?_)
  · simp; omega
  rintro e w1 ⟨⟨v, rfl⟩, h1⟩
  have HS : Aside (BA 126 5 B b w (pre ++ [34]) w1) := h1
  clear h1 h
  go_wp2
  go_loopg [9] s.size (fun g vi wr => ∃ (i : Nat) (q : List UInt8), vi = .int .i64 i ∧ i ≤ s.size ∧ s.size - i ≤ g ∧ Aside (q ++ qB (s.data.toList.drop i) = qB s.data.toList) ∧ Aside (BA 126 5 B b w (pre ++ 34 :: q) wr))
  case atStart => exact ⟨0, [], rfl, by omega, by omega, rfl, HS⟩
  case round =>
    obtain ⟨i, q, rfl, hi, hg, HQ, H1⟩ := hrel
    by_cases hlt : i < s.size
    · have hz : (i : Int) < (s.size : Int) := by omega
      have hz0 : (0 : Int) ≤ (i : Int) := by omega
      have hsz : s.size ≤ 140737488355328 := by have h5 : s.size ≤ _ := qB_len s.data.toList; omega
      have e1 := qB_drop s.data.toList i (by simpa using hlt)
      have e2 : s.data.toList[i]'(by simpa using hlt) = s[i] := by simp [ByteArray.getElem_eq_getElem_data]
      rw [e2, ← u8_eq s[i] 10 10 rfl, ← u8_eq s[i] 34 34 rfl, ← u8_eq s[i] 92 92 rfl] at e1
      have HN : ∀ out, (∀ o, o = out → o ++ qB (s.data.toList.drop (i + 1)) = qB (s.data.toList.drop i)) → Aside (q.length + out.length ≤ (qB s.data.toList).length + 1 ∧ (q ++ out) ++ qB (s.data.toList.drop (i + 1)) = qB s.data.toList) := fun out h => by
        have h3 := h out rfl
        have h4 : q ++ qB (s.data.toList.drop i) = qB s.data.toList := HQ
        have h5 := congrArg List.length h4
        have h6 := congrArg List.length h3
        simp at h5 h6
        exact ⟨by omega, by rw [List.append_assoc, h3, h4]⟩
      have HC := hb s[i]
      have HC2 := hb 92
      have HS2 := hs ⟨#[92, 110]⟩
      cases c1 : ((s[i].toNat : Int) == 10) with
      | true =>
        have HO := HN [92, 110] (fun o ho => by rw [e1, ho, c1]; rfl)
        go_wp2_with (go_at_call 98; refine (STEP.out _ _ _ _ _ HS2 H1 HO.1).mono ?_; rintro e w2 ⟨⟨v2, rfl⟩, h2⟩; have H2 : Aside _ := h2; clear h2)
        go_roundg (s.size - i - 1)
        case measure => omega
        case rel => exact ⟨i + 1, q ++ [92, 110], by go_num, by omega, by omega, HO.2, H2⟩
      | false =>
        cases c2 : ((s[i].toNat : Int) == 34) || ((s[i].toNat : Int) == 92) with
        | true =>
          have HO := HN [92, s[i]] (fun o ho => by rw [e1, ho, c1, c2]; rfl)
          have HO1 : Aside (q.length + [(92 : UInt8)].length ≤ (qB s.data.toList).length + 1) := by have := HO.1; simp at this; show _ ≤ _; simp; omega
          have HO2 : Aside ((q ++ [(92 : UInt8)]).length + [s[i]].length ≤ (qB s.data.toList).length + 1) := by have := HO.1; simp at this; show _ ≤ _; simp; omega
          cases c3 : ((s[i].toNat : Int) == 34) with
          | true =>
            go_wp2_with (first
              | (go_at_call 101; refine (STEP.out _ _ _ _ _ HC2 H1 HO1).mono ?_; rintro e w2 ⟨⟨v2, rfl⟩, h2⟩; have H2 : Aside _ := h2; clear h2 H1)
              | (go_at_call 101; refine (STEP.out _ _ _ _ _ HC H2 HO2).mono ?_; rintro e w2 ⟨⟨v2, rfl⟩, h2⟩; have H3 : Aside _ := h2; clear h2))
            go_roundg (s.size - i - 1)
            case measure => omega
            case rel => exact ⟨i + 1, q ++ [92, s[i]], by go_num, by omega, by omega, HO.2, by simpa using H3⟩
          | false =>
            have c4 : ((s[i].toNat : Int) == 92) = true := by rw [c3] at c2; simpa using c2
            go_wp2_with (first
              | (go_at_call 101; refine (STEP.out _ _ _ _ _ HC2 H1 HO1).mono ?_; rintro e w2 ⟨⟨v2, rfl⟩, h2⟩; have H2 : Aside _ := h2; clear h2 H1)
              | (go_at_call 101; refine (STEP.out _ _ _ _ _ HC H2 HO2).mono ?_; rintro e w2 ⟨⟨v2, rfl⟩, h2⟩; have H3 : Aside _ := h2; clear h2))
            go_roundg (s.size - i - 1)
            case measure => omega
            case rel => exact ⟨i + 1, q ++ [92, s[i]], by go_num, by omega, by omega, HO.2, by simpa using H3⟩
        | false =>
          have HO := HN [s[i]] (fun o ho => by rw [e1, ho, c1, c2]; rfl)
          obtain ⟨c3, c4⟩ := Bool.or_eq_false_iff.1 c2
          go_wp2_with (go_at_call 101; refine (STEP.out _ _ _ _ _ HC H1 HO.1).mono ?_; rintro e w2 ⟨⟨v2, rfl⟩, h2⟩; have H2 : Aside _ := h2; clear h2)
          go_roundg (s.size - i - 1)
          case measure => omega
          case rel => exact ⟨i + 1, q ++ [s[i]], by go_num, by omega, by omega, HO.2, H2⟩
    · have hz : ¬ ((i : Int) < (s.size : Int)) := by omega
      have hi' : i = s.size := by omega
      have hd : s.data.toList.drop i = [] := List.drop_eq_nil_of_le (by rw [hi', Array.length_toList]; exact Nat.le_refl _)
      have hq : q = qB s.data.toList := by
        have h4 : q ++ qB (s.data.toList.drop i) = qB s.data.toList := HQ
        rw [hd] at h4
        simpa [qB] using h4
      have HO : Aside (q.length + [(34 : UInt8)].length ≤ (qB s.data.toList).length + 1) := by show _ ≤ _; rw [hq]; exact Nat.le_refl _
      go_wp2_with (go_at_call 101; refine (STEP.out _ _ _ _ _ HB2.out H1 HO).mono ?_; rintro e w2 ⟨⟨v2, rfl⟩, h2⟩; have H2 : Aside _ := h2; clear h2)
      go_end0
      exact ⟨⟨_, rfl⟩, by rw [← hq]; exact H2⟩
theorem jn_drop (g : Row → Option (List UInt8)) (l : Rows) (i : Nat) (h : i < l.length) (c : Bool) : jn g c (l.drop i) = (g l[i]).bind fun x => (jn g false (l.drop (i + 1))).map fun y => (bif c then [] else [44]) ++ x ++ y := by
  rw [List.drop_eq_getElem_cons h]; rfl
theorem jn_len (g : Row → Option (List UInt8)) : ∀ (c : Bool) (l : Rows) (x : List UInt8), jn g c l = some x → l.length ≤ x.length + (bif c then 1 else 0)
  | c, [], x, _ => Nat.zero_le _
  | c, r :: l, x, h => by
    obtain ⟨xi, _, h⟩ := Option.bind_eq_some_iff.1 (show (g r).bind (fun x => (jn g false l).map fun y => (bif c then [] else [44]) ++ x ++ y) = some x from h)
    obtain ⟨y, hy, h⟩ := Option.map_eq_some_iff.1 h
    have h1 : l.length ≤ y.length + 0 := jn_len g false l y hy
    rw [← h, List.length_append, List.length_append, List.length_cons]
    cases c <;> simp <;> omega
/-- What a value of the machine's is, of a row. -/
theorem val_inv {E : En} {v : Value} {r : Row} (h : Rep Tryz.prog E v (.agg r)) (he : eta Tryz.prog 110 r = r) : ∃ a l c a' l' c', v = .agg #[.int .i64 (rInt r 0), .int .i64 (rInt r 1), .string (rStr r 2), .slice a l c, .slice a' l' c'] ∧
    Rep Tryz.prog E (.slice a l c) (.slice 110 (rSl r 3) .open) ∧ Rep Tryz.prog E (.slice a' l' c') (.slice 120 (rSl r 4) .open) := by
  have he' : [V.int .i64 (rInt r 0), .int .i64 (rInt r 1), .str (rStr r 2), .slice 110 (rSl r 3) .open, .slice 120 (rSl r 4) .open] = r := by
    refine Eq.trans ?_ he; kernel_rfl
  generalize rInt r 0 = n0 at *; generalize rInt r 1 = n1 at *; generalize rStr r 2 = s at *; generalize rSl r 3 = l at *; generalize rSl r 4 = f at *
  clear he; subst he'
  obtain ⟨cs, rfl, hl, hx⟩ := rep_agg_list h
  match cs, hl with
  | [c0, c1, c2, c3, c4], _ =>
    have e0 := rep_int_inv (hx 0 _ rfl); have e1 := rep_int_inv (hx 1 _ rfl); have e2 := rep_str_inv (hx 2 _ rfl)
    have h3 := hx 3 _ rfl; have h4 := hx 4 _ rfl
    obtain ⟨a, b, c, e3⟩ := rep_slice_list h3
    obtain ⟨a', b', c', e4⟩ := rep_slice_list h4
    simp at e0 e1 e2 e3 e4 h3 h4
    subst e0; subst e1; subst e2; subst e3; subst e4
    exact ⟨a, b, c, a', b', c', rfl, h3, h4⟩
theorem fld_inv {E : En} {v : Value} {r : Row} (h : Rep Tryz.prog E v (.agg r)) (he : eta Tryz.prog 120 r = r) : ∃ a l c a' l' c', v = .agg #[.string (rStr r 0), .int .i64 (rInt r 1), .int .i64 (rInt r 2), .string (rStr r 3), .slice a l c, .slice a' l' c'] ∧
    eta Tryz.prog 110 (r.drop 1) = r.drop 1 ∧ Rep Tryz.prog E (.agg #[.int .i64 (rInt r 1), .int .i64 (rInt r 2), .string (rStr r 3), .slice a l c, .slice a' l' c']) (.agg (r.drop 1)) := by
  have he' : [V.str (rStr r 0), .int .i64 (rInt r 1), .int .i64 (rInt r 2), .str (rStr r 3), .slice 110 (rSl r 4) .open, .slice 120 (rSl r 5) .open] = r := by
    refine Eq.trans ?_ he; kernel_rfl
  generalize rStr r 0 = q at *; generalize rInt r 1 = n0 at *; generalize rInt r 2 = n1 at *; generalize rStr r 3 = s at *; generalize rSl r 4 = l at *; generalize rSl r 5 = f at *
  clear he; subst he'
  obtain ⟨cs, rfl, hl, hx⟩ := rep_agg_list h
  match cs, hl with
  | [c, c0, c1, c2, c3, c4], _ =>
    have eq := rep_str_inv (hx 0 _ rfl)
    have e0 := rep_int_inv (hx 1 _ rfl); have e1 := rep_int_inv (hx 2 _ rfl); have e2 := rep_str_inv (hx 3 _ rfl)
    have h3 := hx 4 _ rfl; have h4 := hx 5 _ rfl
    obtain ⟨a, b, c, e3⟩ := rep_slice_list h3
    obtain ⟨a', b', c', e4⟩ := rep_slice_list h4
    simp at eq e0 e1 e2 e3 e4 h3 h4
    subst eq; subst e0; subst e1; subst e2; subst e3; subst e4
    refine ⟨a, b, c, a', b', c', rfl, by kernel_rfl, .agg _ _ rfl (fun i x hi => ?_)⟩
    match i, hi with
    | 0, hi => injection hi with hi; subst hi; exact .int _ _
    | 1, hi => injection hi with hi; subst hi; exact .int _ _
    | 2, hi => injection hi with hi; subst hi; exact .str _
    | 3, hi => injection hi with hi; subst hi; exact h3
    | 4, hi => injection hi with hi; subst hi; exact h4
noncomputable def WOk (B b f : Nat) (v : Value) (w : World) (pre out : List UInt8) : Prop := Calls Tryz.prog f #[.pointer (some ⟨b, 0, none⟩), v] w fun e w' => (∃ v, e = .returned v) ∧ BA 126 5 B b w (pre ++ out) w'
noncomputable def WAll (k g : Nat) : Prop := ∀ (r : Row) (out : List UInt8), vtxt k g r = some out → ∀ (B b : Nat) (w : World) (F : Nat → Nat → Prop) (v : Value) (pre : List UInt8), (∀ b o, F b o → b < B) → (∀ p, p ∈ tabs → p.1 < B) → GOk w (fun _ => False) → Rep Tryz.prog (E0 w F) v (.agg r) → eta Tryz.prog 110 r = r →
  Lib.IsBuilderF 126 5 B b (Lib.byteCells pre) w → B ≤ w.heap.size → pre.length + out.length ≤ 140737488355328 → WOk B b 74 v w pre out
theorem fb_w (k : Nat) (x : Bool) (s : ByteArray) (h : (strconv_FormatBool.f k x).eval = some s) (w : World) (hG : GOk w (fun _ => False)) : Calls Tryz.prog 99 #[.bool x] w fun e w' => e = .returned (.string s) ∧ RowKit.Below w.heap.size w w' :=
  fun_str (args := [.bool x]) (xs := [.bool x]) (ys := [.bool x]) (strconv_FormatBool.ok k) rfl rfl (fun E i y hi => by
    match i, hi with
    | 0, hi => injection hi with hi; subst hi; exact .bool _) (by
    show ((strconv_FormatBool.f k x).eval.bind fun r => some (V.str r)) = _
    rw [h]; rfl) w hG
theorem it_w (n : Int) (h0 : -9223372036854775808 ≤ n) (h1 : n ≤ 9223372036854775807) (w : World) (hG : GOk w (fun _ => False)) : Calls Tryz.prog 55 #[.int .i64 n] w fun e w' => e = .returned (.string ⟨(strconv_Itoa.itz n).toArray⟩) ∧ RowKit.Below w.heap.size w w' := by
  refine (Any.strconv_Itoa lay_itoa n h0 h1 w (strconv_Itoa.tab_is hG)).mono ?_
  rintro e w' ⟨he, k, os, rfl⟩
  rw [strconv_Itoa.itz_eq n h0 h1] at he
  exact ⟨he, rfl, rfl, rfl, by show w.heap.size ≤ (w.heap ++ os).size; simp, fun j hj => by show (w.heap ++ os)[j]? = _; rw [Array.getElem?_append_left hj]⟩
theorem step (B b : Nat) (w : World) (pre : List UInt8) (hB : B ≤ w.heap.size) (f : Nat) (args : List Value) (out q : List UInt8) (wr : World) (hw : Writes Tryz.prog 126 5 B b f args out) (H : Aside (BA 126 5 B b w (pre ++ q) wr)) (hl : pre.length + (q.length + out.length) ≤ 140737488355328) :
    Calls Tryz.prog f (.pointer (some ⟨b, 0, none⟩) :: args).toArray wr fun e w' => (∃ v, e = .returned v) ∧ BA 126 5 B b w (pre ++ (q ++ out)) w' := by
  have H' : BA 126 5 B b w (pre ++ q) wr := H
  refine (hw wr _ H'.is (H'.size hB) (by rw [List.length_append]; omega)).mono ?_
  rintro e w' ⟨hv, h2⟩
  refine ⟨hv, ?_⟩
  have := H'.trans h2
  rwa [List.append_assoc] at this
set_option maxHeartbeats 4000000 in
theorem write_s (k g : Nat) (ih : WAll k g) : WAll k (g + 1) := by
  intro r out h B b w F v pre hF hT hG hv he hb hB hl
  obtain ⟨a, l, c, a', l', c', rfl, hL, hM⟩ := val_inv hv he
  unfold vtxt at h
  unfold WOk
  generalize rInt r 0 = n0 at *
  generalize rInt r 1 = n1 at *
  generalize rStr r 2 = s at *
  have hby := fun c => writes_byte lay_wb lay_bx B b c
  have hst := fun s => writes_string lay_ws lay_bx B b s
  change ∀ c, Writes Tryz.prog 126 5 B b 101 _ _ at hby
  change ∀ s, Writes Tryz.prog 126 5 B b 98 _ _ at hst
  have ST : Aside _ := step B b w pre hB
  have H0 : Aside (BA 126 5 B b w (pre ++ []) (w.alloc (.cells #[.int .i64 n0, .int .i64 n1, .string s, .slice a l c, .slice a' l' c'] 110))) := by
    rw [List.append_nil]; exact (BA.refl hb).alloc hB _
  have hl : pre.length + (([] : List UInt8).length + out.length) ≤ 140737488355328 := by simpa using hl
  have HG : Aside (GOk (w.alloc (.cells #[.int .i64 n0, .int .i64 n1, .string s, .slice a l c, .slice a' l' c'] 110)) (fun _ => False)) := GOk.under hG hT ((RowKit.Below.refl _ _).alloc hB _)
  have HT : Aside (∀ p, p ∈ tabs → p.1 < B) := hT
  have HG0 : Aside (GOk w (fun _ => False)) := hG
  clear hv he hT hG
  cases c0 : n0 == 0 with
  | true =>
    have h : some [110, 117, 108, 108] = some out := by have : iEq n0 0 = true := c0; rw [this] at h; exact h
    injection h with h; subst h
    go_enter Tryz.func74, Tryz.ntmps74
    go_wp2_with (go_at_call 98; refine (ST.out _ _ _ _ _ (hst ⟨#[110, 117, 108, 108]⟩) H0 hl).mono ?_; rintro e w2 ⟨⟨v2, rfl⟩, h2⟩)
    go_end0
    exact ⟨⟨_, rfl⟩, h2⟩
  | false =>
  cases c1 : n0 == 1 with
  | true =>
    have h : (strconv_FormatBool.f k (iEq n1 1)).eval.map (·.data.toList) = some out := by
      have k0 : iEq n0 0 = false := c0
      have k1 : iEq n0 1 = true := c1
      rw [k0, k1] at h; exact h
    rw [Option.map_eq_some_iff] at h
    obtain ⟨t, ht, rfl⟩ := h
    have hfb := fb_w k (n1 == 1) t ht _ HG.out
    go_enter Tryz.func74, Tryz.ntmps74
    go_wp2_with (first
      | (go_at_call 99; refine hfb.mono ?_; rintro e w2 ⟨rfl, h2⟩; have H1 : Aside _ := BA.call H0 hB h2; clear h2)
      | (go_at_call 98; refine (ST.out _ _ _ _ _ (hst t) H1 hl).mono ?_; rintro e w3 ⟨⟨v2, rfl⟩, h2⟩))
    go_end0
    exact ⟨⟨_, rfl⟩, h2⟩
  | false =>
  cases c2 : n0 == 2 with
  | true =>
    have h : (bif strconv_Itoa.iR n1 then some (strconv_Itoa.itz n1) else none) = some out := by
      have k0 : iEq n0 0 = false := c0
      have k1 : iEq n0 1 = false := c1
      have k2 : iEq n0 2 = true := c2
      rw [k0, k1, k2] at h; exact h
    rw [cond_eq_ite] at h
    split at h
    case isFalse => cases h
    rename_i hr
    injection h with h
    have hr' := Bool.and_eq_true_iff.1 hr
    have hfb := it_w n1 (of_decide_eq_true hr'.1) (of_decide_eq_true hr'.2) _ HG.out
    obtain ⟨t, ht⟩ : ∃ t : ByteArray, t = ⟨(strconv_Itoa.itz n1).toArray⟩ := ⟨_, rfl⟩
    rw [← ht] at hfb
    have h : t.data.toList = out := by rw [ht]; exact h
    subst h
    clear ht hr hr'
    go_enter Tryz.func74, Tryz.ntmps74
    go_wp2_with (first
      | (go_at_call 55; refine hfb.mono ?_; rintro e w2 ⟨rfl, h2⟩; have H1 : Aside _ := BA.call H0 hB h2; clear h2)
      | (go_at_call 98; refine (ST.out _ _ _ _ _ (hst t) H1 hl).mono ?_; rintro e w3 ⟨⟨v2, rfl⟩, h2⟩))
    go_end0
    exact ⟨⟨_, rfl⟩, h2⟩
  | false =>
  cases c3 : n0 == 3 with
  | true =>
    have h : some (qt s) = some out := by
      have k0 : iEq n0 0 = false := c0
      have k1 : iEq n0 1 = false := c1
      have k2 : iEq n0 2 = false := c2
      have k3 : iEq n0 3 = true := c3
      rw [k0, k1, k2, k3] at h; exact h
    injection h with h; subst h
    have hq := quote_w B b s
    go_enter Tryz.func74, Tryz.ntmps74
    go_wp2_with (go_at_call 100; refine (ST.out _ _ _ _ _ hq H0 hl).mono ?_; rintro e w2 ⟨⟨v2, rfl⟩, h2⟩)
    go_end0
    exact ⟨⟨_, rfl⟩, h2⟩
  | false =>
  have h : (bif iEq n0 4 then (jn (vtxt k g) true (rSl r 3)).map fun x => 91 :: (x ++ [93]) else (jn (fun q => (vtxt k g (q.drop 1)).map fun x => qt (rStr q 0) ++ 58 :: x) true (rSl r 4)).map fun x => 123 :: (x ++ [125])) = some out := by
    have k0 : iEq n0 0 = false := c0
    have k1 : iEq n0 1 = false := c1
    have k2 : iEq n0 2 = false := c2
    have k3 : iEq n0 3 = false := c3
    rw [k0, k1, k2, k3] at h; exact h
  generalize rSl r 3 = es at *
  generalize rSl r 4 = fs at *
  have hbw : b < w.heap.size := by
    rcases hb with ⟨_, v, hb, _⟩ | ⟨_, v, hb, _⟩ <;> exact (Array.getElem?_eq_some_iff.1 hb).1
  have HW : Aside (BA 126 5 B b w pre (w.alloc (.cells #[.int .i64 n0, .int .i64 n1, .string s, .slice a l c, .slice a' l' c'] 110))) := (BA.refl hb).alloc hB _
  have hB1 : B ≤ (w.alloc (.cells #[.int .i64 n0, .int .i64 n1, .string s, .slice a l c, .slice a' l' c'] 110)).heap.size := HW.out.size hB
  obtain ⟨w1, hw1⟩ : ∃ w1, w1 = w.alloc (.cells #[.int .i64 n0, .int .i64 n1, .string s, .slice a l c, .slice a' l' c'] 110) := ⟨_, rfl⟩
  have hbox : w1.heap[w.heap.size]? = some (.cells #[.int .i64 n0, .int .i64 n1, .string s, .slice a l c, .slice a' l' c'] 110 (0, 0)) := by rw [hw1]; exact alloc_new w _
  have ST1 : Aside _ := step B b w1 pre (by rw [hw1]; exact hB1)
  have H1 : Aside (BA 126 5 B b w1 (pre ++ []) w1) := by rw [List.append_nil]; exact BA.refl (by rw [hw1]; exact HW.out.is)
  have HBX : Aside _ := hbox
  have HW1 : Aside _ := hw1
  clear hbox hw1
  cases c4 : n0 == 4 with
  | true =>
    have h : ((jn (vtxt k g) true es).map fun x => 91 :: (x ++ [93])) = some out := by
      have k4 : iEq n0 4 = true := c4
      rw [k4] at h; exact h
    rw [Option.map_eq_some_iff] at h
    obtain ⟨x, hx, rfl⟩ := h
    go_enter Tryz.func74, Tryz.ntmps74
    have hlx : pre.length + x.length + 2 ≤ 140737488355328 := by simp at hl; omega
    have l1 : pre.length + (([] : List UInt8).length + [(91 : UInt8)].length) ≤ 140737488355328 := by simp; omega
    have HB9 := hby 91
    have HB1 : Aside (B ≤ w1.heap.size) := by rw [HW1.out]; exact hB1
    have LEN : Aside (es.length ≤ 140737488355328) := by show _ ≤ _; have := jn_len _ true es x hx; simp at this; omega
    clear hB1
    obtain ⟨rfl, hlc, hat⟩ := sl_at hL
    have HAT : Aside _ := hat
    have HF : Aside _ := hF
    have HM : Aside _ := hM
    clear hat hL hF hM hb
    go_wp2_with (go_at_call 101; rw [← HW1.out]; refine (ST1.out _ _ _ _ _ HB9 H1 l1).mono ?_; rintro e w2 ⟨⟨v2, rfl⟩, h2⟩; have hc3 : w2.cell? ⟨w.heap.size, 3, none⟩ = some (.slice a es.length c) := (cell_box (h2.box HBX.out (by omega) (by decide))).trans rfl; have H2 : Aside (BA 126 5 B b w1 (pre ++ 91 :: []) w2) := h2; clear h2)
    go_wp2
    go_loopg [69] es.length (fun gk vi wr => ∃ (i : Nat) (q : List UInt8), vi = .int .i64 i ∧ i ≤ es.length ∧ es.length - i ≤ gk ∧ Aside (∃ y, jn (vtxt k g) (i == 0) (es.drop i) = some y ∧ q ++ y = x) ∧ Aside (BA 126 5 B b w1 (pre ++ 91 :: q) wr))
    case atStart => exact ⟨0, [], rfl, Nat.zero_le _, Nat.le_refl _, ⟨x, hx, rfl⟩, H2⟩
    case round =>
      clear hc3
      obtain ⟨i, q, rfl, hi, hg, HY, H3⟩ := hrel
      by_cases hlt : i < es.length
      · obtain ⟨A, sz, cs, rfl, hsz, hcl, he2, hR, hcc⟩ := HAT.out i hlt
        have hsz5 : sz = 5 := by
          have : sizeT Tryz.prog 110 = some 5 := by kernel_rfl
          rw [this] at hsz; injection hsz with e; exact e.symm
        subst hsz5
        obtain ⟨ya, yl, yc, ya', yl', yc', ecs, _, _⟩ := val_inv hR he2
        have ecs : cs = [.int .i64 (rInt es[i] 0), .int .i64 (rInt es[i] 1), .string (rStr es[i] 2), .slice ya yl yc, .slice ya' yl' yc'] := by
          injection ecs with e; exact congrArg Array.toList e
        rw [ecs] at hR
        have hAB : A.block < B := HF.out _ _ (hcc 0 _ (by rw [ecs]; rfl)).2
        have hbel : RowKit.Below B w wr := by have h5 := HW.out.below; rw [← HW1.out] at h5; exact h5.trans (BA.below H3)
        have hbw : ∀ n, (A.add n).block < B := fun n => by rw [addr_add_block]; exact hAB
        have f0 : wr.cell? (A.add (i * 5)) = some (.int .i64 (rInt es[i] 0)) := (hbel.cell (hbw _)).trans (hcc 0 _ (by rw [ecs]; rfl)).1
        have f1 : wr.cell? ⟨(A.add (i * 5)).block, (A.add (i * 5)).off + 1, none⟩ = some (.int .i64 (rInt es[i] 1)) := by rw [← add_fld _ _ 1 (by omega)]; exact (hbel.cell (hbw _)).trans (hcc 1 _ (by rw [ecs]; rfl)).1
        have f2 : wr.cell? ⟨(A.add (i * 5)).block, (A.add (i * 5)).off + 2, none⟩ = some (.string (rStr es[i] 2)) := by rw [← add_fld _ _ 2 (by omega)]; exact (hbel.cell (hbw _)).trans (hcc 2 _ (by rw [ecs]; rfl)).1
        have f3 : wr.cell? ⟨(A.add (i * 5)).block, (A.add (i * 5)).off + 3, none⟩ = some (.slice ya yl yc) := by rw [← add_fld _ _ 3 (by omega)]; exact (hbel.cell (hbw _)).trans (hcc 3 _ (by rw [ecs]; rfl)).1
        have f4 : wr.cell? ⟨(A.add (i * 5)).block, (A.add (i * 5)).off + 4, none⟩ = some (.slice ya' yl' yc') := by rw [← add_fld _ _ 4 (by omega)]; exact (hbel.cell (hbw _)).trans (hcc 4 _ (by rw [ecs]; rfl)).1
        clear hcc ecs hcl hsz hbw hbel
        have hz : (i : Int) < (es.length : Int) := by omega
        have hz0 : (0 : Int) ≤ (i : Int) := by omega
        have hlen63 : es.length ≤ 140737488355328 := LEN.out
        have hbr : b < wr.heap.size := BA.lt H3
        obtain ⟨y, hy, hqy⟩ := HY
        rw [jn_drop _ _ _ hlt] at hy
        obtain ⟨xi, hxi, hy⟩ := Option.bind_eq_some_iff.1 hy
        obtain ⟨y', hy', hyy⟩ := Option.map_eq_some_iff.1 hy
        have hxl : q.length + y.length = x.length := by rw [← hqy]; simp
        have hyl : xi.length + y'.length ≤ y.length := by rw [← hyy]; simp <;> omega
        have C50 : Aside (∀ p W', Aside (BA 126 5 B b w1 (pre ++ 91 :: p) W') → p.length + xi.length ≤ x.length → Calls Tryz.prog 74 #[.pointer (some ⟨b, 0, none⟩), .agg #[.int .i64 (rInt es[i] 0), .int .i64 (rInt es[i] 1), .string (rStr es[i] 2), .slice ya yl yc, .slice ya' yl' yc']] W' fun e w' => (∃ v, e = .returned v) ∧ BA 126 5 B b w1 (pre ++ 91 :: (p ++ xi)) w') := fun p W' HP hl' => by
          have HP' : BA 126 5 B b w1 (pre ++ 91 :: p) W' := HP
          have hb1 : RowKit.Below B w W' := by have h5 := HW.out.below; rw [← HW1.out] at h5; exact h5.trans HP'.below
          refine (ih _ _ hxi B b W' F _ (pre ++ 91 :: p) HF.out HT.out (HG0.out.under HT.out hb1) (rep0_below HF.out hb1 hR) he2 HP'.is (HP'.size HB1.out) (by simp; omega)).mono ?_
          rintro e w' ⟨hv, h2⟩
          exact ⟨hv, by have := HP'.trans h2; simpa using this⟩
        have C90 : Aside (∀ W', Aside (BA 126 5 B b w1 (pre ++ 91 :: q) W') → q.length + 1 ≤ x.length → Calls Tryz.prog 101 #[.pointer (some ⟨b, 0, none⟩), .int .u8 44] W' fun e w' => (∃ v, e = .returned v) ∧ BA 126 5 B b w1 (pre ++ 91 :: (q ++ [44])) w' ∧ BA 126 5 B b W' (pre ++ 91 :: (q ++ [44])) w') := fun W' HP hl' => by
          have HP' : BA 126 5 B b w1 (pre ++ 91 :: q) W' := HP
          refine (hby 44 W' _ HP'.is (HP'.size HB1.out) (by simp; omega)).mono ?_
          rintro e w' ⟨hv, h2⟩
          have h2' : BA 126 5 B b W' (pre ++ 91 :: (q ++ [44])) w' := by simpa using h2
          exact ⟨hv, HP'.trans h2', h2'⟩
        have HQY : Aside (q ++ y = x ∧ (bif i == 0 then [] else [44]) ++ xi ++ y' = y ∧ jn (vtxt k g) false (es.drop (i + 1)) = some y') := ⟨hqy, hyy, hy'⟩
        have HLL : Aside (q.length + y.length = x.length ∧ xi.length + y'.length ≤ y.length) := ⟨hxl, hyl⟩
        clear hy hqy hyy hy' hxi hxl hyl hR
        generalize rInt es[i] 0 = m0 at *
        generalize rInt es[i] 1 = m1 at *
        generalize rStr es[i] 2 = m2 at *
        rcases Nat.eq_zero_or_pos i with h0 | h0
        · have hgt : ¬ ((0 : Int) < (i : Int)) := by omega
          have HI : Aside (i = 0) := h0
          clear h0
          go_wp2_with (go_at_call 74; refine (C50.out q _ (BA.alloc H3 HB1.out _) (by have := HLL.out; omega)).mono ?_; rintro e w3 ⟨⟨v3, rfl⟩, h3⟩; have H4 : Aside _ := h3; clear h3)
          go_roundg (es.length - i - 1)
          case measure => omega
          case rel =>
            obtain ⟨q1, q2, q3⟩ := HQY.out
            refine ⟨i + 1, q ++ xi, by go_num, by omega, by omega, ⟨y', by simpa using q3, ?_⟩, H4⟩
            rw [HI.out] at q2
            rw [← q1, ← q2]; simp
        · have hgt : (0 : Int) < (i : Int) := by omega
          have HI : Aside (0 < i) := h0
          have hcm : 1 + xi.length ≤ y.length := by
            have q2 := HQY.out.2.1
            have h9 : (i == 0) = false := by simp; omega
            rw [h9] at q2
            rw [← q2]; simp; omega
          clear h0
          have L1 : Aside (q.length + 1 ≤ x.length) := by show _ ≤ _; have := HLL.out; omega
          have L2 : Aside ((q ++ [(44 : UInt8)]).length + xi.length ≤ x.length) := by show _ ≤ _; have := HLL.out; simp; omega
          clear hcm
          go_wp2_with (first
            | (go_at_call 101; refine (C90.out _ (BA.alloc H3 HB1.out _) L1).mono ?_; rintro e w3 ⟨⟨v3, rfl⟩, h3, h4⟩; have hbx := BA.box h4 (alloc_new wr _) (by omega) (by decide); have g0 := (cell_box (j := 0) hbx).trans rfl; have g1 := (cell_box (j := 1) hbx).trans rfl; have g2 := (cell_box (j := 2) hbx).trans rfl; have g3 := (cell_box (j := 3) hbx).trans rfl; have g4 := (cell_box (j := 4) hbx).trans rfl; simp only [List.getElem?_toArray, List.getElem?_cons_zero, List.getElem?_cons_succ] at g0 g1 g2 g3 g4; have H4 : Aside _ := h3; clear h3 h4 hbx)
            | (go_at_call 74; refine (C50.out (q ++ [44]) _ H4 L2).mono ?_; rintro e w4 ⟨⟨v4, rfl⟩, h3⟩; have H5 : Aside _ := h3; clear h3))
          go_roundg (es.length - i - 1)
          case measure => omega
          case rel =>
            obtain ⟨q1, q2, q3⟩ := HQY.out
            refine ⟨i + 1, q ++ [44] ++ xi, by go_num, by omega, by omega, ⟨y', by simpa using q3, ?_⟩, H5⟩
            have h9 : (i == 0) = false := by have := HI.out; simp; omega
            rw [h9] at q2
            rw [← q1, ← q2]; simp
      · have hz : ¬ ((i : Int) < (es.length : Int)) := by omega
        have hi' : i = es.length := by omega
        have hq : q = x := by
          obtain ⟨y, hy, hqy⟩ := HY
          rw [List.drop_eq_nil_of_le (by omega)] at hy
          have hy : some ([] : List UInt8) = some y := hy
          injection hy with hy; subst hy
          simpa using hqy
        have HO : Aside (pre.length + ((91 :: q).length + [(93 : UInt8)].length) ≤ 140737488355328) := by show _ ≤ _; rw [hq]; simp; omega
        have HB93 := hby 93
        go_wp2_with (go_at_call 101; refine (ST1.out _ _ _ _ _ HB93 H3 HO).mono ?_; rintro e w3 ⟨⟨v3, rfl⟩, h3⟩; have H4 : Aside _ := h3; clear h3)
        go_end0
        refine ⟨⟨_, rfl⟩, ?_⟩
        rw [← hq]
        have h5 := HW.out; rw [← HW1.out] at h5
        exact h5.trans H4
  | false =>
    have h : ((jn (fun q => (vtxt k g (q.drop 1)).map fun x => qt (rStr q 0) ++ 58 :: x) true fs).map fun x => 123 :: (x ++ [125])) = some out := by
      have k4 : iEq n0 4 = false := c4
      rw [k4] at h; exact h
    rw [Option.map_eq_some_iff] at h
    obtain ⟨x, hx, rfl⟩ := h
    go_enter Tryz.func74, Tryz.ntmps74
    have hlx : pre.length + x.length + 2 ≤ 140737488355328 := by simp at hl; omega
    have l1 : pre.length + (([] : List UInt8).length + [(123 : UInt8)].length) ≤ 140737488355328 := by simp; omega
    have HB9 := hby 123
    have HB1 : Aside (B ≤ w1.heap.size) := by rw [HW1.out]; exact hB1
    have LEN : Aside (fs.length ≤ 140737488355328) := by show _ ≤ _; have := jn_len _ true fs x hx; simp at this; omega
    clear hB1
    obtain ⟨rfl, hlc, hat⟩ := sl_at hM
    have HAT : Aside _ := hat
    have HF : Aside _ := hF
    clear hat hL hF hM hb
    go_wp2_with (go_at_call 101; rw [← HW1.out]; refine (ST1.out _ _ _ _ _ HB9 H1 l1).mono ?_; rintro e w2 ⟨⟨v2, rfl⟩, h2⟩; have hc3 : w2.cell? ⟨w.heap.size, 4, none⟩ = some (.slice a' fs.length c') := (cell_box (h2.box HBX.out (by omega) (by decide))).trans rfl; have H2 : Aside (BA 126 5 B b w1 (pre ++ 123 :: []) w2) := h2; clear h2)
    go_wp2
    go_loopg [15] fs.length (fun gk vi wr => ∃ (i : Nat) (q : List UInt8), vi = .int .i64 i ∧ i ≤ fs.length ∧ fs.length - i ≤ gk ∧ Aside (∃ y, jn (fun q => (vtxt k g (q.drop 1)).map fun x => qt (rStr q 0) ++ 58 :: x) (i == 0) (fs.drop i) = some y ∧ q ++ y = x) ∧ Aside (BA 126 5 B b w1 (pre ++ 123 :: q) wr))
    case atStart => exact ⟨0, [], rfl, Nat.zero_le _, Nat.le_refl _, ⟨x, hx, rfl⟩, H2⟩
    case round =>
      clear hc3
      obtain ⟨i, q, rfl, hi, hg, HY, H3⟩ := hrel
      by_cases hlt : i < fs.length
      · obtain ⟨A, sz, cs, rfl, hsz, hcl, he2, hR, hcc⟩ := HAT.out i hlt
        have hsz6 : sz = 6 := by
          have : sizeT Tryz.prog 120 = some 6 := by kernel_rfl
          rw [this] at hsz; injection hsz with e; exact e.symm
        subst hsz6
        obtain ⟨ya, yl, yc, ya', yl', yc', ecs, he3, hR3⟩ := fld_inv hR he2
        have ecs : cs = [.string (rStr fs[i] 0), .int .i64 (rInt fs[i] 1), .int .i64 (rInt fs[i] 2), .string (rStr fs[i] 3), .slice ya yl yc, .slice ya' yl' yc'] := by
          injection ecs with e; exact congrArg Array.toList e
        have hAB : A.block < B := HF.out _ _ (hcc 0 _ (by rw [ecs]; rfl)).2
        have hbel : RowKit.Below B w wr := by have h5 := HW.out.below; rw [← HW1.out] at h5; exact h5.trans (BA.below H3)
        have hbw : ∀ n, (A.add n).block < B := fun n => by rw [addr_add_block]; exact hAB
        have f0 : wr.cell? (A.add (i * 6)) = some (.string (rStr fs[i] 0)) := (hbel.cell (hbw _)).trans (hcc 0 _ (by rw [ecs]; rfl)).1
        have f1 : wr.cell? ⟨(A.add (i * 6)).block, (A.add (i * 6)).off + 1, none⟩ = some (.int .i64 (rInt fs[i] 1)) := by rw [← add_fld _ _ 1 (by omega)]; exact (hbel.cell (hbw _)).trans (hcc 1 _ (by rw [ecs]; rfl)).1
        have f2 : wr.cell? ⟨(A.add (i * 6)).block, (A.add (i * 6)).off + 2, none⟩ = some (.int .i64 (rInt fs[i] 2)) := by rw [← add_fld _ _ 2 (by omega)]; exact (hbel.cell (hbw _)).trans (hcc 2 _ (by rw [ecs]; rfl)).1
        have f3 : wr.cell? ⟨(A.add (i * 6)).block, (A.add (i * 6)).off + 3, none⟩ = some (.string (rStr fs[i] 3)) := by rw [← add_fld _ _ 3 (by omega)]; exact (hbel.cell (hbw _)).trans (hcc 3 _ (by rw [ecs]; rfl)).1
        have f4 : wr.cell? ⟨(A.add (i * 6)).block, (A.add (i * 6)).off + 4, none⟩ = some (.slice ya yl yc) := by rw [← add_fld _ _ 4 (by omega)]; exact (hbel.cell (hbw _)).trans (hcc 4 _ (by rw [ecs]; rfl)).1
        have f5 : wr.cell? ⟨(A.add (i * 6)).block, (A.add (i * 6)).off + 5, none⟩ = some (.slice ya' yl' yc') := by rw [← add_fld _ _ 5 (by omega)]; exact (hbel.cell (hbw _)).trans (hcc 5 _ (by rw [ecs]; rfl)).1
        clear hcc ecs hcl hsz hbw hbel hR
        have hz : (i : Int) < (fs.length : Int) := by omega
        have hz0 : (0 : Int) ≤ (i : Int) := by omega
        have hlen63 : fs.length ≤ 140737488355328 := LEN.out
        have hbr : b < wr.heap.size := BA.lt H3
        obtain ⟨y, hy, hqy⟩ := HY
        rw [jn_drop _ _ _ hlt] at hy
        obtain ⟨xi, hxi, hy⟩ := Option.bind_eq_some_iff.1 hy
        obtain ⟨y', hy', hyy⟩ := Option.map_eq_some_iff.1 hy
        obtain ⟨xv, hxv, hxi⟩ := Option.map_eq_some_iff.1 hxi
        have hxl : q.length + y.length = x.length := by rw [← hqy]; simp
        have hyl : xi.length + y'.length ≤ y.length := by rw [← hyy]; simp <;> omega
        have hvl : (qt (rStr fs[i] 0)).length + 1 + xv.length = xi.length := by rw [← hxi]; simp; omega
        have C50 : Aside (∀ p W', Aside (BA 126 5 B b w1 (pre ++ 123 :: p) W') → p.length + xv.length ≤ x.length → Calls Tryz.prog 74 #[.pointer (some ⟨b, 0, none⟩), .agg #[.int .i64 (rInt fs[i] 1), .int .i64 (rInt fs[i] 2), .string (rStr fs[i] 3), .slice ya yl yc, .slice ya' yl' yc']] W' fun e w' => (∃ v, e = .returned v) ∧ BA 126 5 B b w1 (pre ++ 123 :: (p ++ xv)) w') := fun p W' HP hl' => by
          have HP' : BA 126 5 B b w1 (pre ++ 123 :: p) W' := HP
          have hb1 : RowKit.Below B w W' := by have h5 := HW.out.below; rw [← HW1.out] at h5; exact h5.trans HP'.below
          refine (ih _ _ hxv B b W' F _ (pre ++ 123 :: p) HF.out HT.out (HG0.out.under HT.out hb1) (rep0_below HF.out hb1 hR3) he3 HP'.is (HP'.size HB1.out) (by simp; omega)).mono ?_
          rintro e w' ⟨hv, h2⟩
          exact ⟨hv, by have := HP'.trans h2; simpa using this⟩
        have CW : Aside (∀ f args out p W', Aside (Writes Tryz.prog 126 5 B b f args out) → Aside (BA 126 5 B b w1 (pre ++ 123 :: p) W') → Aside (p.length + out.length ≤ x.length) → Calls Tryz.prog f (.pointer (some ⟨b, 0, none⟩) :: args).toArray W' fun e w' => (∃ v, e = .returned v) ∧ BA 126 5 B b w1 (pre ++ 123 :: (p ++ out)) w' ∧ BA 126 5 B b W' (pre ++ 123 :: (p ++ out)) w') := fun f args out p W' HB HP hl' => by
          have HP' : BA 126 5 B b w1 (pre ++ 123 :: p) W' := HP
          have hl' : p.length + out.length ≤ x.length := hl'
          have HB' : Writes Tryz.prog 126 5 B b f args out := HB
          refine (HB' W' _ HP'.is (HP'.size HB1.out) (by simp; omega)).mono ?_
          rintro e w' ⟨hv, h2⟩
          have h2' : BA 126 5 B b W' (pre ++ 123 :: (p ++ out)) w' := by simpa using h2
          exact ⟨hv, HP'.trans h2', h2'⟩
        have W44 : Aside (Writes Tryz.prog 126 5 B b 101 [.int .u8 44] [44]) := hby 44
        have W58 : Aside (Writes Tryz.prog 126 5 B b 101 [.int .u8 58] [58]) := hby 58
        have WQ : Aside (Writes Tryz.prog 126 5 B b 100 [.string (rStr fs[i] 0)] (qt (rStr fs[i] 0))) := quote_w B b _
        have HQY : Aside (q ++ y = x ∧ (bif i == 0 then [] else [44]) ++ xi ++ y' = y ∧ jn (fun q => (vtxt k g (q.drop 1)).map fun x => qt (rStr q 0) ++ 58 :: x) false (fs.drop (i + 1)) = some y' ∧ qt (rStr fs[i] 0) ++ 58 :: xv = xi) := ⟨hqy, hyy, hy', hxi⟩
        have HLL : Aside (q.length + y.length = x.length ∧ xi.length + y'.length ≤ y.length ∧ (qt (rStr fs[i] 0)).length + 1 + xv.length = xi.length) := ⟨hxl, hyl, hvl⟩
        clear hy hqy hyy hy' hxi hxl hyl hR3 hvl hxv he3 he2
        generalize rInt fs[i] 1 = m0 at *
        generalize rInt fs[i] 2 = m1 at *
        generalize rStr fs[i] 3 = m2 at *
        generalize rStr fs[i] 0 = nm at *
        rcases Nat.eq_zero_or_pos i with h0 | h0
        · have hgt : ¬ ((0 : Int) < (i : Int)) := by omega
          have HI : Aside (i = 0) := h0
          clear h0
          have L1 : Aside (q.length + (qt nm).length ≤ x.length) := by show _ ≤ _; have := HLL.out; omega
          have L2 : Aside ((q ++ qt nm).length + [(58 : UInt8)].length ≤ x.length) := by show _ ≤ _; have := HLL.out; simp; omega
          have L3 : (q ++ qt nm ++ [(58 : UInt8)]).length + xv.length ≤ x.length := by have := HLL.out; simp; omega
          have L3 : Aside _ := L3
          go_wp2_with (first
            | (go_at_call 100; refine (CW.out _ _ _ _ _ WQ (BA.alloc H3 HB1.out _) L1).mono ?_; rintro e w3 ⟨⟨v3, rfl⟩, h3, h4⟩; have hbx := BA.box h4 (alloc_new wr _) (by omega) (by decide); have HB3 : Aside _ := hbx; have H4 : Aside _ := h3; clear h3 h4 hbx)
            | (go_at_call 101; refine (CW.out _ _ _ _ _ W58 H4 L2).mono ?_; rintro e w4 ⟨⟨v4, rfl⟩, h3, h4⟩; have hbx := BA.box h4 HB3.out (by omega) (by decide); have g1 := (cell_box (j := 1) hbx).trans rfl; have g2 := (cell_box (j := 2) hbx).trans rfl; have g3 := (cell_box (j := 3) hbx).trans rfl; have g4 := (cell_box (j := 4) hbx).trans rfl; have g5 := (cell_box (j := 5) hbx).trans rfl; simp only [List.getElem?_toArray, List.getElem?_cons_zero, List.getElem?_cons_succ] at g1 g2 g3 g4 g5; have H5 : Aside _ := h3; clear h3 h4 hbx)
            | (go_at_call 74; refine (C50.out _ _ H5 L3.out).mono ?_; rintro e w5 ⟨⟨v5, rfl⟩, h3⟩; have H6 : Aside _ := h3; clear h3))
          go_roundg (fs.length - i - 1)
          case measure => omega
          case rel =>
            obtain ⟨q1, q2, q3, q4⟩ := HQY.out
            refine ⟨i + 1, q ++ qt nm ++ [58] ++ xv, by go_num, by omega, by omega, ⟨y', by simpa using q3, ?_⟩, H6⟩
            rw [HI.out] at q2
            rw [← q1, ← q2, ← q4]; simp
        · have hgt : (0 : Int) < (i : Int) := by omega
          have HI : Aside (0 < i) := h0
          have hcm : 1 + xi.length ≤ y.length := by
            have q2 := HQY.out.2.1
            have h9 : (i == 0) = false := by simp; omega
            rw [h9] at q2
            rw [← q2]; simp; omega
          clear h0
          have L0 : Aside (q.length + [(44 : UInt8)].length ≤ x.length) := by show _ ≤ _; have := HLL.out; simp; omega
          have L1 : Aside ((q ++ [(44 : UInt8)]).length + (qt nm).length ≤ x.length) := by show _ ≤ _; have := HLL.out; simp; omega
          have L2 : Aside ((q ++ [(44 : UInt8)] ++ qt nm).length + [(58 : UInt8)].length ≤ x.length) := by show _ ≤ _; have := HLL.out; simp; omega
          have L3 : Aside ((q ++ [(44 : UInt8)] ++ qt nm ++ [(58 : UInt8)]).length + xv.length ≤ x.length) := by show _ ≤ _; have := HLL.out; simp; omega
          clear hcm
          go_wp2_with (first
            | (go_at_call 101; refine (CW.out _ _ _ _ _ W44 (BA.alloc H3 HB1.out _) L0).mono ?_; clear W44; rintro e w3 ⟨⟨v3, rfl⟩, h3, h4⟩; have hbx := BA.box h4 (alloc_new wr _) (by omega) (by decide); have g0 := (cell_box (j := 0) hbx).trans rfl; simp only [List.getElem?_toArray, List.getElem?_cons_zero] at g0; have HB3 : Aside _ := hbx; have H4 : Aside _ := h3; clear h3 h4 hbx)
            | (go_at_call 100; refine (CW.out _ _ _ _ _ WQ H4 L1).mono ?_; rintro e w4 ⟨⟨v4, rfl⟩, h3, h4⟩; have hbx := BA.box h4 HB3.out (by omega) (by decide); have HB4 : Aside _ := hbx; have H5 : Aside _ := h3; clear h3 h4 hbx)
            | (go_at_call 101; refine (CW.out _ _ _ _ _ W58 H5 L2).mono ?_; rintro e w5 ⟨⟨v5, rfl⟩, h3, h4⟩; have hbx := BA.box h4 HB4.out (by omega) (by decide); have g1 := (cell_box (j := 1) hbx).trans rfl; have g2 := (cell_box (j := 2) hbx).trans rfl; have g3 := (cell_box (j := 3) hbx).trans rfl; have g4 := (cell_box (j := 4) hbx).trans rfl; have g5 := (cell_box (j := 5) hbx).trans rfl; simp only [List.getElem?_toArray, List.getElem?_cons_zero, List.getElem?_cons_succ] at g1 g2 g3 g4 g5; have H6 : Aside _ := h3; clear h3 h4 hbx)
            | (go_at_call 74; refine (C50.out _ _ H6 L3.out).mono ?_; rintro e w6 ⟨⟨v6, rfl⟩, h3⟩; have H7 : Aside _ := h3; clear h3))
          go_roundg (fs.length - i - 1)
          case measure => omega
          case rel =>
            obtain ⟨q1, q2, q3, q4⟩ := HQY.out
            refine ⟨i + 1, q ++ [44] ++ qt nm ++ [58] ++ xv, by go_num, by omega, by omega, ⟨y', by simpa using q3, ?_⟩, H7⟩
            have h9 : (i == 0) = false := by have := HI.out; simp; omega
            rw [h9] at q2
            rw [← q1, ← q2, ← q4]; simp
      · have hz : ¬ ((i : Int) < (fs.length : Int)) := by omega
        have hi' : i = fs.length := by omega
        have hq : q = x := by
          obtain ⟨y, hy, hqy⟩ := HY
          rw [List.drop_eq_nil_of_le (by omega)] at hy
          have hy : some ([] : List UInt8) = some y := hy
          injection hy with hy; subst hy
          simpa using hqy
        have HO : Aside (pre.length + ((123 :: q).length + [(125 : UInt8)].length) ≤ 140737488355328) := by show _ ≤ _; rw [hq]; simp; omega
        have HB93 := hby 125
        go_wp2_with (go_at_call 101; refine (ST1.out _ _ _ _ _ HB93 H3 HO).mono ?_; rintro e w3 ⟨⟨v3, rfl⟩, h3⟩; have H4 : Aside _ := h3; clear h3)
        go_end0
        refine ⟨⟨_, rfl⟩, ?_⟩
        rw [← hq]
        have h5 := HW.out; rw [← HW1.out] at h5
        exact h5.trans H4
theorem write_all (k : Nat) : ∀ g, WAll k g
  | 0 => fun r out h => by cases h
  | g + 1 => write_s k g (write_all k g)
theorem print_c (k : Nat) (r : Row) (he : eta Tryz.prog 110 r = r) (q : ByteArray × Int) (hq : (f k r).eval = some q) (w : World) (Fz : Nat → Nat → Prop) (hF : ∀ b o, Fz b o → b < w.heap.size) (hG : GOk w (fun _ => False)) (v : Value) (hv : Rep Tryz.prog (E0 w Fz) v (.agg r)) (hn : normA Tryz.prog 110 (.agg r) = some (.agg r)) :
    Calls Tryz.prog 60 #[v] w fun e w' => e = .returned (.tuple #[.string q.1, .int .i64 q.2]) ∧ RowKit.Below w.heap.size w w' := by
  have hq' : ((value_Valid.f k r).eval.bind fun b => (T.test b (.bnd (vtxt k k r) [] fun x => .test (decide (x.length ≤ 140737488355328)) (.test (decide (20000 < x.length)) (.ret (⟨#[]⟩, 4)) (.ret (⟨x.toArray⟩, 0))) (.fail)) (.ret (⟨#[]⟩, 1)) : T (ByteArray × Int)).eval) = some q := hq
  obtain ⟨bb, hbb, hq'⟩ := Option.bind_eq_some_iff.1 hq'
  clear hq
  have VAL : Aside (∀ W, RowKit.Below w.heap.size w W → Calls Tryz.prog 73 #[v] W fun e w' => e = .returned (.bool bb) ∧ RowKit.Below W.heap.size W w') := fun W hW => by
    refine ((value_Valid.ok k).2 W Fz (fun b o h => Nat.lt_of_lt_of_le (hF b o h) hW.size) (hG.to (Nat.le_refl _) hW) #[v] [.agg r] [.agg r] (.bool bb) rfl (by show (normA Tryz.prog 110 (.agg r)).bind _ = _; rw [hn]; rfl) (fun i x hi => by
      match i, hi with
      | 0, hi => injection hi with hi; subst hi; exact rep0_below hF hW hv) (by
      show ((value_Valid.f k r).eval.bind fun r => some (V.bool r)) = _
      rw [hbb]; rfl)).mono ?_
    rintro e w' ⟨u, F', rfl, hb, _, _, _, hu⟩
    exact ⟨by rw [rep_bool_inv hu], hb⟩
  have WR : Aside (∀ x, vtxt k k r = some x → x.length ≤ 140737488355328 → ∀ b W, RowKit.Below w.heap.size w W → Lib.IsBuilderF 126 5 w.heap.size b [] W → Calls Tryz.prog 74 #[.pointer (some ⟨b, 0, none⟩), v] W fun e w' => (∃ v, e = .returned v) ∧ BA 126 5 w.heap.size b W x w') := fun x hx hlen b W hW hb => by
    have h := write_all k k r x hx w.heap.size b W Fz v [] hF (fun p hp => by obtain ⟨⟨t, fz, h1⟩, _⟩ := hG p hp; exact (Array.getElem?_eq_some_iff.1 h1).1) (hG.to (Nat.le_refl _) hW) (rep0_below hF hW hv) he hb hW.size (by simpa using hlen)
    exact h
  obtain ⟨a, l, c, a', l', c', rfl, _, _⟩ := val_inv hv he
  clear hv
  generalize rInt r 0 = n0 at *
  generalize rInt r 1 = n1 at *
  generalize rStr r 2 = s at *
  have LEN : Aside (∀ b bs W, Lib.IsBuilderF 126 5 w.heap.size b bs W → Calls Tryz.prog 75 #[.pointer (some ⟨b, 0, none⟩)] W fun e w' => e = .returned (.int .i64 bs.length) ∧ w' = W) := fun b bs W h => Any.Builder_Len_f lay_len w.heap.size b bs W h
  have STR : Aside (∀ b l W, Lib.IsBuilderF 126 5 w.heap.size b (Lib.byteCells l) W → w.heap.size ≤ W.heap.size → Calls Tryz.prog 76 #[.pointer (some ⟨b, 0, none⟩)] W fun e w' => e = .returned (.string ⟨l.toArray⟩) ∧ RowKit.Below w.heap.size W w') := fun b l W h hs => by
    refine (Any.Builder_String_any_f lay_st lay_bx w.heap.size b l W h hs).mono ?_
    rintro e w' ⟨he, _, hb⟩
    exact ⟨he, hb⟩
  cases hb0 : bb with
  | false =>
    rw [hb0] at hq' VAL
    have hq' : some ((⟨#[]⟩ : ByteArray), (1 : Int)) = some q := hq'
    injection hq' with hq'; subst hq'
    go_enter Tryz.func60, Tryz.ntmps60
    go_wp2_with (go_at_call 73; refine (VAL.out _ ((RowKit.Below.refl _ _).alloc (Nat.le_refl _) _)).mono ?_; rintro e w2 ⟨rfl, h2⟩)
    go_ret2
    exact ⟨rfl, ((RowKit.Below.refl _ _).alloc (Nat.le_refl _) _).trans (h2.mono (by simp))⟩
  | true =>
    rw [hb0] at hq' VAL
    obtain ⟨x, hx, hq'⟩ := Option.bind_eq_some_iff.1 (show (vtxt k k r).bind (fun x => (T.test (decide (x.length ≤ 140737488355328)) (.test (decide (20000 < x.length)) (.ret (⟨#[]⟩, 4)) (.ret (⟨x.toArray⟩, 0))) (.fail) : T (ByteArray × Int)).eval) = some q from hq')
    obtain ⟨hlen, hq'⟩ := T.test_eval hq'
    have hlen := of_decide_eq_true hlen
    have WRX : Aside _ := WR.out x hx hlen
    have hbox : ∀ W, RowKit.Below (w.heap.size + 1) (w.alloc (.cells #[.int .i64 n0, .int .i64 n1, .string s, .slice a l c, .slice a' l' c'] 110)) W → W.heap[w.heap.size]? = some (.cells #[.int .i64 n0, .int .i64 n1, .string s, .slice a l c, .slice a' l' c'] 110 (0, 0)) := fun W h => (h.block _ (by omega)).trans (alloc_new w _)
    have HBX : Aside _ := hbox
    have NEW : Aside (∀ (W : World), w.heap.size ≤ W.heap.size → Lib.IsBuilderF 126 5 w.heap.size W.heap.size [] (W.alloc (.cells #[.pointer none, .slice none 0 0] 126))) := fun W hW => .inl ⟨hW, .slice none 0 0, alloc_new W _, ⟨rfl, .inl ⟨rfl, rfl⟩⟩, by simp [Value.ownBlock]⟩
    have hxl63 : x.length ≤ 140737488355328 := hlen
    clear WR hbox hlen hx
    cases hL : decide (20000 < x.length) with
    | true =>
      rw [hL] at hq'
      have hq' : some ((⟨#[]⟩ : ByteArray), (4 : Int)) = some q := hq'
      injection hq' with hq'; subst hq'
      have hgt : (20000 : Int) < (x.length : Int) := by have := of_decide_eq_true hL; omega
      go_enter Tryz.func60, Tryz.ntmps60
      go_wp2_with (first
        | (go_at_call 73; refine (VAL.out _ ((RowKit.Below.refl _ _).alloc (Nat.le_refl _) _)).mono ?_; rintro e w2 ⟨rfl, h2⟩; have hs2 : w.heap.size < w2.heap.size := by have := h2.size; simp at this; omega
           have hbx := (Lib.alloc_old w2 (.cells #[.pointer none, .slice none 0 0] 126) w.heap.size hs2).trans (HBX.out _ (h2.mono (by simp))); have g0 := (cell_box (j := 0) hbx).trans rfl; have g1 := (cell_box (j := 1) hbx).trans rfl; have g2 := (cell_box (j := 2) hbx).trans rfl; have g3 := (cell_box (j := 3) hbx).trans rfl; have g4 := (cell_box (j := 4) hbx).trans rfl; simp only [List.getElem?_toArray, List.getElem?_cons_zero, List.getElem?_cons_succ] at g0 g1 g2 g3 g4; have HA2 : Aside (RowKit.Below w.heap.size w w2) := ((RowKit.Below.refl _ _).alloc (Nat.le_refl _) _).trans (h2.mono (by simp)); clear h2 hbx)
        | (go_at_call 74; refine (WRX.out _ _ (RowKit.Below.alloc HA2.out (by omega) _) (NEW.out w2 (by omega))).mono ?_; rintro e w3 ⟨⟨v3, rfl⟩, h3⟩; have HA3 : Aside (RowKit.Below w.heap.size w w3) := (RowKit.Below.alloc HA2.out (by omega) _).trans h3.below; have HI3 : Aside _ := h3.is; clear h3)
        | (go_at_call 75; refine (LEN.out _ _ _ HI3.out).mono ?_; rintro e w4 ⟨rfl, rfl⟩; rw [Lib.byteCells_length])
        | (go_at_call 76; refine (STR.out _ _ _ HI3.out HA3.out.size).mono ?_; rintro e w5 ⟨rfl, h5⟩; have HA5 : Aside (RowKit.Below w.heap.size w w5) := HA3.out.trans h5; clear h5))
      go_ret2
      exact ⟨rfl, HA3.out⟩
    | false =>
      rw [hL] at hq'
      have hq' : some ((⟨x.toArray⟩ : ByteArray), (0 : Int)) = some q := hq'
      injection hq' with hq'; subst hq'
      have hgt : ¬ ((20000 : Int) < (x.length : Int)) := by have := of_decide_eq_false hL; omega
      go_enter Tryz.func60, Tryz.ntmps60
      go_wp2_with (first
        | (go_at_call 73; refine (VAL.out _ ((RowKit.Below.refl _ _).alloc (Nat.le_refl _) _)).mono ?_; rintro e w2 ⟨rfl, h2⟩; have hs2 : w.heap.size < w2.heap.size := by have := h2.size; simp at this; omega
           have hbx := (Lib.alloc_old w2 (.cells #[.pointer none, .slice none 0 0] 126) w.heap.size hs2).trans (HBX.out _ (h2.mono (by simp))); have g0 := (cell_box (j := 0) hbx).trans rfl; have g1 := (cell_box (j := 1) hbx).trans rfl; have g2 := (cell_box (j := 2) hbx).trans rfl; have g3 := (cell_box (j := 3) hbx).trans rfl; have g4 := (cell_box (j := 4) hbx).trans rfl; simp only [List.getElem?_toArray, List.getElem?_cons_zero, List.getElem?_cons_succ] at g0 g1 g2 g3 g4; have HA2 : Aside (RowKit.Below w.heap.size w w2) := ((RowKit.Below.refl _ _).alloc (Nat.le_refl _) _).trans (h2.mono (by simp)); clear h2 hbx)
        | (go_at_call 74; refine (WRX.out _ _ (RowKit.Below.alloc HA2.out (by omega) _) (NEW.out w2 (by omega))).mono ?_; rintro e w3 ⟨⟨v3, rfl⟩, h3⟩; have HA3 : Aside (RowKit.Below w.heap.size w w3) := (RowKit.Below.alloc HA2.out (by omega) _).trans h3.below; have HI3 : Aside _ := h3.is; clear h3)
        | (go_at_call 75; refine (LEN.out _ _ _ HI3.out).mono ?_; rintro e w4 ⟨rfl, rfl⟩; rw [Lib.byteCells_length])
        | (go_at_call 76; refine (STR.out _ _ _ HI3.out HA3.out.size).mono ?_; rintro e w5 ⟨rfl, h5⟩; have HA5 : Aside (RowKit.Below w.heap.size w w5) := HA3.out.trans h5; clear h5))
      go_ret2
      exact ⟨rfl, HA5.out⟩
theorem norm_row (n0 n1 : Int) (s : ByteArray) (l f : Rows) : normA Tryz.prog 110 (.agg [.int .i64 n0, .int .i64 n1, .str s, .slice 110 l .open, .slice 120 f .open]) = some (.agg [.int .i64 n0, .int .i64 n1, .str s, .slice 110 l .open, .slice 120 f .open]) := by kernel_rfl
/-- json.Print. -/
theorem ok (k : Nat) : FunOk Tryz.prog 60 (d k) := by
  refine ⟨⟨_, Tryz.func60, by kernel_rfl, by kernel_rfl⟩, fun w Fz hF hG args xs ys r hsz hn hrep hr => ?_⟩
  obtain ⟨h1, h2⟩ := normAs_get hn
  match ys, h1 with
  | [y], _ =>
    obtain ⟨x, hx⟩ := h2 0 (.t 110) y rfl rfl
    have hu : Tryz.prog.underlying 110 = some (.struct ((match Tryz.prog.underlying 110 with | some (.struct fs) => fs | _ => #[]))) := by kernel_rfl
    have hx' : normA Tryz.prog 110 x = some y := hx
    unfold normA at hx'
    rw [hu] at hx'
    simp only [] at hx'
    split at hx'
    · rename_i cs
      rw [Option.map_eq_some_iff] at hx'
      obtain ⟨r0, hr0, rfl⟩ := hx'
      have he := (normL_eta hr0).1
      have hn1 : normA Tryz.prog 110 (.agg r0) = some (.agg r0) := by
        have he' : [V.int .i64 (rInt r0 0), .int .i64 (rInt r0 1), .str (rStr r0 2), .slice 110 (rSl r0 3) .open, .slice 120 (rSl r0 4) .open] = r0 := by
          refine Eq.trans ?_ he; kernel_rfl
        have := norm_row (rInt r0 0) (rInt r0 1) (rStr r0 2) (rSl r0 3) (rSl r0 4)
        rw [he'] at this
        exact this
      have hr' : ((f k r0).eval.bind fun q => some (V.tuple [.str q.1, .int .i64 q.2])) = some r := hr
      obtain ⟨q, hq, hqr⟩ := Option.bind_eq_some_iff.1 hr'
      injection hqr with hqr
      match args, hsz with
      | ⟨[v]⟩, _ =>
        refine (print_c k r0 he q hq w Fz hF hG v (hrep 0 _ rfl) hn1).mono ?_
        rintro e w' ⟨rfl, hb⟩
        refine ⟨_, Fz, rfl, hb, fun _ _ h => h, fun _ _ h => .inl h, fun b o h => Nat.lt_of_lt_of_le (hF b o h) hb.size, ?_⟩
        rw [← hqr]
        refine .tuple _ _ rfl (fun i x hi => ?_)
        match i, hi with
        | 0, hi => injection hi with hi; subst hi; exact .str _
        | 1, hi => injection hi with hi; subst hi; exact .int _ _
    · cases hx'
end json_Print
namespace pod_Hash
noncomputable def C (k : Nat) : Cx := ⟨Tryz.prog, tab [(61, podcodec_FromTemplate.d k), (60, json_Print.d k)], [28], [(14, 28)], tab []⟩
noncomputable def t4 : LoopT := ⟨⟨48, [], [(3, .str), (5, .int .u32), (16, .int .i64), (17, .int .i64)], [], [], []⟩, (fun | .exit 0 => some ⟨48, [], [(5, .int .u32)], [], [], []⟩ | _ => none)⟩
noncomputable def s4 (k : Nat) (c0 : ByteArray) (c1 : Int) (x : (Int × Int)) : T ((Int × Int) ⊕ Int) :=
  .test (iLt x.2 c1)
   (.test (iIn x.2 (sLen c0))
    (.ret (.inl ((iMul .u32 (iXor .u32 x.1 (iCv .u32 (sAt c0 x.2))) (16777619)), (iAdd .i64 x.2 (1)))))
    (.fail))
   (.ret (.inr x.1))
noncomputable def a4 (c0 : ByteArray) (c1 : Int) (x : (Int × Int)) : Dt := ⟨[.s c0, .i x.1, .i c1, .i x.2], [], [], []⟩
noncomputable def o4_0 (c0 : ByteArray) (c1 : Int) (r : Int) : X × Dt := (.exit 0, ⟨[.i r], [], [], []⟩)
noncomputable def e4 (k : Nat) (d : Dt) : T (X × Dt) := out1 (iter (s4 k (aS (aN d.a 0)) (aI (aN d.a 2))) k ((aI (aN d.a 1)), (aI (aN d.a 3)))) default (o4_0 (aS (aN d.a 0)) (aI (aN d.a 2)))
noncomputable def t10 : LoopT := ⟨⟨48, [], [(5, .int .u32), (7, .aref 5 28), (30, .int .i64), (31, .int .i64)], [], [], [(28, 5)]⟩, (fun | .exit 2 => some ⟨48, [], [(7, .aref 5 28)], [], [], [(28, 5)]⟩ | _ => none)⟩
noncomputable def s10 (k : Nat) (c0 : Int) (c1 : Int) (c2 : Int) (x : (Int × Rows)) : T ((Int × Rows) ⊕ Rows) :=
  .test (iLt x.1 c2)
   (.test (iLe (0) (iSub .i64 (28) (iMul .i64 (4) x.1)))
    (.test (iIn x.1 c1)
     (.ret (.inl ((iAdd .i64 x.1 (1)), (rSet x.2 x.1 [.int .u8 (iAdd .u8 (97) (iCv .u8 (iAnd .u32 (iShr .u32 c0 (iSub .i64 (28) (iMul .i64 (4) x.1))) (15))))]))))
     (.fail))
    (.fail))
   (.ret (.inr x.2))
noncomputable def a10 (c0 : Int) (c1 : Int) (c2 : Int) (x : (Int × Rows)) : Dt := ⟨[.i c0, .i c1, .i c2, .i x.1], [], [], [x.2]⟩
noncomputable def o10_0 (c0 : Int) (c1 : Int) (c2 : Int) (r : Rows) : X × Dt := (.exit 2, ⟨[.i c1], [], [], [r]⟩)
noncomputable def e10 (k : Nat) (d : Dt) : T (X × Dt) := out1 (iter (s10 k (aI (aN d.a 0)) (aI (aN d.a 1)) (aI (aN d.a 2))) k ((aI (aN d.a 3)), (d.m.getD 0 []))) default (o10_0 (aI (aN d.a 0)) (aI (aN d.a 1)) (aI (aN d.a 2)))
noncomputable def S (k : Nat) : Subs := fun n => bif Nat.beq n 4 then some (loopV Tryz.prog t4 (e4 k)) else bif Nat.beq n 10 then some (loopV Tryz.prog t10 (e10 k)) else none
noncomputable def f (k : Nat) (a0 : Row) : T ByteArray :=
  .bnd (podcodec_FromTemplate.f k (et 37 a0)).eval default fun r0 =>
  .bnd (json_Print.f k (et 110 r0)).eval default fun r1 =>
  .bnd (iter (pod_Hash.s4 k r1.1 (sLen r1.1)) k ((2166136261), (0))) default fun r2 =>
  .test (rOk 1 (0) (8))
   (.test (iLe (0) (8))
    (.bnd (iter (pod_Hash.s10 k r2 (8) (8)) k ((0), (rMake (8) [.int .u8 (0)]))) default fun r3 =>
    .ret (sRows (rTake r3 (8))))
    (.fail))
   (.fail)
noncomputable def d (k : Nat) : Fun := mkFun [37] (fun as_ => f k (vRow (vN as_ 0))) default (fun r => .str r)
theorem hC (k : Nat) : CxOk (C k) := CxOk.cons (p := (61, podcodec_FromTemplate.d k)) (podcodec_FromTemplate.ok k) (CxOk.cons (p := (60, json_Print.d k)) (json_Print.ok k) (CxOk.nil))
theorem l4 (k : Nat) : LoopOk Tryz.prog (S k) (lp (bodyF (Go.Proofs.Tryz.f44)) 0) := loopOk_mk (C := C k) (hC k) (Loops.all (n := 0) (by kernel_rfl) trivial) (lt := t4) (den := e4 k) (by kernel_rfl) (N := (ByteArray × Int)) (A := (Int × Int)) (R := Int)
 (fun n x => a4 n.1 n.2 x) (fun n r => o4_0 n.1 n.2 r) (fun n x => s4 k n.1 n.2 x) k (fun d => ((aS (aN d.a 0)), (aI (aN d.a 2)))) (fun d => ((aI (aN d.a 1)), (aI (aN d.a 3)))) (fun d y h => out1_eval h) (fun d => by kernel_rfl) (fun n x => by kernel_rfl) (fun n r => ⟨_, rfl⟩)
theorem l10 (k : Nat) : LoopOk Tryz.prog (S k) (lp (bodyF (Go.Proofs.Tryz.f44)) 1) := loopOk_mk (C := C k) (hC k) (Loops.all (n := 0) (by kernel_rfl) trivial) (lt := t10) (den := e10 k) (by kernel_rfl) (N := (Int × Int × Int)) (A := (Int × Rows)) (R := Rows)
 (fun n x => a10 n.1 n.2.1 n.2.2 x) (fun n r => o10_0 n.1 n.2.1 n.2.2 r) (fun n x => s10 k n.1 n.2.1 n.2.2 x) k (fun d => ((aI (aN d.a 0)), (aI (aN d.a 1)), (aI (aN d.a 2)))) (fun d => ((aI (aN d.a 3)), (d.m.getD 0 []))) (fun d y h => out1_eval h) (fun d => by kernel_rfl) (fun n x => by kernel_rfl) (fun n r => ⟨_, rfl⟩)
theorem ok (k : Nat) : FunOk Tryz.prog 44 (d k) := fun_mk (C := C k) (hC k) (S := S k) Tryz.func44 (by kernel_rfl) (by kernel_rfl) (Loops.all (n := 2) (by kernel_rfl) ⟨⟨trivial, l4 k⟩, l10 k⟩) (fun as_ => by kernel_rfl)
end pod_Hash
namespace meta_Child
noncomputable def C (k : Nat) : Cx := ⟨Tryz.prog, tab [(55, strconv_Itoa.d k)], [], [], tab []⟩
noncomputable def S (k : Nat) : Subs := fun n => none
noncomputable def f (k : Nat) (a0 : ByteArray) (a1 : Int) : T ByteArray :=
  .bnd (strconv_Itoa.f k (iMax a1 (0))).eval default fun r0 =>
  .test (sOk (sLen (bs [45])) (sLen r0))
   (.test (iCut (0) (iMin (sLen a0) (iSub .i64 (40) (sLen (sCat (bs [45]) r0)))) (sLen a0))
    (.test (sOk (sLen (sCut a0 (0) (iMin (sLen a0) (iSub .i64 (40) (sLen (sCat (bs [45]) r0)))))) (sLen (sCat (bs [45]) r0)))
     (.ret (sCat (sCut a0 (0) (iMin (sLen a0) (iSub .i64 (40) (sLen (sCat (bs [45]) r0))))) (sCat (bs [45]) r0)))
     (.fail))
    (.fail))
   (.fail)
noncomputable def d (k : Nat) : Fun := mkFun [9, 3] (fun as_ => f k (vStr (vN as_ 0)) (vInt (vN as_ 1))) default (fun r => .str r)
theorem hC (k : Nat) : CxOk (C k) := CxOk.cons (p := (55, strconv_Itoa.d k)) (strconv_Itoa.ok k) (CxOk.nil)
theorem ok (k : Nat) : FunOk Tryz.prog 33 (d k) := fun_mk (C := C k) (hC k) (S := S k) Tryz.func33 (by kernel_rfl) (by kernel_rfl) (Loops.all (n := 0) (by kernel_rfl) trivial) (fun as_ => by kernel_rfl)
end meta_Child
namespace statefulset_Name
noncomputable def C (k : Nat) : Cx := ⟨Tryz.prog, tab [(33, meta_Child.d k)], [], [], tab []⟩
noncomputable def S (k : Nat) : Subs := fun n => none
noncomputable def f (k : Nat) (a0 : Row) (a1 : Int) : T ByteArray :=
  .bnd (meta_Child.f k (rStr a0 2) a1).eval default fun r0 =>
  .ret r0
noncomputable def d (k : Nat) : Fun := mkFun [41, 3] (fun as_ => f k (vRow (vN as_ 0)) (vInt (vN as_ 1))) default (fun r => .str r)
theorem hC (k : Nat) : CxOk (C k) := CxOk.cons (p := (33, meta_Child.d k)) (meta_Child.ok k) (CxOk.nil)
theorem ok (k : Nat) : FunOk Tryz.prog 14 (d k) := fun_mk (C := C k) (hC k) (S := S k) Tryz.func14 (by kernel_rfl) (by kernel_rfl) (Loops.all (n := 0) (by kernel_rfl) trivial) (fun as_ => by kernel_rfl)
end statefulset_Name
namespace label_Get
noncomputable def C (k : Nat) : Cx := ⟨Tryz.prog, tab [], [], [], tab []⟩
noncomputable def t2 : LoopT := ⟨⟨21, [], [(1, .str), (8, .sl 89 none), (9, .int .i64), (10, .int .i64)], [], [], []⟩, (fun | .ret => some ⟨21, [], [(4, .str), (5, .bool)], [], [], []⟩ | .exit 0 => some ⟨21, [], [], [], [], []⟩ | _ => none)⟩
noncomputable def s2 (k : Nat) (c0 : ByteArray) (c1 : Rows) (c2 : Int) (x : Int) : T (Int ⊕ ((ByteArray × Bool) ⊕ Unit)) :=
  .test (iLt x c2)
   (.test (iIn x (rLen c1))
    (.test (sEq (rStr (rAt c1 x) 0) c0)
     (.ret (.inr (.inl ((rStr (rAt c1 x) 1), true))))
     (.ret (.inl (iAdd .i64 x (1)))))
    (.fail))
   (.ret (.inr (.inr ())))
noncomputable def a2 (c0 : ByteArray) (c1 : Rows) (c2 : Int) (x : Int) : Dt := ⟨[.s c0, .r c1, .i c2, .i x], [], [], []⟩
noncomputable def o2_0 (c0 : ByteArray) (c1 : Rows) (c2 : Int) (r : (ByteArray × Bool)) : X × Dt := (.ret, ⟨[.s r.1, .b r.2], [], [], []⟩)
noncomputable def o2_1 (c0 : ByteArray) (c1 : Rows) (c2 : Int) (r : Unit) : X × Dt := (.exit 0, ⟨[], [], [], []⟩)
noncomputable def e2 (k : Nat) (d : Dt) : T (X × Dt) := out2 (iter (s2 k (aS (aN d.a 0)) (aR (aN d.a 1)) (aI (aN d.a 2))) k (aI (aN d.a 3))) (o2_0 (aS (aN d.a 0)) (aR (aN d.a 1)) (aI (aN d.a 2))) (o2_1 (aS (aN d.a 0)) (aR (aN d.a 1)) (aI (aN d.a 2)))
noncomputable def S (k : Nat) : Subs := fun n => bif Nat.beq n 2 then some (loopV Tryz.prog t2 (e2 k)) else none
noncomputable def f (k : Nat) (a0 : Rows) (a1 : ByteArray) : T (ByteArray × Bool) :=
  .cas (iter (label_Get.s2 k a1 a0 (rLen a0)) k (0)) (fun r0 =>
   .ret (r0.1, r0.2)) (fun r1 =>
   .ret (ByteArray.empty, false))
noncomputable def d (k : Nat) : Fun := mkFun [22, 9] (fun as_ => f k (vRows (vN as_ 0)) (vStr (vN as_ 1))) default (fun r => .tuple [.str r.1, .bool r.2])
theorem hC (k : Nat) : CxOk (C k) := CxOk.nil
theorem l2 (k : Nat) : LoopOk Tryz.prog (S k) (lp (bodyF (Go.Proofs.Tryz.f45)) 0) := loopOk_mk (C := C k) (hC k) (Loops.all (n := 0) (by kernel_rfl) trivial) (lt := t2) (den := e2 k) (by kernel_rfl) (N := (ByteArray × Rows × Int)) (A := Int) (R := ((ByteArray × Bool) ⊕ Unit))
 (fun n x => a2 n.1 n.2.1 n.2.2 x) (fun n r => Sum.elim (o2_0 n.1 n.2.1 n.2.2) (o2_1 n.1 n.2.1 n.2.2) r) (fun n x => s2 k n.1 n.2.1 n.2.2 x) k (fun d => ((aS (aN d.a 0)), (aR (aN d.a 1)), (aI (aN d.a 2)))) (fun d => (aI (aN d.a 3))) (fun d y h => out2_eval h) (fun d => by kernel_rfl) (fun n x => by kernel_rfl) (fun n r => by rcases r with r | r <;> exact ⟨_, rfl⟩)
theorem ok (k : Nat) : FunOk Tryz.prog 45 (d k) := fun_mk (C := C k) (hC k) (S := S k) Tryz.func45 (by kernel_rfl) (by kernel_rfl) (Loops.all (n := 1) (by kernel_rfl) ⟨trivial, l2 k⟩) (fun as_ => by kernel_rfl)
end label_Get
namespace pod_Active
noncomputable def C (k : Nat) : Cx := ⟨Tryz.prog, tab [], [], [], tab []⟩
noncomputable def S (k : Nat) : Subs := fun n => none
noncomputable def f (k : Nat) (a0 : Row) : T Bool :=
  .ret (bIte (bIte (iEq (rInt a0 23) (0)) true (iEq (rInt a0 23) (1))) (bNot (rBool a0 7)) false)
noncomputable def d (k : Nat) : Fun := mkFun [61] (fun as_ => f k (vRow (vN as_ 0))) default (fun r => .bool r)
theorem hC (k : Nat) : CxOk (C k) := CxOk.nil
theorem ok (k : Nat) : FunOk Tryz.prog 35 (d k) := fun_mk (C := C k) (hC k) (S := S k) Tryz.func35 (by kernel_rfl) (by kernel_rfl) (Loops.all (n := 0) (by kernel_rfl) trivial) (fun as_ => by kernel_rfl)
end pod_Active
namespace pod_clamp
noncomputable def C (k : Nat) : Cx := ⟨Tryz.prog, tab [], [], [], tab []⟩
noncomputable def S (k : Nat) : Subs := fun n => none
noncomputable def f (k : Nat) (a0 : Int) : T Int :=
  .ret (iMin (iMax a0 (0)) (1000000000000))
noncomputable def d (k : Nat) : Fun := mkFun [3] (fun as_ => f k (vInt (vN as_ 0))) default (fun r => .int .i64 r)
theorem hC (k : Nat) : CxOk (C k) := CxOk.nil
theorem ok (k : Nat) : FunOk Tryz.prog 62 (d k) := fun_mk (C := C k) (hC k) (S := S k) Tryz.func62 (by kernel_rfl) (by kernel_rfl) (Loops.all (n := 0) (by kernel_rfl) trivial) (fun as_ => by kernel_rfl)
end pod_clamp
namespace pod_Available
noncomputable def C (k : Nat) : Cx := ⟨Tryz.prog, tab [(35, pod_Active.d k), (62, pod_clamp.d k)], [], [], tab []⟩
noncomputable def S (k : Nat) : Subs := fun n => none
noncomputable def f (k : Nat) (a0 : Row) (a1 : Int) (a2 : Int) : T Bool :=
  .bnd (pod_Active.f k (et 61 a0)).eval default fun r0 =>
  .opt (bIte r0 (rBool a0 24) false) (pod_clamp.f k a2).eval default fun r1 =>
  .opt (bIte r0 (rBool a0 24) false) (pod_clamp.f k (rInt a0 25)).eval default fun r2 =>
  .opt (bIte r0 (rBool a0 24) false) (pod_clamp.f k a1).eval default fun r3 =>
  .ret (bIte (bIte r0 (rBool a0 24) false) (iLe r3 (iSub .i64 r1 r2)) false)
noncomputable def d (k : Nat) : Fun := mkFun [61, 3, 3] (fun as_ => f k (vRow (vN as_ 0)) (vInt (vN as_ 1)) (vInt (vN as_ 2))) default (fun r => .bool r)
theorem hC (k : Nat) : CxOk (C k) := CxOk.cons (p := (35, pod_Active.d k)) (pod_Active.ok k) (CxOk.cons (p := (62, pod_clamp.d k)) (pod_clamp.ok k) (CxOk.nil))
theorem ok (k : Nat) : FunOk Tryz.prog 46 (d k) := fun_mk (C := C k) (hC k) (S := S k) Tryz.func46 (by kernel_rfl) (by kernel_rfl) (Loops.all (n := 0) (by kernel_rfl) trivial) (fun as_ => by kernel_rfl)
end pod_Available
namespace meta_Key
noncomputable def C (k : Nat) : Cx := ⟨Tryz.prog, tab [], [], [], tab []⟩
noncomputable def S (k : Nat) : Subs := fun n => none
noncomputable def f (k : Nat) (a0 : ByteArray) (a1 : ByteArray) (a2 : ByteArray) : T ByteArray :=
  .test (sOk (sLen a0) (sLen (bs [47])))
   (.test (sOk (sLen (sCat a0 (bs [47]))) (sLen a1))
    (.test (sOk (sLen (sCat (sCat a0 (bs [47])) a1)) (sLen (bs [47])))
     (.test (sOk (sLen (sCat (sCat (sCat a0 (bs [47])) a1) (bs [47]))) (sLen a2))
      (.ret (sCat (sCat (sCat (sCat a0 (bs [47])) a1) (bs [47])) a2))
      (.fail))
     (.fail))
    (.fail))
   (.fail)
noncomputable def d (k : Nat) : Fun := mkFun [9, 9, 9] (fun as_ => f k (vStr (vN as_ 0)) (vStr (vN as_ 1)) (vStr (vN as_ 2))) default (fun r => .str r)
theorem hC (k : Nat) : CxOk (C k) := CxOk.nil
theorem ok (k : Nat) : FunOk Tryz.prog 63 (d k) := fun_mk (C := C k) (hC k) (S := S k) Tryz.func63 (by kernel_rfl) (by kernel_rfl) (Loops.all (n := 0) (by kernel_rfl) trivial) (fun as_ => by kernel_rfl)
end meta_Key
namespace meta_KeyOf
noncomputable def C (k : Nat) : Cx := ⟨Tryz.prog, tab [(63, meta_Key.d k)], [], [], tab []⟩
noncomputable def S (k : Nat) : Subs := fun n => none
noncomputable def f (k : Nat) (a0 : Row) : T ByteArray :=
  .bnd (meta_Key.f k (rStr a0 0) (rStr a0 1) (rStr a0 2)).eval default fun r0 =>
  .ret r0
noncomputable def d (k : Nat) : Fun := mkFun [27] (fun as_ => f k (vRow (vN as_ 0))) default (fun r => .str r)
theorem hC (k : Nat) : CxOk (C k) := CxOk.cons (p := (63, meta_Key.d k)) (meta_Key.ok k) (CxOk.nil)
theorem ok (k : Nat) : FunOk Tryz.prog 47 (d k) := fun_mk (C := C k) (hC k) (S := S k) Tryz.func47 (by kernel_rfl) (by kernel_rfl) (Loops.all (n := 0) (by kernel_rfl) trivial) (fun as_ => by kernel_rfl)
end meta_KeyOf
namespace statefulset_slots
noncomputable def C (k : Nat) : Cx := ⟨Tryz.prog, tab [(43, meta_Controller.d k), (44, pod_Hash.d k), (14, statefulset_Name.d k), (45, label_Get.d k), (46, pod_Available.d k), (47, meta_KeyOf.d k)], [73], [(20, 73)], tab []⟩
noncomputable def t3 : LoopT := ⟨⟨130, [], [(2, .int .i64), (3, .ptr 3 0), (7, .mref 21), (22, .sl 61 none), (23, .int .i64), (24, .int .i64)], [], [(3, 41)], [(21, 1000092)]⟩, (fun | .exit 0 => some ⟨130, [], [(2, .int .i64), (3, .ptr 3 0), (7, .mref 21)], [], [(3, 41)], [(21, 1000092)]⟩ | _ => none)⟩
noncomputable def s3 (k : Nat) (c0 : Int) (c1 : Rows) (c2 : Int) (c3 : Row) (x : (Int × Rows)) : T ((Int × Rows) ⊕ Rows) :=
  .test (iLt x.1 c2)
   (.test (iIn x.1 (rLen c1))
    (.bnd (meta_Controller.f k (et 27 (rAt c1 x.1))).eval default fun r0 =>
    .test (bIte (bIte (bIte r0.2 (iEq (rInt r0.1 2) (rInt c3 3)) false) (sEq (rStr (rAt c1 x.1) 1) (rStr c3 1)) false) (bNot (mHas x.2 (rStr (rAt c1 x.1) 2))) false)
     (.ret (.inl ((iAdd .i64 x.1 (1)), (mSet x.2 (rStr (rAt c1 x.1) 2) (et 61 (rAt c1 x.1))))))
     (.ret (.inl ((iAdd .i64 x.1 (1)), x.2))))
    (.fail))
   (.ret (.inr x.2))
noncomputable def a3 (c0 : Int) (c1 : Rows) (c2 : Int) (c3 : Row) (x : (Int × Rows)) : Dt := ⟨[.i c0, .u, .u, .r c1, .i c2, .i x.1], [], [et 41 c3], [x.2]⟩
noncomputable def o3_0 (c0 : Int) (c1 : Rows) (c2 : Int) (c3 : Row) (r : Rows) : X × Dt := (.exit 0, ⟨[.i c0, .u, .u], [], [(et 41 c3)], [r]⟩)
noncomputable def e3 (k : Nat) (d : Dt) : T (X × Dt) := out1 (iter (s3 k (aI (aN d.a 0)) (aR (aN d.a 3)) (aI (aN d.a 4)) (d.r.getD 0 [])) k ((aI (aN d.a 5)), (d.m.getD 0 []))) default (o3_0 (aI (aN d.a 0)) (aR (aN d.a 3)) (aI (aN d.a 4)) (d.r.getD 0 []))
noncomputable def t13 : LoopT := ⟨⟨130, [], [(2, .int .i64), (3, .ptr 3 0), (7, .mref 21), (14, .str), (15, .aref 80 73), (75, .int .i64), (76, .int .i64)], [], [(3, 41)], [(21, 1000092), (73, 80)]⟩, (fun | .exit 2 => some ⟨130, [], [(15, .aref 80 73)], [], [], [(73, 80)]⟩ | _ => none)⟩
noncomputable def s13 (k : Nat) (c0 : Int) (c1 : ByteArray) (c2 : Int) (c3 : Int) (c4 : Row) (c5 : Rows) (x : (Int × Rows)) : T ((Int × Rows) ⊕ Rows) :=
  .test (iLt x.1 c3)
   (.bnd (statefulset_Name.f k (et 41 c4) x.1).eval default fun r0 =>
   .test (bNot (mHas c5 r0))
    (.ret (.inl ((iAdd .i64 x.1 (1)), x.2)))
    (.bnd (label_Get.f k (rSl (mGet c5 r0 [.str ByteArray.empty, .str ByteArray.empty, .str ByteArray.empty, .int .i64 (0), .int .i64 (0), .int .i64 (0), .int .i64 (0), .bool false, .int .i64 (0), .slice 89 [] .open, .slice 86 [] .open, .slice 9 [] .open, .slice 229 [] .open, .str ByteArray.empty, .int .i64 (0), .int .i64 (0), .int .i64 (0), .slice 164 [] .open, .slice 168 [] .open, .slice 172 [] .open, .slice 176 [] .open, .slice 180 [] .open, .slice 184 [] .open, .int .i64 (0), .bool false, .int .i64 (0), .int .i64 (0), .int .i64 (0), .slice 231 [] .open, .int .i64 (0), .str ByteArray.empty, .str ByteArray.empty]) 9) (bs [116, 101, 109, 112, 108, 97, 116, 101, 45, 104, 97, 115, 104])).eval default fun r1 =>
    .bnd (pod_Available.f k (et 61 (mGet c5 r0 [.str ByteArray.empty, .str ByteArray.empty, .str ByteArray.empty, .int .i64 (0), .int .i64 (0), .int .i64 (0), .int .i64 (0), .bool false, .int .i64 (0), .slice 89 [] .open, .slice 86 [] .open, .slice 9 [] .open, .slice 229 [] .open, .str ByteArray.empty, .int .i64 (0), .int .i64 (0), .int .i64 (0), .slice 164 [] .open, .slice 168 [] .open, .slice 172 [] .open, .slice 176 [] .open, .slice 180 [] .open, .slice 184 [] .open, .int .i64 (0), .bool false, .int .i64 (0), .int .i64 (0), .int .i64 (0), .slice 231 [] .open, .int .i64 (0), .str ByteArray.empty, .str ByteArray.empty])) (rInt c4 15) c0).eval default fun r2 =>
    .bnd (meta_KeyOf.f k (et 27 (mGet c5 r0 [.str ByteArray.empty, .str ByteArray.empty, .str ByteArray.empty, .int .i64 (0), .int .i64 (0), .int .i64 (0), .int .i64 (0), .bool false, .int .i64 (0), .slice 89 [] .open, .slice 86 [] .open, .slice 9 [] .open, .slice 229 [] .open, .str ByteArray.empty, .int .i64 (0), .int .i64 (0), .int .i64 (0), .slice 164 [] .open, .slice 168 [] .open, .slice 172 [] .open, .slice 176 [] .open, .slice 180 [] .open, .slice 184 [] .open, .int .i64 (0), .bool false, .int .i64 (0), .int .i64 (0), .int .i64 (0), .slice 231 [] .open, .int .i64 (0), .str ByteArray.empty, .str ByteArray.empty]))).eval default fun r3 =>
    .test (iIn x.1 c2)
     (.ret (.inl ((iAdd .i64 x.1 (1)), (rSet x.2 x.1 (rJ [[.bool true, .bool r2, .bool (bIte r1.2 (sEq r1.1 c1) false), .bool (bIte (iEq (rInt (mGet c5 r0 [.str ByteArray.empty, .str ByteArray.empty, .str ByteArray.empty, .int .i64 (0), .int .i64 (0), .int .i64 (0), .int .i64 (0), .bool false, .int .i64 (0), .slice 89 [] .open, .slice 86 [] .open, .slice 9 [] .open, .slice 229 [] .open, .str ByteArray.empty, .int .i64 (0), .int .i64 (0), .int .i64 (0), .slice 164 [] .open, .slice 168 [] .open, .slice 172 [] .open, .slice 176 [] .open, .slice 180 [] .open, .slice 184 [] .open, .int .i64 (0), .bool false, .int .i64 (0), .int .i64 (0), .int .i64 (0), .slice 231 [] .open, .int .i64 (0), .str ByteArray.empty, .str ByteArray.empty]) 23) (2)) true (iEq (rInt (mGet c5 r0 [.str ByteArray.empty, .str ByteArray.empty, .str ByteArray.empty, .int .i64 (0), .int .i64 (0), .int .i64 (0), .int .i64 (0), .bool false, .int .i64 (0), .slice 89 [] .open, .slice 86 [] .open, .slice 9 [] .open, .slice 229 [] .open, .str ByteArray.empty, .int .i64 (0), .int .i64 (0), .int .i64 (0), .slice 164 [] .open, .slice 168 [] .open, .slice 172 [] .open, .slice 176 [] .open, .slice 180 [] .open, .slice 184 [] .open, .int .i64 (0), .bool false, .int .i64 (0), .int .i64 (0), .int .i64 (0), .slice 231 [] .open, .int .i64 (0), .str ByteArray.empty, .str ByteArray.empty]) 23) (3))), .bool (rBool (mGet c5 r0 [.str ByteArray.empty, .str ByteArray.empty, .str ByteArray.empty, .int .i64 (0), .int .i64 (0), .int .i64 (0), .int .i64 (0), .bool false, .int .i64 (0), .slice 89 [] .open, .slice 86 [] .open, .slice 9 [] .open, .slice 229 [] .open, .str ByteArray.empty, .int .i64 (0), .int .i64 (0), .int .i64 (0), .slice 164 [] .open, .slice 168 [] .open, .slice 172 [] .open, .slice 176 [] .open, .slice 180 [] .open, .slice 184 [] .open, .int .i64 (0), .bool false, .int .i64 (0), .int .i64 (0), .int .i64 (0), .slice 231 [] .open, .int .i64 (0), .str ByteArray.empty, .str ByteArray.empty]) 7), .str r3], (et 61 (mGet c5 r0 [.str ByteArray.empty, .str ByteArray.empty, .str ByteArray.empty, .int .i64 (0), .int .i64 (0), .int .i64 (0), .int .i64 (0), .bool false, .int .i64 (0), .slice 89 [] .open, .slice 86 [] .open, .slice 9 [] .open, .slice 229 [] .open, .str ByteArray.empty, .int .i64 (0), .int .i64 (0), .int .i64 (0), .slice 164 [] .open, .slice 168 [] .open, .slice 172 [] .open, .slice 176 [] .open, .slice 180 [] .open, .slice 184 [] .open, .int .i64 (0), .bool false, .int .i64 (0), .int .i64 (0), .int .i64 (0), .slice 231 [] .open, .int .i64 (0), .str ByteArray.empty, .str ByteArray.empty]))])))))
     (.fail)))
   (.ret (.inr x.2))
noncomputable def a13 (c0 : Int) (c1 : ByteArray) (c2 : Int) (c3 : Int) (c4 : Row) (c5 : Rows) (x : (Int × Rows)) : Dt := ⟨[.i c0, .u, .u, .s c1, .i c2, .i c3, .i x.1], [], [et 41 c4], [c5, x.2]⟩
noncomputable def o13_0 (c0 : Int) (c1 : ByteArray) (c2 : Int) (c3 : Int) (c4 : Row) (c5 : Rows) (r : Rows) : X × Dt := (.exit 2, ⟨[.i c2], [], [], [r]⟩)
noncomputable def e13 (k : Nat) (d : Dt) : T (X × Dt) := out1 (iter (s13 k (aI (aN d.a 0)) (aS (aN d.a 3)) (aI (aN d.a 4)) (aI (aN d.a 5)) (d.r.getD 0 []) (d.m.getD 0 [])) k ((aI (aN d.a 6)), (d.m.getD 1 []))) default (o13_0 (aI (aN d.a 0)) (aS (aN d.a 3)) (aI (aN d.a 4)) (aI (aN d.a 5)) (d.r.getD 0 []) (d.m.getD 0 []))
noncomputable def S (k : Nat) : Subs := fun n => bif Nat.beq n 3 then some (loopV Tryz.prog t3 (e3 k)) else bif Nat.beq n 13 then some (loopV Tryz.prog t13 (e13 k)) else none
noncomputable def f (k : Nat) (a0 : Row) (a1 : Rows) (a2 : Int) : T Rows :=
  .bnd (iter (statefulset_slots.s3 k a2 a1 (rLen a1) (et 41 a0)) k ((0), [])) default fun r0 =>
  .bnd (pod_Hash.f k (eo 37 a0 18)).eval default fun r1 =>
  .test (rOk 504 (0) (40))
   (.test (iLe (0) (40))
    (.bnd (iter (statefulset_slots.s13 k a2 r1 (40) (40) (et 41 a0) r0) k ((0), (rMake (40) [.bool false, .bool false, .bool false, .bool false, .bool false, .str ByteArray.empty, .str ByteArray.empty, .str ByteArray.empty, .str ByteArray.empty, .int .i64 (0), .int .i64 (0), .int .i64 (0), .int .i64 (0), .bool false, .int .i64 (0), .slice 89 [] .open, .slice 86 [] .open, .slice 9 [] .open, .slice 229 [] .open, .str ByteArray.empty, .int .i64 (0), .int .i64 (0), .int .i64 (0), .slice 164 [] .open, .slice 168 [] .open, .slice 172 [] .open, .slice 176 [] .open, .slice 180 [] .open, .slice 184 [] .open, .int .i64 (0), .bool false, .int .i64 (0), .int .i64 (0), .int .i64 (0), .slice 231 [] .open, .int .i64 (0), .str ByteArray.empty, .str ByteArray.empty]))) default fun r2 =>
    .ret (rTake r2 (40)))
    (.fail))
   (.fail)
noncomputable def d (k : Nat) : Fun := mkFun [41, 42, 3] (fun as_ => f k (vRow (vN as_ 0)) (vRows (vN as_ 1)) (vInt (vN as_ 2))) default (fun r => .slice 80 r .open)
theorem hC (k : Nat) : CxOk (C k) := CxOk.cons (p := (43, meta_Controller.d k)) (meta_Controller.ok k) (CxOk.cons (p := (44, pod_Hash.d k)) (pod_Hash.ok k) (CxOk.cons (p := (14, statefulset_Name.d k)) (statefulset_Name.ok k) (CxOk.cons (p := (45, label_Get.d k)) (label_Get.ok k) (CxOk.cons (p := (46, pod_Available.d k)) (pod_Available.ok k) (CxOk.cons (p := (47, meta_KeyOf.d k)) (meta_KeyOf.ok k) (CxOk.nil))))))
theorem l3 (k : Nat) : LoopOk Tryz.prog (S k) (lp (bodyF (Go.Proofs.Tryz.f27)) 0) := loopOk_mk (C := C k) (hC k) (Loops.all (n := 0) (by kernel_rfl) trivial) (lt := t3) (den := e3 k) (by kernel_rfl) (N := (Int × Rows × Int × Row)) (A := (Int × Rows)) (R := Rows)
 (fun n x => a3 n.1 n.2.1 n.2.2.1 n.2.2.2 x) (fun n r => o3_0 n.1 n.2.1 n.2.2.1 n.2.2.2 r) (fun n x => s3 k n.1 n.2.1 n.2.2.1 n.2.2.2 x) k (fun d => ((aI (aN d.a 0)), (aR (aN d.a 3)), (aI (aN d.a 4)), (d.r.getD 0 []))) (fun d => ((aI (aN d.a 5)), (d.m.getD 0 []))) (fun d y h => out1_eval h) (fun d => by kernel_rfl) (fun n x => by kernel_rfl) (fun n r => ⟨_, rfl⟩)
theorem l13 (k : Nat) : LoopOk Tryz.prog (S k) (lp (bodyF (Go.Proofs.Tryz.f27)) 1) := loopOk_mk (C := C k) (hC k) (Loops.all (n := 0) (by kernel_rfl) trivial) (lt := t13) (den := e13 k) (by kernel_rfl) (N := (Int × ByteArray × Int × Int × Row × Rows)) (A := (Int × Rows)) (R := Rows)
 (fun n x => a13 n.1 n.2.1 n.2.2.1 n.2.2.2.1 n.2.2.2.2.1 n.2.2.2.2.2 x) (fun n r => o13_0 n.1 n.2.1 n.2.2.1 n.2.2.2.1 n.2.2.2.2.1 n.2.2.2.2.2 r) (fun n x => s13 k n.1 n.2.1 n.2.2.1 n.2.2.2.1 n.2.2.2.2.1 n.2.2.2.2.2 x) k (fun d => ((aI (aN d.a 0)), (aS (aN d.a 3)), (aI (aN d.a 4)), (aI (aN d.a 5)), (d.r.getD 0 []), (d.m.getD 0 []))) (fun d => ((aI (aN d.a 6)), (d.m.getD 1 []))) (fun d y h => out1_eval h) (fun d => by kernel_rfl) (fun n x => by kernel_rfl) (fun n r => ⟨_, rfl⟩)
theorem ok (k : Nat) : FunOk Tryz.prog 27 (d k) := fun_mk (C := C k) (hC k) (S := S k) Tryz.func27 (by kernel_rfl) (by kernel_rfl) (Loops.all (n := 2) (by kernel_rfl) ⟨⟨trivial, l3 k⟩, l13 k⟩) (fun as_ => by kernel_rfl)
end statefulset_slots
namespace statefulset_bounds
noncomputable def C (k : Nat) : Cx := ⟨Tryz.prog, tab [], [], [], tab []⟩
noncomputable def S (k : Nat) : Subs := fun n => none
noncomputable def f (k : Nat) (a0 : Row) : T (Int × Int) :=
  .ret ((iMin (iMax (rInt a0 13) (0)) (40)), (iMin (iMax (rInt a0 14) (0)) (iMin (iMax (rInt a0 13) (0)) (40))))
noncomputable def d (k : Nat) : Fun := mkFun [41] (fun as_ => f k (vRow (vN as_ 0))) default (fun r => .tuple [.int .i64 r.1, .int .i64 r.2])
theorem hC (k : Nat) : CxOk (C k) := CxOk.nil
theorem ok (k : Nat) : FunOk Tryz.prog 28 (d k) := fun_mk (C := C k) (hC k) (S := S k) Tryz.func28 (by kernel_rfl) (by kernel_rfl) (Loops.all (n := 0) (by kernel_rfl) trivial) (fun as_ => by kernel_rfl)
end statefulset_bounds
namespace statefulset_outdated
noncomputable def C (k : Nat) : Cx := ⟨Tryz.prog, tab [], [], [], tab []⟩
noncomputable def t2 : LoopT := ⟨⟨29, [], [(0, .sl 80 none), (2, .int .i64), (7, .int .i64)], [], [], []⟩, (fun | .ret => some ⟨29, [], [(6, .int .i64)], [], [], []⟩ | .exit 0 => some ⟨29, [], [], [], [], []⟩ | _ => none)⟩
noncomputable def s2 (k : Nat) (c0 : Rows) (c1 : Int) (x : Int) : T (Int ⊕ (Int ⊕ Unit)) :=
  .test (iLe c1 x)
   (.test (iIn x (rLen c0))
    (.test (bImp (rBool (rAt c0 x) 0) (iIn x (rLen c0)))
     (.test (bIte (rBool (rAt c0 x) 0) (bNot (rBool (rAt c0 x) 2)) false)
      (.ret (.inr (.inl x)))
      (.ret (.inl (iSub .i64 x (1)))))
     (.fail))
    (.fail))
   (.ret (.inr (.inr ())))
noncomputable def a2 (c0 : Rows) (c1 : Int) (x : Int) : Dt := ⟨[.r c0, .i c1, .i x], [], [], []⟩
noncomputable def o2_0 (c0 : Rows) (c1 : Int) (r : Int) : X × Dt := (.ret, ⟨[.i r], [], [], []⟩)
noncomputable def o2_1 (c0 : Rows) (c1 : Int) (r : Unit) : X × Dt := (.exit 0, ⟨[], [], [], []⟩)
noncomputable def e2 (k : Nat) (d : Dt) : T (X × Dt) := out2 (iter (s2 k (aR (aN d.a 0)) (aI (aN d.a 1))) k (aI (aN d.a 2))) (o2_0 (aR (aN d.a 0)) (aI (aN d.a 1))) (o2_1 (aR (aN d.a 0)) (aI (aN d.a 1)))
noncomputable def S (k : Nat) : Subs := fun n => bif Nat.beq n 2 then some (loopV Tryz.prog t2 (e2 k)) else none
noncomputable def f (k : Nat) (a0 : Rows) (a1 : Int) (a2 : Int) : T Int :=
  .cas (iter (statefulset_outdated.s2 k a0 a2) k (iSub .i64 a1 (1))) (fun r0 =>
   .ret r0) (fun r1 =>
   .ret (-1))
noncomputable def d (k : Nat) : Fun := mkFun [72, 3, 3] (fun as_ => f k (vRows (vN as_ 0)) (vInt (vN as_ 1)) (vInt (vN as_ 2))) default (fun r => .int .i64 r)
theorem hC (k : Nat) : CxOk (C k) := CxOk.nil
theorem l2 (k : Nat) : LoopOk Tryz.prog (S k) (lp (bodyF (Go.Proofs.Tryz.f48)) 0) := loopOk_mk (C := C k) (hC k) (Loops.all (n := 0) (by kernel_rfl) trivial) (lt := t2) (den := e2 k) (by kernel_rfl) (N := (Rows × Int)) (A := Int) (R := (Int ⊕ Unit))
 (fun n x => a2 n.1 n.2 x) (fun n r => Sum.elim (o2_0 n.1 n.2) (o2_1 n.1 n.2) r) (fun n x => s2 k n.1 n.2 x) k (fun d => ((aR (aN d.a 0)), (aI (aN d.a 1)))) (fun d => (aI (aN d.a 2))) (fun d y h => out2_eval h) (fun d => by kernel_rfl) (fun n x => by kernel_rfl) (fun n r => by rcases r with r | r <;> exact ⟨_, rfl⟩)
theorem ok (k : Nat) : FunOk Tryz.prog 48 (d k) := fun_mk (C := C k) (hC k) (S := S k) Tryz.func48 (by kernel_rfl) (by kernel_rfl) (Loops.all (n := 1) (by kernel_rfl) ⟨trivial, l2 k⟩) (fun as_ => by kernel_rfl)
end statefulset_outdated
namespace statefulset_parallel_1
noncomputable def C (k : Nat) : Cx := ⟨Tryz.prog, tab [], [], [], tab []⟩
noncomputable def S (k : Nat) : Subs := fun n => none
noncomputable def f (k : Nat) (a0 : Row) : T Bool :=
  .ret (bNot (rBool a0 1))
noncomputable def d (k : Nat) : Fun := mkFun [80] (fun as_ => f k (vRow (vN as_ 0))) default (fun r => .bool r)
theorem hC (k : Nat) : CxOk (C k) := CxOk.nil
theorem ok (k : Nat) : FunOk Tryz.prog 50 (d k) := fun_mk (C := C k) (hC k) (S := S k) Tryz.func50 (by kernel_rfl) (by kernel_rfl) (Loops.all (n := 0) (by kernel_rfl) trivial) (fun as_ => by kernel_rfl)
end statefulset_parallel_1
namespace slices_IndexFunc_statefulset_slot_statefulset_slot_c50
noncomputable def C (k : Nat) : Cx := ⟨Tryz.prog, tab [(50, statefulset_parallel_1.d k)], [], [], tab []⟩
noncomputable def t2 : LoopT := ⟨⟨19, [], [(0, .sl 80 none), (1, .fn 50 []), (7, .int .i64), (8, .int .i64)], [], [], []⟩, (fun | .ret => some ⟨19, [], [(4, .int .i64)], [], [], []⟩ | .exit 0 => some ⟨19, [], [], [], [], []⟩ | _ => none)⟩
noncomputable def s2 (k : Nat) (c0 : Rows) (c1 : Int) (x : Int) : T (Int ⊕ (Int ⊕ Unit)) :=
  .test (iLt x c1)
   (.test (iIn x (rLen c0))
    (.bnd (statefulset_parallel_1.f k (et 80 (rAt c0 x))).eval default fun r0 =>
    .test r0
     (.ret (.inr (.inl x)))
     (.ret (.inl (iAdd .i64 x (1)))))
    (.fail))
   (.ret (.inr (.inr ())))
noncomputable def a2 (c0 : Rows) (c1 : Int) (x : Int) : Dt := ⟨[.r c0, .c [], .i c1, .i x], [], [], []⟩
noncomputable def o2_0 (c0 : Rows) (c1 : Int) (r : Int) : X × Dt := (.ret, ⟨[.i r], [], [], []⟩)
noncomputable def o2_1 (c0 : Rows) (c1 : Int) (r : Unit) : X × Dt := (.exit 0, ⟨[], [], [], []⟩)
noncomputable def e2 (k : Nat) (d : Dt) : T (X × Dt) := out2 (iter (s2 k (aR (aN d.a 0)) (aI (aN d.a 2))) k (aI (aN d.a 3))) (o2_0 (aR (aN d.a 0)) (aI (aN d.a 2))) (o2_1 (aR (aN d.a 0)) (aI (aN d.a 2)))
noncomputable def S (k : Nat) : Subs := fun n => bif Nat.beq n 2 then some (loopV Tryz.prog t2 (e2 k)) else none
noncomputable def f (k : Nat) (a0 : Rows) : T Int :=
  .cas (iter (slices_IndexFunc_statefulset_slot_statefulset_slot_c50.s2 k a0 (rLen a0)) k (0)) (fun r0 =>
   .ret r0) (fun r1 =>
   .ret (-1))
noncomputable def d (k : Nat) : Fun := mkFun [72, .fn 50 []] (fun as_ => f k (vRows (vN as_ 0))) default (fun r => .int .i64 r)
theorem hC (k : Nat) : CxOk (C k) := CxOk.cons (p := (50, statefulset_parallel_1.d k)) (statefulset_parallel_1.ok k) (CxOk.nil)
theorem l2 (k : Nat) : LoopOk Tryz.prog (S k) (lp (bodyF (Go.Proofs.Tryz.f64)) 0) := loopOk_mk (C := C k) (hC k) (Loops.all (n := 0) (by kernel_rfl) trivial) (lt := t2) (den := e2 k) (by kernel_rfl) (N := (Rows × Int)) (A := Int) (R := (Int ⊕ Unit))
 (fun n x => a2 n.1 n.2 x) (fun n r => Sum.elim (o2_0 n.1 n.2) (o2_1 n.1 n.2) r) (fun n x => s2 k n.1 n.2 x) k (fun d => ((aR (aN d.a 0)), (aI (aN d.a 2)))) (fun d => (aI (aN d.a 3))) (fun d y h => out2_eval h) (fun d => by kernel_rfl) (fun n x => by kernel_rfl) (fun n r => by rcases r with r | r <;> exact ⟨_, rfl⟩)
theorem ok (k : Nat) : FunOk Tryz.prog 64 (d k) := fun_mk (C := C k) (hC k) (S := S k) Tryz.func64 (by kernel_rfl) (by kernel_rfl) (Loops.all (n := 1) (by kernel_rfl) ⟨trivial, l2 k⟩) (fun as_ => by kernel_rfl)
end slices_IndexFunc_statefulset_slot_statefulset_slot_c50
namespace slices_ContainsFunc_statefulset_slot_statefulset_slot_c50
noncomputable def C (k : Nat) : Cx := ⟨Tryz.prog, tab [(51000064, slices_IndexFunc_statefulset_slot_statefulset_slot_c50.d k)], [], [], tab []⟩
noncomputable def S (k : Nat) : Subs := fun n => none
noncomputable def f (k : Nat) (a0 : Rows) : T Bool :=
  .bnd (slices_IndexFunc_statefulset_slot_statefulset_slot_c50.f k a0).eval default fun r0 =>
  .ret (iLe (0) r0)
noncomputable def d (k : Nat) : Fun := mkFun [72, .fn 50 []] (fun as_ => f k (vRows (vN as_ 0))) default (fun r => .bool r)
theorem hC (k : Nat) : CxOk (C k) := CxOk.consK (p := (51000064, slices_IndexFunc_statefulset_slot_statefulset_slot_c50.d k)) (by kernel_rfl) (slices_IndexFunc_statefulset_slot_statefulset_slot_c50.ok k) (CxOk.nil)
theorem ok (k : Nat) : FunOk Tryz.prog 49 (d k) := fun_mk (C := C k) (hC k) (S := S k) Tryz.func49 (by kernel_rfl) (by kernel_rfl) (Loops.all (n := 0) (by kernel_rfl) trivial) (fun as_ => by kernel_rfl)
end slices_ContainsFunc_statefulset_slot_statefulset_slot_c50
namespace statefulset_parallel
noncomputable def C (k : Nat) : Cx := ⟨Tryz.prog, tab [(48, statefulset_outdated.d k), (51000049, slices_ContainsFunc_statefulset_slot_statefulset_slot_c50.d k)], [], [], tab []⟩
noncomputable def t4 : LoopT := ⟨⟨96, [.tmp 8 32 3, .tmp 9 54 9], [(0, .sl 80 none), (1, .int .i64), (2, .int .i64), (8, .sl 3 (some 32)), (9, .sl 9 (some 54)), (13, .sl 80 none), (14, .int .i64), (15, .int .i64)], [], [], []⟩, (fun | .exit 0 => some ⟨96, [], [(0, .sl 80 none), (1, .int .i64), (2, .int .i64), (8, .sl 3 (some 32)), (9, .sl 9 (some 54))], [], [], []⟩ | _ => none)⟩
noncomputable def s4 (k : Nat) (c0 : Rows) (c1 : Int) (c2 : Int) (c3 : Rows) (c4 : Int) (x : (Rows × Rows × Int)) : T ((Rows × Rows × Int) ⊕ (Rows × Rows)) :=
  .test (iLt x.2.2 c4)
   (.test (iIn x.2.2 (rLen c3))
    (.test (bIte (iLt x.2.2 c1) (bNot (rBool (rAt c3 x.2.2) 0)) false)
     (.test (rOk 8 (rLen x.1) (rLen [[.int .i64 x.2.2]]))
      (.ret (.inl ((rCat x.1 [[.int .i64 x.2.2]]), x.2.1, (iAdd .i64 x.2.2 (1)))))
      (.fail))
     (.test (bIte (bIte (rBool (rAt c3 x.2.2) 0) (bNot (rBool (rAt c3 x.2.2) 4)) false) (bIte (iLe c1 x.2.2) true (rBool (rAt c3 x.2.2) 3)) false)
      (.test (rOk 16 (rLen x.2.1) (rLen [[.str (rStr (rAt c3 x.2.2) 5)]]))
       (.ret (.inl (x.1, (rCat x.2.1 [[.str (rStr (rAt c3 x.2.2) 5)]]), (iAdd .i64 x.2.2 (1)))))
       (.fail))
      (.ret (.inl (x.1, x.2.1, (iAdd .i64 x.2.2 (1)))))))
    (.fail))
   (.ret (.inr (x.1, x.2.1)))
noncomputable def a4 (c0 : Rows) (c1 : Int) (c2 : Int) (c3 : Rows) (c4 : Int) (x : (Rows × Rows × Int)) : Dt := ⟨[.r c0, .i c1, .i c2, .r x.1, .r x.2.1, .r c3, .i c4, .i x.2.2], [], [], []⟩
noncomputable def o4_0 (c0 : Rows) (c1 : Int) (c2 : Int) (c3 : Rows) (c4 : Int) (r : (Rows × Rows)) : X × Dt := (.exit 0, ⟨[.r c0, .i c1, .i c2, .r r.1, .r r.2], [], [], []⟩)
noncomputable def e4 (k : Nat) (d : Dt) : T (X × Dt) := out1 (iter (s4 k (aR (aN d.a 0)) (aI (aN d.a 1)) (aI (aN d.a 2)) (aR (aN d.a 5)) (aI (aN d.a 6))) k ((aR (aN d.a 3)), (aR (aN d.a 4)), (aI (aN d.a 7)))) default (o4_0 (aR (aN d.a 0)) (aI (aN d.a 1)) (aI (aN d.a 2)) (aR (aN d.a 5)) (aI (aN d.a 6)))
noncomputable def S (k : Nat) : Subs := fun n => bif Nat.beq n 4 then some (loopV Tryz.prog t4 (e4 k)) else none
noncomputable def f (k : Nat) (a0 : Rows) (a1 : Int) (a2 : Int) : T (Rows × Rows) :=
  .bnd (iter (statefulset_parallel.s4 k a0 a1 a2 a0 (rLen a0)) k ([], ([], (0)))) default fun r0 =>
  .test (iLt (0) (iAdd .i64 (rLen r0.1) (rLen r0.2)))
   (.ret (r0.1, r0.2))
   (.bnd (statefulset_outdated.f k a0 a1 a2).eval default fun r1 =>
   .test (bImp (iLe (0) r1) (iIn r1 (rLen a0)))
    (.test (bImp (bIte (iLe (0) r1) (bNot (rBool (rAt a0 r1) 4)) false) (iCut (iAdd .i64 r1 (1)) a1 (rLen a0)))
     (.opt (bIte (iLe (0) r1) (bNot (rBool (rAt a0 r1) 4)) false) (slices_ContainsFunc_statefulset_slot_statefulset_slot_c50.f k (rCut a0 (iAdd .i64 r1 (1)) a1)).eval default fun r2 =>
     .test (bIte (bIte (iLe (0) r1) (bNot (rBool (rAt a0 r1) 4)) false) (bNot r2) false)
      (.test (iIn r1 (rLen a0))
       (.test (rOk 16 (rLen r0.2) (rLen [[.str (rStr (rAt a0 r1) 5)]]))
        (.ret ([], (rCat r0.2 [[.str (rStr (rAt a0 r1) 5)]])))
        (.fail))
       (.fail))
      (.ret ([], r0.2)))
     (.fail))
    (.fail))
noncomputable def d (k : Nat) : Fun := mkFun [72, 3, 3] (fun as_ => f k (vRows (vN as_ 0)) (vInt (vN as_ 1)) (vInt (vN as_ 2))) default (fun r => .tuple [.slice 3 r.1 .open, .slice 9 r.2 .open])
theorem hC (k : Nat) : CxOk (C k) := CxOk.cons (p := (48, statefulset_outdated.d k)) (statefulset_outdated.ok k) (CxOk.consK (p := (51000049, slices_ContainsFunc_statefulset_slot_statefulset_slot_c50.d k)) (by kernel_rfl) (slices_ContainsFunc_statefulset_slot_statefulset_slot_c50.ok k) (CxOk.nil))
theorem l4 (k : Nat) : LoopOk Tryz.prog (S k) (lp (bodyF (Go.Proofs.Tryz.f29)) 0) := loopOk_mk (C := C k) (hC k) (Loops.all (n := 0) (by kernel_rfl) trivial) (lt := t4) (den := e4 k) (by kernel_rfl) (N := (Rows × Int × Int × Rows × Int)) (A := (Rows × Rows × Int)) (R := (Rows × Rows))
 (fun n x => a4 n.1 n.2.1 n.2.2.1 n.2.2.2.1 n.2.2.2.2 x) (fun n r => o4_0 n.1 n.2.1 n.2.2.1 n.2.2.2.1 n.2.2.2.2 r) (fun n x => s4 k n.1 n.2.1 n.2.2.1 n.2.2.2.1 n.2.2.2.2 x) k (fun d => ((aR (aN d.a 0)), (aI (aN d.a 1)), (aI (aN d.a 2)), (aR (aN d.a 5)), (aI (aN d.a 6)))) (fun d => ((aR (aN d.a 3)), (aR (aN d.a 4)), (aI (aN d.a 7)))) (fun d y h => out1_eval h) (fun d => by kernel_rfl) (fun n x => by kernel_rfl) (fun n r => ⟨_, rfl⟩)
theorem ok (k : Nat) : FunOk Tryz.prog 29 (d k) := fun_mk (C := C k) (hC k) (S := S k) Tryz.func29 (by kernel_rfl) (by kernel_rfl) (Loops.all (n := 1) (by kernel_rfl) ⟨trivial, l4 k⟩) (fun as_ => by kernel_rfl)
end statefulset_parallel
namespace statefulset_settled_1
noncomputable def C (k : Nat) : Cx := ⟨Tryz.prog, tab [], [], [], tab []⟩
noncomputable def S (k : Nat) : Subs := fun n => none
noncomputable def f (k : Nat) (a0 : Row) : T Bool :=
  .ret (bIte (rBool a0 0) (bNot (rBool a0 1)) false)
noncomputable def d (k : Nat) : Fun := mkFun [80] (fun as_ => f k (vRow (vN as_ 0))) default (fun r => .bool r)
theorem hC (k : Nat) : CxOk (C k) := CxOk.nil
theorem ok (k : Nat) : FunOk Tryz.prog 65 (d k) := fun_mk (C := C k) (hC k) (S := S k) Tryz.func65 (by kernel_rfl) (by kernel_rfl) (Loops.all (n := 0) (by kernel_rfl) trivial) (fun as_ => by kernel_rfl)
end statefulset_settled_1
namespace slices_IndexFunc_statefulset_slot_statefulset_slot_c65
noncomputable def C (k : Nat) : Cx := ⟨Tryz.prog, tab [(65, statefulset_settled_1.d k)], [], [], tab []⟩
noncomputable def t2 : LoopT := ⟨⟨19, [], [(0, .sl 80 none), (1, .fn 65 []), (7, .int .i64), (8, .int .i64)], [], [], []⟩, (fun | .ret => some ⟨19, [], [(4, .int .i64)], [], [], []⟩ | .exit 0 => some ⟨19, [], [], [], [], []⟩ | _ => none)⟩
noncomputable def s2 (k : Nat) (c0 : Rows) (c1 : Int) (x : Int) : T (Int ⊕ (Int ⊕ Unit)) :=
  .test (iLt x c1)
   (.test (iIn x (rLen c0))
    (.bnd (statefulset_settled_1.f k (et 80 (rAt c0 x))).eval default fun r0 =>
    .test r0
     (.ret (.inr (.inl x)))
     (.ret (.inl (iAdd .i64 x (1)))))
    (.fail))
   (.ret (.inr (.inr ())))
noncomputable def a2 (c0 : Rows) (c1 : Int) (x : Int) : Dt := ⟨[.r c0, .c [], .i c1, .i x], [], [], []⟩
noncomputable def o2_0 (c0 : Rows) (c1 : Int) (r : Int) : X × Dt := (.ret, ⟨[.i r], [], [], []⟩)
noncomputable def o2_1 (c0 : Rows) (c1 : Int) (r : Unit) : X × Dt := (.exit 0, ⟨[], [], [], []⟩)
noncomputable def e2 (k : Nat) (d : Dt) : T (X × Dt) := out2 (iter (s2 k (aR (aN d.a 0)) (aI (aN d.a 2))) k (aI (aN d.a 3))) (o2_0 (aR (aN d.a 0)) (aI (aN d.a 2))) (o2_1 (aR (aN d.a 0)) (aI (aN d.a 2)))
noncomputable def S (k : Nat) : Subs := fun n => bif Nat.beq n 2 then some (loopV Tryz.prog t2 (e2 k)) else none
noncomputable def f (k : Nat) (a0 : Rows) : T Int :=
  .cas (iter (slices_IndexFunc_statefulset_slot_statefulset_slot_c65.s2 k a0 (rLen a0)) k (0)) (fun r0 =>
   .ret r0) (fun r1 =>
   .ret (-1))
noncomputable def d (k : Nat) : Fun := mkFun [72, .fn 65 []] (fun as_ => f k (vRows (vN as_ 0))) default (fun r => .int .i64 r)
theorem hC (k : Nat) : CxOk (C k) := CxOk.cons (p := (65, statefulset_settled_1.d k)) (statefulset_settled_1.ok k) (CxOk.nil)
theorem l2 (k : Nat) : LoopOk Tryz.prog (S k) (lp (bodyF (Go.Proofs.Tryz.f64)) 0) := loopOk_mk (C := C k) (hC k) (Loops.all (n := 0) (by kernel_rfl) trivial) (lt := t2) (den := e2 k) (by kernel_rfl) (N := (Rows × Int)) (A := Int) (R := (Int ⊕ Unit))
 (fun n x => a2 n.1 n.2 x) (fun n r => Sum.elim (o2_0 n.1 n.2) (o2_1 n.1 n.2) r) (fun n x => s2 k n.1 n.2 x) k (fun d => ((aR (aN d.a 0)), (aI (aN d.a 2)))) (fun d => (aI (aN d.a 3))) (fun d y h => out2_eval h) (fun d => by kernel_rfl) (fun n x => by kernel_rfl) (fun n r => by rcases r with r | r <;> exact ⟨_, rfl⟩)
theorem ok (k : Nat) : FunOk Tryz.prog 64 (d k) := fun_mk (C := C k) (hC k) (S := S k) Tryz.func64 (by kernel_rfl) (by kernel_rfl) (Loops.all (n := 1) (by kernel_rfl) ⟨trivial, l2 k⟩) (fun as_ => by kernel_rfl)
end slices_IndexFunc_statefulset_slot_statefulset_slot_c65
namespace slices_ContainsFunc_statefulset_slot_statefulset_slot_c65
noncomputable def C (k : Nat) : Cx := ⟨Tryz.prog, tab [(66000064, slices_IndexFunc_statefulset_slot_statefulset_slot_c65.d k)], [], [], tab []⟩
noncomputable def S (k : Nat) : Subs := fun n => none
noncomputable def f (k : Nat) (a0 : Rows) : T Bool :=
  .bnd (slices_IndexFunc_statefulset_slot_statefulset_slot_c65.f k a0).eval default fun r0 =>
  .ret (iLe (0) r0)
noncomputable def d (k : Nat) : Fun := mkFun [72, .fn 65 []] (fun as_ => f k (vRows (vN as_ 0))) default (fun r => .bool r)
theorem hC (k : Nat) : CxOk (C k) := CxOk.consK (p := (66000064, slices_IndexFunc_statefulset_slot_statefulset_slot_c65.d k)) (by kernel_rfl) (slices_IndexFunc_statefulset_slot_statefulset_slot_c65.ok k) (CxOk.nil)
theorem ok (k : Nat) : FunOk Tryz.prog 49 (d k) := fun_mk (C := C k) (hC k) (S := S k) Tryz.func49 (by kernel_rfl) (by kernel_rfl) (Loops.all (n := 0) (by kernel_rfl) trivial) (fun as_ => by kernel_rfl)
end slices_ContainsFunc_statefulset_slot_statefulset_slot_c65
namespace statefulset_settled
noncomputable def C (k : Nat) : Cx := ⟨Tryz.prog, tab [(66000049, slices_ContainsFunc_statefulset_slot_statefulset_slot_c65.d k)], [], [], tab []⟩
noncomputable def S (k : Nat) : Subs := fun n => none
noncomputable def f (k : Nat) (a0 : Rows) : T Bool :=
  .bnd (slices_ContainsFunc_statefulset_slot_statefulset_slot_c65.f k a0).eval default fun r0 =>
  .ret (bNot r0)
noncomputable def d (k : Nat) : Fun := mkFun [72] (fun as_ => f k (vRows (vN as_ 0))) default (fun r => .bool r)
theorem hC (k : Nat) : CxOk (C k) := CxOk.consK (p := (66000049, slices_ContainsFunc_statefulset_slot_statefulset_slot_c65.d k)) (by kernel_rfl) (slices_ContainsFunc_statefulset_slot_statefulset_slot_c65.ok k) (CxOk.nil)
theorem ok (k : Nat) : FunOk Tryz.prog 51 (d k) := fun_mk (C := C k) (hC k) (S := S k) Tryz.func51 (by kernel_rfl) (by kernel_rfl) (Loops.all (n := 0) (by kernel_rfl) trivial) (fun as_ => by kernel_rfl)
end statefulset_settled
namespace statefulset_ordered
noncomputable def C (k : Nat) : Cx := ⟨Tryz.prog, tab [(51, statefulset_settled.d k), (48, statefulset_outdated.d k)], [], [], tab []⟩
noncomputable def t2 : LoopT := ⟨⟨88, [], [(0, .sl 80 none), (1, .int .i64), (2, .int .i64), (14, .sl 80 none), (15, .int .i64), (16, .int .i64)], [], [], []⟩, (fun | .ret => some ⟨88, [], [(6, .sl 3 none), (7, .sl 9 none)], [], [], []⟩ | .exit 0 => some ⟨88, [], [(0, .sl 80 none), (1, .int .i64), (2, .int .i64)], [], [], []⟩ | _ => none)⟩
noncomputable def s2 (k : Nat) (c0 : Rows) (c1 : Int) (c2 : Int) (c3 : Rows) (c4 : Int) (x : Int) : T (Int ⊕ ((Rows × Rows) ⊕ Unit)) :=
  .test (iLt x c4)
   (.test (iIn x (rLen c3))
    (.test (bNot (rBool (rAt c3 x) 0))
     (.ret (.inr (.inl ([[.int .i64 x]], []))))
     (.test (rBool (rAt c3 x) 1)
      (.ret (.inl (iAdd .i64 x (1))))
      (.test (bIte (rBool (rAt c3 x) 3) (bNot (rBool (rAt c3 x) 4)) false)
       (.ret (.inr (.inl ([], [[.str (rStr (rAt c3 x) 5)]]))))
       (.ret (.inr (.inl ([], [])))))))
    (.fail))
   (.ret (.inr (.inr ())))
noncomputable def a2 (c0 : Rows) (c1 : Int) (c2 : Int) (c3 : Rows) (c4 : Int) (x : Int) : Dt := ⟨[.r c0, .i c1, .i c2, .r c3, .i c4, .i x], [], [], []⟩
noncomputable def o2_0 (c0 : Rows) (c1 : Int) (c2 : Int) (c3 : Rows) (c4 : Int) (r : (Rows × Rows)) : X × Dt := (.ret, ⟨[.r r.1, .r r.2], [], [], []⟩)
noncomputable def o2_1 (c0 : Rows) (c1 : Int) (c2 : Int) (c3 : Rows) (c4 : Int) (r : Unit) : X × Dt := (.exit 0, ⟨[.r c0, .i c1, .i c2], [], [], []⟩)
noncomputable def e2 (k : Nat) (d : Dt) : T (X × Dt) := out2 (iter (s2 k (aR (aN d.a 0)) (aI (aN d.a 1)) (aI (aN d.a 2)) (aR (aN d.a 3)) (aI (aN d.a 4))) k (aI (aN d.a 5))) (o2_0 (aR (aN d.a 0)) (aI (aN d.a 1)) (aI (aN d.a 2)) (aR (aN d.a 3)) (aI (aN d.a 4))) (o2_1 (aR (aN d.a 0)) (aI (aN d.a 1)) (aI (aN d.a 2)) (aR (aN d.a 3)) (aI (aN d.a 4)))
noncomputable def t12 : LoopT := ⟨⟨88, [], [(0, .sl 80 none), (1, .int .i64), (2, .int .i64), (10, .int .i64)], [], [], []⟩, (fun | .ret => some ⟨88, [], [(6, .sl 3 none), (7, .sl 9 none)], [], [], []⟩ | .exit 3 => some ⟨88, [], [(0, .sl 80 none), (1, .int .i64), (2, .int .i64)], [], [], []⟩ | _ => none)⟩
noncomputable def s12 (k : Nat) (c0 : Rows) (c1 : Int) (c2 : Int) (x : Int) : T (Int ⊕ ((Rows × Rows) ⊕ Unit)) :=
  .test (iLe c1 x)
   (.test (iIn x (rLen c0))
    (.test (bNot (rBool (rAt c0 x) 0))
     (.ret (.inl (iSub .i64 x (1))))
     (.test (iIn x (rLen c0))
      (.test (bImp (bNot (rBool (rAt c0 x) 4)) (iCut (0) x (rLen c0)))
       (.opt (bNot (rBool (rAt c0 x) 4)) (statefulset_settled.f k (rCut c0 (0) x)).eval default fun r0 =>
       .test (bIte (bNot (rBool (rAt c0 x) 4)) r0 false)
        (.test (iIn x (rLen c0))
         (.ret (.inr (.inl ([], [[.str (rStr (rAt c0 x) 5)]]))))
         (.fail))
        (.ret (.inr (.inl ([], [])))))
       (.fail))
      (.fail)))
    (.fail))
   (.ret (.inr (.inr ())))
noncomputable def a12 (c0 : Rows) (c1 : Int) (c2 : Int) (x : Int) : Dt := ⟨[.r c0, .i c1, .i c2, .i x], [], [], []⟩
noncomputable def o12_0 (c0 : Rows) (c1 : Int) (c2 : Int) (r : (Rows × Rows)) : X × Dt := (.ret, ⟨[.r r.1, .r r.2], [], [], []⟩)
noncomputable def o12_1 (c0 : Rows) (c1 : Int) (c2 : Int) (r : Unit) : X × Dt := (.exit 3, ⟨[.r c0, .i c1, .i c2], [], [], []⟩)
noncomputable def e12 (k : Nat) (d : Dt) : T (X × Dt) := out2 (iter (s12 k (aR (aN d.a 0)) (aI (aN d.a 1)) (aI (aN d.a 2))) k (aI (aN d.a 3))) (o12_0 (aR (aN d.a 0)) (aI (aN d.a 1)) (aI (aN d.a 2))) (o12_1 (aR (aN d.a 0)) (aI (aN d.a 1)) (aI (aN d.a 2)))
noncomputable def S (k : Nat) : Subs := fun n => bif Nat.beq n 2 then some (loopV Tryz.prog t2 (e2 k)) else bif Nat.beq n 12 then some (loopV Tryz.prog t12 (e12 k)) else none
noncomputable def f (k : Nat) (a0 : Rows) (a1 : Int) (a2 : Int) : T (Rows × Rows) :=
  .test (iCut (0) a1 (rLen a0))
   (.cas (iter (statefulset_ordered.s2 k a0 a1 a2 (rCut a0 (0) a1) (rLen (rCut a0 (0) a1))) k (0)) (fun r0 =>
    .ret (r0.1, r0.2)) (fun r1 =>
    .cas (iter (statefulset_ordered.s12 k a0 a1 a2) k (iSub .i64 (rLen a0) (1))) (fun r2 =>
     .ret (r2.1, r2.2)) (fun r3 =>
     .bnd (statefulset_outdated.f k a0 a1 a2).eval default fun r4 =>
     .test (iLe (0) r4)
      (.test (iIn r4 (rLen a0))
       (.ret ([], [[.str (rStr (rAt a0 r4) 5)]]))
       (.fail))
      (.ret ([], [])))))
   (.fail)
noncomputable def d (k : Nat) : Fun := mkFun [72, 3, 3] (fun as_ => f k (vRows (vN as_ 0)) (vInt (vN as_ 1)) (vInt (vN as_ 2))) default (fun r => .tuple [.slice 3 r.1 .open, .slice 9 r.2 .open])
theorem hC (k : Nat) : CxOk (C k) := CxOk.cons (p := (51, statefulset_settled.d k)) (statefulset_settled.ok k) (CxOk.cons (p := (48, statefulset_outdated.d k)) (statefulset_outdated.ok k) (CxOk.nil))
theorem l2 (k : Nat) : LoopOk Tryz.prog (S k) (lp (bodyF (Go.Proofs.Tryz.f30)) 0) := loopOk_mk (C := C k) (hC k) (Loops.all (n := 0) (by kernel_rfl) trivial) (lt := t2) (den := e2 k) (by kernel_rfl) (N := (Rows × Int × Int × Rows × Int)) (A := Int) (R := ((Rows × Rows) ⊕ Unit))
 (fun n x => a2 n.1 n.2.1 n.2.2.1 n.2.2.2.1 n.2.2.2.2 x) (fun n r => Sum.elim (o2_0 n.1 n.2.1 n.2.2.1 n.2.2.2.1 n.2.2.2.2) (o2_1 n.1 n.2.1 n.2.2.1 n.2.2.2.1 n.2.2.2.2) r) (fun n x => s2 k n.1 n.2.1 n.2.2.1 n.2.2.2.1 n.2.2.2.2 x) k (fun d => ((aR (aN d.a 0)), (aI (aN d.a 1)), (aI (aN d.a 2)), (aR (aN d.a 3)), (aI (aN d.a 4)))) (fun d => (aI (aN d.a 5))) (fun d y h => out2_eval h) (fun d => by kernel_rfl) (fun n x => by kernel_rfl) (fun n r => by rcases r with r | r <;> exact ⟨_, rfl⟩)
theorem l12 (k : Nat) : LoopOk Tryz.prog (S k) (lp (bodyF (Go.Proofs.Tryz.f30)) 1) := loopOk_mk (C := C k) (hC k) (Loops.all (n := 0) (by kernel_rfl) trivial) (lt := t12) (den := e12 k) (by kernel_rfl) (N := (Rows × Int × Int)) (A := Int) (R := ((Rows × Rows) ⊕ Unit))
 (fun n x => a12 n.1 n.2.1 n.2.2 x) (fun n r => Sum.elim (o12_0 n.1 n.2.1 n.2.2) (o12_1 n.1 n.2.1 n.2.2) r) (fun n x => s12 k n.1 n.2.1 n.2.2 x) k (fun d => ((aR (aN d.a 0)), (aI (aN d.a 1)), (aI (aN d.a 2)))) (fun d => (aI (aN d.a 3))) (fun d y h => out2_eval h) (fun d => by kernel_rfl) (fun n x => by kernel_rfl) (fun n r => by rcases r with r | r <;> exact ⟨_, rfl⟩)
theorem ok (k : Nat) : FunOk Tryz.prog 30 (d k) := fun_mk (C := C k) (hC k) (S := S k) Tryz.func30 (by kernel_rfl) (by kernel_rfl) (Loops.all (n := 2) (by kernel_rfl) ⟨⟨trivial, l2 k⟩, l12 k⟩) (fun as_ => by kernel_rfl)
end statefulset_ordered
namespace statefulset_Plan
noncomputable def C (k : Nat) : Cx := ⟨Tryz.prog, tab [(27, statefulset_slots.d k), (28, statefulset_bounds.d k), (29, statefulset_parallel.d k), (30, statefulset_ordered.d k)], [], [], tab []⟩
noncomputable def S (k : Nat) : Subs := fun n => none
noncomputable def f (k : Nat) (a0 : Row) (a1 : Rows) (a2 : Int) : T (Rows × Rows) :=
  .test (rBool a0 7)
   (.ret ([], []))
   (.bnd (statefulset_slots.f k (et 41 a0) a1 a2).eval default fun r0 =>
   .bnd (statefulset_bounds.f k (et 41 a0)).eval default fun r1 =>
   .test (rBool a0 16)
    (.bnd (statefulset_parallel.f k r0 r1.1 r1.2).eval default fun r2 =>
    .ret (r2.1, r2.2))
    (.bnd (statefulset_ordered.f k r0 r1.1 r1.2).eval default fun r3 =>
    .ret (r3.1, r3.2)))
noncomputable def d (k : Nat) : Fun := mkFun [41, 42, 3] (fun as_ => f k (vRow (vN as_ 0)) (vRows (vN as_ 1)) (vInt (vN as_ 2))) default (fun r => .tuple [.slice 3 r.1 .open, .slice 9 r.2 .open])
theorem hC (k : Nat) : CxOk (C k) := CxOk.cons (p := (27, statefulset_slots.d k)) (statefulset_slots.ok k) (CxOk.cons (p := (28, statefulset_bounds.d k)) (statefulset_bounds.ok k) (CxOk.cons (p := (29, statefulset_parallel.d k)) (statefulset_parallel.ok k) (CxOk.cons (p := (30, statefulset_ordered.d k)) (statefulset_ordered.ok k) (CxOk.nil))))
theorem ok (k : Nat) : FunOk Tryz.prog 10 (d k) := fun_mk (C := C k) (hC k) (S := S k) Tryz.func10 (by kernel_rfl) (by kernel_rfl) (Loops.all (n := 0) (by kernel_rfl) trivial) (fun as_ => by kernel_rfl)
end statefulset_Plan
namespace statefulset_Status
noncomputable def C (k : Nat) : Cx := ⟨Tryz.prog, tab [(27, statefulset_slots.d k), (35, pod_Active.d k)], [], [], tab []⟩
noncomputable def t3 : LoopT := ⟨⟨58, [], [(6, .ptr 6 0), (7, .ptr 7 0), (17, .sl 80 none), (18, .int .i64), (19, .int .i64)], [], [(6, 39), (7, 39)], []⟩, (fun | .exit 0 => some ⟨58, [], [(6, .ptr 6 0), (7, .ptr 7 0)], [], [(6, 39), (7, 39)], []⟩ | _ => none)⟩
noncomputable def s3 (k : Nat) (c0 : Rows) (c1 : Int) (c2 : Row) (x : (Int × Row)) : T ((Int × Row) ⊕ Row) :=
  .test (iLt x.1 c1)
   (.test (iIn x.1 (rLen c0))
    (.opt (bNot (bNot (rBool (rAt c0 x.1) 0))) (pod_Active.f k (eo 61 (rAt c0 x.1) 6)).eval default fun r0 =>
    .test (bIte (bNot (rBool (rAt c0 x.1) 0)) true (bNot r0))
     (.ret (.inl ((iAdd .i64 x.1 (1)), (et 39 x.2))))
     (.test (rBool (rAt c0 x.1) 2)
      (.test (rBool (rAt c0 x.1) 30)
       (.test (rBool (rAt c0 x.1) 1)
        (.ret (.inl ((iAdd .i64 x.1 (1)), [.int .i64 (rInt x.2 0), .int .i64 (iAdd .i64 (rInt x.2 1) (1)), .int .i64 (iAdd .i64 (rInt x.2 2) (1)), .int .i64 (iAdd .i64 (rInt x.2 3) (1)), .int .i64 (iAdd .i64 (rInt x.2 4) (1)), .int .i64 (rInt x.2 5), .bool (rBool x.2 6)])))
        (.ret (.inl ((iAdd .i64 x.1 (1)), [.int .i64 (rInt x.2 0), .int .i64 (iAdd .i64 (rInt x.2 1) (1)), .int .i64 (iAdd .i64 (rInt x.2 2) (1)), .int .i64 (iAdd .i64 (rInt x.2 3) (1)), .int .i64 (rInt x.2 4), .int .i64 (rInt x.2 5), .bool (rBool x.2 6)]))))
       (.test (rBool (rAt c0 x.1) 1)
        (.ret (.inl ((iAdd .i64 x.1 (1)), [.int .i64 (rInt x.2 0), .int .i64 (iAdd .i64 (rInt x.2 1) (1)), .int .i64 (iAdd .i64 (rInt x.2 2) (1)), .int .i64 (rInt x.2 3), .int .i64 (iAdd .i64 (rInt x.2 4) (1)), .int .i64 (rInt x.2 5), .bool (rBool x.2 6)])))
        (.ret (.inl ((iAdd .i64 x.1 (1)), [.int .i64 (rInt x.2 0), .int .i64 (iAdd .i64 (rInt x.2 1) (1)), .int .i64 (iAdd .i64 (rInt x.2 2) (1)), .int .i64 (rInt x.2 3), .int .i64 (rInt x.2 4), .int .i64 (rInt x.2 5), .bool (rBool x.2 6)])))))
      (.test (rBool (rAt c0 x.1) 30)
       (.test (rBool (rAt c0 x.1) 1)
        (.ret (.inl ((iAdd .i64 x.1 (1)), [.int .i64 (rInt x.2 0), .int .i64 (iAdd .i64 (rInt x.2 1) (1)), .int .i64 (rInt x.2 2), .int .i64 (iAdd .i64 (rInt x.2 3) (1)), .int .i64 (iAdd .i64 (rInt x.2 4) (1)), .int .i64 (rInt x.2 5), .bool (rBool x.2 6)])))
        (.ret (.inl ((iAdd .i64 x.1 (1)), [.int .i64 (rInt x.2 0), .int .i64 (iAdd .i64 (rInt x.2 1) (1)), .int .i64 (rInt x.2 2), .int .i64 (iAdd .i64 (rInt x.2 3) (1)), .int .i64 (rInt x.2 4), .int .i64 (rInt x.2 5), .bool (rBool x.2 6)]))))
       (.test (rBool (rAt c0 x.1) 1)
        (.ret (.inl ((iAdd .i64 x.1 (1)), [.int .i64 (rInt x.2 0), .int .i64 (iAdd .i64 (rInt x.2 1) (1)), .int .i64 (rInt x.2 2), .int .i64 (rInt x.2 3), .int .i64 (iAdd .i64 (rInt x.2 4) (1)), .int .i64 (rInt x.2 5), .bool (rBool x.2 6)])))
        (.ret (.inl ((iAdd .i64 x.1 (1)), [.int .i64 (rInt x.2 0), .int .i64 (iAdd .i64 (rInt x.2 1) (1)), .int .i64 (rInt x.2 2), .int .i64 (rInt x.2 3), .int .i64 (rInt x.2 4), .int .i64 (rInt x.2 5), .bool (rBool x.2 6)])))))))
    (.fail))
   (.ret (.inr (et 39 x.2)))
noncomputable def a3 (c0 : Rows) (c1 : Int) (c2 : Row) (x : (Int × Row)) : Dt := ⟨[.u, .u, .r c0, .i c1, .i x.1], [], [et 39 c2, et 39 x.2], []⟩
noncomputable def o3_0 (c0 : Rows) (c1 : Int) (c2 : Row) (r : Row) : X × Dt := (.exit 0, ⟨[.u, .u], [], [(et 39 c2), r], []⟩)
noncomputable def e3 (k : Nat) (d : Dt) : T (X × Dt) := out1 (iter (s3 k (aR (aN d.a 2)) (aI (aN d.a 3)) (d.r.getD 0 [])) k ((aI (aN d.a 4)), (d.r.getD 1 []))) default (o3_0 (aR (aN d.a 2)) (aI (aN d.a 3)) (d.r.getD 0 []))
noncomputable def S (k : Nat) : Subs := fun n => bif Nat.beq n 3 then some (loopV Tryz.prog t3 (e3 k)) else none
noncomputable def f (k : Nat) (a0 : Row) (a1 : Rows) (a2 : Int) : T Row :=
  .bnd (statefulset_slots.f k (et 41 a0) a1 a2).eval default fun r0 =>
  .bnd (iter (statefulset_Status.s3 k r0 (rLen r0) [.int .i64 (0), .int .i64 (0), .int .i64 (0), .int .i64 (0), .int .i64 (0), .int .i64 (0), .bool false]) k ((0), [.int .i64 (rInt a0 5), .int .i64 (0), .int .i64 (0), .int .i64 (0), .int .i64 (0), .int .i64 (0), .bool false])) default fun r1 =>
  .ret (et 39 r1)
noncomputable def d (k : Nat) : Fun := mkFun [41, 42, 3] (fun as_ => f k (vRow (vN as_ 0)) (vRows (vN as_ 1)) (vInt (vN as_ 2))) default (fun r => .agg (et 39 r))
theorem hC (k : Nat) : CxOk (C k) := CxOk.cons (p := (27, statefulset_slots.d k)) (statefulset_slots.ok k) (CxOk.cons (p := (35, pod_Active.d k)) (pod_Active.ok k) (CxOk.nil))
theorem l3 (k : Nat) : LoopOk Tryz.prog (S k) (lp (bodyF (Go.Proofs.Tryz.f16)) 0) := loopOk_mk (C := C k) (hC k) (Loops.all (n := 0) (by kernel_rfl) trivial) (lt := t3) (den := e3 k) (by kernel_rfl) (N := (Rows × Int × Row)) (A := (Int × Row)) (R := Row)
 (fun n x => a3 n.1 n.2.1 n.2.2 x) (fun n r => o3_0 n.1 n.2.1 n.2.2 r) (fun n x => s3 k n.1 n.2.1 n.2.2 x) k (fun d => ((aR (aN d.a 2)), (aI (aN d.a 3)), (d.r.getD 0 []))) (fun d => ((aI (aN d.a 4)), (d.r.getD 1 []))) (fun d y h => out1_eval h) (fun d => by kernel_rfl) (fun n x => by kernel_rfl) (fun n r => ⟨_, rfl⟩)
theorem ok (k : Nat) : FunOk Tryz.prog 16 (d k) := fun_mk (C := C k) (hC k) (S := S k) Tryz.func16 (by kernel_rfl) (by kernel_rfl) (Loops.all (n := 1) (by kernel_rfl) ⟨trivial, l3 k⟩) (fun as_ => by kernel_rfl)
end statefulset_Status
namespace law47_ints
noncomputable def C (k : Nat) : Cx := ⟨Tryz.prog, tab [], [], [], tab []⟩
noncomputable def t4 : LoopT := ⟨⟨26, [], [(0, .sl 3 none), (1, .sl 3 none), (5, .int .i64)], [], [], []⟩, (fun | .ret => some ⟨26, [], [(4, .bool)], [], [], []⟩ | .exit 0 => some ⟨26, [], [], [], [], []⟩ | _ => none)⟩
noncomputable def s4 (k : Nat) (c0 : Rows) (c1 : Rows) (x : Int) : T (Int ⊕ (Bool ⊕ Unit)) :=
  .test (iLt x (rLen c0))
   (.test (iIn x (rLen c0))
    (.test (iIn x (rLen c1))
     (.test (bNot (iEq (rInt (rAt c0 x) 0) (rInt (rAt c1 x) 0)))
      (.ret (.inr (.inl false)))
      (.ret (.inl (iAdd .i64 x (1)))))
     (.fail))
    (.fail))
   (.ret (.inr (.inr ())))
noncomputable def a4 (c0 : Rows) (c1 : Rows) (x : Int) : Dt := ⟨[.r c0, .r c1, .i x], [], [], []⟩
noncomputable def o4_0 (c0 : Rows) (c1 : Rows) (r : Bool) : X × Dt := (.ret, ⟨[.b r], [], [], []⟩)
noncomputable def o4_1 (c0 : Rows) (c1 : Rows) (r : Unit) : X × Dt := (.exit 0, ⟨[], [], [], []⟩)
noncomputable def e4 (k : Nat) (d : Dt) : T (X × Dt) := out2 (iter (s4 k (aR (aN d.a 0)) (aR (aN d.a 1))) k (aI (aN d.a 2))) (o4_0 (aR (aN d.a 0)) (aR (aN d.a 1))) (o4_1 (aR (aN d.a 0)) (aR (aN d.a 1)))
noncomputable def S (k : Nat) : Subs := fun n => bif Nat.beq n 4 then some (loopV Tryz.prog t4 (e4 k)) else none
noncomputable def f (k : Nat) (a0 : Rows) (a1 : Rows) : T Bool :=
  .test (bNot (iEq (rLen a0) (rLen a1)))
   (.ret false)
   (.cas (iter (law47_ints.s4 k a0 a1) k (0)) (fun r0 =>
    .ret r0) (fun r1 =>
    .ret true))
noncomputable def d (k : Nat) : Fun := mkFun [45, 45] (fun as_ => f k (vRows (vN as_ 0)) (vRows (vN as_ 1))) default (fun r => .bool r)
theorem hC (k : Nat) : CxOk (C k) := CxOk.nil
theorem l4 (k : Nat) : LoopOk Tryz.prog (S k) (lp (bodyF (Go.Proofs.Tryz.f12)) 0) := loopOk_mk (C := C k) (hC k) (Loops.all (n := 0) (by kernel_rfl) trivial) (lt := t4) (den := e4 k) (by kernel_rfl) (N := (Rows × Rows)) (A := Int) (R := (Bool ⊕ Unit))
 (fun n x => a4 n.1 n.2 x) (fun n r => Sum.elim (o4_0 n.1 n.2) (o4_1 n.1 n.2) r) (fun n x => s4 k n.1 n.2 x) k (fun d => ((aR (aN d.a 0)), (aR (aN d.a 1)))) (fun d => (aI (aN d.a 2))) (fun d y h => out2_eval h) (fun d => by kernel_rfl) (fun n x => by kernel_rfl) (fun n r => by rcases r with r | r <;> exact ⟨_, rfl⟩)
theorem ok (k : Nat) : FunOk Tryz.prog 12 (d k) := fun_mk (C := C k) (hC k) (S := S k) Tryz.func12 (by kernel_rfl) (by kernel_rfl) (Loops.all (n := 1) (by kernel_rfl) ⟨trivial, l4 k⟩) (fun as_ => by kernel_rfl)
end law47_ints
namespace ref13_SameStrings
noncomputable def C (k : Nat) : Cx := ⟨Tryz.prog, tab [], [], [], tab []⟩
noncomputable def t4 : LoopT := ⟨⟨26, [], [(0, .sl 9 none), (1, .sl 9 none), (5, .int .i64)], [], [], []⟩, (fun | .ret => some ⟨26, [], [(4, .bool)], [], [], []⟩ | .exit 0 => some ⟨26, [], [], [], [], []⟩ | _ => none)⟩
noncomputable def s4 (k : Nat) (c0 : Rows) (c1 : Rows) (x : Int) : T (Int ⊕ (Bool ⊕ Unit)) :=
  .test (iLt x (rLen c0))
   (.test (iIn x (rLen c0))
    (.test (iIn x (rLen c1))
     (.test (bNot (sEq (rStr (rAt c0 x) 0) (rStr (rAt c1 x) 0)))
      (.ret (.inr (.inl false)))
      (.ret (.inl (iAdd .i64 x (1)))))
     (.fail))
    (.fail))
   (.ret (.inr (.inr ())))
noncomputable def a4 (c0 : Rows) (c1 : Rows) (x : Int) : Dt := ⟨[.r c0, .r c1, .i x], [], [], []⟩
noncomputable def o4_0 (c0 : Rows) (c1 : Rows) (r : Bool) : X × Dt := (.ret, ⟨[.b r], [], [], []⟩)
noncomputable def o4_1 (c0 : Rows) (c1 : Rows) (r : Unit) : X × Dt := (.exit 0, ⟨[], [], [], []⟩)
noncomputable def e4 (k : Nat) (d : Dt) : T (X × Dt) := out2 (iter (s4 k (aR (aN d.a 0)) (aR (aN d.a 1))) k (aI (aN d.a 2))) (o4_0 (aR (aN d.a 0)) (aR (aN d.a 1))) (o4_1 (aR (aN d.a 0)) (aR (aN d.a 1)))
noncomputable def S (k : Nat) : Subs := fun n => bif Nat.beq n 4 then some (loopV Tryz.prog t4 (e4 k)) else none
noncomputable def f (k : Nat) (a0 : Rows) (a1 : Rows) : T Bool :=
  .test (bNot (iEq (rLen a0) (rLen a1)))
   (.ret false)
   (.cas (iter (ref13_SameStrings.s4 k a0 a1) k (0)) (fun r0 =>
    .ret r0) (fun r1 =>
    .ret true))
noncomputable def d (k : Nat) : Fun := mkFun [24, 24] (fun as_ => f k (vRows (vN as_ 0)) (vRows (vN as_ 1))) default (fun r => .bool r)
theorem hC (k : Nat) : CxOk (C k) := CxOk.nil
theorem l4 (k : Nat) : LoopOk Tryz.prog (S k) (lp (bodyF (Go.Proofs.Tryz.f13)) 0) := loopOk_mk (C := C k) (hC k) (Loops.all (n := 0) (by kernel_rfl) trivial) (lt := t4) (den := e4 k) (by kernel_rfl) (N := (Rows × Rows)) (A := Int) (R := (Bool ⊕ Unit))
 (fun n x => a4 n.1 n.2 x) (fun n r => Sum.elim (o4_0 n.1 n.2) (o4_1 n.1 n.2) r) (fun n x => s4 k n.1 n.2 x) k (fun d => ((aR (aN d.a 0)), (aR (aN d.a 1)))) (fun d => (aI (aN d.a 2))) (fun d y h => out2_eval h) (fun d => by kernel_rfl) (fun n x => by kernel_rfl) (fun n r => by rcases r with r | r <;> exact ⟨_, rfl⟩)
theorem ok (k : Nat) : FunOk Tryz.prog 13 (d k) := fun_mk (C := C k) (hC k) (S := S k) Tryz.func13 (by kernel_rfl) (by kernel_rfl) (Loops.all (n := 1) (by kernel_rfl) ⟨trivial, l4 k⟩) (fun as_ => by kernel_rfl)
end ref13_SameStrings
namespace law47_awake
noncomputable def C (k : Nat) : Cx := ⟨Tryz.prog, tab [(26, law47_small.d k), (24, law47_member.d k), (10, statefulset_Plan.d k), (16, statefulset_Status.d k), (12, law47_ints.d k), (13, ref13_SameStrings.d k), (14, statefulset_Name.d k)], [], [], tab []⟩
noncomputable def S (k : Nat) : Subs := fun n => none
noncomputable def f (k : Nat) : T Bool :=
  .bnd (law47_small.f k (3)).eval default fun r0 =>
  .bnd (law47_member.f k (et 41 r0) (0) true).eval default fun r1 =>
  .bnd (law47_member.f k (et 41 r0) (1) false).eval default fun r2 =>
  .bnd (statefulset_Plan.f k (et 41 r0) [(et 61 r1), (et 61 r2)] (100)).eval default fun r3 =>
  .bnd (law47_member.f k (et 41 r0) (0) true).eval default fun r4 =>
  .bnd (law47_member.f k (et 41 r0) (1) true).eval default fun r5 =>
  .bnd (statefulset_Plan.f k (et 41 r0) [(et 61 r4), (et 61 r5)] (100)).eval default fun r6 =>
  .bnd (law47_small.f k (3)).eval default fun r7 =>
  .bnd (law47_member.f k (et 41 r0) (0) true).eval default fun r8 =>
  .bnd (law47_member.f k (et 41 r0) (1) true).eval default fun r9 =>
  .bnd (law47_member.f k (et 41 r0) (2) true).eval default fun r10 =>
  .bnd (statefulset_Plan.f k (rJ [[.str (rStr r7 0), .str (rStr r7 1), .str (rStr r7 2), .int .i64 (rInt r7 3), .int .i64 (rInt r7 4), .int .i64 (rInt r7 5), .int .i64 (rInt r7 6), .bool (rBool r7 7), .int .i64 (rInt r7 8), .slice 89 (rSl r7 9) .open, .slice 86 (rSl r7 10) .open, .slice 9 (rSl r7 11) .open, .slice 229 (rSl r7 12) .open, .int .i64 (rInt r7 13), .int .i64 (1), .int .i64 (rInt r7 15), .bool (rBool r7 16), .slice 168 (rSl r7 17) .open, .slice 89 (rSl r7 18) .open, .str (rStr r7 19), .int .i64 (5), .int .i64 (rInt r7 21), .int .i64 (rInt r7 22), .slice 164 (rSl r7 23) .open, .slice 168 (rSl r7 24) .open, .slice 172 (rSl r7 25) .open, .slice 176 (rSl r7 26) .open, .slice 180 (rSl r7 27) .open, .slice 184 (rSl r7 28) .open], (eo 39 r7 29)]) [(et 61 r8), (et 61 r9), (et 61 r10)] (100)).eval default fun r11 =>
  .bnd (statefulset_Status.f k (et 41 r0) [(et 61 r8), (et 61 r9), (et 61 r10)] (100)).eval default fun r12 =>
  .opt (bIte (iEq (rLen r3.1) (0)) (iEq (rLen r3.2) (0)) false) (law47_ints.f k r6.1 [[.int .i64 (2)]]).eval default fun r13 =>
  .opt (bIte (bIte (bIte (bIte (iEq (rLen r3.1) (0)) (iEq (rLen r3.2) (0)) false) r13 false) (iEq (rLen r6.2) (0)) false) (iEq (rLen r11.1) (0)) false) (ref13_SameStrings.f k r11.2 [[.str (bs [80, 111, 100, 47, 110, 115, 47, 100, 98, 45, 50])]]).eval default fun r14 =>
  .opt (bIte (bIte (bIte (bIte (bIte (bIte (bIte (iEq (rLen r3.1) (0)) (iEq (rLen r3.2) (0)) false) r13 false) (iEq (rLen r6.2) (0)) false) (iEq (rLen r11.1) (0)) false) r14 false) (iEq (rInt r12 1) (3)) false) (iEq (rInt r12 2) (3)) false) (statefulset_Name.f k (et 41 r0) (4)).eval default fun r15 =>
  .ret (bIte (bIte (bIte (bIte (bIte (bIte (bIte (bIte (iEq (rLen r3.1) (0)) (iEq (rLen r3.2) (0)) false) r13 false) (iEq (rLen r6.2) (0)) false) (iEq (rLen r11.1) (0)) false) r14 false) (iEq (rInt r12 1) (3)) false) (iEq (rInt r12 2) (3)) false) (sEq r15 (bs [100, 98, 45, 52])) false)
noncomputable def d (k : Nat) : Fun := mkFun [] (fun as_ => f k) default (fun r => .bool r)
theorem hC (k : Nat) : CxOk (C k) := CxOk.cons (p := (26, law47_small.d k)) (law47_small.ok k) (CxOk.cons (p := (24, law47_member.d k)) (law47_member.ok k) (CxOk.cons (p := (10, statefulset_Plan.d k)) (statefulset_Plan.ok k) (CxOk.cons (p := (16, statefulset_Status.d k)) (statefulset_Status.ok k) (CxOk.cons (p := (12, law47_ints.d k)) (law47_ints.ok k) (CxOk.cons (p := (13, ref13_SameStrings.d k)) (ref13_SameStrings.ok k) (CxOk.cons (p := (14, statefulset_Name.d k)) (statefulset_Name.ok k) (CxOk.nil)))))))
theorem ok (k : Nat) : FunOk Tryz.prog 9 (d k) := fun_mk (C := C k) (hC k) (S := S k) Tryz.func9 (by kernel_rfl) (by kernel_rfl) (Loops.all (n := 0) (by kernel_rfl) trivial) (fun as_ => by kernel_rfl)
end law47_awake
namespace law47_lv
noncomputable def f (k : Nat) : T Bool :=
  law47_awake.f 1000
noncomputable def d (k : Nat) : Fun := mkFun [] (fun as_ => f k) default (fun r => .bool r)
theorem ok (k : Nat) : FunOk Tryz.prog 9 (d k) := law47_awake.ok 1000
end law47_lv
namespace ref01_Clamp
noncomputable def C (k : Nat) : Cx := ⟨Tryz.prog, tab [], [], [], tab []⟩
noncomputable def S (k : Nat) : Subs := fun n => none
noncomputable def f (k : Nat) (a0 : Int) (a1 : Int) (a2 : Int) : T Int :=
  .ret (iMin (iMax a0 a1) a2)
noncomputable def d (k : Nat) : Fun := mkFun [3, 3, 3] (fun as_ => f k (vInt (vN as_ 0)) (vInt (vN as_ 1)) (vInt (vN as_ 2))) default (fun r => .int .i64 r)
theorem hC (k : Nat) : CxOk (C k) := CxOk.nil
theorem ok (k : Nat) : FunOk Tryz.prog 20 (d k) := fun_mk (C := C k) (hC k) (S := S k) Tryz.func20 (by kernel_rfl) (by kernel_rfl) (Loops.all (n := 0) (by kernel_rfl) trivial) (fun as_ => by kernel_rfl)
end ref01_Clamp
namespace ref13_Controller
noncomputable def C (k : Nat) : Cx := ⟨Tryz.prog, tab [], [], [], tab []⟩
noncomputable def t2 : LoopT := ⟨⟨24, [], [(1, .ptr 1 0), (2, .ptr 2 0), (4, .int .i64)], [], [(1, 27), (2, 86)], []⟩, (fun | .ret => some ⟨24, [], [(2, .ptr 2 0), (3, .bool)], [], [(2, 86)], []⟩ | .exit 0 => some ⟨24, [], [(2, .ptr 2 0)], [], [(2, 86)], []⟩ | _ => none)⟩
noncomputable def s2 (k : Nat) (c0 : Row) (c1 : Row) (x : Int) : T (Int ⊕ ((Bool × Row) ⊕ Unit)) :=
  .test (iLt x (rLen (rSl c0 10)))
   (.test (iIn x (rLen (rSl c0 10)))
    (.test (rBool (rAt (rSl c0 10) x) 3)
     (.test (iIn x (rLen (rSl c0 10)))
      (.ret (.inr (.inl (true, (et 86 (rAt (rSl c0 10) x))))))
      (.fail))
     (.ret (.inl (iAdd .i64 x (1)))))
    (.fail))
   (.ret (.inr (.inr ())))
noncomputable def a2 (c0 : Row) (c1 : Row) (x : Int) : Dt := ⟨[.u, .u, .i x], [], [et 27 c0, et 86 c1], []⟩
noncomputable def o2_0 (c0 : Row) (c1 : Row) (r : (Bool × Row)) : X × Dt := (.ret, ⟨[.u, .b r.1], [], [r.2], []⟩)
noncomputable def o2_1 (c0 : Row) (c1 : Row) (r : Unit) : X × Dt := (.exit 0, ⟨[.u], [], [(et 86 c1)], []⟩)
noncomputable def e2 (k : Nat) (d : Dt) : T (X × Dt) := out2 (iter (s2 k (d.r.getD 0 []) (d.r.getD 1 [])) k (aI (aN d.a 2))) (o2_0 (d.r.getD 0 []) (d.r.getD 1 [])) (o2_1 (d.r.getD 0 []) (d.r.getD 1 []))
noncomputable def S (k : Nat) : Subs := fun n => bif Nat.beq n 2 then some (loopV Tryz.prog t2 (e2 k)) else none
noncomputable def f (k : Nat) (a0 : Row) : T (Row × Bool) :=
  .cas (iter (ref13_Controller.s2 k (et 27 a0) [.str ByteArray.empty, .str ByteArray.empty, .int .i64 (0), .bool false, .bool false]) k (0)) (fun r0 =>
   .ret ((et 86 r0.2), r0.1)) (fun r1 =>
   .ret ([.str ByteArray.empty, .str ByteArray.empty, .int .i64 (0), .bool false, .bool false], false))
noncomputable def d (k : Nat) : Fun := mkFun [27] (fun as_ => f k (vRow (vN as_ 0))) default (fun r => .tuple [.agg (et 86 r.1), .bool r.2])
theorem hC (k : Nat) : CxOk (C k) := CxOk.nil
theorem l2 (k : Nat) : LoopOk Tryz.prog (S k) (lp (bodyF (Go.Proofs.Tryz.f57)) 0) := loopOk_mk (C := C k) (hC k) (Loops.all (n := 0) (by kernel_rfl) trivial) (lt := t2) (den := e2 k) (by kernel_rfl) (N := (Row × Row)) (A := Int) (R := ((Bool × Row) ⊕ Unit))
 (fun n x => a2 n.1 n.2 x) (fun n r => Sum.elim (o2_0 n.1 n.2) (o2_1 n.1 n.2) r) (fun n x => s2 k n.1 n.2 x) k (fun d => ((d.r.getD 0 []), (d.r.getD 1 []))) (fun d => (aI (aN d.a 2))) (fun d y h => out2_eval h) (fun d => by kernel_rfl) (fun n x => by kernel_rfl) (fun n r => by rcases r with r | r <;> exact ⟨_, rfl⟩)
theorem ok (k : Nat) : FunOk Tryz.prog 57 (d k) := fun_mk (C := C k) (hC k) (S := S k) Tryz.func57 (by kernel_rfl) (by kernel_rfl) (Loops.all (n := 1) (by kernel_rfl) ⟨trivial, l2 k⟩) (fun as_ => by kernel_rfl)
end ref13_Controller
namespace ref44_Controls
noncomputable def C (k : Nat) : Cx := ⟨Tryz.prog, tab [(57, ref13_Controller.d k)], [], [], tab []⟩
noncomputable def S (k : Nat) : Subs := fun n => none
noncomputable def f (k : Nat) (a0 : Row) (a1 : Row) : T Bool :=
  .bnd (ref13_Controller.f k (et 27 a1)).eval default fun r0 =>
  .ret (bIte (bIte r0.2 (iEq (rInt r0.1 2) (rInt a0 3)) false) (sEq (rStr a1 1) (rStr a0 1)) false)
noncomputable def d (k : Nat) : Fun := mkFun [27, 61] (fun as_ => f k (vRow (vN as_ 0)) (vRow (vN as_ 1))) default (fun r => .bool r)
theorem hC (k : Nat) : CxOk (C k) := CxOk.cons (p := (57, ref13_Controller.d k)) (ref13_Controller.ok k) (CxOk.nil)
theorem ok (k : Nat) : FunOk Tryz.prog 37 (d k) := fun_mk (C := C k) (hC k) (S := S k) Tryz.func37 (by kernel_rfl) (by kernel_rfl) (Loops.all (n := 0) (by kernel_rfl) trivial) (fun as_ => by kernel_rfl)
end ref44_Controls
namespace ref47_Name
noncomputable def C (k : Nat) : Cx := ⟨Tryz.prog, tab [(34, ref13_Child.d k)], [], [], tab []⟩
noncomputable def S (k : Nat) : Subs := fun n => none
noncomputable def f (k : Nat) (a0 : Row) (a1 : Int) : T ByteArray :=
  .bnd (ref13_Child.f k (rStr a0 2) a1).eval default fun r0 =>
  .ret r0
noncomputable def d (k : Nat) : Fun := mkFun [41, 3] (fun as_ => f k (vRow (vN as_ 0)) (vInt (vN as_ 1))) default (fun r => .str r)
theorem hC (k : Nat) : CxOk (C k) := CxOk.cons (p := (34, ref13_Child.d k)) (ref13_Child.ok k) (CxOk.nil)
theorem ok (k : Nat) : FunOk Tryz.prog 15 (d k) := fun_mk (C := C k) (hC k) (S := S k) Tryz.func15 (by kernel_rfl) (by kernel_rfl) (Loops.all (n := 0) (by kernel_rfl) trivial) (fun as_ => by kernel_rfl)
end ref47_Name
namespace ref47_Pods
noncomputable def C (k : Nat) : Cx := ⟨Tryz.prog, tab [(37, ref44_Controls.d k), (15, ref47_Name.d k)], [8], [(10, 8)], tab []⟩
noncomputable def t6 : LoopT := ⟨⟨62, [], [(1, .sl 61 none), (2, .ptr 2 0), (5, .aref 42 8), (6, .int .i64), (7, .int .i64)], [], [(2, 41)], [(8, 42)]⟩, (fun | .exit 2 => some ⟨62, [], [(1, .sl 61 none), (2, .ptr 2 0), (5, .aref 42 8), (6, .int .i64)], [], [(2, 41)], [(8, 42)]⟩ | _ => none)⟩
noncomputable def s6 (k : Nat) (c0 : Rows) (c1 : Int) (c2 : Int) (c3 : Row) (x : (Int × Rows)) : T ((Int × Rows) ⊕ Rows) :=
  .test (bImp (iLt x.1 (rLen c0)) (iIn c2 c1))
   (.test (bIte (iLt x.1 (rLen c0)) (iEq (rLen (rSl (rAt x.2 c2) 0)) (0)) false)
    (.test (iIn x.1 (rLen c0))
     (.bnd (ref44_Controls.f k (et 27 c3) (et 61 (rAt c0 x.1))).eval default fun r0 =>
     .test (bImp r0 (iIn x.1 (rLen c0)))
      (.opt r0 (ref47_Name.f k (et 41 c3) c2).eval default fun r1 =>
      .test (bIte r0 (sEq (rStr (rAt c0 x.1) 2) r1) false)
       (.test (iIn c2 c1)
        (.test (iIn x.1 (rLen c0))
         (.test (rFull (rAt x.2 c2) 0)
          (.test (rOk 480 (rLen (rSl (rAt x.2 c2) 0)) (rLen [(et 61 (rAt c0 x.1))]))
           (.test (iIn c2 c1)
            (.ret (.inl ((iAdd .i64 x.1 (1)), (rSet x.2 c2 [.slice 61 (rCat (rSl (rAt x.2 c2) 0) [(et 61 (rAt c0 x.1))]) (.fullq false)]))))
            (.fail))
           (.fail))
          (.fail))
         (.fail))
        (.fail))
       (.ret (.inl ((iAdd .i64 x.1 (1)), x.2))))
      (.fail))
     (.fail))
    (.ret (.inr x.2)))
   (.fail)
noncomputable def a6 (c0 : Rows) (c1 : Int) (c2 : Int) (c3 : Row) (x : (Int × Rows)) : Dt := ⟨[.r c0, .u, .i c1, .i c2, .i x.1], [], [et 41 c3], [x.2]⟩
noncomputable def o6_0 (c0 : Rows) (c1 : Int) (c2 : Int) (c3 : Row) (r : Rows) : X × Dt := (.exit 2, ⟨[.r c0, .u, .i c1, .i c2], [], [(et 41 c3)], [r]⟩)
noncomputable def e6 (k : Nat) (d : Dt) : T (X × Dt) := out1 (iter (s6 k (aR (aN d.a 0)) (aI (aN d.a 2)) (aI (aN d.a 3)) (d.r.getD 0 [])) k ((aI (aN d.a 4)), (d.m.getD 0 []))) default (o6_0 (aR (aN d.a 0)) (aI (aN d.a 2)) (aI (aN d.a 3)) (d.r.getD 0 []))
noncomputable def t3 : LoopT := ⟨⟨62, [], [(1, .sl 61 none), (2, .ptr 2 0), (5, .aref 42 8), (6, .int .i64)], [], [(2, 41)], [(8, 42)]⟩, (fun | .exit 0 => some ⟨62, [], [(5, .aref 42 8)], [], [], [(8, 42)]⟩ | _ => none)⟩
noncomputable def s3 (k : Nat) (c0 : Rows) (c1 : Int) (c2 : Row) (x : (Int × Rows)) : T ((Int × Rows) ⊕ Rows) :=
  .test (iLt x.1 c1)
   (.bnd (iter (ref47_Pods.s6 k c0 c1 x.1 (et 41 c2)) k ((0), x.2)) default fun r0 =>
   .ret (.inl ((iAdd .i64 x.1 (1)), r0)))
   (.ret (.inr x.2))
noncomputable def a3 (c0 : Rows) (c1 : Int) (c2 : Row) (x : (Int × Rows)) : Dt := ⟨[.r c0, .u, .i c1, .i x.1], [], [et 41 c2], [x.2]⟩
noncomputable def o3_0 (c0 : Rows) (c1 : Int) (c2 : Row) (r : Rows) : X × Dt := (.exit 0, ⟨[.i c1], [], [], [r]⟩)
noncomputable def e3 (k : Nat) (d : Dt) : T (X × Dt) := out1 (iter (s3 k (aR (aN d.a 0)) (aI (aN d.a 2)) (d.r.getD 0 [])) k ((aI (aN d.a 3)), (d.m.getD 0 []))) default (o3_0 (aR (aN d.a 0)) (aI (aN d.a 2)) (d.r.getD 0 []))
noncomputable def S (k : Nat) : Subs := fun n => bif Nat.beq n 6 then some (loopV Tryz.prog t6 (e6 k)) else bif Nat.beq n 3 then some (loopV Tryz.prog t3 (e3 k)) else none
noncomputable def f (k : Nat) (a0 : Row) (a1 : Rows) : T Rows :=
  .test (rOk 24 (0) (40))
   (.test (iLe (0) (40))
    (.bnd (iter (ref47_Pods.s3 k a1 (40) (et 41 a0)) k ((0), (rMake (40) [.slice 61 [] (.fullq true)]))) default fun r0 =>
    .ret (rTake r0 (40)))
    (.fail))
   (.fail)
noncomputable def d (k : Nat) : Fun := mkFun [41, 42] (fun as_ => f k (vRow (vN as_ 0)) (vRows (vN as_ 1))) default (fun r => .slice 42 r .open)
theorem hC (k : Nat) : CxOk (C k) := CxOk.cons (p := (37, ref44_Controls.d k)) (ref44_Controls.ok k) (CxOk.cons (p := (15, ref47_Name.d k)) (ref47_Name.ok k) (CxOk.nil))
theorem l6 (k : Nat) : LoopOk Tryz.prog (S k) (lp (lp (bodyF (Go.Proofs.Tryz.f18)) 0) 0) := loopOk_mk (C := C k) (hC k) (Loops.all (n := 0) (by kernel_rfl) trivial) (lt := t6) (den := e6 k) (by kernel_rfl) (N := (Rows × Int × Int × Row)) (A := (Int × Rows)) (R := Rows)
 (fun n x => a6 n.1 n.2.1 n.2.2.1 n.2.2.2 x) (fun n r => o6_0 n.1 n.2.1 n.2.2.1 n.2.2.2 r) (fun n x => s6 k n.1 n.2.1 n.2.2.1 n.2.2.2 x) k (fun d => ((aR (aN d.a 0)), (aI (aN d.a 2)), (aI (aN d.a 3)), (d.r.getD 0 []))) (fun d => ((aI (aN d.a 4)), (d.m.getD 0 []))) (fun d y h => out1_eval h) (fun d => by kernel_rfl) (fun n x => by kernel_rfl) (fun n r => ⟨_, rfl⟩)
theorem l3 (k : Nat) : LoopOk Tryz.prog (S k) (lp (bodyF (Go.Proofs.Tryz.f18)) 0) := loopOk_mk (C := C k) (hC k) (Loops.all (n := 1) (by kernel_rfl) ⟨trivial, l6 k⟩) (lt := t3) (den := e3 k) (by kernel_rfl) (N := (Rows × Int × Row)) (A := (Int × Rows)) (R := Rows)
 (fun n x => a3 n.1 n.2.1 n.2.2 x) (fun n r => o3_0 n.1 n.2.1 n.2.2 r) (fun n x => s3 k n.1 n.2.1 n.2.2 x) k (fun d => ((aR (aN d.a 0)), (aI (aN d.a 2)), (d.r.getD 0 []))) (fun d => ((aI (aN d.a 3)), (d.m.getD 0 []))) (fun d y h => out1_eval h) (fun d => by kernel_rfl) (fun n x => by kernel_rfl) (fun n r => ⟨_, rfl⟩)
theorem ok (k : Nat) : FunOk Tryz.prog 18 (d k) := fun_mk (C := C k) (hC k) (S := S k) Tryz.func18 (by kernel_rfl) (by kernel_rfl) (Loops.all (n := 1) (by kernel_rfl) ⟨trivial, l3 k⟩) (fun as_ => by kernel_rfl)
end ref47_Pods
namespace ref47_Finished
noncomputable def C (k : Nat) : Cx := ⟨Tryz.prog, tab [], [], [], tab []⟩
noncomputable def S (k : Nat) : Subs := fun n => none
noncomputable def f (k : Nat) (a0 : Row) : T Bool :=
  .ret (bIte (iEq (rInt a0 23) (2)) true (iEq (rInt a0 23) (3)))
noncomputable def d (k : Nat) : Fun := mkFun [61] (fun as_ => f k (vRow (vN as_ 0))) default (fun r => .bool r)
theorem hC (k : Nat) : CxOk (C k) := CxOk.nil
theorem ok (k : Nat) : FunOk Tryz.prog 23 (d k) := fun_mk (C := C k) (hC k) (S := S k) Tryz.func23 (by kernel_rfl) (by kernel_rfl) (Loops.all (n := 0) (by kernel_rfl) trivial) (fun as_ => by kernel_rfl)
end ref47_Finished
namespace ref13_Key
noncomputable def C (k : Nat) : Cx := ⟨Tryz.prog, tab [], [], [], tab []⟩
noncomputable def S (k : Nat) : Subs := fun n => none
noncomputable def f (k : Nat) (a0 : ByteArray) (a1 : ByteArray) (a2 : ByteArray) : T ByteArray :=
  .test (sOk (sLen a0) (sLen (bs [47])))
   (.test (sOk (sLen (sCat a0 (bs [47]))) (sLen a1))
    (.test (sOk (sLen (sCat (sCat a0 (bs [47])) a1)) (sLen (bs [47])))
     (.test (sOk (sLen (sCat (sCat (sCat a0 (bs [47])) a1) (bs [47]))) (sLen a2))
      (.ret (sCat (sCat (sCat (sCat a0 (bs [47])) a1) (bs [47])) a2))
      (.fail))
     (.fail))
    (.fail))
   (.fail)
noncomputable def d (k : Nat) : Fun := mkFun [9, 9, 9] (fun as_ => f k (vStr (vN as_ 0)) (vStr (vN as_ 1)) (vStr (vN as_ 2))) default (fun r => .str r)
theorem hC (k : Nat) : CxOk (C k) := CxOk.nil
theorem ok (k : Nat) : FunOk Tryz.prog 40 (d k) := fun_mk (C := C k) (hC k) (S := S k) Tryz.func40 (by kernel_rfl) (by kernel_rfl) (Loops.all (n := 0) (by kernel_rfl) trivial) (fun as_ => by kernel_rfl)
end ref13_Key
namespace ref13_KeyOf
noncomputable def C (k : Nat) : Cx := ⟨Tryz.prog, tab [(40, ref13_Key.d k)], [], [], tab []⟩
noncomputable def S (k : Nat) : Subs := fun n => none
noncomputable def f (k : Nat) (a0 : Row) : T ByteArray :=
  .bnd (ref13_Key.f k (rStr a0 0) (rStr a0 1) (rStr a0 2)).eval default fun r0 =>
  .ret r0
noncomputable def d (k : Nat) : Fun := mkFun [27] (fun as_ => f k (vRow (vN as_ 0))) default (fun r => .str r)
theorem hC (k : Nat) : CxOk (C k) := CxOk.cons (p := (40, ref13_Key.d k)) (ref13_Key.ok k) (CxOk.nil)
theorem ok (k : Nat) : FunOk Tryz.prog 22 (d k) := fun_mk (C := C k) (hC k) (S := S k) Tryz.func22 (by kernel_rfl) (by kernel_rfl) (Loops.all (n := 0) (by kernel_rfl) trivial) (fun as_ => by kernel_rfl)
end ref13_KeyOf
namespace ref47_key
noncomputable def C (k : Nat) : Cx := ⟨Tryz.prog, tab [(22, ref13_KeyOf.d k)], [], [], tab []⟩
noncomputable def S (k : Nat) : Subs := fun n => none
noncomputable def f (k : Nat) (a0 : Row) : T Rows :=
  .bnd (ref13_KeyOf.f k (et 27 a0)).eval default fun r0 =>
  .ret [[.str r0]]
noncomputable def d (k : Nat) : Fun := mkFun [61] (fun as_ => f k (vRow (vN as_ 0))) default (fun r => .slice 9 r .open)
theorem hC (k : Nat) : CxOk (C k) := CxOk.cons (p := (22, ref13_KeyOf.d k)) (ref13_KeyOf.ok k) (CxOk.nil)
theorem ok (k : Nat) : FunOk Tryz.prog 52 (d k) := fun_mk (C := C k) (hC k) (S := S k) Tryz.func52 (by kernel_rfl) (by kernel_rfl) (Loops.all (n := 0) (by kernel_rfl) trivial) (fun as_ => by kernel_rfl)
end ref47_key
namespace ref03_Get
noncomputable def C (k : Nat) : Cx := ⟨Tryz.prog, tab [], [], [], tab []⟩
noncomputable def t2 : LoopT := ⟨⟨25, [], [(0, .sl 89 none), (1, .str), (6, .int .i64)], [], [], []⟩, (fun | .ret => some ⟨25, [], [(4, .str), (5, .bool)], [], [], []⟩ | .exit 0 => some ⟨25, [], [], [], [], []⟩ | _ => none)⟩
noncomputable def s2 (k : Nat) (c0 : Rows) (c1 : ByteArray) (x : Int) : T (Int ⊕ ((ByteArray × Bool) ⊕ Unit)) :=
  .test (iLt x (rLen c0))
   (.test (iIn x (rLen c0))
    (.test (sEq (rStr (rAt c0 x) 0) c1)
     (.test (iIn x (rLen c0))
      (.ret (.inr (.inl ((rStr (rAt c0 x) 1), true))))
      (.fail))
     (.ret (.inl (iAdd .i64 x (1)))))
    (.fail))
   (.ret (.inr (.inr ())))
noncomputable def a2 (c0 : Rows) (c1 : ByteArray) (x : Int) : Dt := ⟨[.r c0, .s c1, .i x], [], [], []⟩
noncomputable def o2_0 (c0 : Rows) (c1 : ByteArray) (r : (ByteArray × Bool)) : X × Dt := (.ret, ⟨[.s r.1, .b r.2], [], [], []⟩)
noncomputable def o2_1 (c0 : Rows) (c1 : ByteArray) (r : Unit) : X × Dt := (.exit 0, ⟨[], [], [], []⟩)
noncomputable def e2 (k : Nat) (d : Dt) : T (X × Dt) := out2 (iter (s2 k (aR (aN d.a 0)) (aS (aN d.a 1))) k (aI (aN d.a 2))) (o2_0 (aR (aN d.a 0)) (aS (aN d.a 1))) (o2_1 (aR (aN d.a 0)) (aS (aN d.a 1)))
noncomputable def S (k : Nat) : Subs := fun n => bif Nat.beq n 2 then some (loopV Tryz.prog t2 (e2 k)) else none
noncomputable def f (k : Nat) (a0 : Rows) (a1 : ByteArray) : T (ByteArray × Bool) :=
  .cas (iter (ref03_Get.s2 k a0 a1) k (0)) (fun r0 =>
   .ret (r0.1, r0.2)) (fun r1 =>
   .ret (ByteArray.empty, false))
noncomputable def d (k : Nat) : Fun := mkFun [22, 9] (fun as_ => f k (vRows (vN as_ 0)) (vStr (vN as_ 1))) default (fun r => .tuple [.str r.1, .bool r.2])
theorem hC (k : Nat) : CxOk (C k) := CxOk.nil
theorem l2 (k : Nat) : LoopOk Tryz.prog (S k) (lp (bodyF (Go.Proofs.Tryz.f42)) 0) := loopOk_mk (C := C k) (hC k) (Loops.all (n := 0) (by kernel_rfl) trivial) (lt := t2) (den := e2 k) (by kernel_rfl) (N := (Rows × ByteArray)) (A := Int) (R := ((ByteArray × Bool) ⊕ Unit))
 (fun n x => a2 n.1 n.2 x) (fun n r => Sum.elim (o2_0 n.1 n.2) (o2_1 n.1 n.2) r) (fun n x => s2 k n.1 n.2 x) k (fun d => ((aR (aN d.a 0)), (aS (aN d.a 1)))) (fun d => (aI (aN d.a 2))) (fun d y h => out2_eval h) (fun d => by kernel_rfl) (fun n x => by kernel_rfl) (fun n r => by rcases r with r | r <;> exact ⟨_, rfl⟩)
theorem ok (k : Nat) : FunOk Tryz.prog 42 (d k) := fun_mk (C := C k) (hC k) (S := S k) Tryz.func42 (by kernel_rfl) (by kernel_rfl) (Loops.all (n := 1) (by kernel_rfl) ⟨trivial, l2 k⟩) (fun as_ => by kernel_rfl)
end ref03_Get
namespace ref44_Updated
noncomputable def C (k : Nat) : Cx := ⟨Tryz.prog, tab [(42, ref03_Get.d k), (41, ref33_Hash.d k)], [], [], tab []⟩
noncomputable def S (k : Nat) : Subs := fun n => none
noncomputable def f (k : Nat) (a0 : Row) (a1 : Row) : T Bool :=
  .bnd (ref03_Get.f k (rSl a1 9) (bs [116, 101, 109, 112, 108, 97, 116, 101, 45, 104, 97, 115, 104])).eval default fun r0 =>
  .opt r0.2 (ref33_Hash.f k (et 37 a0)).eval default fun r1 =>
  .ret (bIte r0.2 (sEq r0.1 r1) false)
noncomputable def d (k : Nat) : Fun := mkFun [37, 61] (fun as_ => f k (vRow (vN as_ 0)) (vRow (vN as_ 1))) default (fun r => .bool r)
theorem hC (k : Nat) : CxOk (C k) := CxOk.cons (p := (42, ref03_Get.d k)) (ref03_Get.ok k) (CxOk.cons (p := (41, ref33_Hash.d k)) (ref33_Hash.ok k) (CxOk.nil))
theorem ok (k : Nat) : FunOk Tryz.prog 25 (d k) := fun_mk (C := C k) (hC k) (S := S k) Tryz.func25 (by kernel_rfl) (by kernel_rfl) (Loops.all (n := 0) (by kernel_rfl) trivial) (fun as_ => by kernel_rfl)
end ref44_Updated
namespace ref47_highest
noncomputable def C (k : Nat) : Cx := ⟨Tryz.prog, tab [(25, ref44_Updated.d k)], [], [], tab []⟩
noncomputable def t2 : LoopT := ⟨⟨42, [], [(1, .sl 42 none), (2, .int .i64), (4, .bool), (5, .ptr 5 0), (11, .int .i64)], [], [(5, 41)], []⟩, (fun | .ret => some ⟨42, [], [(10, .int .i64)], [], [], []⟩ | .exit 0 => some ⟨42, [], [], [], [], []⟩ | _ => none)⟩
noncomputable def s2 (k : Nat) (c0 : Rows) (c1 : Int) (c2 : Bool) (c3 : Row) (x : Int) : T (Int ⊕ (Int ⊕ Unit)) :=
  .test (iLe c1 x)
   (.test (iIn x (rLen c0))
    (.test (bImp (bAnd (iLt (0) (rLen (rSl (rAt c0 x) 0))) (bNot (bNot c2))) (iIn x (rLen c0)))
     (.test (bImp (bAnd (iLt (0) (rLen (rSl (rAt c0 x) 0))) (bNot (bNot c2))) (iIn (0) (rLen (rSl (rAt c0 x) 0))))
      (.opt (bAnd (iLt (0) (rLen (rSl (rAt c0 x) 0))) (bNot (bNot c2))) (ref44_Updated.f k (eo 37 c3 18) (et 61 (rAt (rSl (rAt c0 x) 0) (0)))).eval default fun r0 =>
      .test (bIte (iLt (0) (rLen (rSl (rAt c0 x) 0))) (bIte (bNot c2) true (bNot r0)) false)
       (.ret (.inr (.inl x)))
       (.ret (.inl (iSub .i64 x (1)))))
      (.fail))
     (.fail))
    (.fail))
   (.ret (.inr (.inr ())))
noncomputable def a2 (c0 : Rows) (c1 : Int) (c2 : Bool) (c3 : Row) (x : Int) : Dt := ⟨[.r c0, .i c1, .b c2, .u, .i x], [], [et 41 c3], []⟩
noncomputable def o2_0 (c0 : Rows) (c1 : Int) (c2 : Bool) (c3 : Row) (r : Int) : X × Dt := (.ret, ⟨[.i r], [], [], []⟩)
noncomputable def o2_1 (c0 : Rows) (c1 : Int) (c2 : Bool) (c3 : Row) (r : Unit) : X × Dt := (.exit 0, ⟨[], [], [], []⟩)
noncomputable def e2 (k : Nat) (d : Dt) : T (X × Dt) := out2 (iter (s2 k (aR (aN d.a 0)) (aI (aN d.a 1)) (aB (aN d.a 2)) (d.r.getD 0 [])) k (aI (aN d.a 4))) (o2_0 (aR (aN d.a 0)) (aI (aN d.a 1)) (aB (aN d.a 2)) (d.r.getD 0 [])) (o2_1 (aR (aN d.a 0)) (aI (aN d.a 1)) (aB (aN d.a 2)) (d.r.getD 0 []))
noncomputable def S (k : Nat) : Subs := fun n => bif Nat.beq n 2 then some (loopV Tryz.prog t2 (e2 k)) else none
noncomputable def f (k : Nat) (a0 : Row) (a1 : Rows) (a2 : Int) (a3 : Int) (a4 : Bool) : T Int :=
  .cas (iter (ref47_highest.s2 k a1 a2 a4 (et 41 a0)) k (iSub .i64 a3 (1))) (fun r0 =>
   .ret r0) (fun r1 =>
   .ret (-1))
noncomputable def d (k : Nat) : Fun := mkFun [41, 54, 3, 3, 4] (fun as_ => f k (vRow (vN as_ 0)) (vRows (vN as_ 1)) (vInt (vN as_ 2)) (vInt (vN as_ 3)) (vBool (vN as_ 4))) default (fun r => .int .i64 r)
theorem hC (k : Nat) : CxOk (C k) := CxOk.cons (p := (25, ref44_Updated.d k)) (ref44_Updated.ok k) (CxOk.nil)
theorem l2 (k : Nat) : LoopOk Tryz.prog (S k) (lp (bodyF (Go.Proofs.Tryz.f53)) 0) := loopOk_mk (C := C k) (hC k) (Loops.all (n := 0) (by kernel_rfl) trivial) (lt := t2) (den := e2 k) (by kernel_rfl) (N := (Rows × Int × Bool × Row)) (A := Int) (R := (Int ⊕ Unit))
 (fun n x => a2 n.1 n.2.1 n.2.2.1 n.2.2.2 x) (fun n r => Sum.elim (o2_0 n.1 n.2.1 n.2.2.1 n.2.2.2) (o2_1 n.1 n.2.1 n.2.2.1 n.2.2.2) r) (fun n x => s2 k n.1 n.2.1 n.2.2.1 n.2.2.2 x) k (fun d => ((aR (aN d.a 0)), (aI (aN d.a 1)), (aB (aN d.a 2)), (d.r.getD 0 []))) (fun d => (aI (aN d.a 4))) (fun d y h => out2_eval h) (fun d => by kernel_rfl) (fun n x => by kernel_rfl) (fun n r => by rcases r with r | r <;> exact ⟨_, rfl⟩)
theorem ok (k : Nat) : FunOk Tryz.prog 53 (d k) := fun_mk (C := C k) (hC k) (S := S k) Tryz.func53 (by kernel_rfl) (by kernel_rfl) (Loops.all (n := 1) (by kernel_rfl) ⟨trivial, l2 k⟩) (fun as_ => by kernel_rfl)
end ref47_highest
namespace ref33_clamp
noncomputable def C (k : Nat) : Cx := ⟨Tryz.prog, tab [], [], [], tab []⟩
noncomputable def S (k : Nat) : Subs := fun n => none
noncomputable def f (k : Nat) (a0 : Int) (a1 : Int) : T Int :=
  .test (iLt a0 (0))
   (.ret (0))
   (.test (iLt a1 a0)
    (.ret a1)
    (.ret a0))
noncomputable def d (k : Nat) : Fun := mkFun [3, 3] (fun as_ => f k (vInt (vN as_ 0)) (vInt (vN as_ 1))) default (fun r => .int .i64 r)
theorem hC (k : Nat) : CxOk (C k) := CxOk.nil
theorem ok (k : Nat) : FunOk Tryz.prog 38 (d k) := fun_mk (C := C k) (hC k) (S := S k) Tryz.func38 (by kernel_rfl) (by kernel_rfl) (Loops.all (n := 0) (by kernel_rfl) trivial) (fun as_ => by kernel_rfl)
end ref33_clamp
namespace ref33_Active
noncomputable def C (k : Nat) : Cx := ⟨Tryz.prog, tab [], [], [], tab []⟩
noncomputable def S (k : Nat) : Subs := fun n => none
noncomputable def f (k : Nat) (a0 : Row) : T Bool :=
  .ret (bIte (bIte (iEq (rInt a0 23) (0)) true (iEq (rInt a0 23) (1))) (bNot (rBool a0 7)) false)
noncomputable def d (k : Nat) : Fun := mkFun [61] (fun as_ => f k (vRow (vN as_ 0))) default (fun r => .bool r)
theorem hC (k : Nat) : CxOk (C k) := CxOk.nil
theorem ok (k : Nat) : FunOk Tryz.prog 39 (d k) := fun_mk (C := C k) (hC k) (S := S k) Tryz.func39 (by kernel_rfl) (by kernel_rfl) (Loops.all (n := 0) (by kernel_rfl) trivial) (fun as_ => by kernel_rfl)
end ref33_Active
namespace ref33_Available
noncomputable def C (k : Nat) : Cx := ⟨Tryz.prog, tab [(38, ref33_clamp.d k), (39, ref33_Active.d k)], [], [], tab []⟩
noncomputable def S (k : Nat) : Subs := fun n => none
noncomputable def f (k : Nat) (a0 : Row) (a1 : Int) (a2 : Int) : T Bool :=
  .bnd (ref33_clamp.f k a2 (1000000000000)).eval default fun r0 =>
  .bnd (ref33_clamp.f k (rInt a0 25) (1000000000000)).eval default fun r1 =>
  .bnd (ref33_Active.f k (et 61 a0)).eval default fun r2 =>
  .opt (bIte r2 (rBool a0 24) false) (ref33_clamp.f k a1 (1000000000000)).eval default fun r3 =>
  .ret (bIte (bIte r2 (rBool a0 24) false) (iLe r3 (iSub .i64 r0 r1)) false)
noncomputable def d (k : Nat) : Fun := mkFun [61, 3, 3] (fun as_ => f k (vRow (vN as_ 0)) (vInt (vN as_ 1)) (vInt (vN as_ 2))) default (fun r => .bool r)
theorem hC (k : Nat) : CxOk (C k) := CxOk.cons (p := (38, ref33_clamp.d k)) (ref33_clamp.ok k) (CxOk.cons (p := (39, ref33_Active.d k)) (ref33_Active.ok k) (CxOk.nil))
theorem ok (k : Nat) : FunOk Tryz.prog 19 (d k) := fun_mk (C := C k) (hC k) (S := S k) Tryz.func19 (by kernel_rfl) (by kernel_rfl) (Loops.all (n := 0) (by kernel_rfl) trivial) (fun as_ => by kernel_rfl)
end ref33_Available
namespace ref47_available
noncomputable def C (k : Nat) : Cx := ⟨Tryz.prog, tab [(19, ref33_Available.d k)], [], [], tab []⟩
noncomputable def t2 : LoopT := ⟨⟨37, [], [(1, .sl 42 none), (3, .int .i64), (4, .int .i64), (5, .ptr 5 0), (11, .int .i64)], [], [(5, 41)], []⟩, (fun | .ret => some ⟨37, [], [(10, .bool)], [], [], []⟩ | .exit 0 => some ⟨37, [], [], [], [], []⟩ | _ => none)⟩
noncomputable def s2 (k : Nat) (c0 : Rows) (c1 : Int) (c2 : Int) (c3 : Row) (x : Int) : T (Int ⊕ (Bool ⊕ Unit)) :=
  .test (iLt x c1)
   (.test (iIn x (rLen c0))
    (.test (bImp (iLt (0) (rLen (rSl (rAt c0 x) 0))) (iIn x (rLen c0)))
     (.test (bImp (iLt (0) (rLen (rSl (rAt c0 x) 0))) (iIn (0) (rLen (rSl (rAt c0 x) 0))))
      (.opt (iLt (0) (rLen (rSl (rAt c0 x) 0))) (ref33_Available.f k (et 61 (rAt (rSl (rAt c0 x) 0) (0))) (rInt c3 15) c2).eval default fun r0 =>
      .test (bIte (iLt (0) (rLen (rSl (rAt c0 x) 0))) (bNot r0) false)
       (.ret (.inr (.inl false)))
       (.ret (.inl (iAdd .i64 x (1)))))
      (.fail))
     (.fail))
    (.fail))
   (.ret (.inr (.inr ())))
noncomputable def a2 (c0 : Rows) (c1 : Int) (c2 : Int) (c3 : Row) (x : Int) : Dt := ⟨[.r c0, .i c1, .i c2, .u, .i x], [], [et 41 c3], []⟩
noncomputable def o2_0 (c0 : Rows) (c1 : Int) (c2 : Int) (c3 : Row) (r : Bool) : X × Dt := (.ret, ⟨[.b r], [], [], []⟩)
noncomputable def o2_1 (c0 : Rows) (c1 : Int) (c2 : Int) (c3 : Row) (r : Unit) : X × Dt := (.exit 0, ⟨[], [], [], []⟩)
noncomputable def e2 (k : Nat) (d : Dt) : T (X × Dt) := out2 (iter (s2 k (aR (aN d.a 0)) (aI (aN d.a 1)) (aI (aN d.a 2)) (d.r.getD 0 [])) k (aI (aN d.a 4))) (o2_0 (aR (aN d.a 0)) (aI (aN d.a 1)) (aI (aN d.a 2)) (d.r.getD 0 [])) (o2_1 (aR (aN d.a 0)) (aI (aN d.a 1)) (aI (aN d.a 2)) (d.r.getD 0 []))
noncomputable def S (k : Nat) : Subs := fun n => bif Nat.beq n 2 then some (loopV Tryz.prog t2 (e2 k)) else none
noncomputable def f (k : Nat) (a0 : Row) (a1 : Rows) (a2 : Int) (a3 : Int) (a4 : Int) : T Bool :=
  .cas (iter (ref47_available.s2 k a1 a3 a4 (et 41 a0)) k a2) (fun r0 =>
   .ret r0) (fun r1 =>
   .ret true)
noncomputable def d (k : Nat) : Fun := mkFun [41, 54, 3, 3, 3] (fun as_ => f k (vRow (vN as_ 0)) (vRows (vN as_ 1)) (vInt (vN as_ 2)) (vInt (vN as_ 3)) (vInt (vN as_ 4))) default (fun r => .bool r)
theorem hC (k : Nat) : CxOk (C k) := CxOk.cons (p := (19, ref33_Available.d k)) (ref33_Available.ok k) (CxOk.nil)
theorem l2 (k : Nat) : LoopOk Tryz.prog (S k) (lp (bodyF (Go.Proofs.Tryz.f54)) 0) := loopOk_mk (C := C k) (hC k) (Loops.all (n := 0) (by kernel_rfl) trivial) (lt := t2) (den := e2 k) (by kernel_rfl) (N := (Rows × Int × Int × Row)) (A := Int) (R := (Bool ⊕ Unit))
 (fun n x => a2 n.1 n.2.1 n.2.2.1 n.2.2.2 x) (fun n r => Sum.elim (o2_0 n.1 n.2.1 n.2.2.1 n.2.2.2) (o2_1 n.1 n.2.1 n.2.2.1 n.2.2.2) r) (fun n x => s2 k n.1 n.2.1 n.2.2.1 n.2.2.2 x) k (fun d => ((aR (aN d.a 0)), (aI (aN d.a 1)), (aI (aN d.a 2)), (d.r.getD 0 []))) (fun d => (aI (aN d.a 4))) (fun d y h => out2_eval h) (fun d => by kernel_rfl) (fun n x => by kernel_rfl) (fun n r => by rcases r with r | r <;> exact ⟨_, rfl⟩)
theorem ok (k : Nat) : FunOk Tryz.prog 54 (d k) := fun_mk (C := C k) (hC k) (S := S k) Tryz.func54 (by kernel_rfl) (by kernel_rfl) (Loops.all (n := 1) (by kernel_rfl) ⟨trivial, l2 k⟩) (fun as_ => by kernel_rfl)
end ref47_available
namespace ref47_parallel
noncomputable def C (k : Nat) : Cx := ⟨Tryz.prog, tab [(23, ref47_Finished.d k), (52, ref47_key.d k), (53, ref47_highest.d k), (54, ref47_available.d k)], [], [], tab []⟩
noncomputable def t4 : LoopT := ⟨⟨105, [.tmp 12 35 3, .tmp 13 58 9], [(1, .sl 42 none), (2, .int .i64), (3, .int .i64), (4, .int .i64), (5, .ptr 5 0), (12, .sl 3 (some 35)), (13, .sl 9 (some 58)), (14, .int .i64)], [], [(5, 41)], []⟩, (fun | .exit 0 => some ⟨105, [], [(1, .sl 42 none), (2, .int .i64), (3, .int .i64), (4, .int .i64), (5, .ptr 5 0), (12, .sl 3 (some 35)), (13, .sl 9 (some 58))], [], [(5, 41)], []⟩ | _ => none)⟩
noncomputable def s4 (k : Nat) (c0 : Rows) (c1 : Int) (c2 : Int) (c3 : Int) (c4 : Row) (x : (Rows × Rows × Int)) : T ((Rows × Rows × Int) ⊕ (Rows × Rows)) :=
  .test (iLt x.2.2 (rLen c0))
   (.test (iIn x.2.2 (rLen c0))
    (.test (iEq (rLen (rSl (rAt c0 x.2.2) 0)) (0))
     (.test (iLt x.2.2 c1)
      (.test (rOk 8 (rLen x.1) (rLen [[.int .i64 x.2.2]]))
       (.ret (.inl ((rCat x.1 [[.int .i64 x.2.2]]), x.2.1, (iAdd .i64 x.2.2 (1)))))
       (.fail))
      (.ret (.inl (x.1, x.2.1, (iAdd .i64 x.2.2 (1))))))
     (.test (iIn x.2.2 (rLen c0))
      (.test (iIn (0) (rLen (rSl (rAt c0 x.2.2) 0)))
       (.opt (bAnd (bNot (rBool (rAt (rSl (rAt c0 x.2.2) 0) (0)) 7)) (bNot (iLe c1 x.2.2))) (ref47_Finished.f k (et 61 (rAt (rSl (rAt c0 x.2.2) 0) (0)))).eval default fun r0 =>
       .test (bIte (bNot (rBool (rAt (rSl (rAt c0 x.2.2) 0) (0)) 7)) (bIte (iLe c1 x.2.2) true r0) false)
        (.bnd (ref47_key.f k (et 61 (rAt (rSl (rAt c0 x.2.2) 0) (0)))).eval default fun r1 =>
        .test (rOk 16 (rLen x.2.1) (rLen r1))
         (.ret (.inl (x.1, (rCat x.2.1 r1), (iAdd .i64 x.2.2 (1)))))
         (.fail))
        (.ret (.inl (x.1, x.2.1, (iAdd .i64 x.2.2 (1))))))
       (.fail))
      (.fail)))
    (.fail))
   (.ret (.inr (x.1, x.2.1)))
noncomputable def a4 (c0 : Rows) (c1 : Int) (c2 : Int) (c3 : Int) (c4 : Row) (x : (Rows × Rows × Int)) : Dt := ⟨[.r c0, .i c1, .i c2, .i c3, .u, .r x.1, .r x.2.1, .i x.2.2], [], [et 41 c4], []⟩
noncomputable def o4_0 (c0 : Rows) (c1 : Int) (c2 : Int) (c3 : Int) (c4 : Row) (r : (Rows × Rows)) : X × Dt := (.exit 0, ⟨[.r c0, .i c1, .i c2, .i c3, .u, .r r.1, .r r.2], [], [(et 41 c4)], []⟩)
noncomputable def e4 (k : Nat) (d : Dt) : T (X × Dt) := out1 (iter (s4 k (aR (aN d.a 0)) (aI (aN d.a 1)) (aI (aN d.a 2)) (aI (aN d.a 3)) (d.r.getD 0 [])) k ((aR (aN d.a 5)), (aR (aN d.a 6)), (aI (aN d.a 7)))) default (o4_0 (aR (aN d.a 0)) (aI (aN d.a 1)) (aI (aN d.a 2)) (aI (aN d.a 3)) (d.r.getD 0 []))
noncomputable def S (k : Nat) : Subs := fun n => bif Nat.beq n 4 then some (loopV Tryz.prog t4 (e4 k)) else none
noncomputable def f (k : Nat) (a0 : Row) (a1 : Rows) (a2 : Int) (a3 : Int) (a4 : Int) : T (Rows × Rows) :=
  .bnd (iter (ref47_parallel.s4 k a1 a2 a3 a4 (et 41 a0)) k ([], ([], (0)))) default fun r0 =>
  .bnd (ref47_highest.f k (et 41 a0) a1 a3 a2 true).eval default fun r1 =>
  .test (bImp (bIte (bIte (iEq (rLen r0.1) (0)) (iEq (rLen r0.2) (0)) false) (iLe (0) r1) false) (iIn r1 (rLen a1)))
   (.test (bImp (bIte (bIte (iEq (rLen r0.1) (0)) (iEq (rLen r0.2) (0)) false) (iLe (0) r1) false) (iIn (0) (rLen (rSl (rAt a1 r1) 0))))
    (.opt (bIte (bIte (bIte (iEq (rLen r0.1) (0)) (iEq (rLen r0.2) (0)) false) (iLe (0) r1) false) (bNot (rBool (rAt (rSl (rAt a1 r1) 0) (0)) 7)) false) (ref47_available.f k (et 41 a0) a1 (iAdd .i64 r1 (1)) a2 a4).eval default fun r2 =>
    .test (bIte (bIte (bIte (bIte (iEq (rLen r0.1) (0)) (iEq (rLen r0.2) (0)) false) (iLe (0) r1) false) (bNot (rBool (rAt (rSl (rAt a1 r1) 0) (0)) 7)) false) r2 false)
     (.test (iIn r1 (rLen a1))
      (.test (iIn (0) (rLen (rSl (rAt a1 r1) 0)))
       (.bnd (ref47_key.f k (et 61 (rAt (rSl (rAt a1 r1) 0) (0)))).eval default fun r3 =>
       .ret (r0.1, r3))
       (.fail))
      (.fail))
     (.ret (r0.1, r0.2)))
    (.fail))
   (.fail)
noncomputable def d (k : Nat) : Fun := mkFun [41, 54, 3, 3, 3] (fun as_ => f k (vRow (vN as_ 0)) (vRows (vN as_ 1)) (vInt (vN as_ 2)) (vInt (vN as_ 3)) (vInt (vN as_ 4))) default (fun r => .tuple [.slice 3 r.1 .open, .slice 9 r.2 .open])
theorem hC (k : Nat) : CxOk (C k) := CxOk.cons (p := (23, ref47_Finished.d k)) (ref47_Finished.ok k) (CxOk.cons (p := (52, ref47_key.d k)) (ref47_key.ok k) (CxOk.cons (p := (53, ref47_highest.d k)) (ref47_highest.ok k) (CxOk.cons (p := (54, ref47_available.d k)) (ref47_available.ok k) (CxOk.nil))))
theorem l4 (k : Nat) : LoopOk Tryz.prog (S k) (lp (bodyF (Go.Proofs.Tryz.f31)) 0) := loopOk_mk (C := C k) (hC k) (Loops.all (n := 0) (by kernel_rfl) trivial) (lt := t4) (den := e4 k) (by kernel_rfl) (N := (Rows × Int × Int × Int × Row)) (A := (Rows × Rows × Int)) (R := (Rows × Rows))
 (fun n x => a4 n.1 n.2.1 n.2.2.1 n.2.2.2.1 n.2.2.2.2 x) (fun n r => o4_0 n.1 n.2.1 n.2.2.1 n.2.2.2.1 n.2.2.2.2 r) (fun n x => s4 k n.1 n.2.1 n.2.2.1 n.2.2.2.1 n.2.2.2.2 x) k (fun d => ((aR (aN d.a 0)), (aI (aN d.a 1)), (aI (aN d.a 2)), (aI (aN d.a 3)), (d.r.getD 0 []))) (fun d => ((aR (aN d.a 5)), (aR (aN d.a 6)), (aI (aN d.a 7)))) (fun d y h => out1_eval h) (fun d => by kernel_rfl) (fun n x => by kernel_rfl) (fun n r => ⟨_, rfl⟩)
theorem ok (k : Nat) : FunOk Tryz.prog 31 (d k) := fun_mk (C := C k) (hC k) (S := S k) Tryz.func31 (by kernel_rfl) (by kernel_rfl) (Loops.all (n := 1) (by kernel_rfl) ⟨trivial, l4 k⟩) (fun as_ => by kernel_rfl)
end ref47_parallel
namespace ref47_ordered
noncomputable def C (k : Nat) : Cx := ⟨Tryz.prog, tab [(19, ref33_Available.d k), (23, ref47_Finished.d k), (52, ref47_key.d k), (53, ref47_highest.d k), (54, ref47_available.d k)], [], [], tab []⟩
noncomputable def t2 : LoopT := ⟨⟨94, [], [(1, .sl 42 none), (2, .int .i64), (3, .int .i64), (4, .int .i64), (5, .ptr 5 0), (12, .int .i64)], [], [(5, 41)], []⟩, (fun | .ret => some ⟨94, [], [(10, .sl 3 none), (11, .sl 9 none)], [], [], []⟩ | .exit 0 => some ⟨94, [], [(1, .sl 42 none), (2, .int .i64), (3, .int .i64), (4, .int .i64), (5, .ptr 5 0)], [], [(5, 41)], []⟩ | _ => none)⟩
noncomputable def s2 (k : Nat) (c0 : Rows) (c1 : Int) (c2 : Int) (c3 : Int) (c4 : Row) (x : Int) : T (Int ⊕ ((Rows × Rows) ⊕ Unit)) :=
  .test (iLt x c1)
   (.test (iIn x (rLen c0))
    (.test (iEq (rLen (rSl (rAt c0 x) 0)) (0))
     (.ret (.inr (.inl ([[.int .i64 x]], []))))
     (.test (iIn x (rLen c0))
      (.test (iIn (0) (rLen (rSl (rAt c0 x) 0)))
       (.bnd (ref33_Available.f k (et 61 (rAt (rSl (rAt c0 x) 0) (0))) (rInt c4 15) c3).eval default fun r0 =>
       .test r0
        (.ret (.inl (iAdd .i64 x (1))))
        (.bnd (ref47_Finished.f k (et 61 (rAt (rSl (rAt c0 x) 0) (0)))).eval default fun r1 =>
        .test (bIte r1 (bNot (rBool (rAt (rSl (rAt c0 x) 0) (0)) 7)) false)
         (.bnd (ref47_key.f k (et 61 (rAt (rSl (rAt c0 x) 0) (0)))).eval default fun r2 =>
         .ret (.inr (.inl ([], r2))))
         (.ret (.inr (.inl ([], []))))))
       (.fail))
      (.fail)))
    (.fail))
   (.ret (.inr (.inr ())))
noncomputable def a2 (c0 : Rows) (c1 : Int) (c2 : Int) (c3 : Int) (c4 : Row) (x : Int) : Dt := ⟨[.r c0, .i c1, .i c2, .i c3, .u, .i x], [], [et 41 c4], []⟩
noncomputable def o2_0 (c0 : Rows) (c1 : Int) (c2 : Int) (c3 : Int) (c4 : Row) (r : (Rows × Rows)) : X × Dt := (.ret, ⟨[.r r.1, .r r.2], [], [], []⟩)
noncomputable def o2_1 (c0 : Rows) (c1 : Int) (c2 : Int) (c3 : Int) (c4 : Row) (r : Unit) : X × Dt := (.exit 0, ⟨[.r c0, .i c1, .i c2, .i c3, .u], [], [(et 41 c4)], []⟩)
noncomputable def e2 (k : Nat) (d : Dt) : T (X × Dt) := out2 (iter (s2 k (aR (aN d.a 0)) (aI (aN d.a 1)) (aI (aN d.a 2)) (aI (aN d.a 3)) (d.r.getD 0 [])) k (aI (aN d.a 5))) (o2_0 (aR (aN d.a 0)) (aI (aN d.a 1)) (aI (aN d.a 2)) (aI (aN d.a 3)) (d.r.getD 0 [])) (o2_1 (aR (aN d.a 0)) (aI (aN d.a 1)) (aI (aN d.a 2)) (aI (aN d.a 3)) (d.r.getD 0 []))
noncomputable def S (k : Nat) : Subs := fun n => bif Nat.beq n 2 then some (loopV Tryz.prog t2 (e2 k)) else none
noncomputable def f (k : Nat) (a0 : Row) (a1 : Rows) (a2 : Int) (a3 : Int) (a4 : Int) : T (Rows × Rows) :=
  .cas (iter (ref47_ordered.s2 k a1 a2 a3 a4 (et 41 a0)) k (0)) (fun r0 =>
   .ret (r0.1, r0.2)) (fun r1 =>
   .bnd (ref47_highest.f k (et 41 a0) a1 a2 (rLen a1) false).eval default fun r2 =>
   .test (iLe (0) r2)
    (.test (iIn r2 (rLen a1))
     (.test (iIn (0) (rLen (rSl (rAt a1 r2) 0)))
      (.opt (bNot (rBool (rAt (rSl (rAt a1 r2) 0) (0)) 7)) (ref47_available.f k (et 41 a0) a1 (0) r2 a4).eval default fun r3 =>
      .test (bIte (rBool (rAt (rSl (rAt a1 r2) 0) (0)) 7) true (bNot r3))
       (.ret ([], []))
       (.test (iIn r2 (rLen a1))
        (.test (iIn (0) (rLen (rSl (rAt a1 r2) 0)))
         (.bnd (ref47_key.f k (et 61 (rAt (rSl (rAt a1 r2) 0) (0)))).eval default fun r4 =>
         .ret ([], r4))
         (.fail))
        (.fail)))
      (.fail))
     (.fail))
    (.bnd (ref47_highest.f k (et 41 a0) a1 a3 a2 true).eval default fun r5 =>
    .test (iLe (0) r5)
     (.test (iIn r5 (rLen a1))
      (.test (iIn (0) (rLen (rSl (rAt a1 r5) 0)))
       (.bnd (ref47_key.f k (et 61 (rAt (rSl (rAt a1 r5) 0) (0)))).eval default fun r6 =>
       .ret ([], r6))
       (.fail))
      (.fail))
     (.ret ([], []))))
noncomputable def d (k : Nat) : Fun := mkFun [41, 54, 3, 3, 3] (fun as_ => f k (vRow (vN as_ 0)) (vRows (vN as_ 1)) (vInt (vN as_ 2)) (vInt (vN as_ 3)) (vInt (vN as_ 4))) default (fun r => .tuple [.slice 3 r.1 .open, .slice 9 r.2 .open])
theorem hC (k : Nat) : CxOk (C k) := CxOk.cons (p := (19, ref33_Available.d k)) (ref33_Available.ok k) (CxOk.cons (p := (23, ref47_Finished.d k)) (ref47_Finished.ok k) (CxOk.cons (p := (52, ref47_key.d k)) (ref47_key.ok k) (CxOk.cons (p := (53, ref47_highest.d k)) (ref47_highest.ok k) (CxOk.cons (p := (54, ref47_available.d k)) (ref47_available.ok k) (CxOk.nil)))))
theorem l2 (k : Nat) : LoopOk Tryz.prog (S k) (lp (bodyF (Go.Proofs.Tryz.f32)) 0) := loopOk_mk (C := C k) (hC k) (Loops.all (n := 0) (by kernel_rfl) trivial) (lt := t2) (den := e2 k) (by kernel_rfl) (N := (Rows × Int × Int × Int × Row)) (A := Int) (R := ((Rows × Rows) ⊕ Unit))
 (fun n x => a2 n.1 n.2.1 n.2.2.1 n.2.2.2.1 n.2.2.2.2 x) (fun n r => Sum.elim (o2_0 n.1 n.2.1 n.2.2.1 n.2.2.2.1 n.2.2.2.2) (o2_1 n.1 n.2.1 n.2.2.1 n.2.2.2.1 n.2.2.2.2) r) (fun n x => s2 k n.1 n.2.1 n.2.2.1 n.2.2.2.1 n.2.2.2.2 x) k (fun d => ((aR (aN d.a 0)), (aI (aN d.a 1)), (aI (aN d.a 2)), (aI (aN d.a 3)), (d.r.getD 0 []))) (fun d => (aI (aN d.a 5))) (fun d y h => out2_eval h) (fun d => by kernel_rfl) (fun n x => by kernel_rfl) (fun n r => by rcases r with r | r <;> exact ⟨_, rfl⟩)
theorem ok (k : Nat) : FunOk Tryz.prog 32 (d k) := fun_mk (C := C k) (hC k) (S := S k) Tryz.func32 (by kernel_rfl) (by kernel_rfl) (Loops.all (n := 1) (by kernel_rfl) ⟨trivial, l2 k⟩) (fun as_ => by kernel_rfl)
end ref47_ordered
namespace ref47_Plan
noncomputable def C (k : Nat) : Cx := ⟨Tryz.prog, tab [(20, ref01_Clamp.d k), (18, ref47_Pods.d k), (31, ref47_parallel.d k), (32, ref47_ordered.d k)], [], [], tab []⟩
noncomputable def S (k : Nat) : Subs := fun n => none
noncomputable def f (k : Nat) (a0 : Row) (a1 : Rows) (a2 : Int) : T (Rows × Rows) :=
  .test (rBool a0 7)
   (.ret ([], []))
   (.bnd (ref01_Clamp.f k (rInt a0 13) (0) (40)).eval default fun r0 =>
   .bnd (ref01_Clamp.f k (rInt a0 14) (0) r0).eval default fun r1 =>
   .test (rBool a0 16)
    (.bnd (ref47_Pods.f k (et 41 a0) a1).eval default fun r2 =>
    .bnd (ref47_parallel.f k (et 41 a0) r2 r0 r1 a2).eval default fun r3 =>
    .ret (r3.1, r3.2))
    (.bnd (ref47_Pods.f k (et 41 a0) a1).eval default fun r4 =>
    .bnd (ref47_ordered.f k (et 41 a0) r4 r0 r1 a2).eval default fun r5 =>
    .ret (r5.1, r5.2)))
noncomputable def d (k : Nat) : Fun := mkFun [41, 42, 3] (fun as_ => f k (vRow (vN as_ 0)) (vRows (vN as_ 1)) (vInt (vN as_ 2))) default (fun r => .tuple [.slice 3 r.1 .open, .slice 9 r.2 .open])
theorem hC (k : Nat) : CxOk (C k) := CxOk.cons (p := (20, ref01_Clamp.d k)) (ref01_Clamp.ok k) (CxOk.cons (p := (18, ref47_Pods.d k)) (ref47_Pods.ok k) (CxOk.cons (p := (31, ref47_parallel.d k)) (ref47_parallel.ok k) (CxOk.cons (p := (32, ref47_ordered.d k)) (ref47_ordered.ok k) (CxOk.nil))))
theorem ok (k : Nat) : FunOk Tryz.prog 11 (d k) := fun_mk (C := C k) (hC k) (S := S k) Tryz.func11 (by kernel_rfl) (by kernel_rfl) (Loops.all (n := 0) (by kernel_rfl) trivial) (fun as_ => by kernel_rfl)
end ref47_Plan
namespace ref44_Tally
noncomputable def C (k : Nat) : Cx := ⟨Tryz.prog, tab [(39, ref33_Active.d k), (25, ref44_Updated.d k), (19, ref33_Available.d k)], [], [], tab []⟩
noncomputable def t3 : LoopT := ⟨⟨59, [], [(0, .sl 61 none), (2, .int .i64), (3, .int .i64), (5, .ptr 5 0), (8, .ptr 8 0), (9, .ptr 9 0), (10, .int .i64)], [], [(5, 37), (8, 39), (9, 39)], []⟩, (fun | .exit 0 => some ⟨59, [], [(8, .ptr 8 0), (9, .ptr 9 0)], [], [(8, 39), (9, 39)], []⟩ | _ => none)⟩
noncomputable def s3 (k : Nat) (c0 : Rows) (c1 : Int) (c2 : Int) (c3 : Row) (c4 : Row) (x : (Int × Row)) : T ((Int × Row) ⊕ Row) :=
  .test (iLt x.1 (rLen c0))
   (.test (iIn x.1 (rLen c0))
    (.bnd (ref33_Active.f k (et 61 (rAt c0 x.1))).eval default fun r0 =>
    .test (bNot r0)
     (.ret (.inl ((iAdd .i64 x.1 (1)), (et 39 x.2))))
     (.test (iIn x.1 (rLen c0))
      (.bnd (ref44_Updated.f k (et 37 c3) (et 61 (rAt c0 x.1))).eval default fun r1 =>
      .test r1
       (.test (iIn x.1 (rLen c0))
        (.test (rBool (rAt c0 x.1) 24)
         (.test (iIn x.1 (rLen c0))
          (.bnd (ref33_Available.f k (et 61 (rAt c0 x.1)) c1 c2).eval default fun r2 =>
          .test r2
           (.ret (.inl ((iAdd .i64 x.1 (1)), [.int .i64 (rInt x.2 0), .int .i64 (iAdd .i64 (rInt x.2 1) (1)), .int .i64 (iAdd .i64 (rInt x.2 2) (1)), .int .i64 (iAdd .i64 (rInt x.2 3) (1)), .int .i64 (iAdd .i64 (rInt x.2 4) (1)), .int .i64 (rInt x.2 5), .bool (rBool x.2 6)])))
           (.ret (.inl ((iAdd .i64 x.1 (1)), [.int .i64 (rInt x.2 0), .int .i64 (iAdd .i64 (rInt x.2 1) (1)), .int .i64 (iAdd .i64 (rInt x.2 2) (1)), .int .i64 (iAdd .i64 (rInt x.2 3) (1)), .int .i64 (rInt x.2 4), .int .i64 (rInt x.2 5), .bool (rBool x.2 6)]))))
          (.fail))
         (.test (iIn x.1 (rLen c0))
          (.bnd (ref33_Available.f k (et 61 (rAt c0 x.1)) c1 c2).eval default fun r3 =>
          .test r3
           (.ret (.inl ((iAdd .i64 x.1 (1)), [.int .i64 (rInt x.2 0), .int .i64 (iAdd .i64 (rInt x.2 1) (1)), .int .i64 (iAdd .i64 (rInt x.2 2) (1)), .int .i64 (rInt x.2 3), .int .i64 (iAdd .i64 (rInt x.2 4) (1)), .int .i64 (rInt x.2 5), .bool (rBool x.2 6)])))
           (.ret (.inl ((iAdd .i64 x.1 (1)), [.int .i64 (rInt x.2 0), .int .i64 (iAdd .i64 (rInt x.2 1) (1)), .int .i64 (iAdd .i64 (rInt x.2 2) (1)), .int .i64 (rInt x.2 3), .int .i64 (rInt x.2 4), .int .i64 (rInt x.2 5), .bool (rBool x.2 6)]))))
          (.fail)))
        (.fail))
       (.test (iIn x.1 (rLen c0))
        (.test (rBool (rAt c0 x.1) 24)
         (.test (iIn x.1 (rLen c0))
          (.bnd (ref33_Available.f k (et 61 (rAt c0 x.1)) c1 c2).eval default fun r4 =>
          .test r4
           (.ret (.inl ((iAdd .i64 x.1 (1)), [.int .i64 (rInt x.2 0), .int .i64 (iAdd .i64 (rInt x.2 1) (1)), .int .i64 (rInt x.2 2), .int .i64 (iAdd .i64 (rInt x.2 3) (1)), .int .i64 (iAdd .i64 (rInt x.2 4) (1)), .int .i64 (rInt x.2 5), .bool (rBool x.2 6)])))
           (.ret (.inl ((iAdd .i64 x.1 (1)), [.int .i64 (rInt x.2 0), .int .i64 (iAdd .i64 (rInt x.2 1) (1)), .int .i64 (rInt x.2 2), .int .i64 (iAdd .i64 (rInt x.2 3) (1)), .int .i64 (rInt x.2 4), .int .i64 (rInt x.2 5), .bool (rBool x.2 6)]))))
          (.fail))
         (.test (iIn x.1 (rLen c0))
          (.bnd (ref33_Available.f k (et 61 (rAt c0 x.1)) c1 c2).eval default fun r5 =>
          .test r5
           (.ret (.inl ((iAdd .i64 x.1 (1)), [.int .i64 (rInt x.2 0), .int .i64 (iAdd .i64 (rInt x.2 1) (1)), .int .i64 (rInt x.2 2), .int .i64 (rInt x.2 3), .int .i64 (iAdd .i64 (rInt x.2 4) (1)), .int .i64 (rInt x.2 5), .bool (rBool x.2 6)])))
           (.ret (.inl ((iAdd .i64 x.1 (1)), [.int .i64 (rInt x.2 0), .int .i64 (iAdd .i64 (rInt x.2 1) (1)), .int .i64 (rInt x.2 2), .int .i64 (rInt x.2 3), .int .i64 (rInt x.2 4), .int .i64 (rInt x.2 5), .bool (rBool x.2 6)]))))
          (.fail)))
        (.fail)))
      (.fail)))
    (.fail))
   (.ret (.inr (et 39 x.2)))
noncomputable def a3 (c0 : Rows) (c1 : Int) (c2 : Int) (c3 : Row) (c4 : Row) (x : (Int × Row)) : Dt := ⟨[.r c0, .i c1, .i c2, .u, .u, .u, .i x.1], [], [et 37 c3, et 39 c4, et 39 x.2], []⟩
noncomputable def o3_0 (c0 : Rows) (c1 : Int) (c2 : Int) (c3 : Row) (c4 : Row) (r : Row) : X × Dt := (.exit 0, ⟨[.u, .u], [], [(et 39 c4), r], []⟩)
noncomputable def e3 (k : Nat) (d : Dt) : T (X × Dt) := out1 (iter (s3 k (aR (aN d.a 0)) (aI (aN d.a 1)) (aI (aN d.a 2)) (d.r.getD 0 []) (d.r.getD 1 [])) k ((aI (aN d.a 6)), (d.r.getD 2 []))) default (o3_0 (aR (aN d.a 0)) (aI (aN d.a 1)) (aI (aN d.a 2)) (d.r.getD 0 []) (d.r.getD 1 []))
noncomputable def S (k : Nat) : Subs := fun n => bif Nat.beq n 3 then some (loopV Tryz.prog t3 (e3 k)) else none
noncomputable def f (k : Nat) (a0 : Rows) (a1 : Row) (a2 : Int) (a3 : Int) : T Row :=
  .bnd (iter (ref44_Tally.s3 k a0 a2 a3 (et 37 a1) [.int .i64 (0), .int .i64 (0), .int .i64 (0), .int .i64 (0), .int .i64 (0), .int .i64 (0), .bool false]) k ((0), [.int .i64 (0), .int .i64 (0), .int .i64 (0), .int .i64 (0), .int .i64 (0), .int .i64 (0), .bool false])) default fun r0 =>
  .ret (et 39 r0)
noncomputable def d (k : Nat) : Fun := mkFun [42, 37, 3, 3] (fun as_ => f k (vRows (vN as_ 0)) (vRow (vN as_ 1)) (vInt (vN as_ 2)) (vInt (vN as_ 3))) default (fun r => .agg (et 39 r))
theorem hC (k : Nat) : CxOk (C k) := CxOk.cons (p := (39, ref33_Active.d k)) (ref33_Active.ok k) (CxOk.cons (p := (25, ref44_Updated.d k)) (ref44_Updated.ok k) (CxOk.cons (p := (19, ref33_Available.d k)) (ref33_Available.ok k) (CxOk.nil)))
theorem l3 (k : Nat) : LoopOk Tryz.prog (S k) (lp (bodyF (Go.Proofs.Tryz.f36)) 0) := loopOk_mk (C := C k) (hC k) (Loops.all (n := 0) (by kernel_rfl) trivial) (lt := t3) (den := e3 k) (by kernel_rfl) (N := (Rows × Int × Int × Row × Row)) (A := (Int × Row)) (R := Row)
 (fun n x => a3 n.1 n.2.1 n.2.2.1 n.2.2.2.1 n.2.2.2.2 x) (fun n r => o3_0 n.1 n.2.1 n.2.2.1 n.2.2.2.1 n.2.2.2.2 r) (fun n x => s3 k n.1 n.2.1 n.2.2.1 n.2.2.2.1 n.2.2.2.2 x) k (fun d => ((aR (aN d.a 0)), (aI (aN d.a 1)), (aI (aN d.a 2)), (d.r.getD 0 []), (d.r.getD 1 []))) (fun d => ((aI (aN d.a 6)), (d.r.getD 2 []))) (fun d y h => out1_eval h) (fun d => by kernel_rfl) (fun n x => by kernel_rfl) (fun n r => ⟨_, rfl⟩)
theorem ok (k : Nat) : FunOk Tryz.prog 36 (d k) := fun_mk (C := C k) (hC k) (S := S k) Tryz.func36 (by kernel_rfl) (by kernel_rfl) (Loops.all (n := 1) (by kernel_rfl) ⟨trivial, l3 k⟩) (fun as_ => by kernel_rfl)
end ref44_Tally
namespace ref47_Status
noncomputable def C (k : Nat) : Cx := ⟨Tryz.prog, tab [(18, ref47_Pods.d k), (36, ref44_Tally.d k)], [], [], tab []⟩
noncomputable def t4 : LoopT := ⟨⟨38, [.tmp 7 25 61], [(2, .int .i64), (3, .ptr 3 0), (6, .ptr 6 0), (7, .sl 61 (some 25)), (8, .sl 42 none), (9, .int .i64)], [], [(3, 41), (6, 39)], []⟩, (fun | .exit 0 => some ⟨38, [], [(2, .int .i64), (3, .ptr 3 0), (6, .ptr 6 0), (7, .sl 61 (some 25))], [], [(3, 41), (6, 39)], []⟩ | _ => none)⟩
noncomputable def s4 (k : Nat) (c0 : Int) (c1 : Rows) (c2 : Row) (c3 : Row) (x : (Rows × Int)) : T ((Rows × Int) ⊕ Rows) :=
  .test (iLt x.2 (rLen c1))
   (.test (iIn x.2 (rLen c1))
    (.test (rOk 480 (rLen x.1) (rLen (rSl (rAt c1 x.2) 0)))
     (.ret (.inl ((rCat x.1 (rSl (rAt c1 x.2) 0)), (iAdd .i64 x.2 (1)))))
     (.fail))
    (.fail))
   (.ret (.inr x.1))
noncomputable def a4 (c0 : Int) (c1 : Rows) (c2 : Row) (c3 : Row) (x : (Rows × Int)) : Dt := ⟨[.i c0, .u, .u, .r x.1, .r c1, .i x.2], [], [et 41 c2, et 39 c3], []⟩
noncomputable def o4_0 (c0 : Int) (c1 : Rows) (c2 : Row) (c3 : Row) (r : Rows) : X × Dt := (.exit 0, ⟨[.i c0, .u, .u, .r r], [], [(et 41 c2), (et 39 c3)], []⟩)
noncomputable def e4 (k : Nat) (d : Dt) : T (X × Dt) := out1 (iter (s4 k (aI (aN d.a 0)) (aR (aN d.a 4)) (d.r.getD 0 []) (d.r.getD 1 [])) k ((aR (aN d.a 3)), (aI (aN d.a 5)))) default (o4_0 (aI (aN d.a 0)) (aR (aN d.a 4)) (d.r.getD 0 []) (d.r.getD 1 []))
noncomputable def S (k : Nat) : Subs := fun n => bif Nat.beq n 4 then some (loopV Tryz.prog t4 (e4 k)) else none
noncomputable def f (k : Nat) (a0 : Row) (a1 : Rows) (a2 : Int) : T Row :=
  .bnd (ref47_Pods.f k (et 41 a0) a1).eval default fun r0 =>
  .bnd (iter (ref47_Status.s4 k a2 r0 (et 41 a0) [.int .i64 (0), .int .i64 (0), .int .i64 (0), .int .i64 (0), .int .i64 (0), .int .i64 (0), .bool false]) k ([], (0))) default fun r1 =>
  .bnd (ref44_Tally.f k r1 (eo 37 a0 18) (rInt a0 15) a2).eval default fun r2 =>
  .ret [.int .i64 (rInt a0 5), .int .i64 (rInt r2 1), .int .i64 (rInt r2 2), .int .i64 (rInt r2 3), .int .i64 (rInt r2 4), .int .i64 (rInt r2 5), .bool (rBool r2 6)]
noncomputable def d (k : Nat) : Fun := mkFun [41, 42, 3] (fun as_ => f k (vRow (vN as_ 0)) (vRows (vN as_ 1)) (vInt (vN as_ 2))) default (fun r => .agg (et 39 r))
theorem hC (k : Nat) : CxOk (C k) := CxOk.cons (p := (18, ref47_Pods.d k)) (ref47_Pods.ok k) (CxOk.cons (p := (36, ref44_Tally.d k)) (ref44_Tally.ok k) (CxOk.nil))
theorem l4 (k : Nat) : LoopOk Tryz.prog (S k) (lp (bodyF (Go.Proofs.Tryz.f17)) 0) := loopOk_mk (C := C k) (hC k) (Loops.all (n := 0) (by kernel_rfl) trivial) (lt := t4) (den := e4 k) (by kernel_rfl) (N := (Int × Rows × Row × Row)) (A := (Rows × Int)) (R := Rows)
 (fun n x => a4 n.1 n.2.1 n.2.2.1 n.2.2.2 x) (fun n r => o4_0 n.1 n.2.1 n.2.2.1 n.2.2.2 r) (fun n x => s4 k n.1 n.2.1 n.2.2.1 n.2.2.2 x) k (fun d => ((aI (aN d.a 0)), (aR (aN d.a 4)), (d.r.getD 0 []), (d.r.getD 1 []))) (fun d => ((aR (aN d.a 3)), (aI (aN d.a 5)))) (fun d y h => out1_eval h) (fun d => by kernel_rfl) (fun n x => by kernel_rfl) (fun n r => ⟨_, rfl⟩)
theorem ok (k : Nat) : FunOk Tryz.prog 17 (d k) := fun_mk (C := C k) (hC k) (S := S k) Tryz.func17 (by kernel_rfl) (by kernel_rfl) (Loops.all (n := 1) (by kernel_rfl) ⟨trivial, l4 k⟩) (fun as_ => by kernel_rfl)
end ref47_Status
namespace ref10_Has
noncomputable def C (k : Nat) : Cx := ⟨Tryz.prog, tab [], [], [], tab []⟩
noncomputable def t2 : LoopT := ⟨⟨18, [], [(0, .sl 9 none), (1, .str), (5, .int .i64)], [], [], []⟩, (fun | .ret => some ⟨18, [], [(4, .bool)], [], [], []⟩ | .exit 0 => some ⟨18, [], [], [], [], []⟩ | _ => none)⟩
noncomputable def s2 (k : Nat) (c0 : Rows) (c1 : ByteArray) (x : Int) : T (Int ⊕ (Bool ⊕ Unit)) :=
  .test (iLt x (rLen c0))
   (.test (iIn x (rLen c0))
    (.test (sEq (rStr (rAt c0 x) 0) c1)
     (.ret (.inr (.inl true)))
     (.ret (.inl (iAdd .i64 x (1)))))
    (.fail))
   (.ret (.inr (.inr ())))
noncomputable def a2 (c0 : Rows) (c1 : ByteArray) (x : Int) : Dt := ⟨[.r c0, .s c1, .i x], [], [], []⟩
noncomputable def o2_0 (c0 : Rows) (c1 : ByteArray) (r : Bool) : X × Dt := (.ret, ⟨[.b r], [], [], []⟩)
noncomputable def o2_1 (c0 : Rows) (c1 : ByteArray) (r : Unit) : X × Dt := (.exit 0, ⟨[], [], [], []⟩)
noncomputable def e2 (k : Nat) (d : Dt) : T (X × Dt) := out2 (iter (s2 k (aR (aN d.a 0)) (aS (aN d.a 1))) k (aI (aN d.a 2))) (o2_0 (aR (aN d.a 0)) (aS (aN d.a 1))) (o2_1 (aR (aN d.a 0)) (aS (aN d.a 1)))
noncomputable def S (k : Nat) : Subs := fun n => bif Nat.beq n 2 then some (loopV Tryz.prog t2 (e2 k)) else none
noncomputable def f (k : Nat) (a0 : Rows) (a1 : ByteArray) : T Bool :=
  .cas (iter (ref10_Has.s2 k a0 a1) k (0)) (fun r0 =>
   .ret r0) (fun r1 =>
   .ret false)
noncomputable def d (k : Nat) : Fun := mkFun [24, 9] (fun as_ => f k (vRows (vN as_ 0)) (vStr (vN as_ 1))) default (fun r => .bool r)
theorem hC (k : Nat) : CxOk (C k) := CxOk.nil
theorem l2 (k : Nat) : LoopOk Tryz.prog (S k) (lp (bodyF (Go.Proofs.Tryz.f21)) 0) := loopOk_mk (C := C k) (hC k) (Loops.all (n := 0) (by kernel_rfl) trivial) (lt := t2) (den := e2 k) (by kernel_rfl) (N := (Rows × ByteArray)) (A := Int) (R := (Bool ⊕ Unit))
 (fun n x => a2 n.1 n.2 x) (fun n r => Sum.elim (o2_0 n.1 n.2) (o2_1 n.1 n.2) r) (fun n x => s2 k n.1 n.2 x) k (fun d => ((aR (aN d.a 0)), (aS (aN d.a 1)))) (fun d => (aI (aN d.a 2))) (fun d y h => out2_eval h) (fun d => by kernel_rfl) (fun n x => by kernel_rfl) (fun n r => by rcases r with r | r <;> exact ⟨_, rfl⟩)
theorem ok (k : Nat) : FunOk Tryz.prog 21 (d k) := fun_mk (C := C k) (hC k) (S := S k) Tryz.func21 (by kernel_rfl) (by kernel_rfl) (Loops.all (n := 1) (by kernel_rfl) ⟨trivial, l2 k⟩) (fun as_ => by kernel_rfl)
end ref10_Has
end Go.Proofs.YtolackmpfnndhaaGreatDoor.Ev
