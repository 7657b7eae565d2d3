/- Go functions as Lean functions, printed by a program of this claim's author; each with its proof. Conditions: stated at each. -/
import Derived.Test.YthnkchbcinlnnaaGreatDoorE0
namespace Go.Proofs.YthnkchbcinlnnaaGreatDoor.Ev
open Go
set_option linter.unusedVariables false
set_option maxRecDepth 100000
namespace json_Print
noncomputable def qB : List UInt8 → List UInt8
  | [] => []
  | c :: l => (bif c == 10 then [92, 110] else bif c == 34 || c == 92 then [92, c] else [c]) ++ qB l
noncomputable def jn (g : Row → Option (List UInt8)) : Bool → Rows → Option (List UInt8)
  | _, [] => some []
  | c, r :: l => (g r).bind fun x => (jn g false l).map fun y => (bif c then [] else [44]) ++ x ++ y
noncomputable def qt (s : ByteArray) : List UInt8 := 34 :: (qB s.data.toList ++ [34])
noncomputable def vtxt (k : Nat) : Nat → Row → Option (List UInt8)
  | 0, _ => none
  | g + 1, r =>
    bif iEq (rInt r 0) 0 then some [110, 117, 108, 108]
    else bif iEq (rInt r 0) 1 then (strconv_FormatBool.f k (iEq (rInt r 1) 1)).eval.map (·.data.toList)
    else bif iEq (rInt r 0) 2 then (strconv_Itoa.f k (rInt r 1)).eval.map (·.data.toList)
    else bif iEq (rInt r 0) 3 then some (qt (rStr r 2))
    else bif iEq (rInt r 0) 4 then (jn (vtxt k g) true (rSl r 3)).map fun x => 91 :: (x ++ [93])
    else (jn (fun q => (vtxt k g (q.drop 1)).map fun x => qt (rStr q 0) ++ 58 :: x) true (rSl r 4)).map fun x => 123 :: (x ++ [125])
noncomputable def f (k : Nat) (a0 : Row) : T (ByteArray × Int) :=
  .bnd (value_Valid.f k a0).eval default fun b =>
  .test b
   (.bnd (vtxt k k a0) [] fun x =>
   .test (decide (x.length ≤ 140737488355328)) (.test (decide (20000 < x.length)) (.ret (⟨#[]⟩, 4)) (.ret (⟨x.toArray⟩, 0))) (.fail))
   (.ret (⟨#[]⟩, 1))
noncomputable def d (k : Nat) : Fun := mkFun [68] (fun as_ => f k (vRow (vN as_ 0))) default (fun r => .tuple [.str r.1, .int .i64 r.2])
theorem qB_drop (l : List UInt8) (i : Nat) (h : i < l.length) : qB (l.drop i) = (bif l[i] == 10 then [92, 110] else bif l[i] == 34 || l[i] == 92 then [92, l[i]] else [l[i]]) ++ qB (l.drop (i + 1)) := by
  rw [List.drop_eq_getElem_cons h]; rfl
theorem qB_len : ∀ l : List UInt8, l.length ≤ (qB l).length
  | [] => Nat.le_refl _
  | c :: l => by
    have := qB_len l
    show _ ≤ ((bif c == 10 then [92, 110] else bif c == 34 || c == 92 then [92, c] else [c]) ++ qB l).length
    rw [List.length_append, List.length_cons]
    cases c == 10 <;> cases (c == 34 || c == 92) <;> simp <;> omega
theorem u8_eq (c d : UInt8) (n : Int) (h : (d.toNat : Int) = n) : ((c.toNat : Int) == n) = (c == d) := by
  subst h
  by_cases h1 : c = d
  · subst h1; simp
  · have : ¬ c.toNat = d.toNat := fun e => h1 (UInt8.toNat_inj.1 e)
    have h2 : (c == d) = false := by simpa using h1
    rw [h2]; simp; omega
theorem quote_w (B b : Nat) (s : ByteArray) : Writes Tryz.prog 97 5 B b 89 [.string s] (34 :: (qB s.data.toList ++ [34])) := fun w pre h hB hl => by
  have hb := fun c => writes_byte lay_wb lay_bx B b c
  have hs := fun s => writes_string lay_ws lay_bx B b s
  change ∀ c, Writes Tryz.prog 97 5 B b 90 _ _ at hb
  change ∀ s, Writes Tryz.prog 97 5 B b 86 _ _ at hs
  have hl' : pre.length + (qB s.data.toList).length + 2 ≤ 140737488355328 := by simp at hl; omega
  have STEP : Aside (∀ (f : Nat) (args : List Value) (out q : List UInt8) (wr : World), Writes Tryz.prog 97 5 B b f args out → Aside (BA 97 5 B b w (pre ++ 34 :: q) wr) → q.length + out.length ≤ (qB s.data.toList).length + 1 →
      Calls Tryz.prog f (.pointer (some ⟨b, 0, none⟩) :: args).toArray wr fun e w' => (∃ v, e = .returned v) ∧ BA 97 5 B b w (pre ++ 34 :: (q ++ out)) w') := fun f args out q wr hw H hl2 => by
    have H' : BA 97 5 B b w (pre ++ 34 :: q) wr := H
    refine (hw wr _ H'.is (H'.size hB) (by simp; omega)).mono ?_
    rintro e w' ⟨hv, h2⟩
    refine ⟨hv, ?_⟩
    have := H'.trans h2
    simpa using this
  have HB2 : Aside (Writes Tryz.prog 97 5 B b 90 [.int .u8 34] [34]) := hb 34
  have HLEN : Aside (pre.length + (qB s.data.toList).length + 2 ≤ 140737488355328) := hl'
  go_enter Tryz.func89, Tryz.ntmps89
  go_wp2_with (go_at_call 90; refine (hb 34 _ _ h hB ?_).mono ?_)
  · simp; omega
  rintro e w1 ⟨⟨v, rfl⟩, h1⟩
  have HS : Aside (BA 97 5 B b w (pre ++ [34]) w1) := h1
  clear h1 h
  go_wp2
  go_loopg [9] s.size (fun g vi wr => ∃ (i : Nat) (q : List UInt8), vi = .int .i64 i ∧ i ≤ s.size ∧ s.size - i ≤ g ∧ Aside (q ++ qB (s.data.toList.drop i) = qB s.data.toList) ∧ Aside (BA 97 5 B b w (pre ++ 34 :: q) wr))
  case atStart => exact ⟨0, [], rfl, by omega, by omega, rfl, HS⟩
  case round =>
    obtain ⟨i, q, rfl, hi, hg, HQ, H1⟩ := hrel
    by_cases hlt : i < s.size
    · have hz : (i : Int) < (s.size : Int) := by omega
      have hz0 : (0 : Int) ≤ (i : Int) := by omega
      have hsz : s.size ≤ 140737488355328 := by have h5 : s.size ≤ _ := qB_len s.data.toList; omega
      have e1 := qB_drop s.data.toList i (by simpa using hlt)
      have e2 : s.data.toList[i]'(by simpa using hlt) = s[i] := by simp [ByteArray.getElem_eq_getElem_data]
      rw [e2, ← u8_eq s[i] 10 10 rfl, ← u8_eq s[i] 34 34 rfl, ← u8_eq s[i] 92 92 rfl] at e1
      have HN : ∀ out, (∀ o, o = out → o ++ qB (s.data.toList.drop (i + 1)) = qB (s.data.toList.drop i)) → Aside (q.length + out.length ≤ (qB s.data.toList).length + 1 ∧ (q ++ out) ++ qB (s.data.toList.drop (i + 1)) = qB s.data.toList) := fun out h => by
        have h3 := h out rfl
        have h4 : q ++ qB (s.data.toList.drop i) = qB s.data.toList := HQ
        have h5 := congrArg List.length h4
        have h6 := congrArg List.length h3
        simp at h5 h6
        exact ⟨by omega, by rw [List.append_assoc, h3, h4]⟩
      have HC := hb s[i]
      have HC2 := hb 92
      have HS2 := hs ⟨#[92, 110]⟩
      cases c1 : ((s[i].toNat : Int) == 10) with
      | true =>
        have HO := HN [92, 110] (fun o ho => by rw [e1, ho, c1]; rfl)
        go_wp2_with (go_at_call 86; refine (STEP.out _ _ _ _ _ HS2 H1 HO.1).mono ?_; rintro e w2 ⟨⟨v2, rfl⟩, h2⟩; have H2 : Aside _ := h2; clear h2)
        go_roundg (s.size - i - 1)
        case measure => omega
        case rel => exact ⟨i + 1, q ++ [92, 110], by go_num, by omega, by omega, HO.2, H2⟩
      | false =>
        cases c2 : ((s[i].toNat : Int) == 34) || ((s[i].toNat : Int) == 92) with
        | true =>
          have HO := HN [92, s[i]] (fun o ho => by rw [e1, ho, c1, c2]; rfl)
          have HO1 : Aside (q.length + [(92 : UInt8)].length ≤ (qB s.data.toList).length + 1) := by have := HO.1; simp at this; show _ ≤ _; simp; omega
          have HO2 : Aside ((q ++ [(92 : UInt8)]).length + [s[i]].length ≤ (qB s.data.toList).length + 1) := by have := HO.1; simp at this; show _ ≤ _; simp; omega
          cases c3 : ((s[i].toNat : Int) == 34) with
          | true =>
            go_wp2_with (first
              | (go_at_call 90; refine (STEP.out _ _ _ _ _ HC2 H1 HO1).mono ?_; rintro e w2 ⟨⟨v2, rfl⟩, h2⟩; have H2 : Aside _ := h2; clear h2 H1)
              | (go_at_call 90; refine (STEP.out _ _ _ _ _ HC H2 HO2).mono ?_; rintro e w2 ⟨⟨v2, rfl⟩, h2⟩; have H3 : Aside _ := h2; clear h2))
            go_roundg (s.size - i - 1)
            case measure => omega
            case rel => exact ⟨i + 1, q ++ [92, s[i]], by go_num, by omega, by omega, HO.2, by simpa using H3⟩
          | false =>
            have c4 : ((s[i].toNat : Int) == 92) = true := by rw [c3] at c2; simpa using c2
            go_wp2_with (first
              | (go_at_call 90; refine (STEP.out _ _ _ _ _ HC2 H1 HO1).mono ?_; rintro e w2 ⟨⟨v2, rfl⟩, h2⟩; have H2 : Aside _ := h2; clear h2 H1)
              | (go_at_call 90; refine (STEP.out _ _ _ _ _ HC H2 HO2).mono ?_; rintro e w2 ⟨⟨v2, rfl⟩, h2⟩; have H3 : Aside _ := h2; clear h2))
            go_roundg (s.size - i - 1)
            case measure => omega
            case rel => exact ⟨i + 1, q ++ [92, s[i]], by go_num, by omega, by omega, HO.2, by simpa using H3⟩
        | false =>
          have HO := HN [s[i]] (fun o ho => by rw [e1, ho, c1, c2]; rfl)
          obtain ⟨c3, c4⟩ := Bool.or_eq_false_iff.1 c2
          go_wp2_with (go_at_call 90; refine (STEP.out _ _ _ _ _ HC H1 HO.1).mono ?_; rintro e w2 ⟨⟨v2, rfl⟩, h2⟩; have H2 : Aside _ := h2; clear h2)
          go_roundg (s.size - i - 1)
          case measure => omega
          case rel => exact ⟨i + 1, q ++ [s[i]], by go_num, by omega, by omega, HO.2, H2⟩
    · have hz : ¬ ((i : Int) < (s.size : Int)) := by omega
      have hi' : i = s.size := by omega
      have hd : s.data.toList.drop i = [] := List.drop_eq_nil_of_le (by rw [hi', Array.length_toList]; exact Nat.le_refl _)
      have hq : q = qB s.data.toList := by
        have h4 : q ++ qB (s.data.toList.drop i) = qB s.data.toList := HQ
        rw [hd] at h4
        simpa [qB] using h4
      have HO : Aside (q.length + [(34 : UInt8)].length ≤ (qB s.data.toList).length + 1) := by show _ ≤ _; rw [hq]; exact Nat.le_refl _
      go_wp2_with (go_at_call 90; refine (STEP.out _ _ _ _ _ HB2.out H1 HO).mono ?_; rintro e w2 ⟨⟨v2, rfl⟩, h2⟩; have H2 : Aside _ := h2; clear h2)
      go_end0
      exact ⟨⟨_, rfl⟩, by rw [← hq]; exact H2⟩
theorem jn_drop (g : Row → Option (List UInt8)) (l : Rows) (i : Nat) (h : i < l.length) (c : Bool) : jn g c (l.drop i) = (g l[i]).bind fun x => (jn g false (l.drop (i + 1))).map fun y => (bif c then [] else [44]) ++ x ++ y := by
  rw [List.drop_eq_getElem_cons h]; rfl
theorem jn_len (g : Row → Option (List UInt8)) : ∀ (c : Bool) (l : Rows) (x : List UInt8), jn g c l = some x → l.length ≤ x.length + (bif c then 1 else 0)
  | c, [], x, _ => Nat.zero_le _
  | c, r :: l, x, h => by
    obtain ⟨xi, _, h⟩ := Option.bind_eq_some_iff.1 (show (g r).bind (fun x => (jn g false l).map fun y => (bif c then [] else [44]) ++ x ++ y) = some x from h)
    obtain ⟨y, hy, h⟩ := Option.map_eq_some_iff.1 h
    have h1 : l.length ≤ y.length + 0 := jn_len g false l y hy
    rw [← h, List.length_append, List.length_append, List.length_cons]
    cases c <;> simp <;> omega
/-- What a value of the machine's is, of a row. -/
theorem val_inv {E : En} {v : Value} {r : Row} (h : Rep Tryz.prog E v (.agg r)) (he : eta Tryz.prog 68 r = r) : ∃ a l c a' l' c', v = .agg #[.int .i64 (rInt r 0), .int .i64 (rInt r 1), .string (rStr r 2), .slice a l c, .slice a' l' c'] ∧
    Rep Tryz.prog E (.slice a l c) (.slice 68 (rSl r 3) .open) ∧ Rep Tryz.prog E (.slice a' l' c') (.slice 103 (rSl r 4) .open) := by
  have he' : [V.int .i64 (rInt r 0), .int .i64 (rInt r 1), .str (rStr r 2), .slice 68 (rSl r 3) .open, .slice 103 (rSl r 4) .open] = r := by
    refine Eq.trans ?_ he; kernel_rfl
  generalize rInt r 0 = n0 at *; generalize rInt r 1 = n1 at *; generalize rStr r 2 = s at *; generalize rSl r 3 = l at *; generalize rSl r 4 = f at *
  clear he; subst he'
  obtain ⟨cs, rfl, hl, hx⟩ := rep_agg_list h
  match cs, hl with
  | [c0, c1, c2, c3, c4], _ =>
    have e0 := rep_int_inv (hx 0 _ rfl); have e1 := rep_int_inv (hx 1 _ rfl); have e2 := rep_str_inv (hx 2 _ rfl)
    have h3 := hx 3 _ rfl; have h4 := hx 4 _ rfl
    obtain ⟨a, b, c, e3⟩ := rep_slice_list h3
    obtain ⟨a', b', c', e4⟩ := rep_slice_list h4
    simp at e0 e1 e2 e3 e4 h3 h4
    subst e0; subst e1; subst e2; subst e3; subst e4
    exact ⟨a, b, c, a', b', c', rfl, h3, h4⟩
theorem fld_inv {E : En} {v : Value} {r : Row} (h : Rep Tryz.prog E v (.agg r)) (he : eta Tryz.prog 103 r = r) : ∃ a l c a' l' c', v = .agg #[.string (rStr r 0), .int .i64 (rInt r 1), .int .i64 (rInt r 2), .string (rStr r 3), .slice a l c, .slice a' l' c'] ∧
    eta Tryz.prog 68 (r.drop 1) = r.drop 1 ∧ Rep Tryz.prog E (.agg #[.int .i64 (rInt r 1), .int .i64 (rInt r 2), .string (rStr r 3), .slice a l c, .slice a' l' c']) (.agg (r.drop 1)) := by
  have he' : [V.str (rStr r 0), .int .i64 (rInt r 1), .int .i64 (rInt r 2), .str (rStr r 3), .slice 68 (rSl r 4) .open, .slice 103 (rSl r 5) .open] = r := by
    refine Eq.trans ?_ he; kernel_rfl
  generalize rStr r 0 = q at *; generalize rInt r 1 = n0 at *; generalize rInt r 2 = n1 at *; generalize rStr r 3 = s at *; generalize rSl r 4 = l at *; generalize rSl r 5 = f at *
  clear he; subst he'
  obtain ⟨cs, rfl, hl, hx⟩ := rep_agg_list h
  match cs, hl with
  | [c, c0, c1, c2, c3, c4], _ =>
    have eq := rep_str_inv (hx 0 _ rfl)
    have e0 := rep_int_inv (hx 1 _ rfl); have e1 := rep_int_inv (hx 2 _ rfl); have e2 := rep_str_inv (hx 3 _ rfl)
    have h3 := hx 4 _ rfl; have h4 := hx 5 _ rfl
    obtain ⟨a, b, c, e3⟩ := rep_slice_list h3
    obtain ⟨a', b', c', e4⟩ := rep_slice_list h4
    simp at eq e0 e1 e2 e3 e4 h3 h4
    subst eq; subst e0; subst e1; subst e2; subst e3; subst e4
    refine ⟨a, b, c, a', b', c', rfl, by kernel_rfl, .agg _ _ rfl (fun i x hi => ?_)⟩
    match i, hi with
    | 0, hi => injection hi with hi; subst hi; exact .int _ _
    | 1, hi => injection hi with hi; subst hi; exact .int _ _
    | 2, hi => injection hi with hi; subst hi; exact .str _
    | 3, hi => injection hi with hi; subst hi; exact h3
    | 4, hi => injection hi with hi; subst hi; exact h4
noncomputable def WOk (B b f : Nat) (v : Value) (w : World) (pre out : List UInt8) : Prop := Calls Tryz.prog f #[.pointer (some ⟨b, 0, none⟩), v] w fun e w' => (∃ v, e = .returned v) ∧ BA 97 5 B b w (pre ++ out) w'
noncomputable def WAll (k g : Nat) : Prop := ∀ (r : Row) (out : List UInt8), vtxt k g r = some out → ∀ (B b : Nat) (w : World) (F : Nat → Nat → Prop) (v : Value) (pre : List UInt8), (∀ b o, F b o → b < B) → Rep Tryz.prog (E0 w F) v (.agg r) → eta Tryz.prog 68 r = r →
  Lib.IsBuilderF 97 5 B b (Lib.byteCells pre) w → B ≤ w.heap.size → pre.length + out.length ≤ 140737488355328 → WOk B b 50 v w pre out
theorem fb_w (k : Nat) (x : Bool) (s : ByteArray) (h : (strconv_FormatBool.f k x).eval = some s) (w : World) : Calls Tryz.prog 87 #[.bool x] w fun e w' => e = .returned (.string s) ∧ RowKit.Below w.heap.size w w' :=
  fun_str (args := [.bool x]) (xs := [.bool x]) (ys := [.bool x]) (strconv_FormatBool.ok k) rfl rfl (fun E i y hi => by
    match i, hi with
    | 0, hi => injection hi with hi; subst hi; exact .bool _) (by
    show ((strconv_FormatBool.f k x).eval.bind fun r => some (V.str r)) = _
    rw [h]; rfl) w
theorem it_w (k : Nat) (x : Int) (s : ByteArray) (h : (strconv_Itoa.f k x).eval = some s) (w : World) : Calls Tryz.prog 88 #[.int .i64 x] w fun e w' => e = .returned (.string s) ∧ RowKit.Below w.heap.size w w' :=
  fun_str (args := [.int .i64 x]) (xs := [.int .i64 x]) (ys := [.int .i64 x]) (strconv_Itoa.ok k) rfl rfl (fun E i y hi => by
    match i, hi with
    | 0, hi => injection hi with hi; subst hi; exact .int _ _) (by
    show ((strconv_Itoa.f k x).eval.bind fun r => some (V.str r)) = _
    rw [h]; rfl) w
theorem step (B b : Nat) (w : World) (pre : List UInt8) (hB : B ≤ w.heap.size) (f : Nat) (args : List Value) (out q : List UInt8) (wr : World) (hw : Writes Tryz.prog 97 5 B b f args out) (H : Aside (BA 97 5 B b w (pre ++ q) wr)) (hl : pre.length + (q.length + out.length) ≤ 140737488355328) :
    Calls Tryz.prog f (.pointer (some ⟨b, 0, none⟩) :: args).toArray wr fun e w' => (∃ v, e = .returned v) ∧ BA 97 5 B b w (pre ++ (q ++ out)) w' := by
  have H' : BA 97 5 B b w (pre ++ q) wr := H
  refine (hw wr _ H'.is (H'.size hB) (by rw [List.length_append]; omega)).mono ?_
  rintro e w' ⟨hv, h2⟩
  refine ⟨hv, ?_⟩
  have := H'.trans h2
  rwa [List.append_assoc] at this
set_option maxHeartbeats 4000000 in
theorem write_s (k g : Nat) (ih : WAll k g) : WAll k (g + 1) := by
  intro r out h B b w F v pre hF hv he hb hB hl
  obtain ⟨a, l, c, a', l', c', rfl, hL, hM⟩ := val_inv hv he
  unfold vtxt at h
  unfold WOk
  generalize rInt r 0 = n0 at *
  generalize rInt r 1 = n1 at *
  generalize rStr r 2 = s at *
  have hby := fun c => writes_byte lay_wb lay_bx B b c
  have hst := fun s => writes_string lay_ws lay_bx B b s
  change ∀ c, Writes Tryz.prog 97 5 B b 90 _ _ at hby
  change ∀ s, Writes Tryz.prog 97 5 B b 86 _ _ at hst
  have ST : Aside _ := step B b w pre hB
  have H0 : Aside (BA 97 5 B b w (pre ++ []) (w.alloc (.cells #[.int .i64 n0, .int .i64 n1, .string s, .slice a l c, .slice a' l' c'] 68))) := by
    rw [List.append_nil]; exact (BA.refl hb).alloc hB _
  have hl : pre.length + (([] : List UInt8).length + out.length) ≤ 140737488355328 := by simpa using hl
  clear hv he
  cases c0 : n0 == 0 with
  | true =>
    have h : some [110, 117, 108, 108] = some out := by have : iEq n0 0 = true := c0; rw [this] at h; exact h
    injection h with h; subst h
    go_enter Tryz.func50, Tryz.ntmps50
    go_wp2_with (go_at_call 86; refine (ST.out _ _ _ _ _ (hst ⟨#[110, 117, 108, 108]⟩) H0 hl).mono ?_; rintro e w2 ⟨⟨v2, rfl⟩, h2⟩)
    go_end0
    exact ⟨⟨_, rfl⟩, h2⟩
  | false =>
  cases c1 : n0 == 1 with
  | true =>
    have h : (strconv_FormatBool.f k (iEq n1 1)).eval.map (·.data.toList) = some out := by
      have k0 : iEq n0 0 = false := c0
      have k1 : iEq n0 1 = true := c1
      rw [k0, k1] at h; exact h
    rw [Option.map_eq_some_iff] at h
    obtain ⟨t, ht, rfl⟩ := h
    have hfb := fb_w k (n1 == 1) t ht
    go_enter Tryz.func50, Tryz.ntmps50
    go_wp2_with (first
      | (go_at_call 87; refine (hfb _).mono ?_; rintro e w2 ⟨rfl, h2⟩; have H1 : Aside _ := BA.call H0 hB h2; clear h2)
      | (go_at_call 86; refine (ST.out _ _ _ _ _ (hst t) H1 hl).mono ?_; rintro e w3 ⟨⟨v2, rfl⟩, h2⟩))
    go_end0
    exact ⟨⟨_, rfl⟩, h2⟩
  | false =>
  cases c2 : n0 == 2 with
  | true =>
    have h : (strconv_Itoa.f k n1).eval.map (·.data.toList) = some out := by
      have k0 : iEq n0 0 = false := c0
      have k1 : iEq n0 1 = false := c1
      have k2 : iEq n0 2 = true := c2
      rw [k0, k1, k2] at h; exact h
    rw [Option.map_eq_some_iff] at h
    obtain ⟨t, ht, rfl⟩ := h
    have hfb := it_w k n1 t ht
    go_enter Tryz.func50, Tryz.ntmps50
    go_wp2_with (first
      | (go_at_call 88; refine (hfb _).mono ?_; rintro e w2 ⟨rfl, h2⟩; have H1 : Aside _ := BA.call H0 hB h2; clear h2)
      | (go_at_call 86; refine (ST.out _ _ _ _ _ (hst t) H1 hl).mono ?_; rintro e w3 ⟨⟨v2, rfl⟩, h2⟩))
    go_end0
    exact ⟨⟨_, rfl⟩, h2⟩
  | false =>
  cases c3 : n0 == 3 with
  | true =>
    have h : some (qt s) = some out := by
      have k0 : iEq n0 0 = false := c0
      have k1 : iEq n0 1 = false := c1
      have k2 : iEq n0 2 = false := c2
      have k3 : iEq n0 3 = true := c3
      rw [k0, k1, k2, k3] at h; exact h
    injection h with h; subst h
    have hq := quote_w B b s
    go_enter Tryz.func50, Tryz.ntmps50
    go_wp2_with (go_at_call 89; refine (ST.out _ _ _ _ _ hq H0 hl).mono ?_; rintro e w2 ⟨⟨v2, rfl⟩, h2⟩)
    go_end0
    exact ⟨⟨_, rfl⟩, h2⟩
  | false =>
  have h : (bif iEq n0 4 then (jn (vtxt k g) true (rSl r 3)).map fun x => 91 :: (x ++ [93]) else (jn (fun q => (vtxt k g (q.drop 1)).map fun x => qt (rStr q 0) ++ 58 :: x) true (rSl r 4)).map fun x => 123 :: (x ++ [125])) = some out := by
    have k0 : iEq n0 0 = false := c0
    have k1 : iEq n0 1 = false := c1
    have k2 : iEq n0 2 = false := c2
    have k3 : iEq n0 3 = false := c3
    rw [k0, k1, k2, k3] at h; exact h
  generalize rSl r 3 = es at *
  generalize rSl r 4 = fs at *
  have hbw : b < w.heap.size := by
    rcases hb with ⟨_, v, hb, _⟩ | ⟨_, v, hb, _⟩ <;> exact (Array.getElem?_eq_some_iff.1 hb).1
  have HW : Aside (BA 97 5 B b w pre (w.alloc (.cells #[.int .i64 n0, .int .i64 n1, .string s, .slice a l c, .slice a' l' c'] 68))) := (BA.refl hb).alloc hB _
  have hB1 : B ≤ (w.alloc (.cells #[.int .i64 n0, .int .i64 n1, .string s, .slice a l c, .slice a' l' c'] 68)).heap.size := HW.out.size hB
  obtain ⟨w1, hw1⟩ : ∃ w1, w1 = w.alloc (.cells #[.int .i64 n0, .int .i64 n1, .string s, .slice a l c, .slice a' l' c'] 68) := ⟨_, rfl⟩
  have hbox : w1.heap[w.heap.size]? = some (.cells #[.int .i64 n0, .int .i64 n1, .string s, .slice a l c, .slice a' l' c'] 68 (0, 0)) := by rw [hw1]; exact alloc_new w _
  have ST1 : Aside _ := step B b w1 pre (by rw [hw1]; exact hB1)
  have H1 : Aside (BA 97 5 B b w1 (pre ++ []) w1) := by rw [List.append_nil]; exact BA.refl (by rw [hw1]; exact HW.out.is)
  have HBX : Aside _ := hbox
  have HW1 : Aside _ := hw1
  clear hbox hw1
  cases c4 : n0 == 4 with
  | true =>
    have h : ((jn (vtxt k g) true es).map fun x => 91 :: (x ++ [93])) = some out := by
      have k4 : iEq n0 4 = true := c4
      rw [k4] at h; exact h
    rw [Option.map_eq_some_iff] at h
    obtain ⟨x, hx, rfl⟩ := h
    go_enter Tryz.func50, Tryz.ntmps50
    have hlx : pre.length + x.length + 2 ≤ 140737488355328 := by simp at hl; omega
    have l1 : pre.length + (([] : List UInt8).length + [(91 : UInt8)].length) ≤ 140737488355328 := by simp; omega
    have HB9 := hby 91
    have HB1 : Aside (B ≤ w1.heap.size) := by rw [HW1.out]; exact hB1
    have LEN : Aside (es.length ≤ 140737488355328) := by show _ ≤ _; have := jn_len _ true es x hx; simp at this; omega
    clear hB1
    obtain ⟨rfl, hlc, hat⟩ := sl_at hL
    have HAT : Aside _ := hat
    have HF : Aside _ := hF
    have HM : Aside _ := hM
    clear hat hL hF hM hb
    go_wp2_with (go_at_call 90; rw [← HW1.out]; refine (ST1.out _ _ _ _ _ HB9 H1 l1).mono ?_; rintro e w2 ⟨⟨v2, rfl⟩, h2⟩; have hc3 : w2.cell? ⟨w.heap.size, 3, none⟩ = some (.slice a es.length c) := (cell_box (h2.box HBX.out (by omega) (by decide))).trans rfl; have H2 : Aside (BA 97 5 B b w1 (pre ++ 91 :: []) w2) := h2; clear h2)
    go_wp2
    go_loopg [69] es.length (fun gk vi wr => ∃ (i : Nat) (q : List UInt8), vi = .int .i64 i ∧ i ≤ es.length ∧ es.length - i ≤ gk ∧ Aside (∃ y, jn (vtxt k g) (i == 0) (es.drop i) = some y ∧ q ++ y = x) ∧ Aside (BA 97 5 B b w1 (pre ++ 91 :: q) wr))
    case atStart => exact ⟨0, [], rfl, Nat.zero_le _, Nat.le_refl _, ⟨x, hx, rfl⟩, H2⟩
    case round =>
      clear hc3
      obtain ⟨i, q, rfl, hi, hg, HY, H3⟩ := hrel
      by_cases hlt : i < es.length
      · obtain ⟨A, sz, cs, rfl, hsz, hcl, he2, hR, hcc⟩ := HAT.out i hlt
        have hsz5 : sz = 5 := by
          have : sizeT Tryz.prog 68 = some 5 := by kernel_rfl
          rw [this] at hsz; injection hsz with e; exact e.symm
        subst hsz5
        obtain ⟨ya, yl, yc, ya', yl', yc', ecs, _, _⟩ := val_inv hR he2
        have ecs : cs = [.int .i64 (rInt es[i] 0), .int .i64 (rInt es[i] 1), .string (rStr es[i] 2), .slice ya yl yc, .slice ya' yl' yc'] := by
          injection ecs with e; exact congrArg Array.toList e
        rw [ecs] at hR
        have hAB : A.block < B := HF.out _ _ (hcc 0 _ (by rw [ecs]; rfl)).2
        have hbel : RowKit.Below B w wr := by have h5 := HW.out.below; rw [← HW1.out] at h5; exact h5.trans (BA.below H3)
        have hbw : ∀ n, (A.add n).block < B := fun n => by rw [addr_add_block]; exact hAB
        have f0 : wr.cell? (A.add (i * 5)) = some (.int .i64 (rInt es[i] 0)) := (hbel.cell (hbw _)).trans (hcc 0 _ (by rw [ecs]; rfl)).1
        have f1 : wr.cell? ⟨(A.add (i * 5)).block, (A.add (i * 5)).off + 1, none⟩ = some (.int .i64 (rInt es[i] 1)) := by rw [← add_fld _ _ 1 (by omega)]; exact (hbel.cell (hbw _)).trans (hcc 1 _ (by rw [ecs]; rfl)).1
        have f2 : wr.cell? ⟨(A.add (i * 5)).block, (A.add (i * 5)).off + 2, none⟩ = some (.string (rStr es[i] 2)) := by rw [← add_fld _ _ 2 (by omega)]; exact (hbel.cell (hbw _)).trans (hcc 2 _ (by rw [ecs]; rfl)).1
        have f3 : wr.cell? ⟨(A.add (i * 5)).block, (A.add (i * 5)).off + 3, none⟩ = some (.slice ya yl yc) := by rw [← add_fld _ _ 3 (by omega)]; exact (hbel.cell (hbw _)).trans (hcc 3 _ (by rw [ecs]; rfl)).1
        have f4 : wr.cell? ⟨(A.add (i * 5)).block, (A.add (i * 5)).off + 4, none⟩ = some (.slice ya' yl' yc') := by rw [← add_fld _ _ 4 (by omega)]; exact (hbel.cell (hbw _)).trans (hcc 4 _ (by rw [ecs]; rfl)).1
        clear hcc ecs hcl hsz hbw hbel
        have hz : (i : Int) < (es.length : Int) := by omega
        have hz0 : (0 : Int) ≤ (i : Int) := by omega
        have hlen63 : es.length ≤ 140737488355328 := LEN.out
        have hbr : b < wr.heap.size := BA.lt H3
        obtain ⟨y, hy, hqy⟩ := HY
        rw [jn_drop _ _ _ hlt] at hy
        obtain ⟨xi, hxi, hy⟩ := Option.bind_eq_some_iff.1 hy
        obtain ⟨y', hy', hyy⟩ := Option.map_eq_some_iff.1 hy
        have hxl : q.length + y.length = x.length := by rw [← hqy]; simp
        have hyl : xi.length + y'.length ≤ y.length := by rw [← hyy]; simp <;> omega
        have C50 : Aside (∀ p W', Aside (BA 97 5 B b w1 (pre ++ 91 :: p) W') → p.length + xi.length ≤ x.length → Calls Tryz.prog 50 #[.pointer (some ⟨b, 0, none⟩), .agg #[.int .i64 (rInt es[i] 0), .int .i64 (rInt es[i] 1), .string (rStr es[i] 2), .slice ya yl yc, .slice ya' yl' yc']] W' fun e w' => (∃ v, e = .returned v) ∧ BA 97 5 B b w1 (pre ++ 91 :: (p ++ xi)) w') := fun p W' HP hl' => by
          have HP' : BA 97 5 B b w1 (pre ++ 91 :: p) W' := HP
          have hb1 : RowKit.Below B w W' := by have h5 := HW.out.below; rw [← HW1.out] at h5; exact h5.trans HP'.below
          refine (ih _ _ hxi B b W' F _ (pre ++ 91 :: p) HF.out (rep0_below HF.out hb1 hR) he2 HP'.is (HP'.size HB1.out) (by simp; omega)).mono ?_
          rintro e w' ⟨hv, h2⟩
          exact ⟨hv, by have := HP'.trans h2; simpa using this⟩
        have C90 : Aside (∀ W', Aside (BA 97 5 B b w1 (pre ++ 91 :: q) W') → q.length + 1 ≤ x.length → Calls Tryz.prog 90 #[.pointer (some ⟨b, 0, none⟩), .int .u8 44] W' fun e w' => (∃ v, e = .returned v) ∧ BA 97 5 B b w1 (pre ++ 91 :: (q ++ [44])) w' ∧ BA 97 5 B b W' (pre ++ 91 :: (q ++ [44])) w') := fun W' HP hl' => by
          have HP' : BA 97 5 B b w1 (pre ++ 91 :: q) W' := HP
          refine (hby 44 W' _ HP'.is (HP'.size HB1.out) (by simp; omega)).mono ?_
          rintro e w' ⟨hv, h2⟩
          have h2' : BA 97 5 B b W' (pre ++ 91 :: (q ++ [44])) w' := by simpa using h2
          exact ⟨hv, HP'.trans h2', h2'⟩
        have HQY : Aside (q ++ y = x ∧ (bif i == 0 then [] else [44]) ++ xi ++ y' = y ∧ jn (vtxt k g) false (es.drop (i + 1)) = some y') := ⟨hqy, hyy, hy'⟩
        have HLL : Aside (q.length + y.length = x.length ∧ xi.length + y'.length ≤ y.length) := ⟨hxl, hyl⟩
        clear hy hqy hyy hy' hxi hxl hyl hR
        generalize rInt es[i] 0 = m0 at *
        generalize rInt es[i] 1 = m1 at *
        generalize rStr es[i] 2 = m2 at *
        rcases Nat.eq_zero_or_pos i with h0 | h0
        · have hgt : ¬ ((0 : Int) < (i : Int)) := by omega
          have HI : Aside (i = 0) := h0
          clear h0
          go_wp2_with (go_at_call 50; refine (C50.out q _ (BA.alloc H3 HB1.out _) (by have := HLL.out; omega)).mono ?_; rintro e w3 ⟨⟨v3, rfl⟩, h3⟩; have H4 : Aside _ := h3; clear h3)
          go_roundg (es.length - i - 1)
          case measure => omega
          case rel =>
            obtain ⟨q1, q2, q3⟩ := HQY.out
            refine ⟨i + 1, q ++ xi, by go_num, by omega, by omega, ⟨y', by simpa using q3, ?_⟩, H4⟩
            rw [HI.out] at q2
            rw [← q1, ← q2]; simp
        · have hgt : (0 : Int) < (i : Int) := by omega
          have HI : Aside (0 < i) := h0
          have hcm : 1 + xi.length ≤ y.length := by
            have q2 := HQY.out.2.1
            have h9 : (i == 0) = false := by simp; omega
            rw [h9] at q2
            rw [← q2]; simp; omega
          clear h0
          have L1 : Aside (q.length + 1 ≤ x.length) := by show _ ≤ _; have := HLL.out; omega
          have L2 : Aside ((q ++ [(44 : UInt8)]).length + xi.length ≤ x.length) := by show _ ≤ _; have := HLL.out; simp; omega
          clear hcm
          go_wp2_with (first
            | (go_at_call 90; refine (C90.out _ (BA.alloc H3 HB1.out _) L1).mono ?_; rintro e w3 ⟨⟨v3, rfl⟩, h3, h4⟩; have hbx := BA.box h4 (alloc_new wr _) (by omega) (by decide); have g0 := (cell_box (j := 0) hbx).trans rfl; have g1 := (cell_box (j := 1) hbx).trans rfl; have g2 := (cell_box (j := 2) hbx).trans rfl; have g3 := (cell_box (j := 3) hbx).trans rfl; have g4 := (cell_box (j := 4) hbx).trans rfl; simp only [List.getElem?_toArray, List.getElem?_cons_zero, List.getElem?_cons_succ] at g0 g1 g2 g3 g4; have H4 : Aside _ := h3; clear h3 h4 hbx)
            | (go_at_call 50; refine (C50.out (q ++ [44]) _ H4 L2).mono ?_; rintro e w4 ⟨⟨v4, rfl⟩, h3⟩; have H5 : Aside _ := h3; clear h3))
          go_roundg (es.length - i - 1)
          case measure => omega
          case rel =>
            obtain ⟨q1, q2, q3⟩ := HQY.out
            refine ⟨i + 1, q ++ [44] ++ xi, by go_num, by omega, by omega, ⟨y', by simpa using q3, ?_⟩, H5⟩
            have h9 : (i == 0) = false := by have := HI.out; simp; omega
            rw [h9] at q2
            rw [← q1, ← q2]; simp
      · have hz : ¬ ((i : Int) < (es.length : Int)) := by omega
        have hi' : i = es.length := by omega
        have hq : q = x := by
          obtain ⟨y, hy, hqy⟩ := HY
          rw [List.drop_eq_nil_of_le (by omega)] at hy
          have hy : some ([] : List UInt8) = some y := hy
          injection hy with hy; subst hy
          simpa using hqy
        have HO : Aside (pre.length + ((91 :: q).length + [(93 : UInt8)].length) ≤ 140737488355328) := by show _ ≤ _; rw [hq]; simp; omega
        have HB93 := hby 93
        go_wp2_with (go_at_call 90; refine (ST1.out _ _ _ _ _ HB93 H3 HO).mono ?_; rintro e w3 ⟨⟨v3, rfl⟩, h3⟩; have H4 : Aside _ := h3; clear h3)
        go_end0
        refine ⟨⟨_, rfl⟩, ?_⟩
        rw [← hq]
        have h5 := HW.out; rw [← HW1.out] at h5
        exact h5.trans H4
  | false =>
    have h : ((jn (fun q => (vtxt k g (q.drop 1)).map fun x => qt (rStr q 0) ++ 58 :: x) true fs).map fun x => 123 :: (x ++ [125])) = some out := by
      have k4 : iEq n0 4 = false := c4
      rw [k4] at h; exact h
    rw [Option.map_eq_some_iff] at h
    obtain ⟨x, hx, rfl⟩ := h
    go_enter Tryz.func50, Tryz.ntmps50
    have hlx : pre.length + x.length + 2 ≤ 140737488355328 := by simp at hl; omega
    have l1 : pre.length + (([] : List UInt8).length + [(123 : UInt8)].length) ≤ 140737488355328 := by simp; omega
    have HB9 := hby 123
    have HB1 : Aside (B ≤ w1.heap.size) := by rw [HW1.out]; exact hB1
    have LEN : Aside (fs.length ≤ 140737488355328) := by show _ ≤ _; have := jn_len _ true fs x hx; simp at this; omega
    clear hB1
    obtain ⟨rfl, hlc, hat⟩ := sl_at hM
    have HAT : Aside _ := hat
    have HF : Aside _ := hF
    clear hat hL hF hM hb
    go_wp2_with (go_at_call 90; rw [← HW1.out]; refine (ST1.out _ _ _ _ _ HB9 H1 l1).mono ?_; rintro e w2 ⟨⟨v2, rfl⟩, h2⟩; have hc3 : w2.cell? ⟨w.heap.size, 4, none⟩ = some (.slice a' fs.length c') := (cell_box (h2.box HBX.out (by omega) (by decide))).trans rfl; have H2 : Aside (BA 97 5 B b w1 (pre ++ 123 :: []) w2) := h2; clear h2)
    go_wp2
    go_loopg [15] fs.length (fun gk vi wr => ∃ (i : Nat) (q : List UInt8), vi = .int .i64 i ∧ i ≤ fs.length ∧ fs.length - i ≤ gk ∧ Aside (∃ y, jn (fun q => (vtxt k g (q.drop 1)).map fun x => qt (rStr q 0) ++ 58 :: x) (i == 0) (fs.drop i) = some y ∧ q ++ y = x) ∧ Aside (BA 97 5 B b w1 (pre ++ 123 :: q) wr))
    case atStart => exact ⟨0, [], rfl, Nat.zero_le _, Nat.le_refl _, ⟨x, hx, rfl⟩, H2⟩
    case round =>
      clear hc3
      obtain ⟨i, q, rfl, hi, hg, HY, H3⟩ := hrel
      by_cases hlt : i < fs.length
      · obtain ⟨A, sz, cs, rfl, hsz, hcl, he2, hR, hcc⟩ := HAT.out i hlt
        have hsz6 : sz = 6 := by
          have : sizeT Tryz.prog 103 = some 6 := by kernel_rfl
          rw [this] at hsz; injection hsz with e; exact e.symm
        subst hsz6
        obtain ⟨ya, yl, yc, ya', yl', yc', ecs, he3, hR3⟩ := fld_inv hR he2
        have ecs : cs = [.string (rStr fs[i] 0), .int .i64 (rInt fs[i] 1), .int .i64 (rInt fs[i] 2), .string (rStr fs[i] 3), .slice ya yl yc, .slice ya' yl' yc'] := by
          injection ecs with e; exact congrArg Array.toList e
        have hAB : A.block < B := HF.out _ _ (hcc 0 _ (by rw [ecs]; rfl)).2
        have hbel : RowKit.Below B w wr := by have h5 := HW.out.below; rw [← HW1.out] at h5; exact h5.trans (BA.below H3)
        have hbw : ∀ n, (A.add n).block < B := fun n => by rw [addr_add_block]; exact hAB
        have f0 : wr.cell? (A.add (i * 6)) = some (.string (rStr fs[i] 0)) := (hbel.cell (hbw _)).trans (hcc 0 _ (by rw [ecs]; rfl)).1
        have f1 : wr.cell? ⟨(A.add (i * 6)).block, (A.add (i * 6)).off + 1, none⟩ = some (.int .i64 (rInt fs[i] 1)) := by rw [← add_fld _ _ 1 (by omega)]; exact (hbel.cell (hbw _)).trans (hcc 1 _ (by rw [ecs]; rfl)).1
        have f2 : wr.cell? ⟨(A.add (i * 6)).block, (A.add (i * 6)).off + 2, none⟩ = some (.int .i64 (rInt fs[i] 2)) := by rw [← add_fld _ _ 2 (by omega)]; exact (hbel.cell (hbw _)).trans (hcc 2 _ (by rw [ecs]; rfl)).1
        have f3 : wr.cell? ⟨(A.add (i * 6)).block, (A.add (i * 6)).off + 3, none⟩ = some (.string (rStr fs[i] 3)) := by rw [← add_fld _ _ 3 (by omega)]; exact (hbel.cell (hbw _)).trans (hcc 3 _ (by rw [ecs]; rfl)).1
        have f4 : wr.cell? ⟨(A.add (i * 6)).block, (A.add (i * 6)).off + 4, none⟩ = some (.slice ya yl yc) := by rw [← add_fld _ _ 4 (by omega)]; exact (hbel.cell (hbw _)).trans (hcc 4 _ (by rw [ecs]; rfl)).1
        have f5 : wr.cell? ⟨(A.add (i * 6)).block, (A.add (i * 6)).off + 5, none⟩ = some (.slice ya' yl' yc') := by rw [← add_fld _ _ 5 (by omega)]; exact (hbel.cell (hbw _)).trans (hcc 5 _ (by rw [ecs]; rfl)).1
        clear hcc ecs hcl hsz hbw hbel hR
        have hz : (i : Int) < (fs.length : Int) := by omega
        have hz0 : (0 : Int) ≤ (i : Int) := by omega
        have hlen63 : fs.length ≤ 140737488355328 := LEN.out
        have hbr : b < wr.heap.size := BA.lt H3
        obtain ⟨y, hy, hqy⟩ := HY
        rw [jn_drop _ _ _ hlt] at hy
        obtain ⟨xi, hxi, hy⟩ := Option.bind_eq_some_iff.1 hy
        obtain ⟨y', hy', hyy⟩ := Option.map_eq_some_iff.1 hy
        obtain ⟨xv, hxv, hxi⟩ := Option.map_eq_some_iff.1 hxi
        have hxl : q.length + y.length = x.length := by rw [← hqy]; simp
        have hyl : xi.length + y'.length ≤ y.length := by rw [← hyy]; simp <;> omega
        have hvl : (qt (rStr fs[i] 0)).length + 1 + xv.length = xi.length := by rw [← hxi]; simp; omega
        have C50 : Aside (∀ p W', Aside (BA 97 5 B b w1 (pre ++ 123 :: p) W') → p.length + xv.length ≤ x.length → Calls Tryz.prog 50 #[.pointer (some ⟨b, 0, none⟩), .agg #[.int .i64 (rInt fs[i] 1), .int .i64 (rInt fs[i] 2), .string (rStr fs[i] 3), .slice ya yl yc, .slice ya' yl' yc']] W' fun e w' => (∃ v, e = .returned v) ∧ BA 97 5 B b w1 (pre ++ 123 :: (p ++ xv)) w') := fun p W' HP hl' => by
          have HP' : BA 97 5 B b w1 (pre ++ 123 :: p) W' := HP
          have hb1 : RowKit.Below B w W' := by have h5 := HW.out.below; rw [← HW1.out] at h5; exact h5.trans HP'.below
          refine (ih _ _ hxv B b W' F _ (pre ++ 123 :: p) HF.out (rep0_below HF.out hb1 hR3) he3 HP'.is (HP'.size HB1.out) (by simp; omega)).mono ?_
          rintro e w' ⟨hv, h2⟩
          exact ⟨hv, by have := HP'.trans h2; simpa using this⟩
        have CW : Aside (∀ f args out p W', Aside (Writes Tryz.prog 97 5 B b f args out) → Aside (BA 97 5 B b w1 (pre ++ 123 :: p) W') → Aside (p.length + out.length ≤ x.length) → Calls Tryz.prog f (.pointer (some ⟨b, 0, none⟩) :: args).toArray W' fun e w' => (∃ v, e = .returned v) ∧ BA 97 5 B b w1 (pre ++ 123 :: (p ++ out)) w' ∧ BA 97 5 B b W' (pre ++ 123 :: (p ++ out)) w') := fun f args out p W' HB HP hl' => by
          have HP' : BA 97 5 B b w1 (pre ++ 123 :: p) W' := HP
          have hl' : p.length + out.length ≤ x.length := hl'
          have HB' : Writes Tryz.prog 97 5 B b f args out := HB
          refine (HB' W' _ HP'.is (HP'.size HB1.out) (by simp; omega)).mono ?_
          rintro e w' ⟨hv, h2⟩
          have h2' : BA 97 5 B b W' (pre ++ 123 :: (p ++ out)) w' := by simpa using h2
          exact ⟨hv, HP'.trans h2', h2'⟩
        have W44 : Aside (Writes Tryz.prog 97 5 B b 90 [.int .u8 44] [44]) := hby 44
        have W58 : Aside (Writes Tryz.prog 97 5 B b 90 [.int .u8 58] [58]) := hby 58
        have WQ : Aside (Writes Tryz.prog 97 5 B b 89 [.string (rStr fs[i] 0)] (qt (rStr fs[i] 0))) := quote_w B b _
        have HQY : Aside (q ++ y = x ∧ (bif i == 0 then [] else [44]) ++ xi ++ y' = y ∧ jn (fun q => (vtxt k g (q.drop 1)).map fun x => qt (rStr q 0) ++ 58 :: x) false (fs.drop (i + 1)) = some y' ∧ qt (rStr fs[i] 0) ++ 58 :: xv = xi) := ⟨hqy, hyy, hy', hxi⟩
        have HLL : Aside (q.length + y.length = x.length ∧ xi.length + y'.length ≤ y.length ∧ (qt (rStr fs[i] 0)).length + 1 + xv.length = xi.length) := ⟨hxl, hyl, hvl⟩
        clear hy hqy hyy hy' hxi hxl hyl hR3 hvl hxv he3 he2
        generalize rInt fs[i] 1 = m0 at *
        generalize rInt fs[i] 2 = m1 at *
        generalize rStr fs[i] 3 = m2 at *
        generalize rStr fs[i] 0 = nm at *
        rcases Nat.eq_zero_or_pos i with h0 | h0
        · have hgt : ¬ ((0 : Int) < (i : Int)) := by omega
          have HI : Aside (i = 0) := h0
          clear h0
          have L1 : Aside (q.length + (qt nm).length ≤ x.length) := by show _ ≤ _; have := HLL.out; omega
          have L2 : Aside ((q ++ qt nm).length + [(58 : UInt8)].length ≤ x.length) := by show _ ≤ _; have := HLL.out; simp; omega
          have L3 : (q ++ qt nm ++ [(58 : UInt8)]).length + xv.length ≤ x.length := by have := HLL.out; simp; omega
          have L3 : Aside _ := L3
          go_wp2_with (first
            | (go_at_call 89; refine (CW.out _ _ _ _ _ WQ (BA.alloc H3 HB1.out _) L1).mono ?_; rintro e w3 ⟨⟨v3, rfl⟩, h3, h4⟩; have hbx := BA.box h4 (alloc_new wr _) (by omega) (by decide); have HB3 : Aside _ := hbx; have H4 : Aside _ := h3; clear h3 h4 hbx)
            | (go_at_call 90; refine (CW.out _ _ _ _ _ W58 H4 L2).mono ?_; rintro e w4 ⟨⟨v4, rfl⟩, h3, h4⟩; have hbx := BA.box h4 HB3.out (by omega) (by decide); have g1 := (cell_box (j := 1) hbx).trans rfl; have g2 := (cell_box (j := 2) hbx).trans rfl; have g3 := (cell_box (j := 3) hbx).trans rfl; have g4 := (cell_box (j := 4) hbx).trans rfl; have g5 := (cell_box (j := 5) hbx).trans rfl; simp only [List.getElem?_toArray, List.getElem?_cons_zero, List.getElem?_cons_succ] at g1 g2 g3 g4 g5; have H5 : Aside _ := h3; clear h3 h4 hbx)
            | (go_at_call 50; refine (C50.out _ _ H5 L3.out).mono ?_; rintro e w5 ⟨⟨v5, rfl⟩, h3⟩; have H6 : Aside _ := h3; clear h3))
          go_roundg (fs.length - i - 1)
          case measure => omega
          case rel =>
            obtain ⟨q1, q2, q3, q4⟩ := HQY.out
            refine ⟨i + 1, q ++ qt nm ++ [58] ++ xv, by go_num, by omega, by omega, ⟨y', by simpa using q3, ?_⟩, H6⟩
            rw [HI.out] at q2
            rw [← q1, ← q2, ← q4]; simp
        · have hgt : (0 : Int) < (i : Int) := by omega
          have HI : Aside (0 < i) := h0
          have hcm : 1 + xi.length ≤ y.length := by
            have q2 := HQY.out.2.1
            have h9 : (i == 0) = false := by simp; omega
            rw [h9] at q2
            rw [← q2]; simp; omega
          clear h0
          have L0 : Aside (q.length + [(44 : UInt8)].length ≤ x.length) := by show _ ≤ _; have := HLL.out; simp; omega
          have L1 : Aside ((q ++ [(44 : UInt8)]).length + (qt nm).length ≤ x.length) := by show _ ≤ _; have := HLL.out; simp; omega
          have L2 : Aside ((q ++ [(44 : UInt8)] ++ qt nm).length + [(58 : UInt8)].length ≤ x.length) := by show _ ≤ _; have := HLL.out; simp; omega
          have L3 : Aside ((q ++ [(44 : UInt8)] ++ qt nm ++ [(58 : UInt8)]).length + xv.length ≤ x.length) := by show _ ≤ _; have := HLL.out; simp; omega
          clear hcm
          go_wp2_with (first
            | (go_at_call 90; refine (CW.out _ _ _ _ _ W44 (BA.alloc H3 HB1.out _) L0).mono ?_; clear W44; rintro e w3 ⟨⟨v3, rfl⟩, h3, h4⟩; have hbx := BA.box h4 (alloc_new wr _) (by omega) (by decide); have g0 := (cell_box (j := 0) hbx).trans rfl; simp only [List.getElem?_toArray, List.getElem?_cons_zero] at g0; have HB3 : Aside _ := hbx; have H4 : Aside _ := h3; clear h3 h4 hbx)
            | (go_at_call 89; refine (CW.out _ _ _ _ _ WQ H4 L1).mono ?_; rintro e w4 ⟨⟨v4, rfl⟩, h3, h4⟩; have hbx := BA.box h4 HB3.out (by omega) (by decide); have HB4 : Aside _ := hbx; have H5 : Aside _ := h3; clear h3 h4 hbx)
            | (go_at_call 90; refine (CW.out _ _ _ _ _ W58 H5 L2).mono ?_; rintro e w5 ⟨⟨v5, rfl⟩, h3, h4⟩; have hbx := BA.box h4 HB4.out (by omega) (by decide); have g1 := (cell_box (j := 1) hbx).trans rfl; have g2 := (cell_box (j := 2) hbx).trans rfl; have g3 := (cell_box (j := 3) hbx).trans rfl; have g4 := (cell_box (j := 4) hbx).trans rfl; have g5 := (cell_box (j := 5) hbx).trans rfl; simp only [List.getElem?_toArray, List.getElem?_cons_zero, List.getElem?_cons_succ] at g1 g2 g3 g4 g5; have H6 : Aside _ := h3; clear h3 h4 hbx)
            | (go_at_call 50; refine (C50.out _ _ H6 L3.out).mono ?_; rintro e w6 ⟨⟨v6, rfl⟩, h3⟩; have H7 : Aside _ := h3; clear h3))
          go_roundg (fs.length - i - 1)
          case measure => omega
          case rel =>
            obtain ⟨q1, q2, q3, q4⟩ := HQY.out
            refine ⟨i + 1, q ++ [44] ++ qt nm ++ [58] ++ xv, by go_num, by omega, by omega, ⟨y', by simpa using q3, ?_⟩, H7⟩
            have h9 : (i == 0) = false := by have := HI.out; simp; omega
            rw [h9] at q2
            rw [← q1, ← q2, ← q4]; simp
      · have hz : ¬ ((i : Int) < (fs.length : Int)) := by omega
        have hi' : i = fs.length := by omega
        have hq : q = x := by
          obtain ⟨y, hy, hqy⟩ := HY
          rw [List.drop_eq_nil_of_le (by omega)] at hy
          have hy : some ([] : List UInt8) = some y := hy
          injection hy with hy; subst hy
          simpa using hqy
        have HO : Aside (pre.length + ((123 :: q).length + [(125 : UInt8)].length) ≤ 140737488355328) := by show _ ≤ _; rw [hq]; simp; omega
        have HB93 := hby 125
        go_wp2_with (go_at_call 90; refine (ST1.out _ _ _ _ _ HB93 H3 HO).mono ?_; rintro e w3 ⟨⟨v3, rfl⟩, h3⟩; have H4 : Aside _ := h3; clear h3)
        go_end0
        refine ⟨⟨_, rfl⟩, ?_⟩
        rw [← hq]
        have h5 := HW.out; rw [← HW1.out] at h5
        exact h5.trans H4
theorem write_all (k : Nat) : ∀ g, WAll k g
  | 0 => fun r out h => by cases h
  | g + 1 => write_s k g (write_all k g)
theorem print_c (k : Nat) (r : Row) (he : eta Tryz.prog 68 r = r) (q : ByteArray × Int) (hq : (f k r).eval = some q) (w : World) (Fz : Nat → Nat → Prop) (hF : ∀ b o, Fz b o → b < w.heap.size) (v : Value) (hv : Rep Tryz.prog (E0 w Fz) v (.agg r)) (hn : normA Tryz.prog 68 (.agg r) = some (.agg r)) :
    Calls Tryz.prog 34 #[v] w fun e w' => e = .returned (.tuple #[.string q.1, .int .i64 q.2]) ∧ RowKit.Below w.heap.size w w' := by
  have hq' : ((value_Valid.f k r).eval.bind fun b => (T.test b (.bnd (vtxt k k r) [] fun x => .test (decide (x.length ≤ 140737488355328)) (.test (decide (20000 < x.length)) (.ret (⟨#[]⟩, 4)) (.ret (⟨x.toArray⟩, 0))) (.fail)) (.ret (⟨#[]⟩, 1)) : T (ByteArray × Int)).eval) = some q := hq
  obtain ⟨bb, hbb, hq'⟩ := Option.bind_eq_some_iff.1 hq'
  clear hq
  have VAL : Aside (∀ W, RowKit.Below w.heap.size w W → Calls Tryz.prog 49 #[v] W fun e w' => e = .returned (.bool bb) ∧ RowKit.Below W.heap.size W w') := fun W hW => by
    refine ((value_Valid.ok k).2 W Fz (fun b o h => Nat.lt_of_lt_of_le (hF b o h) hW.size) #[v] [.agg r] [.agg r] (.bool bb) rfl (by show (normA Tryz.prog 68 (.agg r)).bind _ = _; rw [hn]; rfl) (fun i x hi => by
      match i, hi with
      | 0, hi => injection hi with hi; subst hi; exact rep0_below hF hW hv) (by
      show ((value_Valid.f k r).eval.bind fun r => some (V.bool r)) = _
      rw [hbb]; rfl)).mono ?_
    rintro e w' ⟨u, F', rfl, hb, _, _, _, hu⟩
    exact ⟨by rw [rep_bool_inv hu], hb⟩
  have WR : Aside (∀ x, vtxt k k r = some x → x.length ≤ 140737488355328 → ∀ b W, RowKit.Below w.heap.size w W → Lib.IsBuilderF 97 5 w.heap.size b [] W → Calls Tryz.prog 50 #[.pointer (some ⟨b, 0, none⟩), v] W fun e w' => (∃ v, e = .returned v) ∧ BA 97 5 w.heap.size b W x w') := fun x hx hlen b W hW hb => by
    have h := write_all k k r x hx w.heap.size b W Fz v [] hF (rep0_below hF hW hv) he hb hW.size (by simpa using hlen)
    exact h
  obtain ⟨a, l, c, a', l', c', rfl, _, _⟩ := val_inv hv he
  clear hv
  generalize rInt r 0 = n0 at *
  generalize rInt r 1 = n1 at *
  generalize rStr r 2 = s at *
  have LEN : Aside (∀ b bs W, Lib.IsBuilderF 97 5 w.heap.size b bs W → Calls Tryz.prog 51 #[.pointer (some ⟨b, 0, none⟩)] W fun e w' => e = .returned (.int .i64 bs.length) ∧ w' = W) := fun b bs W h => Any.Builder_Len_f lay_len w.heap.size b bs W h
  have STR : Aside (∀ b l W, Lib.IsBuilderF 97 5 w.heap.size b (Lib.byteCells l) W → w.heap.size ≤ W.heap.size → Calls Tryz.prog 52 #[.pointer (some ⟨b, 0, none⟩)] W fun e w' => e = .returned (.string ⟨l.toArray⟩) ∧ RowKit.Below w.heap.size W w') := fun b l W h hs => by
    refine (Any.Builder_String_any_f lay_st lay_bx w.heap.size b l W h hs).mono ?_
    rintro e w' ⟨he, _, hb⟩
    exact ⟨he, hb⟩
  cases hb0 : bb with
  | false =>
    rw [hb0] at hq' VAL
    have hq' : some ((⟨#[]⟩ : ByteArray), (1 : Int)) = some q := hq'
    injection hq' with hq'; subst hq'
    go_enter Tryz.func34, Tryz.ntmps34
    go_wp2_with (go_at_call 49; refine (VAL.out _ ((RowKit.Below.refl _ _).alloc (Nat.le_refl _) _)).mono ?_; rintro e w2 ⟨rfl, h2⟩)
    go_ret2
    exact ⟨rfl, ((RowKit.Below.refl _ _).alloc (Nat.le_refl _) _).trans (h2.mono (by simp))⟩
  | true =>
    rw [hb0] at hq' VAL
    obtain ⟨x, hx, hq'⟩ := Option.bind_eq_some_iff.1 (show (vtxt k k r).bind (fun x => (T.test (decide (x.length ≤ 140737488355328)) (.test (decide (20000 < x.length)) (.ret (⟨#[]⟩, 4)) (.ret (⟨x.toArray⟩, 0))) (.fail) : T (ByteArray × Int)).eval) = some q from hq')
    obtain ⟨hlen, hq'⟩ := T.test_eval hq'
    have hlen := of_decide_eq_true hlen
    have WRX : Aside _ := WR.out x hx hlen
    have hbox : ∀ W, RowKit.Below (w.heap.size + 1) (w.alloc (.cells #[.int .i64 n0, .int .i64 n1, .string s, .slice a l c, .slice a' l' c'] 68)) W → W.heap[w.heap.size]? = some (.cells #[.int .i64 n0, .int .i64 n1, .string s, .slice a l c, .slice a' l' c'] 68 (0, 0)) := fun W h => (h.block _ (by omega)).trans (alloc_new w _)
    have HBX : Aside _ := hbox
    have NEW : Aside (∀ (W : World), w.heap.size ≤ W.heap.size → Lib.IsBuilderF 97 5 w.heap.size W.heap.size [] (W.alloc (.cells #[.pointer none, .slice none 0 0] 97))) := fun W hW => .inl ⟨hW, .slice none 0 0, alloc_new W _, ⟨rfl, .inl ⟨rfl, rfl⟩⟩, by simp [Value.ownBlock]⟩
    have hxl63 : x.length ≤ 140737488355328 := hlen
    clear WR hbox hlen hx
    cases hL : decide (20000 < x.length) with
    | true =>
      rw [hL] at hq'
      have hq' : some ((⟨#[]⟩ : ByteArray), (4 : Int)) = some q := hq'
      injection hq' with hq'; subst hq'
      have hgt : (20000 : Int) < (x.length : Int) := by have := of_decide_eq_true hL; omega
      go_enter Tryz.func34, Tryz.ntmps34
      go_wp2_with (first
        | (go_at_call 49; refine (VAL.out _ ((RowKit.Below.refl _ _).alloc (Nat.le_refl _) _)).mono ?_; rintro e w2 ⟨rfl, h2⟩; have hs2 : w.heap.size < w2.heap.size := by have := h2.size; simp at this; omega
           have hbx := (Lib.alloc_old w2 (.cells #[.pointer none, .slice none 0 0] 97) w.heap.size hs2).trans (HBX.out _ (h2.mono (by simp))); have g0 := (cell_box (j := 0) hbx).trans rfl; have g1 := (cell_box (j := 1) hbx).trans rfl; have g2 := (cell_box (j := 2) hbx).trans rfl; have g3 := (cell_box (j := 3) hbx).trans rfl; have g4 := (cell_box (j := 4) hbx).trans rfl; simp only [List.getElem?_toArray, List.getElem?_cons_zero, List.getElem?_cons_succ] at g0 g1 g2 g3 g4; have HA2 : Aside (RowKit.Below w.heap.size w w2) := ((RowKit.Below.refl _ _).alloc (Nat.le_refl _) _).trans (h2.mono (by simp)); clear h2 hbx)
        | (go_at_call 50; refine (WRX.out _ _ (RowKit.Below.alloc HA2.out (by omega) _) (NEW.out w2 (by omega))).mono ?_; rintro e w3 ⟨⟨v3, rfl⟩, h3⟩; have HA3 : Aside (RowKit.Below w.heap.size w w3) := (RowKit.Below.alloc HA2.out (by omega) _).trans h3.below; have HI3 : Aside _ := h3.is; clear h3)
        | (go_at_call 51; refine (LEN.out _ _ _ HI3.out).mono ?_; rintro e w4 ⟨rfl, rfl⟩; rw [Lib.byteCells_length])
        | (go_at_call 52; refine (STR.out _ _ _ HI3.out HA3.out.size).mono ?_; rintro e w5 ⟨rfl, h5⟩; have HA5 : Aside (RowKit.Below w.heap.size w w5) := HA3.out.trans h5; clear h5))
      go_ret2
      exact ⟨rfl, HA3.out⟩
    | false =>
      rw [hL] at hq'
      have hq' : some ((⟨x.toArray⟩ : ByteArray), (0 : Int)) = some q := hq'
      injection hq' with hq'; subst hq'
      have hgt : ¬ ((20000 : Int) < (x.length : Int)) := by have := of_decide_eq_false hL; omega
      go_enter Tryz.func34, Tryz.ntmps34
      go_wp2_with (first
        | (go_at_call 49; refine (VAL.out _ ((RowKit.Below.refl _ _).alloc (Nat.le_refl _) _)).mono ?_; rintro e w2 ⟨rfl, h2⟩; have hs2 : w.heap.size < w2.heap.size := by have := h2.size; simp at this; omega
           have hbx := (Lib.alloc_old w2 (.cells #[.pointer none, .slice none 0 0] 97) w.heap.size hs2).trans (HBX.out _ (h2.mono (by simp))); have g0 := (cell_box (j := 0) hbx).trans rfl; have g1 := (cell_box (j := 1) hbx).trans rfl; have g2 := (cell_box (j := 2) hbx).trans rfl; have g3 := (cell_box (j := 3) hbx).trans rfl; have g4 := (cell_box (j := 4) hbx).trans rfl; simp only [List.getElem?_toArray, List.getElem?_cons_zero, List.getElem?_cons_succ] at g0 g1 g2 g3 g4; have HA2 : Aside (RowKit.Below w.heap.size w w2) := ((RowKit.Below.refl _ _).alloc (Nat.le_refl _) _).trans (h2.mono (by simp)); clear h2 hbx)
        | (go_at_call 50; refine (WRX.out _ _ (RowKit.Below.alloc HA2.out (by omega) _) (NEW.out w2 (by omega))).mono ?_; rintro e w3 ⟨⟨v3, rfl⟩, h3⟩; have HA3 : Aside (RowKit.Below w.heap.size w w3) := (RowKit.Below.alloc HA2.out (by omega) _).trans h3.below; have HI3 : Aside _ := h3.is; clear h3)
        | (go_at_call 51; refine (LEN.out _ _ _ HI3.out).mono ?_; rintro e w4 ⟨rfl, rfl⟩; rw [Lib.byteCells_length])
        | (go_at_call 52; refine (STR.out _ _ _ HI3.out HA3.out.size).mono ?_; rintro e w5 ⟨rfl, h5⟩; have HA5 : Aside (RowKit.Below w.heap.size w w5) := HA3.out.trans h5; clear h5))
      go_ret2
      exact ⟨rfl, HA5.out⟩
theorem norm_row (n0 n1 : Int) (s : ByteArray) (l f : Rows) : normA Tryz.prog 68 (.agg [.int .i64 n0, .int .i64 n1, .str s, .slice 68 l .open, .slice 103 f .open]) = some (.agg [.int .i64 n0, .int .i64 n1, .str s, .slice 68 l .open, .slice 103 f .open]) := by kernel_rfl
/-- json.Print. -/
theorem ok (k : Nat) : FunOk Tryz.prog 34 (d k) := by
  refine ⟨⟨_, Tryz.func34, by kernel_rfl, by kernel_rfl⟩, fun w Fz hF args xs ys r hsz hn hrep hr => ?_⟩
  obtain ⟨h1, h2⟩ := normAs_get hn
  match ys, h1 with
  | [y], _ =>
    obtain ⟨x, hx⟩ := h2 0 (.t 68) y rfl rfl
    have hu : Tryz.prog.underlying 68 = some (.struct ((match Tryz.prog.underlying 68 with | some (.struct fs) => fs | _ => #[]))) := by kernel_rfl
    have hx' : normA Tryz.prog 68 x = some y := hx
    unfold normA at hx'
    rw [hu] at hx'
    simp only [] at hx'
    split at hx'
    · rename_i cs
      rw [Option.map_eq_some_iff] at hx'
      obtain ⟨r0, hr0, rfl⟩ := hx'
      have he := (normL_eta hr0).1
      have hn1 : normA Tryz.prog 68 (.agg r0) = some (.agg r0) := by
        have he' : [V.int .i64 (rInt r0 0), .int .i64 (rInt r0 1), .str (rStr r0 2), .slice 68 (rSl r0 3) .open, .slice 103 (rSl r0 4) .open] = r0 := by
          refine Eq.trans ?_ he; kernel_rfl
        have := norm_row (rInt r0 0) (rInt r0 1) (rStr r0 2) (rSl r0 3) (rSl r0 4)
        rw [he'] at this
        exact this
      have hr' : ((f k r0).eval.bind fun q => some (V.tuple [.str q.1, .int .i64 q.2])) = some r := hr
      obtain ⟨q, hq, hqr⟩ := Option.bind_eq_some_iff.1 hr'
      injection hqr with hqr
      match args, hsz with
      | ⟨[v]⟩, _ =>
        refine (print_c k r0 he q hq w Fz hF v (hrep 0 _ rfl) hn1).mono ?_
        rintro e w' ⟨rfl, hb⟩
        refine ⟨_, Fz, rfl, hb, fun _ _ h => h, fun _ _ h => .inl h, fun b o h => Nat.lt_of_lt_of_le (hF b o h) hb.size, ?_⟩
        rw [← hqr]
        refine .tuple _ _ rfl (fun i x hi => ?_)
        match i, hi with
        | 0, hi => injection hi with hi; subst hi; exact .str _
        | 1, hi => injection hi with hi; subst hi; exact .int _ _
    · cases hx'
end json_Print
namespace pod_Hash
noncomputable def C (k : Nat) : Cx := ⟨Tryz.prog, tab [(35, podcodec_FromTemplate.d k), (34, json_Print.d k)], [28], [(14, 28)], tab []⟩
noncomputable def t4 : LoopT := ⟨⟨48, [], [(3, .str), (5, .int .u32), (16, .int .i64), (17, .int .i64)], [], [], []⟩, (fun | .exit 0 => some ⟨48, [], [(5, .int .u32)], [], [], []⟩ | _ => none)⟩
noncomputable def s4 (k : Nat) (c0 : ByteArray) (c1 : Int) (x : (Int × Int)) : T ((Int × Int) ⊕ Int) :=
  .test (iLt x.2 c1)
   (.test (iIn x.2 (sLen c0))
    (.ret (.inl ((iMul .u32 (iXor .u32 x.1 (iCv .u32 (sAt c0 x.2))) (16777619)), (iAdd .i64 x.2 (1)))))
    (.fail))
   (.ret (.inr x.1))
noncomputable def a4 (c0 : ByteArray) (c1 : Int) (x : (Int × Int)) : Dt := ⟨[.s c0, .i x.1, .i c1, .i x.2], [], [], []⟩
noncomputable def o4_0 (c0 : ByteArray) (c1 : Int) (r : Int) : X × Dt := (.exit 0, ⟨[.i r], [], [], []⟩)
noncomputable def e4 (k : Nat) (d : Dt) : T (X × Dt) := out1 (iter (s4 k (aS (aN d.a 0)) (aI (aN d.a 2))) k ((aI (aN d.a 1)), (aI (aN d.a 3)))) default (o4_0 (aS (aN d.a 0)) (aI (aN d.a 2)))
noncomputable def t10 : LoopT := ⟨⟨48, [], [(5, .int .u32), (7, .aref 5 28), (30, .int .i64), (31, .int .i64)], [], [], [(28, 5)]⟩, (fun | .exit 2 => some ⟨48, [], [(7, .aref 5 28)], [], [], [(28, 5)]⟩ | _ => none)⟩
noncomputable def s10 (k : Nat) (c0 : Int) (c1 : Int) (c2 : Int) (x : (Int × Rows)) : T ((Int × Rows) ⊕ Rows) :=
  .test (iLt x.1 c2)
   (.test (iLe (0) (iSub .i64 (28) (iMul .i64 (4) x.1)))
    (.test (iIn x.1 c1)
     (.ret (.inl ((iAdd .i64 x.1 (1)), (rSet x.2 x.1 [.int .u8 (iAdd .u8 (97) (iCv .u8 (iAnd .u32 (iShr .u32 c0 (iSub .i64 (28) (iMul .i64 (4) x.1))) (15))))]))))
     (.fail))
    (.fail))
   (.ret (.inr x.2))
noncomputable def a10 (c0 : Int) (c1 : Int) (c2 : Int) (x : (Int × Rows)) : Dt := ⟨[.i c0, .i c1, .i c2, .i x.1], [], [], [x.2]⟩
noncomputable def o10_0 (c0 : Int) (c1 : Int) (c2 : Int) (r : Rows) : X × Dt := (.exit 2, ⟨[.i c1], [], [], [r]⟩)
noncomputable def e10 (k : Nat) (d : Dt) : T (X × Dt) := out1 (iter (s10 k (aI (aN d.a 0)) (aI (aN d.a 1)) (aI (aN d.a 2))) k ((aI (aN d.a 3)), (d.m.getD 0 []))) default (o10_0 (aI (aN d.a 0)) (aI (aN d.a 1)) (aI (aN d.a 2)))
noncomputable def S (k : Nat) : Subs := fun n => bif Nat.beq n 4 then some (loopV Tryz.prog t4 (e4 k)) else bif Nat.beq n 10 then some (loopV Tryz.prog t10 (e10 k)) else none
noncomputable def f (k : Nat) (a0 : Row) : T ByteArray :=
  .bnd (podcodec_FromTemplate.f k (et 47 a0)).eval default fun r0 =>
  .bnd (json_Print.f k (et 68 r0)).eval default fun r1 =>
  .bnd (iter (pod_Hash.s4 k r1.1 (sLen r1.1)) k ((2166136261), (0))) default fun r2 =>
  .test (rOk 1 (0) (8))
   (.test (iLe (0) (8))
    (.bnd (iter (pod_Hash.s10 k r2 (8) (8)) k ((0), (rMake (8) [.int .u8 (0)]))) default fun r3 =>
    .ret (sRows (rTake r3 (8))))
    (.fail))
   (.fail)
noncomputable def d (k : Nat) : Fun := mkFun [47] (fun as_ => f k (vRow (vN as_ 0))) default (fun r => .str r)
theorem hC (k : Nat) : CxOk (C k) := CxOk.cons (p := (35, podcodec_FromTemplate.d k)) (podcodec_FromTemplate.ok k) (CxOk.cons (p := (34, json_Print.d k)) (json_Print.ok k) (CxOk.nil))
theorem l4 (k : Nat) : LoopOk Tryz.prog (S k) (lp (bodyF (Go.Proofs.Tryz.f17)) 0) := loopOk_mk (C := C k) (hC k) (Loops.all (n := 0) (by kernel_rfl) trivial) (lt := t4) (den := e4 k) (by kernel_rfl) (N := (ByteArray × Int)) (A := (Int × Int)) (R := Int)
 (fun n x => a4 n.1 n.2 x) (fun n r => o4_0 n.1 n.2 r) (fun n x => s4 k n.1 n.2 x) k (fun d => ((aS (aN d.a 0)), (aI (aN d.a 2)))) (fun d => ((aI (aN d.a 1)), (aI (aN d.a 3)))) (fun d y h => out1_eval h) (fun d => by kernel_rfl) (fun n x => by kernel_rfl) (fun n r => ⟨_, rfl⟩)
theorem l10 (k : Nat) : LoopOk Tryz.prog (S k) (lp (bodyF (Go.Proofs.Tryz.f17)) 1) := loopOk_mk (C := C k) (hC k) (Loops.all (n := 0) (by kernel_rfl) trivial) (lt := t10) (den := e10 k) (by kernel_rfl) (N := (Int × Int × Int)) (A := (Int × Rows)) (R := Rows)
 (fun n x => a10 n.1 n.2.1 n.2.2 x) (fun n r => o10_0 n.1 n.2.1 n.2.2 r) (fun n x => s10 k n.1 n.2.1 n.2.2 x) k (fun d => ((aI (aN d.a 0)), (aI (aN d.a 1)), (aI (aN d.a 2)))) (fun d => ((aI (aN d.a 3)), (d.m.getD 0 []))) (fun d y h => out1_eval h) (fun d => by kernel_rfl) (fun n x => by kernel_rfl) (fun n r => ⟨_, rfl⟩)
theorem ok (k : Nat) : FunOk Tryz.prog 17 (d k) := fun_mk (C := C k) (hC k) (S := S k) Tryz.func17 (by kernel_rfl) (by kernel_rfl) (Loops.all (n := 2) (by kernel_rfl) ⟨⟨trivial, l4 k⟩, l10 k⟩) (fun as_ => by kernel_rfl)
end pod_Hash
namespace slices_Insert_api_Label_api_Label
noncomputable def C (k : Nat) : Cx := ⟨Tryz.prog, tab [], [], [], tab []⟩
noncomputable def S (k : Nat) : Subs := fun n => none
noncomputable def f (k : Nat) (a0 : Rows) (a1 : Int) (a2 : Rows) : T (Rows × Int) :=
  .test (iCut a1 (rLen a0) (rLen a0))
   (.test (iEq (rLen a2) (0))
    (.ret (a0, (rLen a0)))
    (.test (iEq a1 (rLen a0))
     (.test (rOk 32 (rLen a0) (rLen a2))
      (.ret ((rCat (rTake a0 (rLen a0)) a2), (rLen (rCat (rTake a0 (rLen a0)) a2))))
      (.fail))
     (.fail)))
   (.fail)
noncomputable def dm (k : Nat) : FunM := mkFunM 60 true [3, 23] (fun es_ as_ => f k es_ (vInt (vN as_ 0)) (vRows (vN as_ 1)))
theorem hC (k : Nat) : CxOk (C k) := CxOk.nil
theorem okM (k : Nat) : FunOkM Tryz.prog 72 (dm k) := fun_mkM (C := C k) (hC k) (S := S k) Tryz.func72 (by kernel_rfl) (by kernel_rfl) (Loops.all (n := 0) (by kernel_rfl) trivial) (fun es_ as_ => by kernel_rfl)
end slices_Insert_api_Label_api_Label
namespace label_With
noncomputable def C (k : Nat) : Cx := ⟨Tryz.prog, tab [], [14], [(999999, 14)], tab [(72, slices_Insert_api_Label_api_Label.dm k)]⟩
noncomputable def t4 : LoopT := ⟨⟨51, [], [(1, .str), (2, .str), (7, .aref 60 14), (8, .int .i64), (15, .sl 60 none), (16, .int .i64), (17, .int .i64)], [], [], [(14, 60)]⟩, (fun | .exit 0 => some ⟨51, [], [(1, .str), (2, .str), (7, .aref 60 14), (8, .int .i64)], [], [], [(14, 60)]⟩ | _ => none)⟩
noncomputable def s4 (k : Nat) (c0 : ByteArray) (c1 : ByteArray) (c2 : Rows) (c3 : Int) (x : (Int × Int × Int × Rows)) : T ((Int × Int × Int × Rows) ⊕ (Int × Int × Rows)) :=
  .test (iLt x.2.2.1 c3)
   (.test (iIn x.2.2.1 (rLen c2))
    (.test (sEq (rStr (rAt c2 x.2.2.1) 0) c0)
     (.ret (.inl (x.1, x.2.1, (iAdd .i64 x.2.2.1 (1)), x.2.2.2)))
     (.test (bIte (iLt x.2.1 (0)) (bNot (bOr (sLt (rStr (rAt c2 x.2.2.1) 0) c0) (sEq (rStr (rAt c2 x.2.2.1) 0) c0))) false)
      (.test (rOk 32 x.1 (rLen [[.str (rStr (rAt c2 x.2.2.1) 0), .str (rStr (rAt c2 x.2.2.1) 1)]]))
       (.ret (.inl ((rLen (rCat (rTake x.2.2.2 x.1) [[.str (rStr (rAt c2 x.2.2.1) 0), .str (rStr (rAt c2 x.2.2.1) 1)]])), x.1, (iAdd .i64 x.2.2.1 (1)), (rCat (rTake x.2.2.2 x.1) [[.str (rStr (rAt c2 x.2.2.1) 0), .str (rStr (rAt c2 x.2.2.1) 1)]]))))
       (.fail))
      (.test (rOk 32 x.1 (rLen [[.str (rStr (rAt c2 x.2.2.1) 0), .str (rStr (rAt c2 x.2.2.1) 1)]]))
       (.ret (.inl ((rLen (rCat (rTake x.2.2.2 x.1) [[.str (rStr (rAt c2 x.2.2.1) 0), .str (rStr (rAt c2 x.2.2.1) 1)]])), x.2.1, (iAdd .i64 x.2.2.1 (1)), (rCat (rTake x.2.2.2 x.1) [[.str (rStr (rAt c2 x.2.2.1) 0), .str (rStr (rAt c2 x.2.2.1) 1)]]))))
       (.fail))))
    (.fail))
   (.ret (.inr (x.1, x.2.1, x.2.2.2)))
noncomputable def a4 (c0 : ByteArray) (c1 : ByteArray) (c2 : Rows) (c3 : Int) (x : (Int × Int × Int × Rows)) : Dt := ⟨[.s c0, .s c1, .i x.1, .i x.2.1, .r c2, .i c3, .i x.2.2.1], [], [], [x.2.2.2]⟩
noncomputable def o4_0 (c0 : ByteArray) (c1 : ByteArray) (c2 : Rows) (c3 : Int) (r : (Int × Int × Rows)) : X × Dt := (.exit 0, ⟨[.s c0, .s c1, .i r.1, .i r.2.1], [], [], [r.2.2]⟩)
noncomputable def e4 (k : Nat) (d : Dt) : T (X × Dt) := out1 (iter (s4 k (aS (aN d.a 0)) (aS (aN d.a 1)) (aR (aN d.a 4)) (aI (aN d.a 5))) k ((aI (aN d.a 2)), (aI (aN d.a 3)), (aI (aN d.a 6)), (d.m.getD 0 []))) default (o4_0 (aS (aN d.a 0)) (aS (aN d.a 1)) (aR (aN d.a 4)) (aI (aN d.a 5)))
noncomputable def S (k : Nat) : Subs := fun n => bif Nat.beq n 4 then some (loopV Tryz.prog t4 (e4 k)) else none
noncomputable def f (k : Nat) (a0 : Rows) (a1 : ByteArray) (a2 : ByteArray) : T Rows :=
  .test (rOk 32 (0) (iAdd .i64 (rLen a0) (1)))
   (.test (bAnd (iLe (0) (0)) (iLe (0) (iAdd .i64 (rLen a0) (1))))
    (.bnd (iter (label_With.s4 k a1 a2 a0 (rLen a0)) k ((0), ((-1), ((0), (rMake (0) [.str ByteArray.empty, .str ByteArray.empty]))))) default fun r0 =>
    .test (iLt r0.2.1 (0))
     (.bnd (slices_Insert_api_Label_api_Label.f k (rTake r0.2.2 r0.1) r0.1 [[.str a1, .str a2]]).eval default fun r1 =>
     .ret (rTake r1.1 r1.2))
     (.bnd (slices_Insert_api_Label_api_Label.f k (rTake r0.2.2 r0.1) r0.2.1 [[.str a1, .str a2]]).eval default fun r2 =>
     .ret (rTake r2.1 r2.2)))
    (.fail))
   (.fail)
noncomputable def d (k : Nat) : Fun := mkFun [23, 9, 9] (fun as_ => f k (vRows (vN as_ 0)) (vStr (vN as_ 1)) (vStr (vN as_ 2))) default (fun r => .slice 60 r .open)
theorem hC (k : Nat) : CxOk (C k) := CxOk.consM (p := (72, slices_Insert_api_Label_api_Label.dm k)) (slices_Insert_api_Label_api_Label.okM k) (CxOk.nil)
theorem l4 (k : Nat) : LoopOk Tryz.prog (S k) (lp (bodyF (Go.Proofs.Tryz.f40)) 0) := loopOk_mk (C := C k) (hC k) (Loops.all (n := 0) (by kernel_rfl) trivial) (lt := t4) (den := e4 k) (by kernel_rfl) (N := (ByteArray × ByteArray × Rows × Int)) (A := (Int × Int × Int × Rows)) (R := (Int × Int × Rows))
 (fun n x => a4 n.1 n.2.1 n.2.2.1 n.2.2.2 x) (fun n r => o4_0 n.1 n.2.1 n.2.2.1 n.2.2.2 r) (fun n x => s4 k n.1 n.2.1 n.2.2.1 n.2.2.2 x) k (fun d => ((aS (aN d.a 0)), (aS (aN d.a 1)), (aR (aN d.a 4)), (aI (aN d.a 5)))) (fun d => ((aI (aN d.a 2)), (aI (aN d.a 3)), (aI (aN d.a 6)), (d.m.getD 0 []))) (fun d y h => out1_eval h) (fun d => by kernel_rfl) (fun n x => by kernel_rfl) (fun n r => ⟨_, rfl⟩)
theorem ok (k : Nat) : FunOk Tryz.prog 40 (d k) := fun_mk (C := C k) (hC k) (S := S k) Tryz.func40 (by kernel_rfl) (by kernel_rfl) (Loops.all (n := 1) (by kernel_rfl) ⟨trivial, l4 k⟩) (fun as_ => by kernel_rfl)
end label_With
namespace pod_Make
noncomputable def C (k : Nat) : Cx := ⟨Tryz.prog, tab [(39, pod_copied.d k), (17, pod_Hash.d k), (40, label_With.d k)], [], [], tab []⟩
noncomputable def S (k : Nat) : Subs := fun n => none
noncomputable def f (k : Nat) (a0 : Row) (a1 : Row) (a2 : ByteArray) (a3 : ByteArray) : T Row :=
  .bnd (pod_copied.f k (et 47 a0)).eval default fun r0 =>
  .bnd (pod_Hash.f k (et 47 a0)).eval default fun r1 =>
  .bnd (label_With.f k (rSl a0 0) (bs [116, 101, 109, 112, 108, 97, 116, 101, 45, 104, 97, 115, 104]) r1).eval default fun r2 =>
  .ret [.str (bs [80, 111, 100]), .str a2, .str a3, .int .i64 (0), .int .i64 (0), .int .i64 (0), .int .i64 (0), .bool false, .int .i64 (0), .slice 60 r2 .open, .slice 49 [[.str (rStr a1 0), .str (rStr a1 1), .int .i64 (rInt a1 2), .bool true, .bool (rBool a1 4)]] .open, .slice 9 [] .open, .slice 92 [] .open, .str (rStr r0 13), .int .i64 (rInt r0 14), .int .i64 (rInt r0 15), .int .i64 (rInt r0 16), .slice 116 (rSl r0 17) .open, .slice 164 (rSl r0 18) .open, .slice 123 (rSl r0 19) .open, .slice 126 (rSl r0 20) .open, .slice 129 (rSl r0 21) .open, .slice 132 (rSl r0 22) .open, .int .i64 (rInt r0 23), .bool (rBool r0 24), .int .i64 (rInt r0 25), .int .i64 (rInt r0 26), .int .i64 (rInt r0 27), .slice 63 (rSl r0 28) .open, .int .i64 (rInt r0 29), .str (rStr r0 30), .str (rStr r0 31)]
noncomputable def d (k : Nat) : Fun := mkFun [47, 49, 9, 9] (fun as_ => f k (vRow (vN as_ 0)) (vRow (vN as_ 1)) (vStr (vN as_ 2)) (vStr (vN as_ 3))) default (fun r => .agg (et 40 r))
theorem hC (k : Nat) : CxOk (C k) := CxOk.cons (p := (39, pod_copied.d k)) (pod_copied.ok k) (CxOk.cons (p := (17, pod_Hash.d k)) (pod_Hash.ok k) (CxOk.cons (p := (40, label_With.d k)) (label_With.ok k) (CxOk.nil)))
theorem ok (k : Nat) : FunOk Tryz.prog 20 (d k) := fun_mk (C := C k) (hC k) (S := S k) Tryz.func20 (by kernel_rfl) (by kernel_rfl) (Loops.all (n := 0) (by kernel_rfl) trivial) (fun as_ => by kernel_rfl)
end pod_Make
namespace pod_done
noncomputable def C (k : Nat) : Cx := ⟨Tryz.prog, tab [], [], [], tab []⟩
noncomputable def S (k : Nat) : Subs := fun n => none
noncomputable def f (k : Nat) (a0 : Int) (a1 : Row) : T Bool :=
  .ret (bIte (iEq (rInt a1 1) (2)) (bIte (iEq a0 (2)) true (bIte (iEq a0 (1)) (iEq (rInt a1 3) (0)) false)) false)
noncomputable def d (k : Nat) : Fun := mkFun [3, 63] (fun as_ => f k (vInt (vN as_ 0)) (vRow (vN as_ 1))) default (fun r => .bool r)
theorem hC (k : Nat) : CxOk (C k) := CxOk.nil
theorem ok (k : Nat) : FunOk Tryz.prog 30 (d k) := fun_mk (C := C k) (hC k) (S := S k) Tryz.func30 (by kernel_rfl) (by kernel_rfl) (Loops.all (n := 0) (by kernel_rfl) trivial) (fun as_ => by kernel_rfl)
end pod_done
namespace pod_Phase
noncomputable def C (k : Nat) : Cx := ⟨Tryz.prog, tab [(30, pod_done.d k)], [], [], tab []⟩
noncomputable def t3 : LoopT := ⟨⟨57, [], [(0, .int .i64), (5, .bool), (6, .bool), (7, .bool), (13, .sl 63 none), (14, .int .i64), (15, .int .i64)], [], [], []⟩, (fun | .exit 0 => some ⟨57, [], [(5, .bool), (6, .bool), (7, .bool)], [], [], []⟩ | _ => none)⟩
noncomputable def s3 (k : Nat) (c0 : Int) (c1 : Rows) (c2 : Int) (x : (Bool × Bool × Bool × Int)) : T ((Bool × Bool × Bool × Int) ⊕ (Bool × Bool × Bool)) :=
  .test (iLt x.2.2.2 c2)
   (.test (iIn x.2.2.2 (rLen c1))
    (.opt x.1 (pod_done.f k c0 (et 63 (rAt c1 x.2.2.2))).eval default fun r0 =>
    .ret (.inl ((bIte x.1 r0 false), (bIte x.2.1 true (bNot (iEq (rInt (rAt c1 x.2.2.2) 3) (0)))), (bIte (bIte (bIte x.2.2.1 true (iEq (rInt (rAt c1 x.2.2.2) 1) (1))) true (iEq (rInt (rAt c1 x.2.2.2) 1) (2))) true (iLt (0) (rInt (rAt c1 x.2.2.2) 2))), (iAdd .i64 x.2.2.2 (1)))))
    (.fail))
   (.ret (.inr (x.1, x.2.1, x.2.2.1)))
noncomputable def a3 (c0 : Int) (c1 : Rows) (c2 : Int) (x : (Bool × Bool × Bool × Int)) : Dt := ⟨[.i c0, .b x.1, .b x.2.1, .b x.2.2.1, .r c1, .i c2, .i x.2.2.2], [], [], []⟩
noncomputable def o3_0 (c0 : Int) (c1 : Rows) (c2 : Int) (r : (Bool × Bool × Bool)) : X × Dt := (.exit 0, ⟨[.b r.1, .b r.2.1, .b r.2.2], [], [], []⟩)
noncomputable def e3 (k : Nat) (d : Dt) : T (X × Dt) := out1 (iter (s3 k (aI (aN d.a 0)) (aR (aN d.a 4)) (aI (aN d.a 5))) k ((aB (aN d.a 1)), (aB (aN d.a 2)), (aB (aN d.a 3)), (aI (aN d.a 6)))) default (o3_0 (aI (aN d.a 0)) (aR (aN d.a 4)) (aI (aN d.a 5)))
noncomputable def S (k : Nat) : Subs := fun n => bif Nat.beq n 3 then some (loopV Tryz.prog t3 (e3 k)) else none
noncomputable def f (k : Nat) (a0 : Int) (a1 : Rows) : T Int :=
  .bnd (iter (pod_Phase.s3 k a0 a1 (rLen a1)) k ((iLt (0) (rLen a1)), (false, (false, (0))))) default fun r0 =>
  .test (bIte r0.1 r0.2.1 false)
   (.ret (3))
   (.test r0.1
    (.ret (2))
    (.test r0.2.2
     (.ret (1))
     (.ret (0))))
noncomputable def d (k : Nat) : Fun := mkFun [3, 22] (fun as_ => f k (vInt (vN as_ 0)) (vRows (vN as_ 1))) default (fun r => .int .i64 r)
theorem hC (k : Nat) : CxOk (C k) := CxOk.cons (p := (30, pod_done.d k)) (pod_done.ok k) (CxOk.nil)
theorem l3 (k : Nat) : LoopOk Tryz.prog (S k) (lp (bodyF (Go.Proofs.Tryz.f11)) 0) := loopOk_mk (C := C k) (hC k) (Loops.all (n := 0) (by kernel_rfl) trivial) (lt := t3) (den := e3 k) (by kernel_rfl) (N := (Int × Rows × Int)) (A := (Bool × Bool × Bool × Int)) (R := (Bool × Bool × Bool))
 (fun n x => a3 n.1 n.2.1 n.2.2 x) (fun n r => o3_0 n.1 n.2.1 n.2.2 r) (fun n x => s3 k n.1 n.2.1 n.2.2 x) k (fun d => ((aI (aN d.a 0)), (aR (aN d.a 4)), (aI (aN d.a 5)))) (fun d => ((aB (aN d.a 1)), (aB (aN d.a 2)), (aB (aN d.a 3)), (aI (aN d.a 6)))) (fun d y h => out1_eval h) (fun d => by kernel_rfl) (fun n x => by kernel_rfl) (fun n r => ⟨_, rfl⟩)
theorem ok (k : Nat) : FunOk Tryz.prog 11 (d k) := fun_mk (C := C k) (hC k) (S := S k) Tryz.func11 (by kernel_rfl) (by kernel_rfl) (Loops.all (n := 1) (by kernel_rfl) ⟨trivial, l3 k⟩) (fun as_ => by kernel_rfl)
end pod_Phase
namespace pod_Active
noncomputable def C (k : Nat) : Cx := ⟨Tryz.prog, tab [], [], [], tab []⟩
noncomputable def S (k : Nat) : Subs := fun n => none
noncomputable def f (k : Nat) (a0 : Row) : T Bool :=
  .ret (bIte (bIte (iEq (rInt a0 23) (0)) true (iEq (rInt a0 23) (1))) (bNot (rBool a0 7)) false)
noncomputable def d (k : Nat) : Fun := mkFun [40] (fun as_ => f k (vRow (vN as_ 0))) default (fun r => .bool r)
theorem hC (k : Nat) : CxOk (C k) := CxOk.nil
theorem ok (k : Nat) : FunOk Tryz.prog 13 (d k) := fun_mk (C := C k) (hC k) (S := S k) Tryz.func13 (by kernel_rfl) (by kernel_rfl) (Loops.all (n := 0) (by kernel_rfl) trivial) (fun as_ => by kernel_rfl)
end pod_Active
namespace pod_clamp
noncomputable def C (k : Nat) : Cx := ⟨Tryz.prog, tab [], [], [], tab []⟩
noncomputable def S (k : Nat) : Subs := fun n => none
noncomputable def f (k : Nat) (a0 : Int) : T Int :=
  .ret (iMin (iMax a0 (0)) (1000000000000))
noncomputable def d (k : Nat) : Fun := mkFun [3] (fun as_ => f k (vInt (vN as_ 0))) default (fun r => .int .i64 r)
theorem hC (k : Nat) : CxOk (C k) := CxOk.nil
theorem ok (k : Nat) : FunOk Tryz.prog 32 (d k) := fun_mk (C := C k) (hC k) (S := S k) Tryz.func32 (by kernel_rfl) (by kernel_rfl) (Loops.all (n := 0) (by kernel_rfl) trivial) (fun as_ => by kernel_rfl)
end pod_clamp
namespace pod_Available
noncomputable def C (k : Nat) : Cx := ⟨Tryz.prog, tab [(13, pod_Active.d k), (32, pod_clamp.d k)], [], [], tab []⟩
noncomputable def S (k : Nat) : Subs := fun n => none
noncomputable def f (k : Nat) (a0 : Row) (a1 : Int) (a2 : Int) : T Bool :=
  .bnd (pod_Active.f k (et 40 a0)).eval default fun r0 =>
  .opt (bIte r0 (rBool a0 24) false) (pod_clamp.f k a2).eval default fun r1 =>
  .opt (bIte r0 (rBool a0 24) false) (pod_clamp.f k (rInt a0 25)).eval default fun r2 =>
  .opt (bIte r0 (rBool a0 24) false) (pod_clamp.f k a1).eval default fun r3 =>
  .ret (bIte (bIte r0 (rBool a0 24) false) (iLe r3 (iSub .i64 r1 r2)) false)
noncomputable def d (k : Nat) : Fun := mkFun [40, 3, 3] (fun as_ => f k (vRow (vN as_ 0)) (vInt (vN as_ 1)) (vInt (vN as_ 2))) default (fun r => .bool r)
theorem hC (k : Nat) : CxOk (C k) := CxOk.cons (p := (13, pod_Active.d k)) (pod_Active.ok k) (CxOk.cons (p := (32, pod_clamp.d k)) (pod_clamp.ok k) (CxOk.nil))
theorem ok (k : Nat) : FunOk Tryz.prog 15 (d k) := fun_mk (C := C k) (hC k) (S := S k) Tryz.func15 (by kernel_rfl) (by kernel_rfl) (Loops.all (n := 0) (by kernel_rfl) trivial) (fun as_ => by kernel_rfl)
end pod_Available
namespace pod_restarts
noncomputable def C (k : Nat) : Cx := ⟨Tryz.prog, tab [], [], [], tab []⟩
noncomputable def t3 : LoopT := ⟨⟨22, [], [(3, .int .i64), (8, .sl 63 none), (9, .int .i64), (10, .int .i64)], [], [], []⟩, (fun | .exit 0 => some ⟨22, [], [(3, .int .i64)], [], [], []⟩ | _ => none)⟩
noncomputable def s3 (k : Nat) (c0 : Rows) (c1 : Int) (x : (Int × Int)) : T ((Int × Int) ⊕ Int) :=
  .test (iLt x.2 c1)
   (.test (iIn x.2 (rLen c0))
    (.ret (.inl ((iAdd .i64 x.1 (iMin (iMax (rInt (rAt c0 x.2) 2) (0)) (1000000000000000))), (iAdd .i64 x.2 (1)))))
    (.fail))
   (.ret (.inr x.1))
noncomputable def a3 (c0 : Rows) (c1 : Int) (x : (Int × Int)) : Dt := ⟨[.i x.1, .r c0, .i c1, .i x.2], [], [], []⟩
noncomputable def o3_0 (c0 : Rows) (c1 : Int) (r : Int) : X × Dt := (.exit 0, ⟨[.i r], [], [], []⟩)
noncomputable def e3 (k : Nat) (d : Dt) : T (X × Dt) := out1 (iter (s3 k (aR (aN d.a 1)) (aI (aN d.a 2))) k ((aI (aN d.a 0)), (aI (aN d.a 3)))) default (o3_0 (aR (aN d.a 1)) (aI (aN d.a 2)))
noncomputable def S (k : Nat) : Subs := fun n => bif Nat.beq n 3 then some (loopV Tryz.prog t3 (e3 k)) else none
noncomputable def f (k : Nat) (a0 : Row) : T Int :=
  .bnd (iter (pod_restarts.s3 k (rSl a0 28) (rLen (rSl a0 28))) k ((0), (0))) default fun r0 =>
  .ret r0
noncomputable def d (k : Nat) : Fun := mkFun [40] (fun as_ => f k (vRow (vN as_ 0))) default (fun r => .int .i64 r)
theorem hC (k : Nat) : CxOk (C k) := CxOk.nil
theorem l3 (k : Nat) : LoopOk Tryz.prog (S k) (lp (bodyF (Go.Proofs.Tryz.f42)) 0) := loopOk_mk (C := C k) (hC k) (Loops.all (n := 0) (by kernel_rfl) trivial) (lt := t3) (den := e3 k) (by kernel_rfl) (N := (Rows × Int)) (A := (Int × Int)) (R := Int)
 (fun n x => a3 n.1 n.2 x) (fun n r => o3_0 n.1 n.2 r) (fun n x => s3 k n.1 n.2 x) k (fun d => ((aR (aN d.a 1)), (aI (aN d.a 2)))) (fun d => ((aI (aN d.a 0)), (aI (aN d.a 3)))) (fun d y h => out1_eval h) (fun d => by kernel_rfl) (fun n x => by kernel_rfl) (fun n r => ⟨_, rfl⟩)
theorem ok (k : Nat) : FunOk Tryz.prog 42 (d k) := fun_mk (C := C k) (hC k) (S := S k) Tryz.func42 (by kernel_rfl) (by kernel_rfl) (Loops.all (n := 1) (by kernel_rfl) ⟨trivial, l3 k⟩) (fun as_ => by kernel_rfl)
end pod_restarts
namespace meta_Key
noncomputable def C (k : Nat) : Cx := ⟨Tryz.prog, tab [], [], [], tab []⟩
noncomputable def S (k : Nat) : Subs := fun n => none
noncomputable def f (k : Nat) (a0 : ByteArray) (a1 : ByteArray) (a2 : ByteArray) : T ByteArray :=
  .test (sOk (sLen a0) (sLen (bs [47])))
   (.test (sOk (sLen (sCat a0 (bs [47]))) (sLen a1))
    (.test (sOk (sLen (sCat (sCat a0 (bs [47])) a1)) (sLen (bs [47])))
     (.test (sOk (sLen (sCat (sCat (sCat a0 (bs [47])) a1) (bs [47]))) (sLen a2))
      (.ret (sCat (sCat (sCat (sCat a0 (bs [47])) a1) (bs [47])) a2))
      (.fail))
     (.fail))
    (.fail))
   (.fail)
noncomputable def d (k : Nat) : Fun := mkFun [9, 9, 9] (fun as_ => f k (vStr (vN as_ 0)) (vStr (vN as_ 1)) (vStr (vN as_ 2))) default (fun r => .str r)
theorem hC (k : Nat) : CxOk (C k) := CxOk.nil
theorem ok (k : Nat) : FunOk Tryz.prog 73 (d k) := fun_mk (C := C k) (hC k) (S := S k) Tryz.func73 (by kernel_rfl) (by kernel_rfl) (Loops.all (n := 0) (by kernel_rfl) trivial) (fun as_ => by kernel_rfl)
end meta_Key
namespace meta_KeyOf
noncomputable def C (k : Nat) : Cx := ⟨Tryz.prog, tab [(73, meta_Key.d k)], [], [], tab []⟩
noncomputable def S (k : Nat) : Subs := fun n => none
noncomputable def f (k : Nat) (a0 : Row) : T ByteArray :=
  .bnd (meta_Key.f k (rStr a0 0) (rStr a0 1) (rStr a0 2)).eval default fun r0 =>
  .ret r0
noncomputable def d (k : Nat) : Fun := mkFun [28] (fun as_ => f k (vRow (vN as_ 0))) default (fun r => .str r)
theorem hC (k : Nat) : CxOk (C k) := CxOk.cons (p := (73, meta_Key.d k)) (meta_Key.ok k) (CxOk.nil)
theorem ok (k : Nat) : FunOk Tryz.prog 43 (d k) := fun_mk (C := C k) (hC k) (S := S k) Tryz.func43 (by kernel_rfl) (by kernel_rfl) (Loops.all (n := 0) (by kernel_rfl) trivial) (fun as_ => by kernel_rfl)
end meta_KeyOf
namespace pod_Less
noncomputable def C (k : Nat) : Cx := ⟨Tryz.prog, tab [(42, pod_restarts.d k), (43, meta_KeyOf.d k)], [], [], tab []⟩
noncomputable def S (k : Nat) : Subs := fun n => none
noncomputable def f (k : Nat) (a0 : Row) (a1 : Row) : T Bool :=
  .test (bNot (bEq (sEq (rStr a0 13) ByteArray.empty) (sEq (rStr a1 13) ByteArray.empty)))
   (.ret (sEq (rStr a0 13) ByteArray.empty))
   (.test (bNot (iEq (rInt a0 23) (rInt a1 23)))
    (.ret (iLt (rInt a0 23) (rInt a1 23)))
    (.test (bNot (bEq (rBool a0 24) (rBool a1 24)))
     (.ret (bNot (rBool a0 24)))
     (.test (bIte (rBool a0 24) (bNot (iEq (rInt a0 25) (rInt a1 25))) false)
      (.ret (iLt (rInt a1 25) (rInt a0 25)))
      (.bnd (pod_restarts.f k (et 40 a0)).eval default fun r0 =>
      .bnd (pod_restarts.f k (et 40 a1)).eval default fun r1 =>
      .test (bNot (iEq r0 r1))
       (.bnd (pod_restarts.f k (et 40 a0)).eval default fun r2 =>
       .bnd (pod_restarts.f k (et 40 a1)).eval default fun r3 =>
       .ret (iLt r3 r2))
       (.test (bNot (iEq (rInt a0 6) (rInt a1 6)))
        (.ret (iLt (rInt a1 6) (rInt a0 6)))
        (.bnd (meta_KeyOf.f k (et 28 a0)).eval default fun r4 =>
        .bnd (meta_KeyOf.f k (et 28 a1)).eval default fun r5 =>
        .ret (sLt r4 r5)))))))
noncomputable def d (k : Nat) : Fun := mkFun [40, 40] (fun as_ => f k (vRow (vN as_ 0)) (vRow (vN as_ 1))) default (fun r => .bool r)
theorem hC (k : Nat) : CxOk (C k) := CxOk.cons (p := (42, pod_restarts.d k)) (pod_restarts.ok k) (CxOk.cons (p := (43, meta_KeyOf.d k)) (meta_KeyOf.ok k) (CxOk.nil))
theorem ok (k : Nat) : FunOk Tryz.prog 22 (d k) := fun_mk (C := C k) (hC k) (S := S k) Tryz.func22 (by kernel_rfl) (by kernel_rfl) (Loops.all (n := 0) (by kernel_rfl) trivial) (fun as_ => by kernel_rfl)
end pod_Less
namespace law33_lives
noncomputable def C (k : Nat) : Cx := ⟨Tryz.prog, tab [(29, law33_exited.d k), (20, pod_Make.d k), (11, pod_Phase.d k), (15, pod_Available.d k), (22, pod_Less.d k), (13, pod_Active.d k)], [], [], tab []⟩
noncomputable def S (k : Nat) : Subs := fun n => none
noncomputable def f (k : Nat) : T Bool :=
  .bnd (law33_exited.f k (0)).eval default fun r0 =>
  .bnd (law33_exited.f k (1)).eval default fun r1 =>
  .bnd (pod_Make.f k [.slice 60 [] .open, .str ByteArray.empty, .int .i64 (0), .int .i64 (0), .int .i64 (0), .slice 116 [] .open, .slice 164 [] .open, .slice 123 [] .open, .slice 126 [] .open, .slice 129 [] .open, .slice 132 [] .open] [.str (bs [82, 101, 112, 108, 105, 99, 97, 83, 101, 116]), .str (bs [114]), .int .i64 (3), .bool false, .bool false] (bs [110]) (bs [114, 45, 49])).eval default fun r2 =>
  .bnd (pod_Phase.f k (2) [(et 63 r0), (et 63 r1)]).eval default fun r3 =>
  .opt (iEq r3 (3)) (pod_Phase.f k (1) [(et 63 r0), (et 63 r1)]).eval default fun r4 =>
  .test (bImp (bIte (iEq r3 (3)) (iEq r4 (1)) false) (iCut (0) (1) (rLen [(et 63 r0), (et 63 r1)])))
   (.opt (bIte (iEq r3 (3)) (iEq r4 (1)) false) (pod_Phase.f k (1) (rCut [(et 63 r0), (et 63 r1)] (0) (1))).eval default fun r5 =>
   .opt (bIte (bIte (iEq r3 (3)) (iEq r4 (1)) false) (iEq r5 (2)) false) (pod_Available.f k [.str ByteArray.empty, .str ByteArray.empty, .str ByteArray.empty, .int .i64 (0), .int .i64 (0), .int .i64 (0), .int .i64 (0), .bool false, .int .i64 (0), .slice 60 [] .open, .slice 49 [] .open, .slice 9 [] .open, .slice 92 [] .open, .str (bs [97]), .int .i64 (0), .int .i64 (0), .int .i64 (0), .slice 116 [] .open, .slice 164 [] .open, .slice 123 [] .open, .slice 126 [] .open, .slice 129 [] .open, .slice 132 [] .open, .int .i64 (1), .bool true, .int .i64 (10), .int .i64 (0), .int .i64 (0), .slice 63 [] .open, .int .i64 (0), .str ByteArray.empty, .str ByteArray.empty] (5) (15)).eval default fun r6 =>
   .opt (bIte (bIte (bIte (iEq r3 (3)) (iEq r4 (1)) false) (iEq r5 (2)) false) r6 false) (pod_Available.f k [.str ByteArray.empty, .str ByteArray.empty, .str ByteArray.empty, .int .i64 (0), .int .i64 (0), .int .i64 (0), .int .i64 (0), .bool false, .int .i64 (0), .slice 60 [] .open, .slice 49 [] .open, .slice 9 [] .open, .slice 92 [] .open, .str (bs [97]), .int .i64 (0), .int .i64 (0), .int .i64 (0), .slice 116 [] .open, .slice 164 [] .open, .slice 123 [] .open, .slice 126 [] .open, .slice 129 [] .open, .slice 132 [] .open, .int .i64 (1), .bool true, .int .i64 (10), .int .i64 (0), .int .i64 (0), .slice 63 [] .open, .int .i64 (0), .str ByteArray.empty, .str ByteArray.empty] (5) (14)).eval default fun r7 =>
   .opt (bIte (bIte (bIte (bIte (iEq r3 (3)) (iEq r4 (1)) false) (iEq r5 (2)) false) r6 false) (bNot r7) false) (pod_Less.f k [.str ByteArray.empty, .str ByteArray.empty, .str ByteArray.empty, .int .i64 (0), .int .i64 (0), .int .i64 (0), .int .i64 (0), .bool false, .int .i64 (0), .slice 60 [] .open, .slice 49 [] .open, .slice 9 [] .open, .slice 92 [] .open, .str (bs [97]), .int .i64 (0), .int .i64 (0), .int .i64 (0), .slice 116 [] .open, .slice 164 [] .open, .slice 123 [] .open, .slice 126 [] .open, .slice 129 [] .open, .slice 132 [] .open, .int .i64 (1), .bool false, .int .i64 (10), .int .i64 (0), .int .i64 (0), .slice 63 [] .open, .int .i64 (0), .str ByteArray.empty, .str ByteArray.empty] [.str ByteArray.empty, .str ByteArray.empty, .str ByteArray.empty, .int .i64 (0), .int .i64 (0), .int .i64 (0), .int .i64 (0), .bool false, .int .i64 (0), .slice 60 [] .open, .slice 49 [] .open, .slice 9 [] .open, .slice 92 [] .open, .str (bs [97]), .int .i64 (0), .int .i64 (0), .int .i64 (0), .slice 116 [] .open, .slice 164 [] .open, .slice 123 [] .open, .slice 126 [] .open, .slice 129 [] .open, .slice 132 [] .open, .int .i64 (1), .bool true, .int .i64 (10), .int .i64 (0), .int .i64 (0), .slice 63 [] .open, .int .i64 (0), .str ByteArray.empty, .str ByteArray.empty]).eval default fun r8 =>
   .test (bImp (bIte (bIte (bIte (bIte (bIte (bIte (iEq r3 (3)) (iEq r4 (1)) false) (iEq r5 (2)) false) r6 false) (bNot r7) false) r8 false) (iEq (rLen (rSl r2 10)) (1)) false) (iIn (0) (rLen (rSl r2 10))))
    (.opt (bIte (bIte (bIte (bIte (bIte (bIte (bIte (iEq r3 (3)) (iEq r4 (1)) false) (iEq r5 (2)) false) r6 false) (bNot r7) false) r8 false) (iEq (rLen (rSl r2 10)) (1)) false) (rBool (rAt (rSl r2 10) (0)) 3) false) (pod_Active.f k (et 40 r2)).eval default fun r9 =>
    .ret (bIte (bIte (bIte (bIte (bIte (bIte (bIte (bIte (iEq r3 (3)) (iEq r4 (1)) false) (iEq r5 (2)) false) r6 false) (bNot r7) false) r8 false) (iEq (rLen (rSl r2 10)) (1)) false) (rBool (rAt (rSl r2 10) (0)) 3) false) r9 false))
    (.fail))
   (.fail)
noncomputable def d (k : Nat) : Fun := mkFun [] (fun as_ => f k) default (fun r => .bool r)
theorem hC (k : Nat) : CxOk (C k) := CxOk.cons (p := (29, law33_exited.d k)) (law33_exited.ok k) (CxOk.cons (p := (20, pod_Make.d k)) (pod_Make.ok k) (CxOk.cons (p := (11, pod_Phase.d k)) (pod_Phase.ok k) (CxOk.cons (p := (15, pod_Available.d k)) (pod_Available.ok k) (CxOk.cons (p := (22, pod_Less.d k)) (pod_Less.ok k) (CxOk.cons (p := (13, pod_Active.d k)) (pod_Active.ok k) (CxOk.nil))))))
theorem ok (k : Nat) : FunOk Tryz.prog 10 (d k) := fun_mk (C := C k) (hC k) (S := S k) Tryz.func10 (by kernel_rfl) (by kernel_rfl) (Loops.all (n := 0) (by kernel_rfl) trivial) (fun as_ => by kernel_rfl)
end law33_lives
namespace law33_lv
noncomputable def f (k : Nat) : T Bool :=
  law33_lives.f 1000
noncomputable def d (k : Nat) : Fun := mkFun [] (fun as_ => f k) default (fun r => .bool r)
theorem ok (k : Nat) : FunOk Tryz.prog 10 (d k) := law33_lives.ok 1000
end law33_lv
namespace ref33_done
noncomputable def C (k : Nat) : Cx := ⟨Tryz.prog, tab [], [], [], tab []⟩
noncomputable def S (k : Nat) : Subs := fun n => none
noncomputable def f (k : Nat) (a0 : Int) (a1 : Row) : T Bool :=
  .ret (bIte (iEq (rInt a1 1) (2)) (bIte (iEq a0 (2)) true (bIte (iEq a0 (1)) (iEq (rInt a1 3) (0)) false)) false)
noncomputable def d (k : Nat) : Fun := mkFun [3, 63] (fun as_ => f k (vInt (vN as_ 0)) (vRow (vN as_ 1))) default (fun r => .bool r)
theorem hC (k : Nat) : CxOk (C k) := CxOk.nil
theorem ok (k : Nat) : FunOk Tryz.prog 31 (d k) := fun_mk (C := C k) (hC k) (S := S k) Tryz.func31 (by kernel_rfl) (by kernel_rfl) (Loops.all (n := 0) (by kernel_rfl) trivial) (fun as_ => by kernel_rfl)
end ref33_done
namespace ref33_Phase
noncomputable def C (k : Nat) : Cx := ⟨Tryz.prog, tab [(31, ref33_done.d k)], [], [], tab []⟩
noncomputable def t5 : LoopT := ⟨⟨67, [], [(0, .int .i64), (1, .sl 63 none), (5, .bool), (6, .bool), (7, .bool), (8, .int .i64)], [], [], []⟩, (fun | .exit 0 => some ⟨67, [], [(5, .bool), (6, .bool), (7, .bool)], [], [], []⟩ | _ => none)⟩
noncomputable def s5 (k : Nat) (c0 : Int) (c1 : Rows) (x : (Bool × Bool × Bool × Int)) : T ((Bool × Bool × Bool × Int) ⊕ (Bool × Bool × Bool)) :=
  .test (iLt x.2.2.2 (rLen c1))
   (.test (bImp x.1 (iIn x.2.2.2 (rLen c1)))
    (.opt x.1 (ref33_done.f k c0 (et 63 (rAt c1 x.2.2.2))).eval default fun r0 =>
    .test (bImp (bNot x.2.1) (iIn x.2.2.2 (rLen c1)))
     (.test (bImp (bNot x.2.2.1) (iIn x.2.2.2 (rLen c1)))
      (.test (bImp (bNot (bIte x.2.2.1 true (iEq (rInt (rAt c1 x.2.2.2) 1) (1)))) (iIn x.2.2.2 (rLen c1)))
       (.test (bImp (bNot (bIte (bIte x.2.2.1 true (iEq (rInt (rAt c1 x.2.2.2) 1) (1))) true (iEq (rInt (rAt c1 x.2.2.2) 1) (2)))) (iIn x.2.2.2 (rLen c1)))
        (.ret (.inl ((bIte x.1 r0 false), (bIte x.2.1 true (bNot (iEq (rInt (rAt c1 x.2.2.2) 3) (0)))), (bIte (bIte (bIte x.2.2.1 true (iEq (rInt (rAt c1 x.2.2.2) 1) (1))) true (iEq (rInt (rAt c1 x.2.2.2) 1) (2))) true (iLt (0) (rInt (rAt c1 x.2.2.2) 2))), (iAdd .i64 x.2.2.2 (1)))))
        (.fail))
       (.fail))
      (.fail))
     (.fail))
    (.fail))
   (.ret (.inr (x.1, x.2.1, x.2.2.1)))
noncomputable def a5 (c0 : Int) (c1 : Rows) (x : (Bool × Bool × Bool × Int)) : Dt := ⟨[.i c0, .r c1, .b x.1, .b x.2.1, .b x.2.2.1, .i x.2.2.2], [], [], []⟩
noncomputable def o5_0 (c0 : Int) (c1 : Rows) (r : (Bool × Bool × Bool)) : X × Dt := (.exit 0, ⟨[.b r.1, .b r.2.1, .b r.2.2], [], [], []⟩)
noncomputable def e5 (k : Nat) (d : Dt) : T (X × Dt) := out1 (iter (s5 k (aI (aN d.a 0)) (aR (aN d.a 1))) k ((aB (aN d.a 2)), (aB (aN d.a 3)), (aB (aN d.a 4)), (aI (aN d.a 5)))) default (o5_0 (aI (aN d.a 0)) (aR (aN d.a 1)))
noncomputable def S (k : Nat) : Subs := fun n => bif Nat.beq n 5 then some (loopV Tryz.prog t5 (e5 k)) else none
noncomputable def f (k : Nat) (a0 : Int) (a1 : Rows) : T Int :=
  .bnd (iter (ref33_Phase.s5 k a0 a1) k ((iLt (0) (rLen a1)), (false, (false, (0))))) default fun r0 =>
  .test (bIte r0.1 r0.2.1 false)
   (.ret (3))
   (.test r0.1
    (.ret (2))
    (.test r0.2.2
     (.ret (1))
     (.ret (0))))
noncomputable def d (k : Nat) : Fun := mkFun [3, 22] (fun as_ => f k (vInt (vN as_ 0)) (vRows (vN as_ 1))) default (fun r => .int .i64 r)
theorem hC (k : Nat) : CxOk (C k) := CxOk.cons (p := (31, ref33_done.d k)) (ref33_done.ok k) (CxOk.nil)
theorem l5 (k : Nat) : LoopOk Tryz.prog (S k) (lp (bodyF (Go.Proofs.Tryz.f12)) 0) := loopOk_mk (C := C k) (hC k) (Loops.all (n := 0) (by kernel_rfl) trivial) (lt := t5) (den := e5 k) (by kernel_rfl) (N := (Int × Rows)) (A := (Bool × Bool × Bool × Int)) (R := (Bool × Bool × Bool))
 (fun n x => a5 n.1 n.2 x) (fun n r => o5_0 n.1 n.2 r) (fun n x => s5 k n.1 n.2 x) k (fun d => ((aI (aN d.a 0)), (aR (aN d.a 1)))) (fun d => ((aB (aN d.a 2)), (aB (aN d.a 3)), (aB (aN d.a 4)), (aI (aN d.a 5)))) (fun d y h => out1_eval h) (fun d => by kernel_rfl) (fun n x => by kernel_rfl) (fun n r => ⟨_, rfl⟩)
theorem ok (k : Nat) : FunOk Tryz.prog 12 (d k) := fun_mk (C := C k) (hC k) (S := S k) Tryz.func12 (by kernel_rfl) (by kernel_rfl) (Loops.all (n := 1) (by kernel_rfl) ⟨trivial, l5 k⟩) (fun as_ => by kernel_rfl)
end ref33_Phase
namespace ref33_Active
noncomputable def C (k : Nat) : Cx := ⟨Tryz.prog, tab [], [], [], tab []⟩
noncomputable def S (k : Nat) : Subs := fun n => none
noncomputable def f (k : Nat) (a0 : Row) : T Bool :=
  .ret (bIte (bIte (iEq (rInt a0 23) (0)) true (iEq (rInt a0 23) (1))) (bNot (rBool a0 7)) false)
noncomputable def d (k : Nat) : Fun := mkFun [40] (fun as_ => f k (vRow (vN as_ 0))) default (fun r => .bool r)
theorem hC (k : Nat) : CxOk (C k) := CxOk.nil
theorem ok (k : Nat) : FunOk Tryz.prog 14 (d k) := fun_mk (C := C k) (hC k) (S := S k) Tryz.func14 (by kernel_rfl) (by kernel_rfl) (Loops.all (n := 0) (by kernel_rfl) trivial) (fun as_ => by kernel_rfl)
end ref33_Active
namespace ref33_clamp
noncomputable def C (k : Nat) : Cx := ⟨Tryz.prog, tab [], [], [], tab []⟩
noncomputable def S (k : Nat) : Subs := fun n => none
noncomputable def f (k : Nat) (a0 : Int) (a1 : Int) : T Int :=
  .test (iLt a0 (0))
   (.ret (0))
   (.test (iLt a1 a0)
    (.ret a1)
    (.ret a0))
noncomputable def d (k : Nat) : Fun := mkFun [3, 3] (fun as_ => f k (vInt (vN as_ 0)) (vInt (vN as_ 1))) default (fun r => .int .i64 r)
theorem hC (k : Nat) : CxOk (C k) := CxOk.nil
theorem ok (k : Nat) : FunOk Tryz.prog 33 (d k) := fun_mk (C := C k) (hC k) (S := S k) Tryz.func33 (by kernel_rfl) (by kernel_rfl) (Loops.all (n := 0) (by kernel_rfl) trivial) (fun as_ => by kernel_rfl)
end ref33_clamp
namespace ref33_Available
noncomputable def C (k : Nat) : Cx := ⟨Tryz.prog, tab [(33, ref33_clamp.d k), (14, ref33_Active.d k)], [], [], tab []⟩
noncomputable def S (k : Nat) : Subs := fun n => none
noncomputable def f (k : Nat) (a0 : Row) (a1 : Int) (a2 : Int) : T Bool :=
  .bnd (ref33_clamp.f k a2 (1000000000000)).eval default fun r0 =>
  .bnd (ref33_clamp.f k (rInt a0 25) (1000000000000)).eval default fun r1 =>
  .bnd (ref33_Active.f k (et 40 a0)).eval default fun r2 =>
  .opt (bIte r2 (rBool a0 24) false) (ref33_clamp.f k a1 (1000000000000)).eval default fun r3 =>
  .ret (bIte (bIte r2 (rBool a0 24) false) (iLe r3 (iSub .i64 r0 r1)) false)
noncomputable def d (k : Nat) : Fun := mkFun [40, 3, 3] (fun as_ => f k (vRow (vN as_ 0)) (vInt (vN as_ 1)) (vInt (vN as_ 2))) default (fun r => .bool r)
theorem hC (k : Nat) : CxOk (C k) := CxOk.cons (p := (33, ref33_clamp.d k)) (ref33_clamp.ok k) (CxOk.cons (p := (14, ref33_Active.d k)) (ref33_Active.ok k) (CxOk.nil))
theorem ok (k : Nat) : FunOk Tryz.prog 16 (d k) := fun_mk (C := C k) (hC k) (S := S k) Tryz.func16 (by kernel_rfl) (by kernel_rfl) (Loops.all (n := 0) (by kernel_rfl) trivial) (fun as_ => by kernel_rfl)
end ref33_Available
namespace law33_PodPhase
noncomputable def C (k : Nat) : Cx := ⟨Tryz.prog, tab [(9, law19_SmallPod.d k), (10, law33_lv.d k), (11, pod_Phase.d k), (12, ref33_Phase.d k), (13, pod_Active.d k), (14, ref33_Active.d k), (15, pod_Available.d k), (16, ref33_Available.d k)], [], [], tab []⟩
noncomputable def S (k : Nat) : Subs := fun n => none
noncomputable def f (k : Nat) (a0 : Int) (a1 : Rows) (a2 : Row) (a3 : Int) (a4 : Int) : T Bool :=
  .opt (bNot (iLt (40) (rLen a1))) (law19_SmallPod.f k (et 40 a2)).eval default fun r0 =>
  .test (bIte (iLt (40) (rLen a1)) true (bNot r0))
   (.bnd (law33_lv.f k).eval default fun r1 =>
   .ret r1)
   (.bnd (pod_Phase.f k a0 a1).eval default fun r2 =>
   .bnd (ref33_Phase.f k a0 a1).eval default fun r3 =>
   .opt (iEq r2 r3) (pod_Active.f k (et 40 a2)).eval default fun r4 =>
   .opt (iEq r2 r3) (ref33_Active.f k (et 40 a2)).eval default fun r5 =>
   .opt (bIte (iEq r2 r3) (bEq r4 r5) false) (pod_Available.f k (et 40 a2) a3 a4).eval default fun r6 =>
   .opt (bIte (iEq r2 r3) (bEq r4 r5) false) (ref33_Available.f k (et 40 a2) a3 a4).eval default fun r7 =>
   .opt (bIte (bIte (iEq r2 r3) (bEq r4 r5) false) (bEq r6 r7) false) (law33_lv.f k).eval default fun r8 =>
   .ret (bIte (bIte (bIte (iEq r2 r3) (bEq r4 r5) false) (bEq r6 r7) false) r8 false))
noncomputable def d (k : Nat) : Fun := mkFun [3, 22, 40, 3, 3] (fun as_ => f k (vInt (vN as_ 0)) (vRows (vN as_ 1)) (vRow (vN as_ 2)) (vInt (vN as_ 3)) (vInt (vN as_ 4))) default (fun r => .bool r)
theorem hC (k : Nat) : CxOk (C k) := CxOk.cons (p := (9, law19_SmallPod.d k)) (law19_SmallPod.ok k) (CxOk.cons (p := (10, law33_lv.d k)) (law33_lv.ok k) (CxOk.cons (p := (11, pod_Phase.d k)) (pod_Phase.ok k) (CxOk.cons (p := (12, ref33_Phase.d k)) (ref33_Phase.ok k) (CxOk.cons (p := (13, pod_Active.d k)) (pod_Active.ok k) (CxOk.cons (p := (14, ref33_Active.d k)) (ref33_Active.ok k) (CxOk.cons (p := (15, pod_Available.d k)) (pod_Available.ok k) (CxOk.cons (p := (16, ref33_Available.d k)) (ref33_Available.ok k) (CxOk.nil))))))))
theorem ok (k : Nat) : FunOk Tryz.prog 3 (d k) := fun_mk (C := C k) (hC k) (S := S k) Tryz.func3 (by kernel_rfl) (by kernel_rfl) (Loops.all (n := 0) (by kernel_rfl) trivial) (fun as_ => by kernel_rfl)
end law33_PodPhase
namespace law33_PodPhases
noncomputable def C (k : Nat) : Cx := ⟨Tryz.prog, tab [(10, law33_lv.d k), (11, pod_Phase.d k)], [], [], tab []⟩
noncomputable def t5 : LoopT := ⟨⟨85, [], [(0, .int .i64), (1, .sl 63 none), (5, .bool), (6, .bool), (26, .sl 63 none), (27, .int .i64), (28, .int .i64)], [], [], []⟩, (fun | .exit 0 => some ⟨85, [], [(0, .int .i64), (1, .sl 63 none), (5, .bool), (6, .bool)], [], [], []⟩ | _ => none)⟩
noncomputable def s5 (k : Nat) (c0 : Int) (c1 : Rows) (c2 : Rows) (c3 : Int) (x : (Bool × Bool × Int)) : T ((Bool × Bool × Int) ⊕ (Bool × Bool)) :=
  .test (iLt x.2.2 c3)
   (.test (iIn x.2.2 (rLen c2))
    (.ret (.inl ((bIte (bIte x.1 (iEq (rInt (rAt c2 x.2.2) 1) (2)) false) (bIte (iEq c0 (2)) true (iEq (rInt (rAt c2 x.2.2) 3) (0))) false), (bIte x.2.1 true (bNot (iEq (rInt (rAt c2 x.2.2) 3) (0)))), (iAdd .i64 x.2.2 (1)))))
    (.fail))
   (.ret (.inr (x.1, x.2.1)))
noncomputable def a5 (c0 : Int) (c1 : Rows) (c2 : Rows) (c3 : Int) (x : (Bool × Bool × Int)) : Dt := ⟨[.i c0, .r c1, .b x.1, .b x.2.1, .r c2, .i c3, .i x.2.2], [], [], []⟩
noncomputable def o5_0 (c0 : Int) (c1 : Rows) (c2 : Rows) (c3 : Int) (r : (Bool × Bool)) : X × Dt := (.exit 0, ⟨[.i c0, .r c1, .b r.1, .b r.2], [], [], []⟩)
noncomputable def e5 (k : Nat) (d : Dt) : T (X × Dt) := out1 (iter (s5 k (aI (aN d.a 0)) (aR (aN d.a 1)) (aR (aN d.a 4)) (aI (aN d.a 5))) k ((aB (aN d.a 2)), (aB (aN d.a 3)), (aI (aN d.a 6)))) default (o5_0 (aI (aN d.a 0)) (aR (aN d.a 1)) (aR (aN d.a 4)) (aI (aN d.a 5)))
noncomputable def S (k : Nat) : Subs := fun n => bif Nat.beq n 5 then some (loopV Tryz.prog t5 (e5 k)) else none
noncomputable def f (k : Nat) (a0 : Int) (a1 : Rows) : T Bool :=
  .test (iLt (40) (rLen a1))
   (.bnd (law33_lv.f k).eval default fun r0 =>
   .ret r0)
   (.bnd (iter (law33_PodPhases.s5 k a0 a1 a1 (rLen a1)) k ((bIte (iLt (0) (rLen a1)) (bIte (iEq a0 (2)) true (iEq a0 (1))) false), (false, (0)))) default fun r1 =>
   .bnd (pod_Phase.f k a0 a1).eval default fun r2 =>
   .test (bIte (bNot (bEq (bIte (iEq r2 (2)) true (iEq r2 (3))) r1.1)) true (bIte r1.1 (bNot (bEq (iEq r2 (3)) r1.2)) false))
    (.ret false)
    (.bnd (pod_Phase.f k (0) a1).eval default fun r3 =>
    .opt (bIte (iEq r3 (0)) true (iEq r3 (1))) (law33_lv.f k).eval default fun r4 =>
    .ret (bIte (bIte (iEq r3 (0)) true (iEq r3 (1))) r4 false)))
noncomputable def d (k : Nat) : Fun := mkFun [3, 22] (fun as_ => f k (vInt (vN as_ 0)) (vRows (vN as_ 1))) default (fun r => .bool r)
theorem hC (k : Nat) : CxOk (C k) := CxOk.cons (p := (10, law33_lv.d k)) (law33_lv.ok k) (CxOk.cons (p := (11, pod_Phase.d k)) (pod_Phase.ok k) (CxOk.nil))
theorem l5 (k : Nat) : LoopOk Tryz.prog (S k) (lp (bodyF (Go.Proofs.Tryz.f8)) 0) := loopOk_mk (C := C k) (hC k) (Loops.all (n := 0) (by kernel_rfl) trivial) (lt := t5) (den := e5 k) (by kernel_rfl) (N := (Int × Rows × Rows × Int)) (A := (Bool × Bool × Int)) (R := (Bool × Bool))
 (fun n x => a5 n.1 n.2.1 n.2.2.1 n.2.2.2 x) (fun n r => o5_0 n.1 n.2.1 n.2.2.1 n.2.2.2 r) (fun n x => s5 k n.1 n.2.1 n.2.2.1 n.2.2.2 x) k (fun d => ((aI (aN d.a 0)), (aR (aN d.a 1)), (aR (aN d.a 4)), (aI (aN d.a 5)))) (fun d => ((aB (aN d.a 2)), (aB (aN d.a 3)), (aI (aN d.a 6)))) (fun d y h => out1_eval h) (fun d => by kernel_rfl) (fun n x => by kernel_rfl) (fun n r => ⟨_, rfl⟩)
theorem ok (k : Nat) : FunOk Tryz.prog 8 (d k) := fun_mk (C := C k) (hC k) (S := S k) Tryz.func8 (by kernel_rfl) (by kernel_rfl) (Loops.all (n := 1) (by kernel_rfl) ⟨trivial, l5 k⟩) (fun as_ => by kernel_rfl)
end law33_PodPhases
namespace ref33_restarts
noncomputable def C (k : Nat) : Cx := ⟨Tryz.prog, tab [(33, ref33_clamp.d k)], [], [], tab []⟩
noncomputable def t3 : LoopT := ⟨⟨24, [], [(1, .ptr 1 0), (3, .int .i64), (4, .int .i64)], [], [(1, 40)], []⟩, (fun | .exit 0 => some ⟨24, [], [(3, .int .i64)], [], [], []⟩ | _ => none)⟩
noncomputable def s3 (k : Nat) (c0 : Row) (x : (Int × Int)) : T ((Int × Int) ⊕ Int) :=
  .test (iLt x.2 (rLen (rSl c0 28)))
   (.test (iIn x.2 (rLen (rSl c0 28)))
    (.bnd (ref33_clamp.f k (rInt (rAt (rSl c0 28) x.2) 2) (1000000000000000)).eval default fun r0 =>
    .ret (.inl ((iAdd .i64 x.1 r0), (iAdd .i64 x.2 (1)))))
    (.fail))
   (.ret (.inr x.1))
noncomputable def a3 (c0 : Row) (x : (Int × Int)) : Dt := ⟨[.u, .i x.1, .i x.2], [], [et 40 c0], []⟩
noncomputable def o3_0 (c0 : Row) (r : Int) : X × Dt := (.exit 0, ⟨[.i r], [], [], []⟩)
noncomputable def e3 (k : Nat) (d : Dt) : T (X × Dt) := out1 (iter (s3 k (d.r.getD 0 [])) k ((aI (aN d.a 1)), (aI (aN d.a 2)))) default (o3_0 (d.r.getD 0 []))
noncomputable def S (k : Nat) : Subs := fun n => bif Nat.beq n 3 then some (loopV Tryz.prog t3 (e3 k)) else none
noncomputable def f (k : Nat) (a0 : Row) : T Int :=
  .bnd (iter (ref33_restarts.s3 k (et 40 a0)) k ((0), (0))) default fun r0 =>
  .ret r0
noncomputable def d (k : Nat) : Fun := mkFun [40] (fun as_ => f k (vRow (vN as_ 0))) default (fun r => .int .i64 r)
theorem hC (k : Nat) : CxOk (C k) := CxOk.cons (p := (33, ref33_clamp.d k)) (ref33_clamp.ok k) (CxOk.nil)
theorem l3 (k : Nat) : LoopOk Tryz.prog (S k) (lp (bodyF (Go.Proofs.Tryz.f44)) 0) := loopOk_mk (C := C k) (hC k) (Loops.all (n := 0) (by kernel_rfl) trivial) (lt := t3) (den := e3 k) (by kernel_rfl) (N := Row) (A := (Int × Int)) (R := Int)
 (fun n x => a3 n x) (fun n r => o3_0 n r) (fun n x => s3 k n x) k (fun d => (d.r.getD 0 [])) (fun d => ((aI (aN d.a 1)), (aI (aN d.a 2)))) (fun d y h => out1_eval h) (fun d => by kernel_rfl) (fun n x => by kernel_rfl) (fun n r => ⟨_, rfl⟩)
theorem ok (k : Nat) : FunOk Tryz.prog 44 (d k) := fun_mk (C := C k) (hC k) (S := S k) Tryz.func44 (by kernel_rfl) (by kernel_rfl) (Loops.all (n := 1) (by kernel_rfl) ⟨trivial, l3 k⟩) (fun as_ => by kernel_rfl)
end ref33_restarts
namespace ref13_Key
noncomputable def C (k : Nat) : Cx := ⟨Tryz.prog, tab [], [], [], tab []⟩
noncomputable def S (k : Nat) : Subs := fun n => none
noncomputable def f (k : Nat) (a0 : ByteArray) (a1 : ByteArray) (a2 : ByteArray) : T ByteArray :=
  .test (sOk (sLen a0) (sLen (bs [47])))
   (.test (sOk (sLen (sCat a0 (bs [47]))) (sLen a1))
    (.test (sOk (sLen (sCat (sCat a0 (bs [47])) a1)) (sLen (bs [47])))
     (.test (sOk (sLen (sCat (sCat (sCat a0 (bs [47])) a1) (bs [47]))) (sLen a2))
      (.ret (sCat (sCat (sCat (sCat a0 (bs [47])) a1) (bs [47])) a2))
      (.fail))
     (.fail))
    (.fail))
   (.fail)
noncomputable def d (k : Nat) : Fun := mkFun [9, 9, 9] (fun as_ => f k (vStr (vN as_ 0)) (vStr (vN as_ 1)) (vStr (vN as_ 2))) default (fun r => .str r)
theorem hC (k : Nat) : CxOk (C k) := CxOk.nil
theorem ok (k : Nat) : FunOk Tryz.prog 45 (d k) := fun_mk (C := C k) (hC k) (S := S k) Tryz.func45 (by kernel_rfl) (by kernel_rfl) (Loops.all (n := 0) (by kernel_rfl) trivial) (fun as_ => by kernel_rfl)
end ref13_Key
namespace ref13_KeyOf
noncomputable def C (k : Nat) : Cx := ⟨Tryz.prog, tab [(45, ref13_Key.d k)], [], [], tab []⟩
noncomputable def S (k : Nat) : Subs := fun n => none
noncomputable def f (k : Nat) (a0 : Row) : T ByteArray :=
  .bnd (ref13_Key.f k (rStr a0 0) (rStr a0 1) (rStr a0 2)).eval default fun r0 =>
  .ret r0
noncomputable def d (k : Nat) : Fun := mkFun [28] (fun as_ => f k (vRow (vN as_ 0))) default (fun r => .str r)
theorem hC (k : Nat) : CxOk (C k) := CxOk.cons (p := (45, ref13_Key.d k)) (ref13_Key.ok k) (CxOk.nil)
theorem ok (k : Nat) : FunOk Tryz.prog 24 (d k) := fun_mk (C := C k) (hC k) (S := S k) Tryz.func24 (by kernel_rfl) (by kernel_rfl) (Loops.all (n := 0) (by kernel_rfl) trivial) (fun as_ => by kernel_rfl)
end ref13_KeyOf
namespace ref33_Less
noncomputable def C (k : Nat) : Cx := ⟨Tryz.prog, tab [(44, ref33_restarts.d k), (24, ref13_KeyOf.d k)], [], [], tab []⟩
noncomputable def S (k : Nat) : Subs := fun n => none
noncomputable def f (k : Nat) (a0 : Row) (a1 : Row) : T Bool :=
  .test (bNot (bEq (sEq (rStr a0 13) ByteArray.empty) (sEq (rStr a1 13) ByteArray.empty)))
   (.ret (sEq (rStr a0 13) ByteArray.empty))
   (.test (bNot (iEq (rInt a0 23) (rInt a1 23)))
    (.ret (iLt (rInt a0 23) (rInt a1 23)))
    (.test (bNot (bEq (rBool a0 24) (rBool a1 24)))
     (.ret (bNot (rBool a0 24)))
     (.test (bIte (rBool a0 24) (bNot (iEq (rInt a0 25) (rInt a1 25))) false)
      (.ret (iLt (rInt a1 25) (rInt a0 25)))
      (.bnd (ref33_restarts.f k (et 40 a0)).eval default fun r0 =>
      .bnd (ref33_restarts.f k (et 40 a1)).eval default fun r1 =>
      .test (bNot (iEq r0 r1))
       (.bnd (ref33_restarts.f k (et 40 a0)).eval default fun r2 =>
       .bnd (ref33_restarts.f k (et 40 a1)).eval default fun r3 =>
       .ret (iLt r3 r2))
       (.test (bNot (iEq (rInt a0 6) (rInt a1 6)))
        (.ret (iLt (rInt a1 6) (rInt a0 6)))
        (.bnd (ref13_KeyOf.f k (et 28 a0)).eval default fun r4 =>
        .bnd (ref13_KeyOf.f k (et 28 a1)).eval default fun r5 =>
        .ret (sLt r4 r5)))))))
noncomputable def d (k : Nat) : Fun := mkFun [40, 40] (fun as_ => f k (vRow (vN as_ 0)) (vRow (vN as_ 1))) default (fun r => .bool r)
theorem hC (k : Nat) : CxOk (C k) := CxOk.cons (p := (44, ref33_restarts.d k)) (ref33_restarts.ok k) (CxOk.cons (p := (24, ref13_KeyOf.d k)) (ref13_KeyOf.ok k) (CxOk.nil))
theorem ok (k : Nat) : FunOk Tryz.prog 23 (d k) := fun_mk (C := C k) (hC k) (S := S k) Tryz.func23 (by kernel_rfl) (by kernel_rfl) (Loops.all (n := 0) (by kernel_rfl) trivial) (fun as_ => by kernel_rfl)
end ref33_Less
namespace law33_PodOrder
noncomputable def C (k : Nat) : Cx := ⟨Tryz.prog, tab [(9, law19_SmallPod.d k), (10, law33_lv.d k), (22, pod_Less.d k), (23, ref33_Less.d k)], [], [], tab []⟩
noncomputable def S (k : Nat) : Subs := fun n => none
noncomputable def f (k : Nat) (a0 : Row) (a1 : Row) : T Bool :=
  .bnd (law19_SmallPod.f k (et 40 a0)).eval default fun r0 =>
  .opt (bNot (bNot r0)) (law19_SmallPod.f k (et 40 a1)).eval default fun r1 =>
  .test (bIte (bIte (bIte (bNot r0) true (bNot r1)) true (iLt (40) (rLen (rSl a0 28)))) true (iLt (40) (rLen (rSl a1 28))))
   (.bnd (law33_lv.f k).eval default fun r2 =>
   .ret r2)
   (.bnd (pod_Less.f k (et 40 a0) (et 40 a1)).eval default fun r3 =>
   .bnd (ref33_Less.f k (et 40 a0) (et 40 a1)).eval default fun r4 =>
   .opt (bEq r3 r4) (law33_lv.f k).eval default fun r5 =>
   .ret (bIte (bEq r3 r4) r5 false))
noncomputable def d (k : Nat) : Fun := mkFun [40, 40] (fun as_ => f k (vRow (vN as_ 0)) (vRow (vN as_ 1))) default (fun r => .bool r)
theorem hC (k : Nat) : CxOk (C k) := CxOk.cons (p := (9, law19_SmallPod.d k)) (law19_SmallPod.ok k) (CxOk.cons (p := (10, law33_lv.d k)) (law33_lv.ok k) (CxOk.cons (p := (22, pod_Less.d k)) (pod_Less.ok k) (CxOk.cons (p := (23, ref33_Less.d k)) (ref33_Less.ok k) (CxOk.nil))))
theorem ok (k : Nat) : FunOk Tryz.prog 5 (d k) := fun_mk (C := C k) (hC k) (S := S k) Tryz.func5 (by kernel_rfl) (by kernel_rfl) (Loops.all (n := 0) (by kernel_rfl) trivial) (fun as_ => by kernel_rfl)
end law33_PodOrder
namespace law33_PodRank
noncomputable def C (k : Nat) : Cx := ⟨Tryz.prog, tab [(9, law19_SmallPod.d k), (10, law33_lv.d k), (22, pod_Less.d k), (24, ref13_KeyOf.d k)], [], [], tab []⟩
noncomputable def t2 : LoopT := ⟨⟨130, [], [(3, .ptr 3 0), (4, .ptr 4 0), (5, .ptr 5 0), (12, .sl 40 none), (13, .int .i64), (14, .int .i64)], [], [(3, 40), (4, 40), (5, 40)], []⟩, (fun | .ret => some ⟨130, [], [(6, .bool)], [], [], []⟩ | .exit 0 => some ⟨130, [], [(3, .ptr 3 0), (4, .ptr 4 0), (5, .ptr 5 0)], [], [(3, 40), (4, 40), (5, 40)], []⟩ | _ => none)⟩
noncomputable def s2 (k : Nat) (c0 : Rows) (c1 : Int) (c2 : Row) (c3 : Row) (c4 : Row) (x : Int) : T (Int ⊕ (Bool ⊕ Unit)) :=
  .test (iLt x c1)
   (.test (iIn x (rLen c0))
    (.bnd (law19_SmallPod.f k (et 40 (rAt c0 x))).eval default fun r0 =>
    .test (bIte (bNot r0) true (iLt (40) (rLen (rSl (rAt c0 x) 28))))
     (.bnd (law33_lv.f k).eval default fun r1 =>
     .ret (.inr (.inl r1)))
     (.ret (.inl (iAdd .i64 x (1)))))
    (.fail))
   (.ret (.inr (.inr ())))
noncomputable def a2 (c0 : Rows) (c1 : Int) (c2 : Row) (c3 : Row) (c4 : Row) (x : Int) : Dt := ⟨[.u, .u, .u, .r c0, .i c1, .i x], [], [et 40 c2, et 40 c3, et 40 c4], []⟩
noncomputable def o2_0 (c0 : Rows) (c1 : Int) (c2 : Row) (c3 : Row) (c4 : Row) (r : Bool) : X × Dt := (.ret, ⟨[.b r], [], [], []⟩)
noncomputable def o2_1 (c0 : Rows) (c1 : Int) (c2 : Row) (c3 : Row) (c4 : Row) (r : Unit) : X × Dt := (.exit 0, ⟨[.u, .u, .u], [], [(et 40 c2), (et 40 c3), (et 40 c4)], []⟩)
noncomputable def e2 (k : Nat) (d : Dt) : T (X × Dt) := out2 (iter (s2 k (aR (aN d.a 3)) (aI (aN d.a 4)) (d.r.getD 0 []) (d.r.getD 1 []) (d.r.getD 2 [])) k (aI (aN d.a 5))) (o2_0 (aR (aN d.a 3)) (aI (aN d.a 4)) (d.r.getD 0 []) (d.r.getD 1 []) (d.r.getD 2 [])) (o2_1 (aR (aN d.a 3)) (aI (aN d.a 4)) (d.r.getD 0 []) (d.r.getD 1 []) (d.r.getD 2 []))
noncomputable def S (k : Nat) : Subs := fun n => bif Nat.beq n 2 then some (loopV Tryz.prog t2 (e2 k)) else none
noncomputable def f (k : Nat) (a0 : Row) (a1 : Row) (a2 : Row) : T Bool :=
  .cas (iter (law33_PodRank.s2 k [(et 40 a0), (et 40 a1), (et 40 a2)] (rLen [(et 40 a0), (et 40 a1), (et 40 a2)]) (et 40 a0) (et 40 a1) (et 40 a2)) k (0)) (fun r0 =>
   .ret r0) (fun r1 =>
   .bnd (pod_Less.f k (et 40 a0) (et 40 a0)).eval default fun r2 =>
   .opt (bNot r2) (pod_Less.f k (et 40 a0) (et 40 a1)).eval default fun r3 =>
   .opt (bAnd (bNot r2) r3) (pod_Less.f k (et 40 a1) (et 40 a0)).eval default fun r4 =>
   .opt (bNot (bIte r2 true (bIte r3 r4 false))) (pod_Less.f k (et 40 a0) (et 40 a1)).eval default fun r5 =>
   .opt (bAnd (bNot (bIte r2 true (bIte r3 r4 false))) r5) (pod_Less.f k (et 40 a1) (et 40 a2)).eval default fun r6 =>
   .opt (bAnd (bNot (bIte r2 true (bIte r3 r4 false))) (bIte r5 r6 false)) (pod_Less.f k (et 40 a0) (et 40 a2)).eval default fun r7 =>
   .test (bIte (bIte r2 true (bIte r3 r4 false)) true (bIte (bIte r5 r6 false) (bNot r7) false))
    (.ret false)
    (.bnd (pod_Less.f k (et 40 a0) (et 40 a2)).eval default fun r8 =>
    .opt r8 (pod_Less.f k (et 40 a0) (et 40 a1)).eval default fun r9 =>
    .opt (bIte r8 (bNot r9) false) (pod_Less.f k (et 40 a1) (et 40 a2)).eval default fun r10 =>
    .test (bIte (bIte r8 (bNot r9) false) (bNot r10) false)
     (.ret false)
     (.bnd (ref13_KeyOf.f k (et 28 a0)).eval default fun r11 =>
     .bnd (ref13_KeyOf.f k (et 28 a1)).eval default fun r12 =>
     .opt (bNot (sEq r11 r12)) (pod_Less.f k (et 40 a0) (et 40 a1)).eval default fun r13 =>
     .opt (bIte (bNot (sEq r11 r12)) (bNot r13) false) (pod_Less.f k (et 40 a1) (et 40 a0)).eval default fun r14 =>
     .test (bIte (bIte (bNot (sEq r11 r12)) (bNot r13) false) (bNot r14) false)
      (.ret false)
      (.opt (bIte (bIte (bIte (bIte (bNot (sEq (rStr a0 13) ByteArray.empty)) (bNot (sEq (rStr a1 13) ByteArray.empty)) false) (iEq (rInt a0 23) (rInt a1 23)) false) (bNot (rBool a0 24)) false) (rBool a1 24) false) (pod_Less.f k (et 40 a0) (et 40 a1)).eval default fun r15 =>
      .test (bIte (bIte (bIte (bIte (bIte (bNot (sEq (rStr a0 13) ByteArray.empty)) (bNot (sEq (rStr a1 13) ByteArray.empty)) false) (iEq (rInt a0 23) (rInt a1 23)) false) (bNot (rBool a0 24)) false) (rBool a1 24) false) (bNot r15) false)
       (.ret false)
       (.bnd (law33_lv.f k).eval default fun r16 =>
       .ret r16)))))
noncomputable def d (k : Nat) : Fun := mkFun [40, 40, 40] (fun as_ => f k (vRow (vN as_ 0)) (vRow (vN as_ 1)) (vRow (vN as_ 2))) default (fun r => .bool r)
theorem hC (k : Nat) : CxOk (C k) := CxOk.cons (p := (9, law19_SmallPod.d k)) (law19_SmallPod.ok k) (CxOk.cons (p := (10, law33_lv.d k)) (law33_lv.ok k) (CxOk.cons (p := (22, pod_Less.d k)) (pod_Less.ok k) (CxOk.cons (p := (24, ref13_KeyOf.d k)) (ref13_KeyOf.ok k) (CxOk.nil))))
theorem l2 (k : Nat) : LoopOk Tryz.prog (S k) (lp (bodyF (Go.Proofs.Tryz.f6)) 0) := loopOk_mk (C := C k) (hC k) (Loops.all (n := 0) (by kernel_rfl) trivial) (lt := t2) (den := e2 k) (by kernel_rfl) (N := (Rows × Int × Row × Row × Row)) (A := Int) (R := (Bool ⊕ Unit))
 (fun n x => a2 n.1 n.2.1 n.2.2.1 n.2.2.2.1 n.2.2.2.2 x) (fun n r => Sum.elim (o2_0 n.1 n.2.1 n.2.2.1 n.2.2.2.1 n.2.2.2.2) (o2_1 n.1 n.2.1 n.2.2.1 n.2.2.2.1 n.2.2.2.2) r) (fun n x => s2 k n.1 n.2.1 n.2.2.1 n.2.2.2.1 n.2.2.2.2 x) k (fun d => ((aR (aN d.a 3)), (aI (aN d.a 4)), (d.r.getD 0 []), (d.r.getD 1 []), (d.r.getD 2 []))) (fun d => (aI (aN d.a 5))) (fun d y h => out2_eval h) (fun d => by kernel_rfl) (fun n x => by kernel_rfl) (fun n r => by rcases r with r | r <;> exact ⟨_, rfl⟩)
theorem ok (k : Nat) : FunOk Tryz.prog 6 (d k) := fun_mk (C := C k) (hC k) (S := S k) Tryz.func6 (by kernel_rfl) (by kernel_rfl) (Loops.all (n := 1) (by kernel_rfl) ⟨trivial, l2 k⟩) (fun as_ => by kernel_rfl)
end law33_PodRank
end Go.Proofs.YthnkchbcinlnnaaGreatDoor.Ev
