/- Operations in any order that the edges leave. Conditions: stated at each. -/
import Derived.Test.YtolackmpfnndhaaGreatDoorSnd7
namespace Go.Proofs.YtolackmpfnndhaaGreatDoor.Ev
open Go Go.RowKit
set_option linter.unusedVariables false
set_option linter.unusedSimpArgs false
variable {P : Program}
/-- Two states that look alike to an operation. -/
structure Like (L : List (Nat × Bool)) (o : Oper) (s r : St) : Prop where
  ev : ∀ x, x ∈ o.op.operands → ∀ M, ev s.ts M x = Ev.ev r.ts M x
  hs : ∀ n w, (n, w) ∈ fpO L s.ts o → s.hs.getD n none = r.hs.getD n none
  len : s.hs.length = r.hs.length
theorem Like.args {L : List (Nat × Bool)} {o : Oper} {s r : St} (h : Like L o s r) {cl : Call} (hop : o.op = .call cl) (M : List (Nat × Bool)) : cl.args.toList.map (Ev.ev s.ts M) = cl.args.toList.map (Ev.ev r.ts M) := by
  refine List.map_congr_left fun x hx => h.ev x ?_ M
  rw [hop]
  simp only [Op.operands, Call.operands]
  exact Array.mem_append.2 (Or.inr (Array.mem_toList_iff.1 hx))
theorem Like.parts {L : List (Nat × Bool)} {o : Oper} {s r : St} (h : Like L o s r) {ps : Array (Nat × Operand)} (hop : o.op.operands = (ps.toList.map (·.2)).toArray) (M : List (Nat × Bool)) : (ps.toList.map fun p => (p.1, Ev.ev s.ts M p.2)) = (ps.toList.map fun p => (p.1, Ev.ev r.ts M p.2)) := by
  refine List.map_congr_left fun p hp => ?_
  rw [h.ev p.2 (by rw [hop]; simp; exact ⟨p.1, by simpa using hp⟩) M]
theorem pureV_like {L : List (Nat × Bool)} {o : Oper} {s r : St} (h : Like L o s r) (ops : List Oper) : pureV P ops s.ts s.hs L o.op = pureV P ops r.ts r.hs L o.op := by
  have e := h.ev
  have hh := h.hs
  cases hop : o.op with
  | load t a =>
    have e1 := e a (by simp [hop, Op.operands])
    simp only [pureV]
    rw [← e1 L]
    cases hv : Ev.ev s.ts L a with
    | optr b off =>
      have : s.hs.getD b none = r.hs.getD b none := hh b false (by simp [fpO, hop, hv])
      simp only [getB, this]
    | eptr el b v i off =>
      have : s.hs.getD b none = r.hs.getD b none := hh b false (by simp [fpO, hop, hv])
      simp only [getA, this]
    | _ => rfl
  | build t parts => simp only [pureV]; rw [h.parts (by rw [hop]; rfl) L]
  | call cl => simp only [pureV]; rw [h.args hop L]
  | slice t x lo hi mx =>
    have e1 := e x (by simp [hop, Op.operands])
    have e2 : lo.map (Ev.ev s.ts L) = lo.map (Ev.ev r.ts L) := by
      cases lo with
      | none => rfl
      | some y => simp only [Option.map_some]; rw [e y (by simp [hop, Op.operands]) L]
    have e3 : hi.map (Ev.ev s.ts L) = hi.map (Ev.ev r.ts L) := by
      cases hi with
      | none => rfl
      | some y => simp only [Option.map_some]; rw [e y (by simp [hop, Op.operands]) L]
    cases mx with
    | none => simp only [pureV, e1, e2, e3]
    | some m => simp only [pureV, e1, e2, e3, e m (by simp [hop, Op.operands])]
  | makeFunc f first caps =>
    have e1 : caps.toList.map (Ev.ev s.ts L) = caps.toList.map (Ev.ev r.ts L) := List.map_congr_left fun x hx => e x (by simp [hop, Op.operands]; exact Or.inr (Array.mem_toList_iff.1 hx)) L
    cases f <;> simp only [pureV, e1]
  | pick c a b =>
    have e1 := e c (by simp [hop, Op.operands])
    have e2 := e a (by simp [hop, Op.operands])
    have e3 := e b (by simp [hop, Op.operands])
    cases c <;> simp only [pureV, e1, e2, e3]
  | move x => have e1 := e x (by simp [hop, Op.operands]); simp only [pureV, e1]
  | assign x => have e1 := e x (by simp [hop, Op.operands]); simp only [pureV, e1]
  | nilCheck x => have e1 := e x (by simp [hop, Op.operands]); simp only [pureV, e1]
  | unOp op t x => have e1 := e x (by simp [hop, Op.operands]); simp only [pureV, e1]
  | extract x i => have e1 := e x (by simp [hop, Op.operands]); simp only [pureV, e1]
  | fieldAddr t x f => have e1 := e x (by simp [hop, Op.operands]); simp only [pureV, e1]
  | field t x f => have e1 := e x (by simp [hop, Op.operands]); simp only [pureV, e1]
  | convert a b x => have e1 := e x (by simp [hop, Op.operands]); simp only [pureV, e1]
  | binOp op t x y u => have e1 := e x (by simp [hop, Op.operands]); have e2 := e y (by simp [hop, Op.operands]); simp only [pureV, e1, e2]
  | indexAddr t x y => have e1 := e x (by simp [hop, Op.operands]); have e2 := e y (by simp [hop, Op.operands]); simp only [pureV, e1, e2]
  | index t x y => have e1 := e x (by simp [hop, Op.operands]); have e2 := e y (by simp [hop, Op.operands]); simp only [pureV, e1, e2]
  | entry x =>
    have e1 := e x (by simp [hop, Op.operands])
    simp only [pureV]
    rw [← e1 L]
    cases hv : Ev.ev s.ts L x with
    | it d m =>
      have h1 : s.hs.getD d none = r.hs.getD d none := hh d false (by simp [fpO, hop, hv])
      have h2 : s.hs.getD m none = r.hs.getD m none := hh m false (by simp [fpO, hop, hv])
      have g1 : getI s.hs d = getI r.hs d := by unfold getI; rw [h1]
      have g2 : getQ s.hs m = getQ r.hs m := by unfold getQ; rw [h2]
      simp only [g1, g2]
    | _ => rfl
  | lookup t x y ok =>
    have e1 := e x (by simp [hop, Op.operands])
    have e2 := e y (by simp [hop, Op.operands])
    simp only [pureV]
    rw [← e1 L, ← e2 L]
    cases mapE P t with
    | none => rfl
    | some e0 =>
      cases hv : Ev.ev s.ts L x with
      | mref n =>
        have : s.hs.getD n none = r.hs.getD n none := hh n false (by simp [fpO, hop, hv])
        have hg : getQ s.hs n = getQ r.hs n := by unfold getQ; rw [this]
        cases Ev.ev s.ts L y <;> first | rfl | simp only [hg]
      | _ => rfl
  | _ => rfl
theorem lend0_like {hs hs' : List (Option Blk)} {x : V} (h : ∀ n, n ∈ slots0 x → hs.getD n none = hs'.getD n none) : lend0 hs x = lend0 hs' x := by
  cases x with
  | aref t n v lo len =>
    have : getA hs n = getA hs' n := by unfold getA; rw [h n (by simp [slots0])]
    simp only [lend0, this]
  | _ => rfl
theorem lendV_like {hs hs' : List (Option Blk)} {x : V} (h : ∀ n, n ∈ slotsV x → hs.getD n none = hs'.getD n none) : lendV hs x = lendV hs' x := by
  cases x with
  | agg cs =>
    show V.agg (cs.map (lend0 hs)) = V.agg (cs.map (lend0 hs'))
    congr 1
    exact List.map_congr_left (fun y hy => lend0_like (fun n hn => h n (List.mem_flatMap.2 ⟨y, hy, hn⟩)))
  | aref t n v lo len =>
    show lend0 hs (.aref t n v lo len) = lend0 hs' (.aref t n v lo len)
    exact lend0_like h
  | _ => rfl
theorem partM_like {hs hs' : List (Option Blk)} {ms : List Nat} {d : Nat} {M : FunM} {xs caps : List V} (h : ∀ n, n ∈ xs.flatMap slotsV → hs.getD n none = hs'.getD n none) (hd : hs.getD d none = hs'.getD d none) (hl : hs.length = hs'.length) : partM P hs ms d M xs caps = partM P hs' ms d M xs caps := by
  unfold partM
  rw [hd, hl]
  cases M.lent with
  | false => rfl
  | true =>
    simp only [cond_true]
    cases xs with
    | nil => rfl
    | cons x xs =>
      cases x with
      | aref el n v lo len =>
        have : getA hs n = getA hs' n := by unfold getA; rw [h n (by simp [slotsV, slots0])]
        cases lo with
        | none => simp only [this]
        | some l => rfl
      | _ => rfl
theorem armM_slot {C : Cx} {s : St} {L : List (Nat × Bool)} {dst : Option Nat} {f : Nat} {xs caps : List V} {M : FunM} {q : Nat × Nat × Rows × List V} (hM : armM C s L dst f xs caps = some (M, q)) : L = [] ∧ (q.1 ∈ xs.flatMap slotsV ∨ dst = some q.1) := by
  unfold armM at hM
  split at hM
  case h_2 => cases hM
  rename_i d
  refine ⟨rfl, ?_⟩
  rw [Option.bind_eq_some_iff] at hM
  obtain ⟨M', hfm, hM⟩ := hM
  rw [Option.map_eq_some_iff] at hM
  obtain ⟨q', hq, e⟩ := hM
  injection e with e1 e2; subst e1; subst e2
  unfold partM at hq
  rw [cond_eq_ite] at hq
  split at hq
  · split at hq
    · split at hq
      · rw [cond_eq_ite] at hq
        split at hq
        · rw [Option.map_eq_some_iff] at hq
          obtain ⟨as, _, hq⟩ := hq
          rw [← hq]
          exact Or.inl (by simp [slotsV, slots0])
        · cases hq
      · cases hq
    · cases hq
  · rw [cond_eq_ite] at hq
    split at hq
    · split at hq
      · rw [Option.map_eq_some_iff] at hq
        obtain ⟨as, _, hq⟩ := hq
        rw [← hq]
        exact Or.inr rfl
      · cases hq
    · cases hq
theorem callV_like {C : Cx} {s r : St} {L : List (Nat × Bool)} {c : Bool} {dst : Option Nat} {f : Nat} {xs caps : List V} (h : L = [] → ∀ n, n ∈ xs.flatMap slotsV → s.hs.getD n none = r.hs.getD n none) (hd : ∀ d, dst = some d → s.hs.getD d none = r.hs.getD d none) (hl : s.hs.length = r.hs.length) : callV C s L c dst f xs caps = callV C r L c dst f xs caps := by
  unfold callV
  have e1 : armM C s L dst f xs caps = armM C r L dst f xs caps := by
    unfold armM
    cases L with
    | cons p L => rfl
    | nil => cases dst with
      | none => rfl
      | some d =>
        simp only []
        congr 1
        funext M
        rw [partM_like (h rfl) (hd d rfl) hl]
  rw [e1]
  cases ha : armM C r L dst f xs caps with
  | some Mq =>
    obtain ⟨M, q⟩ := Mq
    obtain ⟨hL, hq⟩ := armM_slot ha
    have hg : getA s.hs q.1 = getA r.hs q.1 := by
      unfold getA
      rcases hq with hq | hq
      · rw [h hL _ hq]
      · rw [hd _ hq]
    simp only [hg]
  | none =>
    cases L with
    | cons p L => rfl
    | nil =>
      have e2 : xs.map (lendV s.hs) = xs.map (lendV r.hs) := List.map_congr_left (fun x hx => lendV_like (fun n hn => h rfl n (List.mem_flatMap.2 ⟨x, hx, hn⟩)))
      rw [e2]
theorem clearV_like {C : Cx} {s r : St} {L : List (Nat × Bool)} {dst : Option Nat} {cl : Call} (he : cl.args.toList.map (Ev.ev s.ts []) = cl.args.toList.map (Ev.ev r.ts [])) (h : ∀ n, n ∈ (cl.args.toList.map (Ev.ev s.ts [])).flatMap slotsV → s.hs.getD n none = r.hs.getD n none) : clearV C s L dst cl = clearV C r L dst cl := by
  unfold clearV
  rw [← he]
  generalize hq : cl.args.toList.map (Ev.ev s.ts []) = q at h
  generalize (cl.argTypes[0]?).bind (elemT C.P) = q1
  match L, q1, q, dst with
  | [], some el, [.aref el' n v lo len], none =>
    have : getA s.hs n = getA r.hs n := by unfold getA; rw [h n (by simp [slotsV, slots0])]
    simp only [this]
  | p :: L, _, _, _ => rfl
  | [], none, _, _ => rfl
  | [], some _, [], _ => rfl
  | [], some _, x :: y :: l, _ => cases x <;> rfl
  | [], some _, [x], some _ => cases x <;> rfl
  | [], some _, [.dead], none => rfl
  | [], some _, [.bool _], none => rfl
  | [], some _, [.int _ _], none => rfl
  | [], some _, [.str _], none => rfl
  | [], some _, [.nils], none => rfl
  | [], some _, [.agg _], none => rfl
  | [], some _, [.tuple _], none => rfl
  | [], some _, [.slice _ _ _], none => rfl
  | [], some _, [.optr _ _], none => rfl
  | [], some _, [.sref _ _ _], none => rfl
  | [], some _, [.rptr _], none => rfl
  | [], some _, [.fn _ _], none => rfl
  | [], some _, [.mref _], none => rfl
  | [], some _, [.it _ _], none => rfl
  | [], some _, [.eptr _ _ _ _ _], none => rfl
  | [], some _, [.when _ _ _], none => rfl
theorem callV_turns {C : Cx} {s : St} {c : Bool} {dst : Option Nat} {f : Nat} {xs caps : List V} {dl : Dl} (h : (callV C s [] c dst f xs caps).eval = some dl) {n : Nat} {b : Blk} (hb : dl.b = some (n, b)) : n ∈ xs.flatMap slotsV ∨ dst = some n := by
  unfold callV at h
  rw [cond_eq_ite] at h
  split at h
  case isFalse => cases h
  split at h
  · rename_i M q hM
    have hn : q.1 = n := by
      cases hu : M.unit with
      | false =>
        rw [hu] at h
        obtain ⟨r, h1, h2⟩ := T.eval_bind _ _ h
        simp [T.eval] at h2
        rw [← h2] at hb
        simp at hb
        exact hb.1
      | true =>
        rw [hu] at h
        simp only [cond_true] at h
        split at h
        · obtain ⟨_, h⟩ := T.test_eval h
          obtain ⟨r, h1, h2⟩ := T.eval_bind _ _ h
          simp [T.eval] at h2
          rw [← h2] at hb
          simp at hb
          exact hb.1
        · cases h
    subst hn
    exact (armM_slot hM).2
  · split at h
    · split at h
      · obtain ⟨r, h1, h2⟩ := T.eval_bind _ _ h
        simp [T.eval] at h2; rw [← h2] at hb; cases hb
      · split at h
        · obtain ⟨r, h1, h2⟩ := T.eval_bind _ _ h
          rw [cond_eq_ite] at h2
          split at h2
          · simp [T.eval] at h2; rw [← h2] at hb; cases hb
          · cases h2
        · cases h
    · cases h
theorem clearV_turns {C : Cx} {s : St} {dst : Option Nat} {cl : Call} {dl : Dl} (h : (clearV C s [] dst cl).eval = some dl) {n : Nat} {b : Blk} (hb : dl.b = some (n, b)) : n ∈ (cl.args.toList.map (Ev.ev s.ts [])).flatMap slotsV := by
  unfold clearV at h
  split at h
  · rename_i el el' m v lo len _ _ hx
    split at h
    · rw [cond_eq_ite] at h
      split at h
      · simp [T.eval] at h; rw [← h] at hb; simp at hb
        rw [hx]; simp [slotsV, slots0, hb.1]
      · cases h
    · cases h
  · cases h
theorem opD_like {C : Cx} {ops : List Oper} {L : List (Nat × Bool)} {c : Bool} {o : Oper} {s r : St} (h : Like L o s r) : opD C ops L c s o = opD C ops L c r o := by
  have e := h.ev
  have hh := h.hs
  unfold opD
  rw [pureV_like (P := C.P) h ops]
  cases hp : pureV C.P ops r.ts r.hs L o.op with
  | some x => rfl
  | none =>
    simp only []
    cases hop : o.op with
    | alloc t =>
      cases L with
      | cons p L => rfl
      | nil => cases hd : o.dst with
        | none => rfl
        | some d =>
          have : s.hs.getD d none = r.hs.getD d none := hh d true (by simp [fpO, hop, hd])
          simp only [this, h.len]
    | box t x =>
      have e1 := e x (by simp [hop, Op.operands])
      cases L with
      | cons p L => rfl
      | nil => cases hd : o.dst with
        | none => rfl
        | some d =>
          have : s.hs.getD d none = r.hs.getD d none := hh d true (by simp [fpO, hop, hd])
          simp only [this, h.len, e1]
    | buildSlice t len parts =>
      cases hd : o.dst with
      | none => simp only [h.parts (show o.op.operands = _ by rw [hop]; rfl)]
      | some d =>
        have : s.hs.getD d none = r.hs.getD d none := hh d true (by simp [fpO, hop, hd])
        cases L <;> simp only [h.parts (show o.op.operands = _ by rw [hop]; rfl), this, h.len]
    | store t a x =>
      have e1 := e a (by simp [hop, Op.operands])
      have e2 := e x (by simp [hop, Op.operands])
      cases L with
      | cons p L => rfl
      | nil => cases hd : o.dst with
        | some d => rfl
        | none =>
          simp only [← e1, ← e2]
          cases hv : Ev.ev s.ts [] a with
          | optr b off =>
            have : s.hs.getD b none = r.hs.getD b none := hh b true (by simp [fpO, hop, hv])
            have hb : getB s.hs b = getB r.hs b := by unfold getB; rw [this]
            cases sizeT C.P t <;> cases cellsV (Ev.ev s.ts [] x) <;> simp only [hb]
          | eptr el b v i off =>
            have : s.hs.getD b none = r.hs.getD b none := hh b true (by simp [fpO, hop, hv])
            have hb : getA s.hs b = getA r.hs b := by unfold getA; rw [this]
            cases sizeT C.P t <;> cases cellsV (Ev.ev s.ts [] x) <;> simp only [hb]
          | _ => rfl
    | makeSlice t len cap =>
      have e1 := e len (by simp [hop, Op.operands])
      have e2 := e cap (by simp [hop, Op.operands])
      cases L with
      | cons p L => rfl
      | nil => cases hd : o.dst with
        | none => rfl
        | some d =>
          have : s.hs.getD d none = r.hs.getD d none := hh d true (by simp [fpO, hop, hd])
          simp only [this, h.len, e1, e2]
    | call cl =>
      have e1 := h.args hop
      have e2 : ∀ g, cl.callee = .value g → Ev.ev s.ts L g = Ev.ev r.ts L g := fun g hg => e g (by simp [hop, Op.operands, Call.operands, hg]) L
      have hslot : ∀ n, n ∈ (cl.args.toList.map (Ev.ev s.ts [])).flatMap slotsV → s.hs.getD n none = r.hs.getD n none := by
        intro n hn
        refine hh n true ?_
        simp only [fpO, hop]
        exact List.mem_append.2 (Or.inl (List.mem_append.2 (Or.inr (List.mem_map.2 ⟨n, hn, rfl⟩))))
      have hdst : ∀ d, o.dst = some d → s.hs.getD d none = r.hs.getD d none := by
        intro d hd
        refine hh d true ?_
        simp [fpO, hop, hd]
      have hval : ∀ f xs caps, (xs = cl.args.toList.map (Ev.ev s.ts L)) → callV C s L c o.dst f xs caps = callV C r L c o.dst f xs caps := by
        intro f xs caps hx
        refine callV_like (fun hL n hn => ?_) hdst h.len
        subst hL; subst hx
        exact hslot n hn
      have hclr : clearV C s L o.dst cl = clearV C r L o.dst cl := clearV_like (e1 []) hslot
      have hv : ∀ g, cl.callee = .value g → (match Ev.ev s.ts L g with | .fn f caps => callV C s L c o.dst f (cl.args.toList.map (Ev.ev s.ts L)) caps | _ => T.fail) = (match Ev.ev r.ts L g with | .fn f caps => callV C r L c o.dst f (cl.args.toList.map (Ev.ev r.ts L)) caps | _ => T.fail) := by
        intro g hg
        rw [← e2 g hg, ← e1 L]
        cases Ev.ev s.ts L g with
        | fn f caps => exact hval f _ caps rfl
        | _ => rfl
      simp only [h.len]
      rw [← e1 []]
      cases hd : o.dst with
      | none =>
        rw [hd] at hv hclr
        cases hcl : cl.callee with
        | builtin b =>
          cases b <;> first
            | rfl
            | exact hclr
            | (simp only []
               generalize cl.args.toList.map (Ev.ev s.ts []) = q
               generalize (cl.argTypes[0]?).bind (elemT C.P) = q1
               generalize (cl.argTypes[1]?).bind (elemT C.P) = q2
               match L, q1, q2, q with
               | [], some _, some _, [x, y] => rfl
               | [], none, _, _ => rfl
               | [], some _, none, _ => rfl
               | [], some _, some _, [] => rfl
               | [], some _, some _, [x] => rfl
               | [], some _, some _, x :: y :: z :: l => rfl
               | p :: L, _, _, _ => rfl)
        | value f => exact hv f hcl
        | invoke _ _ => rfl
      | some d =>
        rw [hd] at hv hclr
        have hdd : s.hs.getD d none = r.hs.getD d none := hdst d hd
        have happ : ∀ el fs x y, cl.args.toList.map (Ev.ev s.ts []) = [x, y] → appV s.hs C.ms d el fs x = appV r.hs C.ms d el fs x := by
          intro el fs x y hx
          unfold appV
          cases x with
          | nils => simp only [hdd]
          | slice el' es k =>
            cases k with
            | full => simp only [hdd]
            | fullq b => simp only [hdd]
            | «open» => rfl
            | nilq b => rfl
            | own n v =>
              have : s.hs.getD n none = r.hs.getD n none := hh n true (by simp [fpO, hop, hd, hx])
              simp only [this]
          | aref el' n v lo len =>
            have : s.hs.getD n none = r.hs.getD n none := hslot n (by rw [hx]; simp [slotsV, slots0])
            cases lo <;> simp only [this]
          | _ => rfl
        cases hcl : cl.callee with
        | builtin b =>
          cases b <;> first
            | rfl
            | exact hclr
            | (simp only []
               generalize hq : cl.args.toList.map (Ev.ev s.ts []) = q
               generalize (cl.argTypes[0]?).bind (elemT C.P) = q1
               generalize (cl.argTypes[1]?).bind (elemT C.P) = q2
               match L, q1, q2, q, hq with
               | [], some el, some _, [x, y], hq =>
                 have e9 : (fun fs => appV s.hs C.ms d el fs x) = (fun fs => appV r.hs C.ms d el fs x) := funext (fun fs => happ el fs x y hq)
                 show (match bytesT C.P el, sizeT C.P el, restV el y, (restV el y).bind (fun fs => appV s.hs C.ms d el fs x) with | some by_, some sz, some fs, some r => _ | _, _, _, _ => _) = (match bytesT C.P el, sizeT C.P el, restV el y, (restV el y).bind (fun fs => appV r.hs C.ms d el fs x) with | some by_, some sz, some fs, some r => _ | _, _, _, _ => _)
                 rw [e9]
               | [], none, _, _, _ => rfl
               | [], some _, none, _, _ => rfl
               | [], some _, some _, [], _ => rfl
               | [], some _, some _, [x], _ => rfl
               | [], some _, some _, x :: y :: z :: l, _ => rfl
               | p :: L, _, _, _, _ => rfl)
        | value f => exact hv f hcl
        | invoke _ _ => rfl
    | makeMap t rs =>
      cases rs with
      | some x => rfl
      | none =>
        cases L with
        | cons p L => rfl
        | nil => cases hd : o.dst with
          | none => rfl
          | some d =>
            have : s.hs.getD d none = r.hs.getD d none := hh d true (by simp [fpO, hop, hd])
            simp only [mapD, this, h.len]
    | range t x =>
      have e1 := e x (by simp [hop, Op.operands])
      cases L with
      | cons p L => rfl
      | nil => cases hd : o.dst with
        | none => rfl
        | some d =>
          have hdd : s.hs.getD d none = r.hs.getD d none := hh d true (by simp [fpO, hop, hd])
          simp only [mapD, ← e1, h.len]
          cases hv : Ev.ev s.ts [] x with
          | mref m =>
            have h2 : s.hs.getD m none = r.hs.getD m none := hh m false (by simp [fpO, hop, hv])
            have g2 : getQ s.hs m = getQ r.hs m := by unfold getQ; rw [h2]
            rw [hdd]
            cases r.hs.getD d none with
            | some b0 => rfl
            | none => cases mapE C.P t with
              | none => rfl
              | some e0 => simp only [g2]
          | _ =>
            rw [hdd]
            cases r.hs.getD d none with
            | some b0 => rfl
            | none => cases mapE C.P t <;> rfl
    | mapUpdate t m k x =>
      have e1 := e m (by simp [hop, Op.operands])
      have e2 := e k (by simp [hop, Op.operands])
      have e3 := e x (by simp [hop, Op.operands])
      cases L with
      | cons p L => rfl
      | nil => cases hd : o.dst with
        | some d => rfl
        | none =>
          simp only [mapD, ← e1, ← e2, ← e3]
          cases mapE C.P t with
          | none => rfl
          | some e0 =>
            cases hv : Ev.ev s.ts [] m with
            | mref n =>
              have : s.hs.getD n none = r.hs.getD n none := hh n true (by simp [fpO, hop, hv])
              have hg : getQ s.hs n = getQ r.hs n := by unfold getQ; rw [this]
              cases Ev.ev s.ts [] k <;> first | rfl | simp only [hg]
            | _ => rfl
    | _ => rfl
theorem fpO_like {L : List (Nat × Bool)} {o : Oper} {s r : St} (h : ∀ x, x ∈ o.op.operands → ∀ M, Ev.ev s.ts M x = Ev.ev r.ts M x) : fpO L s.ts o = fpO L r.ts o := by
  unfold fpO
  cases hop : o.op with
  | load t a => have e1 := h a (by simp [hop, Op.operands]); simp only [e1]
  | store t a x => have e1 := h a (by simp [hop, Op.operands]); simp only [e1]
  | call cl =>
    have : cl.args.toList.map (Ev.ev s.ts []) = cl.args.toList.map (Ev.ev r.ts []) := by
      refine List.map_congr_left fun x hx => h x ?_ []
      rw [hop]
      simp only [Op.operands, Call.operands]
      exact Array.mem_append.2 (Or.inr (Array.mem_toList_iff.1 hx))
    simp only [this]
  | makeFunc f first caps => rfl
  | entry x => have e1 := h x (by simp [hop, Op.operands]); simp only [e1]
  | range t x => have e1 := h x (by simp [hop, Op.operands]); simp only [e1]
  | lookup t x y ok => have e1 := h x (by simp [hop, Op.operands]); simp only [e1]
  | mapUpdate t m k x => have e1 := h m (by simp [hop, Op.operands]); simp only [e1]
  | _ => rfl
/-- What an operation turns. -/
theorem opD_turns {C : Cx} {ops : List Oper} {L : List (Nat × Bool)} {c : Bool} {s : St} {o : Oper} {dl : Dl} (h : (opD C ops L c s o).eval = some dl) : ∀ n b, dl.b = some (n, b) → (n, true) ∈ fpO L s.ts o := by
  intro n b hb
  cases L with
  | cons p L => rw [opD_guarded h] at hb; cases hb
  | nil =>
    unfold opD at h
    split at h
    · have := (hold_eval h).1; rw [← this] at hb; cases hb
    · split at h
      · rename_i t d hop _ hd
        split at h
        · rw [cond_eq_ite] at h
          split at h
          · simp [T.eval] at h; rw [← h] at hb; simp at hb
            simp [fpO, hop, hd, hb.1]
          · cases h
        · cases h
      · rename_i t x d hop _ hd
        split at h
        · rw [cond_eq_ite] at h
          split at h
          · simp [T.eval] at h; rw [← h] at hb; simp at hb
            simp [fpO, hop, hd, hb.1]
          · cases h
        · cases h
      · rename_i t len parts hop
        split at h
        · split at h
          · rw [cond_eq_ite] at h
            split at h
            · split at h
              · split at h
                · rename_i d hd
                  rw [cond_eq_ite] at h
                  split at h
                  · split at h
                    · rw [cond_eq_ite] at h
                      split at h
                      · simp [T.eval] at h; rw [← h] at hb; simp at hb
                        simp [fpO, hop, hd, hb.1]
                      · cases h
                    · cases h
                  · simp [T.eval] at h; rw [← h] at hb; cases hb
                · simp [T.eval] at h; rw [← h] at hb; cases hb
              · cases h
            · cases h
          · cases h
        · cases h
      · rename_i t a x hop _ hd
        split at h
        · rename_i el b' ver i off n' c' hv _ _
          split at h
          · rw [cond_eq_ite] at h
            split at h
            · split at h
              · simp [T.eval] at h; rw [← h] at hb; simp at hb
                simp [fpO, hop, hv, hb.1]
              · cases h
            · cases h
          · cases h
        · rename_i b' off n' c' hv _ _
          split at h
          · rw [cond_eq_ite] at h
            split at h
            · split at h
              · simp [T.eval] at h; rw [← h] at hb; simp at hb
                simp [fpO, hop, hv, hb.1]
              · cases h
            · cases h
          · cases h
        · cases h
      · rename_i t ln cp d hop _ hd
        split at h
        · split at h
          · rw [cond_eq_ite] at h
            split at h
            · rw [cond_eq_ite] at h
              split at h
              · obtain ⟨_, h⟩ := T.test_eval h
                obtain ⟨_, h⟩ := T.test_eval h
                simp [T.eval] at h; rw [← h] at hb
                cases hm : natIn d C.ms <;> rw [hm] at hb <;> simp at hb
                simp [fpO, hop, hd, hb.1]
              · rw [cond_eq_ite] at h
                split at h
                · obtain ⟨_, h⟩ := T.test_eval h
                  obtain ⟨_, h⟩ := T.test_eval h
                  simp [T.eval] at h; rw [← h] at hb
                  simp at hb
                  simp [fpO, hop, hd, hb.1]
                · cases h
            · cases h
          · cases h
        · cases h
      · rename_i cl hop
        split at h
        · split at h
          · rename_i el e2 x y d _ _ _ hx hd
            split at h
            · rename_i by_ sz fs r _ _ hrest happ
              rw [cond_eq_ite] at h
              split at h
              · have hn : n = r.2.2.1 := by
                  obtain ⟨_, h⟩ := testO_eval h
                  rw [cond_eq_ite] at h
                  split at h
                  · obtain ⟨_, h⟩ := T.test_eval h
                    simp [T.eval] at h; rw [← h] at hb; simp at hb; exact hb.1.symm
                  · obtain ⟨_, h⟩ := T.test_eval h
                    simp [T.eval] at h; rw [← h] at hb; simp at hb; exact hb.1.symm
                rw [hrest] at happ
                have happ' : appV s.hs C.ms d el fs x = some r := happ
                unfold appV at happ'
                split at happ'
                · split at happ'
                  · injection happ' with happ'; rw [← happ'] at hn
                    have : n = d := hn
                    simp [fpO, hop, hx, hd, this]
                  · cases happ'
                · split at happ'
                  · rw [cond_eq_ite] at happ'
                    split at happ'
                    · rw [cond_eq_ite] at happ'
                      split at happ'
                      · cases happ'
                      · injection happ' with happ'; rw [← happ'] at hn
                        have : n = d := hn
                        simp [fpO, hop, hx, hd, this, slotsV, slots0]
                    · cases happ'
                  · cases happ'
                · split at happ'
                  · rw [cond_eq_ite] at happ'
                    split at happ'
                    · rw [cond_eq_ite] at happ'
                      split at happ'
                      · split at happ'
                        · injection happ' with happ'; rw [← happ'] at hn
                          have : n = d := hn
                          simp [fpO, hop, hx, hd, this]
                        · cases happ'
                      · injection happ' with happ'; rw [← happ'] at hn
                        have : n = d := hn
                        simp [fpO, hop, hx, hd, this, slotsV, slots0]
                    · cases happ'
                  · cases happ'
                · split at happ'
                  · rw [cond_eq_ite] at happ'
                    split at happ'
                    · injection happ' with happ'; rw [← happ'] at hn
                      have : n = _ := hn
                      simp [fpO, hop, hx, hd, this, slotsV, slots0]
                    · cases happ'
                  · cases happ'
                · split at happ'
                  · rw [cond_eq_ite] at happ'
                    split at happ'
                    · injection happ' with happ'; rw [← happ'] at hn
                      have : n = _ := hn
                      simp [fpO, hop, hx, hd, this, slotsV, slots0]
                    · cases happ'
                  · cases happ'
                · cases happ'
              · cases h
            · cases h
          · cases h
        · split at h
          · rcases callV_turns h hb with hm | hm
            · simp only [fpO, hop]
              exact List.mem_append.2 (Or.inl (List.mem_append.2 (Or.inr (List.mem_map.2 ⟨n, hm, rfl⟩))))
            · simp [fpO, hop, hm]
          · cases h
        · rw [cond_eq_ite] at h
          split at h
          · have hm := clearV_turns h hb
            simp only [fpO, hop]
            exact List.mem_append.2 (Or.inl (List.mem_append.2 (Or.inr (List.mem_map.2 ⟨n, hm, rfl⟩))))
          · cases h
      · unfold mapD at h
        split at h
        · rename_i t hop
          split at h
          · rename_i d hd
            split at h
            · rw [cond_eq_ite] at h
              split at h
              · simp [T.eval] at h; rw [← h] at hb; simp at hb
                simp [fpO, hop, hd, hb.1]
              · cases h
            · cases h
          · cases h
        · rename_i t x hop
          split at h
          · rename_i d hd
            split at h
            · split at h
              · rw [cond_eq_ite] at h
                split at h
                · simp [T.eval] at h; rw [← h] at hb; simp at hb
                  simp [fpO, hop, hd, hb.1]
                · cases h
              · cases h
            · cases h
          · cases h
        · rename_i t m k x hop
          split at h
          · split at h
            · rename_i e0 n0 ks _ hv _
              split at h
              · rw [cond_eq_ite] at h
                split at h
                · simp [T.eval] at h; rw [← h] at hb; simp at hb
                  simp [fpO, hop, hv, hb.1]
                · cases h
              · cases h
            · cases h
          · cases h
        · cases h
theorem labOf_like {ops : List Oper} {o : Oper} {ts us : List V} (h : ∀ g d, o.guard = some g → (ops[g.1]?).bind (·.dst) = some d → getV ts d = getV us d) : labOf ops ts o.guard = labOf ops us o.guard := by
  unfold labOf
  cases hg : o.guard with
  | none => rfl
  | some g =>
    obtain ⟨j, w⟩ := g
    simp only []
    cases hd : (ops[j]?).bind (·.dst) with
    | none => rfl
    | some d => simp only [h _ d hg hd]
theorem ev_like {ts us : List V} {x : Operand} (h : ∀ t, x = .tmp t → getV ts t = getV us t) (M : List (Nat × Bool)) : ev ts M x = ev us M x := by
  cases x with
  | tmp t => simp only [ev, h t rfl]
  | _ => rfl
/-- A step, its labels and what it turns told. -/
theorem stepV_split {C : Cx} {ops : List Oper} {s s' : St} {i : Nat} (h : (stepV C ops s i).eval = some s') : ∃ o p dl, ops[i]? = some o ∧ labOf ops s.ts o.guard = some p ∧ (opD C ops p.1 p.2 s o).eval = some dl ∧ s' = putD p.1 p.2 s o dl ∧ fpV ops s i = fpO p.1 s.ts o := by
  unfold stepV at h
  split at h
  · cases h
  · rename_i o ho
    split at h
    · cases h
    · rename_i p hp
      obtain ⟨dl, h1, h2⟩ := T.eval_bind _ _ h
      simp [T.eval] at h2
      exact ⟨o, p, dl, ho, hp, h1, h2.symm, by simp [fpV, ho, hp]⟩
theorem stepV_join {C : Cx} {ops : List Oper} {s : St} {i : Nat} {o : Oper} {p : List (Nat × Bool) × Bool} {dl : Dl} (ho : ops[i]? = some o) (hp : labOf ops s.ts o.guard = some p) (hd : (opD C ops p.1 p.2 s o).eval = some dl) :
    (stepV C ops s i).eval = some (putD p.1 p.2 s o dl) ∧ fpV ops s i = fpO p.1 s.ts o := by
  refine ⟨?_, by simp [fpV, ho, hp]⟩
  unfold stepV
  rw [ho]
  simp only []
  rw [hp]
  simp only []
  generalize opD C ops p.1 p.2 s o = t at hd
  induction t with
  | ret a => simp [T.eval] at hd; subst hd; rfl
  | fail => cases hd
  | test c x y hx hy => cases c with
    | true => exact hx hd
    | false => exact hy hd
  | bnd o d f ih => cases o with
    | none => cases hd
    | some r => exact ih r hd
  | cas o f g ih1 ih2 => cases o with
    | none => simp [T.eval] at hd
    | some r => cases r with
      | inl r =>
        have := ih1 r (by simpa [T.eval] using hd)
        simpa [T.bind, T.eval] using this
      | inr r =>
        have := ih2 r (by simpa [T.eval] using hd)
        simpa [T.bind, T.eval] using this
  | opt c o d f ih => cases c with
    | true => cases o with
      | none => cases hd
      | some r => exact ih r hd
    | false => exact ih d hd
theorem putD_getV {L : List (Nat × Bool)} {c : Bool} {s : St} {o : Oper} {dl : Dl} {t : Nat} (h : o.dst ≠ some t) : getV (putD L c s o dl).ts t = getV s.ts t := by
  unfold putD putV
  cases hd : o.dst with
  | none => rfl
  | some d =>
    simp only []
    rw [getV_set, if_neg (fun e => h (by rw [hd, e.1]))]
theorem putD_hs {L : List (Nat × Bool)} {c : Bool} {s : St} {o : Oper} {dl : Dl} {n : Nat} (h : ∀ b, dl.b ≠ some (n, b)) : (putD L c s o dl).hs.getD n none = s.hs.getD n none := by
  unfold putD
  cases hb : dl.b with
  | none => rfl
  | some p =>
    simp only []
    rw [getD_set_blk, if_neg (fun e => h p.2 (by rw [hb, e.1]))]
theorem putD_len {L : List (Nat × Bool)} {c : Bool} {s : St} {o : Oper} {dl : Dl} : (putD L c s o dl).hs.length = s.hs.length := by
  unfold putD
  cases dl.b <;> simp
theorem list_set_comm {α : Type} (l : List α) {i j : Nat} (a b : α) (h : i ≠ j) : (l.set i a).set j b = (l.set j b).set i a := by
  apply List.ext_getElem?
  intro k
  simp only [List.getElem?_set, List.length_set]
  by_cases h1 : j = k <;> by_cases h2 : i = k
  · omega
  · simp [h1, h2]
  · simp [h1, h2]
  · simp [h1, h2]
theorem putD_comm {L M : List (Nat × Bool)} {c d : Bool} {s : St} {o q : Oper} {x y : Dl} (hd : ∀ t, o.dst = some t → q.dst ≠ some t) (hb : ∀ n b b', x.b = some (n, b) → y.b ≠ some (n, b')) : putD M d (putD L c s o x) q y = putD L c (putD M d s q y) o x := by
  unfold putD
  congr 1
  · unfold putV
    cases h1 : o.dst with
    | none => rfl
    | some t => cases h2 : q.dst with
      | none => rfl
      | some u => exact list_set_comm _ _ _ (fun e => hd t h1 (by rw [h2, e]))
  · cases h1 : x.b with
    | none => rfl
    | some p => cases h2 : y.b with
      | none => rfl
      | some r => exact list_set_comm _ _ _ (fun e => hb p.1 p.2 r.2 h1 (by rw [h2, e]))
/-- Two steps that do not meet, the other way about. -/
theorem step_swap {C : Cx} {ops : List Oper} {s s1 s2 : St} {x i : Nat} {a b : Oper} (ha : ops[x]? = some a) (hb : ops[i]? = some b) (hap : Oper.apart ops.toArray a b = true) (h1 : (stepV C ops s x).eval = some s1) (h2 : (stepV C ops s1 i).eval = some s2)
    (hf : fpOk (fpV ops s x) (fpV ops s1 i) = true) : ∃ r, (stepV C ops s i).eval = some r ∧ (stepV C ops r x).eval = some s2 ∧ fpV ops s i = fpV ops s1 i ∧ fpV ops r x = fpV ops s x := by
  obtain ⟨a', p, dx, ha', hp, hx, rfl, hfx⟩ := stepV_split h1
  obtain ⟨b', q, di, hb', hq, hi, rfl, hfi⟩ := stepV_split h2
  rw [ha] at ha'; injection ha' with ha'; subst ha'
  rw [hb] at hb'; injection hb' with hb'; subst hb'
  obtain ⟨k1, k2, k3⟩ := Oper.apart_spec hap
  have look : ∀ (o : Oper) (t : Nat), (.tmp t : Operand) ∈ o.op.operands → t ∈ o.looksAt ops.toArray := by
    intro o t ht
    unfold Oper.looksAt
    refine List.mem_append.2 (Or.inl (List.mem_filterMap.2 ⟨.tmp t, Array.mem_toList_iff.2 ht, rfl⟩))
  have lookg : ∀ (o : Oper) (g : Nat × Bool) (d : Nat), o.guard = some g → (ops[g.1]?).bind (·.dst) = some d → d ∈ o.looksAt ops.toArray := by
    intro o g d hg hd
    unfold Oper.looksAt
    refine List.mem_append.2 (Or.inr ?_)
    rw [hg]
    obtain ⟨j, w⟩ := g
    simp at hd ⊢
    exact hd
  -- i ahead of x
  have evI : ∀ y, y ∈ b.op.operands → ∀ M, Ev.ev (putD p.1 p.2 s a dx).ts M y = Ev.ev s.ts M y := fun y hy M => ev_like (fun t e => putD_getV (fun hd => k1 t hd (look b t (e ▸ hy)))) M
  have labI : labOf ops (putD p.1 p.2 s a dx).ts b.guard = labOf ops s.ts b.guard := labOf_like (fun g d hg hd => putD_getV (fun he => k1 d he (lookg b g d hg hd)))
  have fpI : fpO q.1 (putD p.1 p.2 s a dx).ts b = fpO q.1 s.ts b := fpO_like (s := putD p.1 p.2 s a dx) (r := s) evI
  have meet : ∀ n b1 b2, (n, b1) ∈ fpO p.1 s.ts a → (n, b2) ∈ fpO q.1 s.ts b → b1 = false ∧ b2 = false := by
    intro n b1 b2 m1 m2
    rw [hfx, hfi, fpI] at hf
    have := List.all_eq_true.1 (List.all_eq_true.1 hf _ m1) _ m2
    simp at this
    exact this
  have likeI : Like q.1 b (putD p.1 p.2 s a dx) s := ⟨evI, fun n w hn => putD_hs (fun bb e => by
    have m1 := opD_turns hx n bb e
    rw [fpI] at hn
    have := (meet n true w m1 hn).1
    cases this), putD_len⟩
  have hi' : (opD C ops q.1 q.2 s b).eval = some di := by rw [← opD_like likeI]; exact hi
  have hq' : labOf ops s.ts b.guard = some q := by rw [← labI]; exact hq
  obtain ⟨j1, j2⟩ := stepV_join hb hq' hi'
  -- then x
  have evX : ∀ y, y ∈ a.op.operands → ∀ M, Ev.ev s.ts M y = Ev.ev (putD q.1 q.2 s b di).ts M y := fun y hy M => ev_like (fun t e => (putD_getV (fun hd => k3 t hd (look a t (e ▸ hy)))).symm) M
  have labX : labOf ops s.ts a.guard = labOf ops (putD q.1 q.2 s b di).ts a.guard := labOf_like (fun g d hg hd => (putD_getV (fun he => k3 d he (lookg a g d hg hd))).symm)
  have likeX : Like p.1 a s (putD q.1 q.2 s b di) := ⟨evX, fun n w hn => (putD_hs (fun bb e => by
    have m1 := opD_turns hi' n bb e
    have := (meet n w true hn m1).2
    cases this)).symm, putD_len.symm⟩
  have hx' : (opD C ops p.1 p.2 (putD q.1 q.2 s b di) a).eval = some dx := by rw [← opD_like likeX]; exact hx
  have hp' : labOf ops (putD q.1 q.2 s b di).ts a.guard = some p := by rw [← labX]; exact hp
  obtain ⟨l1, l2⟩ := stepV_join ha hp' hx'
  refine ⟨_, j1, ?_, by rw [j2, hfi, fpI], by rw [l2, hfx]; exact (fpO_like (s := s) (r := putD q.1 q.2 s b di) evX).symm⟩
  rw [l1, putD_comm (fun t ht => k2 t ht) (fun n b1 b2 e1 e2 => by
    have m1 := opD_turns hx n b1 e1
    have m2 := opD_turns hi' n b2 e2
    have := (meet n true true m1 m2).1
    cases this)]
end Go.Proofs.YtolackmpfnndhaaGreatDoor.Ev
