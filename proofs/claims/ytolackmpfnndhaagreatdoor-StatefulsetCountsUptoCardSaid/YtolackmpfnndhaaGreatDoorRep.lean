/- What the abstract run's values say of the machine's, and what keeps it. Conditions: stated at each. -/
import Derived.Test.YtolackmpfnndhaaGreatDoorRun
import Derived.Below
import Derived.Laws.Append
import Derived.Laws.Rows
import Derived.Laws.AppendOwn
import Derived.WalkKit
namespace Go.Proofs.YtolackmpfnndhaaGreatDoor.Ev
open Go Go.RowKit
set_option linter.unusedVariables false
/-- Where a slot's block lies. -/
inductive Loc where
  | blk (b : Nat)
  | tail (a : Option Addr) (len cap sz : Nat)
  | arr (a : Option Addr) (len cap sz : Nat)
/-- The world, the cells that stay as they are, the slots' places and kinds. -/
structure En where
  w : World
  F : Nat → Nat → Prop
  N : Nat → Loc
  hs : List (Option Blk)
def KOk (E : En) (a : Option Addr) (len cap sz : Nat) : K → Prop
  | .full => cap = len
  | .open => True
  | .own n v => ∃ v', E.hs.getD n none = some (.tail v') ∧ v ≤ v' ∧ (v = v' → E.N n = .tail a len cap sz)
  | .nilq b => a.isNone = b
  | .fullq b => b = true → cap = len
/-- A part of an array that may be written into, from lo on. -/
def ARef (P : Program) (l : Loc) (t L : Nat) (lo : Option Int) (len : Int) (a' : Option Addr) (c' : Nat) : Prop :=
  ∃ a cap sz, l = .arr a L cap sz ∧ sizeT P t = some sz ∧ 0 ≤ lo.getD 0 ∧ lo.getD 0 + len ≤ L ∧ (lo = none → a' = a ∧ c' = cap) ∧ (0 < len → ∃ b, a = some ⟨b, 0, none⟩ ∧ a' = some ⟨b, (lo.getD 0).toNat * sz, none⟩)
inductive Rep (P : Program) (E : En) : Value → V → Prop
  | dead (v : Value) : Rep P E v .dead
  | bool (b : Bool) : Rep P E (.bool b) (.bool b)
  | int (k : IntKind) (n : Int) : Rep P E (.int k n) (.int k n)
  | str (s : ByteArray) : Rep P E (.string s) (.str s)
  | nils : Rep P E (.slice none 0 0) .nils
  | agg (cs : Array Value) (xs : List V) (hl : cs.size = xs.length) (h : ∀ (i : Nat) (x : V), xs[i]? = some x → Rep P E (cs.getD i undef) x) : Rep P E (.agg cs) (.agg xs)
  | tuple (cs : Array Value) (xs : List V) (hl : cs.size = xs.length) (h : ∀ (i : Nat) (x : V), xs[i]? = some x → Rep P E (cs.getD i undef) x) : Rep P E (.tuple cs) (.tuple xs)
  | slice (t : Nat) (es : Rows) (k : K) (a : Option Addr) (cap sz : Nat) (vs : Nat → Value) (hcap : es.length ≤ cap) (hnone : a = none → cap = 0)
      (hsz : sizeT P t = some sz) (hrow : ∀ (i : Nat) (r : Row), es[i]? = some r → r.length = sz ∧ eta P t r = r)
      (hc : ∀ (i : Nat) (r : Row) (j : Nat) (x : V), es[i]? = some r → r[j]? = some x → ∀ A, a = some A → E.w.cell? (A.add (i * sz + j)) = some (vs (i * sz + j)) ∧ E.F A.block (A.off + (i * sz + j)))
      (hx : ∀ (i : Nat) (r : Row) (j : Nat) (x : V), es[i]? = some r → r[j]? = some x → Rep P E (vs (i * sz + j)) x)
      (hk : KOk E a es.length cap sz k) : Rep P E (.slice a es.length cap) (.slice t es k)
  | optr (n off b : Nat) (hb : E.N n = .blk b) (hh : ∃ cs, E.hs.getD n none = some (.box cs)) : Rep P E (.pointer (some ⟨b, off, none⟩)) (.optr n off)
  | sref (t n len b : Nat) (hb : E.N n = .blk b) (hh : ∃ cs, E.hs.getD n none = some (.box cs)) : Rep P E (.slice (some ⟨b, 0, none⟩) len len) (.sref t n len)
  | rptr (A : Addr) (cs : List V) (vs : Nat → Value) (hc : ∀ (j : Nat) (x : V), cs[j]? = some x → E.w.cell? (A.add j) = some (vs j) ∧ E.F A.block (A.off + j))
      (hx : ∀ (j : Nat) (x : V), cs[j]? = some x → Rep P E (vs j) x) : Rep P E (.pointer (some A)) (.rptr cs)
  | fn (f : Nat) (cs : Array Value) (xs : List V) (hl : cs.size = xs.length) (h : ∀ (i : Nat) (x : V), xs[i]? = some x → Rep P E (cs.getD i undef) x) : Rep P E (.func (.func f) #[] cs) (.fn f xs)
  | aref (a0 : Option Addr) (c0 : Nat) (t n v : Nat) (lo : Option Int) (len : Int) (h0 : 0 ≤ len) (h1 : len.toNat ≤ c0) (h2 : 0 < c0 → ∃ A, a0 = some A) (h : ∃ v' es, E.hs.getD n none = some (.arr t v' es) ∧ v ≤ v' ∧ (v = v' → ARef P (E.N n) t es.length lo len a0 c0)) : Rep P E (.slice a0 len.toNat c0) (.aref t n v lo len)
  | eptr (A : Addr) (t n v : Nat) (i : Int) (off : Nat) (h : ∃ v' es, E.hs.getD n none = some (.arr t v' es) ∧ v ≤ v' ∧ (v = v' → ∃ b cap sz, E.N n = .arr (some ⟨b, 0, none⟩) es.length cap sz ∧ sizeT P t = some sz ∧ 0 ≤ i ∧ i < es.length ∧ A = ⟨b, i.toNat * sz + off, none⟩)) : Rep P E (.pointer (some A)) (.eptr t n v i off)
  | mref (n b : Nat) (hb : E.N n = .blk b) (hh : ∃ q, E.hs.getD n none = some (.obj q)) : Rep P E (.map (some b)) (.mref n)
  | it (n m b : Nat) (hb : E.N n = .blk b) (hh : ∃ q, E.hs.getD n none = some (.obj q)) : Rep P E (.pointer (some ⟨b, 0, none⟩)) (.it n m)
/-- Later: what stays stays, own slots only grow. -/
structure En.Le (E E' : En) : Prop where
  cell : ∀ A : Addr, E.F A.block A.off → E'.w.cell? A = E.w.cell? A
  F : ∀ b o, E.F b o → E'.F b o
  box : ∀ n cs, E.hs.getD n none = some (.box cs) → (∃ cs', E'.hs.getD n none = some (.box cs')) ∧ E'.N n = E.N n
  tail : ∀ n v, E.hs.getD n none = some (.tail v) → ∃ v', E'.hs.getD n none = some (.tail v') ∧ v ≤ v' ∧ (v = v' → E'.N n = E.N n)
  arr : ∀ n t v es, E.hs.getD n none = some (.arr t v es) → ∃ v' es', E'.hs.getD n none = some (.arr t v' es') ∧ v ≤ v' ∧ (v = v' → es'.length = es.length ∧ E'.N n = E.N n)
  obj : ∀ n q, E.hs.getD n none = some (.obj q) → (∃ q', E'.hs.getD n none = some (.obj q')) ∧ E'.N n = E.N n
theorem En.Le.refl (E : En) : En.Le E E := ⟨fun _ _ => rfl, fun _ _ h => h, fun n cs h => ⟨⟨cs, h⟩, rfl⟩, fun n v h => ⟨v, h, Nat.le_refl _, fun _ => rfl⟩, fun n t v es h => ⟨v, es, h, Nat.le_refl _, fun _ => ⟨rfl, rfl⟩⟩, fun n q h => ⟨⟨q, h⟩, rfl⟩⟩
theorem En.Le.trans {E E' E'' : En} (h : En.Le E E') (k : En.Le E' E'') : En.Le E E'' := by
  refine ⟨fun A hA => (k.cell A (h.F _ _ hA)).trans (h.cell A hA), fun b o hb => k.F b o (h.F b o hb), fun n cs hn => ?_, fun n v hn => ?_, fun n t v es hn => ?_, fun n q hn => ?_⟩
  · obtain ⟨⟨cs', h1⟩, h2⟩ := h.box n cs hn
    obtain ⟨h3, h4⟩ := k.box n cs' h1
    exact ⟨h3, h4.trans h2⟩
  · obtain ⟨v', h1, h2, h3⟩ := h.tail n v hn
    obtain ⟨v'', h4, h5, h6⟩ := k.tail n v' h1
    exact ⟨v'', h4, Nat.le_trans h2 h5, fun e => by have e1 : v = v' := Nat.le_antisymm h2 (e ▸ h5); exact (h6 (e1 ▸ e)).trans (h3 e1)⟩
  · obtain ⟨v', es', h1, h2, h3⟩ := h.arr n t v es hn
    obtain ⟨v'', es'', h4, h5, h6⟩ := k.arr n t v' es' h1
    exact ⟨v'', es'', h4, Nat.le_trans h2 h5, fun e => by have e1 : v = v' := Nat.le_antisymm h2 (e ▸ h5); exact ⟨(h6 (e1 ▸ e)).1.trans (h3 e1).1, (h6 (e1 ▸ e)).2.trans (h3 e1).2⟩⟩
  · obtain ⟨⟨q', h1⟩, h2⟩ := h.obj n q hn
    obtain ⟨h3, h4⟩ := k.obj n q' h1
    exact ⟨h3, h4.trans h2⟩
theorem addr_add_block (A : Addr) (n : Nat) : (A.add n).block = A.block := by unfold Addr.add; split <;> rfl
theorem addr_add_off (A : Addr) (n : Nat) : (A.add n).off = A.off + n := by unfold Addr.add; split <;> simp_all
theorem KOk.mono {E E' : En} (h : En.Le E E') {a : Option Addr} {len cap sz : Nat} : ∀ {k : K}, KOk E a len cap sz k → KOk E' a len cap sz k
  | .full, hk => hk
  | .open, _ => trivial
  | .nilq b, hk => hk
  | .fullq b, hk => hk
  | .own n v, ⟨v', h1, h2, h3⟩ => by
    obtain ⟨v'', h4, h5, h6⟩ := h.tail n v' h1
    exact ⟨v'', h4, Nat.le_trans h2 h5, fun e => by have e1 : v = v' := Nat.le_antisymm h2 (e ▸ h5); exact (h6 (e1 ▸ e)).trans (h3 e1)⟩
variable {P : Program}
theorem Rep.mono {E E' : En} (h : En.Le E E') {v : Value} {x : V} (hr : Rep P E v x) : Rep P E' v x := by
  induction hr with
  | dead v => exact .dead v
  | bool b => exact .bool b
  | int k n => exact .int k n
  | str s => exact .str s
  | nils => exact .nils
  | agg cs xs hl _ ih => exact .agg cs xs hl ih
  | tuple cs xs hl _ ih => exact .tuple cs xs hl ih
  | slice t es k a cap sz vs hcap hnone hsz hrow hc _ hk ih =>
    refine .slice t es k a cap sz vs hcap hnone hsz hrow (fun i r j x hi hj A hA => ?_) ih (hk.mono h)
    obtain ⟨h1, h2⟩ := hc i r j x hi hj A hA
    refine ⟨(h.cell _ ?_).trans h1, h.F _ _ h2⟩
    rw [addr_add_block, addr_add_off]; exact h2
  | optr n off b hb hh =>
    obtain ⟨cs, hcs⟩ := hh
    obtain ⟨h1, h2⟩ := h.box n cs hcs
    exact .optr n off b (h2.trans hb) h1
  | sref t n len b hb hh =>
    obtain ⟨cs, hcs⟩ := hh
    obtain ⟨h1, h2⟩ := h.box n cs hcs
    exact .sref t n len b (h2.trans hb) h1
  | rptr A cs vs hc _ ih =>
    refine .rptr A cs vs (fun j x hj => ?_) ih
    obtain ⟨h1, h2⟩ := hc j x hj
    refine ⟨(h.cell _ ?_).trans h1, h.F _ _ h2⟩
    rw [addr_add_block, addr_add_off]; exact h2
  | fn f cs xs hl _ ih => exact .fn f cs xs hl ih
  | aref a0 c0 t n v lo len g0 g1 g2 hh =>
    obtain ⟨v', es, h1, h2, h3⟩ := hh
    obtain ⟨v'', es', h4, h5, h6⟩ := h.arr n t v' es h1
    refine .aref a0 c0 t n v lo len g0 g1 g2 ⟨v'', es', h4, Nat.le_trans h2 h5, fun e => ?_⟩
    have e1 : v = v' := Nat.le_antisymm h2 (e ▸ h5)
    obtain ⟨k1, k2⟩ := h6 (e1 ▸ e)
    rw [k1, k2]; exact h3 e1
  | eptr A t n v i off hh =>
    obtain ⟨v', es, h1, h2, h3⟩ := hh
    obtain ⟨v'', es', h4, h5, h6⟩ := h.arr n t v' es h1
    refine .eptr A t n v i off ⟨v'', es', h4, Nat.le_trans h2 h5, fun e => ?_⟩
    have e1 : v = v' := Nat.le_antisymm h2 (e ▸ h5)
    obtain ⟨k1, k2⟩ := h6 (e1 ▸ e)
    rw [k1, k2]; exact h3 e1
  | mref n b hb hh =>
    obtain ⟨q, hq⟩ := hh
    obtain ⟨h1, h2⟩ := h.obj n q hq
    exact .mref n b (h2.trans hb) h1
  | it n m b hb hh =>
    obtain ⟨q, hq⟩ := hh
    obtain ⟨h1, h2⟩ := h.obj n q hq
    exact .it n m b (h2.trans hb) h1
/-- An entry of a map, and its row. -/
def EntOk (P : Program) (E : En) (e : Nat) (x : MapEntry) (i : Nat) (r : Row) : Prop :=
  ∃ s cs v, r = .str s :: cs ∧ eta P e cs = cs ∧ loadV P e cs 0 = some v ∧ x.key = .string s ∧ x.born = i ∧ Rep P E x.val v
/-- An object of the machine's, and what is held of it. -/
def QOk (P : Program) (E : En) (o : Obj) : Q → Prop
  | .mp t es => ∃ e arr, mapE P t = some e ∧ o = .map arr es.length ∧ arr.size = es.length ∧ ∀ (i : Nat) (r : Row), es[i]? = some r → ∃ x, arr[i]? = some x ∧ EntOk P E e x i r
  | .it m n seen => ∃ mb, E.N m = .blk mb ∧ (∃ q, E.hs.getD m none = some (.obj q)) ∧ o = .mapIter (some mb) n.toNat seen.toArray n.toNat
theorem EntOk.mono {E E' : En} (h : En.Le E E') {e : Nat} {x : MapEntry} {i : Nat} {r : Row} : EntOk P E e x i r → EntOk P E' e x i r
  | ⟨s, cs, v, h1, h2, h3, h4, h5, h6⟩ => ⟨s, cs, v, h1, h2, h3, h4, h5, h6.mono h⟩
theorem QOk.mono {E E' : En} (h : En.Le E E') {o : Obj} : ∀ {q : Q}, QOk P E o q → QOk P E' o q
  | .mp _ _, ⟨e, arr, h1, h2, h3, h4⟩ => ⟨e, arr, h1, h2, h3, fun i r hi => by obtain ⟨x, h5, h6⟩ := h4 i r hi; exact ⟨x, h5, h6.mono h⟩⟩
  | .it _ _ _, ⟨mb, h1, ⟨q, h2⟩, h3⟩ => by
    obtain ⟨k1, k2⟩ := h.obj _ q h2
    exact ⟨mb, k2.trans h1, k1, h3⟩
/-- What a slot's block is for the others. -/
def Loc.own : Blk → Loc → Option Nat
  | .box _, .blk b => some b
  | .tail _, .tail (some A) len cap _ => if len < cap then some A.block else none
  | .arr _ _ _, .arr (some A) _ cap _ => if 0 < cap then some A.block else none
  | .obj _, .blk b => some b
  | _, _ => none
/-- The cells that stay as a call finds them, and the blocks that are lent to it. -/
structure Fz where
  F : Nat → Nat → Prop
  M : Nat → Prop
instance : CoeFun Fz (fun _ => Nat → Nat → Prop) := ⟨Fz.F⟩
/-- What was there is as it was, but for the blocks M. -/
structure BelowM (M : Nat → Prop) (a w : World) : Prop where
  os : w.os = a.os
  tape : w.tape = a.tape
  output : w.output = a.output
  size : a.heap.size ≤ w.heap.size
  block : ∀ k, k < a.heap.size → ¬ M k → w.heap[k]? = a.heap[k]?
theorem BelowM.of {M : Nat → Prop} {a w : World} (h : Below a.heap.size a w) : BelowM M a w := ⟨h.os, h.tape, h.output, h.size, fun k hk _ => h.block k hk⟩
theorem BelowM.to {M : Nat → Prop} (hM : ∀ k, ¬ M k) {a w : World} (h : BelowM M a w) : Below a.heap.size a w := ⟨h.os, h.tape, h.output, h.size, fun k hk => h.block k hk (hM k)⟩
theorem BelowM.trans {M M' : Nat → Prop} {a b c : World} (h : BelowM M a b) (k : BelowM M' b c) (hM : ∀ g, M' g → M g ∨ a.heap.size ≤ g) : BelowM M a c :=
  ⟨k.os.trans h.os, k.tape.trans h.tape, k.output.trans h.output, Nat.le_trans h.size k.size, fun g hg hn => (k.block g (Nat.lt_of_lt_of_le hg h.size) (fun e => (hM g e).elim hn (fun e => Nat.lt_irrefl _ (Nat.lt_of_lt_of_le hg e)))).trans (h.block g hg hn)⟩
theorem BelowM.after {M : Nat → Prop} {a b c : World} (h : BelowM M a b) (k : Below b.heap.size b c) : BelowM M a c :=
  h.trans (M' := fun _ => False) (.of k) (fun _ e => e.elim)
/-- The program's tables (package-level variables that nothing writes): their blocks, and what they hold. -/
def tabs : List (Nat × Array Value) := [(0, #[.int .u64 1, .int .u64 10, .int .u64 100, .int .u64 1000, .int .u64 10000, .int .u64 100000, .int .u64 1000000, .int .u64 10000000, .int .u64 100000000, .int .u64 1000000000, .int .u64 10000000000, .int .u64 100000000000, .int .u64 1000000000000, .int .u64 10000000000000, .int .u64 100000000000000, .int .u64 1000000000000000, .int .u64 10000000000000000, .int .u64 100000000000000000, .int .u64 1000000000000000000, .int .u64 10000000000000000000])]
/-- The tables hold what they hold, and none is lent. -/
def GOk (w : World) (M : Nat → Prop) : Prop := ∀ p, p ∈ tabs → (∃ t fz, w.heap[p.1]? = some (.cells p.2 t fz)) ∧ ¬ M p.1
theorem GOk.below {M M' : Nat → Prop} {w w' : World} (h : GOk w M) (k : BelowM M w w') (hM : ∀ g, M' g → w.heap.size ≤ g ∨ M g) : GOk w' M' := fun p hp => by
  obtain ⟨⟨t, fz, h1⟩, h2⟩ := h p hp
  have hlt : p.1 < w.heap.size := (Array.getElem?_eq_some_iff.1 h1).1
  exact ⟨⟨t, fz, (k.block _ hlt h2).trans h1⟩, fun hm => (hM _ hm).elim (fun h => Nat.lt_irrefl _ (Nat.lt_of_lt_of_le hlt h)) h2⟩
/-- The memory of a call: what it found is as it was; its own blocks are its own. -/
structure Inv (P : Program) (w0 : World) (F0 : Fz) (E : En) : Prop where
  below : BelowM F0.M w0 E.w
  keep : ∀ b o, F0 b o → E.F b o
  Fnew : ∀ b o, E.F b o → F0 b o ∨ w0.heap.size ≤ b ∨ F0.M b
  Flt : ∀ b o, E.F b o → b < E.w.heap.size
  box : ∀ n cs, E.hs.getD n none = some (.box cs) → ∃ b arr t, E.N n = .blk b ∧ (w0.heap.size ≤ b ∨ F0.M b) ∧ E.w.heap[b]? = some (.cells arr t (0, 0)) ∧ arr.size = cs.length ∧
    (∀ (j : Nat) (x : V), cs[j]? = some x → Rep P E (arr.getD j undef) x) ∧ ∀ o, ¬ E.F b o
  tail : ∀ n v, E.hs.getD n none = some (.tail v) → ∃ a len cap sz, E.N n = .tail a len cap sz ∧ len ≤ cap ∧
    (len < cap → ∃ A arr t, a = some A ∧ (w0.heap.size ≤ A.block ∨ F0.M A.block) ∧ E.w.heap[A.block]? = some (.cells arr t (0, 0)) ∧ A.off + cap * sz ≤ arr.size ∧ A.spot = none ∧ ∀ o, A.off + len * sz ≤ o → ¬ E.F A.block o)
  arr : ∀ n t v es, E.hs.getD n none = some (.arr t v es) → ∃ a cap sz, E.N n = .arr a es.length cap sz ∧ sizeT P t = some sz ∧ 0 < sz ∧ es.length ≤ cap ∧ (∀ (i : Nat) (r : Row), es[i]? = some r → r.length = sz ∧ eta P t r = r) ∧
    (0 < cap → ∃ b arr ty, a = some ⟨b, 0, none⟩ ∧ (w0.heap.size ≤ b ∨ F0.M b) ∧ E.w.heap[b]? = some (.cells arr ty (0, 0)) ∧ cap * sz ≤ arr.size ∧ (∀ o, ¬ E.F b o) ∧
      ∀ (i : Nat) (r : Row) (j : Nat) (x : V), es[i]? = some r → r[j]? = some x → Rep P E (arr.getD (i * sz + j) undef) x)
  obj : ∀ n q, E.hs.getD n none = some (.obj q) → ∃ b o, E.N n = .blk b ∧ (w0.heap.size ≤ b ∨ F0.M b) ∧ E.w.heap[b]? = some o ∧ QOk P E o q ∧ ∀ o, ¬ E.F b o
  disj : ∀ n m x y b, E.hs.getD n none = some x → E.hs.getD m none = some y → (E.N n).own x = some b → (E.N m).own y = some b → n = m
  glob : GOk w0 F0.M
theorem Inv.size {w0 : World} {F0 : Fz} {E : En} (h : Inv P w0 F0 E) : w0.heap.size ≤ E.w.heap.size := h.below.size
/-- The labels hold. -/
def holds (ops : List Oper) (tmps : Array Value) (L : List (Nat × Bool)) : Prop := ∀ p, p ∈ L → yielded ops.toArray tmps p.1 = some p.2
def RepW (P : Program) (ops : List Oper) (tmps : Array Value) (E : En) (v : Value) : V → Prop
  | .when c L x => (holds ops tmps L → c = true ∧ Rep P E v x) ∧ (¬ holds ops tmps L → v = undef)
  | x => Rep P E v x
/-- The temporaries, in a region of which the operations D have run. -/
structure RS (P : Program) (ops : List Oper) (D : Nat → Prop) (E : En) (a : Act) (ts : List V) : Prop where
  defers : a.defers = []
  size : a.tmps.size = ts.length
  vals : ∀ t, RepW P ops a.tmps E (a.tmps.getD t undef) (getV ts t)
  labs : ∀ t c L x, getV ts t = .when c L x → L ≠ [] ∧ (∀ p, p ∈ L → D p.1 ∧ oneDst ops p.1 = true) ∧ ∀ c' L' y, x ≠ .when c' L' y
theorem RepW.plain {ops : List Oper} {tmps : Array Value} {E : En} {v : Value} {x : V} (h : RepW P ops tmps E v x) (hx : ∀ c L y, x ≠ .when c L y) : Rep P E v x := by
  cases x <;> first | exact h | exact absurd rfl (hx _ _ _)
theorem Rep.w {ops : List Oper} {tmps : Array Value} {E : En} {v : Value} {x : V} (h : Rep P E v x) : RepW P ops tmps E v x := by
  cases x with
  | when c L y => cases h
  | _ => exact h
theorem Rep.noWhen {E : En} {v : Value} {L : List (Nat × Bool)} {y : V} {c : Bool} (h : Rep P E v (.when c L y)) : False := by cases h
theorem labIn_mem {p : Nat × Bool} : ∀ {L : List (Nat × Bool)}, labIn p L = true → p ∈ L
  | [], h => by cases h
  | a :: l, h => by
    unfold labIn at h
    cases h1 : (bif Nat.beq a.1 p.1 then a.2 == p.2 else false) with
    | true =>
      rw [cond_eq_ite] at h1
      split at h1
      · rename_i h2
        have e1 := Nat.eq_of_beq_eq_true h2
        have e2 : a.2 = p.2 := by simpa using h1
        exact List.mem_cons.2 (Or.inl (Prod.ext e1.symm e2.symm))
      · cases h1
    | false => rw [h1] at h; exact List.mem_cons.2 (Or.inr (labIn_mem h))
theorem labsIn_sub : ∀ {L' L : List (Nat × Bool)}, labsIn L' L = true → ∀ p, p ∈ L' → p ∈ L
  | [], _, _, p, hp => by cases hp
  | a :: l, L, h, p, hp => by
    unfold labsIn at h
    cases h1 : labIn a L with
    | false => rw [h1] at h; cases h
    | true =>
      rw [h1] at h
      rcases List.mem_cons.1 hp with rfl | hp
      · exact labIn_mem h1
      · exact labsIn_sub h p hp
theorem RS.strip {ops : List Oper} {D : Nat → Prop} {E : En} {a : Act} {ts : List V} (h : RS P ops D E a ts) {L : List (Nat × Bool)} (hL : holds ops a.tmps L) (t : Nat) : Rep P E (a.tmps.getD t undef) (strip L (getV ts t)) := by
  have hv := h.vals t
  unfold Ev.strip
  split
  · rename_i c' L' x hx
    rw [hx] at hv
    rw [cond_eq_ite]
    split
    · rename_i h2
      exact (hv.1 (fun p hp => hL p (labsIn_sub h2 p hp))).2
    · exact .dead _
  · rename_i x hx
    exact hv.plain hx
theorem rep_ofC1 {E : En} (v : Value) : Rep P E v (ofC1 v) := by
  unfold ofC1
  split
  · exact .bool _
  · exact .int _ _
  · exact .str _
  · exact .nils
  · exact .dead _
theorem rep_ofC {E : En} (v : Value) : Rep P E v (ofC v) := by
  unfold ofC
  split
  · rename_i cs
    refine .agg cs _ (by simp) (fun i x hx => ?_)
    rw [List.getElem?_map, Option.map_eq_some_iff] at hx
    obtain ⟨v, hv, rfl⟩ := hx
    have : cs.getD i undef = v := by
      rw [Array.getElem?_toList] at hv
      simp [Array.getD_eq_getD_getElem?, hv]
    rw [this]; exact rep_ofC1 v
  · exact rep_ofC1 v
theorem RS.ev {ops : List Oper} {D : Nat → Prop} {E : En} {a : Act} {ts : List V} (h : RS P ops D E a ts) {L : List (Nat × Bool)} (hL : holds ops a.tmps L) (x : Operand) : Rep P E (a.eval x) (Ev.ev ts L x) := by
  cases x with
  | tmp t => exact h.strip hL t
  | const v => exact rep_ofC v
  | func f => exact .fn f #[] [] rfl (fun i x hi => by simp at hi)
  | global g => exact .dead _
theorem getV_set (ts : List V) (d t : Nat) (x : V) : getV (ts.set d x) t = if t = d ∧ d < ts.length then x else getV ts t := by
  unfold getV
  rw [List.getD_eq_getElem?_getD, List.getD_eq_getElem?_getD, List.getElem?_set]
  by_cases h : d = t
  · subst h
    by_cases h2 : d < ts.length <;> simp [h2]
  · rw [if_neg h, if_neg (fun e => h e.1.symm)]
theorem getD_setIf (tmps : Array Value) (d t : Nat) (v : Value) : (tmps.setIfInBounds d v).getD t undef = if t = d ∧ d < tmps.size then v else tmps.getD t undef := by
  rw [Array.getD_eq_getD_getElem?, Array.getD_eq_getD_getElem?, Array.getElem?_setIfInBounds]
  by_cases h : d = t
  · subst h
    by_cases h2 : d < tmps.size <;> simp [h2]
  · rw [if_neg h, if_neg (fun e => h e.1.symm)]
theorem oneDst_yields {ops : List Oper} {j i : Nat} {o : Oper} (h1 : oneDst ops j = true) (ho : ops[i]? = some o) (hij : i ≠ j) (tmps : Array Value) (v : Value) :
    yielded ops.toArray ((⟨tmps, []⟩ : Act).put o.dst v).tmps j = yielded ops.toArray tmps j := by
  unfold oneDst at h1
  unfold yielded
  cases hd : (ops[j]?).bind (·.dst) with
  | none => simp [hd]
  | some d =>
    rw [hd] at h1
    have hlt : i < ops.length := by
      rcases Nat.lt_or_ge i ops.length with h | h
      · exact h
      · rw [List.getElem?_eq_none h] at ho; cases ho
    have h2 := List.all_eq_true.1 h1 i (List.mem_range.2 hlt)
    rw [ho] at h2
    have hne : Nat.beq i j = false := by
      cases hb : Nat.beq i j with
      | false => rfl
      | true => exact absurd (Nat.eq_of_beq_eq_true hb) hij
    rw [hne] at h2
    cases hod : o.dst with
    | none => simp [Act.put]
    | some d' =>
      have h3 : Nat.beq d d' = false := by simpa [hod] using h2
      have h4 : d' ≠ d := fun e => by rw [e] at h3; simp at h3
      have h5 : (ops.toArray[j]?).bind (·.dst) = some d := by simpa using hd
      rw [h5]
      simp [Act.put, Array.getElem?_setIfInBounds, h4]
theorem holds_put {ops : List Oper} {i : Nat} {o : Oper} {L : List (Nat × Bool)} (ho : ops[i]? = some o) (hL : ∀ p, p ∈ L → p.1 ≠ i ∧ oneDst ops p.1 = true) (a : Act) (v : Value) :
    holds ops (a.put o.dst v).tmps L ↔ holds ops a.tmps L := by
  have key : ∀ p, p ∈ L → yielded ops.toArray (a.put o.dst v).tmps p.1 = yielded ops.toArray a.tmps p.1 := by
    intro p hp
    have := oneDst_yields (hL p hp).2 ho (fun e => (hL p hp).1 e.symm) a.tmps v
    rw [← this]
    cases o.dst <;> rfl
  exact ⟨fun h p hp => (key p hp).symm.trans (h p hp), fun h p hp => (key p hp).trans (h p hp)⟩
theorem put_defers (a : Act) (d : Option Nat) (v : Value) : (a.put d v).defers = a.defers := by cases d <;> rfl
theorem put_size (a : Act) (d : Option Nat) (v : Value) : (a.put d v).tmps.size = a.tmps.size := by cases d <;> simp [Act.put]
theorem bare_noWhen (x : V) (c : Bool) (L : List (Nat × Bool)) (y : V) : bare x ≠ .when c L y := by cases x <;> (intro e; cases e)
/-- An operation's value laid down. -/
theorem RS.put {ops : List Oper} {D : Nat → Prop} {E E' : En} {a : Act} {ts : List V} (h : RS P ops D E a ts) {i : Nat} {o : Oper} (ho : ops[i]? = some o) (hi : ¬ D i)
    (hle : En.Le E E') {L : List (Nat × Bool)} (hL : ∀ p, p ∈ L → D p.1 ∧ oneDst ops p.1 = true) {v : Value} {x : V} {c : Bool}
    (hv : (holds ops a.tmps L → c = true ∧ Rep P E' v x) ∧ (¬ holds ops a.tmps L → v = undef)) : RS P ops (fun j => D j ∨ j = i) E' (a.put o.dst v) (putV L c ts o.dst x) := by
  have hne : ∀ p : Nat × Bool, D p.1 → p.1 ≠ i := fun p hp e => hi (e ▸ hp)
  have keep : ∀ (w : Value) (y : V) (hy : ∀ c' L' z, y = .when c' L' z → ∀ p, p ∈ L' → D p.1 ∧ oneDst ops p.1 = true), RepW P ops a.tmps E w y → RepW P ops (a.put o.dst v).tmps E' w y := by
    intro w y hy hr
    cases y with
    | when c' L' z =>
      have hh := holds_put ho (fun p hp => ⟨hne p (hy c' L' z rfl p hp).1, (hy c' L' z rfl p hp).2⟩) a v
      exact ⟨fun q => ⟨(hr.1 (hh.1 q)).1, (hr.1 (hh.1 q)).2.mono hle⟩, fun q => hr.2 (fun r => q (hh.2 r))⟩
    | _ => exact (RepW.plain hr (by intros; intro e; cases e)).mono hle |>.w
  have hLh := holds_put ho (fun p hp => ⟨hne p (hL p hp).1, (hL p hp).2⟩) a v
  refine ⟨(put_defers ..).trans h.defers, ?_, fun t => ?_, fun t c' L' y hy => ?_⟩
  · rw [put_size, h.size]; cases o.dst <;> simp [putV]
  · cases hd : o.dst with
    | none =>
      have := keep _ _ (fun c' L' z e => (h.labs t c' L' z e).2.1) (h.vals t)
      rw [hd] at this
      exact this
    | some d =>
      have e1 : (a.put o.dst v).tmps.getD t undef = if t = d ∧ d < a.tmps.size then v else a.tmps.getD t undef := by rw [hd]; exact getD_setIf _ _ _ _
      rw [hd] at e1
      show RepW P ops _ E' ((a.put (some d) v).tmps.getD t undef) (getV (ts.set d (wrapL L c x)) t)
      rw [e1, getV_set, h.size]
      split
      · cases L with
        | nil =>
          have hr := (hv.1 (by intro p hp; cases hp)).2
          have : bare x = x := by cases x <;> first | rfl | exact hr.noWhen.elim
          show RepW P ops _ E' v (bare x)
          rw [this]; exact hr.w
        | cons p l =>
          rw [hd] at hLh
          refine ⟨fun q => ?_, fun q => hv.2 (fun r => q (hLh.2 r))⟩
          obtain ⟨hcc, hr⟩ := hv.1 (hLh.1 q)
          have : bare x = x := by cases x <;> first | rfl | exact hr.noWhen.elim
          rw [this]; exact ⟨hcc, hr⟩
      · have := keep _ _ (fun c' L' z e => (h.labs t c' L' z e).2.1) (h.vals t)
        rw [hd] at this
        exact this
  · have old : ∀ t c' L' y, getV ts t = .when c' L' y → L' ≠ [] ∧ (∀ p, p ∈ L' → (D p.1 ∨ p.1 = i) ∧ oneDst ops p.1 = true) ∧ ∀ c'' L'' z, y ≠ .when c'' L'' z := fun t c' L' y e =>
      ⟨(h.labs t c' L' y e).1, fun p hp => ⟨Or.inl ((h.labs t c' L' y e).2.1 p hp).1, ((h.labs t c' L' y e).2.1 p hp).2⟩, (h.labs t c' L' y e).2.2⟩
    cases hd : o.dst with
    | none => rw [hd] at hy; exact old t c' L' y hy
    | some d =>
      rw [hd] at hy
      have hy' : getV (ts.set d (wrapL L c x)) t = .when c' L' y := hy
      rw [getV_set] at hy'
      split at hy'
      · cases L with
        | nil => exact absurd hy' (bare_noWhen x c' L' y)
        | cons p l =>
          injection hy' with e0 e1 e2
          subst e0 e1 e2
          exact ⟨by simp, fun p hp => ⟨Or.inl (hL p hp).1, (hL p hp).2⟩, bare_noWhen x⟩
      · exact old t c' L' y hy'
end Go.Proofs.YtolackmpfnndhaaGreatDoor.Ev
