/- The hash of a template: the program's and the reference's. Conditions: stated at each. -/
import Derived.Test.YtolackmpfnndhaaGreatDoorJt
import Derived.Test.YtolackmpfnndhaaGreatDoorJr
namespace Go.Proofs.YtolackmpfnndhaaGreatDoor.Ev
open Go Go.RowKit
set_option linter.unusedVariables false
set_option maxRecDepth 100000
noncomputable section
def hstep (s : ByteArray) (h : Int) (i : Nat) : Int := iMul .u32 (iXor .u32 h (iCv .u32 (sAt s (i : Int)))) 16777619
/-- The hash of a text, as a number. -/
def hnum (s : ByteArray) : Int := (List.range s.size).foldl (hstep s) 2166136261
def ch (h n : Int) : Int := iAdd .u8 97 (iCv .u8 (iAnd .u32 (iShr .u32 h n) 15))
/-- A number's letters. -/
def wd (h : Int) : ByteArray := sRows [[.int .u8 (ch h 28)], [.int .u8 (ch h 24)], [.int .u8 (ch h 20)], [.int .u8 (ch h 16)], [.int .u8 (ch h 12)], [.int .u8 (ch h 8)], [.int .u8 (ch h 4)], [.int .u8 (ch h 0)]]
/-- The hash of a template. -/
def hsh (t : Row) : ByteArray := wd (hnum (prn 8 (podcodec_FromTemplate_v t)).1)
theorem hsh_size (t : Row) : (hsh t).size = 8 := rfl
theorem hstep_in (s : ByteArray) (h : Int) (i : Nat) : 0 ≤ hstep s h i ∧ hstep s h i < 4294967296 := by
  unfold hstep iMul
  rw [IntKind.wrap_u32]; omega
theorem hnum_in (s : ByteArray) : 0 ≤ hnum s ∧ hnum s < 4294967296 := by
  unfold hnum
  have : ∀ (l : List Nat) (h : Int), (0 ≤ h ∧ h < 4294967296) → 0 ≤ l.foldl (hstep s) h ∧ l.foldl (hstep s) h < 4294967296 := fun l => by
    induction l with
    | nil => exact fun h hh => hh
    | cons i l ih => exact fun h _ => ih _ (hstep_in s h i)
  exact this _ _ (by decide)
theorem Hash_val (t : Row) (ht : Br t) (he : et 37 t = t) : D (fun k => (pod_Hash.f k t).eval) (fun v => v = hsh t) := by
  have hn := podcodec_FromTemplate_nv t ht
  refine D.bnd (q := fun v => v = podcodec_FromTemplate_v t) ?_ (fun r hr => ?_)
  · show D (fun k => (podcodec_FromTemplate.f k (et 37 t)).eval) _
    rw [he]; exact podcodec_FromTemplate_val t ht
  subst hr
  refine D.bnd (q := fun v => v = prn 8 (podcodec_FromTemplate_v t)) ?_ (fun r hr => ?_)
  · show D (fun k => (json_Print.f k (et 110 (podcodec_FromTemplate_v t))).eval) _
    rw [hn.et]; exact Print_val (Nat.le_refl _) hn
  have hs : r.1.size ≤ 20000 := by rw [hr]; exact prn_le
  have hh : hsh t = wd (hnum r.1) := by rw [hr]; rfl
  rw [hh]
  clear hh hr
  refine D.bnd (q := fun v => v = hnum r.1) (D.fold (n := r.1.size) (by omega) (hstep r.1) id (fun _ _ => True) _ trivial (fun i x hi _ => ⟨D.tt (ilt_nat hi) (D.tt (iin_nat hi) (D.ret rfl)), trivial⟩) (fun i x hi => D.test (fun e => by rw [show iLt (i : Int) (sLen r.1) = false from ilt_nat' hi] at e; cases e) (fun _ => D.ret rfl))) (fun h hh => ?_)
  subst hh
  generalize hnum r.1 = h
  refine D.tt (by kernel_rfl) (D.tt (by kernel_rfl) (D.bnd (q := fun v => v = [[V.int .u8 (ch h 28)], [.int .u8 (ch h 24)], [.int .u8 (ch h 20)], [.int .u8 (ch h 16)], [.int .u8 (ch h 12)], [.int .u8 (ch h 8)], [.int .u8 (ch h 4)], [.int .u8 (ch h 0)]]) ⟨_, rfl, 9, fun k hk => ?_⟩ (fun x hx => by subst hx; exact D.ret (by kernel_rfl))))
  obtain ⟨m, rfl⟩ : ∃ m, k = m + 9 := ⟨k - 9, by omega⟩
  kernel_rfl
/-- The letters, one after the other. -/
theorem and15 (a : Nat) (h : a < 4294967296) : iAnd .u32 (a : Int) 15 = ((a % 16 : Nat) : Int) := by
  unfold iAnd
  rw [IntKind.wrap_u32]
  have e : ((BitVec.ofInt IntKind.u32.bits (a : Int)) &&& (BitVec.ofInt IntKind.u32.bits 15)).toNat = a % 16 := by
    rw [BitVec.toNat_and]
    have e1 : (BitVec.ofInt IntKind.u32.bits (a : Int)).toNat = a := by
      rw [BitVec.toNat_ofInt]
      show (((a : Int) % ((2 : Nat) ^ 32 : Nat)).toNat) = a
      omega
    have e2 : (BitVec.ofInt IntKind.u32.bits 15).toNat = 15 := rfl
    rw [e1, e2]
    exact Nat.and_two_pow_sub_one_eq_mod a 4
  rw [e]; omega
theorem ch_nat (h n : Nat) (hh : h < 4294967296) (hn : n ≤ 28) : ch (h : Int) (n : Int) = ((97 + (h / 2 ^ n) % 16 : Nat) : Int) := by
  unfold ch
  have e1 : iShr .u32 (h : Int) (n : Int) = ((h / 2 ^ n : Nat) : Int) := by
    unfold iShr
    have : min ((n : Int).toNat) IntKind.u32.bits = n := by rw [Int.toNat_natCast]; show min n 32 = n; omega
    rw [this]
    have h2 : ((2 : Int) ^ n) = ((2 ^ n : Nat) : Int) := by simp
    rw [h2]
    exact (Int.ofNat_fdiv h (2 ^ n)).symm
  have hd : h / 2 ^ n ≤ h := Nat.div_le_self _ _
  rw [e1, and15 _ (by omega)]
  have hm : h / 2 ^ n % 16 < 16 := Nat.mod_lt _ (by decide)
  generalize h / 2 ^ n % 16 = a at hm ⊢
  unfold iAdd iCv
  rw [IntKind.wrap_u8, IntKind.wrap_u8]; omega
theorem letter (q : Nat) (h : q < 16) : sCut (bs [97, 98, 99, 100, 101, 102, 103, 104, 105, 106, 107, 108, 109, 110, 111, 112]) (q : Int) ((q : Int) + 1) = bo [UInt8.ofNat (97 + q)] := by
  have : ∀ q : Nat, q < 16 → sCut (bs [97, 98, 99, 100, 101, 102, 103, 104, 105, 106, 107, 108, 109, 110, 111, 112]) (q : Int) ((q : Int) + 1) = bo [UInt8.ofNat (97 + q)] := fun q hq => by
    match q, hq with
    | 0, _ => rfl
    | 1, _ => rfl
    | 2, _ => rfl
    | 3, _ => rfl
    | 4, _ => rfl
    | 5, _ => rfl
    | 6, _ => rfl
    | 7, _ => rfl
    | 8, _ => rfl
    | 9, _ => rfl
    | 10, _ => rfl
    | 11, _ => rfl
    | 12, _ => rfl
    | 13, _ => rfl
    | 14, _ => rfl
    | 15, _ => rfl
    | q + 16, h => omega
  exact this q h
theorem rHash_val (t : Row) (ht : Br t) (he : et 37 t = t) : D (fun k => (ref33_Hash.f k t).eval) (fun v => v = hsh t) := by
  have hn := podcodec_FromTemplate_nv t ht
  refine D.bnd (q := fun v => v = podcodec_FromTemplate_v t) ?_ (fun r hr => ?_)
  · show D (fun k => (ref19_FromTemplate.f k (et 37 t)).eval) _
    rw [he]; exact ref19_FromTemplate_val t ht
  subst hr
  refine D.bnd (q := fun v => v = prn 8 (podcodec_FromTemplate_v t)) ?_ (fun r hr => ?_)
  · show D (fun k => (ref05_Print.f k (et 110 (podcodec_FromTemplate_v t))).eval) _
    rw [hn.et]; exact rPrint_val (Nat.le_refl _) hn
  have hs : r.1.size ≤ 20000 := by rw [hr]; exact prn_le
  have hh : hsh t = wd (hnum r.1) := by rw [hr]; rfl
  rw [hh]
  clear hh hr
  refine D.bnd (q := fun v => v = hnum r.1) (D.fold (n := r.1.size) (by omega) (hstep r.1) id (fun _ _ => True) _ trivial (fun i x hi _ => ⟨D.tt (ilt_nat hi) (D.tt (iin_nat hi) (D.ret rfl)), trivial⟩) (fun i x hi => D.test (fun e => by rw [show iLt (i : Int) (sLen r.1) = false from ilt_nat' hi] at e; cases e) (fun _ => D.ret rfl))) (fun h hh => ?_)
  subst hh
  have hr := hnum_in r.1
  obtain ⟨h, hh⟩ : ∃ h : Nat, hnum r.1 = (h : Int) := ⟨(hnum r.1).toNat, by omega⟩
  rw [hh] at hr ⊢
  have hlt : h < 4294967296 := by omega
  clear hh hr hs
  refine D.bnd (q := fun v => v = wd (h : Int)) ?_ (fun x hx => by subst hx; exact D.ret rfl)
  -- the letters so far
  let L : Nat → List UInt8 := fun i => (List.range i).map fun j => UInt8.ofNat (97 + (h / 2 ^ (28 - 4 * j)) % 16)
  refine D.mono (p := fun v => v = bo (L 8)) (D.loop (fun x : Int × ByteArray × Int => ∃ i : Nat, i ≤ 8 ∧ x = (((16 ^ i * h % 4294967296 : Nat) : Int), bo (L i), (i : Int))) (fun x => 8 - x.2.2.toNat) _ (fun x hx => ?_) _ ⟨0, Nat.zero_le _, ?_⟩) (fun v hv => ?_)
  · obtain ⟨i, hi, rfl⟩ := hx
    by_cases h8 : i < 8
    · have hx : 16 ^ i * h % 4294967296 < 4294967296 := Nat.mod_lt _ (by decide)
      have key : 16 ^ i * h % 4294967296 / 268435456 = (h / 2 ^ (28 - 4 * i)) % 16 := by
        match i, h8 with
        | 0, _ => show 1 * h % 4294967296 / 268435456 = (h / 268435456) % 16; omega
        | 1, _ => show 16 * h % 4294967296 / 268435456 = (h / 16777216) % 16; omega
        | 2, _ => show 256 * h % 4294967296 / 268435456 = (h / 1048576) % 16; omega
        | 3, _ => show 4096 * h % 4294967296 / 268435456 = (h / 65536) % 16; omega
        | 4, _ => show 65536 * h % 4294967296 / 268435456 = (h / 4096) % 16; omega
        | 5, _ => show 1048576 * h % 4294967296 / 268435456 = (h / 256) % 16; omega
        | 6, _ => show 16777216 * h % 4294967296 / 268435456 = (h / 16) % 16; omega
        | 7, _ => show 268435456 * h % 4294967296 / 268435456 = (h / 1) % 16; omega
        | i + 8, h => omega
      have hq : (h / 2 ^ (28 - 4 * i)) % 16 < 16 := Nat.mod_lt _ (by decide)
      obtain ⟨q, hqe⟩ : ∃ q, q = (h / 2 ^ (28 - 4 * i)) % 16 := ⟨_, rfl⟩
      rw [← hqe] at key hq
      have hL : L (i + 1) = L i ++ [UInt8.ofNat (97 + q)] := by
        show (List.range (i + 1)).map _ = _
        rw [List.range_succ, List.map_append, List.map_cons, List.map_nil, hqe]
      have hLl : (L i).length ≤ 8 := by show ((List.range i).map _).length ≤ 8; simp; omega
      obtain ⟨y, hy⟩ : ∃ y, y = 16 ^ i * h % 4294967296 := ⟨_, rfl⟩
      have hy2 : iMul .u32 (y : Int) 16 = ((16 ^ (i + 1) * h % 4294967296 : Nat) : Int) := by
        unfold iMul
        rw [IntKind.wrap_u32]
        have : 16 ^ (i + 1) * h % 4294967296 = y * 16 % 4294967296 := by
          rw [hy, Nat.pow_succ, Nat.mul_right_comm, Nat.mod_mul_mod]
        rw [this]; omega
      rw [← hy] at key hx ⊢
      have eq : iCv .i64 (iQuo .u32 (y : Int) 268435456) = (q : Int) := by
        have e1 : iQuo .u32 (y : Int) 268435456 = (q : Int) := by
          unfold iQuo
          rw [Int.tdiv_eq_ediv_of_nonneg (by omega), IntKind.wrap_u32]; omega
        rw [e1]; unfold iCv; exact IntWalk.i64_in _ (by omega)
      have eq1 : iAdd .i64 (iCv .i64 (iQuo .u32 (y : Int) 268435456)) 1 = (q : Int) + 1 := by rw [eq, iAdd_in (by omega) (by omega)]
      have e16 : sLen (bs [97, 98, 99, 100, 101, 102, 103, 104, 105, 106, 107, 108, 109, 110, 111, 112]) = 16 := rfl
      refine D.tt (iLt_iff.2 (by show (i : Int) < 8; omega)) (D.tt rfl (D.tt ?_ (D.tt ?_ (D.ret ?_))))
      · show iCut (iCv .i64 (iQuo .u32 (y : Int) 268435456)) (iAdd .i64 (iCv .i64 (iQuo .u32 (y : Int) 268435456)) 1) (sLen (bs [97, 98, 99, 100, 101, 102, 103, 104, 105, 106, 107, 108, 109, 110, 111, 112])) = true
        rw [eq1, eq, e16]; exact decide_eq_true (by omega)
      · show sOk (sLen (bo (L i))) (sLen (sCut (bs [97, 98, 99, 100, 101, 102, 103, 104, 105, 106, 107, 108, 109, 110, 111, 112]) (iCv .i64 (iQuo .u32 (y : Int) 268435456)) (iAdd .i64 (iCv .i64 (iQuo .u32 (y : Int) 268435456)) 1))) = true
        rw [eq1, eq, letter q hq]; exact sok_bo (by simp only [List.length_cons, List.length_nil]; omega)
      · refine ⟨⟨i + 1, by omega, ?_⟩, ?_⟩
        · show (iMul .u32 (y : Int) 16, sCat (bo (L i)) (sCut (bs [97, 98, 99, 100, 101, 102, 103, 104, 105, 106, 107, 108, 109, 110, 111, 112]) (iCv .i64 (iQuo .u32 (y : Int) 268435456)) (iAdd .i64 (iCv .i64 (iQuo .u32 (y : Int) 268435456)) 1)), iAdd .i64 (i : Int) 1) = _
          rw [eq1, eq, letter q hq, bo_cat, ← hL, hy2, iAdd_in (by omega) (by omega)]
          rfl
        · show 8 - (iAdd .i64 (i : Int) 1).toNat < 8 - ((i : Int)).toNat
          rw [iAdd_in (by omega) (by omega)]; omega
    · have : i = 8 := by omega
      subst this
      exact D.test (fun e => by have := iLt_iff.1 e; simp at this) (fun _ => D.ret rfl)
  · show ((h : Int), ByteArray.empty, (0 : Int)) = (((16 ^ 0 * h % 4294967296 : Nat) : Int), bo (L 0), ((0 : Nat) : Int))
    have : 16 ^ 0 * h % 4294967296 = h := by rw [Nat.pow_zero, Nat.one_mul]; omega
    rw [this]; rfl
  · subst hv
    have e : ∀ n : Nat, n ≤ 28 → [V.int .u8 (ch (h : Int) (n : Int))] = [V.int .u8 ((97 + (h / 2 ^ n) % 16 : Nat) : Int)] := fun n hn => by rw [ch_nat h n hlt hn]
    unfold wd
    have e28 : [V.int .u8 (ch (h : Int) 28)] = _ := e 28 (by decide)
    have e24 : [V.int .u8 (ch (h : Int) 24)] = _ := e 24 (by decide)
    have e20 : [V.int .u8 (ch (h : Int) 20)] = _ := e 20 (by decide)
    have e16 : [V.int .u8 (ch (h : Int) 16)] = _ := e 16 (by decide)
    have e12 : [V.int .u8 (ch (h : Int) 12)] = _ := e 12 (by decide)
    have e8 : [V.int .u8 (ch (h : Int) 8)] = _ := e 8 (by decide)
    have e4 : [V.int .u8 (ch (h : Int) 4)] = _ := e 4 (by decide)
    have e0 : [V.int .u8 (ch (h : Int) 0)] = _ := e 0 (by decide)
    rw [e28, e24, e20, e16, e12, e8, e4, e0]
    rfl
end
end Go.Proofs.YtolackmpfnndhaaGreatDoor.Ev
