/- Part of a claim: see its row. Conditions: stated at each. -/
import Derived.Test.YthkdpkgkejdcgaaZEOpn
import Derived.Test.YthkdpkgkejdcgaaZEQ0
import Derived.KernelRfl
namespace Go.Proofs.Ythkdpkgkejdcgaa.Q
open Go.RowKit Go.Proofs.Ythkdpkgkejdcgaa.Opn Go.Proofs.YthkdpkgkejdcgaaW.PrintWords Go.Proofs.YthkdpkgkejdcgaaW.PrintLast
def X59 (x : S59) : Prop := SzOk x.f0 ∧ SzOk x.f1
theorem opens59 : Opens Try.prog 59 k59 X59 := Opens.struct (fun a => ⟨a.1, a.2⟩) Try.underlying59 (by kernel_rfl) (fun n => (opensFs_cons rfl (by kernel_rfl) ((Opens.string Try.underlying9) n) (opensFs_one rfl (by kernel_rfl) ((Opens.string Try.underlying9) n)))) (fun _ => rfl)
def X62 (x : S62) : Prop := SzOk x.f0 ∧ SzOk x.f1 ∧ I64 x.f2 ∧ (fun _ => True) x.f3 ∧ (fun _ => True) x.f4
theorem opens62 : Opens Try.prog 62 k62 X62 := Opens.struct (fun a => ⟨a.1, a.2.1, a.2.2.1, a.2.2.2.1, a.2.2.2.2⟩) Try.underlying62 (by kernel_rfl) (fun n => (opensFs_cons rfl (by kernel_rfl) ((Opens.string Try.underlying9) n) (opensFs_cons rfl (by kernel_rfl) ((Opens.string Try.underlying9) n) (opensFs_cons rfl (by kernel_rfl) ((Opens.i64 Try.underlying3) n) (opensFs_cons rfl (by kernel_rfl) ((Opens.bool Try.underlying4) n) (opensFs_one rfl (by kernel_rfl) ((Opens.bool Try.underlying4) n))))))) (fun _ => rfl)
def X66 (x : S66) : Prop := SzOk x.f0 ∧ (XL 16 SzOk) x.f1
theorem opens66 : Opens Try.prog 66 k66 X66 := Opens.struct (fun a => ⟨a.1, a.2⟩) Try.underlying66 (by kernel_rfl) (fun n => (opensFs_cons rfl (by kernel_rfl) ((Opens.string Try.underlying9) n) (opensFs_one rfl (by kernel_rfl) ((Opens.slice Try.underlying24 (by kernel_rfl) (by kernel_rfl) (Opens.string Try.underlying9)) n)))) (fun _ => rfl)
def X27 (x : S27) : Prop := SzOk x.f0 ∧ SzOk x.f1 ∧ SzOk x.f2 ∧ I64 x.f3 ∧ I64 x.f4 ∧ I64 x.f5 ∧ I64 x.f6 ∧ (fun _ => True) x.f7 ∧ I64 x.f8 ∧ (XL 32 X59) x.f9 ∧ (XL 48 X62) x.f10 ∧ (XL 16 SzOk) x.f11 ∧ (XL 40 X66) x.f12
theorem opens27 : Opens Try.prog 27 k27 X27 := Opens.struct (fun a => ⟨a.1, a.2.1, a.2.2.1, a.2.2.2.1, a.2.2.2.2.1, a.2.2.2.2.2.1, a.2.2.2.2.2.2.1, a.2.2.2.2.2.2.2.1, a.2.2.2.2.2.2.2.2.1, a.2.2.2.2.2.2.2.2.2.1, a.2.2.2.2.2.2.2.2.2.2.1, a.2.2.2.2.2.2.2.2.2.2.2.1, a.2.2.2.2.2.2.2.2.2.2.2.2⟩) Try.underlying27 (by kernel_rfl) (fun n => (opensFs_cons rfl (by kernel_rfl) ((Opens.string Try.underlying9) n) (opensFs_cons rfl (by kernel_rfl) ((Opens.string Try.underlying9) n) (opensFs_cons rfl (by kernel_rfl) ((Opens.string Try.underlying9) n) (opensFs_cons rfl (by kernel_rfl) ((Opens.i64 Try.underlying3) n) (opensFs_cons rfl (by kernel_rfl) ((Opens.i64 Try.underlying3) n) (opensFs_cons rfl (by kernel_rfl) ((Opens.i64 Try.underlying3) n) (opensFs_cons rfl (by kernel_rfl) ((Opens.i64 Try.underlying3) n) (opensFs_cons rfl (by kernel_rfl) ((Opens.bool Try.underlying4) n) (opensFs_cons rfl (by kernel_rfl) ((Opens.i64 Try.underlying3) n) (opensFs_cons rfl (by kernel_rfl) ((Opens.slice Try.underlying22 (by kernel_rfl) (by kernel_rfl) opens59) n) (opensFs_cons rfl (by kernel_rfl) ((Opens.slice Try.underlying23 (by kernel_rfl) (by kernel_rfl) opens62) n) (opensFs_cons rfl (by kernel_rfl) ((Opens.slice Try.underlying24 (by kernel_rfl) (by kernel_rfl) (Opens.string Try.underlying9)) n) (opensFs_one rfl (by kernel_rfl) ((Opens.slice Try.underlying25 (by kernel_rfl) (by kernel_rfl) opens66) n))))))))))))))) (fun _ => rfl)
def XN31 : Nat → S31 → Prop
  | 0, _ => True
  | n + 1, x => I64 x.f0 ∧ I64 x.f1 ∧ SzOk x.f2 ∧ XL 80 (XN31 n) x.f3 ∧ XL 96 (fun y => SzOk y.f0 ∧ (XN31 n) y.f1) x.f4
def X31 (x : S31) : Prop := ∀ n, XN31 n x
abbrev X70 (x : S70) : Prop := SzOk x.f0 ∧ X31 x.f1
theorem X31_iff {x : S31} : X31 x ↔ I64 x.f0 ∧ I64 x.f1 ∧ SzOk x.f2 ∧ XL 80 X31 x.f3 ∧ XL 96 X70 x.f4 := by
  constructor
  · intro h
    have hh : ∀ m, I64 x.f0 ∧ I64 x.f1 ∧ SzOk x.f2 ∧ XL 80 (XN31 m) x.f3 ∧ XL 96 (fun y => SzOk y.f0 ∧ (XN31 m) y.f1) x.f4 := fun m => h (m + 1)
    exact ⟨(hh 0).1, (hh 0).2.1, (hh 0).2.2.1, ⟨(hh 0).2.2.2.1.1, fun y hy m => ((hh m).2.2.2.1).2 y hy⟩, ⟨(hh 0).2.2.2.2.1, fun y hy => ⟨(((hh 0).2.2.2.2).2 y hy).1, fun m => (((hh m).2.2.2.2).2 y hy).2⟩⟩⟩
  · rintro ⟨h0, h1, h2, h3, h4⟩ m
    cases m with
    | zero => trivial
    | succ m => exact (show I64 x.f0 ∧ I64 x.f1 ∧ SzOk x.f2 ∧ XL 80 (XN31 m) x.f3 ∧ XL 96 (fun y => SzOk y.f0 ∧ (XN31 m) y.f1) x.f4 from ⟨h0, h1, h2, ⟨h3.1, fun y hy => h3.2 y hy m⟩, ⟨h4.1, fun y hy => ⟨(h4.2 y hy).1, (h4.2 y hy).2 m⟩⟩⟩)
theorem roll31 {w : World} {x : S31} {cs : List Value} (h : (F31 k31).K w x cs) : k31.K w x cs := by
  obtain ⟨_, _, rfl, rfl, ⟨_, _, rfl, rfl, ⟨_, _, rfl, rfl, ⟨_, _, rfl, ⟨A3, c3, rfl, l3, g3⟩, ⟨A4, c4, rfl, l4, g4⟩⟩⟩⟩⟩ := h
  exact k31_mk w x l3 g3 l4 g4
theorem opens31 : Opens Try.prog 31 k31 X31 := by
  intro n
  induction n using Nat.strongRecOn with
  | _ n ih =>
    cases n with
    | zero => exact opensN_zero
    | succ n =>
      have o3 : OpensN Try.prog n 28 (Kd.slice 31 k31) (XL 80 X31) := by
        cases n with
        | zero => exact opensN_zero
        | succ m =>
          have he : OpensN Try.prog m 31 k31 X31 := ih m (by omega)
          exact opens_slice Try.underlying28 (by kernel_rfl) (by kernel_rfl) he
      have o4 : OpensN Try.prog n 29 (Kd.slice 70 k70) (XL 96 X70) := by
        cases n with
        | zero => exact opensN_zero
        | succ m =>
          have he : OpensN Try.prog m 70 k70 X70 := by
            cases m with
            | zero => exact opensN_zero
            | succ q => exact opens_struct (g := fun a => ⟨a.1, a.2⟩) Try.underlying70 (by kernel_rfl) (opensFs_cons rfl (by kernel_rfl) (Opens.string Try.underlying9 q) (opensFs_one rfl (by kernel_rfl) (ih q (by omega)))) (fun _ => rfl)
          exact opens_slice Try.underlying29 (by kernel_rfl) (by kernel_rfl) he
      intro H enc w cs x ht hw
      obtain ⟨a, hK, hX⟩ := opens_struct (d := (Kd.pair (Kd.int .i64) (Kd.pair (Kd.int .i64) (Kd.pair Kd.string (Kd.pair (Kd.slice 31 k31) (Kd.slice 70 k70)))))) (f := fun x : S31 => (x.f0, x.f1, x.f2, x.f3, x.f4)) (g := fun a => ⟨a.1, a.2.1, a.2.2.1, a.2.2.2.1, a.2.2.2.2⟩) Try.underlying31 (by kernel_rfl) (opensFs_cons rfl (by kernel_rfl) ((Opens.i64 Try.underlying3) n) (opensFs_cons rfl (by kernel_rfl) ((Opens.i64 Try.underlying3) n) (opensFs_cons rfl (by kernel_rfl) ((Opens.string Try.underlying9) n) (opensFs_cons rfl (by kernel_rfl) o3 (opensFs_one rfl (by kernel_rfl) o4))))) (fun _ => rfl) H enc w cs x ht hw
      exact ⟨a, roll31 hK, X31_iff.2 hX⟩
def X33 (x : S33) : Prop := X27 x.f0 ∧ X31 x.f1 ∧ X31 x.f2
theorem opens33 : Opens Try.prog 33 k33 X33 := Opens.struct (fun a => ⟨a.1, a.2.1, a.2.2⟩) Try.underlying33 (by kernel_rfl) (fun n => (opensFs_cons rfl (by kernel_rfl) (opens27 n) (opensFs_cons rfl (by kernel_rfl) (opens31 n) (opensFs_one rfl (by kernel_rfl) (opens31 n))))) (fun _ => rfl)
end Go.Proofs.Ythkdpkgkejdcgaa.Q
