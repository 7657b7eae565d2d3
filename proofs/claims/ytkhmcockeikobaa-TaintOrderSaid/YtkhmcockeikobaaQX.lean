/- What is known of the laws' arguments: numbers in their ranges, strings and slices that fit. Printed by a program of this claim's author. -/
import Derived.Test.YtkhmcockeikobaaOpn
import Derived.Test.YtkhmcockeikobaaQ0
import Derived.KernelRfl
namespace Go.Proofs.Ytkhmcockeikobaa.Q
open Go.RowKit Go.Proofs.Ytkhmcockeikobaa.Opn Go.Proofs.YtkhmcockeikobaaW.PrintWords Go.Proofs.YtkhmcockeikobaaW.PrintLast
def X23 (x : S23) : Prop := SzOk x.f0 ∧ SzOk x.f1 ∧ (fun _ => True) x.f2 ∧ I64 x.f3 ∧ I64 x.f4
theorem opens23 : Opens Try.prog 23 k23 X23 := Opens.struct (fun a => ⟨a.1, a.2.1, a.2.2.1, a.2.2.2.1, a.2.2.2.2⟩) Try.underlying23 (by kernel_rfl) (fun n => (opensFs_cons rfl (by kernel_rfl) ((Opens.string Try.underlying9) n) (opensFs_cons rfl (by kernel_rfl) ((Opens.string Try.underlying9) n) (opensFs_cons rfl (by kernel_rfl) ((Opens.bool Try.underlying4) n) (opensFs_cons rfl (by kernel_rfl) ((Opens.i64 Try.underlying3) n) (opensFs_one rfl (by kernel_rfl) ((Opens.i64 Try.underlying3) n))))))) (fun _ => rfl)
def X25 (x : S25) : Prop := SzOk x.f0 ∧ SzOk x.f1 ∧ I64 x.f2 ∧ I64 x.f3
theorem opens25 : Opens Try.prog 25 k25 X25 := Opens.struct (fun a => ⟨a.1, a.2.1, a.2.2.1, a.2.2.2⟩) Try.underlying25 (by kernel_rfl) (fun n => (opensFs_cons rfl (by kernel_rfl) ((Opens.string Try.underlying9) n) (opensFs_cons rfl (by kernel_rfl) ((Opens.string Try.underlying9) n) (opensFs_cons rfl (by kernel_rfl) ((Opens.i64 Try.underlying3) n) (opensFs_one rfl (by kernel_rfl) ((Opens.i64 Try.underlying3) n)))))) (fun _ => rfl)
end Go.Proofs.Ytkhmcockeikobaa.Q
