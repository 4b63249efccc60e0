/- What comes in as an argument of the law TermClouds, and the pure statement that is left of it. Conditions: none of its own. -/
import Derived.Test.YtmjfjjnmdljkeaaGTermCloudsx0
import Derived.Test.YtmjfjjnmdljkeaaGTermCloudsx1
import Derived.Test.YtmjfjjnmdljkeaaGTermCloudsx2
import Derived.Test.YtmjfjjnmdljkeaaOpening
namespace Go.Proofs.Ytmjfjjnmdljkeaa.GTermClouds
open Go.RowKit Go.Proofs.YtmjfjjnmdljkeaaW.PrintWords Go.Proofs.YtmjfjjnmdljkeaaW.PrintLast Go.Proofs.YtmjfjjnmdljkeaaW.PrintMore Go.Proofs.Ytmjfjjnmdljkeaa.Opening
set_option linter.unusedVariables false
set_option maxRecDepth 100000
def G95 (x : S95) : Prop := (fun s : ByteArray => s.size ≤ 140737488351232) x.f0 ∧ (fun s : ByteArray => s.size ≤ 140737488351232) x.f1 ∧ (fun xs : List Int => xs.length * 8 ≤ 140737488351232 ∧ xs.length ≤ 9223372036854775807 ∧ ∀ y ∈ xs, (fun n : Int => (Lit.int .i64 n).wf = true) y) x.f2
theorem G95_iff (x : S95) : G95 x ↔ x.f0.size ≤ 140737488351232 ∧ x.f1.size ≤ 140737488351232 ∧ (x.f2.length * 8 ≤ 140737488351232 ∧ x.f2.length ≤ 9223372036854775807 ∧ ∀ y ∈ x.f2, (Lit.int .i64 y).wf = true) := Iff.rfl
theorem opens95 (N : Nat) : Opens Try.prog N 95 k95 G95 := opens_struct' (fun x : S95 => (x.f0, x.f1, x.f2)) (fun y => ⟨y.1, y.2.1, y.2.2⟩) (fun _ => rfl) Try.underlying95 (by kernel_rfl) (fields_cons (by rfl) (by kernel_rfl) (opens_string Try.underlying9 N) (fields_cons (by rfl) (by kernel_rfl) (opens_string Try.underlying9 N) (fields_one (by rfl) (by kernel_rfl) (opens_slice 8 Try.underlying30 (by kernel_rfl) (by kernel_rfl) (opens_int Try.underlying3 N)))))
/-- What is left to be shown. -/
def mastlaw2_TermClouds.Pure : Prop := ∀ (x0 : List (S95)) (x1 : Int), (x0.length * 56 ≤ 140737488351232 ∧ x0.length ≤ 9223372036854775807 ∧ ∀ y ∈ x0, G95 y) → (Lit.int .i64 x1).wf = true → ∃ k, mastlaw2_TermClouds.f k x0 x1 = some true
end Go.Proofs.Ytmjfjjnmdljkeaa.GTermClouds
