/- What comes in as an argument of the law AssetFinds, and the pure statement that is left of it. Conditions: none of its own. -/
import Derived.Test.YtmjfjjnmdljkeaaGAssetFindsx0
import Derived.Test.YtmjfjjnmdljkeaaGAssetFindsx1
import Derived.Test.YtmjfjjnmdljkeaaGAssetFindsx2
import Derived.Test.YtmjfjjnmdljkeaaOpening
namespace Go.Proofs.Ytmjfjjnmdljkeaa.GAssetFinds
open Go.RowKit Go.Proofs.YtmjfjjnmdljkeaaW.PrintWords Go.Proofs.YtmjfjjnmdljkeaaW.PrintLast Go.Proofs.YtmjfjjnmdljkeaaW.PrintMore Go.Proofs.Ytmjfjjnmdljkeaa.Opening
set_option linter.unusedVariables false
set_option maxRecDepth 100000
def G37 (x : S37) : Prop := (fun s : ByteArray => s.size ≤ 140737488351232) x.f0 ∧ (fun xs : List ByteArray => xs.length * 16 ≤ 140737488351232 ∧ xs.length ≤ 9223372036854775807 ∧ ∀ y ∈ xs, (fun s : ByteArray => s.size ≤ 140737488351232) y) x.f1 ∧ (fun xs : List Int => xs.length * 8 ≤ 140737488351232 ∧ xs.length ≤ 9223372036854775807 ∧ ∀ y ∈ xs, (fun n : Int => (Lit.int .i64 n).wf = true) y) x.f2
theorem G37_iff (x : S37) : G37 x ↔ x.f0.size ≤ 140737488351232 ∧ (x.f1.length * 16 ≤ 140737488351232 ∧ x.f1.length ≤ 9223372036854775807 ∧ ∀ y ∈ x.f1, y.size ≤ 140737488351232) ∧ (x.f2.length * 8 ≤ 140737488351232 ∧ x.f2.length ≤ 9223372036854775807 ∧ ∀ y ∈ x.f2, (Lit.int .i64 y).wf = true) := Iff.rfl
theorem opens37 (N : Nat) : Opens Try.prog N 37 k37 G37 := opens_struct' (fun x : S37 => (x.f0, x.f1, x.f2)) (fun y => ⟨y.1, y.2.1, y.2.2⟩) (fun _ => rfl) Try.underlying37 (by kernel_rfl) (fields_cons (by rfl) (by kernel_rfl) (opens_string Try.underlying9 N) (fields_cons (by rfl) (by kernel_rfl) (opens_slice 16 Try.underlying35 (by kernel_rfl) (by kernel_rfl) (opens_string Try.underlying9 N)) (fields_one (by rfl) (by kernel_rfl) (opens_slice 8 Try.underlying30 (by kernel_rfl) (by kernel_rfl) (opens_int Try.underlying3 N)))))
/-- What is left to be shown. -/
def mastlaw2_AssetFinds.Pure : Prop := ∀ (x0 : S37) (x1 : Int), G37 x0 → (Lit.int .i64 x1).wf = true → ∃ k, mastlaw2_AssetFinds.f k x0.f0 x0.f1 x0.f2 x1 = some true
end Go.Proofs.Ytmjfjjnmdljkeaa.GAssetFinds
