/- What comes in as an argument of the law ConfCompares, and the pure statement that is left of it. Conditions: none of its own. -/
import Derived.Test.YtmjfjjnmdljkeaaGConfComparesx0
import Derived.Test.YtmjfjjnmdljkeaaGConfComparesx1
import Derived.Test.YtmjfjjnmdljkeaaGConfComparesx2
import Derived.Test.YtmjfjjnmdljkeaaGConfComparesx3
import Derived.Test.YtmjfjjnmdljkeaaGConfComparesx4
import Derived.Test.YtmjfjjnmdljkeaaGConfComparesx5
import Derived.Test.YtmjfjjnmdljkeaaOpening
namespace Go.Proofs.Ytmjfjjnmdljkeaa.GConfCompares
open Go.RowKit Go.Proofs.YtmjfjjnmdljkeaaW.PrintWords Go.Proofs.YtmjfjjnmdljkeaaW.PrintLast Go.Proofs.YtmjfjjnmdljkeaaW.PrintMore Go.Proofs.Ytmjfjjnmdljkeaa.Opening
set_option linter.unusedVariables false
set_option maxRecDepth 100000
def GU74 : Nat → S74 → Prop
  | 0, _ => False
  | n + 1, x => (fun n : Int => (Lit.int .i64 n).wf = true) x.f0 ∧ (fun _ : Bool => True) x.f1 ∧ (fun n : Int => (Lit.int .i64 n).wf = true) x.f2 ∧ (fun s : ByteArray => s.size ≤ 140737488351232) x.f3 ∧ (fun xs : List S74 => xs.length * 88 ≤ 140737488351232 ∧ xs.length ≤ 9223372036854775807 ∧ ∀ y ∈ xs, GU74 n y) x.f4 ∧ (fun xs : List ByteArray => xs.length * 16 ≤ 140737488351232 ∧ xs.length ≤ 9223372036854775807 ∧ ∀ y ∈ xs, (fun s : ByteArray => s.size ≤ 140737488351232) y) x.f5
def G74 (x : S74) : Prop := ∃ n, GU74 n x
theorem G74_open {x : S74} (h : G74 x) : (Lit.int .i64 x.f0).wf = true ∧ True ∧ (Lit.int .i64 x.f2).wf = true ∧ x.f3.size ≤ 140737488351232 ∧ (x.f4.length * 88 ≤ 140737488351232 ∧ x.f4.length ≤ 9223372036854775807 ∧ ∀ y ∈ x.f4, G74 y) ∧ (x.f5.length * 16 ≤ 140737488351232 ∧ x.f5.length ≤ 9223372036854775807 ∧ ∀ y ∈ x.f5, y.size ≤ 140737488351232) := by
  obtain ⟨n, h⟩ := h
  cases n with
  | zero => exact h.elim
  | succ n =>
    obtain ⟨h0, h1, h2, h3, h4, h5⟩ := h
    exact ⟨h0, h1, h2, h3, ⟨h4.1, h4.2.1, fun y hy => ⟨n, h4.2.2 y hy⟩⟩, h5⟩
theorem opensU74 : ∀ (N n : Nat), N ≤ n → Opens Try.prog N 74 (Kd.upto F74 6 [9, 74] n) (GU74 n)
  | 0, n, _ => fun H enc w base spare held fuel hf cs x hx _ => by
    obtain rfl : fuel = 0 := by omega
    simp [DataW.trod] at hx
  | N + 1, 0, h => absurd h (by omega)
  | N + 1, n + 1, h => by
    have ih : Opens Try.prog N 74 (Kd.upto F74 6 [9, 74] n) (GU74 n) := opensU74 N n (by omega)
    have e := opens_struct (P := Try.prog) (N := N) (t := 74) (d := (Kd.pair (Kd.int .i64) (Kd.pair Kd.bool (Kd.pair (Kd.int .i64) (Kd.pair Kd.string (Kd.pair (Kd.slice 74 (Kd.upto F74 6 [9, 74] n)) (Kd.slice 9 Kd.string))))))) (fun x : S74 => (x.f0, x.f1, x.f2, x.f3, x.f4, x.f5)) (fun y => ⟨y.1, y.2.1, y.2.2.1, y.2.2.2.1, y.2.2.2.2.1, y.2.2.2.2.2⟩) (fun _ => rfl) Try.underlying74 (by kernel_rfl) (fields_cons (by rfl) (by kernel_rfl) (opens_int Try.underlying3 N) (fields_cons (by rfl) (by kernel_rfl) (opens_bool Try.underlying4 N) (fields_cons (by rfl) (by kernel_rfl) (opens_int Try.underlying3 N) (fields_cons (by rfl) (by kernel_rfl) (opens_string Try.underlying9 N) (fields_cons (by rfl) (by kernel_rfl) (opens_slice 88 Try.underlying72 (by rw [sz74]; kernel_rfl) (by kernel_rfl) (ih)) (fields_one (by rfl) (by kernel_rfl) (opens_slice 16 Try.underlying35 (by kernel_rfl) (by kernel_rfl) (opens_string Try.underlying9 N))))))))
    exact e
theorem opens74 (N : Nat) : Opens Try.prog N 74 k74 G74 := fun H enc w base spare held fuel hf cs x hx hw => by
  obtain ⟨y, h1, h2⟩ := opensU74 N N (Nat.le_refl _) H enc w base spare held fuel hf cs x hx hw
  exact ⟨y, ⟨N, h1⟩, ⟨N, h2⟩⟩
/-- What is left to be shown. -/
def mastlaw2_ConfCompares.Pure : Prop := ∀ (x0 : S74) (x1 : S74), G74 x0 → G74 x1 → ∃ k, mastlaw2_ConfCompares.f k x0.f0 x0.f1 x0.f2 x0.f3 x0.f4 x0.f5 x1.f0 x1.f1 x1.f2 x1.f3 x1.f4 x1.f5 = some true
end Go.Proofs.Ytmjfjjnmdljkeaa.GConfCompares
