/- The law ImagePlans: for every input the call returns true, and its arguments read as before. Conditions: none. -/
import Derived.Test.YtmjfjjnmdljkeaaRows
import Derived.Test.YtmjfjjnmdljkeaaPureImagePlans
import Derived.WalkKit
import Derived.ProofKit
import Derived.OpenShut
import Derived.ShutString
import Derived.ChangeOld
import Derived.Below
import Derived.SizedLaws
import Derived.Carry
namespace Go.Proofs.Ytmjfjjnmdljkeaa.imagePlans
open Go.ChangeShapes Go.WideShapes Go.ChangeAt Go.RowKit Go.Proofs.Ytmjfjjnmdljkeaa.Lift Go.Proofs.Ytmjfjjnmdljkeaa.LImagePlans
open Go.ChangeMaps (open_string shut_string)
set_option linter.unusedVariables false
theorem own : ownKnob Try.prog.godebug = none := by kernel_rfl
theorem laidOut : laidOutB Try.prog = true := by kernel_rfl
set_option maxRecDepth 100000 in
theorem lifted (os : Os) (started : os.Started) (H : Type) (enc : TypeId × Value → H) :
    ReturnsInHanded {} Try.checked os 7 .any (Rows.imagePlansSpec.pre6 enc Try.prog Try.f7 Rows.imagePlansRow.domain false) (Rows.imagePlansSpec.post enc Try.prog Try.f7 false true false false) := by
  refine returnsInHanded_of_change_sized (C := Try.checked) own started (by kernel_rfl) Try.func7
    (ChangeSpec.witness6 (enc := enc) (C := Try.checked) false ⟨#[], #[(.int .i64 0), (.int .i64 0), (.agg #[(.int .i64 0), (.int .i64 0), (.int .i64 0)])], []⟩ 8 (by kernel_rfl) (by kernel_rfl) (by kernel_rfl) (by kernel_rfl)) ?_
  intro W base args ds gs before hval0 hW hcnd hsz0 _
  have hsz : (DataW.weightsEach Try.prog (Try.f7.params.toList ++ Rows.imagePlansSpec.plain.varTypes Try.prog) (ds ++ gs)).all (· ≤ reachBytes) = true := hsz0
  have hval : ∀ (j : Nat) t v, Try.f7.params[j]? = some t → args[j]? = some v → Value.okWide Try.prog W .any base t v := hval0
  have hW' := hW
  obtain ⟨p, q, hA0, hV, rfl, hfz, hnd⟩ := hW
  have hA : DataW.TrodAll enc Try.prog W 0 (fun _ => true) true Try.f7.params.toList args.toList ds p := hA0
  rw [Try.params7] at hA hval hsz
  obtain ⟨v0, vs0, d0, ds0, p0, q0, hargs, rfl, rfl, h0, r0⟩ := trodAll_cons hA
  obtain ⟨v1, vs1, d1, ds1, p1, q1, rfl, rfl, rfl, h1, r1⟩ := trodAll_cons r0
  obtain ⟨v2, vs2, d2, ds2, p2, q2, rfl, rfl, rfl, h2, r2⟩ := trodAll_cons r1
  obtain ⟨rfl, rfl, rfl⟩ := trodAll_nil r2
  obtain rfl : args = #[v0, v1, v2] := by cases args; simp_all
  obtain ⟨rfl, rfl⟩ := trodVars_none hV
  obtain ⟨x0, rfl, rfl, rfl, g0⟩ := open_int Try.underlying3 (hval 0 3 v0 rfl rfl) h0
  obtain ⟨x1, rfl, rfl, rfl, g1⟩ := open_int Try.underlying3 (hval 1 3 v1 rfl rfl) h1
  have k2 := h2
  have lt2 : ∀ x ∈ p2, x.block < W.heap.size := by obtain ⟨m, hm⟩ := k2; exact DataW.trod_lt m _ _ _ hm
  have hw2 : ∀ n ∈ DataW.weights Try.prog 44 d2, n ≤ reachBytes := fun n hn => by
    have z := List.all_eq_true.1 hsz n (DataW.weights_mem_each (j := 2) rfl rfl n hn)
    simpa using z
  obtain ⟨cs2, rfl, _⟩ := okWide_struct Try.underlying44 (hval 2 44 v2 rfl rfl)
  obtain ⟨x2, hK2, g2⟩ := opens_arg base_ok open_ok (t := (.st 0)) (T := 44) (eb := 1) (E := 0) (by kernel_rfl) h2 hw2 rfl 1 (by kernel_rfl)
  clear hA0 hval0 hsz0 hsz
  obtain ⟨k, hk⟩ := pure_holds x0 x1 x2 g0 g1 g2
  have hrun : (mastlaw2_ImagePlans.e k).run [(.l (.v (.int .i64) x0)), (.l (.v (.int .i64) x1)), (.l (.v (.st 0) x2))] (empty ctx.S.U) isTrue = some () := by
    have e : (mastlaw2_ImagePlans.e k).run [(.l (.v (.int .i64) x0)), (.l (.v (.int .i64) x1)), (.l (.v (.st 0) x2))] (empty ctx.S.U) isTrue = (mastlaw2_ImagePlans.f k x0 x1 x2).bind (fun b => isTrue (U := ctx.S.U) (.l (.v .bool b)) (empty ctx.S.U)) := by kernel_rfl
    rw [e, hk]; rfl
  refine (law_holds (C := ctx) Try.func7 (by kernel_rfl) (by kernel_rfl) (mastlaw2_ImagePlans.ok k) (vals := [_, _, _]) (w := W) (.cons (t := (.int .i64)) (y := x0) (.inr ⟨rfl, .int _ _⟩) (.cons (t := (.int .i64)) (y := x1) (.inr ⟨rfl, .int _ _⟩) (.cons (t := (.st 0)) (y := x2) hK2 .nil))) hrun).mono fun e W' ⟨he, bel⟩ => ?_
  subst he
  exact ⟨_, rfl, _, _, _, [], _, [], hW', trodAll_mk1 (shut_bool Try.underlying4 _), (trodAll_cons_mk (shut_int Try.underlying3 g0) (trodAll_cons_mk (shut_int Try.underlying3 g1) (trodAll_cons_mk (Below.trod laidOut (by kernel_rfl) (of_decide_eq_true (by kernel_rfl)) k2 bel lt2) trodAll_mk0))), rfl, bel.frame _, fun h => by cases h⟩
theorem over : Rows.imagePlansRow.holds Try.pinned (OpenSpec.ofChange Rows.imagePlansSpec) :=
  OpenClaim.holds_of_wide 7 Try.f7 rfl rfl rfl rfl rfl rfl rfl ⟨rfl, rfl, rfl, rfl, rfl⟩ rfl rfl rfl rfl rfl (by kernel_rfl) Try.func7 (by kernel_rfl)
    (of_decide_eq_true (by kernel_rfl)) (by unfold Func.isWrapper; first | (rw [if_pos (by decide +kernel)]; kernel_rfl) | (rw [if_neg (by decide +kernel)]; exact ⟨rfl, rfl⟩))
    (fun os started H enc _ => lifted os started H enc)
theorem proved : Rows.ImagePlansSaid := over
#print axioms proved
end Go.Proofs.Ytmjfjjnmdljkeaa.imagePlans
namespace Go.Proofs.Ytmjfjjnmdljkeaa
/-- The row, under a short name, for the claim. -/
theorem imagePlans_holds : Rows.ImagePlansSaid := imagePlans.proved
end Go.Proofs.Ytmjfjjnmdljkeaa
