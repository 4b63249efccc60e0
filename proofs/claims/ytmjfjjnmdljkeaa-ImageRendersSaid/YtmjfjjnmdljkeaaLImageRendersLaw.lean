/- The law ImageRenders: for every input the call returns true, and its arguments read as before. Conditions: none. -/
import Derived.Test.YtmjfjjnmdljkeaaRows
import Derived.Test.YtmjfjjnmdljkeaaPureImageRenders
import Derived.WalkKit
import Derived.ProofKit
import Derived.OpenShut
import Derived.ShutString
import Derived.ChangeOld
import Derived.Below
import Derived.SizedLaws
import Derived.Carry
namespace Go.Proofs.Ytmjfjjnmdljkeaa.imageRenders
open Go.ChangeShapes Go.WideShapes Go.ChangeAt Go.RowKit Go.Proofs.Ytmjfjjnmdljkeaa.Lift Go.Proofs.Ytmjfjjnmdljkeaa.LImageRenders
open Go.ChangeMaps (open_string shut_string)
set_option linter.unusedVariables false
theorem own : ownKnob Try.prog.godebug = none := by kernel_rfl
theorem laidOut : laidOutB Try.prog = true := by kernel_rfl
set_option maxRecDepth 100000 in
theorem lifted (os : Os) (started : os.Started) (H : Type) (enc : TypeId × Value → H) :
    ReturnsInHanded {} Try.checked os 12 .any (Rows.imageRendersSpec.pre6 enc Try.prog Try.f12 Rows.imageRendersRow.domain false) (Rows.imageRendersSpec.post enc Try.prog Try.f12 false true false false) := by
  refine returnsInHanded_of_change_sized (C := Try.checked) own started (by kernel_rfl) Try.func12
    (ChangeSpec.witness6 (enc := enc) (C := Try.checked) false ⟨#[], #[(.agg #[(.int .i64 0), (.int .i64 0), (.slice none 0 0)]), (.agg #[(.int .i64 0), (.int .i64 0), (.int .i64 0), (.int .i64 0), (.int .i64 0), (.int .i64 0)])], []⟩ 8 (by kernel_rfl) (by kernel_rfl) (by kernel_rfl) (by kernel_rfl)) ?_
  intro W base args ds gs before hval0 hW hcnd hsz0 _
  have hsz : (DataW.weightsEach Try.prog (Try.f12.params.toList ++ Rows.imageRendersSpec.plain.varTypes Try.prog) (ds ++ gs)).all (· ≤ reachBytes) = true := hsz0
  have hval : ∀ (j : Nat) t v, Try.f12.params[j]? = some t → args[j]? = some v → Value.okWide Try.prog W .any base t v := hval0
  have hW' := hW
  obtain ⟨p, q, hA0, hV, rfl, hfz, hnd⟩ := hW
  have hA : DataW.TrodAll enc Try.prog W 0 (fun _ => true) true Try.f12.params.toList args.toList ds p := hA0
  rw [Try.params12] at hA hval hsz
  obtain ⟨v0, vs0, d0, ds0, p0, q0, hargs, rfl, rfl, h0, r0⟩ := trodAll_cons hA
  obtain ⟨v1, vs1, d1, ds1, p1, q1, rfl, rfl, rfl, h1, r1⟩ := trodAll_cons r0
  obtain ⟨rfl, rfl, rfl⟩ := trodAll_nil r1
  obtain rfl : args = #[v0, v1] := by cases args; simp_all
  obtain ⟨rfl, rfl⟩ := trodVars_none hV
  have k0 := h0
  have lt0 : ∀ x ∈ p0, x.block < W.heap.size := by obtain ⟨m, hm⟩ := k0; exact DataW.trod_lt m _ _ _ hm
  have hw0 : ∀ n ∈ DataW.weights Try.prog 67 d0, n ≤ reachBytes := fun n hn => by
    have z := List.all_eq_true.1 hsz n (DataW.weights_mem_each (j := 0) rfl rfl n hn)
    simpa using z
  obtain ⟨cs0, rfl, _⟩ := okWide_struct Try.underlying67 (hval 0 67 v0 rfl rfl)
  obtain ⟨x0, hK0, g0⟩ := opens_arg base_ok open_ok (t := (.st 0)) (T := 67) (eb := 1) (E := 0) (by kernel_rfl) h0 hw0 rfl 2 (by kernel_rfl)
  have k1 := h1
  have lt1 : ∀ x ∈ p1, x.block < W.heap.size := by obtain ⟨m, hm⟩ := k1; exact DataW.trod_lt m _ _ _ hm
  have hw1 : ∀ n ∈ DataW.weights Try.prog 46 d1, n ≤ reachBytes := fun n hn => by
    have z := List.all_eq_true.1 hsz n (DataW.weights_mem_each (j := 1) rfl rfl n hn)
    simpa using z
  obtain ⟨cs1, rfl, _⟩ := okWide_struct Try.underlying46 (hval 1 46 v1 rfl rfl)
  obtain ⟨x1, hK1, g1⟩ := opens_arg base_ok open_ok (t := (.st 1)) (T := 46) (eb := 1) (E := 0) (by kernel_rfl) h1 hw1 rfl 2 (by kernel_rfl)
  clear hA0 hval0 hsz0 hsz
  obtain ⟨k, hk⟩ := pure_holds x0 x1 g0 g1
  have hrun : (mastlaw2_ImageRenders.e k).run [(.l (.v (.st 0) x0)), (.l (.v (.st 1) x1))] (empty ctx.S.U) isTrue = some () := by
    have e : (mastlaw2_ImageRenders.e k).run [(.l (.v (.st 0) x0)), (.l (.v (.st 1) x1))] (empty ctx.S.U) isTrue = (mastlaw2_ImageRenders.f k x0 x1).bind (fun b => isTrue (U := ctx.S.U) (.l (.v .bool b)) (empty ctx.S.U)) := by kernel_rfl
    rw [e, hk]; rfl
  refine (law_holds (C := ctx) Try.func12 (by kernel_rfl) (by kernel_rfl) (mastlaw2_ImageRenders.ok k) (vals := [_, _]) (w := W) (.cons (t := (.st 0)) (y := x0) hK0 (.cons (t := (.st 1)) (y := x1) hK1 .nil)) hrun).mono fun e W' ⟨he, bel⟩ => ?_
  subst he
  exact ⟨_, rfl, _, _, _, [], _, [], hW', trodAll_mk1 (shut_bool Try.underlying4 _), (trodAll_cons_mk (Below.trod laidOut (by kernel_rfl) (of_decide_eq_true (by kernel_rfl)) k0 bel lt0) (trodAll_cons_mk (Below.trod laidOut (by kernel_rfl) (of_decide_eq_true (by kernel_rfl)) k1 bel lt1) trodAll_mk0)), rfl, bel.frame _, fun h => by cases h⟩
theorem over : Rows.imageRendersRow.holds Try.pinned (OpenSpec.ofChange Rows.imageRendersSpec) :=
  OpenClaim.holds_of_wide 12 Try.f12 rfl rfl rfl rfl rfl rfl rfl ⟨rfl, rfl, rfl, rfl, rfl⟩ rfl rfl rfl rfl rfl (by kernel_rfl) Try.func12 (by kernel_rfl)
    (of_decide_eq_true (by kernel_rfl)) (by unfold Func.isWrapper; first | (rw [if_pos (by decide +kernel)]; kernel_rfl) | (rw [if_neg (by decide +kernel)]; exact ⟨rfl, rfl⟩))
    (fun os started H enc _ => lifted os started H enc)
theorem proved : Rows.ImageRendersSaid := over
#print axioms proved
end Go.Proofs.Ytmjfjjnmdljkeaa.imageRenders
namespace Go.Proofs.Ytmjfjjnmdljkeaa
/-- The row, under a short name, for the claim. -/
theorem imageRenders_holds : Rows.ImageRendersSaid := imageRenders.proved
end Go.Proofs.Ytmjfjjnmdljkeaa
