/- The law AssetRelinks: for every input the call returns true, and its arguments read as before. Conditions: none. -/
import Derived.Test.YtdllocgdhdfgeaaRows
import Derived.Test.YtdllocgdhdfgeaaPureAssetRelinks
import Derived.WalkKit
import Derived.ProofKit
import Derived.OpenShut
import Derived.ShutString
import Derived.ChangeOld
import Derived.Below
import Derived.SizedLaws
import Derived.Carry
import Derived.HandedShaped
import Derived.Shelf.Vars
namespace Go.Proofs.Ytdllocgdhdfgeaa.assetRelinks
open Go.ChangeShapes Go.WideShapes Go.ChangeAt Go.RowKit Go.Proofs.Ytdllocgdhdfgeaa.Lift Go.Proofs.Ytdllocgdhdfgeaa.LAssetRelinks
open Go.ChangeMaps (open_string shut_string)
set_option linter.unusedVariables false
theorem own : ownKnob Try.prog.godebug = none := by kernel_rfl
theorem laidOut : laidOutB Try.prog = true := by kernel_rfl
set_option maxRecDepth 100000 in
theorem lifted (os : Os) (started : os.Started) (H : Type) (enc : TypeId × Value → H) :
    ReturnsInHanded {} Try.checked os 7 .any (Rows.assetRelinksSpec.pre6 enc Try.prog Try.f7 Rows.assetRelinksRow.domain false) (Rows.assetRelinksSpec.post enc Try.prog Try.f7 false true false false) := by
  refine returnsInHanded_of_change_shaped (C := Try.checked) own started (by kernel_rfl) Try.func7
    (ChangeSpec.witness6 (enc := enc) (C := Try.checked) false ⟨#[], #[(.string ⟨#[]⟩), (.slice none 0 0)], []⟩ 8 (by kernel_rfl) (by kernel_rfl) (by kernel_rfl) (by kernel_rfl)) ?_
  intro W base args ds gs before hval0 hW hcnd hsz0 hShaped _
  have hsz : (DataW.weightsEach Try.prog (Try.f7.params.toList ++ Rows.assetRelinksSpec.plain.varTypes Try.prog) (ds ++ gs)).all (· ≤ reachBytes) = true := hsz0
  have hval : ∀ (j : Nat) t v, Try.f7.params[j]? = some t → args[j]? = some v → Value.okWide Try.prog W .any base t v := hval0
  have hW' := hW
  obtain ⟨p, q, hA0, hV, rfl, hfz, hnd⟩ := hW
  have hA : DataW.TrodAll enc Try.prog W 0 (fun _ => true) true Try.f7.params.toList args.toList ds p := hA0
  rw [Try.params7] at hA hval hsz
  obtain ⟨v0, vs0, d0, ds0, p0, q0, hargs, rfl, rfl, h0, r0⟩ := trodAll_cons hA
  obtain ⟨v1, vs1, d1, ds1, p1, q1, rfl, rfl, rfl, h1, r1⟩ := trodAll_cons r0
  obtain ⟨rfl, rfl, rfl⟩ := trodAll_nil r1
  obtain rfl : args = #[v0, v1] := by cases args; simp_all
  obtain ⟨rfl, rfl⟩ := trodVars_none hV
  obtain ⟨x0, rfl, rfl, rfl, y0⟩ := open_string Try.underlying9 (hval 0 9 v0 rfl rfl) h0
  have g0 : x0.size ≤ 140737488351232 := by
    have z := sized_string hsz (j := 0) (t := 9) rfl rfl
    rw [Array.length_toList] at z
    exact z
  have k1 := h1
  have lt1 : ∀ x ∈ p1, x.block < W.heap.size := by obtain ⟨m, hm⟩ := k1; exact DataW.trod_lt m _ _ _ hm
  have hw1 : ∀ n ∈ DataW.weights Try.prog 41 d1, n ≤ reachBytes := fun n hn => by
    have z := List.all_eq_true.1 hsz n (DataW.weights_mem_each (j := 1) rfl rfl n hn)
    simpa using z
  obtain ⟨A1, n1, c1, rfl⟩ := okWide_slice Try.underlying41 (hval 1 41 v1 rfl rfl)
  obtain ⟨x1, hK1, g1⟩ := opens_arg base_ok open_ok (t := (.sl (.st 0))) (T := 41) (eb := 32) (E := 135) (by kernel_rfl) h1 hw1 rfl 2 (by kernel_rfl)
  clear hA0 hval0 hsz0 hsz
  obtain ⟨k, hk⟩ := pure_holds x0 x1 g0 g1
  have hrun : (mastlaw2_AssetRelinks.e k).run [(.l (.v .str x0)), (.l (.v (.sl (.st 0)) x1))] (empty ctx.S.U) isTrue = some () := by
    have e : (mastlaw2_AssetRelinks.e k).run [(.l (.v .str x0)), (.l (.v (.sl (.st 0)) x1))] (empty ctx.S.U) isTrue = (mastlaw2_AssetRelinks.f k x0 x1).bind (fun b => isTrue (U := ctx.S.U) (.l (.v .bool b)) (empty ctx.S.U)) := by kernel_rfl
    rw [e, hk]; rfl
  refine (law_holds (C := ctx) Try.func7 (by kernel_rfl) (by kernel_rfl) (mastlaw2_AssetRelinks.ok k) (vals := [_, _]) (w := W) (.cons (t := .str) (y := x0) (.inr ⟨rfl, .str _⟩) (.cons (t := (.sl (.st 0))) (y := x1) hK1 .nil)) (fun k hk => by first | (simp [ctx, sg] at hk; done) | (have hk : k = 0 := (by simpa [ctx, sg] using hk); subst hk; exact Go.Proofs.cell_of_shapedOpen_int (P := Try.prog) (zero := #[.int .i64 0]) (t := 3) hShaped (of_decide_eq_true (by kernel_rfl)) (by kernel_rfl) rfl (by kernel_rfl) (by kernel_rfl) Try.underlying3)) hrun).mono fun e W' ⟨he, bel⟩ => ?_
  subst he
  exact ⟨_, rfl, _, _, _, [], _, [], hW', trodAll_mk1 (shut_bool Try.underlying4 _), (trodAll_cons_mk (shut_string Try.underlying9 y0) (trodAll_cons_mk (Below.trod laidOut (by kernel_rfl) (of_decide_eq_true (by kernel_rfl)) k1 bel lt1) trodAll_mk0)), rfl, bel.frame _, fun h => by cases h⟩
theorem over : Rows.assetRelinksRow.holds Try.pinned (OpenSpec.ofChange Rows.assetRelinksSpec) :=
  OpenClaim.holds_of_wide 7 Try.f7 rfl rfl rfl rfl rfl rfl rfl ⟨rfl, rfl, rfl, rfl, rfl⟩ rfl rfl rfl rfl rfl (by kernel_rfl) Try.func7 (by kernel_rfl)
    (of_decide_eq_true (by kernel_rfl)) (by unfold Func.isWrapper; first | (rw [if_pos (by decide +kernel)]; kernel_rfl) | (rw [if_neg (by decide +kernel)]; exact ⟨rfl, rfl⟩))
    (fun os started H enc _ => lifted os started H enc)
theorem proved : Rows.AssetRelinksSaid := over
#print axioms proved
end Go.Proofs.Ytdllocgdhdfgeaa.assetRelinks
namespace Go.Proofs.Ytdllocgdhdfgeaa
/-- The row, under a short name, for the claim. -/
theorem assetRelinks_holds : Rows.AssetRelinksSaid := assetRelinks.proved
end Go.Proofs.Ytdllocgdhdfgeaa
