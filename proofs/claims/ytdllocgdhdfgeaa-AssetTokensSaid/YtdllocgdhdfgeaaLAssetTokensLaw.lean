/- The law AssetTokens: for every input the call returns true, and its arguments read as before. Conditions: none. -/
import Derived.Test.YtdllocgdhdfgeaaRows
import Derived.Test.YtdllocgdhdfgeaaPureAssetTokens
import Derived.WalkKit
import Derived.ProofKit
import Derived.OpenShut
import Derived.ShutString
import Derived.ChangeOld
import Derived.Below
import Derived.SizedLaws
import Derived.Carry
import Derived.HandedShaped
import Derived.Shelf.Vars
namespace Go.Proofs.Ytdllocgdhdfgeaa.assetTokens
open Go.ChangeShapes Go.WideShapes Go.ChangeAt Go.RowKit Go.Proofs.Ytdllocgdhdfgeaa.Lift Go.Proofs.Ytdllocgdhdfgeaa.LAssetTokens
open Go.ChangeMaps (open_string shut_string)
set_option linter.unusedVariables false
theorem own : ownKnob Try.prog.godebug = none := by kernel_rfl
set_option maxRecDepth 100000 in
theorem lifted (os : Os) (started : os.Started) (H : Type) (enc : TypeId × Value → H) :
    ReturnsInHanded {} Try.checked os 4 .any (Rows.assetTokensSpec.pre6 enc Try.prog Try.f4 Rows.assetTokensRow.domain false) (Rows.assetTokensSpec.post enc Try.prog Try.f4 false true false false) := by
  refine returnsInHanded_of_change_shaped (C := Try.checked) own started (by kernel_rfl) Try.func4
    (ChangeSpec.witness6 (enc := enc) (C := Try.checked) false ⟨#[], #[(.string ⟨#[]⟩), (.bool false)], []⟩ 8 (by kernel_rfl) (by kernel_rfl) (by kernel_rfl) (by kernel_rfl)) ?_
  intro W base args ds gs before hval0 hW hcnd hsz0 hShaped _
  have hsz : (DataW.weightsEach Try.prog (Try.f4.params.toList ++ Rows.assetTokensSpec.plain.varTypes Try.prog) (ds ++ gs)).all (· ≤ reachBytes) = true := hsz0
  have hval : ∀ (j : Nat) t v, Try.f4.params[j]? = some t → args[j]? = some v → Value.okWide Try.prog W .any base t v := hval0
  have hW' := hW
  obtain ⟨p, q, hA0, hV, rfl, hfz, hnd⟩ := hW
  have hA : DataW.TrodAll enc Try.prog W 0 (fun _ => true) true Try.f4.params.toList args.toList ds p := hA0
  rw [Try.params4] at hA hval hsz
  obtain ⟨v0, vs0, d0, ds0, p0, q0, hargs, rfl, rfl, h0, r0⟩ := trodAll_cons hA
  obtain ⟨v1, vs1, d1, ds1, p1, q1, rfl, rfl, rfl, h1, r1⟩ := trodAll_cons r0
  obtain ⟨rfl, rfl, rfl⟩ := trodAll_nil r1
  obtain rfl : args = #[v0, v1] := by cases args; simp_all
  obtain ⟨rfl, rfl⟩ := trodVars_none hV
  obtain ⟨x0, rfl, rfl, rfl, y0⟩ := open_string Try.underlying9 (hval 0 9 v0 rfl rfl) h0
  have g0 : x0.size ≤ 140737488351232 := by
    have z := sized_string hsz (j := 0) (t := 9) rfl rfl
    rw [Array.length_toList] at z
    exact z
  obtain ⟨x1, rfl, rfl, rfl⟩ := open_bool Try.underlying4 (hval 1 4 v1 rfl rfl) h1
  clear hA0 hval0 hsz0 hsz
  obtain ⟨k, hk⟩ := pure_holds x0 x1 g0
  have hrun : (mastlaw2_AssetTokens.e k).run [(.l (.v .str x0)), (.l (.v .bool x1))] (empty ctx.S.U) isTrue = some () := by
    have e : (mastlaw2_AssetTokens.e k).run [(.l (.v .str x0)), (.l (.v .bool x1))] (empty ctx.S.U) isTrue = (mastlaw2_AssetTokens.f k x0 x1).bind (fun b => isTrue (U := ctx.S.U) (.l (.v .bool b)) (empty ctx.S.U)) := by kernel_rfl
    rw [e, hk]; rfl
  refine (law_holds (C := ctx) Try.func4 (by kernel_rfl) (by kernel_rfl) (mastlaw2_AssetTokens.ok k) (vals := [_, _]) (w := W) (.cons (t := .str) (y := x0) (.inr ⟨rfl, .str _⟩) (.cons (t := .bool) (y := x1) (.inr ⟨rfl, .bool _⟩) .nil)) (fun k hk => by first | (simp [ctx, sg] at hk; done) | (have hk : k = 0 := (by simpa [ctx, sg] using hk); subst hk; exact Go.Proofs.cell_of_shapedOpen_int (P := Try.prog) (zero := #[.int .i64 0]) (t := 3) hShaped (of_decide_eq_true (by kernel_rfl)) (by kernel_rfl) rfl (by kernel_rfl) (by kernel_rfl) Try.underlying3)) hrun).mono fun e W' ⟨he, bel⟩ => ?_
  subst he
  exact ⟨_, rfl, _, _, _, [], _, [], hW', trodAll_mk1 (shut_bool Try.underlying4 _), (trodAll_cons_mk (shut_string Try.underlying9 y0) (trodAll_cons_mk (shut_bool Try.underlying4 _) trodAll_mk0)), rfl, bel.frame _, fun h => by cases h⟩
theorem over : Rows.assetTokensRow.holds Try.pinned (OpenSpec.ofChange Rows.assetTokensSpec) :=
  OpenClaim.holds_of_wide 4 Try.f4 rfl rfl rfl rfl rfl rfl rfl ⟨rfl, rfl, rfl, rfl, rfl⟩ rfl rfl rfl rfl rfl (by kernel_rfl) Try.func4 (by kernel_rfl)
    (of_decide_eq_true (by kernel_rfl)) (by unfold Func.isWrapper; first | (rw [if_pos (by decide +kernel)]; kernel_rfl) | (rw [if_neg (by decide +kernel)]; exact ⟨rfl, rfl⟩))
    (fun os started H enc _ => lifted os started H enc)
theorem proved : Rows.AssetTokensSaid := over
#print axioms proved
end Go.Proofs.Ytdllocgdhdfgeaa.assetTokens
namespace Go.Proofs.Ytdllocgdhdfgeaa
/-- The row, under a short name, for the claim. -/
theorem assetTokens_holds : Rows.AssetTokensSaid := assetTokens.proved
end Go.Proofs.Ytdllocgdhdfgeaa
