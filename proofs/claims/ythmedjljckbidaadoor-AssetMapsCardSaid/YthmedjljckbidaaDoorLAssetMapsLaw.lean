/- The law AssetMaps: for every input the call returns true, and its arguments read as before. Conditions: none. -/
import Derived.Test.YthmedjljckbidaaDoorRows
import Derived.Test.YthmedjljckbidaaDoorPureAssetMaps
import Derived.Test.YthmedjljckbidaaDoorCards
import Derived.Test.YthmedjljckbidaaDoorTie
import Derived.Deep.DeepHandedRow
import Derived.Lib.LaidTab
import Derived.WalkKit
import Derived.ProofKit
import Derived.OpenShut
import Derived.ShutString
import Derived.ChangeOld
import Derived.Below
import Derived.SizedLaws
import Derived.Carry
import Derived.HandedShaped
import Derived.Shelf.Vars
import Derived.Stop.LaidErr
namespace Go.Proofs.YthmedjljckbidaaDoor.assetMaps
open Go.ChangeShapes Go.WideShapes Go.ChangeAt Go.RowKit Go.Proofs.YthmedjljckbidaaDoor.Lift Go.Proofs.YthmedjljckbidaaDoor.LAssetMaps
open Go.ChangeMaps (open_string shut_string)
set_option linter.unusedVariables false
theorem own : ownKnob Tryd.prog.godebug = none := by kernel_rfl
theorem laidOut : laidOutB Tryd.prog = true := by kernel_rfl
/-- A world where the listed variables hold what is laid. -/
noncomputable def laidWorld (os : Os) : World :=
  { World.holding Tryd.prog os ⟨#[], #[], []⟩ with heap := (layBlock (layBlock (layBlock (layBlock (layBlock (World.holding Tryd.prog os ⟨#[], #[], []⟩).heap 1 Rows.laid_math_bits_deBruijn32tab) 2 Rows.laid_math_bits_deBruijn64tab) 0 Rows.laid_internal_strconv_uint64pow10) 5 Rows.laid_unicode_utf8_acceptRanges) 4 Rows.laid_unicode_utf8_first) }
theorem laid_met (os : Os) : laidMet Tryd.prog Rows.assetMapsRow.laid ((laidWorld os).forCall (fun _ _ => 0) ⟨#[], #[(.agg #[(.string ⟨#[]⟩), (.slice none 0 0), (.slice none 0 0)])], []⟩).memory :=
  laidMet_of_run' 8 (by kernel_rfl) (by kernel_rfl)
theorem reads (os : Os) {H : Type} (enc : TypeId × Value → H) : ∃ places, DataW.whole enc Tryd.prog ((laidWorld os).forCall (fun _ _ => 0) ⟨#[], #[(.agg #[(.string ⟨#[]⟩), (.slice none 0 0), (.slice none 0 0)])], []⟩).memory Tryd.f4.params.toList Rows.assetMapsSpec.vars false #[(.agg #[(.string ⟨#[]⟩), (.slice none 0 0), (.slice none 0 0)])].toList 8 = some ([.agg [.lit (.string []), .nil, .nil]], [], places) :=
  ⟨[], by kernel_rfl⟩
set_option maxRecDepth 100000 in
theorem lifted (os : Os) (started : os.Started) (H : Type) (enc : TypeId × Value → H) (F : Stop.Interp) :
    ReturnsInHanded {} Tryd.checked os 4 .any ((OpenSpec.ofChange Rows.assetMapsSpec).preRow enc Tryd.prog Tryd.f4 Rows.assetMapsRow.domain false Rows.assetMapsRow.laid) (((OpenSpec.ofChange Rows.assetMapsSpec).at F).post enc Tryd.prog Tryd.f4 false true false false) := by
  obtain ⟨places, hx⟩ := reads os enc
  refine returnsInHanded_of_row (C := Tryd.checked) (s := (OpenSpec.ofChange Rows.assetMapsSpec)) own started (by kernel_rfl) Tryd.func4
    (witness_row_at (enc := enc) (C := Tryd.checked) false (laidWorld os) #[(.agg #[(.string ⟨#[]⟩), (.slice none 0 0), (.slice none 0 0)])] rfl (by kernel_rfl) (by kernel_rfl) (by kernel_rfl)
      (OpenSpec.preRow_of_cond 8 hx (by kernel_rfl) (fun k hk => by cases hk) (by kernel_rfl) (laid_met os))) ?_
  intro W base args ds gs before hval0 hW hcnd hkc hsz0 hL hShaped _
  have hsz : (DataW.weightsEach Tryd.prog (Tryd.f4.params.toList ++ Rows.assetMapsSpec.plain.varTypes Tryd.prog) (ds ++ gs)).all (· ≤ reachBytes) = true := hsz0
  have hval : ∀ (j : Nat) t v, Tryd.f4.params[j]? = some t → args[j]? = some v → Value.okWide Tryd.prog W .any base t v := hval0
  have hW' := hW
  obtain ⟨p, q, hA0, hV, rfl, hfz, hnd⟩ := hW
  have hA : DataW.TrodAll enc Tryd.prog W 0 (fun _ => true) true Tryd.f4.params.toList args.toList ds p := hA0
  rw [Tryd.params4] at hA hval hsz
  obtain ⟨v0, vs0, d0, ds0, p0, q0, hargs, rfl, rfl, h0, r0⟩ := trodAll_cons hA
  obtain ⟨rfl, rfl, rfl⟩ := trodAll_nil r0
  obtain rfl : args = #[v0] := by cases args; simp_all
  obtain ⟨rfl, rfl⟩ := trodVars_none hV
  have k0 := h0
  have lt0 : ∀ x ∈ p0, x.block < W.heap.size := by obtain ⟨m, hm⟩ := k0; exact DataW.trod_lt m _ _ _ hm
  have hw0 : ∀ n ∈ DataW.weights Tryd.prog 32 d0, n ≤ reachBytes := fun n hn => by
    have z := List.all_eq_true.1 hsz n (DataW.weights_mem_each (j := 0) rfl rfl n hn)
    simpa using z
  obtain ⟨cs0, rfl, _⟩ := okWide_struct Tryd.underlying32 (hval 0 32 v0 rfl rfl)
  obtain ⟨x0, hK0, g0⟩ := opens_arg base_ok open_ok (t := (.st 0)) (T := 32) (eb := 1) (E := 0) (by kernel_rfl) h0 hw0 rfl 2 (by kernel_rfl)
  clear hA0 hval0 hsz0 hsz
  obtain ⟨k, hk⟩ := pure_holds x0 g0
  have hrun : (mastlaw2_AssetMaps.e k).run [(.l (.v (.st 0) x0))] (empty ctx.S.U) isTrue = some () := by
    have e : (mastlaw2_AssetMaps.e k).run [(.l (.v (.st 0) x0))] (empty ctx.S.U) isTrue = (mastlaw2_AssetMaps.f k x0).bind (fun b => isTrue (U := ctx.S.U) (.l (.v .bool b)) (empty ctx.S.U)) := by kernel_rfl
    rw [e, hk]; rfl
  refine (law_holds (C := ctx) Tryd.func4 (by kernel_rfl) (by kernel_rfl) (mastlaw2_AssetMaps.ok k) (vals := [_]) (w := W) (.cons (t := (.st 0)) (y := x0) hK0 .nil) (fun k hk => by
    have hk : k = 2 ∨ k = 3 := by simpa [ctx, sg] using hk
    rcases hk with rfl | rfl
    · exact of_var (by kernel_rfl) (Lib.tabIs_of_head (name := "math/bits.deBruijn64tab") (k := .u8) (zs := (Lib.deBruijn64tab.map Int.ofNat)) (g := 2) (by kernel_rfl) (by kernel_rfl) Tryd.underlying80 Tryd.underlying5 (by kernel_rfl) (by kernel_rfl) (laidMet.tail (show laidMet _ _ _ from hL)))
    · exact by obtain ⟨m, hm⟩ := Go.Proofs.cell_of_shapedOpen_int (P := Tryd.prog) (g := 3) (zero := #[.int .i64 0]) (t := 3) hShaped (of_decide_eq_true (by kernel_rfl)) (by kernel_rfl) rfl (by kernel_rfl) (by kernel_rfl) Tryd.underlying3; exact ⟨(cell_cells hm).1, m, (cell_cells hm).2⟩) (fun _ _ _ q => by cases q) hrun).mono fun e W' ⟨he, bel⟩ => ?_
  subst he
  exact ⟨_, rfl, _, _, _, [], _, [], hW', trodAll_mk1 (shut_bool Tryd.underlying4 _), (trodAll_cons_mk (Below.trod laidOut (by kernel_rfl) (of_decide_eq_true (by kernel_rfl)) k0 bel lt0) trodAll_mk0), rfl, bel.frame _, fun h => by cases h⟩
theorem f_in : Tryd.pinned.checked.prog.inPlace 4 = Rows.assetMapsRow.inPlace := by kernel_rfl
theorem f_un : Tryd.pinned.checked.prog.unfollowed 4 = Rows.assetMapsRow.unfollowed := by kernel_rfl
theorem f_re : Tryd.pinned.checked.prog.recurses 4 = Rows.assetMapsRow.recurses := by kernel_rfl
theorem f_na : Tryd.pinned.checked.prog.varsNamed 4 = Rows.assetMapsRow.named := by kernel_rfl
theorem f_mr : mapsRowed Tryd.pinned.checked.prog = true := by kernel_rfl
theorem f_lo : laidOutB Tryd.pinned.checked.prog = true := laidOut
theorem facts : joinedFacts Tryd.pinned.checked.prog 4 Tryd.f4 (OpenSpec.ofChange Rows.assetMapsSpec).bare Rows.assetMapsRow = true := by
  unfold joinedFacts
  rw [f_in, f_un, f_re, f_na, f_mr, f_lo]
  kernel_rfl
theorem said : Rows.AssetMapsSaid :=
  OpenClaim.holds_of_cond 4 Tryd.f4 rfl rfl rfl rfl rfl rfl rfl ⟨rfl, rfl, rfl, rfl, rfl⟩ rfl rfl rfl rfl rfl (by kernel_rfl) Tryd.func4 facts
    (of_decide_eq_true (by kernel_rfl)) (by unfold Func.isWrapper; first | (rw [if_pos (by decide +kernel)]; kernel_rfl) | (rw [if_neg (by decide +kernel)]; exact ⟨rfl, rfl⟩))
    (fun os started H enc _ F => by rw [OpenClaim.pre_eq_preRow]; exact lifted os started H enc F)
theorem plain (f : FuncId) (fn : Func) (hf : Tryd.pinned.checked.prog.funcNamed "masthead/mastlaw2.AssetMaps" = some f) (hfn : Tryd.pinned.checked.prog.funcs[f]? = some fn) :
    false = Tryd.pinned.checked.prog.looks [] ∧ ∀ (j : Nat) t, fn.params[j]? = some t → Tryd.pinned.checked.prog.wantsStandIn t = false := by
  obtain rfl : f = 4 := Option.some.inj ((show Tryd.prog.funcNamed "masthead/mastlaw2.AssetMaps" = some 4 by kernel_rfl).symm.trans hf) |>.symm
  obtain rfl : fn = Tryd.f4 := (Option.some.inj (Tryd.func4.symm.trans hfn)).symm
  refine ⟨by kernel_rfl, fun j t ht => ?_⟩
  rw [Tryd.params4] at ht
  have ht : t = 32 := by simpa using Array.mem_of_getElem? ht
  rcases ht with rfl
  · exact (show Tryd.prog.wantsStandIn 32 = false by kernel_rfl)
theorem card : Rows.AssetMapsCardSaid :=
  Claim7.holds_tied_plain_at .later [] _ _ _ _ said (fun _ h => by cases h) (by kernel_rfl) (fun _ h => by cases h) assetMaps_row_tie rfl ⟨rfl, rfl⟩ (by kernel_rfl) rfl plain (by kernel_rfl)
#print axioms card
end Go.Proofs.YthmedjljckbidaaDoor.assetMaps
namespace Go.Proofs.YthmedjljckbidaaDoor
/-- The card, under a short name, for the claim. -/
theorem assetMaps_holds : Rows.AssetMapsCardSaid := assetMaps.card
end Go.Proofs.YthmedjljckbidaaDoor
