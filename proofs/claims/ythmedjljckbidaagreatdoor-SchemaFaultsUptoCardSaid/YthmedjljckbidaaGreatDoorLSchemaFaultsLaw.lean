/- The law SchemaFaults: for every input the call returns true, and its arguments read as before. Conditions: none. -/
import Derived.Test.YthmedjljckbidaaGreatDoorRows
import Derived.Test.YthmedjljckbidaaGreatDoorPureSchemaFaults
import Derived.Test.YthmedjljckbidaaGreatDoorCards
import Derived.Test.YthmedjljckbidaaGreatDoorTie
import Derived.Deep.DeepHandedRow
import Derived.Lib.LaidTab
import Derived.WalkKit
import Derived.ProofKit
import Derived.OpenShut
import Derived.ShutString
import Derived.ChangeOld
import Derived.Below
import Derived.SizedLaws
import Derived.Carry
import Derived.HandedShaped
import Derived.Shelf.Vars
import Derived.Stop.LaidErr
namespace Go.Proofs.YthmedjljckbidaaGreatDoor.schemaFaults
open Go.ChangeShapes Go.WideShapes Go.ChangeAt Go.RowKit Go.Proofs.YthmedjljckbidaaGreatDoor.Lift Go.Proofs.YthmedjljckbidaaGreatDoor.LSchemaFaults
open Go.ChangeMaps (open_string shut_string)
set_option linter.unusedVariables false
theorem own : ownKnob Tryz.prog.godebug = none := by kernel_rfl
theorem laidOut : laidOutB Tryz.prog = true := by kernel_rfl
/-- A world where the listed variables hold what is laid. -/
noncomputable def laidWorld (os : Os) : World :=
  { World.holding Tryz.prog os ⟨#[], #[], []⟩ with heap := (layBlock (layErr (layErr (layBlock (layBlock (layBlock (layBlock (World.holding Tryz.prog os ⟨#[], #[], []⟩).heap 7 Rows.laid_math_bits_deBruijn32tab) 8 Rows.laid_math_bits_deBruijn64tab) 6 Rows.laid_internal_strconv_uint64pow10) 5 Rows.laid_unicode_utf8_acceptRanges) 3 362 364 Rows.laid_strconv_ErrRange) 2 362 364 Rows.laid_strconv_ErrSyntax) 4 Rows.laid_unicode_utf8_first) }
theorem laid_met (os : Os) : laidMet Tryz.prog Rows.schemaFaultsUptoRow.laid ((laidWorld os).forCall (fun _ _ => 0) ⟨#[], #[(.agg #[(.slice none 0 0), (.bool false)]), (.agg #[(.int .i64 0), (.bool false), (.int .i64 0), (.string ⟨#[]⟩), (.slice none 0 0), (.slice none 0 0)])], []⟩).memory :=
  laidMet_of_run' 8 (by kernel_rfl) (by kernel_rfl)
theorem reads (os : Os) {H : Type} (enc : TypeId × Value → H) : ∃ places, DataW.whole enc Tryz.prog ((laidWorld os).forCall (fun _ _ => 0) ⟨#[], #[(.agg #[(.slice none 0 0), (.bool false)]), (.agg #[(.int .i64 0), (.bool false), (.int .i64 0), (.string ⟨#[]⟩), (.slice none 0 0), (.slice none 0 0)])], []⟩).memory Tryz.f9.params.toList Rows.schemaFaultsSpec.vars false #[(.agg #[(.slice none 0 0), (.bool false)]), (.agg #[(.int .i64 0), (.bool false), (.int .i64 0), (.string ⟨#[]⟩), (.slice none 0 0), (.slice none 0 0)])].toList 8 = some ([.agg [.nil, .lit (.bool false)], .agg [.lit (.int .i64 0), .lit (.bool false), .lit (.int .i64 0), .lit (.string []), .nil, .nil]], [], places) :=
  ⟨[], by kernel_rfl⟩
theorem bulk_le {H : Type} {d : DataW H} {l : List (DataW H)} (h : d ∈ l) : Rows.uptoBulk d ≤ Rows.uptoBulkAll l := by
  induction l with
  | nil => cases h
  | cons x r ih =>
    simp only [Rows.uptoBulkAll]
    cases List.mem_cons.1 h with
    | inl e => subst e; omega
    | inr e => have := ih e; omega
theorem bulkB (H : Type) : BulkB (H := H) Rows.uptoBulk Rows.uptoBulkAll where
  pos d := by
    cases d with
    | lit l => cases l <;> simp [Rows.uptoBulk]
    | _ => simp [Rows.uptoBulk]
  str l := by simp [Rows.uptoBulk]
  slice e s := by simp [Rows.uptoBulk]
  agg p := by simp [Rows.uptoBulk]
  cons d r := by simp [Rows.uptoBulkAll]
set_option maxRecDepth 100000 in
theorem lifted (os : Os) (started : os.Started) (H : Type) (enc : TypeId × Value → H) (F : Stop.Interp) :
    ReturnsInHanded {} Tryz.checked os 9 .any ((Rows.OpenSpec.upto Rows.schemaFaultsSpec).preRow enc Tryz.prog Tryz.f9 Rows.schemaFaultsUptoRow.domain false Rows.schemaFaultsUptoRow.laid) (((Rows.OpenSpec.upto Rows.schemaFaultsSpec).at F).post enc Tryz.prog Tryz.f9 false true false false) := by
  obtain ⟨places, hx⟩ := reads os enc
  refine returnsInHanded_of_row (C := Tryz.checked) (s := (Rows.OpenSpec.upto Rows.schemaFaultsSpec)) own started (by kernel_rfl) Tryz.func9
    (witness_row_at (enc := enc) (C := Tryz.checked) false (laidWorld os) #[(.agg #[(.slice none 0 0), (.bool false)]), (.agg #[(.int .i64 0), (.bool false), (.int .i64 0), (.string ⟨#[]⟩), (.slice none 0 0), (.slice none 0 0)])] rfl (by kernel_rfl) (by kernel_rfl) (by kernel_rfl)
      (OpenSpec.preRow_of_cond 8 hx (by kernel_rfl) (fun k hk => by cases hk; kernel_rfl) (by kernel_rfl) (laid_met os))) ?_
  intro W base args ds gs before hval0 hW hcnd hkc hsz0 hL hShaped _
  have hk : Rows.uptoBulkAll (ds ++ gs) ≤ 1048576 := of_decide_eq_true (hkc _ rfl)
  have hsz : (DataW.weightsEach Tryz.prog (Tryz.f9.params.toList ++ Rows.schemaFaultsSpec.plain.varTypes Tryz.prog) (ds ++ gs)).all (· ≤ reachBytes) = true := hsz0
  have hval : ∀ (j : Nat) t v, Tryz.f9.params[j]? = some t → args[j]? = some v → Value.okWide Tryz.prog W .any base t v := hval0
  have hW' := hW
  obtain ⟨p, q, hA0, hV, rfl, hfz, hnd⟩ := hW
  have hA : DataW.TrodAll enc Tryz.prog W 0 (fun _ => true) true Tryz.f9.params.toList args.toList ds p := hA0
  rw [Tryz.params9] at hA hval hsz
  obtain ⟨v0, vs0, d0, ds0, p0, q0, hargs, rfl, rfl, h0, r0⟩ := trodAll_cons hA
  obtain ⟨v1, vs1, d1, ds1, p1, q1, rfl, rfl, rfl, h1, r1⟩ := trodAll_cons r0
  obtain ⟨rfl, rfl, rfl⟩ := trodAll_nil r1
  obtain rfl : args = #[v0, v1] := by cases args; simp_all
  obtain ⟨rfl, rfl⟩ := trodVars_none hV
  have k0 := h0
  have lt0 : ∀ x ∈ p0, x.block < W.heap.size := by obtain ⟨m, hm⟩ := k0; exact DataW.trod_lt m _ _ _ hm
  have hw0 : ∀ n ∈ DataW.weights Tryz.prog 52 d0, n ≤ reachBytes := fun n hn => by
    have z := List.all_eq_true.1 hsz n (DataW.weights_mem_each (j := 0) rfl rfl n hn)
    simpa using z
  obtain ⟨cs0, rfl, _⟩ := okWide_struct Tryz.underlying52 (hval 0 52 v0 rfl rfl)
  obtain ⟨x0, hK0, g0⟩ := opens_argB base_ok open_ok (t := (.st 0)) (T := 52) (eb := 1) (E := 0) (by kernel_rfl) (bulkB H) h0 hw0 rfl
  have g0 : ∃ D, good ctx D (.st 0) x0 ∧ bulk ctx D (.st 0) x0 ≤ 1048576 := g0.imp fun D z => ⟨z.1, Nat.le_trans z.2 (Nat.le_trans (bulk_le (by simp)) hk)⟩
  have k1 := h1
  have lt1 : ∀ x ∈ p1, x.block < W.heap.size := by obtain ⟨m, hm⟩ := k1; exact DataW.trod_lt m _ _ _ hm
  have hw1 : ∀ n ∈ DataW.weights Tryz.prog 34 d1, n ≤ reachBytes := fun n hn => by
    have z := List.all_eq_true.1 hsz n (DataW.weights_mem_each (j := 1) rfl rfl n hn)
    simpa using z
  obtain ⟨cs1, rfl, _⟩ := okWide_struct Tryz.underlying34 (hval 1 34 v1 rfl rfl)
  obtain ⟨x1, hK1, g1⟩ := opens_argB base_ok open_ok (t := (.st 2)) (T := 34) (eb := 1) (E := 0) (by kernel_rfl) (bulkB H) h1 hw1 rfl
  have g1 : ∃ D, good ctx D (.st 2) x1 ∧ bulk ctx D (.st 2) x1 ≤ 1048576 := g1.imp fun D z => ⟨z.1, Nat.le_trans z.2 (Nat.le_trans (bulk_le (by simp)) hk)⟩
  clear hA0 hval0 hsz0 hsz
  obtain ⟨k, hk⟩ := pure_holds x0 x1 g0 g1
  have hrun : (mastlaw2_SchemaFaults.e k).run [(.l (.v (.st 0) x0)), (.l (.v (.st 2) x1))] (empty ctx.S.U) isTrue = some () := by
    have e : (mastlaw2_SchemaFaults.e k).run [(.l (.v (.st 0) x0)), (.l (.v (.st 2) x1))] (empty ctx.S.U) isTrue = (mastlaw2_SchemaFaults.f k x0 x1).bind (fun b => isTrue (U := ctx.S.U) (.l (.v .bool b)) (empty ctx.S.U)) := by kernel_rfl
    rw [e, hk]; rfl
  refine (law_holds (C := ctx) Tryz.func9 (by kernel_rfl) (by kernel_rfl) (mastlaw2_SchemaFaults.ok k) (vals := [_, _]) (w := W) (.cons (t := (.st 0)) (y := x0) hK0 (.cons (t := (.st 2)) (y := x1) hK1 .nil)) (fun k hk => by
    have hk : k = 1 ∨ k = 6 := by simpa [ctx, sg] using hk
    rcases hk with rfl | rfl
    · exact by obtain ⟨m, hm⟩ := Go.Proofs.cell_of_shapedOpen_int (P := Tryz.prog) (g := 1) (zero := #[.int .i64 0]) (t := 3) hShaped (of_decide_eq_true (by kernel_rfl)) (by kernel_rfl) rfl (by kernel_rfl) (by kernel_rfl) Tryz.underlying3; exact ⟨(cell_cells hm).1, m, (cell_cells hm).2⟩
    · exact of_var (by kernel_rfl) (Lib.tabIs_of_head (name := "internal/strconv.uint64pow10") (k := .u64) (zs := Lib.pow10Tab) (g := 6) (by kernel_rfl) (by kernel_rfl) Tryz.underlying374 Tryz.underlying323 (by kernel_rfl) (by kernel_rfl) (laidMet.tail (laidMet.tail (show laidMet _ _ _ from hL))))) (fun _ _ _ q => by cases q) hrun).mono fun e W' ⟨he, bel⟩ => ?_
  subst he
  exact ⟨_, rfl, _, _, _, [], _, [], hW', trodAll_mk1 (shut_bool Tryz.underlying4 _), (trodAll_cons_mk (Below.trod laidOut (by kernel_rfl) (of_decide_eq_true (by kernel_rfl)) k0 bel lt0) (trodAll_cons_mk (Below.trod laidOut (by kernel_rfl) (of_decide_eq_true (by kernel_rfl)) k1 bel lt1) trodAll_mk0)), rfl, bel.frame _, fun h => by cases h⟩
theorem f_in : Tryz.pinned.checked.prog.inPlace 9 = Rows.schemaFaultsUptoRow.inPlace := by kernel_rfl
theorem f_un : Tryz.pinned.checked.prog.unfollowed 9 = Rows.schemaFaultsUptoRow.unfollowed := by kernel_rfl
theorem f_re : Tryz.pinned.checked.prog.recurses 9 = Rows.schemaFaultsUptoRow.recurses := by kernel_rfl
theorem f_na : Tryz.pinned.checked.prog.varsNamed 9 = Rows.schemaFaultsUptoRow.named := by kernel_rfl
theorem f_mr : mapsRowed Tryz.pinned.checked.prog = true := by kernel_rfl
theorem f_lo : laidOutB Tryz.pinned.checked.prog = true := laidOut
theorem facts : joinedFacts Tryz.pinned.checked.prog 9 Tryz.f9 (Rows.OpenSpec.upto Rows.schemaFaultsSpec).bare Rows.schemaFaultsUptoRow = true := by
  unfold joinedFacts
  rw [f_in, f_un, f_re, f_na, f_mr, f_lo]
  kernel_rfl
theorem said : Rows.SchemaFaultsUptoSaid :=
  OpenClaim.holds_of_cond 9 Tryz.f9 rfl rfl rfl rfl rfl rfl rfl ⟨rfl, rfl, rfl, rfl, rfl⟩ rfl rfl rfl rfl rfl (by kernel_rfl) Tryz.func9 facts
    (of_decide_eq_true (by kernel_rfl)) (by unfold Func.isWrapper; first | (rw [if_pos (by decide +kernel)]; kernel_rfl) | (rw [if_neg (by decide +kernel)]; exact ⟨rfl, rfl⟩))
    (fun os started H enc _ F => by rw [OpenClaim.pre_eq_preRow]; exact lifted os started H enc F)
theorem plain (f : FuncId) (fn : Func) (hf : Tryz.pinned.checked.prog.funcNamed "masthead/mastlaw2.SchemaFaults" = some f) (hfn : Tryz.pinned.checked.prog.funcs[f]? = some fn) :
    true = Tryz.pinned.checked.prog.looks [] ∧ ∀ (j : Nat) t, fn.params[j]? = some t → Tryz.pinned.checked.prog.wantsStandIn t = false := by
  obtain rfl : f = 9 := Option.some.inj ((show Tryz.prog.funcNamed "masthead/mastlaw2.SchemaFaults" = some 9 by kernel_rfl).symm.trans hf) |>.symm
  obtain rfl : fn = Tryz.f9 := (Option.some.inj (Tryz.func9.symm.trans hfn)).symm
  refine ⟨by kernel_rfl, fun j t ht => ?_⟩
  rw [Tryz.params9] at ht
  have ht : t = 52 ∨ t = 34 := by simpa using Array.mem_of_getElem? ht
  rcases ht with rfl | rfl
  · exact (show Tryz.prog.wantsStandIn 52 = false by kernel_rfl)
  · exact (show Tryz.prog.wantsStandIn 34 = false by kernel_rfl)
theorem card : Rows.SchemaFaultsUptoCardSaid :=
  Claim7.holds_tied_plain_at .later [] _ _ _ _ said (fun _ h => by cases h) (by kernel_rfl) (fun _ h => by cases h) schemaFaultsUpto_row_tie rfl ⟨rfl, rfl⟩ (by kernel_rfl) rfl plain (by kernel_rfl)
#print axioms card
end Go.Proofs.YthmedjljckbidaaGreatDoor.schemaFaults
namespace Go.Proofs.YthmedjljckbidaaGreatDoor
/-- The card, under a short name, for the claim. -/
theorem schemaFaultsUpto_holds : Rows.SchemaFaultsUptoCardSaid := schemaFaults.card
end Go.Proofs.YthmedjljckbidaaGreatDoor
