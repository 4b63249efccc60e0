/- The functions behind the law AssetMaps, checked against the code; their summaries hold. Conditions: none. -/
import Derived.Test.YthmedjljckbidaaDoorLiftZ
import Derived.Test.YthmedjljckbidaaDoorProg
import Derived.Test.YthmedjljckbidaaDoorLiftY3
import Derived.Test.YthmedjljckbidaaDoorShelf
import Derived.Shelf.Strings.SlTrimAscii
namespace Go.Proofs.YthmedjljckbidaaDoor.LAssetMaps
open Go Go.Proofs.YthmedjljckbidaaDoor.Lift
set_option maxRecDepth 100000
set_option linter.unusedVariables false
structure T_asset_Bundled where
  fBody : ByteArray
  fParts : (List ByteArray)
  fEnds : (List Int)
  deriving Inhabited
abbrev sgU : Nat → Type
  | 0 => T_asset_Bundled
  | _ + 1 => Unit
abbrev sgF : Nat → List Ty
  | 0 => [.str, (.sl .str), (.sl (.int .i64))]
  | _ + 1 => []
def sgO : (n : Nat) → sgU n → HL sgU (sgF n)
  | 0, x => (x.fBody, x.fParts, x.fEnds, ())
  | _ + 1, _ => ()
def sgB : (n : Nat) → HL sgU (sgF n) → sgU n
  | 0, h => ⟨h.1, h.2.1, h.2.2.1⟩
  | _ + 1, _ => ()
def sg : Sg := { U := sgU, fl := sgF, out := sgO, bld := sgB, gl := [2, 3], gp := fun k c => match k with | 2 => c = ((Lib.deBruijn64tab.map Int.ofNat).map fun z => Value.int .u8 z).toArray | _ => ∃ m, c[0]? = some (.int .i64 m) }
def ctx : Ctx := { S := sg, ty := [(3, .d (.int .i64) 1 0), (5, .d (.int .u8) 1 0), (9, .d .str 1 0), (22, .d (.sl (.int .i64)) 8 3), (25, .d (.int .i64) 1 0), (30, .d (.sl .str) 16 9), (32, .d (.st 0) 1 0)], eqs := [] }
def c_empty : ByteArray := ⟨#[]⟩
def c__2f : ByteArray := ⟨#[47]⟩
def c__2e : ByteArray := ⟨#[46]⟩
def c__2e_2e : ByteArray := ⟨#[46, 46]⟩
def c__20 : ByteArray := ⟨#[32]⟩
def c_0123456789abcdefghijklmnopqrstuv : ByteArray := ⟨#[48, 49, 50, 51, 52, 53, 54, 55, 56, 57, 97, 98, 99, 100, 101, 102, 103, 104, 105, 106, 107, 108, 109, 110, 111, 112, 113, 114, 115, 116, 117, 118]⟩
def c__0a : ByteArray := ⟨#[10]⟩
def c_abcdefghijklmnopqrst_c1516678 : ByteArray := ⟨#[97, 98, 99, 100, 101, 102, 103, 104, 105, 106, 107, 108, 109, 110, 111, 112, 113, 114, 115, 116, 117, 118, 119, 120, 121, 122, 48, 49, 50, 51, 52, 53, 54, 55, 56, 57, 45, 95, 46]⟩
theorem sg_ok : SgOk sg :=
  ⟨fun n h => by rcases n with _ | n <;> rfl, fun n => by rcases n with _ | n <;> rfl, fun n x => by rcases n with _ | n <;> rfl, fun n => by rcases n with _ | n <;> rfl⟩
theorem base_ok : Base Tryd.prog ctx := base_of sg_ok (by kernel_rfl) (eqOk_of (by kernel_rfl))
theorem open_ok : openB Tryd.prog ctx = true := by kernel_rfl
theorem mo : Tryd.prog.follows .mixedOrders = true := by kernel_rfl
def asset_bundleFault.l0 : Nat → ByteArray → (List ByteArray) → (List Int) → Int → (List Int) → Int → Int → Option (Int)
  | 0, _, _, _, _, _, _, _ => none
  | k + 1, x1_0, x1_1, x1_2, x3, x24, x25, x26 => (bif (ilt x26 x25) then ((lat x24 x26).bind fun y1 => (bif (ilt y1 x3) then (some 1) else (asset_bundleFault.l0 k x1_0 x1_1 x1_2 y1 x24 x25 (wadd .i64 x26 1)))) else (bif (!ieq x3 (slen x1_0)) then (some 1) else (some 0)))
def asset_bundleFault.f (k : Nat) (a0 : T_asset_Bundled) : Option (Int) := (bif (ilt 200000 (slen a0.fBody)) then (some 4) else (bif (bif (!ieq (llen a0.fParts) (llen a0.fEnds)) then true else (ilt 40 (llen a0.fParts))) then (some 1) else (asset_bundleFault.l0 k a0.fBody a0.fParts a0.fEnds 0 a0.fEnds (llen a0.fEnds) 0)))
def asset_bundleFault.O (k : Nat) : Oracle sg := fun n => lkp n []
def asset_bundleFault.a : Ann := (.n .z (.n .z (.n .z (.n .z (.n (.n .z (.lp 0 .z)) .z)))))
def asset_bundleFault.L (k : Nat) : Nat → St sg.U → Option (RT sg.U [(.int .i64)]) := labs [(0, labOf sg [(1, (.box [.d .str, .d (.sl .str), .d (.sl (.int .i64))])), (3, (.d (.int .i64))), (24, (.d (.sl (.int .i64)))), (25, (.d (.int .i64))), (26, (.d (.int .i64)))] (fun h => asset_bundleFault.l0 k h.1 h.2.1 h.2.2.1 h.2.2.2.1 h.2.2.2.2.1 h.2.2.2.2.2.1 h.2.2.2.2.2.2.1))]
theorem asset_bundleFault.l0_eq (k : Nat) (x1_0 : ByteArray) (x1_1 : (List ByteArray)) (x1_2 : (List Int)) (x3 : Int) (x24 : (List Int)) (x25 : Int) (x26 : Int) : asset_bundleFault.l0 (k + 1) x1_0 x1_1 x1_2 x3 x24 x25 x26 = runFrom (C := ctx) (asset_bundleFault.O k) ⟨40, [], []⟩ (asset_bundleFault.L k) (Tryd.f15.body.getD .skip) asset_bundleFault.a 0 (endK ctx [(.int .i64)] [(.tmp 2)]) (encD [(1, (.box [.d .str, .d (.sl .str), .d (.sl (.int .i64))])), (3, (.d (.int .i64))), (24, (.d (.sl (.int .i64)))), (25, (.d (.int .i64))), (26, (.d (.int .i64)))] (x1_0, x1_1, x1_2, x3, x24, x25, x26, ()) (startD sg.U ⟨40, [], []⟩ [(1, (.box [.d .str, .d (.sl .str), .d (.sl (.int .i64))])), (3, (.d (.int .i64))), (24, (.d (.sl (.int .i64)))), (25, (.d (.int .i64))), (26, (.d (.int .i64)))])) := by
  rw [asset_bundleFault.l0]
  kernel_rfl
theorem asset_bundleFault.f_eq (k : Nat) (a0 : T_asset_Bundled) : asset_bundleFault.f k a0 = codeK (C := ctx) (asset_bundleFault.O k) ⟨40, [], []⟩ (asset_bundleFault.L k) (Tryd.f15.body.getD .skip) asset_bundleFault.a (endK ctx [(.int .i64)] [(.tmp 2)]) (slotsOf sg.U 0 [(.d (.st 0))] (a0, ()) (empty sg.U)) := by
  unfold asset_bundleFault.f
  kernel_rfl
def asset_bundleFault.e (k : Nat) : Entry sg := entryOf sg [(.d (.st 0))] [(.int .i64)] (fun h => asset_bundleFault.f k h.1)
def asset_bundleFault.T : List (Lb sg (RT sg.U [(.int .i64)])) := [⟨0, [(1, (.box [.d .str, .d (.sl .str), .d (.sl (.int .i64))])), (3, (.d (.int .i64))), (24, (.d (.sl (.int .i64)))), (25, (.d (.int .i64))), (26, (.d (.int .i64)))], fun k h => asset_bundleFault.l0 k h.1 h.2.1 h.2.2.1 h.2.2.2.1 h.2.2.2.2.1 h.2.2.2.2.2.1 h.2.2.2.2.2.2.1⟩]
theorem asset_bundleFault.ok (k : Nat) : (asset_bundleFault.e k).Sound Tryd.prog ctx 15 :=
  entry_ok base_ok mo (fn := Tryd.f15) (b := (Tryd.f15.body.getD .skip)) (pm := [(.d (.st 0))]) (rs := [(.int .i64)]) (an := asset_bundleFault.a) (N := 40) (vars := [(.tmp 2)]) Tryd.func15 (by kernel_rfl) (by kernel_rfl) (by kernel_rfl) (by kernel_rfl) (by kernel_rfl) (by kernel_rfl) (O := asset_bundleFault.O)
    (fun k => by unfold asset_bundleFault.O; exact oracle_of (P := Tryd.prog) (C := ctx) trivial) asset_bundleFault.T ⟨⟨by kernel_rfl, fun _ => by first | rfl | rw [asset_bundleFault.l0], fun k h => asset_bundleFault.l0_eq k h.1 h.2.1 h.2.2.1 h.2.2.2.1 h.2.2.2.2.1 h.2.2.2.2.2.1 h.2.2.2.2.2.2.1⟩, trivial⟩ k (fun h => asset_bundleFault.f_eq k h.1)
def strings_Split.f (a0 : ByteArray) (a1 : ByteArray) : Option ((List ByteArray)) := splitF a0 a1
def strings_Split.e : Entry sg := entryOf sg [(.d .str), (.d .str)] [(.sl .str)] (fun h => strings_Split.f h.1 h.2.1)
theorem strings_Split.ok : (strings_Split.e).Sound Tryd.prog ctx 25 :=
  split_sound (C := ctx) sg_ok Tryd.func25 (by kernel_rfl) (by kernel_rfl) (kM := 3) (fun w hG => by obtain ⟨m, hm⟩ := hG 3 (by simp [ctx, sg]); exact ⟨m, cells_cell hm⟩) (fun s sep m w hs hm h1 => Tryd.strings_Split s sep m w hs hm h1)
def tree_isSmall.f (a0 : Int) : Option (Bool) := (some (bif (ile 97 a0) then (ile a0 122) else false))
def tree_isSmall.O : Oracle sg := fun n => lkp n []
def tree_isSmall.a : Ann := .z
def tree_isSmall.L : Nat → St sg.U → Option (RT sg.U [.bool]) := labs []
theorem tree_isSmall.f_eq (a0 : Int) : tree_isSmall.f a0 = codeK (C := ctx) (tree_isSmall.O) ⟨9, [], []⟩ (tree_isSmall.L) (Tryd.f63.body.getD .skip) tree_isSmall.a (endK ctx [.bool] [(.tmp 2)]) (slotsOf sg.U 0 [(.d (.int .u8))] (a0, ()) (empty sg.U)) := by
  unfold tree_isSmall.f
  kernel_rfl
def tree_isSmall.e : Entry sg := entryOf sg [(.d (.int .u8))] [.bool] (fun h => tree_isSmall.f h.1)
def tree_isSmall.T : List (Lb sg (RT sg.U [.bool])) := []
theorem tree_isSmall.ok : (tree_isSmall.e).Sound Tryd.prog ctx 63 :=
  entry_ok base_ok mo (fn := Tryd.f63) (b := (Tryd.f63.body.getD .skip)) (pm := [(.d (.int .u8))]) (rs := [.bool]) (an := tree_isSmall.a) (N := 9) (vars := [(.tmp 2)]) Tryd.func63 (by kernel_rfl) (by kernel_rfl) (by kernel_rfl) (by kernel_rfl) (by kernel_rfl) (by kernel_rfl) (O := fun _ => tree_isSmall.O)
    (fun _ => by unfold tree_isSmall.O; exact oracle_of (P := Tryd.prog) (C := ctx) trivial) tree_isSmall.T trivial 0 (fun h => tree_isSmall.f_eq h.1)
def tree_isDigit.f (a0 : Int) : Option (Bool) := (some (bif (ile 48 a0) then (ile a0 57) else false))
def tree_isDigit.O : Oracle sg := fun n => lkp n []
def tree_isDigit.a : Ann := .z
def tree_isDigit.L : Nat → St sg.U → Option (RT sg.U [.bool]) := labs []
theorem tree_isDigit.f_eq (a0 : Int) : tree_isDigit.f a0 = codeK (C := ctx) (tree_isDigit.O) ⟨9, [], []⟩ (tree_isDigit.L) (Tryd.f64.body.getD .skip) tree_isDigit.a (endK ctx [.bool] [(.tmp 2)]) (slotsOf sg.U 0 [(.d (.int .u8))] (a0, ()) (empty sg.U)) := by
  unfold tree_isDigit.f
  kernel_rfl
def tree_isDigit.e : Entry sg := entryOf sg [(.d (.int .u8))] [.bool] (fun h => tree_isDigit.f h.1)
def tree_isDigit.T : List (Lb sg (RT sg.U [.bool])) := []
theorem tree_isDigit.ok : (tree_isDigit.e).Sound Tryd.prog ctx 64 :=
  entry_ok base_ok mo (fn := Tryd.f64) (b := (Tryd.f64.body.getD .skip)) (pm := [(.d (.int .u8))]) (rs := [.bool]) (an := tree_isDigit.a) (N := 9) (vars := [(.tmp 2)]) Tryd.func64 (by kernel_rfl) (by kernel_rfl) (by kernel_rfl) (by kernel_rfl) (by kernel_rfl) (by kernel_rfl) (O := fun _ => tree_isDigit.O)
    (fun _ => by unfold tree_isDigit.O; exact oracle_of (P := Tryd.prog) (C := ctx) trivial) tree_isDigit.T trivial 0 (fun h => tree_isDigit.f_eq h.1)
def tree_isPart.l0 : Nat → ByteArray → Int → Option (Bool)
  | 0, _, _ => none
  | k + 1, x0, x3 => (bif (ilt x3 (slen x0)) then ((sat x0 x3).bind fun y1 => ((tree_isSmall.f y1).bind fun y2 => (bif (!y2) then ((sat x0 x3).bind fun y3 => ((tree_isDigit.f y3).bind fun y4 => (bif (!y4) then ((sat x0 x3).bind fun y5 => (bif (!ieq y5 45) then ((sat x0 x3).bind fun y6 => (bif (!ieq y6 95) then ((sat x0 x3).bind fun y7 => (bif (!ieq y7 46) then (some false) else (tree_isPart.l0 k x0 (wadd .i64 x3 1)))) else (tree_isPart.l0 k x0 (wadd .i64 x3 1)))) else (tree_isPart.l0 k x0 (wadd .i64 x3 1)))) else (tree_isPart.l0 k x0 (wadd .i64 x3 1))))) else (tree_isPart.l0 k x0 (wadd .i64 x3 1))))) else (some true))
def tree_isPart.f (k : Nat) (a0 : ByteArray) : Option (Bool) := (bif (bif (bif (bif (seq a0 c_empty) then true else (ilt 40 (slen a0))) then true else (seq a0 c__2e)) then true else (seq a0 c__2e_2e)) then (some false) else (tree_isPart.l0 k a0 0))
def tree_isPart.O (k : Nat) : Oracle sg := fun n => lkp n [(63, tree_isSmall.e), (64, tree_isDigit.e)]
def tree_isPart.a : Ann := (.n .z (.n .z (.n (.n .z (.lp 0 .z)) .z)))
def tree_isPart.L (k : Nat) : Nat → St sg.U → Option (RT sg.U [.bool]) := labs [(0, labOf sg [(0, (.d .str)), (3, (.d (.int .i64)))] (fun h => tree_isPart.l0 k h.1 h.2.1))]
theorem tree_isPart.l0_eq (k : Nat) (x0 : ByteArray) (x3 : Int) : tree_isPart.l0 (k + 1) x0 x3 = runFrom (C := ctx) (tree_isPart.O k) ⟨55, [], []⟩ (tree_isPart.L k) (Tryd.f55.body.getD .skip) tree_isPart.a 0 (endK ctx [.bool] [(.tmp 2)]) (encD [(0, (.d .str)), (3, (.d (.int .i64)))] (x0, x3, ()) (startD sg.U ⟨55, [], []⟩ [(0, (.d .str)), (3, (.d (.int .i64)))])) := by
  rw [tree_isPart.l0]
  kernel_rfl
theorem tree_isPart.f_eq (k : Nat) (a0 : ByteArray) : tree_isPart.f k a0 = codeK (C := ctx) (tree_isPart.O k) ⟨55, [], []⟩ (tree_isPart.L k) (Tryd.f55.body.getD .skip) tree_isPart.a (endK ctx [.bool] [(.tmp 2)]) (slotsOf sg.U 0 [(.d .str)] (a0, ()) (empty sg.U)) := by
  unfold tree_isPart.f
  kernel_rfl
def tree_isPart.e (k : Nat) : Entry sg := entryOf sg [(.d .str)] [.bool] (fun h => tree_isPart.f k h.1)
def tree_isPart.T : List (Lb sg (RT sg.U [.bool])) := [⟨0, [(0, (.d .str)), (3, (.d (.int .i64)))], fun k h => tree_isPart.l0 k h.1 h.2.1⟩]
theorem tree_isPart.ok (k : Nat) : (tree_isPart.e k).Sound Tryd.prog ctx 55 :=
  entry_ok base_ok mo (fn := Tryd.f55) (b := (Tryd.f55.body.getD .skip)) (pm := [(.d .str)]) (rs := [.bool]) (an := tree_isPart.a) (N := 55) (vars := [(.tmp 2)]) Tryd.func55 (by kernel_rfl) (by kernel_rfl) (by kernel_rfl) (by kernel_rfl) (by kernel_rfl) (by kernel_rfl) (O := tree_isPart.O)
    (fun k => by unfold tree_isPart.O; exact oracle_of (P := Tryd.prog) (C := ctx) ⟨(tree_isSmall.ok), ⟨(tree_isDigit.ok), trivial⟩⟩) tree_isPart.T ⟨⟨by kernel_rfl, fun _ => by first | rfl | rw [tree_isPart.l0], fun k h => tree_isPart.l0_eq k h.1 h.2.1⟩, trivial⟩ k (fun h => tree_isPart.f_eq k h.1)
def tree_isPath.l0 : Nat → (List ByteArray) → Int → Int → Option (Bool)
  | 0, _, _, _ => none
  | k + 1, x9, x10, x11 => (bif (ilt x11 x10) then ((lat x9 x11).bind fun y2 => ((tree_isPart.f k y2).bind fun y3 => (bif (!y3) then (some false) else (tree_isPath.l0 k x9 x10 (wadd .i64 x11 1))))) else (some true))
def tree_isPath.f (k : Nat) (a0 : ByteArray) : Option (Bool) := (bif (ilt 200 (slen a0)) then (some false) else ((strings_Split.f a0 c__2f).bind fun y1 => (tree_isPath.l0 k y1 (llen y1) 0)))
def tree_isPath.O (k : Nat) : Oracle sg := fun n => lkp n [(25, strings_Split.e), (55, tree_isPart.e k)]
def tree_isPath.a : Ann := (.n .z (.n .z (.n (.n .z (.lp 0 .z)) .z)))
def tree_isPath.L (k : Nat) : Nat → St sg.U → Option (RT sg.U [.bool]) := labs [(0, labOf sg [(9, (.d (.sl .str))), (10, (.d (.int .i64))), (11, (.d (.int .i64)))] (fun h => tree_isPath.l0 k h.1 h.2.1 h.2.2.1))]
theorem tree_isPath.l0_eq (k : Nat) (x9 : (List ByteArray)) (x10 : Int) (x11 : Int) : tree_isPath.l0 (k + 1) x9 x10 x11 = runFrom (C := ctx) (tree_isPath.O k) ⟨19, [], []⟩ (tree_isPath.L k) (Tryd.f42.body.getD .skip) tree_isPath.a 0 (endK ctx [.bool] [(.tmp 2)]) (encD [(9, (.d (.sl .str))), (10, (.d (.int .i64))), (11, (.d (.int .i64)))] (x9, x10, x11, ()) (startD sg.U ⟨19, [], []⟩ [(9, (.d (.sl .str))), (10, (.d (.int .i64))), (11, (.d (.int .i64)))])) := by
  rw [tree_isPath.l0]
  kernel_rfl
theorem tree_isPath.f_eq (k : Nat) (a0 : ByteArray) : tree_isPath.f k a0 = codeK (C := ctx) (tree_isPath.O k) ⟨19, [], []⟩ (tree_isPath.L k) (Tryd.f42.body.getD .skip) tree_isPath.a (endK ctx [.bool] [(.tmp 2)]) (slotsOf sg.U 0 [(.d .str)] (a0, ()) (empty sg.U)) := by
  unfold tree_isPath.f
  kernel_rfl
def tree_isPath.e (k : Nat) : Entry sg := entryOf sg [(.d .str)] [.bool] (fun h => tree_isPath.f k h.1)
def tree_isPath.T : List (Lb sg (RT sg.U [.bool])) := [⟨0, [(9, (.d (.sl .str))), (10, (.d (.int .i64))), (11, (.d (.int .i64)))], fun k h => tree_isPath.l0 k h.1 h.2.1 h.2.2.1⟩]
theorem tree_isPath.ok (k : Nat) : (tree_isPath.e k).Sound Tryd.prog ctx 42 :=
  entry_ok base_ok mo (fn := Tryd.f42) (b := (Tryd.f42.body.getD .skip)) (pm := [(.d .str)]) (rs := [.bool]) (an := tree_isPath.a) (N := 19) (vars := [(.tmp 2)]) Tryd.func42 (by kernel_rfl) (by kernel_rfl) (by kernel_rfl) (by kernel_rfl) (by kernel_rfl) (by kernel_rfl) (O := tree_isPath.O)
    (fun k => by unfold tree_isPath.O; exact oracle_of (P := Tryd.prog) (C := ctx) ⟨(strings_Split.ok), ⟨(tree_isPart.ok k), trivial⟩⟩) tree_isPath.T ⟨⟨by kernel_rfl, fun _ => by first | rfl | rw [tree_isPath.l0], fun k h => tree_isPath.l0_eq k h.1 h.2.1 h.2.2.1⟩, trivial⟩ k (fun h => tree_isPath.f_eq k h.1)
def tree_CheckPath.f (k : Nat) (a0 : ByteArray) : Option (Int) := ((tree_isPath.f k a0).bind fun y1 => (bif (!y1) then (some 3) else (some 0)))
def tree_CheckPath.O (k : Nat) : Oracle sg := fun n => lkp n [(42, tree_isPath.e k)]
def tree_CheckPath.a : Ann := .z
def tree_CheckPath.L (k : Nat) : Nat → St sg.U → Option (RT sg.U [(.int .i64)]) := labs []
theorem tree_CheckPath.f_eq (k : Nat) (a0 : ByteArray) : tree_CheckPath.f k a0 = codeK (C := ctx) (tree_CheckPath.O k) ⟨6, [], []⟩ (tree_CheckPath.L k) (Tryd.f33.body.getD .skip) tree_CheckPath.a (endK ctx [(.int .i64)] [(.tmp 2)]) (slotsOf sg.U 0 [(.d .str)] (a0, ()) (empty sg.U)) := by
  unfold tree_CheckPath.f
  kernel_rfl
def tree_CheckPath.e (k : Nat) : Entry sg := entryOf sg [(.d .str)] [(.int .i64)] (fun h => tree_CheckPath.f k h.1)
def tree_CheckPath.T : List (Lb sg (RT sg.U [(.int .i64)])) := []
theorem tree_CheckPath.ok (k : Nat) : (tree_CheckPath.e k).Sound Tryd.prog ctx 33 :=
  entry_ok base_ok mo (fn := Tryd.f33) (b := (Tryd.f33.body.getD .skip)) (pm := [(.d .str)]) (rs := [(.int .i64)]) (an := tree_CheckPath.a) (N := 6) (vars := [(.tmp 2)]) Tryd.func33 (by kernel_rfl) (by kernel_rfl) (by kernel_rfl) (by kernel_rfl) (by kernel_rfl) (by kernel_rfl) (O := tree_CheckPath.O)
    (fun k => by unfold tree_CheckPath.O; exact oracle_of (P := Tryd.prog) (C := ctx) ⟨(tree_isPath.ok k), trivial⟩) tree_CheckPath.T trivial k (fun h => tree_CheckPath.f_eq k h.1)
def asset_isPath.f (k : Nat) (a0 : ByteArray) : Option (Bool) := ((tree_CheckPath.f k a0).bind fun y1 => (some (ieq y1 0)))
def asset_isPath.O (k : Nat) : Oracle sg := fun n => lkp n [(33, tree_CheckPath.e k)]
def asset_isPath.a : Ann := .z
def asset_isPath.L (k : Nat) : Nat → St sg.U → Option (RT sg.U [.bool]) := labs []
theorem asset_isPath.f_eq (k : Nat) (a0 : ByteArray) : asset_isPath.f k a0 = codeK (C := ctx) (asset_isPath.O k) ⟨6, [], []⟩ (asset_isPath.L k) (Tryd.f23.body.getD .skip) asset_isPath.a (endK ctx [.bool] [(.tmp 2)]) (slotsOf sg.U 0 [(.d .str)] (a0, ()) (empty sg.U)) := by
  unfold asset_isPath.f
  kernel_rfl
def asset_isPath.e (k : Nat) : Entry sg := entryOf sg [(.d .str)] [.bool] (fun h => asset_isPath.f k h.1)
def asset_isPath.T : List (Lb sg (RT sg.U [.bool])) := []
theorem asset_isPath.ok (k : Nat) : (asset_isPath.e k).Sound Tryd.prog ctx 23 :=
  entry_ok base_ok mo (fn := Tryd.f23) (b := (Tryd.f23.body.getD .skip)) (pm := [(.d .str)]) (rs := [.bool]) (an := asset_isPath.a) (N := 6) (vars := [(.tmp 2)]) Tryd.func23 (by kernel_rfl) (by kernel_rfl) (by kernel_rfl) (by kernel_rfl) (by kernel_rfl) (by kernel_rfl) (O := asset_isPath.O)
    (fun k => by unfold asset_isPath.O; exact oracle_of (P := Tryd.prog) (C := ctx) ⟨(tree_CheckPath.ok k), trivial⟩) asset_isPath.T trivial k (fun h => asset_isPath.f_eq k h.1)
mutual
def asset_partsFault.l0 : Nat → (List ByteArray) → (List ByteArray) → Int → Int → Option (Int)
  | 0, _, _, _, _ => none
  | k + 1, x0, x7, x8, x9 => (bif (ilt x9 x8) then ((lat x7 x9).bind fun y1 => ((asset_isPath.f k y1).bind fun y2 => (bif (!y2) then (some 3) else ((lsub x0 0 x9).bind fun y3 => (asset_partsFault.l1 k x0 y1 x7 x8 x9 y3 (llen y3) 0))))) else (some 0))
def asset_partsFault.l1 : Nat → (List ByteArray) → ByteArray → (List ByteArray) → Int → Int → (List ByteArray) → Int → Int → Option (Int)
  | 0, _, _, _, _, _, _, _, _ => none
  | k + 1, x0, x4, x7, x8, x9, x19, x20, x21 => (bif (ilt x21 x20) then ((lat x19 x21).bind fun y4 => (bif (seq x4 y4) then (some 6) else (asset_partsFault.l1 k x0 x4 x7 x8 x9 x19 x20 (wadd .i64 x21 1)))) else (asset_partsFault.l0 k x0 x7 x8 (wadd .i64 x9 1)))
end
def asset_partsFault.f (k : Nat) (a0 : (List ByteArray)) : Option (Int) := (asset_partsFault.l0 k a0 a0 (llen a0) 0)
def asset_partsFault.O (k : Nat) : Oracle sg := fun n => lkp n [(23, asset_isPath.e k)]
def asset_partsFault.a : Ann := (.n .z (.n (.n .z (.lp 0 (.n .z (.n .z (.n (.n .z (.n .z (.n .z (.lp 1 .z)))) .z))))) .z))
def asset_partsFault.L (k : Nat) : Nat → St sg.U → Option (RT sg.U [(.int .i64)]) := labs [(0, labOf sg [(0, (.d (.sl .str))), (7, (.d (.sl .str))), (8, (.d (.int .i64))), (9, (.d (.int .i64)))] (fun h => asset_partsFault.l0 k h.1 h.2.1 h.2.2.1 h.2.2.2.1)), (1, labOf sg [(0, (.d (.sl .str))), (4, (.d .str)), (7, (.d (.sl .str))), (8, (.d (.int .i64))), (9, (.d (.int .i64))), (19, (.d (.sl .str))), (20, (.d (.int .i64))), (21, (.d (.int .i64)))] (fun h => asset_partsFault.l1 k h.1 h.2.1 h.2.2.1 h.2.2.2.1 h.2.2.2.2.1 h.2.2.2.2.2.1 h.2.2.2.2.2.2.1 h.2.2.2.2.2.2.2.1))]
theorem asset_partsFault.l0_eq (k : Nat) (x0 : (List ByteArray)) (x7 : (List ByteArray)) (x8 : Int) (x9 : Int) : asset_partsFault.l0 (k + 1) x0 x7 x8 x9 = runFrom (C := ctx) (asset_partsFault.O k) ⟨30, [], []⟩ (asset_partsFault.L k) (Tryd.f16.body.getD .skip) asset_partsFault.a 0 (endK ctx [(.int .i64)] [(.tmp 2)]) (encD [(0, (.d (.sl .str))), (7, (.d (.sl .str))), (8, (.d (.int .i64))), (9, (.d (.int .i64)))] (x0, x7, x8, x9, ()) (startD sg.U ⟨30, [], []⟩ [(0, (.d (.sl .str))), (7, (.d (.sl .str))), (8, (.d (.int .i64))), (9, (.d (.int .i64)))])) := by
  rw [asset_partsFault.l0]
  kernel_rfl
theorem asset_partsFault.l1_eq (k : Nat) (x0 : (List ByteArray)) (x4 : ByteArray) (x7 : (List ByteArray)) (x8 : Int) (x9 : Int) (x19 : (List ByteArray)) (x20 : Int) (x21 : Int) : asset_partsFault.l1 (k + 1) x0 x4 x7 x8 x9 x19 x20 x21 = runFrom (C := ctx) (asset_partsFault.O k) ⟨30, [], []⟩ (asset_partsFault.L k) (Tryd.f16.body.getD .skip) asset_partsFault.a 1 (endK ctx [(.int .i64)] [(.tmp 2)]) (encD [(0, (.d (.sl .str))), (4, (.d .str)), (7, (.d (.sl .str))), (8, (.d (.int .i64))), (9, (.d (.int .i64))), (19, (.d (.sl .str))), (20, (.d (.int .i64))), (21, (.d (.int .i64)))] (x0, x4, x7, x8, x9, x19, x20, x21, ()) (startD sg.U ⟨30, [], []⟩ [(0, (.d (.sl .str))), (4, (.d .str)), (7, (.d (.sl .str))), (8, (.d (.int .i64))), (9, (.d (.int .i64))), (19, (.d (.sl .str))), (20, (.d (.int .i64))), (21, (.d (.int .i64)))])) := by
  rw [asset_partsFault.l1]
  kernel_rfl
theorem asset_partsFault.f_eq (k : Nat) (a0 : (List ByteArray)) : asset_partsFault.f k a0 = codeK (C := ctx) (asset_partsFault.O k) ⟨30, [], []⟩ (asset_partsFault.L k) (Tryd.f16.body.getD .skip) asset_partsFault.a (endK ctx [(.int .i64)] [(.tmp 2)]) (slotsOf sg.U 0 [(.d (.sl .str))] (a0, ()) (empty sg.U)) := by
  unfold asset_partsFault.f
  kernel_rfl
def asset_partsFault.e (k : Nat) : Entry sg := entryOf sg [(.d (.sl .str))] [(.int .i64)] (fun h => asset_partsFault.f k h.1)
def asset_partsFault.T : List (Lb sg (RT sg.U [(.int .i64)])) := [⟨0, [(0, (.d (.sl .str))), (7, (.d (.sl .str))), (8, (.d (.int .i64))), (9, (.d (.int .i64)))], fun k h => asset_partsFault.l0 k h.1 h.2.1 h.2.2.1 h.2.2.2.1⟩, ⟨1, [(0, (.d (.sl .str))), (4, (.d .str)), (7, (.d (.sl .str))), (8, (.d (.int .i64))), (9, (.d (.int .i64))), (19, (.d (.sl .str))), (20, (.d (.int .i64))), (21, (.d (.int .i64)))], fun k h => asset_partsFault.l1 k h.1 h.2.1 h.2.2.1 h.2.2.2.1 h.2.2.2.2.1 h.2.2.2.2.2.1 h.2.2.2.2.2.2.1 h.2.2.2.2.2.2.2.1⟩]
theorem asset_partsFault.ok (k : Nat) : (asset_partsFault.e k).Sound Tryd.prog ctx 16 :=
  entry_ok base_ok mo (fn := Tryd.f16) (b := (Tryd.f16.body.getD .skip)) (pm := [(.d (.sl .str))]) (rs := [(.int .i64)]) (an := asset_partsFault.a) (N := 30) (vars := [(.tmp 2)]) Tryd.func16 (by kernel_rfl) (by kernel_rfl) (by kernel_rfl) (by kernel_rfl) (by kernel_rfl) (by kernel_rfl) (O := asset_partsFault.O)
    (fun k => by unfold asset_partsFault.O; exact oracle_of (P := Tryd.prog) (C := ctx) ⟨(asset_isPath.ok k), trivial⟩) asset_partsFault.T ⟨⟨by kernel_rfl, fun _ => by first | rfl | rw [asset_partsFault.l0], fun k h => asset_partsFault.l0_eq k h.1 h.2.1 h.2.2.1 h.2.2.2.1⟩, ⟨⟨by kernel_rfl, fun _ => by first | rfl | rw [asset_partsFault.l1], fun k h => asset_partsFault.l1_eq k h.1 h.2.1 h.2.2.1 h.2.2.2.1 h.2.2.2.2.1 h.2.2.2.2.2.1 h.2.2.2.2.2.2.1 h.2.2.2.2.2.2.2.1⟩, trivial⟩⟩ k (fun h => asset_partsFault.f_eq k h.1)
def asset_base32.l0 : Nat → Int → ByteArray → Option (ByteArray)
  | 0, _, _ => none
  | k + 1, x0, x3 => (bif (ilt 0 x0) then ((ssub c_0123456789abcdefghijklmnopqrstuv (irem x0 32) (wadd .i64 (irem x0 32) 1)).bind fun y2 => ((scat y2 x3).bind fun y3 => (asset_base32.l0 k (wquo .i64 x0 32) y3))) else (some x3))
def asset_base32.f (k : Nat) (a0 : Int) : Option (ByteArray) := ((ssub c_0123456789abcdefghijklmnopqrstuv (irem a0 32) (wadd .i64 (irem a0 32) 1)).bind fun y1 => (asset_base32.l0 k (wquo .i64 a0 32) y1))
def asset_base32.O (k : Nat) : Oracle sg := fun n => lkp n []
def asset_base32.a : Ann := (.n .z (.n .z (.n (.n .z (.lp 0 .z)) .z)))
def asset_base32.L (k : Nat) : Nat → St sg.U → Option (RT sg.U [.str]) := labs [(0, labOf sg [(0, (.d (.int .i64))), (3, (.d .str))] (fun h => asset_base32.l0 k h.1 h.2.1))]
theorem asset_base32.l0_eq (k : Nat) (x0 : Int) (x3 : ByteArray) : asset_base32.l0 (k + 1) x0 x3 = runFrom (C := ctx) (asset_base32.O k) ⟨25, [], []⟩ (asset_base32.L k) (Tryd.f17.body.getD .skip) asset_base32.a 0 (endK ctx [.str] [(.tmp 2)]) (encD [(0, (.d (.int .i64))), (3, (.d .str))] (x0, x3, ()) (startD sg.U ⟨25, [], []⟩ [(0, (.d (.int .i64))), (3, (.d .str))])) := by
  rw [asset_base32.l0]
  kernel_rfl
theorem asset_base32.f_eq (k : Nat) (a0 : Int) : asset_base32.f k a0 = codeK (C := ctx) (asset_base32.O k) ⟨25, [], []⟩ (asset_base32.L k) (Tryd.f17.body.getD .skip) asset_base32.a (endK ctx [.str] [(.tmp 2)]) (slotsOf sg.U 0 [(.d (.int .i64))] (a0, ()) (empty sg.U)) := by
  unfold asset_base32.f
  kernel_rfl
def asset_base32.e (k : Nat) : Entry sg := entryOf sg [(.d (.int .i64))] [.str] (fun h => asset_base32.f k h.1)
def asset_base32.T : List (Lb sg (RT sg.U [.str])) := [⟨0, [(0, (.d (.int .i64))), (3, (.d .str))], fun k h => asset_base32.l0 k h.1 h.2.1⟩]
theorem asset_base32.ok (k : Nat) : (asset_base32.e k).Sound Tryd.prog ctx 17 :=
  entry_ok base_ok mo (fn := Tryd.f17) (b := (Tryd.f17.body.getD .skip)) (pm := [(.d (.int .i64))]) (rs := [.str]) (an := asset_base32.a) (N := 25) (vars := [(.tmp 2)]) Tryd.func17 (by kernel_rfl) (by kernel_rfl) (by kernel_rfl) (by kernel_rfl) (by kernel_rfl) (by kernel_rfl) (O := asset_base32.O)
    (fun k => by unfold asset_base32.O; exact oracle_of (P := Tryd.prog) (C := ctx) trivial) asset_base32.T ⟨⟨by kernel_rfl, fun _ => by first | rfl | rw [asset_base32.l0], fun k h => asset_base32.l0_eq k h.1 h.2.1⟩, trivial⟩ k (fun h => asset_base32.f_eq k h.1)
def asset_MapString.l0 : Nat → ByteArray → (List ByteArray) → (List Int) → ByteArray → Int → (List ByteArray) → Int → Int → Option (ByteArray × Int)
  | 0, _, _, _, _, _, _, _, _ => none
  | k + 1, x1_0, x1_1, x1_2, x6, x7, x22, x23, x24 => (bif (ilt x24 x23) then ((lat x22 x24).bind fun y3 => ((scat y3 c__20).bind fun y4 => ((lat x1_2 x24).bind fun y5 => ((asset_base32.f k (wsub .i64 y5 x7)).bind fun y6 => ((scat y4 y6).bind fun y7 => ((scat y7 c__0a).bind fun y8 => ((scat x6 y8).bind fun y9 => ((lat x1_2 x24).bind fun y10 => (asset_MapString.l0 k x1_0 x1_1 x1_2 y9 y10 x22 x23 (wadd .i64 x24 1)))))))))) else (some (x6, 0)))
def asset_MapString.f (k : Nat) (a0 : T_asset_Bundled) : Option (ByteArray × Int) := ((asset_bundleFault.f k a0).bind fun y1 => (bif (!ieq y1 0) then (some (c_empty, y1)) else ((asset_partsFault.f k a0.fParts).bind fun y2 => (bif (!ieq y2 0) then (some (c_empty, y2)) else (asset_MapString.l0 k a0.fBody a0.fParts a0.fEnds c_empty 0 a0.fParts (llen a0.fParts) 0)))))
def asset_MapString.O (k : Nat) : Oracle sg := fun n => lkp n [(15, asset_bundleFault.e k), (16, asset_partsFault.e k), (17, asset_base32.e k)]
def asset_MapString.a : Ann := (.n .z (.n .z (.n .z (.n .z (.n (.n .z (.lp 0 .z)) .z)))))
def asset_MapString.L (k : Nat) : Nat → St sg.U → Option (RT sg.U [.str, (.int .i64)]) := labs [(0, labOf sg [(1, (.box [.d .str, .d (.sl .str), .d (.sl (.int .i64))])), (6, (.d .str)), (7, (.d (.int .i64))), (22, (.d (.sl .str))), (23, (.d (.int .i64))), (24, (.d (.int .i64)))] (fun h => asset_MapString.l0 k h.1 h.2.1 h.2.2.1 h.2.2.2.1 h.2.2.2.2.1 h.2.2.2.2.2.1 h.2.2.2.2.2.2.1 h.2.2.2.2.2.2.2.1))]
theorem asset_MapString.l0_eq (k : Nat) (x1_0 : ByteArray) (x1_1 : (List ByteArray)) (x1_2 : (List Int)) (x6 : ByteArray) (x7 : Int) (x22 : (List ByteArray)) (x23 : Int) (x24 : Int) : asset_MapString.l0 (k + 1) x1_0 x1_1 x1_2 x6 x7 x22 x23 x24 = runFrom (C := ctx) (asset_MapString.O k) ⟨50, [], []⟩ (asset_MapString.L k) (Tryd.f9.body.getD .skip) asset_MapString.a 0 (endK ctx [.str, (.int .i64)] [(.tmp 2), (.tmp 3)]) (encD [(1, (.box [.d .str, .d (.sl .str), .d (.sl (.int .i64))])), (6, (.d .str)), (7, (.d (.int .i64))), (22, (.d (.sl .str))), (23, (.d (.int .i64))), (24, (.d (.int .i64)))] (x1_0, x1_1, x1_2, x6, x7, x22, x23, x24, ()) (startD sg.U ⟨50, [], []⟩ [(1, (.box [.d .str, .d (.sl .str), .d (.sl (.int .i64))])), (6, (.d .str)), (7, (.d (.int .i64))), (22, (.d (.sl .str))), (23, (.d (.int .i64))), (24, (.d (.int .i64)))])) := by
  rw [asset_MapString.l0]
  kernel_rfl
theorem asset_MapString.f_eq (k : Nat) (a0 : T_asset_Bundled) : asset_MapString.f k a0 = codeK (C := ctx) (asset_MapString.O k) ⟨50, [], []⟩ (asset_MapString.L k) (Tryd.f9.body.getD .skip) asset_MapString.a (endK ctx [.str, (.int .i64)] [(.tmp 2), (.tmp 3)]) (slotsOf sg.U 0 [(.d (.st 0))] (a0, ()) (empty sg.U)) := by
  unfold asset_MapString.f
  kernel_rfl
def asset_MapString.e (k : Nat) : Entry sg := entryOf sg [(.d (.st 0))] [.str, (.int .i64)] (fun h => asset_MapString.f k h.1)
def asset_MapString.T : List (Lb sg (RT sg.U [.str, (.int .i64)])) := [⟨0, [(1, (.box [.d .str, .d (.sl .str), .d (.sl (.int .i64))])), (6, (.d .str)), (7, (.d (.int .i64))), (22, (.d (.sl .str))), (23, (.d (.int .i64))), (24, (.d (.int .i64)))], fun k h => asset_MapString.l0 k h.1 h.2.1 h.2.2.1 h.2.2.2.1 h.2.2.2.2.1 h.2.2.2.2.2.1 h.2.2.2.2.2.2.1 h.2.2.2.2.2.2.2.1⟩]
theorem asset_MapString.ok (k : Nat) : (asset_MapString.e k).Sound Tryd.prog ctx 9 :=
  entry_ok base_ok mo (fn := Tryd.f9) (b := (Tryd.f9.body.getD .skip)) (pm := [(.d (.st 0))]) (rs := [.str, (.int .i64)]) (an := asset_MapString.a) (N := 50) (vars := [(.tmp 2), (.tmp 3)]) Tryd.func9 (by kernel_rfl) (by kernel_rfl) (by kernel_rfl) (by kernel_rfl) (by kernel_rfl) (by kernel_rfl) (O := asset_MapString.O)
    (fun k => by unfold asset_MapString.O; exact oracle_of (P := Tryd.prog) (C := ctx) ⟨(asset_bundleFault.ok k), ⟨(asset_partsFault.ok k), ⟨(asset_base32.ok k), trivial⟩⟩⟩) asset_MapString.T ⟨⟨by kernel_rfl, fun _ => by first | rfl | rw [asset_MapString.l0], fun k h => asset_MapString.l0_eq k h.1 h.2.1 h.2.2.1 h.2.2.2.1 h.2.2.2.2.1 h.2.2.2.2.2.1 h.2.2.2.2.2.2.1 h.2.2.2.2.2.2.2.1⟩, trivial⟩ k (fun h => asset_MapString.f_eq k h.1)
def mastref2_bundledForm.l0 : Nat → ByteArray → (List ByteArray) → (List Int) → Int → (List Int) → Int → Int → Option (Bool)
  | 0, _, _, _, _, _, _, _ => none
  | k + 1, x1_0, x1_1, x1_2, x3, x20, x21, x22 => (bif (ilt x22 x21) then ((lat x20 x22).bind fun y1 => (bif (ilt y1 x3) then (some false) else (mastref2_bundledForm.l0 k x1_0 x1_1 x1_2 y1 x20 x21 (wadd .i64 x22 1)))) else (some (ieq x3 (slen x1_0))))
def mastref2_bundledForm.f (k : Nat) (a0 : T_asset_Bundled) : Option (Bool) := (bif (bif (!ieq (llen a0.fParts) (llen a0.fEnds)) then true else (ilt 40 (llen a0.fParts))) then (some false) else (mastref2_bundledForm.l0 k a0.fBody a0.fParts a0.fEnds 0 a0.fEnds (llen a0.fEnds) 0))
def mastref2_bundledForm.O (k : Nat) : Oracle sg := fun n => lkp n []
def mastref2_bundledForm.a : Ann := (.n .z (.n .z (.n .z (.n (.n .z (.lp 0 .z)) .z))))
def mastref2_bundledForm.L (k : Nat) : Nat → St sg.U → Option (RT sg.U [.bool]) := labs [(0, labOf sg [(1, (.box [.d .str, .d (.sl .str), .d (.sl (.int .i64))])), (3, (.d (.int .i64))), (20, (.d (.sl (.int .i64)))), (21, (.d (.int .i64))), (22, (.d (.int .i64)))] (fun h => mastref2_bundledForm.l0 k h.1 h.2.1 h.2.2.1 h.2.2.2.1 h.2.2.2.2.1 h.2.2.2.2.2.1 h.2.2.2.2.2.2.1))]
theorem mastref2_bundledForm.l0_eq (k : Nat) (x1_0 : ByteArray) (x1_1 : (List ByteArray)) (x1_2 : (List Int)) (x3 : Int) (x20 : (List Int)) (x21 : Int) (x22 : Int) : mastref2_bundledForm.l0 (k + 1) x1_0 x1_1 x1_2 x3 x20 x21 x22 = runFrom (C := ctx) (mastref2_bundledForm.O k) ⟨36, [], []⟩ (mastref2_bundledForm.L k) (Tryd.f18.body.getD .skip) mastref2_bundledForm.a 0 (endK ctx [.bool] [(.tmp 2)]) (encD [(1, (.box [.d .str, .d (.sl .str), .d (.sl (.int .i64))])), (3, (.d (.int .i64))), (20, (.d (.sl (.int .i64)))), (21, (.d (.int .i64))), (22, (.d (.int .i64)))] (x1_0, x1_1, x1_2, x3, x20, x21, x22, ()) (startD sg.U ⟨36, [], []⟩ [(1, (.box [.d .str, .d (.sl .str), .d (.sl (.int .i64))])), (3, (.d (.int .i64))), (20, (.d (.sl (.int .i64)))), (21, (.d (.int .i64))), (22, (.d (.int .i64)))])) := by
  rw [mastref2_bundledForm.l0]
  kernel_rfl
theorem mastref2_bundledForm.f_eq (k : Nat) (a0 : T_asset_Bundled) : mastref2_bundledForm.f k a0 = codeK (C := ctx) (mastref2_bundledForm.O k) ⟨36, [], []⟩ (mastref2_bundledForm.L k) (Tryd.f18.body.getD .skip) mastref2_bundledForm.a (endK ctx [.bool] [(.tmp 2)]) (slotsOf sg.U 0 [(.d (.st 0))] (a0, ()) (empty sg.U)) := by
  unfold mastref2_bundledForm.f
  kernel_rfl
def mastref2_bundledForm.e (k : Nat) : Entry sg := entryOf sg [(.d (.st 0))] [.bool] (fun h => mastref2_bundledForm.f k h.1)
def mastref2_bundledForm.T : List (Lb sg (RT sg.U [.bool])) := [⟨0, [(1, (.box [.d .str, .d (.sl .str), .d (.sl (.int .i64))])), (3, (.d (.int .i64))), (20, (.d (.sl (.int .i64)))), (21, (.d (.int .i64))), (22, (.d (.int .i64)))], fun k h => mastref2_bundledForm.l0 k h.1 h.2.1 h.2.2.1 h.2.2.2.1 h.2.2.2.2.1 h.2.2.2.2.2.1 h.2.2.2.2.2.2.1⟩]
theorem mastref2_bundledForm.ok (k : Nat) : (mastref2_bundledForm.e k).Sound Tryd.prog ctx 18 :=
  entry_ok base_ok mo (fn := Tryd.f18) (b := (Tryd.f18.body.getD .skip)) (pm := [(.d (.st 0))]) (rs := [.bool]) (an := mastref2_bundledForm.a) (N := 36) (vars := [(.tmp 2)]) Tryd.func18 (by kernel_rfl) (by kernel_rfl) (by kernel_rfl) (by kernel_rfl) (by kernel_rfl) (by kernel_rfl) (O := mastref2_bundledForm.O)
    (fun k => by unfold mastref2_bundledForm.O; exact oracle_of (P := Tryd.prog) (C := ctx) trivial) mastref2_bundledForm.T ⟨⟨by kernel_rfl, fun _ => by first | rfl | rw [mastref2_bundledForm.l0], fun k h => mastref2_bundledForm.l0_eq k h.1 h.2.1 h.2.2.1 h.2.2.2.1 h.2.2.2.2.1 h.2.2.2.2.2.1 h.2.2.2.2.2.2.1⟩, trivial⟩ k (fun h => mastref2_bundledForm.f_eq k h.1)
def strings_Trim.f (a0 : ByteArray) (a1 : ByteArray) : Option (ByteArray) := if a0.size ≤ 9223372036854775807 ∧ a1.size < 4294967281 ∧ (a1.data.toList.all fun b => decide (b.toNat < 128)) = true then some (⟨(Lib.trimS a0.data.toList a1.data.toList).toArray⟩) else none
def strings_Trim.e : Entry sg := entryOf sg [(.d .str), (.d .str)] [.str] (fun h => strings_Trim.f h.1 h.2.1)
theorem strings_Trim.ok : (strings_Trim.e).Sound Tryd.prog ctx 36 :=
  entry_extern (C := ctx) sg_ok Tryd.func36 (by kernel_rfl) (by kernel_rfl) (by kernel_rfl) (by kernel_rfl) (fun hh x w hx hG => by
    unfold strings_Trim.f at hx
    split at hx
    · rename_i c
      obtain rfl := Option.some.inj hx
      refine (Any.strings_Trim_laid Tryd.lays160 (by kernel_rfl) hh.1 hh.2.1 w c.1 c.2.1 (ascii_of_all c.2.2)).mono ?_
      rintro e w' ⟨rfl, hb⟩
      exact ⟨rfl, by first | exact hb ▸ Grow.refl _ | exact Grow.of_below hb | (obtain ⟨k, os, rfl⟩ := hb; exact Grow.of_below (Lib.below_grow _ w (Nat.le_refl _) k os))⟩
    · cases hx)
def mastref2_IsPart.f (a0 : ByteArray) : Option (Bool) := (bif (bif (bif (bif (!seq a0 c_empty) then (ile (slen a0) 40) else false) then (!seq a0 c__2e) else false) then (!seq a0 c__2e_2e) else false) then ((strings_Trim.f a0 c_abcdefghijklmnopqrst_c1516678).bind fun y1 => (some (seq y1 c_empty))) else (some false))
def mastref2_IsPart.O : Oracle sg := fun n => lkp n [(36, strings_Trim.e)]
def mastref2_IsPart.a : Ann := .z
def mastref2_IsPart.L : Nat → St sg.U → Option (RT sg.U [.bool]) := labs []
theorem mastref2_IsPart.f_eq (a0 : ByteArray) : mastref2_IsPart.f a0 = codeK (C := ctx) (mastref2_IsPart.O) ⟨23, [], []⟩ (mastref2_IsPart.L) (Tryd.f27.body.getD .skip) mastref2_IsPart.a (endK ctx [.bool] [(.tmp 2)]) (slotsOf sg.U 0 [(.d .str)] (a0, ()) (empty sg.U)) := by
  unfold mastref2_IsPart.f
  kernel_rfl
def mastref2_IsPart.e : Entry sg := entryOf sg [(.d .str)] [.bool] (fun h => mastref2_IsPart.f h.1)
def mastref2_IsPart.T : List (Lb sg (RT sg.U [.bool])) := []
theorem mastref2_IsPart.ok : (mastref2_IsPart.e).Sound Tryd.prog ctx 27 :=
  entry_ok base_ok mo (fn := Tryd.f27) (b := (Tryd.f27.body.getD .skip)) (pm := [(.d .str)]) (rs := [.bool]) (an := mastref2_IsPart.a) (N := 23) (vars := [(.tmp 2)]) Tryd.func27 (by kernel_rfl) (by kernel_rfl) (by kernel_rfl) (by kernel_rfl) (by kernel_rfl) (by kernel_rfl) (O := fun _ => mastref2_IsPart.O)
    (fun _ => by unfold mastref2_IsPart.O; exact oracle_of (P := Tryd.prog) (C := ctx) ⟨(strings_Trim.ok), trivial⟩) mastref2_IsPart.T trivial 0 (fun h => mastref2_IsPart.f_eq h.1)
def mastref2_IsPath_c1.f (a0 : ByteArray) : Option (Bool) := ((mastref2_IsPart.f a0).bind fun y1 => (some (!y1)))
def mastref2_IsPath_c1.O : Oracle sg := fun n => lkp n [(27, mastref2_IsPart.e)]
def mastref2_IsPath_c1.a : Ann := .z
def mastref2_IsPath_c1.L : Nat → St sg.U → Option (RT sg.U [.bool]) := labs []
theorem mastref2_IsPath_c1.f_eq (a0 : ByteArray) : mastref2_IsPath_c1.f a0 = codeK (C := ctx) (mastref2_IsPath_c1.O) ⟨6, [], []⟩ (mastref2_IsPath_c1.L) (Tryd.f26.body.getD .skip) mastref2_IsPath_c1.a (endK ctx [.bool] [(.tmp 2)]) (slotsOf sg.U 0 [(.d .str)] (a0, ()) (empty sg.U)) := by
  unfold mastref2_IsPath_c1.f
  kernel_rfl
def mastref2_IsPath_c1.e : Entry sg := entryOf sg [(.d .str)] [.bool] (fun h => mastref2_IsPath_c1.f h.1)
def mastref2_IsPath_c1.T : List (Lb sg (RT sg.U [.bool])) := []
theorem mastref2_IsPath_c1.ok : (mastref2_IsPath_c1.e).Sound Tryd.prog ctx 26 :=
  entry_ok base_ok mo (fn := Tryd.f26) (b := (Tryd.f26.body.getD .skip)) (pm := [(.d .str)]) (rs := [.bool]) (an := mastref2_IsPath_c1.a) (N := 6) (vars := [(.tmp 2)]) Tryd.func26 (by kernel_rfl) (by kernel_rfl) (by kernel_rfl) (by kernel_rfl) (by kernel_rfl) (by kernel_rfl) (O := fun _ => mastref2_IsPath_c1.O)
    (fun _ => by unfold mastref2_IsPath_c1.O; exact oracle_of (P := Tryd.prog) (C := ctx) ⟨(mastref2_IsPart.ok), trivial⟩) mastref2_IsPath_c1.T trivial 0 (fun h => mastref2_IsPath_c1.f_eq h.1)
def slices_IndexFunc_string_string_at_mastref2_IsPath_c1.l0 : Nat → (List ByteArray) → Int → Int → Option (Int)
  | 0, _, _, _ => none
  | k + 1, x0, x7, x8 => (bif (ilt x8 x7) then ((lat x0 x8).bind fun y1 => ((mastref2_IsPath_c1.f y1).bind fun y2 => (bif y2 then (some x8) else (slices_IndexFunc_string_string_at_mastref2_IsPath_c1.l0 k x0 x7 (wadd .i64 x8 1))))) else (some (-1)))
def slices_IndexFunc_string_string_at_mastref2_IsPath_c1.f (k : Nat) (a0 : (List ByteArray)) : Option (Int) := (slices_IndexFunc_string_string_at_mastref2_IsPath_c1.l0 k a0 (llen a0) 0)
def slices_IndexFunc_string_string_at_mastref2_IsPath_c1.O (k : Nat) : Oracle sg := fun n => lkp n [(26, mastref2_IsPath_c1.e)]
def slices_IndexFunc_string_string_at_mastref2_IsPath_c1.a : Ann := (.n .z (.n (.n .z (.lp 0 .z)) .z))
def slices_IndexFunc_string_string_at_mastref2_IsPath_c1.L (k : Nat) : Nat → St sg.U → Option (RT sg.U [(.int .i64)]) := labs [(0, labOf sg [(0, (.d (.sl .str))), (1, (.clo 26 [])), (7, (.d (.int .i64))), (8, (.d (.int .i64)))] (fun h => slices_IndexFunc_string_string_at_mastref2_IsPath_c1.l0 k h.1 h.2.1 h.2.2.1))]
theorem slices_IndexFunc_string_string_at_mastref2_IsPath_c1.l0_eq (k : Nat) (x0 : (List ByteArray)) (x7 : Int) (x8 : Int) : slices_IndexFunc_string_string_at_mastref2_IsPath_c1.l0 (k + 1) x0 x7 x8 = runFrom (C := ctx) (slices_IndexFunc_string_string_at_mastref2_IsPath_c1.O k) ⟨19, [], []⟩ (slices_IndexFunc_string_string_at_mastref2_IsPath_c1.L k) (Tryd.f34.body.getD .skip) slices_IndexFunc_string_string_at_mastref2_IsPath_c1.a 0 (endK ctx [(.int .i64)] [(.tmp 4)]) (encD [(0, (.d (.sl .str))), (1, (.clo 26 [])), (7, (.d (.int .i64))), (8, (.d (.int .i64)))] (x0, x7, x8, ()) (startD sg.U ⟨19, [], []⟩ [(0, (.d (.sl .str))), (1, (.clo 26 [])), (7, (.d (.int .i64))), (8, (.d (.int .i64)))])) := by
  rw [slices_IndexFunc_string_string_at_mastref2_IsPath_c1.l0]
  kernel_rfl
theorem slices_IndexFunc_string_string_at_mastref2_IsPath_c1.f_eq (k : Nat) (a0 : (List ByteArray)) : slices_IndexFunc_string_string_at_mastref2_IsPath_c1.f k a0 = codeK (C := ctx) (slices_IndexFunc_string_string_at_mastref2_IsPath_c1.O k) ⟨19, [], []⟩ (slices_IndexFunc_string_string_at_mastref2_IsPath_c1.L k) (Tryd.f34.body.getD .skip) slices_IndexFunc_string_string_at_mastref2_IsPath_c1.a (endK ctx [(.int .i64)] [(.tmp 4)]) (slotsOf sg.U 0 [(.d (.sl .str)), .fn 26] (a0, ()) (empty sg.U)) := by
  unfold slices_IndexFunc_string_string_at_mastref2_IsPath_c1.f
  kernel_rfl
def slices_IndexFunc_string_string_at_mastref2_IsPath_c1.e (k : Nat) : Entry sg := entryOf sg [(.d (.sl .str)), .fn 26] [(.int .i64)] (fun h => slices_IndexFunc_string_string_at_mastref2_IsPath_c1.f k h.1)
def slices_IndexFunc_string_string_at_mastref2_IsPath_c1.T : List (Lb sg (RT sg.U [(.int .i64)])) := [⟨0, [(0, (.d (.sl .str))), (1, (.clo 26 [])), (7, (.d (.int .i64))), (8, (.d (.int .i64)))], fun k h => slices_IndexFunc_string_string_at_mastref2_IsPath_c1.l0 k h.1 h.2.1 h.2.2.1⟩]
theorem slices_IndexFunc_string_string_at_mastref2_IsPath_c1.ok (k : Nat) : (slices_IndexFunc_string_string_at_mastref2_IsPath_c1.e k).Sound Tryd.prog ctx 34 :=
  entry_ok base_ok mo (fn := Tryd.f34) (b := (Tryd.f34.body.getD .skip)) (pm := [(.d (.sl .str)), .fn 26]) (rs := [(.int .i64)]) (an := slices_IndexFunc_string_string_at_mastref2_IsPath_c1.a) (N := 19) (vars := [(.tmp 4)]) Tryd.func34 (by kernel_rfl) (by kernel_rfl) (by kernel_rfl) (by kernel_rfl) (by kernel_rfl) (by kernel_rfl) (O := slices_IndexFunc_string_string_at_mastref2_IsPath_c1.O)
    (fun k => by unfold slices_IndexFunc_string_string_at_mastref2_IsPath_c1.O; exact oracle_of (P := Tryd.prog) (C := ctx) ⟨(mastref2_IsPath_c1.ok), trivial⟩) slices_IndexFunc_string_string_at_mastref2_IsPath_c1.T ⟨⟨by kernel_rfl, fun _ => by first | rfl | rw [slices_IndexFunc_string_string_at_mastref2_IsPath_c1.l0], fun k h => slices_IndexFunc_string_string_at_mastref2_IsPath_c1.l0_eq k h.1 h.2.1 h.2.2.1⟩, trivial⟩ k (fun h => slices_IndexFunc_string_string_at_mastref2_IsPath_c1.f_eq k h.1)
def slices_ContainsFunc_string_string_at_mastref2_IsPath_c1.f (k : Nat) (a0 : (List ByteArray)) : Option (Bool) := ((slices_IndexFunc_string_string_at_mastref2_IsPath_c1.f k a0).bind fun y1 => (some (ile 0 y1)))
def slices_ContainsFunc_string_string_at_mastref2_IsPath_c1.O (k : Nat) : Oracle sg := fun n => lkp n [(34, slices_IndexFunc_string_string_at_mastref2_IsPath_c1.e k)]
def slices_ContainsFunc_string_string_at_mastref2_IsPath_c1.a : Ann := .z
def slices_ContainsFunc_string_string_at_mastref2_IsPath_c1.L (k : Nat) : Nat → St sg.U → Option (RT sg.U [.bool]) := labs []
theorem slices_ContainsFunc_string_string_at_mastref2_IsPath_c1.f_eq (k : Nat) (a0 : (List ByteArray)) : slices_ContainsFunc_string_string_at_mastref2_IsPath_c1.f k a0 = codeK (C := ctx) (slices_ContainsFunc_string_string_at_mastref2_IsPath_c1.O k) ⟨9, [], []⟩ (slices_ContainsFunc_string_string_at_mastref2_IsPath_c1.L k) (Tryd.f24.body.getD .skip) slices_ContainsFunc_string_string_at_mastref2_IsPath_c1.a (endK ctx [.bool] [(.tmp 4)]) (slotsOf sg.U 0 [(.d (.sl .str)), .fn 26] (a0, ()) (empty sg.U)) := by
  unfold slices_ContainsFunc_string_string_at_mastref2_IsPath_c1.f
  kernel_rfl
def slices_ContainsFunc_string_string_at_mastref2_IsPath_c1.e (k : Nat) : Entry sg := entryOf sg [(.d (.sl .str)), .fn 26] [.bool] (fun h => slices_ContainsFunc_string_string_at_mastref2_IsPath_c1.f k h.1)
def slices_ContainsFunc_string_string_at_mastref2_IsPath_c1.T : List (Lb sg (RT sg.U [.bool])) := []
theorem slices_ContainsFunc_string_string_at_mastref2_IsPath_c1.ok (k : Nat) : (slices_ContainsFunc_string_string_at_mastref2_IsPath_c1.e k).Sound Tryd.prog ctx 24 :=
  entry_ok base_ok mo (fn := Tryd.f24) (b := (Tryd.f24.body.getD .skip)) (pm := [(.d (.sl .str)), .fn 26]) (rs := [.bool]) (an := slices_ContainsFunc_string_string_at_mastref2_IsPath_c1.a) (N := 9) (vars := [(.tmp 4)]) Tryd.func24 (by kernel_rfl) (by kernel_rfl) (by kernel_rfl) (by kernel_rfl) (by kernel_rfl) (by kernel_rfl) (O := slices_ContainsFunc_string_string_at_mastref2_IsPath_c1.O)
    (fun k => by unfold slices_ContainsFunc_string_string_at_mastref2_IsPath_c1.O; exact oracle_of (P := Tryd.prog) (C := ctx) ⟨(slices_IndexFunc_string_string_at_mastref2_IsPath_c1.ok k), trivial⟩) slices_ContainsFunc_string_string_at_mastref2_IsPath_c1.T trivial k (fun h => slices_ContainsFunc_string_string_at_mastref2_IsPath_c1.f_eq k h.1)
def mastref2_IsPath.f (k : Nat) (a0 : ByteArray) : Option (Bool) := (bif (ile (slen a0) 200) then ((strings_Split.f a0 c__2f).bind fun y1 => ((slices_ContainsFunc_string_string_at_mastref2_IsPath_c1.f k y1).bind fun y2 => (some (!y2)))) else (some false))
def mastref2_IsPath.O (k : Nat) : Oracle sg := fun n => lkp n [(24, slices_ContainsFunc_string_string_at_mastref2_IsPath_c1.e k), (25, strings_Split.e)]
def mastref2_IsPath.a : Ann := .z
def mastref2_IsPath.L (k : Nat) : Nat → St sg.U → Option (RT sg.U [.bool]) := labs []
theorem mastref2_IsPath.f_eq (k : Nat) (a0 : ByteArray) : mastref2_IsPath.f k a0 = codeK (C := ctx) (mastref2_IsPath.O k) ⟨12, [], []⟩ (mastref2_IsPath.L k) (Tryd.f19.body.getD .skip) mastref2_IsPath.a (endK ctx [.bool] [(.tmp 2)]) (slotsOf sg.U 0 [(.d .str)] (a0, ()) (empty sg.U)) := by
  unfold mastref2_IsPath.f
  kernel_rfl
def mastref2_IsPath.e (k : Nat) : Entry sg := entryOf sg [(.d .str)] [.bool] (fun h => mastref2_IsPath.f k h.1)
def mastref2_IsPath.T : List (Lb sg (RT sg.U [.bool])) := []
theorem mastref2_IsPath.ok (k : Nat) : (mastref2_IsPath.e k).Sound Tryd.prog ctx 19 :=
  entry_ok base_ok mo (fn := Tryd.f19) (b := (Tryd.f19.body.getD .skip)) (pm := [(.d .str)]) (rs := [.bool]) (an := mastref2_IsPath.a) (N := 12) (vars := [(.tmp 2)]) Tryd.func19 (by kernel_rfl) (by kernel_rfl) (by kernel_rfl) (by kernel_rfl) (by kernel_rfl) (by kernel_rfl) (O := mastref2_IsPath.O)
    (fun k => by unfold mastref2_IsPath.O; exact oracle_of (P := Tryd.prog) (C := ctx) ⟨(slices_ContainsFunc_string_string_at_mastref2_IsPath_c1.ok k), ⟨(strings_Split.ok), trivial⟩⟩) mastref2_IsPath.T trivial k (fun h => mastref2_IsPath.f_eq k h.1)
def slices_Index_string_string.l0 : Nat → (List ByteArray) → ByteArray → Int → Int → Option (Int)
  | 0, _, _, _, _ => none
  | k + 1, x0, x1, x7, x8 => (bif (ilt x8 x7) then ((lat x0 x8).bind fun y1 => (bif (seq x1 y1) then (some x8) else (slices_Index_string_string.l0 k x0 x1 x7 (wadd .i64 x8 1)))) else (some (-1)))
def slices_Index_string_string.f (k : Nat) (a0 : (List ByteArray)) (a1 : ByteArray) : Option (Int) := (slices_Index_string_string.l0 k a0 a1 (llen a0) 0)
def slices_Index_string_string.O (k : Nat) : Oracle sg := fun n => lkp n []
def slices_Index_string_string.a : Ann := (.n .z (.n (.n .z (.lp 0 .z)) .z))
def slices_Index_string_string.L (k : Nat) : Nat → St sg.U → Option (RT sg.U [(.int .i64)]) := labs [(0, labOf sg [(0, (.d (.sl .str))), (1, (.d .str)), (7, (.d (.int .i64))), (8, (.d (.int .i64)))] (fun h => slices_Index_string_string.l0 k h.1 h.2.1 h.2.2.1 h.2.2.2.1))]
theorem slices_Index_string_string.l0_eq (k : Nat) (x0 : (List ByteArray)) (x1 : ByteArray) (x7 : Int) (x8 : Int) : slices_Index_string_string.l0 (k + 1) x0 x1 x7 x8 = runFrom (C := ctx) (slices_Index_string_string.O k) ⟨19, [], []⟩ (slices_Index_string_string.L k) (Tryd.f28.body.getD .skip) slices_Index_string_string.a 0 (endK ctx [(.int .i64)] [(.tmp 4)]) (encD [(0, (.d (.sl .str))), (1, (.d .str)), (7, (.d (.int .i64))), (8, (.d (.int .i64)))] (x0, x1, x7, x8, ()) (startD sg.U ⟨19, [], []⟩ [(0, (.d (.sl .str))), (1, (.d .str)), (7, (.d (.int .i64))), (8, (.d (.int .i64)))])) := by
  rw [slices_Index_string_string.l0]
  kernel_rfl
theorem slices_Index_string_string.f_eq (k : Nat) (a0 : (List ByteArray)) (a1 : ByteArray) : slices_Index_string_string.f k a0 a1 = codeK (C := ctx) (slices_Index_string_string.O k) ⟨19, [], []⟩ (slices_Index_string_string.L k) (Tryd.f28.body.getD .skip) slices_Index_string_string.a (endK ctx [(.int .i64)] [(.tmp 4)]) (slotsOf sg.U 0 [(.d (.sl .str)), (.d .str)] (a0, a1, ()) (empty sg.U)) := by
  unfold slices_Index_string_string.f
  kernel_rfl
def slices_Index_string_string.e (k : Nat) : Entry sg := entryOf sg [(.d (.sl .str)), (.d .str)] [(.int .i64)] (fun h => slices_Index_string_string.f k h.1 h.2.1)
def slices_Index_string_string.T : List (Lb sg (RT sg.U [(.int .i64)])) := [⟨0, [(0, (.d (.sl .str))), (1, (.d .str)), (7, (.d (.int .i64))), (8, (.d (.int .i64)))], fun k h => slices_Index_string_string.l0 k h.1 h.2.1 h.2.2.1 h.2.2.2.1⟩]
theorem slices_Index_string_string.ok (k : Nat) : (slices_Index_string_string.e k).Sound Tryd.prog ctx 28 :=
  entry_ok base_ok mo (fn := Tryd.f28) (b := (Tryd.f28.body.getD .skip)) (pm := [(.d (.sl .str)), (.d .str)]) (rs := [(.int .i64)]) (an := slices_Index_string_string.a) (N := 19) (vars := [(.tmp 4)]) Tryd.func28 (by kernel_rfl) (by kernel_rfl) (by kernel_rfl) (by kernel_rfl) (by kernel_rfl) (by kernel_rfl) (O := slices_Index_string_string.O)
    (fun k => by unfold slices_Index_string_string.O; exact oracle_of (P := Tryd.prog) (C := ctx) trivial) slices_Index_string_string.T ⟨⟨by kernel_rfl, fun _ => by first | rfl | rw [slices_Index_string_string.l0], fun k h => slices_Index_string_string.l0_eq k h.1 h.2.1 h.2.2.1 h.2.2.2.1⟩, trivial⟩ k (fun h => slices_Index_string_string.f_eq k h.1 h.2.1)
def slices_Contains_string_string.f (k : Nat) (a0 : (List ByteArray)) (a1 : ByteArray) : Option (Bool) := ((slices_Index_string_string.f k a0 a1).bind fun y1 => (some (ile 0 y1)))
def slices_Contains_string_string.O (k : Nat) : Oracle sg := fun n => lkp n [(28, slices_Index_string_string.e k)]
def slices_Contains_string_string.a : Ann := .z
def slices_Contains_string_string.L (k : Nat) : Nat → St sg.U → Option (RT sg.U [.bool]) := labs []
theorem slices_Contains_string_string.f_eq (k : Nat) (a0 : (List ByteArray)) (a1 : ByteArray) : slices_Contains_string_string.f k a0 a1 = codeK (C := ctx) (slices_Contains_string_string.O k) ⟨9, [], []⟩ (slices_Contains_string_string.L k) (Tryd.f20.body.getD .skip) slices_Contains_string_string.a (endK ctx [.bool] [(.tmp 4)]) (slotsOf sg.U 0 [(.d (.sl .str)), (.d .str)] (a0, a1, ()) (empty sg.U)) := by
  unfold slices_Contains_string_string.f
  kernel_rfl
def slices_Contains_string_string.e (k : Nat) : Entry sg := entryOf sg [(.d (.sl .str)), (.d .str)] [.bool] (fun h => slices_Contains_string_string.f k h.1 h.2.1)
def slices_Contains_string_string.T : List (Lb sg (RT sg.U [.bool])) := []
theorem slices_Contains_string_string.ok (k : Nat) : (slices_Contains_string_string.e k).Sound Tryd.prog ctx 20 :=
  entry_ok base_ok mo (fn := Tryd.f20) (b := (Tryd.f20.body.getD .skip)) (pm := [(.d (.sl .str)), (.d .str)]) (rs := [.bool]) (an := slices_Contains_string_string.a) (N := 9) (vars := [(.tmp 4)]) Tryd.func20 (by kernel_rfl) (by kernel_rfl) (by kernel_rfl) (by kernel_rfl) (by kernel_rfl) (by kernel_rfl) (O := slices_Contains_string_string.O)
    (fun k => by unfold slices_Contains_string_string.O; exact oracle_of (P := Tryd.prog) (C := ctx) ⟨(slices_Index_string_string.ok k), trivial⟩) slices_Contains_string_string.T trivial k (fun h => slices_Contains_string_string.f_eq k h.1 h.2.1)
def strconv_FormatInt.f (a0 : Int) (a1 : Int) : Option (ByteArray) := if (a1 = 16 ∨ a1 = 32) ∧ 0 ≤ a0 ∧ a0 ≤ 9223372036854775807 then some ⟨(fmtB a1.toNat a0.toNat).toArray⟩ else none
def strconv_FormatInt.e : Entry sg := entryOf sg [(.d (.int .i64)), (.d (.int .i64))] [.str] (fun h => strconv_FormatInt.f h.1 h.2.1)
section
open Go.Shelf Go.RowKit Go.Proofs Go.Sort Go.Lib

theorem pow2_ok (w : World) (b : Int) (hb : b = 16 ∨ b = 32) : Calls Tryd.prog 40 #[.int .i64 b] w fun e w' => e = .returned (.bool true) ∧ w' = w := by
  have mixed : Tryd.prog.follows .mixedOrders = true := by kernel_rfl
  have t_int := Tryd.underlying3; have a_int := Tryd.isAgg3; have z_int := Tryd.sizeOf3; have v_int := Tryd.zeroValue3; have u_int := run_underlying Tryd.underlying3
  have t_bool := Tryd.underlying4; have a_bool := Tryd.isAgg4; have z_bool := Tryd.sizeOf4; have v_bool := Tryd.zeroValue4; have u_bool := run_underlying Tryd.underlying4
  rcases hb with rfl | rfl
  · go_enter Tryd.func40, Tryd.ntmps40
    go_wp2
    go_ret
    exact ⟨by first | rfl | decide, rfl⟩
  · go_enter Tryd.func40, Tryd.ntmps40
    go_wp2
    go_ret
    exact ⟨by first | rfl | decide, rfl⟩
theorem tz_ok (w : World) (x s : Int) (hx : x = 16 ∧ s = 4 ∨ x = 32 ∧ s = 5) (ht : Lib.TabIs Tryd.prog w "math/bits.deBruijn64tab" .u8 (Lib.deBruijn64tab.map Int.ofNat)) : Calls Tryd.prog 54 #[.int .u64 x] w fun e w' => e = .returned (.int .i64 s) ∧ w' = w := by
  have mixed : Tryd.prog.follows .mixedOrders = true := by kernel_rfl
  have t_int := Tryd.underlying3; have a_int := Tryd.isAgg3; have z_int := Tryd.sizeOf3; have v_int := Tryd.zeroValue3; have u_int := run_underlying Tryd.underlying3
  have t_bool := Tryd.underlying4; have a_bool := Tryd.isAgg4; have z_bool := Tryd.sizeOf4; have v_bool := Tryd.zeroValue4; have u_bool := run_underlying Tryd.underlying4
  have t_u8 := Tryd.underlying5; have a_u8 := Tryd.isAgg5; have z_u8 := Tryd.sizeOf5; have v_u8 := Tryd.zeroValue5; have u_u8 := run_underlying Tryd.underlying5
  have t_u64 := Tryd.underlying47; have a_u64 := Tryd.isAgg47; have z_u64 := Tryd.sizeOf47; have v_u64 := Tryd.zeroValue47; have u_u64 := run_underlying Tryd.underlying47
  have t_uint := Tryd.underlying61; have a_uint := Tryd.isAgg61; have z_uint := Tryd.sizeOf61; have v_uint := Tryd.zeroValue61; have u_uint := run_underlying Tryd.underlying61
  have t_tab := Tryd.underlying80; have a_tab := Tryd.isAgg80; have z_tab := Tryd.sizeOf80
  have hc : ∀ i : Nat, i < 64 → w.cell? ⟨2, i, none⟩ = some (.int .u8 ((Lib.deBruijn64tab.map Int.ofNat).getD i 0)) := fun i hi => ht.cell (g := 2) (by kernel_rfl) i hi
  rcases hx with ⟨rfl, rfl⟩ | ⟨rfl, rfl⟩
  · have key : IntKind.u64.wrap (bits BinOp.and IntKind.u64 (16 : Int) (IntKind.u64.wrap (-(16 : Int))) * 285870213051353865) / 288230376151711744 = (15 : Int) := by decide
    have hcell : w.cell? ⟨2, 15, none⟩ = some (.int .u8 4) := hc 15 (by decide)
    clear hc ht
    go_enter Tryd.func54, Tryd.ntmps54
    go_wp2_with (simp only [key])
    go_ret
    exact ⟨rfl, rfl⟩
  · have key : IntKind.u64.wrap (bits BinOp.and IntKind.u64 (32 : Int) (IntKind.u64.wrap (-(32 : Int))) * 285870213051353865) / 288230376151711744 = (31 : Int) := by decide
    have hcell : w.cell? ⟨2, 31, none⟩ = some (.int .u8 5) := hc 31 (by decide)
    clear hc ht
    go_enter Tryd.func54, Tryd.ntmps54
    go_wp2_with (simp only [key])
    go_ret
    exact ⟨rfl, rfl⟩
theorem tz0_ok (w : World) (x s : Int) (hx : x = 16 ∧ s = 4 ∨ x = 32 ∧ s = 5) (ht : Lib.TabIs Tryd.prog w "math/bits.deBruijn64tab" .u8 (Lib.deBruijn64tab.map Int.ofNat)) : Calls Tryd.prog 41 #[.int .u64 x] w fun e w' => e = .returned (.int .i64 s) ∧ w' = w := by
  have mixed : Tryd.prog.follows .mixedOrders = true := by kernel_rfl
  have t_int := Tryd.underlying3; have a_int := Tryd.isAgg3; have z_int := Tryd.sizeOf3; have v_int := Tryd.zeroValue3; have u_int := run_underlying Tryd.underlying3
  have t_bool := Tryd.underlying4; have a_bool := Tryd.isAgg4; have z_bool := Tryd.sizeOf4; have v_bool := Tryd.zeroValue4; have u_bool := run_underlying Tryd.underlying4
  have t_u64 := Tryd.underlying47; have a_u64 := Tryd.isAgg47; have z_u64 := Tryd.sizeOf47; have v_u64 := Tryd.zeroValue47; have u_u64 := run_underlying Tryd.underlying47
  have t_uint := Tryd.underlying61; have a_uint := Tryd.isAgg61; have z_uint := Tryd.sizeOf61; have v_uint := Tryd.zeroValue61; have u_uint := run_underlying Tryd.underlying61
  have e_tz64 : ∀ args w, (callFunc 54 args).run Tryd.prog w = .ok (.enter 54 args) w := enters_of Tryd.func54 (by kernel_rfl) rfl
  have h := tz_ok w x s hx ht
  go_enter Tryd.func41, Tryd.ntmps41
  go_wp2_with (go_at_fn 54; refine h.mono ?_; rintro e w' ⟨rfl, rfl⟩)
  go_ret
  exact ⟨rfl, rfl⟩

set_option maxHeartbeats 4000000 in
theorem bits_ok32 (u : Nat) (hu : u < 18446744073709551616) (w : World) (ht : Lib.TabIs Tryd.prog w "math/bits.deBruijn64tab" .u8 (Lib.deBruijn64tab.map Int.ofNat)) :
    Calls Tryd.prog 32 #[.slice none 0 0, .int .u64 u, .int .i64 32, .bool false, .bool false] w fun e w' => e = .returned (.tuple #[.slice none 0 0, .string ⟨(fmtB 32 u).toArray⟩]) ∧ ∃ k os, w' = grow (w.drewN k) os := by
  have mixed : Tryd.prog.follows .mixedOrders = true := by kernel_rfl
  have t_int := Tryd.underlying3; have a_int := Tryd.isAgg3; have z_int := Tryd.sizeOf3; have v_int := Tryd.zeroValue3; have u_int := run_underlying Tryd.underlying3
  have t_bool := Tryd.underlying4; have a_bool := Tryd.isAgg4; have z_bool := Tryd.sizeOf4; have v_bool := Tryd.zeroValue4; have u_bool := run_underlying Tryd.underlying4
  have t_u8 := Tryd.underlying5; have a_u8 := Tryd.isAgg5; have z_u8 := Tryd.sizeOf5; have v_u8 := Tryd.zeroValue5; have u_u8 := run_underlying Tryd.underlying5
  have t_str := Tryd.underlying9; have a_str := Tryd.isAgg9; have z_str := Tryd.sizeOf9; have v_str := Tryd.zeroValue9; have u_str := run_underlying Tryd.underlying9
  have t_bytes := Tryd.underlying35; have a_bytes := Tryd.isAgg35; have z_bytes := Tryd.sizeOf35; have v_bytes := Tryd.zeroValue35; have u_bytes := run_underlying Tryd.underlying35
  have t_u64 := Tryd.underlying47; have a_u64 := Tryd.isAgg47; have z_u64 := Tryd.sizeOf47; have v_u64 := Tryd.zeroValue47; have u_u64 := run_underlying Tryd.underlying47
  have t_arr := Tryd.underlying60; have a_arr := Tryd.isAgg60; have z_arr := Tryd.sizeOf60; have v_arr := Tryd.zeroValue60; have u_arr := run_underlying Tryd.underlying60
  have t_uint := Tryd.underlying61; have a_uint := Tryd.isAgg61; have z_uint := Tryd.sizeOf61; have v_uint := Tryd.zeroValue61; have u_uint := run_underlying Tryd.underlying61
  have e_pow : ∀ args w, (callFunc 40 args).run Tryd.prog w = .ok (.enter 40 args) w := enters_of Tryd.func40 (by kernel_rfl) rfl
  have e_tz : ∀ args w, (callFunc 41 args).run Tryd.prog w = .ok (.enter 41 args) w := enters_of Tryd.func41 (by kernel_rfl) rfl
  go_enter Tryd.func32, Tryd.ntmps32
  go_name_bytes MSG hMSG
  go_name_bytes SM hSM
  have eSM : SM = Lib.digits36 := by rw [← hSM]; decide +kernel
  subst eSM
  clear hSM hMSG
  go_wp2_with (first
    | (go_at_fn 40; refine (pow2_ok _ 32 (by simp)).mono ?_; rintro e w' ⟨rfl, rfl⟩)
    | (go_at_fn 41; refine (tz0_ok _ 32 5 (by simp) (Lib.tabIs_alloc ht _)).mono ?_; rintro e w' ⟨rfl, rfl⟩))
  have hal : Tryd.prog.arrayLen 60 = 65 := by simp [Program.arrayLen, Tryd.underlying60]
  generalize hW : w.alloc _ = W at *
  have zc : Tryd.zeroCells60 = Array.replicate 65 (.int .u8 0) := by kernel_rfl
  have hH : Holds (fun (b : UInt8) => Value.int .u8 (b.toNat : Int)) W w.heap.size 0 (Array.replicate 65 (0 : UInt8)) := fun j hj => by
    have hj' : j < 65 := by simpa using hj
    rw [← hW]
    refine ⟨?_, World.frozen?_alloc_new _ _ _ _⟩
    rw [World.cell?_alloc_new, zc, getElem!_pos _ j hj]
    simp [hj']
  go_loopw [1, 13] (fun vu vi wr => ∃ (i v n : Nat) (dk : Array UInt8), vu = .int .u64 v ∧ vi = .int .i64 i ∧ wr = (putRow (fun (b : UInt8) => Value.int .u8 (b.toNat : Int)) W w.heap.size 0 dk).drewN n ∧ Hid (BitsInv 32 u i v dk)) (fun vu _ _ => (RowKit.intOf vu).toNat)
  case atStart => exact ⟨65, u, 0, Array.replicate 65 0, rfl, rfl, (putRow_self _ _ _ _ _ hH).symm, Lib.hid (BitsInv.start hu)⟩
  case round =>
    obtain ⟨i, v, n, dk0, rfl, rfl, hw0, HI0⟩ := hrel
    rename World => W0
    have AH := Lib.hid hH
    clear hH
    have hs0 := HI0.out.size
    have hi65 := HI0.out.le
    have hi1 := HI0.out.pos
    have hH0 : Holds (fun (b : UInt8) => Value.int .u8 (b.toNat : Int)) W0 w.heap.size 0 dk0 := by rw [hw0]; exact holds_putRow _ W w.heap.size 0 _ dk0 AH.out (by simpa using hs0)
    obtain ⟨G0, hG0⟩ : ∃ G : Nat → Int, ∀ t, G t = (dk0[t]!.toNat : Int) := ⟨_, fun _ => rfl⟩
    have hc0 : ∀ t, t < 65 → W0.cell? ⟨w.heap.size, t, none⟩ = some (.int .u8 (G0 t)) := fun t ht => by rw [hG0]; have := (hH0 t (by omega)).1; rwa [Nat.zero_add] at this
    have hf0 : ∀ t, t < 65 → W0.frozen? ⟨w.heap.size, t, none⟩ = false := fun t ht => by have := (hH0 t (by omega)).2; rwa [Nat.zero_add] at this
    obtain ⟨m, rfl⟩ : ∃ m, i = m + 1 := ⟨i - 1, by omega⟩
    have hcm := hc0 m (by omega)
    have hfm := hf0 m (by omega)
    clear hc0 hf0
    have AW0 := Lib.hid hw0
    clear hw0 hG0 hH0
    by_cases hv : 32 ≤ v
    · have hi6 := HI0.out.room (by omega)
      have key : bits BinOp.and IntKind.u64 (v : Int) 31 = ((v % 32 : Nat) : Int) := by
        have hv64 : v < 18446744073709551616 := Nat.lt_of_lt_of_le HI0.out.small (show 2 ^ m ≤ 2 ^ 64 from Nat.pow_le_pow_right (by decide) (by omega))
        rw [show (31 : Int) = ((31 : Nat) : Int) from rfl, bits_and_u64_nat v 31 hv64 (by decide), Nat.and_two_pow_sub_one_eq_mod v 5]
      have hin : 0 ≤ (v : Int) % 32 ∧ (v : Int) % 32 < (Lib.digits36.size : Int) := by rw [Lib.digits36_size]; omega
      go_wp2_with (simp only [key])
      refine ⟨⟨m, v / 32, n, dk0.setIfInBounds m (dig36 (v % 32)), by simp, rfl, ?_, Lib.hid (by have := HI0.out.step (by omega) hv; simpa using this)⟩, ?_⟩
      · have := store1_world W w.heap.size 0 dk0 n m (dig36 (v % 32)) (by omega)
        rw [Nat.zero_add] at this
        rw [AW0.out, ← this, dig36_at _ (by rw [Lib.digits36_size]; omega)]
      · simp only [RowKit.intOf]
        omega
    · have hin : 0 ≤ (v : Int) ∧ (v : Int) < (Lib.digits36.size : Int) := by rw [Lib.digits36_size]; omega
      have hsl : ∀ W, (Instr.sliceAt 60 (.pointer (some ⟨w.heap.size, 0, none⟩)) (some (.int .i64 (m : Int))) none none).run Tryd.prog W = .ok (.slice (some ⟨w.heap.size, m, none⟩) (65 - m) (65 - m)) W := fun W => by
        rw [run_sliceAt_array_l W 60 ⟨w.heap.size, 0, none⟩ (by simp [Program.arrayLen, Program.elem, Tryd.underlying60]) .i64 (m : Int) (by omega) (by rw [hal]; omega)]
        go_simp
        omega
      have hv36 : v < Lib.digits36.size := by rw [Lib.digits36_size]; omega
      have hdk : dig36 v = Lib.digits36[v] := dig36_at v hv36
      have hst : W0.setCell ⟨w.heap.size, m, none⟩ (.int .u8 (Lib.digits36[v].toNat : Int)) = (putRow (fun (b : UInt8) => Value.int .u8 (b.toNat : Int)) W w.heap.size 0 (dk0.setIfInBounds m (dig36 v))).drewN n := by
        have := store1_world W w.heap.size 0 dk0 n m (dig36 v) (by omega)
        rw [Nat.zero_add] at this
        rw [AW0.out, ← this, hdk]
      have hlast := HI0.out.last (by omega)
      rw [Nat.add_sub_cancel] at hlast
      have hlen : (fmtB 32 u).length = 65 - m := by rw [← hlast, List.length_drop, Array.length_toList, Array.size_setIfInBounds, hs0]
      have hcv : (convert 35 9 (.slice (some ⟨w.heap.size, m, none⟩) (65 - m) (65 - m))).run Tryd.prog (W0.setCell ⟨w.heap.size, m, none⟩ (.int .u8 (Lib.digits36[v].toNat : Int))) = .ok (.string ⟨(fmtB 32 u).toArray⟩) (W0.setCell ⟨w.heap.size, m, none⟩ (.int .u8 (Lib.digits36[v].toNat : Int))) := by
        have h := run_convert_bytes_back (P := Tryd.prog) (W0.setCell ⟨w.heap.size, m, none⟩ (.int .u8 (Lib.digits36[v].toNat : Int))) 35 9 5 ⟨w.heap.size, m, none⟩ (65 - m) (fmtB 32 u) Tryd.underlying35 Tryd.underlying5 Tryd.underlying9 (fun j hj => by
          rw [hst, Lib.add_plain, World.cell?_drewN]
          have := cell?_putRow (fun (b : UInt8) => Value.int .u8 (b.toNat : Int)) W w.heap.size 0 _ (dk0.setIfInBounds m (dig36 v)) AH.out (by simp [hs0]) (m + j) (by rw [Array.size_setIfInBounds, hs0]; omega)
          rw [Nat.zero_add] at this
          rw [this]
          have e : (fmtB 32 u)[j] = (dk0.setIfInBounds m (dig36 v))[m + j]! := by
            have hmj : m + j < (dk0.setIfInBounds m (dig36 v)).size := by rw [Array.size_setIfInBounds, hs0]; omega
            rw [getElem!_pos (dk0.setIfInBounds m (dig36 v)) (m + j) hmj]
            simp only [← hlast, List.getElem_drop, Array.getElem_toList]
          rw [e])
        rw [hlen] at h
        exact h
      have HST := Lib.hid hst
      clear hst hdk hlast hlen
      go_wp2
      go_ret2
      rw [HST.out]
      refine ⟨rfl, ?_⟩
      rw [← hW]
      obtain ⟨os, eo⟩ := fin_row w (.cells Tryd.zeroCells60 60) (dk0.setIfInBounds m (dig36 v)) n
      exact ⟨n, os, eo⟩

set_option maxHeartbeats 4000000 in
theorem bits_ok16 (u : Nat) (hu : u < 18446744073709551616) (w : World) (ht : Lib.TabIs Tryd.prog w "math/bits.deBruijn64tab" .u8 (Lib.deBruijn64tab.map Int.ofNat)) :
    Calls Tryd.prog 32 #[.slice none 0 0, .int .u64 u, .int .i64 16, .bool false, .bool false] w fun e w' => e = .returned (.tuple #[.slice none 0 0, .string ⟨(fmtB 16 u).toArray⟩]) ∧ ∃ k os, w' = grow (w.drewN k) os := by
  have mixed : Tryd.prog.follows .mixedOrders = true := by kernel_rfl
  have t_int := Tryd.underlying3; have a_int := Tryd.isAgg3; have z_int := Tryd.sizeOf3; have v_int := Tryd.zeroValue3; have u_int := run_underlying Tryd.underlying3
  have t_bool := Tryd.underlying4; have a_bool := Tryd.isAgg4; have z_bool := Tryd.sizeOf4; have v_bool := Tryd.zeroValue4; have u_bool := run_underlying Tryd.underlying4
  have t_u8 := Tryd.underlying5; have a_u8 := Tryd.isAgg5; have z_u8 := Tryd.sizeOf5; have v_u8 := Tryd.zeroValue5; have u_u8 := run_underlying Tryd.underlying5
  have t_str := Tryd.underlying9; have a_str := Tryd.isAgg9; have z_str := Tryd.sizeOf9; have v_str := Tryd.zeroValue9; have u_str := run_underlying Tryd.underlying9
  have t_bytes := Tryd.underlying35; have a_bytes := Tryd.isAgg35; have z_bytes := Tryd.sizeOf35; have v_bytes := Tryd.zeroValue35; have u_bytes := run_underlying Tryd.underlying35
  have t_u64 := Tryd.underlying47; have a_u64 := Tryd.isAgg47; have z_u64 := Tryd.sizeOf47; have v_u64 := Tryd.zeroValue47; have u_u64 := run_underlying Tryd.underlying47
  have t_arr := Tryd.underlying60; have a_arr := Tryd.isAgg60; have z_arr := Tryd.sizeOf60; have v_arr := Tryd.zeroValue60; have u_arr := run_underlying Tryd.underlying60
  have t_uint := Tryd.underlying61; have a_uint := Tryd.isAgg61; have z_uint := Tryd.sizeOf61; have v_uint := Tryd.zeroValue61; have u_uint := run_underlying Tryd.underlying61
  have e_pow : ∀ args w, (callFunc 40 args).run Tryd.prog w = .ok (.enter 40 args) w := enters_of Tryd.func40 (by kernel_rfl) rfl
  have e_tz : ∀ args w, (callFunc 41 args).run Tryd.prog w = .ok (.enter 41 args) w := enters_of Tryd.func41 (by kernel_rfl) rfl
  go_enter Tryd.func32, Tryd.ntmps32
  go_name_bytes MSG hMSG
  go_name_bytes SM hSM
  have eSM : SM = Lib.digits36 := by rw [← hSM]; decide +kernel
  subst eSM
  clear hSM hMSG
  go_wp2_with (first
    | (go_at_fn 40; refine (pow2_ok _ 16 (by simp)).mono ?_; rintro e w' ⟨rfl, rfl⟩)
    | (go_at_fn 41; refine (tz0_ok _ 16 4 (by simp) (Lib.tabIs_alloc ht _)).mono ?_; rintro e w' ⟨rfl, rfl⟩))
  have hal : Tryd.prog.arrayLen 60 = 65 := by simp [Program.arrayLen, Tryd.underlying60]
  generalize hW : w.alloc _ = W at *
  have zc : Tryd.zeroCells60 = Array.replicate 65 (.int .u8 0) := by kernel_rfl
  have hH : Holds (fun (b : UInt8) => Value.int .u8 (b.toNat : Int)) W w.heap.size 0 (Array.replicate 65 (0 : UInt8)) := fun j hj => by
    have hj' : j < 65 := by simpa using hj
    rw [← hW]
    refine ⟨?_, World.frozen?_alloc_new _ _ _ _⟩
    rw [World.cell?_alloc_new, zc, getElem!_pos _ j hj]
    simp [hj']
  go_loopw [1, 13] (fun vu vi wr => ∃ (i v n : Nat) (dk : Array UInt8), vu = .int .u64 v ∧ vi = .int .i64 i ∧ wr = (putRow (fun (b : UInt8) => Value.int .u8 (b.toNat : Int)) W w.heap.size 0 dk).drewN n ∧ Hid (BitsInv 16 u i v dk)) (fun vu _ _ => (RowKit.intOf vu).toNat)
  case atStart => exact ⟨65, u, 0, Array.replicate 65 0, rfl, rfl, (putRow_self _ _ _ _ _ hH).symm, Lib.hid (BitsInv.start hu)⟩
  case round =>
    obtain ⟨i, v, n, dk0, rfl, rfl, hw0, HI0⟩ := hrel
    rename World => W0
    have AH := Lib.hid hH
    clear hH
    have hs0 := HI0.out.size
    have hi65 := HI0.out.le
    have hi1 := HI0.out.pos
    have hH0 : Holds (fun (b : UInt8) => Value.int .u8 (b.toNat : Int)) W0 w.heap.size 0 dk0 := by rw [hw0]; exact holds_putRow _ W w.heap.size 0 _ dk0 AH.out (by simpa using hs0)
    obtain ⟨G0, hG0⟩ : ∃ G : Nat → Int, ∀ t, G t = (dk0[t]!.toNat : Int) := ⟨_, fun _ => rfl⟩
    have hc0 : ∀ t, t < 65 → W0.cell? ⟨w.heap.size, t, none⟩ = some (.int .u8 (G0 t)) := fun t ht => by rw [hG0]; have := (hH0 t (by omega)).1; rwa [Nat.zero_add] at this
    have hf0 : ∀ t, t < 65 → W0.frozen? ⟨w.heap.size, t, none⟩ = false := fun t ht => by have := (hH0 t (by omega)).2; rwa [Nat.zero_add] at this
    obtain ⟨m, rfl⟩ : ∃ m, i = m + 1 := ⟨i - 1, by omega⟩
    have hcm := hc0 m (by omega)
    have hfm := hf0 m (by omega)
    clear hc0 hf0
    have AW0 := Lib.hid hw0
    clear hw0 hG0 hH0
    by_cases hv : 16 ≤ v
    · have hi6 := HI0.out.room (by omega)
      have key : bits BinOp.and IntKind.u64 (v : Int) 15 = ((v % 16 : Nat) : Int) := by
        have hv64 : v < 18446744073709551616 := Nat.lt_of_lt_of_le HI0.out.small (show 2 ^ m ≤ 2 ^ 64 from Nat.pow_le_pow_right (by decide) (by omega))
        rw [show (15 : Int) = ((15 : Nat) : Int) from rfl, bits_and_u64_nat v 15 hv64 (by decide), Nat.and_two_pow_sub_one_eq_mod v 4]
      have hin : 0 ≤ (v : Int) % 16 ∧ (v : Int) % 16 < (Lib.digits36.size : Int) := by rw [Lib.digits36_size]; omega
      go_wp2_with (simp only [key])
      refine ⟨⟨m, v / 16, n, dk0.setIfInBounds m (dig36 (v % 16)), by simp, rfl, ?_, Lib.hid (by have := HI0.out.step (by omega) hv; simpa using this)⟩, ?_⟩
      · have := store1_world W w.heap.size 0 dk0 n m (dig36 (v % 16)) (by omega)
        rw [Nat.zero_add] at this
        rw [AW0.out, ← this, dig36_at _ (by rw [Lib.digits36_size]; omega)]
      · simp only [RowKit.intOf]
        omega
    · have hin : 0 ≤ (v : Int) ∧ (v : Int) < (Lib.digits36.size : Int) := by rw [Lib.digits36_size]; omega
      have hsl : ∀ W, (Instr.sliceAt 60 (.pointer (some ⟨w.heap.size, 0, none⟩)) (some (.int .i64 (m : Int))) none none).run Tryd.prog W = .ok (.slice (some ⟨w.heap.size, m, none⟩) (65 - m) (65 - m)) W := fun W => by
        rw [run_sliceAt_array_l W 60 ⟨w.heap.size, 0, none⟩ (by simp [Program.arrayLen, Program.elem, Tryd.underlying60]) .i64 (m : Int) (by omega) (by rw [hal]; omega)]
        go_simp
        omega
      have hv36 : v < Lib.digits36.size := by rw [Lib.digits36_size]; omega
      have hdk : dig36 v = Lib.digits36[v] := dig36_at v hv36
      have hst : W0.setCell ⟨w.heap.size, m, none⟩ (.int .u8 (Lib.digits36[v].toNat : Int)) = (putRow (fun (b : UInt8) => Value.int .u8 (b.toNat : Int)) W w.heap.size 0 (dk0.setIfInBounds m (dig36 v))).drewN n := by
        have := store1_world W w.heap.size 0 dk0 n m (dig36 v) (by omega)
        rw [Nat.zero_add] at this
        rw [AW0.out, ← this, hdk]
      have hlast := HI0.out.last (by omega)
      rw [Nat.add_sub_cancel] at hlast
      have hlen : (fmtB 16 u).length = 65 - m := by rw [← hlast, List.length_drop, Array.length_toList, Array.size_setIfInBounds, hs0]
      have hcv : (convert 35 9 (.slice (some ⟨w.heap.size, m, none⟩) (65 - m) (65 - m))).run Tryd.prog (W0.setCell ⟨w.heap.size, m, none⟩ (.int .u8 (Lib.digits36[v].toNat : Int))) = .ok (.string ⟨(fmtB 16 u).toArray⟩) (W0.setCell ⟨w.heap.size, m, none⟩ (.int .u8 (Lib.digits36[v].toNat : Int))) := by
        have h := run_convert_bytes_back (P := Tryd.prog) (W0.setCell ⟨w.heap.size, m, none⟩ (.int .u8 (Lib.digits36[v].toNat : Int))) 35 9 5 ⟨w.heap.size, m, none⟩ (65 - m) (fmtB 16 u) Tryd.underlying35 Tryd.underlying5 Tryd.underlying9 (fun j hj => by
          rw [hst, Lib.add_plain, World.cell?_drewN]
          have := cell?_putRow (fun (b : UInt8) => Value.int .u8 (b.toNat : Int)) W w.heap.size 0 _ (dk0.setIfInBounds m (dig36 v)) AH.out (by simp [hs0]) (m + j) (by rw [Array.size_setIfInBounds, hs0]; omega)
          rw [Nat.zero_add] at this
          rw [this]
          have e : (fmtB 16 u)[j] = (dk0.setIfInBounds m (dig36 v))[m + j]! := by
            have hmj : m + j < (dk0.setIfInBounds m (dig36 v)).size := by rw [Array.size_setIfInBounds, hs0]; omega
            rw [getElem!_pos (dk0.setIfInBounds m (dig36 v)) (m + j) hmj]
            simp only [← hlast, List.getElem_drop, Array.getElem_toList]
          rw [e])
        rw [hlen] at h
        exact h
      have HST := Lib.hid hst
      clear hst hdk hlast hlen
      go_wp2
      go_ret2
      rw [HST.out]
      refine ⟨rfl, ?_⟩
      rw [← hW]
      obtain ⟨os, eo⟩ := fin_row w (.cells Tryd.zeroCells60 60) (dk0.setIfInBounds m (dig36 v)) n
      exact ⟨n, os, eo⟩

theorem fmti_ok32 (n : Int) (h0 : 0 ≤ n) (h1 : n ≤ 9223372036854775807) (w : World) (ht : Lib.TabIs Tryd.prog w "math/bits.deBruijn64tab" .u8 (Lib.deBruijn64tab.map Int.ofNat)) :
    Calls Tryd.prog 22 #[.int .i64 n, .int .i64 32] w fun e w' => e = .returned (.string ⟨(fmtB 32 n.toNat).toArray⟩) ∧ ∃ k os, w' = grow (w.drewN k) os := by
  have mixed : Tryd.prog.follows .mixedOrders = true := by kernel_rfl
  have t_i64 := Tryd.underlying2; have a_i64 := Tryd.isAgg2; have z_i64 := Tryd.sizeOf2; have v_i64 := Tryd.zeroValue2; have u_i64 := run_underlying Tryd.underlying2
  have t_int := Tryd.underlying3; have a_int := Tryd.isAgg3; have z_int := Tryd.sizeOf3; have v_int := Tryd.zeroValue3; have u_int := run_underlying Tryd.underlying3
  have t_bool := Tryd.underlying4; have a_bool := Tryd.isAgg4; have z_bool := Tryd.sizeOf4; have v_bool := Tryd.zeroValue4; have u_bool := run_underlying Tryd.underlying4
  have t_str := Tryd.underlying9; have a_str := Tryd.isAgg9; have z_str := Tryd.sizeOf9; have v_str := Tryd.zeroValue9; have u_str := run_underlying Tryd.underlying9
  have t_bytes := Tryd.underlying35; have a_bytes := Tryd.isAgg35; have z_bytes := Tryd.sizeOf35; have v_bytes := Tryd.zeroValue35; have u_bytes := run_underlying Tryd.underlying35
  have t_u64 := Tryd.underlying47; have a_u64 := Tryd.isAgg47; have z_u64 := Tryd.sizeOf47; have v_u64 := Tryd.zeroValue47; have u_u64 := run_underlying Tryd.underlying47
  have e_bits : ∀ args w, (callFunc 32 args).run Tryd.prog w = .ok (.enter 32 args) w := enters_of Tryd.func32 (by kernel_rfl) rfl
  obtain ⟨u, rfl⟩ : ∃ u : Nat, n = u := ⟨n.toNat, by omega⟩
  have hu : u < 18446744073709551616 := by omega
  have h := bits_ok32 u hu w ht
  rw [Int.toNat_natCast]
  go_enter Tryd.func22, Tryd.ntmps22
  go_wp2_with (go_at_fn 32; refine h.mono ?_; rintro e w' ⟨rfl, k, os, rfl⟩)
  go_ret
  exact ⟨rfl, k, os, rfl⟩
theorem fmt_ok32 (n : Int) (h0 : 0 ≤ n) (h1 : n ≤ 9223372036854775807) (w : World) (ht : Lib.TabIs Tryd.prog w "math/bits.deBruijn64tab" .u8 (Lib.deBruijn64tab.map Int.ofNat)) :
    Calls Tryd.prog 12 #[.int .i64 n, .int .i64 32] w fun e w' => e = .returned (.string ⟨(fmtB 32 n.toNat).toArray⟩) ∧ ∃ k os, w' = grow (w.drewN k) os := by
  have mixed : Tryd.prog.follows .mixedOrders = true := by kernel_rfl
  have t_i64 := Tryd.underlying2; have a_i64 := Tryd.isAgg2; have z_i64 := Tryd.sizeOf2; have v_i64 := Tryd.zeroValue2; have u_i64 := run_underlying Tryd.underlying2
  have t_int := Tryd.underlying3; have a_int := Tryd.isAgg3; have z_int := Tryd.sizeOf3; have v_int := Tryd.zeroValue3; have u_int := run_underlying Tryd.underlying3
  have t_str := Tryd.underlying9; have a_str := Tryd.isAgg9; have z_str := Tryd.sizeOf9; have v_str := Tryd.zeroValue9; have u_str := run_underlying Tryd.underlying9
  have e_fint : ∀ args w, (callFunc 22 args).run Tryd.prog w = .ok (.enter 22 args) w := enters_of Tryd.func22 (by kernel_rfl) rfl
  have h := fmti_ok32 n h0 h1 w ht
  go_enter Tryd.func12, Tryd.ntmps12
  go_wp2_with (go_at_fn 22; refine h.mono ?_; rintro e w' ⟨rfl, k, os, rfl⟩)
  go_ret
  exact ⟨rfl, k, os, rfl⟩

theorem fmti_ok16 (n : Int) (h0 : 0 ≤ n) (h1 : n ≤ 9223372036854775807) (w : World) (ht : Lib.TabIs Tryd.prog w "math/bits.deBruijn64tab" .u8 (Lib.deBruijn64tab.map Int.ofNat)) :
    Calls Tryd.prog 22 #[.int .i64 n, .int .i64 16] w fun e w' => e = .returned (.string ⟨(fmtB 16 n.toNat).toArray⟩) ∧ ∃ k os, w' = grow (w.drewN k) os := by
  have mixed : Tryd.prog.follows .mixedOrders = true := by kernel_rfl
  have t_i64 := Tryd.underlying2; have a_i64 := Tryd.isAgg2; have z_i64 := Tryd.sizeOf2; have v_i64 := Tryd.zeroValue2; have u_i64 := run_underlying Tryd.underlying2
  have t_int := Tryd.underlying3; have a_int := Tryd.isAgg3; have z_int := Tryd.sizeOf3; have v_int := Tryd.zeroValue3; have u_int := run_underlying Tryd.underlying3
  have t_bool := Tryd.underlying4; have a_bool := Tryd.isAgg4; have z_bool := Tryd.sizeOf4; have v_bool := Tryd.zeroValue4; have u_bool := run_underlying Tryd.underlying4
  have t_str := Tryd.underlying9; have a_str := Tryd.isAgg9; have z_str := Tryd.sizeOf9; have v_str := Tryd.zeroValue9; have u_str := run_underlying Tryd.underlying9
  have t_bytes := Tryd.underlying35; have a_bytes := Tryd.isAgg35; have z_bytes := Tryd.sizeOf35; have v_bytes := Tryd.zeroValue35; have u_bytes := run_underlying Tryd.underlying35
  have t_u64 := Tryd.underlying47; have a_u64 := Tryd.isAgg47; have z_u64 := Tryd.sizeOf47; have v_u64 := Tryd.zeroValue47; have u_u64 := run_underlying Tryd.underlying47
  have e_bits : ∀ args w, (callFunc 32 args).run Tryd.prog w = .ok (.enter 32 args) w := enters_of Tryd.func32 (by kernel_rfl) rfl
  obtain ⟨u, rfl⟩ : ∃ u : Nat, n = u := ⟨n.toNat, by omega⟩
  have hu : u < 18446744073709551616 := by omega
  have h := bits_ok16 u hu w ht
  rw [Int.toNat_natCast]
  go_enter Tryd.func22, Tryd.ntmps22
  go_wp2_with (go_at_fn 32; refine h.mono ?_; rintro e w' ⟨rfl, k, os, rfl⟩)
  go_ret
  exact ⟨rfl, k, os, rfl⟩
theorem fmt_ok16 (n : Int) (h0 : 0 ≤ n) (h1 : n ≤ 9223372036854775807) (w : World) (ht : Lib.TabIs Tryd.prog w "math/bits.deBruijn64tab" .u8 (Lib.deBruijn64tab.map Int.ofNat)) :
    Calls Tryd.prog 12 #[.int .i64 n, .int .i64 16] w fun e w' => e = .returned (.string ⟨(fmtB 16 n.toNat).toArray⟩) ∧ ∃ k os, w' = grow (w.drewN k) os := by
  have mixed : Tryd.prog.follows .mixedOrders = true := by kernel_rfl
  have t_i64 := Tryd.underlying2; have a_i64 := Tryd.isAgg2; have z_i64 := Tryd.sizeOf2; have v_i64 := Tryd.zeroValue2; have u_i64 := run_underlying Tryd.underlying2
  have t_int := Tryd.underlying3; have a_int := Tryd.isAgg3; have z_int := Tryd.sizeOf3; have v_int := Tryd.zeroValue3; have u_int := run_underlying Tryd.underlying3
  have t_str := Tryd.underlying9; have a_str := Tryd.isAgg9; have z_str := Tryd.sizeOf9; have v_str := Tryd.zeroValue9; have u_str := run_underlying Tryd.underlying9
  have e_fint : ∀ args w, (callFunc 22 args).run Tryd.prog w = .ok (.enter 22 args) w := enters_of Tryd.func22 (by kernel_rfl) rfl
  have h := fmti_ok16 n h0 h1 w ht
  go_enter Tryd.func12, Tryd.ntmps12
  go_wp2_with (go_at_fn 22; refine h.mono ?_; rintro e w' ⟨rfl, k, os, rfl⟩)
  go_ret
  exact ⟨rfl, k, os, rfl⟩
end
theorem strconv_FormatInt.ok : (strconv_FormatInt.e).Sound Tryd.prog ctx 12 :=
  entry_extern (C := ctx) sg_ok Tryd.func12 (by kernel_rfl) (by kernel_rfl) (by kernel_rfl) (by kernel_rfl) (fun hh x w hx hG => by
    unfold strconv_FormatInt.f at hx
    split at hx
    · rename_i c
      obtain rfl := Option.some.inj hx
      have htab : Lib.TabIs Tryd.prog w "math/bits.deBruijn64tab" .u8 (Lib.deBruijn64tab.map Int.ofNat) := var_of (k := 2) (by kernel_rfl) (hG 2 (by simp [ctx, sg])) rfl
      obtain ⟨a0, a1, u⟩ := hh
      obtain ⟨c1, c2, c3⟩ := c
      rcases c1 with e | e
      · have e : a1 = 16 := e
        subst e
        refine (fmt_ok16 a0 c2 c3 w htab).mono ?_
        rintro e w' ⟨rfl, k, os, rfl⟩
        exact ⟨rfl, Grow.of_below (Lib.below_grow _ w (Nat.le_refl _) k os)⟩
      · have e : a1 = 32 := e
        subst e
        refine (fmt_ok32 a0 c2 c3 w htab).mono ?_
        rintro e w' ⟨rfl, k, os, rfl⟩
        exact ⟨rfl, Grow.of_below (Lib.below_grow _ w (Nat.le_refl _) k os)⟩
    · cases hx)
def mastref2_MapStringOf.l0 : Nat → ByteArray → (List ByteArray) → (List Int) → ByteArray → Int → (List ByteArray) → Int → Int → Option (ByteArray × Int)
  | 0, _, _, _, _, _, _, _, _ => none
  | k + 1, x1_0, x1_1, x1_2, x4, x5, x16, x17, x18 => (bif (ilt x18 x17) then ((lat x16 x18).bind fun y2 => ((mastref2_IsPath.f k y2).bind fun y3 => (bif (!y3) then (some (c_empty, 3)) else ((lsub x1_1 0 x18).bind fun y4 => ((slices_Contains_string_string.f k y4 y2).bind fun y5 => (bif y5 then (some (c_empty, 6)) else ((scat y2 c__20).bind fun y6 => ((lat x1_2 x18).bind fun y7 => ((strconv_FormatInt.f (wsub .i64 y7 x5) 32).bind fun y8 => ((scat y6 y8).bind fun y9 => ((scat y9 c__0a).bind fun y10 => ((scat x4 y10).bind fun y11 => ((lat x1_2 x18).bind fun y12 => (mastref2_MapStringOf.l0 k x1_0 x1_1 x1_2 y11 y12 x16 x17 (wadd .i64 x18 1))))))))))))))) else (some (x4, 0)))
def mastref2_MapStringOf.f (k : Nat) (a0 : T_asset_Bundled) : Option (ByteArray × Int) := (bif (ilt 200000 (slen a0.fBody)) then (some (c_empty, 4)) else ((mastref2_bundledForm.f k a0).bind fun y1 => (bif (!y1) then (some (c_empty, 1)) else (mastref2_MapStringOf.l0 k a0.fBody a0.fParts a0.fEnds c_empty 0 a0.fParts (llen a0.fParts) 0))))
def mastref2_MapStringOf.O (k : Nat) : Oracle sg := fun n => lkp n [(12, strconv_FormatInt.e), (18, mastref2_bundledForm.e k), (19, mastref2_IsPath.e k), (20, slices_Contains_string_string.e k)]
def mastref2_MapStringOf.a : Ann := (.n .z (.n .z (.n .z (.n .z (.n .z (.n (.n .z (.lp 0 .z)) .z))))))
def mastref2_MapStringOf.L (k : Nat) : Nat → St sg.U → Option (RT sg.U [.str, (.int .i64)]) := labs [(0, labOf sg [(1, (.box [.d .str, .d (.sl .str), .d (.sl (.int .i64))])), (4, (.d .str)), (5, (.d (.int .i64))), (16, (.d (.sl .str))), (17, (.d (.int .i64))), (18, (.d (.int .i64)))] (fun h => mastref2_MapStringOf.l0 k h.1 h.2.1 h.2.2.1 h.2.2.2.1 h.2.2.2.2.1 h.2.2.2.2.2.1 h.2.2.2.2.2.2.1 h.2.2.2.2.2.2.2.1))]
theorem mastref2_MapStringOf.l0_eq (k : Nat) (x1_0 : ByteArray) (x1_1 : (List ByteArray)) (x1_2 : (List Int)) (x4 : ByteArray) (x5 : Int) (x16 : (List ByteArray)) (x17 : Int) (x18 : Int) : mastref2_MapStringOf.l0 (k + 1) x1_0 x1_1 x1_2 x4 x5 x16 x17 x18 = runFrom (C := ctx) (mastref2_MapStringOf.O k) ⟨53, [], []⟩ (mastref2_MapStringOf.L k) (Tryd.f10.body.getD .skip) mastref2_MapStringOf.a 0 (endK ctx [.str, (.int .i64)] [(.tmp 2), (.tmp 3)]) (encD [(1, (.box [.d .str, .d (.sl .str), .d (.sl (.int .i64))])), (4, (.d .str)), (5, (.d (.int .i64))), (16, (.d (.sl .str))), (17, (.d (.int .i64))), (18, (.d (.int .i64)))] (x1_0, x1_1, x1_2, x4, x5, x16, x17, x18, ()) (startD sg.U ⟨53, [], []⟩ [(1, (.box [.d .str, .d (.sl .str), .d (.sl (.int .i64))])), (4, (.d .str)), (5, (.d (.int .i64))), (16, (.d (.sl .str))), (17, (.d (.int .i64))), (18, (.d (.int .i64)))])) := by
  rw [mastref2_MapStringOf.l0]
  kernel_rfl
theorem mastref2_MapStringOf.f_eq (k : Nat) (a0 : T_asset_Bundled) : mastref2_MapStringOf.f k a0 = codeK (C := ctx) (mastref2_MapStringOf.O k) ⟨53, [], []⟩ (mastref2_MapStringOf.L k) (Tryd.f10.body.getD .skip) mastref2_MapStringOf.a (endK ctx [.str, (.int .i64)] [(.tmp 2), (.tmp 3)]) (slotsOf sg.U 0 [(.d (.st 0))] (a0, ()) (empty sg.U)) := by
  unfold mastref2_MapStringOf.f
  kernel_rfl
def mastref2_MapStringOf.e (k : Nat) : Entry sg := entryOf sg [(.d (.st 0))] [.str, (.int .i64)] (fun h => mastref2_MapStringOf.f k h.1)
def mastref2_MapStringOf.T : List (Lb sg (RT sg.U [.str, (.int .i64)])) := [⟨0, [(1, (.box [.d .str, .d (.sl .str), .d (.sl (.int .i64))])), (4, (.d .str)), (5, (.d (.int .i64))), (16, (.d (.sl .str))), (17, (.d (.int .i64))), (18, (.d (.int .i64)))], fun k h => mastref2_MapStringOf.l0 k h.1 h.2.1 h.2.2.1 h.2.2.2.1 h.2.2.2.2.1 h.2.2.2.2.2.1 h.2.2.2.2.2.2.1 h.2.2.2.2.2.2.2.1⟩]
theorem mastref2_MapStringOf.ok (k : Nat) : (mastref2_MapStringOf.e k).Sound Tryd.prog ctx 10 :=
  entry_ok base_ok mo (fn := Tryd.f10) (b := (Tryd.f10.body.getD .skip)) (pm := [(.d (.st 0))]) (rs := [.str, (.int .i64)]) (an := mastref2_MapStringOf.a) (N := 53) (vars := [(.tmp 2), (.tmp 3)]) Tryd.func10 (by kernel_rfl) (by kernel_rfl) (by kernel_rfl) (by kernel_rfl) (by kernel_rfl) (by kernel_rfl) (O := mastref2_MapStringOf.O)
    (fun k => by unfold mastref2_MapStringOf.O; exact oracle_of (P := Tryd.prog) (C := ctx) ⟨(strconv_FormatInt.ok), ⟨(mastref2_bundledForm.ok k), ⟨(mastref2_IsPath.ok k), ⟨(slices_Contains_string_string.ok k), trivial⟩⟩⟩⟩) mastref2_MapStringOf.T ⟨⟨by kernel_rfl, fun _ => by first | rfl | rw [mastref2_MapStringOf.l0], fun k h => mastref2_MapStringOf.l0_eq k h.1 h.2.1 h.2.2.1 h.2.2.2.1 h.2.2.2.2.1 h.2.2.2.2.2.1 h.2.2.2.2.2.2.1 h.2.2.2.2.2.2.2.1⟩, trivial⟩ k (fun h => mastref2_MapStringOf.f_eq k h.1)
def mastlaw2_AssetMaps.f (k : Nat) (a0 : T_asset_Bundled) : Option (Bool) := ((asset_MapString.f k a0).bind fun y1 => ((mastref2_MapStringOf.f k a0).bind fun y2 => (some (bif (ieq y1.2 y2.2) then (seq y1.1 y2.1) else false))))
def mastlaw2_AssetMaps.O (k : Nat) : Oracle sg := fun n => lkp n [(9, asset_MapString.e k), (10, mastref2_MapStringOf.e k)]
def mastlaw2_AssetMaps.a : Ann := .z
def mastlaw2_AssetMaps.L (k : Nat) : Nat → St sg.U → Option (RT sg.U [.bool]) := labs []
theorem mastlaw2_AssetMaps.f_eq (k : Nat) (a0 : T_asset_Bundled) : mastlaw2_AssetMaps.f k a0 = codeK (C := ctx) (mastlaw2_AssetMaps.O k) ⟨25, [], []⟩ (mastlaw2_AssetMaps.L k) (Tryd.f4.body.getD .skip) mastlaw2_AssetMaps.a (endK ctx [.bool] [(.tmp 2)]) (slotsOf sg.U 0 [(.d (.st 0))] (a0, ()) (empty sg.U)) := by
  unfold mastlaw2_AssetMaps.f
  kernel_rfl
def mastlaw2_AssetMaps.e (k : Nat) : Entry sg := entryOf sg [(.d (.st 0))] [.bool] (fun h => mastlaw2_AssetMaps.f k h.1)
def mastlaw2_AssetMaps.T : List (Lb sg (RT sg.U [.bool])) := []
theorem mastlaw2_AssetMaps.ok (k : Nat) : (mastlaw2_AssetMaps.e k).Sound Tryd.prog ctx 4 :=
  entry_ok base_ok mo (fn := Tryd.f4) (b := (Tryd.f4.body.getD .skip)) (pm := [(.d (.st 0))]) (rs := [.bool]) (an := mastlaw2_AssetMaps.a) (N := 25) (vars := [(.tmp 2)]) Tryd.func4 (by kernel_rfl) (by kernel_rfl) (by kernel_rfl) (by kernel_rfl) (by kernel_rfl) (by kernel_rfl) (O := mastlaw2_AssetMaps.O)
    (fun k => by unfold mastlaw2_AssetMaps.O; exact oracle_of (P := Tryd.prog) (C := ctx) ⟨(asset_MapString.ok k), ⟨(mastref2_MapStringOf.ok k), trivial⟩⟩) mastlaw2_AssetMaps.T trivial k (fun h => mastlaw2_AssetMaps.f_eq k h.1)
end Go.Proofs.YthmedjljckbidaaDoor.LAssetMaps
