/- The functions behind the law TermPlaces, checked against the code; their summaries hold. Conditions: none. -/
import Derived.Test.YtdffbjbpolhliaaDoorLiftZ
import Derived.Test.YtdffbjbpolhliaaDoorProg
import Derived.Test.YtdffbjbpolhliaaDoorShelf
import Derived.Shelf.Strings.SlTrimAscii
namespace Go.Proofs.YtdffbjbpolhliaaDoor.LTermPlaces
open Go Go.Proofs.YtdffbjbpolhliaaDoor.Lift
set_option maxRecDepth 100000
set_option linter.unusedVariables false
abbrev sgU : Nat → Type
  | _ => Unit
abbrev sgF : Nat → List Ty
  | _ => []
def sgO : (n : Nat) → sgU n → HL sgU (sgF n)
  | _, _ => ()
def sgB : (n : Nat) → HL sgU (sgF n) → sgU n
  | _, _ => ()
def sg : Sg := { U := sgU, fl := sgF, out := sgO, bld := sgB, gl := [1, 2], gp := fun k c => match k with | 2 => c = (Lib.pow10Tab.map fun z => Value.int .u64 z).toArray | _ => ∃ m, c[0]? = some (.int .i64 m) }
def ctx : Ctx := { S := sg, ty := [(3, .d (.int .i64) 1 0), (5, .d (.int .u8) 1 0), (9, .d .str 1 0), (23, .d (.sl .str) 16 9), (30, .d (.int .i64) 1 0)], eqs := [] }
def c_empty : ByteArray := ⟨#[]⟩
def c__2f : ByteArray := ⟨#[47]⟩
def c__2e : ByteArray := ⟨#[46]⟩
def c__2e_2e : ByteArray := ⟨#[46, 46]⟩
def c_abcdefghijklmnopqrst_c1516678 : ByteArray := ⟨#[97, 98, 99, 100, 101, 102, 103, 104, 105, 106, 107, 108, 109, 110, 111, 112, 113, 114, 115, 116, 117, 118, 119, 120, 121, 122, 48, 49, 50, 51, 52, 53, 54, 55, 56, 57, 45, 95, 46]⟩
def c_page_2f : ByteArray := ⟨#[112, 97, 103, 101, 47]⟩
theorem sg_ok : SgOk sg :=
  ⟨fun n h => by rcases n with n <;> rfl, fun n => by rcases n with n <;> rfl, fun n x => by rcases n with n <;> rfl, fun n => by rcases n with n <;> rfl⟩
theorem base_ok : Base Tryd.prog ctx := base_of sg_ok (by kernel_rfl) (eqOk_of (by kernel_rfl))
theorem open_ok : openB Tryd.prog ctx = true := by kernel_rfl
theorem mo : Tryd.prog.follows .mixedOrders = true := by kernel_rfl
def strings_Split.f (a0 : ByteArray) (a1 : ByteArray) : Option ((List ByteArray)) := splitF a0 a1
def strings_Split.e : Entry sg := entryOf sg [(.d .str), (.d .str)] [(.sl .str)] (fun h => strings_Split.f h.1 h.2.1)
theorem strings_Split.ok : (strings_Split.e).Sound Tryd.prog ctx 96 :=
  split_sound (C := ctx) sg_ok Tryd.func96 (by kernel_rfl) (by kernel_rfl) (kM := 1) (fun w hG => by obtain ⟨m, hm⟩ := hG 1 (by simp [ctx, sg]); exact ⟨m, cells_cell hm⟩) (fun s sep m w hs hm h1 => Tryd.strings_Split s sep m w hs hm h1)
def tree_isSmall.f (a0 : Int) : Option (Bool) := (some (bif (ile 97 a0) then (ile a0 122) else false))
def tree_isSmall.O : Oracle sg := fun n => lkp n []
def tree_isSmall.a : Ann := .z
def tree_isSmall.L : Nat → St sg.U → Option (RT sg.U [.bool]) := labs []
theorem tree_isSmall.f_eq (a0 : Int) : tree_isSmall.f a0 = codeK (C := ctx) (tree_isSmall.O) ⟨9, [], []⟩ (tree_isSmall.L) (Tryd.f145.body.getD .skip) tree_isSmall.a (endK ctx [.bool] [(.tmp 2)]) (slotsOf sg.U 0 [(.d (.int .u8))] (a0, ()) (empty sg.U)) := by
  unfold tree_isSmall.f
  kernel_rfl
def tree_isSmall.e : Entry sg := entryOf sg [(.d (.int .u8))] [.bool] (fun h => tree_isSmall.f h.1)
def tree_isSmall.T : List (Lb sg (RT sg.U [.bool])) := []
theorem tree_isSmall.ok : (tree_isSmall.e).Sound Tryd.prog ctx 145 :=
  entry_ok base_ok mo (fn := Tryd.f145) (b := (Tryd.f145.body.getD .skip)) (pm := [(.d (.int .u8))]) (rs := [.bool]) (an := tree_isSmall.a) (N := 9) (vars := [(.tmp 2)]) Tryd.func145 (by kernel_rfl) (by kernel_rfl) (by kernel_rfl) (by kernel_rfl) (by kernel_rfl) (by kernel_rfl) (O := fun _ => tree_isSmall.O)
    (fun _ => by unfold tree_isSmall.O; exact oracle_of (P := Tryd.prog) (C := ctx) trivial) tree_isSmall.T trivial 0 (fun h => tree_isSmall.f_eq h.1)
def tree_isDigit.f (a0 : Int) : Option (Bool) := (some (bif (ile 48 a0) then (ile a0 57) else false))
def tree_isDigit.O : Oracle sg := fun n => lkp n []
def tree_isDigit.a : Ann := .z
def tree_isDigit.L : Nat → St sg.U → Option (RT sg.U [.bool]) := labs []
theorem tree_isDigit.f_eq (a0 : Int) : tree_isDigit.f a0 = codeK (C := ctx) (tree_isDigit.O) ⟨9, [], []⟩ (tree_isDigit.L) (Tryd.f146.body.getD .skip) tree_isDigit.a (endK ctx [.bool] [(.tmp 2)]) (slotsOf sg.U 0 [(.d (.int .u8))] (a0, ()) (empty sg.U)) := by
  unfold tree_isDigit.f
  kernel_rfl
def tree_isDigit.e : Entry sg := entryOf sg [(.d (.int .u8))] [.bool] (fun h => tree_isDigit.f h.1)
def tree_isDigit.T : List (Lb sg (RT sg.U [.bool])) := []
theorem tree_isDigit.ok : (tree_isDigit.e).Sound Tryd.prog ctx 146 :=
  entry_ok base_ok mo (fn := Tryd.f146) (b := (Tryd.f146.body.getD .skip)) (pm := [(.d (.int .u8))]) (rs := [.bool]) (an := tree_isDigit.a) (N := 9) (vars := [(.tmp 2)]) Tryd.func146 (by kernel_rfl) (by kernel_rfl) (by kernel_rfl) (by kernel_rfl) (by kernel_rfl) (by kernel_rfl) (O := fun _ => tree_isDigit.O)
    (fun _ => by unfold tree_isDigit.O; exact oracle_of (P := Tryd.prog) (C := ctx) trivial) tree_isDigit.T trivial 0 (fun h => tree_isDigit.f_eq h.1)
def tree_isPart.l0 : Nat → ByteArray → Int → Option (Bool)
  | 0, _, _ => none
  | k + 1, x0, x3 => (bif (ilt x3 (slen x0)) then ((sat x0 x3).bind fun y1 => ((tree_isSmall.f y1).bind fun y2 => (bif (!y2) then ((sat x0 x3).bind fun y3 => ((tree_isDigit.f y3).bind fun y4 => (bif (!y4) then ((sat x0 x3).bind fun y5 => (bif (!ieq y5 45) then ((sat x0 x3).bind fun y6 => (bif (!ieq y6 95) then ((sat x0 x3).bind fun y7 => (bif (!ieq y7 46) then (some false) else (tree_isPart.l0 k x0 (wadd .i64 x3 1)))) else (tree_isPart.l0 k x0 (wadd .i64 x3 1)))) else (tree_isPart.l0 k x0 (wadd .i64 x3 1)))) else (tree_isPart.l0 k x0 (wadd .i64 x3 1))))) else (tree_isPart.l0 k x0 (wadd .i64 x3 1))))) else (some true))
def tree_isPart.f (k : Nat) (a0 : ByteArray) : Option (Bool) := (bif (bif (bif (bif (seq a0 c_empty) then true else (ilt 40 (slen a0))) then true else (seq a0 c__2e)) then true else (seq a0 c__2e_2e)) then (some false) else (tree_isPart.l0 k a0 0))
def tree_isPart.O (k : Nat) : Oracle sg := fun n => lkp n [(145, tree_isSmall.e), (146, tree_isDigit.e)]
def tree_isPart.a : Ann := (.n .z (.n .z (.n (.n .z (.lp 0 .z)) .z)))
def tree_isPart.L (k : Nat) : Nat → St sg.U → Option (RT sg.U [.bool]) := labs [(0, labOf sg [(0, (.d .str)), (3, (.d (.int .i64)))] (fun h => tree_isPart.l0 k h.1 h.2.1))]
theorem tree_isPart.l0_eq (k : Nat) (x0 : ByteArray) (x3 : Int) : tree_isPart.l0 (k + 1) x0 x3 = runFrom (C := ctx) (tree_isPart.O k) ⟨55, [], []⟩ (tree_isPart.L k) (Tryd.f127.body.getD .skip) tree_isPart.a 0 (endK ctx [.bool] [(.tmp 2)]) (encD [(0, (.d .str)), (3, (.d (.int .i64)))] (x0, x3, ()) (startD sg.U ⟨55, [], []⟩ [(0, (.d .str)), (3, (.d (.int .i64)))])) := by
  rw [tree_isPart.l0]
  kernel_rfl
theorem tree_isPart.f_eq (k : Nat) (a0 : ByteArray) : tree_isPart.f k a0 = codeK (C := ctx) (tree_isPart.O k) ⟨55, [], []⟩ (tree_isPart.L k) (Tryd.f127.body.getD .skip) tree_isPart.a (endK ctx [.bool] [(.tmp 2)]) (slotsOf sg.U 0 [(.d .str)] (a0, ()) (empty sg.U)) := by
  unfold tree_isPart.f
  kernel_rfl
def tree_isPart.e (k : Nat) : Entry sg := entryOf sg [(.d .str)] [.bool] (fun h => tree_isPart.f k h.1)
def tree_isPart.T : List (Lb sg (RT sg.U [.bool])) := [⟨0, [(0, (.d .str)), (3, (.d (.int .i64)))], fun k h => tree_isPart.l0 k h.1 h.2.1⟩]
theorem tree_isPart.ok (k : Nat) : (tree_isPart.e k).Sound Tryd.prog ctx 127 :=
  entry_ok base_ok mo (fn := Tryd.f127) (b := (Tryd.f127.body.getD .skip)) (pm := [(.d .str)]) (rs := [.bool]) (an := tree_isPart.a) (N := 55) (vars := [(.tmp 2)]) Tryd.func127 (by kernel_rfl) (by kernel_rfl) (by kernel_rfl) (by kernel_rfl) (by kernel_rfl) (by kernel_rfl) (O := tree_isPart.O)
    (fun k => by unfold tree_isPart.O; exact oracle_of (P := Tryd.prog) (C := ctx) ⟨(tree_isSmall.ok), ⟨(tree_isDigit.ok), trivial⟩⟩) tree_isPart.T ⟨⟨by kernel_rfl, fun _ => by first | rfl | rw [tree_isPart.l0], fun k h => tree_isPart.l0_eq k h.1 h.2.1⟩, trivial⟩ k (fun h => tree_isPart.f_eq k h.1)
def tree_isPath.l0 : Nat → (List ByteArray) → Int → Int → Option (Bool)
  | 0, _, _, _ => none
  | k + 1, x9, x10, x11 => (bif (ilt x11 x10) then ((lat x9 x11).bind fun y2 => ((tree_isPart.f k y2).bind fun y3 => (bif (!y3) then (some false) else (tree_isPath.l0 k x9 x10 (wadd .i64 x11 1))))) else (some true))
def tree_isPath.f (k : Nat) (a0 : ByteArray) : Option (Bool) := (bif (ilt 200 (slen a0)) then (some false) else ((strings_Split.f a0 c__2f).bind fun y1 => (tree_isPath.l0 k y1 (llen y1) 0)))
def tree_isPath.O (k : Nat) : Oracle sg := fun n => lkp n [(96, strings_Split.e), (127, tree_isPart.e k)]
def tree_isPath.a : Ann := (.n .z (.n .z (.n (.n .z (.lp 0 .z)) .z)))
def tree_isPath.L (k : Nat) : Nat → St sg.U → Option (RT sg.U [.bool]) := labs [(0, labOf sg [(9, (.d (.sl .str))), (10, (.d (.int .i64))), (11, (.d (.int .i64)))] (fun h => tree_isPath.l0 k h.1 h.2.1 h.2.2.1))]
theorem tree_isPath.l0_eq (k : Nat) (x9 : (List ByteArray)) (x10 : Int) (x11 : Int) : tree_isPath.l0 (k + 1) x9 x10 x11 = runFrom (C := ctx) (tree_isPath.O k) ⟨19, [], []⟩ (tree_isPath.L k) (Tryd.f101.body.getD .skip) tree_isPath.a 0 (endK ctx [.bool] [(.tmp 2)]) (encD [(9, (.d (.sl .str))), (10, (.d (.int .i64))), (11, (.d (.int .i64)))] (x9, x10, x11, ()) (startD sg.U ⟨19, [], []⟩ [(9, (.d (.sl .str))), (10, (.d (.int .i64))), (11, (.d (.int .i64)))])) := by
  rw [tree_isPath.l0]
  kernel_rfl
theorem tree_isPath.f_eq (k : Nat) (a0 : ByteArray) : tree_isPath.f k a0 = codeK (C := ctx) (tree_isPath.O k) ⟨19, [], []⟩ (tree_isPath.L k) (Tryd.f101.body.getD .skip) tree_isPath.a (endK ctx [.bool] [(.tmp 2)]) (slotsOf sg.U 0 [(.d .str)] (a0, ()) (empty sg.U)) := by
  unfold tree_isPath.f
  kernel_rfl
def tree_isPath.e (k : Nat) : Entry sg := entryOf sg [(.d .str)] [.bool] (fun h => tree_isPath.f k h.1)
def tree_isPath.T : List (Lb sg (RT sg.U [.bool])) := [⟨0, [(9, (.d (.sl .str))), (10, (.d (.int .i64))), (11, (.d (.int .i64)))], fun k h => tree_isPath.l0 k h.1 h.2.1 h.2.2.1⟩]
theorem tree_isPath.ok (k : Nat) : (tree_isPath.e k).Sound Tryd.prog ctx 101 :=
  entry_ok base_ok mo (fn := Tryd.f101) (b := (Tryd.f101.body.getD .skip)) (pm := [(.d .str)]) (rs := [.bool]) (an := tree_isPath.a) (N := 19) (vars := [(.tmp 2)]) Tryd.func101 (by kernel_rfl) (by kernel_rfl) (by kernel_rfl) (by kernel_rfl) (by kernel_rfl) (by kernel_rfl) (O := tree_isPath.O)
    (fun k => by unfold tree_isPath.O; exact oracle_of (P := Tryd.prog) (C := ctx) ⟨(strings_Split.ok), ⟨(tree_isPart.ok k), trivial⟩⟩) tree_isPath.T ⟨⟨by kernel_rfl, fun _ => by first | rfl | rw [tree_isPath.l0], fun k h => tree_isPath.l0_eq k h.1 h.2.1 h.2.2.1⟩, trivial⟩ k (fun h => tree_isPath.f_eq k h.1)
def tree_isAddress.f (k : Nat) (a0 : ByteArray) : Option (Bool) := (bif (seq a0 c__2f) then (some true) else (bif (ilt 2 (slen a0)) then ((sat a0 0).bind fun y1 => (bif (ieq y1 47) then ((sat a0 (wsub .i64 (slen a0) 1)).bind fun y2 => (bif (ieq y2 47) then ((ssub a0 1 (wsub .i64 (slen a0) 1)).bind fun y3 => ((tree_isPath.f k y3).bind fun y4 => (some y4))) else (some false))) else (some false))) else (some false)))
def tree_isAddress.O (k : Nat) : Oracle sg := fun n => lkp n [(101, tree_isPath.e k)]
def tree_isAddress.a : Ann := .z
def tree_isAddress.L (k : Nat) : Nat → St sg.U → Option (RT sg.U [.bool]) := labs []
theorem tree_isAddress.f_eq (k : Nat) (a0 : ByteArray) : tree_isAddress.f k a0 = codeK (C := ctx) (tree_isAddress.O k) ⟨29, [], []⟩ (tree_isAddress.L k) (Tryd.f76.body.getD .skip) tree_isAddress.a (endK ctx [.bool] [(.tmp 2)]) (slotsOf sg.U 0 [(.d .str)] (a0, ()) (empty sg.U)) := by
  unfold tree_isAddress.f
  kernel_rfl
def tree_isAddress.e (k : Nat) : Entry sg := entryOf sg [(.d .str)] [.bool] (fun h => tree_isAddress.f k h.1)
def tree_isAddress.T : List (Lb sg (RT sg.U [.bool])) := []
theorem tree_isAddress.ok (k : Nat) : (tree_isAddress.e k).Sound Tryd.prog ctx 76 :=
  entry_ok base_ok mo (fn := Tryd.f76) (b := (Tryd.f76.body.getD .skip)) (pm := [(.d .str)]) (rs := [.bool]) (an := tree_isAddress.a) (N := 29) (vars := [(.tmp 2)]) Tryd.func76 (by kernel_rfl) (by kernel_rfl) (by kernel_rfl) (by kernel_rfl) (by kernel_rfl) (by kernel_rfl) (O := tree_isAddress.O)
    (fun k => by unfold tree_isAddress.O; exact oracle_of (P := Tryd.prog) (C := ctx) ⟨(tree_isPath.ok k), trivial⟩) tree_isAddress.T trivial k (fun h => tree_isAddress.f_eq k h.1)
def tree_CheckAddress.f (k : Nat) (a0 : ByteArray) : Option (Int) := ((tree_isAddress.f k a0).bind fun y1 => (bif (!y1) then (some 3) else (some 0)))
def tree_CheckAddress.O (k : Nat) : Oracle sg := fun n => lkp n [(76, tree_isAddress.e k)]
def tree_CheckAddress.a : Ann := .z
def tree_CheckAddress.L (k : Nat) : Nat → St sg.U → Option (RT sg.U [(.int .i64)]) := labs []
theorem tree_CheckAddress.f_eq (k : Nat) (a0 : ByteArray) : tree_CheckAddress.f k a0 = codeK (C := ctx) (tree_CheckAddress.O k) ⟨6, [], []⟩ (tree_CheckAddress.L k) (Tryd.f45.body.getD .skip) tree_CheckAddress.a (endK ctx [(.int .i64)] [(.tmp 2)]) (slotsOf sg.U 0 [(.d .str)] (a0, ()) (empty sg.U)) := by
  unfold tree_CheckAddress.f
  kernel_rfl
def tree_CheckAddress.e (k : Nat) : Entry sg := entryOf sg [(.d .str)] [(.int .i64)] (fun h => tree_CheckAddress.f k h.1)
def tree_CheckAddress.T : List (Lb sg (RT sg.U [(.int .i64)])) := []
theorem tree_CheckAddress.ok (k : Nat) : (tree_CheckAddress.e k).Sound Tryd.prog ctx 45 :=
  entry_ok base_ok mo (fn := Tryd.f45) (b := (Tryd.f45.body.getD .skip)) (pm := [(.d .str)]) (rs := [(.int .i64)]) (an := tree_CheckAddress.a) (N := 6) (vars := [(.tmp 2)]) Tryd.func45 (by kernel_rfl) (by kernel_rfl) (by kernel_rfl) (by kernel_rfl) (by kernel_rfl) (by kernel_rfl) (O := tree_CheckAddress.O)
    (fun k => by unfold tree_CheckAddress.O; exact oracle_of (P := Tryd.prog) (C := ctx) ⟨(tree_isAddress.ok k), trivial⟩) tree_CheckAddress.T trivial k (fun h => tree_CheckAddress.f_eq k h.1)
def tree_CheckPath.f (k : Nat) (a0 : ByteArray) : Option (Int) := ((tree_isPath.f k a0).bind fun y1 => (bif (!y1) then (some 3) else (some 0)))
def tree_CheckPath.O (k : Nat) : Oracle sg := fun n => lkp n [(101, tree_isPath.e k)]
def tree_CheckPath.a : Ann := .z
def tree_CheckPath.L (k : Nat) : Nat → St sg.U → Option (RT sg.U [(.int .i64)]) := labs []
theorem tree_CheckPath.f_eq (k : Nat) (a0 : ByteArray) : tree_CheckPath.f k a0 = codeK (C := ctx) (tree_CheckPath.O k) ⟨6, [], []⟩ (tree_CheckPath.L k) (Tryd.f77.body.getD .skip) tree_CheckPath.a (endK ctx [(.int .i64)] [(.tmp 2)]) (slotsOf sg.U 0 [(.d .str)] (a0, ()) (empty sg.U)) := by
  unfold tree_CheckPath.f
  kernel_rfl
def tree_CheckPath.e (k : Nat) : Entry sg := entryOf sg [(.d .str)] [(.int .i64)] (fun h => tree_CheckPath.f k h.1)
def tree_CheckPath.T : List (Lb sg (RT sg.U [(.int .i64)])) := []
theorem tree_CheckPath.ok (k : Nat) : (tree_CheckPath.e k).Sound Tryd.prog ctx 77 :=
  entry_ok base_ok mo (fn := Tryd.f77) (b := (Tryd.f77.body.getD .skip)) (pm := [(.d .str)]) (rs := [(.int .i64)]) (an := tree_CheckPath.a) (N := 6) (vars := [(.tmp 2)]) Tryd.func77 (by kernel_rfl) (by kernel_rfl) (by kernel_rfl) (by kernel_rfl) (by kernel_rfl) (by kernel_rfl) (O := tree_CheckPath.O)
    (fun k => by unfold tree_CheckPath.O; exact oracle_of (P := Tryd.prog) (C := ctx) ⟨(tree_isPath.ok k), trivial⟩) tree_CheckPath.T trivial k (fun h => tree_CheckPath.f_eq k h.1)
def list_isPart.l0 : Nat → ByteArray → Int → Option (Bool)
  | 0, _, _ => none
  | k + 1, x0, x3 => (bif (ilt x3 (slen x0)) then ((sat x0 x3).bind fun y1 => (bif (ieq y1 47) then (some false) else (list_isPart.l0 k x0 (wadd .i64 x3 1)))) else ((tree_CheckPath.f k x0).bind fun y2 => (some (ieq y2 0))))
def list_isPart.f (k : Nat) (a0 : ByteArray) : Option (Bool) := (list_isPart.l0 k a0 0)
def list_isPart.O (k : Nat) : Oracle sg := fun n => lkp n [(77, tree_CheckPath.e k)]
def list_isPart.a : Ann := (.n .z (.n (.n .z (.lp 0 .z)) .z))
def list_isPart.L (k : Nat) : Nat → St sg.U → Option (RT sg.U [.bool]) := labs [(0, labOf sg [(0, (.d .str)), (3, (.d (.int .i64)))] (fun h => list_isPart.l0 k h.1 h.2.1))]
theorem list_isPart.l0_eq (k : Nat) (x0 : ByteArray) (x3 : Int) : list_isPart.l0 (k + 1) x0 x3 = runFrom (C := ctx) (list_isPart.O k) ⟨17, [], []⟩ (list_isPart.L k) (Tryd.f46.body.getD .skip) list_isPart.a 0 (endK ctx [.bool] [(.tmp 2)]) (encD [(0, (.d .str)), (3, (.d (.int .i64)))] (x0, x3, ()) (startD sg.U ⟨17, [], []⟩ [(0, (.d .str)), (3, (.d (.int .i64)))])) := by
  rw [list_isPart.l0]
  kernel_rfl
theorem list_isPart.f_eq (k : Nat) (a0 : ByteArray) : list_isPart.f k a0 = codeK (C := ctx) (list_isPart.O k) ⟨17, [], []⟩ (list_isPart.L k) (Tryd.f46.body.getD .skip) list_isPart.a (endK ctx [.bool] [(.tmp 2)]) (slotsOf sg.U 0 [(.d .str)] (a0, ()) (empty sg.U)) := by
  unfold list_isPart.f
  kernel_rfl
def list_isPart.e (k : Nat) : Entry sg := entryOf sg [(.d .str)] [.bool] (fun h => list_isPart.f k h.1)
def list_isPart.T : List (Lb sg (RT sg.U [.bool])) := [⟨0, [(0, (.d .str)), (3, (.d (.int .i64)))], fun k h => list_isPart.l0 k h.1 h.2.1⟩]
theorem list_isPart.ok (k : Nat) : (list_isPart.e k).Sound Tryd.prog ctx 46 :=
  entry_ok base_ok mo (fn := Tryd.f46) (b := (Tryd.f46.body.getD .skip)) (pm := [(.d .str)]) (rs := [.bool]) (an := list_isPart.a) (N := 17) (vars := [(.tmp 2)]) Tryd.func46 (by kernel_rfl) (by kernel_rfl) (by kernel_rfl) (by kernel_rfl) (by kernel_rfl) (by kernel_rfl) (O := list_isPart.O)
    (fun k => by unfold list_isPart.O; exact oracle_of (P := Tryd.prog) (C := ctx) ⟨(tree_CheckPath.ok k), trivial⟩) list_isPart.T ⟨⟨by kernel_rfl, fun _ => by first | rfl | rw [list_isPart.l0], fun k h => list_isPart.l0_eq k h.1 h.2.1⟩, trivial⟩ k (fun h => list_isPart.f_eq k h.1)
def list_TermAddress.f (k : Nat) (a0 : ByteArray) (a1 : ByteArray) : Option (ByteArray × Int) := ((scat a0 a1).bind fun y1 => ((scat y1 c__2f).bind fun y2 => ((tree_CheckAddress.f k a0).bind fun y3 => (bif (!ieq y3 0) then (some (c_empty, 3)) else ((list_isPart.f k a1).bind fun y4 => (bif (!y4) then (some (c_empty, 3)) else ((tree_CheckAddress.f k y2).bind fun y5 => (bif (!ieq y5 0) then (some (c_empty, 3)) else (some (y2, 0))))))))))
def list_TermAddress.O (k : Nat) : Oracle sg := fun n => lkp n [(45, tree_CheckAddress.e k), (46, list_isPart.e k)]
def list_TermAddress.a : Ann := .z
def list_TermAddress.L (k : Nat) : Nat → St sg.U → Option (RT sg.U [.str, (.int .i64)]) := labs []
theorem list_TermAddress.f_eq (k : Nat) (a0 : ByteArray) (a1 : ByteArray) : list_TermAddress.f k a0 a1 = codeK (C := ctx) (list_TermAddress.O k) ⟨25, [], []⟩ (list_TermAddress.L k) (Tryd.f19.body.getD .skip) list_TermAddress.a (endK ctx [.str, (.int .i64)] [(.tmp 4), (.tmp 5)]) (slotsOf sg.U 0 [(.d .str), (.d .str)] (a0, a1, ()) (empty sg.U)) := by
  unfold list_TermAddress.f
  kernel_rfl
def list_TermAddress.e (k : Nat) : Entry sg := entryOf sg [(.d .str), (.d .str)] [.str, (.int .i64)] (fun h => list_TermAddress.f k h.1 h.2.1)
def list_TermAddress.T : List (Lb sg (RT sg.U [.str, (.int .i64)])) := []
theorem list_TermAddress.ok (k : Nat) : (list_TermAddress.e k).Sound Tryd.prog ctx 19 :=
  entry_ok base_ok mo (fn := Tryd.f19) (b := (Tryd.f19.body.getD .skip)) (pm := [(.d .str), (.d .str)]) (rs := [.str, (.int .i64)]) (an := list_TermAddress.a) (N := 25) (vars := [(.tmp 4), (.tmp 5)]) Tryd.func19 (by kernel_rfl) (by kernel_rfl) (by kernel_rfl) (by kernel_rfl) (by kernel_rfl) (by kernel_rfl) (O := list_TermAddress.O)
    (fun k => by unfold list_TermAddress.O; exact oracle_of (P := Tryd.prog) (C := ctx) ⟨(tree_CheckAddress.ok k), ⟨(list_isPart.ok k), trivial⟩⟩) list_TermAddress.T trivial k (fun h => list_TermAddress.f_eq k h.1 h.2.1)
def strings_Trim.f (a0 : ByteArray) (a1 : ByteArray) : Option (ByteArray) := if a0.size ≤ 9223372036854775807 ∧ a1.size < 4294967281 ∧ (a1.data.toList.all fun b => decide (b.toNat < 128)) = true then some (⟨(Lib.trimS a0.data.toList a1.data.toList).toArray⟩) else none
def strings_Trim.e : Entry sg := entryOf sg [(.d .str), (.d .str)] [.str] (fun h => strings_Trim.f h.1 h.2.1)
theorem strings_Trim.ok : (strings_Trim.e).Sound Tryd.prog ctx 79 :=
  entry_extern (C := ctx) sg_ok Tryd.func79 (by kernel_rfl) (by kernel_rfl) (by kernel_rfl) (by kernel_rfl) (fun hh x w hx hG => by
    unfold strings_Trim.f at hx
    split at hx
    · rename_i c
      obtain rfl := Option.some.inj hx
      refine (Any.strings_Trim_laid Tryd.lays160 (by kernel_rfl) hh.1 hh.2.1 w c.1 c.2.1 (ascii_of_all c.2.2)).mono ?_
      rintro e w' ⟨rfl, hb⟩
      exact ⟨rfl, by first | exact hb ▸ Grow.refl _ | exact Grow.of_below hb | (obtain ⟨k, os, rfl⟩ := hb; exact Grow.of_below (Lib.below_grow _ w (Nat.le_refl _) k os))⟩
    · cases hx)
def mastref2_IsPart.f (a0 : ByteArray) : Option (Bool) := (bif (bif (bif (bif (!seq a0 c_empty) then (ile (slen a0) 40) else false) then (!seq a0 c__2e) else false) then (!seq a0 c__2e_2e) else false) then ((strings_Trim.f a0 c_abcdefghijklmnopqrst_c1516678).bind fun y1 => (some (seq y1 c_empty))) else (some false))
def mastref2_IsPart.O : Oracle sg := fun n => lkp n [(79, strings_Trim.e)]
def mastref2_IsPart.a : Ann := .z
def mastref2_IsPart.L : Nat → St sg.U → Option (RT sg.U [.bool]) := labs []
theorem mastref2_IsPart.f_eq (a0 : ByteArray) : mastref2_IsPart.f a0 = codeK (C := ctx) (mastref2_IsPart.O) ⟨23, [], []⟩ (mastref2_IsPart.L) (Tryd.f48.body.getD .skip) mastref2_IsPart.a (endK ctx [.bool] [(.tmp 2)]) (slotsOf sg.U 0 [(.d .str)] (a0, ()) (empty sg.U)) := by
  unfold mastref2_IsPart.f
  kernel_rfl
def mastref2_IsPart.e : Entry sg := entryOf sg [(.d .str)] [.bool] (fun h => mastref2_IsPart.f h.1)
def mastref2_IsPart.T : List (Lb sg (RT sg.U [.bool])) := []
theorem mastref2_IsPart.ok : (mastref2_IsPart.e).Sound Tryd.prog ctx 48 :=
  entry_ok base_ok mo (fn := Tryd.f48) (b := (Tryd.f48.body.getD .skip)) (pm := [(.d .str)]) (rs := [.bool]) (an := mastref2_IsPart.a) (N := 23) (vars := [(.tmp 2)]) Tryd.func48 (by kernel_rfl) (by kernel_rfl) (by kernel_rfl) (by kernel_rfl) (by kernel_rfl) (by kernel_rfl) (O := fun _ => mastref2_IsPart.O)
    (fun _ => by unfold mastref2_IsPart.O; exact oracle_of (P := Tryd.prog) (C := ctx) ⟨(strings_Trim.ok), trivial⟩) mastref2_IsPart.T trivial 0 (fun h => mastref2_IsPart.f_eq h.1)
def mastref2_IsPath_c1.f (a0 : ByteArray) : Option (Bool) := ((mastref2_IsPart.f a0).bind fun y1 => (some (!y1)))
def mastref2_IsPath_c1.O : Oracle sg := fun n => lkp n [(48, mastref2_IsPart.e)]
def mastref2_IsPath_c1.a : Ann := .z
def mastref2_IsPath_c1.L : Nat → St sg.U → Option (RT sg.U [.bool]) := labs []
theorem mastref2_IsPath_c1.f_eq (a0 : ByteArray) : mastref2_IsPath_c1.f a0 = codeK (C := ctx) (mastref2_IsPath_c1.O) ⟨6, [], []⟩ (mastref2_IsPath_c1.L) (Tryd.f103.body.getD .skip) mastref2_IsPath_c1.a (endK ctx [.bool] [(.tmp 2)]) (slotsOf sg.U 0 [(.d .str)] (a0, ()) (empty sg.U)) := by
  unfold mastref2_IsPath_c1.f
  kernel_rfl
def mastref2_IsPath_c1.e : Entry sg := entryOf sg [(.d .str)] [.bool] (fun h => mastref2_IsPath_c1.f h.1)
def mastref2_IsPath_c1.T : List (Lb sg (RT sg.U [.bool])) := []
theorem mastref2_IsPath_c1.ok : (mastref2_IsPath_c1.e).Sound Tryd.prog ctx 103 :=
  entry_ok base_ok mo (fn := Tryd.f103) (b := (Tryd.f103.body.getD .skip)) (pm := [(.d .str)]) (rs := [.bool]) (an := mastref2_IsPath_c1.a) (N := 6) (vars := [(.tmp 2)]) Tryd.func103 (by kernel_rfl) (by kernel_rfl) (by kernel_rfl) (by kernel_rfl) (by kernel_rfl) (by kernel_rfl) (O := fun _ => mastref2_IsPath_c1.O)
    (fun _ => by unfold mastref2_IsPath_c1.O; exact oracle_of (P := Tryd.prog) (C := ctx) ⟨(mastref2_IsPart.ok), trivial⟩) mastref2_IsPath_c1.T trivial 0 (fun h => mastref2_IsPath_c1.f_eq h.1)
def slices_IndexFunc_string_string_at_mastref2_IsPath_c1.l0 : Nat → (List ByteArray) → Int → Int → Option (Int)
  | 0, _, _, _ => none
  | k + 1, x0, x7, x8 => (bif (ilt x8 x7) then ((lat x0 x8).bind fun y1 => ((mastref2_IsPath_c1.f y1).bind fun y2 => (bif y2 then (some x8) else (slices_IndexFunc_string_string_at_mastref2_IsPath_c1.l0 k x0 x7 (wadd .i64 x8 1))))) else (some (-1)))
def slices_IndexFunc_string_string_at_mastref2_IsPath_c1.f (k : Nat) (a0 : (List ByteArray)) : Option (Int) := (slices_IndexFunc_string_string_at_mastref2_IsPath_c1.l0 k a0 (llen a0) 0)
def slices_IndexFunc_string_string_at_mastref2_IsPath_c1.O (k : Nat) : Oracle sg := fun n => lkp n [(103, mastref2_IsPath_c1.e)]
def slices_IndexFunc_string_string_at_mastref2_IsPath_c1.a : Ann := (.n .z (.n (.n .z (.lp 0 .z)) .z))
def slices_IndexFunc_string_string_at_mastref2_IsPath_c1.L (k : Nat) : Nat → St sg.U → Option (RT sg.U [(.int .i64)]) := labs [(0, labOf sg [(0, (.d (.sl .str))), (1, (.clo 103 [])), (7, (.d (.int .i64))), (8, (.d (.int .i64)))] (fun h => slices_IndexFunc_string_string_at_mastref2_IsPath_c1.l0 k h.1 h.2.1 h.2.2.1))]
theorem slices_IndexFunc_string_string_at_mastref2_IsPath_c1.l0_eq (k : Nat) (x0 : (List ByteArray)) (x7 : Int) (x8 : Int) : slices_IndexFunc_string_string_at_mastref2_IsPath_c1.l0 (k + 1) x0 x7 x8 = runFrom (C := ctx) (slices_IndexFunc_string_string_at_mastref2_IsPath_c1.O k) ⟨19, [], []⟩ (slices_IndexFunc_string_string_at_mastref2_IsPath_c1.L k) (Tryd.f128.body.getD .skip) slices_IndexFunc_string_string_at_mastref2_IsPath_c1.a 0 (endK ctx [(.int .i64)] [(.tmp 4)]) (encD [(0, (.d (.sl .str))), (1, (.clo 103 [])), (7, (.d (.int .i64))), (8, (.d (.int .i64)))] (x0, x7, x8, ()) (startD sg.U ⟨19, [], []⟩ [(0, (.d (.sl .str))), (1, (.clo 103 [])), (7, (.d (.int .i64))), (8, (.d (.int .i64)))])) := by
  rw [slices_IndexFunc_string_string_at_mastref2_IsPath_c1.l0]
  kernel_rfl
theorem slices_IndexFunc_string_string_at_mastref2_IsPath_c1.f_eq (k : Nat) (a0 : (List ByteArray)) : slices_IndexFunc_string_string_at_mastref2_IsPath_c1.f k a0 = codeK (C := ctx) (slices_IndexFunc_string_string_at_mastref2_IsPath_c1.O k) ⟨19, [], []⟩ (slices_IndexFunc_string_string_at_mastref2_IsPath_c1.L k) (Tryd.f128.body.getD .skip) slices_IndexFunc_string_string_at_mastref2_IsPath_c1.a (endK ctx [(.int .i64)] [(.tmp 4)]) (slotsOf sg.U 0 [(.d (.sl .str)), .fn 103] (a0, ()) (empty sg.U)) := by
  unfold slices_IndexFunc_string_string_at_mastref2_IsPath_c1.f
  kernel_rfl
def slices_IndexFunc_string_string_at_mastref2_IsPath_c1.e (k : Nat) : Entry sg := entryOf sg [(.d (.sl .str)), .fn 103] [(.int .i64)] (fun h => slices_IndexFunc_string_string_at_mastref2_IsPath_c1.f k h.1)
def slices_IndexFunc_string_string_at_mastref2_IsPath_c1.T : List (Lb sg (RT sg.U [(.int .i64)])) := [⟨0, [(0, (.d (.sl .str))), (1, (.clo 103 [])), (7, (.d (.int .i64))), (8, (.d (.int .i64)))], fun k h => slices_IndexFunc_string_string_at_mastref2_IsPath_c1.l0 k h.1 h.2.1 h.2.2.1⟩]
theorem slices_IndexFunc_string_string_at_mastref2_IsPath_c1.ok (k : Nat) : (slices_IndexFunc_string_string_at_mastref2_IsPath_c1.e k).Sound Tryd.prog ctx 128 :=
  entry_ok base_ok mo (fn := Tryd.f128) (b := (Tryd.f128.body.getD .skip)) (pm := [(.d (.sl .str)), .fn 103]) (rs := [(.int .i64)]) (an := slices_IndexFunc_string_string_at_mastref2_IsPath_c1.a) (N := 19) (vars := [(.tmp 4)]) Tryd.func128 (by kernel_rfl) (by kernel_rfl) (by kernel_rfl) (by kernel_rfl) (by kernel_rfl) (by kernel_rfl) (O := slices_IndexFunc_string_string_at_mastref2_IsPath_c1.O)
    (fun k => by unfold slices_IndexFunc_string_string_at_mastref2_IsPath_c1.O; exact oracle_of (P := Tryd.prog) (C := ctx) ⟨(mastref2_IsPath_c1.ok), trivial⟩) slices_IndexFunc_string_string_at_mastref2_IsPath_c1.T ⟨⟨by kernel_rfl, fun _ => by first | rfl | rw [slices_IndexFunc_string_string_at_mastref2_IsPath_c1.l0], fun k h => slices_IndexFunc_string_string_at_mastref2_IsPath_c1.l0_eq k h.1 h.2.1 h.2.2.1⟩, trivial⟩ k (fun h => slices_IndexFunc_string_string_at_mastref2_IsPath_c1.f_eq k h.1)
def slices_ContainsFunc_string_string_at_mastref2_IsPath_c1.f (k : Nat) (a0 : (List ByteArray)) : Option (Bool) := ((slices_IndexFunc_string_string_at_mastref2_IsPath_c1.f k a0).bind fun y1 => (some (ile 0 y1)))
def slices_ContainsFunc_string_string_at_mastref2_IsPath_c1.O (k : Nat) : Oracle sg := fun n => lkp n [(128, slices_IndexFunc_string_string_at_mastref2_IsPath_c1.e k)]
def slices_ContainsFunc_string_string_at_mastref2_IsPath_c1.a : Ann := .z
def slices_ContainsFunc_string_string_at_mastref2_IsPath_c1.L (k : Nat) : Nat → St sg.U → Option (RT sg.U [.bool]) := labs []
theorem slices_ContainsFunc_string_string_at_mastref2_IsPath_c1.f_eq (k : Nat) (a0 : (List ByteArray)) : slices_ContainsFunc_string_string_at_mastref2_IsPath_c1.f k a0 = codeK (C := ctx) (slices_ContainsFunc_string_string_at_mastref2_IsPath_c1.O k) ⟨9, [], []⟩ (slices_ContainsFunc_string_string_at_mastref2_IsPath_c1.L k) (Tryd.f102.body.getD .skip) slices_ContainsFunc_string_string_at_mastref2_IsPath_c1.a (endK ctx [.bool] [(.tmp 4)]) (slotsOf sg.U 0 [(.d (.sl .str)), .fn 103] (a0, ()) (empty sg.U)) := by
  unfold slices_ContainsFunc_string_string_at_mastref2_IsPath_c1.f
  kernel_rfl
def slices_ContainsFunc_string_string_at_mastref2_IsPath_c1.e (k : Nat) : Entry sg := entryOf sg [(.d (.sl .str)), .fn 103] [.bool] (fun h => slices_ContainsFunc_string_string_at_mastref2_IsPath_c1.f k h.1)
def slices_ContainsFunc_string_string_at_mastref2_IsPath_c1.T : List (Lb sg (RT sg.U [.bool])) := []
theorem slices_ContainsFunc_string_string_at_mastref2_IsPath_c1.ok (k : Nat) : (slices_ContainsFunc_string_string_at_mastref2_IsPath_c1.e k).Sound Tryd.prog ctx 102 :=
  entry_ok base_ok mo (fn := Tryd.f102) (b := (Tryd.f102.body.getD .skip)) (pm := [(.d (.sl .str)), .fn 103]) (rs := [.bool]) (an := slices_ContainsFunc_string_string_at_mastref2_IsPath_c1.a) (N := 9) (vars := [(.tmp 4)]) Tryd.func102 (by kernel_rfl) (by kernel_rfl) (by kernel_rfl) (by kernel_rfl) (by kernel_rfl) (by kernel_rfl) (O := slices_ContainsFunc_string_string_at_mastref2_IsPath_c1.O)
    (fun k => by unfold slices_ContainsFunc_string_string_at_mastref2_IsPath_c1.O; exact oracle_of (P := Tryd.prog) (C := ctx) ⟨(slices_IndexFunc_string_string_at_mastref2_IsPath_c1.ok k), trivial⟩) slices_ContainsFunc_string_string_at_mastref2_IsPath_c1.T trivial k (fun h => slices_ContainsFunc_string_string_at_mastref2_IsPath_c1.f_eq k h.1)
def mastref2_IsPath.f (k : Nat) (a0 : ByteArray) : Option (Bool) := (bif (ile (slen a0) 200) then ((strings_Split.f a0 c__2f).bind fun y1 => ((slices_ContainsFunc_string_string_at_mastref2_IsPath_c1.f k y1).bind fun y2 => (some (!y2)))) else (some false))
def mastref2_IsPath.O (k : Nat) : Oracle sg := fun n => lkp n [(96, strings_Split.e), (102, slices_ContainsFunc_string_string_at_mastref2_IsPath_c1.e k)]
def mastref2_IsPath.a : Ann := .z
def mastref2_IsPath.L (k : Nat) : Nat → St sg.U → Option (RT sg.U [.bool]) := labs []
theorem mastref2_IsPath.f_eq (k : Nat) (a0 : ByteArray) : mastref2_IsPath.f k a0 = codeK (C := ctx) (mastref2_IsPath.O k) ⟨12, [], []⟩ (mastref2_IsPath.L k) (Tryd.f78.body.getD .skip) mastref2_IsPath.a (endK ctx [.bool] [(.tmp 2)]) (slotsOf sg.U 0 [(.d .str)] (a0, ()) (empty sg.U)) := by
  unfold mastref2_IsPath.f
  kernel_rfl
def mastref2_IsPath.e (k : Nat) : Entry sg := entryOf sg [(.d .str)] [.bool] (fun h => mastref2_IsPath.f k h.1)
def mastref2_IsPath.T : List (Lb sg (RT sg.U [.bool])) := []
theorem mastref2_IsPath.ok (k : Nat) : (mastref2_IsPath.e k).Sound Tryd.prog ctx 78 :=
  entry_ok base_ok mo (fn := Tryd.f78) (b := (Tryd.f78.body.getD .skip)) (pm := [(.d .str)]) (rs := [.bool]) (an := mastref2_IsPath.a) (N := 12) (vars := [(.tmp 2)]) Tryd.func78 (by kernel_rfl) (by kernel_rfl) (by kernel_rfl) (by kernel_rfl) (by kernel_rfl) (by kernel_rfl) (O := mastref2_IsPath.O)
    (fun k => by unfold mastref2_IsPath.O; exact oracle_of (P := Tryd.prog) (C := ctx) ⟨(strings_Split.ok), ⟨(slices_ContainsFunc_string_string_at_mastref2_IsPath_c1.ok k), trivial⟩⟩) mastref2_IsPath.T trivial k (fun h => mastref2_IsPath.f_eq k h.1)
def mastref2_IsAddress.f (k : Nat) (a0 : ByteArray) : Option (Bool) := (bif (seq a0 c__2f) then (some true) else (bif (ilt 2 (slen a0)) then ((sat a0 0).bind fun y1 => (bif (ieq y1 47) then ((sat a0 (wsub .i64 (slen a0) 1)).bind fun y2 => (bif (ieq y2 47) then ((ssub a0 1 (wsub .i64 (slen a0) 1)).bind fun y3 => ((mastref2_IsPath.f k y3).bind fun y4 => (some y4))) else (some false))) else (some false))) else (some false)))
def mastref2_IsAddress.O (k : Nat) : Oracle sg := fun n => lkp n [(78, mastref2_IsPath.e k)]
def mastref2_IsAddress.a : Ann := .z
def mastref2_IsAddress.L (k : Nat) : Nat → St sg.U → Option (RT sg.U [.bool]) := labs []
theorem mastref2_IsAddress.f_eq (k : Nat) (a0 : ByteArray) : mastref2_IsAddress.f k a0 = codeK (C := ctx) (mastref2_IsAddress.O k) ⟨31, [], []⟩ (mastref2_IsAddress.L k) (Tryd.f47.body.getD .skip) mastref2_IsAddress.a (endK ctx [.bool] [(.tmp 2)]) (slotsOf sg.U 0 [(.d .str)] (a0, ()) (empty sg.U)) := by
  unfold mastref2_IsAddress.f
  kernel_rfl
def mastref2_IsAddress.e (k : Nat) : Entry sg := entryOf sg [(.d .str)] [.bool] (fun h => mastref2_IsAddress.f k h.1)
def mastref2_IsAddress.T : List (Lb sg (RT sg.U [.bool])) := []
theorem mastref2_IsAddress.ok (k : Nat) : (mastref2_IsAddress.e k).Sound Tryd.prog ctx 47 :=
  entry_ok base_ok mo (fn := Tryd.f47) (b := (Tryd.f47.body.getD .skip)) (pm := [(.d .str)]) (rs := [.bool]) (an := mastref2_IsAddress.a) (N := 31) (vars := [(.tmp 2)]) Tryd.func47 (by kernel_rfl) (by kernel_rfl) (by kernel_rfl) (by kernel_rfl) (by kernel_rfl) (by kernel_rfl) (O := mastref2_IsAddress.O)
    (fun k => by unfold mastref2_IsAddress.O; exact oracle_of (P := Tryd.prog) (C := ctx) ⟨(mastref2_IsPath.ok k), trivial⟩) mastref2_IsAddress.T trivial k (fun h => mastref2_IsAddress.f_eq k h.1)
def mastref2_AddressOfTerm.f (k : Nat) (a0 : ByteArray) (a1 : ByteArray) : Option (ByteArray × Int) := ((scat a0 a1).bind fun y1 => ((scat y1 c__2f).bind fun y2 => ((mastref2_IsAddress.f k a0).bind fun y3 => (bif (!y3) then (some (c_empty, 3)) else ((mastref2_IsPart.f a1).bind fun y4 => (bif (!y4) then (some (c_empty, 3)) else ((mastref2_IsAddress.f k y2).bind fun y5 => (bif (!y5) then (some (c_empty, 3)) else (some (y2, 0))))))))))
def mastref2_AddressOfTerm.O (k : Nat) : Oracle sg := fun n => lkp n [(47, mastref2_IsAddress.e k), (48, mastref2_IsPart.e)]
def mastref2_AddressOfTerm.a : Ann := .z
def mastref2_AddressOfTerm.L (k : Nat) : Nat → St sg.U → Option (RT sg.U [.str, (.int .i64)]) := labs []
theorem mastref2_AddressOfTerm.f_eq (k : Nat) (a0 : ByteArray) (a1 : ByteArray) : mastref2_AddressOfTerm.f k a0 a1 = codeK (C := ctx) (mastref2_AddressOfTerm.O k) ⟨25, [], []⟩ (mastref2_AddressOfTerm.L k) (Tryd.f20.body.getD .skip) mastref2_AddressOfTerm.a (endK ctx [.str, (.int .i64)] [(.tmp 4), (.tmp 5)]) (slotsOf sg.U 0 [(.d .str), (.d .str)] (a0, a1, ()) (empty sg.U)) := by
  unfold mastref2_AddressOfTerm.f
  kernel_rfl
def mastref2_AddressOfTerm.e (k : Nat) : Entry sg := entryOf sg [(.d .str), (.d .str)] [.str, (.int .i64)] (fun h => mastref2_AddressOfTerm.f k h.1 h.2.1)
def mastref2_AddressOfTerm.T : List (Lb sg (RT sg.U [.str, (.int .i64)])) := []
theorem mastref2_AddressOfTerm.ok (k : Nat) : (mastref2_AddressOfTerm.e k).Sound Tryd.prog ctx 20 :=
  entry_ok base_ok mo (fn := Tryd.f20) (b := (Tryd.f20.body.getD .skip)) (pm := [(.d .str), (.d .str)]) (rs := [.str, (.int .i64)]) (an := mastref2_AddressOfTerm.a) (N := 25) (vars := [(.tmp 4), (.tmp 5)]) Tryd.func20 (by kernel_rfl) (by kernel_rfl) (by kernel_rfl) (by kernel_rfl) (by kernel_rfl) (by kernel_rfl) (O := mastref2_AddressOfTerm.O)
    (fun k => by unfold mastref2_AddressOfTerm.O; exact oracle_of (P := Tryd.prog) (C := ctx) ⟨(mastref2_IsAddress.ok k), ⟨(mastref2_IsPart.ok), trivial⟩⟩) mastref2_AddressOfTerm.T trivial k (fun h => mastref2_AddressOfTerm.f_eq k h.1 h.2.1)
def strconv_Itoa.f (a0 : Int) : Option (ByteArray) := if -9223372036854775808 ≤ a0 ∧ a0 ≤ 9223372036854775807 then some (⟨(Lib.itoa a0).toArray⟩) else none
def strconv_Itoa.e : Entry sg := entryOf sg [(.d (.int .i64))] [.str] (fun h => strconv_Itoa.f h.1)
theorem strconv_Itoa.ok : (strconv_Itoa.e).Sound Tryd.prog ctx 50 :=
  entry_extern (C := ctx) sg_ok Tryd.func50 (by kernel_rfl) (by kernel_rfl) (by kernel_rfl) (by kernel_rfl) (fun hh x w hx hG => by
    unfold strconv_Itoa.f at hx
    split at hx
    · rename_i c
      obtain rfl := Option.some.inj hx
      have htab : Lib.TabIs Tryd.prog w "internal/strconv.uint64pow10" .u64 Lib.pow10Tab := var_of (k := 2) (by kernel_rfl) (hG 2 (by simp [ctx, sg])) rfl
      refine (Tryd.strconv_Itoa hh.1 c.1 c.2 w htab).mono ?_
      rintro e w' ⟨rfl, hb⟩
      exact ⟨rfl, by first | exact hb ▸ Grow.refl _ | exact Grow.of_below hb | (obtain ⟨k, os, rfl⟩ := hb; exact Grow.of_below (Lib.below_grow _ w (Nat.le_refl _) k os))⟩
    · cases hx)
def list_number.f (a0 : Int) : Option (ByteArray) := ((strconv_Itoa.f a0).bind fun y1 => (some y1))
def list_number.O : Oracle sg := fun n => lkp n [(50, strconv_Itoa.e)]
def list_number.a : Ann := .z
def list_number.L : Nat → St sg.U → Option (RT sg.U [.str]) := labs []
theorem list_number.f_eq (a0 : Int) : list_number.f a0 = codeK (C := ctx) (list_number.O) ⟨5, [], []⟩ (list_number.L) (Tryd.f49.body.getD .skip) list_number.a (endK ctx [.str] [(.tmp 2)]) (slotsOf sg.U 0 [(.d (.int .i64))] (a0, ()) (empty sg.U)) := by
  unfold list_number.f
  kernel_rfl
def list_number.e : Entry sg := entryOf sg [(.d (.int .i64))] [.str] (fun h => list_number.f h.1)
def list_number.T : List (Lb sg (RT sg.U [.str])) := []
theorem list_number.ok : (list_number.e).Sound Tryd.prog ctx 49 :=
  entry_ok base_ok mo (fn := Tryd.f49) (b := (Tryd.f49.body.getD .skip)) (pm := [(.d (.int .i64))]) (rs := [.str]) (an := list_number.a) (N := 5) (vars := [(.tmp 2)]) Tryd.func49 (by kernel_rfl) (by kernel_rfl) (by kernel_rfl) (by kernel_rfl) (by kernel_rfl) (by kernel_rfl) (O := fun _ => list_number.O)
    (fun _ => by unfold list_number.O; exact oracle_of (P := Tryd.prog) (C := ctx) ⟨(strconv_Itoa.ok), trivial⟩) list_number.T trivial 0 (fun h => list_number.f_eq h.1)
def list_PartAddress.f (k : Nat) (a0 : ByteArray) (a1 : Int) : Option (ByteArray × Int) := ((tree_CheckAddress.f k a0).bind fun y1 => (bif (!ieq y1 0) then (some (c_empty, 3)) else (bif (bif (ilt a1 1) then true else (ilt 2000 a1)) then (some (c_empty, 2)) else (bif (ieq a1 1) then (some (a0, 0)) else ((scat a0 c_page_2f).bind fun y2 => ((list_number.f a1).bind fun y3 => ((scat y2 y3).bind fun y4 => ((scat y4 c__2f).bind fun y5 => ((tree_CheckAddress.f k y5).bind fun y6 => (bif (!ieq y6 0) then (some (c_empty, 3)) else (some (y5, 0))))))))))))
def list_PartAddress.O (k : Nat) : Oracle sg := fun n => lkp n [(45, tree_CheckAddress.e k), (49, list_number.e)]
def list_PartAddress.a : Ann := .z
def list_PartAddress.L (k : Nat) : Nat → St sg.U → Option (RT sg.U [.str, (.int .i64)]) := labs []
theorem list_PartAddress.f_eq (k : Nat) (a0 : ByteArray) (a1 : Int) : list_PartAddress.f k a0 a1 = codeK (C := ctx) (list_PartAddress.O k) ⟨29, [], []⟩ (list_PartAddress.L k) (Tryd.f21.body.getD .skip) list_PartAddress.a (endK ctx [.str, (.int .i64)] [(.tmp 4), (.tmp 5)]) (slotsOf sg.U 0 [(.d .str), (.d (.int .i64))] (a0, a1, ()) (empty sg.U)) := by
  unfold list_PartAddress.f
  kernel_rfl
def list_PartAddress.e (k : Nat) : Entry sg := entryOf sg [(.d .str), (.d (.int .i64))] [.str, (.int .i64)] (fun h => list_PartAddress.f k h.1 h.2.1)
def list_PartAddress.T : List (Lb sg (RT sg.U [.str, (.int .i64)])) := []
theorem list_PartAddress.ok (k : Nat) : (list_PartAddress.e k).Sound Tryd.prog ctx 21 :=
  entry_ok base_ok mo (fn := Tryd.f21) (b := (Tryd.f21.body.getD .skip)) (pm := [(.d .str), (.d (.int .i64))]) (rs := [.str, (.int .i64)]) (an := list_PartAddress.a) (N := 29) (vars := [(.tmp 4), (.tmp 5)]) Tryd.func21 (by kernel_rfl) (by kernel_rfl) (by kernel_rfl) (by kernel_rfl) (by kernel_rfl) (by kernel_rfl) (O := list_PartAddress.O)
    (fun k => by unfold list_PartAddress.O; exact oracle_of (P := Tryd.prog) (C := ctx) ⟨(tree_CheckAddress.ok k), ⟨(list_number.ok), trivial⟩⟩) list_PartAddress.T trivial k (fun h => list_PartAddress.f_eq k h.1 h.2.1)
def mastref2_AddressOfPart.l0 : Nat → ByteArray → Int → ByteArray → Option (ByteArray × Int)
  | 0, _, _, _ => none
  | k + 1, x0, x1, x6 => ((mastref2_IsAddress.f k x0).bind fun y5 => (bif (!y5) then (some (c_empty, 3)) else (bif (bif (ilt x1 1) then true else (ilt 2000 x1)) then (some (c_empty, 2)) else ((mastref2_IsAddress.f k x6).bind fun y6 => (bif (!y6) then (some (c_empty, 3)) else (some (x6, 0)))))))
def mastref2_AddressOfPart.f (k : Nat) (a0 : ByteArray) (a1 : Int) : Option (ByteArray × Int) := (bif (!ieq a1 1) then ((strconv_Itoa.f a1).bind fun y1 => ((scat c_page_2f y1).bind fun y2 => ((scat y2 c__2f).bind fun y3 => ((scat a0 y3).bind fun y4 => (mastref2_AddressOfPart.l0 k a0 a1 y4))))) else (mastref2_AddressOfPart.l0 k a0 a1 a0))
def mastref2_AddressOfPart.O (k : Nat) : Oracle sg := fun n => lkp n [(47, mastref2_IsAddress.e k), (50, strconv_Itoa.e)]
def mastref2_AddressOfPart.a : Ann := (.n .z (.n .z (.n .z (.lab 0 .z))))
def mastref2_AddressOfPart.L (k : Nat) : Nat → St sg.U → Option (RT sg.U [.str, (.int .i64)]) := labs [(0, labOf sg [(0, (.d .str)), (1, (.d (.int .i64))), (6, (.d .str))] (fun h => mastref2_AddressOfPart.l0 k h.1 h.2.1 h.2.2.1))]
theorem mastref2_AddressOfPart.l0_eq (k : Nat) (x0 : ByteArray) (x1 : Int) (x6 : ByteArray) : mastref2_AddressOfPart.l0 (k + 1) x0 x1 x6 = runFrom (C := ctx) (mastref2_AddressOfPart.O k) ⟨29, [], []⟩ (mastref2_AddressOfPart.L k) (Tryd.f22.body.getD .skip) mastref2_AddressOfPart.a 0 (endK ctx [.str, (.int .i64)] [(.tmp 4), (.tmp 5)]) (encD [(0, (.d .str)), (1, (.d (.int .i64))), (6, (.d .str))] (x0, x1, x6, ()) (startD sg.U ⟨29, [], []⟩ [(0, (.d .str)), (1, (.d (.int .i64))), (6, (.d .str))])) := by
  rw [mastref2_AddressOfPart.l0]
  kernel_rfl
theorem mastref2_AddressOfPart.f_eq (k : Nat) (a0 : ByteArray) (a1 : Int) : mastref2_AddressOfPart.f k a0 a1 = codeK (C := ctx) (mastref2_AddressOfPart.O k) ⟨29, [], []⟩ (mastref2_AddressOfPart.L k) (Tryd.f22.body.getD .skip) mastref2_AddressOfPart.a (endK ctx [.str, (.int .i64)] [(.tmp 4), (.tmp 5)]) (slotsOf sg.U 0 [(.d .str), (.d (.int .i64))] (a0, a1, ()) (empty sg.U)) := by
  unfold mastref2_AddressOfPart.f
  kernel_rfl
def mastref2_AddressOfPart.e (k : Nat) : Entry sg := entryOf sg [(.d .str), (.d (.int .i64))] [.str, (.int .i64)] (fun h => mastref2_AddressOfPart.f k h.1 h.2.1)
def mastref2_AddressOfPart.T : List (Lb sg (RT sg.U [.str, (.int .i64)])) := [⟨0, [(0, (.d .str)), (1, (.d (.int .i64))), (6, (.d .str))], fun k h => mastref2_AddressOfPart.l0 k h.1 h.2.1 h.2.2.1⟩]
theorem mastref2_AddressOfPart.ok (k : Nat) : (mastref2_AddressOfPart.e k).Sound Tryd.prog ctx 22 :=
  entry_ok base_ok mo (fn := Tryd.f22) (b := (Tryd.f22.body.getD .skip)) (pm := [(.d .str), (.d (.int .i64))]) (rs := [.str, (.int .i64)]) (an := mastref2_AddressOfPart.a) (N := 29) (vars := [(.tmp 4), (.tmp 5)]) Tryd.func22 (by kernel_rfl) (by kernel_rfl) (by kernel_rfl) (by kernel_rfl) (by kernel_rfl) (by kernel_rfl) (O := mastref2_AddressOfPart.O)
    (fun k => by unfold mastref2_AddressOfPart.O; exact oracle_of (P := Tryd.prog) (C := ctx) ⟨(mastref2_IsAddress.ok k), ⟨(strconv_Itoa.ok), trivial⟩⟩) mastref2_AddressOfPart.T ⟨⟨by kernel_rfl, fun _ => by first | rfl | rw [mastref2_AddressOfPart.l0], fun k h => mastref2_AddressOfPart.l0_eq k h.1 h.2.1 h.2.2.1⟩, trivial⟩ k (fun h => mastref2_AddressOfPart.f_eq k h.1 h.2.1)
def mastlaw2_TermPlaces.f (k : Nat) (a0 : ByteArray) (a1 : ByteArray) (a2 : Int) : Option (Bool) := ((list_TermAddress.f k a0 a1).bind fun y1 => ((mastref2_AddressOfTerm.f k a0 a1).bind fun y2 => ((list_PartAddress.f k a0 a2).bind fun y3 => ((mastref2_AddressOfPart.f k a0 a2).bind fun y4 => (some (bif (bif (bif (seq y1.1 y2.1) then (seq y3.1 y4.1) else false) then (ieq y1.2 y2.2) else false) then (ieq y3.2 y4.2) else false))))))
def mastlaw2_TermPlaces.O (k : Nat) : Oracle sg := fun n => lkp n [(19, list_TermAddress.e k), (20, mastref2_AddressOfTerm.e k), (21, list_PartAddress.e k), (22, mastref2_AddressOfPart.e k)]
def mastlaw2_TermPlaces.a : Ann := .z
def mastlaw2_TermPlaces.L (k : Nat) : Nat → St sg.U → Option (RT sg.U [.bool]) := labs []
theorem mastlaw2_TermPlaces.f_eq (k : Nat) (a0 : ByteArray) (a1 : ByteArray) (a2 : Int) : mastlaw2_TermPlaces.f k a0 a1 a2 = codeK (C := ctx) (mastlaw2_TermPlaces.O k) ⟨57, [], []⟩ (mastlaw2_TermPlaces.L k) (Tryd.f8.body.getD .skip) mastlaw2_TermPlaces.a (endK ctx [.bool] [(.tmp 6)]) (slotsOf sg.U 0 [(.d .str), (.d .str), (.d (.int .i64))] (a0, a1, a2, ()) (empty sg.U)) := by
  unfold mastlaw2_TermPlaces.f
  kernel_rfl
def mastlaw2_TermPlaces.e (k : Nat) : Entry sg := entryOf sg [(.d .str), (.d .str), (.d (.int .i64))] [.bool] (fun h => mastlaw2_TermPlaces.f k h.1 h.2.1 h.2.2.1)
def mastlaw2_TermPlaces.T : List (Lb sg (RT sg.U [.bool])) := []
theorem mastlaw2_TermPlaces.ok (k : Nat) : (mastlaw2_TermPlaces.e k).Sound Tryd.prog ctx 8 :=
  entry_ok base_ok mo (fn := Tryd.f8) (b := (Tryd.f8.body.getD .skip)) (pm := [(.d .str), (.d .str), (.d (.int .i64))]) (rs := [.bool]) (an := mastlaw2_TermPlaces.a) (N := 57) (vars := [(.tmp 6)]) Tryd.func8 (by kernel_rfl) (by kernel_rfl) (by kernel_rfl) (by kernel_rfl) (by kernel_rfl) (by kernel_rfl) (O := mastlaw2_TermPlaces.O)
    (fun k => by unfold mastlaw2_TermPlaces.O; exact oracle_of (P := Tryd.prog) (C := ctx) ⟨(list_TermAddress.ok k), ⟨(mastref2_AddressOfTerm.ok k), ⟨(list_PartAddress.ok k), ⟨(mastref2_AddressOfPart.ok k), trivial⟩⟩⟩⟩) mastlaw2_TermPlaces.T trivial k (fun h => mastlaw2_TermPlaces.f_eq k h.1 h.2.1 h.2.2.1)
end Go.Proofs.YtdffbjbpolhliaaDoor.LTermPlaces
