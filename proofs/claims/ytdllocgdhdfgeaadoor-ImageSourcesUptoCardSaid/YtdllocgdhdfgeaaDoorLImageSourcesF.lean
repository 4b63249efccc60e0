/- The functions behind the law ImageSources, checked against the code; their summaries hold. Conditions: none. -/
import Derived.Test.YtdllocgdhdfgeaaDoorLiftZ
import Derived.Test.YtdllocgdhdfgeaaDoorProg
import Derived.Test.YtdllocgdhdfgeaaDoorShelf
import Derived.Shelf.Strings.SlTrimAscii
namespace Go.Proofs.YtdllocgdhdfgeaaDoor.LImageSources
open Go Go.Proofs.YtdllocgdhdfgeaaDoor.Lift
set_option maxRecDepth 100000
set_option linter.unusedVariables false
abbrev sgU : Nat → Type
  | _ => Unit
abbrev sgF : Nat → List Ty
  | _ => []
def sgO : (n : Nat) → sgU n → HL sgU (sgF n)
  | _, _ => ()
def sgB : (n : Nat) → HL sgU (sgF n) → sgU n
  | _, _ => ()
def sg : Sg := { U := sgU, fl := sgF, out := sgO, bld := sgB, gl := [0, 1], gp := fun k c => match k with | 1 => c = (Lib.pow10Tab.map fun z => Value.int .u64 z).toArray | _ => ∃ m, c[0]? = some (.int .i64 m) }
def ctx : Ctx := { S := sg, ty := [(3, .d (.int .i64) 1 0), (5, .d (.int .u8) 1 0), (9, .d .str 1 0), (22, .d (.sl (.int .i64)) 8 3), (25, .d (.int .i64) 1 0), (30, .d (.sl .str) 16 9)], eqs := [] }
def c_empty : ByteArray := ⟨#[]⟩
def c__2f : ByteArray := ⟨#[47]⟩
def c__2e : ByteArray := ⟨#[46]⟩
def c__2e_2e : ByteArray := ⟨#[46, 46]⟩
def c__3fw_3d : ByteArray := ⟨#[63, 119, 61]⟩
def c__20 : ByteArray := ⟨#[32]⟩
def c_w : ByteArray := ⟨#[119]⟩
def c__2c_20 : ByteArray := ⟨#[44, 32]⟩
def c_abcdefghijklmnopqrst_c1516678 : ByteArray := ⟨#[97, 98, 99, 100, 101, 102, 103, 104, 105, 106, 107, 108, 109, 110, 111, 112, 113, 114, 115, 116, 117, 118, 119, 120, 121, 122, 48, 49, 50, 51, 52, 53, 54, 55, 56, 57, 45, 95, 46]⟩
theorem sg_ok : SgOk sg :=
  ⟨fun n h => by rcases n with n <;> rfl, fun n => by rcases n with n <;> rfl, fun n x => by rcases n with n <;> rfl, fun n => by rcases n with n <;> rfl⟩
theorem base_ok : Base Tryd.prog ctx := base_of sg_ok (by kernel_rfl) (eqOk_of (by kernel_rfl))
theorem open_ok : openB Tryd.prog ctx = true := by kernel_rfl
theorem mo : Tryd.prog.follows .mixedOrders = true := by kernel_rfl
def internal_stringslite_HasPrefix.f (a0 : ByteArray) (a1 : ByteArray) : Option (Bool) := (bif (ile (slen a1) (slen a0)) then ((ssub a0 0 (slen a1)).bind fun y1 => (some (seq y1 a1))) else (some false))
def internal_stringslite_HasPrefix.O : Oracle sg := fun n => lkp n []
def internal_stringslite_HasPrefix.a : Ann := .z
def internal_stringslite_HasPrefix.L : Nat → St sg.U → Option (RT sg.U [.bool]) := labs []
theorem internal_stringslite_HasPrefix.f_eq (a0 : ByteArray) (a1 : ByteArray) : internal_stringslite_HasPrefix.f a0 a1 = codeK (C := ctx) (internal_stringslite_HasPrefix.O) ⟨18, [], []⟩ (internal_stringslite_HasPrefix.L) (Tryd.f58.body.getD .skip) internal_stringslite_HasPrefix.a (endK ctx [.bool] [(.tmp 4)]) (slotsOf sg.U 0 [(.d .str), (.d .str)] (a0, a1, ()) (empty sg.U)) := by
  unfold internal_stringslite_HasPrefix.f
  kernel_rfl
def internal_stringslite_HasPrefix.e : Entry sg := entryOf sg [(.d .str), (.d .str)] [.bool] (fun h => internal_stringslite_HasPrefix.f h.1 h.2.1)
def internal_stringslite_HasPrefix.T : List (Lb sg (RT sg.U [.bool])) := []
theorem internal_stringslite_HasPrefix.ok : (internal_stringslite_HasPrefix.e).Sound Tryd.prog ctx 58 :=
  entry_ok base_ok mo (fn := Tryd.f58) (b := (Tryd.f58.body.getD .skip)) (pm := [(.d .str), (.d .str)]) (rs := [.bool]) (an := internal_stringslite_HasPrefix.a) (N := 18) (vars := [(.tmp 4)]) Tryd.func58 (by kernel_rfl) (by kernel_rfl) (by kernel_rfl) (by kernel_rfl) (by kernel_rfl) (by kernel_rfl) (O := fun _ => internal_stringslite_HasPrefix.O)
    (fun _ => by unfold internal_stringslite_HasPrefix.O; exact oracle_of (P := Tryd.prog) (C := ctx) trivial) internal_stringslite_HasPrefix.T trivial 0 (fun h => internal_stringslite_HasPrefix.f_eq h.1 h.2.1)
def strings_HasPrefix.f (a0 : ByteArray) (a1 : ByteArray) : Option (Bool) := ((internal_stringslite_HasPrefix.f a0 a1).bind fun y1 => (some y1))
def strings_HasPrefix.O : Oracle sg := fun n => lkp n [(58, internal_stringslite_HasPrefix.e)]
def strings_HasPrefix.a : Ann := .z
def strings_HasPrefix.L : Nat → St sg.U → Option (RT sg.U [.bool]) := labs []
theorem strings_HasPrefix.f_eq (a0 : ByteArray) (a1 : ByteArray) : strings_HasPrefix.f a0 a1 = codeK (C := ctx) (strings_HasPrefix.O) ⟨8, [], []⟩ (strings_HasPrefix.L) (Tryd.f33.body.getD .skip) strings_HasPrefix.a (endK ctx [.bool] [(.tmp 4)]) (slotsOf sg.U 0 [(.d .str), (.d .str)] (a0, a1, ()) (empty sg.U)) := by
  unfold strings_HasPrefix.f
  kernel_rfl
def strings_HasPrefix.e : Entry sg := entryOf sg [(.d .str), (.d .str)] [.bool] (fun h => strings_HasPrefix.f h.1 h.2.1)
def strings_HasPrefix.T : List (Lb sg (RT sg.U [.bool])) := []
theorem strings_HasPrefix.ok : (strings_HasPrefix.e).Sound Tryd.prog ctx 33 :=
  entry_ok base_ok mo (fn := Tryd.f33) (b := (Tryd.f33.body.getD .skip)) (pm := [(.d .str), (.d .str)]) (rs := [.bool]) (an := strings_HasPrefix.a) (N := 8) (vars := [(.tmp 4)]) Tryd.func33 (by kernel_rfl) (by kernel_rfl) (by kernel_rfl) (by kernel_rfl) (by kernel_rfl) (by kernel_rfl) (O := fun _ => strings_HasPrefix.O)
    (fun _ => by unfold strings_HasPrefix.O; exact oracle_of (P := Tryd.prog) (C := ctx) ⟨(internal_stringslite_HasPrefix.ok), trivial⟩) strings_HasPrefix.T trivial 0 (fun h => strings_HasPrefix.f_eq h.1 h.2.1)
def strings_Split.f (a0 : ByteArray) (a1 : ByteArray) : Option ((List ByteArray)) := splitF a0 a1
def strings_Split.e : Entry sg := entryOf sg [(.d .str), (.d .str)] [(.sl .str)] (fun h => strings_Split.f h.1 h.2.1)
theorem strings_Split.ok : (strings_Split.e).Sound Tryd.prog ctx 44 :=
  split_sound (C := ctx) sg_ok Tryd.func44 (by kernel_rfl) (by kernel_rfl) (kM := 0) (fun w hG => by obtain ⟨m, hm⟩ := hG 0 (by simp [ctx, sg]); exact ⟨m, cells_cell hm⟩) (fun s sep m w hs hm h1 => Tryd.strings_Split s sep m w hs hm h1)
def tree_isSmall.f (a0 : Int) : Option (Bool) := (some (bif (ile 97 a0) then (ile a0 122) else false))
def tree_isSmall.O : Oracle sg := fun n => lkp n []
def tree_isSmall.a : Ann := .z
def tree_isSmall.L : Nat → St sg.U → Option (RT sg.U [.bool]) := labs []
theorem tree_isSmall.f_eq (a0 : Int) : tree_isSmall.f a0 = codeK (C := ctx) (tree_isSmall.O) ⟨9, [], []⟩ (tree_isSmall.L) (Tryd.f111.body.getD .skip) tree_isSmall.a (endK ctx [.bool] [(.tmp 2)]) (slotsOf sg.U 0 [(.d (.int .u8))] (a0, ()) (empty sg.U)) := by
  unfold tree_isSmall.f
  kernel_rfl
def tree_isSmall.e : Entry sg := entryOf sg [(.d (.int .u8))] [.bool] (fun h => tree_isSmall.f h.1)
def tree_isSmall.T : List (Lb sg (RT sg.U [.bool])) := []
theorem tree_isSmall.ok : (tree_isSmall.e).Sound Tryd.prog ctx 111 :=
  entry_ok base_ok mo (fn := Tryd.f111) (b := (Tryd.f111.body.getD .skip)) (pm := [(.d (.int .u8))]) (rs := [.bool]) (an := tree_isSmall.a) (N := 9) (vars := [(.tmp 2)]) Tryd.func111 (by kernel_rfl) (by kernel_rfl) (by kernel_rfl) (by kernel_rfl) (by kernel_rfl) (by kernel_rfl) (O := fun _ => tree_isSmall.O)
    (fun _ => by unfold tree_isSmall.O; exact oracle_of (P := Tryd.prog) (C := ctx) trivial) tree_isSmall.T trivial 0 (fun h => tree_isSmall.f_eq h.1)
def tree_isDigit.f (a0 : Int) : Option (Bool) := (some (bif (ile 48 a0) then (ile a0 57) else false))
def tree_isDigit.O : Oracle sg := fun n => lkp n []
def tree_isDigit.a : Ann := .z
def tree_isDigit.L : Nat → St sg.U → Option (RT sg.U [.bool]) := labs []
theorem tree_isDigit.f_eq (a0 : Int) : tree_isDigit.f a0 = codeK (C := ctx) (tree_isDigit.O) ⟨9, [], []⟩ (tree_isDigit.L) (Tryd.f112.body.getD .skip) tree_isDigit.a (endK ctx [.bool] [(.tmp 2)]) (slotsOf sg.U 0 [(.d (.int .u8))] (a0, ()) (empty sg.U)) := by
  unfold tree_isDigit.f
  kernel_rfl
def tree_isDigit.e : Entry sg := entryOf sg [(.d (.int .u8))] [.bool] (fun h => tree_isDigit.f h.1)
def tree_isDigit.T : List (Lb sg (RT sg.U [.bool])) := []
theorem tree_isDigit.ok : (tree_isDigit.e).Sound Tryd.prog ctx 112 :=
  entry_ok base_ok mo (fn := Tryd.f112) (b := (Tryd.f112.body.getD .skip)) (pm := [(.d (.int .u8))]) (rs := [.bool]) (an := tree_isDigit.a) (N := 9) (vars := [(.tmp 2)]) Tryd.func112 (by kernel_rfl) (by kernel_rfl) (by kernel_rfl) (by kernel_rfl) (by kernel_rfl) (by kernel_rfl) (O := fun _ => tree_isDigit.O)
    (fun _ => by unfold tree_isDigit.O; exact oracle_of (P := Tryd.prog) (C := ctx) trivial) tree_isDigit.T trivial 0 (fun h => tree_isDigit.f_eq h.1)
def tree_isPart.l0 : Nat → ByteArray → Int → Option (Bool)
  | 0, _, _ => none
  | k + 1, x0, x3 => (bif (ilt x3 (slen x0)) then ((sat x0 x3).bind fun y1 => ((tree_isSmall.f y1).bind fun y2 => (bif (!y2) then ((sat x0 x3).bind fun y3 => ((tree_isDigit.f y3).bind fun y4 => (bif (!y4) then ((sat x0 x3).bind fun y5 => (bif (!ieq y5 45) then ((sat x0 x3).bind fun y6 => (bif (!ieq y6 95) then ((sat x0 x3).bind fun y7 => (bif (!ieq y7 46) then (some false) else (tree_isPart.l0 k x0 (wadd .i64 x3 1)))) else (tree_isPart.l0 k x0 (wadd .i64 x3 1)))) else (tree_isPart.l0 k x0 (wadd .i64 x3 1)))) else (tree_isPart.l0 k x0 (wadd .i64 x3 1))))) else (tree_isPart.l0 k x0 (wadd .i64 x3 1))))) else (some true))
def tree_isPart.f (k : Nat) (a0 : ByteArray) : Option (Bool) := (bif (bif (bif (bif (seq a0 c_empty) then true else (ilt 40 (slen a0))) then true else (seq a0 c__2e)) then true else (seq a0 c__2e_2e)) then (some false) else (tree_isPart.l0 k a0 0))
def tree_isPart.O (k : Nat) : Oracle sg := fun n => lkp n [(111, tree_isSmall.e), (112, tree_isDigit.e)]
def tree_isPart.a : Ann := (.n .z (.n .z (.n (.n .z (.lp 0 .z)) .z)))
def tree_isPart.L (k : Nat) : Nat → St sg.U → Option (RT sg.U [.bool]) := labs [(0, labOf sg [(0, (.d .str)), (3, (.d (.int .i64)))] (fun h => tree_isPart.l0 k h.1 h.2.1))]
theorem tree_isPart.l0_eq (k : Nat) (x0 : ByteArray) (x3 : Int) : tree_isPart.l0 (k + 1) x0 x3 = runFrom (C := ctx) (tree_isPart.O k) ⟨55, [], []⟩ (tree_isPart.L k) (Tryd.f98.body.getD .skip) tree_isPart.a 0 (endK ctx [.bool] [(.tmp 2)]) (encD [(0, (.d .str)), (3, (.d (.int .i64)))] (x0, x3, ()) (startD sg.U ⟨55, [], []⟩ [(0, (.d .str)), (3, (.d (.int .i64)))])) := by
  rw [tree_isPart.l0]
  kernel_rfl
theorem tree_isPart.f_eq (k : Nat) (a0 : ByteArray) : tree_isPart.f k a0 = codeK (C := ctx) (tree_isPart.O k) ⟨55, [], []⟩ (tree_isPart.L k) (Tryd.f98.body.getD .skip) tree_isPart.a (endK ctx [.bool] [(.tmp 2)]) (slotsOf sg.U 0 [(.d .str)] (a0, ()) (empty sg.U)) := by
  unfold tree_isPart.f
  kernel_rfl
def tree_isPart.e (k : Nat) : Entry sg := entryOf sg [(.d .str)] [.bool] (fun h => tree_isPart.f k h.1)
def tree_isPart.T : List (Lb sg (RT sg.U [.bool])) := [⟨0, [(0, (.d .str)), (3, (.d (.int .i64)))], fun k h => tree_isPart.l0 k h.1 h.2.1⟩]
theorem tree_isPart.ok (k : Nat) : (tree_isPart.e k).Sound Tryd.prog ctx 98 :=
  entry_ok base_ok mo (fn := Tryd.f98) (b := (Tryd.f98.body.getD .skip)) (pm := [(.d .str)]) (rs := [.bool]) (an := tree_isPart.a) (N := 55) (vars := [(.tmp 2)]) Tryd.func98 (by kernel_rfl) (by kernel_rfl) (by kernel_rfl) (by kernel_rfl) (by kernel_rfl) (by kernel_rfl) (O := tree_isPart.O)
    (fun k => by unfold tree_isPart.O; exact oracle_of (P := Tryd.prog) (C := ctx) ⟨(tree_isSmall.ok), ⟨(tree_isDigit.ok), trivial⟩⟩) tree_isPart.T ⟨⟨by kernel_rfl, fun _ => by first | rfl | rw [tree_isPart.l0], fun k h => tree_isPart.l0_eq k h.1 h.2.1⟩, trivial⟩ k (fun h => tree_isPart.f_eq k h.1)
def tree_isPath.l0 : Nat → (List ByteArray) → Int → Int → Option (Bool)
  | 0, _, _, _ => none
  | k + 1, x9, x10, x11 => (bif (ilt x11 x10) then ((lat x9 x11).bind fun y2 => ((tree_isPart.f k y2).bind fun y3 => (bif (!y3) then (some false) else (tree_isPath.l0 k x9 x10 (wadd .i64 x11 1))))) else (some true))
def tree_isPath.f (k : Nat) (a0 : ByteArray) : Option (Bool) := (bif (ilt 200 (slen a0)) then (some false) else ((strings_Split.f a0 c__2f).bind fun y1 => (tree_isPath.l0 k y1 (llen y1) 0)))
def tree_isPath.O (k : Nat) : Oracle sg := fun n => lkp n [(44, strings_Split.e), (98, tree_isPart.e k)]
def tree_isPath.a : Ann := (.n .z (.n .z (.n (.n .z (.lp 0 .z)) .z)))
def tree_isPath.L (k : Nat) : Nat → St sg.U → Option (RT sg.U [.bool]) := labs [(0, labOf sg [(9, (.d (.sl .str))), (10, (.d (.int .i64))), (11, (.d (.int .i64)))] (fun h => tree_isPath.l0 k h.1 h.2.1 h.2.2.1))]
theorem tree_isPath.l0_eq (k : Nat) (x9 : (List ByteArray)) (x10 : Int) (x11 : Int) : tree_isPath.l0 (k + 1) x9 x10 x11 = runFrom (C := ctx) (tree_isPath.O k) ⟨19, [], []⟩ (tree_isPath.L k) (Tryd.f77.body.getD .skip) tree_isPath.a 0 (endK ctx [.bool] [(.tmp 2)]) (encD [(9, (.d (.sl .str))), (10, (.d (.int .i64))), (11, (.d (.int .i64)))] (x9, x10, x11, ()) (startD sg.U ⟨19, [], []⟩ [(9, (.d (.sl .str))), (10, (.d (.int .i64))), (11, (.d (.int .i64)))])) := by
  rw [tree_isPath.l0]
  kernel_rfl
theorem tree_isPath.f_eq (k : Nat) (a0 : ByteArray) : tree_isPath.f k a0 = codeK (C := ctx) (tree_isPath.O k) ⟨19, [], []⟩ (tree_isPath.L k) (Tryd.f77.body.getD .skip) tree_isPath.a (endK ctx [.bool] [(.tmp 2)]) (slotsOf sg.U 0 [(.d .str)] (a0, ()) (empty sg.U)) := by
  unfold tree_isPath.f
  kernel_rfl
def tree_isPath.e (k : Nat) : Entry sg := entryOf sg [(.d .str)] [.bool] (fun h => tree_isPath.f k h.1)
def tree_isPath.T : List (Lb sg (RT sg.U [.bool])) := [⟨0, [(9, (.d (.sl .str))), (10, (.d (.int .i64))), (11, (.d (.int .i64)))], fun k h => tree_isPath.l0 k h.1 h.2.1 h.2.2.1⟩]
theorem tree_isPath.ok (k : Nat) : (tree_isPath.e k).Sound Tryd.prog ctx 77 :=
  entry_ok base_ok mo (fn := Tryd.f77) (b := (Tryd.f77.body.getD .skip)) (pm := [(.d .str)]) (rs := [.bool]) (an := tree_isPath.a) (N := 19) (vars := [(.tmp 2)]) Tryd.func77 (by kernel_rfl) (by kernel_rfl) (by kernel_rfl) (by kernel_rfl) (by kernel_rfl) (by kernel_rfl) (O := tree_isPath.O)
    (fun k => by unfold tree_isPath.O; exact oracle_of (P := Tryd.prog) (C := ctx) ⟨(strings_Split.ok), ⟨(tree_isPart.ok k), trivial⟩⟩) tree_isPath.T ⟨⟨by kernel_rfl, fun _ => by first | rfl | rw [tree_isPath.l0], fun k h => tree_isPath.l0_eq k h.1 h.2.1 h.2.2.1⟩, trivial⟩ k (fun h => tree_isPath.f_eq k h.1)
def tree_CheckPath.f (k : Nat) (a0 : ByteArray) : Option (Int) := ((tree_isPath.f k a0).bind fun y1 => (bif (!y1) then (some 3) else (some 0)))
def tree_CheckPath.O (k : Nat) : Oracle sg := fun n => lkp n [(77, tree_isPath.e k)]
def tree_CheckPath.a : Ann := .z
def tree_CheckPath.L (k : Nat) : Nat → St sg.U → Option (RT sg.U [(.int .i64)]) := labs []
theorem tree_CheckPath.f_eq (k : Nat) (a0 : ByteArray) : tree_CheckPath.f k a0 = codeK (C := ctx) (tree_CheckPath.O k) ⟨6, [], []⟩ (tree_CheckPath.L k) (Tryd.f59.body.getD .skip) tree_CheckPath.a (endK ctx [(.int .i64)] [(.tmp 2)]) (slotsOf sg.U 0 [(.d .str)] (a0, ()) (empty sg.U)) := by
  unfold tree_CheckPath.f
  kernel_rfl
def tree_CheckPath.e (k : Nat) : Entry sg := entryOf sg [(.d .str)] [(.int .i64)] (fun h => tree_CheckPath.f k h.1)
def tree_CheckPath.T : List (Lb sg (RT sg.U [(.int .i64)])) := []
theorem tree_CheckPath.ok (k : Nat) : (tree_CheckPath.e k).Sound Tryd.prog ctx 59 :=
  entry_ok base_ok mo (fn := Tryd.f59) (b := (Tryd.f59.body.getD .skip)) (pm := [(.d .str)]) (rs := [(.int .i64)]) (an := tree_CheckPath.a) (N := 6) (vars := [(.tmp 2)]) Tryd.func59 (by kernel_rfl) (by kernel_rfl) (by kernel_rfl) (by kernel_rfl) (by kernel_rfl) (by kernel_rfl) (O := tree_CheckPath.O)
    (fun k => by unfold tree_CheckPath.O; exact oracle_of (P := Tryd.prog) (C := ctx) ⟨(tree_isPath.ok k), trivial⟩) tree_CheckPath.T trivial k (fun h => tree_CheckPath.f_eq k h.1)
def asset_isPath.f (k : Nat) (a0 : ByteArray) : Option (Bool) := ((tree_CheckPath.f k a0).bind fun y1 => (some (ieq y1 0)))
def asset_isPath.O (k : Nat) : Oracle sg := fun n => lkp n [(59, tree_CheckPath.e k)]
def asset_isPath.a : Ann := .z
def asset_isPath.L (k : Nat) : Nat → St sg.U → Option (RT sg.U [.bool]) := labs []
theorem asset_isPath.f_eq (k : Nat) (a0 : ByteArray) : asset_isPath.f k a0 = codeK (C := ctx) (asset_isPath.O k) ⟨6, [], []⟩ (asset_isPath.L k) (Tryd.f34.body.getD .skip) asset_isPath.a (endK ctx [.bool] [(.tmp 2)]) (slotsOf sg.U 0 [(.d .str)] (a0, ()) (empty sg.U)) := by
  unfold asset_isPath.f
  kernel_rfl
def asset_isPath.e (k : Nat) : Entry sg := entryOf sg [(.d .str)] [.bool] (fun h => asset_isPath.f k h.1)
def asset_isPath.T : List (Lb sg (RT sg.U [.bool])) := []
theorem asset_isPath.ok (k : Nat) : (asset_isPath.e k).Sound Tryd.prog ctx 34 :=
  entry_ok base_ok mo (fn := Tryd.f34) (b := (Tryd.f34.body.getD .skip)) (pm := [(.d .str)]) (rs := [.bool]) (an := asset_isPath.a) (N := 6) (vars := [(.tmp 2)]) Tryd.func34 (by kernel_rfl) (by kernel_rfl) (by kernel_rfl) (by kernel_rfl) (by kernel_rfl) (by kernel_rfl) (O := asset_isPath.O)
    (fun k => by unfold asset_isPath.O; exact oracle_of (P := Tryd.prog) (C := ctx) ⟨(tree_CheckPath.ok k), trivial⟩) asset_isPath.T trivial k (fun h => asset_isPath.f_eq k h.1)
def strconv_Itoa.f (a0 : Int) : Option (ByteArray) := if -9223372036854775808 ≤ a0 ∧ a0 ≤ 9223372036854775807 then some (⟨(Lib.itoa a0).toArray⟩) else none
def strconv_Itoa.e : Entry sg := entryOf sg [(.d (.int .i64))] [.str] (fun h => strconv_Itoa.f h.1)
theorem strconv_Itoa.ok : (strconv_Itoa.e).Sound Tryd.prog ctx 23 :=
  entry_extern (C := ctx) sg_ok Tryd.func23 (by kernel_rfl) (by kernel_rfl) (by kernel_rfl) (by kernel_rfl) (fun hh x w hx hG => by
    unfold strconv_Itoa.f at hx
    split at hx
    · rename_i c
      obtain rfl := Option.some.inj hx
      have htab : Lib.TabIs Tryd.prog w "internal/strconv.uint64pow10" .u64 Lib.pow10Tab := var_of (k := 1) (by kernel_rfl) (hG 1 (by simp [ctx, sg])) rfl
      refine (Tryd.strconv_Itoa hh.1 c.1 c.2 w htab).mono ?_
      rintro e w' ⟨rfl, hb⟩
      exact ⟨rfl, by first | exact hb ▸ Grow.refl _ | exact Grow.of_below hb | (obtain ⟨k, os, rfl⟩ := hb; exact Grow.of_below (Lib.below_grow _ w (Nat.le_refl _) k os))⟩
    · cases hx)
def asset_source.f (a0 : ByteArray) (a1 : Int) : Option (ByteArray) := ((strconv_Itoa.f a1).bind fun y1 => ((scat a0 c__3fw_3d).bind fun y2 => ((scat y2 y1).bind fun y3 => ((scat y3 c__20).bind fun y4 => ((scat y4 y1).bind fun y5 => ((scat y5 c_w).bind fun y6 => (some y6)))))))
def asset_source.O : Oracle sg := fun n => lkp n [(23, strconv_Itoa.e)]
def asset_source.a : Ann := .z
def asset_source.L : Nat → St sg.U → Option (RT sg.U [.str]) := labs []
theorem asset_source.f_eq (a0 : ByteArray) (a1 : Int) : asset_source.f a0 a1 = codeK (C := ctx) (asset_source.O) ⟨16, [], []⟩ (asset_source.L) (Tryd.f35.body.getD .skip) asset_source.a (endK ctx [.str] [(.tmp 4)]) (slotsOf sg.U 0 [(.d .str), (.d (.int .i64))] (a0, a1, ()) (empty sg.U)) := by
  unfold asset_source.f
  kernel_rfl
def asset_source.e : Entry sg := entryOf sg [(.d .str), (.d (.int .i64))] [.str] (fun h => asset_source.f h.1 h.2.1)
def asset_source.T : List (Lb sg (RT sg.U [.str])) := []
theorem asset_source.ok : (asset_source.e).Sound Tryd.prog ctx 35 :=
  entry_ok base_ok mo (fn := Tryd.f35) (b := (Tryd.f35.body.getD .skip)) (pm := [(.d .str), (.d (.int .i64))]) (rs := [.str]) (an := asset_source.a) (N := 16) (vars := [(.tmp 4)]) Tryd.func35 (by kernel_rfl) (by kernel_rfl) (by kernel_rfl) (by kernel_rfl) (by kernel_rfl) (by kernel_rfl) (O := fun _ => asset_source.O)
    (fun _ => by unfold asset_source.O; exact oracle_of (P := Tryd.prog) (C := ctx) ⟨(strconv_Itoa.ok), trivial⟩) asset_source.T trivial 0 (fun h => asset_source.f_eq h.1 h.2.1)
def strings_Join.f (a0 : (List ByteArray)) (a1 : ByteArray) : Option (ByteArray) := joinF a0 a1
def strings_Join.e : Entry sg := entryOf sg [(.d (.sl .str)), (.d .str)] [.str] (fun h => strings_Join.f h.1 h.2.1)
theorem strings_Join.ok : (strings_Join.e).Sound Tryd.prog ctx 36 :=
  join_sound (C := ctx) sg_ok Tryd.func36 (by kernel_rfl) (by kernel_rfl) (fun a c sep w => Tryd.strings_Join_none a c sep w) (fun bk o c xs sep w h1 h2 h3 h4 h5 => Tryd.strings_Join bk o c xs sep w h1 h2 h3 h4 h5)
mutual
def asset_SourceSet.l0 : Nat → ByteArray → Int → (List Int) → (List Int) → Int → Int → Option (ByteArray × Int)
  | 0, _, _, _, _, _, _ => none
  | k + 1, x0, x1, x2, x32, x33, x34 => (bif (ilt x34 x33) then ((lat x32 x34).bind fun y4 => (bif (bif (ilt y4 1) then true else (ilt 10000 y4)) then (some (c_empty, 2)) else (asset_SourceSet.l0 k x0 x1 x2 x32 x33 (wadd .i64 x34 1)))) else (asset_SourceSet.l1 k x0 x1 x2 [] 0 x2 (llen x2) 0))
def asset_SourceSet.l1 : Nat → ByteArray → Int → (List Int) → (List ByteArray) → Int → (List Int) → Int → Int → Option (ByteArray × Int)
  | 0, _, _, _, _, _, _, _, _ => none
  | k + 1, x0, x1, x2, x10, x11, x45, x46, x47 => (bif (ilt x47 x46) then ((lat x45 x47).bind fun y5 => (bif (ilt 0 x47) then ((lat x2 (wsub .i64 x47 1)).bind fun y6 => (bif (ile y5 y6) then (some (c_empty, 5)) else (asset_SourceSet.l2 k x0 x1 x2 x10 x11 y5 x45 x46 x47))) else (asset_SourceSet.l2 k x0 x1 x2 x10 x11 y5 x45 x46 x47))) else (bif (!ieq x11 x1) then ((asset_source.f x0 x1).bind fun y7 => ((lapp 16 x10 [y7]).bind fun y8 => (asset_SourceSet.l3 k y8))) else (asset_SourceSet.l3 k x10)))
def asset_SourceSet.l2 : Nat → ByteArray → Int → (List Int) → (List ByteArray) → Int → Int → (List Int) → Int → Int → Option (ByteArray × Int)
  | 0, _, _, _, _, _, _, _, _, _ => none
  | k + 1, x0, x1, x2, x10, x11, x13, x45, x46, x47 => (bif (ile x13 x1) then ((asset_source.f x0 x13).bind fun y9 => ((lapp 16 x10 [y9]).bind fun y10 => (asset_SourceSet.l1 k x0 x1 x2 y10 x13 x45 x46 (wadd .i64 x47 1)))) else (asset_SourceSet.l1 k x0 x1 x2 x10 x11 x45 x46 (wadd .i64 x47 1)))
def asset_SourceSet.l3 : Nat → (List ByteArray) → Option (ByteArray × Int)
  | 0, _ => none
  | k + 1, x10 => ((strings_Join.f x10 c__2c_20).bind fun y11 => (some (y11, 0)))
end
def asset_SourceSet.f (k : Nat) (a0 : ByteArray) (a1 : Int) (a2 : (List Int)) : Option (ByteArray × Int) := ((strings_HasPrefix.f a0 c__2f).bind fun y1 => (bif (!y1) then (some (c_empty, 3)) else ((ssub a0 1 (slen a0)).bind fun y2 => ((asset_isPath.f k y2).bind fun y3 => (bif (!y3) then (some (c_empty, 3)) else (bif (ilt 12 (llen a2)) then (some (c_empty, 4)) else (bif (bif (ilt a1 1) then true else (ilt 10000 a1)) then (some (c_empty, 2)) else (asset_SourceSet.l0 k a0 a1 a2 a2 (llen a2) 0))))))))
def asset_SourceSet.O (k : Nat) : Oracle sg := fun n => lkp n [(33, strings_HasPrefix.e), (34, asset_isPath.e k), (35, asset_source.e), (36, strings_Join.e)]
def asset_SourceSet.a : Ann := (.n .z (.n .z (.n .z (.n .z (.n (.n .z (.lp 0 .z)) (.n .z (.n .z (.n (.n .z (.lp 1 (.n .z (.n .z (.n (.n .z (.n .z (.lab 2 .z))) .z))))) (.n .z (.lab 3 .z))))))))))
def asset_SourceSet.L (k : Nat) : Nat → St sg.U → Option (RT sg.U [.str, (.int .i64)]) := labs [(0, labOf sg [(0, (.d .str)), (1, (.d (.int .i64))), (2, (.d (.sl (.int .i64)))), (32, (.d (.sl (.int .i64)))), (33, (.d (.int .i64))), (34, (.d (.int .i64)))] (fun h => asset_SourceSet.l0 k h.1 h.2.1 h.2.2.1 h.2.2.2.1 h.2.2.2.2.1 h.2.2.2.2.2.1)), (1, labOf sg [(0, (.d .str)), (1, (.d (.int .i64))), (2, (.d (.sl (.int .i64)))), (10, (.row 9 .str)), (11, (.d (.int .i64))), (45, (.d (.sl (.int .i64)))), (46, (.d (.int .i64))), (47, (.d (.int .i64)))] (fun h => asset_SourceSet.l1 k h.1 h.2.1 h.2.2.1 h.2.2.2.1 h.2.2.2.2.1 h.2.2.2.2.2.1 h.2.2.2.2.2.2.1 h.2.2.2.2.2.2.2.1)), (2, labOf sg [(0, (.d .str)), (1, (.d (.int .i64))), (2, (.d (.sl (.int .i64)))), (10, (.row 9 .str)), (11, (.d (.int .i64))), (13, (.d (.int .i64))), (45, (.d (.sl (.int .i64)))), (46, (.d (.int .i64))), (47, (.d (.int .i64)))] (fun h => asset_SourceSet.l2 k h.1 h.2.1 h.2.2.1 h.2.2.2.1 h.2.2.2.2.1 h.2.2.2.2.2.1 h.2.2.2.2.2.2.1 h.2.2.2.2.2.2.2.1 h.2.2.2.2.2.2.2.2.1)), (3, labOf sg [(10, (.row 9 .str))] (fun h => asset_SourceSet.l3 k h.1))]
theorem asset_SourceSet.l0_eq (k : Nat) (x0 : ByteArray) (x1 : Int) (x2 : (List Int)) (x32 : (List Int)) (x33 : Int) (x34 : Int) : asset_SourceSet.l0 (k + 1) x0 x1 x2 x32 x33 x34 = runFrom (C := ctx) (asset_SourceSet.O k) ⟨85, [], []⟩ (asset_SourceSet.L k) (Tryd.f13.body.getD .skip) asset_SourceSet.a 0 (endK ctx [.str, (.int .i64)] [(.tmp 6), (.tmp 7)]) (encD [(0, (.d .str)), (1, (.d (.int .i64))), (2, (.d (.sl (.int .i64)))), (32, (.d (.sl (.int .i64)))), (33, (.d (.int .i64))), (34, (.d (.int .i64)))] (x0, x1, x2, x32, x33, x34, ()) (startD sg.U ⟨85, [], []⟩ [(0, (.d .str)), (1, (.d (.int .i64))), (2, (.d (.sl (.int .i64)))), (32, (.d (.sl (.int .i64)))), (33, (.d (.int .i64))), (34, (.d (.int .i64)))])) := by
  rw [asset_SourceSet.l0]
  kernel_rfl
theorem asset_SourceSet.l1_eq (k : Nat) (x0 : ByteArray) (x1 : Int) (x2 : (List Int)) (x10 : (List ByteArray)) (x11 : Int) (x45 : (List Int)) (x46 : Int) (x47 : Int) : asset_SourceSet.l1 (k + 1) x0 x1 x2 x10 x11 x45 x46 x47 = runFrom (C := ctx) (asset_SourceSet.O k) ⟨85, [], []⟩ (asset_SourceSet.L k) (Tryd.f13.body.getD .skip) asset_SourceSet.a 1 (endK ctx [.str, (.int .i64)] [(.tmp 6), (.tmp 7)]) (encD [(0, (.d .str)), (1, (.d (.int .i64))), (2, (.d (.sl (.int .i64)))), (10, (.row 9 .str)), (11, (.d (.int .i64))), (45, (.d (.sl (.int .i64)))), (46, (.d (.int .i64))), (47, (.d (.int .i64)))] (x0, x1, x2, x10, x11, x45, x46, x47, ()) (startD sg.U ⟨85, [], []⟩ [(0, (.d .str)), (1, (.d (.int .i64))), (2, (.d (.sl (.int .i64)))), (10, (.row 9 .str)), (11, (.d (.int .i64))), (45, (.d (.sl (.int .i64)))), (46, (.d (.int .i64))), (47, (.d (.int .i64)))])) := by
  rw [asset_SourceSet.l1]
  kernel_rfl
theorem asset_SourceSet.l2_eq (k : Nat) (x0 : ByteArray) (x1 : Int) (x2 : (List Int)) (x10 : (List ByteArray)) (x11 : Int) (x13 : Int) (x45 : (List Int)) (x46 : Int) (x47 : Int) : asset_SourceSet.l2 (k + 1) x0 x1 x2 x10 x11 x13 x45 x46 x47 = runFrom (C := ctx) (asset_SourceSet.O k) ⟨85, [], []⟩ (asset_SourceSet.L k) (Tryd.f13.body.getD .skip) asset_SourceSet.a 2 (endK ctx [.str, (.int .i64)] [(.tmp 6), (.tmp 7)]) (encD [(0, (.d .str)), (1, (.d (.int .i64))), (2, (.d (.sl (.int .i64)))), (10, (.row 9 .str)), (11, (.d (.int .i64))), (13, (.d (.int .i64))), (45, (.d (.sl (.int .i64)))), (46, (.d (.int .i64))), (47, (.d (.int .i64)))] (x0, x1, x2, x10, x11, x13, x45, x46, x47, ()) (startD sg.U ⟨85, [], []⟩ [(0, (.d .str)), (1, (.d (.int .i64))), (2, (.d (.sl (.int .i64)))), (10, (.row 9 .str)), (11, (.d (.int .i64))), (13, (.d (.int .i64))), (45, (.d (.sl (.int .i64)))), (46, (.d (.int .i64))), (47, (.d (.int .i64)))])) := by
  rw [asset_SourceSet.l2]
  kernel_rfl
theorem asset_SourceSet.l3_eq (k : Nat) (x10 : (List ByteArray)) : asset_SourceSet.l3 (k + 1) x10 = runFrom (C := ctx) (asset_SourceSet.O k) ⟨85, [], []⟩ (asset_SourceSet.L k) (Tryd.f13.body.getD .skip) asset_SourceSet.a 3 (endK ctx [.str, (.int .i64)] [(.tmp 6), (.tmp 7)]) (encD [(10, (.row 9 .str))] (x10, ()) (startD sg.U ⟨85, [], []⟩ [(10, (.row 9 .str))])) := by
  rw [asset_SourceSet.l3]
  kernel_rfl
theorem asset_SourceSet.f_eq (k : Nat) (a0 : ByteArray) (a1 : Int) (a2 : (List Int)) : asset_SourceSet.f k a0 a1 a2 = codeK (C := ctx) (asset_SourceSet.O k) ⟨85, [], []⟩ (asset_SourceSet.L k) (Tryd.f13.body.getD .skip) asset_SourceSet.a (endK ctx [.str, (.int .i64)] [(.tmp 6), (.tmp 7)]) (slotsOf sg.U 0 [(.d .str), (.d (.int .i64)), (.d (.sl (.int .i64)))] (a0, a1, a2, ()) (empty sg.U)) := by
  unfold asset_SourceSet.f
  kernel_rfl
def asset_SourceSet.e (k : Nat) : Entry sg := entryOf sg [(.d .str), (.d (.int .i64)), (.d (.sl (.int .i64)))] [.str, (.int .i64)] (fun h => asset_SourceSet.f k h.1 h.2.1 h.2.2.1)
def asset_SourceSet.T : List (Lb sg (RT sg.U [.str, (.int .i64)])) := [⟨0, [(0, (.d .str)), (1, (.d (.int .i64))), (2, (.d (.sl (.int .i64)))), (32, (.d (.sl (.int .i64)))), (33, (.d (.int .i64))), (34, (.d (.int .i64)))], fun k h => asset_SourceSet.l0 k h.1 h.2.1 h.2.2.1 h.2.2.2.1 h.2.2.2.2.1 h.2.2.2.2.2.1⟩, ⟨1, [(0, (.d .str)), (1, (.d (.int .i64))), (2, (.d (.sl (.int .i64)))), (10, (.row 9 .str)), (11, (.d (.int .i64))), (45, (.d (.sl (.int .i64)))), (46, (.d (.int .i64))), (47, (.d (.int .i64)))], fun k h => asset_SourceSet.l1 k h.1 h.2.1 h.2.2.1 h.2.2.2.1 h.2.2.2.2.1 h.2.2.2.2.2.1 h.2.2.2.2.2.2.1 h.2.2.2.2.2.2.2.1⟩, ⟨2, [(0, (.d .str)), (1, (.d (.int .i64))), (2, (.d (.sl (.int .i64)))), (10, (.row 9 .str)), (11, (.d (.int .i64))), (13, (.d (.int .i64))), (45, (.d (.sl (.int .i64)))), (46, (.d (.int .i64))), (47, (.d (.int .i64)))], fun k h => asset_SourceSet.l2 k h.1 h.2.1 h.2.2.1 h.2.2.2.1 h.2.2.2.2.1 h.2.2.2.2.2.1 h.2.2.2.2.2.2.1 h.2.2.2.2.2.2.2.1 h.2.2.2.2.2.2.2.2.1⟩, ⟨3, [(10, (.row 9 .str))], fun k h => asset_SourceSet.l3 k h.1⟩]
theorem asset_SourceSet.ok (k : Nat) : (asset_SourceSet.e k).Sound Tryd.prog ctx 13 :=
  entry_ok base_ok mo (fn := Tryd.f13) (b := (Tryd.f13.body.getD .skip)) (pm := [(.d .str), (.d (.int .i64)), (.d (.sl (.int .i64)))]) (rs := [.str, (.int .i64)]) (an := asset_SourceSet.a) (N := 85) (vars := [(.tmp 6), (.tmp 7)]) Tryd.func13 (by kernel_rfl) (by kernel_rfl) (by kernel_rfl) (by kernel_rfl) (by kernel_rfl) (by kernel_rfl) (O := asset_SourceSet.O)
    (fun k => by unfold asset_SourceSet.O; exact oracle_of (P := Tryd.prog) (C := ctx) ⟨(strings_HasPrefix.ok), ⟨(asset_isPath.ok k), ⟨(asset_source.ok), ⟨(strings_Join.ok), trivial⟩⟩⟩⟩) asset_SourceSet.T ⟨⟨by kernel_rfl, fun _ => by first | rfl | rw [asset_SourceSet.l0], fun k h => asset_SourceSet.l0_eq k h.1 h.2.1 h.2.2.1 h.2.2.2.1 h.2.2.2.2.1 h.2.2.2.2.2.1⟩, ⟨⟨by kernel_rfl, fun _ => by first | rfl | rw [asset_SourceSet.l1], fun k h => asset_SourceSet.l1_eq k h.1 h.2.1 h.2.2.1 h.2.2.2.1 h.2.2.2.2.1 h.2.2.2.2.2.1 h.2.2.2.2.2.2.1 h.2.2.2.2.2.2.2.1⟩, ⟨⟨by kernel_rfl, fun _ => by first | rfl | rw [asset_SourceSet.l2], fun k h => asset_SourceSet.l2_eq k h.1 h.2.1 h.2.2.1 h.2.2.2.1 h.2.2.2.2.1 h.2.2.2.2.2.1 h.2.2.2.2.2.2.1 h.2.2.2.2.2.2.2.1 h.2.2.2.2.2.2.2.2.1⟩, ⟨⟨by kernel_rfl, fun _ => by first | rfl | rw [asset_SourceSet.l3], fun k h => asset_SourceSet.l3_eq k h.1⟩, trivial⟩⟩⟩⟩ k (fun h => asset_SourceSet.f_eq k h.1 h.2.1 h.2.2.1)
def internal_stringslite_TrimPrefix.f (a0 : ByteArray) (a1 : ByteArray) : Option (ByteArray) := ((internal_stringslite_HasPrefix.f a0 a1).bind fun y1 => (bif y1 then ((ssub a0 (slen a1) (slen a0)).bind fun y2 => (some y2)) else (some a0)))
def internal_stringslite_TrimPrefix.O : Oracle sg := fun n => lkp n [(58, internal_stringslite_HasPrefix.e)]
def internal_stringslite_TrimPrefix.a : Ann := .z
def internal_stringslite_TrimPrefix.L : Nat → St sg.U → Option (RT sg.U [.str]) := labs []
theorem internal_stringslite_TrimPrefix.f_eq (a0 : ByteArray) (a1 : ByteArray) : internal_stringslite_TrimPrefix.f a0 a1 = codeK (C := ctx) (internal_stringslite_TrimPrefix.O) ⟨13, [], []⟩ (internal_stringslite_TrimPrefix.L) (Tryd.f63.body.getD .skip) internal_stringslite_TrimPrefix.a (endK ctx [.str] [(.tmp 4)]) (slotsOf sg.U 0 [(.d .str), (.d .str)] (a0, a1, ()) (empty sg.U)) := by
  unfold internal_stringslite_TrimPrefix.f
  kernel_rfl
def internal_stringslite_TrimPrefix.e : Entry sg := entryOf sg [(.d .str), (.d .str)] [.str] (fun h => internal_stringslite_TrimPrefix.f h.1 h.2.1)
def internal_stringslite_TrimPrefix.T : List (Lb sg (RT sg.U [.str])) := []
theorem internal_stringslite_TrimPrefix.ok : (internal_stringslite_TrimPrefix.e).Sound Tryd.prog ctx 63 :=
  entry_ok base_ok mo (fn := Tryd.f63) (b := (Tryd.f63.body.getD .skip)) (pm := [(.d .str), (.d .str)]) (rs := [.str]) (an := internal_stringslite_TrimPrefix.a) (N := 13) (vars := [(.tmp 4)]) Tryd.func63 (by kernel_rfl) (by kernel_rfl) (by kernel_rfl) (by kernel_rfl) (by kernel_rfl) (by kernel_rfl) (O := fun _ => internal_stringslite_TrimPrefix.O)
    (fun _ => by unfold internal_stringslite_TrimPrefix.O; exact oracle_of (P := Tryd.prog) (C := ctx) ⟨(internal_stringslite_HasPrefix.ok), trivial⟩) internal_stringslite_TrimPrefix.T trivial 0 (fun h => internal_stringslite_TrimPrefix.f_eq h.1 h.2.1)
def strings_TrimPrefix.f (a0 : ByteArray) (a1 : ByteArray) : Option (ByteArray) := ((internal_stringslite_TrimPrefix.f a0 a1).bind fun y1 => (some y1))
def strings_TrimPrefix.O : Oracle sg := fun n => lkp n [(63, internal_stringslite_TrimPrefix.e)]
def strings_TrimPrefix.a : Ann := .z
def strings_TrimPrefix.L : Nat → St sg.U → Option (RT sg.U [.str]) := labs []
theorem strings_TrimPrefix.f_eq (a0 : ByteArray) (a1 : ByteArray) : strings_TrimPrefix.f a0 a1 = codeK (C := ctx) (strings_TrimPrefix.O) ⟨8, [], []⟩ (strings_TrimPrefix.L) (Tryd.f37.body.getD .skip) strings_TrimPrefix.a (endK ctx [.str] [(.tmp 4)]) (slotsOf sg.U 0 [(.d .str), (.d .str)] (a0, a1, ()) (empty sg.U)) := by
  unfold strings_TrimPrefix.f
  kernel_rfl
def strings_TrimPrefix.e : Entry sg := entryOf sg [(.d .str), (.d .str)] [.str] (fun h => strings_TrimPrefix.f h.1 h.2.1)
def strings_TrimPrefix.T : List (Lb sg (RT sg.U [.str])) := []
theorem strings_TrimPrefix.ok : (strings_TrimPrefix.e).Sound Tryd.prog ctx 37 :=
  entry_ok base_ok mo (fn := Tryd.f37) (b := (Tryd.f37.body.getD .skip)) (pm := [(.d .str), (.d .str)]) (rs := [.str]) (an := strings_TrimPrefix.a) (N := 8) (vars := [(.tmp 4)]) Tryd.func37 (by kernel_rfl) (by kernel_rfl) (by kernel_rfl) (by kernel_rfl) (by kernel_rfl) (by kernel_rfl) (O := fun _ => strings_TrimPrefix.O)
    (fun _ => by unfold strings_TrimPrefix.O; exact oracle_of (P := Tryd.prog) (C := ctx) ⟨(internal_stringslite_TrimPrefix.ok), trivial⟩) strings_TrimPrefix.T trivial 0 (fun h => strings_TrimPrefix.f_eq h.1 h.2.1)
def strings_Trim.f (a0 : ByteArray) (a1 : ByteArray) : Option (ByteArray) := if a0.size ≤ 9223372036854775807 ∧ a1.size < 4294967281 ∧ (a1.data.toList.all fun b => decide (b.toNat < 128)) = true then some (⟨(Lib.trimS a0.data.toList a1.data.toList).toArray⟩) else none
def strings_Trim.e : Entry sg := entryOf sg [(.d .str), (.d .str)] [.str] (fun h => strings_Trim.f h.1 h.2.1)
theorem strings_Trim.ok : (strings_Trim.e).Sound Tryd.prog ctx 68 :=
  entry_extern (C := ctx) sg_ok Tryd.func68 (by kernel_rfl) (by kernel_rfl) (by kernel_rfl) (by kernel_rfl) (fun hh x w hx hG => by
    unfold strings_Trim.f at hx
    split at hx
    · rename_i c
      obtain rfl := Option.some.inj hx
      refine (Any.strings_Trim_laid Tryd.lays160 (by kernel_rfl) hh.1 hh.2.1 w c.1 c.2.1 (ascii_of_all c.2.2)).mono ?_
      rintro e w' ⟨rfl, hb⟩
      exact ⟨rfl, by first | exact hb ▸ Grow.refl _ | exact Grow.of_below hb | (obtain ⟨k, os, rfl⟩ := hb; exact Grow.of_below (Lib.below_grow _ w (Nat.le_refl _) k os))⟩
    · cases hx)
def mastref2_IsPart.f (a0 : ByteArray) : Option (Bool) := (bif (bif (bif (bif (!seq a0 c_empty) then (ile (slen a0) 40) else false) then (!seq a0 c__2e) else false) then (!seq a0 c__2e_2e) else false) then ((strings_Trim.f a0 c_abcdefghijklmnopqrst_c1516678).bind fun y1 => (some (seq y1 c_empty))) else (some false))
def mastref2_IsPart.O : Oracle sg := fun n => lkp n [(68, strings_Trim.e)]
def mastref2_IsPart.a : Ann := .z
def mastref2_IsPart.L : Nat → St sg.U → Option (RT sg.U [.bool]) := labs []
theorem mastref2_IsPart.f_eq (a0 : ByteArray) : mastref2_IsPart.f a0 = codeK (C := ctx) (mastref2_IsPart.O) ⟨23, [], []⟩ (mastref2_IsPart.L) (Tryd.f56.body.getD .skip) mastref2_IsPart.a (endK ctx [.bool] [(.tmp 2)]) (slotsOf sg.U 0 [(.d .str)] (a0, ()) (empty sg.U)) := by
  unfold mastref2_IsPart.f
  kernel_rfl
def mastref2_IsPart.e : Entry sg := entryOf sg [(.d .str)] [.bool] (fun h => mastref2_IsPart.f h.1)
def mastref2_IsPart.T : List (Lb sg (RT sg.U [.bool])) := []
theorem mastref2_IsPart.ok : (mastref2_IsPart.e).Sound Tryd.prog ctx 56 :=
  entry_ok base_ok mo (fn := Tryd.f56) (b := (Tryd.f56.body.getD .skip)) (pm := [(.d .str)]) (rs := [.bool]) (an := mastref2_IsPart.a) (N := 23) (vars := [(.tmp 2)]) Tryd.func56 (by kernel_rfl) (by kernel_rfl) (by kernel_rfl) (by kernel_rfl) (by kernel_rfl) (by kernel_rfl) (O := fun _ => mastref2_IsPart.O)
    (fun _ => by unfold mastref2_IsPart.O; exact oracle_of (P := Tryd.prog) (C := ctx) ⟨(strings_Trim.ok), trivial⟩) mastref2_IsPart.T trivial 0 (fun h => mastref2_IsPart.f_eq h.1)
def mastref2_IsPath_c1.f (a0 : ByteArray) : Option (Bool) := ((mastref2_IsPart.f a0).bind fun y1 => (some (!y1)))
def mastref2_IsPath_c1.O : Oracle sg := fun n => lkp n [(56, mastref2_IsPart.e)]
def mastref2_IsPath_c1.a : Ann := .z
def mastref2_IsPath_c1.L : Nat → St sg.U → Option (RT sg.U [.bool]) := labs []
theorem mastref2_IsPath_c1.f_eq (a0 : ByteArray) : mastref2_IsPath_c1.f a0 = codeK (C := ctx) (mastref2_IsPath_c1.O) ⟨6, [], []⟩ (mastref2_IsPath_c1.L) (Tryd.f55.body.getD .skip) mastref2_IsPath_c1.a (endK ctx [.bool] [(.tmp 2)]) (slotsOf sg.U 0 [(.d .str)] (a0, ()) (empty sg.U)) := by
  unfold mastref2_IsPath_c1.f
  kernel_rfl
def mastref2_IsPath_c1.e : Entry sg := entryOf sg [(.d .str)] [.bool] (fun h => mastref2_IsPath_c1.f h.1)
def mastref2_IsPath_c1.T : List (Lb sg (RT sg.U [.bool])) := []
theorem mastref2_IsPath_c1.ok : (mastref2_IsPath_c1.e).Sound Tryd.prog ctx 55 :=
  entry_ok base_ok mo (fn := Tryd.f55) (b := (Tryd.f55.body.getD .skip)) (pm := [(.d .str)]) (rs := [.bool]) (an := mastref2_IsPath_c1.a) (N := 6) (vars := [(.tmp 2)]) Tryd.func55 (by kernel_rfl) (by kernel_rfl) (by kernel_rfl) (by kernel_rfl) (by kernel_rfl) (by kernel_rfl) (O := fun _ => mastref2_IsPath_c1.O)
    (fun _ => by unfold mastref2_IsPath_c1.O; exact oracle_of (P := Tryd.prog) (C := ctx) ⟨(mastref2_IsPart.ok), trivial⟩) mastref2_IsPath_c1.T trivial 0 (fun h => mastref2_IsPath_c1.f_eq h.1)
def slices_IndexFunc_string_string_at_mastref2_IsPath_c1.l0 : Nat → (List ByteArray) → Int → Int → Option (Int)
  | 0, _, _, _ => none
  | k + 1, x0, x7, x8 => (bif (ilt x8 x7) then ((lat x0 x8).bind fun y1 => ((mastref2_IsPath_c1.f y1).bind fun y2 => (bif y2 then (some x8) else (slices_IndexFunc_string_string_at_mastref2_IsPath_c1.l0 k x0 x7 (wadd .i64 x8 1))))) else (some (-1)))
def slices_IndexFunc_string_string_at_mastref2_IsPath_c1.f (k : Nat) (a0 : (List ByteArray)) : Option (Int) := (slices_IndexFunc_string_string_at_mastref2_IsPath_c1.l0 k a0 (llen a0) 0)
def slices_IndexFunc_string_string_at_mastref2_IsPath_c1.O (k : Nat) : Oracle sg := fun n => lkp n [(55, mastref2_IsPath_c1.e)]
def slices_IndexFunc_string_string_at_mastref2_IsPath_c1.a : Ann := (.n .z (.n (.n .z (.lp 0 .z)) .z))
def slices_IndexFunc_string_string_at_mastref2_IsPath_c1.L (k : Nat) : Nat → St sg.U → Option (RT sg.U [(.int .i64)]) := labs [(0, labOf sg [(0, (.d (.sl .str))), (1, (.clo 55 [])), (7, (.d (.int .i64))), (8, (.d (.int .i64)))] (fun h => slices_IndexFunc_string_string_at_mastref2_IsPath_c1.l0 k h.1 h.2.1 h.2.2.1))]
theorem slices_IndexFunc_string_string_at_mastref2_IsPath_c1.l0_eq (k : Nat) (x0 : (List ByteArray)) (x7 : Int) (x8 : Int) : slices_IndexFunc_string_string_at_mastref2_IsPath_c1.l0 (k + 1) x0 x7 x8 = runFrom (C := ctx) (slices_IndexFunc_string_string_at_mastref2_IsPath_c1.O k) ⟨19, [], []⟩ (slices_IndexFunc_string_string_at_mastref2_IsPath_c1.L k) (Tryd.f76.body.getD .skip) slices_IndexFunc_string_string_at_mastref2_IsPath_c1.a 0 (endK ctx [(.int .i64)] [(.tmp 4)]) (encD [(0, (.d (.sl .str))), (1, (.clo 55 [])), (7, (.d (.int .i64))), (8, (.d (.int .i64)))] (x0, x7, x8, ()) (startD sg.U ⟨19, [], []⟩ [(0, (.d (.sl .str))), (1, (.clo 55 [])), (7, (.d (.int .i64))), (8, (.d (.int .i64)))])) := by
  rw [slices_IndexFunc_string_string_at_mastref2_IsPath_c1.l0]
  kernel_rfl
theorem slices_IndexFunc_string_string_at_mastref2_IsPath_c1.f_eq (k : Nat) (a0 : (List ByteArray)) : slices_IndexFunc_string_string_at_mastref2_IsPath_c1.f k a0 = codeK (C := ctx) (slices_IndexFunc_string_string_at_mastref2_IsPath_c1.O k) ⟨19, [], []⟩ (slices_IndexFunc_string_string_at_mastref2_IsPath_c1.L k) (Tryd.f76.body.getD .skip) slices_IndexFunc_string_string_at_mastref2_IsPath_c1.a (endK ctx [(.int .i64)] [(.tmp 4)]) (slotsOf sg.U 0 [(.d (.sl .str)), .fn 55] (a0, ()) (empty sg.U)) := by
  unfold slices_IndexFunc_string_string_at_mastref2_IsPath_c1.f
  kernel_rfl
def slices_IndexFunc_string_string_at_mastref2_IsPath_c1.e (k : Nat) : Entry sg := entryOf sg [(.d (.sl .str)), .fn 55] [(.int .i64)] (fun h => slices_IndexFunc_string_string_at_mastref2_IsPath_c1.f k h.1)
def slices_IndexFunc_string_string_at_mastref2_IsPath_c1.T : List (Lb sg (RT sg.U [(.int .i64)])) := [⟨0, [(0, (.d (.sl .str))), (1, (.clo 55 [])), (7, (.d (.int .i64))), (8, (.d (.int .i64)))], fun k h => slices_IndexFunc_string_string_at_mastref2_IsPath_c1.l0 k h.1 h.2.1 h.2.2.1⟩]
theorem slices_IndexFunc_string_string_at_mastref2_IsPath_c1.ok (k : Nat) : (slices_IndexFunc_string_string_at_mastref2_IsPath_c1.e k).Sound Tryd.prog ctx 76 :=
  entry_ok base_ok mo (fn := Tryd.f76) (b := (Tryd.f76.body.getD .skip)) (pm := [(.d (.sl .str)), .fn 55]) (rs := [(.int .i64)]) (an := slices_IndexFunc_string_string_at_mastref2_IsPath_c1.a) (N := 19) (vars := [(.tmp 4)]) Tryd.func76 (by kernel_rfl) (by kernel_rfl) (by kernel_rfl) (by kernel_rfl) (by kernel_rfl) (by kernel_rfl) (O := slices_IndexFunc_string_string_at_mastref2_IsPath_c1.O)
    (fun k => by unfold slices_IndexFunc_string_string_at_mastref2_IsPath_c1.O; exact oracle_of (P := Tryd.prog) (C := ctx) ⟨(mastref2_IsPath_c1.ok), trivial⟩) slices_IndexFunc_string_string_at_mastref2_IsPath_c1.T ⟨⟨by kernel_rfl, fun _ => by first | rfl | rw [slices_IndexFunc_string_string_at_mastref2_IsPath_c1.l0], fun k h => slices_IndexFunc_string_string_at_mastref2_IsPath_c1.l0_eq k h.1 h.2.1 h.2.2.1⟩, trivial⟩ k (fun h => slices_IndexFunc_string_string_at_mastref2_IsPath_c1.f_eq k h.1)
def slices_ContainsFunc_string_string_at_mastref2_IsPath_c1.f (k : Nat) (a0 : (List ByteArray)) : Option (Bool) := ((slices_IndexFunc_string_string_at_mastref2_IsPath_c1.f k a0).bind fun y1 => (some (ile 0 y1)))
def slices_ContainsFunc_string_string_at_mastref2_IsPath_c1.O (k : Nat) : Oracle sg := fun n => lkp n [(76, slices_IndexFunc_string_string_at_mastref2_IsPath_c1.e k)]
def slices_ContainsFunc_string_string_at_mastref2_IsPath_c1.a : Ann := .z
def slices_ContainsFunc_string_string_at_mastref2_IsPath_c1.L (k : Nat) : Nat → St sg.U → Option (RT sg.U [.bool]) := labs []
theorem slices_ContainsFunc_string_string_at_mastref2_IsPath_c1.f_eq (k : Nat) (a0 : (List ByteArray)) : slices_ContainsFunc_string_string_at_mastref2_IsPath_c1.f k a0 = codeK (C := ctx) (slices_ContainsFunc_string_string_at_mastref2_IsPath_c1.O k) ⟨9, [], []⟩ (slices_ContainsFunc_string_string_at_mastref2_IsPath_c1.L k) (Tryd.f54.body.getD .skip) slices_ContainsFunc_string_string_at_mastref2_IsPath_c1.a (endK ctx [.bool] [(.tmp 4)]) (slotsOf sg.U 0 [(.d (.sl .str)), .fn 55] (a0, ()) (empty sg.U)) := by
  unfold slices_ContainsFunc_string_string_at_mastref2_IsPath_c1.f
  kernel_rfl
def slices_ContainsFunc_string_string_at_mastref2_IsPath_c1.e (k : Nat) : Entry sg := entryOf sg [(.d (.sl .str)), .fn 55] [.bool] (fun h => slices_ContainsFunc_string_string_at_mastref2_IsPath_c1.f k h.1)
def slices_ContainsFunc_string_string_at_mastref2_IsPath_c1.T : List (Lb sg (RT sg.U [.bool])) := []
theorem slices_ContainsFunc_string_string_at_mastref2_IsPath_c1.ok (k : Nat) : (slices_ContainsFunc_string_string_at_mastref2_IsPath_c1.e k).Sound Tryd.prog ctx 54 :=
  entry_ok base_ok mo (fn := Tryd.f54) (b := (Tryd.f54.body.getD .skip)) (pm := [(.d (.sl .str)), .fn 55]) (rs := [.bool]) (an := slices_ContainsFunc_string_string_at_mastref2_IsPath_c1.a) (N := 9) (vars := [(.tmp 4)]) Tryd.func54 (by kernel_rfl) (by kernel_rfl) (by kernel_rfl) (by kernel_rfl) (by kernel_rfl) (by kernel_rfl) (O := slices_ContainsFunc_string_string_at_mastref2_IsPath_c1.O)
    (fun k => by unfold slices_ContainsFunc_string_string_at_mastref2_IsPath_c1.O; exact oracle_of (P := Tryd.prog) (C := ctx) ⟨(slices_IndexFunc_string_string_at_mastref2_IsPath_c1.ok k), trivial⟩) slices_ContainsFunc_string_string_at_mastref2_IsPath_c1.T trivial k (fun h => slices_ContainsFunc_string_string_at_mastref2_IsPath_c1.f_eq k h.1)
def mastref2_IsPath.f (k : Nat) (a0 : ByteArray) : Option (Bool) := (bif (ile (slen a0) 200) then ((strings_Split.f a0 c__2f).bind fun y1 => ((slices_ContainsFunc_string_string_at_mastref2_IsPath_c1.f k y1).bind fun y2 => (some (!y2)))) else (some false))
def mastref2_IsPath.O (k : Nat) : Oracle sg := fun n => lkp n [(44, strings_Split.e), (54, slices_ContainsFunc_string_string_at_mastref2_IsPath_c1.e k)]
def mastref2_IsPath.a : Ann := .z
def mastref2_IsPath.L (k : Nat) : Nat → St sg.U → Option (RT sg.U [.bool]) := labs []
theorem mastref2_IsPath.f_eq (k : Nat) (a0 : ByteArray) : mastref2_IsPath.f k a0 = codeK (C := ctx) (mastref2_IsPath.O k) ⟨12, [], []⟩ (mastref2_IsPath.L k) (Tryd.f31.body.getD .skip) mastref2_IsPath.a (endK ctx [.bool] [(.tmp 2)]) (slotsOf sg.U 0 [(.d .str)] (a0, ()) (empty sg.U)) := by
  unfold mastref2_IsPath.f
  kernel_rfl
def mastref2_IsPath.e (k : Nat) : Entry sg := entryOf sg [(.d .str)] [.bool] (fun h => mastref2_IsPath.f k h.1)
def mastref2_IsPath.T : List (Lb sg (RT sg.U [.bool])) := []
theorem mastref2_IsPath.ok (k : Nat) : (mastref2_IsPath.e k).Sound Tryd.prog ctx 31 :=
  entry_ok base_ok mo (fn := Tryd.f31) (b := (Tryd.f31.body.getD .skip)) (pm := [(.d .str)]) (rs := [.bool]) (an := mastref2_IsPath.a) (N := 12) (vars := [(.tmp 2)]) Tryd.func31 (by kernel_rfl) (by kernel_rfl) (by kernel_rfl) (by kernel_rfl) (by kernel_rfl) (by kernel_rfl) (O := mastref2_IsPath.O)
    (fun k => by unfold mastref2_IsPath.O; exact oracle_of (P := Tryd.prog) (C := ctx) ⟨(strings_Split.ok), ⟨(slices_ContainsFunc_string_string_at_mastref2_IsPath_c1.ok k), trivial⟩⟩) mastref2_IsPath.T trivial k (fun h => mastref2_IsPath.f_eq k h.1)
def mastref2_SourceSetOf_c1.f (a0 : Int) (a1_0 : (List ByteArray)) (a2_0 : ByteArray) : Option (Unit × (List ByteArray) × ByteArray × Unit) := ((scat a2_0 c__3fw_3d).bind fun y1 => ((strconv_Itoa.f a0).bind fun y2 => ((scat y1 y2).bind fun y3 => ((scat y3 c__20).bind fun y4 => ((strconv_Itoa.f a0).bind fun y5 => ((scat y4 y5).bind fun y6 => ((scat y6 c_w).bind fun y7 => ((lapp 16 a1_0 [y7]).bind fun y8 => (some ((), (y8, a2_0, ())))))))))))
def mastref2_SourceSetOf_c1.O : Oracle sg := fun n => lkp n [(23, strconv_Itoa.e)]
def mastref2_SourceSetOf_c1.a : Ann := .z
def mastref2_SourceSetOf_c1.L : Nat → St sg.U → Option (RT sg.U [] × HL sg.U (PM.outs [(.d (.int .i64)), (.ref [.row 9 .str]), (.ref [.d .str])])) := labs []
theorem mastref2_SourceSetOf_c1.f_eq (a0 : Int) (a1_0 : (List ByteArray)) (a2_0 : ByteArray) : mastref2_SourceSetOf_c1.f a0 a1_0 a2_0 = codeK (C := ctx) (mastref2_SourceSetOf_c1.O) ⟨17, [1, 2], []⟩ (mastref2_SourceSetOf_c1.L) (Tryd.f38.body.getD .skip) mastref2_SourceSetOf_c1.a (endR ctx [] [] [(.d (.int .i64)), (.ref [.row 9 .str]), (.ref [.d .str])]) (slotsOf sg.U 0 [(.d (.int .i64)), (.ref [.row 9 .str]), (.ref [.d .str])] (a0, a1_0, a2_0, ()) (emptyG sg.U (PM.gs [(.d (.int .i64)), (.ref [.row 9 .str]), (.ref [.d .str])]))) := by
  unfold mastref2_SourceSetOf_c1.f
  kernel_rfl
def mastref2_SourceSetOf_c1.e : Entry sg := entryR sg [(.d (.int .i64)), (.ref [.row 9 .str]), (.ref [.d .str])] [] (fun h => mastref2_SourceSetOf_c1.f h.1 h.2.1 h.2.2.1)
def mastref2_SourceSetOf_c1.T : List (Lb sg (RT sg.U [] × HL sg.U (PM.outs [(.d (.int .i64)), (.ref [.row 9 .str]), (.ref [.d .str])]))) := []
theorem mastref2_SourceSetOf_c1.ok : (mastref2_SourceSetOf_c1.e).Sound Tryd.prog ctx 38 :=
  entryR_ok base_ok mo (fn := Tryd.f38) (b := (Tryd.f38.body.getD .skip)) (pm := [(.d (.int .i64)), (.ref [.row 9 .str]), (.ref [.d .str])]) (rs := []) (an := mastref2_SourceSetOf_c1.a) (N := 17) (vars := []) Tryd.func38 (by kernel_rfl) (by kernel_rfl) (by kernel_rfl) (by kernel_rfl) (by kernel_rfl) (by kernel_rfl) (by kernel_rfl) (by kernel_rfl) (O := fun _ => mastref2_SourceSetOf_c1.O)
    (fun _ => by unfold mastref2_SourceSetOf_c1.O; exact oracle_of (P := Tryd.prog) (C := ctx) ⟨(strconv_Itoa.ok), trivial⟩) mastref2_SourceSetOf_c1.T trivial 0 (fun h => mastref2_SourceSetOf_c1.f_eq h.1 h.2.1 h.2.2.1)
def slices_Index_int_int.l0 : Nat → (List Int) → Int → Int → Int → Option (Int)
  | 0, _, _, _, _ => none
  | k + 1, x0, x1, x7, x8 => (bif (ilt x8 x7) then ((lat x0 x8).bind fun y1 => (bif (ieq x1 y1) then (some x8) else (slices_Index_int_int.l0 k x0 x1 x7 (wadd .i64 x8 1)))) else (some (-1)))
def slices_Index_int_int.f (k : Nat) (a0 : (List Int)) (a1 : Int) : Option (Int) := (slices_Index_int_int.l0 k a0 a1 (llen a0) 0)
def slices_Index_int_int.O (k : Nat) : Oracle sg := fun n => lkp n []
def slices_Index_int_int.a : Ann := (.n .z (.n (.n .z (.lp 0 .z)) .z))
def slices_Index_int_int.L (k : Nat) : Nat → St sg.U → Option (RT sg.U [(.int .i64)]) := labs [(0, labOf sg [(0, (.d (.sl (.int .i64)))), (1, (.d (.int .i64))), (7, (.d (.int .i64))), (8, (.d (.int .i64)))] (fun h => slices_Index_int_int.l0 k h.1 h.2.1 h.2.2.1 h.2.2.2.1))]
theorem slices_Index_int_int.l0_eq (k : Nat) (x0 : (List Int)) (x1 : Int) (x7 : Int) (x8 : Int) : slices_Index_int_int.l0 (k + 1) x0 x1 x7 x8 = runFrom (C := ctx) (slices_Index_int_int.O k) ⟨19, [], []⟩ (slices_Index_int_int.L k) (Tryd.f64.body.getD .skip) slices_Index_int_int.a 0 (endK ctx [(.int .i64)] [(.tmp 4)]) (encD [(0, (.d (.sl (.int .i64)))), (1, (.d (.int .i64))), (7, (.d (.int .i64))), (8, (.d (.int .i64)))] (x0, x1, x7, x8, ()) (startD sg.U ⟨19, [], []⟩ [(0, (.d (.sl (.int .i64)))), (1, (.d (.int .i64))), (7, (.d (.int .i64))), (8, (.d (.int .i64)))])) := by
  rw [slices_Index_int_int.l0]
  kernel_rfl
theorem slices_Index_int_int.f_eq (k : Nat) (a0 : (List Int)) (a1 : Int) : slices_Index_int_int.f k a0 a1 = codeK (C := ctx) (slices_Index_int_int.O k) ⟨19, [], []⟩ (slices_Index_int_int.L k) (Tryd.f64.body.getD .skip) slices_Index_int_int.a (endK ctx [(.int .i64)] [(.tmp 4)]) (slotsOf sg.U 0 [(.d (.sl (.int .i64))), (.d (.int .i64))] (a0, a1, ()) (empty sg.U)) := by
  unfold slices_Index_int_int.f
  kernel_rfl
def slices_Index_int_int.e (k : Nat) : Entry sg := entryOf sg [(.d (.sl (.int .i64))), (.d (.int .i64))] [(.int .i64)] (fun h => slices_Index_int_int.f k h.1 h.2.1)
def slices_Index_int_int.T : List (Lb sg (RT sg.U [(.int .i64)])) := [⟨0, [(0, (.d (.sl (.int .i64)))), (1, (.d (.int .i64))), (7, (.d (.int .i64))), (8, (.d (.int .i64)))], fun k h => slices_Index_int_int.l0 k h.1 h.2.1 h.2.2.1 h.2.2.2.1⟩]
theorem slices_Index_int_int.ok (k : Nat) : (slices_Index_int_int.e k).Sound Tryd.prog ctx 64 :=
  entry_ok base_ok mo (fn := Tryd.f64) (b := (Tryd.f64.body.getD .skip)) (pm := [(.d (.sl (.int .i64))), (.d (.int .i64))]) (rs := [(.int .i64)]) (an := slices_Index_int_int.a) (N := 19) (vars := [(.tmp 4)]) Tryd.func64 (by kernel_rfl) (by kernel_rfl) (by kernel_rfl) (by kernel_rfl) (by kernel_rfl) (by kernel_rfl) (O := slices_Index_int_int.O)
    (fun k => by unfold slices_Index_int_int.O; exact oracle_of (P := Tryd.prog) (C := ctx) trivial) slices_Index_int_int.T ⟨⟨by kernel_rfl, fun _ => by first | rfl | rw [slices_Index_int_int.l0], fun k h => slices_Index_int_int.l0_eq k h.1 h.2.1 h.2.2.1 h.2.2.2.1⟩, trivial⟩ k (fun h => slices_Index_int_int.f_eq k h.1 h.2.1)
def slices_Contains_int_int.f (k : Nat) (a0 : (List Int)) (a1 : Int) : Option (Bool) := ((slices_Index_int_int.f k a0 a1).bind fun y1 => (some (ile 0 y1)))
def slices_Contains_int_int.O (k : Nat) : Oracle sg := fun n => lkp n [(64, slices_Index_int_int.e k)]
def slices_Contains_int_int.a : Ann := .z
def slices_Contains_int_int.L (k : Nat) : Nat → St sg.U → Option (RT sg.U [.bool]) := labs []
theorem slices_Contains_int_int.f_eq (k : Nat) (a0 : (List Int)) (a1 : Int) : slices_Contains_int_int.f k a0 a1 = codeK (C := ctx) (slices_Contains_int_int.O k) ⟨9, [], []⟩ (slices_Contains_int_int.L k) (Tryd.f39.body.getD .skip) slices_Contains_int_int.a (endK ctx [.bool] [(.tmp 4)]) (slotsOf sg.U 0 [(.d (.sl (.int .i64))), (.d (.int .i64))] (a0, a1, ()) (empty sg.U)) := by
  unfold slices_Contains_int_int.f
  kernel_rfl
def slices_Contains_int_int.e (k : Nat) : Entry sg := entryOf sg [(.d (.sl (.int .i64))), (.d (.int .i64))] [.bool] (fun h => slices_Contains_int_int.f k h.1 h.2.1)
def slices_Contains_int_int.T : List (Lb sg (RT sg.U [.bool])) := []
theorem slices_Contains_int_int.ok (k : Nat) : (slices_Contains_int_int.e k).Sound Tryd.prog ctx 39 :=
  entry_ok base_ok mo (fn := Tryd.f39) (b := (Tryd.f39.body.getD .skip)) (pm := [(.d (.sl (.int .i64))), (.d (.int .i64))]) (rs := [.bool]) (an := slices_Contains_int_int.a) (N := 9) (vars := [(.tmp 4)]) Tryd.func39 (by kernel_rfl) (by kernel_rfl) (by kernel_rfl) (by kernel_rfl) (by kernel_rfl) (by kernel_rfl) (O := slices_Contains_int_int.O)
    (fun k => by unfold slices_Contains_int_int.O; exact oracle_of (P := Tryd.prog) (C := ctx) ⟨(slices_Index_int_int.ok k), trivial⟩) slices_Contains_int_int.T trivial k (fun h => slices_Contains_int_int.f_eq k h.1 h.2.1)
mutual
def mastref2_SourceSetOf.l0 : Nat → Int → (List Int) → ByteArray → (List Int) → Int → Int → Option (ByteArray × Int)
  | 0, _, _, _, _, _, _ => none
  | k + 1, x1, x2, x3_0, x31, x32, x33 => (bif (ilt x33 x32) then ((lat x31 x33).bind fun y5 => ((lat x31 x33).bind fun y6 => (bif (bif (ilt y6 1) then true else (ilt 10000 y6)) then (some (c_empty, 2)) else (mastref2_SourceSetOf.l0 k x1 x2 x3_0 x31 x32 (wadd .i64 x33 1))))) else (mastref2_SourceSetOf.l1 k x1 x2 x3_0 x2 (llen x2) 0))
def mastref2_SourceSetOf.l1 : Nat → Int → (List Int) → ByteArray → (List Int) → Int → Int → Option (ByteArray × Int)
  | 0, _, _, _, _, _, _ => none
  | k + 1, x1, x2, x3_0, x44, x45, x46 => (bif (ilt x46 x45) then ((lat x44 x46).bind fun y7 => (bif (ilt 0 x46) then ((lat x2 (wsub .i64 x46 1)).bind fun y8 => (bif (ile y7 y8) then (some (c_empty, 5)) else (mastref2_SourceSetOf.l1 k x1 x2 x3_0 x44 x45 (wadd .i64 x46 1)))) else (mastref2_SourceSetOf.l1 k x1 x2 x3_0 x44 x45 (wadd .i64 x46 1)))) else (mastref2_SourceSetOf.l2 k x1 x2 x3_0 [] x2 (llen x2) 0))
def mastref2_SourceSetOf.l2 : Nat → Int → (List Int) → ByteArray → (List ByteArray) → (List Int) → Int → Int → Option (ByteArray × Int)
  | 0, _, _, _, _, _, _, _ => none
  | k + 1, x1, x2, x3_0, x12_0, x64, x65, x66 => (bif (ilt x66 x65) then ((lat x64 x66).bind fun y9 => (bif (ile y9 x1) then ((mastref2_SourceSetOf_c1.f y9 x12_0 x3_0).bind fun y10 => (mastref2_SourceSetOf.l2 k x1 x2 y10.2.2.1 y10.2.1 x64 x65 (wadd .i64 x66 1))) else (mastref2_SourceSetOf.l2 k x1 x2 x3_0 x12_0 x64 x65 (wadd .i64 x66 1)))) else ((slices_Contains_int_int.f k x2 x1).bind fun y11 => (bif (!y11) then ((mastref2_SourceSetOf_c1.f x1 x12_0 x3_0).bind fun y12 => (mastref2_SourceSetOf.l3 k y12.2.1)) else (mastref2_SourceSetOf.l3 k x12_0))))
def mastref2_SourceSetOf.l3 : Nat → (List ByteArray) → Option (ByteArray × Int)
  | 0, _ => none
  | k + 1, x12_0 => ((strings_Join.f x12_0 c__2c_20).bind fun y13 => (some (y13, 0)))
end
def mastref2_SourceSetOf.f (k : Nat) (a0 : ByteArray) (a1 : Int) (a2 : (List Int)) : Option (ByteArray × Int) := ((strings_HasPrefix.f a0 c__2f).bind fun y1 => (bif (!y1) then (some (c_empty, 3)) else ((strings_TrimPrefix.f a0 c__2f).bind fun y2 => ((mastref2_IsPath.f k y2).bind fun y3 => (bif (!y3) then (some (c_empty, 3)) else (bif (ilt 12 (llen a2)) then (some (c_empty, 4)) else ((lapp 8 [a1] a2).bind fun y4 => (mastref2_SourceSetOf.l0 k a1 a2 a0 y4 (llen y4) 0))))))))
def mastref2_SourceSetOf.O (k : Nat) : Oracle sg := fun n => lkp n [(31, mastref2_IsPath.e k), (33, strings_HasPrefix.e), (36, strings_Join.e), (37, strings_TrimPrefix.e), (38, mastref2_SourceSetOf_c1.e), (39, slices_Contains_int_int.e k)]
def mastref2_SourceSetOf.a : Ann := (.n .z (.n .z (.n .z (.n (.n .z (.lp 0 .z)) (.n (.n .z (.lp 1 .z)) (.n .z (.n .z (.n (.n .z (.lp 2 .z)) (.n .z (.lab 3 .z))))))))))
def mastref2_SourceSetOf.L (k : Nat) : Nat → St sg.U → Option (RT sg.U [.str, (.int .i64)]) := labs [(0, labOf sg [(1, (.d (.int .i64))), (2, (.d (.sl (.int .i64)))), (3, (.box [.d .str])), (31, (.row 3 (.int .i64))), (32, (.d (.int .i64))), (33, (.d (.int .i64)))] (fun h => mastref2_SourceSetOf.l0 k h.1 h.2.1 h.2.2.1 h.2.2.2.1 h.2.2.2.2.1 h.2.2.2.2.2.1)), (1, labOf sg [(1, (.d (.int .i64))), (2, (.d (.sl (.int .i64)))), (3, (.box [.d .str])), (44, (.d (.sl (.int .i64)))), (45, (.d (.int .i64))), (46, (.d (.int .i64)))] (fun h => mastref2_SourceSetOf.l1 k h.1 h.2.1 h.2.2.1 h.2.2.2.1 h.2.2.2.2.1 h.2.2.2.2.2.1)), (2, labOf sg [(1, (.d (.int .i64))), (2, (.d (.sl (.int .i64)))), (3, (.box [.d .str])), (12, (.box [.row 9 .str])), (13, (.clo 38 [12, 3])), (64, (.d (.sl (.int .i64)))), (65, (.d (.int .i64))), (66, (.d (.int .i64)))] (fun h => mastref2_SourceSetOf.l2 k h.1 h.2.1 h.2.2.1 h.2.2.2.1 h.2.2.2.2.1 h.2.2.2.2.2.1 h.2.2.2.2.2.2.1)), (3, labOf sg [(12, (.box [.row 9 .str]))] (fun h => mastref2_SourceSetOf.l3 k h.1))]
theorem mastref2_SourceSetOf.l0_eq (k : Nat) (x1 : Int) (x2 : (List Int)) (x3_0 : ByteArray) (x31 : (List Int)) (x32 : Int) (x33 : Int) : mastref2_SourceSetOf.l0 (k + 1) x1 x2 x3_0 x31 x32 x33 = runFrom (C := ctx) (mastref2_SourceSetOf.O k) ⟨86, [], []⟩ (mastref2_SourceSetOf.L k) (Tryd.f14.body.getD .skip) mastref2_SourceSetOf.a 0 (endK ctx [.str, (.int .i64)] [(.tmp 6), (.tmp 7)]) (encD [(1, (.d (.int .i64))), (2, (.d (.sl (.int .i64)))), (3, (.box [.d .str])), (31, (.row 3 (.int .i64))), (32, (.d (.int .i64))), (33, (.d (.int .i64)))] (x1, x2, x3_0, x31, x32, x33, ()) (startD sg.U ⟨86, [], []⟩ [(1, (.d (.int .i64))), (2, (.d (.sl (.int .i64)))), (3, (.box [.d .str])), (31, (.row 3 (.int .i64))), (32, (.d (.int .i64))), (33, (.d (.int .i64)))])) := by
  rw [mastref2_SourceSetOf.l0]
  kernel_rfl
theorem mastref2_SourceSetOf.l1_eq (k : Nat) (x1 : Int) (x2 : (List Int)) (x3_0 : ByteArray) (x44 : (List Int)) (x45 : Int) (x46 : Int) : mastref2_SourceSetOf.l1 (k + 1) x1 x2 x3_0 x44 x45 x46 = runFrom (C := ctx) (mastref2_SourceSetOf.O k) ⟨86, [], []⟩ (mastref2_SourceSetOf.L k) (Tryd.f14.body.getD .skip) mastref2_SourceSetOf.a 1 (endK ctx [.str, (.int .i64)] [(.tmp 6), (.tmp 7)]) (encD [(1, (.d (.int .i64))), (2, (.d (.sl (.int .i64)))), (3, (.box [.d .str])), (44, (.d (.sl (.int .i64)))), (45, (.d (.int .i64))), (46, (.d (.int .i64)))] (x1, x2, x3_0, x44, x45, x46, ()) (startD sg.U ⟨86, [], []⟩ [(1, (.d (.int .i64))), (2, (.d (.sl (.int .i64)))), (3, (.box [.d .str])), (44, (.d (.sl (.int .i64)))), (45, (.d (.int .i64))), (46, (.d (.int .i64)))])) := by
  rw [mastref2_SourceSetOf.l1]
  kernel_rfl
theorem mastref2_SourceSetOf.l2_eq (k : Nat) (x1 : Int) (x2 : (List Int)) (x3_0 : ByteArray) (x12_0 : (List ByteArray)) (x64 : (List Int)) (x65 : Int) (x66 : Int) : mastref2_SourceSetOf.l2 (k + 1) x1 x2 x3_0 x12_0 x64 x65 x66 = runFrom (C := ctx) (mastref2_SourceSetOf.O k) ⟨86, [], []⟩ (mastref2_SourceSetOf.L k) (Tryd.f14.body.getD .skip) mastref2_SourceSetOf.a 2 (endK ctx [.str, (.int .i64)] [(.tmp 6), (.tmp 7)]) (encD [(1, (.d (.int .i64))), (2, (.d (.sl (.int .i64)))), (3, (.box [.d .str])), (12, (.box [.row 9 .str])), (13, (.clo 38 [12, 3])), (64, (.d (.sl (.int .i64)))), (65, (.d (.int .i64))), (66, (.d (.int .i64)))] (x1, x2, x3_0, x12_0, x64, x65, x66, ()) (startD sg.U ⟨86, [], []⟩ [(1, (.d (.int .i64))), (2, (.d (.sl (.int .i64)))), (3, (.box [.d .str])), (12, (.box [.row 9 .str])), (13, (.clo 38 [12, 3])), (64, (.d (.sl (.int .i64)))), (65, (.d (.int .i64))), (66, (.d (.int .i64)))])) := by
  rw [mastref2_SourceSetOf.l2]
  kernel_rfl
theorem mastref2_SourceSetOf.l3_eq (k : Nat) (x12_0 : (List ByteArray)) : mastref2_SourceSetOf.l3 (k + 1) x12_0 = runFrom (C := ctx) (mastref2_SourceSetOf.O k) ⟨86, [], []⟩ (mastref2_SourceSetOf.L k) (Tryd.f14.body.getD .skip) mastref2_SourceSetOf.a 3 (endK ctx [.str, (.int .i64)] [(.tmp 6), (.tmp 7)]) (encD [(12, (.box [.row 9 .str]))] (x12_0, ()) (startD sg.U ⟨86, [], []⟩ [(12, (.box [.row 9 .str]))])) := by
  rw [mastref2_SourceSetOf.l3]
  kernel_rfl
theorem mastref2_SourceSetOf.f_eq (k : Nat) (a0 : ByteArray) (a1 : Int) (a2 : (List Int)) : mastref2_SourceSetOf.f k a0 a1 a2 = codeK (C := ctx) (mastref2_SourceSetOf.O k) ⟨86, [], []⟩ (mastref2_SourceSetOf.L k) (Tryd.f14.body.getD .skip) mastref2_SourceSetOf.a (endK ctx [.str, (.int .i64)] [(.tmp 6), (.tmp 7)]) (slotsOf sg.U 0 [(.d .str), (.d (.int .i64)), (.d (.sl (.int .i64)))] (a0, a1, a2, ()) (empty sg.U)) := by
  unfold mastref2_SourceSetOf.f
  kernel_rfl
def mastref2_SourceSetOf.e (k : Nat) : Entry sg := entryOf sg [(.d .str), (.d (.int .i64)), (.d (.sl (.int .i64)))] [.str, (.int .i64)] (fun h => mastref2_SourceSetOf.f k h.1 h.2.1 h.2.2.1)
def mastref2_SourceSetOf.T : List (Lb sg (RT sg.U [.str, (.int .i64)])) := [⟨0, [(1, (.d (.int .i64))), (2, (.d (.sl (.int .i64)))), (3, (.box [.d .str])), (31, (.row 3 (.int .i64))), (32, (.d (.int .i64))), (33, (.d (.int .i64)))], fun k h => mastref2_SourceSetOf.l0 k h.1 h.2.1 h.2.2.1 h.2.2.2.1 h.2.2.2.2.1 h.2.2.2.2.2.1⟩, ⟨1, [(1, (.d (.int .i64))), (2, (.d (.sl (.int .i64)))), (3, (.box [.d .str])), (44, (.d (.sl (.int .i64)))), (45, (.d (.int .i64))), (46, (.d (.int .i64)))], fun k h => mastref2_SourceSetOf.l1 k h.1 h.2.1 h.2.2.1 h.2.2.2.1 h.2.2.2.2.1 h.2.2.2.2.2.1⟩, ⟨2, [(1, (.d (.int .i64))), (2, (.d (.sl (.int .i64)))), (3, (.box [.d .str])), (12, (.box [.row 9 .str])), (13, (.clo 38 [12, 3])), (64, (.d (.sl (.int .i64)))), (65, (.d (.int .i64))), (66, (.d (.int .i64)))], fun k h => mastref2_SourceSetOf.l2 k h.1 h.2.1 h.2.2.1 h.2.2.2.1 h.2.2.2.2.1 h.2.2.2.2.2.1 h.2.2.2.2.2.2.1⟩, ⟨3, [(12, (.box [.row 9 .str]))], fun k h => mastref2_SourceSetOf.l3 k h.1⟩]
theorem mastref2_SourceSetOf.ok (k : Nat) : (mastref2_SourceSetOf.e k).Sound Tryd.prog ctx 14 :=
  entry_ok base_ok mo (fn := Tryd.f14) (b := (Tryd.f14.body.getD .skip)) (pm := [(.d .str), (.d (.int .i64)), (.d (.sl (.int .i64)))]) (rs := [.str, (.int .i64)]) (an := mastref2_SourceSetOf.a) (N := 86) (vars := [(.tmp 6), (.tmp 7)]) Tryd.func14 (by kernel_rfl) (by kernel_rfl) (by kernel_rfl) (by kernel_rfl) (by kernel_rfl) (by kernel_rfl) (O := mastref2_SourceSetOf.O)
    (fun k => by unfold mastref2_SourceSetOf.O; exact oracle_of (P := Tryd.prog) (C := ctx) ⟨(mastref2_IsPath.ok k), ⟨(strings_HasPrefix.ok), ⟨(strings_Join.ok), ⟨(strings_TrimPrefix.ok), ⟨(mastref2_SourceSetOf_c1.ok), ⟨(slices_Contains_int_int.ok k), trivial⟩⟩⟩⟩⟩⟩) mastref2_SourceSetOf.T ⟨⟨by kernel_rfl, fun _ => by first | rfl | rw [mastref2_SourceSetOf.l0], fun k h => mastref2_SourceSetOf.l0_eq k h.1 h.2.1 h.2.2.1 h.2.2.2.1 h.2.2.2.2.1 h.2.2.2.2.2.1⟩, ⟨⟨by kernel_rfl, fun _ => by first | rfl | rw [mastref2_SourceSetOf.l1], fun k h => mastref2_SourceSetOf.l1_eq k h.1 h.2.1 h.2.2.1 h.2.2.2.1 h.2.2.2.2.1 h.2.2.2.2.2.1⟩, ⟨⟨by kernel_rfl, fun _ => by first | rfl | rw [mastref2_SourceSetOf.l2], fun k h => mastref2_SourceSetOf.l2_eq k h.1 h.2.1 h.2.2.1 h.2.2.2.1 h.2.2.2.2.1 h.2.2.2.2.2.1 h.2.2.2.2.2.2.1⟩, ⟨⟨by kernel_rfl, fun _ => by first | rfl | rw [mastref2_SourceSetOf.l3], fun k h => mastref2_SourceSetOf.l3_eq k h.1⟩, trivial⟩⟩⟩⟩ k (fun h => mastref2_SourceSetOf.f_eq k h.1 h.2.1 h.2.2.1)
def mastlaw2_ImageSources.f (k : Nat) (a0 : ByteArray) (a1 : Int) (a2 : (List Int)) : Option (Bool) := ((asset_SourceSet.f k a0 a1 a2).bind fun y1 => ((mastref2_SourceSetOf.f k a0 a1 a2).bind fun y2 => (some (bif (ieq y1.2 y2.2) then (seq y1.1 y2.1) else false))))
def mastlaw2_ImageSources.O (k : Nat) : Oracle sg := fun n => lkp n [(13, asset_SourceSet.e k), (14, mastref2_SourceSetOf.e k)]
def mastlaw2_ImageSources.a : Ann := .z
def mastlaw2_ImageSources.L (k : Nat) : Nat → St sg.U → Option (RT sg.U [.bool]) := labs []
theorem mastlaw2_ImageSources.f_eq (k : Nat) (a0 : ByteArray) (a1 : Int) (a2 : (List Int)) : mastlaw2_ImageSources.f k a0 a1 a2 = codeK (C := ctx) (mastlaw2_ImageSources.O k) ⟨33, [], []⟩ (mastlaw2_ImageSources.L k) (Tryd.f5.body.getD .skip) mastlaw2_ImageSources.a (endK ctx [.bool] [(.tmp 6)]) (slotsOf sg.U 0 [(.d .str), (.d (.int .i64)), (.d (.sl (.int .i64)))] (a0, a1, a2, ()) (empty sg.U)) := by
  unfold mastlaw2_ImageSources.f
  kernel_rfl
def mastlaw2_ImageSources.e (k : Nat) : Entry sg := entryOf sg [(.d .str), (.d (.int .i64)), (.d (.sl (.int .i64)))] [.bool] (fun h => mastlaw2_ImageSources.f k h.1 h.2.1 h.2.2.1)
def mastlaw2_ImageSources.T : List (Lb sg (RT sg.U [.bool])) := []
theorem mastlaw2_ImageSources.ok (k : Nat) : (mastlaw2_ImageSources.e k).Sound Tryd.prog ctx 5 :=
  entry_ok base_ok mo (fn := Tryd.f5) (b := (Tryd.f5.body.getD .skip)) (pm := [(.d .str), (.d (.int .i64)), (.d (.sl (.int .i64)))]) (rs := [.bool]) (an := mastlaw2_ImageSources.a) (N := 33) (vars := [(.tmp 6)]) Tryd.func5 (by kernel_rfl) (by kernel_rfl) (by kernel_rfl) (by kernel_rfl) (by kernel_rfl) (by kernel_rfl) (O := mastlaw2_ImageSources.O)
    (fun k => by unfold mastlaw2_ImageSources.O; exact oracle_of (P := Tryd.prog) (C := ctx) ⟨(asset_SourceSet.ok k), ⟨(mastref2_SourceSetOf.ok k), trivial⟩⟩) mastlaw2_ImageSources.T trivial k (fun h => mastlaw2_ImageSources.f_eq k h.1 h.2.1 h.2.2.1)
end Go.Proofs.YtdllocgdhdfgeaaDoor.LImageSources
