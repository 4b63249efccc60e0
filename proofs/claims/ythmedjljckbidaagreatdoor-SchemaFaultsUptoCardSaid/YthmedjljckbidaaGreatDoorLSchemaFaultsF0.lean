/- The functions behind the law SchemaFaults, checked against the code; their summaries hold. Conditions: none. -/
import Derived.Test.YthmedjljckbidaaGreatDoorLiftZ
import Derived.Test.YthmedjljckbidaaGreatDoorProg
import Derived.Test.YthmedjljckbidaaGreatDoorLSchemaFaultsSh
import Derived.Shelf.Strings.SlTrimAscii
namespace Go.Proofs.YthmedjljckbidaaGreatDoor.LSchemaFaults
open Go Go.Proofs.YthmedjljckbidaaGreatDoor.Lift
set_option maxRecDepth 100000
set_option linter.unusedVariables false
structure T_api_Value where
  fKind : Int
  fBool : Bool
  fInt : Int
  fText : ByteArray
  fItems : (List T_api_Value)
  fKeys : (List ByteArray)
  deriving Inhabited
structure T_conf_Field where
  fRoute : ByteArray
  fKind : Int
  fNeed : Bool
  fBounded : Bool
  fMin : Int
  fMax : Int
  fOneOf : (List ByteArray)
  fDefault : T_api_Value
  deriving Inhabited
structure T_conf_Schema where
  fFields : (List T_conf_Field)
  fStrict : Bool
  deriving Inhabited
structure T_conf_Fault where
  fRoute : ByteArray
  fKind : Int
  deriving Inhabited
structure T_conf_judge where
  fout : (List T_conf_Fault)
  deriving Inhabited
structure T_conf_step where
  fkey : ByteArray
  fnumber : Int
  fstar : Bool
  deriving Inhabited
structure T_mastref2_reached where
  froute : ByteArray
  fv : T_api_Value
  fmissing : Bool
  deriving Inhabited
abbrev sgU : Nat → Type
  | 0 => T_conf_Schema
  | 1 => T_conf_Field
  | 2 => T_api_Value
  | 3 => T_conf_Fault
  | 4 => T_conf_judge
  | 5 => T_conf_step
  | 6 => T_mastref2_reached
  | 7 => Unit
  | 8 => Unit
  | 9 => Unit
  | 10 => Unit
  | 11 => Unit
  | 12 => Unit
  | 13 => Unit
  | 14 => Unit
  | 15 => Unit
  | 16 => Unit
  | 17 => Unit
  | 18 => Unit
  | 19 => Unit
  | 20 => Unit
  | 21 => Unit
  | 22 => Unit
  | 23 => Unit
  | 24 => Unit
  | 25 => Unit
  | 26 => Unit
  | 27 => Unit
  | 28 => Unit
  | 29 => Unit
  | 30 => Unit
  | 31 => Unit
  | _ + 32 => Unit
abbrev sgF : Nat → List Ty
  | 0 => [(.sl (.st 1)), .bool]
  | 1 => [.str, (.int .i64), .bool, .bool, (.int .i64), (.int .i64), (.sl .str), (.st 2)]
  | 2 => [(.int .i64), .bool, (.int .i64), .str, (.sl (.st 2)), (.sl .str)]
  | 3 => [.str, (.int .i64)]
  | 4 => [(.sl (.st 3))]
  | 5 => [.str, (.int .i64), .bool]
  | 6 => [.str, (.st 2), .bool]
  | 7 => []
  | 8 => []
  | 9 => []
  | 10 => []
  | 11 => []
  | 12 => []
  | 13 => []
  | 14 => []
  | 15 => []
  | 16 => []
  | 17 => []
  | 18 => []
  | 19 => []
  | 20 => []
  | 21 => []
  | 22 => []
  | 23 => []
  | 24 => []
  | 25 => []
  | 26 => []
  | 27 => []
  | 28 => []
  | 29 => []
  | 30 => []
  | 31 => []
  | _ + 32 => []
def sgO : (n : Nat) → sgU n → HL sgU (sgF n)
  | 0, x => (x.fFields, x.fStrict, ())
  | 1, x => (x.fRoute, x.fKind, x.fNeed, x.fBounded, x.fMin, x.fMax, x.fOneOf, x.fDefault, ())
  | 2, x => (x.fKind, x.fBool, x.fInt, x.fText, x.fItems, x.fKeys, ())
  | 3, x => (x.fRoute, x.fKind, ())
  | 4, x => (x.fout, ())
  | 5, x => (x.fkey, x.fnumber, x.fstar, ())
  | 6, x => (x.froute, x.fv, x.fmissing, ())
  | 7, _ => ()
  | 8, _ => ()
  | 9, _ => ()
  | 10, _ => ()
  | 11, _ => ()
  | 12, _ => ()
  | 13, _ => ()
  | 14, _ => ()
  | 15, _ => ()
  | 16, _ => ()
  | 17, _ => ()
  | 18, _ => ()
  | 19, _ => ()
  | 20, _ => ()
  | 21, _ => ()
  | 22, _ => ()
  | 23, _ => ()
  | 24, _ => ()
  | 25, _ => ()
  | 26, _ => ()
  | 27, _ => ()
  | 28, _ => ()
  | 29, _ => ()
  | 30, _ => ()
  | 31, _ => ()
  | _ + 32, _ => ()
def sgB : (n : Nat) → HL sgU (sgF n) → sgU n
  | 0, h => ⟨h.1, h.2.1⟩
  | 1, h => ⟨h.1, h.2.1, h.2.2.1, h.2.2.2.1, h.2.2.2.2.1, h.2.2.2.2.2.1, h.2.2.2.2.2.2.1, h.2.2.2.2.2.2.2.1⟩
  | 2, h => ⟨h.1, h.2.1, h.2.2.1, h.2.2.2.1, h.2.2.2.2.1, h.2.2.2.2.2.1⟩
  | 3, h => ⟨h.1, h.2.1⟩
  | 4, h => ⟨h.1⟩
  | 5, h => ⟨h.1, h.2.1, h.2.2.1⟩
  | 6, h => ⟨h.1, h.2.1, h.2.2.1⟩
  | 7, _ => ()
  | 8, _ => ()
  | 9, _ => ()
  | 10, _ => ()
  | 11, _ => ()
  | 12, _ => ()
  | 13, _ => ()
  | 14, _ => ()
  | 15, _ => ()
  | 16, _ => ()
  | 17, _ => ()
  | 18, _ => ()
  | 19, _ => ()
  | 20, _ => ()
  | 21, _ => ()
  | 22, _ => ()
  | 23, _ => ()
  | 24, _ => ()
  | 25, _ => ()
  | 26, _ => ()
  | 27, _ => ()
  | 28, _ => ()
  | 29, _ => ()
  | 30, _ => ()
  | 31, _ => ()
  | _ + 32, _ => ()
def sg : Sg := { U := sgU, fl := sgF, out := sgO, bld := sgB, gl := [1, 6], gp := fun k c => match k with | 6 => c = (Lib.pow10Tab.map fun z => Value.int .u64 z).toArray | _ => ∃ m, c[0]? = some (.int .i64 m) }
def ctx : Ctx := { S := sg, ty := [(40, .n), (59, .n), (87, .n), (97, .n), (100, .n), (103, .n), (104, .n), (105, .n), (106, .n), (107, .n), (108, .n), (109, .n), (110, .n), (111, .n), (112, .n), (3, .d (.int .i64) 1 0), (4, .d .bool 1 0), (5, .d (.int .u8) 1 0), (9, .d .str 1 0), (23, .d (.sl .str) 16 9), (27, .d (.int .i64) 1 0), (32, .d (.sl (.st 2)) 88 34), (34, .d (.st 2) 1 0), (50, .d (.sl (.st 1)) 160 121), (52, .d (.st 0) 1 0), (53, .d (.sl (.st 3)) 24 126), (71, .d (.sl (.int .u8)) 1 5), (121, .d (.st 1) 1 0), (126, .d (.st 3) 1 0), (155, .m 9 4), (181, .d (.st 4) 1 0), (182, .d (.sl (.sl .str)) 24 23), (183, .d (.sl (.st 5)) 32 287), (188, .d (.sl (.st 6)) 112 191), (191, .d (.st 6) 1 0), (287, .d (.st 5) 1 0), (326, .d (.int .u64) 1 0)], eqs := [126] }
def c_empty : ByteArray := ⟨#[]⟩
def c__2e : ByteArray := ⟨#[46]⟩
def c__2a : ByteArray := ⟨#[42]⟩
def c__2d : ByteArray := ⟨#[45]⟩
def c_0 : ByteArray := ⟨#[48]⟩
def c_yes : ByteArray := ⟨#[121, 101, 115]⟩
def c_no : ByteArray := ⟨#[110, 111]⟩
def c_nil : ByteArray := ⟨#[110, 105, 108]⟩
def c_0123456789 : ByteArray := ⟨#[48, 49, 50, 51, 52, 53, 54, 55, 56, 57]⟩
def c_abcdefghijklmnopqrst_0e2e2cf4 : ByteArray := ⟨#[97, 98, 99, 100, 101, 102, 103, 104, 105, 106, 107, 108, 109, 110, 111, 112, 113, 114, 115, 116, 117, 118, 119, 120, 121, 122, 48, 49, 50, 51, 52, 53, 54, 55, 56, 57, 45, 95]⟩
theorem sg_ok : SgOk sg :=
  ⟨fun n h => by rcases n with _ | _ | _ | _ | _ | _ | _ | _ | _ | _ | _ | _ | _ | _ | _ | _ | _ | _ | _ | _ | _ | _ | _ | _ | _ | _ | _ | _ | _ | _ | _ | _ | n <;> rfl, fun n => by rcases n with _ | _ | _ | _ | _ | _ | _ | _ | _ | _ | _ | _ | _ | _ | _ | _ | _ | _ | _ | _ | _ | _ | _ | _ | _ | _ | _ | _ | _ | _ | _ | _ | n <;> rfl, fun n x => by rcases n with _ | _ | _ | _ | _ | _ | _ | _ | _ | _ | _ | _ | _ | _ | _ | _ | _ | _ | _ | _ | _ | _ | _ | _ | _ | _ | _ | _ | _ | _ | _ | _ | n <;> rfl, fun n => by rcases n with _ | _ | _ | _ | _ | _ | _ | _ | _ | _ | _ | _ | _ | _ | _ | _ | _ | _ | _ | _ | _ | _ | _ | _ | _ | _ | _ | _ | _ | _ | _ | _ | n <;> rfl⟩
theorem base_ok : Base Tryz.prog ctx := base_of sg_ok (by kernel_rfl) (eqOk_of (by kernel_rfl))
theorem open_ok : openB Tryz.prog ctx = true := by kernel_rfl
theorem mo : Tryz.prog.follows .mixedOrders = true := by kernel_rfl
def strings_Split.f (a0 : ByteArray) (a1 : ByteArray) : Option ((List ByteArray)) := splitF a0 a1
def strings_Split.e : Entry sg := entryOf sg [(.d .str), (.d .str)] [(.sl .str)] (fun h => strings_Split.f h.1 h.2.1)
theorem strings_Split.ok : (strings_Split.e).Sound Tryz.prog ctx 77 :=
  split_sound (C := ctx) sg_ok Tryz.func77 (by kernel_rfl) (by kernel_rfl) (kM := 1) (fun w hG => by obtain ⟨m, hm⟩ := hG 1 (by simp [ctx, sg]); exact ⟨m, cells_cell hm⟩) (fun s sep m w hs hm h1 => Tryz.strings_Split s sep m w hs hm h1)
def conf_isSmall.f (a0 : Int) : Option (Bool) := (some (bif (ile 97 a0) then (ile a0 122) else false))
def conf_isSmall.O : Oracle sg := fun n => lkp n []
def conf_isSmall.a : Ann := .z
def conf_isSmall.L : Nat → St sg.U → Option (RT sg.U [.bool]) := labs []
theorem conf_isSmall.f_eq (a0 : Int) : conf_isSmall.f a0 = codeK (C := ctx) (conf_isSmall.O) ⟨9, [], []⟩ (conf_isSmall.L) (Tryz.f237.body.getD .skip) conf_isSmall.a (endK ctx [.bool] [(.tmp 2)]) (slotsOf sg.U 0 [(.d (.int .u8))] (a0, ()) (empty sg.U)) := by
  unfold conf_isSmall.f
  kernel_rfl
def conf_isSmall.e : Entry sg := entryOf sg [(.d (.int .u8))] [.bool] (fun h => conf_isSmall.f h.1)
def conf_isSmall.T : List (Lb sg (RT sg.U [.bool])) := []
theorem conf_isSmall.ok : (conf_isSmall.e).Sound Tryz.prog ctx 237 :=
  entry_ok base_ok mo (fn := Tryz.f237) (b := (Tryz.f237.body.getD .skip)) (pm := [(.d (.int .u8))]) (rs := [.bool]) (an := conf_isSmall.a) (N := 9) (vars := [(.tmp 2)]) Tryz.func237 (by kernel_rfl) (by kernel_rfl) (by kernel_rfl) (by kernel_rfl) (by kernel_rfl) (by kernel_rfl) (O := fun _ => conf_isSmall.O)
    (fun _ => by unfold conf_isSmall.O; exact oracle_of (P := Tryz.prog) (C := ctx) trivial) conf_isSmall.T trivial 0 (fun h => conf_isSmall.f_eq h.1)
def conf_isDigit.f (a0 : Int) : Option (Bool) := (some (bif (ile 48 a0) then (ile a0 57) else false))
def conf_isDigit.O : Oracle sg := fun n => lkp n []
def conf_isDigit.a : Ann := .z
def conf_isDigit.L : Nat → St sg.U → Option (RT sg.U [.bool]) := labs []
theorem conf_isDigit.f_eq (a0 : Int) : conf_isDigit.f a0 = codeK (C := ctx) (conf_isDigit.O) ⟨9, [], []⟩ (conf_isDigit.L) (Tryz.f238.body.getD .skip) conf_isDigit.a (endK ctx [.bool] [(.tmp 2)]) (slotsOf sg.U 0 [(.d (.int .u8))] (a0, ()) (empty sg.U)) := by
  unfold conf_isDigit.f
  kernel_rfl
def conf_isDigit.e : Entry sg := entryOf sg [(.d (.int .u8))] [.bool] (fun h => conf_isDigit.f h.1)
def conf_isDigit.T : List (Lb sg (RT sg.U [.bool])) := []
theorem conf_isDigit.ok : (conf_isDigit.e).Sound Tryz.prog ctx 238 :=
  entry_ok base_ok mo (fn := Tryz.f238) (b := (Tryz.f238.body.getD .skip)) (pm := [(.d (.int .u8))]) (rs := [.bool]) (an := conf_isDigit.a) (N := 9) (vars := [(.tmp 2)]) Tryz.func238 (by kernel_rfl) (by kernel_rfl) (by kernel_rfl) (by kernel_rfl) (by kernel_rfl) (by kernel_rfl) (O := fun _ => conf_isDigit.O)
    (fun _ => by unfold conf_isDigit.O; exact oracle_of (P := Tryz.prog) (C := ctx) trivial) conf_isDigit.T trivial 0 (fun h => conf_isDigit.f_eq h.1)
def conf_isKey.l0 : Nat → ByteArray → Int → Option (Bool)
  | 0, _, _ => none
  | k + 1, x0, x3 => (bif (ilt x3 (slen x0)) then ((sat x0 x3).bind fun y3 => ((conf_isSmall.f y3).bind fun y4 => (bif (!y4) then ((sat x0 x3).bind fun y5 => ((conf_isDigit.f y5).bind fun y6 => (bif (!y6) then ((sat x0 x3).bind fun y7 => (bif (!ieq y7 45) then ((sat x0 x3).bind fun y8 => (bif (!ieq y8 95) then (some false) else (conf_isKey.l0 k x0 (wadd .i64 x3 1)))) else (conf_isKey.l0 k x0 (wadd .i64 x3 1)))) else (conf_isKey.l0 k x0 (wadd .i64 x3 1))))) else (conf_isKey.l0 k x0 (wadd .i64 x3 1))))) else (some true))
def conf_isKey.f (k : Nat) (a0 : ByteArray) : Option (Bool) := (bif (bif (seq a0 c_empty) then true else (ilt 40 (slen a0))) then (some false) else ((sat a0 0).bind fun y1 => ((conf_isSmall.f y1).bind fun y2 => (bif (!y2) then (some false) else (conf_isKey.l0 k a0 1)))))
def conf_isKey.O (k : Nat) : Oracle sg := fun n => lkp n [(237, conf_isSmall.e), (238, conf_isDigit.e)]
def conf_isKey.a : Ann := (.n .z (.n .z (.n (.n .z (.lp 0 .z)) .z)))
def conf_isKey.L (k : Nat) : Nat → St sg.U → Option (RT sg.U [.bool]) := labs [(0, labOf sg [(0, (.d .str)), (3, (.d (.int .i64)))] (fun h => conf_isKey.l0 k h.1 h.2.1))]
theorem conf_isKey.l0_eq (k : Nat) (x0 : ByteArray) (x3 : Int) : conf_isKey.l0 (k + 1) x0 x3 = runFrom (C := ctx) (conf_isKey.O k) ⟨47, [], []⟩ (conf_isKey.L k) (Tryz.f173.body.getD .skip) conf_isKey.a 0 (endK ctx [.bool] [(.tmp 2)]) (encD [(0, (.d .str)), (3, (.d (.int .i64)))] (x0, x3, ()) (startD sg.U ⟨47, [], []⟩ [(0, (.d .str)), (3, (.d (.int .i64)))])) := by
  rw [conf_isKey.l0]
  kernel_rfl
theorem conf_isKey.f_eq (k : Nat) (a0 : ByteArray) : conf_isKey.f k a0 = codeK (C := ctx) (conf_isKey.O k) ⟨47, [], []⟩ (conf_isKey.L k) (Tryz.f173.body.getD .skip) conf_isKey.a (endK ctx [.bool] [(.tmp 2)]) (slotsOf sg.U 0 [(.d .str)] (a0, ()) (empty sg.U)) := by
  unfold conf_isKey.f
  kernel_rfl
def conf_isKey.e (k : Nat) : Entry sg := entryOf sg [(.d .str)] [.bool] (fun h => conf_isKey.f k h.1)
def conf_isKey.T : List (Lb sg (RT sg.U [.bool])) := [⟨0, [(0, (.d .str)), (3, (.d (.int .i64)))], fun k h => conf_isKey.l0 k h.1 h.2.1⟩]
theorem conf_isKey.ok (k : Nat) : (conf_isKey.e k).Sound Tryz.prog ctx 173 :=
  entry_ok base_ok mo (fn := Tryz.f173) (b := (Tryz.f173.body.getD .skip)) (pm := [(.d .str)]) (rs := [.bool]) (an := conf_isKey.a) (N := 47) (vars := [(.tmp 2)]) Tryz.func173 (by kernel_rfl) (by kernel_rfl) (by kernel_rfl) (by kernel_rfl) (by kernel_rfl) (by kernel_rfl) (O := conf_isKey.O)
    (fun k => by unfold conf_isKey.O; exact oracle_of (P := Tryz.prog) (C := ctx) ⟨(conf_isSmall.ok), ⟨(conf_isDigit.ok), trivial⟩⟩) conf_isKey.T ⟨⟨by kernel_rfl, fun _ => by first | rfl | rw [conf_isKey.l0], fun k h => conf_isKey.l0_eq k h.1 h.2.1⟩, trivial⟩ k (fun h => conf_isKey.f_eq k h.1)
def internal_stringslite_HasPrefix.f (a0 : ByteArray) (a1 : ByteArray) : Option (Bool) := (bif (ile (slen a1) (slen a0)) then ((ssub a0 0 (slen a1)).bind fun y1 => (some (seq y1 a1))) else (some false))
def internal_stringslite_HasPrefix.O : Oracle sg := fun n => lkp n []
def internal_stringslite_HasPrefix.a : Ann := .z
def internal_stringslite_HasPrefix.L : Nat → St sg.U → Option (RT sg.U [.bool]) := labs []
theorem internal_stringslite_HasPrefix.f_eq (a0 : ByteArray) (a1 : ByteArray) : internal_stringslite_HasPrefix.f a0 a1 = codeK (C := ctx) (internal_stringslite_HasPrefix.O) ⟨18, [], []⟩ (internal_stringslite_HasPrefix.L) (Tryz.f222.body.getD .skip) internal_stringslite_HasPrefix.a (endK ctx [.bool] [(.tmp 4)]) (slotsOf sg.U 0 [(.d .str), (.d .str)] (a0, a1, ()) (empty sg.U)) := by
  unfold internal_stringslite_HasPrefix.f
  kernel_rfl
def internal_stringslite_HasPrefix.e : Entry sg := entryOf sg [(.d .str), (.d .str)] [.bool] (fun h => internal_stringslite_HasPrefix.f h.1 h.2.1)
def internal_stringslite_HasPrefix.T : List (Lb sg (RT sg.U [.bool])) := []
theorem internal_stringslite_HasPrefix.ok : (internal_stringslite_HasPrefix.e).Sound Tryz.prog ctx 222 :=
  entry_ok base_ok mo (fn := Tryz.f222) (b := (Tryz.f222.body.getD .skip)) (pm := [(.d .str), (.d .str)]) (rs := [.bool]) (an := internal_stringslite_HasPrefix.a) (N := 18) (vars := [(.tmp 4)]) Tryz.func222 (by kernel_rfl) (by kernel_rfl) (by kernel_rfl) (by kernel_rfl) (by kernel_rfl) (by kernel_rfl) (O := fun _ => internal_stringslite_HasPrefix.O)
    (fun _ => by unfold internal_stringslite_HasPrefix.O; exact oracle_of (P := Tryz.prog) (C := ctx) trivial) internal_stringslite_HasPrefix.T trivial 0 (fun h => internal_stringslite_HasPrefix.f_eq h.1 h.2.1)
def internal_stringslite_TrimPrefix.f (a0 : ByteArray) (a1 : ByteArray) : Option (ByteArray) := ((internal_stringslite_HasPrefix.f a0 a1).bind fun y1 => (bif y1 then ((ssub a0 (slen a1) (slen a0)).bind fun y2 => (some y2)) else (some a0)))
def internal_stringslite_TrimPrefix.O : Oracle sg := fun n => lkp n [(222, internal_stringslite_HasPrefix.e)]
def internal_stringslite_TrimPrefix.a : Ann := .z
def internal_stringslite_TrimPrefix.L : Nat → St sg.U → Option (RT sg.U [.str]) := labs []
theorem internal_stringslite_TrimPrefix.f_eq (a0 : ByteArray) (a1 : ByteArray) : internal_stringslite_TrimPrefix.f a0 a1 = codeK (C := ctx) (internal_stringslite_TrimPrefix.O) ⟨13, [], []⟩ (internal_stringslite_TrimPrefix.L) (Tryz.f278.body.getD .skip) internal_stringslite_TrimPrefix.a (endK ctx [.str] [(.tmp 4)]) (slotsOf sg.U 0 [(.d .str), (.d .str)] (a0, a1, ()) (empty sg.U)) := by
  unfold internal_stringslite_TrimPrefix.f
  kernel_rfl
def internal_stringslite_TrimPrefix.e : Entry sg := entryOf sg [(.d .str), (.d .str)] [.str] (fun h => internal_stringslite_TrimPrefix.f h.1 h.2.1)
def internal_stringslite_TrimPrefix.T : List (Lb sg (RT sg.U [.str])) := []
theorem internal_stringslite_TrimPrefix.ok : (internal_stringslite_TrimPrefix.e).Sound Tryz.prog ctx 278 :=
  entry_ok base_ok mo (fn := Tryz.f278) (b := (Tryz.f278.body.getD .skip)) (pm := [(.d .str), (.d .str)]) (rs := [.str]) (an := internal_stringslite_TrimPrefix.a) (N := 13) (vars := [(.tmp 4)]) Tryz.func278 (by kernel_rfl) (by kernel_rfl) (by kernel_rfl) (by kernel_rfl) (by kernel_rfl) (by kernel_rfl) (O := fun _ => internal_stringslite_TrimPrefix.O)
    (fun _ => by unfold internal_stringslite_TrimPrefix.O; exact oracle_of (P := Tryz.prog) (C := ctx) ⟨(internal_stringslite_HasPrefix.ok), trivial⟩) internal_stringslite_TrimPrefix.T trivial 0 (fun h => internal_stringslite_TrimPrefix.f_eq h.1 h.2.1)
def strings_TrimPrefix.f (a0 : ByteArray) (a1 : ByteArray) : Option (ByteArray) := ((internal_stringslite_TrimPrefix.f a0 a1).bind fun y1 => (some y1))
def strings_TrimPrefix.O : Oracle sg := fun n => lkp n [(278, internal_stringslite_TrimPrefix.e)]
def strings_TrimPrefix.a : Ann := .z
def strings_TrimPrefix.L : Nat → St sg.U → Option (RT sg.U [.str]) := labs []
theorem strings_TrimPrefix.f_eq (a0 : ByteArray) (a1 : ByteArray) : strings_TrimPrefix.f a0 a1 = codeK (C := ctx) (strings_TrimPrefix.O) ⟨8, [], []⟩ (strings_TrimPrefix.L) (Tryz.f239.body.getD .skip) strings_TrimPrefix.a (endK ctx [.str] [(.tmp 4)]) (slotsOf sg.U 0 [(.d .str), (.d .str)] (a0, a1, ()) (empty sg.U)) := by
  unfold strings_TrimPrefix.f
  kernel_rfl
def strings_TrimPrefix.e : Entry sg := entryOf sg [(.d .str), (.d .str)] [.str] (fun h => strings_TrimPrefix.f h.1 h.2.1)
def strings_TrimPrefix.T : List (Lb sg (RT sg.U [.str])) := []
theorem strings_TrimPrefix.ok : (strings_TrimPrefix.e).Sound Tryz.prog ctx 239 :=
  entry_ok base_ok mo (fn := Tryz.f239) (b := (Tryz.f239.body.getD .skip)) (pm := [(.d .str), (.d .str)]) (rs := [.str]) (an := strings_TrimPrefix.a) (N := 8) (vars := [(.tmp 4)]) Tryz.func239 (by kernel_rfl) (by kernel_rfl) (by kernel_rfl) (by kernel_rfl) (by kernel_rfl) (by kernel_rfl) (O := fun _ => strings_TrimPrefix.O)
    (fun _ => by unfold strings_TrimPrefix.O; exact oracle_of (P := Tryz.prog) (C := ctx) ⟨(internal_stringslite_TrimPrefix.ok), trivial⟩) strings_TrimPrefix.T trivial 0 (fun h => strings_TrimPrefix.f_eq h.1 h.2.1)
def conf_isInteger.l0 : Nat → ByteArray → Int → Option (Bool)
  | 0, _, _ => none
  | k + 1, x0, x3 => (bif (ilt x3 (slen x0)) then ((sat x0 x3).bind fun y2 => ((conf_isDigit.f y2).bind fun y3 => (bif (!y3) then (some false) else (conf_isInteger.l0 k x0 (wadd .i64 x3 1))))) else (some true))
def conf_isInteger.f (k : Nat) (a0 : ByteArray) : Option (Bool) := ((strings_TrimPrefix.f a0 c__2d).bind fun y1 => (bif (seq y1 c_empty) then (some false) else (conf_isInteger.l0 k y1 0)))
def conf_isInteger.O (k : Nat) : Oracle sg := fun n => lkp n [(238, conf_isDigit.e), (239, strings_TrimPrefix.e)]
def conf_isInteger.a : Ann := (.n .z (.n .z (.n .z (.n (.n .z (.lp 0 .z)) .z))))
def conf_isInteger.L (k : Nat) : Nat → St sg.U → Option (RT sg.U [.bool]) := labs [(0, labOf sg [(0, (.d .str)), (3, (.d (.int .i64)))] (fun h => conf_isInteger.l0 k h.1 h.2.1))]
theorem conf_isInteger.l0_eq (k : Nat) (x0 : ByteArray) (x3 : Int) : conf_isInteger.l0 (k + 1) x0 x3 = runFrom (C := ctx) (conf_isInteger.O k) ⟨19, [], []⟩ (conf_isInteger.L k) (Tryz.f174.body.getD .skip) conf_isInteger.a 0 (endK ctx [.bool] [(.tmp 2)]) (encD [(0, (.d .str)), (3, (.d (.int .i64)))] (x0, x3, ()) (startD sg.U ⟨19, [], []⟩ [(0, (.d .str)), (3, (.d (.int .i64)))])) := by
  rw [conf_isInteger.l0]
  kernel_rfl
theorem conf_isInteger.f_eq (k : Nat) (a0 : ByteArray) : conf_isInteger.f k a0 = codeK (C := ctx) (conf_isInteger.O k) ⟨19, [], []⟩ (conf_isInteger.L k) (Tryz.f174.body.getD .skip) conf_isInteger.a (endK ctx [.bool] [(.tmp 2)]) (slotsOf sg.U 0 [(.d .str)] (a0, ()) (empty sg.U)) := by
  unfold conf_isInteger.f
  kernel_rfl
def conf_isInteger.e (k : Nat) : Entry sg := entryOf sg [(.d .str)] [.bool] (fun h => conf_isInteger.f k h.1)
def conf_isInteger.T : List (Lb sg (RT sg.U [.bool])) := [⟨0, [(0, (.d .str)), (3, (.d (.int .i64)))], fun k h => conf_isInteger.l0 k h.1 h.2.1⟩]
theorem conf_isInteger.ok (k : Nat) : (conf_isInteger.e k).Sound Tryz.prog ctx 174 :=
  entry_ok base_ok mo (fn := Tryz.f174) (b := (Tryz.f174.body.getD .skip)) (pm := [(.d .str)]) (rs := [.bool]) (an := conf_isInteger.a) (N := 19) (vars := [(.tmp 2)]) Tryz.func174 (by kernel_rfl) (by kernel_rfl) (by kernel_rfl) (by kernel_rfl) (by kernel_rfl) (by kernel_rfl) (O := conf_isInteger.O)
    (fun k => by unfold conf_isInteger.O; exact oracle_of (P := Tryz.prog) (C := ctx) ⟨(conf_isDigit.ok), ⟨(strings_TrimPrefix.ok), trivial⟩⟩) conf_isInteger.T ⟨⟨by kernel_rfl, fun _ => by first | rfl | rw [conf_isInteger.l0], fun k h => conf_isInteger.l0_eq k h.1 h.2.1⟩, trivial⟩ k (fun h => conf_isInteger.f_eq k h.1)
def strconv_Atoi.f (a0 : ByteArray) : Option (Int) := atoiF a0
def strconv_Atoi.e : Entry sg := atoiE sg
theorem strconv_Atoi.ok : (strconv_Atoi.e).Sound Tryz.prog ctx 175 :=
  atoi_sound (C := ctx) sg_ok Tryz.func175 (by kernel_rfl) (by kernel_rfl) (fun s n w h1 h2 => Tryz.strconv_Atoi s n h1 h2 w)
def conf_steps.l0 : Nat → Bool → (List T_conf_step) → (List ByteArray) → Int → Int → Option ((List T_conf_step) × Bool)
  | 0, _, _, _, _, _ => none
  | k + 1, x1, x6, x17, x18, x19 => (bif (ilt x19 x18) then ((lat x17 x19).bind fun y2 => ((conf_isKey.f k y2).bind fun y3 => (bif y3 then ((lapp 32 x6 [(T_conf_step.mk y2 0 false)]).bind fun y4 => (conf_steps.l0 k x1 y4 x17 x18 (wadd .i64 x19 1))) else (bif (bif x1 then (seq y2 c__2a) else false) then ((lapp 32 x6 [(T_conf_step.mk c_empty 0 true)]).bind fun y5 => (conf_steps.l0 k x1 y5 x17 x18 (wadd .i64 x19 1))) else (bif (bif (seq y2 c_empty) then true else (ilt 4 (slen y2))) then (some ([], false)) else ((conf_isInteger.f k y2).bind fun y6 => (bif (!y6) then (some ([], false)) else ((sat y2 0).bind fun y7 => (bif (ieq y7 45) then (some ([], false)) else ((sat y2 0).bind fun y8 => (bif (bif (ieq y8 48) then (!seq y2 c_0) else false) then (some ([], false)) else ((strconv_Atoi.f y2).bind fun y9 => ((lapp 32 x6 [(T_conf_step.mk c_empty y9 false)]).bind fun y10 => (conf_steps.l0 k x1 y10 x17 x18 (wadd .i64 x19 1))))))))))))))) else (some (x6, true)))
def conf_steps.f (k : Nat) (a0 : ByteArray) (a1 : Bool) : Option ((List T_conf_step) × Bool) := (bif (ilt 400 (slen a0)) then (some ([], false)) else (bif (seq a0 c_empty) then (some ([], true)) else ((strings_Split.f a0 c__2e).bind fun y1 => (conf_steps.l0 k a1 [] y1 (llen y1) 0))))
def conf_steps.O (k : Nat) : Oracle sg := fun n => lkp n [(77, strings_Split.e), (173, conf_isKey.e k), (174, conf_isInteger.e k), (175, strconv_Atoi.e)]
def conf_steps.a : Ann := (.n .z (.n .z (.n .z (.n .z (.n (.n .z (.lp 0 .z)) .z)))))
def conf_steps.L (k : Nat) : Nat → St sg.U → Option (RT sg.U [(.sl (.st 5)), .bool]) := labs [(0, labOf sg [(1, (.d .bool)), (6, (.row 287 (.st 5))), (17, (.d (.sl .str))), (18, (.d (.int .i64))), (19, (.d (.int .i64)))] (fun h => conf_steps.l0 k h.1 h.2.1 h.2.2.1 h.2.2.2.1 h.2.2.2.2.1))]
theorem conf_steps.l0_eq (k : Nat) (x1 : Bool) (x6 : (List T_conf_step)) (x17 : (List ByteArray)) (x18 : Int) (x19 : Int) : conf_steps.l0 (k + 1) x1 x6 x17 x18 x19 = runFrom (C := ctx) (conf_steps.O k) ⟨79, [], []⟩ (conf_steps.L k) (Tryz.f84.body.getD .skip) conf_steps.a 0 (endK ctx [(.sl (.st 5)), .bool] [(.tmp 4), (.tmp 5)]) (encD [(1, (.d .bool)), (6, (.row 287 (.st 5))), (17, (.d (.sl .str))), (18, (.d (.int .i64))), (19, (.d (.int .i64)))] (x1, x6, x17, x18, x19, ()) (startD sg.U ⟨79, [], []⟩ [(1, (.d .bool)), (6, (.row 287 (.st 5))), (17, (.d (.sl .str))), (18, (.d (.int .i64))), (19, (.d (.int .i64)))])) := by
  rw [conf_steps.l0]
  kernel_rfl
theorem conf_steps.f_eq (k : Nat) (a0 : ByteArray) (a1 : Bool) : conf_steps.f k a0 a1 = codeK (C := ctx) (conf_steps.O k) ⟨79, [], []⟩ (conf_steps.L k) (Tryz.f84.body.getD .skip) conf_steps.a (endK ctx [(.sl (.st 5)), .bool] [(.tmp 4), (.tmp 5)]) (slotsOf sg.U 0 [(.d .str), (.d .bool)] (a0, a1, ()) (empty sg.U)) := by
  unfold conf_steps.f
  kernel_rfl
def conf_steps.e (k : Nat) : Entry sg := entryOf sg [(.d .str), (.d .bool)] [(.sl (.st 5)), .bool] (fun h => conf_steps.f k h.1 h.2.1)
def conf_steps.T : List (Lb sg (RT sg.U [(.sl (.st 5)), .bool])) := [⟨0, [(1, (.d .bool)), (6, (.row 287 (.st 5))), (17, (.d (.sl .str))), (18, (.d (.int .i64))), (19, (.d (.int .i64)))], fun k h => conf_steps.l0 k h.1 h.2.1 h.2.2.1 h.2.2.2.1 h.2.2.2.2.1⟩]
theorem conf_steps.ok (k : Nat) : (conf_steps.e k).Sound Tryz.prog ctx 84 :=
  entry_ok base_ok mo (fn := Tryz.f84) (b := (Tryz.f84.body.getD .skip)) (pm := [(.d .str), (.d .bool)]) (rs := [(.sl (.st 5)), .bool]) (an := conf_steps.a) (N := 79) (vars := [(.tmp 4), (.tmp 5)]) Tryz.func84 (by kernel_rfl) (by kernel_rfl) (by kernel_rfl) (by kernel_rfl) (by kernel_rfl) (by kernel_rfl) (O := conf_steps.O)
    (fun k => by unfold conf_steps.O; exact oracle_of (P := Tryz.prog) (C := ctx) ⟨(strings_Split.ok), ⟨(conf_isKey.ok k), ⟨(conf_isInteger.ok k), ⟨(strconv_Atoi.ok), trivial⟩⟩⟩⟩) conf_steps.T ⟨⟨by kernel_rfl, fun _ => by first | rfl | rw [conf_steps.l0], fun k h => conf_steps.l0_eq k h.1 h.2.1 h.2.2.1 h.2.2.2.1 h.2.2.2.2.1⟩, trivial⟩ k (fun h => conf_steps.f_eq k h.1 h.2.1)
def conf_badBytes.l0 : Nat → ByteArray → Int → Option (Bool)
  | 0, _, _ => none
  | k + 1, x0, x3 => (bif (ilt x3 (slen x0)) then ((sat x0 x3).bind fun y1 => (bif (ilt y1 32) then ((sat x0 x3).bind fun y2 => (bif (!ieq y2 9) then ((sat x0 x3).bind fun y3 => (bif (!ieq y3 10) then (some true) else (conf_badBytes.l0 k x0 (wadd .i64 x3 1)))) else (conf_badBytes.l0 k x0 (wadd .i64 x3 1)))) else (conf_badBytes.l0 k x0 (wadd .i64 x3 1)))) else (some false))
def conf_badBytes.f (k : Nat) (a0 : ByteArray) : Option (Bool) := (conf_badBytes.l0 k a0 0)
def conf_badBytes.O (k : Nat) : Oracle sg := fun n => lkp n []
def conf_badBytes.a : Ann := (.n .z (.n (.n .z (.lp 0 .z)) .z))
def conf_badBytes.L (k : Nat) : Nat → St sg.U → Option (RT sg.U [.bool]) := labs [(0, labOf sg [(0, (.d .str)), (3, (.d (.int .i64)))] (fun h => conf_badBytes.l0 k h.1 h.2.1))]
theorem conf_badBytes.l0_eq (k : Nat) (x0 : ByteArray) (x3 : Int) : conf_badBytes.l0 (k + 1) x0 x3 = runFrom (C := ctx) (conf_badBytes.O k) ⟨26, [], []⟩ (conf_badBytes.L k) (Tryz.f235.body.getD .skip) conf_badBytes.a 0 (endK ctx [.bool] [(.tmp 2)]) (encD [(0, (.d .str)), (3, (.d (.int .i64)))] (x0, x3, ()) (startD sg.U ⟨26, [], []⟩ [(0, (.d .str)), (3, (.d (.int .i64)))])) := by
  rw [conf_badBytes.l0]
  kernel_rfl
theorem conf_badBytes.f_eq (k : Nat) (a0 : ByteArray) : conf_badBytes.f k a0 = codeK (C := ctx) (conf_badBytes.O k) ⟨26, [], []⟩ (conf_badBytes.L k) (Tryz.f235.body.getD .skip) conf_badBytes.a (endK ctx [.bool] [(.tmp 2)]) (slotsOf sg.U 0 [(.d .str)] (a0, ()) (empty sg.U)) := by
  unfold conf_badBytes.f
  kernel_rfl
def conf_badBytes.e (k : Nat) : Entry sg := entryOf sg [(.d .str)] [.bool] (fun h => conf_badBytes.f k h.1)
def conf_badBytes.T : List (Lb sg (RT sg.U [.bool])) := [⟨0, [(0, (.d .str)), (3, (.d (.int .i64)))], fun k h => conf_badBytes.l0 k h.1 h.2.1⟩]
theorem conf_badBytes.ok (k : Nat) : (conf_badBytes.e k).Sound Tryz.prog ctx 235 :=
  entry_ok base_ok mo (fn := Tryz.f235) (b := (Tryz.f235.body.getD .skip)) (pm := [(.d .str)]) (rs := [.bool]) (an := conf_badBytes.a) (N := 26) (vars := [(.tmp 2)]) Tryz.func235 (by kernel_rfl) (by kernel_rfl) (by kernel_rfl) (by kernel_rfl) (by kernel_rfl) (by kernel_rfl) (O := conf_badBytes.O)
    (fun k => by unfold conf_badBytes.O; exact oracle_of (P := Tryz.prog) (C := ctx) trivial) conf_badBytes.T ⟨⟨by kernel_rfl, fun _ => by first | rfl | rw [conf_badBytes.l0], fun k h => conf_badBytes.l0_eq k h.1 h.2.1⟩, trivial⟩ k (fun h => conf_badBytes.f_eq k h.1)
mutual
def conf_count.l0 : Nat → Int → (List T_api_Value) → Int → Int → Option (Int)
  | 0, _, _, _, _ => none
  | k + 1, x3, x7, x8, x9 => (bif (ilt x9 x8) then ((lat x7 x9).bind fun y1 => (bif (ilt 1000 x3) then (some x3) else ((conf_count.f k (T_api_Value.mk y1.fKind y1.fBool y1.fInt y1.fText y1.fItems y1.fKeys)).bind fun y2 => (conf_count.l0 k (wadd .i64 x3 y2) x7 x8 (wadd .i64 x9 1))))) else (some x3))
def conf_count.f : Nat → T_api_Value → Option (Int)
  | 0, _ => none
  | k + 1, a0 => (conf_count.l0 k 1 a0.fItems (llen a0.fItems) 0)
end
def conf_count.e (k : Nat) : Entry sg := entryOf sg [(.d (.st 2))] [(.int .i64)] (fun h => conf_count.f k h.1)
def conf_count.O (k : Nat) : Oracle sg := fun n => lkp n [(130, conf_count.e k)]
def conf_count.a : Ann := (.n .z (.n .z (.n (.n .z (.lp 0 .z)) .z)))
def conf_count.L (k : Nat) : Nat → St sg.U → Option (RT sg.U [(.int .i64)]) := labs [(0, labOf sg [(3, (.d (.int .i64))), (7, (.d (.sl (.st 2)))), (8, (.d (.int .i64))), (9, (.d (.int .i64)))] (fun h => conf_count.l0 k h.1 h.2.1 h.2.2.1 h.2.2.2.1))]
theorem conf_count.l0_eq (k : Nat) (x3 : Int) (x7 : (List T_api_Value)) (x8 : Int) (x9 : Int) : conf_count.l0 (k + 1) x3 x7 x8 x9 = runFrom (C := ctx) (conf_count.O k) ⟨21, [], []⟩ (conf_count.L k) (Tryz.f130.body.getD .skip) conf_count.a 0 (endK ctx [(.int .i64)] [(.tmp 2)]) (encD [(3, (.d (.int .i64))), (7, (.d (.sl (.st 2)))), (8, (.d (.int .i64))), (9, (.d (.int .i64)))] (x3, x7, x8, x9, ()) (startD sg.U ⟨21, [], []⟩ [(3, (.d (.int .i64))), (7, (.d (.sl (.st 2)))), (8, (.d (.int .i64))), (9, (.d (.int .i64)))])) := by
  rw [conf_count.l0]
  kernel_rfl
theorem conf_count.f_eq (k : Nat) (a0 : T_api_Value) : conf_count.f (k + 1) a0 = codeK (C := ctx) (conf_count.O k) ⟨21, [], []⟩ (conf_count.L k) (Tryz.f130.body.getD .skip) conf_count.a (endK ctx [(.int .i64)] [(.tmp 2)]) (slotsOf sg.U 0 [(.d (.st 2))] (a0, ()) (empty sg.U)) := by
  rw [conf_count.f]
  kernel_rfl
def conf_count.T : List (Lb sg (RT sg.U [(.int .i64)])) := [⟨0, [(3, (.d (.int .i64))), (7, (.d (.sl (.st 2)))), (8, (.d (.int .i64))), (9, (.d (.int .i64)))], fun k h => conf_count.l0 k h.1 h.2.1 h.2.2.1 h.2.2.2.1⟩]
theorem conf_count.ok : ∀ k : Nat, (conf_count.e k).Sound Tryz.prog ctx 130 :=
  entry_rec base_ok mo (fn := Tryz.f130) (b := (Tryz.f130.body.getD .skip)) (pm := [(.d (.st 2))]) (rs := [(.int .i64)]) (an := conf_count.a) (N := 21) (vars := [(.tmp 2)]) Tryz.func130 (by kernel_rfl) (by kernel_rfl) (by kernel_rfl) (by kernel_rfl) (by kernel_rfl) (by kernel_rfl) (O := conf_count.O) conf_count.T ⟨⟨by kernel_rfl, fun _ => by first | rfl | rw [conf_count.l0], fun k h => conf_count.l0_eq k h.1 h.2.1 h.2.2.1 h.2.2.2.1⟩, trivial⟩ (F := fun k h => conf_count.f k h.1) (fun _ => by first | rfl | rw [conf_count.f]) (fun k h => conf_count.f_eq k h.1)
    (fun k own => by unfold conf_count.O; exact oracle_of (P := Tryz.prog) (C := ctx) ⟨own, trivial⟩)
mutual
def conf_levels.l0 : Nat → Int → (List T_api_Value) → Int → Int → Option (Int)
  | 0, _, _, _, _ => none
  | k + 1, x3, x7, x8, x9 => (bif (ilt x9 x8) then ((lat x7 x9).bind fun y1 => ((conf_levels.f k (T_api_Value.mk y1.fKind y1.fBool y1.fInt y1.fText y1.fItems y1.fKeys)).bind fun y2 => (conf_levels.l0 k (imax x3 y2) x7 x8 (wadd .i64 x9 1)))) else (some (wadd .i64 x3 1)))
def conf_levels.f : Nat → T_api_Value → Option (Int)
  | 0, _ => none
  | k + 1, a0 => (conf_levels.l0 k 0 a0.fItems (llen a0.fItems) 0)
end
def conf_levels.e (k : Nat) : Entry sg := entryOf sg [(.d (.st 2))] [(.int .i64)] (fun h => conf_levels.f k h.1)
def conf_levels.O (k : Nat) : Oracle sg := fun n => lkp n [(131, conf_levels.e k)]
def conf_levels.a : Ann := (.n .z (.n .z (.n (.n .z (.lp 0 .z)) .z)))
def conf_levels.L (k : Nat) : Nat → St sg.U → Option (RT sg.U [(.int .i64)]) := labs [(0, labOf sg [(3, (.d (.int .i64))), (7, (.d (.sl (.st 2)))), (8, (.d (.int .i64))), (9, (.d (.int .i64)))] (fun h => conf_levels.l0 k h.1 h.2.1 h.2.2.1 h.2.2.2.1))]
theorem conf_levels.l0_eq (k : Nat) (x3 : Int) (x7 : (List T_api_Value)) (x8 : Int) (x9 : Int) : conf_levels.l0 (k + 1) x3 x7 x8 x9 = runFrom (C := ctx) (conf_levels.O k) ⟨20, [], []⟩ (conf_levels.L k) (Tryz.f131.body.getD .skip) conf_levels.a 0 (endK ctx [(.int .i64)] [(.tmp 2)]) (encD [(3, (.d (.int .i64))), (7, (.d (.sl (.st 2)))), (8, (.d (.int .i64))), (9, (.d (.int .i64)))] (x3, x7, x8, x9, ()) (startD sg.U ⟨20, [], []⟩ [(3, (.d (.int .i64))), (7, (.d (.sl (.st 2)))), (8, (.d (.int .i64))), (9, (.d (.int .i64)))])) := by
  rw [conf_levels.l0]
  kernel_rfl
theorem conf_levels.f_eq (k : Nat) (a0 : T_api_Value) : conf_levels.f (k + 1) a0 = codeK (C := ctx) (conf_levels.O k) ⟨20, [], []⟩ (conf_levels.L k) (Tryz.f131.body.getD .skip) conf_levels.a (endK ctx [(.int .i64)] [(.tmp 2)]) (slotsOf sg.U 0 [(.d (.st 2))] (a0, ()) (empty sg.U)) := by
  rw [conf_levels.f]
  kernel_rfl
def conf_levels.T : List (Lb sg (RT sg.U [(.int .i64)])) := [⟨0, [(3, (.d (.int .i64))), (7, (.d (.sl (.st 2)))), (8, (.d (.int .i64))), (9, (.d (.int .i64)))], fun k h => conf_levels.l0 k h.1 h.2.1 h.2.2.1 h.2.2.2.1⟩]
theorem conf_levels.ok : ∀ k : Nat, (conf_levels.e k).Sound Tryz.prog ctx 131 :=
  entry_rec base_ok mo (fn := Tryz.f131) (b := (Tryz.f131.body.getD .skip)) (pm := [(.d (.st 2))]) (rs := [(.int .i64)]) (an := conf_levels.a) (N := 20) (vars := [(.tmp 2)]) Tryz.func131 (by kernel_rfl) (by kernel_rfl) (by kernel_rfl) (by kernel_rfl) (by kernel_rfl) (by kernel_rfl) (O := conf_levels.O) conf_levels.T ⟨⟨by kernel_rfl, fun _ => by first | rfl | rw [conf_levels.l0], fun k h => conf_levels.l0_eq k h.1 h.2.1 h.2.2.1 h.2.2.2.1⟩, trivial⟩ (F := fun k h => conf_levels.f k h.1) (fun _ => by first | rfl | rw [conf_levels.f]) (fun k h => conf_levels.f_eq k h.1)
    (fun k own => by unfold conf_levels.O; exact oracle_of (P := Tryz.prog) (C := ctx) ⟨own, trivial⟩)
def conf_unused.l0 : Nat → Int → Bool → Int → ByteArray → (List T_api_Value) → (List ByteArray) → Int → Bool → Option (Bool)
  | 0, _, _, _, _, _, _, _, _ => none
  | k + 1, x1_0, x1_1, x1_2, x1_3, x1_4, x1_5, x3, x6 => (bif x6 then (some true) else (bif (bif (bif (ilt 0 (llen x1_4)) then (!ieq x3 5) else false) then (!ieq x3 6) else false) then (some true) else (bif (bif (ilt 0 (llen x1_5)) then (!ieq x3 6) else false) then (some true) else (some (bif (ieq x3 6) then (!ieq (llen x1_5) (llen x1_4)) else false)))))
def conf_unused.f (k : Nat) (a0 : T_api_Value) : Option (Bool) := (bif (bif a0.fBool then (!ieq a0.fKind 1) else false) then (conf_unused.l0 k a0.fKind a0.fBool a0.fInt a0.fText a0.fItems a0.fKeys a0.fKind true) else (bif (bif (bif (!ieq a0.fInt 0) then (!ieq a0.fKind 2) else false) then (!ieq a0.fKind 4) else false) then (conf_unused.l0 k a0.fKind a0.fBool a0.fInt a0.fText a0.fItems a0.fKeys a0.fKind true) else (conf_unused.l0 k a0.fKind a0.fBool a0.fInt a0.fText a0.fItems a0.fKeys a0.fKind (bif (!seq a0.fText c_empty) then (!ieq a0.fKind 3) else false))))
def conf_unused.O (k : Nat) : Oracle sg := fun n => lkp n []
def conf_unused.a : Ann := (.n .z (.n .z (.n (.n .z (.lab 0 .z)) .z)))
def conf_unused.L (k : Nat) : Nat → St sg.U → Option (RT sg.U [.bool]) := labs [(0, labOf sg [(1, (.box [.d (.int .i64), .d .bool, .d (.int .i64), .d .str, .d (.sl (.st 2)), .d (.sl .str)])), (3, (.d (.int .i64))), (6, (.d .bool))] (fun h => conf_unused.l0 k h.1 h.2.1 h.2.2.1 h.2.2.2.1 h.2.2.2.2.1 h.2.2.2.2.2.1 h.2.2.2.2.2.2.1 h.2.2.2.2.2.2.2.1))]
theorem conf_unused.l0_eq (k : Nat) (x1_0 : Int) (x1_1 : Bool) (x1_2 : Int) (x1_3 : ByteArray) (x1_4 : (List T_api_Value)) (x1_5 : (List ByteArray)) (x3 : Int) (x6 : Bool) : conf_unused.l0 (k + 1) x1_0 x1_1 x1_2 x1_3 x1_4 x1_5 x3 x6 = runFrom (C := ctx) (conf_unused.O k) ⟨63, [], []⟩ (conf_unused.L k) (Tryz.f261.body.getD .skip) conf_unused.a 0 (endK ctx [.bool] [(.tmp 2)]) (encD [(1, (.box [.d (.int .i64), .d .bool, .d (.int .i64), .d .str, .d (.sl (.st 2)), .d (.sl .str)])), (3, (.d (.int .i64))), (6, (.d .bool))] (x1_0, x1_1, x1_2, x1_3, x1_4, x1_5, x3, x6, ()) (startD sg.U ⟨63, [], []⟩ [(1, (.box [.d (.int .i64), .d .bool, .d (.int .i64), .d .str, .d (.sl (.st 2)), .d (.sl .str)])), (3, (.d (.int .i64))), (6, (.d .bool))])) := by
  rw [conf_unused.l0]
  kernel_rfl
theorem conf_unused.f_eq (k : Nat) (a0 : T_api_Value) : conf_unused.f k a0 = codeK (C := ctx) (conf_unused.O k) ⟨63, [], []⟩ (conf_unused.L k) (Tryz.f261.body.getD .skip) conf_unused.a (endK ctx [.bool] [(.tmp 2)]) (slotsOf sg.U 0 [(.d (.st 2))] (a0, ()) (empty sg.U)) := by
  unfold conf_unused.f
  kernel_rfl
def conf_unused.e (k : Nat) : Entry sg := entryOf sg [(.d (.st 2))] [.bool] (fun h => conf_unused.f k h.1)
def conf_unused.T : List (Lb sg (RT sg.U [.bool])) := [⟨0, [(1, (.box [.d (.int .i64), .d .bool, .d (.int .i64), .d .str, .d (.sl (.st 2)), .d (.sl .str)])), (3, (.d (.int .i64))), (6, (.d .bool))], fun k h => conf_unused.l0 k h.1 h.2.1 h.2.2.1 h.2.2.2.1 h.2.2.2.2.1 h.2.2.2.2.2.1 h.2.2.2.2.2.2.1 h.2.2.2.2.2.2.2.1⟩]
theorem conf_unused.ok (k : Nat) : (conf_unused.e k).Sound Tryz.prog ctx 261 :=
  entry_ok base_ok mo (fn := Tryz.f261) (b := (Tryz.f261.body.getD .skip)) (pm := [(.d (.st 2))]) (rs := [.bool]) (an := conf_unused.a) (N := 63) (vars := [(.tmp 2)]) Tryz.func261 (by kernel_rfl) (by kernel_rfl) (by kernel_rfl) (by kernel_rfl) (by kernel_rfl) (by kernel_rfl) (O := conf_unused.O)
    (fun k => by unfold conf_unused.O; exact oracle_of (P := Tryz.prog) (C := ctx) trivial) conf_unused.T ⟨⟨by kernel_rfl, fun _ => by first | rfl | rw [conf_unused.l0], fun k h => conf_unused.l0_eq k h.1 h.2.1 h.2.2.1 h.2.2.2.1 h.2.2.2.2.1 h.2.2.2.2.2.1 h.2.2.2.2.2.2.1 h.2.2.2.2.2.2.2.1⟩, trivial⟩ k (fun h => conf_unused.f_eq k h.1)
def conf_badDay.f (a0 : Int) : Option (Bool) := (some (bif (ilt a0 0) then true else (ilt 84005 a0)))
def conf_badDay.O : Oracle sg := fun n => lkp n []
def conf_badDay.a : Ann := .z
def conf_badDay.L : Nat → St sg.U → Option (RT sg.U [.bool]) := labs []
theorem conf_badDay.f_eq (a0 : Int) : conf_badDay.f a0 = codeK (C := ctx) (conf_badDay.O) ⟨9, [], []⟩ (conf_badDay.L) (Tryz.f262.body.getD .skip) conf_badDay.a (endK ctx [.bool] [(.tmp 2)]) (slotsOf sg.U 0 [(.d (.int .i64))] (a0, ()) (empty sg.U)) := by
  unfold conf_badDay.f
  kernel_rfl
def conf_badDay.e : Entry sg := entryOf sg [(.d (.int .i64))] [.bool] (fun h => conf_badDay.f h.1)
def conf_badDay.T : List (Lb sg (RT sg.U [.bool])) := []
theorem conf_badDay.ok : (conf_badDay.e).Sound Tryz.prog ctx 262 :=
  entry_ok base_ok mo (fn := Tryz.f262) (b := (Tryz.f262.body.getD .skip)) (pm := [(.d (.int .i64))]) (rs := [.bool]) (an := conf_badDay.a) (N := 9) (vars := [(.tmp 2)]) Tryz.func262 (by kernel_rfl) (by kernel_rfl) (by kernel_rfl) (by kernel_rfl) (by kernel_rfl) (by kernel_rfl) (O := fun _ => conf_badDay.O)
    (fun _ => by unfold conf_badDay.O; exact oracle_of (P := Tryz.prog) (C := ctx) trivial) conf_badDay.T trivial 0 (fun h => conf_badDay.f_eq h.1)
mutual
def conf_valueFault.l0 : Nat → Int → Bool → Int → ByteArray → (List T_api_Value) → (List ByteArray) → Bool → Option (Int)
  | 0, _, _, _, _, _, _, _ => none
  | k + 1, x1_0, x1_1, x1_2, x1_3, x1_4, x1_5, x17 => (bif x17 then (some 2) else (bif (ilt 5000 (slen x1_3)) then (some 4) else ((conf_badBytes.f k x1_3).bind fun y3 => (bif y3 then (some 9) else (conf_valueFault.l1 k x1_0 x1_1 x1_2 x1_3 x1_4 x1_5 x1_5 (llen x1_5) 0)))))
def conf_valueFault.l1 : Nat → Int → Bool → Int → ByteArray → (List T_api_Value) → (List ByteArray) → (List ByteArray) → Int → Int → Option (Int)
  | 0, _, _, _, _, _, _, _, _, _ => none
  | k + 1, x1_0, x1_1, x1_2, x1_3, x1_4, x1_5, x36, x37, x38 => (bif (ilt x38 x37) then ((lat x36 x38).bind fun y4 => ((conf_isKey.f k y4).bind fun y5 => (bif (!y5) then (some 12) else (bif (ilt 0 x38) then ((lat x1_5 (wsub .i64 x38 1)).bind fun y6 => (bif (sle y4 y6) then (some 5) else (conf_valueFault.l1 k x1_0 x1_1 x1_2 x1_3 x1_4 x1_5 x36 x37 (wadd .i64 x38 1)))) else (conf_valueFault.l1 k x1_0 x1_1 x1_2 x1_3 x1_4 x1_5 x36 x37 (wadd .i64 x38 1)))))) else (some 0))
end
def conf_valueFault.f (k : Nat) (a0 : T_api_Value) : Option (Int) := (bif (bif (ilt a0.fKind 0) then true else (ilt 6 a0.fKind)) then (some 10) else ((conf_unused.f k (T_api_Value.mk a0.fKind a0.fBool a0.fInt a0.fText a0.fItems a0.fKeys)).bind fun y1 => (bif y1 then (some 1) else (bif (ieq a0.fKind 4) then ((conf_badDay.f a0.fInt).bind fun y2 => (conf_valueFault.l0 k a0.fKind a0.fBool a0.fInt a0.fText a0.fItems a0.fKeys y2)) else (conf_valueFault.l0 k a0.fKind a0.fBool a0.fInt a0.fText a0.fItems a0.fKeys false)))))
def conf_valueFault.O (k : Nat) : Oracle sg := fun n => lkp n [(173, conf_isKey.e k), (235, conf_badBytes.e k), (261, conf_unused.e k), (262, conf_badDay.e)]
def conf_valueFault.a : Ann := (.n .z (.n (.n .z (.n .z (.n .z (.n .z (.n .z (.lab 0 .z)))))) (.n (.n .z (.lp 1 .z)) .z)))
def conf_valueFault.L (k : Nat) : Nat → St sg.U → Option (RT sg.U [(.int .i64)]) := labs [(0, labOf sg [(1, (.box [.d (.int .i64), .d .bool, .d (.int .i64), .d .str, .d (.sl (.st 2)), .d (.sl .str)])), (17, (.d .bool))] (fun h => conf_valueFault.l0 k h.1 h.2.1 h.2.2.1 h.2.2.2.1 h.2.2.2.2.1 h.2.2.2.2.2.1 h.2.2.2.2.2.2.1)), (1, labOf sg [(1, (.box [.d (.int .i64), .d .bool, .d (.int .i64), .d .str, .d (.sl (.st 2)), .d (.sl .str)])), (36, (.d (.sl .str))), (37, (.d (.int .i64))), (38, (.d (.int .i64)))] (fun h => conf_valueFault.l1 k h.1 h.2.1 h.2.2.1 h.2.2.2.1 h.2.2.2.2.1 h.2.2.2.2.2.1 h.2.2.2.2.2.2.1 h.2.2.2.2.2.2.2.1 h.2.2.2.2.2.2.2.2.1))]
theorem conf_valueFault.l0_eq (k : Nat) (x1_0 : Int) (x1_1 : Bool) (x1_2 : Int) (x1_3 : ByteArray) (x1_4 : (List T_api_Value)) (x1_5 : (List ByteArray)) (x17 : Bool) : conf_valueFault.l0 (k + 1) x1_0 x1_1 x1_2 x1_3 x1_4 x1_5 x17 = runFrom (C := ctx) (conf_valueFault.O k) ⟨59, [], []⟩ (conf_valueFault.L k) (Tryz.f208.body.getD .skip) conf_valueFault.a 0 (endK ctx [(.int .i64)] [(.tmp 2)]) (encD [(1, (.box [.d (.int .i64), .d .bool, .d (.int .i64), .d .str, .d (.sl (.st 2)), .d (.sl .str)])), (17, (.d .bool))] (x1_0, x1_1, x1_2, x1_3, x1_4, x1_5, x17, ()) (startD sg.U ⟨59, [], []⟩ [(1, (.box [.d (.int .i64), .d .bool, .d (.int .i64), .d .str, .d (.sl (.st 2)), .d (.sl .str)])), (17, (.d .bool))])) := by
  rw [conf_valueFault.l0]
  kernel_rfl
theorem conf_valueFault.l1_eq (k : Nat) (x1_0 : Int) (x1_1 : Bool) (x1_2 : Int) (x1_3 : ByteArray) (x1_4 : (List T_api_Value)) (x1_5 : (List ByteArray)) (x36 : (List ByteArray)) (x37 : Int) (x38 : Int) : conf_valueFault.l1 (k + 1) x1_0 x1_1 x1_2 x1_3 x1_4 x1_5 x36 x37 x38 = runFrom (C := ctx) (conf_valueFault.O k) ⟨59, [], []⟩ (conf_valueFault.L k) (Tryz.f208.body.getD .skip) conf_valueFault.a 1 (endK ctx [(.int .i64)] [(.tmp 2)]) (encD [(1, (.box [.d (.int .i64), .d .bool, .d (.int .i64), .d .str, .d (.sl (.st 2)), .d (.sl .str)])), (36, (.d (.sl .str))), (37, (.d (.int .i64))), (38, (.d (.int .i64)))] (x1_0, x1_1, x1_2, x1_3, x1_4, x1_5, x36, x37, x38, ()) (startD sg.U ⟨59, [], []⟩ [(1, (.box [.d (.int .i64), .d .bool, .d (.int .i64), .d .str, .d (.sl (.st 2)), .d (.sl .str)])), (36, (.d (.sl .str))), (37, (.d (.int .i64))), (38, (.d (.int .i64)))])) := by
  rw [conf_valueFault.l1]
  kernel_rfl
theorem conf_valueFault.f_eq (k : Nat) (a0 : T_api_Value) : conf_valueFault.f k a0 = codeK (C := ctx) (conf_valueFault.O k) ⟨59, [], []⟩ (conf_valueFault.L k) (Tryz.f208.body.getD .skip) conf_valueFault.a (endK ctx [(.int .i64)] [(.tmp 2)]) (slotsOf sg.U 0 [(.d (.st 2))] (a0, ()) (empty sg.U)) := by
  unfold conf_valueFault.f
  kernel_rfl
def conf_valueFault.e (k : Nat) : Entry sg := entryOf sg [(.d (.st 2))] [(.int .i64)] (fun h => conf_valueFault.f k h.1)
def conf_valueFault.T : List (Lb sg (RT sg.U [(.int .i64)])) := [⟨0, [(1, (.box [.d (.int .i64), .d .bool, .d (.int .i64), .d .str, .d (.sl (.st 2)), .d (.sl .str)])), (17, (.d .bool))], fun k h => conf_valueFault.l0 k h.1 h.2.1 h.2.2.1 h.2.2.2.1 h.2.2.2.2.1 h.2.2.2.2.2.1 h.2.2.2.2.2.2.1⟩, ⟨1, [(1, (.box [.d (.int .i64), .d .bool, .d (.int .i64), .d .str, .d (.sl (.st 2)), .d (.sl .str)])), (36, (.d (.sl .str))), (37, (.d (.int .i64))), (38, (.d (.int .i64)))], fun k h => conf_valueFault.l1 k h.1 h.2.1 h.2.2.1 h.2.2.2.1 h.2.2.2.2.1 h.2.2.2.2.2.1 h.2.2.2.2.2.2.1 h.2.2.2.2.2.2.2.1 h.2.2.2.2.2.2.2.2.1⟩]
theorem conf_valueFault.ok (k : Nat) : (conf_valueFault.e k).Sound Tryz.prog ctx 208 :=
  entry_ok base_ok mo (fn := Tryz.f208) (b := (Tryz.f208.body.getD .skip)) (pm := [(.d (.st 2))]) (rs := [(.int .i64)]) (an := conf_valueFault.a) (N := 59) (vars := [(.tmp 2)]) Tryz.func208 (by kernel_rfl) (by kernel_rfl) (by kernel_rfl) (by kernel_rfl) (by kernel_rfl) (by kernel_rfl) (O := conf_valueFault.O)
    (fun k => by unfold conf_valueFault.O; exact oracle_of (P := Tryz.prog) (C := ctx) ⟨(conf_isKey.ok k), ⟨(conf_badBytes.ok k), ⟨(conf_unused.ok k), ⟨(conf_badDay.ok), trivial⟩⟩⟩⟩) conf_valueFault.T ⟨⟨by kernel_rfl, fun _ => by first | rfl | rw [conf_valueFault.l0], fun k h => conf_valueFault.l0_eq k h.1 h.2.1 h.2.2.1 h.2.2.2.1 h.2.2.2.2.1 h.2.2.2.2.2.1 h.2.2.2.2.2.2.1⟩, ⟨⟨by kernel_rfl, fun _ => by first | rfl | rw [conf_valueFault.l1], fun k h => conf_valueFault.l1_eq k h.1 h.2.1 h.2.2.1 h.2.2.2.1 h.2.2.2.2.1 h.2.2.2.2.2.1 h.2.2.2.2.2.2.1 h.2.2.2.2.2.2.2.1 h.2.2.2.2.2.2.2.2.1⟩, trivial⟩⟩ k (fun h => conf_valueFault.f_eq k h.1)
mutual
def conf_valuesFault.l0 : Nat → (List T_api_Value) → Int → Int → Option (Int)
  | 0, _, _, _ => none
  | k + 1, x13, x14, x15 => (bif (ilt x15 x14) then ((lat x13 x15).bind fun y2 => ((conf_valuesFault.f k (T_api_Value.mk y2.fKind y2.fBool y2.fInt y2.fText y2.fItems y2.fKeys)).bind fun y3 => (bif (!ieq y3 0) then (some y3) else (conf_valuesFault.l0 k x13 x14 (wadd .i64 x15 1))))) else (some 0))
def conf_valuesFault.f : Nat → T_api_Value → Option (Int)
  | 0, _ => none
  | k + 1, a0 => ((conf_valueFault.f k (T_api_Value.mk a0.fKind a0.fBool a0.fInt a0.fText a0.fItems a0.fKeys)).bind fun y1 => (bif (!ieq y1 0) then (some y1) else (conf_valuesFault.l0 k a0.fItems (llen a0.fItems) 0)))
end
def conf_valuesFault.e (k : Nat) : Entry sg := entryOf sg [(.d (.st 2))] [(.int .i64)] (fun h => conf_valuesFault.f k h.1)
def conf_valuesFault.O (k : Nat) : Oracle sg := fun n => lkp n [(132, conf_valuesFault.e k), (208, conf_valueFault.e k)]
def conf_valuesFault.a : Ann := (.n .z (.n .z (.n (.n .z (.lp 0 .z)) .z)))
def conf_valuesFault.L (k : Nat) : Nat → St sg.U → Option (RT sg.U [(.int .i64)]) := labs [(0, labOf sg [(13, (.d (.sl (.st 2)))), (14, (.d (.int .i64))), (15, (.d (.int .i64)))] (fun h => conf_valuesFault.l0 k h.1 h.2.1 h.2.2.1))]
theorem conf_valuesFault.l0_eq (k : Nat) (x13 : (List T_api_Value)) (x14 : Int) (x15 : Int) : conf_valuesFault.l0 (k + 1) x13 x14 x15 = runFrom (C := ctx) (conf_valuesFault.O k) ⟨25, [], []⟩ (conf_valuesFault.L k) (Tryz.f132.body.getD .skip) conf_valuesFault.a 0 (endK ctx [(.int .i64)] [(.tmp 2)]) (encD [(13, (.d (.sl (.st 2)))), (14, (.d (.int .i64))), (15, (.d (.int .i64)))] (x13, x14, x15, ()) (startD sg.U ⟨25, [], []⟩ [(13, (.d (.sl (.st 2)))), (14, (.d (.int .i64))), (15, (.d (.int .i64)))])) := by
  rw [conf_valuesFault.l0]
  kernel_rfl
theorem conf_valuesFault.f_eq (k : Nat) (a0 : T_api_Value) : conf_valuesFault.f (k + 1) a0 = codeK (C := ctx) (conf_valuesFault.O k) ⟨25, [], []⟩ (conf_valuesFault.L k) (Tryz.f132.body.getD .skip) conf_valuesFault.a (endK ctx [(.int .i64)] [(.tmp 2)]) (slotsOf sg.U 0 [(.d (.st 2))] (a0, ()) (empty sg.U)) := by
  rw [conf_valuesFault.f]
  kernel_rfl
def conf_valuesFault.T : List (Lb sg (RT sg.U [(.int .i64)])) := [⟨0, [(13, (.d (.sl (.st 2)))), (14, (.d (.int .i64))), (15, (.d (.int .i64)))], fun k h => conf_valuesFault.l0 k h.1 h.2.1 h.2.2.1⟩]
theorem conf_valuesFault.ok : ∀ k : Nat, (conf_valuesFault.e k).Sound Tryz.prog ctx 132 :=
  entry_rec base_ok mo (fn := Tryz.f132) (b := (Tryz.f132.body.getD .skip)) (pm := [(.d (.st 2))]) (rs := [(.int .i64)]) (an := conf_valuesFault.a) (N := 25) (vars := [(.tmp 2)]) Tryz.func132 (by kernel_rfl) (by kernel_rfl) (by kernel_rfl) (by kernel_rfl) (by kernel_rfl) (by kernel_rfl) (O := conf_valuesFault.O) conf_valuesFault.T ⟨⟨by kernel_rfl, fun _ => by first | rfl | rw [conf_valuesFault.l0], fun k h => conf_valuesFault.l0_eq k h.1 h.2.1 h.2.2.1⟩, trivial⟩ (F := fun k h => conf_valuesFault.f k h.1) (fun _ => by first | rfl | rw [conf_valuesFault.f]) (fun k h => conf_valuesFault.f_eq k h.1)
    (fun k own => by unfold conf_valuesFault.O; exact oracle_of (P := Tryz.prog) (C := ctx) ⟨own, ⟨(conf_valueFault.ok k), trivial⟩⟩)
def conf_Check.f (k : Nat) (a0 : T_api_Value) : Option (Int) := ((conf_count.f k (T_api_Value.mk a0.fKind a0.fBool a0.fInt a0.fText a0.fItems a0.fKeys)).bind fun y1 => (bif (ilt 1000 y1) then (some 4) else ((conf_levels.f k (T_api_Value.mk a0.fKind a0.fBool a0.fInt a0.fText a0.fItems a0.fKeys)).bind fun y2 => (bif (ilt 8 y2) then (some 13) else ((conf_valuesFault.f k (T_api_Value.mk a0.fKind a0.fBool a0.fInt a0.fText a0.fItems a0.fKeys)).bind fun y3 => (some y3))))))
def conf_Check.O (k : Nat) : Oracle sg := fun n => lkp n [(130, conf_count.e k), (131, conf_levels.e k), (132, conf_valuesFault.e k)]
def conf_Check.a : Ann := .z
def conf_Check.L (k : Nat) : Nat → St sg.U → Option (RT sg.U [(.int .i64)]) := labs []
theorem conf_Check.f_eq (k : Nat) (a0 : T_api_Value) : conf_Check.f k a0 = codeK (C := ctx) (conf_Check.O k) ⟨11, [], []⟩ (conf_Check.L k) (Tryz.f55.body.getD .skip) conf_Check.a (endK ctx [(.int .i64)] [(.tmp 2)]) (slotsOf sg.U 0 [(.d (.st 2))] (a0, ()) (empty sg.U)) := by
  unfold conf_Check.f
  kernel_rfl
def conf_Check.e (k : Nat) : Entry sg := entryOf sg [(.d (.st 2))] [(.int .i64)] (fun h => conf_Check.f k h.1)
def conf_Check.T : List (Lb sg (RT sg.U [(.int .i64)])) := []
theorem conf_Check.ok (k : Nat) : (conf_Check.e k).Sound Tryz.prog ctx 55 :=
  entry_ok base_ok mo (fn := Tryz.f55) (b := (Tryz.f55.body.getD .skip)) (pm := [(.d (.st 2))]) (rs := [(.int .i64)]) (an := conf_Check.a) (N := 11) (vars := [(.tmp 2)]) Tryz.func55 (by kernel_rfl) (by kernel_rfl) (by kernel_rfl) (by kernel_rfl) (by kernel_rfl) (by kernel_rfl) (O := conf_Check.O)
    (fun k => by unfold conf_Check.O; exact oracle_of (P := Tryz.prog) (C := ctx) ⟨(conf_count.ok k), ⟨(conf_levels.ok k), ⟨(conf_valuesFault.ok k), trivial⟩⟩⟩) conf_Check.T trivial k (fun h => conf_Check.f_eq k h.1)
def conf_hasStar.l0 : Nat → (List T_conf_step) → Int → Int → Option (Bool)
  | 0, _, _, _ => none
  | k + 1, x5, x6, x7 => (bif (ilt x7 x6) then ((lat x5 x7).bind fun y1 => (bif y1.fstar then (some true) else (conf_hasStar.l0 k x5 x6 (wadd .i64 x7 1)))) else (some false))
def conf_hasStar.f (k : Nat) (a0 : (List T_conf_step)) : Option (Bool) := (conf_hasStar.l0 k a0 (llen a0) 0)
def conf_hasStar.O (k : Nat) : Oracle sg := fun n => lkp n []
def conf_hasStar.a : Ann := (.n .z (.n (.n .z (.lp 0 .z)) .z))
def conf_hasStar.L (k : Nat) : Nat → St sg.U → Option (RT sg.U [.bool]) := labs [(0, labOf sg [(5, (.d (.sl (.st 5)))), (6, (.d (.int .i64))), (7, (.d (.int .i64)))] (fun h => conf_hasStar.l0 k h.1 h.2.1 h.2.2.1))]
theorem conf_hasStar.l0_eq (k : Nat) (x5 : (List T_conf_step)) (x6 : Int) (x7 : Int) : conf_hasStar.l0 (k + 1) x5 x6 x7 = runFrom (C := ctx) (conf_hasStar.O k) ⟨14, [], []⟩ (conf_hasStar.L k) (Tryz.f236.body.getD .skip) conf_hasStar.a 0 (endK ctx [.bool] [(.tmp 2)]) (encD [(5, (.d (.sl (.st 5)))), (6, (.d (.int .i64))), (7, (.d (.int .i64)))] (x5, x6, x7, ()) (startD sg.U ⟨14, [], []⟩ [(5, (.d (.sl (.st 5)))), (6, (.d (.int .i64))), (7, (.d (.int .i64)))])) := by
  rw [conf_hasStar.l0]
  kernel_rfl
theorem conf_hasStar.f_eq (k : Nat) (a0 : (List T_conf_step)) : conf_hasStar.f k a0 = codeK (C := ctx) (conf_hasStar.O k) ⟨14, [], []⟩ (conf_hasStar.L k) (Tryz.f236.body.getD .skip) conf_hasStar.a (endK ctx [.bool] [(.tmp 2)]) (slotsOf sg.U 0 [(.d (.sl (.st 5)))] (a0, ()) (empty sg.U)) := by
  unfold conf_hasStar.f
  kernel_rfl
def conf_hasStar.e (k : Nat) : Entry sg := entryOf sg [(.d (.sl (.st 5)))] [.bool] (fun h => conf_hasStar.f k h.1)
def conf_hasStar.T : List (Lb sg (RT sg.U [.bool])) := [⟨0, [(5, (.d (.sl (.st 5)))), (6, (.d (.int .i64))), (7, (.d (.int .i64)))], fun k h => conf_hasStar.l0 k h.1 h.2.1 h.2.2.1⟩]
theorem conf_hasStar.ok (k : Nat) : (conf_hasStar.e k).Sound Tryz.prog ctx 236 :=
  entry_ok base_ok mo (fn := Tryz.f236) (b := (Tryz.f236.body.getD .skip)) (pm := [(.d (.sl (.st 5)))]) (rs := [.bool]) (an := conf_hasStar.a) (N := 14) (vars := [(.tmp 2)]) Tryz.func236 (by kernel_rfl) (by kernel_rfl) (by kernel_rfl) (by kernel_rfl) (by kernel_rfl) (by kernel_rfl) (O := conf_hasStar.O)
    (fun k => by unfold conf_hasStar.O; exact oracle_of (P := Tryz.prog) (C := ctx) trivial) conf_hasStar.T ⟨⟨by kernel_rfl, fun _ => by first | rfl | rw [conf_hasStar.l0], fun k h => conf_hasStar.l0_eq k h.1 h.2.1 h.2.2.1⟩, trivial⟩ k (fun h => conf_hasStar.f_eq k h.1)
def conf_fieldFault.l0 : Nat → (List ByteArray) → (List Bool) → ByteArray → Int → Bool → Bool → Int → Int → (List ByteArray) → Int → Bool → Int → ByteArray → (List T_api_Value) → (List ByteArray) → (List T_conf_step) → (List ByteArray) → Int → Int → Option (Int × (List ByteArray) × (List Bool) × Unit)
  | 0, _, _, _, _, _, _, _, _, _, _, _, _, _, _, _, _, _, _, _ => none
  | k + 1, x1k, x1v, x2_0, x2_1, x2_2, x2_3, x2_4, x2_5, x2_6, x2_7, x2_8, x2_9, x2_10, x2_11, x2_12, x5, x74, x75, x76 => (bif (ilt x76 x75) then ((lat x74 x76).bind fun y2 => (bif (ilt 5000 (slen y2)) then (some (4, (x1k, x1v, ()))) else ((conf_badBytes.f k y2).bind fun y3 => (bif y3 then (some (9, (x1k, x1v, ()))) else (conf_fieldFault.l0 k x1k x1v x2_0 x2_1 x2_2 x2_3 x2_4 x2_5 x2_6 x2_7 x2_8 x2_9 x2_10 x2_11 x2_12 x5 x74 x75 (wadd .i64 x76 1)))))) else ((conf_Check.f k (T_api_Value.mk x2_7 x2_8 x2_9 x2_10 x2_11 x2_12)).bind fun y4 => (bif (!ieq y4 0) then (some (y4, (x1k, x1v, ()))) else (bif (bif (bif (!ieq x2_7 0) then (!ieq x2_1 (-1)) else false) then (!ieq x2_7 x2_1) else false) then (some (10, (x1k, x1v, ()))) else (bif (!ieq x2_7 0) then ((conf_hasStar.f k x5).bind fun y5 => (bif y5 then (some (1, (x1k, x1v, ()))) else (some (0, (x1k, x1v, ()))))) else (some (0, (x1k, x1v, ()))))))))
def conf_fieldFault.f (k : Nat) (a0 : T_conf_Field) (a1k : (List ByteArray)) (a1v : (List Bool)) : Option (Int × (List ByteArray) × (List Bool) × Unit) := ((conf_steps.f k a0.fRoute true).bind fun y1 => (bif (bif (!y1.2) then true else (ieq (llen y1.1) 0)) then (some (3, (a1k, a1v, ()))) else (bif ((mget seq a1k a1v a0.fRoute).getD false) then (some (6, (a1k, a1v, ()))) else (bif (bif (!ieq a0.fKind (-1)) then (bif (ilt a0.fKind 0) then true else (ilt 6 a0.fKind)) else false) then (some (10, (a1k, a1v, ()))) else (bif (bif (!a0.fBounded) then (bif (!ieq a0.fMin 0) then true else (!ieq a0.fMax 0)) else false) then (some (1, (a1k, a1v, ()))) else (bif (ilt a0.fMax a0.fMin) then (some (5, (a1k, a1v, ()))) else (bif (bif (ilt 0 (llen a0.fOneOf)) then (!ieq a0.fKind 3) else false) then (some (1, (a1k, a1v, ()))) else (conf_fieldFault.l0 k a1k a1v a0.fRoute a0.fKind a0.fNeed a0.fBounded a0.fMin a0.fMax a0.fOneOf a0.fDefault.fKind a0.fDefault.fBool a0.fDefault.fInt a0.fDefault.fText a0.fDefault.fItems a0.fDefault.fKeys y1.1 a0.fOneOf (llen a0.fOneOf) 0))))))))
def conf_fieldFault.O (k : Nat) : Oracle sg := fun n => lkp n [(55, conf_Check.e k), (84, conf_steps.e k), (235, conf_badBytes.e k), (236, conf_hasStar.e k)]
def conf_fieldFault.a : Ann := (.n .z (.n .z (.n .z (.n (.n .z (.lp 0 .z)) .z))))
def conf_fieldFault.L (k : Nat) : Nat → St sg.U → Option (RT sg.U [(.int .i64)] × HL sg.U (PM.outs [(.d (.st 1)), (.mp .str .bool)])) := labs [(0, labOf sg [(1, (.mp .str .bool)), (2, (.box [.d .str, .d (.int .i64), .d .bool, .d .bool, .d (.int .i64), .d (.int .i64), .d (.sl .str), .d (.int .i64), .d .bool, .d (.int .i64), .d .str, .d (.sl (.st 2)), .d (.sl .str)])), (5, (.d (.sl (.st 5)))), (74, (.d (.sl .str))), (75, (.d (.int .i64))), (76, (.d (.int .i64)))] (fun h => conf_fieldFault.l0 k h.1 h.2.1 h.2.2.1 h.2.2.2.1 h.2.2.2.2.1 h.2.2.2.2.2.1 h.2.2.2.2.2.2.1 h.2.2.2.2.2.2.2.1 h.2.2.2.2.2.2.2.2.1 h.2.2.2.2.2.2.2.2.2.1 h.2.2.2.2.2.2.2.2.2.2.1 h.2.2.2.2.2.2.2.2.2.2.2.1 h.2.2.2.2.2.2.2.2.2.2.2.2.1 h.2.2.2.2.2.2.2.2.2.2.2.2.2.1 h.2.2.2.2.2.2.2.2.2.2.2.2.2.2.1 h.2.2.2.2.2.2.2.2.2.2.2.2.2.2.2.1 h.2.2.2.2.2.2.2.2.2.2.2.2.2.2.2.2.1 h.2.2.2.2.2.2.2.2.2.2.2.2.2.2.2.2.2.1 h.2.2.2.2.2.2.2.2.2.2.2.2.2.2.2.2.2.2.1))]
theorem conf_fieldFault.l0_eq (k : Nat) (x1k : (List ByteArray)) (x1v : (List Bool)) (x2_0 : ByteArray) (x2_1 : Int) (x2_2 : Bool) (x2_3 : Bool) (x2_4 : Int) (x2_5 : Int) (x2_6 : (List ByteArray)) (x2_7 : Int) (x2_8 : Bool) (x2_9 : Int) (x2_10 : ByteArray) (x2_11 : (List T_api_Value)) (x2_12 : (List ByteArray)) (x5 : (List T_conf_step)) (x74 : (List ByteArray)) (x75 : Int) (x76 : Int) : conf_fieldFault.l0 (k + 1) x1k x1v x2_0 x2_1 x2_2 x2_3 x2_4 x2_5 x2_6 x2_7 x2_8 x2_9 x2_10 x2_11 x2_12 x5 x74 x75 x76 = runFrom (C := ctx) (conf_fieldFault.O k) ⟨117, [1], []⟩ (conf_fieldFault.L k) (Tryz.f172.body.getD .skip) conf_fieldFault.a 0 (endR ctx [(.int .i64)] [(.tmp 4)] [(.d (.st 1)), (.mp .str .bool)]) (encD [(1, (.mp .str .bool)), (2, (.box [.d .str, .d (.int .i64), .d .bool, .d .bool, .d (.int .i64), .d (.int .i64), .d (.sl .str), .d (.int .i64), .d .bool, .d (.int .i64), .d .str, .d (.sl (.st 2)), .d (.sl .str)])), (5, (.d (.sl (.st 5)))), (74, (.d (.sl .str))), (75, (.d (.int .i64))), (76, (.d (.int .i64)))] (x1k, x1v, x2_0, x2_1, x2_2, x2_3, x2_4, x2_5, x2_6, x2_7, x2_8, x2_9, x2_10, x2_11, x2_12, x5, x74, x75, x76, ()) (startD sg.U ⟨117, [1], []⟩ [(1, (.mp .str .bool)), (2, (.box [.d .str, .d (.int .i64), .d .bool, .d .bool, .d (.int .i64), .d (.int .i64), .d (.sl .str), .d (.int .i64), .d .bool, .d (.int .i64), .d .str, .d (.sl (.st 2)), .d (.sl .str)])), (5, (.d (.sl (.st 5)))), (74, (.d (.sl .str))), (75, (.d (.int .i64))), (76, (.d (.int .i64)))])) := by
  rw [conf_fieldFault.l0]
  kernel_rfl
theorem conf_fieldFault.f_eq (k : Nat) (a0 : T_conf_Field) (a1k : (List ByteArray)) (a1v : (List Bool)) : conf_fieldFault.f k a0 a1k a1v = codeK (C := ctx) (conf_fieldFault.O k) ⟨117, [1], []⟩ (conf_fieldFault.L k) (Tryz.f172.body.getD .skip) conf_fieldFault.a (endR ctx [(.int .i64)] [(.tmp 4)] [(.d (.st 1)), (.mp .str .bool)]) (slotsOf sg.U 0 [(.d (.st 1)), (.mp .str .bool)] (a0, a1k, a1v, ()) (emptyG sg.U (PM.gs [(.d (.st 1)), (.mp .str .bool)]))) := by
  unfold conf_fieldFault.f
  kernel_rfl
def conf_fieldFault.e (k : Nat) : Entry sg := entryR sg [(.d (.st 1)), (.mp .str .bool)] [(.int .i64)] (fun h => conf_fieldFault.f k h.1 h.2.1 h.2.2.1)
def conf_fieldFault.T : List (Lb sg (RT sg.U [(.int .i64)] × HL sg.U (PM.outs [(.d (.st 1)), (.mp .str .bool)]))) := [⟨0, [(1, (.mp .str .bool)), (2, (.box [.d .str, .d (.int .i64), .d .bool, .d .bool, .d (.int .i64), .d (.int .i64), .d (.sl .str), .d (.int .i64), .d .bool, .d (.int .i64), .d .str, .d (.sl (.st 2)), .d (.sl .str)])), (5, (.d (.sl (.st 5)))), (74, (.d (.sl .str))), (75, (.d (.int .i64))), (76, (.d (.int .i64)))], fun k h => conf_fieldFault.l0 k h.1 h.2.1 h.2.2.1 h.2.2.2.1 h.2.2.2.2.1 h.2.2.2.2.2.1 h.2.2.2.2.2.2.1 h.2.2.2.2.2.2.2.1 h.2.2.2.2.2.2.2.2.1 h.2.2.2.2.2.2.2.2.2.1 h.2.2.2.2.2.2.2.2.2.2.1 h.2.2.2.2.2.2.2.2.2.2.2.1 h.2.2.2.2.2.2.2.2.2.2.2.2.1 h.2.2.2.2.2.2.2.2.2.2.2.2.2.1 h.2.2.2.2.2.2.2.2.2.2.2.2.2.2.1 h.2.2.2.2.2.2.2.2.2.2.2.2.2.2.2.1 h.2.2.2.2.2.2.2.2.2.2.2.2.2.2.2.2.1 h.2.2.2.2.2.2.2.2.2.2.2.2.2.2.2.2.2.1 h.2.2.2.2.2.2.2.2.2.2.2.2.2.2.2.2.2.2.1⟩]
theorem conf_fieldFault.ok (k : Nat) : (conf_fieldFault.e k).Sound Tryz.prog ctx 172 :=
  entryR_ok base_ok mo (fn := Tryz.f172) (b := (Tryz.f172.body.getD .skip)) (pm := [(.d (.st 1)), (.mp .str .bool)]) (rs := [(.int .i64)]) (an := conf_fieldFault.a) (N := 117) (vars := [(.tmp 4)]) Tryz.func172 (by kernel_rfl) (by kernel_rfl) (by kernel_rfl) (by kernel_rfl) (by kernel_rfl) (by kernel_rfl) (by kernel_rfl) (by kernel_rfl) (O := conf_fieldFault.O)
    (fun k => by unfold conf_fieldFault.O; exact oracle_of (P := Tryz.prog) (C := ctx) ⟨(conf_Check.ok k), ⟨(conf_steps.ok k), ⟨(conf_badBytes.ok k), ⟨(conf_hasStar.ok k), trivial⟩⟩⟩⟩) conf_fieldFault.T ⟨⟨by kernel_rfl, fun _ => by first | rfl | rw [conf_fieldFault.l0], fun k h => conf_fieldFault.l0_eq k h.1 h.2.1 h.2.2.1 h.2.2.2.1 h.2.2.2.2.1 h.2.2.2.2.2.1 h.2.2.2.2.2.2.1 h.2.2.2.2.2.2.2.1 h.2.2.2.2.2.2.2.2.1 h.2.2.2.2.2.2.2.2.2.1 h.2.2.2.2.2.2.2.2.2.2.1 h.2.2.2.2.2.2.2.2.2.2.2.1 h.2.2.2.2.2.2.2.2.2.2.2.2.1 h.2.2.2.2.2.2.2.2.2.2.2.2.2.1 h.2.2.2.2.2.2.2.2.2.2.2.2.2.2.1 h.2.2.2.2.2.2.2.2.2.2.2.2.2.2.2.1 h.2.2.2.2.2.2.2.2.2.2.2.2.2.2.2.2.1 h.2.2.2.2.2.2.2.2.2.2.2.2.2.2.2.2.2.1 h.2.2.2.2.2.2.2.2.2.2.2.2.2.2.2.2.2.2.1⟩, trivial⟩ k (fun h => conf_fieldFault.f_eq k h.1 h.2.1 h.2.2.1)
def conf_CheckSchema.l0 : Nat → (List ByteArray) → (List Bool) → (List T_conf_Field) → Int → Int → Option (Int)
  | 0, _, _, _, _, _ => none
  | k + 1, x3k, x3v, x13, x14, x15 => (bif (ilt x15 x14) then ((lat x13 x15).bind fun y1 => ((conf_fieldFault.f k (T_conf_Field.mk y1.fRoute y1.fKind y1.fNeed y1.fBounded y1.fMin y1.fMax y1.fOneOf (T_api_Value.mk y1.fDefault.fKind y1.fDefault.fBool y1.fDefault.fInt y1.fDefault.fText y1.fDefault.fItems y1.fDefault.fKeys)) x3k x3v).bind fun y2 => (bif (!ieq y2.1 0) then (some y2.1) else (let y3 : List ByteArray := mputK seq y2.2.1 y1.fRoute; let y4 : List Bool := mputV seq y2.2.1 y2.2.2.1 y1.fRoute true; (conf_CheckSchema.l0 k y3 y4 x13 x14 (wadd .i64 x15 1)))))) else (some 0))
def conf_CheckSchema.f (k : Nat) (a0 : T_conf_Schema) : Option (Int) := (bif (ilt 100 (llen a0.fFields)) then (some 4) else (conf_CheckSchema.l0 k [] [] a0.fFields (llen a0.fFields) 0))
def conf_CheckSchema.O (k : Nat) : Oracle sg := fun n => lkp n [(172, conf_fieldFault.e k)]
def conf_CheckSchema.a : Ann := (.n .z (.n .z (.n .z (.n (.n .z (.lp 0 .z)) .z))))
def conf_CheckSchema.L (k : Nat) : Nat → St sg.U → Option (RT sg.U [(.int .i64)]) := labs [(0, labOf sg [(3, (.mp .str .bool)), (13, (.d (.sl (.st 1)))), (14, (.d (.int .i64))), (15, (.d (.int .i64)))] (fun h => conf_CheckSchema.l0 k h.1 h.2.1 h.2.2.1 h.2.2.2.1 h.2.2.2.2.1))]
theorem conf_CheckSchema.l0_eq (k : Nat) (x3k : (List ByteArray)) (x3v : (List Bool)) (x13 : (List T_conf_Field)) (x14 : Int) (x15 : Int) : conf_CheckSchema.l0 (k + 1) x3k x3v x13 x14 x15 = runFrom (C := ctx) (conf_CheckSchema.O k) ⟨29, [], []⟩ (conf_CheckSchema.L k) (Tryz.f83.body.getD .skip) conf_CheckSchema.a 0 (endK ctx [(.int .i64)] [(.tmp 2)]) (encD [(3, (.mp .str .bool)), (13, (.d (.sl (.st 1)))), (14, (.d (.int .i64))), (15, (.d (.int .i64)))] (x3k, x3v, x13, x14, x15, ()) (startD sg.U ⟨29, [], []⟩ [(3, (.mp .str .bool)), (13, (.d (.sl (.st 1)))), (14, (.d (.int .i64))), (15, (.d (.int .i64)))])) := by
  rw [conf_CheckSchema.l0]
  kernel_rfl
theorem conf_CheckSchema.f_eq (k : Nat) (a0 : T_conf_Schema) : conf_CheckSchema.f k a0 = codeK (C := ctx) (conf_CheckSchema.O k) ⟨29, [], []⟩ (conf_CheckSchema.L k) (Tryz.f83.body.getD .skip) conf_CheckSchema.a (endK ctx [(.int .i64)] [(.tmp 2)]) (slotsOf sg.U 0 [(.d (.st 0))] (a0, ()) (empty sg.U)) := by
  unfold conf_CheckSchema.f
  kernel_rfl
def conf_CheckSchema.e (k : Nat) : Entry sg := entryOf sg [(.d (.st 0))] [(.int .i64)] (fun h => conf_CheckSchema.f k h.1)
def conf_CheckSchema.T : List (Lb sg (RT sg.U [(.int .i64)])) := [⟨0, [(3, (.mp .str .bool)), (13, (.d (.sl (.st 1)))), (14, (.d (.int .i64))), (15, (.d (.int .i64)))], fun k h => conf_CheckSchema.l0 k h.1 h.2.1 h.2.2.1 h.2.2.2.1 h.2.2.2.2.1⟩]
theorem conf_CheckSchema.ok (k : Nat) : (conf_CheckSchema.e k).Sound Tryz.prog ctx 83 :=
  entry_ok base_ok mo (fn := Tryz.f83) (b := (Tryz.f83.body.getD .skip)) (pm := [(.d (.st 0))]) (rs := [(.int .i64)]) (an := conf_CheckSchema.a) (N := 29) (vars := [(.tmp 2)]) Tryz.func83 (by kernel_rfl) (by kernel_rfl) (by kernel_rfl) (by kernel_rfl) (by kernel_rfl) (by kernel_rfl) (O := conf_CheckSchema.O)
    (fun k => by unfold conf_CheckSchema.O; exact oracle_of (P := Tryz.prog) (C := ctx) ⟨(conf_fieldFault.ok k), trivial⟩) conf_CheckSchema.T ⟨⟨by kernel_rfl, fun _ => by first | rfl | rw [conf_CheckSchema.l0], fun k h => conf_CheckSchema.l0_eq k h.1 h.2.1 h.2.2.1 h.2.2.2.1 h.2.2.2.2.1⟩, trivial⟩ k (fun h => conf_CheckSchema.f_eq k h.1)
def conf_judge_add.f (a0_0 : (List T_conf_Fault)) (a1 : ByteArray) (a2 : Int) : Option (Unit × (List T_conf_Fault) × Unit) := ((lapp 24 a0_0 [(T_conf_Fault.mk a1 a2)]).bind fun y1 => (some ((), (y1, ()))))
def conf_judge_add.O : Oracle sg := fun n => lkp n []
def conf_judge_add.a : Ann := .z
def conf_judge_add.L : Nat → St sg.U → Option (RT sg.U [] × HL sg.U (PM.outs [(.ref [.row 126 (.st 3)]), (.d .str), (.d (.int .i64))])) := labs []
theorem conf_judge_add.f_eq (a0_0 : (List T_conf_Fault)) (a1 : ByteArray) (a2 : Int) : conf_judge_add.f a0_0 a1 a2 = codeK (C := ctx) (conf_judge_add.O) ⟨18, [0], []⟩ (conf_judge_add.L) (Tryz.f87.body.getD .skip) conf_judge_add.a (endR ctx [] [] [(.ref [.row 126 (.st 3)]), (.d .str), (.d (.int .i64))]) (slotsOf sg.U 0 [(.ref [.row 126 (.st 3)]), (.d .str), (.d (.int .i64))] (a0_0, a1, a2, ()) (emptyG sg.U (PM.gs [(.ref [.row 126 (.st 3)]), (.d .str), (.d (.int .i64))]))) := by
  unfold conf_judge_add.f
  kernel_rfl
def conf_judge_add.e : Entry sg := entryR sg [(.ref [.row 126 (.st 3)]), (.d .str), (.d (.int .i64))] [] (fun h => conf_judge_add.f h.1 h.2.1 h.2.2.1)
def conf_judge_add.T : List (Lb sg (RT sg.U [] × HL sg.U (PM.outs [(.ref [.row 126 (.st 3)]), (.d .str), (.d (.int .i64))]))) := []
theorem conf_judge_add.ok : (conf_judge_add.e).Sound Tryz.prog ctx 87 :=
  entryR_ok base_ok mo (fn := Tryz.f87) (b := (Tryz.f87.body.getD .skip)) (pm := [(.ref [.row 126 (.st 3)]), (.d .str), (.d (.int .i64))]) (rs := []) (an := conf_judge_add.a) (N := 18) (vars := []) Tryz.func87 (by kernel_rfl) (by kernel_rfl) (by kernel_rfl) (by kernel_rfl) (by kernel_rfl) (by kernel_rfl) (by kernel_rfl) (by kernel_rfl) (O := fun _ => conf_judge_add.O)
    (fun _ => by unfold conf_judge_add.O; exact oracle_of (P := Tryz.prog) (C := ctx) trivial) conf_judge_add.T trivial 0 (fun h => conf_judge_add.f_eq h.1 h.2.1 h.2.2.1)
mutual
def conf_measure.l0 : Nat → Int → Bool → Int → ByteArray → (List T_api_Value) → (List ByteArray) → Int → Bool → Option (Int × Bool)
  | 0, _, _, _, _, _, _, _, _ => none
  | k + 1, x1_0, x1_1, x1_2, x1_3, x1_4, x1_5, x5, x6 => (bif x6 then (some (x1_2, true)) else (bif (ieq x5 3) then (some ((slen x1_3), true)) else (bif (ieq x5 5) then (conf_measure.l1 k x1_0 x1_1 x1_2 x1_3 x1_4 x1_5 true) else (conf_measure.l1 k x1_0 x1_1 x1_2 x1_3 x1_4 x1_5 (ieq x5 6)))))
def conf_measure.l1 : Nat → Int → Bool → Int → ByteArray → (List T_api_Value) → (List ByteArray) → Bool → Option (Int × Bool)
  | 0, _, _, _, _, _, _, _ => none
  | k + 1, x1_0, x1_1, x1_2, x1_3, x1_4, x1_5, x16 => (bif x16 then (some ((llen x1_4), true)) else (some (0, false)))
end
def conf_measure.f (k : Nat) (a0 : T_api_Value) : Option (Int × Bool) := (bif (ieq a0.fKind 2) then (conf_measure.l0 k a0.fKind a0.fBool a0.fInt a0.fText a0.fItems a0.fKeys a0.fKind true) else (conf_measure.l0 k a0.fKind a0.fBool a0.fInt a0.fText a0.fItems a0.fKeys a0.fKind (ieq a0.fKind 4)))
def conf_measure.O (k : Nat) : Oracle sg := fun n => lkp n []
def conf_measure.a : Ann := (.n .z (.n (.n .z (.n .z (.lab 0 (.n .z (.n .z (.n .z (.n .z (.lab 1 .z)))))))) .z))
def conf_measure.L (k : Nat) : Nat → St sg.U → Option (RT sg.U [(.int .i64), .bool]) := labs [(0, labOf sg [(1, (.box [.d (.int .i64), .d .bool, .d (.int .i64), .d .str, .d (.sl (.st 2)), .d (.sl .str)])), (5, (.d (.int .i64))), (6, (.d .bool))] (fun h => conf_measure.l0 k h.1 h.2.1 h.2.2.1 h.2.2.2.1 h.2.2.2.2.1 h.2.2.2.2.2.1 h.2.2.2.2.2.2.1 h.2.2.2.2.2.2.2.1)), (1, labOf sg [(1, (.box [.d (.int .i64), .d .bool, .d (.int .i64), .d .str, .d (.sl (.st 2)), .d (.sl .str)])), (16, (.d .bool))] (fun h => conf_measure.l1 k h.1 h.2.1 h.2.2.1 h.2.2.2.1 h.2.2.2.2.1 h.2.2.2.2.2.1 h.2.2.2.2.2.2.1))]
theorem conf_measure.l0_eq (k : Nat) (x1_0 : Int) (x1_1 : Bool) (x1_2 : Int) (x1_3 : ByteArray) (x1_4 : (List T_api_Value)) (x1_5 : (List ByteArray)) (x5 : Int) (x6 : Bool) : conf_measure.l0 (k + 1) x1_0 x1_1 x1_2 x1_3 x1_4 x1_5 x5 x6 = runFrom (C := ctx) (conf_measure.O k) ⟨22, [], []⟩ (conf_measure.L k) (Tryz.f241.body.getD .skip) conf_measure.a 0 (endK ctx [(.int .i64), .bool] [(.tmp 2), (.tmp 3)]) (encD [(1, (.box [.d (.int .i64), .d .bool, .d (.int .i64), .d .str, .d (.sl (.st 2)), .d (.sl .str)])), (5, (.d (.int .i64))), (6, (.d .bool))] (x1_0, x1_1, x1_2, x1_3, x1_4, x1_5, x5, x6, ()) (startD sg.U ⟨22, [], []⟩ [(1, (.box [.d (.int .i64), .d .bool, .d (.int .i64), .d .str, .d (.sl (.st 2)), .d (.sl .str)])), (5, (.d (.int .i64))), (6, (.d .bool))])) := by
  rw [conf_measure.l0]
  kernel_rfl
theorem conf_measure.l1_eq (k : Nat) (x1_0 : Int) (x1_1 : Bool) (x1_2 : Int) (x1_3 : ByteArray) (x1_4 : (List T_api_Value)) (x1_5 : (List ByteArray)) (x16 : Bool) : conf_measure.l1 (k + 1) x1_0 x1_1 x1_2 x1_3 x1_4 x1_5 x16 = runFrom (C := ctx) (conf_measure.O k) ⟨22, [], []⟩ (conf_measure.L k) (Tryz.f241.body.getD .skip) conf_measure.a 1 (endK ctx [(.int .i64), .bool] [(.tmp 2), (.tmp 3)]) (encD [(1, (.box [.d (.int .i64), .d .bool, .d (.int .i64), .d .str, .d (.sl (.st 2)), .d (.sl .str)])), (16, (.d .bool))] (x1_0, x1_1, x1_2, x1_3, x1_4, x1_5, x16, ()) (startD sg.U ⟨22, [], []⟩ [(1, (.box [.d (.int .i64), .d .bool, .d (.int .i64), .d .str, .d (.sl (.st 2)), .d (.sl .str)])), (16, (.d .bool))])) := by
  rw [conf_measure.l1]
  kernel_rfl
theorem conf_measure.f_eq (k : Nat) (a0 : T_api_Value) : conf_measure.f k a0 = codeK (C := ctx) (conf_measure.O k) ⟨22, [], []⟩ (conf_measure.L k) (Tryz.f241.body.getD .skip) conf_measure.a (endK ctx [(.int .i64), .bool] [(.tmp 2), (.tmp 3)]) (slotsOf sg.U 0 [(.d (.st 2))] (a0, ()) (empty sg.U)) := by
  unfold conf_measure.f
  kernel_rfl
def conf_measure.e (k : Nat) : Entry sg := entryOf sg [(.d (.st 2))] [(.int .i64), .bool] (fun h => conf_measure.f k h.1)
def conf_measure.T : List (Lb sg (RT sg.U [(.int .i64), .bool])) := [⟨0, [(1, (.box [.d (.int .i64), .d .bool, .d (.int .i64), .d .str, .d (.sl (.st 2)), .d (.sl .str)])), (5, (.d (.int .i64))), (6, (.d .bool))], fun k h => conf_measure.l0 k h.1 h.2.1 h.2.2.1 h.2.2.2.1 h.2.2.2.2.1 h.2.2.2.2.2.1 h.2.2.2.2.2.2.1 h.2.2.2.2.2.2.2.1⟩, ⟨1, [(1, (.box [.d (.int .i64), .d .bool, .d (.int .i64), .d .str, .d (.sl (.st 2)), .d (.sl .str)])), (16, (.d .bool))], fun k h => conf_measure.l1 k h.1 h.2.1 h.2.2.1 h.2.2.2.1 h.2.2.2.2.1 h.2.2.2.2.2.1 h.2.2.2.2.2.2.1⟩]
theorem conf_measure.ok (k : Nat) : (conf_measure.e k).Sound Tryz.prog ctx 241 :=
  entry_ok base_ok mo (fn := Tryz.f241) (b := (Tryz.f241.body.getD .skip)) (pm := [(.d (.st 2))]) (rs := [(.int .i64), .bool]) (an := conf_measure.a) (N := 22) (vars := [(.tmp 2), (.tmp 3)]) Tryz.func241 (by kernel_rfl) (by kernel_rfl) (by kernel_rfl) (by kernel_rfl) (by kernel_rfl) (by kernel_rfl) (O := conf_measure.O)
    (fun k => by unfold conf_measure.O; exact oracle_of (P := Tryz.prog) (C := ctx) trivial) conf_measure.T ⟨⟨by kernel_rfl, fun _ => by first | rfl | rw [conf_measure.l0], fun k h => conf_measure.l0_eq k h.1 h.2.1 h.2.2.1 h.2.2.2.1 h.2.2.2.2.1 h.2.2.2.2.2.1 h.2.2.2.2.2.2.1 h.2.2.2.2.2.2.2.1⟩, ⟨⟨by kernel_rfl, fun _ => by first | rfl | rw [conf_measure.l1], fun k h => conf_measure.l1_eq k h.1 h.2.1 h.2.2.1 h.2.2.2.1 h.2.2.2.2.1 h.2.2.2.2.2.1 h.2.2.2.2.2.2.1⟩, trivial⟩⟩ k (fun h => conf_measure.f_eq k h.1)
mutual
def conf_judge_value.l0 : Nat → (List T_conf_Fault) → ByteArray → ByteArray → Int → Bool → Bool → Int → Int → (List ByteArray) → Int → Bool → Int → ByteArray → (List T_api_Value) → (List ByteArray) → Int → Bool → Int → ByteArray → (List T_api_Value) → (List ByteArray) → Option (Unit × (List T_conf_Fault) × Unit)
  | 0, _, _, _, _, _, _, _, _, _, _, _, _, _, _, _, _, _, _, _, _, _ => none
  | k + 1, x0_0, x3, x5_0, x5_1, x5_2, x5_3, x5_4, x5_5, x5_6, x5_7, x5_8, x5_9, x5_10, x5_11, x5_12, x6_0, x6_1, x6_2, x6_3, x6_4, x6_5 => (bif (bif (ieq (llen x5_6) 0) then true else (!ieq x6_0 3)) then (some ((), (x0_0, ()))) else (conf_judge_value.l1 k x0_0 x3 x6_0 x6_1 x6_2 x6_3 x6_4 x6_5 x5_6 (llen x5_6) 0))
def conf_judge_value.l1 : Nat → (List T_conf_Fault) → ByteArray → Int → Bool → Int → ByteArray → (List T_api_Value) → (List ByteArray) → (List ByteArray) → Int → Int → Option (Unit × (List T_conf_Fault) × Unit)
  | 0, _, _, _, _, _, _, _, _, _, _, _ => none
  | k + 1, x0_0, x3, x6_0, x6_1, x6_2, x6_3, x6_4, x6_5, x59, x60, x61 => (bif (ilt x61 x60) then ((lat x59 x61).bind fun y5 => (bif (seq y5 x6_3) then (some ((), (x0_0, ()))) else (conf_judge_value.l1 k x0_0 x3 x6_0 x6_1 x6_2 x6_3 x6_4 x6_5 x59 x60 (wadd .i64 x61 1)))) else ((conf_judge_add.f x0_0 x3 5).bind fun y6 => (some ((), (y6.2.1, ())))))
end
def conf_judge_value.f (k : Nat) (a0_0 : (List T_conf_Fault)) (a1 : T_conf_Field) (a2 : T_api_Value) (a3 : ByteArray) : Option (Unit × (List T_conf_Fault) × Unit) := (bif (bif (!ieq a1.fKind (-1)) then (!ieq a2.fKind a1.fKind) else false) then ((conf_judge_add.f a0_0 a3 2).bind fun y1 => (some ((), (y1.2.1, ())))) else ((conf_measure.f k (T_api_Value.mk a2.fKind a2.fBool a2.fInt a2.fText a2.fItems a2.fKeys)).bind fun y2 => (bif (bif y2.2 then a1.fBounded else false) then (bif (ilt y2.1 a1.fMin) then ((conf_judge_add.f a0_0 a3 3).bind fun y3 => (conf_judge_value.l0 k y3.2.1 a3 a1.fRoute a1.fKind a1.fNeed a1.fBounded a1.fMin a1.fMax a1.fOneOf a1.fDefault.fKind a1.fDefault.fBool a1.fDefault.fInt a1.fDefault.fText a1.fDefault.fItems a1.fDefault.fKeys a2.fKind a2.fBool a2.fInt a2.fText a2.fItems a2.fKeys)) else (bif (ilt a1.fMax y2.1) then ((conf_judge_add.f a0_0 a3 4).bind fun y4 => (conf_judge_value.l0 k y4.2.1 a3 a1.fRoute a1.fKind a1.fNeed a1.fBounded a1.fMin a1.fMax a1.fOneOf a1.fDefault.fKind a1.fDefault.fBool a1.fDefault.fInt a1.fDefault.fText a1.fDefault.fItems a1.fDefault.fKeys a2.fKind a2.fBool a2.fInt a2.fText a2.fItems a2.fKeys)) else (conf_judge_value.l0 k a0_0 a3 a1.fRoute a1.fKind a1.fNeed a1.fBounded a1.fMin a1.fMax a1.fOneOf a1.fDefault.fKind a1.fDefault.fBool a1.fDefault.fInt a1.fDefault.fText a1.fDefault.fItems a1.fDefault.fKeys a2.fKind a2.fBool a2.fInt a2.fText a2.fItems a2.fKeys))) else (conf_judge_value.l0 k a0_0 a3 a1.fRoute a1.fKind a1.fNeed a1.fBounded a1.fMin a1.fMax a1.fOneOf a1.fDefault.fKind a1.fDefault.fBool a1.fDefault.fInt a1.fDefault.fText a1.fDefault.fItems a1.fDefault.fKeys a2.fKind a2.fBool a2.fInt a2.fText a2.fItems a2.fKeys))))
def conf_judge_value.O (k : Nat) : Oracle sg := fun n => lkp n [(87, conf_judge_add.e), (241, conf_measure.e k)]
def conf_judge_value.a : Ann := (.n .z (.n .z (.n .z (.lab 0 (.n .z (.n (.n .z (.lp 1 .z)) .z))))))
def conf_judge_value.L (k : Nat) : Nat → St sg.U → Option (RT sg.U [] × HL sg.U (PM.outs [(.ref [.row 126 (.st 3)]), (.d (.st 1)), (.d (.st 2)), (.d .str)])) := labs [(0, labOf sg [(0, (.box [.row 126 (.st 3)])), (3, (.d .str)), (5, (.box [.d .str, .d (.int .i64), .d .bool, .d .bool, .d (.int .i64), .d (.int .i64), .d (.sl .str), .d (.int .i64), .d .bool, .d (.int .i64), .d .str, .d (.sl (.st 2)), .d (.sl .str)])), (6, (.box [.d (.int .i64), .d .bool, .d (.int .i64), .d .str, .d (.sl (.st 2)), .d (.sl .str)]))] (fun h => conf_judge_value.l0 k h.1 h.2.1 h.2.2.1 h.2.2.2.1 h.2.2.2.2.1 h.2.2.2.2.2.1 h.2.2.2.2.2.2.1 h.2.2.2.2.2.2.2.1 h.2.2.2.2.2.2.2.2.1 h.2.2.2.2.2.2.2.2.2.1 h.2.2.2.2.2.2.2.2.2.2.1 h.2.2.2.2.2.2.2.2.2.2.2.1 h.2.2.2.2.2.2.2.2.2.2.2.2.1 h.2.2.2.2.2.2.2.2.2.2.2.2.2.1 h.2.2.2.2.2.2.2.2.2.2.2.2.2.2.1 h.2.2.2.2.2.2.2.2.2.2.2.2.2.2.2.1 h.2.2.2.2.2.2.2.2.2.2.2.2.2.2.2.2.1 h.2.2.2.2.2.2.2.2.2.2.2.2.2.2.2.2.2.1 h.2.2.2.2.2.2.2.2.2.2.2.2.2.2.2.2.2.2.1 h.2.2.2.2.2.2.2.2.2.2.2.2.2.2.2.2.2.2.2.1 h.2.2.2.2.2.2.2.2.2.2.2.2.2.2.2.2.2.2.2.2.1)), (1, labOf sg [(0, (.box [.row 126 (.st 3)])), (3, (.d .str)), (6, (.box [.d (.int .i64), .d .bool, .d (.int .i64), .d .str, .d (.sl (.st 2)), .d (.sl .str)])), (59, (.d (.sl .str))), (60, (.d (.int .i64))), (61, (.d (.int .i64)))] (fun h => conf_judge_value.l1 k h.1 h.2.1 h.2.2.1 h.2.2.2.1 h.2.2.2.2.1 h.2.2.2.2.2.1 h.2.2.2.2.2.2.1 h.2.2.2.2.2.2.2.1 h.2.2.2.2.2.2.2.2.1 h.2.2.2.2.2.2.2.2.2.1 h.2.2.2.2.2.2.2.2.2.2.1))]
theorem conf_judge_value.l0_eq (k : Nat) (x0_0 : (List T_conf_Fault)) (x3 : ByteArray) (x5_0 : ByteArray) (x5_1 : Int) (x5_2 : Bool) (x5_3 : Bool) (x5_4 : Int) (x5_5 : Int) (x5_6 : (List ByteArray)) (x5_7 : Int) (x5_8 : Bool) (x5_9 : Int) (x5_10 : ByteArray) (x5_11 : (List T_api_Value)) (x5_12 : (List ByteArray)) (x6_0 : Int) (x6_1 : Bool) (x6_2 : Int) (x6_3 : ByteArray) (x6_4 : (List T_api_Value)) (x6_5 : (List ByteArray)) : conf_judge_value.l0 (k + 1) x0_0 x3 x5_0 x5_1 x5_2 x5_3 x5_4 x5_5 x5_6 x5_7 x5_8 x5_9 x5_10 x5_11 x5_12 x6_0 x6_1 x6_2 x6_3 x6_4 x6_5 = runFrom (C := ctx) (conf_judge_value.O k) ⟨73, [0], []⟩ (conf_judge_value.L k) (Tryz.f176.body.getD .skip) conf_judge_value.a 0 (endR ctx [] [] [(.ref [.row 126 (.st 3)]), (.d (.st 1)), (.d (.st 2)), (.d .str)]) (encD [(0, (.box [.row 126 (.st 3)])), (3, (.d .str)), (5, (.box [.d .str, .d (.int .i64), .d .bool, .d .bool, .d (.int .i64), .d (.int .i64), .d (.sl .str), .d (.int .i64), .d .bool, .d (.int .i64), .d .str, .d (.sl (.st 2)), .d (.sl .str)])), (6, (.box [.d (.int .i64), .d .bool, .d (.int .i64), .d .str, .d (.sl (.st 2)), .d (.sl .str)]))] (x0_0, x3, x5_0, x5_1, x5_2, x5_3, x5_4, x5_5, x5_6, x5_7, x5_8, x5_9, x5_10, x5_11, x5_12, x6_0, x6_1, x6_2, x6_3, x6_4, x6_5, ()) (startD sg.U ⟨73, [0], []⟩ [(0, (.box [.row 126 (.st 3)])), (3, (.d .str)), (5, (.box [.d .str, .d (.int .i64), .d .bool, .d .bool, .d (.int .i64), .d (.int .i64), .d (.sl .str), .d (.int .i64), .d .bool, .d (.int .i64), .d .str, .d (.sl (.st 2)), .d (.sl .str)])), (6, (.box [.d (.int .i64), .d .bool, .d (.int .i64), .d .str, .d (.sl (.st 2)), .d (.sl .str)]))])) := by
  rw [conf_judge_value.l0]
  kernel_rfl
theorem conf_judge_value.l1_eq (k : Nat) (x0_0 : (List T_conf_Fault)) (x3 : ByteArray) (x6_0 : Int) (x6_1 : Bool) (x6_2 : Int) (x6_3 : ByteArray) (x6_4 : (List T_api_Value)) (x6_5 : (List ByteArray)) (x59 : (List ByteArray)) (x60 : Int) (x61 : Int) : conf_judge_value.l1 (k + 1) x0_0 x3 x6_0 x6_1 x6_2 x6_3 x6_4 x6_5 x59 x60 x61 = runFrom (C := ctx) (conf_judge_value.O k) ⟨73, [0], []⟩ (conf_judge_value.L k) (Tryz.f176.body.getD .skip) conf_judge_value.a 1 (endR ctx [] [] [(.ref [.row 126 (.st 3)]), (.d (.st 1)), (.d (.st 2)), (.d .str)]) (encD [(0, (.box [.row 126 (.st 3)])), (3, (.d .str)), (6, (.box [.d (.int .i64), .d .bool, .d (.int .i64), .d .str, .d (.sl (.st 2)), .d (.sl .str)])), (59, (.d (.sl .str))), (60, (.d (.int .i64))), (61, (.d (.int .i64)))] (x0_0, x3, x6_0, x6_1, x6_2, x6_3, x6_4, x6_5, x59, x60, x61, ()) (startD sg.U ⟨73, [0], []⟩ [(0, (.box [.row 126 (.st 3)])), (3, (.d .str)), (6, (.box [.d (.int .i64), .d .bool, .d (.int .i64), .d .str, .d (.sl (.st 2)), .d (.sl .str)])), (59, (.d (.sl .str))), (60, (.d (.int .i64))), (61, (.d (.int .i64)))])) := by
  rw [conf_judge_value.l1]
  kernel_rfl
theorem conf_judge_value.f_eq (k : Nat) (a0_0 : (List T_conf_Fault)) (a1 : T_conf_Field) (a2 : T_api_Value) (a3 : ByteArray) : conf_judge_value.f k a0_0 a1 a2 a3 = codeK (C := ctx) (conf_judge_value.O k) ⟨73, [0], []⟩ (conf_judge_value.L k) (Tryz.f176.body.getD .skip) conf_judge_value.a (endR ctx [] [] [(.ref [.row 126 (.st 3)]), (.d (.st 1)), (.d (.st 2)), (.d .str)]) (slotsOf sg.U 0 [(.ref [.row 126 (.st 3)]), (.d (.st 1)), (.d (.st 2)), (.d .str)] (a0_0, a1, a2, a3, ()) (emptyG sg.U (PM.gs [(.ref [.row 126 (.st 3)]), (.d (.st 1)), (.d (.st 2)), (.d .str)]))) := by
  unfold conf_judge_value.f
  kernel_rfl
def conf_judge_value.e (k : Nat) : Entry sg := entryR sg [(.ref [.row 126 (.st 3)]), (.d (.st 1)), (.d (.st 2)), (.d .str)] [] (fun h => conf_judge_value.f k h.1 h.2.1 h.2.2.1 h.2.2.2.1)
def conf_judge_value.T : List (Lb sg (RT sg.U [] × HL sg.U (PM.outs [(.ref [.row 126 (.st 3)]), (.d (.st 1)), (.d (.st 2)), (.d .str)]))) := [⟨0, [(0, (.box [.row 126 (.st 3)])), (3, (.d .str)), (5, (.box [.d .str, .d (.int .i64), .d .bool, .d .bool, .d (.int .i64), .d (.int .i64), .d (.sl .str), .d (.int .i64), .d .bool, .d (.int .i64), .d .str, .d (.sl (.st 2)), .d (.sl .str)])), (6, (.box [.d (.int .i64), .d .bool, .d (.int .i64), .d .str, .d (.sl (.st 2)), .d (.sl .str)]))], fun k h => conf_judge_value.l0 k h.1 h.2.1 h.2.2.1 h.2.2.2.1 h.2.2.2.2.1 h.2.2.2.2.2.1 h.2.2.2.2.2.2.1 h.2.2.2.2.2.2.2.1 h.2.2.2.2.2.2.2.2.1 h.2.2.2.2.2.2.2.2.2.1 h.2.2.2.2.2.2.2.2.2.2.1 h.2.2.2.2.2.2.2.2.2.2.2.1 h.2.2.2.2.2.2.2.2.2.2.2.2.1 h.2.2.2.2.2.2.2.2.2.2.2.2.2.1 h.2.2.2.2.2.2.2.2.2.2.2.2.2.2.1 h.2.2.2.2.2.2.2.2.2.2.2.2.2.2.2.1 h.2.2.2.2.2.2.2.2.2.2.2.2.2.2.2.2.1 h.2.2.2.2.2.2.2.2.2.2.2.2.2.2.2.2.2.1 h.2.2.2.2.2.2.2.2.2.2.2.2.2.2.2.2.2.2.1 h.2.2.2.2.2.2.2.2.2.2.2.2.2.2.2.2.2.2.2.1 h.2.2.2.2.2.2.2.2.2.2.2.2.2.2.2.2.2.2.2.2.1⟩, ⟨1, [(0, (.box [.row 126 (.st 3)])), (3, (.d .str)), (6, (.box [.d (.int .i64), .d .bool, .d (.int .i64), .d .str, .d (.sl (.st 2)), .d (.sl .str)])), (59, (.d (.sl .str))), (60, (.d (.int .i64))), (61, (.d (.int .i64)))], fun k h => conf_judge_value.l1 k h.1 h.2.1 h.2.2.1 h.2.2.2.1 h.2.2.2.2.1 h.2.2.2.2.2.1 h.2.2.2.2.2.2.1 h.2.2.2.2.2.2.2.1 h.2.2.2.2.2.2.2.2.1 h.2.2.2.2.2.2.2.2.2.1 h.2.2.2.2.2.2.2.2.2.2.1⟩]
theorem conf_judge_value.ok (k : Nat) : (conf_judge_value.e k).Sound Tryz.prog ctx 176 :=
  entryR_ok base_ok mo (fn := Tryz.f176) (b := (Tryz.f176.body.getD .skip)) (pm := [(.ref [.row 126 (.st 3)]), (.d (.st 1)), (.d (.st 2)), (.d .str)]) (rs := []) (an := conf_judge_value.a) (N := 73) (vars := []) Tryz.func176 (by kernel_rfl) (by kernel_rfl) (by kernel_rfl) (by kernel_rfl) (by kernel_rfl) (by kernel_rfl) (by kernel_rfl) (by kernel_rfl) (O := conf_judge_value.O)
    (fun k => by unfold conf_judge_value.O; exact oracle_of (P := Tryz.prog) (C := ctx) ⟨(conf_judge_add.ok), ⟨(conf_measure.ok k), trivial⟩⟩) conf_judge_value.T ⟨⟨by kernel_rfl, fun _ => by first | rfl | rw [conf_judge_value.l0], fun k h => conf_judge_value.l0_eq k h.1 h.2.1 h.2.2.1 h.2.2.2.1 h.2.2.2.2.1 h.2.2.2.2.2.1 h.2.2.2.2.2.2.1 h.2.2.2.2.2.2.2.1 h.2.2.2.2.2.2.2.2.1 h.2.2.2.2.2.2.2.2.2.1 h.2.2.2.2.2.2.2.2.2.2.1 h.2.2.2.2.2.2.2.2.2.2.2.1 h.2.2.2.2.2.2.2.2.2.2.2.2.1 h.2.2.2.2.2.2.2.2.2.2.2.2.2.1 h.2.2.2.2.2.2.2.2.2.2.2.2.2.2.1 h.2.2.2.2.2.2.2.2.2.2.2.2.2.2.2.1 h.2.2.2.2.2.2.2.2.2.2.2.2.2.2.2.2.1 h.2.2.2.2.2.2.2.2.2.2.2.2.2.2.2.2.2.1 h.2.2.2.2.2.2.2.2.2.2.2.2.2.2.2.2.2.2.1 h.2.2.2.2.2.2.2.2.2.2.2.2.2.2.2.2.2.2.2.1 h.2.2.2.2.2.2.2.2.2.2.2.2.2.2.2.2.2.2.2.2.1⟩, ⟨⟨by kernel_rfl, fun _ => by first | rfl | rw [conf_judge_value.l1], fun k h => conf_judge_value.l1_eq k h.1 h.2.1 h.2.2.1 h.2.2.2.1 h.2.2.2.2.1 h.2.2.2.2.2.1 h.2.2.2.2.2.2.1 h.2.2.2.2.2.2.2.1 h.2.2.2.2.2.2.2.2.1 h.2.2.2.2.2.2.2.2.2.1 h.2.2.2.2.2.2.2.2.2.2.1⟩, trivial⟩⟩ k (fun h => conf_judge_value.f_eq k h.1 h.2.1 h.2.2.1 h.2.2.2.1)
def conf_whole.f (a0 : Int) : Option (T_api_Value) := (some (T_api_Value.mk 2 false a0 c_empty [] []))
def conf_whole.O : Oracle sg := fun n => lkp n []
def conf_whole.a : Ann := .z
def conf_whole.L : Nat → St sg.U → Option (RT sg.U [(.st 2)]) := labs []
theorem conf_whole.f_eq (a0 : Int) : conf_whole.f a0 = codeK (C := ctx) (conf_whole.O) ⟨5, [], []⟩ (conf_whole.L) (Tryz.f243.body.getD .skip) conf_whole.a (endK ctx [(.st 2)] [(.cell 2 34)]) (slotsOf sg.U 0 [(.d (.int .i64))] (a0, ()) (empty sg.U)) := by
  unfold conf_whole.f
  kernel_rfl
def conf_whole.e : Entry sg := entryOf sg [(.d (.int .i64))] [(.st 2)] (fun h => conf_whole.f h.1)
def conf_whole.T : List (Lb sg (RT sg.U [(.st 2)])) := []
theorem conf_whole.ok : (conf_whole.e).Sound Tryz.prog ctx 243 :=
  entry_ok base_ok mo (fn := Tryz.f243) (b := (Tryz.f243.body.getD .skip)) (pm := [(.d (.int .i64))]) (rs := [(.st 2)]) (an := conf_whole.a) (N := 5) (vars := [(.cell 2 34)]) Tryz.func243 (by kernel_rfl) (by kernel_rfl) (by kernel_rfl) (by kernel_rfl) (by kernel_rfl) (by kernel_rfl) (O := fun _ => conf_whole.O)
    (fun _ => by unfold conf_whole.O; exact oracle_of (P := Tryz.prog) (C := ctx) trivial) conf_whole.T trivial 0 (fun h => conf_whole.f_eq h.1)
def strconv_Itoa.f (a0 : Int) : Option (ByteArray) := if -9223372036854775808 ≤ a0 ∧ a0 ≤ 9223372036854775807 then some (⟨(Lib.itoa a0).toArray⟩) else none
def strconv_Itoa.e : Entry sg := entryOf sg [(.d (.int .i64))] [.str] (fun h => strconv_Itoa.f h.1)
theorem strconv_Itoa.ok : (strconv_Itoa.e).Sound Tryz.prog ctx 209 :=
  entry_extern (C := ctx) sg_ok Tryz.func209 (by kernel_rfl) (by kernel_rfl) (by kernel_rfl) (by kernel_rfl) (fun hh x w hx hG => by
    unfold strconv_Itoa.f at hx
    split at hx
    · rename_i c
      obtain rfl := Option.some.inj hx
      have htab : Lib.TabIs Tryz.prog w "internal/strconv.uint64pow10" .u64 Lib.pow10Tab := var_of (k := 6) (by kernel_rfl) (hG 6 (by simp [ctx, sg])) rfl
      refine (Tryz.strconv_Itoa hh.1 c.1 c.2 w htab).mono ?_
      rintro e w' ⟨rfl, hb⟩
      exact ⟨rfl, by first | exact hb ▸ Grow.refl _ | exact Grow.of_below hb | (obtain ⟨k, os, rfl⟩ := hb; exact Grow.of_below (Lib.below_grow _ w (Nat.le_refl _) k os))⟩
    · cases hx)
def conf_before.f (a0 : Int) : Option (Int) := (some (wsub .i64 (wadd .i64 (wsub .i64 (wadd .i64 (wmul .i64 365 (wsub .i64 a0 1970)) (wquo .i64 (wsub .i64 a0 1) 4)) (wquo .i64 (wsub .i64 a0 1) 100)) (wquo .i64 (wsub .i64 a0 1) 400)) 477))
def conf_before.O : Oracle sg := fun n => lkp n []
def conf_before.a : Ann := .z
def conf_before.L : Nat → St sg.U → Option (RT sg.U [(.int .i64)]) := labs []
theorem conf_before.f_eq (a0 : Int) : conf_before.f a0 = codeK (C := ctx) (conf_before.O) ⟨19, [], []⟩ (conf_before.L) (Tryz.f307.body.getD .skip) conf_before.a (endK ctx [(.int .i64)] [(.tmp 2)]) (slotsOf sg.U 0 [(.d (.int .i64))] (a0, ()) (empty sg.U)) := by
  unfold conf_before.f
  kernel_rfl
def conf_before.e : Entry sg := entryOf sg [(.d (.int .i64))] [(.int .i64)] (fun h => conf_before.f h.1)
def conf_before.T : List (Lb sg (RT sg.U [(.int .i64)])) := []
theorem conf_before.ok : (conf_before.e).Sound Tryz.prog ctx 307 :=
  entry_ok base_ok mo (fn := Tryz.f307) (b := (Tryz.f307.body.getD .skip)) (pm := [(.d (.int .i64))]) (rs := [(.int .i64)]) (an := conf_before.a) (N := 19) (vars := [(.tmp 2)]) Tryz.func307 (by kernel_rfl) (by kernel_rfl) (by kernel_rfl) (by kernel_rfl) (by kernel_rfl) (by kernel_rfl) (O := fun _ => conf_before.O)
    (fun _ => by unfold conf_before.O; exact oracle_of (P := Tryz.prog) (C := ctx) trivial) conf_before.T trivial 0 (fun h => conf_before.f_eq h.1)
def conf_leap.f (a0 : Int) : Option (Bool) := (bif (ieq (irem a0 4) 0) then (bif (!ieq (irem a0 100) 0) then (some true) else (some (ieq (irem a0 400) 0))) else (some false))
def conf_leap.O : Oracle sg := fun n => lkp n []
def conf_leap.a : Ann := .z
def conf_leap.L : Nat → St sg.U → Option (RT sg.U [.bool]) := labs []
theorem conf_leap.f_eq (a0 : Int) : conf_leap.f a0 = codeK (C := ctx) (conf_leap.O) ⟨16, [], []⟩ (conf_leap.L) (Tryz.f315.body.getD .skip) conf_leap.a (endK ctx [.bool] [(.tmp 2)]) (slotsOf sg.U 0 [(.d (.int .i64))] (a0, ()) (empty sg.U)) := by
  unfold conf_leap.f
  kernel_rfl
def conf_leap.e : Entry sg := entryOf sg [(.d (.int .i64))] [.bool] (fun h => conf_leap.f h.1)
def conf_leap.T : List (Lb sg (RT sg.U [.bool])) := []
theorem conf_leap.ok : (conf_leap.e).Sound Tryz.prog ctx 315 :=
  entry_ok base_ok mo (fn := Tryz.f315) (b := (Tryz.f315.body.getD .skip)) (pm := [(.d (.int .i64))]) (rs := [.bool]) (an := conf_leap.a) (N := 16) (vars := [(.tmp 2)]) Tryz.func315 (by kernel_rfl) (by kernel_rfl) (by kernel_rfl) (by kernel_rfl) (by kernel_rfl) (by kernel_rfl) (O := fun _ => conf_leap.O)
    (fun _ => by unfold conf_leap.O; exact oracle_of (P := Tryz.prog) (C := ctx) trivial) conf_leap.T trivial 0 (fun h => conf_leap.f_eq h.1)
def conf_yearDays.f (a0 : Int) : Option (Int) := ((conf_leap.f a0).bind fun y1 => (bif y1 then (some 366) else (some 365)))
def conf_yearDays.O : Oracle sg := fun n => lkp n [(315, conf_leap.e)]
def conf_yearDays.a : Ann := .z
def conf_yearDays.L : Nat → St sg.U → Option (RT sg.U [(.int .i64)]) := labs []
theorem conf_yearDays.f_eq (a0 : Int) : conf_yearDays.f a0 = codeK (C := ctx) (conf_yearDays.O) ⟨5, [], []⟩ (conf_yearDays.L) (Tryz.f308.body.getD .skip) conf_yearDays.a (endK ctx [(.int .i64)] [(.tmp 2)]) (slotsOf sg.U 0 [(.d (.int .i64))] (a0, ()) (empty sg.U)) := by
  unfold conf_yearDays.f
  kernel_rfl
def conf_yearDays.e : Entry sg := entryOf sg [(.d (.int .i64))] [(.int .i64)] (fun h => conf_yearDays.f h.1)
def conf_yearDays.T : List (Lb sg (RT sg.U [(.int .i64)])) := []
theorem conf_yearDays.ok : (conf_yearDays.e).Sound Tryz.prog ctx 308 :=
  entry_ok base_ok mo (fn := Tryz.f308) (b := (Tryz.f308.body.getD .skip)) (pm := [(.d (.int .i64))]) (rs := [(.int .i64)]) (an := conf_yearDays.a) (N := 5) (vars := [(.tmp 2)]) Tryz.func308 (by kernel_rfl) (by kernel_rfl) (by kernel_rfl) (by kernel_rfl) (by kernel_rfl) (by kernel_rfl) (O := fun _ => conf_yearDays.O)
    (fun _ => by unfold conf_yearDays.O; exact oracle_of (P := Tryz.prog) (C := ctx) ⟨(conf_leap.ok), trivial⟩) conf_yearDays.T trivial 0 (fun h => conf_yearDays.f_eq h.1)
def conf_monthDays.f (a0 : Int) (a1 : Int) : Option (Int) := (bif (ieq a1 2) then ((conf_leap.f a0).bind fun y1 => (bif y1 then (some 29) else (some 28))) else (bif (ieq a1 4) then (some 30) else (bif (ieq a1 6) then (some 30) else (bif (ieq a1 9) then (some 30) else (bif (ieq a1 11) then (some 30) else (some 31))))))
def conf_monthDays.O : Oracle sg := fun n => lkp n [(315, conf_leap.e)]
def conf_monthDays.a : Ann := .z
def conf_monthDays.L : Nat → St sg.U → Option (RT sg.U [(.int .i64)]) := labs []
theorem conf_monthDays.f_eq (a0 : Int) (a1 : Int) : conf_monthDays.f a0 a1 = codeK (C := ctx) (conf_monthDays.O) ⟨15, [], []⟩ (conf_monthDays.L) (Tryz.f309.body.getD .skip) conf_monthDays.a (endK ctx [(.int .i64)] [(.tmp 4)]) (slotsOf sg.U 0 [(.d (.int .i64)), (.d (.int .i64))] (a0, a1, ()) (empty sg.U)) := by
  unfold conf_monthDays.f
  kernel_rfl
def conf_monthDays.e : Entry sg := entryOf sg [(.d (.int .i64)), (.d (.int .i64))] [(.int .i64)] (fun h => conf_monthDays.f h.1 h.2.1)
def conf_monthDays.T : List (Lb sg (RT sg.U [(.int .i64)])) := []
theorem conf_monthDays.ok : (conf_monthDays.e).Sound Tryz.prog ctx 309 :=
  entry_ok base_ok mo (fn := Tryz.f309) (b := (Tryz.f309.body.getD .skip)) (pm := [(.d (.int .i64)), (.d (.int .i64))]) (rs := [(.int .i64)]) (an := conf_monthDays.a) (N := 15) (vars := [(.tmp 4)]) Tryz.func309 (by kernel_rfl) (by kernel_rfl) (by kernel_rfl) (by kernel_rfl) (by kernel_rfl) (by kernel_rfl) (O := fun _ => conf_monthDays.O)
    (fun _ => by unfold conf_monthDays.O; exact oracle_of (P := Tryz.prog) (C := ctx) ⟨(conf_leap.ok), trivial⟩) conf_monthDays.T trivial 0 (fun h => conf_monthDays.f_eq h.1 h.2.1)
mutual
def conf_date.l0 : Nat → Int → Int → Option (Int × Int × Int)
  | 0, _, _ => none
  | k + 1, x0, x2 => ((conf_before.f x2).bind fun y1 => ((conf_yearDays.f x2).bind fun y2 => (bif (ile (wadd .i64 y1 y2) x0) then (conf_date.l0 k x0 (wadd .i64 x2 1)) else ((conf_before.f x2).bind fun y3 => (conf_date.l1 k (wsub .i64 x0 y3) x2 1)))))
def conf_date.l1 : Nat → Int → Int → Int → Option (Int × Int × Int)
  | 0, _, _, _ => none
  | k + 1, x0, x2, x3 => ((conf_monthDays.f x2 x3).bind fun y4 => (bif (ile y4 x0) then ((conf_monthDays.f x2 x3).bind fun y5 => (conf_date.l1 k (wsub .i64 x0 y5) x2 (wadd .i64 x3 1))) else (some (x2, x3, (wadd .i64 x0 1)))))
end
def conf_date.f (k : Nat) (a0 : Int) : Option (Int × Int × Int) := (conf_date.l0 k a0 (wadd .i64 1970 (wquo .i64 a0 366)))
def conf_date.O (k : Nat) : Oracle sg := fun n => lkp n [(307, conf_before.e), (308, conf_yearDays.e), (309, conf_monthDays.e)]
def conf_date.a : Ann := (.n .z (.n .z (.n (.lp 0 .z) (.n .z (.n (.n .z (.lp 1 .z)) .z)))))
def conf_date.L (k : Nat) : Nat → St sg.U → Option (RT sg.U [(.int .i64), (.int .i64), (.int .i64)]) := labs [(0, labOf sg [(0, (.d (.int .i64))), (2, (.d (.int .i64)))] (fun h => conf_date.l0 k h.1 h.2.1)), (1, labOf sg [(0, (.d (.int .i64))), (2, (.d (.int .i64))), (3, (.d (.int .i64)))] (fun h => conf_date.l1 k h.1 h.2.1 h.2.2.1))]
theorem conf_date.l0_eq (k : Nat) (x0 : Int) (x2 : Int) : conf_date.l0 (k + 1) x0 x2 = runFrom (C := ctx) (conf_date.O k) ⟨37, [], []⟩ (conf_date.L k) (Tryz.f294.body.getD .skip) conf_date.a 0 (endK ctx [(.int .i64), (.int .i64), (.int .i64)] [(.tmp 2), (.tmp 3), (.tmp 4)]) (encD [(0, (.d (.int .i64))), (2, (.d (.int .i64)))] (x0, x2, ()) (startD sg.U ⟨37, [], []⟩ [(0, (.d (.int .i64))), (2, (.d (.int .i64)))])) := by
  rw [conf_date.l0]
  kernel_rfl
theorem conf_date.l1_eq (k : Nat) (x0 : Int) (x2 : Int) (x3 : Int) : conf_date.l1 (k + 1) x0 x2 x3 = runFrom (C := ctx) (conf_date.O k) ⟨37, [], []⟩ (conf_date.L k) (Tryz.f294.body.getD .skip) conf_date.a 1 (endK ctx [(.int .i64), (.int .i64), (.int .i64)] [(.tmp 2), (.tmp 3), (.tmp 4)]) (encD [(0, (.d (.int .i64))), (2, (.d (.int .i64))), (3, (.d (.int .i64)))] (x0, x2, x3, ()) (startD sg.U ⟨37, [], []⟩ [(0, (.d (.int .i64))), (2, (.d (.int .i64))), (3, (.d (.int .i64)))])) := by
  rw [conf_date.l1]
  kernel_rfl
theorem conf_date.f_eq (k : Nat) (a0 : Int) : conf_date.f k a0 = codeK (C := ctx) (conf_date.O k) ⟨37, [], []⟩ (conf_date.L k) (Tryz.f294.body.getD .skip) conf_date.a (endK ctx [(.int .i64), (.int .i64), (.int .i64)] [(.tmp 2), (.tmp 3), (.tmp 4)]) (slotsOf sg.U 0 [(.d (.int .i64))] (a0, ()) (empty sg.U)) := by
  unfold conf_date.f
  kernel_rfl
def conf_date.e (k : Nat) : Entry sg := entryOf sg [(.d (.int .i64))] [(.int .i64), (.int .i64), (.int .i64)] (fun h => conf_date.f k h.1)
def conf_date.T : List (Lb sg (RT sg.U [(.int .i64), (.int .i64), (.int .i64)])) := [⟨0, [(0, (.d (.int .i64))), (2, (.d (.int .i64)))], fun k h => conf_date.l0 k h.1 h.2.1⟩, ⟨1, [(0, (.d (.int .i64))), (2, (.d (.int .i64))), (3, (.d (.int .i64)))], fun k h => conf_date.l1 k h.1 h.2.1 h.2.2.1⟩]
theorem conf_date.ok (k : Nat) : (conf_date.e k).Sound Tryz.prog ctx 294 :=
  entry_ok base_ok mo (fn := Tryz.f294) (b := (Tryz.f294.body.getD .skip)) (pm := [(.d (.int .i64))]) (rs := [(.int .i64), (.int .i64), (.int .i64)]) (an := conf_date.a) (N := 37) (vars := [(.tmp 2), (.tmp 3), (.tmp 4)]) Tryz.func294 (by kernel_rfl) (by kernel_rfl) (by kernel_rfl) (by kernel_rfl) (by kernel_rfl) (by kernel_rfl) (O := conf_date.O)
    (fun k => by unfold conf_date.O; exact oracle_of (P := Tryz.prog) (C := ctx) ⟨(conf_before.ok), ⟨(conf_yearDays.ok), ⟨(conf_monthDays.ok), trivial⟩⟩⟩) conf_date.T ⟨⟨by kernel_rfl, fun _ => by first | rfl | rw [conf_date.l0], fun k h => conf_date.l0_eq k h.1 h.2.1⟩, ⟨⟨by kernel_rfl, fun _ => by first | rfl | rw [conf_date.l1], fun k h => conf_date.l1_eq k h.1 h.2.1 h.2.2.1⟩, trivial⟩⟩ k (fun h => conf_date.f_eq k h.1)
def conf_digits.l0 : Nat → Int → (List Int) → Int → Option (ByteArray)
  | 0, _, _, _ => none
  | k + 1, x0, x5, x6 => (bif (ile 0 x6) then ((lat x5 x6).bind fun y2 => ((lset x5 x6 (wcv .u8 (wadd .i64 48 (irem x0 10)))).bind fun y3 => (conf_digits.l0 k (wquo .i64 x0 10) y3 (wsub .i64 x6 1)))) else (some (bstr x5)))
def conf_digits.f (k : Nat) (a0 : Int) (a1 : Int) : Option (ByteArray) := ((lmake 1 a1 a1 0).bind fun y1 => (conf_digits.l0 k a0 y1 (wsub .i64 a1 1)))
def conf_digits.O (k : Nat) : Oracle sg := fun n => lkp n []
def conf_digits.a : Ann := (.n .z (.n .z (.n (.n .z (.lp 0 .z)) .z)))
def conf_digits.L (k : Nat) : Nat → St sg.U → Option (RT sg.U [.str]) := labs [(0, labOf sg [(0, (.d (.int .i64))), (5, (.row 5 (.int .u8))), (6, (.d (.int .i64)))] (fun h => conf_digits.l0 k h.1 h.2.1 h.2.2.1))]
theorem conf_digits.l0_eq (k : Nat) (x0 : Int) (x5 : (List Int)) (x6 : Int) : conf_digits.l0 (k + 1) x0 x5 x6 = runFrom (C := ctx) (conf_digits.O k) ⟨26, [], []⟩ (conf_digits.L k) (Tryz.f295.body.getD .skip) conf_digits.a 0 (endK ctx [.str] [(.tmp 4)]) (encD [(0, (.d (.int .i64))), (5, (.row 5 (.int .u8))), (6, (.d (.int .i64)))] (x0, x5, x6, ()) (startD sg.U ⟨26, [], []⟩ [(0, (.d (.int .i64))), (5, (.row 5 (.int .u8))), (6, (.d (.int .i64)))])) := by
  rw [conf_digits.l0]
  kernel_rfl
theorem conf_digits.f_eq (k : Nat) (a0 : Int) (a1 : Int) : conf_digits.f k a0 a1 = codeK (C := ctx) (conf_digits.O k) ⟨26, [], []⟩ (conf_digits.L k) (Tryz.f295.body.getD .skip) conf_digits.a (endK ctx [.str] [(.tmp 4)]) (slotsOf sg.U 0 [(.d (.int .i64)), (.d (.int .i64))] (a0, a1, ()) (empty sg.U)) := by
  unfold conf_digits.f
  kernel_rfl
def conf_digits.e (k : Nat) : Entry sg := entryOf sg [(.d (.int .i64)), (.d (.int .i64))] [.str] (fun h => conf_digits.f k h.1 h.2.1)
def conf_digits.T : List (Lb sg (RT sg.U [.str])) := [⟨0, [(0, (.d (.int .i64))), (5, (.row 5 (.int .u8))), (6, (.d (.int .i64)))], fun k h => conf_digits.l0 k h.1 h.2.1 h.2.2.1⟩]
theorem conf_digits.ok (k : Nat) : (conf_digits.e k).Sound Tryz.prog ctx 295 :=
  entry_ok base_ok mo (fn := Tryz.f295) (b := (Tryz.f295.body.getD .skip)) (pm := [(.d (.int .i64)), (.d (.int .i64))]) (rs := [.str]) (an := conf_digits.a) (N := 26) (vars := [(.tmp 4)]) Tryz.func295 (by kernel_rfl) (by kernel_rfl) (by kernel_rfl) (by kernel_rfl) (by kernel_rfl) (by kernel_rfl) (O := conf_digits.O)
    (fun k => by unfold conf_digits.O; exact oracle_of (P := Tryz.prog) (C := ctx) trivial) conf_digits.T ⟨⟨by kernel_rfl, fun _ => by first | rfl | rw [conf_digits.l0], fun k h => conf_digits.l0_eq k h.1 h.2.1 h.2.2.1⟩, trivial⟩ k (fun h => conf_digits.f_eq k h.1 h.2.1)
def conf_dayString.f (k : Nat) (a0 : Int) : Option (ByteArray) := ((conf_date.f k a0).bind fun y1 => ((conf_digits.f k y1.1 4).bind fun y2 => ((scat y2 c__2d).bind fun y3 => ((conf_digits.f k y1.2.1 2).bind fun y4 => ((scat y3 y4).bind fun y5 => ((scat y5 c__2d).bind fun y6 => ((conf_digits.f k y1.2.2 2).bind fun y7 => ((scat y6 y7).bind fun y8 => (some y8)))))))))
def conf_dayString.O (k : Nat) : Oracle sg := fun n => lkp n [(294, conf_date.e k), (295, conf_digits.e k)]
def conf_dayString.a : Ann := .z
def conf_dayString.L (k : Nat) : Nat → St sg.U → Option (RT sg.U [.str]) := labs []
theorem conf_dayString.f_eq (k : Nat) (a0 : Int) : conf_dayString.f k a0 = codeK (C := ctx) (conf_dayString.O k) ⟨22, [], []⟩ (conf_dayString.L k) (Tryz.f279.body.getD .skip) conf_dayString.a (endK ctx [.str] [(.tmp 2)]) (slotsOf sg.U 0 [(.d (.int .i64))] (a0, ()) (empty sg.U)) := by
  unfold conf_dayString.f
  kernel_rfl
def conf_dayString.e (k : Nat) : Entry sg := entryOf sg [(.d (.int .i64))] [.str] (fun h => conf_dayString.f k h.1)
def conf_dayString.T : List (Lb sg (RT sg.U [.str])) := []
theorem conf_dayString.ok (k : Nat) : (conf_dayString.e k).Sound Tryz.prog ctx 279 :=
  entry_ok base_ok mo (fn := Tryz.f279) (b := (Tryz.f279.body.getD .skip)) (pm := [(.d (.int .i64))]) (rs := [.str]) (an := conf_dayString.a) (N := 22) (vars := [(.tmp 2)]) Tryz.func279 (by kernel_rfl) (by kernel_rfl) (by kernel_rfl) (by kernel_rfl) (by kernel_rfl) (by kernel_rfl) (O := conf_dayString.O)
    (fun k => by unfold conf_dayString.O; exact oracle_of (P := Tryz.prog) (C := ctx) ⟨(conf_date.ok k), ⟨(conf_digits.ok k), trivial⟩⟩) conf_dayString.T trivial k (fun h => conf_dayString.f_eq k h.1)
def conf_word.f (k : Nat) (a0 : T_api_Value) : Option (ByteArray) := (bif (ieq a0.fKind 1) then (bif a0.fBool then (some c_yes) else (some c_no)) else (bif (ieq a0.fKind 2) then ((strconv_Itoa.f a0.fInt).bind fun y1 => (some y1)) else (bif (ieq a0.fKind 4) then ((conf_dayString.f k a0.fInt).bind fun y2 => (some y2)) else (some c_nil))))
def conf_word.O (k : Nat) : Oracle sg := fun n => lkp n [(209, strconv_Itoa.e), (279, conf_dayString.e k)]
def conf_word.a : Ann := .z
def conf_word.L (k : Nat) : Nat → St sg.U → Option (RT sg.U [.str]) := labs []
theorem conf_word.f_eq (k : Nat) (a0 : T_api_Value) : conf_word.f k a0 = codeK (C := ctx) (conf_word.O k) ⟨19, [], []⟩ (conf_word.L k) (Tryz.f242.body.getD .skip) conf_word.a (endK ctx [.str] [(.tmp 2)]) (slotsOf sg.U 0 [(.d (.st 2))] (a0, ()) (empty sg.U)) := by
  unfold conf_word.f
  kernel_rfl
def conf_word.e (k : Nat) : Entry sg := entryOf sg [(.d (.st 2))] [.str] (fun h => conf_word.f k h.1)
def conf_word.T : List (Lb sg (RT sg.U [.str])) := []
theorem conf_word.ok (k : Nat) : (conf_word.e k).Sound Tryz.prog ctx 242 :=
  entry_ok base_ok mo (fn := Tryz.f242) (b := (Tryz.f242.body.getD .skip)) (pm := [(.d (.st 2))]) (rs := [.str]) (an := conf_word.a) (N := 19) (vars := [(.tmp 2)]) Tryz.func242 (by kernel_rfl) (by kernel_rfl) (by kernel_rfl) (by kernel_rfl) (by kernel_rfl) (by kernel_rfl) (O := conf_word.O)
    (fun k => by unfold conf_word.O; exact oracle_of (P := Tryz.prog) (C := ctx) ⟨(strconv_Itoa.ok), ⟨(conf_dayString.ok k), trivial⟩⟩) conf_word.T trivial k (fun h => conf_word.f_eq k h.1)
def conf_stepName.f (k : Nat) (a0 : T_conf_step) : Option (ByteArray) := (bif (!seq a0.fkey c_empty) then (some a0.fkey) else ((conf_whole.f a0.fnumber).bind fun y1 => ((conf_word.f k y1).bind fun y2 => (some y2))))
def conf_stepName.O (k : Nat) : Oracle sg := fun n => lkp n [(242, conf_word.e k), (243, conf_whole.e)]
def conf_stepName.a : Ann := .z
def conf_stepName.L (k : Nat) : Nat → St sg.U → Option (RT sg.U [.str]) := labs []
theorem conf_stepName.f_eq (k : Nat) (a0 : T_conf_step) : conf_stepName.f k a0 = codeK (C := ctx) (conf_stepName.O k) ⟨12, [], []⟩ (conf_stepName.L k) (Tryz.f177.body.getD .skip) conf_stepName.a (endK ctx [.str] [(.tmp 2)]) (slotsOf sg.U 0 [(.d (.st 5))] (a0, ()) (empty sg.U)) := by
  unfold conf_stepName.f
  kernel_rfl
def conf_stepName.e (k : Nat) : Entry sg := entryOf sg [(.d (.st 5))] [.str] (fun h => conf_stepName.f k h.1)
def conf_stepName.T : List (Lb sg (RT sg.U [.str])) := []
theorem conf_stepName.ok (k : Nat) : (conf_stepName.e k).Sound Tryz.prog ctx 177 :=
  entry_ok base_ok mo (fn := Tryz.f177) (b := (Tryz.f177.body.getD .skip)) (pm := [(.d (.st 5))]) (rs := [.str]) (an := conf_stepName.a) (N := 12) (vars := [(.tmp 2)]) Tryz.func177 (by kernel_rfl) (by kernel_rfl) (by kernel_rfl) (by kernel_rfl) (by kernel_rfl) (by kernel_rfl) (O := conf_stepName.O)
    (fun k => by unfold conf_stepName.O; exact oracle_of (P := Tryz.prog) (C := ctx) ⟨(conf_word.ok k), ⟨(conf_whole.ok), trivial⟩⟩) conf_stepName.T trivial k (fun h => conf_stepName.f_eq k h.1)
def conf_joined.f (a0 : ByteArray) (a1 : ByteArray) : Option (ByteArray) := (bif (seq a0 c_empty) then (some a1) else ((scat a0 c__2e).bind fun y1 => ((scat y1 a1).bind fun y2 => (some y2))))
def conf_joined.O : Oracle sg := fun n => lkp n []
def conf_joined.a : Ann := .z
def conf_joined.L : Nat → St sg.U → Option (RT sg.U [.str]) := labs []
theorem conf_joined.f_eq (a0 : ByteArray) (a1 : ByteArray) : conf_joined.f a0 a1 = codeK (C := ctx) (conf_joined.O) ⟨12, [], []⟩ (conf_joined.L) (Tryz.f133.body.getD .skip) conf_joined.a (endK ctx [.str] [(.tmp 4)]) (slotsOf sg.U 0 [(.d .str), (.d .str)] (a0, a1, ()) (empty sg.U)) := by
  unfold conf_joined.f
  kernel_rfl
def conf_joined.e : Entry sg := entryOf sg [(.d .str), (.d .str)] [.str] (fun h => conf_joined.f h.1 h.2.1)
def conf_joined.T : List (Lb sg (RT sg.U [.str])) := []
theorem conf_joined.ok : (conf_joined.e).Sound Tryz.prog ctx 133 :=
  entry_ok base_ok mo (fn := Tryz.f133) (b := (Tryz.f133.body.getD .skip)) (pm := [(.d .str), (.d .str)]) (rs := [.str]) (an := conf_joined.a) (N := 12) (vars := [(.tmp 4)]) Tryz.func133 (by kernel_rfl) (by kernel_rfl) (by kernel_rfl) (by kernel_rfl) (by kernel_rfl) (by kernel_rfl) (O := fun _ => conf_joined.O)
    (fun _ => by unfold conf_joined.O; exact oracle_of (P := Tryz.prog) (C := ctx) trivial) conf_joined.T trivial 0 (fun h => conf_joined.f_eq h.1 h.2.1)
def sort_SearchStrings_c1.f (a0 : Int) (a1_0 : (List ByteArray)) (a2_0 : ByteArray) : Option (Bool × (List ByteArray) × ByteArray × Unit) := ((lat a1_0 a0).bind fun y1 => (some ((!slt y1 a2_0), (a1_0, a2_0, ()))))
def sort_SearchStrings_c1.O : Oracle sg := fun n => lkp n []
def sort_SearchStrings_c1.a : Ann := .z
def sort_SearchStrings_c1.L : Nat → St sg.U → Option (RT sg.U [.bool] × HL sg.U (PM.outs [(.d (.int .i64)), (.ref [.d (.sl .str)]), (.ref [.d .str])])) := labs []
theorem sort_SearchStrings_c1.f_eq (a0 : Int) (a1_0 : (List ByteArray)) (a2_0 : ByteArray) : sort_SearchStrings_c1.f a0 a1_0 a2_0 = codeK (C := ctx) (sort_SearchStrings_c1.O) ⟨11, [1, 2], []⟩ (sort_SearchStrings_c1.L) (Tryz.f297.body.getD .skip) sort_SearchStrings_c1.a (endR ctx [.bool] [(.tmp 4)] [(.d (.int .i64)), (.ref [.d (.sl .str)]), (.ref [.d .str])]) (slotsOf sg.U 0 [(.d (.int .i64)), (.ref [.d (.sl .str)]), (.ref [.d .str])] (a0, a1_0, a2_0, ()) (emptyG sg.U (PM.gs [(.d (.int .i64)), (.ref [.d (.sl .str)]), (.ref [.d .str])]))) := by
  unfold sort_SearchStrings_c1.f
  kernel_rfl
def sort_SearchStrings_c1.e : Entry sg := entryR sg [(.d (.int .i64)), (.ref [.d (.sl .str)]), (.ref [.d .str])] [.bool] (fun h => sort_SearchStrings_c1.f h.1 h.2.1 h.2.2.1)
def sort_SearchStrings_c1.T : List (Lb sg (RT sg.U [.bool] × HL sg.U (PM.outs [(.d (.int .i64)), (.ref [.d (.sl .str)]), (.ref [.d .str])]))) := []
theorem sort_SearchStrings_c1.ok : (sort_SearchStrings_c1.e).Sound Tryz.prog ctx 297 :=
  entryR_ok base_ok mo (fn := Tryz.f297) (b := (Tryz.f297.body.getD .skip)) (pm := [(.d (.int .i64)), (.ref [.d (.sl .str)]), (.ref [.d .str])]) (rs := [.bool]) (an := sort_SearchStrings_c1.a) (N := 11) (vars := [(.tmp 4)]) Tryz.func297 (by kernel_rfl) (by kernel_rfl) (by kernel_rfl) (by kernel_rfl) (by kernel_rfl) (by kernel_rfl) (by kernel_rfl) (by kernel_rfl) (O := fun _ => sort_SearchStrings_c1.O)
    (fun _ => by unfold sort_SearchStrings_c1.O; exact oracle_of (P := Tryz.prog) (C := ctx) trivial) sort_SearchStrings_c1.T trivial 0 (fun h => sort_SearchStrings_c1.f_eq h.1 h.2.1 h.2.2.1)
def sort_Search_at_sort_SearchStrings_c1.l0 : Nat → Int → Int → (List ByteArray) → ByteArray → Option (Int × (List ByteArray) × ByteArray × Unit)
  | 0, _, _, _, _ => none
  | k + 1, x5, x6, x26_0, x27_0 => (bif (ilt x5 x6) then (bif ilt 1 0 then none else ((sort_SearchStrings_c1.f (wcv .i64 (ishr .u64 (wcv .u64 (wadd .i64 x5 x6)) 1)) x26_0 x27_0).bind fun y1 => (bif (!y1.1) then (sort_Search_at_sort_SearchStrings_c1.l0 k (wadd .i64 (wcv .i64 (ishr .u64 (wcv .u64 (wadd .i64 x5 x6)) 1)) 1) x6 y1.2.1 y1.2.2.1) else (sort_Search_at_sort_SearchStrings_c1.l0 k x5 (wcv .i64 (ishr .u64 (wcv .u64 (wadd .i64 x5 x6)) 1)) y1.2.1 y1.2.2.1)))) else (some (x5, (x26_0, x27_0, ()))))
def sort_Search_at_sort_SearchStrings_c1.f (k : Nat) (a0 : Int) (a26_0 : (List ByteArray)) (a27_0 : ByteArray) : Option (Int × (List ByteArray) × ByteArray × Unit) := (sort_Search_at_sort_SearchStrings_c1.l0 k 0 a0 a26_0 a27_0)
def sort_Search_at_sort_SearchStrings_c1.O (k : Nat) : Oracle sg := fun n => lkp n [(297, sort_SearchStrings_c1.e)]
def sort_Search_at_sort_SearchStrings_c1.a : Ann := (.n .z (.n .z (.n (.lp 0 .z) .z)))
def sort_Search_at_sort_SearchStrings_c1.L (k : Nat) : Nat → St sg.U → Option (RT sg.U [(.int .i64)] × HL sg.U (PM.outs [(.d (.int .i64)), (.clo 297 [26, 27]), (.gh 26 [.d (.sl .str)]), (.gh 27 [.d .str])])) := labs [(0, labOf sg [(1, (.clo 297 [26, 27])), (5, (.d (.int .i64))), (6, (.d (.int .i64))), (26, (.gh [.d (.sl .str)])), (27, (.gh [.d .str]))] (fun h => sort_Search_at_sort_SearchStrings_c1.l0 k h.1 h.2.1 h.2.2.1 h.2.2.2.1))]
theorem sort_Search_at_sort_SearchStrings_c1.l0_eq (k : Nat) (x5 : Int) (x6 : Int) (x26_0 : (List ByteArray)) (x27_0 : ByteArray) : sort_Search_at_sort_SearchStrings_c1.l0 (k + 1) x5 x6 x26_0 x27_0 = runFrom (C := ctx) (sort_Search_at_sort_SearchStrings_c1.O k) ⟨26, [], [26, 27]⟩ (sort_Search_at_sort_SearchStrings_c1.L k) (Tryz.f296.body.getD .skip) sort_Search_at_sort_SearchStrings_c1.a 0 (endR ctx [(.int .i64)] [(.tmp 4)] [(.d (.int .i64)), (.clo 297 [26, 27]), (.gh 26 [.d (.sl .str)]), (.gh 27 [.d .str])]) (encD [(1, (.clo 297 [26, 27])), (5, (.d (.int .i64))), (6, (.d (.int .i64))), (26, (.gh [.d (.sl .str)])), (27, (.gh [.d .str]))] (x5, x6, x26_0, x27_0, ()) (startD sg.U ⟨26, [], [26, 27]⟩ [(1, (.clo 297 [26, 27])), (5, (.d (.int .i64))), (6, (.d (.int .i64))), (26, (.gh [.d (.sl .str)])), (27, (.gh [.d .str]))])) := by
  rw [sort_Search_at_sort_SearchStrings_c1.l0]
  kernel_rfl
theorem sort_Search_at_sort_SearchStrings_c1.f_eq (k : Nat) (a0 : Int) (a26_0 : (List ByteArray)) (a27_0 : ByteArray) : sort_Search_at_sort_SearchStrings_c1.f k a0 a26_0 a27_0 = codeK (C := ctx) (sort_Search_at_sort_SearchStrings_c1.O k) ⟨26, [], [26, 27]⟩ (sort_Search_at_sort_SearchStrings_c1.L k) (Tryz.f296.body.getD .skip) sort_Search_at_sort_SearchStrings_c1.a (endR ctx [(.int .i64)] [(.tmp 4)] [(.d (.int .i64)), (.clo 297 [26, 27]), (.gh 26 [.d (.sl .str)]), (.gh 27 [.d .str])]) (slotsOf sg.U 0 [(.d (.int .i64)), (.clo 297 [26, 27]), (.gh 26 [.d (.sl .str)]), (.gh 27 [.d .str])] (a0, a26_0, a27_0, ()) (emptyG sg.U (PM.gs [(.d (.int .i64)), (.clo 297 [26, 27]), (.gh 26 [.d (.sl .str)]), (.gh 27 [.d .str])]))) := by
  unfold sort_Search_at_sort_SearchStrings_c1.f
  kernel_rfl
def sort_Search_at_sort_SearchStrings_c1.e (k : Nat) : Entry sg := entryR sg [(.d (.int .i64)), (.clo 297 [26, 27]), (.gh 26 [.d (.sl .str)]), (.gh 27 [.d .str])] [(.int .i64)] (fun h => sort_Search_at_sort_SearchStrings_c1.f k h.1 h.2.1 h.2.2.1)
def sort_Search_at_sort_SearchStrings_c1.T : List (Lb sg (RT sg.U [(.int .i64)] × HL sg.U (PM.outs [(.d (.int .i64)), (.clo 297 [26, 27]), (.gh 26 [.d (.sl .str)]), (.gh 27 [.d .str])]))) := [⟨0, [(1, (.clo 297 [26, 27])), (5, (.d (.int .i64))), (6, (.d (.int .i64))), (26, (.gh [.d (.sl .str)])), (27, (.gh [.d .str]))], fun k h => sort_Search_at_sort_SearchStrings_c1.l0 k h.1 h.2.1 h.2.2.1 h.2.2.2.1⟩]
theorem sort_Search_at_sort_SearchStrings_c1.ok (k : Nat) : (sort_Search_at_sort_SearchStrings_c1.e k).Sound Tryz.prog ctx 296 :=
  entryR_ok base_ok mo (fn := Tryz.f296) (b := (Tryz.f296.body.getD .skip)) (pm := [(.d (.int .i64)), (.clo 297 [26, 27]), (.gh 26 [.d (.sl .str)]), (.gh 27 [.d .str])]) (rs := [(.int .i64)]) (an := sort_Search_at_sort_SearchStrings_c1.a) (N := 26) (vars := [(.tmp 4)]) Tryz.func296 (by kernel_rfl) (by kernel_rfl) (by kernel_rfl) (by kernel_rfl) (by kernel_rfl) (by kernel_rfl) (by kernel_rfl) (by kernel_rfl) (O := sort_Search_at_sort_SearchStrings_c1.O)
    (fun k => by unfold sort_Search_at_sort_SearchStrings_c1.O; exact oracle_of (P := Tryz.prog) (C := ctx) ⟨(sort_SearchStrings_c1.ok), trivial⟩) sort_Search_at_sort_SearchStrings_c1.T ⟨⟨by kernel_rfl, fun _ => by first | rfl | rw [sort_Search_at_sort_SearchStrings_c1.l0], fun k h => sort_Search_at_sort_SearchStrings_c1.l0_eq k h.1 h.2.1 h.2.2.1 h.2.2.2.1⟩, trivial⟩ k (fun h => sort_Search_at_sort_SearchStrings_c1.f_eq k h.1 h.2.1 h.2.2.1)
def sort_SearchStrings.f (k : Nat) (a0 : (List ByteArray)) (a1 : ByteArray) : Option (Int) := ((sort_Search_at_sort_SearchStrings_c1.f k (llen a0) a0 a1).bind fun y1 => (some y1.1))
def sort_SearchStrings.O (k : Nat) : Oracle sg := fun n => lkp n [(296, sort_Search_at_sort_SearchStrings_c1.e k)]
def sort_SearchStrings.a : Ann := .z
def sort_SearchStrings.L (k : Nat) : Nat → St sg.U → Option (RT sg.U [(.int .i64)]) := labs []
theorem sort_SearchStrings.f_eq (k : Nat) (a0 : (List ByteArray)) (a1 : ByteArray) : sort_SearchStrings.f k a0 a1 = codeK (C := ctx) (sort_SearchStrings.O k) ⟨9, [], []⟩ (sort_SearchStrings.L k) (Tryz.f280.body.getD .skip) sort_SearchStrings.a (endK ctx [(.int .i64)] [(.tmp 4)]) (slotsOf sg.U 0 [(.d (.sl .str)), (.d .str)] (a0, a1, ()) (empty sg.U)) := by
  unfold sort_SearchStrings.f
  kernel_rfl
def sort_SearchStrings.e (k : Nat) : Entry sg := entryOf sg [(.d (.sl .str)), (.d .str)] [(.int .i64)] (fun h => sort_SearchStrings.f k h.1 h.2.1)
def sort_SearchStrings.T : List (Lb sg (RT sg.U [(.int .i64)])) := []
theorem sort_SearchStrings.ok (k : Nat) : (sort_SearchStrings.e k).Sound Tryz.prog ctx 280 :=
  entry_ok base_ok mo (fn := Tryz.f280) (b := (Tryz.f280.body.getD .skip)) (pm := [(.d (.sl .str)), (.d .str)]) (rs := [(.int .i64)]) (an := sort_SearchStrings.a) (N := 9) (vars := [(.tmp 4)]) Tryz.func280 (by kernel_rfl) (by kernel_rfl) (by kernel_rfl) (by kernel_rfl) (by kernel_rfl) (by kernel_rfl) (O := sort_SearchStrings.O)
    (fun k => by unfold sort_SearchStrings.O; exact oracle_of (P := Tryz.prog) (C := ctx) ⟨(sort_Search_at_sort_SearchStrings_c1.ok k), trivial⟩) sort_SearchStrings.T trivial k (fun h => sort_SearchStrings.f_eq k h.1 h.2.1)
def conf_find.f (k : Nat) (a0 : T_api_Value) (a1 : ByteArray) : Option (Int × Bool) := ((sort_SearchStrings.f k a0.fKeys a1).bind fun y1 => (bif (ilt y1 (llen a0.fKeys)) then ((lat a0.fKeys y1).bind fun y2 => (some (y1, (seq y2 a1)))) else (some (y1, false))))
def conf_find.O (k : Nat) : Oracle sg := fun n => lkp n [(280, sort_SearchStrings.e k)]
def conf_find.a : Ann := .z
def conf_find.L (k : Nat) : Nat → St sg.U → Option (RT sg.U [(.int .i64), .bool]) := labs []
theorem conf_find.f_eq (k : Nat) (a0 : T_api_Value) (a1 : ByteArray) : conf_find.f k a0 a1 = codeK (C := ctx) (conf_find.O k) ⟨26, [], []⟩ (conf_find.L k) (Tryz.f244.body.getD .skip) conf_find.a (endK ctx [(.int .i64), .bool] [(.tmp 4), (.tmp 5)]) (slotsOf sg.U 0 [(.d (.st 2)), (.d .str)] (a0, a1, ()) (empty sg.U)) := by
  unfold conf_find.f
  kernel_rfl
def conf_find.e (k : Nat) : Entry sg := entryOf sg [(.d (.st 2)), (.d .str)] [(.int .i64), .bool] (fun h => conf_find.f k h.1 h.2.1)
def conf_find.T : List (Lb sg (RT sg.U [(.int .i64), .bool])) := []
theorem conf_find.ok (k : Nat) : (conf_find.e k).Sound Tryz.prog ctx 244 :=
  entry_ok base_ok mo (fn := Tryz.f244) (b := (Tryz.f244.body.getD .skip)) (pm := [(.d (.st 2)), (.d .str)]) (rs := [(.int .i64), .bool]) (an := conf_find.a) (N := 26) (vars := [(.tmp 4), (.tmp 5)]) Tryz.func244 (by kernel_rfl) (by kernel_rfl) (by kernel_rfl) (by kernel_rfl) (by kernel_rfl) (by kernel_rfl) (O := conf_find.O)
    (fun k => by unfold conf_find.O; exact oracle_of (P := Tryz.prog) (C := ctx) ⟨(sort_SearchStrings.ok k), trivial⟩) conf_find.T trivial k (fun h => conf_find.f_eq k h.1 h.2.1)
def conf_follow.f (k : Nat) (a0 : T_api_Value) (a1 : T_conf_step) : Option (T_api_Value × Bool) := (bif (!seq a1.fkey c_empty) then (bif (!ieq a0.fKind 6) then (some ((T_api_Value.mk 0 false 0 c_empty [] []), false)) else ((conf_find.f k (T_api_Value.mk a0.fKind a0.fBool a0.fInt a0.fText a0.fItems a0.fKeys) a1.fkey).bind fun y1 => (bif (!y1.2) then (some ((T_api_Value.mk 0 false 0 c_empty [] []), false)) else ((lat a0.fItems y1.1).bind fun y2 => (some ((T_api_Value.mk y2.fKind y2.fBool y2.fInt y2.fText y2.fItems y2.fKeys), true)))))) else (bif (bif (!ieq a0.fKind 5) then true else (ile (llen a0.fItems) a1.fnumber)) then (some ((T_api_Value.mk 0 false 0 c_empty [] []), false)) else ((lat a0.fItems a1.fnumber).bind fun y3 => (some ((T_api_Value.mk y3.fKind y3.fBool y3.fInt y3.fText y3.fItems y3.fKeys), true)))))
def conf_follow.O (k : Nat) : Oracle sg := fun n => lkp n [(244, conf_find.e k)]
def conf_follow.a : Ann := .z
def conf_follow.L (k : Nat) : Nat → St sg.U → Option (RT sg.U [(.st 2), .bool]) := labs []
theorem conf_follow.f_eq (k : Nat) (a0 : T_api_Value) (a1 : T_conf_step) : conf_follow.f k a0 a1 = codeK (C := ctx) (conf_follow.O k) ⟨48, [], []⟩ (conf_follow.L k) (Tryz.f178.body.getD .skip) conf_follow.a (endK ctx [(.st 2), .bool] [(.cell 4 34), (.tmp 5)]) (slotsOf sg.U 0 [(.d (.st 2)), (.d (.st 5))] (a0, a1, ()) (empty sg.U)) := by
  unfold conf_follow.f
  kernel_rfl
def conf_follow.e (k : Nat) : Entry sg := entryOf sg [(.d (.st 2)), (.d (.st 5))] [(.st 2), .bool] (fun h => conf_follow.f k h.1 h.2.1)
def conf_follow.T : List (Lb sg (RT sg.U [(.st 2), .bool])) := []
theorem conf_follow.ok (k : Nat) : (conf_follow.e k).Sound Tryz.prog ctx 178 :=
  entry_ok base_ok mo (fn := Tryz.f178) (b := (Tryz.f178.body.getD .skip)) (pm := [(.d (.st 2)), (.d (.st 5))]) (rs := [(.st 2), .bool]) (an := conf_follow.a) (N := 48) (vars := [(.cell 4 34), (.tmp 5)]) Tryz.func178 (by kernel_rfl) (by kernel_rfl) (by kernel_rfl) (by kernel_rfl) (by kernel_rfl) (by kernel_rfl) (O := conf_follow.O)
    (fun k => by unfold conf_follow.O; exact oracle_of (P := Tryz.prog) (C := ctx) ⟨(conf_find.ok k), trivial⟩) conf_follow.T trivial k (fun h => conf_follow.f_eq k h.1 h.2.1)
def conf_part.f (a0 : T_api_Value) (a1 : Int) : Option (ByteArray) := (bif (ieq a0.fKind 6) then ((lat a0.fKeys a1).bind fun y1 => (some y1)) else ((strconv_Itoa.f a1).bind fun y2 => (some y2)))
def conf_part.O : Oracle sg := fun n => lkp n [(209, strconv_Itoa.e)]
def conf_part.a : Ann := .z
def conf_part.L : Nat → St sg.U → Option (RT sg.U [.str]) := labs []
theorem conf_part.f_eq (a0 : T_api_Value) (a1 : Int) : conf_part.f a0 a1 = codeK (C := ctx) (conf_part.O) ⟨15, [], []⟩ (conf_part.L) (Tryz.f134.body.getD .skip) conf_part.a (endK ctx [.str] [(.tmp 4)]) (slotsOf sg.U 0 [(.d (.st 2)), (.d (.int .i64))] (a0, a1, ()) (empty sg.U)) := by
  unfold conf_part.f
  kernel_rfl
def conf_part.e : Entry sg := entryOf sg [(.d (.st 2)), (.d (.int .i64))] [.str] (fun h => conf_part.f h.1 h.2.1)
def conf_part.T : List (Lb sg (RT sg.U [.str])) := []
theorem conf_part.ok : (conf_part.e).Sound Tryz.prog ctx 134 :=
  entry_ok base_ok mo (fn := Tryz.f134) (b := (Tryz.f134.body.getD .skip)) (pm := [(.d (.st 2)), (.d (.int .i64))]) (rs := [.str]) (an := conf_part.a) (N := 15) (vars := [(.tmp 4)]) Tryz.func134 (by kernel_rfl) (by kernel_rfl) (by kernel_rfl) (by kernel_rfl) (by kernel_rfl) (by kernel_rfl) (O := fun _ => conf_part.O)
    (fun _ => by unfold conf_part.O; exact oracle_of (P := Tryz.prog) (C := ctx) ⟨(strconv_Itoa.ok), trivial⟩) conf_part.T trivial 0 (fun h => conf_part.f_eq h.1 h.2.1)
mutual
def conf_judge_walk.l0 : Nat → (List T_conf_Fault) → (List T_conf_step) → ByteArray → ByteArray → Int → Bool → Bool → Int → Int → (List ByteArray) → Int → Bool → Int → ByteArray → (List T_api_Value) → (List ByteArray) → Int → Bool → Int → ByteArray → (List T_api_Value) → (List ByteArray) → (List T_api_Value) → Int → Int → Option (Unit × (List T_conf_Fault) × Unit)
  | 0, _, _, _, _, _, _, _, _, _, _, _, _, _, _, _, _, _, _, _, _, _, _, _, _, _ => none
  | k + 1, x0_0, x2, x4, x6_0, x6_1, x6_2, x6_3, x6_4, x6_5, x6_6, x6_7, x6_8, x6_9, x6_10, x6_11, x6_12, x8_0, x8_1, x8_2, x8_3, x8_4, x8_5, x28, x29, x30 => (bif (ilt x30 x29) then ((lat x28 x30).bind fun y11 => ((lsub x2 1 (llen x2)).bind fun y12 => ((conf_part.f (T_api_Value.mk x8_0 x8_1 x8_2 x8_3 x8_4 x8_5) x30).bind fun y13 => ((conf_joined.f x4 y13).bind fun y14 => ((conf_judge_walk.f k x0_0 (T_conf_Field.mk x6_0 x6_1 x6_2 x6_3 x6_4 x6_5 x6_6 (T_api_Value.mk x6_7 x6_8 x6_9 x6_10 x6_11 x6_12)) y12 (T_api_Value.mk y11.fKind y11.fBool y11.fInt y11.fText y11.fItems y11.fKeys) y14).bind fun y15 => (conf_judge_walk.l0 k y15.2.1 x2 x4 x6_0 x6_1 x6_2 x6_3 x6_4 x6_5 x6_6 x6_7 x6_8 x6_9 x6_10 x6_11 x6_12 x8_0 x8_1 x8_2 x8_3 x8_4 x8_5 x28 x29 (wadd .i64 x30 1))))))) else (some ((), (x0_0, ()))))
def conf_judge_walk.f : Nat → (List T_conf_Fault) → T_conf_Field → (List T_conf_step) → T_api_Value → ByteArray → Option (Unit × (List T_conf_Fault) × Unit)
  | 0, _, _, _, _, _ => none
  | k + 1, a0_0, a1, a2, a3, a4 => (bif (ieq (llen a2) 0) then ((conf_judge_value.f k a0_0 (T_conf_Field.mk a1.fRoute a1.fKind a1.fNeed a1.fBounded a1.fMin a1.fMax a1.fOneOf (T_api_Value.mk a1.fDefault.fKind a1.fDefault.fBool a1.fDefault.fInt a1.fDefault.fText a1.fDefault.fItems a1.fDefault.fKeys)) (T_api_Value.mk a3.fKind a3.fBool a3.fInt a3.fText a3.fItems a3.fKeys) a4).bind fun y1 => (some ((), (y1.2.1, ())))) else ((lat a2 0).bind fun y2 => (bif y2.fstar then (conf_judge_walk.l0 k a0_0 a2 a4 a1.fRoute a1.fKind a1.fNeed a1.fBounded a1.fMin a1.fMax a1.fOneOf a1.fDefault.fKind a1.fDefault.fBool a1.fDefault.fInt a1.fDefault.fText a1.fDefault.fItems a1.fDefault.fKeys a3.fKind a3.fBool a3.fInt a3.fText a3.fItems a3.fKeys a3.fItems (llen a3.fItems) 0) else ((lat a2 0).bind fun y3 => ((conf_stepName.f k y3).bind fun y4 => ((conf_joined.f a4 y4).bind fun y5 => ((lat a2 0).bind fun y6 => ((conf_follow.f k (T_api_Value.mk a3.fKind a3.fBool a3.fInt a3.fText a3.fItems a3.fKeys) y6).bind fun y7 => (bif y7.2 then ((lsub a2 1 (llen a2)).bind fun y8 => ((conf_judge_walk.f k a0_0 (T_conf_Field.mk a1.fRoute a1.fKind a1.fNeed a1.fBounded a1.fMin a1.fMax a1.fOneOf (T_api_Value.mk a1.fDefault.fKind a1.fDefault.fBool a1.fDefault.fInt a1.fDefault.fText a1.fDefault.fItems a1.fDefault.fKeys)) y8 (T_api_Value.mk y7.1.fKind y7.1.fBool y7.1.fInt y7.1.fText y7.1.fItems y7.1.fKeys) y5).bind fun y9 => (some ((), (y9.2.1, ()))))) else (bif a1.fNeed then ((conf_judge_add.f a0_0 y5 1).bind fun y10 => (some ((), (y10.2.1, ())))) else (some ((), (a0_0, ())))))))))))))
end
def conf_judge_walk.e (k : Nat) : Entry sg := entryR sg [(.ref [.row 126 (.st 3)]), (.d (.st 1)), (.d (.sl (.st 5))), (.d (.st 2)), (.d .str)] [] (fun h => conf_judge_walk.f k h.1 h.2.1 h.2.2.1 h.2.2.2.1 h.2.2.2.2.1)
def conf_judge_walk.O (k : Nat) : Oracle sg := fun n => lkp n [(85, conf_judge_walk.e k), (87, conf_judge_add.e), (133, conf_joined.e), (134, conf_part.e), (176, conf_judge_value.e k), (177, conf_stepName.e k), (178, conf_follow.e k)]
def conf_judge_walk.a : Ann := (.n .z (.n .z (.n (.n .z (.n (.n (.n .z (.lp 0 .z)) .z) .z)) .z)))
def conf_judge_walk.L (k : Nat) : Nat → St sg.U → Option (RT sg.U [] × HL sg.U (PM.outs [(.ref [.row 126 (.st 3)]), (.d (.st 1)), (.d (.sl (.st 5))), (.d (.st 2)), (.d .str)])) := labs [(0, labOf sg [(0, (.box [.row 126 (.st 3)])), (2, (.d (.sl (.st 5)))), (4, (.d .str)), (6, (.box [.d .str, .d (.int .i64), .d .bool, .d .bool, .d (.int .i64), .d (.int .i64), .d (.sl .str), .d (.int .i64), .d .bool, .d (.int .i64), .d .str, .d (.sl (.st 2)), .d (.sl .str)])), (8, (.box [.d (.int .i64), .d .bool, .d (.int .i64), .d .str, .d (.sl (.st 2)), .d (.sl .str)])), (28, (.d (.sl (.st 2)))), (29, (.d (.int .i64))), (30, (.d (.int .i64)))] (fun h => conf_judge_walk.l0 k h.1 h.2.1 h.2.2.1 h.2.2.2.1 h.2.2.2.2.1 h.2.2.2.2.2.1 h.2.2.2.2.2.2.1 h.2.2.2.2.2.2.2.1 h.2.2.2.2.2.2.2.2.1 h.2.2.2.2.2.2.2.2.2.1 h.2.2.2.2.2.2.2.2.2.2.1 h.2.2.2.2.2.2.2.2.2.2.2.1 h.2.2.2.2.2.2.2.2.2.2.2.2.1 h.2.2.2.2.2.2.2.2.2.2.2.2.2.1 h.2.2.2.2.2.2.2.2.2.2.2.2.2.2.1 h.2.2.2.2.2.2.2.2.2.2.2.2.2.2.2.1 h.2.2.2.2.2.2.2.2.2.2.2.2.2.2.2.2.1 h.2.2.2.2.2.2.2.2.2.2.2.2.2.2.2.2.2.1 h.2.2.2.2.2.2.2.2.2.2.2.2.2.2.2.2.2.2.1 h.2.2.2.2.2.2.2.2.2.2.2.2.2.2.2.2.2.2.2.1 h.2.2.2.2.2.2.2.2.2.2.2.2.2.2.2.2.2.2.2.2.1 h.2.2.2.2.2.2.2.2.2.2.2.2.2.2.2.2.2.2.2.2.2.1 h.2.2.2.2.2.2.2.2.2.2.2.2.2.2.2.2.2.2.2.2.2.2.1 h.2.2.2.2.2.2.2.2.2.2.2.2.2.2.2.2.2.2.2.2.2.2.2.1 h.2.2.2.2.2.2.2.2.2.2.2.2.2.2.2.2.2.2.2.2.2.2.2.2.1))]
theorem conf_judge_walk.l0_eq (k : Nat) (x0_0 : (List T_conf_Fault)) (x2 : (List T_conf_step)) (x4 : ByteArray) (x6_0 : ByteArray) (x6_1 : Int) (x6_2 : Bool) (x6_3 : Bool) (x6_4 : Int) (x6_5 : Int) (x6_6 : (List ByteArray)) (x6_7 : Int) (x6_8 : Bool) (x6_9 : Int) (x6_10 : ByteArray) (x6_11 : (List T_api_Value)) (x6_12 : (List ByteArray)) (x8_0 : Int) (x8_1 : Bool) (x8_2 : Int) (x8_3 : ByteArray) (x8_4 : (List T_api_Value)) (x8_5 : (List ByteArray)) (x28 : (List T_api_Value)) (x29 : Int) (x30 : Int) : conf_judge_walk.l0 (k + 1) x0_0 x2 x4 x6_0 x6_1 x6_2 x6_3 x6_4 x6_5 x6_6 x6_7 x6_8 x6_9 x6_10 x6_11 x6_12 x8_0 x8_1 x8_2 x8_3 x8_4 x8_5 x28 x29 x30 = runFrom (C := ctx) (conf_judge_walk.O k) ⟨76, [0], []⟩ (conf_judge_walk.L k) (Tryz.f85.body.getD .skip) conf_judge_walk.a 0 (endR ctx [] [] [(.ref [.row 126 (.st 3)]), (.d (.st 1)), (.d (.sl (.st 5))), (.d (.st 2)), (.d .str)]) (encD [(0, (.box [.row 126 (.st 3)])), (2, (.d (.sl (.st 5)))), (4, (.d .str)), (6, (.box [.d .str, .d (.int .i64), .d .bool, .d .bool, .d (.int .i64), .d (.int .i64), .d (.sl .str), .d (.int .i64), .d .bool, .d (.int .i64), .d .str, .d (.sl (.st 2)), .d (.sl .str)])), (8, (.box [.d (.int .i64), .d .bool, .d (.int .i64), .d .str, .d (.sl (.st 2)), .d (.sl .str)])), (28, (.d (.sl (.st 2)))), (29, (.d (.int .i64))), (30, (.d (.int .i64)))] (x0_0, x2, x4, x6_0, x6_1, x6_2, x6_3, x6_4, x6_5, x6_6, x6_7, x6_8, x6_9, x6_10, x6_11, x6_12, x8_0, x8_1, x8_2, x8_3, x8_4, x8_5, x28, x29, x30, ()) (startD sg.U ⟨76, [0], []⟩ [(0, (.box [.row 126 (.st 3)])), (2, (.d (.sl (.st 5)))), (4, (.d .str)), (6, (.box [.d .str, .d (.int .i64), .d .bool, .d .bool, .d (.int .i64), .d (.int .i64), .d (.sl .str), .d (.int .i64), .d .bool, .d (.int .i64), .d .str, .d (.sl (.st 2)), .d (.sl .str)])), (8, (.box [.d (.int .i64), .d .bool, .d (.int .i64), .d .str, .d (.sl (.st 2)), .d (.sl .str)])), (28, (.d (.sl (.st 2)))), (29, (.d (.int .i64))), (30, (.d (.int .i64)))])) := by
  rw [conf_judge_walk.l0]
  kernel_rfl
theorem conf_judge_walk.f_eq (k : Nat) (a0_0 : (List T_conf_Fault)) (a1 : T_conf_Field) (a2 : (List T_conf_step)) (a3 : T_api_Value) (a4 : ByteArray) : conf_judge_walk.f (k + 1) a0_0 a1 a2 a3 a4 = codeK (C := ctx) (conf_judge_walk.O k) ⟨76, [0], []⟩ (conf_judge_walk.L k) (Tryz.f85.body.getD .skip) conf_judge_walk.a (endR ctx [] [] [(.ref [.row 126 (.st 3)]), (.d (.st 1)), (.d (.sl (.st 5))), (.d (.st 2)), (.d .str)]) (slotsOf sg.U 0 [(.ref [.row 126 (.st 3)]), (.d (.st 1)), (.d (.sl (.st 5))), (.d (.st 2)), (.d .str)] (a0_0, a1, a2, a3, a4, ()) (emptyG sg.U (PM.gs [(.ref [.row 126 (.st 3)]), (.d (.st 1)), (.d (.sl (.st 5))), (.d (.st 2)), (.d .str)]))) := by
  rw [conf_judge_walk.f]
  kernel_rfl
def conf_judge_walk.T : List (Lb sg (RT sg.U [] × HL sg.U (PM.outs [(.ref [.row 126 (.st 3)]), (.d (.st 1)), (.d (.sl (.st 5))), (.d (.st 2)), (.d .str)]))) := [⟨0, [(0, (.box [.row 126 (.st 3)])), (2, (.d (.sl (.st 5)))), (4, (.d .str)), (6, (.box [.d .str, .d (.int .i64), .d .bool, .d .bool, .d (.int .i64), .d (.int .i64), .d (.sl .str), .d (.int .i64), .d .bool, .d (.int .i64), .d .str, .d (.sl (.st 2)), .d (.sl .str)])), (8, (.box [.d (.int .i64), .d .bool, .d (.int .i64), .d .str, .d (.sl (.st 2)), .d (.sl .str)])), (28, (.d (.sl (.st 2)))), (29, (.d (.int .i64))), (30, (.d (.int .i64)))], fun k h => conf_judge_walk.l0 k h.1 h.2.1 h.2.2.1 h.2.2.2.1 h.2.2.2.2.1 h.2.2.2.2.2.1 h.2.2.2.2.2.2.1 h.2.2.2.2.2.2.2.1 h.2.2.2.2.2.2.2.2.1 h.2.2.2.2.2.2.2.2.2.1 h.2.2.2.2.2.2.2.2.2.2.1 h.2.2.2.2.2.2.2.2.2.2.2.1 h.2.2.2.2.2.2.2.2.2.2.2.2.1 h.2.2.2.2.2.2.2.2.2.2.2.2.2.1 h.2.2.2.2.2.2.2.2.2.2.2.2.2.2.1 h.2.2.2.2.2.2.2.2.2.2.2.2.2.2.2.1 h.2.2.2.2.2.2.2.2.2.2.2.2.2.2.2.2.1 h.2.2.2.2.2.2.2.2.2.2.2.2.2.2.2.2.2.1 h.2.2.2.2.2.2.2.2.2.2.2.2.2.2.2.2.2.2.1 h.2.2.2.2.2.2.2.2.2.2.2.2.2.2.2.2.2.2.2.1 h.2.2.2.2.2.2.2.2.2.2.2.2.2.2.2.2.2.2.2.2.1 h.2.2.2.2.2.2.2.2.2.2.2.2.2.2.2.2.2.2.2.2.2.1 h.2.2.2.2.2.2.2.2.2.2.2.2.2.2.2.2.2.2.2.2.2.2.1 h.2.2.2.2.2.2.2.2.2.2.2.2.2.2.2.2.2.2.2.2.2.2.2.1 h.2.2.2.2.2.2.2.2.2.2.2.2.2.2.2.2.2.2.2.2.2.2.2.2.1⟩]
theorem conf_judge_walk.ok : ∀ k : Nat, (conf_judge_walk.e k).Sound Tryz.prog ctx 85 :=
  entryR_rec base_ok mo (fn := Tryz.f85) (b := (Tryz.f85.body.getD .skip)) (pm := [(.ref [.row 126 (.st 3)]), (.d (.st 1)), (.d (.sl (.st 5))), (.d (.st 2)), (.d .str)]) (rs := []) (an := conf_judge_walk.a) (N := 76) (vars := []) Tryz.func85 (by kernel_rfl) (by kernel_rfl) (by kernel_rfl) (by kernel_rfl) (by kernel_rfl) (by kernel_rfl) (by kernel_rfl) (by kernel_rfl) (O := conf_judge_walk.O) conf_judge_walk.T ⟨⟨by kernel_rfl, fun _ => by first | rfl | rw [conf_judge_walk.l0], fun k h => conf_judge_walk.l0_eq k h.1 h.2.1 h.2.2.1 h.2.2.2.1 h.2.2.2.2.1 h.2.2.2.2.2.1 h.2.2.2.2.2.2.1 h.2.2.2.2.2.2.2.1 h.2.2.2.2.2.2.2.2.1 h.2.2.2.2.2.2.2.2.2.1 h.2.2.2.2.2.2.2.2.2.2.1 h.2.2.2.2.2.2.2.2.2.2.2.1 h.2.2.2.2.2.2.2.2.2.2.2.2.1 h.2.2.2.2.2.2.2.2.2.2.2.2.2.1 h.2.2.2.2.2.2.2.2.2.2.2.2.2.2.1 h.2.2.2.2.2.2.2.2.2.2.2.2.2.2.2.1 h.2.2.2.2.2.2.2.2.2.2.2.2.2.2.2.2.1 h.2.2.2.2.2.2.2.2.2.2.2.2.2.2.2.2.2.1 h.2.2.2.2.2.2.2.2.2.2.2.2.2.2.2.2.2.2.1 h.2.2.2.2.2.2.2.2.2.2.2.2.2.2.2.2.2.2.2.1 h.2.2.2.2.2.2.2.2.2.2.2.2.2.2.2.2.2.2.2.2.1 h.2.2.2.2.2.2.2.2.2.2.2.2.2.2.2.2.2.2.2.2.2.1 h.2.2.2.2.2.2.2.2.2.2.2.2.2.2.2.2.2.2.2.2.2.2.1 h.2.2.2.2.2.2.2.2.2.2.2.2.2.2.2.2.2.2.2.2.2.2.2.1 h.2.2.2.2.2.2.2.2.2.2.2.2.2.2.2.2.2.2.2.2.2.2.2.2.1⟩, trivial⟩ (F := fun k h => conf_judge_walk.f k h.1 h.2.1 h.2.2.1 h.2.2.2.1 h.2.2.2.2.1) (fun _ => by first | rfl | rw [conf_judge_walk.f]) (fun k h => conf_judge_walk.f_eq k h.1 h.2.1 h.2.2.1 h.2.2.2.1 h.2.2.2.2.1)
    (fun k own => by unfold conf_judge_walk.O; exact oracle_of (P := Tryz.prog) (C := ctx) ⟨own, ⟨(conf_judge_add.ok), ⟨(conf_joined.ok), ⟨(conf_part.ok), ⟨(conf_judge_value.ok k), ⟨(conf_stepName.ok k), ⟨(conf_follow.ok k), trivial⟩⟩⟩⟩⟩⟩⟩)
mutual
def conf_routes.l0 : Nat → (List ByteArray) → ByteArray → Int → Bool → Int → ByteArray → (List T_api_Value) → (List ByteArray) → (List T_api_Value) → Int → Int → Option ((List ByteArray) × Unit)
  | 0, _, _, _, _, _, _, _, _, _, _, _ => none
  | k + 1, x0, x2, x4_0, x4_1, x4_2, x4_3, x4_4, x4_5, x18, x19, x20 => (bif (ilt x20 x19) then ((lat x18 x20).bind fun y2 => ((conf_part.f (T_api_Value.mk x4_0 x4_1 x4_2 x4_3 x4_4 x4_5) x20).bind fun y3 => ((conf_joined.f x2 y3).bind fun y4 => ((conf_routes.f k x0 (T_api_Value.mk y2.fKind y2.fBool y2.fInt y2.fText y2.fItems y2.fKeys) y4).bind fun y5 => (conf_routes.l0 k y5.1 x2 x4_0 x4_1 x4_2 x4_3 x4_4 x4_5 x18 x19 (wadd .i64 x20 1)))))) else (some (x0, (()))))
def conf_routes.f : Nat → (List ByteArray) → T_api_Value → ByteArray → Option ((List ByteArray) × Unit)
  | 0, _, _, _ => none
  | k + 1, a0, a1, a2 => (bif (ieq (llen a1.fItems) 0) then ((lapp 16 a0 [a2]).bind fun y1 => (some (y1, (())))) else (conf_routes.l0 k a0 a2 a1.fKind a1.fBool a1.fInt a1.fText a1.fItems a1.fKeys a1.fItems (llen a1.fItems) 0))
end
def conf_routes.e (k : Nat) : Entry sg := entryW sg 9 .str [(.rw 9 .str), (.d (.st 2)), (.d .str)] [] (fun h => conf_routes.f k h.1 h.2.1 h.2.2.1)
def conf_routes.O (k : Nat) : Oracle sg := fun n => lkp n [(56, conf_routes.e k), (133, conf_joined.e), (134, conf_part.e)]
def conf_routes.a : Ann := (.n .z (.n .z (.n (.n .z (.lp 0 .z)) .z)))
def conf_routes.L (k : Nat) : Nat → St sg.U → Option (RT sg.U [(.sl .str)] × HL sg.U (PM.outs [(.rw 9 .str), (.d (.st 2)), (.d .str)])) := labs [(0, labOf sg [(0, (.row 9 .str)), (2, (.d .str)), (4, (.box [.d (.int .i64), .d .bool, .d (.int .i64), .d .str, .d (.sl (.st 2)), .d (.sl .str)])), (18, (.d (.sl (.st 2)))), (19, (.d (.int .i64))), (20, (.d (.int .i64)))] (fun h => conf_routes.l0 k h.1 h.2.1 h.2.2.1 h.2.2.2.1 h.2.2.2.2.1 h.2.2.2.2.2.1 h.2.2.2.2.2.2.1 h.2.2.2.2.2.2.2.1 h.2.2.2.2.2.2.2.2.1 h.2.2.2.2.2.2.2.2.2.1 h.2.2.2.2.2.2.2.2.2.2.1))]
theorem conf_routes.l0_eq (k : Nat) (x0 : (List ByteArray)) (x2 : ByteArray) (x4_0 : Int) (x4_1 : Bool) (x4_2 : Int) (x4_3 : ByteArray) (x4_4 : (List T_api_Value)) (x4_5 : (List ByteArray)) (x18 : (List T_api_Value)) (x19 : Int) (x20 : Int) : conf_routes.l0 (k + 1) x0 x2 x4_0 x4_1 x4_2 x4_3 x4_4 x4_5 x18 x19 x20 = runFrom (C := ctx) (conf_routes.O k) ⟨35, [], []⟩ (conf_routes.L k) (Tryz.f56.body.getD .skip) conf_routes.a 0 (endW ctx 9 .str [] [(.tmp 6)] [(.rw 9 .str), (.d (.st 2)), (.d .str)]) (encD [(0, (.row 9 .str)), (2, (.d .str)), (4, (.box [.d (.int .i64), .d .bool, .d (.int .i64), .d .str, .d (.sl (.st 2)), .d (.sl .str)])), (18, (.d (.sl (.st 2)))), (19, (.d (.int .i64))), (20, (.d (.int .i64)))] (x0, x2, x4_0, x4_1, x4_2, x4_3, x4_4, x4_5, x18, x19, x20, ()) (startD sg.U ⟨35, [], []⟩ [(0, (.row 9 .str)), (2, (.d .str)), (4, (.box [.d (.int .i64), .d .bool, .d (.int .i64), .d .str, .d (.sl (.st 2)), .d (.sl .str)])), (18, (.d (.sl (.st 2)))), (19, (.d (.int .i64))), (20, (.d (.int .i64)))])) := by
  rw [conf_routes.l0]
  kernel_rfl
theorem conf_routes.f_eq (k : Nat) (a0 : (List ByteArray)) (a1 : T_api_Value) (a2 : ByteArray) : conf_routes.f (k + 1) a0 a1 a2 = codeK (C := ctx) (conf_routes.O k) ⟨35, [], []⟩ (conf_routes.L k) (Tryz.f56.body.getD .skip) conf_routes.a (endW ctx 9 .str [] [(.tmp 6)] [(.rw 9 .str), (.d (.st 2)), (.d .str)]) (slotsOf sg.U 0 [(.rw 9 .str), (.d (.st 2)), (.d .str)] (a0, a1, a2, ()) (emptyG sg.U (PM.gs [(.rw 9 .str), (.d (.st 2)), (.d .str)]))) := by
  rw [conf_routes.f]
  kernel_rfl
def conf_routes.T : List (Lb sg (RT sg.U [(.sl .str)] × HL sg.U (PM.outs [(.rw 9 .str), (.d (.st 2)), (.d .str)]))) := [⟨0, [(0, (.row 9 .str)), (2, (.d .str)), (4, (.box [.d (.int .i64), .d .bool, .d (.int .i64), .d .str, .d (.sl (.st 2)), .d (.sl .str)])), (18, (.d (.sl (.st 2)))), (19, (.d (.int .i64))), (20, (.d (.int .i64)))], fun k h => conf_routes.l0 k h.1 h.2.1 h.2.2.1 h.2.2.2.1 h.2.2.2.2.1 h.2.2.2.2.2.1 h.2.2.2.2.2.2.1 h.2.2.2.2.2.2.2.1 h.2.2.2.2.2.2.2.2.1 h.2.2.2.2.2.2.2.2.2.1 h.2.2.2.2.2.2.2.2.2.2.1⟩]
theorem conf_routes.ok : ∀ k : Nat, (conf_routes.e k).Sound Tryz.prog ctx 56 :=
  entryW_rec base_ok mo (fn := Tryz.f56) (b := (Tryz.f56.body.getD .skip)) (pm := [(.rw 9 .str), (.d (.st 2)), (.d .str)]) (rs := []) (E := 9) (t := .str) (an := conf_routes.a) (N := 35) (vars := [(.tmp 6)]) Tryz.func56 (by kernel_rfl) (by kernel_rfl) (by kernel_rfl) (by kernel_rfl) (by kernel_rfl) (by kernel_rfl) (by kernel_rfl) (by kernel_rfl) (O := conf_routes.O) conf_routes.T ⟨⟨by kernel_rfl, fun _ => by first | rfl | rw [conf_routes.l0], fun k h => conf_routes.l0_eq k h.1 h.2.1 h.2.2.1 h.2.2.2.1 h.2.2.2.2.1 h.2.2.2.2.2.1 h.2.2.2.2.2.2.1 h.2.2.2.2.2.2.2.1 h.2.2.2.2.2.2.2.2.1 h.2.2.2.2.2.2.2.2.2.1 h.2.2.2.2.2.2.2.2.2.2.1⟩, trivial⟩ (F := fun k h => conf_routes.f k h.1 h.2.1 h.2.2.1) (fun _ => by first | rfl | rw [conf_routes.f]) (fun k h => conf_routes.f_eq k h.1 h.2.1 h.2.2.1)
    (fun k own => by unfold conf_routes.O; exact oracle_of (P := Tryz.prog) (C := ctx) ⟨own, ⟨(conf_joined.ok), ⟨(conf_part.ok), trivial⟩⟩⟩)
def conf_routes_nil.l0 : Nat → (List ByteArray) → ByteArray → Int → Bool → Int → ByteArray → (List T_api_Value) → (List ByteArray) → (List T_api_Value) → Int → Int → Option ((List ByteArray))
  | 0, _, _, _, _, _, _, _, _, _, _, _ => none
  | k + 1, x0, x2, x4_0, x4_1, x4_2, x4_3, x4_4, x4_5, x18, x19, x20 => (bif (ilt x20 x19) then ((lat x18 x20).bind fun y2 => ((conf_part.f (T_api_Value.mk x4_0 x4_1 x4_2 x4_3 x4_4 x4_5) x20).bind fun y3 => ((conf_joined.f x2 y3).bind fun y4 => ((conf_routes.f k x0 (T_api_Value.mk y2.fKind y2.fBool y2.fInt y2.fText y2.fItems y2.fKeys) y4).bind fun y5 => (conf_routes_nil.l0 k y5.1 x2 x4_0 x4_1 x4_2 x4_3 x4_4 x4_5 x18 x19 (wadd .i64 x20 1)))))) else (some x0))
def conf_routes_nil.f (k : Nat) (a1 : T_api_Value) (a2 : ByteArray) : Option ((List ByteArray)) := (bif (ieq (llen a1.fItems) 0) then ((lapp 16 [] [a2]).bind fun y1 => (some y1)) else (conf_routes_nil.l0 k [] a2 a1.fKind a1.fBool a1.fInt a1.fText a1.fItems a1.fKeys a1.fItems (llen a1.fItems) 0))
def conf_routes_nil.O (k : Nat) : Oracle sg := fun n => lkp n [(56, conf_routes.e k), (133, conf_joined.e), (134, conf_part.e)]
def conf_routes_nil.a : Ann := (.n .z (.n .z (.n (.n .z (.lp 0 .z)) .z)))
def conf_routes_nil.L (k : Nat) : Nat → St sg.U → Option (RT sg.U [(.sl .str)]) := labs [(0, labOf sg [(0, (.row 9 .str)), (2, (.d .str)), (4, (.box [.d (.int .i64), .d .bool, .d (.int .i64), .d .str, .d (.sl (.st 2)), .d (.sl .str)])), (18, (.d (.sl (.st 2)))), (19, (.d (.int .i64))), (20, (.d (.int .i64)))] (fun h => conf_routes_nil.l0 k h.1 h.2.1 h.2.2.1 h.2.2.2.1 h.2.2.2.2.1 h.2.2.2.2.2.1 h.2.2.2.2.2.2.1 h.2.2.2.2.2.2.2.1 h.2.2.2.2.2.2.2.2.1 h.2.2.2.2.2.2.2.2.2.1 h.2.2.2.2.2.2.2.2.2.2.1))]
theorem conf_routes_nil.l0_eq (k : Nat) (x0 : (List ByteArray)) (x2 : ByteArray) (x4_0 : Int) (x4_1 : Bool) (x4_2 : Int) (x4_3 : ByteArray) (x4_4 : (List T_api_Value)) (x4_5 : (List ByteArray)) (x18 : (List T_api_Value)) (x19 : Int) (x20 : Int) : conf_routes_nil.l0 (k + 1) x0 x2 x4_0 x4_1 x4_2 x4_3 x4_4 x4_5 x18 x19 x20 = runFrom (C := ctx) (conf_routes_nil.O k) ⟨35, [], []⟩ (conf_routes_nil.L k) (Tryz.f56.body.getD .skip) conf_routes_nil.a 0 (endK ctx [(.sl .str)] [(.tmp 6)]) (encD [(0, (.row 9 .str)), (2, (.d .str)), (4, (.box [.d (.int .i64), .d .bool, .d (.int .i64), .d .str, .d (.sl (.st 2)), .d (.sl .str)])), (18, (.d (.sl (.st 2)))), (19, (.d (.int .i64))), (20, (.d (.int .i64)))] (x0, x2, x4_0, x4_1, x4_2, x4_3, x4_4, x4_5, x18, x19, x20, ()) (startD sg.U ⟨35, [], []⟩ [(0, (.row 9 .str)), (2, (.d .str)), (4, (.box [.d (.int .i64), .d .bool, .d (.int .i64), .d .str, .d (.sl (.st 2)), .d (.sl .str)])), (18, (.d (.sl (.st 2)))), (19, (.d (.int .i64))), (20, (.d (.int .i64)))])) := by
  rw [conf_routes_nil.l0]
  kernel_rfl
theorem conf_routes_nil.f_eq (k : Nat) (a1 : T_api_Value) (a2 : ByteArray) : conf_routes_nil.f k a1 a2 = codeK (C := ctx) (conf_routes_nil.O k) ⟨35, [], []⟩ (conf_routes_nil.L k) (Tryz.f56.body.getD .skip) conf_routes_nil.a (endK ctx [(.sl .str)] [(.tmp 6)]) (slotsOf sg.U 0 [.nl, (.d (.st 2)), (.d .str)] (a1, a2, ()) (empty sg.U)) := by
  unfold conf_routes_nil.f
  kernel_rfl
def conf_routes_nil.e (k : Nat) : Entry sg := entryOf sg [.nl, (.d (.st 2)), (.d .str)] [(.sl .str)] (fun h => conf_routes_nil.f k h.1 h.2.1)
def conf_routes_nil.T : List (Lb sg (RT sg.U [(.sl .str)])) := [⟨0, [(0, (.row 9 .str)), (2, (.d .str)), (4, (.box [.d (.int .i64), .d .bool, .d (.int .i64), .d .str, .d (.sl (.st 2)), .d (.sl .str)])), (18, (.d (.sl (.st 2)))), (19, (.d (.int .i64))), (20, (.d (.int .i64)))], fun k h => conf_routes_nil.l0 k h.1 h.2.1 h.2.2.1 h.2.2.2.1 h.2.2.2.2.1 h.2.2.2.2.2.1 h.2.2.2.2.2.2.1 h.2.2.2.2.2.2.2.1 h.2.2.2.2.2.2.2.2.1 h.2.2.2.2.2.2.2.2.2.1 h.2.2.2.2.2.2.2.2.2.2.1⟩]
theorem conf_routes_nil.ok (k : Nat) : (conf_routes_nil.e k).Sound Tryz.prog ctx 56 :=
  entry_ok base_ok mo (fn := Tryz.f56) (b := (Tryz.f56.body.getD .skip)) (pm := [.nl, (.d (.st 2)), (.d .str)]) (rs := [(.sl .str)]) (an := conf_routes_nil.a) (N := 35) (vars := [(.tmp 6)]) Tryz.func56 (by kernel_rfl) (by kernel_rfl) (by kernel_rfl) (by kernel_rfl) (by kernel_rfl) (by kernel_rfl) (O := conf_routes_nil.O)
    (fun k => by unfold conf_routes_nil.O; exact oracle_of (P := Tryz.prog) (C := ctx) ⟨(conf_routes.ok k), ⟨(conf_joined.ok), ⟨(conf_part.ok), trivial⟩⟩⟩) conf_routes_nil.T ⟨⟨by kernel_rfl, fun _ => by first | rfl | rw [conf_routes_nil.l0], fun k h => conf_routes_nil.l0_eq k h.1 h.2.1 h.2.2.1 h.2.2.2.1 h.2.2.2.2.1 h.2.2.2.2.2.1 h.2.2.2.2.2.2.1 h.2.2.2.2.2.2.2.1 h.2.2.2.2.2.2.2.2.1 h.2.2.2.2.2.2.2.2.2.1 h.2.2.2.2.2.2.2.2.2.2.1⟩, trivial⟩ k (fun h => conf_routes_nil.f_eq k h.1 h.2.1)
def conf_matches.l0 : Nat → (List ByteArray) → (List ByteArray) → Int → Int → Option (Bool)
  | 0, _, _, _, _ => none
  | k + 1, x1, x12, x13, x14 => (bif (ilt x14 x13) then ((lat x12 x14).bind fun y1 => (bif (!seq y1 c__2a) then ((lat x1 x14).bind fun y2 => (bif (!seq y1 y2) then (some false) else (conf_matches.l0 k x1 x12 x13 (wadd .i64 x14 1)))) else (conf_matches.l0 k x1 x12 x13 (wadd .i64 x14 1)))) else (some true))
def conf_matches.f (k : Nat) (a0 : (List ByteArray)) (a1 : (List ByteArray)) : Option (Bool) := (bif (ilt (llen a1) (llen a0)) then (some false) else (conf_matches.l0 k a1 a0 (llen a0) 0))
def conf_matches.O (k : Nat) : Oracle sg := fun n => lkp n []
def conf_matches.a : Ann := (.n .z (.n .z (.n (.n .z (.lp 0 .z)) .z)))
def conf_matches.L (k : Nat) : Nat → St sg.U → Option (RT sg.U [.bool]) := labs [(0, labOf sg [(1, (.d (.sl .str))), (12, (.d (.sl .str))), (13, (.d (.int .i64))), (14, (.d (.int .i64)))] (fun h => conf_matches.l0 k h.1 h.2.1 h.2.2.1 h.2.2.2.1))]
theorem conf_matches.l0_eq (k : Nat) (x1 : (List ByteArray)) (x12 : (List ByteArray)) (x13 : Int) (x14 : Int) : conf_matches.l0 (k + 1) x1 x12 x13 x14 = runFrom (C := ctx) (conf_matches.O k) ⟨30, [], []⟩ (conf_matches.L k) (Tryz.f86.body.getD .skip) conf_matches.a 0 (endK ctx [.bool] [(.tmp 4)]) (encD [(1, (.d (.sl .str))), (12, (.d (.sl .str))), (13, (.d (.int .i64))), (14, (.d (.int .i64)))] (x1, x12, x13, x14, ()) (startD sg.U ⟨30, [], []⟩ [(1, (.d (.sl .str))), (12, (.d (.sl .str))), (13, (.d (.int .i64))), (14, (.d (.int .i64)))])) := by
  rw [conf_matches.l0]
  kernel_rfl
theorem conf_matches.f_eq (k : Nat) (a0 : (List ByteArray)) (a1 : (List ByteArray)) : conf_matches.f k a0 a1 = codeK (C := ctx) (conf_matches.O k) ⟨30, [], []⟩ (conf_matches.L k) (Tryz.f86.body.getD .skip) conf_matches.a (endK ctx [.bool] [(.tmp 4)]) (slotsOf sg.U 0 [(.d (.sl .str)), (.d (.sl .str))] (a0, a1, ()) (empty sg.U)) := by
  unfold conf_matches.f
  kernel_rfl
def conf_matches.e (k : Nat) : Entry sg := entryOf sg [(.d (.sl .str)), (.d (.sl .str))] [.bool] (fun h => conf_matches.f k h.1 h.2.1)
def conf_matches.T : List (Lb sg (RT sg.U [.bool])) := [⟨0, [(1, (.d (.sl .str))), (12, (.d (.sl .str))), (13, (.d (.int .i64))), (14, (.d (.int .i64)))], fun k h => conf_matches.l0 k h.1 h.2.1 h.2.2.1 h.2.2.2.1⟩]
theorem conf_matches.ok (k : Nat) : (conf_matches.e k).Sound Tryz.prog ctx 86 :=
  entry_ok base_ok mo (fn := Tryz.f86) (b := (Tryz.f86.body.getD .skip)) (pm := [(.d (.sl .str)), (.d (.sl .str))]) (rs := [.bool]) (an := conf_matches.a) (N := 30) (vars := [(.tmp 4)]) Tryz.func86 (by kernel_rfl) (by kernel_rfl) (by kernel_rfl) (by kernel_rfl) (by kernel_rfl) (by kernel_rfl) (O := conf_matches.O)
    (fun k => by unfold conf_matches.O; exact oracle_of (P := Tryz.prog) (C := ctx) trivial) conf_matches.T ⟨⟨by kernel_rfl, fun _ => by first | rfl | rw [conf_matches.l0], fun k h => conf_matches.l0_eq k h.1 h.2.1 h.2.2.1 h.2.2.2.1⟩, trivial⟩ k (fun h => conf_matches.f_eq k h.1 h.2.1)
mutual
def conf_Faults.l0 : Nat → (List T_conf_Field) → Bool → Int → Bool → Int → ByteArray → (List T_api_Value) → (List ByteArray) → (List T_conf_Fault) → (List (List ByteArray)) → (List T_conf_Field) → Int → Int → Option ((List T_conf_Fault) × Int)
  | 0, _, _, _, _, _, _, _, _, _, _, _, _, _ => none
  | k + 1, x2_0, x2_1, x3_0, x3_1, x3_2, x3_3, x3_4, x3_5, x8_0, x9, x32, x33, x34 => (bif (ilt x34 x33) then ((lat x32 x34).bind fun y3 => ((conf_steps.f k y3.fRoute true).bind fun y4 => ((conf_judge_walk.f k x8_0 (T_conf_Field.mk y3.fRoute y3.fKind y3.fNeed y3.fBounded y3.fMin y3.fMax y3.fOneOf (T_api_Value.mk y3.fDefault.fKind y3.fDefault.fBool y3.fDefault.fInt y3.fDefault.fText y3.fDefault.fItems y3.fDefault.fKeys)) y4.1 (T_api_Value.mk x3_0 x3_1 x3_2 x3_3 x3_4 x3_5) c_empty).bind fun y5 => ((strings_Split.f y3.fRoute c__2e).bind fun y6 => ((lapp 24 x9 [y6]).bind fun y7 => (conf_Faults.l0 k x2_0 x2_1 x3_0 x3_1 x3_2 x3_3 x3_4 x3_5 y5.2.1 y7 x32 x33 (wadd .i64 x34 1))))))) else (bif (!x2_1) then (some (x8_0, 0)) else ((conf_routes_nil.f k (T_api_Value.mk x3_0 x3_1 x3_2 x3_3 x3_4 x3_5) c_empty).bind fun y8 => (conf_Faults.l1 k x8_0 x9 y8 (llen y8) 0))))
def conf_Faults.l1 : Nat → (List T_conf_Fault) → (List (List ByteArray)) → (List ByteArray) → Int → Int → Option ((List T_conf_Fault) × Int)
  | 0, _, _, _, _, _ => none
  | k + 1, x8_0, x9, x64, x65, x66 => (bif (ilt x66 x65) then ((lat x64 x66).bind fun y9 => (conf_Faults.l2 k x8_0 x9 y9 false x64 x65 x66 x9 (llen x9) 0)) else (some (x8_0, 0)))
def conf_Faults.l2 : Nat → (List T_conf_Fault) → (List (List ByteArray)) → ByteArray → Bool → (List ByteArray) → Int → Int → (List (List ByteArray)) → Int → Int → Option ((List T_conf_Fault) × Int)
  | 0, _, _, _, _, _, _, _, _, _, _ => none
  | k + 1, x8_0, x9, x15, x16, x64, x65, x66, x70, x71, x72 => (bif (ilt x72 x71) then ((lat x70 x72).bind fun y10 => (bif x16 then (conf_Faults.l2 k x8_0 x9 x15 true x64 x65 x66 x70 x71 (wadd .i64 x72 1)) else (bif (!seq x15 c_empty) then ((strings_Split.f x15 c__2e).bind fun y11 => ((conf_matches.f k y10 y11).bind fun y12 => (conf_Faults.l2 k x8_0 x9 x15 y12 x64 x65 x66 x70 x71 (wadd .i64 x72 1)))) else (conf_Faults.l2 k x8_0 x9 x15 false x64 x65 x66 x70 x71 (wadd .i64 x72 1))))) else (bif (!x16) then ((conf_judge_add.f x8_0 x15 6).bind fun y13 => (conf_Faults.l1 k y13.2.1 x9 x64 x65 (wadd .i64 x66 1))) else (conf_Faults.l1 k x8_0 x9 x64 x65 (wadd .i64 x66 1))))
end
end Go.Proofs.YthmedjljckbidaaGreatDoor.LSchemaFaults
