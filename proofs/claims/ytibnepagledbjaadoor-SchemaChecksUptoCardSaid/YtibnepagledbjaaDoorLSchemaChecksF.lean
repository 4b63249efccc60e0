/- The functions behind the law SchemaChecks, checked against the code; their summaries hold. Conditions: none. -/
import Derived.Test.YtibnepagledbjaaDoorLiftZ
import Derived.Test.YtibnepagledbjaaDoorProg
import Derived.Test.YtibnepagledbjaaDoorShelf
import Derived.Shelf.Strings.SlTrimAscii
namespace Go.Proofs.YtibnepagledbjaaDoor.LSchemaChecks
open Go Go.Proofs.YtibnepagledbjaaDoor.Lift
set_option maxRecDepth 100000
set_option linter.unusedVariables false
structure T_api_Value where
  fKind : Int
  fBool : Bool
  fInt : Int
  fText : ByteArray
  fItems : (List T_api_Value)
  fKeys : (List ByteArray)
  deriving Inhabited
structure T_conf_Field where
  fRoute : ByteArray
  fKind : Int
  fNeed : Bool
  fBounded : Bool
  fMin : Int
  fMax : Int
  fOneOf : (List ByteArray)
  fDefault : T_api_Value
  deriving Inhabited
structure T_conf_Schema where
  fFields : (List T_conf_Field)
  fStrict : Bool
  deriving Inhabited
structure T_conf_step where
  fkey : ByteArray
  fnumber : Int
  fstar : Bool
  deriving Inhabited
abbrev sgU : Nat → Type
  | 0 => T_conf_Schema
  | 1 => T_conf_Field
  | 2 => T_api_Value
  | 3 => T_conf_step
  | _ + 4 => Unit
abbrev sgF : Nat → List Ty
  | 0 => [(.sl (.st 1)), .bool]
  | 1 => [.str, (.int .i64), .bool, .bool, (.int .i64), (.int .i64), (.sl .str), (.st 2)]
  | 2 => [(.int .i64), .bool, (.int .i64), .str, (.sl (.st 2)), (.sl .str)]
  | 3 => [.str, (.int .i64), .bool]
  | _ + 4 => []
def sgO : (n : Nat) → sgU n → HL sgU (sgF n)
  | 0, x => (x.fFields, x.fStrict, ())
  | 1, x => (x.fRoute, x.fKind, x.fNeed, x.fBounded, x.fMin, x.fMax, x.fOneOf, x.fDefault, ())
  | 2, x => (x.fKind, x.fBool, x.fInt, x.fText, x.fItems, x.fKeys, ())
  | 3, x => (x.fkey, x.fnumber, x.fstar, ())
  | _ + 4, _ => ()
def sgB : (n : Nat) → HL sgU (sgF n) → sgU n
  | 0, h => ⟨h.1, h.2.1⟩
  | 1, h => ⟨h.1, h.2.1, h.2.2.1, h.2.2.2.1, h.2.2.2.2.1, h.2.2.2.2.2.1, h.2.2.2.2.2.2.1, h.2.2.2.2.2.2.2.1⟩
  | 2, h => ⟨h.1, h.2.1, h.2.2.1, h.2.2.2.1, h.2.2.2.2.1, h.2.2.2.2.2.1⟩
  | 3, h => ⟨h.1, h.2.1, h.2.2.1⟩
  | _ + 4, _ => ()
def sg : Sg := { U := sgU, fl := sgF, out := sgO, bld := sgB, gl := [2] }
def ctx : Ctx := { S := sg, ty := [(3, .d (.int .i64) 1 0), (4, .d .bool 1 0), (5, .d (.int .u8) 1 0), (9, .d .str 1 0), (22, .d (.int .i64) 1 0), (26, .d (.sl (.st 2)) 88 29), (27, .d (.sl .str) 16 9), (29, .d (.st 2) 1 0), (33, .d (.sl (.st 1)) 160 51), (35, .d (.st 0) 1 0), (49, .m 9 4), (51, .d (.st 1) 1 0), (70, .d (.sl (.st 3)) 32 94), (94, .d (.st 3) 1 0)], eqs := [] }
def c_empty : ByteArray := ⟨#[]⟩
def c__2e : ByteArray := ⟨#[46]⟩
def c__2a : ByteArray := ⟨#[42]⟩
def c__2d : ByteArray := ⟨#[45]⟩
def c_0 : ByteArray := ⟨#[48]⟩
def c_0123456789 : ByteArray := ⟨#[48, 49, 50, 51, 52, 53, 54, 55, 56, 57]⟩
def c_abcdefghijklmnopqrst_0e2e2cf4 : ByteArray := ⟨#[97, 98, 99, 100, 101, 102, 103, 104, 105, 106, 107, 108, 109, 110, 111, 112, 113, 114, 115, 116, 117, 118, 119, 120, 121, 122, 48, 49, 50, 51, 52, 53, 54, 55, 56, 57, 45, 95]⟩
theorem sg_ok : SgOk sg :=
  ⟨fun n h => by rcases n with _ | _ | _ | _ | n <;> rfl, fun n => by rcases n with _ | _ | _ | _ | n <;> rfl, fun n x => by rcases n with _ | _ | _ | _ | n <;> rfl, fun n => by rcases n with _ | _ | _ | _ | n <;> rfl⟩
theorem base_ok : Base Tryd.prog ctx := base_of sg_ok (by kernel_rfl) (eqOk_of (by kernel_rfl))
theorem open_ok : openB Tryd.prog ctx = true := by kernel_rfl
theorem mo : Tryd.prog.follows .mixedOrders = true := by kernel_rfl
def strings_Split.f (a0 : ByteArray) (a1 : ByteArray) : Option ((List ByteArray)) := splitF a0 a1
def strings_Split.e : Entry sg := entryOf sg [(.d .str), (.d .str)] [(.sl .str)] (fun h => strings_Split.f h.1 h.2.1)
theorem strings_Split.ok : (strings_Split.e).Sound Tryd.prog ctx 70 :=
  split_sound (C := ctx) sg_ok Tryd.func70 (by kernel_rfl) (by kernel_rfl) (kM := 2) (fun w hG => by obtain ⟨m, hm⟩ := hG 2 (by simp [ctx, sg]); exact ⟨m, cells_cell hm⟩) (fun s sep m w hs hm h1 => Tryd.strings_Split s sep m w hs hm h1)
def conf_isSmall.f (a0 : Int) : Option (Bool) := (some (bif (ile 97 a0) then (ile a0 122) else false))
def conf_isSmall.O : Oracle sg := fun n => lkp n []
def conf_isSmall.a : Ann := .z
def conf_isSmall.L : Nat → St sg.U → Option (RT sg.U [.bool]) := labs []
theorem conf_isSmall.f_eq (a0 : Int) : conf_isSmall.f a0 = codeK (C := ctx) (conf_isSmall.O) ⟨9, [], []⟩ (conf_isSmall.L) (Tryd.f95.body.getD .skip) conf_isSmall.a (endK ctx [.bool] [(.tmp 2)]) (slotsOf sg.U 0 [(.d (.int .u8))] (a0, ()) (empty sg.U)) := by
  unfold conf_isSmall.f
  kernel_rfl
def conf_isSmall.e : Entry sg := entryOf sg [(.d (.int .u8))] [.bool] (fun h => conf_isSmall.f h.1)
def conf_isSmall.T : List (Lb sg (RT sg.U [.bool])) := []
theorem conf_isSmall.ok : (conf_isSmall.e).Sound Tryd.prog ctx 95 :=
  entry_ok base_ok mo (fn := Tryd.f95) (b := (Tryd.f95.body.getD .skip)) (pm := [(.d (.int .u8))]) (rs := [.bool]) (an := conf_isSmall.a) (N := 9) (vars := [(.tmp 2)]) Tryd.func95 (by kernel_rfl) (by kernel_rfl) (by kernel_rfl) (by kernel_rfl) (by kernel_rfl) (by kernel_rfl) (O := fun _ => conf_isSmall.O)
    (fun _ => by unfold conf_isSmall.O; exact oracle_of (P := Tryd.prog) (C := ctx) trivial) conf_isSmall.T trivial 0 (fun h => conf_isSmall.f_eq h.1)
def conf_isDigit.f (a0 : Int) : Option (Bool) := (some (bif (ile 48 a0) then (ile a0 57) else false))
def conf_isDigit.O : Oracle sg := fun n => lkp n []
def conf_isDigit.a : Ann := .z
def conf_isDigit.L : Nat → St sg.U → Option (RT sg.U [.bool]) := labs []
theorem conf_isDigit.f_eq (a0 : Int) : conf_isDigit.f a0 = codeK (C := ctx) (conf_isDigit.O) ⟨9, [], []⟩ (conf_isDigit.L) (Tryd.f13.body.getD .skip) conf_isDigit.a (endK ctx [.bool] [(.tmp 2)]) (slotsOf sg.U 0 [(.d (.int .u8))] (a0, ()) (empty sg.U)) := by
  unfold conf_isDigit.f
  kernel_rfl
def conf_isDigit.e : Entry sg := entryOf sg [(.d (.int .u8))] [.bool] (fun h => conf_isDigit.f h.1)
def conf_isDigit.T : List (Lb sg (RT sg.U [.bool])) := []
theorem conf_isDigit.ok : (conf_isDigit.e).Sound Tryd.prog ctx 13 :=
  entry_ok base_ok mo (fn := Tryd.f13) (b := (Tryd.f13.body.getD .skip)) (pm := [(.d (.int .u8))]) (rs := [.bool]) (an := conf_isDigit.a) (N := 9) (vars := [(.tmp 2)]) Tryd.func13 (by kernel_rfl) (by kernel_rfl) (by kernel_rfl) (by kernel_rfl) (by kernel_rfl) (by kernel_rfl) (O := fun _ => conf_isDigit.O)
    (fun _ => by unfold conf_isDigit.O; exact oracle_of (P := Tryd.prog) (C := ctx) trivial) conf_isDigit.T trivial 0 (fun h => conf_isDigit.f_eq h.1)
def conf_isKey.l0 : Nat → ByteArray → Int → Option (Bool)
  | 0, _, _ => none
  | k + 1, x0, x3 => (bif (ilt x3 (slen x0)) then ((sat x0 x3).bind fun y3 => ((conf_isSmall.f y3).bind fun y4 => (bif (!y4) then ((sat x0 x3).bind fun y5 => ((conf_isDigit.f y5).bind fun y6 => (bif (!y6) then ((sat x0 x3).bind fun y7 => (bif (!ieq y7 45) then ((sat x0 x3).bind fun y8 => (bif (!ieq y8 95) then (some false) else (conf_isKey.l0 k x0 (wadd .i64 x3 1)))) else (conf_isKey.l0 k x0 (wadd .i64 x3 1)))) else (conf_isKey.l0 k x0 (wadd .i64 x3 1))))) else (conf_isKey.l0 k x0 (wadd .i64 x3 1))))) else (some true))
def conf_isKey.f (k : Nat) (a0 : ByteArray) : Option (Bool) := (bif (bif (seq a0 c_empty) then true else (ilt 40 (slen a0))) then (some false) else ((sat a0 0).bind fun y1 => ((conf_isSmall.f y1).bind fun y2 => (bif (!y2) then (some false) else (conf_isKey.l0 k a0 1)))))
def conf_isKey.O (k : Nat) : Oracle sg := fun n => lkp n [(13, conf_isDigit.e), (95, conf_isSmall.e)]
def conf_isKey.a : Ann := (.n .z (.n .z (.n (.n .z (.lp 0 .z)) .z)))
def conf_isKey.L (k : Nat) : Nat → St sg.U → Option (RT sg.U [.bool]) := labs [(0, labOf sg [(0, (.d .str)), (3, (.d (.int .i64)))] (fun h => conf_isKey.l0 k h.1 h.2.1))]
theorem conf_isKey.l0_eq (k : Nat) (x0 : ByteArray) (x3 : Int) : conf_isKey.l0 (k + 1) x0 x3 = runFrom (C := ctx) (conf_isKey.O k) ⟨47, [], []⟩ (conf_isKey.L k) (Tryd.f71.body.getD .skip) conf_isKey.a 0 (endK ctx [.bool] [(.tmp 2)]) (encD [(0, (.d .str)), (3, (.d (.int .i64)))] (x0, x3, ()) (startD sg.U ⟨47, [], []⟩ [(0, (.d .str)), (3, (.d (.int .i64)))])) := by
  rw [conf_isKey.l0]
  kernel_rfl
theorem conf_isKey.f_eq (k : Nat) (a0 : ByteArray) : conf_isKey.f k a0 = codeK (C := ctx) (conf_isKey.O k) ⟨47, [], []⟩ (conf_isKey.L k) (Tryd.f71.body.getD .skip) conf_isKey.a (endK ctx [.bool] [(.tmp 2)]) (slotsOf sg.U 0 [(.d .str)] (a0, ()) (empty sg.U)) := by
  unfold conf_isKey.f
  kernel_rfl
def conf_isKey.e (k : Nat) : Entry sg := entryOf sg [(.d .str)] [.bool] (fun h => conf_isKey.f k h.1)
def conf_isKey.T : List (Lb sg (RT sg.U [.bool])) := [⟨0, [(0, (.d .str)), (3, (.d (.int .i64)))], fun k h => conf_isKey.l0 k h.1 h.2.1⟩]
theorem conf_isKey.ok (k : Nat) : (conf_isKey.e k).Sound Tryd.prog ctx 71 :=
  entry_ok base_ok mo (fn := Tryd.f71) (b := (Tryd.f71.body.getD .skip)) (pm := [(.d .str)]) (rs := [.bool]) (an := conf_isKey.a) (N := 47) (vars := [(.tmp 2)]) Tryd.func71 (by kernel_rfl) (by kernel_rfl) (by kernel_rfl) (by kernel_rfl) (by kernel_rfl) (by kernel_rfl) (O := conf_isKey.O)
    (fun k => by unfold conf_isKey.O; exact oracle_of (P := Tryd.prog) (C := ctx) ⟨(conf_isDigit.ok), ⟨(conf_isSmall.ok), trivial⟩⟩) conf_isKey.T ⟨⟨by kernel_rfl, fun _ => by first | rfl | rw [conf_isKey.l0], fun k h => conf_isKey.l0_eq k h.1 h.2.1⟩, trivial⟩ k (fun h => conf_isKey.f_eq k h.1)
def internal_stringslite_HasPrefix.f (a0 : ByteArray) (a1 : ByteArray) : Option (Bool) := (bif (ile (slen a1) (slen a0)) then ((ssub a0 0 (slen a1)).bind fun y1 => (some (seq y1 a1))) else (some false))
def internal_stringslite_HasPrefix.O : Oracle sg := fun n => lkp n []
def internal_stringslite_HasPrefix.a : Ann := .z
def internal_stringslite_HasPrefix.L : Nat → St sg.U → Option (RT sg.U [.bool]) := labs []
theorem internal_stringslite_HasPrefix.f_eq (a0 : ByteArray) (a1 : ByteArray) : internal_stringslite_HasPrefix.f a0 a1 = codeK (C := ctx) (internal_stringslite_HasPrefix.O) ⟨18, [], []⟩ (internal_stringslite_HasPrefix.L) (Tryd.f134.body.getD .skip) internal_stringslite_HasPrefix.a (endK ctx [.bool] [(.tmp 4)]) (slotsOf sg.U 0 [(.d .str), (.d .str)] (a0, a1, ()) (empty sg.U)) := by
  unfold internal_stringslite_HasPrefix.f
  kernel_rfl
def internal_stringslite_HasPrefix.e : Entry sg := entryOf sg [(.d .str), (.d .str)] [.bool] (fun h => internal_stringslite_HasPrefix.f h.1 h.2.1)
def internal_stringslite_HasPrefix.T : List (Lb sg (RT sg.U [.bool])) := []
theorem internal_stringslite_HasPrefix.ok : (internal_stringslite_HasPrefix.e).Sound Tryd.prog ctx 134 :=
  entry_ok base_ok mo (fn := Tryd.f134) (b := (Tryd.f134.body.getD .skip)) (pm := [(.d .str), (.d .str)]) (rs := [.bool]) (an := internal_stringslite_HasPrefix.a) (N := 18) (vars := [(.tmp 4)]) Tryd.func134 (by kernel_rfl) (by kernel_rfl) (by kernel_rfl) (by kernel_rfl) (by kernel_rfl) (by kernel_rfl) (O := fun _ => internal_stringslite_HasPrefix.O)
    (fun _ => by unfold internal_stringslite_HasPrefix.O; exact oracle_of (P := Tryd.prog) (C := ctx) trivial) internal_stringslite_HasPrefix.T trivial 0 (fun h => internal_stringslite_HasPrefix.f_eq h.1 h.2.1)
def internal_stringslite_TrimPrefix.f (a0 : ByteArray) (a1 : ByteArray) : Option (ByteArray) := ((internal_stringslite_HasPrefix.f a0 a1).bind fun y1 => (bif y1 then ((ssub a0 (slen a1) (slen a0)).bind fun y2 => (some y2)) else (some a0)))
def internal_stringslite_TrimPrefix.O : Oracle sg := fun n => lkp n [(134, internal_stringslite_HasPrefix.e)]
def internal_stringslite_TrimPrefix.a : Ann := .z
def internal_stringslite_TrimPrefix.L : Nat → St sg.U → Option (RT sg.U [.str]) := labs []
theorem internal_stringslite_TrimPrefix.f_eq (a0 : ByteArray) (a1 : ByteArray) : internal_stringslite_TrimPrefix.f a0 a1 = codeK (C := ctx) (internal_stringslite_TrimPrefix.O) ⟨13, [], []⟩ (internal_stringslite_TrimPrefix.L) (Tryd.f118.body.getD .skip) internal_stringslite_TrimPrefix.a (endK ctx [.str] [(.tmp 4)]) (slotsOf sg.U 0 [(.d .str), (.d .str)] (a0, a1, ()) (empty sg.U)) := by
  unfold internal_stringslite_TrimPrefix.f
  kernel_rfl
def internal_stringslite_TrimPrefix.e : Entry sg := entryOf sg [(.d .str), (.d .str)] [.str] (fun h => internal_stringslite_TrimPrefix.f h.1 h.2.1)
def internal_stringslite_TrimPrefix.T : List (Lb sg (RT sg.U [.str])) := []
theorem internal_stringslite_TrimPrefix.ok : (internal_stringslite_TrimPrefix.e).Sound Tryd.prog ctx 118 :=
  entry_ok base_ok mo (fn := Tryd.f118) (b := (Tryd.f118.body.getD .skip)) (pm := [(.d .str), (.d .str)]) (rs := [.str]) (an := internal_stringslite_TrimPrefix.a) (N := 13) (vars := [(.tmp 4)]) Tryd.func118 (by kernel_rfl) (by kernel_rfl) (by kernel_rfl) (by kernel_rfl) (by kernel_rfl) (by kernel_rfl) (O := fun _ => internal_stringslite_TrimPrefix.O)
    (fun _ => by unfold internal_stringslite_TrimPrefix.O; exact oracle_of (P := Tryd.prog) (C := ctx) ⟨(internal_stringslite_HasPrefix.ok), trivial⟩) internal_stringslite_TrimPrefix.T trivial 0 (fun h => internal_stringslite_TrimPrefix.f_eq h.1 h.2.1)
def strings_TrimPrefix.f (a0 : ByteArray) (a1 : ByteArray) : Option (ByteArray) := ((internal_stringslite_TrimPrefix.f a0 a1).bind fun y1 => (some y1))
def strings_TrimPrefix.O : Oracle sg := fun n => lkp n [(118, internal_stringslite_TrimPrefix.e)]
def strings_TrimPrefix.a : Ann := .z
def strings_TrimPrefix.L : Nat → St sg.U → Option (RT sg.U [.str]) := labs []
theorem strings_TrimPrefix.f_eq (a0 : ByteArray) (a1 : ByteArray) : strings_TrimPrefix.f a0 a1 = codeK (C := ctx) (strings_TrimPrefix.O) ⟨8, [], []⟩ (strings_TrimPrefix.L) (Tryd.f96.body.getD .skip) strings_TrimPrefix.a (endK ctx [.str] [(.tmp 4)]) (slotsOf sg.U 0 [(.d .str), (.d .str)] (a0, a1, ()) (empty sg.U)) := by
  unfold strings_TrimPrefix.f
  kernel_rfl
def strings_TrimPrefix.e : Entry sg := entryOf sg [(.d .str), (.d .str)] [.str] (fun h => strings_TrimPrefix.f h.1 h.2.1)
def strings_TrimPrefix.T : List (Lb sg (RT sg.U [.str])) := []
theorem strings_TrimPrefix.ok : (strings_TrimPrefix.e).Sound Tryd.prog ctx 96 :=
  entry_ok base_ok mo (fn := Tryd.f96) (b := (Tryd.f96.body.getD .skip)) (pm := [(.d .str), (.d .str)]) (rs := [.str]) (an := strings_TrimPrefix.a) (N := 8) (vars := [(.tmp 4)]) Tryd.func96 (by kernel_rfl) (by kernel_rfl) (by kernel_rfl) (by kernel_rfl) (by kernel_rfl) (by kernel_rfl) (O := fun _ => strings_TrimPrefix.O)
    (fun _ => by unfold strings_TrimPrefix.O; exact oracle_of (P := Tryd.prog) (C := ctx) ⟨(internal_stringslite_TrimPrefix.ok), trivial⟩) strings_TrimPrefix.T trivial 0 (fun h => strings_TrimPrefix.f_eq h.1 h.2.1)
def conf_isInteger.l0 : Nat → ByteArray → Int → Option (Bool)
  | 0, _, _ => none
  | k + 1, x0, x3 => (bif (ilt x3 (slen x0)) then ((sat x0 x3).bind fun y2 => ((conf_isDigit.f y2).bind fun y3 => (bif (!y3) then (some false) else (conf_isInteger.l0 k x0 (wadd .i64 x3 1))))) else (some true))
def conf_isInteger.f (k : Nat) (a0 : ByteArray) : Option (Bool) := ((strings_TrimPrefix.f a0 c__2d).bind fun y1 => (bif (seq y1 c_empty) then (some false) else (conf_isInteger.l0 k y1 0)))
def conf_isInteger.O (k : Nat) : Oracle sg := fun n => lkp n [(13, conf_isDigit.e), (96, strings_TrimPrefix.e)]
def conf_isInteger.a : Ann := (.n .z (.n .z (.n .z (.n (.n .z (.lp 0 .z)) .z))))
def conf_isInteger.L (k : Nat) : Nat → St sg.U → Option (RT sg.U [.bool]) := labs [(0, labOf sg [(0, (.d .str)), (3, (.d (.int .i64)))] (fun h => conf_isInteger.l0 k h.1 h.2.1))]
theorem conf_isInteger.l0_eq (k : Nat) (x0 : ByteArray) (x3 : Int) : conf_isInteger.l0 (k + 1) x0 x3 = runFrom (C := ctx) (conf_isInteger.O k) ⟨19, [], []⟩ (conf_isInteger.L k) (Tryd.f72.body.getD .skip) conf_isInteger.a 0 (endK ctx [.bool] [(.tmp 2)]) (encD [(0, (.d .str)), (3, (.d (.int .i64)))] (x0, x3, ()) (startD sg.U ⟨19, [], []⟩ [(0, (.d .str)), (3, (.d (.int .i64)))])) := by
  rw [conf_isInteger.l0]
  kernel_rfl
theorem conf_isInteger.f_eq (k : Nat) (a0 : ByteArray) : conf_isInteger.f k a0 = codeK (C := ctx) (conf_isInteger.O k) ⟨19, [], []⟩ (conf_isInteger.L k) (Tryd.f72.body.getD .skip) conf_isInteger.a (endK ctx [.bool] [(.tmp 2)]) (slotsOf sg.U 0 [(.d .str)] (a0, ()) (empty sg.U)) := by
  unfold conf_isInteger.f
  kernel_rfl
def conf_isInteger.e (k : Nat) : Entry sg := entryOf sg [(.d .str)] [.bool] (fun h => conf_isInteger.f k h.1)
def conf_isInteger.T : List (Lb sg (RT sg.U [.bool])) := [⟨0, [(0, (.d .str)), (3, (.d (.int .i64)))], fun k h => conf_isInteger.l0 k h.1 h.2.1⟩]
theorem conf_isInteger.ok (k : Nat) : (conf_isInteger.e k).Sound Tryd.prog ctx 72 :=
  entry_ok base_ok mo (fn := Tryd.f72) (b := (Tryd.f72.body.getD .skip)) (pm := [(.d .str)]) (rs := [.bool]) (an := conf_isInteger.a) (N := 19) (vars := [(.tmp 2)]) Tryd.func72 (by kernel_rfl) (by kernel_rfl) (by kernel_rfl) (by kernel_rfl) (by kernel_rfl) (by kernel_rfl) (O := conf_isInteger.O)
    (fun k => by unfold conf_isInteger.O; exact oracle_of (P := Tryd.prog) (C := ctx) ⟨(conf_isDigit.ok), ⟨(strings_TrimPrefix.ok), trivial⟩⟩) conf_isInteger.T ⟨⟨by kernel_rfl, fun _ => by first | rfl | rw [conf_isInteger.l0], fun k h => conf_isInteger.l0_eq k h.1 h.2.1⟩, trivial⟩ k (fun h => conf_isInteger.f_eq k h.1)
def strconv_Atoi.f (a0 : ByteArray) : Option (Int) := atoiF a0
def strconv_Atoi.e : Entry sg := atoiE sg
theorem strconv_Atoi.ok : (strconv_Atoi.e).Sound Tryd.prog ctx 16 :=
  atoi_sound (C := ctx) sg_ok Tryd.func16 (by kernel_rfl) (by kernel_rfl) (fun s n w h1 h2 => Tryd.strconv_Atoi s n h1 h2 w)
def conf_steps.l0 : Nat → Bool → (List T_conf_step) → (List ByteArray) → Int → Int → Option ((List T_conf_step) × Bool)
  | 0, _, _, _, _, _ => none
  | k + 1, x1, x6, x17, x18, x19 => (bif (ilt x19 x18) then ((lat x17 x19).bind fun y2 => ((conf_isKey.f k y2).bind fun y3 => (bif y3 then ((lapp 32 x6 [(T_conf_step.mk y2 0 false)]).bind fun y4 => (conf_steps.l0 k x1 y4 x17 x18 (wadd .i64 x19 1))) else (bif (bif x1 then (seq y2 c__2a) else false) then ((lapp 32 x6 [(T_conf_step.mk c_empty 0 true)]).bind fun y5 => (conf_steps.l0 k x1 y5 x17 x18 (wadd .i64 x19 1))) else (bif (bif (seq y2 c_empty) then true else (ilt 4 (slen y2))) then (some ([], false)) else ((conf_isInteger.f k y2).bind fun y6 => (bif (!y6) then (some ([], false)) else ((sat y2 0).bind fun y7 => (bif (ieq y7 45) then (some ([], false)) else ((sat y2 0).bind fun y8 => (bif (bif (ieq y8 48) then (!seq y2 c_0) else false) then (some ([], false)) else ((strconv_Atoi.f y2).bind fun y9 => ((lapp 32 x6 [(T_conf_step.mk c_empty y9 false)]).bind fun y10 => (conf_steps.l0 k x1 y10 x17 x18 (wadd .i64 x19 1))))))))))))))) else (some (x6, true)))
def conf_steps.f (k : Nat) (a0 : ByteArray) (a1 : Bool) : Option ((List T_conf_step) × Bool) := (bif (ilt 400 (slen a0)) then (some ([], false)) else (bif (seq a0 c_empty) then (some ([], true)) else ((strings_Split.f a0 c__2e).bind fun y1 => (conf_steps.l0 k a1 [] y1 (llen y1) 0))))
def conf_steps.O (k : Nat) : Oracle sg := fun n => lkp n [(16, strconv_Atoi.e), (70, strings_Split.e), (71, conf_isKey.e k), (72, conf_isInteger.e k)]
def conf_steps.a : Ann := (.n .z (.n .z (.n .z (.n .z (.n (.n .z (.lp 0 .z)) .z)))))
def conf_steps.L (k : Nat) : Nat → St sg.U → Option (RT sg.U [(.sl (.st 3)), .bool]) := labs [(0, labOf sg [(1, (.d .bool)), (6, (.row 94 (.st 3))), (17, (.d (.sl .str))), (18, (.d (.int .i64))), (19, (.d (.int .i64)))] (fun h => conf_steps.l0 k h.1 h.2.1 h.2.2.1 h.2.2.2.1 h.2.2.2.2.1))]
theorem conf_steps.l0_eq (k : Nat) (x1 : Bool) (x6 : (List T_conf_step)) (x17 : (List ByteArray)) (x18 : Int) (x19 : Int) : conf_steps.l0 (k + 1) x1 x6 x17 x18 x19 = runFrom (C := ctx) (conf_steps.O k) ⟨79, [], []⟩ (conf_steps.L k) (Tryd.f45.body.getD .skip) conf_steps.a 0 (endK ctx [(.sl (.st 3)), .bool] [(.tmp 4), (.tmp 5)]) (encD [(1, (.d .bool)), (6, (.row 94 (.st 3))), (17, (.d (.sl .str))), (18, (.d (.int .i64))), (19, (.d (.int .i64)))] (x1, x6, x17, x18, x19, ()) (startD sg.U ⟨79, [], []⟩ [(1, (.d .bool)), (6, (.row 94 (.st 3))), (17, (.d (.sl .str))), (18, (.d (.int .i64))), (19, (.d (.int .i64)))])) := by
  rw [conf_steps.l0]
  kernel_rfl
theorem conf_steps.f_eq (k : Nat) (a0 : ByteArray) (a1 : Bool) : conf_steps.f k a0 a1 = codeK (C := ctx) (conf_steps.O k) ⟨79, [], []⟩ (conf_steps.L k) (Tryd.f45.body.getD .skip) conf_steps.a (endK ctx [(.sl (.st 3)), .bool] [(.tmp 4), (.tmp 5)]) (slotsOf sg.U 0 [(.d .str), (.d .bool)] (a0, a1, ()) (empty sg.U)) := by
  unfold conf_steps.f
  kernel_rfl
def conf_steps.e (k : Nat) : Entry sg := entryOf sg [(.d .str), (.d .bool)] [(.sl (.st 3)), .bool] (fun h => conf_steps.f k h.1 h.2.1)
def conf_steps.T : List (Lb sg (RT sg.U [(.sl (.st 3)), .bool])) := [⟨0, [(1, (.d .bool)), (6, (.row 94 (.st 3))), (17, (.d (.sl .str))), (18, (.d (.int .i64))), (19, (.d (.int .i64)))], fun k h => conf_steps.l0 k h.1 h.2.1 h.2.2.1 h.2.2.2.1 h.2.2.2.2.1⟩]
theorem conf_steps.ok (k : Nat) : (conf_steps.e k).Sound Tryd.prog ctx 45 :=
  entry_ok base_ok mo (fn := Tryd.f45) (b := (Tryd.f45.body.getD .skip)) (pm := [(.d .str), (.d .bool)]) (rs := [(.sl (.st 3)), .bool]) (an := conf_steps.a) (N := 79) (vars := [(.tmp 4), (.tmp 5)]) Tryd.func45 (by kernel_rfl) (by kernel_rfl) (by kernel_rfl) (by kernel_rfl) (by kernel_rfl) (by kernel_rfl) (O := conf_steps.O)
    (fun k => by unfold conf_steps.O; exact oracle_of (P := Tryd.prog) (C := ctx) ⟨(strconv_Atoi.ok), ⟨(strings_Split.ok), ⟨(conf_isKey.ok k), ⟨(conf_isInteger.ok k), trivial⟩⟩⟩⟩) conf_steps.T ⟨⟨by kernel_rfl, fun _ => by first | rfl | rw [conf_steps.l0], fun k h => conf_steps.l0_eq k h.1 h.2.1 h.2.2.1 h.2.2.2.1 h.2.2.2.2.1⟩, trivial⟩ k (fun h => conf_steps.f_eq k h.1 h.2.1)
def conf_badBytes.l0 : Nat → ByteArray → Int → Option (Bool)
  | 0, _, _ => none
  | k + 1, x0, x3 => (bif (ilt x3 (slen x0)) then ((sat x0 x3).bind fun y1 => (bif (ilt y1 32) then ((sat x0 x3).bind fun y2 => (bif (!ieq y2 9) then ((sat x0 x3).bind fun y3 => (bif (!ieq y3 10) then (some true) else (conf_badBytes.l0 k x0 (wadd .i64 x3 1)))) else (conf_badBytes.l0 k x0 (wadd .i64 x3 1)))) else (conf_badBytes.l0 k x0 (wadd .i64 x3 1)))) else (some false))
def conf_badBytes.f (k : Nat) (a0 : ByteArray) : Option (Bool) := (conf_badBytes.l0 k a0 0)
def conf_badBytes.O (k : Nat) : Oracle sg := fun n => lkp n []
def conf_badBytes.a : Ann := (.n .z (.n (.n .z (.lp 0 .z)) .z))
def conf_badBytes.L (k : Nat) : Nat → St sg.U → Option (RT sg.U [.bool]) := labs [(0, labOf sg [(0, (.d .str)), (3, (.d (.int .i64)))] (fun h => conf_badBytes.l0 k h.1 h.2.1))]
theorem conf_badBytes.l0_eq (k : Nat) (x0 : ByteArray) (x3 : Int) : conf_badBytes.l0 (k + 1) x0 x3 = runFrom (C := ctx) (conf_badBytes.O k) ⟨26, [], []⟩ (conf_badBytes.L k) (Tryd.f46.body.getD .skip) conf_badBytes.a 0 (endK ctx [.bool] [(.tmp 2)]) (encD [(0, (.d .str)), (3, (.d (.int .i64)))] (x0, x3, ()) (startD sg.U ⟨26, [], []⟩ [(0, (.d .str)), (3, (.d (.int .i64)))])) := by
  rw [conf_badBytes.l0]
  kernel_rfl
theorem conf_badBytes.f_eq (k : Nat) (a0 : ByteArray) : conf_badBytes.f k a0 = codeK (C := ctx) (conf_badBytes.O k) ⟨26, [], []⟩ (conf_badBytes.L k) (Tryd.f46.body.getD .skip) conf_badBytes.a (endK ctx [.bool] [(.tmp 2)]) (slotsOf sg.U 0 [(.d .str)] (a0, ()) (empty sg.U)) := by
  unfold conf_badBytes.f
  kernel_rfl
def conf_badBytes.e (k : Nat) : Entry sg := entryOf sg [(.d .str)] [.bool] (fun h => conf_badBytes.f k h.1)
def conf_badBytes.T : List (Lb sg (RT sg.U [.bool])) := [⟨0, [(0, (.d .str)), (3, (.d (.int .i64)))], fun k h => conf_badBytes.l0 k h.1 h.2.1⟩]
theorem conf_badBytes.ok (k : Nat) : (conf_badBytes.e k).Sound Tryd.prog ctx 46 :=
  entry_ok base_ok mo (fn := Tryd.f46) (b := (Tryd.f46.body.getD .skip)) (pm := [(.d .str)]) (rs := [.bool]) (an := conf_badBytes.a) (N := 26) (vars := [(.tmp 2)]) Tryd.func46 (by kernel_rfl) (by kernel_rfl) (by kernel_rfl) (by kernel_rfl) (by kernel_rfl) (by kernel_rfl) (O := conf_badBytes.O)
    (fun k => by unfold conf_badBytes.O; exact oracle_of (P := Tryd.prog) (C := ctx) trivial) conf_badBytes.T ⟨⟨by kernel_rfl, fun _ => by first | rfl | rw [conf_badBytes.l0], fun k h => conf_badBytes.l0_eq k h.1 h.2.1⟩, trivial⟩ k (fun h => conf_badBytes.f_eq k h.1)
mutual
def conf_count.l0 : Nat → Int → (List T_api_Value) → Int → Int → Option (Int)
  | 0, _, _, _, _ => none
  | k + 1, x3, x7, x8, x9 => (bif (ilt x9 x8) then ((lat x7 x9).bind fun y1 => (bif (ilt 1000 x3) then (some x3) else ((conf_count.f k (T_api_Value.mk y1.fKind y1.fBool y1.fInt y1.fText y1.fItems y1.fKeys)).bind fun y2 => (conf_count.l0 k (wadd .i64 x3 y2) x7 x8 (wadd .i64 x9 1))))) else (some x3))
def conf_count.f : Nat → T_api_Value → Option (Int)
  | 0, _ => none
  | k + 1, a0 => (conf_count.l0 k 1 a0.fItems (llen a0.fItems) 0)
end
def conf_count.e (k : Nat) : Entry sg := entryOf sg [(.d (.st 2))] [(.int .i64)] (fun h => conf_count.f k h.1)
def conf_count.O (k : Nat) : Oracle sg := fun n => lkp n [(32, conf_count.e k)]
def conf_count.a : Ann := (.n .z (.n .z (.n (.n .z (.lp 0 .z)) .z)))
def conf_count.L (k : Nat) : Nat → St sg.U → Option (RT sg.U [(.int .i64)]) := labs [(0, labOf sg [(3, (.d (.int .i64))), (7, (.d (.sl (.st 2)))), (8, (.d (.int .i64))), (9, (.d (.int .i64)))] (fun h => conf_count.l0 k h.1 h.2.1 h.2.2.1 h.2.2.2.1))]
theorem conf_count.l0_eq (k : Nat) (x3 : Int) (x7 : (List T_api_Value)) (x8 : Int) (x9 : Int) : conf_count.l0 (k + 1) x3 x7 x8 x9 = runFrom (C := ctx) (conf_count.O k) ⟨21, [], []⟩ (conf_count.L k) (Tryd.f32.body.getD .skip) conf_count.a 0 (endK ctx [(.int .i64)] [(.tmp 2)]) (encD [(3, (.d (.int .i64))), (7, (.d (.sl (.st 2)))), (8, (.d (.int .i64))), (9, (.d (.int .i64)))] (x3, x7, x8, x9, ()) (startD sg.U ⟨21, [], []⟩ [(3, (.d (.int .i64))), (7, (.d (.sl (.st 2)))), (8, (.d (.int .i64))), (9, (.d (.int .i64)))])) := by
  rw [conf_count.l0]
  kernel_rfl
theorem conf_count.f_eq (k : Nat) (a0 : T_api_Value) : conf_count.f (k + 1) a0 = codeK (C := ctx) (conf_count.O k) ⟨21, [], []⟩ (conf_count.L k) (Tryd.f32.body.getD .skip) conf_count.a (endK ctx [(.int .i64)] [(.tmp 2)]) (slotsOf sg.U 0 [(.d (.st 2))] (a0, ()) (empty sg.U)) := by
  rw [conf_count.f]
  kernel_rfl
def conf_count.T : List (Lb sg (RT sg.U [(.int .i64)])) := [⟨0, [(3, (.d (.int .i64))), (7, (.d (.sl (.st 2)))), (8, (.d (.int .i64))), (9, (.d (.int .i64)))], fun k h => conf_count.l0 k h.1 h.2.1 h.2.2.1 h.2.2.2.1⟩]
theorem conf_count.ok : ∀ k : Nat, (conf_count.e k).Sound Tryd.prog ctx 32 :=
  entry_rec base_ok mo (fn := Tryd.f32) (b := (Tryd.f32.body.getD .skip)) (pm := [(.d (.st 2))]) (rs := [(.int .i64)]) (an := conf_count.a) (N := 21) (vars := [(.tmp 2)]) Tryd.func32 (by kernel_rfl) (by kernel_rfl) (by kernel_rfl) (by kernel_rfl) (by kernel_rfl) (by kernel_rfl) (O := conf_count.O) conf_count.T ⟨⟨by kernel_rfl, fun _ => by first | rfl | rw [conf_count.l0], fun k h => conf_count.l0_eq k h.1 h.2.1 h.2.2.1 h.2.2.2.1⟩, trivial⟩ (F := fun k h => conf_count.f k h.1) (fun _ => by first | rfl | rw [conf_count.f]) (fun k h => conf_count.f_eq k h.1)
    (fun k own => by unfold conf_count.O; exact oracle_of (P := Tryd.prog) (C := ctx) ⟨own, trivial⟩)
mutual
def conf_levels.l0 : Nat → Int → (List T_api_Value) → Int → Int → Option (Int)
  | 0, _, _, _, _ => none
  | k + 1, x3, x7, x8, x9 => (bif (ilt x9 x8) then ((lat x7 x9).bind fun y1 => ((conf_levels.f k (T_api_Value.mk y1.fKind y1.fBool y1.fInt y1.fText y1.fItems y1.fKeys)).bind fun y2 => (conf_levels.l0 k (imax x3 y2) x7 x8 (wadd .i64 x9 1)))) else (some (wadd .i64 x3 1)))
def conf_levels.f : Nat → T_api_Value → Option (Int)
  | 0, _ => none
  | k + 1, a0 => (conf_levels.l0 k 0 a0.fItems (llen a0.fItems) 0)
end
def conf_levels.e (k : Nat) : Entry sg := entryOf sg [(.d (.st 2))] [(.int .i64)] (fun h => conf_levels.f k h.1)
def conf_levels.O (k : Nat) : Oracle sg := fun n => lkp n [(33, conf_levels.e k)]
def conf_levels.a : Ann := (.n .z (.n .z (.n (.n .z (.lp 0 .z)) .z)))
def conf_levels.L (k : Nat) : Nat → St sg.U → Option (RT sg.U [(.int .i64)]) := labs [(0, labOf sg [(3, (.d (.int .i64))), (7, (.d (.sl (.st 2)))), (8, (.d (.int .i64))), (9, (.d (.int .i64)))] (fun h => conf_levels.l0 k h.1 h.2.1 h.2.2.1 h.2.2.2.1))]
theorem conf_levels.l0_eq (k : Nat) (x3 : Int) (x7 : (List T_api_Value)) (x8 : Int) (x9 : Int) : conf_levels.l0 (k + 1) x3 x7 x8 x9 = runFrom (C := ctx) (conf_levels.O k) ⟨20, [], []⟩ (conf_levels.L k) (Tryd.f33.body.getD .skip) conf_levels.a 0 (endK ctx [(.int .i64)] [(.tmp 2)]) (encD [(3, (.d (.int .i64))), (7, (.d (.sl (.st 2)))), (8, (.d (.int .i64))), (9, (.d (.int .i64)))] (x3, x7, x8, x9, ()) (startD sg.U ⟨20, [], []⟩ [(3, (.d (.int .i64))), (7, (.d (.sl (.st 2)))), (8, (.d (.int .i64))), (9, (.d (.int .i64)))])) := by
  rw [conf_levels.l0]
  kernel_rfl
theorem conf_levels.f_eq (k : Nat) (a0 : T_api_Value) : conf_levels.f (k + 1) a0 = codeK (C := ctx) (conf_levels.O k) ⟨20, [], []⟩ (conf_levels.L k) (Tryd.f33.body.getD .skip) conf_levels.a (endK ctx [(.int .i64)] [(.tmp 2)]) (slotsOf sg.U 0 [(.d (.st 2))] (a0, ()) (empty sg.U)) := by
  rw [conf_levels.f]
  kernel_rfl
def conf_levels.T : List (Lb sg (RT sg.U [(.int .i64)])) := [⟨0, [(3, (.d (.int .i64))), (7, (.d (.sl (.st 2)))), (8, (.d (.int .i64))), (9, (.d (.int .i64)))], fun k h => conf_levels.l0 k h.1 h.2.1 h.2.2.1 h.2.2.2.1⟩]
theorem conf_levels.ok : ∀ k : Nat, (conf_levels.e k).Sound Tryd.prog ctx 33 :=
  entry_rec base_ok mo (fn := Tryd.f33) (b := (Tryd.f33.body.getD .skip)) (pm := [(.d (.st 2))]) (rs := [(.int .i64)]) (an := conf_levels.a) (N := 20) (vars := [(.tmp 2)]) Tryd.func33 (by kernel_rfl) (by kernel_rfl) (by kernel_rfl) (by kernel_rfl) (by kernel_rfl) (by kernel_rfl) (O := conf_levels.O) conf_levels.T ⟨⟨by kernel_rfl, fun _ => by first | rfl | rw [conf_levels.l0], fun k h => conf_levels.l0_eq k h.1 h.2.1 h.2.2.1 h.2.2.2.1⟩, trivial⟩ (F := fun k h => conf_levels.f k h.1) (fun _ => by first | rfl | rw [conf_levels.f]) (fun k h => conf_levels.f_eq k h.1)
    (fun k own => by unfold conf_levels.O; exact oracle_of (P := Tryd.prog) (C := ctx) ⟨own, trivial⟩)
def conf_unused.l0 : Nat → Int → Bool → Int → ByteArray → (List T_api_Value) → (List ByteArray) → Int → Bool → Option (Bool)
  | 0, _, _, _, _, _, _, _, _ => none
  | k + 1, x1_0, x1_1, x1_2, x1_3, x1_4, x1_5, x3, x6 => (bif x6 then (some true) else (bif (bif (bif (ilt 0 (llen x1_4)) then (!ieq x3 5) else false) then (!ieq x3 6) else false) then (some true) else (bif (bif (ilt 0 (llen x1_5)) then (!ieq x3 6) else false) then (some true) else (some (bif (ieq x3 6) then (!ieq (llen x1_5) (llen x1_4)) else false)))))
def conf_unused.f (k : Nat) (a0 : T_api_Value) : Option (Bool) := (bif (bif a0.fBool then (!ieq a0.fKind 1) else false) then (conf_unused.l0 k a0.fKind a0.fBool a0.fInt a0.fText a0.fItems a0.fKeys a0.fKind true) else (bif (bif (bif (!ieq a0.fInt 0) then (!ieq a0.fKind 2) else false) then (!ieq a0.fKind 4) else false) then (conf_unused.l0 k a0.fKind a0.fBool a0.fInt a0.fText a0.fItems a0.fKeys a0.fKind true) else (conf_unused.l0 k a0.fKind a0.fBool a0.fInt a0.fText a0.fItems a0.fKeys a0.fKind (bif (!seq a0.fText c_empty) then (!ieq a0.fKind 3) else false))))
def conf_unused.O (k : Nat) : Oracle sg := fun n => lkp n []
def conf_unused.a : Ann := (.n .z (.n .z (.n (.n .z (.lab 0 .z)) .z)))
def conf_unused.L (k : Nat) : Nat → St sg.U → Option (RT sg.U [.bool]) := labs [(0, labOf sg [(1, (.box [.d (.int .i64), .d .bool, .d (.int .i64), .d .str, .d (.sl (.st 2)), .d (.sl .str)])), (3, (.d (.int .i64))), (6, (.d .bool))] (fun h => conf_unused.l0 k h.1 h.2.1 h.2.2.1 h.2.2.2.1 h.2.2.2.2.1 h.2.2.2.2.2.1 h.2.2.2.2.2.2.1 h.2.2.2.2.2.2.2.1))]
theorem conf_unused.l0_eq (k : Nat) (x1_0 : Int) (x1_1 : Bool) (x1_2 : Int) (x1_3 : ByteArray) (x1_4 : (List T_api_Value)) (x1_5 : (List ByteArray)) (x3 : Int) (x6 : Bool) : conf_unused.l0 (k + 1) x1_0 x1_1 x1_2 x1_3 x1_4 x1_5 x3 x6 = runFrom (C := ctx) (conf_unused.O k) ⟨63, [], []⟩ (conf_unused.L k) (Tryd.f86.body.getD .skip) conf_unused.a 0 (endK ctx [.bool] [(.tmp 2)]) (encD [(1, (.box [.d (.int .i64), .d .bool, .d (.int .i64), .d .str, .d (.sl (.st 2)), .d (.sl .str)])), (3, (.d (.int .i64))), (6, (.d .bool))] (x1_0, x1_1, x1_2, x1_3, x1_4, x1_5, x3, x6, ()) (startD sg.U ⟨63, [], []⟩ [(1, (.box [.d (.int .i64), .d .bool, .d (.int .i64), .d .str, .d (.sl (.st 2)), .d (.sl .str)])), (3, (.d (.int .i64))), (6, (.d .bool))])) := by
  rw [conf_unused.l0]
  kernel_rfl
theorem conf_unused.f_eq (k : Nat) (a0 : T_api_Value) : conf_unused.f k a0 = codeK (C := ctx) (conf_unused.O k) ⟨63, [], []⟩ (conf_unused.L k) (Tryd.f86.body.getD .skip) conf_unused.a (endK ctx [.bool] [(.tmp 2)]) (slotsOf sg.U 0 [(.d (.st 2))] (a0, ()) (empty sg.U)) := by
  unfold conf_unused.f
  kernel_rfl
def conf_unused.e (k : Nat) : Entry sg := entryOf sg [(.d (.st 2))] [.bool] (fun h => conf_unused.f k h.1)
def conf_unused.T : List (Lb sg (RT sg.U [.bool])) := [⟨0, [(1, (.box [.d (.int .i64), .d .bool, .d (.int .i64), .d .str, .d (.sl (.st 2)), .d (.sl .str)])), (3, (.d (.int .i64))), (6, (.d .bool))], fun k h => conf_unused.l0 k h.1 h.2.1 h.2.2.1 h.2.2.2.1 h.2.2.2.2.1 h.2.2.2.2.2.1 h.2.2.2.2.2.2.1 h.2.2.2.2.2.2.2.1⟩]
theorem conf_unused.ok (k : Nat) : (conf_unused.e k).Sound Tryd.prog ctx 86 :=
  entry_ok base_ok mo (fn := Tryd.f86) (b := (Tryd.f86.body.getD .skip)) (pm := [(.d (.st 2))]) (rs := [.bool]) (an := conf_unused.a) (N := 63) (vars := [(.tmp 2)]) Tryd.func86 (by kernel_rfl) (by kernel_rfl) (by kernel_rfl) (by kernel_rfl) (by kernel_rfl) (by kernel_rfl) (O := conf_unused.O)
    (fun k => by unfold conf_unused.O; exact oracle_of (P := Tryd.prog) (C := ctx) trivial) conf_unused.T ⟨⟨by kernel_rfl, fun _ => by first | rfl | rw [conf_unused.l0], fun k h => conf_unused.l0_eq k h.1 h.2.1 h.2.2.1 h.2.2.2.1 h.2.2.2.2.1 h.2.2.2.2.2.1 h.2.2.2.2.2.2.1 h.2.2.2.2.2.2.2.1⟩, trivial⟩ k (fun h => conf_unused.f_eq k h.1)
def conf_badDay.f (a0 : Int) : Option (Bool) := (some (bif (ilt a0 0) then true else (ilt 84005 a0)))
def conf_badDay.O : Oracle sg := fun n => lkp n []
def conf_badDay.a : Ann := .z
def conf_badDay.L : Nat → St sg.U → Option (RT sg.U [.bool]) := labs []
theorem conf_badDay.f_eq (a0 : Int) : conf_badDay.f a0 = codeK (C := ctx) (conf_badDay.O) ⟨9, [], []⟩ (conf_badDay.L) (Tryd.f87.body.getD .skip) conf_badDay.a (endK ctx [.bool] [(.tmp 2)]) (slotsOf sg.U 0 [(.d (.int .i64))] (a0, ()) (empty sg.U)) := by
  unfold conf_badDay.f
  kernel_rfl
def conf_badDay.e : Entry sg := entryOf sg [(.d (.int .i64))] [.bool] (fun h => conf_badDay.f h.1)
def conf_badDay.T : List (Lb sg (RT sg.U [.bool])) := []
theorem conf_badDay.ok : (conf_badDay.e).Sound Tryd.prog ctx 87 :=
  entry_ok base_ok mo (fn := Tryd.f87) (b := (Tryd.f87.body.getD .skip)) (pm := [(.d (.int .i64))]) (rs := [.bool]) (an := conf_badDay.a) (N := 9) (vars := [(.tmp 2)]) Tryd.func87 (by kernel_rfl) (by kernel_rfl) (by kernel_rfl) (by kernel_rfl) (by kernel_rfl) (by kernel_rfl) (O := fun _ => conf_badDay.O)
    (fun _ => by unfold conf_badDay.O; exact oracle_of (P := Tryd.prog) (C := ctx) trivial) conf_badDay.T trivial 0 (fun h => conf_badDay.f_eq h.1)
mutual
def conf_valueFault.l0 : Nat → Int → Bool → Int → ByteArray → (List T_api_Value) → (List ByteArray) → Bool → Option (Int)
  | 0, _, _, _, _, _, _, _ => none
  | k + 1, x1_0, x1_1, x1_2, x1_3, x1_4, x1_5, x17 => (bif x17 then (some 2) else (bif (ilt 5000 (slen x1_3)) then (some 4) else ((conf_badBytes.f k x1_3).bind fun y3 => (bif y3 then (some 9) else (conf_valueFault.l1 k x1_0 x1_1 x1_2 x1_3 x1_4 x1_5 x1_5 (llen x1_5) 0)))))
def conf_valueFault.l1 : Nat → Int → Bool → Int → ByteArray → (List T_api_Value) → (List ByteArray) → (List ByteArray) → Int → Int → Option (Int)
  | 0, _, _, _, _, _, _, _, _, _ => none
  | k + 1, x1_0, x1_1, x1_2, x1_3, x1_4, x1_5, x36, x37, x38 => (bif (ilt x38 x37) then ((lat x36 x38).bind fun y4 => ((conf_isKey.f k y4).bind fun y5 => (bif (!y5) then (some 12) else (bif (ilt 0 x38) then ((lat x1_5 (wsub .i64 x38 1)).bind fun y6 => (bif (sle y4 y6) then (some 5) else (conf_valueFault.l1 k x1_0 x1_1 x1_2 x1_3 x1_4 x1_5 x36 x37 (wadd .i64 x38 1)))) else (conf_valueFault.l1 k x1_0 x1_1 x1_2 x1_3 x1_4 x1_5 x36 x37 (wadd .i64 x38 1)))))) else (some 0))
end
def conf_valueFault.f (k : Nat) (a0 : T_api_Value) : Option (Int) := (bif (bif (ilt a0.fKind 0) then true else (ilt 6 a0.fKind)) then (some 10) else ((conf_unused.f k (T_api_Value.mk a0.fKind a0.fBool a0.fInt a0.fText a0.fItems a0.fKeys)).bind fun y1 => (bif y1 then (some 1) else (bif (ieq a0.fKind 4) then ((conf_badDay.f a0.fInt).bind fun y2 => (conf_valueFault.l0 k a0.fKind a0.fBool a0.fInt a0.fText a0.fItems a0.fKeys y2)) else (conf_valueFault.l0 k a0.fKind a0.fBool a0.fInt a0.fText a0.fItems a0.fKeys false)))))
def conf_valueFault.O (k : Nat) : Oracle sg := fun n => lkp n [(46, conf_badBytes.e k), (71, conf_isKey.e k), (86, conf_unused.e k), (87, conf_badDay.e)]
def conf_valueFault.a : Ann := (.n .z (.n (.n .z (.n .z (.n .z (.n .z (.n .z (.lab 0 .z)))))) (.n (.n .z (.lp 1 .z)) .z)))
def conf_valueFault.L (k : Nat) : Nat → St sg.U → Option (RT sg.U [(.int .i64)]) := labs [(0, labOf sg [(1, (.box [.d (.int .i64), .d .bool, .d (.int .i64), .d .str, .d (.sl (.st 2)), .d (.sl .str)])), (17, (.d .bool))] (fun h => conf_valueFault.l0 k h.1 h.2.1 h.2.2.1 h.2.2.2.1 h.2.2.2.2.1 h.2.2.2.2.2.1 h.2.2.2.2.2.2.1)), (1, labOf sg [(1, (.box [.d (.int .i64), .d .bool, .d (.int .i64), .d .str, .d (.sl (.st 2)), .d (.sl .str)])), (36, (.d (.sl .str))), (37, (.d (.int .i64))), (38, (.d (.int .i64)))] (fun h => conf_valueFault.l1 k h.1 h.2.1 h.2.2.1 h.2.2.2.1 h.2.2.2.2.1 h.2.2.2.2.2.1 h.2.2.2.2.2.2.1 h.2.2.2.2.2.2.2.1 h.2.2.2.2.2.2.2.2.1))]
theorem conf_valueFault.l0_eq (k : Nat) (x1_0 : Int) (x1_1 : Bool) (x1_2 : Int) (x1_3 : ByteArray) (x1_4 : (List T_api_Value)) (x1_5 : (List ByteArray)) (x17 : Bool) : conf_valueFault.l0 (k + 1) x1_0 x1_1 x1_2 x1_3 x1_4 x1_5 x17 = runFrom (C := ctx) (conf_valueFault.O k) ⟨59, [], []⟩ (conf_valueFault.L k) (Tryd.f63.body.getD .skip) conf_valueFault.a 0 (endK ctx [(.int .i64)] [(.tmp 2)]) (encD [(1, (.box [.d (.int .i64), .d .bool, .d (.int .i64), .d .str, .d (.sl (.st 2)), .d (.sl .str)])), (17, (.d .bool))] (x1_0, x1_1, x1_2, x1_3, x1_4, x1_5, x17, ()) (startD sg.U ⟨59, [], []⟩ [(1, (.box [.d (.int .i64), .d .bool, .d (.int .i64), .d .str, .d (.sl (.st 2)), .d (.sl .str)])), (17, (.d .bool))])) := by
  rw [conf_valueFault.l0]
  kernel_rfl
theorem conf_valueFault.l1_eq (k : Nat) (x1_0 : Int) (x1_1 : Bool) (x1_2 : Int) (x1_3 : ByteArray) (x1_4 : (List T_api_Value)) (x1_5 : (List ByteArray)) (x36 : (List ByteArray)) (x37 : Int) (x38 : Int) : conf_valueFault.l1 (k + 1) x1_0 x1_1 x1_2 x1_3 x1_4 x1_5 x36 x37 x38 = runFrom (C := ctx) (conf_valueFault.O k) ⟨59, [], []⟩ (conf_valueFault.L k) (Tryd.f63.body.getD .skip) conf_valueFault.a 1 (endK ctx [(.int .i64)] [(.tmp 2)]) (encD [(1, (.box [.d (.int .i64), .d .bool, .d (.int .i64), .d .str, .d (.sl (.st 2)), .d (.sl .str)])), (36, (.d (.sl .str))), (37, (.d (.int .i64))), (38, (.d (.int .i64)))] (x1_0, x1_1, x1_2, x1_3, x1_4, x1_5, x36, x37, x38, ()) (startD sg.U ⟨59, [], []⟩ [(1, (.box [.d (.int .i64), .d .bool, .d (.int .i64), .d .str, .d (.sl (.st 2)), .d (.sl .str)])), (36, (.d (.sl .str))), (37, (.d (.int .i64))), (38, (.d (.int .i64)))])) := by
  rw [conf_valueFault.l1]
  kernel_rfl
theorem conf_valueFault.f_eq (k : Nat) (a0 : T_api_Value) : conf_valueFault.f k a0 = codeK (C := ctx) (conf_valueFault.O k) ⟨59, [], []⟩ (conf_valueFault.L k) (Tryd.f63.body.getD .skip) conf_valueFault.a (endK ctx [(.int .i64)] [(.tmp 2)]) (slotsOf sg.U 0 [(.d (.st 2))] (a0, ()) (empty sg.U)) := by
  unfold conf_valueFault.f
  kernel_rfl
def conf_valueFault.e (k : Nat) : Entry sg := entryOf sg [(.d (.st 2))] [(.int .i64)] (fun h => conf_valueFault.f k h.1)
def conf_valueFault.T : List (Lb sg (RT sg.U [(.int .i64)])) := [⟨0, [(1, (.box [.d (.int .i64), .d .bool, .d (.int .i64), .d .str, .d (.sl (.st 2)), .d (.sl .str)])), (17, (.d .bool))], fun k h => conf_valueFault.l0 k h.1 h.2.1 h.2.2.1 h.2.2.2.1 h.2.2.2.2.1 h.2.2.2.2.2.1 h.2.2.2.2.2.2.1⟩, ⟨1, [(1, (.box [.d (.int .i64), .d .bool, .d (.int .i64), .d .str, .d (.sl (.st 2)), .d (.sl .str)])), (36, (.d (.sl .str))), (37, (.d (.int .i64))), (38, (.d (.int .i64)))], fun k h => conf_valueFault.l1 k h.1 h.2.1 h.2.2.1 h.2.2.2.1 h.2.2.2.2.1 h.2.2.2.2.2.1 h.2.2.2.2.2.2.1 h.2.2.2.2.2.2.2.1 h.2.2.2.2.2.2.2.2.1⟩]
theorem conf_valueFault.ok (k : Nat) : (conf_valueFault.e k).Sound Tryd.prog ctx 63 :=
  entry_ok base_ok mo (fn := Tryd.f63) (b := (Tryd.f63.body.getD .skip)) (pm := [(.d (.st 2))]) (rs := [(.int .i64)]) (an := conf_valueFault.a) (N := 59) (vars := [(.tmp 2)]) Tryd.func63 (by kernel_rfl) (by kernel_rfl) (by kernel_rfl) (by kernel_rfl) (by kernel_rfl) (by kernel_rfl) (O := conf_valueFault.O)
    (fun k => by unfold conf_valueFault.O; exact oracle_of (P := Tryd.prog) (C := ctx) ⟨(conf_badBytes.ok k), ⟨(conf_isKey.ok k), ⟨(conf_unused.ok k), ⟨(conf_badDay.ok), trivial⟩⟩⟩⟩) conf_valueFault.T ⟨⟨by kernel_rfl, fun _ => by first | rfl | rw [conf_valueFault.l0], fun k h => conf_valueFault.l0_eq k h.1 h.2.1 h.2.2.1 h.2.2.2.1 h.2.2.2.2.1 h.2.2.2.2.2.1 h.2.2.2.2.2.2.1⟩, ⟨⟨by kernel_rfl, fun _ => by first | rfl | rw [conf_valueFault.l1], fun k h => conf_valueFault.l1_eq k h.1 h.2.1 h.2.2.1 h.2.2.2.1 h.2.2.2.2.1 h.2.2.2.2.2.1 h.2.2.2.2.2.2.1 h.2.2.2.2.2.2.2.1 h.2.2.2.2.2.2.2.2.1⟩, trivial⟩⟩ k (fun h => conf_valueFault.f_eq k h.1)
mutual
def conf_valuesFault.l0 : Nat → (List T_api_Value) → Int → Int → Option (Int)
  | 0, _, _, _ => none
  | k + 1, x13, x14, x15 => (bif (ilt x15 x14) then ((lat x13 x15).bind fun y2 => ((conf_valuesFault.f k (T_api_Value.mk y2.fKind y2.fBool y2.fInt y2.fText y2.fItems y2.fKeys)).bind fun y3 => (bif (!ieq y3 0) then (some y3) else (conf_valuesFault.l0 k x13 x14 (wadd .i64 x15 1))))) else (some 0))
def conf_valuesFault.f : Nat → T_api_Value → Option (Int)
  | 0, _ => none
  | k + 1, a0 => ((conf_valueFault.f k (T_api_Value.mk a0.fKind a0.fBool a0.fInt a0.fText a0.fItems a0.fKeys)).bind fun y1 => (bif (!ieq y1 0) then (some y1) else (conf_valuesFault.l0 k a0.fItems (llen a0.fItems) 0)))
end
def conf_valuesFault.e (k : Nat) : Entry sg := entryOf sg [(.d (.st 2))] [(.int .i64)] (fun h => conf_valuesFault.f k h.1)
def conf_valuesFault.O (k : Nat) : Oracle sg := fun n => lkp n [(34, conf_valuesFault.e k), (63, conf_valueFault.e k)]
def conf_valuesFault.a : Ann := (.n .z (.n .z (.n (.n .z (.lp 0 .z)) .z)))
def conf_valuesFault.L (k : Nat) : Nat → St sg.U → Option (RT sg.U [(.int .i64)]) := labs [(0, labOf sg [(13, (.d (.sl (.st 2)))), (14, (.d (.int .i64))), (15, (.d (.int .i64)))] (fun h => conf_valuesFault.l0 k h.1 h.2.1 h.2.2.1))]
theorem conf_valuesFault.l0_eq (k : Nat) (x13 : (List T_api_Value)) (x14 : Int) (x15 : Int) : conf_valuesFault.l0 (k + 1) x13 x14 x15 = runFrom (C := ctx) (conf_valuesFault.O k) ⟨25, [], []⟩ (conf_valuesFault.L k) (Tryd.f34.body.getD .skip) conf_valuesFault.a 0 (endK ctx [(.int .i64)] [(.tmp 2)]) (encD [(13, (.d (.sl (.st 2)))), (14, (.d (.int .i64))), (15, (.d (.int .i64)))] (x13, x14, x15, ()) (startD sg.U ⟨25, [], []⟩ [(13, (.d (.sl (.st 2)))), (14, (.d (.int .i64))), (15, (.d (.int .i64)))])) := by
  rw [conf_valuesFault.l0]
  kernel_rfl
theorem conf_valuesFault.f_eq (k : Nat) (a0 : T_api_Value) : conf_valuesFault.f (k + 1) a0 = codeK (C := ctx) (conf_valuesFault.O k) ⟨25, [], []⟩ (conf_valuesFault.L k) (Tryd.f34.body.getD .skip) conf_valuesFault.a (endK ctx [(.int .i64)] [(.tmp 2)]) (slotsOf sg.U 0 [(.d (.st 2))] (a0, ()) (empty sg.U)) := by
  rw [conf_valuesFault.f]
  kernel_rfl
def conf_valuesFault.T : List (Lb sg (RT sg.U [(.int .i64)])) := [⟨0, [(13, (.d (.sl (.st 2)))), (14, (.d (.int .i64))), (15, (.d (.int .i64)))], fun k h => conf_valuesFault.l0 k h.1 h.2.1 h.2.2.1⟩]
theorem conf_valuesFault.ok : ∀ k : Nat, (conf_valuesFault.e k).Sound Tryd.prog ctx 34 :=
  entry_rec base_ok mo (fn := Tryd.f34) (b := (Tryd.f34.body.getD .skip)) (pm := [(.d (.st 2))]) (rs := [(.int .i64)]) (an := conf_valuesFault.a) (N := 25) (vars := [(.tmp 2)]) Tryd.func34 (by kernel_rfl) (by kernel_rfl) (by kernel_rfl) (by kernel_rfl) (by kernel_rfl) (by kernel_rfl) (O := conf_valuesFault.O) conf_valuesFault.T ⟨⟨by kernel_rfl, fun _ => by first | rfl | rw [conf_valuesFault.l0], fun k h => conf_valuesFault.l0_eq k h.1 h.2.1 h.2.2.1⟩, trivial⟩ (F := fun k h => conf_valuesFault.f k h.1) (fun _ => by first | rfl | rw [conf_valuesFault.f]) (fun k h => conf_valuesFault.f_eq k h.1)
    (fun k own => by unfold conf_valuesFault.O; exact oracle_of (P := Tryd.prog) (C := ctx) ⟨own, ⟨(conf_valueFault.ok k), trivial⟩⟩)
def conf_Check.f (k : Nat) (a0 : T_api_Value) : Option (Int) := ((conf_count.f k (T_api_Value.mk a0.fKind a0.fBool a0.fInt a0.fText a0.fItems a0.fKeys)).bind fun y1 => (bif (ilt 1000 y1) then (some 4) else ((conf_levels.f k (T_api_Value.mk a0.fKind a0.fBool a0.fInt a0.fText a0.fItems a0.fKeys)).bind fun y2 => (bif (ilt 8 y2) then (some 13) else ((conf_valuesFault.f k (T_api_Value.mk a0.fKind a0.fBool a0.fInt a0.fText a0.fItems a0.fKeys)).bind fun y3 => (some y3))))))
def conf_Check.O (k : Nat) : Oracle sg := fun n => lkp n [(32, conf_count.e k), (33, conf_levels.e k), (34, conf_valuesFault.e k)]
def conf_Check.a : Ann := .z
def conf_Check.L (k : Nat) : Nat → St sg.U → Option (RT sg.U [(.int .i64)]) := labs []
theorem conf_Check.f_eq (k : Nat) (a0 : T_api_Value) : conf_Check.f k a0 = codeK (C := ctx) (conf_Check.O k) ⟨11, [], []⟩ (conf_Check.L k) (Tryd.f18.body.getD .skip) conf_Check.a (endK ctx [(.int .i64)] [(.tmp 2)]) (slotsOf sg.U 0 [(.d (.st 2))] (a0, ()) (empty sg.U)) := by
  unfold conf_Check.f
  kernel_rfl
def conf_Check.e (k : Nat) : Entry sg := entryOf sg [(.d (.st 2))] [(.int .i64)] (fun h => conf_Check.f k h.1)
def conf_Check.T : List (Lb sg (RT sg.U [(.int .i64)])) := []
theorem conf_Check.ok (k : Nat) : (conf_Check.e k).Sound Tryd.prog ctx 18 :=
  entry_ok base_ok mo (fn := Tryd.f18) (b := (Tryd.f18.body.getD .skip)) (pm := [(.d (.st 2))]) (rs := [(.int .i64)]) (an := conf_Check.a) (N := 11) (vars := [(.tmp 2)]) Tryd.func18 (by kernel_rfl) (by kernel_rfl) (by kernel_rfl) (by kernel_rfl) (by kernel_rfl) (by kernel_rfl) (O := conf_Check.O)
    (fun k => by unfold conf_Check.O; exact oracle_of (P := Tryd.prog) (C := ctx) ⟨(conf_count.ok k), ⟨(conf_levels.ok k), ⟨(conf_valuesFault.ok k), trivial⟩⟩⟩) conf_Check.T trivial k (fun h => conf_Check.f_eq k h.1)
def conf_hasStar.l0 : Nat → (List T_conf_step) → Int → Int → Option (Bool)
  | 0, _, _, _ => none
  | k + 1, x5, x6, x7 => (bif (ilt x7 x6) then ((lat x5 x7).bind fun y1 => (bif y1.fstar then (some true) else (conf_hasStar.l0 k x5 x6 (wadd .i64 x7 1)))) else (some false))
def conf_hasStar.f (k : Nat) (a0 : (List T_conf_step)) : Option (Bool) := (conf_hasStar.l0 k a0 (llen a0) 0)
def conf_hasStar.O (k : Nat) : Oracle sg := fun n => lkp n []
def conf_hasStar.a : Ann := (.n .z (.n (.n .z (.lp 0 .z)) .z))
def conf_hasStar.L (k : Nat) : Nat → St sg.U → Option (RT sg.U [.bool]) := labs [(0, labOf sg [(5, (.d (.sl (.st 3)))), (6, (.d (.int .i64))), (7, (.d (.int .i64)))] (fun h => conf_hasStar.l0 k h.1 h.2.1 h.2.2.1))]
theorem conf_hasStar.l0_eq (k : Nat) (x5 : (List T_conf_step)) (x6 : Int) (x7 : Int) : conf_hasStar.l0 (k + 1) x5 x6 x7 = runFrom (C := ctx) (conf_hasStar.O k) ⟨14, [], []⟩ (conf_hasStar.L k) (Tryd.f47.body.getD .skip) conf_hasStar.a 0 (endK ctx [.bool] [(.tmp 2)]) (encD [(5, (.d (.sl (.st 3)))), (6, (.d (.int .i64))), (7, (.d (.int .i64)))] (x5, x6, x7, ()) (startD sg.U ⟨14, [], []⟩ [(5, (.d (.sl (.st 3)))), (6, (.d (.int .i64))), (7, (.d (.int .i64)))])) := by
  rw [conf_hasStar.l0]
  kernel_rfl
theorem conf_hasStar.f_eq (k : Nat) (a0 : (List T_conf_step)) : conf_hasStar.f k a0 = codeK (C := ctx) (conf_hasStar.O k) ⟨14, [], []⟩ (conf_hasStar.L k) (Tryd.f47.body.getD .skip) conf_hasStar.a (endK ctx [.bool] [(.tmp 2)]) (slotsOf sg.U 0 [(.d (.sl (.st 3)))] (a0, ()) (empty sg.U)) := by
  unfold conf_hasStar.f
  kernel_rfl
def conf_hasStar.e (k : Nat) : Entry sg := entryOf sg [(.d (.sl (.st 3)))] [.bool] (fun h => conf_hasStar.f k h.1)
def conf_hasStar.T : List (Lb sg (RT sg.U [.bool])) := [⟨0, [(5, (.d (.sl (.st 3)))), (6, (.d (.int .i64))), (7, (.d (.int .i64)))], fun k h => conf_hasStar.l0 k h.1 h.2.1 h.2.2.1⟩]
theorem conf_hasStar.ok (k : Nat) : (conf_hasStar.e k).Sound Tryd.prog ctx 47 :=
  entry_ok base_ok mo (fn := Tryd.f47) (b := (Tryd.f47.body.getD .skip)) (pm := [(.d (.sl (.st 3)))]) (rs := [.bool]) (an := conf_hasStar.a) (N := 14) (vars := [(.tmp 2)]) Tryd.func47 (by kernel_rfl) (by kernel_rfl) (by kernel_rfl) (by kernel_rfl) (by kernel_rfl) (by kernel_rfl) (O := conf_hasStar.O)
    (fun k => by unfold conf_hasStar.O; exact oracle_of (P := Tryd.prog) (C := ctx) trivial) conf_hasStar.T ⟨⟨by kernel_rfl, fun _ => by first | rfl | rw [conf_hasStar.l0], fun k h => conf_hasStar.l0_eq k h.1 h.2.1 h.2.2.1⟩, trivial⟩ k (fun h => conf_hasStar.f_eq k h.1)
def conf_fieldFault.l0 : Nat → (List ByteArray) → (List Bool) → ByteArray → Int → Bool → Bool → Int → Int → (List ByteArray) → Int → Bool → Int → ByteArray → (List T_api_Value) → (List ByteArray) → (List T_conf_step) → (List ByteArray) → Int → Int → Option (Int × (List ByteArray) × (List Bool) × Unit)
  | 0, _, _, _, _, _, _, _, _, _, _, _, _, _, _, _, _, _, _, _ => none
  | k + 1, x1k, x1v, x2_0, x2_1, x2_2, x2_3, x2_4, x2_5, x2_6, x2_7, x2_8, x2_9, x2_10, x2_11, x2_12, x5, x74, x75, x76 => (bif (ilt x76 x75) then ((lat x74 x76).bind fun y2 => (bif (ilt 5000 (slen y2)) then (some (4, (x1k, x1v, ()))) else ((conf_badBytes.f k y2).bind fun y3 => (bif y3 then (some (9, (x1k, x1v, ()))) else (conf_fieldFault.l0 k x1k x1v x2_0 x2_1 x2_2 x2_3 x2_4 x2_5 x2_6 x2_7 x2_8 x2_9 x2_10 x2_11 x2_12 x5 x74 x75 (wadd .i64 x76 1)))))) else ((conf_Check.f k (T_api_Value.mk x2_7 x2_8 x2_9 x2_10 x2_11 x2_12)).bind fun y4 => (bif (!ieq y4 0) then (some (y4, (x1k, x1v, ()))) else (bif (bif (bif (!ieq x2_7 0) then (!ieq x2_1 (-1)) else false) then (!ieq x2_7 x2_1) else false) then (some (10, (x1k, x1v, ()))) else (bif (!ieq x2_7 0) then ((conf_hasStar.f k x5).bind fun y5 => (bif y5 then (some (1, (x1k, x1v, ()))) else (some (0, (x1k, x1v, ()))))) else (some (0, (x1k, x1v, ()))))))))
def conf_fieldFault.f (k : Nat) (a0 : T_conf_Field) (a1k : (List ByteArray)) (a1v : (List Bool)) : Option (Int × (List ByteArray) × (List Bool) × Unit) := ((conf_steps.f k a0.fRoute true).bind fun y1 => (bif (bif (!y1.2) then true else (ieq (llen y1.1) 0)) then (some (3, (a1k, a1v, ()))) else (bif ((mget seq a1k a1v a0.fRoute).getD false) then (some (6, (a1k, a1v, ()))) else (bif (bif (!ieq a0.fKind (-1)) then (bif (ilt a0.fKind 0) then true else (ilt 6 a0.fKind)) else false) then (some (10, (a1k, a1v, ()))) else (bif (bif (!a0.fBounded) then (bif (!ieq a0.fMin 0) then true else (!ieq a0.fMax 0)) else false) then (some (1, (a1k, a1v, ()))) else (bif (ilt a0.fMax a0.fMin) then (some (5, (a1k, a1v, ()))) else (bif (bif (ilt 0 (llen a0.fOneOf)) then (!ieq a0.fKind 3) else false) then (some (1, (a1k, a1v, ()))) else (conf_fieldFault.l0 k a1k a1v a0.fRoute a0.fKind a0.fNeed a0.fBounded a0.fMin a0.fMax a0.fOneOf a0.fDefault.fKind a0.fDefault.fBool a0.fDefault.fInt a0.fDefault.fText a0.fDefault.fItems a0.fDefault.fKeys y1.1 a0.fOneOf (llen a0.fOneOf) 0))))))))
def conf_fieldFault.O (k : Nat) : Oracle sg := fun n => lkp n [(18, conf_Check.e k), (45, conf_steps.e k), (46, conf_badBytes.e k), (47, conf_hasStar.e k)]
def conf_fieldFault.a : Ann := (.n .z (.n .z (.n .z (.n (.n .z (.lp 0 .z)) .z))))
def conf_fieldFault.L (k : Nat) : Nat → St sg.U → Option (RT sg.U [(.int .i64)] × HL sg.U (PM.outs [(.d (.st 1)), (.mp .str .bool)])) := labs [(0, labOf sg [(1, (.mp .str .bool)), (2, (.box [.d .str, .d (.int .i64), .d .bool, .d .bool, .d (.int .i64), .d (.int .i64), .d (.sl .str), .d (.int .i64), .d .bool, .d (.int .i64), .d .str, .d (.sl (.st 2)), .d (.sl .str)])), (5, (.d (.sl (.st 3)))), (74, (.d (.sl .str))), (75, (.d (.int .i64))), (76, (.d (.int .i64)))] (fun h => conf_fieldFault.l0 k h.1 h.2.1 h.2.2.1 h.2.2.2.1 h.2.2.2.2.1 h.2.2.2.2.2.1 h.2.2.2.2.2.2.1 h.2.2.2.2.2.2.2.1 h.2.2.2.2.2.2.2.2.1 h.2.2.2.2.2.2.2.2.2.1 h.2.2.2.2.2.2.2.2.2.2.1 h.2.2.2.2.2.2.2.2.2.2.2.1 h.2.2.2.2.2.2.2.2.2.2.2.2.1 h.2.2.2.2.2.2.2.2.2.2.2.2.2.1 h.2.2.2.2.2.2.2.2.2.2.2.2.2.2.1 h.2.2.2.2.2.2.2.2.2.2.2.2.2.2.2.1 h.2.2.2.2.2.2.2.2.2.2.2.2.2.2.2.2.1 h.2.2.2.2.2.2.2.2.2.2.2.2.2.2.2.2.2.1 h.2.2.2.2.2.2.2.2.2.2.2.2.2.2.2.2.2.2.1))]
theorem conf_fieldFault.l0_eq (k : Nat) (x1k : (List ByteArray)) (x1v : (List Bool)) (x2_0 : ByteArray) (x2_1 : Int) (x2_2 : Bool) (x2_3 : Bool) (x2_4 : Int) (x2_5 : Int) (x2_6 : (List ByteArray)) (x2_7 : Int) (x2_8 : Bool) (x2_9 : Int) (x2_10 : ByteArray) (x2_11 : (List T_api_Value)) (x2_12 : (List ByteArray)) (x5 : (List T_conf_step)) (x74 : (List ByteArray)) (x75 : Int) (x76 : Int) : conf_fieldFault.l0 (k + 1) x1k x1v x2_0 x2_1 x2_2 x2_3 x2_4 x2_5 x2_6 x2_7 x2_8 x2_9 x2_10 x2_11 x2_12 x5 x74 x75 x76 = runFrom (C := ctx) (conf_fieldFault.O k) ⟨117, [1], []⟩ (conf_fieldFault.L k) (Tryd.f24.body.getD .skip) conf_fieldFault.a 0 (endR ctx [(.int .i64)] [(.tmp 4)] [(.d (.st 1)), (.mp .str .bool)]) (encD [(1, (.mp .str .bool)), (2, (.box [.d .str, .d (.int .i64), .d .bool, .d .bool, .d (.int .i64), .d (.int .i64), .d (.sl .str), .d (.int .i64), .d .bool, .d (.int .i64), .d .str, .d (.sl (.st 2)), .d (.sl .str)])), (5, (.d (.sl (.st 3)))), (74, (.d (.sl .str))), (75, (.d (.int .i64))), (76, (.d (.int .i64)))] (x1k, x1v, x2_0, x2_1, x2_2, x2_3, x2_4, x2_5, x2_6, x2_7, x2_8, x2_9, x2_10, x2_11, x2_12, x5, x74, x75, x76, ()) (startD sg.U ⟨117, [1], []⟩ [(1, (.mp .str .bool)), (2, (.box [.d .str, .d (.int .i64), .d .bool, .d .bool, .d (.int .i64), .d (.int .i64), .d (.sl .str), .d (.int .i64), .d .bool, .d (.int .i64), .d .str, .d (.sl (.st 2)), .d (.sl .str)])), (5, (.d (.sl (.st 3)))), (74, (.d (.sl .str))), (75, (.d (.int .i64))), (76, (.d (.int .i64)))])) := by
  rw [conf_fieldFault.l0]
  kernel_rfl
theorem conf_fieldFault.f_eq (k : Nat) (a0 : T_conf_Field) (a1k : (List ByteArray)) (a1v : (List Bool)) : conf_fieldFault.f k a0 a1k a1v = codeK (C := ctx) (conf_fieldFault.O k) ⟨117, [1], []⟩ (conf_fieldFault.L k) (Tryd.f24.body.getD .skip) conf_fieldFault.a (endR ctx [(.int .i64)] [(.tmp 4)] [(.d (.st 1)), (.mp .str .bool)]) (slotsOf sg.U 0 [(.d (.st 1)), (.mp .str .bool)] (a0, a1k, a1v, ()) (emptyG sg.U (PM.gs [(.d (.st 1)), (.mp .str .bool)]))) := by
  unfold conf_fieldFault.f
  kernel_rfl
def conf_fieldFault.e (k : Nat) : Entry sg := entryR sg [(.d (.st 1)), (.mp .str .bool)] [(.int .i64)] (fun h => conf_fieldFault.f k h.1 h.2.1 h.2.2.1)
def conf_fieldFault.T : List (Lb sg (RT sg.U [(.int .i64)] × HL sg.U (PM.outs [(.d (.st 1)), (.mp .str .bool)]))) := [⟨0, [(1, (.mp .str .bool)), (2, (.box [.d .str, .d (.int .i64), .d .bool, .d .bool, .d (.int .i64), .d (.int .i64), .d (.sl .str), .d (.int .i64), .d .bool, .d (.int .i64), .d .str, .d (.sl (.st 2)), .d (.sl .str)])), (5, (.d (.sl (.st 3)))), (74, (.d (.sl .str))), (75, (.d (.int .i64))), (76, (.d (.int .i64)))], fun k h => conf_fieldFault.l0 k h.1 h.2.1 h.2.2.1 h.2.2.2.1 h.2.2.2.2.1 h.2.2.2.2.2.1 h.2.2.2.2.2.2.1 h.2.2.2.2.2.2.2.1 h.2.2.2.2.2.2.2.2.1 h.2.2.2.2.2.2.2.2.2.1 h.2.2.2.2.2.2.2.2.2.2.1 h.2.2.2.2.2.2.2.2.2.2.2.1 h.2.2.2.2.2.2.2.2.2.2.2.2.1 h.2.2.2.2.2.2.2.2.2.2.2.2.2.1 h.2.2.2.2.2.2.2.2.2.2.2.2.2.2.1 h.2.2.2.2.2.2.2.2.2.2.2.2.2.2.2.1 h.2.2.2.2.2.2.2.2.2.2.2.2.2.2.2.2.1 h.2.2.2.2.2.2.2.2.2.2.2.2.2.2.2.2.2.1 h.2.2.2.2.2.2.2.2.2.2.2.2.2.2.2.2.2.2.1⟩]
theorem conf_fieldFault.ok (k : Nat) : (conf_fieldFault.e k).Sound Tryd.prog ctx 24 :=
  entryR_ok base_ok mo (fn := Tryd.f24) (b := (Tryd.f24.body.getD .skip)) (pm := [(.d (.st 1)), (.mp .str .bool)]) (rs := [(.int .i64)]) (an := conf_fieldFault.a) (N := 117) (vars := [(.tmp 4)]) Tryd.func24 (by kernel_rfl) (by kernel_rfl) (by kernel_rfl) (by kernel_rfl) (by kernel_rfl) (by kernel_rfl) (by kernel_rfl) (by kernel_rfl) (O := conf_fieldFault.O)
    (fun k => by unfold conf_fieldFault.O; exact oracle_of (P := Tryd.prog) (C := ctx) ⟨(conf_Check.ok k), ⟨(conf_steps.ok k), ⟨(conf_badBytes.ok k), ⟨(conf_hasStar.ok k), trivial⟩⟩⟩⟩) conf_fieldFault.T ⟨⟨by kernel_rfl, fun _ => by first | rfl | rw [conf_fieldFault.l0], fun k h => conf_fieldFault.l0_eq k h.1 h.2.1 h.2.2.1 h.2.2.2.1 h.2.2.2.2.1 h.2.2.2.2.2.1 h.2.2.2.2.2.2.1 h.2.2.2.2.2.2.2.1 h.2.2.2.2.2.2.2.2.1 h.2.2.2.2.2.2.2.2.2.1 h.2.2.2.2.2.2.2.2.2.2.1 h.2.2.2.2.2.2.2.2.2.2.2.1 h.2.2.2.2.2.2.2.2.2.2.2.2.1 h.2.2.2.2.2.2.2.2.2.2.2.2.2.1 h.2.2.2.2.2.2.2.2.2.2.2.2.2.2.1 h.2.2.2.2.2.2.2.2.2.2.2.2.2.2.2.1 h.2.2.2.2.2.2.2.2.2.2.2.2.2.2.2.2.1 h.2.2.2.2.2.2.2.2.2.2.2.2.2.2.2.2.2.1 h.2.2.2.2.2.2.2.2.2.2.2.2.2.2.2.2.2.2.1⟩, trivial⟩ k (fun h => conf_fieldFault.f_eq k h.1 h.2.1 h.2.2.1)
def conf_CheckSchema.l0 : Nat → (List ByteArray) → (List Bool) → (List T_conf_Field) → Int → Int → Option (Int)
  | 0, _, _, _, _, _ => none
  | k + 1, x3k, x3v, x13, x14, x15 => (bif (ilt x15 x14) then ((lat x13 x15).bind fun y1 => ((conf_fieldFault.f k (T_conf_Field.mk y1.fRoute y1.fKind y1.fNeed y1.fBounded y1.fMin y1.fMax y1.fOneOf (T_api_Value.mk y1.fDefault.fKind y1.fDefault.fBool y1.fDefault.fInt y1.fDefault.fText y1.fDefault.fItems y1.fDefault.fKeys)) x3k x3v).bind fun y2 => (bif (!ieq y2.1 0) then (some y2.1) else (let y3 : List ByteArray := mputK seq y2.2.1 y1.fRoute; let y4 : List Bool := mputV seq y2.2.1 y2.2.2.1 y1.fRoute true; (conf_CheckSchema.l0 k y3 y4 x13 x14 (wadd .i64 x15 1)))))) else (some 0))
def conf_CheckSchema.f (k : Nat) (a0 : T_conf_Schema) : Option (Int) := (bif (ilt 100 (llen a0.fFields)) then (some 4) else (conf_CheckSchema.l0 k [] [] a0.fFields (llen a0.fFields) 0))
def conf_CheckSchema.O (k : Nat) : Oracle sg := fun n => lkp n [(24, conf_fieldFault.e k)]
def conf_CheckSchema.a : Ann := (.n .z (.n .z (.n .z (.n (.n .z (.lp 0 .z)) .z))))
def conf_CheckSchema.L (k : Nat) : Nat → St sg.U → Option (RT sg.U [(.int .i64)]) := labs [(0, labOf sg [(3, (.mp .str .bool)), (13, (.d (.sl (.st 1)))), (14, (.d (.int .i64))), (15, (.d (.int .i64)))] (fun h => conf_CheckSchema.l0 k h.1 h.2.1 h.2.2.1 h.2.2.2.1 h.2.2.2.2.1))]
theorem conf_CheckSchema.l0_eq (k : Nat) (x3k : (List ByteArray)) (x3v : (List Bool)) (x13 : (List T_conf_Field)) (x14 : Int) (x15 : Int) : conf_CheckSchema.l0 (k + 1) x3k x3v x13 x14 x15 = runFrom (C := ctx) (conf_CheckSchema.O k) ⟨29, [], []⟩ (conf_CheckSchema.L k) (Tryd.f11.body.getD .skip) conf_CheckSchema.a 0 (endK ctx [(.int .i64)] [(.tmp 2)]) (encD [(3, (.mp .str .bool)), (13, (.d (.sl (.st 1)))), (14, (.d (.int .i64))), (15, (.d (.int .i64)))] (x3k, x3v, x13, x14, x15, ()) (startD sg.U ⟨29, [], []⟩ [(3, (.mp .str .bool)), (13, (.d (.sl (.st 1)))), (14, (.d (.int .i64))), (15, (.d (.int .i64)))])) := by
  rw [conf_CheckSchema.l0]
  kernel_rfl
theorem conf_CheckSchema.f_eq (k : Nat) (a0 : T_conf_Schema) : conf_CheckSchema.f k a0 = codeK (C := ctx) (conf_CheckSchema.O k) ⟨29, [], []⟩ (conf_CheckSchema.L k) (Tryd.f11.body.getD .skip) conf_CheckSchema.a (endK ctx [(.int .i64)] [(.tmp 2)]) (slotsOf sg.U 0 [(.d (.st 0))] (a0, ()) (empty sg.U)) := by
  unfold conf_CheckSchema.f
  kernel_rfl
def conf_CheckSchema.e (k : Nat) : Entry sg := entryOf sg [(.d (.st 0))] [(.int .i64)] (fun h => conf_CheckSchema.f k h.1)
def conf_CheckSchema.T : List (Lb sg (RT sg.U [(.int .i64)])) := [⟨0, [(3, (.mp .str .bool)), (13, (.d (.sl (.st 1)))), (14, (.d (.int .i64))), (15, (.d (.int .i64)))], fun k h => conf_CheckSchema.l0 k h.1 h.2.1 h.2.2.1 h.2.2.2.1 h.2.2.2.2.1⟩]
theorem conf_CheckSchema.ok (k : Nat) : (conf_CheckSchema.e k).Sound Tryd.prog ctx 11 :=
  entry_ok base_ok mo (fn := Tryd.f11) (b := (Tryd.f11.body.getD .skip)) (pm := [(.d (.st 0))]) (rs := [(.int .i64)]) (an := conf_CheckSchema.a) (N := 29) (vars := [(.tmp 2)]) Tryd.func11 (by kernel_rfl) (by kernel_rfl) (by kernel_rfl) (by kernel_rfl) (by kernel_rfl) (by kernel_rfl) (O := conf_CheckSchema.O)
    (fun k => by unfold conf_CheckSchema.O; exact oracle_of (P := Tryd.prog) (C := ctx) ⟨(conf_fieldFault.ok k), trivial⟩) conf_CheckSchema.T ⟨⟨by kernel_rfl, fun _ => by first | rfl | rw [conf_CheckSchema.l0], fun k h => conf_CheckSchema.l0_eq k h.1 h.2.1 h.2.2.1 h.2.2.2.1 h.2.2.2.2.1⟩, trivial⟩ k (fun h => conf_CheckSchema.f_eq k h.1)
def strings_Trim.f (a0 : ByteArray) (a1 : ByteArray) : Option (ByteArray) := if a0.size ≤ 9223372036854775807 ∧ a1.size < 4294967281 ∧ (a1.data.toList.all fun b => decide (b.toNat < 128)) = true then some (⟨(Lib.trimS a0.data.toList a1.data.toList).toArray⟩) else none
def strings_Trim.e : Entry sg := entryOf sg [(.d .str), (.d .str)] [.str] (fun h => strings_Trim.f h.1 h.2.1)
theorem strings_Trim.ok : (strings_Trim.e).Sound Tryd.prog ctx 53 :=
  entry_extern (C := ctx) sg_ok Tryd.func53 (by kernel_rfl) (by kernel_rfl) (by kernel_rfl) (by kernel_rfl) (fun hh x w hx hG => by
    unfold strings_Trim.f at hx
    split at hx
    · rename_i c
      obtain rfl := Option.some.inj hx
      refine (Any.strings_Trim_laid Tryd.lays160 (by kernel_rfl) hh.1 hh.2.1 w c.1 c.2.1 (ascii_of_all c.2.2)).mono ?_
      rintro e w' ⟨rfl, hb⟩
      exact ⟨rfl, by first | exact hb ▸ Grow.refl _ | exact Grow.of_below hb | (obtain ⟨k, os, rfl⟩ := hb; exact Grow.of_below (Lib.below_grow _ w (Nat.le_refl _) k os))⟩
    · cases hx)
def mastref2_digitsAlone.f (a0 : ByteArray) : Option (Bool) := (bif (!seq a0 c_empty) then ((strings_Trim.f a0 c_0123456789).bind fun y1 => (some (seq y1 c_empty))) else (some false))
def mastref2_digitsAlone.O : Oracle sg := fun n => lkp n [(53, strings_Trim.e)]
def mastref2_digitsAlone.a : Ann := .z
def mastref2_digitsAlone.L : Nat → St sg.U → Option (RT sg.U [.bool]) := labs []
theorem mastref2_digitsAlone.f_eq (a0 : ByteArray) : mastref2_digitsAlone.f a0 = codeK (C := ctx) (mastref2_digitsAlone.O) ⟨10, [], []⟩ (mastref2_digitsAlone.L) (Tryd.f27.body.getD .skip) mastref2_digitsAlone.a (endK ctx [.bool] [(.tmp 2)]) (slotsOf sg.U 0 [(.d .str)] (a0, ()) (empty sg.U)) := by
  unfold mastref2_digitsAlone.f
  kernel_rfl
def mastref2_digitsAlone.e : Entry sg := entryOf sg [(.d .str)] [.bool] (fun h => mastref2_digitsAlone.f h.1)
def mastref2_digitsAlone.T : List (Lb sg (RT sg.U [.bool])) := []
theorem mastref2_digitsAlone.ok : (mastref2_digitsAlone.e).Sound Tryd.prog ctx 27 :=
  entry_ok base_ok mo (fn := Tryd.f27) (b := (Tryd.f27.body.getD .skip)) (pm := [(.d .str)]) (rs := [.bool]) (an := mastref2_digitsAlone.a) (N := 10) (vars := [(.tmp 2)]) Tryd.func27 (by kernel_rfl) (by kernel_rfl) (by kernel_rfl) (by kernel_rfl) (by kernel_rfl) (by kernel_rfl) (O := fun _ => mastref2_digitsAlone.O)
    (fun _ => by unfold mastref2_digitsAlone.O; exact oracle_of (P := Tryd.prog) (C := ctx) ⟨(strings_Trim.ok), trivial⟩) mastref2_digitsAlone.T trivial 0 (fun h => mastref2_digitsAlone.f_eq h.1)
def mastref2_IsKey.f (a0 : ByteArray) : Option (Bool) := (bif (bif (seq a0 c_empty) then true else (ilt 40 (slen a0))) then (some false) else ((sat a0 0).bind fun y1 => (bif (ilt y1 97) then (some false) else ((sat a0 0).bind fun y2 => (bif (ilt 122 y2) then (some false) else ((strings_Trim.f a0 c_abcdefghijklmnopqrst_0e2e2cf4).bind fun y3 => (some (seq y3 c_empty))))))))
def mastref2_IsKey.O : Oracle sg := fun n => lkp n [(53, strings_Trim.e)]
def mastref2_IsKey.a : Ann := .z
def mastref2_IsKey.L : Nat → St sg.U → Option (RT sg.U [.bool]) := labs []
theorem mastref2_IsKey.f_eq (a0 : ByteArray) : mastref2_IsKey.f a0 = codeK (C := ctx) (mastref2_IsKey.O) ⟨23, [], []⟩ (mastref2_IsKey.L) (Tryd.f65.body.getD .skip) mastref2_IsKey.a (endK ctx [.bool] [(.tmp 2)]) (slotsOf sg.U 0 [(.d .str)] (a0, ()) (empty sg.U)) := by
  unfold mastref2_IsKey.f
  kernel_rfl
def mastref2_IsKey.e : Entry sg := entryOf sg [(.d .str)] [.bool] (fun h => mastref2_IsKey.f h.1)
def mastref2_IsKey.T : List (Lb sg (RT sg.U [.bool])) := []
theorem mastref2_IsKey.ok : (mastref2_IsKey.e).Sound Tryd.prog ctx 65 :=
  entry_ok base_ok mo (fn := Tryd.f65) (b := (Tryd.f65.body.getD .skip)) (pm := [(.d .str)]) (rs := [.bool]) (an := mastref2_IsKey.a) (N := 23) (vars := [(.tmp 2)]) Tryd.func65 (by kernel_rfl) (by kernel_rfl) (by kernel_rfl) (by kernel_rfl) (by kernel_rfl) (by kernel_rfl) (O := fun _ => mastref2_IsKey.O)
    (fun _ => by unfold mastref2_IsKey.O; exact oracle_of (P := Tryd.prog) (C := ctx) ⟨(strings_Trim.ok), trivial⟩) mastref2_IsKey.T trivial 0 (fun h => mastref2_IsKey.f_eq h.1)
mutual
def mastref2_RouteParts.l0 : Nat → Bool → (List ByteArray) → (List ByteArray) → Int → Int → Option ((List ByteArray) × Bool)
  | 0, _, _, _, _, _ => none
  | k + 1, x1, x6, x17, x18, x19 => (bif (ilt x19 x18) then ((lat x17 x19).bind fun y2 => ((mastref2_digitsAlone.f y2).bind fun y3 => (bif (bif y3 then (ile (slen y2) 4) else false) then ((sat y2 0).bind fun y4 => (mastref2_RouteParts.l1 k x1 x6 y2 (bif (!ieq y4 48) then true else (seq y2 c_0)) x17 x18 x19)) else (mastref2_RouteParts.l1 k x1 x6 y2 false x17 x18 x19)))) else (some (x6, true)))
def mastref2_RouteParts.l1 : Nat → Bool → (List ByteArray) → ByteArray → Bool → (List ByteArray) → Int → Int → Option ((List ByteArray) × Bool)
  | 0, _, _, _, _, _, _, _ => none
  | k + 1, x1, x6, x8, x9, x17, x18, x19 => (bif (!x9) then ((mastref2_IsKey.f x8).bind fun y5 => (bif (bif (!y5) then (!(bif x1 then (seq x8 c__2a) else false)) else false) then (some ([], false)) else (mastref2_RouteParts.l0 k x1 x6 x17 x18 (wadd .i64 x19 1)))) else (mastref2_RouteParts.l0 k x1 x6 x17 x18 (wadd .i64 x19 1)))
end
def mastref2_RouteParts.f (k : Nat) (a0 : ByteArray) (a1 : Bool) : Option ((List ByteArray) × Bool) := (bif (ilt 400 (slen a0)) then (some ([], false)) else (bif (seq a0 c_empty) then (some ([], true)) else ((strings_Split.f a0 c__2e).bind fun y1 => (mastref2_RouteParts.l0 k a1 y1 y1 (llen y1) 0))))
def mastref2_RouteParts.O (k : Nat) : Oracle sg := fun n => lkp n [(27, mastref2_digitsAlone.e), (65, mastref2_IsKey.e), (70, strings_Split.e)]
def mastref2_RouteParts.a : Ann := (.n .z (.n .z (.n .z (.n .z (.n (.n .z (.lp 0 (.n .z (.n .z (.n (.n .z (.n .z (.lab 1 .z))) .z))))) .z)))))
def mastref2_RouteParts.L (k : Nat) : Nat → St sg.U → Option (RT sg.U [(.sl .str), .bool]) := labs [(0, labOf sg [(1, (.d .bool)), (6, (.d (.sl .str))), (17, (.d (.sl .str))), (18, (.d (.int .i64))), (19, (.d (.int .i64)))] (fun h => mastref2_RouteParts.l0 k h.1 h.2.1 h.2.2.1 h.2.2.2.1 h.2.2.2.2.1)), (1, labOf sg [(1, (.d .bool)), (6, (.d (.sl .str))), (8, (.d .str)), (9, (.d .bool)), (17, (.d (.sl .str))), (18, (.d (.int .i64))), (19, (.d (.int .i64)))] (fun h => mastref2_RouteParts.l1 k h.1 h.2.1 h.2.2.1 h.2.2.2.1 h.2.2.2.2.1 h.2.2.2.2.2.1 h.2.2.2.2.2.2.1))]
theorem mastref2_RouteParts.l0_eq (k : Nat) (x1 : Bool) (x6 : (List ByteArray)) (x17 : (List ByteArray)) (x18 : Int) (x19 : Int) : mastref2_RouteParts.l0 (k + 1) x1 x6 x17 x18 x19 = runFrom (C := ctx) (mastref2_RouteParts.O k) ⟨56, [], []⟩ (mastref2_RouteParts.L k) (Tryd.f48.body.getD .skip) mastref2_RouteParts.a 0 (endK ctx [(.sl .str), .bool] [(.tmp 4), (.tmp 5)]) (encD [(1, (.d .bool)), (6, (.d (.sl .str))), (17, (.d (.sl .str))), (18, (.d (.int .i64))), (19, (.d (.int .i64)))] (x1, x6, x17, x18, x19, ()) (startD sg.U ⟨56, [], []⟩ [(1, (.d .bool)), (6, (.d (.sl .str))), (17, (.d (.sl .str))), (18, (.d (.int .i64))), (19, (.d (.int .i64)))])) := by
  rw [mastref2_RouteParts.l0]
  kernel_rfl
theorem mastref2_RouteParts.l1_eq (k : Nat) (x1 : Bool) (x6 : (List ByteArray)) (x8 : ByteArray) (x9 : Bool) (x17 : (List ByteArray)) (x18 : Int) (x19 : Int) : mastref2_RouteParts.l1 (k + 1) x1 x6 x8 x9 x17 x18 x19 = runFrom (C := ctx) (mastref2_RouteParts.O k) ⟨56, [], []⟩ (mastref2_RouteParts.L k) (Tryd.f48.body.getD .skip) mastref2_RouteParts.a 1 (endK ctx [(.sl .str), .bool] [(.tmp 4), (.tmp 5)]) (encD [(1, (.d .bool)), (6, (.d (.sl .str))), (8, (.d .str)), (9, (.d .bool)), (17, (.d (.sl .str))), (18, (.d (.int .i64))), (19, (.d (.int .i64)))] (x1, x6, x8, x9, x17, x18, x19, ()) (startD sg.U ⟨56, [], []⟩ [(1, (.d .bool)), (6, (.d (.sl .str))), (8, (.d .str)), (9, (.d .bool)), (17, (.d (.sl .str))), (18, (.d (.int .i64))), (19, (.d (.int .i64)))])) := by
  rw [mastref2_RouteParts.l1]
  kernel_rfl
theorem mastref2_RouteParts.f_eq (k : Nat) (a0 : ByteArray) (a1 : Bool) : mastref2_RouteParts.f k a0 a1 = codeK (C := ctx) (mastref2_RouteParts.O k) ⟨56, [], []⟩ (mastref2_RouteParts.L k) (Tryd.f48.body.getD .skip) mastref2_RouteParts.a (endK ctx [(.sl .str), .bool] [(.tmp 4), (.tmp 5)]) (slotsOf sg.U 0 [(.d .str), (.d .bool)] (a0, a1, ()) (empty sg.U)) := by
  unfold mastref2_RouteParts.f
  kernel_rfl
def mastref2_RouteParts.e (k : Nat) : Entry sg := entryOf sg [(.d .str), (.d .bool)] [(.sl .str), .bool] (fun h => mastref2_RouteParts.f k h.1 h.2.1)
def mastref2_RouteParts.T : List (Lb sg (RT sg.U [(.sl .str), .bool])) := [⟨0, [(1, (.d .bool)), (6, (.d (.sl .str))), (17, (.d (.sl .str))), (18, (.d (.int .i64))), (19, (.d (.int .i64)))], fun k h => mastref2_RouteParts.l0 k h.1 h.2.1 h.2.2.1 h.2.2.2.1 h.2.2.2.2.1⟩, ⟨1, [(1, (.d .bool)), (6, (.d (.sl .str))), (8, (.d .str)), (9, (.d .bool)), (17, (.d (.sl .str))), (18, (.d (.int .i64))), (19, (.d (.int .i64)))], fun k h => mastref2_RouteParts.l1 k h.1 h.2.1 h.2.2.1 h.2.2.2.1 h.2.2.2.2.1 h.2.2.2.2.2.1 h.2.2.2.2.2.2.1⟩]
theorem mastref2_RouteParts.ok (k : Nat) : (mastref2_RouteParts.e k).Sound Tryd.prog ctx 48 :=
  entry_ok base_ok mo (fn := Tryd.f48) (b := (Tryd.f48.body.getD .skip)) (pm := [(.d .str), (.d .bool)]) (rs := [(.sl .str), .bool]) (an := mastref2_RouteParts.a) (N := 56) (vars := [(.tmp 4), (.tmp 5)]) Tryd.func48 (by kernel_rfl) (by kernel_rfl) (by kernel_rfl) (by kernel_rfl) (by kernel_rfl) (by kernel_rfl) (O := mastref2_RouteParts.O)
    (fun k => by unfold mastref2_RouteParts.O; exact oracle_of (P := Tryd.prog) (C := ctx) ⟨(mastref2_digitsAlone.ok), ⟨(mastref2_IsKey.ok), ⟨(strings_Split.ok), trivial⟩⟩⟩) mastref2_RouteParts.T ⟨⟨by kernel_rfl, fun _ => by first | rfl | rw [mastref2_RouteParts.l0], fun k h => mastref2_RouteParts.l0_eq k h.1 h.2.1 h.2.2.1 h.2.2.2.1 h.2.2.2.2.1⟩, ⟨⟨by kernel_rfl, fun _ => by first | rfl | rw [mastref2_RouteParts.l1], fun k h => mastref2_RouteParts.l1_eq k h.1 h.2.1 h.2.2.1 h.2.2.2.1 h.2.2.2.2.1 h.2.2.2.2.2.1 h.2.2.2.2.2.2.1⟩, trivial⟩⟩ k (fun h => mastref2_RouteParts.f_eq k h.1 h.2.1)
def mastref2_badByte.l0 : Nat → ByteArray → Int → Option (Bool)
  | 0, _, _ => none
  | k + 1, x0, x3 => (bif (ilt x3 (slen x0)) then ((sat x0 x3).bind fun y1 => (bif (ilt y1 32) then ((sat x0 x3).bind fun y2 => (bif (!ieq y2 9) then ((sat x0 x3).bind fun y3 => (bif (!ieq y3 10) then (some true) else (mastref2_badByte.l0 k x0 (wadd .i64 x3 1)))) else (mastref2_badByte.l0 k x0 (wadd .i64 x3 1)))) else (mastref2_badByte.l0 k x0 (wadd .i64 x3 1)))) else (some false))
def mastref2_badByte.f (k : Nat) (a0 : ByteArray) : Option (Bool) := (mastref2_badByte.l0 k a0 0)
def mastref2_badByte.O (k : Nat) : Oracle sg := fun n => lkp n []
def mastref2_badByte.a : Ann := (.n .z (.n (.n .z (.lp 0 .z)) .z))
def mastref2_badByte.L (k : Nat) : Nat → St sg.U → Option (RT sg.U [.bool]) := labs [(0, labOf sg [(0, (.d .str)), (3, (.d (.int .i64)))] (fun h => mastref2_badByte.l0 k h.1 h.2.1))]
theorem mastref2_badByte.l0_eq (k : Nat) (x0 : ByteArray) (x3 : Int) : mastref2_badByte.l0 (k + 1) x0 x3 = runFrom (C := ctx) (mastref2_badByte.O k) ⟨26, [], []⟩ (mastref2_badByte.L k) (Tryd.f49.body.getD .skip) mastref2_badByte.a 0 (endK ctx [.bool] [(.tmp 2)]) (encD [(0, (.d .str)), (3, (.d (.int .i64)))] (x0, x3, ()) (startD sg.U ⟨26, [], []⟩ [(0, (.d .str)), (3, (.d (.int .i64)))])) := by
  rw [mastref2_badByte.l0]
  kernel_rfl
theorem mastref2_badByte.f_eq (k : Nat) (a0 : ByteArray) : mastref2_badByte.f k a0 = codeK (C := ctx) (mastref2_badByte.O k) ⟨26, [], []⟩ (mastref2_badByte.L k) (Tryd.f49.body.getD .skip) mastref2_badByte.a (endK ctx [.bool] [(.tmp 2)]) (slotsOf sg.U 0 [(.d .str)] (a0, ()) (empty sg.U)) := by
  unfold mastref2_badByte.f
  kernel_rfl
def mastref2_badByte.e (k : Nat) : Entry sg := entryOf sg [(.d .str)] [.bool] (fun h => mastref2_badByte.f k h.1)
def mastref2_badByte.T : List (Lb sg (RT sg.U [.bool])) := [⟨0, [(0, (.d .str)), (3, (.d (.int .i64)))], fun k h => mastref2_badByte.l0 k h.1 h.2.1⟩]
theorem mastref2_badByte.ok (k : Nat) : (mastref2_badByte.e k).Sound Tryd.prog ctx 49 :=
  entry_ok base_ok mo (fn := Tryd.f49) (b := (Tryd.f49.body.getD .skip)) (pm := [(.d .str)]) (rs := [.bool]) (an := mastref2_badByte.a) (N := 26) (vars := [(.tmp 2)]) Tryd.func49 (by kernel_rfl) (by kernel_rfl) (by kernel_rfl) (by kernel_rfl) (by kernel_rfl) (by kernel_rfl) (O := mastref2_badByte.O)
    (fun k => by unfold mastref2_badByte.O; exact oracle_of (P := Tryd.prog) (C := ctx) trivial) mastref2_badByte.T ⟨⟨by kernel_rfl, fun _ => by first | rfl | rw [mastref2_badByte.l0], fun k h => mastref2_badByte.l0_eq k h.1 h.2.1⟩, trivial⟩ k (fun h => mastref2_badByte.f_eq k h.1)
mutual
def mastref2_ValuesOf.l0 : Nat → Int → (List T_api_Value) → Int → Int → Option (Int)
  | 0, _, _, _, _ => none
  | k + 1, x3, x7, x8, x9 => (bif (ilt x9 x8) then ((lat x7 x9).bind fun y1 => ((mastref2_ValuesOf.f k (T_api_Value.mk y1.fKind y1.fBool y1.fInt y1.fText y1.fItems y1.fKeys)).bind fun y2 => (mastref2_ValuesOf.l0 k (wadd .i64 x3 y2) x7 x8 (wadd .i64 x9 1)))) else (some x3))
def mastref2_ValuesOf.f : Nat → T_api_Value → Option (Int)
  | 0, _ => none
  | k + 1, a0 => (mastref2_ValuesOf.l0 k 1 a0.fItems (llen a0.fItems) 0)
end
def mastref2_ValuesOf.e (k : Nat) : Entry sg := entryOf sg [(.d (.st 2))] [(.int .i64)] (fun h => mastref2_ValuesOf.f k h.1)
def mastref2_ValuesOf.O (k : Nat) : Oracle sg := fun n => lkp n [(37, mastref2_ValuesOf.e k)]
def mastref2_ValuesOf.a : Ann := (.n .z (.n .z (.n (.n .z (.lp 0 .z)) .z)))
def mastref2_ValuesOf.L (k : Nat) : Nat → St sg.U → Option (RT sg.U [(.int .i64)]) := labs [(0, labOf sg [(3, (.d (.int .i64))), (7, (.d (.sl (.st 2)))), (8, (.d (.int .i64))), (9, (.d (.int .i64)))] (fun h => mastref2_ValuesOf.l0 k h.1 h.2.1 h.2.2.1 h.2.2.2.1))]
theorem mastref2_ValuesOf.l0_eq (k : Nat) (x3 : Int) (x7 : (List T_api_Value)) (x8 : Int) (x9 : Int) : mastref2_ValuesOf.l0 (k + 1) x3 x7 x8 x9 = runFrom (C := ctx) (mastref2_ValuesOf.O k) ⟨19, [], []⟩ (mastref2_ValuesOf.L k) (Tryd.f37.body.getD .skip) mastref2_ValuesOf.a 0 (endK ctx [(.int .i64)] [(.tmp 2)]) (encD [(3, (.d (.int .i64))), (7, (.d (.sl (.st 2)))), (8, (.d (.int .i64))), (9, (.d (.int .i64)))] (x3, x7, x8, x9, ()) (startD sg.U ⟨19, [], []⟩ [(3, (.d (.int .i64))), (7, (.d (.sl (.st 2)))), (8, (.d (.int .i64))), (9, (.d (.int .i64)))])) := by
  rw [mastref2_ValuesOf.l0]
  kernel_rfl
theorem mastref2_ValuesOf.f_eq (k : Nat) (a0 : T_api_Value) : mastref2_ValuesOf.f (k + 1) a0 = codeK (C := ctx) (mastref2_ValuesOf.O k) ⟨19, [], []⟩ (mastref2_ValuesOf.L k) (Tryd.f37.body.getD .skip) mastref2_ValuesOf.a (endK ctx [(.int .i64)] [(.tmp 2)]) (slotsOf sg.U 0 [(.d (.st 2))] (a0, ()) (empty sg.U)) := by
  rw [mastref2_ValuesOf.f]
  kernel_rfl
def mastref2_ValuesOf.T : List (Lb sg (RT sg.U [(.int .i64)])) := [⟨0, [(3, (.d (.int .i64))), (7, (.d (.sl (.st 2)))), (8, (.d (.int .i64))), (9, (.d (.int .i64)))], fun k h => mastref2_ValuesOf.l0 k h.1 h.2.1 h.2.2.1 h.2.2.2.1⟩]
theorem mastref2_ValuesOf.ok : ∀ k : Nat, (mastref2_ValuesOf.e k).Sound Tryd.prog ctx 37 :=
  entry_rec base_ok mo (fn := Tryd.f37) (b := (Tryd.f37.body.getD .skip)) (pm := [(.d (.st 2))]) (rs := [(.int .i64)]) (an := mastref2_ValuesOf.a) (N := 19) (vars := [(.tmp 2)]) Tryd.func37 (by kernel_rfl) (by kernel_rfl) (by kernel_rfl) (by kernel_rfl) (by kernel_rfl) (by kernel_rfl) (O := mastref2_ValuesOf.O) mastref2_ValuesOf.T ⟨⟨by kernel_rfl, fun _ => by first | rfl | rw [mastref2_ValuesOf.l0], fun k h => mastref2_ValuesOf.l0_eq k h.1 h.2.1 h.2.2.1 h.2.2.2.1⟩, trivial⟩ (F := fun k h => mastref2_ValuesOf.f k h.1) (fun _ => by first | rfl | rw [mastref2_ValuesOf.f]) (fun k h => mastref2_ValuesOf.f_eq k h.1)
    (fun k own => by unfold mastref2_ValuesOf.O; exact oracle_of (P := Tryd.prog) (C := ctx) ⟨own, trivial⟩)
mutual
def mastref2_LevelsOf.l0 : Nat → Int → (List T_api_Value) → Int → Int → Option (Int)
  | 0, _, _, _, _ => none
  | k + 1, x3, x7, x8, x9 => (bif (ilt x9 x8) then ((lat x7 x9).bind fun y1 => ((mastref2_LevelsOf.f k (T_api_Value.mk y1.fKind y1.fBool y1.fInt y1.fText y1.fItems y1.fKeys)).bind fun y2 => (mastref2_LevelsOf.l0 k (imax x3 y2) x7 x8 (wadd .i64 x9 1)))) else (some (wadd .i64 x3 1)))
def mastref2_LevelsOf.f : Nat → T_api_Value → Option (Int)
  | 0, _ => none
  | k + 1, a0 => (mastref2_LevelsOf.l0 k 0 a0.fItems (llen a0.fItems) 0)
end
def mastref2_LevelsOf.e (k : Nat) : Entry sg := entryOf sg [(.d (.st 2))] [(.int .i64)] (fun h => mastref2_LevelsOf.f k h.1)
def mastref2_LevelsOf.O (k : Nat) : Oracle sg := fun n => lkp n [(38, mastref2_LevelsOf.e k)]
def mastref2_LevelsOf.a : Ann := (.n .z (.n .z (.n (.n .z (.lp 0 .z)) .z)))
def mastref2_LevelsOf.L (k : Nat) : Nat → St sg.U → Option (RT sg.U [(.int .i64)]) := labs [(0, labOf sg [(3, (.d (.int .i64))), (7, (.d (.sl (.st 2)))), (8, (.d (.int .i64))), (9, (.d (.int .i64)))] (fun h => mastref2_LevelsOf.l0 k h.1 h.2.1 h.2.2.1 h.2.2.2.1))]
theorem mastref2_LevelsOf.l0_eq (k : Nat) (x3 : Int) (x7 : (List T_api_Value)) (x8 : Int) (x9 : Int) : mastref2_LevelsOf.l0 (k + 1) x3 x7 x8 x9 = runFrom (C := ctx) (mastref2_LevelsOf.O k) ⟨20, [], []⟩ (mastref2_LevelsOf.L k) (Tryd.f38.body.getD .skip) mastref2_LevelsOf.a 0 (endK ctx [(.int .i64)] [(.tmp 2)]) (encD [(3, (.d (.int .i64))), (7, (.d (.sl (.st 2)))), (8, (.d (.int .i64))), (9, (.d (.int .i64)))] (x3, x7, x8, x9, ()) (startD sg.U ⟨20, [], []⟩ [(3, (.d (.int .i64))), (7, (.d (.sl (.st 2)))), (8, (.d (.int .i64))), (9, (.d (.int .i64)))])) := by
  rw [mastref2_LevelsOf.l0]
  kernel_rfl
theorem mastref2_LevelsOf.f_eq (k : Nat) (a0 : T_api_Value) : mastref2_LevelsOf.f (k + 1) a0 = codeK (C := ctx) (mastref2_LevelsOf.O k) ⟨20, [], []⟩ (mastref2_LevelsOf.L k) (Tryd.f38.body.getD .skip) mastref2_LevelsOf.a (endK ctx [(.int .i64)] [(.tmp 2)]) (slotsOf sg.U 0 [(.d (.st 2))] (a0, ()) (empty sg.U)) := by
  rw [mastref2_LevelsOf.f]
  kernel_rfl
def mastref2_LevelsOf.T : List (Lb sg (RT sg.U [(.int .i64)])) := [⟨0, [(3, (.d (.int .i64))), (7, (.d (.sl (.st 2)))), (8, (.d (.int .i64))), (9, (.d (.int .i64)))], fun k h => mastref2_LevelsOf.l0 k h.1 h.2.1 h.2.2.1 h.2.2.2.1⟩]
theorem mastref2_LevelsOf.ok : ∀ k : Nat, (mastref2_LevelsOf.e k).Sound Tryd.prog ctx 38 :=
  entry_rec base_ok mo (fn := Tryd.f38) (b := (Tryd.f38.body.getD .skip)) (pm := [(.d (.st 2))]) (rs := [(.int .i64)]) (an := mastref2_LevelsOf.a) (N := 20) (vars := [(.tmp 2)]) Tryd.func38 (by kernel_rfl) (by kernel_rfl) (by kernel_rfl) (by kernel_rfl) (by kernel_rfl) (by kernel_rfl) (O := mastref2_LevelsOf.O) mastref2_LevelsOf.T ⟨⟨by kernel_rfl, fun _ => by first | rfl | rw [mastref2_LevelsOf.l0], fun k h => mastref2_LevelsOf.l0_eq k h.1 h.2.1 h.2.2.1 h.2.2.2.1⟩, trivial⟩ (F := fun k h => mastref2_LevelsOf.f k h.1) (fun _ => by first | rfl | rw [mastref2_LevelsOf.f]) (fun k h => mastref2_LevelsOf.f_eq k h.1)
    (fun k own => by unfold mastref2_LevelsOf.O; exact oracle_of (P := Tryd.prog) (C := ctx) ⟨own, trivial⟩)
mutual
def mastref2_eachValue.l0 : Nat → Int → Bool → Int → ByteArray → (List T_api_Value) → (List ByteArray) → (List ByteArray) → Int → Int → Option (Int)
  | 0, _, _, _, _, _, _, _, _, _ => none
  | k + 1, x1_0, x1_1, x1_2, x1_3, x1_4, x1_5, x100, x101, x102 => (bif (ilt x102 x101) then ((lat x100 x102).bind fun y2 => ((mastref2_IsKey.f y2).bind fun y3 => (bif (!y3) then (some 12) else (bif (ilt 0 x102) then ((lat x1_5 (wsub .i64 x102 1)).bind fun y4 => (bif (sle y2 y4) then (some 5) else (mastref2_eachValue.l0 k x1_0 x1_1 x1_2 x1_3 x1_4 x1_5 x100 x101 (wadd .i64 x102 1)))) else (mastref2_eachValue.l0 k x1_0 x1_1 x1_2 x1_3 x1_4 x1_5 x100 x101 (wadd .i64 x102 1)))))) else (mastref2_eachValue.l1 k x1_4 (llen x1_4) 0))
def mastref2_eachValue.l1 : Nat → (List T_api_Value) → Int → Int → Option (Int)
  | 0, _, _, _ => none
  | k + 1, x124, x125, x126 => (bif (ilt x126 x125) then ((lat x124 x126).bind fun y5 => ((mastref2_eachValue.f k (T_api_Value.mk y5.fKind y5.fBool y5.fInt y5.fText y5.fItems y5.fKeys)).bind fun y6 => (bif (!ieq y6 0) then (some y6) else (mastref2_eachValue.l1 k x124 x125 (wadd .i64 x126 1))))) else (some 0))
def mastref2_eachValue.f : Nat → T_api_Value → Option (Int)
  | 0, _ => none
  | k + 1, a0 => (bif (bif (ilt a0.fKind 0) then true else (ilt 6 a0.fKind)) then (some 10) else (bif (bif (bif (bif (bif (bif a0.fBool then (!ieq a0.fKind 1) else false) then true else (bif (bif (!ieq a0.fInt 0) then (!ieq a0.fKind 2) else false) then (!ieq a0.fKind 4) else false)) then true else (bif (!seq a0.fText c_empty) then (!ieq a0.fKind 3) else false)) then true else (bif (bif (ilt 0 (llen a0.fItems)) then (!ieq a0.fKind 5) else false) then (!ieq a0.fKind 6) else false)) then true else (bif (ilt 0 (llen a0.fKeys)) then (!ieq a0.fKind 6) else false)) then (some 1) else (bif (bif (ieq a0.fKind 6) then (!ieq (llen a0.fKeys) (llen a0.fItems)) else false) then (some 1) else (bif (bif (ieq a0.fKind 4) then (bif (ilt a0.fInt 0) then true else (ilt 84005 a0.fInt)) else false) then (some 2) else (bif (ilt 5000 (slen a0.fText)) then (some 4) else ((mastref2_badByte.f k a0.fText).bind fun y1 => (bif y1 then (some 9) else (mastref2_eachValue.l0 k a0.fKind a0.fBool a0.fInt a0.fText a0.fItems a0.fKeys a0.fKeys (llen a0.fKeys) 0))))))))
end
def mastref2_eachValue.e (k : Nat) : Entry sg := entryOf sg [(.d (.st 2))] [(.int .i64)] (fun h => mastref2_eachValue.f k h.1)
def mastref2_eachValue.O (k : Nat) : Oracle sg := fun n => lkp n [(39, mastref2_eachValue.e k), (49, mastref2_badByte.e k), (65, mastref2_IsKey.e)]
def mastref2_eachValue.a : Ann := (.n .z (.n .z (.n .z (.n .z (.n .z (.n .z (.n .z (.n .z (.n (.n .z (.lp 0 .z)) (.n (.n .z (.lp 1 .z)) .z))))))))))
def mastref2_eachValue.L (k : Nat) : Nat → St sg.U → Option (RT sg.U [(.int .i64)]) := labs [(0, labOf sg [(1, (.box [.d (.int .i64), .d .bool, .d (.int .i64), .d .str, .d (.sl (.st 2)), .d (.sl .str)])), (100, (.d (.sl .str))), (101, (.d (.int .i64))), (102, (.d (.int .i64)))] (fun h => mastref2_eachValue.l0 k h.1 h.2.1 h.2.2.1 h.2.2.2.1 h.2.2.2.2.1 h.2.2.2.2.2.1 h.2.2.2.2.2.2.1 h.2.2.2.2.2.2.2.1 h.2.2.2.2.2.2.2.2.1)), (1, labOf sg [(124, (.d (.sl (.st 2)))), (125, (.d (.int .i64))), (126, (.d (.int .i64)))] (fun h => mastref2_eachValue.l1 k h.1 h.2.1 h.2.2.1))]
theorem mastref2_eachValue.l0_eq (k : Nat) (x1_0 : Int) (x1_1 : Bool) (x1_2 : Int) (x1_3 : ByteArray) (x1_4 : (List T_api_Value)) (x1_5 : (List ByteArray)) (x100 : (List ByteArray)) (x101 : Int) (x102 : Int) : mastref2_eachValue.l0 (k + 1) x1_0 x1_1 x1_2 x1_3 x1_4 x1_5 x100 x101 x102 = runFrom (C := ctx) (mastref2_eachValue.O k) ⟨136, [], []⟩ (mastref2_eachValue.L k) (Tryd.f39.body.getD .skip) mastref2_eachValue.a 0 (endK ctx [(.int .i64)] [(.tmp 2)]) (encD [(1, (.box [.d (.int .i64), .d .bool, .d (.int .i64), .d .str, .d (.sl (.st 2)), .d (.sl .str)])), (100, (.d (.sl .str))), (101, (.d (.int .i64))), (102, (.d (.int .i64)))] (x1_0, x1_1, x1_2, x1_3, x1_4, x1_5, x100, x101, x102, ()) (startD sg.U ⟨136, [], []⟩ [(1, (.box [.d (.int .i64), .d .bool, .d (.int .i64), .d .str, .d (.sl (.st 2)), .d (.sl .str)])), (100, (.d (.sl .str))), (101, (.d (.int .i64))), (102, (.d (.int .i64)))])) := by
  rw [mastref2_eachValue.l0]
  kernel_rfl
theorem mastref2_eachValue.l1_eq (k : Nat) (x124 : (List T_api_Value)) (x125 : Int) (x126 : Int) : mastref2_eachValue.l1 (k + 1) x124 x125 x126 = runFrom (C := ctx) (mastref2_eachValue.O k) ⟨136, [], []⟩ (mastref2_eachValue.L k) (Tryd.f39.body.getD .skip) mastref2_eachValue.a 1 (endK ctx [(.int .i64)] [(.tmp 2)]) (encD [(124, (.d (.sl (.st 2)))), (125, (.d (.int .i64))), (126, (.d (.int .i64)))] (x124, x125, x126, ()) (startD sg.U ⟨136, [], []⟩ [(124, (.d (.sl (.st 2)))), (125, (.d (.int .i64))), (126, (.d (.int .i64)))])) := by
  rw [mastref2_eachValue.l1]
  kernel_rfl
theorem mastref2_eachValue.f_eq (k : Nat) (a0 : T_api_Value) : mastref2_eachValue.f (k + 1) a0 = codeK (C := ctx) (mastref2_eachValue.O k) ⟨136, [], []⟩ (mastref2_eachValue.L k) (Tryd.f39.body.getD .skip) mastref2_eachValue.a (endK ctx [(.int .i64)] [(.tmp 2)]) (slotsOf sg.U 0 [(.d (.st 2))] (a0, ()) (empty sg.U)) := by
  rw [mastref2_eachValue.f]
  kernel_rfl
def mastref2_eachValue.T : List (Lb sg (RT sg.U [(.int .i64)])) := [⟨0, [(1, (.box [.d (.int .i64), .d .bool, .d (.int .i64), .d .str, .d (.sl (.st 2)), .d (.sl .str)])), (100, (.d (.sl .str))), (101, (.d (.int .i64))), (102, (.d (.int .i64)))], fun k h => mastref2_eachValue.l0 k h.1 h.2.1 h.2.2.1 h.2.2.2.1 h.2.2.2.2.1 h.2.2.2.2.2.1 h.2.2.2.2.2.2.1 h.2.2.2.2.2.2.2.1 h.2.2.2.2.2.2.2.2.1⟩, ⟨1, [(124, (.d (.sl (.st 2)))), (125, (.d (.int .i64))), (126, (.d (.int .i64)))], fun k h => mastref2_eachValue.l1 k h.1 h.2.1 h.2.2.1⟩]
theorem mastref2_eachValue.ok : ∀ k : Nat, (mastref2_eachValue.e k).Sound Tryd.prog ctx 39 :=
  entry_rec base_ok mo (fn := Tryd.f39) (b := (Tryd.f39.body.getD .skip)) (pm := [(.d (.st 2))]) (rs := [(.int .i64)]) (an := mastref2_eachValue.a) (N := 136) (vars := [(.tmp 2)]) Tryd.func39 (by kernel_rfl) (by kernel_rfl) (by kernel_rfl) (by kernel_rfl) (by kernel_rfl) (by kernel_rfl) (O := mastref2_eachValue.O) mastref2_eachValue.T ⟨⟨by kernel_rfl, fun _ => by first | rfl | rw [mastref2_eachValue.l0], fun k h => mastref2_eachValue.l0_eq k h.1 h.2.1 h.2.2.1 h.2.2.2.1 h.2.2.2.2.1 h.2.2.2.2.2.1 h.2.2.2.2.2.2.1 h.2.2.2.2.2.2.2.1 h.2.2.2.2.2.2.2.2.1⟩, ⟨⟨by kernel_rfl, fun _ => by first | rfl | rw [mastref2_eachValue.l1], fun k h => mastref2_eachValue.l1_eq k h.1 h.2.1 h.2.2.1⟩, trivial⟩⟩ (F := fun k h => mastref2_eachValue.f k h.1) (fun _ => by first | rfl | rw [mastref2_eachValue.f]) (fun k h => mastref2_eachValue.f_eq k h.1)
    (fun k own => by unfold mastref2_eachValue.O; exact oracle_of (P := Tryd.prog) (C := ctx) ⟨own, ⟨(mastref2_badByte.ok k), ⟨(mastref2_IsKey.ok), trivial⟩⟩⟩)
def mastref2_ConfCheck.f (k : Nat) (a0 : T_api_Value) : Option (Int) := ((mastref2_ValuesOf.f k (T_api_Value.mk a0.fKind a0.fBool a0.fInt a0.fText a0.fItems a0.fKeys)).bind fun y1 => (bif (ilt 1000 y1) then (some 4) else ((mastref2_LevelsOf.f k (T_api_Value.mk a0.fKind a0.fBool a0.fInt a0.fText a0.fItems a0.fKeys)).bind fun y2 => (bif (ilt 8 y2) then (some 13) else ((mastref2_eachValue.f k (T_api_Value.mk a0.fKind a0.fBool a0.fInt a0.fText a0.fItems a0.fKeys)).bind fun y3 => (some y3))))))
def mastref2_ConfCheck.O (k : Nat) : Oracle sg := fun n => lkp n [(37, mastref2_ValuesOf.e k), (38, mastref2_LevelsOf.e k), (39, mastref2_eachValue.e k)]
def mastref2_ConfCheck.a : Ann := .z
def mastref2_ConfCheck.L (k : Nat) : Nat → St sg.U → Option (RT sg.U [(.int .i64)]) := labs []
theorem mastref2_ConfCheck.f_eq (k : Nat) (a0 : T_api_Value) : mastref2_ConfCheck.f k a0 = codeK (C := ctx) (mastref2_ConfCheck.O k) ⟨11, [], []⟩ (mastref2_ConfCheck.L k) (Tryd.f21.body.getD .skip) mastref2_ConfCheck.a (endK ctx [(.int .i64)] [(.tmp 2)]) (slotsOf sg.U 0 [(.d (.st 2))] (a0, ()) (empty sg.U)) := by
  unfold mastref2_ConfCheck.f
  kernel_rfl
def mastref2_ConfCheck.e (k : Nat) : Entry sg := entryOf sg [(.d (.st 2))] [(.int .i64)] (fun h => mastref2_ConfCheck.f k h.1)
def mastref2_ConfCheck.T : List (Lb sg (RT sg.U [(.int .i64)])) := []
theorem mastref2_ConfCheck.ok (k : Nat) : (mastref2_ConfCheck.e k).Sound Tryd.prog ctx 21 :=
  entry_ok base_ok mo (fn := Tryd.f21) (b := (Tryd.f21.body.getD .skip)) (pm := [(.d (.st 2))]) (rs := [(.int .i64)]) (an := mastref2_ConfCheck.a) (N := 11) (vars := [(.tmp 2)]) Tryd.func21 (by kernel_rfl) (by kernel_rfl) (by kernel_rfl) (by kernel_rfl) (by kernel_rfl) (by kernel_rfl) (O := mastref2_ConfCheck.O)
    (fun k => by unfold mastref2_ConfCheck.O; exact oracle_of (P := Tryd.prog) (C := ctx) ⟨(mastref2_ValuesOf.ok k), ⟨(mastref2_LevelsOf.ok k), ⟨(mastref2_eachValue.ok k), trivial⟩⟩⟩) mastref2_ConfCheck.T trivial k (fun h => mastref2_ConfCheck.f_eq k h.1)
def strings_Contains.f (a0 : ByteArray) (a1 : ByteArray) : Option (Bool) := if a0.size < 4294967281 then some (Lib.contains a0.data.toList a1.data.toList) else none
def strings_Contains.e : Entry sg := entryOf sg [(.d .str), (.d .str)] [.bool] (fun h => strings_Contains.f h.1 h.2.1)
theorem strings_Contains.ok : (strings_Contains.e).Sound Tryd.prog ctx 50 :=
  entry_extern (C := ctx) sg_ok Tryd.func50 (by kernel_rfl) (by kernel_rfl) (by kernel_rfl) (by kernel_rfl) (fun hh x w hx hG => by
    unfold strings_Contains.f at hx
    split at hx
    · rename_i c
      obtain rfl := Option.some.inj hx
      obtain ⟨m, hm⟩ := hG 2 (by simp [ctx, sg])
      have hm := cells_cell hm
      refine (Tryd.strings_Contains hh.1 hh.2.1 m w c hm).mono ?_
      rintro e w' ⟨rfl, hb⟩
      exact ⟨rfl, by first | exact hb ▸ Grow.refl _ | exact Grow.of_below hb | (obtain ⟨k, os, rfl⟩ := hb; exact Grow.of_below (Lib.below_grow _ w (Nat.le_refl _) k os))⟩
    · cases hx)
mutual
def mastref2_fieldFault.l0 : Nat → ByteArray → Int → Bool → Bool → Int → Int → (List ByteArray) → Int → Bool → Int → ByteArray → (List T_api_Value) → (List ByteArray) → (List T_conf_Field) → Int → Int → Option (Int)
  | 0, _, _, _, _, _, _, _, _, _, _, _, _, _, _, _, _ => none
  | k + 1, x5_0, x5_1, x5_2, x5_3, x5_4, x5_5, x5_6, x5_7, x5_8, x5_9, x5_10, x5_11, x5_12, x32, x33, x34 => (bif (ilt x34 x33) then ((lat x32 x34).bind fun y4 => (bif (seq y4.fRoute x5_0) then (some 6) else (mastref2_fieldFault.l0 k x5_0 x5_1 x5_2 x5_3 x5_4 x5_5 x5_6 x5_7 x5_8 x5_9 x5_10 x5_11 x5_12 x32 x33 (wadd .i64 x34 1)))) else (bif (bif (bif (ilt x5_1 0) then true else (ilt 6 x5_1)) then (!ieq x5_1 (-1)) else false) then (some 10) else (bif (bif (!x5_3) then (bif (!ieq x5_4 0) then true else (!ieq x5_5 0)) else false) then (some 1) else (bif (ilt x5_5 x5_4) then (some 5) else (bif (bif (ilt 0 (llen x5_6)) then (!ieq x5_1 3) else false) then (some 1) else (mastref2_fieldFault.l1 k x5_0 x5_1 x5_2 x5_3 x5_4 x5_5 x5_6 x5_7 x5_8 x5_9 x5_10 x5_11 x5_12 x5_6 (llen x5_6) 0))))))
def mastref2_fieldFault.l1 : Nat → ByteArray → Int → Bool → Bool → Int → Int → (List ByteArray) → Int → Bool → Int → ByteArray → (List T_api_Value) → (List ByteArray) → (List ByteArray) → Int → Int → Option (Int)
  | 0, _, _, _, _, _, _, _, _, _, _, _, _, _, _, _, _ => none
  | k + 1, x5_0, x5_1, x5_2, x5_3, x5_4, x5_5, x5_6, x5_7, x5_8, x5_9, x5_10, x5_11, x5_12, x85, x86, x87 => (bif (ilt x87 x86) then ((lat x85 x87).bind fun y5 => (bif (ilt 5000 (slen y5)) then (some 4) else ((mastref2_badByte.f k y5).bind fun y6 => (bif y6 then (some 9) else (mastref2_fieldFault.l1 k x5_0 x5_1 x5_2 x5_3 x5_4 x5_5 x5_6 x5_7 x5_8 x5_9 x5_10 x5_11 x5_12 x85 x86 (wadd .i64 x87 1)))))) else ((mastref2_ConfCheck.f k (T_api_Value.mk x5_7 x5_8 x5_9 x5_10 x5_11 x5_12)).bind fun y7 => (bif (!ieq y7 0) then (some y7) else (bif (ieq x5_7 0) then (some 0) else (bif (bif (!ieq x5_1 (-1)) then (!ieq x5_7 x5_1) else false) then (some 10) else ((strings_Contains.f x5_0 c__2a).bind fun y8 => (bif y8 then (some 1) else (some 0))))))))
end
def mastref2_fieldFault.f (k : Nat) (a0 : (List T_conf_Field)) (a1 : Int) : Option (Int) := ((lat a0 a1).bind fun y1 => ((mastref2_RouteParts.f k y1.fRoute true).bind fun y2 => (bif (bif (!y2.2) then true else (seq y1.fRoute c_empty)) then (some 3) else ((lsub a0 0 a1).bind fun y3 => (mastref2_fieldFault.l0 k y1.fRoute y1.fKind y1.fNeed y1.fBounded y1.fMin y1.fMax y1.fOneOf y1.fDefault.fKind y1.fDefault.fBool y1.fDefault.fInt y1.fDefault.fText y1.fDefault.fItems y1.fDefault.fKeys y3 (llen y3) 0)))))
def mastref2_fieldFault.O (k : Nat) : Oracle sg := fun n => lkp n [(21, mastref2_ConfCheck.e k), (48, mastref2_RouteParts.e k), (49, mastref2_badByte.e k), (50, strings_Contains.e)]
def mastref2_fieldFault.a : Ann := (.n .z (.n .z (.n .z (.n (.n .z (.lp 0 .z)) (.n .z (.n .z (.n .z (.n .z (.n (.n .z (.lp 1 .z)) .z)))))))))
def mastref2_fieldFault.L (k : Nat) : Nat → St sg.U → Option (RT sg.U [(.int .i64)]) := labs [(0, labOf sg [(5, (.box [.d .str, .d (.int .i64), .d .bool, .d .bool, .d (.int .i64), .d (.int .i64), .d (.sl .str), .d (.int .i64), .d .bool, .d (.int .i64), .d .str, .d (.sl (.st 2)), .d (.sl .str)])), (32, (.d (.sl (.st 1)))), (33, (.d (.int .i64))), (34, (.d (.int .i64)))] (fun h => mastref2_fieldFault.l0 k h.1 h.2.1 h.2.2.1 h.2.2.2.1 h.2.2.2.2.1 h.2.2.2.2.2.1 h.2.2.2.2.2.2.1 h.2.2.2.2.2.2.2.1 h.2.2.2.2.2.2.2.2.1 h.2.2.2.2.2.2.2.2.2.1 h.2.2.2.2.2.2.2.2.2.2.1 h.2.2.2.2.2.2.2.2.2.2.2.1 h.2.2.2.2.2.2.2.2.2.2.2.2.1 h.2.2.2.2.2.2.2.2.2.2.2.2.2.1 h.2.2.2.2.2.2.2.2.2.2.2.2.2.2.1 h.2.2.2.2.2.2.2.2.2.2.2.2.2.2.2.1)), (1, labOf sg [(5, (.box [.d .str, .d (.int .i64), .d .bool, .d .bool, .d (.int .i64), .d (.int .i64), .d (.sl .str), .d (.int .i64), .d .bool, .d (.int .i64), .d .str, .d (.sl (.st 2)), .d (.sl .str)])), (85, (.d (.sl .str))), (86, (.d (.int .i64))), (87, (.d (.int .i64)))] (fun h => mastref2_fieldFault.l1 k h.1 h.2.1 h.2.2.1 h.2.2.2.1 h.2.2.2.2.1 h.2.2.2.2.2.1 h.2.2.2.2.2.2.1 h.2.2.2.2.2.2.2.1 h.2.2.2.2.2.2.2.2.1 h.2.2.2.2.2.2.2.2.2.1 h.2.2.2.2.2.2.2.2.2.2.1 h.2.2.2.2.2.2.2.2.2.2.2.1 h.2.2.2.2.2.2.2.2.2.2.2.2.1 h.2.2.2.2.2.2.2.2.2.2.2.2.2.1 h.2.2.2.2.2.2.2.2.2.2.2.2.2.2.1 h.2.2.2.2.2.2.2.2.2.2.2.2.2.2.2.1))]
theorem mastref2_fieldFault.l0_eq (k : Nat) (x5_0 : ByteArray) (x5_1 : Int) (x5_2 : Bool) (x5_3 : Bool) (x5_4 : Int) (x5_5 : Int) (x5_6 : (List ByteArray)) (x5_7 : Int) (x5_8 : Bool) (x5_9 : Int) (x5_10 : ByteArray) (x5_11 : (List T_api_Value)) (x5_12 : (List ByteArray)) (x32 : (List T_conf_Field)) (x33 : Int) (x34 : Int) : mastref2_fieldFault.l0 (k + 1) x5_0 x5_1 x5_2 x5_3 x5_4 x5_5 x5_6 x5_7 x5_8 x5_9 x5_10 x5_11 x5_12 x32 x33 x34 = runFrom (C := ctx) (mastref2_fieldFault.O k) ⟨121, [], []⟩ (mastref2_fieldFault.L k) (Tryd.f25.body.getD .skip) mastref2_fieldFault.a 0 (endK ctx [(.int .i64)] [(.tmp 4)]) (encD [(5, (.box [.d .str, .d (.int .i64), .d .bool, .d .bool, .d (.int .i64), .d (.int .i64), .d (.sl .str), .d (.int .i64), .d .bool, .d (.int .i64), .d .str, .d (.sl (.st 2)), .d (.sl .str)])), (32, (.d (.sl (.st 1)))), (33, (.d (.int .i64))), (34, (.d (.int .i64)))] (x5_0, x5_1, x5_2, x5_3, x5_4, x5_5, x5_6, x5_7, x5_8, x5_9, x5_10, x5_11, x5_12, x32, x33, x34, ()) (startD sg.U ⟨121, [], []⟩ [(5, (.box [.d .str, .d (.int .i64), .d .bool, .d .bool, .d (.int .i64), .d (.int .i64), .d (.sl .str), .d (.int .i64), .d .bool, .d (.int .i64), .d .str, .d (.sl (.st 2)), .d (.sl .str)])), (32, (.d (.sl (.st 1)))), (33, (.d (.int .i64))), (34, (.d (.int .i64)))])) := by
  rw [mastref2_fieldFault.l0]
  kernel_rfl
theorem mastref2_fieldFault.l1_eq (k : Nat) (x5_0 : ByteArray) (x5_1 : Int) (x5_2 : Bool) (x5_3 : Bool) (x5_4 : Int) (x5_5 : Int) (x5_6 : (List ByteArray)) (x5_7 : Int) (x5_8 : Bool) (x5_9 : Int) (x5_10 : ByteArray) (x5_11 : (List T_api_Value)) (x5_12 : (List ByteArray)) (x85 : (List ByteArray)) (x86 : Int) (x87 : Int) : mastref2_fieldFault.l1 (k + 1) x5_0 x5_1 x5_2 x5_3 x5_4 x5_5 x5_6 x5_7 x5_8 x5_9 x5_10 x5_11 x5_12 x85 x86 x87 = runFrom (C := ctx) (mastref2_fieldFault.O k) ⟨121, [], []⟩ (mastref2_fieldFault.L k) (Tryd.f25.body.getD .skip) mastref2_fieldFault.a 1 (endK ctx [(.int .i64)] [(.tmp 4)]) (encD [(5, (.box [.d .str, .d (.int .i64), .d .bool, .d .bool, .d (.int .i64), .d (.int .i64), .d (.sl .str), .d (.int .i64), .d .bool, .d (.int .i64), .d .str, .d (.sl (.st 2)), .d (.sl .str)])), (85, (.d (.sl .str))), (86, (.d (.int .i64))), (87, (.d (.int .i64)))] (x5_0, x5_1, x5_2, x5_3, x5_4, x5_5, x5_6, x5_7, x5_8, x5_9, x5_10, x5_11, x5_12, x85, x86, x87, ()) (startD sg.U ⟨121, [], []⟩ [(5, (.box [.d .str, .d (.int .i64), .d .bool, .d .bool, .d (.int .i64), .d (.int .i64), .d (.sl .str), .d (.int .i64), .d .bool, .d (.int .i64), .d .str, .d (.sl (.st 2)), .d (.sl .str)])), (85, (.d (.sl .str))), (86, (.d (.int .i64))), (87, (.d (.int .i64)))])) := by
  rw [mastref2_fieldFault.l1]
  kernel_rfl
theorem mastref2_fieldFault.f_eq (k : Nat) (a0 : (List T_conf_Field)) (a1 : Int) : mastref2_fieldFault.f k a0 a1 = codeK (C := ctx) (mastref2_fieldFault.O k) ⟨121, [], []⟩ (mastref2_fieldFault.L k) (Tryd.f25.body.getD .skip) mastref2_fieldFault.a (endK ctx [(.int .i64)] [(.tmp 4)]) (slotsOf sg.U 0 [(.d (.sl (.st 1))), (.d (.int .i64))] (a0, a1, ()) (empty sg.U)) := by
  unfold mastref2_fieldFault.f
  kernel_rfl
def mastref2_fieldFault.e (k : Nat) : Entry sg := entryOf sg [(.d (.sl (.st 1))), (.d (.int .i64))] [(.int .i64)] (fun h => mastref2_fieldFault.f k h.1 h.2.1)
def mastref2_fieldFault.T : List (Lb sg (RT sg.U [(.int .i64)])) := [⟨0, [(5, (.box [.d .str, .d (.int .i64), .d .bool, .d .bool, .d (.int .i64), .d (.int .i64), .d (.sl .str), .d (.int .i64), .d .bool, .d (.int .i64), .d .str, .d (.sl (.st 2)), .d (.sl .str)])), (32, (.d (.sl (.st 1)))), (33, (.d (.int .i64))), (34, (.d (.int .i64)))], fun k h => mastref2_fieldFault.l0 k h.1 h.2.1 h.2.2.1 h.2.2.2.1 h.2.2.2.2.1 h.2.2.2.2.2.1 h.2.2.2.2.2.2.1 h.2.2.2.2.2.2.2.1 h.2.2.2.2.2.2.2.2.1 h.2.2.2.2.2.2.2.2.2.1 h.2.2.2.2.2.2.2.2.2.2.1 h.2.2.2.2.2.2.2.2.2.2.2.1 h.2.2.2.2.2.2.2.2.2.2.2.2.1 h.2.2.2.2.2.2.2.2.2.2.2.2.2.1 h.2.2.2.2.2.2.2.2.2.2.2.2.2.2.1 h.2.2.2.2.2.2.2.2.2.2.2.2.2.2.2.1⟩, ⟨1, [(5, (.box [.d .str, .d (.int .i64), .d .bool, .d .bool, .d (.int .i64), .d (.int .i64), .d (.sl .str), .d (.int .i64), .d .bool, .d (.int .i64), .d .str, .d (.sl (.st 2)), .d (.sl .str)])), (85, (.d (.sl .str))), (86, (.d (.int .i64))), (87, (.d (.int .i64)))], fun k h => mastref2_fieldFault.l1 k h.1 h.2.1 h.2.2.1 h.2.2.2.1 h.2.2.2.2.1 h.2.2.2.2.2.1 h.2.2.2.2.2.2.1 h.2.2.2.2.2.2.2.1 h.2.2.2.2.2.2.2.2.1 h.2.2.2.2.2.2.2.2.2.1 h.2.2.2.2.2.2.2.2.2.2.1 h.2.2.2.2.2.2.2.2.2.2.2.1 h.2.2.2.2.2.2.2.2.2.2.2.2.1 h.2.2.2.2.2.2.2.2.2.2.2.2.2.1 h.2.2.2.2.2.2.2.2.2.2.2.2.2.2.1 h.2.2.2.2.2.2.2.2.2.2.2.2.2.2.2.1⟩]
theorem mastref2_fieldFault.ok (k : Nat) : (mastref2_fieldFault.e k).Sound Tryd.prog ctx 25 :=
  entry_ok base_ok mo (fn := Tryd.f25) (b := (Tryd.f25.body.getD .skip)) (pm := [(.d (.sl (.st 1))), (.d (.int .i64))]) (rs := [(.int .i64)]) (an := mastref2_fieldFault.a) (N := 121) (vars := [(.tmp 4)]) Tryd.func25 (by kernel_rfl) (by kernel_rfl) (by kernel_rfl) (by kernel_rfl) (by kernel_rfl) (by kernel_rfl) (O := mastref2_fieldFault.O)
    (fun k => by unfold mastref2_fieldFault.O; exact oracle_of (P := Tryd.prog) (C := ctx) ⟨(mastref2_ConfCheck.ok k), ⟨(mastref2_RouteParts.ok k), ⟨(mastref2_badByte.ok k), ⟨(strings_Contains.ok), trivial⟩⟩⟩⟩) mastref2_fieldFault.T ⟨⟨by kernel_rfl, fun _ => by first | rfl | rw [mastref2_fieldFault.l0], fun k h => mastref2_fieldFault.l0_eq k h.1 h.2.1 h.2.2.1 h.2.2.2.1 h.2.2.2.2.1 h.2.2.2.2.2.1 h.2.2.2.2.2.2.1 h.2.2.2.2.2.2.2.1 h.2.2.2.2.2.2.2.2.1 h.2.2.2.2.2.2.2.2.2.1 h.2.2.2.2.2.2.2.2.2.2.1 h.2.2.2.2.2.2.2.2.2.2.2.1 h.2.2.2.2.2.2.2.2.2.2.2.2.1 h.2.2.2.2.2.2.2.2.2.2.2.2.2.1 h.2.2.2.2.2.2.2.2.2.2.2.2.2.2.1 h.2.2.2.2.2.2.2.2.2.2.2.2.2.2.2.1⟩, ⟨⟨by kernel_rfl, fun _ => by first | rfl | rw [mastref2_fieldFault.l1], fun k h => mastref2_fieldFault.l1_eq k h.1 h.2.1 h.2.2.1 h.2.2.2.1 h.2.2.2.2.1 h.2.2.2.2.2.1 h.2.2.2.2.2.2.1 h.2.2.2.2.2.2.2.1 h.2.2.2.2.2.2.2.2.1 h.2.2.2.2.2.2.2.2.2.1 h.2.2.2.2.2.2.2.2.2.2.1 h.2.2.2.2.2.2.2.2.2.2.2.1 h.2.2.2.2.2.2.2.2.2.2.2.2.1 h.2.2.2.2.2.2.2.2.2.2.2.2.2.1 h.2.2.2.2.2.2.2.2.2.2.2.2.2.2.1 h.2.2.2.2.2.2.2.2.2.2.2.2.2.2.2.1⟩, trivial⟩⟩ k (fun h => mastref2_fieldFault.f_eq k h.1 h.2.1)
def mastref2_SchemaFault.l0 : Nat → (List T_conf_Field) → Bool → Int → Int → Option (Int)
  | 0, _, _, _, _ => none
  | k + 1, x1_0, x1_1, x11, x12 => (bif (ilt x12 x11) then ((mastref2_fieldFault.f k x1_0 x12).bind fun y1 => (bif (!ieq y1 0) then (some y1) else (mastref2_SchemaFault.l0 k x1_0 x1_1 x11 (wadd .i64 x12 1)))) else (some 0))
def mastref2_SchemaFault.f (k : Nat) (a0 : T_conf_Schema) : Option (Int) := (bif (ilt 100 (llen a0.fFields)) then (some 4) else (mastref2_SchemaFault.l0 k a0.fFields a0.fStrict (llen a0.fFields) 0))
def mastref2_SchemaFault.O (k : Nat) : Oracle sg := fun n => lkp n [(25, mastref2_fieldFault.e k)]
def mastref2_SchemaFault.a : Ann := (.n .z (.n .z (.n (.n .z (.lp 0 .z)) .z)))
def mastref2_SchemaFault.L (k : Nat) : Nat → St sg.U → Option (RT sg.U [(.int .i64)]) := labs [(0, labOf sg [(1, (.box [.d (.sl (.st 1)), .d .bool])), (11, (.d (.int .i64))), (12, (.d (.int .i64)))] (fun h => mastref2_SchemaFault.l0 k h.1 h.2.1 h.2.2.1 h.2.2.2.1))]
theorem mastref2_SchemaFault.l0_eq (k : Nat) (x1_0 : (List T_conf_Field)) (x1_1 : Bool) (x11 : Int) (x12 : Int) : mastref2_SchemaFault.l0 (k + 1) x1_0 x1_1 x11 x12 = runFrom (C := ctx) (mastref2_SchemaFault.O k) ⟨23, [], []⟩ (mastref2_SchemaFault.L k) (Tryd.f12.body.getD .skip) mastref2_SchemaFault.a 0 (endK ctx [(.int .i64)] [(.tmp 2)]) (encD [(1, (.box [.d (.sl (.st 1)), .d .bool])), (11, (.d (.int .i64))), (12, (.d (.int .i64)))] (x1_0, x1_1, x11, x12, ()) (startD sg.U ⟨23, [], []⟩ [(1, (.box [.d (.sl (.st 1)), .d .bool])), (11, (.d (.int .i64))), (12, (.d (.int .i64)))])) := by
  rw [mastref2_SchemaFault.l0]
  kernel_rfl
theorem mastref2_SchemaFault.f_eq (k : Nat) (a0 : T_conf_Schema) : mastref2_SchemaFault.f k a0 = codeK (C := ctx) (mastref2_SchemaFault.O k) ⟨23, [], []⟩ (mastref2_SchemaFault.L k) (Tryd.f12.body.getD .skip) mastref2_SchemaFault.a (endK ctx [(.int .i64)] [(.tmp 2)]) (slotsOf sg.U 0 [(.d (.st 0))] (a0, ()) (empty sg.U)) := by
  unfold mastref2_SchemaFault.f
  kernel_rfl
def mastref2_SchemaFault.e (k : Nat) : Entry sg := entryOf sg [(.d (.st 0))] [(.int .i64)] (fun h => mastref2_SchemaFault.f k h.1)
def mastref2_SchemaFault.T : List (Lb sg (RT sg.U [(.int .i64)])) := [⟨0, [(1, (.box [.d (.sl (.st 1)), .d .bool])), (11, (.d (.int .i64))), (12, (.d (.int .i64)))], fun k h => mastref2_SchemaFault.l0 k h.1 h.2.1 h.2.2.1 h.2.2.2.1⟩]
theorem mastref2_SchemaFault.ok (k : Nat) : (mastref2_SchemaFault.e k).Sound Tryd.prog ctx 12 :=
  entry_ok base_ok mo (fn := Tryd.f12) (b := (Tryd.f12.body.getD .skip)) (pm := [(.d (.st 0))]) (rs := [(.int .i64)]) (an := mastref2_SchemaFault.a) (N := 23) (vars := [(.tmp 2)]) Tryd.func12 (by kernel_rfl) (by kernel_rfl) (by kernel_rfl) (by kernel_rfl) (by kernel_rfl) (by kernel_rfl) (O := mastref2_SchemaFault.O)
    (fun k => by unfold mastref2_SchemaFault.O; exact oracle_of (P := Tryd.prog) (C := ctx) ⟨(mastref2_fieldFault.ok k), trivial⟩) mastref2_SchemaFault.T ⟨⟨by kernel_rfl, fun _ => by first | rfl | rw [mastref2_SchemaFault.l0], fun k h => mastref2_SchemaFault.l0_eq k h.1 h.2.1 h.2.2.1 h.2.2.2.1⟩, trivial⟩ k (fun h => mastref2_SchemaFault.f_eq k h.1)
def mastlaw2_SchemaChecks.f (k : Nat) (a0 : T_conf_Schema) : Option (Bool) := ((conf_CheckSchema.f k a0).bind fun y1 => ((mastref2_SchemaFault.f k a0).bind fun y2 => (some (ieq y1 y2))))
def mastlaw2_SchemaChecks.O (k : Nat) : Oracle sg := fun n => lkp n [(11, conf_CheckSchema.e k), (12, mastref2_SchemaFault.e k)]
def mastlaw2_SchemaChecks.a : Ann := .z
def mastlaw2_SchemaChecks.L (k : Nat) : Nat → St sg.U → Option (RT sg.U [.bool]) := labs []
theorem mastlaw2_SchemaChecks.f_eq (k : Nat) (a0 : T_conf_Schema) : mastlaw2_SchemaChecks.f k a0 = codeK (C := ctx) (mastlaw2_SchemaChecks.O k) ⟨8, [], []⟩ (mastlaw2_SchemaChecks.L k) (Tryd.f5.body.getD .skip) mastlaw2_SchemaChecks.a (endK ctx [.bool] [(.tmp 2)]) (slotsOf sg.U 0 [(.d (.st 0))] (a0, ()) (empty sg.U)) := by
  unfold mastlaw2_SchemaChecks.f
  kernel_rfl
def mastlaw2_SchemaChecks.e (k : Nat) : Entry sg := entryOf sg [(.d (.st 0))] [.bool] (fun h => mastlaw2_SchemaChecks.f k h.1)
def mastlaw2_SchemaChecks.T : List (Lb sg (RT sg.U [.bool])) := []
theorem mastlaw2_SchemaChecks.ok (k : Nat) : (mastlaw2_SchemaChecks.e k).Sound Tryd.prog ctx 5 :=
  entry_ok base_ok mo (fn := Tryd.f5) (b := (Tryd.f5.body.getD .skip)) (pm := [(.d (.st 0))]) (rs := [.bool]) (an := mastlaw2_SchemaChecks.a) (N := 8) (vars := [(.tmp 2)]) Tryd.func5 (by kernel_rfl) (by kernel_rfl) (by kernel_rfl) (by kernel_rfl) (by kernel_rfl) (by kernel_rfl) (O := mastlaw2_SchemaChecks.O)
    (fun k => by unfold mastlaw2_SchemaChecks.O; exact oracle_of (P := Tryd.prog) (C := ctx) ⟨(conf_CheckSchema.ok k), ⟨(mastref2_SchemaFault.ok k), trivial⟩⟩) mastlaw2_SchemaChecks.T trivial k (fun h => mastlaw2_SchemaChecks.f_eq k h.1)
end Go.Proofs.YtibnepagledbjaaDoor.LSchemaChecks
