/- The functions behind the law CondHolds, checked against the code; their summaries hold. Conditions: none. -/
import Derived.Test.YtmbjiadilfbooaaGreatDoorLiftZ
import Derived.Test.YtmbjiadilfbooaaGreatDoorProg
import Derived.Test.YtmbjiadilfbooaaGreatDoorLCondHoldsSh
import Derived.Shelf.Strings.SlTrimAscii
namespace Go.Proofs.YtmbjiadilfbooaaGreatDoor.LCondHolds
open Go Go.Proofs.YtmbjiadilfbooaaGreatDoor.Lift
set_option maxRecDepth 100000
set_option linter.unusedVariables false
structure T_api_Value where
  fKind : Int
  fBool : Bool
  fInt : Int
  fText : ByteArray
  fItems : (List T_api_Value)
  fKeys : (List ByteArray)
  deriving Inhabited
structure T_list_Cond where
  fOp : Int
  fRoute : ByteArray
  fValue : T_api_Value
  fKids : (List T_list_Cond)
  deriving Inhabited
structure T_list_step where
  fkey : ByteArray
  fnumber : Int
  deriving Inhabited
abbrev sgU : Nat → Type
  | 0 => T_list_Cond
  | 1 => T_api_Value
  | 2 => T_list_step
  | _ + 3 => Unit
abbrev sgF : Nat → List Ty
  | 0 => [(.int .i64), .str, (.st 1), (.sl (.st 0))]
  | 1 => [(.int .i64), .bool, (.int .i64), .str, (.sl (.st 1)), (.sl .str)]
  | 2 => [.str, (.int .i64)]
  | _ + 3 => []
def sgO : (n : Nat) → sgU n → HL sgU (sgF n)
  | 0, x => (x.fOp, x.fRoute, x.fValue, x.fKids, ())
  | 1, x => (x.fKind, x.fBool, x.fInt, x.fText, x.fItems, x.fKeys, ())
  | 2, x => (x.fkey, x.fnumber, ())
  | _ + 3, _ => ()
def sgB : (n : Nat) → HL sgU (sgF n) → sgU n
  | 0, h => ⟨h.1, h.2.1, h.2.2.1, h.2.2.2.1⟩
  | 1, h => ⟨h.1, h.2.1, h.2.2.1, h.2.2.2.1, h.2.2.2.2.1, h.2.2.2.2.2.1⟩
  | 2, h => ⟨h.1, h.2.1⟩
  | _ + 3, _ => ()
def g_condWords : List ByteArray := [⟨#[97, 110, 100]⟩, ⟨#[111, 114]⟩, ⟨#[110, 111, 116]⟩, ⟨#[104, 97, 115]⟩, ⟨#[105, 110]⟩, ⟨#[98, 101, 103, 105, 110, 115]⟩]
def sg : Sg := { U := sgU, fl := sgF, out := sgO, bld := sgB, gl := [2], gv := fun k => lkp (α := (t : Ty) × El sgU t) k [(1, ⟨(.sl .str), g_condWords⟩)] }
def ctx : Ctx := { S := sg, ty := [(3, .d (.int .i64) 1 0), (4, .d .bool 1 0), (5, .d (.int .u8) 1 0), (9, .d .str 1 0), (22, .d (.sl (.st 1)) 88 25), (23, .d (.sl .str) 16 9), (25, .d (.st 1) 1 0), (26, .d (.sl (.st 0)) 136 28), (28, .d (.st 0) 1 0), (29, .d (.int .i64) 1 0), (33, .d (.sl (.int .i64)) 8 3), (192, .d (.sl (.st 2)) 24 291), (291, .d (.st 2) 1 0)], eqs := [] }
def c_empty : ByteArray := ⟨#[]⟩
def c_0 : ByteArray := ⟨#[48]⟩
def c_and : ByteArray := ⟨#[97, 110, 100]⟩
def c_or : ByteArray := ⟨#[111, 114]⟩
def c_not : ByteArray := ⟨#[110, 111, 116]⟩
def c_has : ByteArray := ⟨#[104, 97, 115]⟩
def c_in : ByteArray := ⟨#[105, 110]⟩
def c_begins : ByteArray := ⟨#[98, 101, 103, 105, 110, 115]⟩
def c__2e : ByteArray := ⟨#[46]⟩
def c_0123456789 : ByteArray := ⟨#[48, 49, 50, 51, 52, 53, 54, 55, 56, 57]⟩
def c_abcdefghijklmnopqrst_0e2e2cf4 : ByteArray := ⟨#[97, 98, 99, 100, 101, 102, 103, 104, 105, 106, 107, 108, 109, 110, 111, 112, 113, 114, 115, 116, 117, 118, 119, 120, 121, 122, 48, 49, 50, 51, 52, 53, 54, 55, 56, 57, 45, 95]⟩
def c__2a : ByteArray := ⟨#[42]⟩
theorem sg_ok : SgOk sg :=
  ⟨fun n h => by rcases n with _ | _ | _ | n <;> rfl, fun n => by rcases n with _ | _ | _ | n <;> rfl, fun n x => by rcases n with _ | _ | _ | n <;> rfl, fun n => by rcases n with _ | _ | _ | n <;> rfl⟩
theorem base_ok : Base Tryz.prog ctx := base_of sg_ok (by kernel_rfl) (eqOk_of (by kernel_rfl))
theorem open_ok : openB Tryz.prog ctx = true := by kernel_rfl
theorem mo : Tryz.prog.follows .mixedOrders = true := by kernel_rfl
mutual
def list_many.l0 : Nat → Int → (List T_list_Cond) → Int → Int → Option (Int)
  | 0, _, _, _, _ => none
  | k + 1, x3, x7, x8, x9 => (bif (ilt x9 x8) then ((lat x7 x9).bind fun y1 => (bif (ilt 200 x3) then (some x3) else ((list_many.f k (T_list_Cond.mk y1.fOp y1.fRoute (T_api_Value.mk y1.fValue.fKind y1.fValue.fBool y1.fValue.fInt y1.fValue.fText y1.fValue.fItems y1.fValue.fKeys) y1.fKids)).bind fun y2 => (list_many.l0 k (wadd .i64 x3 y2) x7 x8 (wadd .i64 x9 1))))) else (some x3))
def list_many.f : Nat → T_list_Cond → Option (Int)
  | 0, _ => none
  | k + 1, a0 => (list_many.l0 k 1 a0.fKids (llen a0.fKids) 0)
end
def list_many.e (k : Nat) : Entry sg := entryOf sg [(.d (.st 0))] [(.int .i64)] (fun h => list_many.f k h.1)
def list_many.O (k : Nat) : Oracle sg := fun n => lkp n [(109, list_many.e k)]
def list_many.a : Ann := (.n .z (.n .z (.n (.n .z (.lp 0 .z)) .z)))
def list_many.L (k : Nat) : Nat → St sg.U → Option (RT sg.U [(.int .i64)]) := labs [(0, labOf sg [(3, (.d (.int .i64))), (7, (.d (.sl (.st 0)))), (8, (.d (.int .i64))), (9, (.d (.int .i64)))] (fun h => list_many.l0 k h.1 h.2.1 h.2.2.1 h.2.2.2.1))]
theorem list_many.l0_eq (k : Nat) (x3 : Int) (x7 : (List T_list_Cond)) (x8 : Int) (x9 : Int) : list_many.l0 (k + 1) x3 x7 x8 x9 = runFrom (C := ctx) (list_many.O k) ⟨21, [], []⟩ (list_many.L k) (Tryz.f109.body.getD .skip) list_many.a 0 (endK ctx [(.int .i64)] [(.tmp 2)]) (encD [(3, (.d (.int .i64))), (7, (.d (.sl (.st 0)))), (8, (.d (.int .i64))), (9, (.d (.int .i64)))] (x3, x7, x8, x9, ()) (startD sg.U ⟨21, [], []⟩ [(3, (.d (.int .i64))), (7, (.d (.sl (.st 0)))), (8, (.d (.int .i64))), (9, (.d (.int .i64)))])) := by
  rw [list_many.l0]
  kernel_rfl
theorem list_many.f_eq (k : Nat) (a0 : T_list_Cond) : list_many.f (k + 1) a0 = codeK (C := ctx) (list_many.O k) ⟨21, [], []⟩ (list_many.L k) (Tryz.f109.body.getD .skip) list_many.a (endK ctx [(.int .i64)] [(.tmp 2)]) (slotsOf sg.U 0 [(.d (.st 0))] (a0, ()) (empty sg.U)) := by
  rw [list_many.f]
  kernel_rfl
def list_many.T : List (Lb sg (RT sg.U [(.int .i64)])) := [⟨0, [(3, (.d (.int .i64))), (7, (.d (.sl (.st 0)))), (8, (.d (.int .i64))), (9, (.d (.int .i64)))], fun k h => list_many.l0 k h.1 h.2.1 h.2.2.1 h.2.2.2.1⟩]
theorem list_many.ok : ∀ k : Nat, (list_many.e k).Sound Tryz.prog ctx 109 :=
  entry_rec base_ok mo (fn := Tryz.f109) (b := (Tryz.f109.body.getD .skip)) (pm := [(.d (.st 0))]) (rs := [(.int .i64)]) (an := list_many.a) (N := 21) (vars := [(.tmp 2)]) Tryz.func109 (by kernel_rfl) (by kernel_rfl) (by kernel_rfl) (by kernel_rfl) (by kernel_rfl) (by kernel_rfl) (O := list_many.O) list_many.T ⟨⟨by kernel_rfl, fun _ => by first | rfl | rw [list_many.l0], fun k h => list_many.l0_eq k h.1 h.2.1 h.2.2.1 h.2.2.2.1⟩, trivial⟩ (F := fun k h => list_many.f k h.1) (fun _ => by first | rfl | rw [list_many.f]) (fun k h => list_many.f_eq k h.1)
    (fun k own => by unfold list_many.O; exact oracle_of (P := Tryz.prog) (C := ctx) ⟨own, trivial⟩)
mutual
def list_deep.l0 : Nat → Int → (List T_list_Cond) → Int → Int → Option (Int)
  | 0, _, _, _, _ => none
  | k + 1, x3, x7, x8, x9 => (bif (ilt x9 x8) then ((lat x7 x9).bind fun y1 => ((list_deep.f k (T_list_Cond.mk y1.fOp y1.fRoute (T_api_Value.mk y1.fValue.fKind y1.fValue.fBool y1.fValue.fInt y1.fValue.fText y1.fValue.fItems y1.fValue.fKeys) y1.fKids)).bind fun y2 => (list_deep.l0 k (imax x3 y2) x7 x8 (wadd .i64 x9 1)))) else (some (wadd .i64 x3 1)))
def list_deep.f : Nat → T_list_Cond → Option (Int)
  | 0, _ => none
  | k + 1, a0 => (list_deep.l0 k 0 a0.fKids (llen a0.fKids) 0)
end
def list_deep.e (k : Nat) : Entry sg := entryOf sg [(.d (.st 0))] [(.int .i64)] (fun h => list_deep.f k h.1)
def list_deep.O (k : Nat) : Oracle sg := fun n => lkp n [(110, list_deep.e k)]
def list_deep.a : Ann := (.n .z (.n .z (.n (.n .z (.lp 0 .z)) .z)))
def list_deep.L (k : Nat) : Nat → St sg.U → Option (RT sg.U [(.int .i64)]) := labs [(0, labOf sg [(3, (.d (.int .i64))), (7, (.d (.sl (.st 0)))), (8, (.d (.int .i64))), (9, (.d (.int .i64)))] (fun h => list_deep.l0 k h.1 h.2.1 h.2.2.1 h.2.2.2.1))]
theorem list_deep.l0_eq (k : Nat) (x3 : Int) (x7 : (List T_list_Cond)) (x8 : Int) (x9 : Int) : list_deep.l0 (k + 1) x3 x7 x8 x9 = runFrom (C := ctx) (list_deep.O k) ⟨20, [], []⟩ (list_deep.L k) (Tryz.f110.body.getD .skip) list_deep.a 0 (endK ctx [(.int .i64)] [(.tmp 2)]) (encD [(3, (.d (.int .i64))), (7, (.d (.sl (.st 0)))), (8, (.d (.int .i64))), (9, (.d (.int .i64)))] (x3, x7, x8, x9, ()) (startD sg.U ⟨20, [], []⟩ [(3, (.d (.int .i64))), (7, (.d (.sl (.st 0)))), (8, (.d (.int .i64))), (9, (.d (.int .i64)))])) := by
  rw [list_deep.l0]
  kernel_rfl
theorem list_deep.f_eq (k : Nat) (a0 : T_list_Cond) : list_deep.f (k + 1) a0 = codeK (C := ctx) (list_deep.O k) ⟨20, [], []⟩ (list_deep.L k) (Tryz.f110.body.getD .skip) list_deep.a (endK ctx [(.int .i64)] [(.tmp 2)]) (slotsOf sg.U 0 [(.d (.st 0))] (a0, ()) (empty sg.U)) := by
  rw [list_deep.f]
  kernel_rfl
def list_deep.T : List (Lb sg (RT sg.U [(.int .i64)])) := [⟨0, [(3, (.d (.int .i64))), (7, (.d (.sl (.st 0)))), (8, (.d (.int .i64))), (9, (.d (.int .i64)))], fun k h => list_deep.l0 k h.1 h.2.1 h.2.2.1 h.2.2.2.1⟩]
theorem list_deep.ok : ∀ k : Nat, (list_deep.e k).Sound Tryz.prog ctx 110 :=
  entry_rec base_ok mo (fn := Tryz.f110) (b := (Tryz.f110.body.getD .skip)) (pm := [(.d (.st 0))]) (rs := [(.int .i64)]) (an := list_deep.a) (N := 20) (vars := [(.tmp 2)]) Tryz.func110 (by kernel_rfl) (by kernel_rfl) (by kernel_rfl) (by kernel_rfl) (by kernel_rfl) (by kernel_rfl) (O := list_deep.O) list_deep.T ⟨⟨by kernel_rfl, fun _ => by first | rfl | rw [list_deep.l0], fun k h => list_deep.l0_eq k h.1 h.2.1 h.2.2.1 h.2.2.2.1⟩, trivial⟩ (F := fun k h => list_deep.f k h.1) (fun _ => by first | rfl | rw [list_deep.f]) (fun k h => list_deep.f_eq k h.1)
    (fun k own => by unfold list_deep.O; exact oracle_of (P := Tryz.prog) (C := ctx) ⟨own, trivial⟩)
def list_zero.f (a0 : T_api_Value) : Option (Bool) := (some (bif (bif (bif (bif (bif (ieq a0.fKind 0) then (!a0.fBool) else false) then (ieq a0.fInt 0) else false) then (seq a0.fText c_empty) else false) then (ieq (llen a0.fItems) 0) else false) then (ieq (llen a0.fKeys) 0) else false))
def list_zero.O : Oracle sg := fun n => lkp n []
def list_zero.a : Ann := .z
def list_zero.L : Nat → St sg.U → Option (RT sg.U [.bool]) := labs []
theorem list_zero.f_eq (a0 : T_api_Value) : list_zero.f a0 = codeK (C := ctx) (list_zero.O) ⟨33, [], []⟩ (list_zero.L) (Tryz.f251.body.getD .skip) list_zero.a (endK ctx [.bool] [(.tmp 2)]) (slotsOf sg.U 0 [(.d (.st 1))] (a0, ()) (empty sg.U)) := by
  unfold list_zero.f
  kernel_rfl
def list_zero.e : Entry sg := entryOf sg [(.d (.st 1))] [.bool] (fun h => list_zero.f h.1)
def list_zero.T : List (Lb sg (RT sg.U [.bool])) := []
theorem list_zero.ok : (list_zero.e).Sound Tryz.prog ctx 251 :=
  entry_ok base_ok mo (fn := Tryz.f251) (b := (Tryz.f251.body.getD .skip)) (pm := [(.d (.st 1))]) (rs := [.bool]) (an := list_zero.a) (N := 33) (vars := [(.tmp 2)]) Tryz.func251 (by kernel_rfl) (by kernel_rfl) (by kernel_rfl) (by kernel_rfl) (by kernel_rfl) (by kernel_rfl) (O := fun _ => list_zero.O)
    (fun _ => by unfold list_zero.O; exact oracle_of (P := Tryz.prog) (C := ctx) trivial) list_zero.T trivial 0 (fun h => list_zero.f_eq h.1)
def list_isSmall.f (a0 : Int) : Option (Bool) := (some (bif (ile 97 a0) then (ile a0 122) else false))
def list_isSmall.O : Oracle sg := fun n => lkp n []
def list_isSmall.a : Ann := .z
def list_isSmall.L : Nat → St sg.U → Option (RT sg.U [.bool]) := labs []
theorem list_isSmall.f_eq (a0 : Int) : list_isSmall.f a0 = codeK (C := ctx) (list_isSmall.O) ⟨9, [], []⟩ (list_isSmall.L) (Tryz.f255.body.getD .skip) list_isSmall.a (endK ctx [.bool] [(.tmp 2)]) (slotsOf sg.U 0 [(.d (.int .u8))] (a0, ()) (empty sg.U)) := by
  unfold list_isSmall.f
  kernel_rfl
def list_isSmall.e : Entry sg := entryOf sg [(.d (.int .u8))] [.bool] (fun h => list_isSmall.f h.1)
def list_isSmall.T : List (Lb sg (RT sg.U [.bool])) := []
theorem list_isSmall.ok : (list_isSmall.e).Sound Tryz.prog ctx 255 :=
  entry_ok base_ok mo (fn := Tryz.f255) (b := (Tryz.f255.body.getD .skip)) (pm := [(.d (.int .u8))]) (rs := [.bool]) (an := list_isSmall.a) (N := 9) (vars := [(.tmp 2)]) Tryz.func255 (by kernel_rfl) (by kernel_rfl) (by kernel_rfl) (by kernel_rfl) (by kernel_rfl) (by kernel_rfl) (O := fun _ => list_isSmall.O)
    (fun _ => by unfold list_isSmall.O; exact oracle_of (P := Tryz.prog) (C := ctx) trivial) list_isSmall.T trivial 0 (fun h => list_isSmall.f_eq h.1)
def list_isDigit.f (a0 : Int) : Option (Bool) := (some (bif (ile 48 a0) then (ile a0 57) else false))
def list_isDigit.O : Oracle sg := fun n => lkp n []
def list_isDigit.a : Ann := .z
def list_isDigit.L : Nat → St sg.U → Option (RT sg.U [.bool]) := labs []
theorem list_isDigit.f_eq (a0 : Int) : list_isDigit.f a0 = codeK (C := ctx) (list_isDigit.O) ⟨9, [], []⟩ (list_isDigit.L) (Tryz.f211.body.getD .skip) list_isDigit.a (endK ctx [.bool] [(.tmp 2)]) (slotsOf sg.U 0 [(.d (.int .u8))] (a0, ()) (empty sg.U)) := by
  unfold list_isDigit.f
  kernel_rfl
def list_isDigit.e : Entry sg := entryOf sg [(.d (.int .u8))] [.bool] (fun h => list_isDigit.f h.1)
def list_isDigit.T : List (Lb sg (RT sg.U [.bool])) := []
theorem list_isDigit.ok : (list_isDigit.e).Sound Tryz.prog ctx 211 :=
  entry_ok base_ok mo (fn := Tryz.f211) (b := (Tryz.f211.body.getD .skip)) (pm := [(.d (.int .u8))]) (rs := [.bool]) (an := list_isDigit.a) (N := 9) (vars := [(.tmp 2)]) Tryz.func211 (by kernel_rfl) (by kernel_rfl) (by kernel_rfl) (by kernel_rfl) (by kernel_rfl) (by kernel_rfl) (O := fun _ => list_isDigit.O)
    (fun _ => by unfold list_isDigit.O; exact oracle_of (P := Tryz.prog) (C := ctx) trivial) list_isDigit.T trivial 0 (fun h => list_isDigit.f_eq h.1)
def list_isKey.l0 : Nat → ByteArray → Int → Option (Bool)
  | 0, _, _ => none
  | k + 1, x0, x3 => (bif (ilt x3 (slen x0)) then ((sat x0 x3).bind fun y3 => ((list_isSmall.f y3).bind fun y4 => (bif (!y4) then ((sat x0 x3).bind fun y5 => ((list_isDigit.f y5).bind fun y6 => (bif (!y6) then ((sat x0 x3).bind fun y7 => (bif (!ieq y7 45) then ((sat x0 x3).bind fun y8 => (bif (!ieq y8 95) then (some false) else (list_isKey.l0 k x0 (wadd .i64 x3 1)))) else (list_isKey.l0 k x0 (wadd .i64 x3 1)))) else (list_isKey.l0 k x0 (wadd .i64 x3 1))))) else (list_isKey.l0 k x0 (wadd .i64 x3 1))))) else (some true))
def list_isKey.f (k : Nat) (a0 : ByteArray) : Option (Bool) := (bif (bif (seq a0 c_empty) then true else (ilt 40 (slen a0))) then (some false) else ((sat a0 0).bind fun y1 => ((list_isSmall.f y1).bind fun y2 => (bif (!y2) then (some false) else (list_isKey.l0 k a0 1)))))
def list_isKey.O (k : Nat) : Oracle sg := fun n => lkp n [(211, list_isDigit.e), (255, list_isSmall.e)]
def list_isKey.a : Ann := (.n .z (.n .z (.n (.n .z (.lp 0 .z)) .z)))
def list_isKey.L (k : Nat) : Nat → St sg.U → Option (RT sg.U [.bool]) := labs [(0, labOf sg [(0, (.d .str)), (3, (.d (.int .i64)))] (fun h => list_isKey.l0 k h.1 h.2.1))]
theorem list_isKey.l0_eq (k : Nat) (x0 : ByteArray) (x3 : Int) : list_isKey.l0 (k + 1) x0 x3 = runFrom (C := ctx) (list_isKey.O k) ⟨47, [], []⟩ (list_isKey.L k) (Tryz.f210.body.getD .skip) list_isKey.a 0 (endK ctx [.bool] [(.tmp 2)]) (encD [(0, (.d .str)), (3, (.d (.int .i64)))] (x0, x3, ()) (startD sg.U ⟨47, [], []⟩ [(0, (.d .str)), (3, (.d (.int .i64)))])) := by
  rw [list_isKey.l0]
  kernel_rfl
theorem list_isKey.f_eq (k : Nat) (a0 : ByteArray) : list_isKey.f k a0 = codeK (C := ctx) (list_isKey.O k) ⟨47, [], []⟩ (list_isKey.L k) (Tryz.f210.body.getD .skip) list_isKey.a (endK ctx [.bool] [(.tmp 2)]) (slotsOf sg.U 0 [(.d .str)] (a0, ()) (empty sg.U)) := by
  unfold list_isKey.f
  kernel_rfl
def list_isKey.e (k : Nat) : Entry sg := entryOf sg [(.d .str)] [.bool] (fun h => list_isKey.f k h.1)
def list_isKey.T : List (Lb sg (RT sg.U [.bool])) := [⟨0, [(0, (.d .str)), (3, (.d (.int .i64)))], fun k h => list_isKey.l0 k h.1 h.2.1⟩]
theorem list_isKey.ok (k : Nat) : (list_isKey.e k).Sound Tryz.prog ctx 210 :=
  entry_ok base_ok mo (fn := Tryz.f210) (b := (Tryz.f210.body.getD .skip)) (pm := [(.d .str)]) (rs := [.bool]) (an := list_isKey.a) (N := 47) (vars := [(.tmp 2)]) Tryz.func210 (by kernel_rfl) (by kernel_rfl) (by kernel_rfl) (by kernel_rfl) (by kernel_rfl) (by kernel_rfl) (O := list_isKey.O)
    (fun k => by unfold list_isKey.O; exact oracle_of (P := Tryz.prog) (C := ctx) ⟨(list_isDigit.ok), ⟨(list_isSmall.ok), trivial⟩⟩) list_isKey.T ⟨⟨by kernel_rfl, fun _ => by first | rfl | rw [list_isKey.l0], fun k h => list_isKey.l0_eq k h.1 h.2.1⟩, trivial⟩ k (fun h => list_isKey.f_eq k h.1)
mutual
def list_steps.l0 : Nat → ByteArray → (List T_list_step) → Int → Int → Option ((List T_list_step) × Bool)
  | 0, _, _, _, _ => none
  | k + 1, x0, x4, x5, x6 => (bif (ile x6 (slen x0)) then (bif (ilt x6 (slen x0)) then ((sat x0 x6).bind fun y1 => (bif (!ieq y1 46) then (list_steps.l0 k x0 x4 x5 (wadd .i64 x6 1)) else (list_steps.l1 k x0 x4 x5 x6))) else (list_steps.l1 k x0 x4 x5 x6)) else (some (x4, true)))
def list_steps.l1 : Nat → ByteArray → (List T_list_step) → Int → Int → Option ((List T_list_step) × Bool)
  | 0, _, _, _, _ => none
  | k + 1, x0, x4, x5, x6 => ((ssub x0 x5 x6).bind fun y2 => ((list_isKey.f k y2).bind fun y3 => (bif y3 then ((lapp 24 x4 [(T_list_step.mk y2 0)]).bind fun y4 => (list_steps.l0 k x0 y4 (wadd .i64 x6 1) (wadd .i64 x6 1))) else (list_steps.l2 k x0 x4 (wadd .i64 x6 1) x6 y2 0 0))))
def list_steps.l2 : Nat → ByteArray → (List T_list_step) → Int → Int → ByteArray → Int → Int → Option ((List T_list_step) × Bool)
  | 0, _, _, _, _, _, _, _ => none
  | k + 1, x0, x4, x5, x6, x7, x8, x9 => (bif (ilt x9 (slen x7)) then ((sat x7 x9).bind fun y5 => ((list_isDigit.f y5).bind fun y6 => (bif (bif (!y6) then true else (ilt 3 x9)) then (some ([], false)) else ((sat x7 x9).bind fun y7 => (list_steps.l2 k x0 x4 x5 x6 x7 (wadd .i64 (wmul .i64 10 x8) (wcv .i64 (wsub .u8 y7 48))) (wadd .i64 x9 1)))))) else (bif (seq x7 c_empty) then (some ([], false)) else ((sat x7 0).bind fun y8 => (bif (bif (ieq y8 48) then (!seq x7 c_0) else false) then (some ([], false)) else ((lapp 24 x4 [(T_list_step.mk c_empty x8)]).bind fun y9 => (list_steps.l0 k x0 y9 x5 (wadd .i64 x6 1)))))))
end
def list_steps.f (k : Nat) (a0 : ByteArray) : Option ((List T_list_step) × Bool) := (bif (ilt 400 (slen a0)) then (some ([], false)) else (bif (seq a0 c_empty) then (some ([], true)) else (list_steps.l0 k a0 [] 0 0)))
def list_steps.O (k : Nat) : Oracle sg := fun n => lkp n [(210, list_isKey.e k), (211, list_isDigit.e)]
def list_steps.a : Ann := (.n .z (.n .z (.n .z (.n .z (.n (.n .z (.lp 0 (.n .z (.n (.n .z (.lab 1 (.n .z (.n .z (.n .z (.n .z (.n (.n .z (.lp 2 .z)) .z))))))) .z)))) .z)))))
def list_steps.L (k : Nat) : Nat → St sg.U → Option (RT sg.U [(.sl (.st 2)), .bool]) := labs [(0, labOf sg [(0, (.d .str)), (4, (.row 291 (.st 2))), (5, (.d (.int .i64))), (6, (.d (.int .i64)))] (fun h => list_steps.l0 k h.1 h.2.1 h.2.2.1 h.2.2.2.1)), (1, labOf sg [(0, (.d .str)), (4, (.row 291 (.st 2))), (5, (.d (.int .i64))), (6, (.d (.int .i64)))] (fun h => list_steps.l1 k h.1 h.2.1 h.2.2.1 h.2.2.2.1)), (2, labOf sg [(0, (.d .str)), (4, (.row 291 (.st 2))), (5, (.d (.int .i64))), (6, (.d (.int .i64))), (7, (.d .str)), (8, (.d (.int .i64))), (9, (.d (.int .i64)))] (fun h => list_steps.l2 k h.1 h.2.1 h.2.2.1 h.2.2.2.1 h.2.2.2.2.1 h.2.2.2.2.2.1 h.2.2.2.2.2.2.1))]
theorem list_steps.l0_eq (k : Nat) (x0 : ByteArray) (x4 : (List T_list_step)) (x5 : Int) (x6 : Int) : list_steps.l0 (k + 1) x0 x4 x5 x6 = runFrom (C := ctx) (list_steps.O k) ⟨84, [], []⟩ (list_steps.L k) (Tryz.f115.body.getD .skip) list_steps.a 0 (endK ctx [(.sl (.st 2)), .bool] [(.tmp 2), (.tmp 3)]) (encD [(0, (.d .str)), (4, (.row 291 (.st 2))), (5, (.d (.int .i64))), (6, (.d (.int .i64)))] (x0, x4, x5, x6, ()) (startD sg.U ⟨84, [], []⟩ [(0, (.d .str)), (4, (.row 291 (.st 2))), (5, (.d (.int .i64))), (6, (.d (.int .i64)))])) := by
  rw [list_steps.l0]
  kernel_rfl
theorem list_steps.l1_eq (k : Nat) (x0 : ByteArray) (x4 : (List T_list_step)) (x5 : Int) (x6 : Int) : list_steps.l1 (k + 1) x0 x4 x5 x6 = runFrom (C := ctx) (list_steps.O k) ⟨84, [], []⟩ (list_steps.L k) (Tryz.f115.body.getD .skip) list_steps.a 1 (endK ctx [(.sl (.st 2)), .bool] [(.tmp 2), (.tmp 3)]) (encD [(0, (.d .str)), (4, (.row 291 (.st 2))), (5, (.d (.int .i64))), (6, (.d (.int .i64)))] (x0, x4, x5, x6, ()) (startD sg.U ⟨84, [], []⟩ [(0, (.d .str)), (4, (.row 291 (.st 2))), (5, (.d (.int .i64))), (6, (.d (.int .i64)))])) := by
  rw [list_steps.l1]
  kernel_rfl
theorem list_steps.l2_eq (k : Nat) (x0 : ByteArray) (x4 : (List T_list_step)) (x5 : Int) (x6 : Int) (x7 : ByteArray) (x8 : Int) (x9 : Int) : list_steps.l2 (k + 1) x0 x4 x5 x6 x7 x8 x9 = runFrom (C := ctx) (list_steps.O k) ⟨84, [], []⟩ (list_steps.L k) (Tryz.f115.body.getD .skip) list_steps.a 2 (endK ctx [(.sl (.st 2)), .bool] [(.tmp 2), (.tmp 3)]) (encD [(0, (.d .str)), (4, (.row 291 (.st 2))), (5, (.d (.int .i64))), (6, (.d (.int .i64))), (7, (.d .str)), (8, (.d (.int .i64))), (9, (.d (.int .i64)))] (x0, x4, x5, x6, x7, x8, x9, ()) (startD sg.U ⟨84, [], []⟩ [(0, (.d .str)), (4, (.row 291 (.st 2))), (5, (.d (.int .i64))), (6, (.d (.int .i64))), (7, (.d .str)), (8, (.d (.int .i64))), (9, (.d (.int .i64)))])) := by
  rw [list_steps.l2]
  kernel_rfl
theorem list_steps.f_eq (k : Nat) (a0 : ByteArray) : list_steps.f k a0 = codeK (C := ctx) (list_steps.O k) ⟨84, [], []⟩ (list_steps.L k) (Tryz.f115.body.getD .skip) list_steps.a (endK ctx [(.sl (.st 2)), .bool] [(.tmp 2), (.tmp 3)]) (slotsOf sg.U 0 [(.d .str)] (a0, ()) (empty sg.U)) := by
  unfold list_steps.f
  kernel_rfl
def list_steps.e (k : Nat) : Entry sg := entryOf sg [(.d .str)] [(.sl (.st 2)), .bool] (fun h => list_steps.f k h.1)
def list_steps.T : List (Lb sg (RT sg.U [(.sl (.st 2)), .bool])) := [⟨0, [(0, (.d .str)), (4, (.row 291 (.st 2))), (5, (.d (.int .i64))), (6, (.d (.int .i64)))], fun k h => list_steps.l0 k h.1 h.2.1 h.2.2.1 h.2.2.2.1⟩, ⟨1, [(0, (.d .str)), (4, (.row 291 (.st 2))), (5, (.d (.int .i64))), (6, (.d (.int .i64)))], fun k h => list_steps.l1 k h.1 h.2.1 h.2.2.1 h.2.2.2.1⟩, ⟨2, [(0, (.d .str)), (4, (.row 291 (.st 2))), (5, (.d (.int .i64))), (6, (.d (.int .i64))), (7, (.d .str)), (8, (.d (.int .i64))), (9, (.d (.int .i64)))], fun k h => list_steps.l2 k h.1 h.2.1 h.2.2.1 h.2.2.2.1 h.2.2.2.2.1 h.2.2.2.2.2.1 h.2.2.2.2.2.2.1⟩]
theorem list_steps.ok (k : Nat) : (list_steps.e k).Sound Tryz.prog ctx 115 :=
  entry_ok base_ok mo (fn := Tryz.f115) (b := (Tryz.f115.body.getD .skip)) (pm := [(.d .str)]) (rs := [(.sl (.st 2)), .bool]) (an := list_steps.a) (N := 84) (vars := [(.tmp 2), (.tmp 3)]) Tryz.func115 (by kernel_rfl) (by kernel_rfl) (by kernel_rfl) (by kernel_rfl) (by kernel_rfl) (by kernel_rfl) (O := list_steps.O)
    (fun k => by unfold list_steps.O; exact oracle_of (P := Tryz.prog) (C := ctx) ⟨(list_isKey.ok k), ⟨(list_isDigit.ok), trivial⟩⟩) list_steps.T ⟨⟨by kernel_rfl, fun _ => by first | rfl | rw [list_steps.l0], fun k h => list_steps.l0_eq k h.1 h.2.1 h.2.2.1 h.2.2.2.1⟩, ⟨⟨by kernel_rfl, fun _ => by first | rfl | rw [list_steps.l1], fun k h => list_steps.l1_eq k h.1 h.2.1 h.2.2.1 h.2.2.2.1⟩, ⟨⟨by kernel_rfl, fun _ => by first | rfl | rw [list_steps.l2], fun k h => list_steps.l2_eq k h.1 h.2.1 h.2.2.1 h.2.2.2.1 h.2.2.2.2.1 h.2.2.2.2.2.1 h.2.2.2.2.2.2.1⟩, trivial⟩⟩⟩ k (fun h => list_steps.f_eq k h.1)
def list_reserved.f (a0 : ByteArray) : Option (Bool) := (bif (seq a0 c_and) then (some true) else (bif (seq a0 c_or) then (some true) else (bif (seq a0 c_not) then (some true) else (bif (seq a0 c_has) then (some true) else (bif (seq a0 c_in) then (some true) else (bif (seq a0 c_begins) then (some true) else (some false)))))))
def list_reserved.O : Oracle sg := fun n => lkp n []
def list_reserved.a : Ann := .z
def list_reserved.L : Nat → St sg.U → Option (RT sg.U [.bool]) := labs []
theorem list_reserved.f_eq (a0 : ByteArray) : list_reserved.f a0 = codeK (C := ctx) (list_reserved.O) ⟨11, [], []⟩ (list_reserved.L) (Tryz.f275.body.getD .skip) list_reserved.a (endK ctx [.bool] [(.tmp 2)]) (slotsOf sg.U 0 [(.d .str)] (a0, ()) (empty sg.U)) := by
  unfold list_reserved.f
  kernel_rfl
def list_reserved.e : Entry sg := entryOf sg [(.d .str)] [.bool] (fun h => list_reserved.f h.1)
def list_reserved.T : List (Lb sg (RT sg.U [.bool])) := []
theorem list_reserved.ok : (list_reserved.e).Sound Tryz.prog ctx 275 :=
  entry_ok base_ok mo (fn := Tryz.f275) (b := (Tryz.f275.body.getD .skip)) (pm := [(.d .str)]) (rs := [.bool]) (an := list_reserved.a) (N := 11) (vars := [(.tmp 2)]) Tryz.func275 (by kernel_rfl) (by kernel_rfl) (by kernel_rfl) (by kernel_rfl) (by kernel_rfl) (by kernel_rfl) (O := fun _ => list_reserved.O)
    (fun _ => by unfold list_reserved.O; exact oracle_of (P := Tryz.prog) (C := ctx) trivial) list_reserved.T trivial 0 (fun h => list_reserved.f_eq h.1)
def list_isRoute.f (k : Nat) (a0 : ByteArray) : Option (Bool) := ((list_steps.f k a0).bind fun y1 => (bif (bif y1.2 then (!seq a0 c_empty) else false) then ((list_reserved.f a0).bind fun y2 => (some (!y2))) else (some false)))
def list_isRoute.O (k : Nat) : Oracle sg := fun n => lkp n [(115, list_steps.e k), (275, list_reserved.e)]
def list_isRoute.a : Ann := .z
def list_isRoute.L (k : Nat) : Nat → St sg.U → Option (RT sg.U [.bool]) := labs []
theorem list_isRoute.f_eq (k : Nat) (a0 : ByteArray) : list_isRoute.f k a0 = codeK (C := ctx) (list_isRoute.O k) ⟨20, [], []⟩ (list_isRoute.L k) (Tryz.f252.body.getD .skip) list_isRoute.a (endK ctx [.bool] [(.tmp 2)]) (slotsOf sg.U 0 [(.d .str)] (a0, ()) (empty sg.U)) := by
  unfold list_isRoute.f
  kernel_rfl
def list_isRoute.e (k : Nat) : Entry sg := entryOf sg [(.d .str)] [.bool] (fun h => list_isRoute.f k h.1)
def list_isRoute.T : List (Lb sg (RT sg.U [.bool])) := []
theorem list_isRoute.ok (k : Nat) : (list_isRoute.e k).Sound Tryz.prog ctx 252 :=
  entry_ok base_ok mo (fn := Tryz.f252) (b := (Tryz.f252.body.getD .skip)) (pm := [(.d .str)]) (rs := [.bool]) (an := list_isRoute.a) (N := 20) (vars := [(.tmp 2)]) Tryz.func252 (by kernel_rfl) (by kernel_rfl) (by kernel_rfl) (by kernel_rfl) (by kernel_rfl) (by kernel_rfl) (O := list_isRoute.O)
    (fun k => by unfold list_isRoute.O; exact oracle_of (P := Tryz.prog) (C := ctx) ⟨(list_steps.ok k), ⟨(list_reserved.ok), trivial⟩⟩) list_isRoute.T trivial k (fun h => list_isRoute.f_eq k h.1)
mutual
def conf_count.l0 : Nat → Int → (List T_api_Value) → Int → Int → Option (Int)
  | 0, _, _, _, _ => none
  | k + 1, x3, x7, x8, x9 => (bif (ilt x9 x8) then ((lat x7 x9).bind fun y1 => (bif (ilt 1000 x3) then (some x3) else ((conf_count.f k (T_api_Value.mk y1.fKind y1.fBool y1.fInt y1.fText y1.fItems y1.fKeys)).bind fun y2 => (conf_count.l0 k (wadd .i64 x3 y2) x7 x8 (wadd .i64 x9 1))))) else (some x3))
def conf_count.f : Nat → T_api_Value → Option (Int)
  | 0, _ => none
  | k + 1, a0 => (conf_count.l0 k 1 a0.fItems (llen a0.fItems) 0)
end
def conf_count.e (k : Nat) : Entry sg := entryOf sg [(.d (.st 1))] [(.int .i64)] (fun h => conf_count.f k h.1)
def conf_count.O (k : Nat) : Oracle sg := fun n => lkp n [(142, conf_count.e k)]
def conf_count.a : Ann := (.n .z (.n .z (.n (.n .z (.lp 0 .z)) .z)))
def conf_count.L (k : Nat) : Nat → St sg.U → Option (RT sg.U [(.int .i64)]) := labs [(0, labOf sg [(3, (.d (.int .i64))), (7, (.d (.sl (.st 1)))), (8, (.d (.int .i64))), (9, (.d (.int .i64)))] (fun h => conf_count.l0 k h.1 h.2.1 h.2.2.1 h.2.2.2.1))]
theorem conf_count.l0_eq (k : Nat) (x3 : Int) (x7 : (List T_api_Value)) (x8 : Int) (x9 : Int) : conf_count.l0 (k + 1) x3 x7 x8 x9 = runFrom (C := ctx) (conf_count.O k) ⟨21, [], []⟩ (conf_count.L k) (Tryz.f142.body.getD .skip) conf_count.a 0 (endK ctx [(.int .i64)] [(.tmp 2)]) (encD [(3, (.d (.int .i64))), (7, (.d (.sl (.st 1)))), (8, (.d (.int .i64))), (9, (.d (.int .i64)))] (x3, x7, x8, x9, ()) (startD sg.U ⟨21, [], []⟩ [(3, (.d (.int .i64))), (7, (.d (.sl (.st 1)))), (8, (.d (.int .i64))), (9, (.d (.int .i64)))])) := by
  rw [conf_count.l0]
  kernel_rfl
theorem conf_count.f_eq (k : Nat) (a0 : T_api_Value) : conf_count.f (k + 1) a0 = codeK (C := ctx) (conf_count.O k) ⟨21, [], []⟩ (conf_count.L k) (Tryz.f142.body.getD .skip) conf_count.a (endK ctx [(.int .i64)] [(.tmp 2)]) (slotsOf sg.U 0 [(.d (.st 1))] (a0, ()) (empty sg.U)) := by
  rw [conf_count.f]
  kernel_rfl
def conf_count.T : List (Lb sg (RT sg.U [(.int .i64)])) := [⟨0, [(3, (.d (.int .i64))), (7, (.d (.sl (.st 1)))), (8, (.d (.int .i64))), (9, (.d (.int .i64)))], fun k h => conf_count.l0 k h.1 h.2.1 h.2.2.1 h.2.2.2.1⟩]
theorem conf_count.ok : ∀ k : Nat, (conf_count.e k).Sound Tryz.prog ctx 142 :=
  entry_rec base_ok mo (fn := Tryz.f142) (b := (Tryz.f142.body.getD .skip)) (pm := [(.d (.st 1))]) (rs := [(.int .i64)]) (an := conf_count.a) (N := 21) (vars := [(.tmp 2)]) Tryz.func142 (by kernel_rfl) (by kernel_rfl) (by kernel_rfl) (by kernel_rfl) (by kernel_rfl) (by kernel_rfl) (O := conf_count.O) conf_count.T ⟨⟨by kernel_rfl, fun _ => by first | rfl | rw [conf_count.l0], fun k h => conf_count.l0_eq k h.1 h.2.1 h.2.2.1 h.2.2.2.1⟩, trivial⟩ (F := fun k h => conf_count.f k h.1) (fun _ => by first | rfl | rw [conf_count.f]) (fun k h => conf_count.f_eq k h.1)
    (fun k own => by unfold conf_count.O; exact oracle_of (P := Tryz.prog) (C := ctx) ⟨own, trivial⟩)
mutual
def conf_levels.l0 : Nat → Int → (List T_api_Value) → Int → Int → Option (Int)
  | 0, _, _, _, _ => none
  | k + 1, x3, x7, x8, x9 => (bif (ilt x9 x8) then ((lat x7 x9).bind fun y1 => ((conf_levels.f k (T_api_Value.mk y1.fKind y1.fBool y1.fInt y1.fText y1.fItems y1.fKeys)).bind fun y2 => (conf_levels.l0 k (imax x3 y2) x7 x8 (wadd .i64 x9 1)))) else (some (wadd .i64 x3 1)))
def conf_levels.f : Nat → T_api_Value → Option (Int)
  | 0, _ => none
  | k + 1, a0 => (conf_levels.l0 k 0 a0.fItems (llen a0.fItems) 0)
end
def conf_levels.e (k : Nat) : Entry sg := entryOf sg [(.d (.st 1))] [(.int .i64)] (fun h => conf_levels.f k h.1)
def conf_levels.O (k : Nat) : Oracle sg := fun n => lkp n [(143, conf_levels.e k)]
def conf_levels.a : Ann := (.n .z (.n .z (.n (.n .z (.lp 0 .z)) .z)))
def conf_levels.L (k : Nat) : Nat → St sg.U → Option (RT sg.U [(.int .i64)]) := labs [(0, labOf sg [(3, (.d (.int .i64))), (7, (.d (.sl (.st 1)))), (8, (.d (.int .i64))), (9, (.d (.int .i64)))] (fun h => conf_levels.l0 k h.1 h.2.1 h.2.2.1 h.2.2.2.1))]
theorem conf_levels.l0_eq (k : Nat) (x3 : Int) (x7 : (List T_api_Value)) (x8 : Int) (x9 : Int) : conf_levels.l0 (k + 1) x3 x7 x8 x9 = runFrom (C := ctx) (conf_levels.O k) ⟨20, [], []⟩ (conf_levels.L k) (Tryz.f143.body.getD .skip) conf_levels.a 0 (endK ctx [(.int .i64)] [(.tmp 2)]) (encD [(3, (.d (.int .i64))), (7, (.d (.sl (.st 1)))), (8, (.d (.int .i64))), (9, (.d (.int .i64)))] (x3, x7, x8, x9, ()) (startD sg.U ⟨20, [], []⟩ [(3, (.d (.int .i64))), (7, (.d (.sl (.st 1)))), (8, (.d (.int .i64))), (9, (.d (.int .i64)))])) := by
  rw [conf_levels.l0]
  kernel_rfl
theorem conf_levels.f_eq (k : Nat) (a0 : T_api_Value) : conf_levels.f (k + 1) a0 = codeK (C := ctx) (conf_levels.O k) ⟨20, [], []⟩ (conf_levels.L k) (Tryz.f143.body.getD .skip) conf_levels.a (endK ctx [(.int .i64)] [(.tmp 2)]) (slotsOf sg.U 0 [(.d (.st 1))] (a0, ()) (empty sg.U)) := by
  rw [conf_levels.f]
  kernel_rfl
def conf_levels.T : List (Lb sg (RT sg.U [(.int .i64)])) := [⟨0, [(3, (.d (.int .i64))), (7, (.d (.sl (.st 1)))), (8, (.d (.int .i64))), (9, (.d (.int .i64)))], fun k h => conf_levels.l0 k h.1 h.2.1 h.2.2.1 h.2.2.2.1⟩]
theorem conf_levels.ok : ∀ k : Nat, (conf_levels.e k).Sound Tryz.prog ctx 143 :=
  entry_rec base_ok mo (fn := Tryz.f143) (b := (Tryz.f143.body.getD .skip)) (pm := [(.d (.st 1))]) (rs := [(.int .i64)]) (an := conf_levels.a) (N := 20) (vars := [(.tmp 2)]) Tryz.func143 (by kernel_rfl) (by kernel_rfl) (by kernel_rfl) (by kernel_rfl) (by kernel_rfl) (by kernel_rfl) (O := conf_levels.O) conf_levels.T ⟨⟨by kernel_rfl, fun _ => by first | rfl | rw [conf_levels.l0], fun k h => conf_levels.l0_eq k h.1 h.2.1 h.2.2.1 h.2.2.2.1⟩, trivial⟩ (F := fun k h => conf_levels.f k h.1) (fun _ => by first | rfl | rw [conf_levels.f]) (fun k h => conf_levels.f_eq k h.1)
    (fun k own => by unfold conf_levels.O; exact oracle_of (P := Tryz.prog) (C := ctx) ⟨own, trivial⟩)
def conf_unused.l0 : Nat → Int → Bool → Int → ByteArray → (List T_api_Value) → (List ByteArray) → Int → Bool → Option (Bool)
  | 0, _, _, _, _, _, _, _, _ => none
  | k + 1, x1_0, x1_1, x1_2, x1_3, x1_4, x1_5, x3, x6 => (bif x6 then (some true) else (bif (bif (bif (ilt 0 (llen x1_4)) then (!ieq x3 5) else false) then (!ieq x3 6) else false) then (some true) else (bif (bif (ilt 0 (llen x1_5)) then (!ieq x3 6) else false) then (some true) else (some (bif (ieq x3 6) then (!ieq (llen x1_5) (llen x1_4)) else false)))))
def conf_unused.f (k : Nat) (a0 : T_api_Value) : Option (Bool) := (bif (bif a0.fBool then (!ieq a0.fKind 1) else false) then (conf_unused.l0 k a0.fKind a0.fBool a0.fInt a0.fText a0.fItems a0.fKeys a0.fKind true) else (bif (bif (bif (!ieq a0.fInt 0) then (!ieq a0.fKind 2) else false) then (!ieq a0.fKind 4) else false) then (conf_unused.l0 k a0.fKind a0.fBool a0.fInt a0.fText a0.fItems a0.fKeys a0.fKind true) else (conf_unused.l0 k a0.fKind a0.fBool a0.fInt a0.fText a0.fItems a0.fKeys a0.fKind (bif (!seq a0.fText c_empty) then (!ieq a0.fKind 3) else false))))
def conf_unused.O (k : Nat) : Oracle sg := fun n => lkp n []
def conf_unused.a : Ann := (.n .z (.n .z (.n (.n .z (.lab 0 .z)) .z)))
def conf_unused.L (k : Nat) : Nat → St sg.U → Option (RT sg.U [.bool]) := labs [(0, labOf sg [(1, (.box [.d (.int .i64), .d .bool, .d (.int .i64), .d .str, .d (.sl (.st 1)), .d (.sl .str)])), (3, (.d (.int .i64))), (6, (.d .bool))] (fun h => conf_unused.l0 k h.1 h.2.1 h.2.2.1 h.2.2.2.1 h.2.2.2.2.1 h.2.2.2.2.2.1 h.2.2.2.2.2.2.1 h.2.2.2.2.2.2.2.1))]
theorem conf_unused.l0_eq (k : Nat) (x1_0 : Int) (x1_1 : Bool) (x1_2 : Int) (x1_3 : ByteArray) (x1_4 : (List T_api_Value)) (x1_5 : (List ByteArray)) (x3 : Int) (x6 : Bool) : conf_unused.l0 (k + 1) x1_0 x1_1 x1_2 x1_3 x1_4 x1_5 x3 x6 = runFrom (C := ctx) (conf_unused.O k) ⟨63, [], []⟩ (conf_unused.L k) (Tryz.f256.body.getD .skip) conf_unused.a 0 (endK ctx [.bool] [(.tmp 2)]) (encD [(1, (.box [.d (.int .i64), .d .bool, .d (.int .i64), .d .str, .d (.sl (.st 1)), .d (.sl .str)])), (3, (.d (.int .i64))), (6, (.d .bool))] (x1_0, x1_1, x1_2, x1_3, x1_4, x1_5, x3, x6, ()) (startD sg.U ⟨63, [], []⟩ [(1, (.box [.d (.int .i64), .d .bool, .d (.int .i64), .d .str, .d (.sl (.st 1)), .d (.sl .str)])), (3, (.d (.int .i64))), (6, (.d .bool))])) := by
  rw [conf_unused.l0]
  kernel_rfl
theorem conf_unused.f_eq (k : Nat) (a0 : T_api_Value) : conf_unused.f k a0 = codeK (C := ctx) (conf_unused.O k) ⟨63, [], []⟩ (conf_unused.L k) (Tryz.f256.body.getD .skip) conf_unused.a (endK ctx [.bool] [(.tmp 2)]) (slotsOf sg.U 0 [(.d (.st 1))] (a0, ()) (empty sg.U)) := by
  unfold conf_unused.f
  kernel_rfl
def conf_unused.e (k : Nat) : Entry sg := entryOf sg [(.d (.st 1))] [.bool] (fun h => conf_unused.f k h.1)
def conf_unused.T : List (Lb sg (RT sg.U [.bool])) := [⟨0, [(1, (.box [.d (.int .i64), .d .bool, .d (.int .i64), .d .str, .d (.sl (.st 1)), .d (.sl .str)])), (3, (.d (.int .i64))), (6, (.d .bool))], fun k h => conf_unused.l0 k h.1 h.2.1 h.2.2.1 h.2.2.2.1 h.2.2.2.2.1 h.2.2.2.2.2.1 h.2.2.2.2.2.2.1 h.2.2.2.2.2.2.2.1⟩]
theorem conf_unused.ok (k : Nat) : (conf_unused.e k).Sound Tryz.prog ctx 256 :=
  entry_ok base_ok mo (fn := Tryz.f256) (b := (Tryz.f256.body.getD .skip)) (pm := [(.d (.st 1))]) (rs := [.bool]) (an := conf_unused.a) (N := 63) (vars := [(.tmp 2)]) Tryz.func256 (by kernel_rfl) (by kernel_rfl) (by kernel_rfl) (by kernel_rfl) (by kernel_rfl) (by kernel_rfl) (O := conf_unused.O)
    (fun k => by unfold conf_unused.O; exact oracle_of (P := Tryz.prog) (C := ctx) trivial) conf_unused.T ⟨⟨by kernel_rfl, fun _ => by first | rfl | rw [conf_unused.l0], fun k h => conf_unused.l0_eq k h.1 h.2.1 h.2.2.1 h.2.2.2.1 h.2.2.2.2.1 h.2.2.2.2.2.1 h.2.2.2.2.2.2.1 h.2.2.2.2.2.2.2.1⟩, trivial⟩ k (fun h => conf_unused.f_eq k h.1)
def conf_badDay.f (a0 : Int) : Option (Bool) := (some (bif (ilt a0 0) then true else (ilt 84005 a0)))
def conf_badDay.O : Oracle sg := fun n => lkp n []
def conf_badDay.a : Ann := .z
def conf_badDay.L : Nat → St sg.U → Option (RT sg.U [.bool]) := labs []
theorem conf_badDay.f_eq (a0 : Int) : conf_badDay.f a0 = codeK (C := ctx) (conf_badDay.O) ⟨9, [], []⟩ (conf_badDay.L) (Tryz.f257.body.getD .skip) conf_badDay.a (endK ctx [.bool] [(.tmp 2)]) (slotsOf sg.U 0 [(.d (.int .i64))] (a0, ()) (empty sg.U)) := by
  unfold conf_badDay.f
  kernel_rfl
def conf_badDay.e : Entry sg := entryOf sg [(.d (.int .i64))] [.bool] (fun h => conf_badDay.f h.1)
def conf_badDay.T : List (Lb sg (RT sg.U [.bool])) := []
theorem conf_badDay.ok : (conf_badDay.e).Sound Tryz.prog ctx 257 :=
  entry_ok base_ok mo (fn := Tryz.f257) (b := (Tryz.f257.body.getD .skip)) (pm := [(.d (.int .i64))]) (rs := [.bool]) (an := conf_badDay.a) (N := 9) (vars := [(.tmp 2)]) Tryz.func257 (by kernel_rfl) (by kernel_rfl) (by kernel_rfl) (by kernel_rfl) (by kernel_rfl) (by kernel_rfl) (O := fun _ => conf_badDay.O)
    (fun _ => by unfold conf_badDay.O; exact oracle_of (P := Tryz.prog) (C := ctx) trivial) conf_badDay.T trivial 0 (fun h => conf_badDay.f_eq h.1)
def conf_badBytes.l0 : Nat → ByteArray → Int → Option (Bool)
  | 0, _, _ => none
  | k + 1, x0, x3 => (bif (ilt x3 (slen x0)) then ((sat x0 x3).bind fun y1 => (bif (ilt y1 32) then ((sat x0 x3).bind fun y2 => (bif (!ieq y2 9) then ((sat x0 x3).bind fun y3 => (bif (!ieq y3 10) then (some true) else (conf_badBytes.l0 k x0 (wadd .i64 x3 1)))) else (conf_badBytes.l0 k x0 (wadd .i64 x3 1)))) else (conf_badBytes.l0 k x0 (wadd .i64 x3 1)))) else (some false))
def conf_badBytes.f (k : Nat) (a0 : ByteArray) : Option (Bool) := (conf_badBytes.l0 k a0 0)
def conf_badBytes.O (k : Nat) : Oracle sg := fun n => lkp n []
def conf_badBytes.a : Ann := (.n .z (.n (.n .z (.lp 0 .z)) .z))
def conf_badBytes.L (k : Nat) : Nat → St sg.U → Option (RT sg.U [.bool]) := labs [(0, labOf sg [(0, (.d .str)), (3, (.d (.int .i64)))] (fun h => conf_badBytes.l0 k h.1 h.2.1))]
theorem conf_badBytes.l0_eq (k : Nat) (x0 : ByteArray) (x3 : Int) : conf_badBytes.l0 (k + 1) x0 x3 = runFrom (C := ctx) (conf_badBytes.O k) ⟨26, [], []⟩ (conf_badBytes.L k) (Tryz.f222.body.getD .skip) conf_badBytes.a 0 (endK ctx [.bool] [(.tmp 2)]) (encD [(0, (.d .str)), (3, (.d (.int .i64)))] (x0, x3, ()) (startD sg.U ⟨26, [], []⟩ [(0, (.d .str)), (3, (.d (.int .i64)))])) := by
  rw [conf_badBytes.l0]
  kernel_rfl
theorem conf_badBytes.f_eq (k : Nat) (a0 : ByteArray) : conf_badBytes.f k a0 = codeK (C := ctx) (conf_badBytes.O k) ⟨26, [], []⟩ (conf_badBytes.L k) (Tryz.f222.body.getD .skip) conf_badBytes.a (endK ctx [.bool] [(.tmp 2)]) (slotsOf sg.U 0 [(.d .str)] (a0, ()) (empty sg.U)) := by
  unfold conf_badBytes.f
  kernel_rfl
def conf_badBytes.e (k : Nat) : Entry sg := entryOf sg [(.d .str)] [.bool] (fun h => conf_badBytes.f k h.1)
def conf_badBytes.T : List (Lb sg (RT sg.U [.bool])) := [⟨0, [(0, (.d .str)), (3, (.d (.int .i64)))], fun k h => conf_badBytes.l0 k h.1 h.2.1⟩]
theorem conf_badBytes.ok (k : Nat) : (conf_badBytes.e k).Sound Tryz.prog ctx 222 :=
  entry_ok base_ok mo (fn := Tryz.f222) (b := (Tryz.f222.body.getD .skip)) (pm := [(.d .str)]) (rs := [.bool]) (an := conf_badBytes.a) (N := 26) (vars := [(.tmp 2)]) Tryz.func222 (by kernel_rfl) (by kernel_rfl) (by kernel_rfl) (by kernel_rfl) (by kernel_rfl) (by kernel_rfl) (O := conf_badBytes.O)
    (fun k => by unfold conf_badBytes.O; exact oracle_of (P := Tryz.prog) (C := ctx) trivial) conf_badBytes.T ⟨⟨by kernel_rfl, fun _ => by first | rfl | rw [conf_badBytes.l0], fun k h => conf_badBytes.l0_eq k h.1 h.2.1⟩, trivial⟩ k (fun h => conf_badBytes.f_eq k h.1)
def conf_isSmall.f (a0 : Int) : Option (Bool) := (some (bif (ile 97 a0) then (ile a0 122) else false))
def conf_isSmall.O : Oracle sg := fun n => lkp n []
def conf_isSmall.a : Ann := .z
def conf_isSmall.L : Nat → St sg.U → Option (RT sg.U [.bool]) := labs []
theorem conf_isSmall.f_eq (a0 : Int) : conf_isSmall.f a0 = codeK (C := ctx) (conf_isSmall.O) ⟨9, [], []⟩ (conf_isSmall.L) (Tryz.f225.body.getD .skip) conf_isSmall.a (endK ctx [.bool] [(.tmp 2)]) (slotsOf sg.U 0 [(.d (.int .u8))] (a0, ()) (empty sg.U)) := by
  unfold conf_isSmall.f
  kernel_rfl
def conf_isSmall.e : Entry sg := entryOf sg [(.d (.int .u8))] [.bool] (fun h => conf_isSmall.f h.1)
def conf_isSmall.T : List (Lb sg (RT sg.U [.bool])) := []
theorem conf_isSmall.ok : (conf_isSmall.e).Sound Tryz.prog ctx 225 :=
  entry_ok base_ok mo (fn := Tryz.f225) (b := (Tryz.f225.body.getD .skip)) (pm := [(.d (.int .u8))]) (rs := [.bool]) (an := conf_isSmall.a) (N := 9) (vars := [(.tmp 2)]) Tryz.func225 (by kernel_rfl) (by kernel_rfl) (by kernel_rfl) (by kernel_rfl) (by kernel_rfl) (by kernel_rfl) (O := fun _ => conf_isSmall.O)
    (fun _ => by unfold conf_isSmall.O; exact oracle_of (P := Tryz.prog) (C := ctx) trivial) conf_isSmall.T trivial 0 (fun h => conf_isSmall.f_eq h.1)
def conf_isDigit.f (a0 : Int) : Option (Bool) := (some (bif (ile 48 a0) then (ile a0 57) else false))
def conf_isDigit.O : Oracle sg := fun n => lkp n []
def conf_isDigit.a : Ann := .z
def conf_isDigit.L : Nat → St sg.U → Option (RT sg.U [.bool]) := labs []
theorem conf_isDigit.f_eq (a0 : Int) : conf_isDigit.f a0 = codeK (C := ctx) (conf_isDigit.O) ⟨9, [], []⟩ (conf_isDigit.L) (Tryz.f226.body.getD .skip) conf_isDigit.a (endK ctx [.bool] [(.tmp 2)]) (slotsOf sg.U 0 [(.d (.int .u8))] (a0, ()) (empty sg.U)) := by
  unfold conf_isDigit.f
  kernel_rfl
def conf_isDigit.e : Entry sg := entryOf sg [(.d (.int .u8))] [.bool] (fun h => conf_isDigit.f h.1)
def conf_isDigit.T : List (Lb sg (RT sg.U [.bool])) := []
theorem conf_isDigit.ok : (conf_isDigit.e).Sound Tryz.prog ctx 226 :=
  entry_ok base_ok mo (fn := Tryz.f226) (b := (Tryz.f226.body.getD .skip)) (pm := [(.d (.int .u8))]) (rs := [.bool]) (an := conf_isDigit.a) (N := 9) (vars := [(.tmp 2)]) Tryz.func226 (by kernel_rfl) (by kernel_rfl) (by kernel_rfl) (by kernel_rfl) (by kernel_rfl) (by kernel_rfl) (O := fun _ => conf_isDigit.O)
    (fun _ => by unfold conf_isDigit.O; exact oracle_of (P := Tryz.prog) (C := ctx) trivial) conf_isDigit.T trivial 0 (fun h => conf_isDigit.f_eq h.1)
def conf_isKey.l0 : Nat → ByteArray → Int → Option (Bool)
  | 0, _, _ => none
  | k + 1, x0, x3 => (bif (ilt x3 (slen x0)) then ((sat x0 x3).bind fun y3 => ((conf_isSmall.f y3).bind fun y4 => (bif (!y4) then ((sat x0 x3).bind fun y5 => ((conf_isDigit.f y5).bind fun y6 => (bif (!y6) then ((sat x0 x3).bind fun y7 => (bif (!ieq y7 45) then ((sat x0 x3).bind fun y8 => (bif (!ieq y8 95) then (some false) else (conf_isKey.l0 k x0 (wadd .i64 x3 1)))) else (conf_isKey.l0 k x0 (wadd .i64 x3 1)))) else (conf_isKey.l0 k x0 (wadd .i64 x3 1))))) else (conf_isKey.l0 k x0 (wadd .i64 x3 1))))) else (some true))
def conf_isKey.f (k : Nat) (a0 : ByteArray) : Option (Bool) := (bif (bif (seq a0 c_empty) then true else (ilt 40 (slen a0))) then (some false) else ((sat a0 0).bind fun y1 => ((conf_isSmall.f y1).bind fun y2 => (bif (!y2) then (some false) else (conf_isKey.l0 k a0 1)))))
def conf_isKey.O (k : Nat) : Oracle sg := fun n => lkp n [(225, conf_isSmall.e), (226, conf_isDigit.e)]
def conf_isKey.a : Ann := (.n .z (.n .z (.n (.n .z (.lp 0 .z)) .z)))
def conf_isKey.L (k : Nat) : Nat → St sg.U → Option (RT sg.U [.bool]) := labs [(0, labOf sg [(0, (.d .str)), (3, (.d (.int .i64)))] (fun h => conf_isKey.l0 k h.1 h.2.1))]
theorem conf_isKey.l0_eq (k : Nat) (x0 : ByteArray) (x3 : Int) : conf_isKey.l0 (k + 1) x0 x3 = runFrom (C := ctx) (conf_isKey.O k) ⟨47, [], []⟩ (conf_isKey.L k) (Tryz.f145.body.getD .skip) conf_isKey.a 0 (endK ctx [.bool] [(.tmp 2)]) (encD [(0, (.d .str)), (3, (.d (.int .i64)))] (x0, x3, ()) (startD sg.U ⟨47, [], []⟩ [(0, (.d .str)), (3, (.d (.int .i64)))])) := by
  rw [conf_isKey.l0]
  kernel_rfl
theorem conf_isKey.f_eq (k : Nat) (a0 : ByteArray) : conf_isKey.f k a0 = codeK (C := ctx) (conf_isKey.O k) ⟨47, [], []⟩ (conf_isKey.L k) (Tryz.f145.body.getD .skip) conf_isKey.a (endK ctx [.bool] [(.tmp 2)]) (slotsOf sg.U 0 [(.d .str)] (a0, ()) (empty sg.U)) := by
  unfold conf_isKey.f
  kernel_rfl
def conf_isKey.e (k : Nat) : Entry sg := entryOf sg [(.d .str)] [.bool] (fun h => conf_isKey.f k h.1)
def conf_isKey.T : List (Lb sg (RT sg.U [.bool])) := [⟨0, [(0, (.d .str)), (3, (.d (.int .i64)))], fun k h => conf_isKey.l0 k h.1 h.2.1⟩]
theorem conf_isKey.ok (k : Nat) : (conf_isKey.e k).Sound Tryz.prog ctx 145 :=
  entry_ok base_ok mo (fn := Tryz.f145) (b := (Tryz.f145.body.getD .skip)) (pm := [(.d .str)]) (rs := [.bool]) (an := conf_isKey.a) (N := 47) (vars := [(.tmp 2)]) Tryz.func145 (by kernel_rfl) (by kernel_rfl) (by kernel_rfl) (by kernel_rfl) (by kernel_rfl) (by kernel_rfl) (O := conf_isKey.O)
    (fun k => by unfold conf_isKey.O; exact oracle_of (P := Tryz.prog) (C := ctx) ⟨(conf_isSmall.ok), ⟨(conf_isDigit.ok), trivial⟩⟩) conf_isKey.T ⟨⟨by kernel_rfl, fun _ => by first | rfl | rw [conf_isKey.l0], fun k h => conf_isKey.l0_eq k h.1 h.2.1⟩, trivial⟩ k (fun h => conf_isKey.f_eq k h.1)
mutual
def conf_valueFault.l0 : Nat → Int → Bool → Int → ByteArray → (List T_api_Value) → (List ByteArray) → Bool → Option (Int)
  | 0, _, _, _, _, _, _, _ => none
  | k + 1, x1_0, x1_1, x1_2, x1_3, x1_4, x1_5, x17 => (bif x17 then (some 2) else (bif (ilt 5000 (slen x1_3)) then (some 4) else ((conf_badBytes.f k x1_3).bind fun y3 => (bif y3 then (some 9) else (conf_valueFault.l1 k x1_0 x1_1 x1_2 x1_3 x1_4 x1_5 x1_5 (llen x1_5) 0)))))
def conf_valueFault.l1 : Nat → Int → Bool → Int → ByteArray → (List T_api_Value) → (List ByteArray) → (List ByteArray) → Int → Int → Option (Int)
  | 0, _, _, _, _, _, _, _, _, _ => none
  | k + 1, x1_0, x1_1, x1_2, x1_3, x1_4, x1_5, x36, x37, x38 => (bif (ilt x38 x37) then ((lat x36 x38).bind fun y4 => ((conf_isKey.f k y4).bind fun y5 => (bif (!y5) then (some 12) else (bif (ilt 0 x38) then ((lat x1_5 (wsub .i64 x38 1)).bind fun y6 => (bif (sle y4 y6) then (some 5) else (conf_valueFault.l1 k x1_0 x1_1 x1_2 x1_3 x1_4 x1_5 x36 x37 (wadd .i64 x38 1)))) else (conf_valueFault.l1 k x1_0 x1_1 x1_2 x1_3 x1_4 x1_5 x36 x37 (wadd .i64 x38 1)))))) else (some 0))
end
def conf_valueFault.f (k : Nat) (a0 : T_api_Value) : Option (Int) := (bif (bif (ilt a0.fKind 0) then true else (ilt 6 a0.fKind)) then (some 10) else ((conf_unused.f k (T_api_Value.mk a0.fKind a0.fBool a0.fInt a0.fText a0.fItems a0.fKeys)).bind fun y1 => (bif y1 then (some 1) else (bif (ieq a0.fKind 4) then ((conf_badDay.f a0.fInt).bind fun y2 => (conf_valueFault.l0 k a0.fKind a0.fBool a0.fInt a0.fText a0.fItems a0.fKeys y2)) else (conf_valueFault.l0 k a0.fKind a0.fBool a0.fInt a0.fText a0.fItems a0.fKeys false)))))
def conf_valueFault.O (k : Nat) : Oracle sg := fun n => lkp n [(145, conf_isKey.e k), (222, conf_badBytes.e k), (256, conf_unused.e k), (257, conf_badDay.e)]
def conf_valueFault.a : Ann := (.n .z (.n (.n .z (.n .z (.n .z (.n .z (.n .z (.lab 0 .z)))))) (.n (.n .z (.lp 1 .z)) .z)))
def conf_valueFault.L (k : Nat) : Nat → St sg.U → Option (RT sg.U [(.int .i64)]) := labs [(0, labOf sg [(1, (.box [.d (.int .i64), .d .bool, .d (.int .i64), .d .str, .d (.sl (.st 1)), .d (.sl .str)])), (17, (.d .bool))] (fun h => conf_valueFault.l0 k h.1 h.2.1 h.2.2.1 h.2.2.2.1 h.2.2.2.2.1 h.2.2.2.2.2.1 h.2.2.2.2.2.2.1)), (1, labOf sg [(1, (.box [.d (.int .i64), .d .bool, .d (.int .i64), .d .str, .d (.sl (.st 1)), .d (.sl .str)])), (36, (.d (.sl .str))), (37, (.d (.int .i64))), (38, (.d (.int .i64)))] (fun h => conf_valueFault.l1 k h.1 h.2.1 h.2.2.1 h.2.2.2.1 h.2.2.2.2.1 h.2.2.2.2.2.1 h.2.2.2.2.2.2.1 h.2.2.2.2.2.2.2.1 h.2.2.2.2.2.2.2.2.1))]
theorem conf_valueFault.l0_eq (k : Nat) (x1_0 : Int) (x1_1 : Bool) (x1_2 : Int) (x1_3 : ByteArray) (x1_4 : (List T_api_Value)) (x1_5 : (List ByteArray)) (x17 : Bool) : conf_valueFault.l0 (k + 1) x1_0 x1_1 x1_2 x1_3 x1_4 x1_5 x17 = runFrom (C := ctx) (conf_valueFault.O k) ⟨59, [], []⟩ (conf_valueFault.L k) (Tryz.f224.body.getD .skip) conf_valueFault.a 0 (endK ctx [(.int .i64)] [(.tmp 2)]) (encD [(1, (.box [.d (.int .i64), .d .bool, .d (.int .i64), .d .str, .d (.sl (.st 1)), .d (.sl .str)])), (17, (.d .bool))] (x1_0, x1_1, x1_2, x1_3, x1_4, x1_5, x17, ()) (startD sg.U ⟨59, [], []⟩ [(1, (.box [.d (.int .i64), .d .bool, .d (.int .i64), .d .str, .d (.sl (.st 1)), .d (.sl .str)])), (17, (.d .bool))])) := by
  rw [conf_valueFault.l0]
  kernel_rfl
theorem conf_valueFault.l1_eq (k : Nat) (x1_0 : Int) (x1_1 : Bool) (x1_2 : Int) (x1_3 : ByteArray) (x1_4 : (List T_api_Value)) (x1_5 : (List ByteArray)) (x36 : (List ByteArray)) (x37 : Int) (x38 : Int) : conf_valueFault.l1 (k + 1) x1_0 x1_1 x1_2 x1_3 x1_4 x1_5 x36 x37 x38 = runFrom (C := ctx) (conf_valueFault.O k) ⟨59, [], []⟩ (conf_valueFault.L k) (Tryz.f224.body.getD .skip) conf_valueFault.a 1 (endK ctx [(.int .i64)] [(.tmp 2)]) (encD [(1, (.box [.d (.int .i64), .d .bool, .d (.int .i64), .d .str, .d (.sl (.st 1)), .d (.sl .str)])), (36, (.d (.sl .str))), (37, (.d (.int .i64))), (38, (.d (.int .i64)))] (x1_0, x1_1, x1_2, x1_3, x1_4, x1_5, x36, x37, x38, ()) (startD sg.U ⟨59, [], []⟩ [(1, (.box [.d (.int .i64), .d .bool, .d (.int .i64), .d .str, .d (.sl (.st 1)), .d (.sl .str)])), (36, (.d (.sl .str))), (37, (.d (.int .i64))), (38, (.d (.int .i64)))])) := by
  rw [conf_valueFault.l1]
  kernel_rfl
theorem conf_valueFault.f_eq (k : Nat) (a0 : T_api_Value) : conf_valueFault.f k a0 = codeK (C := ctx) (conf_valueFault.O k) ⟨59, [], []⟩ (conf_valueFault.L k) (Tryz.f224.body.getD .skip) conf_valueFault.a (endK ctx [(.int .i64)] [(.tmp 2)]) (slotsOf sg.U 0 [(.d (.st 1))] (a0, ()) (empty sg.U)) := by
  unfold conf_valueFault.f
  kernel_rfl
def conf_valueFault.e (k : Nat) : Entry sg := entryOf sg [(.d (.st 1))] [(.int .i64)] (fun h => conf_valueFault.f k h.1)
def conf_valueFault.T : List (Lb sg (RT sg.U [(.int .i64)])) := [⟨0, [(1, (.box [.d (.int .i64), .d .bool, .d (.int .i64), .d .str, .d (.sl (.st 1)), .d (.sl .str)])), (17, (.d .bool))], fun k h => conf_valueFault.l0 k h.1 h.2.1 h.2.2.1 h.2.2.2.1 h.2.2.2.2.1 h.2.2.2.2.2.1 h.2.2.2.2.2.2.1⟩, ⟨1, [(1, (.box [.d (.int .i64), .d .bool, .d (.int .i64), .d .str, .d (.sl (.st 1)), .d (.sl .str)])), (36, (.d (.sl .str))), (37, (.d (.int .i64))), (38, (.d (.int .i64)))], fun k h => conf_valueFault.l1 k h.1 h.2.1 h.2.2.1 h.2.2.2.1 h.2.2.2.2.1 h.2.2.2.2.2.1 h.2.2.2.2.2.2.1 h.2.2.2.2.2.2.2.1 h.2.2.2.2.2.2.2.2.1⟩]
theorem conf_valueFault.ok (k : Nat) : (conf_valueFault.e k).Sound Tryz.prog ctx 224 :=
  entry_ok base_ok mo (fn := Tryz.f224) (b := (Tryz.f224.body.getD .skip)) (pm := [(.d (.st 1))]) (rs := [(.int .i64)]) (an := conf_valueFault.a) (N := 59) (vars := [(.tmp 2)]) Tryz.func224 (by kernel_rfl) (by kernel_rfl) (by kernel_rfl) (by kernel_rfl) (by kernel_rfl) (by kernel_rfl) (O := conf_valueFault.O)
    (fun k => by unfold conf_valueFault.O; exact oracle_of (P := Tryz.prog) (C := ctx) ⟨(conf_isKey.ok k), ⟨(conf_badBytes.ok k), ⟨(conf_unused.ok k), ⟨(conf_badDay.ok), trivial⟩⟩⟩⟩) conf_valueFault.T ⟨⟨by kernel_rfl, fun _ => by first | rfl | rw [conf_valueFault.l0], fun k h => conf_valueFault.l0_eq k h.1 h.2.1 h.2.2.1 h.2.2.2.1 h.2.2.2.2.1 h.2.2.2.2.2.1 h.2.2.2.2.2.2.1⟩, ⟨⟨by kernel_rfl, fun _ => by first | rfl | rw [conf_valueFault.l1], fun k h => conf_valueFault.l1_eq k h.1 h.2.1 h.2.2.1 h.2.2.2.1 h.2.2.2.2.1 h.2.2.2.2.2.1 h.2.2.2.2.2.2.1 h.2.2.2.2.2.2.2.1 h.2.2.2.2.2.2.2.2.1⟩, trivial⟩⟩ k (fun h => conf_valueFault.f_eq k h.1)
mutual
def conf_valuesFault.l0 : Nat → (List T_api_Value) → Int → Int → Option (Int)
  | 0, _, _, _ => none
  | k + 1, x13, x14, x15 => (bif (ilt x15 x14) then ((lat x13 x15).bind fun y2 => ((conf_valuesFault.f k (T_api_Value.mk y2.fKind y2.fBool y2.fInt y2.fText y2.fItems y2.fKeys)).bind fun y3 => (bif (!ieq y3 0) then (some y3) else (conf_valuesFault.l0 k x13 x14 (wadd .i64 x15 1))))) else (some 0))
def conf_valuesFault.f : Nat → T_api_Value → Option (Int)
  | 0, _ => none
  | k + 1, a0 => ((conf_valueFault.f k (T_api_Value.mk a0.fKind a0.fBool a0.fInt a0.fText a0.fItems a0.fKeys)).bind fun y1 => (bif (!ieq y1 0) then (some y1) else (conf_valuesFault.l0 k a0.fItems (llen a0.fItems) 0)))
end
def conf_valuesFault.e (k : Nat) : Entry sg := entryOf sg [(.d (.st 1))] [(.int .i64)] (fun h => conf_valuesFault.f k h.1)
def conf_valuesFault.O (k : Nat) : Oracle sg := fun n => lkp n [(144, conf_valuesFault.e k), (224, conf_valueFault.e k)]
def conf_valuesFault.a : Ann := (.n .z (.n .z (.n (.n .z (.lp 0 .z)) .z)))
def conf_valuesFault.L (k : Nat) : Nat → St sg.U → Option (RT sg.U [(.int .i64)]) := labs [(0, labOf sg [(13, (.d (.sl (.st 1)))), (14, (.d (.int .i64))), (15, (.d (.int .i64)))] (fun h => conf_valuesFault.l0 k h.1 h.2.1 h.2.2.1))]
theorem conf_valuesFault.l0_eq (k : Nat) (x13 : (List T_api_Value)) (x14 : Int) (x15 : Int) : conf_valuesFault.l0 (k + 1) x13 x14 x15 = runFrom (C := ctx) (conf_valuesFault.O k) ⟨25, [], []⟩ (conf_valuesFault.L k) (Tryz.f144.body.getD .skip) conf_valuesFault.a 0 (endK ctx [(.int .i64)] [(.tmp 2)]) (encD [(13, (.d (.sl (.st 1)))), (14, (.d (.int .i64))), (15, (.d (.int .i64)))] (x13, x14, x15, ()) (startD sg.U ⟨25, [], []⟩ [(13, (.d (.sl (.st 1)))), (14, (.d (.int .i64))), (15, (.d (.int .i64)))])) := by
  rw [conf_valuesFault.l0]
  kernel_rfl
theorem conf_valuesFault.f_eq (k : Nat) (a0 : T_api_Value) : conf_valuesFault.f (k + 1) a0 = codeK (C := ctx) (conf_valuesFault.O k) ⟨25, [], []⟩ (conf_valuesFault.L k) (Tryz.f144.body.getD .skip) conf_valuesFault.a (endK ctx [(.int .i64)] [(.tmp 2)]) (slotsOf sg.U 0 [(.d (.st 1))] (a0, ()) (empty sg.U)) := by
  rw [conf_valuesFault.f]
  kernel_rfl
def conf_valuesFault.T : List (Lb sg (RT sg.U [(.int .i64)])) := [⟨0, [(13, (.d (.sl (.st 1)))), (14, (.d (.int .i64))), (15, (.d (.int .i64)))], fun k h => conf_valuesFault.l0 k h.1 h.2.1 h.2.2.1⟩]
theorem conf_valuesFault.ok : ∀ k : Nat, (conf_valuesFault.e k).Sound Tryz.prog ctx 144 :=
  entry_rec base_ok mo (fn := Tryz.f144) (b := (Tryz.f144.body.getD .skip)) (pm := [(.d (.st 1))]) (rs := [(.int .i64)]) (an := conf_valuesFault.a) (N := 25) (vars := [(.tmp 2)]) Tryz.func144 (by kernel_rfl) (by kernel_rfl) (by kernel_rfl) (by kernel_rfl) (by kernel_rfl) (by kernel_rfl) (O := conf_valuesFault.O) conf_valuesFault.T ⟨⟨by kernel_rfl, fun _ => by first | rfl | rw [conf_valuesFault.l0], fun k h => conf_valuesFault.l0_eq k h.1 h.2.1 h.2.2.1⟩, trivial⟩ (F := fun k h => conf_valuesFault.f k h.1) (fun _ => by first | rfl | rw [conf_valuesFault.f]) (fun k h => conf_valuesFault.f_eq k h.1)
    (fun k own => by unfold conf_valuesFault.O; exact oracle_of (P := Tryz.prog) (C := ctx) ⟨own, ⟨(conf_valueFault.ok k), trivial⟩⟩)
def conf_Check.f (k : Nat) (a0 : T_api_Value) : Option (Int) := ((conf_count.f k (T_api_Value.mk a0.fKind a0.fBool a0.fInt a0.fText a0.fItems a0.fKeys)).bind fun y1 => (bif (ilt 1000 y1) then (some 4) else ((conf_levels.f k (T_api_Value.mk a0.fKind a0.fBool a0.fInt a0.fText a0.fItems a0.fKeys)).bind fun y2 => (bif (ilt 8 y2) then (some 13) else ((conf_valuesFault.f k (T_api_Value.mk a0.fKind a0.fBool a0.fInt a0.fText a0.fItems a0.fKeys)).bind fun y3 => (some y3))))))
def conf_Check.O (k : Nat) : Oracle sg := fun n => lkp n [(142, conf_count.e k), (143, conf_levels.e k), (144, conf_valuesFault.e k)]
def conf_Check.a : Ann := .z
def conf_Check.L (k : Nat) : Nat → St sg.U → Option (RT sg.U [(.int .i64)]) := labs []
theorem conf_Check.f_eq (k : Nat) (a0 : T_api_Value) : conf_Check.f k a0 = codeK (C := ctx) (conf_Check.O k) ⟨11, [], []⟩ (conf_Check.L k) (Tryz.f52.body.getD .skip) conf_Check.a (endK ctx [(.int .i64)] [(.tmp 2)]) (slotsOf sg.U 0 [(.d (.st 1))] (a0, ()) (empty sg.U)) := by
  unfold conf_Check.f
  kernel_rfl
def conf_Check.e (k : Nat) : Entry sg := entryOf sg [(.d (.st 1))] [(.int .i64)] (fun h => conf_Check.f k h.1)
def conf_Check.T : List (Lb sg (RT sg.U [(.int .i64)])) := []
theorem conf_Check.ok (k : Nat) : (conf_Check.e k).Sound Tryz.prog ctx 52 :=
  entry_ok base_ok mo (fn := Tryz.f52) (b := (Tryz.f52.body.getD .skip)) (pm := [(.d (.st 1))]) (rs := [(.int .i64)]) (an := conf_Check.a) (N := 11) (vars := [(.tmp 2)]) Tryz.func52 (by kernel_rfl) (by kernel_rfl) (by kernel_rfl) (by kernel_rfl) (by kernel_rfl) (by kernel_rfl) (O := conf_Check.O)
    (fun k => by unfold conf_Check.O; exact oracle_of (P := Tryz.prog) (C := ctx) ⟨(conf_count.ok k), ⟨(conf_levels.ok k), ⟨(conf_valuesFault.ok k), trivial⟩⟩⟩) conf_Check.T trivial k (fun h => conf_Check.f_eq k h.1)
def list_compound.f (a0 : T_api_Value) : Option (Bool) := (some (bif (ieq a0.fKind 5) then true else (ieq a0.fKind 6)))
def list_compound.O : Oracle sg := fun n => lkp n []
def list_compound.a : Ann := .z
def list_compound.L : Nat → St sg.U → Option (RT sg.U [.bool]) := labs []
theorem list_compound.f_eq (a0 : T_api_Value) : list_compound.f a0 = codeK (C := ctx) (list_compound.O) ⟨11, [], []⟩ (list_compound.L) (Tryz.f276.body.getD .skip) list_compound.a (endK ctx [.bool] [(.tmp 2)]) (slotsOf sg.U 0 [(.d (.st 1))] (a0, ()) (empty sg.U)) := by
  unfold list_compound.f
  kernel_rfl
def list_compound.e : Entry sg := entryOf sg [(.d (.st 1))] [.bool] (fun h => list_compound.f h.1)
def list_compound.T : List (Lb sg (RT sg.U [.bool])) := []
theorem list_compound.ok : (list_compound.e).Sound Tryz.prog ctx 276 :=
  entry_ok base_ok mo (fn := Tryz.f276) (b := (Tryz.f276.body.getD .skip)) (pm := [(.d (.st 1))]) (rs := [.bool]) (an := list_compound.a) (N := 11) (vars := [(.tmp 2)]) Tryz.func276 (by kernel_rfl) (by kernel_rfl) (by kernel_rfl) (by kernel_rfl) (by kernel_rfl) (by kernel_rfl) (O := fun _ => list_compound.O)
    (fun _ => by unfold list_compound.O; exact oracle_of (P := Tryz.prog) (C := ctx) trivial) list_compound.T trivial 0 (fun h => list_compound.f_eq h.1)
def list_wrongKind.l0 : Nat → (List T_api_Value) → Int → Int → Option (Bool)
  | 0, _, _, _ => none
  | k + 1, x14, x15, x16 => (bif (ilt x16 x15) then ((lat x14 x16).bind fun y2 => ((list_compound.f (T_api_Value.mk y2.fKind y2.fBool y2.fInt y2.fText y2.fItems y2.fKeys)).bind fun y3 => (bif y3 then (some true) else (list_wrongKind.l0 k x14 x15 (wadd .i64 x16 1))))) else (some false))
def list_wrongKind.f (k : Nat) (a0 : Int) (a1 : T_api_Value) : Option (Bool) := (bif (ieq a0 12) then (bif (!ieq a1.fKind 5) then (some true) else (list_wrongKind.l0 k a1.fItems (llen a1.fItems) 0)) else (bif (ieq a0 13) then (some (!ieq a1.fKind 3)) else ((list_compound.f (T_api_Value.mk a1.fKind a1.fBool a1.fInt a1.fText a1.fItems a1.fKeys)).bind fun y1 => (some y1))))
def list_wrongKind.O (k : Nat) : Oracle sg := fun n => lkp n [(276, list_compound.e)]
def list_wrongKind.a : Ann := (.n .z (.n (.n .z (.n .z (.n (.n .z (.n (.n .z (.lp 0 .z)) .z)) .z))) .z))
def list_wrongKind.L (k : Nat) : Nat → St sg.U → Option (RT sg.U [.bool]) := labs [(0, labOf sg [(14, (.d (.sl (.st 1)))), (15, (.d (.int .i64))), (16, (.d (.int .i64)))] (fun h => list_wrongKind.l0 k h.1 h.2.1 h.2.2.1))]
theorem list_wrongKind.l0_eq (k : Nat) (x14 : (List T_api_Value)) (x15 : Int) (x16 : Int) : list_wrongKind.l0 (k + 1) x14 x15 x16 = runFrom (C := ctx) (list_wrongKind.O k) ⟨30, [], []⟩ (list_wrongKind.L k) (Tryz.f253.body.getD .skip) list_wrongKind.a 0 (endK ctx [.bool] [(.tmp 4)]) (encD [(14, (.d (.sl (.st 1)))), (15, (.d (.int .i64))), (16, (.d (.int .i64)))] (x14, x15, x16, ()) (startD sg.U ⟨30, [], []⟩ [(14, (.d (.sl (.st 1)))), (15, (.d (.int .i64))), (16, (.d (.int .i64)))])) := by
  rw [list_wrongKind.l0]
  kernel_rfl
theorem list_wrongKind.f_eq (k : Nat) (a0 : Int) (a1 : T_api_Value) : list_wrongKind.f k a0 a1 = codeK (C := ctx) (list_wrongKind.O k) ⟨30, [], []⟩ (list_wrongKind.L k) (Tryz.f253.body.getD .skip) list_wrongKind.a (endK ctx [.bool] [(.tmp 4)]) (slotsOf sg.U 0 [(.d (.int .i64)), (.d (.st 1))] (a0, a1, ()) (empty sg.U)) := by
  unfold list_wrongKind.f
  kernel_rfl
def list_wrongKind.e (k : Nat) : Entry sg := entryOf sg [(.d (.int .i64)), (.d (.st 1))] [.bool] (fun h => list_wrongKind.f k h.1 h.2.1)
def list_wrongKind.T : List (Lb sg (RT sg.U [.bool])) := [⟨0, [(14, (.d (.sl (.st 1)))), (15, (.d (.int .i64))), (16, (.d (.int .i64)))], fun k h => list_wrongKind.l0 k h.1 h.2.1 h.2.2.1⟩]
theorem list_wrongKind.ok (k : Nat) : (list_wrongKind.e k).Sound Tryz.prog ctx 253 :=
  entry_ok base_ok mo (fn := Tryz.f253) (b := (Tryz.f253.body.getD .skip)) (pm := [(.d (.int .i64)), (.d (.st 1))]) (rs := [.bool]) (an := list_wrongKind.a) (N := 30) (vars := [(.tmp 4)]) Tryz.func253 (by kernel_rfl) (by kernel_rfl) (by kernel_rfl) (by kernel_rfl) (by kernel_rfl) (by kernel_rfl) (O := list_wrongKind.O)
    (fun k => by unfold list_wrongKind.O; exact oracle_of (P := Tryz.prog) (C := ctx) ⟨(list_compound.ok), trivial⟩) list_wrongKind.T ⟨⟨by kernel_rfl, fun _ => by first | rfl | rw [list_wrongKind.l0], fun k h => list_wrongKind.l0_eq k h.1 h.2.1 h.2.2.1⟩, trivial⟩ k (fun h => list_wrongKind.f_eq k h.1 h.2.1)
mutual
def list_condFault.l0 : Nat → Int → ByteArray → Int → Bool → Int → ByteArray → (List T_api_Value) → (List ByteArray) → (List T_list_Cond) → (List T_list_Cond) → Int → Int → Option (Int)
  | 0, _, _, _, _, _, _, _, _, _, _, _, _ => none
  | k + 1, x1_0, x1_1, x1_2, x1_3, x1_4, x1_5, x1_6, x1_7, x1_8, x41, x42, x43 => (bif (ilt x43 x42) then ((lat x41 x43).bind fun y1 => (bif (bif (ile x1_0 2) then (ieq y1.fOp x1_0) else false) then (some 1) else (list_condFault.l0 k x1_0 x1_1 x1_2 x1_3 x1_4 x1_5 x1_6 x1_7 x1_8 x41 x42 (wadd .i64 x43 1)))) else (bif (ile x1_0 3) then (bif (!seq x1_1 c_empty) then (some 1) else ((list_zero.f (T_api_Value.mk x1_2 x1_3 x1_4 x1_5 x1_6 x1_7)).bind fun y2 => (bif (!y2) then (some 1) else (bif (ieq x1_0 4) then ((list_zero.f (T_api_Value.mk x1_2 x1_3 x1_4 x1_5 x1_6 x1_7)).bind fun y3 => (bif (!y3) then (some 1) else (list_condFault.l1 k x1_0 x1_1 x1_2 x1_3 x1_4 x1_5 x1_6 x1_7 x1_8))) else (list_condFault.l1 k x1_0 x1_1 x1_2 x1_3 x1_4 x1_5 x1_6 x1_7 x1_8))))) else (bif (ieq x1_0 4) then ((list_zero.f (T_api_Value.mk x1_2 x1_3 x1_4 x1_5 x1_6 x1_7)).bind fun y4 => (bif (!y4) then (some 1) else (list_condFault.l1 k x1_0 x1_1 x1_2 x1_3 x1_4 x1_5 x1_6 x1_7 x1_8))) else (list_condFault.l1 k x1_0 x1_1 x1_2 x1_3 x1_4 x1_5 x1_6 x1_7 x1_8))))
def list_condFault.l1 : Nat → Int → ByteArray → Int → Bool → Int → ByteArray → (List T_api_Value) → (List ByteArray) → (List T_list_Cond) → Option (Int)
  | 0, _, _, _, _, _, _, _, _, _ => none
  | k + 1, x1_0, x1_1, x1_2, x1_3, x1_4, x1_5, x1_6, x1_7, x1_8 => (bif (ile x1_0 3) then (some 0) else ((list_isRoute.f k x1_1).bind fun y5 => (bif (!y5) then (some 3) else ((conf_Check.f k (T_api_Value.mk x1_2 x1_3 x1_4 x1_5 x1_6 x1_7)).bind fun y6 => (bif (!ieq y6 0) then (some y6) else (bif (!ieq x1_0 4) then ((list_wrongKind.f k x1_0 (T_api_Value.mk x1_2 x1_3 x1_4 x1_5 x1_6 x1_7)).bind fun y7 => (bif y7 then (some 10) else (some 0))) else (some 0)))))))
end
def list_condFault.f (k : Nat) (a0 : T_list_Cond) : Option (Int) := (bif (bif (ilt a0.fOp 1) then true else (ilt 13 a0.fOp)) then (some 1) else (bif (bif (ile a0.fOp 2) then (ilt (llen a0.fKids) 2) else false) then (some 1) else (bif (bif (ieq a0.fOp 3) then (!ieq (llen a0.fKids) 1) else false) then (some 1) else (bif (bif (ile 4 a0.fOp) then (ilt 0 (llen a0.fKids)) else false) then (some 1) else (list_condFault.l0 k a0.fOp a0.fRoute a0.fValue.fKind a0.fValue.fBool a0.fValue.fInt a0.fValue.fText a0.fValue.fItems a0.fValue.fKeys a0.fKids a0.fKids (llen a0.fKids) 0)))))
def list_condFault.O (k : Nat) : Oracle sg := fun n => lkp n [(52, conf_Check.e k), (251, list_zero.e), (252, list_isRoute.e k), (253, list_wrongKind.e k)]
def list_condFault.a : Ann := (.n .z (.n .z (.n .z (.n (.n .z (.lp 0 .z)) (.n .z (.lab 1 .z))))))
def list_condFault.L (k : Nat) : Nat → St sg.U → Option (RT sg.U [(.int .i64)]) := labs [(0, labOf sg [(1, (.box [.d (.int .i64), .d .str, .d (.int .i64), .d .bool, .d (.int .i64), .d .str, .d (.sl (.st 1)), .d (.sl .str), .d (.sl (.st 0))])), (41, (.d (.sl (.st 0)))), (42, (.d (.int .i64))), (43, (.d (.int .i64)))] (fun h => list_condFault.l0 k h.1 h.2.1 h.2.2.1 h.2.2.2.1 h.2.2.2.2.1 h.2.2.2.2.2.1 h.2.2.2.2.2.2.1 h.2.2.2.2.2.2.2.1 h.2.2.2.2.2.2.2.2.1 h.2.2.2.2.2.2.2.2.2.1 h.2.2.2.2.2.2.2.2.2.2.1 h.2.2.2.2.2.2.2.2.2.2.2.1)), (1, labOf sg [(1, (.box [.d (.int .i64), .d .str, .d (.int .i64), .d .bool, .d (.int .i64), .d .str, .d (.sl (.st 1)), .d (.sl .str), .d (.sl (.st 0))]))] (fun h => list_condFault.l1 k h.1 h.2.1 h.2.2.1 h.2.2.2.1 h.2.2.2.2.1 h.2.2.2.2.2.1 h.2.2.2.2.2.2.1 h.2.2.2.2.2.2.2.1 h.2.2.2.2.2.2.2.2.1))]
theorem list_condFault.l0_eq (k : Nat) (x1_0 : Int) (x1_1 : ByteArray) (x1_2 : Int) (x1_3 : Bool) (x1_4 : Int) (x1_5 : ByteArray) (x1_6 : (List T_api_Value)) (x1_7 : (List ByteArray)) (x1_8 : (List T_list_Cond)) (x41 : (List T_list_Cond)) (x42 : Int) (x43 : Int) : list_condFault.l0 (k + 1) x1_0 x1_1 x1_2 x1_3 x1_4 x1_5 x1_6 x1_7 x1_8 x41 x42 x43 = runFrom (C := ctx) (list_condFault.O k) ⟨106, [], []⟩ (list_condFault.L k) (Tryz.f208.body.getD .skip) list_condFault.a 0 (endK ctx [(.int .i64)] [(.tmp 2)]) (encD [(1, (.box [.d (.int .i64), .d .str, .d (.int .i64), .d .bool, .d (.int .i64), .d .str, .d (.sl (.st 1)), .d (.sl .str), .d (.sl (.st 0))])), (41, (.d (.sl (.st 0)))), (42, (.d (.int .i64))), (43, (.d (.int .i64)))] (x1_0, x1_1, x1_2, x1_3, x1_4, x1_5, x1_6, x1_7, x1_8, x41, x42, x43, ()) (startD sg.U ⟨106, [], []⟩ [(1, (.box [.d (.int .i64), .d .str, .d (.int .i64), .d .bool, .d (.int .i64), .d .str, .d (.sl (.st 1)), .d (.sl .str), .d (.sl (.st 0))])), (41, (.d (.sl (.st 0)))), (42, (.d (.int .i64))), (43, (.d (.int .i64)))])) := by
  rw [list_condFault.l0]
  kernel_rfl
theorem list_condFault.l1_eq (k : Nat) (x1_0 : Int) (x1_1 : ByteArray) (x1_2 : Int) (x1_3 : Bool) (x1_4 : Int) (x1_5 : ByteArray) (x1_6 : (List T_api_Value)) (x1_7 : (List ByteArray)) (x1_8 : (List T_list_Cond)) : list_condFault.l1 (k + 1) x1_0 x1_1 x1_2 x1_3 x1_4 x1_5 x1_6 x1_7 x1_8 = runFrom (C := ctx) (list_condFault.O k) ⟨106, [], []⟩ (list_condFault.L k) (Tryz.f208.body.getD .skip) list_condFault.a 1 (endK ctx [(.int .i64)] [(.tmp 2)]) (encD [(1, (.box [.d (.int .i64), .d .str, .d (.int .i64), .d .bool, .d (.int .i64), .d .str, .d (.sl (.st 1)), .d (.sl .str), .d (.sl (.st 0))]))] (x1_0, x1_1, x1_2, x1_3, x1_4, x1_5, x1_6, x1_7, x1_8, ()) (startD sg.U ⟨106, [], []⟩ [(1, (.box [.d (.int .i64), .d .str, .d (.int .i64), .d .bool, .d (.int .i64), .d .str, .d (.sl (.st 1)), .d (.sl .str), .d (.sl (.st 0))]))])) := by
  rw [list_condFault.l1]
  kernel_rfl
theorem list_condFault.f_eq (k : Nat) (a0 : T_list_Cond) : list_condFault.f k a0 = codeK (C := ctx) (list_condFault.O k) ⟨106, [], []⟩ (list_condFault.L k) (Tryz.f208.body.getD .skip) list_condFault.a (endK ctx [(.int .i64)] [(.tmp 2)]) (slotsOf sg.U 0 [(.d (.st 0))] (a0, ()) (empty sg.U)) := by
  unfold list_condFault.f
  kernel_rfl
def list_condFault.e (k : Nat) : Entry sg := entryOf sg [(.d (.st 0))] [(.int .i64)] (fun h => list_condFault.f k h.1)
def list_condFault.T : List (Lb sg (RT sg.U [(.int .i64)])) := [⟨0, [(1, (.box [.d (.int .i64), .d .str, .d (.int .i64), .d .bool, .d (.int .i64), .d .str, .d (.sl (.st 1)), .d (.sl .str), .d (.sl (.st 0))])), (41, (.d (.sl (.st 0)))), (42, (.d (.int .i64))), (43, (.d (.int .i64)))], fun k h => list_condFault.l0 k h.1 h.2.1 h.2.2.1 h.2.2.2.1 h.2.2.2.2.1 h.2.2.2.2.2.1 h.2.2.2.2.2.2.1 h.2.2.2.2.2.2.2.1 h.2.2.2.2.2.2.2.2.1 h.2.2.2.2.2.2.2.2.2.1 h.2.2.2.2.2.2.2.2.2.2.1 h.2.2.2.2.2.2.2.2.2.2.2.1⟩, ⟨1, [(1, (.box [.d (.int .i64), .d .str, .d (.int .i64), .d .bool, .d (.int .i64), .d .str, .d (.sl (.st 1)), .d (.sl .str), .d (.sl (.st 0))]))], fun k h => list_condFault.l1 k h.1 h.2.1 h.2.2.1 h.2.2.2.1 h.2.2.2.2.1 h.2.2.2.2.2.1 h.2.2.2.2.2.2.1 h.2.2.2.2.2.2.2.1 h.2.2.2.2.2.2.2.2.1⟩]
theorem list_condFault.ok (k : Nat) : (list_condFault.e k).Sound Tryz.prog ctx 208 :=
  entry_ok base_ok mo (fn := Tryz.f208) (b := (Tryz.f208.body.getD .skip)) (pm := [(.d (.st 0))]) (rs := [(.int .i64)]) (an := list_condFault.a) (N := 106) (vars := [(.tmp 2)]) Tryz.func208 (by kernel_rfl) (by kernel_rfl) (by kernel_rfl) (by kernel_rfl) (by kernel_rfl) (by kernel_rfl) (O := list_condFault.O)
    (fun k => by unfold list_condFault.O; exact oracle_of (P := Tryz.prog) (C := ctx) ⟨(conf_Check.ok k), ⟨(list_zero.ok), ⟨(list_isRoute.ok k), ⟨(list_wrongKind.ok k), trivial⟩⟩⟩⟩) list_condFault.T ⟨⟨by kernel_rfl, fun _ => by first | rfl | rw [list_condFault.l0], fun k h => list_condFault.l0_eq k h.1 h.2.1 h.2.2.1 h.2.2.2.1 h.2.2.2.2.1 h.2.2.2.2.2.1 h.2.2.2.2.2.2.1 h.2.2.2.2.2.2.2.1 h.2.2.2.2.2.2.2.2.1 h.2.2.2.2.2.2.2.2.2.1 h.2.2.2.2.2.2.2.2.2.2.1 h.2.2.2.2.2.2.2.2.2.2.2.1⟩, ⟨⟨by kernel_rfl, fun _ => by first | rfl | rw [list_condFault.l1], fun k h => list_condFault.l1_eq k h.1 h.2.1 h.2.2.1 h.2.2.2.1 h.2.2.2.2.1 h.2.2.2.2.2.1 h.2.2.2.2.2.2.1 h.2.2.2.2.2.2.2.1 h.2.2.2.2.2.2.2.2.1⟩, trivial⟩⟩ k (fun h => list_condFault.f_eq k h.1)
mutual
def list_condsFault.l0 : Nat → (List T_list_Cond) → Int → Int → Option (Int)
  | 0, _, _, _ => none
  | k + 1, x13, x14, x15 => (bif (ilt x15 x14) then ((lat x13 x15).bind fun y2 => ((list_condsFault.f k (T_list_Cond.mk y2.fOp y2.fRoute (T_api_Value.mk y2.fValue.fKind y2.fValue.fBool y2.fValue.fInt y2.fValue.fText y2.fValue.fItems y2.fValue.fKeys) y2.fKids)).bind fun y3 => (bif (!ieq y3 0) then (some y3) else (list_condsFault.l0 k x13 x14 (wadd .i64 x15 1))))) else (some 0))
def list_condsFault.f : Nat → T_list_Cond → Option (Int)
  | 0, _ => none
  | k + 1, a0 => ((list_condFault.f k (T_list_Cond.mk a0.fOp a0.fRoute (T_api_Value.mk a0.fValue.fKind a0.fValue.fBool a0.fValue.fInt a0.fValue.fText a0.fValue.fItems a0.fValue.fKeys) a0.fKids)).bind fun y1 => (bif (!ieq y1 0) then (some y1) else (list_condsFault.l0 k a0.fKids (llen a0.fKids) 0)))
end
def list_condsFault.e (k : Nat) : Entry sg := entryOf sg [(.d (.st 0))] [(.int .i64)] (fun h => list_condsFault.f k h.1)
def list_condsFault.O (k : Nat) : Oracle sg := fun n => lkp n [(111, list_condsFault.e k), (208, list_condFault.e k)]
def list_condsFault.a : Ann := (.n .z (.n .z (.n (.n .z (.lp 0 .z)) .z)))
def list_condsFault.L (k : Nat) : Nat → St sg.U → Option (RT sg.U [(.int .i64)]) := labs [(0, labOf sg [(13, (.d (.sl (.st 0)))), (14, (.d (.int .i64))), (15, (.d (.int .i64)))] (fun h => list_condsFault.l0 k h.1 h.2.1 h.2.2.1))]
theorem list_condsFault.l0_eq (k : Nat) (x13 : (List T_list_Cond)) (x14 : Int) (x15 : Int) : list_condsFault.l0 (k + 1) x13 x14 x15 = runFrom (C := ctx) (list_condsFault.O k) ⟨25, [], []⟩ (list_condsFault.L k) (Tryz.f111.body.getD .skip) list_condsFault.a 0 (endK ctx [(.int .i64)] [(.tmp 2)]) (encD [(13, (.d (.sl (.st 0)))), (14, (.d (.int .i64))), (15, (.d (.int .i64)))] (x13, x14, x15, ()) (startD sg.U ⟨25, [], []⟩ [(13, (.d (.sl (.st 0)))), (14, (.d (.int .i64))), (15, (.d (.int .i64)))])) := by
  rw [list_condsFault.l0]
  kernel_rfl
theorem list_condsFault.f_eq (k : Nat) (a0 : T_list_Cond) : list_condsFault.f (k + 1) a0 = codeK (C := ctx) (list_condsFault.O k) ⟨25, [], []⟩ (list_condsFault.L k) (Tryz.f111.body.getD .skip) list_condsFault.a (endK ctx [(.int .i64)] [(.tmp 2)]) (slotsOf sg.U 0 [(.d (.st 0))] (a0, ()) (empty sg.U)) := by
  rw [list_condsFault.f]
  kernel_rfl
def list_condsFault.T : List (Lb sg (RT sg.U [(.int .i64)])) := [⟨0, [(13, (.d (.sl (.st 0)))), (14, (.d (.int .i64))), (15, (.d (.int .i64)))], fun k h => list_condsFault.l0 k h.1 h.2.1 h.2.2.1⟩]
theorem list_condsFault.ok : ∀ k : Nat, (list_condsFault.e k).Sound Tryz.prog ctx 111 :=
  entry_rec base_ok mo (fn := Tryz.f111) (b := (Tryz.f111.body.getD .skip)) (pm := [(.d (.st 0))]) (rs := [(.int .i64)]) (an := list_condsFault.a) (N := 25) (vars := [(.tmp 2)]) Tryz.func111 (by kernel_rfl) (by kernel_rfl) (by kernel_rfl) (by kernel_rfl) (by kernel_rfl) (by kernel_rfl) (O := list_condsFault.O) list_condsFault.T ⟨⟨by kernel_rfl, fun _ => by first | rfl | rw [list_condsFault.l0], fun k h => list_condsFault.l0_eq k h.1 h.2.1 h.2.2.1⟩, trivial⟩ (F := fun k h => list_condsFault.f k h.1) (fun _ => by first | rfl | rw [list_condsFault.f]) (fun k h => list_condsFault.f_eq k h.1)
    (fun k own => by unfold list_condsFault.O; exact oracle_of (P := Tryz.prog) (C := ctx) ⟨own, ⟨(list_condFault.ok k), trivial⟩⟩)
def list_CheckCond.f (k : Nat) (a0 : T_list_Cond) : Option (Int) := ((list_many.f k (T_list_Cond.mk a0.fOp a0.fRoute (T_api_Value.mk a0.fValue.fKind a0.fValue.fBool a0.fValue.fInt a0.fValue.fText a0.fValue.fItems a0.fValue.fKeys) a0.fKids)).bind fun y1 => (bif (ilt 200 y1) then (some 4) else ((list_deep.f k (T_list_Cond.mk a0.fOp a0.fRoute (T_api_Value.mk a0.fValue.fKind a0.fValue.fBool a0.fValue.fInt a0.fValue.fText a0.fValue.fItems a0.fValue.fKeys) a0.fKids)).bind fun y2 => (bif (ilt 20 y2) then (some 13) else ((list_condsFault.f k (T_list_Cond.mk a0.fOp a0.fRoute (T_api_Value.mk a0.fValue.fKind a0.fValue.fBool a0.fValue.fInt a0.fValue.fText a0.fValue.fItems a0.fValue.fKeys) a0.fKids)).bind fun y3 => (some y3))))))
def list_CheckCond.O (k : Nat) : Oracle sg := fun n => lkp n [(109, list_many.e k), (110, list_deep.e k), (111, list_condsFault.e k)]
def list_CheckCond.a : Ann := .z
def list_CheckCond.L (k : Nat) : Nat → St sg.U → Option (RT sg.U [(.int .i64)]) := labs []
theorem list_CheckCond.f_eq (k : Nat) (a0 : T_list_Cond) : list_CheckCond.f k a0 = codeK (C := ctx) (list_CheckCond.O k) ⟨11, [], []⟩ (list_CheckCond.L k) (Tryz.f31.body.getD .skip) list_CheckCond.a (endK ctx [(.int .i64)] [(.tmp 2)]) (slotsOf sg.U 0 [(.d (.st 0))] (a0, ()) (empty sg.U)) := by
  unfold list_CheckCond.f
  kernel_rfl
def list_CheckCond.e (k : Nat) : Entry sg := entryOf sg [(.d (.st 0))] [(.int .i64)] (fun h => list_CheckCond.f k h.1)
def list_CheckCond.T : List (Lb sg (RT sg.U [(.int .i64)])) := []
theorem list_CheckCond.ok (k : Nat) : (list_CheckCond.e k).Sound Tryz.prog ctx 31 :=
  entry_ok base_ok mo (fn := Tryz.f31) (b := (Tryz.f31.body.getD .skip)) (pm := [(.d (.st 0))]) (rs := [(.int .i64)]) (an := list_CheckCond.a) (N := 11) (vars := [(.tmp 2)]) Tryz.func31 (by kernel_rfl) (by kernel_rfl) (by kernel_rfl) (by kernel_rfl) (by kernel_rfl) (by kernel_rfl) (O := list_CheckCond.O)
    (fun k => by unfold list_CheckCond.O; exact oracle_of (P := Tryz.prog) (C := ctx) ⟨(list_many.ok k), ⟨(list_deep.ok k), ⟨(list_condsFault.ok k), trivial⟩⟩⟩) list_CheckCond.T trivial k (fun h => list_CheckCond.f_eq k h.1)
mutual
def list_count.l0 : Nat → Int → (List T_api_Value) → Int → Int → Option (Int)
  | 0, _, _, _, _ => none
  | k + 1, x3, x7, x8, x9 => (bif (ilt x9 x8) then ((lat x7 x9).bind fun y1 => (bif (ilt 5000 x3) then (some x3) else ((list_count.f k (T_api_Value.mk y1.fKind y1.fBool y1.fInt y1.fText y1.fItems y1.fKeys)).bind fun y2 => (list_count.l0 k (wadd .i64 x3 y2) x7 x8 (wadd .i64 x9 1))))) else (some x3))
def list_count.f : Nat → T_api_Value → Option (Int)
  | 0, _ => none
  | k + 1, a0 => (list_count.l0 k 1 a0.fItems (llen a0.fItems) 0)
end
def list_count.e (k : Nat) : Entry sg := entryOf sg [(.d (.st 1))] [(.int .i64)] (fun h => list_count.f k h.1)
def list_count.O (k : Nat) : Oracle sg := fun n => lkp n [(112, list_count.e k)]
def list_count.a : Ann := (.n .z (.n .z (.n (.n .z (.lp 0 .z)) .z)))
def list_count.L (k : Nat) : Nat → St sg.U → Option (RT sg.U [(.int .i64)]) := labs [(0, labOf sg [(3, (.d (.int .i64))), (7, (.d (.sl (.st 1)))), (8, (.d (.int .i64))), (9, (.d (.int .i64)))] (fun h => list_count.l0 k h.1 h.2.1 h.2.2.1 h.2.2.2.1))]
theorem list_count.l0_eq (k : Nat) (x3 : Int) (x7 : (List T_api_Value)) (x8 : Int) (x9 : Int) : list_count.l0 (k + 1) x3 x7 x8 x9 = runFrom (C := ctx) (list_count.O k) ⟨21, [], []⟩ (list_count.L k) (Tryz.f112.body.getD .skip) list_count.a 0 (endK ctx [(.int .i64)] [(.tmp 2)]) (encD [(3, (.d (.int .i64))), (7, (.d (.sl (.st 1)))), (8, (.d (.int .i64))), (9, (.d (.int .i64)))] (x3, x7, x8, x9, ()) (startD sg.U ⟨21, [], []⟩ [(3, (.d (.int .i64))), (7, (.d (.sl (.st 1)))), (8, (.d (.int .i64))), (9, (.d (.int .i64)))])) := by
  rw [list_count.l0]
  kernel_rfl
theorem list_count.f_eq (k : Nat) (a0 : T_api_Value) : list_count.f (k + 1) a0 = codeK (C := ctx) (list_count.O k) ⟨21, [], []⟩ (list_count.L k) (Tryz.f112.body.getD .skip) list_count.a (endK ctx [(.int .i64)] [(.tmp 2)]) (slotsOf sg.U 0 [(.d (.st 1))] (a0, ()) (empty sg.U)) := by
  rw [list_count.f]
  kernel_rfl
def list_count.T : List (Lb sg (RT sg.U [(.int .i64)])) := [⟨0, [(3, (.d (.int .i64))), (7, (.d (.sl (.st 1)))), (8, (.d (.int .i64))), (9, (.d (.int .i64)))], fun k h => list_count.l0 k h.1 h.2.1 h.2.2.1 h.2.2.2.1⟩]
theorem list_count.ok : ∀ k : Nat, (list_count.e k).Sound Tryz.prog ctx 112 :=
  entry_rec base_ok mo (fn := Tryz.f112) (b := (Tryz.f112.body.getD .skip)) (pm := [(.d (.st 1))]) (rs := [(.int .i64)]) (an := list_count.a) (N := 21) (vars := [(.tmp 2)]) Tryz.func112 (by kernel_rfl) (by kernel_rfl) (by kernel_rfl) (by kernel_rfl) (by kernel_rfl) (by kernel_rfl) (O := list_count.O) list_count.T ⟨⟨by kernel_rfl, fun _ => by first | rfl | rw [list_count.l0], fun k h => list_count.l0_eq k h.1 h.2.1 h.2.2.1 h.2.2.2.1⟩, trivial⟩ (F := fun k h => list_count.f k h.1) (fun _ => by first | rfl | rw [list_count.f]) (fun k h => list_count.f_eq k h.1)
    (fun k own => by unfold list_count.O; exact oracle_of (P := Tryz.prog) (C := ctx) ⟨own, trivial⟩)
mutual
def list_levels.l0 : Nat → Int → (List T_api_Value) → Int → Int → Option (Int)
  | 0, _, _, _, _ => none
  | k + 1, x3, x7, x8, x9 => (bif (ilt x9 x8) then ((lat x7 x9).bind fun y1 => ((list_levels.f k (T_api_Value.mk y1.fKind y1.fBool y1.fInt y1.fText y1.fItems y1.fKeys)).bind fun y2 => (list_levels.l0 k (imax x3 y2) x7 x8 (wadd .i64 x9 1)))) else (some (wadd .i64 x3 1)))
def list_levels.f : Nat → T_api_Value → Option (Int)
  | 0, _ => none
  | k + 1, a0 => (list_levels.l0 k 0 a0.fItems (llen a0.fItems) 0)
end
def list_levels.e (k : Nat) : Entry sg := entryOf sg [(.d (.st 1))] [(.int .i64)] (fun h => list_levels.f k h.1)
def list_levels.O (k : Nat) : Oracle sg := fun n => lkp n [(113, list_levels.e k)]
def list_levels.a : Ann := (.n .z (.n .z (.n (.n .z (.lp 0 .z)) .z)))
def list_levels.L (k : Nat) : Nat → St sg.U → Option (RT sg.U [(.int .i64)]) := labs [(0, labOf sg [(3, (.d (.int .i64))), (7, (.d (.sl (.st 1)))), (8, (.d (.int .i64))), (9, (.d (.int .i64)))] (fun h => list_levels.l0 k h.1 h.2.1 h.2.2.1 h.2.2.2.1))]
theorem list_levels.l0_eq (k : Nat) (x3 : Int) (x7 : (List T_api_Value)) (x8 : Int) (x9 : Int) : list_levels.l0 (k + 1) x3 x7 x8 x9 = runFrom (C := ctx) (list_levels.O k) ⟨20, [], []⟩ (list_levels.L k) (Tryz.f113.body.getD .skip) list_levels.a 0 (endK ctx [(.int .i64)] [(.tmp 2)]) (encD [(3, (.d (.int .i64))), (7, (.d (.sl (.st 1)))), (8, (.d (.int .i64))), (9, (.d (.int .i64)))] (x3, x7, x8, x9, ()) (startD sg.U ⟨20, [], []⟩ [(3, (.d (.int .i64))), (7, (.d (.sl (.st 1)))), (8, (.d (.int .i64))), (9, (.d (.int .i64)))])) := by
  rw [list_levels.l0]
  kernel_rfl
theorem list_levels.f_eq (k : Nat) (a0 : T_api_Value) : list_levels.f (k + 1) a0 = codeK (C := ctx) (list_levels.O k) ⟨20, [], []⟩ (list_levels.L k) (Tryz.f113.body.getD .skip) list_levels.a (endK ctx [(.int .i64)] [(.tmp 2)]) (slotsOf sg.U 0 [(.d (.st 1))] (a0, ()) (empty sg.U)) := by
  rw [list_levels.f]
  kernel_rfl
def list_levels.T : List (Lb sg (RT sg.U [(.int .i64)])) := [⟨0, [(3, (.d (.int .i64))), (7, (.d (.sl (.st 1)))), (8, (.d (.int .i64))), (9, (.d (.int .i64)))], fun k h => list_levels.l0 k h.1 h.2.1 h.2.2.1 h.2.2.2.1⟩]
theorem list_levels.ok : ∀ k : Nat, (list_levels.e k).Sound Tryz.prog ctx 113 :=
  entry_rec base_ok mo (fn := Tryz.f113) (b := (Tryz.f113.body.getD .skip)) (pm := [(.d (.st 1))]) (rs := [(.int .i64)]) (an := list_levels.a) (N := 20) (vars := [(.tmp 2)]) Tryz.func113 (by kernel_rfl) (by kernel_rfl) (by kernel_rfl) (by kernel_rfl) (by kernel_rfl) (by kernel_rfl) (O := list_levels.O) list_levels.T ⟨⟨by kernel_rfl, fun _ => by first | rfl | rw [list_levels.l0], fun k h => list_levels.l0_eq k h.1 h.2.1 h.2.2.1 h.2.2.2.1⟩, trivial⟩ (F := fun k h => list_levels.f k h.1) (fun _ => by first | rfl | rw [list_levels.f]) (fun k h => list_levels.f_eq k h.1)
    (fun k own => by unfold list_levels.O; exact oracle_of (P := Tryz.prog) (C := ctx) ⟨own, trivial⟩)
def list_tableFault.l0 : Nat → Int → Bool → Int → ByteArray → (List T_api_Value) → (List ByteArray) → (List ByteArray) → Int → Int → Option (Int)
  | 0, _, _, _, _, _, _, _, _, _ => none
  | k + 1, x1_0, x1_1, x1_2, x1_3, x1_4, x1_5, x27, x28, x29 => (bif (ilt x29 x28) then ((lat x27 x29).bind fun y1 => ((list_isKey.f k y1).bind fun y2 => (bif (!y2) then (some 12) else (bif (ilt 0 x29) then ((lat x1_5 (wsub .i64 x29 1)).bind fun y3 => (bif (sle y1 y3) then (some 5) else (list_tableFault.l0 k x1_0 x1_1 x1_2 x1_3 x1_4 x1_5 x27 x28 (wadd .i64 x29 1)))) else (list_tableFault.l0 k x1_0 x1_1 x1_2 x1_3 x1_4 x1_5 x27 x28 (wadd .i64 x29 1)))))) else (some 0))
def list_tableFault.f (k : Nat) (a0 : T_api_Value) : Option (Int) := (bif (bif (bif (bif a0.fBool then true else (!ieq a0.fInt 0)) then true else (!seq a0.fText c_empty)) then true else (!ieq (llen a0.fKeys) (llen a0.fItems))) then (some 1) else (list_tableFault.l0 k a0.fKind a0.fBool a0.fInt a0.fText a0.fItems a0.fKeys a0.fKeys (llen a0.fKeys) 0))
def list_tableFault.O (k : Nat) : Oracle sg := fun n => lkp n [(210, list_isKey.e k)]
def list_tableFault.a : Ann := (.n .z (.n .z (.n (.n .z (.lp 0 .z)) .z)))
def list_tableFault.L (k : Nat) : Nat → St sg.U → Option (RT sg.U [(.int .i64)]) := labs [(0, labOf sg [(1, (.box [.d (.int .i64), .d .bool, .d (.int .i64), .d .str, .d (.sl (.st 1)), .d (.sl .str)])), (27, (.d (.sl .str))), (28, (.d (.int .i64))), (29, (.d (.int .i64)))] (fun h => list_tableFault.l0 k h.1 h.2.1 h.2.2.1 h.2.2.2.1 h.2.2.2.2.1 h.2.2.2.2.2.1 h.2.2.2.2.2.2.1 h.2.2.2.2.2.2.2.1 h.2.2.2.2.2.2.2.2.1))]
theorem list_tableFault.l0_eq (k : Nat) (x1_0 : Int) (x1_1 : Bool) (x1_2 : Int) (x1_3 : ByteArray) (x1_4 : (List T_api_Value)) (x1_5 : (List ByteArray)) (x27 : (List ByteArray)) (x28 : Int) (x29 : Int) : list_tableFault.l0 (k + 1) x1_0 x1_1 x1_2 x1_3 x1_4 x1_5 x27 x28 x29 = runFrom (C := ctx) (list_tableFault.O k) ⟨50, [], []⟩ (list_tableFault.L k) (Tryz.f254.body.getD .skip) list_tableFault.a 0 (endK ctx [(.int .i64)] [(.tmp 2)]) (encD [(1, (.box [.d (.int .i64), .d .bool, .d (.int .i64), .d .str, .d (.sl (.st 1)), .d (.sl .str)])), (27, (.d (.sl .str))), (28, (.d (.int .i64))), (29, (.d (.int .i64)))] (x1_0, x1_1, x1_2, x1_3, x1_4, x1_5, x27, x28, x29, ()) (startD sg.U ⟨50, [], []⟩ [(1, (.box [.d (.int .i64), .d .bool, .d (.int .i64), .d .str, .d (.sl (.st 1)), .d (.sl .str)])), (27, (.d (.sl .str))), (28, (.d (.int .i64))), (29, (.d (.int .i64)))])) := by
  rw [list_tableFault.l0]
  kernel_rfl
theorem list_tableFault.f_eq (k : Nat) (a0 : T_api_Value) : list_tableFault.f k a0 = codeK (C := ctx) (list_tableFault.O k) ⟨50, [], []⟩ (list_tableFault.L k) (Tryz.f254.body.getD .skip) list_tableFault.a (endK ctx [(.int .i64)] [(.tmp 2)]) (slotsOf sg.U 0 [(.d (.st 1))] (a0, ()) (empty sg.U)) := by
  unfold list_tableFault.f
  kernel_rfl
def list_tableFault.e (k : Nat) : Entry sg := entryOf sg [(.d (.st 1))] [(.int .i64)] (fun h => list_tableFault.f k h.1)
def list_tableFault.T : List (Lb sg (RT sg.U [(.int .i64)])) := [⟨0, [(1, (.box [.d (.int .i64), .d .bool, .d (.int .i64), .d .str, .d (.sl (.st 1)), .d (.sl .str)])), (27, (.d (.sl .str))), (28, (.d (.int .i64))), (29, (.d (.int .i64)))], fun k h => list_tableFault.l0 k h.1 h.2.1 h.2.2.1 h.2.2.2.1 h.2.2.2.2.1 h.2.2.2.2.2.1 h.2.2.2.2.2.2.1 h.2.2.2.2.2.2.2.1 h.2.2.2.2.2.2.2.2.1⟩]
theorem list_tableFault.ok (k : Nat) : (list_tableFault.e k).Sound Tryz.prog ctx 254 :=
  entry_ok base_ok mo (fn := Tryz.f254) (b := (Tryz.f254.body.getD .skip)) (pm := [(.d (.st 1))]) (rs := [(.int .i64)]) (an := list_tableFault.a) (N := 50) (vars := [(.tmp 2)]) Tryz.func254 (by kernel_rfl) (by kernel_rfl) (by kernel_rfl) (by kernel_rfl) (by kernel_rfl) (by kernel_rfl) (O := list_tableFault.O)
    (fun k => by unfold list_tableFault.O; exact oracle_of (P := Tryz.prog) (C := ctx) ⟨(list_isKey.ok k), trivial⟩) list_tableFault.T ⟨⟨by kernel_rfl, fun _ => by first | rfl | rw [list_tableFault.l0], fun k h => list_tableFault.l0_eq k h.1 h.2.1 h.2.2.1 h.2.2.2.1 h.2.2.2.2.1 h.2.2.2.2.2.1 h.2.2.2.2.2.2.1 h.2.2.2.2.2.2.2.1 h.2.2.2.2.2.2.2.2.1⟩, trivial⟩ k (fun h => list_tableFault.f_eq k h.1)
def list_valueFault.l0 : Nat → Int → Bool → Int → ByteArray → (List T_api_Value) → (List ByteArray) → Int → Bool → Int → ByteArray → (List T_api_Value) → (List ByteArray) → Int → Bool → Option (Int)
  | 0, _, _, _, _, _, _, _, _, _, _, _, _, _, _ => none
  | k + 1, x1_0, x1_1, x1_2, x1_3, x1_4, x1_5, x3_0, x3_1, x3_2, x3_3, x3_4, x3_5, x15, x23 => (bif x23 then (bif (ilt 0 (llen x1_4)) then (some 1) else ((conf_Check.f k (T_api_Value.mk 3 x3_1 x3_2 x3_3 x3_4 x3_5)).bind fun y1 => (some y1))) else (bif (ieq x15 5) then ((conf_Check.f k (T_api_Value.mk x3_0 x3_1 x3_2 x3_3 x3_4 x3_5)).bind fun y2 => (some y2)) else (bif (ieq x15 6) then ((lmake 88 (llen x1_4) (llen x1_4) (T_api_Value.mk 0 false 0 c_empty [] [])).bind fun y3 => (bif (ilt 999 (llen y3)) then ((list_tableFault.f k (T_api_Value.mk x1_0 x1_1 x1_2 x1_3 x1_4 x1_5)).bind fun y4 => (some y4)) else ((conf_Check.f k (T_api_Value.mk x3_0 x3_1 x3_2 x3_3 y3 x3_5)).bind fun y5 => (some y5)))) else (bif (ilt 0 (llen x1_4)) then (some 1) else ((conf_Check.f k (T_api_Value.mk x3_0 x3_1 x3_2 x3_3 x1_4 x3_5)).bind fun y6 => (some y6))))))
def list_valueFault.f (k : Nat) (a0 : T_api_Value) : Option (Int) := (bif (bif (ilt a0.fKind 0) then true else (ilt 8 a0.fKind)) then (some 10) else (bif (ieq a0.fKind 7) then (list_valueFault.l0 k a0.fKind a0.fBool a0.fInt a0.fText a0.fItems a0.fKeys a0.fKind a0.fBool a0.fInt a0.fText [] a0.fKeys a0.fKind true) else (list_valueFault.l0 k a0.fKind a0.fBool a0.fInt a0.fText a0.fItems a0.fKeys a0.fKind a0.fBool a0.fInt a0.fText [] a0.fKeys a0.fKind (ieq a0.fKind 8))))
def list_valueFault.O (k : Nat) : Oracle sg := fun n => lkp n [(52, conf_Check.e k), (254, list_tableFault.e k)]
def list_valueFault.a : Ann := (.n .z (.n .z (.n .z (.n .z (.n (.n .z (.n .z (.lab 0 .z))) .z)))))
def list_valueFault.L (k : Nat) : Nat → St sg.U → Option (RT sg.U [(.int .i64)]) := labs [(0, labOf sg [(1, (.box [.d (.int .i64), .d .bool, .d (.int .i64), .d .str, .d (.sl (.st 1)), .d (.sl .str)])), (3, (.box [.d (.int .i64), .d .bool, .d (.int .i64), .d .str, .row 25 (.st 1), .d (.sl .str)])), (15, (.d (.int .i64))), (23, (.d .bool))] (fun h => list_valueFault.l0 k h.1 h.2.1 h.2.2.1 h.2.2.2.1 h.2.2.2.2.1 h.2.2.2.2.2.1 h.2.2.2.2.2.2.1 h.2.2.2.2.2.2.2.1 h.2.2.2.2.2.2.2.2.1 h.2.2.2.2.2.2.2.2.2.1 h.2.2.2.2.2.2.2.2.2.2.1 h.2.2.2.2.2.2.2.2.2.2.2.1 h.2.2.2.2.2.2.2.2.2.2.2.2.1 h.2.2.2.2.2.2.2.2.2.2.2.2.2.1))]
theorem list_valueFault.l0_eq (k : Nat) (x1_0 : Int) (x1_1 : Bool) (x1_2 : Int) (x1_3 : ByteArray) (x1_4 : (List T_api_Value)) (x1_5 : (List ByteArray)) (x3_0 : Int) (x3_1 : Bool) (x3_2 : Int) (x3_3 : ByteArray) (x3_4 : (List T_api_Value)) (x3_5 : (List ByteArray)) (x15 : Int) (x23 : Bool) : list_valueFault.l0 (k + 1) x1_0 x1_1 x1_2 x1_3 x1_4 x1_5 x3_0 x3_1 x3_2 x3_3 x3_4 x3_5 x15 x23 = runFrom (C := ctx) (list_valueFault.O k) ⟨48, [], []⟩ (list_valueFault.L k) (Tryz.f209.body.getD .skip) list_valueFault.a 0 (endK ctx [(.int .i64)] [(.tmp 2)]) (encD [(1, (.box [.d (.int .i64), .d .bool, .d (.int .i64), .d .str, .d (.sl (.st 1)), .d (.sl .str)])), (3, (.box [.d (.int .i64), .d .bool, .d (.int .i64), .d .str, .row 25 (.st 1), .d (.sl .str)])), (15, (.d (.int .i64))), (23, (.d .bool))] (x1_0, x1_1, x1_2, x1_3, x1_4, x1_5, x3_0, x3_1, x3_2, x3_3, x3_4, x3_5, x15, x23, ()) (startD sg.U ⟨48, [], []⟩ [(1, (.box [.d (.int .i64), .d .bool, .d (.int .i64), .d .str, .d (.sl (.st 1)), .d (.sl .str)])), (3, (.box [.d (.int .i64), .d .bool, .d (.int .i64), .d .str, .row 25 (.st 1), .d (.sl .str)])), (15, (.d (.int .i64))), (23, (.d .bool))])) := by
  rw [list_valueFault.l0]
  kernel_rfl
theorem list_valueFault.f_eq (k : Nat) (a0 : T_api_Value) : list_valueFault.f k a0 = codeK (C := ctx) (list_valueFault.O k) ⟨48, [], []⟩ (list_valueFault.L k) (Tryz.f209.body.getD .skip) list_valueFault.a (endK ctx [(.int .i64)] [(.tmp 2)]) (slotsOf sg.U 0 [(.d (.st 1))] (a0, ()) (empty sg.U)) := by
  unfold list_valueFault.f
  kernel_rfl
def list_valueFault.e (k : Nat) : Entry sg := entryOf sg [(.d (.st 1))] [(.int .i64)] (fun h => list_valueFault.f k h.1)
def list_valueFault.T : List (Lb sg (RT sg.U [(.int .i64)])) := [⟨0, [(1, (.box [.d (.int .i64), .d .bool, .d (.int .i64), .d .str, .d (.sl (.st 1)), .d (.sl .str)])), (3, (.box [.d (.int .i64), .d .bool, .d (.int .i64), .d .str, .row 25 (.st 1), .d (.sl .str)])), (15, (.d (.int .i64))), (23, (.d .bool))], fun k h => list_valueFault.l0 k h.1 h.2.1 h.2.2.1 h.2.2.2.1 h.2.2.2.2.1 h.2.2.2.2.2.1 h.2.2.2.2.2.2.1 h.2.2.2.2.2.2.2.1 h.2.2.2.2.2.2.2.2.1 h.2.2.2.2.2.2.2.2.2.1 h.2.2.2.2.2.2.2.2.2.2.1 h.2.2.2.2.2.2.2.2.2.2.2.1 h.2.2.2.2.2.2.2.2.2.2.2.2.1 h.2.2.2.2.2.2.2.2.2.2.2.2.2.1⟩]
theorem list_valueFault.ok (k : Nat) : (list_valueFault.e k).Sound Tryz.prog ctx 209 :=
  entry_ok base_ok mo (fn := Tryz.f209) (b := (Tryz.f209.body.getD .skip)) (pm := [(.d (.st 1))]) (rs := [(.int .i64)]) (an := list_valueFault.a) (N := 48) (vars := [(.tmp 2)]) Tryz.func209 (by kernel_rfl) (by kernel_rfl) (by kernel_rfl) (by kernel_rfl) (by kernel_rfl) (by kernel_rfl) (O := list_valueFault.O)
    (fun k => by unfold list_valueFault.O; exact oracle_of (P := Tryz.prog) (C := ctx) ⟨(conf_Check.ok k), ⟨(list_tableFault.ok k), trivial⟩⟩) list_valueFault.T ⟨⟨by kernel_rfl, fun _ => by first | rfl | rw [list_valueFault.l0], fun k h => list_valueFault.l0_eq k h.1 h.2.1 h.2.2.1 h.2.2.2.1 h.2.2.2.2.1 h.2.2.2.2.2.1 h.2.2.2.2.2.2.1 h.2.2.2.2.2.2.2.1 h.2.2.2.2.2.2.2.2.1 h.2.2.2.2.2.2.2.2.2.1 h.2.2.2.2.2.2.2.2.2.2.1 h.2.2.2.2.2.2.2.2.2.2.2.1 h.2.2.2.2.2.2.2.2.2.2.2.2.1 h.2.2.2.2.2.2.2.2.2.2.2.2.2.1⟩, trivial⟩ k (fun h => list_valueFault.f_eq k h.1)
mutual
def list_valuesFault.l0 : Nat → (List T_api_Value) → Int → Int → Option (Int)
  | 0, _, _, _ => none
  | k + 1, x13, x14, x15 => (bif (ilt x15 x14) then ((lat x13 x15).bind fun y2 => ((list_valuesFault.f k (T_api_Value.mk y2.fKind y2.fBool y2.fInt y2.fText y2.fItems y2.fKeys)).bind fun y3 => (bif (!ieq y3 0) then (some y3) else (list_valuesFault.l0 k x13 x14 (wadd .i64 x15 1))))) else (some 0))
def list_valuesFault.f : Nat → T_api_Value → Option (Int)
  | 0, _ => none
  | k + 1, a0 => ((list_valueFault.f k (T_api_Value.mk a0.fKind a0.fBool a0.fInt a0.fText a0.fItems a0.fKeys)).bind fun y1 => (bif (!ieq y1 0) then (some y1) else (list_valuesFault.l0 k a0.fItems (llen a0.fItems) 0)))
end
def list_valuesFault.e (k : Nat) : Entry sg := entryOf sg [(.d (.st 1))] [(.int .i64)] (fun h => list_valuesFault.f k h.1)
def list_valuesFault.O (k : Nat) : Oracle sg := fun n => lkp n [(114, list_valuesFault.e k), (209, list_valueFault.e k)]
def list_valuesFault.a : Ann := (.n .z (.n .z (.n (.n .z (.lp 0 .z)) .z)))
def list_valuesFault.L (k : Nat) : Nat → St sg.U → Option (RT sg.U [(.int .i64)]) := labs [(0, labOf sg [(13, (.d (.sl (.st 1)))), (14, (.d (.int .i64))), (15, (.d (.int .i64)))] (fun h => list_valuesFault.l0 k h.1 h.2.1 h.2.2.1))]
theorem list_valuesFault.l0_eq (k : Nat) (x13 : (List T_api_Value)) (x14 : Int) (x15 : Int) : list_valuesFault.l0 (k + 1) x13 x14 x15 = runFrom (C := ctx) (list_valuesFault.O k) ⟨25, [], []⟩ (list_valuesFault.L k) (Tryz.f114.body.getD .skip) list_valuesFault.a 0 (endK ctx [(.int .i64)] [(.tmp 2)]) (encD [(13, (.d (.sl (.st 1)))), (14, (.d (.int .i64))), (15, (.d (.int .i64)))] (x13, x14, x15, ()) (startD sg.U ⟨25, [], []⟩ [(13, (.d (.sl (.st 1)))), (14, (.d (.int .i64))), (15, (.d (.int .i64)))])) := by
  rw [list_valuesFault.l0]
  kernel_rfl
theorem list_valuesFault.f_eq (k : Nat) (a0 : T_api_Value) : list_valuesFault.f (k + 1) a0 = codeK (C := ctx) (list_valuesFault.O k) ⟨25, [], []⟩ (list_valuesFault.L k) (Tryz.f114.body.getD .skip) list_valuesFault.a (endK ctx [(.int .i64)] [(.tmp 2)]) (slotsOf sg.U 0 [(.d (.st 1))] (a0, ()) (empty sg.U)) := by
  rw [list_valuesFault.f]
  kernel_rfl
def list_valuesFault.T : List (Lb sg (RT sg.U [(.int .i64)])) := [⟨0, [(13, (.d (.sl (.st 1)))), (14, (.d (.int .i64))), (15, (.d (.int .i64)))], fun k h => list_valuesFault.l0 k h.1 h.2.1 h.2.2.1⟩]
theorem list_valuesFault.ok : ∀ k : Nat, (list_valuesFault.e k).Sound Tryz.prog ctx 114 :=
  entry_rec base_ok mo (fn := Tryz.f114) (b := (Tryz.f114.body.getD .skip)) (pm := [(.d (.st 1))]) (rs := [(.int .i64)]) (an := list_valuesFault.a) (N := 25) (vars := [(.tmp 2)]) Tryz.func114 (by kernel_rfl) (by kernel_rfl) (by kernel_rfl) (by kernel_rfl) (by kernel_rfl) (by kernel_rfl) (O := list_valuesFault.O) list_valuesFault.T ⟨⟨by kernel_rfl, fun _ => by first | rfl | rw [list_valuesFault.l0], fun k h => list_valuesFault.l0_eq k h.1 h.2.1 h.2.2.1⟩, trivial⟩ (F := fun k h => list_valuesFault.f k h.1) (fun _ => by first | rfl | rw [list_valuesFault.f]) (fun k h => list_valuesFault.f_eq k h.1)
    (fun k own => by unfold list_valuesFault.O; exact oracle_of (P := Tryz.prog) (C := ctx) ⟨own, ⟨(list_valueFault.ok k), trivial⟩⟩)
def list_CheckItem.f (k : Nat) (a0 : T_api_Value) : Option (Int) := ((list_count.f k (T_api_Value.mk a0.fKind a0.fBool a0.fInt a0.fText a0.fItems a0.fKeys)).bind fun y1 => (bif (ilt 5000 y1) then (some 4) else ((list_levels.f k (T_api_Value.mk a0.fKind a0.fBool a0.fInt a0.fText a0.fItems a0.fKeys)).bind fun y2 => (bif (ilt 10 y2) then (some 13) else ((list_valuesFault.f k (T_api_Value.mk a0.fKind a0.fBool a0.fInt a0.fText a0.fItems a0.fKeys)).bind fun y3 => (some y3))))))
def list_CheckItem.O (k : Nat) : Oracle sg := fun n => lkp n [(112, list_count.e k), (113, list_levels.e k), (114, list_valuesFault.e k)]
def list_CheckItem.a : Ann := .z
def list_CheckItem.L (k : Nat) : Nat → St sg.U → Option (RT sg.U [(.int .i64)]) := labs []
theorem list_CheckItem.f_eq (k : Nat) (a0 : T_api_Value) : list_CheckItem.f k a0 = codeK (C := ctx) (list_CheckItem.O k) ⟨11, [], []⟩ (list_CheckItem.L k) (Tryz.f32.body.getD .skip) list_CheckItem.a (endK ctx [(.int .i64)] [(.tmp 2)]) (slotsOf sg.U 0 [(.d (.st 1))] (a0, ()) (empty sg.U)) := by
  unfold list_CheckItem.f
  kernel_rfl
def list_CheckItem.e (k : Nat) : Entry sg := entryOf sg [(.d (.st 1))] [(.int .i64)] (fun h => list_CheckItem.f k h.1)
def list_CheckItem.T : List (Lb sg (RT sg.U [(.int .i64)])) := []
theorem list_CheckItem.ok (k : Nat) : (list_CheckItem.e k).Sound Tryz.prog ctx 32 :=
  entry_ok base_ok mo (fn := Tryz.f32) (b := (Tryz.f32.body.getD .skip)) (pm := [(.d (.st 1))]) (rs := [(.int .i64)]) (an := list_CheckItem.a) (N := 11) (vars := [(.tmp 2)]) Tryz.func32 (by kernel_rfl) (by kernel_rfl) (by kernel_rfl) (by kernel_rfl) (by kernel_rfl) (by kernel_rfl) (O := list_CheckItem.O)
    (fun k => by unfold list_CheckItem.O; exact oracle_of (P := Tryz.prog) (C := ctx) ⟨(list_count.ok k), ⟨(list_levels.ok k), ⟨(list_valuesFault.ok k), trivial⟩⟩⟩) list_CheckItem.T trivial k (fun h => list_CheckItem.f_eq k h.1)
mutual
def list_at.l0 : Nat → Int → Bool → Int → ByteArray → (List T_api_Value) → (List ByteArray) → Int → Bool → Int → ByteArray → (List T_api_Value) → (List ByteArray) → (List T_list_step) → Int → Int → Option (T_api_Value)
  | 0, _, _, _, _, _, _, _, _, _, _, _, _, _, _, _ => none
  | k + 1, x2_0, x2_1, x2_2, x2_3, x2_4, x2_5, x4_0, x4_1, x4_2, x4_3, x4_4, x4_5, x10, x11, x12 => (bif (ilt x12 x11) then ((lat x10 x12).bind fun y1 => (bif (bif (!seq y1.fkey c_empty) then (ieq x2_0 6) else false) then (list_at.l1 k x2_0 x2_1 x2_2 x2_3 x2_4 x2_5 x4_0 x4_1 x4_2 x4_3 x4_4 x4_5 y1.fkey y1.fnumber 0 false 0 c_empty [] [] x10 x11 x12 x2_5 (llen x2_5) 0) else (bif (bif (bif (seq y1.fkey c_empty) then (ieq x2_0 5) else false) then (ilt y1.fnumber (llen x2_4)) else false) then ((lat x2_4 y1.fnumber).bind fun y2 => (list_at.l0 k y2.fKind y2.fBool y2.fInt y2.fText y2.fItems y2.fKeys x4_0 x4_1 x4_2 x4_3 x4_4 x4_5 x10 x11 (wadd .i64 x12 1))) else (list_at.l0 k 0 false 0 c_empty [] [] x4_0 x4_1 x4_2 x4_3 x4_4 x4_5 x10 x11 (wadd .i64 x12 1))))) else (some (T_api_Value.mk x2_0 x2_1 x2_2 x2_3 x2_4 x2_5)))
def list_at.l1 : Nat → Int → Bool → Int → ByteArray → (List T_api_Value) → (List ByteArray) → Int → Bool → Int → ByteArray → (List T_api_Value) → (List ByteArray) → ByteArray → Int → Int → Bool → Int → ByteArray → (List T_api_Value) → (List ByteArray) → (List T_list_step) → Int → Int → (List ByteArray) → Int → Int → Option (T_api_Value)
  | 0, _, _, _, _, _, _, _, _, _, _, _, _, _, _, _, _, _, _, _, _, _, _, _, _, _, _ => none
  | k + 1, x2_0, x2_1, x2_2, x2_3, x2_4, x2_5, x4_0, x4_1, x4_2, x4_3, x4_4, x4_5, x6_0, x6_1, x7_0, x7_1, x7_2, x7_3, x7_4, x7_5, x10, x11, x12, x27, x28, x29 => (bif (ilt x29 x28) then ((lat x27 x29).bind fun y3 => (bif (seq y3 x6_0) then ((lat x2_4 x29).bind fun y4 => (list_at.l1 k x2_0 x2_1 x2_2 x2_3 x2_4 x2_5 x4_0 x4_1 x4_2 x4_3 x4_4 x4_5 x6_0 x6_1 y4.fKind y4.fBool y4.fInt y4.fText y4.fItems y4.fKeys x10 x11 x12 x27 x28 (wadd .i64 x29 1))) else (list_at.l1 k x2_0 x2_1 x2_2 x2_3 x2_4 x2_5 x4_0 x4_1 x4_2 x4_3 x4_4 x4_5 x6_0 x6_1 x7_0 x7_1 x7_2 x7_3 x7_4 x7_5 x10 x11 x12 x27 x28 (wadd .i64 x29 1)))) else (list_at.l0 k x7_0 x7_1 x7_2 x7_3 x7_4 x7_5 x4_0 x4_1 x4_2 x4_3 x4_4 x4_5 x10 x11 (wadd .i64 x12 1)))
end
def list_at.f (k : Nat) (a0 : T_api_Value) (a1 : (List T_list_step)) : Option (T_api_Value) := (list_at.l0 k a0.fKind a0.fBool a0.fInt a0.fText a0.fItems a0.fKeys 0 false 0 c_empty [] [] a1 (llen a1) 0)
def list_at.O (k : Nat) : Oracle sg := fun n => lkp n []
def list_at.a : Ann := (.n .z (.n (.n .z (.lp 0 (.n .z (.n .z (.n (.n .z (.n .z (.n (.n .z (.n (.n .z (.lp 1 .z)) .z)) .z))) .z))))) .z))
def list_at.L (k : Nat) : Nat → St sg.U → Option (RT sg.U [(.st 1)]) := labs [(0, labOf sg [(2, (.box [.d (.int .i64), .d .bool, .d (.int .i64), .d .str, .d (.sl (.st 1)), .d (.sl .str)])), (4, (.box [.d (.int .i64), .d .bool, .d (.int .i64), .d .str, .row 25 (.st 1), .row 9 .str])), (10, (.d (.sl (.st 2)))), (11, (.d (.int .i64))), (12, (.d (.int .i64)))] (fun h => list_at.l0 k h.1 h.2.1 h.2.2.1 h.2.2.2.1 h.2.2.2.2.1 h.2.2.2.2.2.1 h.2.2.2.2.2.2.1 h.2.2.2.2.2.2.2.1 h.2.2.2.2.2.2.2.2.1 h.2.2.2.2.2.2.2.2.2.1 h.2.2.2.2.2.2.2.2.2.2.1 h.2.2.2.2.2.2.2.2.2.2.2.1 h.2.2.2.2.2.2.2.2.2.2.2.2.1 h.2.2.2.2.2.2.2.2.2.2.2.2.2.1 h.2.2.2.2.2.2.2.2.2.2.2.2.2.2.1)), (1, labOf sg [(2, (.box [.d (.int .i64), .d .bool, .d (.int .i64), .d .str, .d (.sl (.st 1)), .d (.sl .str)])), (4, (.box [.d (.int .i64), .d .bool, .d (.int .i64), .d .str, .row 25 (.st 1), .row 9 .str])), (6, (.box [.d .str, .d (.int .i64)])), (7, (.box [.d (.int .i64), .d .bool, .d (.int .i64), .d .str, .d (.sl (.st 1)), .d (.sl .str)])), (10, (.d (.sl (.st 2)))), (11, (.d (.int .i64))), (12, (.d (.int .i64))), (27, (.d (.sl .str))), (28, (.d (.int .i64))), (29, (.d (.int .i64)))] (fun h => list_at.l1 k h.1 h.2.1 h.2.2.1 h.2.2.2.1 h.2.2.2.2.1 h.2.2.2.2.2.1 h.2.2.2.2.2.2.1 h.2.2.2.2.2.2.2.1 h.2.2.2.2.2.2.2.2.1 h.2.2.2.2.2.2.2.2.2.1 h.2.2.2.2.2.2.2.2.2.2.1 h.2.2.2.2.2.2.2.2.2.2.2.1 h.2.2.2.2.2.2.2.2.2.2.2.2.1 h.2.2.2.2.2.2.2.2.2.2.2.2.2.1 h.2.2.2.2.2.2.2.2.2.2.2.2.2.2.1 h.2.2.2.2.2.2.2.2.2.2.2.2.2.2.2.1 h.2.2.2.2.2.2.2.2.2.2.2.2.2.2.2.2.1 h.2.2.2.2.2.2.2.2.2.2.2.2.2.2.2.2.2.1 h.2.2.2.2.2.2.2.2.2.2.2.2.2.2.2.2.2.2.1 h.2.2.2.2.2.2.2.2.2.2.2.2.2.2.2.2.2.2.2.1 h.2.2.2.2.2.2.2.2.2.2.2.2.2.2.2.2.2.2.2.2.1 h.2.2.2.2.2.2.2.2.2.2.2.2.2.2.2.2.2.2.2.2.2.1 h.2.2.2.2.2.2.2.2.2.2.2.2.2.2.2.2.2.2.2.2.2.2.1 h.2.2.2.2.2.2.2.2.2.2.2.2.2.2.2.2.2.2.2.2.2.2.2.1 h.2.2.2.2.2.2.2.2.2.2.2.2.2.2.2.2.2.2.2.2.2.2.2.2.1 h.2.2.2.2.2.2.2.2.2.2.2.2.2.2.2.2.2.2.2.2.2.2.2.2.2.1))]
theorem list_at.l0_eq (k : Nat) (x2_0 : Int) (x2_1 : Bool) (x2_2 : Int) (x2_3 : ByteArray) (x2_4 : (List T_api_Value)) (x2_5 : (List ByteArray)) (x4_0 : Int) (x4_1 : Bool) (x4_2 : Int) (x4_3 : ByteArray) (x4_4 : (List T_api_Value)) (x4_5 : (List ByteArray)) (x10 : (List T_list_step)) (x11 : Int) (x12 : Int) : list_at.l0 (k + 1) x2_0 x2_1 x2_2 x2_3 x2_4 x2_5 x4_0 x4_1 x4_2 x4_3 x4_4 x4_5 x10 x11 x12 = runFrom (C := ctx) (list_at.O k) ⟨70, [], []⟩ (list_at.L k) (Tryz.f116.body.getD .skip) list_at.a 0 (endK ctx [(.st 1)] [(.cell 4 25)]) (encD [(2, (.box [.d (.int .i64), .d .bool, .d (.int .i64), .d .str, .d (.sl (.st 1)), .d (.sl .str)])), (4, (.box [.d (.int .i64), .d .bool, .d (.int .i64), .d .str, .row 25 (.st 1), .row 9 .str])), (10, (.d (.sl (.st 2)))), (11, (.d (.int .i64))), (12, (.d (.int .i64)))] (x2_0, x2_1, x2_2, x2_3, x2_4, x2_5, x4_0, x4_1, x4_2, x4_3, x4_4, x4_5, x10, x11, x12, ()) (startD sg.U ⟨70, [], []⟩ [(2, (.box [.d (.int .i64), .d .bool, .d (.int .i64), .d .str, .d (.sl (.st 1)), .d (.sl .str)])), (4, (.box [.d (.int .i64), .d .bool, .d (.int .i64), .d .str, .row 25 (.st 1), .row 9 .str])), (10, (.d (.sl (.st 2)))), (11, (.d (.int .i64))), (12, (.d (.int .i64)))])) := by
  rw [list_at.l0]
  kernel_rfl
theorem list_at.l1_eq (k : Nat) (x2_0 : Int) (x2_1 : Bool) (x2_2 : Int) (x2_3 : ByteArray) (x2_4 : (List T_api_Value)) (x2_5 : (List ByteArray)) (x4_0 : Int) (x4_1 : Bool) (x4_2 : Int) (x4_3 : ByteArray) (x4_4 : (List T_api_Value)) (x4_5 : (List ByteArray)) (x6_0 : ByteArray) (x6_1 : Int) (x7_0 : Int) (x7_1 : Bool) (x7_2 : Int) (x7_3 : ByteArray) (x7_4 : (List T_api_Value)) (x7_5 : (List ByteArray)) (x10 : (List T_list_step)) (x11 : Int) (x12 : Int) (x27 : (List ByteArray)) (x28 : Int) (x29 : Int) : list_at.l1 (k + 1) x2_0 x2_1 x2_2 x2_3 x2_4 x2_5 x4_0 x4_1 x4_2 x4_3 x4_4 x4_5 x6_0 x6_1 x7_0 x7_1 x7_2 x7_3 x7_4 x7_5 x10 x11 x12 x27 x28 x29 = runFrom (C := ctx) (list_at.O k) ⟨70, [], []⟩ (list_at.L k) (Tryz.f116.body.getD .skip) list_at.a 1 (endK ctx [(.st 1)] [(.cell 4 25)]) (encD [(2, (.box [.d (.int .i64), .d .bool, .d (.int .i64), .d .str, .d (.sl (.st 1)), .d (.sl .str)])), (4, (.box [.d (.int .i64), .d .bool, .d (.int .i64), .d .str, .row 25 (.st 1), .row 9 .str])), (6, (.box [.d .str, .d (.int .i64)])), (7, (.box [.d (.int .i64), .d .bool, .d (.int .i64), .d .str, .d (.sl (.st 1)), .d (.sl .str)])), (10, (.d (.sl (.st 2)))), (11, (.d (.int .i64))), (12, (.d (.int .i64))), (27, (.d (.sl .str))), (28, (.d (.int .i64))), (29, (.d (.int .i64)))] (x2_0, x2_1, x2_2, x2_3, x2_4, x2_5, x4_0, x4_1, x4_2, x4_3, x4_4, x4_5, x6_0, x6_1, x7_0, x7_1, x7_2, x7_3, x7_4, x7_5, x10, x11, x12, x27, x28, x29, ()) (startD sg.U ⟨70, [], []⟩ [(2, (.box [.d (.int .i64), .d .bool, .d (.int .i64), .d .str, .d (.sl (.st 1)), .d (.sl .str)])), (4, (.box [.d (.int .i64), .d .bool, .d (.int .i64), .d .str, .row 25 (.st 1), .row 9 .str])), (6, (.box [.d .str, .d (.int .i64)])), (7, (.box [.d (.int .i64), .d .bool, .d (.int .i64), .d .str, .d (.sl (.st 1)), .d (.sl .str)])), (10, (.d (.sl (.st 2)))), (11, (.d (.int .i64))), (12, (.d (.int .i64))), (27, (.d (.sl .str))), (28, (.d (.int .i64))), (29, (.d (.int .i64)))])) := by
  rw [list_at.l1]
  kernel_rfl
theorem list_at.f_eq (k : Nat) (a0 : T_api_Value) (a1 : (List T_list_step)) : list_at.f k a0 a1 = codeK (C := ctx) (list_at.O k) ⟨70, [], []⟩ (list_at.L k) (Tryz.f116.body.getD .skip) list_at.a (endK ctx [(.st 1)] [(.cell 4 25)]) (slotsOf sg.U 0 [(.d (.st 1)), (.d (.sl (.st 2)))] (a0, a1, ()) (empty sg.U)) := by
  unfold list_at.f
  kernel_rfl
def list_at.e (k : Nat) : Entry sg := entryOf sg [(.d (.st 1)), (.d (.sl (.st 2)))] [(.st 1)] (fun h => list_at.f k h.1 h.2.1)
def list_at.T : List (Lb sg (RT sg.U [(.st 1)])) := [⟨0, [(2, (.box [.d (.int .i64), .d .bool, .d (.int .i64), .d .str, .d (.sl (.st 1)), .d (.sl .str)])), (4, (.box [.d (.int .i64), .d .bool, .d (.int .i64), .d .str, .row 25 (.st 1), .row 9 .str])), (10, (.d (.sl (.st 2)))), (11, (.d (.int .i64))), (12, (.d (.int .i64)))], fun k h => list_at.l0 k h.1 h.2.1 h.2.2.1 h.2.2.2.1 h.2.2.2.2.1 h.2.2.2.2.2.1 h.2.2.2.2.2.2.1 h.2.2.2.2.2.2.2.1 h.2.2.2.2.2.2.2.2.1 h.2.2.2.2.2.2.2.2.2.1 h.2.2.2.2.2.2.2.2.2.2.1 h.2.2.2.2.2.2.2.2.2.2.2.1 h.2.2.2.2.2.2.2.2.2.2.2.2.1 h.2.2.2.2.2.2.2.2.2.2.2.2.2.1 h.2.2.2.2.2.2.2.2.2.2.2.2.2.2.1⟩, ⟨1, [(2, (.box [.d (.int .i64), .d .bool, .d (.int .i64), .d .str, .d (.sl (.st 1)), .d (.sl .str)])), (4, (.box [.d (.int .i64), .d .bool, .d (.int .i64), .d .str, .row 25 (.st 1), .row 9 .str])), (6, (.box [.d .str, .d (.int .i64)])), (7, (.box [.d (.int .i64), .d .bool, .d (.int .i64), .d .str, .d (.sl (.st 1)), .d (.sl .str)])), (10, (.d (.sl (.st 2)))), (11, (.d (.int .i64))), (12, (.d (.int .i64))), (27, (.d (.sl .str))), (28, (.d (.int .i64))), (29, (.d (.int .i64)))], fun k h => list_at.l1 k h.1 h.2.1 h.2.2.1 h.2.2.2.1 h.2.2.2.2.1 h.2.2.2.2.2.1 h.2.2.2.2.2.2.1 h.2.2.2.2.2.2.2.1 h.2.2.2.2.2.2.2.2.1 h.2.2.2.2.2.2.2.2.2.1 h.2.2.2.2.2.2.2.2.2.2.1 h.2.2.2.2.2.2.2.2.2.2.2.1 h.2.2.2.2.2.2.2.2.2.2.2.2.1 h.2.2.2.2.2.2.2.2.2.2.2.2.2.1 h.2.2.2.2.2.2.2.2.2.2.2.2.2.2.1 h.2.2.2.2.2.2.2.2.2.2.2.2.2.2.2.1 h.2.2.2.2.2.2.2.2.2.2.2.2.2.2.2.2.1 h.2.2.2.2.2.2.2.2.2.2.2.2.2.2.2.2.2.1 h.2.2.2.2.2.2.2.2.2.2.2.2.2.2.2.2.2.2.1 h.2.2.2.2.2.2.2.2.2.2.2.2.2.2.2.2.2.2.2.1 h.2.2.2.2.2.2.2.2.2.2.2.2.2.2.2.2.2.2.2.2.1 h.2.2.2.2.2.2.2.2.2.2.2.2.2.2.2.2.2.2.2.2.2.1 h.2.2.2.2.2.2.2.2.2.2.2.2.2.2.2.2.2.2.2.2.2.2.1 h.2.2.2.2.2.2.2.2.2.2.2.2.2.2.2.2.2.2.2.2.2.2.2.1 h.2.2.2.2.2.2.2.2.2.2.2.2.2.2.2.2.2.2.2.2.2.2.2.2.1 h.2.2.2.2.2.2.2.2.2.2.2.2.2.2.2.2.2.2.2.2.2.2.2.2.2.1⟩]
theorem list_at.ok (k : Nat) : (list_at.e k).Sound Tryz.prog ctx 116 :=
  entry_ok base_ok mo (fn := Tryz.f116) (b := (Tryz.f116.body.getD .skip)) (pm := [(.d (.st 1)), (.d (.sl (.st 2)))]) (rs := [(.st 1)]) (an := list_at.a) (N := 70) (vars := [(.cell 4 25)]) Tryz.func116 (by kernel_rfl) (by kernel_rfl) (by kernel_rfl) (by kernel_rfl) (by kernel_rfl) (by kernel_rfl) (O := list_at.O)
    (fun k => by unfold list_at.O; exact oracle_of (P := Tryz.prog) (C := ctx) trivial) list_at.T ⟨⟨by kernel_rfl, fun _ => by first | rfl | rw [list_at.l0], fun k h => list_at.l0_eq k h.1 h.2.1 h.2.2.1 h.2.2.2.1 h.2.2.2.2.1 h.2.2.2.2.2.1 h.2.2.2.2.2.2.1 h.2.2.2.2.2.2.2.1 h.2.2.2.2.2.2.2.2.1 h.2.2.2.2.2.2.2.2.2.1 h.2.2.2.2.2.2.2.2.2.2.1 h.2.2.2.2.2.2.2.2.2.2.2.1 h.2.2.2.2.2.2.2.2.2.2.2.2.1 h.2.2.2.2.2.2.2.2.2.2.2.2.2.1 h.2.2.2.2.2.2.2.2.2.2.2.2.2.2.1⟩, ⟨⟨by kernel_rfl, fun _ => by first | rfl | rw [list_at.l1], fun k h => list_at.l1_eq k h.1 h.2.1 h.2.2.1 h.2.2.2.1 h.2.2.2.2.1 h.2.2.2.2.2.1 h.2.2.2.2.2.2.1 h.2.2.2.2.2.2.2.1 h.2.2.2.2.2.2.2.2.1 h.2.2.2.2.2.2.2.2.2.1 h.2.2.2.2.2.2.2.2.2.2.1 h.2.2.2.2.2.2.2.2.2.2.2.1 h.2.2.2.2.2.2.2.2.2.2.2.2.1 h.2.2.2.2.2.2.2.2.2.2.2.2.2.1 h.2.2.2.2.2.2.2.2.2.2.2.2.2.2.1 h.2.2.2.2.2.2.2.2.2.2.2.2.2.2.2.1 h.2.2.2.2.2.2.2.2.2.2.2.2.2.2.2.2.1 h.2.2.2.2.2.2.2.2.2.2.2.2.2.2.2.2.2.1 h.2.2.2.2.2.2.2.2.2.2.2.2.2.2.2.2.2.2.1 h.2.2.2.2.2.2.2.2.2.2.2.2.2.2.2.2.2.2.2.1 h.2.2.2.2.2.2.2.2.2.2.2.2.2.2.2.2.2.2.2.2.1 h.2.2.2.2.2.2.2.2.2.2.2.2.2.2.2.2.2.2.2.2.2.1 h.2.2.2.2.2.2.2.2.2.2.2.2.2.2.2.2.2.2.2.2.2.2.1 h.2.2.2.2.2.2.2.2.2.2.2.2.2.2.2.2.2.2.2.2.2.2.2.1 h.2.2.2.2.2.2.2.2.2.2.2.2.2.2.2.2.2.2.2.2.2.2.2.2.1 h.2.2.2.2.2.2.2.2.2.2.2.2.2.2.2.2.2.2.2.2.2.2.2.2.2.1⟩, trivial⟩⟩ k (fun h => list_at.f_eq k h.1 h.2.1)
def conf_sign.f (a0 : Int) (a1 : Int) : Option (Int) := (bif (ilt a0 a1) then (some (-1)) else (bif (ilt a1 a0) then (some 1) else (some 0)))
def conf_sign.O : Oracle sg := fun n => lkp n []
def conf_sign.a : Ann := .z
def conf_sign.L : Nat → St sg.U → Option (RT sg.U [(.int .i64)]) := labs []
theorem conf_sign.f_eq (a0 : Int) (a1 : Int) : conf_sign.f a0 a1 = codeK (C := ctx) (conf_sign.O) ⟨13, [], []⟩ (conf_sign.L) (Tryz.f134.body.getD .skip) conf_sign.a (endK ctx [(.int .i64)] [(.tmp 4)]) (slotsOf sg.U 0 [(.d (.int .i64)), (.d (.int .i64))] (a0, a1, ()) (empty sg.U)) := by
  unfold conf_sign.f
  kernel_rfl
def conf_sign.e : Entry sg := entryOf sg [(.d (.int .i64)), (.d (.int .i64))] [(.int .i64)] (fun h => conf_sign.f h.1 h.2.1)
def conf_sign.T : List (Lb sg (RT sg.U [(.int .i64)])) := []
theorem conf_sign.ok : (conf_sign.e).Sound Tryz.prog ctx 134 :=
  entry_ok base_ok mo (fn := Tryz.f134) (b := (Tryz.f134.body.getD .skip)) (pm := [(.d (.int .i64)), (.d (.int .i64))]) (rs := [(.int .i64)]) (an := conf_sign.a) (N := 13) (vars := [(.tmp 4)]) Tryz.func134 (by kernel_rfl) (by kernel_rfl) (by kernel_rfl) (by kernel_rfl) (by kernel_rfl) (by kernel_rfl) (O := fun _ => conf_sign.O)
    (fun _ => by unfold conf_sign.O; exact oracle_of (P := Tryz.prog) (C := ctx) trivial) conf_sign.T trivial 0 (fun h => conf_sign.f_eq h.1 h.2.1)
def conf_bit.f (a0 : Bool) : Option (Int) := (bif a0 then (some 1) else (some 0))
def conf_bit.O : Oracle sg := fun n => lkp n []
def conf_bit.a : Ann := .z
def conf_bit.L : Nat → St sg.U → Option (RT sg.U [(.int .i64)]) := labs []
theorem conf_bit.f_eq (a0 : Bool) : conf_bit.f a0 = codeK (C := ctx) (conf_bit.O) ⟨4, [], []⟩ (conf_bit.L) (Tryz.f135.body.getD .skip) conf_bit.a (endK ctx [(.int .i64)] [(.tmp 2)]) (slotsOf sg.U 0 [(.d .bool)] (a0, ()) (empty sg.U)) := by
  unfold conf_bit.f
  kernel_rfl
def conf_bit.e : Entry sg := entryOf sg [(.d .bool)] [(.int .i64)] (fun h => conf_bit.f h.1)
def conf_bit.T : List (Lb sg (RT sg.U [(.int .i64)])) := []
theorem conf_bit.ok : (conf_bit.e).Sound Tryz.prog ctx 135 :=
  entry_ok base_ok mo (fn := Tryz.f135) (b := (Tryz.f135.body.getD .skip)) (pm := [(.d .bool)]) (rs := [(.int .i64)]) (an := conf_bit.a) (N := 4) (vars := [(.tmp 2)]) Tryz.func135 (by kernel_rfl) (by kernel_rfl) (by kernel_rfl) (by kernel_rfl) (by kernel_rfl) (by kernel_rfl) (O := fun _ => conf_bit.O)
    (fun _ => by unfold conf_bit.O; exact oracle_of (P := Tryz.prog) (C := ctx) trivial) conf_bit.T trivial 0 (fun h => conf_bit.f_eq h.1)
def strings_Compare.f (a0 : ByteArray) (a1 : ByteArray) : Option (Int) := some (Lib.compareBytes a0.data.toList a1.data.toList)
def strings_Compare.e : Entry sg := entryOf sg [(.d .str), (.d .str)] [(.int .i64)] (fun h => strings_Compare.f h.1 h.2.1)
theorem strings_Compare.ok : (strings_Compare.e).Sound Tryz.prog ctx 49 :=
  entry_extern (C := ctx) sg_ok Tryz.func49 (by kernel_rfl) (by kernel_rfl) (by kernel_rfl) (by kernel_rfl) (fun hh x w hx hG => by
    obtain rfl := Option.some.inj hx
    refine (Tryz.strings_Compare hh.1 hh.2.1 w).mono ?_
    rintro e w' ⟨rfl, hb⟩
    exact ⟨rfl, by first | exact hb ▸ Grow.refl _ | exact Grow.of_below hb | (obtain ⟨k, os, rfl⟩ := hb; exact Grow.of_below (Lib.below_grow _ w (Nat.le_refl _) k os))⟩)
mutual
def conf_Compare.l0 : Nat → Int → Bool → Int → ByteArray → (List T_api_Value) → (List ByteArray) → Int → Bool → Int → ByteArray → (List T_api_Value) → (List ByteArray) → (List Int) → Int → Int → Option (Int)
  | 0, _, _, _, _, _, _, _, _, _, _, _, _, _, _, _ => none
  | k + 1, x2_0, x2_1, x2_2, x2_3, x2_4, x2_5, x3_0, x3_1, x3_2, x3_3, x3_4, x3_5, x34, x35, x36 => (bif (ilt x36 x35) then ((lat x34 x36).bind fun y7 => ((lat x34 x36).bind fun y8 => (bif (!ieq y8 0) then (some y8) else (conf_Compare.l0 k x2_0 x2_1 x2_2 x2_3 x2_4 x2_5 x3_0 x3_1 x3_2 x3_3 x3_4 x3_5 x34 x35 (wadd .i64 x36 1))))) else (conf_Compare.l1 k x2_0 x2_1 x2_2 x2_3 x2_4 x2_5 x3_0 x3_1 x3_2 x3_3 x3_4 x3_5 0))
def conf_Compare.l1 : Nat → Int → Bool → Int → ByteArray → (List T_api_Value) → (List ByteArray) → Int → Bool → Int → ByteArray → (List T_api_Value) → (List ByteArray) → Int → Option (Int)
  | 0, _, _, _, _, _, _, _, _, _, _, _, _, _ => none
  | k + 1, x2_0, x2_1, x2_2, x2_3, x2_4, x2_5, x3_0, x3_1, x3_2, x3_3, x3_4, x3_5, x7 => (bif (bif (ilt x7 (llen x2_5)) then (ilt x7 (llen x3_5)) else false) then ((lat x2_5 x7).bind fun y9 => ((lat x3_5 x7).bind fun y10 => ((strings_Compare.f y9 y10).bind fun y11 => (bif (!ieq y11 0) then (some y11) else (conf_Compare.l1 k x2_0 x2_1 x2_2 x2_3 x2_4 x2_5 x3_0 x3_1 x3_2 x3_3 x3_4 x3_5 (wadd .i64 x7 1)))))) else ((conf_sign.f (llen x2_5) (llen x3_5)).bind fun y12 => (bif (!ieq y12 0) then (some y12) else (conf_Compare.l2 k x2_0 x2_1 x2_2 x2_3 x2_4 x2_5 x3_0 x3_1 x3_2 x3_3 x3_4 x3_5 0))))
def conf_Compare.l2 : Nat → Int → Bool → Int → ByteArray → (List T_api_Value) → (List ByteArray) → Int → Bool → Int → ByteArray → (List T_api_Value) → (List ByteArray) → Int → Option (Int)
  | 0, _, _, _, _, _, _, _, _, _, _, _, _, _ => none
  | k + 1, x2_0, x2_1, x2_2, x2_3, x2_4, x2_5, x3_0, x3_1, x3_2, x3_3, x3_4, x3_5, x10 => (bif (bif (ilt x10 (llen x2_4)) then (ilt x10 (llen x3_4)) else false) then ((lat x2_4 x10).bind fun y13 => ((lat x3_4 x10).bind fun y14 => ((conf_Compare.f k y13 y14).bind fun y15 => (bif (!ieq y15 0) then (some y15) else (conf_Compare.l2 k x2_0 x2_1 x2_2 x2_3 x2_4 x2_5 x3_0 x3_1 x3_2 x3_3 x3_4 x3_5 (wadd .i64 x10 1)))))) else ((conf_sign.f (llen x2_4) (llen x3_4)).bind fun y16 => (some y16)))
def conf_Compare.f : Nat → T_api_Value → T_api_Value → Option (Int)
  | 0, _, _ => none
  | k + 1, a0, a1 => ((conf_sign.f a0.fKind a1.fKind).bind fun y1 => ((conf_bit.f a0.fBool).bind fun y2 => ((conf_bit.f a1.fBool).bind fun y3 => ((conf_sign.f y2 y3).bind fun y4 => ((conf_sign.f a0.fInt a1.fInt).bind fun y5 => ((strings_Compare.f a0.fText a1.fText).bind fun y6 => (conf_Compare.l0 k a0.fKind a0.fBool a0.fInt a0.fText a0.fItems a0.fKeys a1.fKind a1.fBool a1.fInt a1.fText a1.fItems a1.fKeys [y1, y4, y5, y6] (llen [y1, y4, y5, y6]) 0)))))))
end
def conf_Compare.e (k : Nat) : Entry sg := entryOf sg [(.d (.st 1)), (.d (.st 1))] [(.int .i64)] (fun h => conf_Compare.f k h.1 h.2.1)
def conf_Compare.O (k : Nat) : Oracle sg := fun n => lkp n [(44, conf_Compare.e k), (49, strings_Compare.e), (134, conf_sign.e), (135, conf_bit.e)]
def conf_Compare.a : Ann := (.n .z (.n (.n .z (.lp 0 .z)) (.n (.n .z (.lp 1 .z)) (.n .z (.n (.n .z (.lp 2 .z)) .z)))))
def conf_Compare.L (k : Nat) : Nat → St sg.U → Option (RT sg.U [(.int .i64)]) := labs [(0, labOf sg [(2, (.box [.d (.int .i64), .d .bool, .d (.int .i64), .d .str, .d (.sl (.st 1)), .d (.sl .str)])), (3, (.box [.d (.int .i64), .d .bool, .d (.int .i64), .d .str, .d (.sl (.st 1)), .d (.sl .str)])), (34, (.row 3 (.int .i64))), (35, (.d (.int .i64))), (36, (.d (.int .i64)))] (fun h => conf_Compare.l0 k h.1 h.2.1 h.2.2.1 h.2.2.2.1 h.2.2.2.2.1 h.2.2.2.2.2.1 h.2.2.2.2.2.2.1 h.2.2.2.2.2.2.2.1 h.2.2.2.2.2.2.2.2.1 h.2.2.2.2.2.2.2.2.2.1 h.2.2.2.2.2.2.2.2.2.2.1 h.2.2.2.2.2.2.2.2.2.2.2.1 h.2.2.2.2.2.2.2.2.2.2.2.2.1 h.2.2.2.2.2.2.2.2.2.2.2.2.2.1 h.2.2.2.2.2.2.2.2.2.2.2.2.2.2.1)), (1, labOf sg [(2, (.box [.d (.int .i64), .d .bool, .d (.int .i64), .d .str, .d (.sl (.st 1)), .d (.sl .str)])), (3, (.box [.d (.int .i64), .d .bool, .d (.int .i64), .d .str, .d (.sl (.st 1)), .d (.sl .str)])), (7, (.d (.int .i64)))] (fun h => conf_Compare.l1 k h.1 h.2.1 h.2.2.1 h.2.2.2.1 h.2.2.2.2.1 h.2.2.2.2.2.1 h.2.2.2.2.2.2.1 h.2.2.2.2.2.2.2.1 h.2.2.2.2.2.2.2.2.1 h.2.2.2.2.2.2.2.2.2.1 h.2.2.2.2.2.2.2.2.2.2.1 h.2.2.2.2.2.2.2.2.2.2.2.1 h.2.2.2.2.2.2.2.2.2.2.2.2.1)), (2, labOf sg [(2, (.box [.d (.int .i64), .d .bool, .d (.int .i64), .d .str, .d (.sl (.st 1)), .d (.sl .str)])), (3, (.box [.d (.int .i64), .d .bool, .d (.int .i64), .d .str, .d (.sl (.st 1)), .d (.sl .str)])), (10, (.d (.int .i64)))] (fun h => conf_Compare.l2 k h.1 h.2.1 h.2.2.1 h.2.2.2.1 h.2.2.2.2.1 h.2.2.2.2.2.1 h.2.2.2.2.2.2.1 h.2.2.2.2.2.2.2.1 h.2.2.2.2.2.2.2.2.1 h.2.2.2.2.2.2.2.2.2.1 h.2.2.2.2.2.2.2.2.2.2.1 h.2.2.2.2.2.2.2.2.2.2.2.1 h.2.2.2.2.2.2.2.2.2.2.2.2.1))]
theorem conf_Compare.l0_eq (k : Nat) (x2_0 : Int) (x2_1 : Bool) (x2_2 : Int) (x2_3 : ByteArray) (x2_4 : (List T_api_Value)) (x2_5 : (List ByteArray)) (x3_0 : Int) (x3_1 : Bool) (x3_2 : Int) (x3_3 : ByteArray) (x3_4 : (List T_api_Value)) (x3_5 : (List ByteArray)) (x34 : (List Int)) (x35 : Int) (x36 : Int) : conf_Compare.l0 (k + 1) x2_0 x2_1 x2_2 x2_3 x2_4 x2_5 x3_0 x3_1 x3_2 x3_3 x3_4 x3_5 x34 x35 x36 = runFrom (C := ctx) (conf_Compare.O k) ⟨117, [], []⟩ (conf_Compare.L k) (Tryz.f44.body.getD .skip) conf_Compare.a 0 (endK ctx [(.int .i64)] [(.tmp 4)]) (encD [(2, (.box [.d (.int .i64), .d .bool, .d (.int .i64), .d .str, .d (.sl (.st 1)), .d (.sl .str)])), (3, (.box [.d (.int .i64), .d .bool, .d (.int .i64), .d .str, .d (.sl (.st 1)), .d (.sl .str)])), (34, (.row 3 (.int .i64))), (35, (.d (.int .i64))), (36, (.d (.int .i64)))] (x2_0, x2_1, x2_2, x2_3, x2_4, x2_5, x3_0, x3_1, x3_2, x3_3, x3_4, x3_5, x34, x35, x36, ()) (startD sg.U ⟨117, [], []⟩ [(2, (.box [.d (.int .i64), .d .bool, .d (.int .i64), .d .str, .d (.sl (.st 1)), .d (.sl .str)])), (3, (.box [.d (.int .i64), .d .bool, .d (.int .i64), .d .str, .d (.sl (.st 1)), .d (.sl .str)])), (34, (.row 3 (.int .i64))), (35, (.d (.int .i64))), (36, (.d (.int .i64)))])) := by
  rw [conf_Compare.l0]
  kernel_rfl
theorem conf_Compare.l1_eq (k : Nat) (x2_0 : Int) (x2_1 : Bool) (x2_2 : Int) (x2_3 : ByteArray) (x2_4 : (List T_api_Value)) (x2_5 : (List ByteArray)) (x3_0 : Int) (x3_1 : Bool) (x3_2 : Int) (x3_3 : ByteArray) (x3_4 : (List T_api_Value)) (x3_5 : (List ByteArray)) (x7 : Int) : conf_Compare.l1 (k + 1) x2_0 x2_1 x2_2 x2_3 x2_4 x2_5 x3_0 x3_1 x3_2 x3_3 x3_4 x3_5 x7 = runFrom (C := ctx) (conf_Compare.O k) ⟨117, [], []⟩ (conf_Compare.L k) (Tryz.f44.body.getD .skip) conf_Compare.a 1 (endK ctx [(.int .i64)] [(.tmp 4)]) (encD [(2, (.box [.d (.int .i64), .d .bool, .d (.int .i64), .d .str, .d (.sl (.st 1)), .d (.sl .str)])), (3, (.box [.d (.int .i64), .d .bool, .d (.int .i64), .d .str, .d (.sl (.st 1)), .d (.sl .str)])), (7, (.d (.int .i64)))] (x2_0, x2_1, x2_2, x2_3, x2_4, x2_5, x3_0, x3_1, x3_2, x3_3, x3_4, x3_5, x7, ()) (startD sg.U ⟨117, [], []⟩ [(2, (.box [.d (.int .i64), .d .bool, .d (.int .i64), .d .str, .d (.sl (.st 1)), .d (.sl .str)])), (3, (.box [.d (.int .i64), .d .bool, .d (.int .i64), .d .str, .d (.sl (.st 1)), .d (.sl .str)])), (7, (.d (.int .i64)))])) := by
  rw [conf_Compare.l1]
  kernel_rfl
theorem conf_Compare.l2_eq (k : Nat) (x2_0 : Int) (x2_1 : Bool) (x2_2 : Int) (x2_3 : ByteArray) (x2_4 : (List T_api_Value)) (x2_5 : (List ByteArray)) (x3_0 : Int) (x3_1 : Bool) (x3_2 : Int) (x3_3 : ByteArray) (x3_4 : (List T_api_Value)) (x3_5 : (List ByteArray)) (x10 : Int) : conf_Compare.l2 (k + 1) x2_0 x2_1 x2_2 x2_3 x2_4 x2_5 x3_0 x3_1 x3_2 x3_3 x3_4 x3_5 x10 = runFrom (C := ctx) (conf_Compare.O k) ⟨117, [], []⟩ (conf_Compare.L k) (Tryz.f44.body.getD .skip) conf_Compare.a 2 (endK ctx [(.int .i64)] [(.tmp 4)]) (encD [(2, (.box [.d (.int .i64), .d .bool, .d (.int .i64), .d .str, .d (.sl (.st 1)), .d (.sl .str)])), (3, (.box [.d (.int .i64), .d .bool, .d (.int .i64), .d .str, .d (.sl (.st 1)), .d (.sl .str)])), (10, (.d (.int .i64)))] (x2_0, x2_1, x2_2, x2_3, x2_4, x2_5, x3_0, x3_1, x3_2, x3_3, x3_4, x3_5, x10, ()) (startD sg.U ⟨117, [], []⟩ [(2, (.box [.d (.int .i64), .d .bool, .d (.int .i64), .d .str, .d (.sl (.st 1)), .d (.sl .str)])), (3, (.box [.d (.int .i64), .d .bool, .d (.int .i64), .d .str, .d (.sl (.st 1)), .d (.sl .str)])), (10, (.d (.int .i64)))])) := by
  rw [conf_Compare.l2]
  kernel_rfl
theorem conf_Compare.f_eq (k : Nat) (a0 : T_api_Value) (a1 : T_api_Value) : conf_Compare.f (k + 1) a0 a1 = codeK (C := ctx) (conf_Compare.O k) ⟨117, [], []⟩ (conf_Compare.L k) (Tryz.f44.body.getD .skip) conf_Compare.a (endK ctx [(.int .i64)] [(.tmp 4)]) (slotsOf sg.U 0 [(.d (.st 1)), (.d (.st 1))] (a0, a1, ()) (empty sg.U)) := by
  rw [conf_Compare.f]
  kernel_rfl
def conf_Compare.T : List (Lb sg (RT sg.U [(.int .i64)])) := [⟨0, [(2, (.box [.d (.int .i64), .d .bool, .d (.int .i64), .d .str, .d (.sl (.st 1)), .d (.sl .str)])), (3, (.box [.d (.int .i64), .d .bool, .d (.int .i64), .d .str, .d (.sl (.st 1)), .d (.sl .str)])), (34, (.row 3 (.int .i64))), (35, (.d (.int .i64))), (36, (.d (.int .i64)))], fun k h => conf_Compare.l0 k h.1 h.2.1 h.2.2.1 h.2.2.2.1 h.2.2.2.2.1 h.2.2.2.2.2.1 h.2.2.2.2.2.2.1 h.2.2.2.2.2.2.2.1 h.2.2.2.2.2.2.2.2.1 h.2.2.2.2.2.2.2.2.2.1 h.2.2.2.2.2.2.2.2.2.2.1 h.2.2.2.2.2.2.2.2.2.2.2.1 h.2.2.2.2.2.2.2.2.2.2.2.2.1 h.2.2.2.2.2.2.2.2.2.2.2.2.2.1 h.2.2.2.2.2.2.2.2.2.2.2.2.2.2.1⟩, ⟨1, [(2, (.box [.d (.int .i64), .d .bool, .d (.int .i64), .d .str, .d (.sl (.st 1)), .d (.sl .str)])), (3, (.box [.d (.int .i64), .d .bool, .d (.int .i64), .d .str, .d (.sl (.st 1)), .d (.sl .str)])), (7, (.d (.int .i64)))], fun k h => conf_Compare.l1 k h.1 h.2.1 h.2.2.1 h.2.2.2.1 h.2.2.2.2.1 h.2.2.2.2.2.1 h.2.2.2.2.2.2.1 h.2.2.2.2.2.2.2.1 h.2.2.2.2.2.2.2.2.1 h.2.2.2.2.2.2.2.2.2.1 h.2.2.2.2.2.2.2.2.2.2.1 h.2.2.2.2.2.2.2.2.2.2.2.1 h.2.2.2.2.2.2.2.2.2.2.2.2.1⟩, ⟨2, [(2, (.box [.d (.int .i64), .d .bool, .d (.int .i64), .d .str, .d (.sl (.st 1)), .d (.sl .str)])), (3, (.box [.d (.int .i64), .d .bool, .d (.int .i64), .d .str, .d (.sl (.st 1)), .d (.sl .str)])), (10, (.d (.int .i64)))], fun k h => conf_Compare.l2 k h.1 h.2.1 h.2.2.1 h.2.2.2.1 h.2.2.2.2.1 h.2.2.2.2.2.1 h.2.2.2.2.2.2.1 h.2.2.2.2.2.2.2.1 h.2.2.2.2.2.2.2.2.1 h.2.2.2.2.2.2.2.2.2.1 h.2.2.2.2.2.2.2.2.2.2.1 h.2.2.2.2.2.2.2.2.2.2.2.1 h.2.2.2.2.2.2.2.2.2.2.2.2.1⟩]
theorem conf_Compare.ok : ∀ k : Nat, (conf_Compare.e k).Sound Tryz.prog ctx 44 :=
  entry_rec base_ok mo (fn := Tryz.f44) (b := (Tryz.f44.body.getD .skip)) (pm := [(.d (.st 1)), (.d (.st 1))]) (rs := [(.int .i64)]) (an := conf_Compare.a) (N := 117) (vars := [(.tmp 4)]) Tryz.func44 (by kernel_rfl) (by kernel_rfl) (by kernel_rfl) (by kernel_rfl) (by kernel_rfl) (by kernel_rfl) (O := conf_Compare.O) conf_Compare.T ⟨⟨by kernel_rfl, fun _ => by first | rfl | rw [conf_Compare.l0], fun k h => conf_Compare.l0_eq k h.1 h.2.1 h.2.2.1 h.2.2.2.1 h.2.2.2.2.1 h.2.2.2.2.2.1 h.2.2.2.2.2.2.1 h.2.2.2.2.2.2.2.1 h.2.2.2.2.2.2.2.2.1 h.2.2.2.2.2.2.2.2.2.1 h.2.2.2.2.2.2.2.2.2.2.1 h.2.2.2.2.2.2.2.2.2.2.2.1 h.2.2.2.2.2.2.2.2.2.2.2.2.1 h.2.2.2.2.2.2.2.2.2.2.2.2.2.1 h.2.2.2.2.2.2.2.2.2.2.2.2.2.2.1⟩, ⟨⟨by kernel_rfl, fun _ => by first | rfl | rw [conf_Compare.l1], fun k h => conf_Compare.l1_eq k h.1 h.2.1 h.2.2.1 h.2.2.2.1 h.2.2.2.2.1 h.2.2.2.2.2.1 h.2.2.2.2.2.2.1 h.2.2.2.2.2.2.2.1 h.2.2.2.2.2.2.2.2.1 h.2.2.2.2.2.2.2.2.2.1 h.2.2.2.2.2.2.2.2.2.2.1 h.2.2.2.2.2.2.2.2.2.2.2.1 h.2.2.2.2.2.2.2.2.2.2.2.2.1⟩, ⟨⟨by kernel_rfl, fun _ => by first | rfl | rw [conf_Compare.l2], fun k h => conf_Compare.l2_eq k h.1 h.2.1 h.2.2.1 h.2.2.2.1 h.2.2.2.2.1 h.2.2.2.2.2.1 h.2.2.2.2.2.2.1 h.2.2.2.2.2.2.2.1 h.2.2.2.2.2.2.2.2.1 h.2.2.2.2.2.2.2.2.2.1 h.2.2.2.2.2.2.2.2.2.2.1 h.2.2.2.2.2.2.2.2.2.2.2.1 h.2.2.2.2.2.2.2.2.2.2.2.2.1⟩, trivial⟩⟩⟩ (F := fun k h => conf_Compare.f k h.1 h.2.1) (fun _ => by first | rfl | rw [conf_Compare.f]) (fun k h => conf_Compare.f_eq k h.1 h.2.1)
    (fun k own => by unfold conf_Compare.O; exact oracle_of (P := Tryz.prog) (C := ctx) ⟨own, ⟨(strings_Compare.ok), ⟨(conf_sign.ok), ⟨(conf_bit.ok), trivial⟩⟩⟩⟩)
mutual
def list_there.l0 : Nat → Int → Bool → Int → ByteArray → (List T_api_Value) → (List ByteArray) → Int → Bool → Option (Bool)
  | 0, _, _, _, _, _, _, _, _ => none
  | k + 1, x1_0, x1_1, x1_2, x1_3, x1_4, x1_5, x4, x16 => (bif x16 then (some (!seq x1_3 c_empty)) else (bif (ieq x4 5) then (list_there.l1 k x1_0 x1_1 x1_2 x1_3 x1_4 x1_5 true) else (list_there.l1 k x1_0 x1_1 x1_2 x1_3 x1_4 x1_5 (ieq x4 6))))
def list_there.l1 : Nat → Int → Bool → Int → ByteArray → (List T_api_Value) → (List ByteArray) → Bool → Option (Bool)
  | 0, _, _, _, _, _, _, _ => none
  | k + 1, x1_0, x1_1, x1_2, x1_3, x1_4, x1_5, x22 => (bif x22 then (some (ilt 0 (llen x1_4))) else (some true))
end
def list_there.f (k : Nat) (a0 : T_api_Value) : Option (Bool) := (bif (ieq a0.fKind 0) then (some false) else (bif (ieq a0.fKind 1) then (some a0.fBool) else (bif (ieq a0.fKind 2) then (some (!ieq a0.fInt 0)) else (bif (ieq a0.fKind 3) then (list_there.l0 k a0.fKind a0.fBool a0.fInt a0.fText a0.fItems a0.fKeys a0.fKind true) else (list_there.l0 k a0.fKind a0.fBool a0.fInt a0.fText a0.fItems a0.fKeys a0.fKind (ieq a0.fKind 7))))))
def list_there.O (k : Nat) : Oracle sg := fun n => lkp n []
def list_there.a : Ann := (.n .z (.n (.n .z (.n .z (.n .z (.n .z (.n .z (.n .z (.n .z (.n .z (.lab 0 (.n .z (.n .z (.lab 1 .z)))))))))))) .z))
def list_there.L (k : Nat) : Nat → St sg.U → Option (RT sg.U [.bool]) := labs [(0, labOf sg [(1, (.box [.d (.int .i64), .d .bool, .d (.int .i64), .d .str, .d (.sl (.st 1)), .d (.sl .str)])), (4, (.d (.int .i64))), (16, (.d .bool))] (fun h => list_there.l0 k h.1 h.2.1 h.2.2.1 h.2.2.2.1 h.2.2.2.2.1 h.2.2.2.2.2.1 h.2.2.2.2.2.2.1 h.2.2.2.2.2.2.2.1)), (1, labOf sg [(1, (.box [.d (.int .i64), .d .bool, .d (.int .i64), .d .str, .d (.sl (.st 1)), .d (.sl .str)])), (22, (.d .bool))] (fun h => list_there.l1 k h.1 h.2.1 h.2.2.1 h.2.2.2.1 h.2.2.2.2.1 h.2.2.2.2.2.1 h.2.2.2.2.2.2.1))]
theorem list_there.l0_eq (k : Nat) (x1_0 : Int) (x1_1 : Bool) (x1_2 : Int) (x1_3 : ByteArray) (x1_4 : (List T_api_Value)) (x1_5 : (List ByteArray)) (x4 : Int) (x16 : Bool) : list_there.l0 (k + 1) x1_0 x1_1 x1_2 x1_3 x1_4 x1_5 x4 x16 = runFrom (C := ctx) (list_there.O k) ⟨29, [], []⟩ (list_there.L k) (Tryz.f117.body.getD .skip) list_there.a 0 (endK ctx [.bool] [(.tmp 2)]) (encD [(1, (.box [.d (.int .i64), .d .bool, .d (.int .i64), .d .str, .d (.sl (.st 1)), .d (.sl .str)])), (4, (.d (.int .i64))), (16, (.d .bool))] (x1_0, x1_1, x1_2, x1_3, x1_4, x1_5, x4, x16, ()) (startD sg.U ⟨29, [], []⟩ [(1, (.box [.d (.int .i64), .d .bool, .d (.int .i64), .d .str, .d (.sl (.st 1)), .d (.sl .str)])), (4, (.d (.int .i64))), (16, (.d .bool))])) := by
  rw [list_there.l0]
  kernel_rfl
theorem list_there.l1_eq (k : Nat) (x1_0 : Int) (x1_1 : Bool) (x1_2 : Int) (x1_3 : ByteArray) (x1_4 : (List T_api_Value)) (x1_5 : (List ByteArray)) (x22 : Bool) : list_there.l1 (k + 1) x1_0 x1_1 x1_2 x1_3 x1_4 x1_5 x22 = runFrom (C := ctx) (list_there.O k) ⟨29, [], []⟩ (list_there.L k) (Tryz.f117.body.getD .skip) list_there.a 1 (endK ctx [.bool] [(.tmp 2)]) (encD [(1, (.box [.d (.int .i64), .d .bool, .d (.int .i64), .d .str, .d (.sl (.st 1)), .d (.sl .str)])), (22, (.d .bool))] (x1_0, x1_1, x1_2, x1_3, x1_4, x1_5, x22, ()) (startD sg.U ⟨29, [], []⟩ [(1, (.box [.d (.int .i64), .d .bool, .d (.int .i64), .d .str, .d (.sl (.st 1)), .d (.sl .str)])), (22, (.d .bool))])) := by
  rw [list_there.l1]
  kernel_rfl
theorem list_there.f_eq (k : Nat) (a0 : T_api_Value) : list_there.f k a0 = codeK (C := ctx) (list_there.O k) ⟨29, [], []⟩ (list_there.L k) (Tryz.f117.body.getD .skip) list_there.a (endK ctx [.bool] [(.tmp 2)]) (slotsOf sg.U 0 [(.d (.st 1))] (a0, ()) (empty sg.U)) := by
  unfold list_there.f
  kernel_rfl
def list_there.e (k : Nat) : Entry sg := entryOf sg [(.d (.st 1))] [.bool] (fun h => list_there.f k h.1)
def list_there.T : List (Lb sg (RT sg.U [.bool])) := [⟨0, [(1, (.box [.d (.int .i64), .d .bool, .d (.int .i64), .d .str, .d (.sl (.st 1)), .d (.sl .str)])), (4, (.d (.int .i64))), (16, (.d .bool))], fun k h => list_there.l0 k h.1 h.2.1 h.2.2.1 h.2.2.2.1 h.2.2.2.2.1 h.2.2.2.2.2.1 h.2.2.2.2.2.2.1 h.2.2.2.2.2.2.2.1⟩, ⟨1, [(1, (.box [.d (.int .i64), .d .bool, .d (.int .i64), .d .str, .d (.sl (.st 1)), .d (.sl .str)])), (22, (.d .bool))], fun k h => list_there.l1 k h.1 h.2.1 h.2.2.1 h.2.2.2.1 h.2.2.2.2.1 h.2.2.2.2.2.1 h.2.2.2.2.2.2.1⟩]
theorem list_there.ok (k : Nat) : (list_there.e k).Sound Tryz.prog ctx 117 :=
  entry_ok base_ok mo (fn := Tryz.f117) (b := (Tryz.f117.body.getD .skip)) (pm := [(.d (.st 1))]) (rs := [.bool]) (an := list_there.a) (N := 29) (vars := [(.tmp 2)]) Tryz.func117 (by kernel_rfl) (by kernel_rfl) (by kernel_rfl) (by kernel_rfl) (by kernel_rfl) (by kernel_rfl) (O := list_there.O)
    (fun k => by unfold list_there.O; exact oracle_of (P := Tryz.prog) (C := ctx) trivial) list_there.T ⟨⟨by kernel_rfl, fun _ => by first | rfl | rw [list_there.l0], fun k h => list_there.l0_eq k h.1 h.2.1 h.2.2.1 h.2.2.2.1 h.2.2.2.2.1 h.2.2.2.2.2.1 h.2.2.2.2.2.2.1 h.2.2.2.2.2.2.2.1⟩, ⟨⟨by kernel_rfl, fun _ => by first | rfl | rw [list_there.l1], fun k h => list_there.l1_eq k h.1 h.2.1 h.2.2.1 h.2.2.2.1 h.2.2.2.2.1 h.2.2.2.2.2.1 h.2.2.2.2.2.2.1⟩, trivial⟩⟩ k (fun h => list_there.f_eq k h.1)
def list_equal.f (k : Nat) (a0 : T_api_Value) (a1 : T_api_Value) : Option (Bool) := ((conf_Compare.f k (T_api_Value.mk a0.fKind a0.fBool a0.fInt a0.fText a0.fItems a0.fKeys) (T_api_Value.mk a1.fKind a1.fBool a1.fInt a1.fText a1.fItems a1.fKeys)).bind fun y1 => (some (ieq y1 0)))
def list_equal.O (k : Nat) : Oracle sg := fun n => lkp n [(44, conf_Compare.e k)]
def list_equal.a : Ann := .z
def list_equal.L (k : Nat) : Nat → St sg.U → Option (RT sg.U [.bool]) := labs []
theorem list_equal.f_eq (k : Nat) (a0 : T_api_Value) (a1 : T_api_Value) : list_equal.f k a0 a1 = codeK (C := ctx) (list_equal.O k) ⟨9, [], []⟩ (list_equal.L k) (Tryz.f212.body.getD .skip) list_equal.a (endK ctx [.bool] [(.tmp 4)]) (slotsOf sg.U 0 [(.d (.st 1)), (.d (.st 1))] (a0, a1, ()) (empty sg.U)) := by
  unfold list_equal.f
  kernel_rfl
def list_equal.e (k : Nat) : Entry sg := entryOf sg [(.d (.st 1)), (.d (.st 1))] [.bool] (fun h => list_equal.f k h.1 h.2.1)
def list_equal.T : List (Lb sg (RT sg.U [.bool])) := []
theorem list_equal.ok (k : Nat) : (list_equal.e k).Sound Tryz.prog ctx 212 :=
  entry_ok base_ok mo (fn := Tryz.f212) (b := (Tryz.f212.body.getD .skip)) (pm := [(.d (.st 1)), (.d (.st 1))]) (rs := [.bool]) (an := list_equal.a) (N := 9) (vars := [(.tmp 4)]) Tryz.func212 (by kernel_rfl) (by kernel_rfl) (by kernel_rfl) (by kernel_rfl) (by kernel_rfl) (by kernel_rfl) (O := list_equal.O)
    (fun k => by unfold list_equal.O; exact oracle_of (P := Tryz.prog) (C := ctx) ⟨(conf_Compare.ok k), trivial⟩) list_equal.T trivial k (fun h => list_equal.f_eq k h.1 h.2.1)
def list_among.l0 : Nat → Int → Bool → Int → ByteArray → (List T_api_Value) → (List ByteArray) → (List T_api_Value) → Int → Int → Option (Bool)
  | 0, _, _, _, _, _, _, _, _, _ => none
  | k + 1, x3_0, x3_1, x3_2, x3_3, x3_4, x3_5, x7, x8, x9 => (bif (ilt x9 x8) then ((lat x7 x9).bind fun y1 => ((list_equal.f k (T_api_Value.mk y1.fKind y1.fBool y1.fInt y1.fText y1.fItems y1.fKeys) (T_api_Value.mk x3_0 x3_1 x3_2 x3_3 x3_4 x3_5)).bind fun y2 => (bif y2 then (some true) else (list_among.l0 k x3_0 x3_1 x3_2 x3_3 x3_4 x3_5 x7 x8 (wadd .i64 x9 1))))) else (some false))
def list_among.f (k : Nat) (a0 : (List T_api_Value)) (a1 : T_api_Value) : Option (Bool) := (list_among.l0 k a1.fKind a1.fBool a1.fInt a1.fText a1.fItems a1.fKeys a0 (llen a0) 0)
def list_among.O (k : Nat) : Oracle sg := fun n => lkp n [(212, list_equal.e k)]
def list_among.a : Ann := (.n .z (.n (.n .z (.lp 0 .z)) .z))
def list_among.L (k : Nat) : Nat → St sg.U → Option (RT sg.U [.bool]) := labs [(0, labOf sg [(3, (.box [.d (.int .i64), .d .bool, .d (.int .i64), .d .str, .d (.sl (.st 1)), .d (.sl .str)])), (7, (.d (.sl (.st 1)))), (8, (.d (.int .i64))), (9, (.d (.int .i64)))] (fun h => list_among.l0 k h.1 h.2.1 h.2.2.1 h.2.2.2.1 h.2.2.2.2.1 h.2.2.2.2.2.1 h.2.2.2.2.2.2.1 h.2.2.2.2.2.2.2.1 h.2.2.2.2.2.2.2.2.1))]
theorem list_among.l0_eq (k : Nat) (x3_0 : Int) (x3_1 : Bool) (x3_2 : Int) (x3_3 : ByteArray) (x3_4 : (List T_api_Value)) (x3_5 : (List ByteArray)) (x7 : (List T_api_Value)) (x8 : Int) (x9 : Int) : list_among.l0 (k + 1) x3_0 x3_1 x3_2 x3_3 x3_4 x3_5 x7 x8 x9 = runFrom (C := ctx) (list_among.O k) ⟨17, [], []⟩ (list_among.L k) (Tryz.f118.body.getD .skip) list_among.a 0 (endK ctx [.bool] [(.tmp 4)]) (encD [(3, (.box [.d (.int .i64), .d .bool, .d (.int .i64), .d .str, .d (.sl (.st 1)), .d (.sl .str)])), (7, (.d (.sl (.st 1)))), (8, (.d (.int .i64))), (9, (.d (.int .i64)))] (x3_0, x3_1, x3_2, x3_3, x3_4, x3_5, x7, x8, x9, ()) (startD sg.U ⟨17, [], []⟩ [(3, (.box [.d (.int .i64), .d .bool, .d (.int .i64), .d .str, .d (.sl (.st 1)), .d (.sl .str)])), (7, (.d (.sl (.st 1)))), (8, (.d (.int .i64))), (9, (.d (.int .i64)))])) := by
  rw [list_among.l0]
  kernel_rfl
theorem list_among.f_eq (k : Nat) (a0 : (List T_api_Value)) (a1 : T_api_Value) : list_among.f k a0 a1 = codeK (C := ctx) (list_among.O k) ⟨17, [], []⟩ (list_among.L k) (Tryz.f118.body.getD .skip) list_among.a (endK ctx [.bool] [(.tmp 4)]) (slotsOf sg.U 0 [(.d (.sl (.st 1))), (.d (.st 1))] (a0, a1, ()) (empty sg.U)) := by
  unfold list_among.f
  kernel_rfl
def list_among.e (k : Nat) : Entry sg := entryOf sg [(.d (.sl (.st 1))), (.d (.st 1))] [.bool] (fun h => list_among.f k h.1 h.2.1)
def list_among.T : List (Lb sg (RT sg.U [.bool])) := [⟨0, [(3, (.box [.d (.int .i64), .d .bool, .d (.int .i64), .d .str, .d (.sl (.st 1)), .d (.sl .str)])), (7, (.d (.sl (.st 1)))), (8, (.d (.int .i64))), (9, (.d (.int .i64)))], fun k h => list_among.l0 k h.1 h.2.1 h.2.2.1 h.2.2.2.1 h.2.2.2.2.1 h.2.2.2.2.2.1 h.2.2.2.2.2.2.1 h.2.2.2.2.2.2.2.1 h.2.2.2.2.2.2.2.2.1⟩]
theorem list_among.ok (k : Nat) : (list_among.e k).Sound Tryz.prog ctx 118 :=
  entry_ok base_ok mo (fn := Tryz.f118) (b := (Tryz.f118.body.getD .skip)) (pm := [(.d (.sl (.st 1))), (.d (.st 1))]) (rs := [.bool]) (an := list_among.a) (N := 17) (vars := [(.tmp 4)]) Tryz.func118 (by kernel_rfl) (by kernel_rfl) (by kernel_rfl) (by kernel_rfl) (by kernel_rfl) (by kernel_rfl) (O := list_among.O)
    (fun k => by unfold list_among.O; exact oracle_of (P := Tryz.prog) (C := ctx) ⟨(list_equal.ok k), trivial⟩) list_among.T ⟨⟨by kernel_rfl, fun _ => by first | rfl | rw [list_among.l0], fun k h => list_among.l0_eq k h.1 h.2.1 h.2.2.1 h.2.2.2.1 h.2.2.2.2.1 h.2.2.2.2.2.1 h.2.2.2.2.2.2.1 h.2.2.2.2.2.2.2.1 h.2.2.2.2.2.2.2.2.1⟩, trivial⟩ k (fun h => list_among.f_eq k h.1 h.2.1)
def strings_Contains.f (a0 : ByteArray) (a1 : ByteArray) : Option (Bool) := if a0.size < 4294967281 then some (Lib.contains a0.data.toList a1.data.toList) else none
def strings_Contains.e : Entry sg := entryOf sg [(.d .str), (.d .str)] [.bool] (fun h => strings_Contains.f h.1 h.2.1)
theorem strings_Contains.ok : (strings_Contains.e).Sound Tryz.prog ctx 119 :=
  entry_extern (C := ctx) sg_ok Tryz.func119 (by kernel_rfl) (by kernel_rfl) (by kernel_rfl) (by kernel_rfl) (fun hh x w hx hG => by
    unfold strings_Contains.f at hx
    split at hx
    · rename_i c
      obtain rfl := Option.some.inj hx
      obtain ⟨m, hm⟩ := hG 2 (by simp [ctx, sg])
      have hm := cells_cell hm
      refine (Tryz.strings_Contains hh.1 hh.2.1 m w c hm).mono ?_
      rintro e w' ⟨rfl, hb⟩
      exact ⟨rfl, by first | exact hb ▸ Grow.refl _ | exact Grow.of_below hb | (obtain ⟨k, os, rfl⟩ := hb; exact Grow.of_below (Lib.below_grow _ w (Nat.le_refl _) k os))⟩
    · cases hx)
def internal_stringslite_HasPrefix.f (a0 : ByteArray) (a1 : ByteArray) : Option (Bool) := (bif (ile (slen a1) (slen a0)) then ((ssub a0 0 (slen a1)).bind fun y1 => (some (seq y1 a1))) else (some false))
def internal_stringslite_HasPrefix.O : Oracle sg := fun n => lkp n []
def internal_stringslite_HasPrefix.a : Ann := .z
def internal_stringslite_HasPrefix.L : Nat → St sg.U → Option (RT sg.U [.bool]) := labs []
theorem internal_stringslite_HasPrefix.f_eq (a0 : ByteArray) (a1 : ByteArray) : internal_stringslite_HasPrefix.f a0 a1 = codeK (C := ctx) (internal_stringslite_HasPrefix.O) ⟨18, [], []⟩ (internal_stringslite_HasPrefix.L) (Tryz.f214.body.getD .skip) internal_stringslite_HasPrefix.a (endK ctx [.bool] [(.tmp 4)]) (slotsOf sg.U 0 [(.d .str), (.d .str)] (a0, a1, ()) (empty sg.U)) := by
  unfold internal_stringslite_HasPrefix.f
  kernel_rfl
def internal_stringslite_HasPrefix.e : Entry sg := entryOf sg [(.d .str), (.d .str)] [.bool] (fun h => internal_stringslite_HasPrefix.f h.1 h.2.1)
def internal_stringslite_HasPrefix.T : List (Lb sg (RT sg.U [.bool])) := []
theorem internal_stringslite_HasPrefix.ok : (internal_stringslite_HasPrefix.e).Sound Tryz.prog ctx 214 :=
  entry_ok base_ok mo (fn := Tryz.f214) (b := (Tryz.f214.body.getD .skip)) (pm := [(.d .str), (.d .str)]) (rs := [.bool]) (an := internal_stringslite_HasPrefix.a) (N := 18) (vars := [(.tmp 4)]) Tryz.func214 (by kernel_rfl) (by kernel_rfl) (by kernel_rfl) (by kernel_rfl) (by kernel_rfl) (by kernel_rfl) (O := fun _ => internal_stringslite_HasPrefix.O)
    (fun _ => by unfold internal_stringslite_HasPrefix.O; exact oracle_of (P := Tryz.prog) (C := ctx) trivial) internal_stringslite_HasPrefix.T trivial 0 (fun h => internal_stringslite_HasPrefix.f_eq h.1 h.2.1)
def strings_HasPrefix.f (a0 : ByteArray) (a1 : ByteArray) : Option (Bool) := ((internal_stringslite_HasPrefix.f a0 a1).bind fun y1 => (some y1))
def strings_HasPrefix.O : Oracle sg := fun n => lkp n [(214, internal_stringslite_HasPrefix.e)]
def strings_HasPrefix.a : Ann := .z
def strings_HasPrefix.L : Nat → St sg.U → Option (RT sg.U [.bool]) := labs []
theorem strings_HasPrefix.f_eq (a0 : ByteArray) (a1 : ByteArray) : strings_HasPrefix.f a0 a1 = codeK (C := ctx) (strings_HasPrefix.O) ⟨8, [], []⟩ (strings_HasPrefix.L) (Tryz.f120.body.getD .skip) strings_HasPrefix.a (endK ctx [.bool] [(.tmp 4)]) (slotsOf sg.U 0 [(.d .str), (.d .str)] (a0, a1, ()) (empty sg.U)) := by
  unfold strings_HasPrefix.f
  kernel_rfl
def strings_HasPrefix.e : Entry sg := entryOf sg [(.d .str), (.d .str)] [.bool] (fun h => strings_HasPrefix.f h.1 h.2.1)
def strings_HasPrefix.T : List (Lb sg (RT sg.U [.bool])) := []
theorem strings_HasPrefix.ok : (strings_HasPrefix.e).Sound Tryz.prog ctx 120 :=
  entry_ok base_ok mo (fn := Tryz.f120) (b := (Tryz.f120.body.getD .skip)) (pm := [(.d .str), (.d .str)]) (rs := [.bool]) (an := strings_HasPrefix.a) (N := 8) (vars := [(.tmp 4)]) Tryz.func120 (by kernel_rfl) (by kernel_rfl) (by kernel_rfl) (by kernel_rfl) (by kernel_rfl) (by kernel_rfl) (O := fun _ => strings_HasPrefix.O)
    (fun _ => by unfold strings_HasPrefix.O; exact oracle_of (P := Tryz.prog) (C := ctx) ⟨(internal_stringslite_HasPrefix.ok), trivial⟩) strings_HasPrefix.T trivial 0 (fun h => strings_HasPrefix.f_eq h.1 h.2.1)
mutual
def list_holds.l0 : Nat → Int → ByteArray → Int → Bool → Int → ByteArray → (List T_api_Value) → (List ByteArray) → (List T_list_Cond) → Int → Bool → Int → ByteArray → (List T_api_Value) → (List ByteArray) → Int → Bool → Option (Bool)
  | 0, _, _, _, _, _, _, _, _, _, _, _, _, _, _, _, _, _ => none
  | k + 1, x2_0, x2_1, x2_2, x2_3, x2_4, x2_5, x2_6, x2_7, x2_8, x3_0, x3_1, x3_2, x3_3, x3_4, x3_5, x14, x15 => (bif x15 then (list_holds.l1 k x2_0 x2_1 x2_2 x2_3 x2_4 x2_5 x2_6 x2_7 x2_8 x3_0 x3_1 x3_2 x3_3 x3_4 x3_5 x2_8 (llen x2_8) 0) else (bif (ieq x14 3) then ((lat x2_8 0).bind fun y1 => ((list_holds.f k y1 (T_api_Value.mk x3_0 x3_1 x3_2 x3_3 x3_4 x3_5)).bind fun y2 => (some (!y2)))) else ((list_steps.f k x2_1).bind fun y3 => ((list_at.f k (T_api_Value.mk x3_0 x3_1 x3_2 x3_3 x3_4 x3_5) y3.1).bind fun y4 => ((conf_Compare.f k (T_api_Value.mk y4.fKind y4.fBool y4.fInt y4.fText y4.fItems y4.fKeys) (T_api_Value.mk x2_2 x2_3 x2_4 x2_5 x2_6 x2_7)).bind fun y5 => (bif (ieq x2_0 4) then ((list_there.f k (T_api_Value.mk y4.fKind y4.fBool y4.fInt y4.fText y4.fItems y4.fKeys)).bind fun y6 => (some y6)) else (bif (ieq x2_0 5) then (some (ieq y5 0)) else (bif (ieq x2_0 6) then (some (!ieq y5 0)) else (bif (ieq x2_0 7) then (some (bif (bif (ieq y4.fKind x2_2) then (bif (bif (ieq y4.fKind 2) then true else (ieq y4.fKind 3)) then true else (ieq y4.fKind 4)) else false) then (ilt y5 0) else false)) else (bif (ieq x2_0 8) then (some (bif (bif (ieq y4.fKind x2_2) then (bif (bif (ieq y4.fKind 2) then true else (ieq y4.fKind 3)) then true else (ieq y4.fKind 4)) else false) then (ile y5 0) else false)) else (bif (ieq x2_0 9) then (some (bif (bif (ieq y4.fKind x2_2) then (bif (bif (ieq y4.fKind 2) then true else (ieq y4.fKind 3)) then true else (ieq y4.fKind 4)) else false) then (ilt 0 y5) else false)) else (bif (ieq x2_0 10) then (some (bif (bif (ieq y4.fKind x2_2) then (bif (bif (ieq y4.fKind 2) then true else (ieq y4.fKind 3)) then true else (ieq y4.fKind 4)) else false) then (ile 0 y5) else false)) else (bif (ieq x2_0 11) then (bif (ieq y4.fKind 5) then ((list_among.f k y4.fItems (T_api_Value.mk x2_2 x2_3 x2_4 x2_5 x2_6 x2_7)).bind fun y7 => (bif y7 then (some true) else (bif (bif (ieq y4.fKind 3) then (ieq x2_2 3) else false) then ((strings_Contains.f y4.fText x2_5).bind fun y8 => (some y8)) else (some false)))) else (bif (bif (ieq y4.fKind 3) then (ieq x2_2 3) else false) then ((strings_Contains.f y4.fText x2_5).bind fun y9 => (some y9)) else (some false))) else (bif (ieq x2_0 12) then ((list_among.f k x2_6 (T_api_Value.mk y4.fKind y4.fBool y4.fInt y4.fText y4.fItems y4.fKeys)).bind fun y10 => (some y10)) else (bif (bif (ieq y4.fKind 3) then (ieq x2_2 3) else false) then ((strings_HasPrefix.f y4.fText x2_5).bind fun y11 => (some y11)) else (some false))))))))))))))))
def list_holds.l1 : Nat → Int → ByteArray → Int → Bool → Int → ByteArray → (List T_api_Value) → (List ByteArray) → (List T_list_Cond) → Int → Bool → Int → ByteArray → (List T_api_Value) → (List ByteArray) → (List T_list_Cond) → Int → Int → Option (Bool)
  | 0, _, _, _, _, _, _, _, _, _, _, _, _, _, _, _, _, _, _ => none
  | k + 1, x2_0, x2_1, x2_2, x2_3, x2_4, x2_5, x2_6, x2_7, x2_8, x3_0, x3_1, x3_2, x3_3, x3_4, x3_5, x19, x20, x21 => (bif (ilt x21 x20) then ((lat x19 x21).bind fun y12 => ((list_holds.f k (T_list_Cond.mk y12.fOp y12.fRoute (T_api_Value.mk y12.fValue.fKind y12.fValue.fBool y12.fValue.fInt y12.fValue.fText y12.fValue.fItems y12.fValue.fKeys) y12.fKids) (T_api_Value.mk x3_0 x3_1 x3_2 x3_3 x3_4 x3_5)).bind fun y13 => (bif (y13 == (ieq x2_0 2)) then (some (ieq x2_0 2)) else (list_holds.l1 k x2_0 x2_1 x2_2 x2_3 x2_4 x2_5 x2_6 x2_7 x2_8 x3_0 x3_1 x3_2 x3_3 x3_4 x3_5 x19 x20 (wadd .i64 x21 1))))) else (some (ieq x2_0 1)))
def list_holds.f : Nat → T_list_Cond → T_api_Value → Option (Bool)
  | 0, _, _ => none
  | k + 1, a0, a1 => (bif (ieq a0.fOp 1) then (list_holds.l0 k a0.fOp a0.fRoute a0.fValue.fKind a0.fValue.fBool a0.fValue.fInt a0.fValue.fText a0.fValue.fItems a0.fValue.fKeys a0.fKids a1.fKind a1.fBool a1.fInt a1.fText a1.fItems a1.fKeys a0.fOp true) else (list_holds.l0 k a0.fOp a0.fRoute a0.fValue.fKind a0.fValue.fBool a0.fValue.fInt a0.fValue.fText a0.fValue.fItems a0.fValue.fKeys a0.fKids a1.fKind a1.fBool a1.fInt a1.fText a1.fItems a1.fKeys a0.fOp (ieq a0.fOp 2)))
end
def list_holds.e (k : Nat) : Entry sg := entryOf sg [(.d (.st 0)), (.d (.st 1))] [.bool] (fun h => list_holds.f k h.1 h.2.1)
def list_holds.O (k : Nat) : Oracle sg := fun n => lkp n [(33, list_holds.e k), (44, conf_Compare.e k), (115, list_steps.e k), (116, list_at.e k), (117, list_there.e k), (118, list_among.e k), (119, strings_Contains.e), (120, strings_HasPrefix.e)]
def list_holds.a : Ann := (.n .z (.n (.n .z (.n .z (.lab 0 (.n (.n (.n .z (.lp 1 .z)) .z) .z)))) .z))
def list_holds.L (k : Nat) : Nat → St sg.U → Option (RT sg.U [.bool]) := labs [(0, labOf sg [(2, (.box [.d (.int .i64), .d .str, .d (.int .i64), .d .bool, .d (.int .i64), .d .str, .d (.sl (.st 1)), .d (.sl .str), .d (.sl (.st 0))])), (3, (.box [.d (.int .i64), .d .bool, .d (.int .i64), .d .str, .d (.sl (.st 1)), .d (.sl .str)])), (14, (.d (.int .i64))), (15, (.d .bool))] (fun h => list_holds.l0 k h.1 h.2.1 h.2.2.1 h.2.2.2.1 h.2.2.2.2.1 h.2.2.2.2.2.1 h.2.2.2.2.2.2.1 h.2.2.2.2.2.2.2.1 h.2.2.2.2.2.2.2.2.1 h.2.2.2.2.2.2.2.2.2.1 h.2.2.2.2.2.2.2.2.2.2.1 h.2.2.2.2.2.2.2.2.2.2.2.1 h.2.2.2.2.2.2.2.2.2.2.2.2.1 h.2.2.2.2.2.2.2.2.2.2.2.2.2.1 h.2.2.2.2.2.2.2.2.2.2.2.2.2.2.1 h.2.2.2.2.2.2.2.2.2.2.2.2.2.2.2.1 h.2.2.2.2.2.2.2.2.2.2.2.2.2.2.2.2.1)), (1, labOf sg [(2, (.box [.d (.int .i64), .d .str, .d (.int .i64), .d .bool, .d (.int .i64), .d .str, .d (.sl (.st 1)), .d (.sl .str), .d (.sl (.st 0))])), (3, (.box [.d (.int .i64), .d .bool, .d (.int .i64), .d .str, .d (.sl (.st 1)), .d (.sl .str)])), (19, (.d (.sl (.st 0)))), (20, (.d (.int .i64))), (21, (.d (.int .i64)))] (fun h => list_holds.l1 k h.1 h.2.1 h.2.2.1 h.2.2.2.1 h.2.2.2.2.1 h.2.2.2.2.2.1 h.2.2.2.2.2.2.1 h.2.2.2.2.2.2.2.1 h.2.2.2.2.2.2.2.2.1 h.2.2.2.2.2.2.2.2.2.1 h.2.2.2.2.2.2.2.2.2.2.1 h.2.2.2.2.2.2.2.2.2.2.2.1 h.2.2.2.2.2.2.2.2.2.2.2.2.1 h.2.2.2.2.2.2.2.2.2.2.2.2.2.1 h.2.2.2.2.2.2.2.2.2.2.2.2.2.2.1 h.2.2.2.2.2.2.2.2.2.2.2.2.2.2.2.1 h.2.2.2.2.2.2.2.2.2.2.2.2.2.2.2.2.1 h.2.2.2.2.2.2.2.2.2.2.2.2.2.2.2.2.2.1))]
theorem list_holds.l0_eq (k : Nat) (x2_0 : Int) (x2_1 : ByteArray) (x2_2 : Int) (x2_3 : Bool) (x2_4 : Int) (x2_5 : ByteArray) (x2_6 : (List T_api_Value)) (x2_7 : (List ByteArray)) (x2_8 : (List T_list_Cond)) (x3_0 : Int) (x3_1 : Bool) (x3_2 : Int) (x3_3 : ByteArray) (x3_4 : (List T_api_Value)) (x3_5 : (List ByteArray)) (x14 : Int) (x15 : Bool) : list_holds.l0 (k + 1) x2_0 x2_1 x2_2 x2_3 x2_4 x2_5 x2_6 x2_7 x2_8 x3_0 x3_1 x3_2 x3_3 x3_4 x3_5 x14 x15 = runFrom (C := ctx) (list_holds.O k) ⟨172, [], []⟩ (list_holds.L k) (Tryz.f33.body.getD .skip) list_holds.a 0 (endK ctx [.bool] [(.tmp 4)]) (encD [(2, (.box [.d (.int .i64), .d .str, .d (.int .i64), .d .bool, .d (.int .i64), .d .str, .d (.sl (.st 1)), .d (.sl .str), .d (.sl (.st 0))])), (3, (.box [.d (.int .i64), .d .bool, .d (.int .i64), .d .str, .d (.sl (.st 1)), .d (.sl .str)])), (14, (.d (.int .i64))), (15, (.d .bool))] (x2_0, x2_1, x2_2, x2_3, x2_4, x2_5, x2_6, x2_7, x2_8, x3_0, x3_1, x3_2, x3_3, x3_4, x3_5, x14, x15, ()) (startD sg.U ⟨172, [], []⟩ [(2, (.box [.d (.int .i64), .d .str, .d (.int .i64), .d .bool, .d (.int .i64), .d .str, .d (.sl (.st 1)), .d (.sl .str), .d (.sl (.st 0))])), (3, (.box [.d (.int .i64), .d .bool, .d (.int .i64), .d .str, .d (.sl (.st 1)), .d (.sl .str)])), (14, (.d (.int .i64))), (15, (.d .bool))])) := by
  rw [list_holds.l0]
  kernel_rfl
theorem list_holds.l1_eq (k : Nat) (x2_0 : Int) (x2_1 : ByteArray) (x2_2 : Int) (x2_3 : Bool) (x2_4 : Int) (x2_5 : ByteArray) (x2_6 : (List T_api_Value)) (x2_7 : (List ByteArray)) (x2_8 : (List T_list_Cond)) (x3_0 : Int) (x3_1 : Bool) (x3_2 : Int) (x3_3 : ByteArray) (x3_4 : (List T_api_Value)) (x3_5 : (List ByteArray)) (x19 : (List T_list_Cond)) (x20 : Int) (x21 : Int) : list_holds.l1 (k + 1) x2_0 x2_1 x2_2 x2_3 x2_4 x2_5 x2_6 x2_7 x2_8 x3_0 x3_1 x3_2 x3_3 x3_4 x3_5 x19 x20 x21 = runFrom (C := ctx) (list_holds.O k) ⟨172, [], []⟩ (list_holds.L k) (Tryz.f33.body.getD .skip) list_holds.a 1 (endK ctx [.bool] [(.tmp 4)]) (encD [(2, (.box [.d (.int .i64), .d .str, .d (.int .i64), .d .bool, .d (.int .i64), .d .str, .d (.sl (.st 1)), .d (.sl .str), .d (.sl (.st 0))])), (3, (.box [.d (.int .i64), .d .bool, .d (.int .i64), .d .str, .d (.sl (.st 1)), .d (.sl .str)])), (19, (.d (.sl (.st 0)))), (20, (.d (.int .i64))), (21, (.d (.int .i64)))] (x2_0, x2_1, x2_2, x2_3, x2_4, x2_5, x2_6, x2_7, x2_8, x3_0, x3_1, x3_2, x3_3, x3_4, x3_5, x19, x20, x21, ()) (startD sg.U ⟨172, [], []⟩ [(2, (.box [.d (.int .i64), .d .str, .d (.int .i64), .d .bool, .d (.int .i64), .d .str, .d (.sl (.st 1)), .d (.sl .str), .d (.sl (.st 0))])), (3, (.box [.d (.int .i64), .d .bool, .d (.int .i64), .d .str, .d (.sl (.st 1)), .d (.sl .str)])), (19, (.d (.sl (.st 0)))), (20, (.d (.int .i64))), (21, (.d (.int .i64)))])) := by
  rw [list_holds.l1]
  kernel_rfl
theorem list_holds.f_eq (k : Nat) (a0 : T_list_Cond) (a1 : T_api_Value) : list_holds.f (k + 1) a0 a1 = codeK (C := ctx) (list_holds.O k) ⟨172, [], []⟩ (list_holds.L k) (Tryz.f33.body.getD .skip) list_holds.a (endK ctx [.bool] [(.tmp 4)]) (slotsOf sg.U 0 [(.d (.st 0)), (.d (.st 1))] (a0, a1, ()) (empty sg.U)) := by
  rw [list_holds.f]
  kernel_rfl
def list_holds.T : List (Lb sg (RT sg.U [.bool])) := [⟨0, [(2, (.box [.d (.int .i64), .d .str, .d (.int .i64), .d .bool, .d (.int .i64), .d .str, .d (.sl (.st 1)), .d (.sl .str), .d (.sl (.st 0))])), (3, (.box [.d (.int .i64), .d .bool, .d (.int .i64), .d .str, .d (.sl (.st 1)), .d (.sl .str)])), (14, (.d (.int .i64))), (15, (.d .bool))], fun k h => list_holds.l0 k h.1 h.2.1 h.2.2.1 h.2.2.2.1 h.2.2.2.2.1 h.2.2.2.2.2.1 h.2.2.2.2.2.2.1 h.2.2.2.2.2.2.2.1 h.2.2.2.2.2.2.2.2.1 h.2.2.2.2.2.2.2.2.2.1 h.2.2.2.2.2.2.2.2.2.2.1 h.2.2.2.2.2.2.2.2.2.2.2.1 h.2.2.2.2.2.2.2.2.2.2.2.2.1 h.2.2.2.2.2.2.2.2.2.2.2.2.2.1 h.2.2.2.2.2.2.2.2.2.2.2.2.2.2.1 h.2.2.2.2.2.2.2.2.2.2.2.2.2.2.2.1 h.2.2.2.2.2.2.2.2.2.2.2.2.2.2.2.2.1⟩, ⟨1, [(2, (.box [.d (.int .i64), .d .str, .d (.int .i64), .d .bool, .d (.int .i64), .d .str, .d (.sl (.st 1)), .d (.sl .str), .d (.sl (.st 0))])), (3, (.box [.d (.int .i64), .d .bool, .d (.int .i64), .d .str, .d (.sl (.st 1)), .d (.sl .str)])), (19, (.d (.sl (.st 0)))), (20, (.d (.int .i64))), (21, (.d (.int .i64)))], fun k h => list_holds.l1 k h.1 h.2.1 h.2.2.1 h.2.2.2.1 h.2.2.2.2.1 h.2.2.2.2.2.1 h.2.2.2.2.2.2.1 h.2.2.2.2.2.2.2.1 h.2.2.2.2.2.2.2.2.1 h.2.2.2.2.2.2.2.2.2.1 h.2.2.2.2.2.2.2.2.2.2.1 h.2.2.2.2.2.2.2.2.2.2.2.1 h.2.2.2.2.2.2.2.2.2.2.2.2.1 h.2.2.2.2.2.2.2.2.2.2.2.2.2.1 h.2.2.2.2.2.2.2.2.2.2.2.2.2.2.1 h.2.2.2.2.2.2.2.2.2.2.2.2.2.2.2.1 h.2.2.2.2.2.2.2.2.2.2.2.2.2.2.2.2.1 h.2.2.2.2.2.2.2.2.2.2.2.2.2.2.2.2.2.1⟩]
theorem list_holds.ok : ∀ k : Nat, (list_holds.e k).Sound Tryz.prog ctx 33 :=
  entry_rec base_ok mo (fn := Tryz.f33) (b := (Tryz.f33.body.getD .skip)) (pm := [(.d (.st 0)), (.d (.st 1))]) (rs := [.bool]) (an := list_holds.a) (N := 172) (vars := [(.tmp 4)]) Tryz.func33 (by kernel_rfl) (by kernel_rfl) (by kernel_rfl) (by kernel_rfl) (by kernel_rfl) (by kernel_rfl) (O := list_holds.O) list_holds.T ⟨⟨by kernel_rfl, fun _ => by first | rfl | rw [list_holds.l0], fun k h => list_holds.l0_eq k h.1 h.2.1 h.2.2.1 h.2.2.2.1 h.2.2.2.2.1 h.2.2.2.2.2.1 h.2.2.2.2.2.2.1 h.2.2.2.2.2.2.2.1 h.2.2.2.2.2.2.2.2.1 h.2.2.2.2.2.2.2.2.2.1 h.2.2.2.2.2.2.2.2.2.2.1 h.2.2.2.2.2.2.2.2.2.2.2.1 h.2.2.2.2.2.2.2.2.2.2.2.2.1 h.2.2.2.2.2.2.2.2.2.2.2.2.2.1 h.2.2.2.2.2.2.2.2.2.2.2.2.2.2.1 h.2.2.2.2.2.2.2.2.2.2.2.2.2.2.2.1 h.2.2.2.2.2.2.2.2.2.2.2.2.2.2.2.2.1⟩, ⟨⟨by kernel_rfl, fun _ => by first | rfl | rw [list_holds.l1], fun k h => list_holds.l1_eq k h.1 h.2.1 h.2.2.1 h.2.2.2.1 h.2.2.2.2.1 h.2.2.2.2.2.1 h.2.2.2.2.2.2.1 h.2.2.2.2.2.2.2.1 h.2.2.2.2.2.2.2.2.1 h.2.2.2.2.2.2.2.2.2.1 h.2.2.2.2.2.2.2.2.2.2.1 h.2.2.2.2.2.2.2.2.2.2.2.1 h.2.2.2.2.2.2.2.2.2.2.2.2.1 h.2.2.2.2.2.2.2.2.2.2.2.2.2.1 h.2.2.2.2.2.2.2.2.2.2.2.2.2.2.1 h.2.2.2.2.2.2.2.2.2.2.2.2.2.2.2.1 h.2.2.2.2.2.2.2.2.2.2.2.2.2.2.2.2.1 h.2.2.2.2.2.2.2.2.2.2.2.2.2.2.2.2.2.1⟩, trivial⟩⟩ (F := fun k h => list_holds.f k h.1 h.2.1) (fun _ => by first | rfl | rw [list_holds.f]) (fun k h => list_holds.f_eq k h.1 h.2.1)
    (fun k own => by unfold list_holds.O; exact oracle_of (P := Tryz.prog) (C := ctx) ⟨own, ⟨(conf_Compare.ok k), ⟨(list_steps.ok k), ⟨(list_at.ok k), ⟨(list_there.ok k), ⟨(list_among.ok k), ⟨(strings_Contains.ok), ⟨(strings_HasPrefix.ok), trivial⟩⟩⟩⟩⟩⟩⟩⟩)
def list_Holds.f (k : Nat) (a0 : T_list_Cond) (a1 : T_api_Value) : Option (Bool × Int) := ((list_CheckCond.f k (T_list_Cond.mk a0.fOp a0.fRoute (T_api_Value.mk a0.fValue.fKind a0.fValue.fBool a0.fValue.fInt a0.fValue.fText a0.fValue.fItems a0.fValue.fKeys) a0.fKids)).bind fun y1 => (bif (!ieq y1 0) then (some (false, y1)) else ((list_CheckItem.f k (T_api_Value.mk a1.fKind a1.fBool a1.fInt a1.fText a1.fItems a1.fKeys)).bind fun y2 => (bif (!ieq y2 0) then (some (false, y2)) else ((list_holds.f k (T_list_Cond.mk a0.fOp a0.fRoute (T_api_Value.mk a0.fValue.fKind a0.fValue.fBool a0.fValue.fInt a0.fValue.fText a0.fValue.fItems a0.fValue.fKeys) a0.fKids) (T_api_Value.mk a1.fKind a1.fBool a1.fInt a1.fText a1.fItems a1.fKeys)).bind fun y3 => (some (y3, 0)))))))
def list_Holds.O (k : Nat) : Oracle sg := fun n => lkp n [(31, list_CheckCond.e k), (32, list_CheckItem.e k), (33, list_holds.e k)]
def list_Holds.a : Ann := .z
def list_Holds.L (k : Nat) : Nat → St sg.U → Option (RT sg.U [.bool, (.int .i64)]) := labs []
theorem list_Holds.f_eq (k : Nat) (a0 : T_list_Cond) (a1 : T_api_Value) : list_Holds.f k a0 a1 = codeK (C := ctx) (list_Holds.O k) ⟨21, [], []⟩ (list_Holds.L k) (Tryz.f10.body.getD .skip) list_Holds.a (endK ctx [.bool, (.int .i64)] [(.tmp 4), (.tmp 5)]) (slotsOf sg.U 0 [(.d (.st 0)), (.d (.st 1))] (a0, a1, ()) (empty sg.U)) := by
  unfold list_Holds.f
  kernel_rfl
def list_Holds.e (k : Nat) : Entry sg := entryOf sg [(.d (.st 0)), (.d (.st 1))] [.bool, (.int .i64)] (fun h => list_Holds.f k h.1 h.2.1)
def list_Holds.T : List (Lb sg (RT sg.U [.bool, (.int .i64)])) := []
theorem list_Holds.ok (k : Nat) : (list_Holds.e k).Sound Tryz.prog ctx 10 :=
  entry_ok base_ok mo (fn := Tryz.f10) (b := (Tryz.f10.body.getD .skip)) (pm := [(.d (.st 0)), (.d (.st 1))]) (rs := [.bool, (.int .i64)]) (an := list_Holds.a) (N := 21) (vars := [(.tmp 4), (.tmp 5)]) Tryz.func10 (by kernel_rfl) (by kernel_rfl) (by kernel_rfl) (by kernel_rfl) (by kernel_rfl) (by kernel_rfl) (O := list_Holds.O)
    (fun k => by unfold list_Holds.O; exact oracle_of (P := Tryz.prog) (C := ctx) ⟨(list_CheckCond.ok k), ⟨(list_CheckItem.ok k), ⟨(list_holds.ok k), trivial⟩⟩⟩) list_Holds.T trivial k (fun h => list_Holds.f_eq k h.1 h.2.1)
mutual
def mastref2_condsOf.l0 : Nat → Int → Int → (List T_list_Cond) → Int → Int → Option (Int × Int)
  | 0, _, _, _, _, _ => none
  | k + 1, x2, x3, x9, x10, x11 => (bif (ilt x11 x10) then ((lat x9 x11).bind fun y1 => ((mastref2_condsOf.f k (T_list_Cond.mk y1.fOp y1.fRoute (T_api_Value.mk y1.fValue.fKind y1.fValue.fBool y1.fValue.fInt y1.fValue.fText y1.fValue.fItems y1.fValue.fKeys) y1.fKids)).bind fun y2 => (mastref2_condsOf.l0 k (wadd .i64 x2 y2.1) (imax x3 y2.2) x9 x10 (wadd .i64 x11 1)))) else (some (x2, (wadd .i64 x3 1))))
def mastref2_condsOf.f : Nat → T_list_Cond → Option (Int × Int)
  | 0, _ => none
  | k + 1, a0 => (mastref2_condsOf.l0 k 1 0 a0.fKids (llen a0.fKids) 0)
end
def mastref2_condsOf.e (k : Nat) : Entry sg := entryOf sg [(.d (.st 0))] [(.int .i64), (.int .i64)] (fun h => mastref2_condsOf.f k h.1)
def mastref2_condsOf.O (k : Nat) : Oracle sg := fun n => lkp n [(39, mastref2_condsOf.e k)]
def mastref2_condsOf.a : Ann := (.n .z (.n .z (.n (.n .z (.lp 0 .z)) .z)))
def mastref2_condsOf.L (k : Nat) : Nat → St sg.U → Option (RT sg.U [(.int .i64), (.int .i64)]) := labs [(0, labOf sg [(2, (.d (.int .i64))), (3, (.d (.int .i64))), (9, (.d (.sl (.st 0)))), (10, (.d (.int .i64))), (11, (.d (.int .i64)))] (fun h => mastref2_condsOf.l0 k h.1 h.2.1 h.2.2.1 h.2.2.2.1 h.2.2.2.2.1))]
theorem mastref2_condsOf.l0_eq (k : Nat) (x2 : Int) (x3 : Int) (x9 : (List T_list_Cond)) (x10 : Int) (x11 : Int) : mastref2_condsOf.l0 (k + 1) x2 x3 x9 x10 x11 = runFrom (C := ctx) (mastref2_condsOf.O k) ⟨30, [], []⟩ (mastref2_condsOf.L k) (Tryz.f39.body.getD .skip) mastref2_condsOf.a 0 (endK ctx [(.int .i64), (.int .i64)] [(.tmp 2), (.tmp 3)]) (encD [(2, (.d (.int .i64))), (3, (.d (.int .i64))), (9, (.d (.sl (.st 0)))), (10, (.d (.int .i64))), (11, (.d (.int .i64)))] (x2, x3, x9, x10, x11, ()) (startD sg.U ⟨30, [], []⟩ [(2, (.d (.int .i64))), (3, (.d (.int .i64))), (9, (.d (.sl (.st 0)))), (10, (.d (.int .i64))), (11, (.d (.int .i64)))])) := by
  rw [mastref2_condsOf.l0]
  kernel_rfl
theorem mastref2_condsOf.f_eq (k : Nat) (a0 : T_list_Cond) : mastref2_condsOf.f (k + 1) a0 = codeK (C := ctx) (mastref2_condsOf.O k) ⟨30, [], []⟩ (mastref2_condsOf.L k) (Tryz.f39.body.getD .skip) mastref2_condsOf.a (endK ctx [(.int .i64), (.int .i64)] [(.tmp 2), (.tmp 3)]) (slotsOf sg.U 0 [(.d (.st 0))] (a0, ()) (empty sg.U)) := by
  rw [mastref2_condsOf.f]
  kernel_rfl
def mastref2_condsOf.T : List (Lb sg (RT sg.U [(.int .i64), (.int .i64)])) := [⟨0, [(2, (.d (.int .i64))), (3, (.d (.int .i64))), (9, (.d (.sl (.st 0)))), (10, (.d (.int .i64))), (11, (.d (.int .i64)))], fun k h => mastref2_condsOf.l0 k h.1 h.2.1 h.2.2.1 h.2.2.2.1 h.2.2.2.2.1⟩]
theorem mastref2_condsOf.ok : ∀ k : Nat, (mastref2_condsOf.e k).Sound Tryz.prog ctx 39 :=
  entry_rec base_ok mo (fn := Tryz.f39) (b := (Tryz.f39.body.getD .skip)) (pm := [(.d (.st 0))]) (rs := [(.int .i64), (.int .i64)]) (an := mastref2_condsOf.a) (N := 30) (vars := [(.tmp 2), (.tmp 3)]) Tryz.func39 (by kernel_rfl) (by kernel_rfl) (by kernel_rfl) (by kernel_rfl) (by kernel_rfl) (by kernel_rfl) (O := mastref2_condsOf.O) mastref2_condsOf.T ⟨⟨by kernel_rfl, fun _ => by first | rfl | rw [mastref2_condsOf.l0], fun k h => mastref2_condsOf.l0_eq k h.1 h.2.1 h.2.2.1 h.2.2.2.1 h.2.2.2.2.1⟩, trivial⟩ (F := fun k h => mastref2_condsOf.f k h.1) (fun _ => by first | rfl | rw [mastref2_condsOf.f]) (fun k h => mastref2_condsOf.f_eq k h.1)
    (fun k own => by unfold mastref2_condsOf.O; exact oracle_of (P := Tryz.prog) (C := ctx) ⟨own, trivial⟩)
def mastref2_eachCond_c1.f (a0 : T_list_Cond) (a1_0 : Int) (a1_1 : ByteArray) (a1_2 : Int) (a1_3 : Bool) (a1_4 : Int) (a1_5 : ByteArray) (a1_6 : (List T_api_Value)) (a1_7 : (List ByteArray)) (a1_8 : (List T_list_Cond)) : Option (Bool × Int × ByteArray × Int × Bool × Int × ByteArray × (List T_api_Value) × (List ByteArray) × (List T_list_Cond) × Unit) := (some ((ieq a0.fOp a1_0), (a1_0, a1_1, a1_2, a1_3, a1_4, a1_5, a1_6, a1_7, a1_8, ())))
def mastref2_eachCond_c1.O : Oracle sg := fun n => lkp n []
def mastref2_eachCond_c1.a : Ann := .z
def mastref2_eachCond_c1.L : Nat → St sg.U → Option (RT sg.U [.bool] × HL sg.U (PM.outs [(.d (.st 0)), (.ref [.d (.int .i64), .d .str, .d (.int .i64), .d .bool, .d (.int .i64), .d .str, .d (.sl (.st 1)), .d (.sl .str), .d (.sl (.st 0))])])) := labs []
theorem mastref2_eachCond_c1.f_eq (a0 : T_list_Cond) (a1_0 : Int) (a1_1 : ByteArray) (a1_2 : Int) (a1_3 : Bool) (a1_4 : Int) (a1_5 : ByteArray) (a1_6 : (List T_api_Value)) (a1_7 : (List ByteArray)) (a1_8 : (List T_list_Cond)) : mastref2_eachCond_c1.f a0 a1_0 a1_1 a1_2 a1_3 a1_4 a1_5 a1_6 a1_7 a1_8 = codeK (C := ctx) (mastref2_eachCond_c1.O) ⟨9, [1], []⟩ (mastref2_eachCond_c1.L) (Tryz.f132.body.getD .skip) mastref2_eachCond_c1.a (endR ctx [.bool] [(.tmp 3)] [(.d (.st 0)), (.ref [.d (.int .i64), .d .str, .d (.int .i64), .d .bool, .d (.int .i64), .d .str, .d (.sl (.st 1)), .d (.sl .str), .d (.sl (.st 0))])]) (slotsOf sg.U 0 [(.d (.st 0)), (.ref [.d (.int .i64), .d .str, .d (.int .i64), .d .bool, .d (.int .i64), .d .str, .d (.sl (.st 1)), .d (.sl .str), .d (.sl (.st 0))])] (a0, a1_0, a1_1, a1_2, a1_3, a1_4, a1_5, a1_6, a1_7, a1_8, ()) (emptyG sg.U (PM.gs [(.d (.st 0)), (.ref [.d (.int .i64), .d .str, .d (.int .i64), .d .bool, .d (.int .i64), .d .str, .d (.sl (.st 1)), .d (.sl .str), .d (.sl (.st 0))])]))) := by
  unfold mastref2_eachCond_c1.f
  kernel_rfl
def mastref2_eachCond_c1.e : Entry sg := entryR sg [(.d (.st 0)), (.ref [.d (.int .i64), .d .str, .d (.int .i64), .d .bool, .d (.int .i64), .d .str, .d (.sl (.st 1)), .d (.sl .str), .d (.sl (.st 0))])] [.bool] (fun h => mastref2_eachCond_c1.f h.1 h.2.1 h.2.2.1 h.2.2.2.1 h.2.2.2.2.1 h.2.2.2.2.2.1 h.2.2.2.2.2.2.1 h.2.2.2.2.2.2.2.1 h.2.2.2.2.2.2.2.2.1 h.2.2.2.2.2.2.2.2.2.1)
def mastref2_eachCond_c1.T : List (Lb sg (RT sg.U [.bool] × HL sg.U (PM.outs [(.d (.st 0)), (.ref [.d (.int .i64), .d .str, .d (.int .i64), .d .bool, .d (.int .i64), .d .str, .d (.sl (.st 1)), .d (.sl .str), .d (.sl (.st 0))])]))) := []
theorem mastref2_eachCond_c1.ok : (mastref2_eachCond_c1.e).Sound Tryz.prog ctx 132 :=
  entryR_ok base_ok mo (fn := Tryz.f132) (b := (Tryz.f132.body.getD .skip)) (pm := [(.d (.st 0)), (.ref [.d (.int .i64), .d .str, .d (.int .i64), .d .bool, .d (.int .i64), .d .str, .d (.sl (.st 1)), .d (.sl .str), .d (.sl (.st 0))])]) (rs := [.bool]) (an := mastref2_eachCond_c1.a) (N := 9) (vars := [(.tmp 3)]) Tryz.func132 (by kernel_rfl) (by kernel_rfl) (by kernel_rfl) (by kernel_rfl) (by kernel_rfl) (by kernel_rfl) (by kernel_rfl) (by kernel_rfl) (O := fun _ => mastref2_eachCond_c1.O)
    (fun _ => by unfold mastref2_eachCond_c1.O; exact oracle_of (P := Tryz.prog) (C := ctx) trivial) mastref2_eachCond_c1.T trivial 0 (fun h => mastref2_eachCond_c1.f_eq h.1 h.2.1 h.2.2.1 h.2.2.2.1 h.2.2.2.2.1 h.2.2.2.2.2.1 h.2.2.2.2.2.2.1 h.2.2.2.2.2.2.2.1 h.2.2.2.2.2.2.2.2.1 h.2.2.2.2.2.2.2.2.2.1)
def slices_IndexFunc_list_Cond_list_Cond_at_mastref2_eachCond_c1.l0 : Nat → (List T_list_Cond) → Int → Int → Int → ByteArray → Int → Bool → Int → ByteArray → (List T_api_Value) → (List ByteArray) → (List T_list_Cond) → Option (Int × Int × ByteArray × Int × Bool × Int × ByteArray × (List T_api_Value) × (List ByteArray) × (List T_list_Cond) × Unit)
  | 0, _, _, _, _, _, _, _, _, _, _, _, _ => none
  | k + 1, x0, x7, x8, x19_0, x19_1, x19_2, x19_3, x19_4, x19_5, x19_6, x19_7, x19_8 => (bif (ilt x8 x7) then ((lat x0 x8).bind fun y1 => ((mastref2_eachCond_c1.f y1 x19_0 x19_1 x19_2 x19_3 x19_4 x19_5 x19_6 x19_7 x19_8).bind fun y2 => (bif y2.1 then (some (x8, (y2.2.1, y2.2.2.1, y2.2.2.2.1, y2.2.2.2.2.1, y2.2.2.2.2.2.1, y2.2.2.2.2.2.2.1, y2.2.2.2.2.2.2.2.1, y2.2.2.2.2.2.2.2.2.1, y2.2.2.2.2.2.2.2.2.2.1, ()))) else (slices_IndexFunc_list_Cond_list_Cond_at_mastref2_eachCond_c1.l0 k x0 x7 (wadd .i64 x8 1) y2.2.1 y2.2.2.1 y2.2.2.2.1 y2.2.2.2.2.1 y2.2.2.2.2.2.1 y2.2.2.2.2.2.2.1 y2.2.2.2.2.2.2.2.1 y2.2.2.2.2.2.2.2.2.1 y2.2.2.2.2.2.2.2.2.2.1)))) else (some ((-1), (x19_0, x19_1, x19_2, x19_3, x19_4, x19_5, x19_6, x19_7, x19_8, ()))))
def slices_IndexFunc_list_Cond_list_Cond_at_mastref2_eachCond_c1.f (k : Nat) (a0 : (List T_list_Cond)) (a19_0 : Int) (a19_1 : ByteArray) (a19_2 : Int) (a19_3 : Bool) (a19_4 : Int) (a19_5 : ByteArray) (a19_6 : (List T_api_Value)) (a19_7 : (List ByteArray)) (a19_8 : (List T_list_Cond)) : Option (Int × Int × ByteArray × Int × Bool × Int × ByteArray × (List T_api_Value) × (List ByteArray) × (List T_list_Cond) × Unit) := (slices_IndexFunc_list_Cond_list_Cond_at_mastref2_eachCond_c1.l0 k a0 (llen a0) 0 a19_0 a19_1 a19_2 a19_3 a19_4 a19_5 a19_6 a19_7 a19_8)
def slices_IndexFunc_list_Cond_list_Cond_at_mastref2_eachCond_c1.O (k : Nat) : Oracle sg := fun n => lkp n [(132, mastref2_eachCond_c1.e)]
def slices_IndexFunc_list_Cond_list_Cond_at_mastref2_eachCond_c1.a : Ann := (.n .z (.n (.n .z (.lp 0 .z)) .z))
def slices_IndexFunc_list_Cond_list_Cond_at_mastref2_eachCond_c1.L (k : Nat) : Nat → St sg.U → Option (RT sg.U [(.int .i64)] × HL sg.U (PM.outs [(.d (.sl (.st 0))), (.clo 132 [19]), (.gh 19 [.d (.int .i64), .d .str, .d (.int .i64), .d .bool, .d (.int .i64), .d .str, .d (.sl (.st 1)), .d (.sl .str), .d (.sl (.st 0))])])) := labs [(0, labOf sg [(0, (.d (.sl (.st 0)))), (1, (.clo 132 [19])), (7, (.d (.int .i64))), (8, (.d (.int .i64))), (19, (.gh [.d (.int .i64), .d .str, .d (.int .i64), .d .bool, .d (.int .i64), .d .str, .d (.sl (.st 1)), .d (.sl .str), .d (.sl (.st 0))]))] (fun h => slices_IndexFunc_list_Cond_list_Cond_at_mastref2_eachCond_c1.l0 k h.1 h.2.1 h.2.2.1 h.2.2.2.1 h.2.2.2.2.1 h.2.2.2.2.2.1 h.2.2.2.2.2.2.1 h.2.2.2.2.2.2.2.1 h.2.2.2.2.2.2.2.2.1 h.2.2.2.2.2.2.2.2.2.1 h.2.2.2.2.2.2.2.2.2.2.1 h.2.2.2.2.2.2.2.2.2.2.2.1))]
theorem slices_IndexFunc_list_Cond_list_Cond_at_mastref2_eachCond_c1.l0_eq (k : Nat) (x0 : (List T_list_Cond)) (x7 : Int) (x8 : Int) (x19_0 : Int) (x19_1 : ByteArray) (x19_2 : Int) (x19_3 : Bool) (x19_4 : Int) (x19_5 : ByteArray) (x19_6 : (List T_api_Value)) (x19_7 : (List ByteArray)) (x19_8 : (List T_list_Cond)) : slices_IndexFunc_list_Cond_list_Cond_at_mastref2_eachCond_c1.l0 (k + 1) x0 x7 x8 x19_0 x19_1 x19_2 x19_3 x19_4 x19_5 x19_6 x19_7 x19_8 = runFrom (C := ctx) (slices_IndexFunc_list_Cond_list_Cond_at_mastref2_eachCond_c1.O k) ⟨19, [], [19]⟩ (slices_IndexFunc_list_Cond_list_Cond_at_mastref2_eachCond_c1.L k) (Tryz.f216.body.getD .skip) slices_IndexFunc_list_Cond_list_Cond_at_mastref2_eachCond_c1.a 0 (endR ctx [(.int .i64)] [(.tmp 4)] [(.d (.sl (.st 0))), (.clo 132 [19]), (.gh 19 [.d (.int .i64), .d .str, .d (.int .i64), .d .bool, .d (.int .i64), .d .str, .d (.sl (.st 1)), .d (.sl .str), .d (.sl (.st 0))])]) (encD [(0, (.d (.sl (.st 0)))), (1, (.clo 132 [19])), (7, (.d (.int .i64))), (8, (.d (.int .i64))), (19, (.gh [.d (.int .i64), .d .str, .d (.int .i64), .d .bool, .d (.int .i64), .d .str, .d (.sl (.st 1)), .d (.sl .str), .d (.sl (.st 0))]))] (x0, x7, x8, x19_0, x19_1, x19_2, x19_3, x19_4, x19_5, x19_6, x19_7, x19_8, ()) (startD sg.U ⟨19, [], [19]⟩ [(0, (.d (.sl (.st 0)))), (1, (.clo 132 [19])), (7, (.d (.int .i64))), (8, (.d (.int .i64))), (19, (.gh [.d (.int .i64), .d .str, .d (.int .i64), .d .bool, .d (.int .i64), .d .str, .d (.sl (.st 1)), .d (.sl .str), .d (.sl (.st 0))]))])) := by
  rw [slices_IndexFunc_list_Cond_list_Cond_at_mastref2_eachCond_c1.l0]
  kernel_rfl
theorem slices_IndexFunc_list_Cond_list_Cond_at_mastref2_eachCond_c1.f_eq (k : Nat) (a0 : (List T_list_Cond)) (a19_0 : Int) (a19_1 : ByteArray) (a19_2 : Int) (a19_3 : Bool) (a19_4 : Int) (a19_5 : ByteArray) (a19_6 : (List T_api_Value)) (a19_7 : (List ByteArray)) (a19_8 : (List T_list_Cond)) : slices_IndexFunc_list_Cond_list_Cond_at_mastref2_eachCond_c1.f k a0 a19_0 a19_1 a19_2 a19_3 a19_4 a19_5 a19_6 a19_7 a19_8 = codeK (C := ctx) (slices_IndexFunc_list_Cond_list_Cond_at_mastref2_eachCond_c1.O k) ⟨19, [], [19]⟩ (slices_IndexFunc_list_Cond_list_Cond_at_mastref2_eachCond_c1.L k) (Tryz.f216.body.getD .skip) slices_IndexFunc_list_Cond_list_Cond_at_mastref2_eachCond_c1.a (endR ctx [(.int .i64)] [(.tmp 4)] [(.d (.sl (.st 0))), (.clo 132 [19]), (.gh 19 [.d (.int .i64), .d .str, .d (.int .i64), .d .bool, .d (.int .i64), .d .str, .d (.sl (.st 1)), .d (.sl .str), .d (.sl (.st 0))])]) (slotsOf sg.U 0 [(.d (.sl (.st 0))), (.clo 132 [19]), (.gh 19 [.d (.int .i64), .d .str, .d (.int .i64), .d .bool, .d (.int .i64), .d .str, .d (.sl (.st 1)), .d (.sl .str), .d (.sl (.st 0))])] (a0, a19_0, a19_1, a19_2, a19_3, a19_4, a19_5, a19_6, a19_7, a19_8, ()) (emptyG sg.U (PM.gs [(.d (.sl (.st 0))), (.clo 132 [19]), (.gh 19 [.d (.int .i64), .d .str, .d (.int .i64), .d .bool, .d (.int .i64), .d .str, .d (.sl (.st 1)), .d (.sl .str), .d (.sl (.st 0))])]))) := by
  unfold slices_IndexFunc_list_Cond_list_Cond_at_mastref2_eachCond_c1.f
  kernel_rfl
def slices_IndexFunc_list_Cond_list_Cond_at_mastref2_eachCond_c1.e (k : Nat) : Entry sg := entryR sg [(.d (.sl (.st 0))), (.clo 132 [19]), (.gh 19 [.d (.int .i64), .d .str, .d (.int .i64), .d .bool, .d (.int .i64), .d .str, .d (.sl (.st 1)), .d (.sl .str), .d (.sl (.st 0))])] [(.int .i64)] (fun h => slices_IndexFunc_list_Cond_list_Cond_at_mastref2_eachCond_c1.f k h.1 h.2.1 h.2.2.1 h.2.2.2.1 h.2.2.2.2.1 h.2.2.2.2.2.1 h.2.2.2.2.2.2.1 h.2.2.2.2.2.2.2.1 h.2.2.2.2.2.2.2.2.1 h.2.2.2.2.2.2.2.2.2.1)
def slices_IndexFunc_list_Cond_list_Cond_at_mastref2_eachCond_c1.T : List (Lb sg (RT sg.U [(.int .i64)] × HL sg.U (PM.outs [(.d (.sl (.st 0))), (.clo 132 [19]), (.gh 19 [.d (.int .i64), .d .str, .d (.int .i64), .d .bool, .d (.int .i64), .d .str, .d (.sl (.st 1)), .d (.sl .str), .d (.sl (.st 0))])]))) := [⟨0, [(0, (.d (.sl (.st 0)))), (1, (.clo 132 [19])), (7, (.d (.int .i64))), (8, (.d (.int .i64))), (19, (.gh [.d (.int .i64), .d .str, .d (.int .i64), .d .bool, .d (.int .i64), .d .str, .d (.sl (.st 1)), .d (.sl .str), .d (.sl (.st 0))]))], fun k h => slices_IndexFunc_list_Cond_list_Cond_at_mastref2_eachCond_c1.l0 k h.1 h.2.1 h.2.2.1 h.2.2.2.1 h.2.2.2.2.1 h.2.2.2.2.2.1 h.2.2.2.2.2.2.1 h.2.2.2.2.2.2.2.1 h.2.2.2.2.2.2.2.2.1 h.2.2.2.2.2.2.2.2.2.1 h.2.2.2.2.2.2.2.2.2.2.1 h.2.2.2.2.2.2.2.2.2.2.2.1⟩]
theorem slices_IndexFunc_list_Cond_list_Cond_at_mastref2_eachCond_c1.ok (k : Nat) : (slices_IndexFunc_list_Cond_list_Cond_at_mastref2_eachCond_c1.e k).Sound Tryz.prog ctx 216 :=
  entryR_ok base_ok mo (fn := Tryz.f216) (b := (Tryz.f216.body.getD .skip)) (pm := [(.d (.sl (.st 0))), (.clo 132 [19]), (.gh 19 [.d (.int .i64), .d .str, .d (.int .i64), .d .bool, .d (.int .i64), .d .str, .d (.sl (.st 1)), .d (.sl .str), .d (.sl (.st 0))])]) (rs := [(.int .i64)]) (an := slices_IndexFunc_list_Cond_list_Cond_at_mastref2_eachCond_c1.a) (N := 19) (vars := [(.tmp 4)]) Tryz.func216 (by kernel_rfl) (by kernel_rfl) (by kernel_rfl) (by kernel_rfl) (by kernel_rfl) (by kernel_rfl) (by kernel_rfl) (by kernel_rfl) (O := slices_IndexFunc_list_Cond_list_Cond_at_mastref2_eachCond_c1.O)
    (fun k => by unfold slices_IndexFunc_list_Cond_list_Cond_at_mastref2_eachCond_c1.O; exact oracle_of (P := Tryz.prog) (C := ctx) ⟨(mastref2_eachCond_c1.ok), trivial⟩) slices_IndexFunc_list_Cond_list_Cond_at_mastref2_eachCond_c1.T ⟨⟨by kernel_rfl, fun _ => by first | rfl | rw [slices_IndexFunc_list_Cond_list_Cond_at_mastref2_eachCond_c1.l0], fun k h => slices_IndexFunc_list_Cond_list_Cond_at_mastref2_eachCond_c1.l0_eq k h.1 h.2.1 h.2.2.1 h.2.2.2.1 h.2.2.2.2.1 h.2.2.2.2.2.1 h.2.2.2.2.2.2.1 h.2.2.2.2.2.2.2.1 h.2.2.2.2.2.2.2.2.1 h.2.2.2.2.2.2.2.2.2.1 h.2.2.2.2.2.2.2.2.2.2.1 h.2.2.2.2.2.2.2.2.2.2.2.1⟩, trivial⟩ k (fun h => slices_IndexFunc_list_Cond_list_Cond_at_mastref2_eachCond_c1.f_eq k h.1 h.2.1 h.2.2.1 h.2.2.2.1 h.2.2.2.2.1 h.2.2.2.2.2.1 h.2.2.2.2.2.2.1 h.2.2.2.2.2.2.2.1 h.2.2.2.2.2.2.2.2.1 h.2.2.2.2.2.2.2.2.2.1)
def slices_ContainsFunc_list_Cond_list_Cond_at_mastref2_eachCond_c1.f (k : Nat) (a0 : (List T_list_Cond)) (a9_0 : Int) (a9_1 : ByteArray) (a9_2 : Int) (a9_3 : Bool) (a9_4 : Int) (a9_5 : ByteArray) (a9_6 : (List T_api_Value)) (a9_7 : (List ByteArray)) (a9_8 : (List T_list_Cond)) : Option (Bool × Int × ByteArray × Int × Bool × Int × ByteArray × (List T_api_Value) × (List ByteArray) × (List T_list_Cond) × Unit) := ((slices_IndexFunc_list_Cond_list_Cond_at_mastref2_eachCond_c1.f k a0 a9_0 a9_1 a9_2 a9_3 a9_4 a9_5 a9_6 a9_7 a9_8).bind fun y1 => (some ((ile 0 y1.1), (y1.2.1, y1.2.2.1, y1.2.2.2.1, y1.2.2.2.2.1, y1.2.2.2.2.2.1, y1.2.2.2.2.2.2.1, y1.2.2.2.2.2.2.2.1, y1.2.2.2.2.2.2.2.2.1, y1.2.2.2.2.2.2.2.2.2.1, ()))))
def slices_ContainsFunc_list_Cond_list_Cond_at_mastref2_eachCond_c1.O (k : Nat) : Oracle sg := fun n => lkp n [(216, slices_IndexFunc_list_Cond_list_Cond_at_mastref2_eachCond_c1.e k)]
def slices_ContainsFunc_list_Cond_list_Cond_at_mastref2_eachCond_c1.a : Ann := .z
def slices_ContainsFunc_list_Cond_list_Cond_at_mastref2_eachCond_c1.L (k : Nat) : Nat → St sg.U → Option (RT sg.U [.bool] × HL sg.U (PM.outs [(.d (.sl (.st 0))), (.clo 132 [9]), (.gh 9 [.d (.int .i64), .d .str, .d (.int .i64), .d .bool, .d (.int .i64), .d .str, .d (.sl (.st 1)), .d (.sl .str), .d (.sl (.st 0))])])) := labs []
theorem slices_ContainsFunc_list_Cond_list_Cond_at_mastref2_eachCond_c1.f_eq (k : Nat) (a0 : (List T_list_Cond)) (a9_0 : Int) (a9_1 : ByteArray) (a9_2 : Int) (a9_3 : Bool) (a9_4 : Int) (a9_5 : ByteArray) (a9_6 : (List T_api_Value)) (a9_7 : (List ByteArray)) (a9_8 : (List T_list_Cond)) : slices_ContainsFunc_list_Cond_list_Cond_at_mastref2_eachCond_c1.f k a0 a9_0 a9_1 a9_2 a9_3 a9_4 a9_5 a9_6 a9_7 a9_8 = codeK (C := ctx) (slices_ContainsFunc_list_Cond_list_Cond_at_mastref2_eachCond_c1.O k) ⟨9, [], [9]⟩ (slices_ContainsFunc_list_Cond_list_Cond_at_mastref2_eachCond_c1.L k) (Tryz.f125.body.getD .skip) slices_ContainsFunc_list_Cond_list_Cond_at_mastref2_eachCond_c1.a (endR ctx [.bool] [(.tmp 4)] [(.d (.sl (.st 0))), (.clo 132 [9]), (.gh 9 [.d (.int .i64), .d .str, .d (.int .i64), .d .bool, .d (.int .i64), .d .str, .d (.sl (.st 1)), .d (.sl .str), .d (.sl (.st 0))])]) (slotsOf sg.U 0 [(.d (.sl (.st 0))), (.clo 132 [9]), (.gh 9 [.d (.int .i64), .d .str, .d (.int .i64), .d .bool, .d (.int .i64), .d .str, .d (.sl (.st 1)), .d (.sl .str), .d (.sl (.st 0))])] (a0, a9_0, a9_1, a9_2, a9_3, a9_4, a9_5, a9_6, a9_7, a9_8, ()) (emptyG sg.U (PM.gs [(.d (.sl (.st 0))), (.clo 132 [9]), (.gh 9 [.d (.int .i64), .d .str, .d (.int .i64), .d .bool, .d (.int .i64), .d .str, .d (.sl (.st 1)), .d (.sl .str), .d (.sl (.st 0))])]))) := by
  unfold slices_ContainsFunc_list_Cond_list_Cond_at_mastref2_eachCond_c1.f
  kernel_rfl
def slices_ContainsFunc_list_Cond_list_Cond_at_mastref2_eachCond_c1.e (k : Nat) : Entry sg := entryR sg [(.d (.sl (.st 0))), (.clo 132 [9]), (.gh 9 [.d (.int .i64), .d .str, .d (.int .i64), .d .bool, .d (.int .i64), .d .str, .d (.sl (.st 1)), .d (.sl .str), .d (.sl (.st 0))])] [.bool] (fun h => slices_ContainsFunc_list_Cond_list_Cond_at_mastref2_eachCond_c1.f k h.1 h.2.1 h.2.2.1 h.2.2.2.1 h.2.2.2.2.1 h.2.2.2.2.2.1 h.2.2.2.2.2.2.1 h.2.2.2.2.2.2.2.1 h.2.2.2.2.2.2.2.2.1 h.2.2.2.2.2.2.2.2.2.1)
def slices_ContainsFunc_list_Cond_list_Cond_at_mastref2_eachCond_c1.T : List (Lb sg (RT sg.U [.bool] × HL sg.U (PM.outs [(.d (.sl (.st 0))), (.clo 132 [9]), (.gh 9 [.d (.int .i64), .d .str, .d (.int .i64), .d .bool, .d (.int .i64), .d .str, .d (.sl (.st 1)), .d (.sl .str), .d (.sl (.st 0))])]))) := []
theorem slices_ContainsFunc_list_Cond_list_Cond_at_mastref2_eachCond_c1.ok (k : Nat) : (slices_ContainsFunc_list_Cond_list_Cond_at_mastref2_eachCond_c1.e k).Sound Tryz.prog ctx 125 :=
  entryR_ok base_ok mo (fn := Tryz.f125) (b := (Tryz.f125.body.getD .skip)) (pm := [(.d (.sl (.st 0))), (.clo 132 [9]), (.gh 9 [.d (.int .i64), .d .str, .d (.int .i64), .d .bool, .d (.int .i64), .d .str, .d (.sl (.st 1)), .d (.sl .str), .d (.sl (.st 0))])]) (rs := [.bool]) (an := slices_ContainsFunc_list_Cond_list_Cond_at_mastref2_eachCond_c1.a) (N := 9) (vars := [(.tmp 4)]) Tryz.func125 (by kernel_rfl) (by kernel_rfl) (by kernel_rfl) (by kernel_rfl) (by kernel_rfl) (by kernel_rfl) (by kernel_rfl) (by kernel_rfl) (O := slices_ContainsFunc_list_Cond_list_Cond_at_mastref2_eachCond_c1.O)
    (fun k => by unfold slices_ContainsFunc_list_Cond_list_Cond_at_mastref2_eachCond_c1.O; exact oracle_of (P := Tryz.prog) (C := ctx) ⟨(slices_IndexFunc_list_Cond_list_Cond_at_mastref2_eachCond_c1.ok k), trivial⟩) slices_ContainsFunc_list_Cond_list_Cond_at_mastref2_eachCond_c1.T trivial k (fun h => slices_ContainsFunc_list_Cond_list_Cond_at_mastref2_eachCond_c1.f_eq k h.1 h.2.1 h.2.2.1 h.2.2.2.1 h.2.2.2.2.1 h.2.2.2.2.2.1 h.2.2.2.2.2.2.1 h.2.2.2.2.2.2.2.1 h.2.2.2.2.2.2.2.2.1 h.2.2.2.2.2.2.2.2.2.1)
def cmp_isNaN_int.f (a0 : Int) : Option (Bool) := (some (!ieq a0 a0))
def cmp_isNaN_int.O : Oracle sg := fun n => lkp n []
def cmp_isNaN_int.a : Ann := .z
def cmp_isNaN_int.L : Nat → St sg.U → Option (RT sg.U [.bool]) := labs []
theorem cmp_isNaN_int.f_eq (a0 : Int) : cmp_isNaN_int.f a0 = codeK (C := ctx) (cmp_isNaN_int.O) ⟨6, [], []⟩ (cmp_isNaN_int.L) (Tryz.f138.body.getD .skip) cmp_isNaN_int.a (endK ctx [.bool] [(.tmp 2)]) (slotsOf sg.U 0 [(.d (.int .i64))] (a0, ()) (empty sg.U)) := by
  unfold cmp_isNaN_int.f
  kernel_rfl
def cmp_isNaN_int.e : Entry sg := entryOf sg [(.d (.int .i64))] [.bool] (fun h => cmp_isNaN_int.f h.1)
def cmp_isNaN_int.T : List (Lb sg (RT sg.U [.bool])) := []
theorem cmp_isNaN_int.ok : (cmp_isNaN_int.e).Sound Tryz.prog ctx 138 :=
  entry_ok base_ok mo (fn := Tryz.f138) (b := (Tryz.f138.body.getD .skip)) (pm := [(.d (.int .i64))]) (rs := [.bool]) (an := cmp_isNaN_int.a) (N := 6) (vars := [(.tmp 2)]) Tryz.func138 (by kernel_rfl) (by kernel_rfl) (by kernel_rfl) (by kernel_rfl) (by kernel_rfl) (by kernel_rfl) (O := fun _ => cmp_isNaN_int.O)
    (fun _ => by unfold cmp_isNaN_int.O; exact oracle_of (P := Tryz.prog) (C := ctx) trivial) cmp_isNaN_int.T trivial 0 (fun h => cmp_isNaN_int.f_eq h.1)
def cmp_Compare_int.f (a0 : Int) (a1 : Int) : Option (Int) := ((cmp_isNaN_int.f a0).bind fun y1 => ((cmp_isNaN_int.f a1).bind fun y2 => (bif y1 then (bif y2 then (some 0) else (some (-1))) else (bif y2 then (some 1) else (bif (ilt a0 a1) then (some (-1)) else (bif (ilt a1 a0) then (some 1) else (some 0)))))))
def cmp_Compare_int.O : Oracle sg := fun n => lkp n [(138, cmp_isNaN_int.e)]
def cmp_Compare_int.a : Ann := .z
def cmp_Compare_int.L : Nat → St sg.U → Option (RT sg.U [(.int .i64)]) := labs []
theorem cmp_Compare_int.f_eq (a0 : Int) (a1 : Int) : cmp_Compare_int.f a0 a1 = codeK (C := ctx) (cmp_Compare_int.O) ⟨20, [], []⟩ (cmp_Compare_int.L) (Tryz.f47.body.getD .skip) cmp_Compare_int.a (endK ctx [(.int .i64)] [(.tmp 4)]) (slotsOf sg.U 0 [(.d (.int .i64)), (.d (.int .i64))] (a0, a1, ()) (empty sg.U)) := by
  unfold cmp_Compare_int.f
  kernel_rfl
def cmp_Compare_int.e : Entry sg := entryOf sg [(.d (.int .i64)), (.d (.int .i64))] [(.int .i64)] (fun h => cmp_Compare_int.f h.1 h.2.1)
def cmp_Compare_int.T : List (Lb sg (RT sg.U [(.int .i64)])) := []
theorem cmp_Compare_int.ok : (cmp_Compare_int.e).Sound Tryz.prog ctx 47 :=
  entry_ok base_ok mo (fn := Tryz.f47) (b := (Tryz.f47.body.getD .skip)) (pm := [(.d (.int .i64)), (.d (.int .i64))]) (rs := [(.int .i64)]) (an := cmp_Compare_int.a) (N := 20) (vars := [(.tmp 4)]) Tryz.func47 (by kernel_rfl) (by kernel_rfl) (by kernel_rfl) (by kernel_rfl) (by kernel_rfl) (by kernel_rfl) (O := fun _ => cmp_Compare_int.O)
    (fun _ => by unfold cmp_Compare_int.O; exact oracle_of (P := Tryz.prog) (C := ctx) ⟨(cmp_isNaN_int.ok), trivial⟩) cmp_Compare_int.T trivial 0 (fun h => cmp_Compare_int.f_eq h.1 h.2.1)
end Go.Proofs.YtmbjiadilfbooaaGreatDoor.LCondHolds
