/- The functions behind the law CondChecks, checked against the code; their summaries hold. Conditions: none. -/
import Derived.Test.YtdffbjbpolhliaaDoorLiftZ
import Derived.Test.YtdffbjbpolhliaaDoorProg
import Derived.Test.YtdffbjbpolhliaaDoorShelf
import Derived.Shelf.Strings.SlTrimAscii
namespace Go.Proofs.YtdffbjbpolhliaaDoor.LCondChecks
open Go Go.Proofs.YtdffbjbpolhliaaDoor.Lift
set_option maxRecDepth 100000
set_option linter.unusedVariables false
structure T_api_Value where
  fKind : Int
  fBool : Bool
  fInt : Int
  fText : ByteArray
  fItems : (List T_api_Value)
  fKeys : (List ByteArray)
  deriving Inhabited
structure T_list_Cond where
  fOp : Int
  fRoute : ByteArray
  fValue : T_api_Value
  fKids : (List T_list_Cond)
  deriving Inhabited
structure T_list_step where
  fkey : ByteArray
  fnumber : Int
  deriving Inhabited
abbrev sgU : Nat → Type
  | 0 => T_list_Cond
  | 1 => T_api_Value
  | 2 => T_list_step
  | _ + 3 => Unit
abbrev sgF : Nat → List Ty
  | 0 => [(.int .i64), .str, (.st 1), (.sl (.st 0))]
  | 1 => [(.int .i64), .bool, (.int .i64), .str, (.sl (.st 1)), (.sl .str)]
  | 2 => [.str, (.int .i64)]
  | _ + 3 => []
def sgO : (n : Nat) → sgU n → HL sgU (sgF n)
  | 0, x => (x.fOp, x.fRoute, x.fValue, x.fKids, ())
  | 1, x => (x.fKind, x.fBool, x.fInt, x.fText, x.fItems, x.fKeys, ())
  | 2, x => (x.fkey, x.fnumber, ())
  | _ + 3, _ => ()
def sgB : (n : Nat) → HL sgU (sgF n) → sgU n
  | 0, h => ⟨h.1, h.2.1, h.2.2.1, h.2.2.2.1⟩
  | 1, h => ⟨h.1, h.2.1, h.2.2.1, h.2.2.2.1, h.2.2.2.2.1, h.2.2.2.2.2.1⟩
  | 2, h => ⟨h.1, h.2.1⟩
  | _ + 3, _ => ()
def g_condWords : List ByteArray := [⟨#[97, 110, 100]⟩, ⟨#[111, 114]⟩, ⟨#[110, 111, 116]⟩, ⟨#[104, 97, 115]⟩, ⟨#[105, 110]⟩, ⟨#[98, 101, 103, 105, 110, 115]⟩]
def sg : Sg := { U := sgU, fl := sgF, out := sgO, bld := sgB, gl := [1], gv := fun k => lkp (α := (t : Ty) × El sgU t) k [(0, ⟨(.sl .str), g_condWords⟩)] }
def ctx : Ctx := { S := sg, ty := [(3, .d (.int .i64) 1 0), (4, .d .bool 1 0), (5, .d (.int .u8) 1 0), (9, .d .str 1 0), (22, .d (.sl (.st 1)) 88 25), (23, .d (.sl .str) 16 9), (25, .d (.st 1) 1 0), (30, .d (.int .i64) 1 0), (36, .d (.sl (.st 0)) 136 38), (38, .d (.st 0) 1 0), (107, .d (.sl (.st 2)) 24 127), (127, .d (.st 2) 1 0), (128, .d (.sl (.int .i64)) 8 3)], eqs := [] }
def c_empty : ByteArray := ⟨#[]⟩
def c_0 : ByteArray := ⟨#[48]⟩
def c_and : ByteArray := ⟨#[97, 110, 100]⟩
def c_or : ByteArray := ⟨#[111, 114]⟩
def c_not : ByteArray := ⟨#[110, 111, 116]⟩
def c_has : ByteArray := ⟨#[104, 97, 115]⟩
def c_in : ByteArray := ⟨#[105, 110]⟩
def c_begins : ByteArray := ⟨#[98, 101, 103, 105, 110, 115]⟩
def c__2e : ByteArray := ⟨#[46]⟩
def c_0123456789 : ByteArray := ⟨#[48, 49, 50, 51, 52, 53, 54, 55, 56, 57]⟩
def c_abcdefghijklmnopqrst_0e2e2cf4 : ByteArray := ⟨#[97, 98, 99, 100, 101, 102, 103, 104, 105, 106, 107, 108, 109, 110, 111, 112, 113, 114, 115, 116, 117, 118, 119, 120, 121, 122, 48, 49, 50, 51, 52, 53, 54, 55, 56, 57, 45, 95]⟩
def c__2a : ByteArray := ⟨#[42]⟩
theorem sg_ok : SgOk sg :=
  ⟨fun n h => by rcases n with _ | _ | _ | n <;> rfl, fun n => by rcases n with _ | _ | _ | n <;> rfl, fun n x => by rcases n with _ | _ | _ | n <;> rfl, fun n => by rcases n with _ | _ | _ | n <;> rfl⟩
theorem base_ok : Base Tryd.prog ctx := base_of sg_ok (by kernel_rfl) (eqOk_of (by kernel_rfl))
theorem open_ok : openB Tryd.prog ctx = true := by kernel_rfl
theorem mo : Tryd.prog.follows .mixedOrders = true := by kernel_rfl
mutual
def list_many.l0 : Nat → Int → (List T_list_Cond) → Int → Int → Option (Int)
  | 0, _, _, _, _ => none
  | k + 1, x3, x7, x8, x9 => (bif (ilt x9 x8) then ((lat x7 x9).bind fun y1 => (bif (ilt 200 x3) then (some x3) else ((list_many.f k (T_list_Cond.mk y1.fOp y1.fRoute (T_api_Value.mk y1.fValue.fKind y1.fValue.fBool y1.fValue.fInt y1.fValue.fText y1.fValue.fItems y1.fValue.fKeys) y1.fKids)).bind fun y2 => (list_many.l0 k (wadd .i64 x3 y2) x7 x8 (wadd .i64 x9 1))))) else (some x3))
def list_many.f : Nat → T_list_Cond → Option (Int)
  | 0, _ => none
  | k + 1, a0 => (list_many.l0 k 1 a0.fKids (llen a0.fKids) 0)
end
def list_many.e (k : Nat) : Entry sg := entryOf sg [(.d (.st 0))] [(.int .i64)] (fun h => list_many.f k h.1)
def list_many.O (k : Nat) : Oracle sg := fun n => lkp n [(40, list_many.e k)]
def list_many.a : Ann := (.n .z (.n .z (.n (.n .z (.lp 0 .z)) .z)))
def list_many.L (k : Nat) : Nat → St sg.U → Option (RT sg.U [(.int .i64)]) := labs [(0, labOf sg [(3, (.d (.int .i64))), (7, (.d (.sl (.st 0)))), (8, (.d (.int .i64))), (9, (.d (.int .i64)))] (fun h => list_many.l0 k h.1 h.2.1 h.2.2.1 h.2.2.2.1))]
theorem list_many.l0_eq (k : Nat) (x3 : Int) (x7 : (List T_list_Cond)) (x8 : Int) (x9 : Int) : list_many.l0 (k + 1) x3 x7 x8 x9 = runFrom (C := ctx) (list_many.O k) ⟨21, [], []⟩ (list_many.L k) (Tryd.f40.body.getD .skip) list_many.a 0 (endK ctx [(.int .i64)] [(.tmp 2)]) (encD [(3, (.d (.int .i64))), (7, (.d (.sl (.st 0)))), (8, (.d (.int .i64))), (9, (.d (.int .i64)))] (x3, x7, x8, x9, ()) (startD sg.U ⟨21, [], []⟩ [(3, (.d (.int .i64))), (7, (.d (.sl (.st 0)))), (8, (.d (.int .i64))), (9, (.d (.int .i64)))])) := by
  rw [list_many.l0]
  kernel_rfl
theorem list_many.f_eq (k : Nat) (a0 : T_list_Cond) : list_many.f (k + 1) a0 = codeK (C := ctx) (list_many.O k) ⟨21, [], []⟩ (list_many.L k) (Tryd.f40.body.getD .skip) list_many.a (endK ctx [(.int .i64)] [(.tmp 2)]) (slotsOf sg.U 0 [(.d (.st 0))] (a0, ()) (empty sg.U)) := by
  rw [list_many.f]
  kernel_rfl
def list_many.T : List (Lb sg (RT sg.U [(.int .i64)])) := [⟨0, [(3, (.d (.int .i64))), (7, (.d (.sl (.st 0)))), (8, (.d (.int .i64))), (9, (.d (.int .i64)))], fun k h => list_many.l0 k h.1 h.2.1 h.2.2.1 h.2.2.2.1⟩]
theorem list_many.ok : ∀ k : Nat, (list_many.e k).Sound Tryd.prog ctx 40 :=
  entry_rec base_ok mo (fn := Tryd.f40) (b := (Tryd.f40.body.getD .skip)) (pm := [(.d (.st 0))]) (rs := [(.int .i64)]) (an := list_many.a) (N := 21) (vars := [(.tmp 2)]) Tryd.func40 (by kernel_rfl) (by kernel_rfl) (by kernel_rfl) (by kernel_rfl) (by kernel_rfl) (by kernel_rfl) (O := list_many.O) list_many.T ⟨⟨by kernel_rfl, fun _ => by first | rfl | rw [list_many.l0], fun k h => list_many.l0_eq k h.1 h.2.1 h.2.2.1 h.2.2.2.1⟩, trivial⟩ (F := fun k h => list_many.f k h.1) (fun _ => by first | rfl | rw [list_many.f]) (fun k h => list_many.f_eq k h.1)
    (fun k own => by unfold list_many.O; exact oracle_of (P := Tryd.prog) (C := ctx) ⟨own, trivial⟩)
mutual
def list_deep.l0 : Nat → Int → (List T_list_Cond) → Int → Int → Option (Int)
  | 0, _, _, _, _ => none
  | k + 1, x3, x7, x8, x9 => (bif (ilt x9 x8) then ((lat x7 x9).bind fun y1 => ((list_deep.f k (T_list_Cond.mk y1.fOp y1.fRoute (T_api_Value.mk y1.fValue.fKind y1.fValue.fBool y1.fValue.fInt y1.fValue.fText y1.fValue.fItems y1.fValue.fKeys) y1.fKids)).bind fun y2 => (list_deep.l0 k (imax x3 y2) x7 x8 (wadd .i64 x9 1)))) else (some (wadd .i64 x3 1)))
def list_deep.f : Nat → T_list_Cond → Option (Int)
  | 0, _ => none
  | k + 1, a0 => (list_deep.l0 k 0 a0.fKids (llen a0.fKids) 0)
end
def list_deep.e (k : Nat) : Entry sg := entryOf sg [(.d (.st 0))] [(.int .i64)] (fun h => list_deep.f k h.1)
def list_deep.O (k : Nat) : Oracle sg := fun n => lkp n [(41, list_deep.e k)]
def list_deep.a : Ann := (.n .z (.n .z (.n (.n .z (.lp 0 .z)) .z)))
def list_deep.L (k : Nat) : Nat → St sg.U → Option (RT sg.U [(.int .i64)]) := labs [(0, labOf sg [(3, (.d (.int .i64))), (7, (.d (.sl (.st 0)))), (8, (.d (.int .i64))), (9, (.d (.int .i64)))] (fun h => list_deep.l0 k h.1 h.2.1 h.2.2.1 h.2.2.2.1))]
theorem list_deep.l0_eq (k : Nat) (x3 : Int) (x7 : (List T_list_Cond)) (x8 : Int) (x9 : Int) : list_deep.l0 (k + 1) x3 x7 x8 x9 = runFrom (C := ctx) (list_deep.O k) ⟨20, [], []⟩ (list_deep.L k) (Tryd.f41.body.getD .skip) list_deep.a 0 (endK ctx [(.int .i64)] [(.tmp 2)]) (encD [(3, (.d (.int .i64))), (7, (.d (.sl (.st 0)))), (8, (.d (.int .i64))), (9, (.d (.int .i64)))] (x3, x7, x8, x9, ()) (startD sg.U ⟨20, [], []⟩ [(3, (.d (.int .i64))), (7, (.d (.sl (.st 0)))), (8, (.d (.int .i64))), (9, (.d (.int .i64)))])) := by
  rw [list_deep.l0]
  kernel_rfl
theorem list_deep.f_eq (k : Nat) (a0 : T_list_Cond) : list_deep.f (k + 1) a0 = codeK (C := ctx) (list_deep.O k) ⟨20, [], []⟩ (list_deep.L k) (Tryd.f41.body.getD .skip) list_deep.a (endK ctx [(.int .i64)] [(.tmp 2)]) (slotsOf sg.U 0 [(.d (.st 0))] (a0, ()) (empty sg.U)) := by
  rw [list_deep.f]
  kernel_rfl
def list_deep.T : List (Lb sg (RT sg.U [(.int .i64)])) := [⟨0, [(3, (.d (.int .i64))), (7, (.d (.sl (.st 0)))), (8, (.d (.int .i64))), (9, (.d (.int .i64)))], fun k h => list_deep.l0 k h.1 h.2.1 h.2.2.1 h.2.2.2.1⟩]
theorem list_deep.ok : ∀ k : Nat, (list_deep.e k).Sound Tryd.prog ctx 41 :=
  entry_rec base_ok mo (fn := Tryd.f41) (b := (Tryd.f41.body.getD .skip)) (pm := [(.d (.st 0))]) (rs := [(.int .i64)]) (an := list_deep.a) (N := 20) (vars := [(.tmp 2)]) Tryd.func41 (by kernel_rfl) (by kernel_rfl) (by kernel_rfl) (by kernel_rfl) (by kernel_rfl) (by kernel_rfl) (O := list_deep.O) list_deep.T ⟨⟨by kernel_rfl, fun _ => by first | rfl | rw [list_deep.l0], fun k h => list_deep.l0_eq k h.1 h.2.1 h.2.2.1 h.2.2.2.1⟩, trivial⟩ (F := fun k h => list_deep.f k h.1) (fun _ => by first | rfl | rw [list_deep.f]) (fun k h => list_deep.f_eq k h.1)
    (fun k own => by unfold list_deep.O; exact oracle_of (P := Tryd.prog) (C := ctx) ⟨own, trivial⟩)
def list_zero.f (a0 : T_api_Value) : Option (Bool) := (some (bif (bif (bif (bif (bif (ieq a0.fKind 0) then (!a0.fBool) else false) then (ieq a0.fInt 0) else false) then (seq a0.fText c_empty) else false) then (ieq (llen a0.fItems) 0) else false) then (ieq (llen a0.fKeys) 0) else false))
def list_zero.O : Oracle sg := fun n => lkp n []
def list_zero.a : Ann := .z
def list_zero.L : Nat → St sg.U → Option (RT sg.U [.bool]) := labs []
theorem list_zero.f_eq (a0 : T_api_Value) : list_zero.f a0 = codeK (C := ctx) (list_zero.O) ⟨33, [], []⟩ (list_zero.L) (Tryd.f91.body.getD .skip) list_zero.a (endK ctx [.bool] [(.tmp 2)]) (slotsOf sg.U 0 [(.d (.st 1))] (a0, ()) (empty sg.U)) := by
  unfold list_zero.f
  kernel_rfl
def list_zero.e : Entry sg := entryOf sg [(.d (.st 1))] [.bool] (fun h => list_zero.f h.1)
def list_zero.T : List (Lb sg (RT sg.U [.bool])) := []
theorem list_zero.ok : (list_zero.e).Sound Tryd.prog ctx 91 :=
  entry_ok base_ok mo (fn := Tryd.f91) (b := (Tryd.f91.body.getD .skip)) (pm := [(.d (.st 1))]) (rs := [.bool]) (an := list_zero.a) (N := 33) (vars := [(.tmp 2)]) Tryd.func91 (by kernel_rfl) (by kernel_rfl) (by kernel_rfl) (by kernel_rfl) (by kernel_rfl) (by kernel_rfl) (O := fun _ => list_zero.O)
    (fun _ => by unfold list_zero.O; exact oracle_of (P := Tryd.prog) (C := ctx) trivial) list_zero.T trivial 0 (fun h => list_zero.f_eq h.1)
def list_isSmall.f (a0 : Int) : Option (Bool) := (some (bif (ile 97 a0) then (ile a0 122) else false))
def list_isSmall.O : Oracle sg := fun n => lkp n []
def list_isSmall.a : Ann := .z
def list_isSmall.L : Nat → St sg.U → Option (RT sg.U [.bool]) := labs []
theorem list_isSmall.f_eq (a0 : Int) : list_isSmall.f a0 = codeK (C := ctx) (list_isSmall.O) ⟨9, [], []⟩ (list_isSmall.L) (Tryd.f137.body.getD .skip) list_isSmall.a (endK ctx [.bool] [(.tmp 2)]) (slotsOf sg.U 0 [(.d (.int .u8))] (a0, ()) (empty sg.U)) := by
  unfold list_isSmall.f
  kernel_rfl
def list_isSmall.e : Entry sg := entryOf sg [(.d (.int .u8))] [.bool] (fun h => list_isSmall.f h.1)
def list_isSmall.T : List (Lb sg (RT sg.U [.bool])) := []
theorem list_isSmall.ok : (list_isSmall.e).Sound Tryd.prog ctx 137 :=
  entry_ok base_ok mo (fn := Tryd.f137) (b := (Tryd.f137.body.getD .skip)) (pm := [(.d (.int .u8))]) (rs := [.bool]) (an := list_isSmall.a) (N := 9) (vars := [(.tmp 2)]) Tryd.func137 (by kernel_rfl) (by kernel_rfl) (by kernel_rfl) (by kernel_rfl) (by kernel_rfl) (by kernel_rfl) (O := fun _ => list_isSmall.O)
    (fun _ => by unfold list_isSmall.O; exact oracle_of (P := Tryd.prog) (C := ctx) trivial) list_isSmall.T trivial 0 (fun h => list_isSmall.f_eq h.1)
def list_isDigit.f (a0 : Int) : Option (Bool) := (some (bif (ile 48 a0) then (ile a0 57) else false))
def list_isDigit.O : Oracle sg := fun n => lkp n []
def list_isDigit.a : Ann := .z
def list_isDigit.L : Nat → St sg.U → Option (RT sg.U [.bool]) := labs []
theorem list_isDigit.f_eq (a0 : Int) : list_isDigit.f a0 = codeK (C := ctx) (list_isDigit.O) ⟨9, [], []⟩ (list_isDigit.L) (Tryd.f138.body.getD .skip) list_isDigit.a (endK ctx [.bool] [(.tmp 2)]) (slotsOf sg.U 0 [(.d (.int .u8))] (a0, ()) (empty sg.U)) := by
  unfold list_isDigit.f
  kernel_rfl
def list_isDigit.e : Entry sg := entryOf sg [(.d (.int .u8))] [.bool] (fun h => list_isDigit.f h.1)
def list_isDigit.T : List (Lb sg (RT sg.U [.bool])) := []
theorem list_isDigit.ok : (list_isDigit.e).Sound Tryd.prog ctx 138 :=
  entry_ok base_ok mo (fn := Tryd.f138) (b := (Tryd.f138.body.getD .skip)) (pm := [(.d (.int .u8))]) (rs := [.bool]) (an := list_isDigit.a) (N := 9) (vars := [(.tmp 2)]) Tryd.func138 (by kernel_rfl) (by kernel_rfl) (by kernel_rfl) (by kernel_rfl) (by kernel_rfl) (by kernel_rfl) (O := fun _ => list_isDigit.O)
    (fun _ => by unfold list_isDigit.O; exact oracle_of (P := Tryd.prog) (C := ctx) trivial) list_isDigit.T trivial 0 (fun h => list_isDigit.f_eq h.1)
def list_isKey.l0 : Nat → ByteArray → Int → Option (Bool)
  | 0, _, _ => none
  | k + 1, x0, x3 => (bif (ilt x3 (slen x0)) then ((sat x0 x3).bind fun y3 => ((list_isSmall.f y3).bind fun y4 => (bif (!y4) then ((sat x0 x3).bind fun y5 => ((list_isDigit.f y5).bind fun y6 => (bif (!y6) then ((sat x0 x3).bind fun y7 => (bif (!ieq y7 45) then ((sat x0 x3).bind fun y8 => (bif (!ieq y8 95) then (some false) else (list_isKey.l0 k x0 (wadd .i64 x3 1)))) else (list_isKey.l0 k x0 (wadd .i64 x3 1)))) else (list_isKey.l0 k x0 (wadd .i64 x3 1))))) else (list_isKey.l0 k x0 (wadd .i64 x3 1))))) else (some true))
def list_isKey.f (k : Nat) (a0 : ByteArray) : Option (Bool) := (bif (bif (seq a0 c_empty) then true else (ilt 40 (slen a0))) then (some false) else ((sat a0 0).bind fun y1 => ((list_isSmall.f y1).bind fun y2 => (bif (!y2) then (some false) else (list_isKey.l0 k a0 1)))))
def list_isKey.O (k : Nat) : Oracle sg := fun n => lkp n [(137, list_isSmall.e), (138, list_isDigit.e)]
def list_isKey.a : Ann := (.n .z (.n .z (.n (.n .z (.lp 0 .z)) .z)))
def list_isKey.L (k : Nat) : Nat → St sg.U → Option (RT sg.U [.bool]) := labs [(0, labOf sg [(0, (.d .str)), (3, (.d (.int .i64)))] (fun h => list_isKey.l0 k h.1 h.2.1))]
theorem list_isKey.l0_eq (k : Nat) (x0 : ByteArray) (x3 : Int) : list_isKey.l0 (k + 1) x0 x3 = runFrom (C := ctx) (list_isKey.O k) ⟨47, [], []⟩ (list_isKey.L k) (Tryd.f115.body.getD .skip) list_isKey.a 0 (endK ctx [.bool] [(.tmp 2)]) (encD [(0, (.d .str)), (3, (.d (.int .i64)))] (x0, x3, ()) (startD sg.U ⟨47, [], []⟩ [(0, (.d .str)), (3, (.d (.int .i64)))])) := by
  rw [list_isKey.l0]
  kernel_rfl
theorem list_isKey.f_eq (k : Nat) (a0 : ByteArray) : list_isKey.f k a0 = codeK (C := ctx) (list_isKey.O k) ⟨47, [], []⟩ (list_isKey.L k) (Tryd.f115.body.getD .skip) list_isKey.a (endK ctx [.bool] [(.tmp 2)]) (slotsOf sg.U 0 [(.d .str)] (a0, ()) (empty sg.U)) := by
  unfold list_isKey.f
  kernel_rfl
def list_isKey.e (k : Nat) : Entry sg := entryOf sg [(.d .str)] [.bool] (fun h => list_isKey.f k h.1)
def list_isKey.T : List (Lb sg (RT sg.U [.bool])) := [⟨0, [(0, (.d .str)), (3, (.d (.int .i64)))], fun k h => list_isKey.l0 k h.1 h.2.1⟩]
theorem list_isKey.ok (k : Nat) : (list_isKey.e k).Sound Tryd.prog ctx 115 :=
  entry_ok base_ok mo (fn := Tryd.f115) (b := (Tryd.f115.body.getD .skip)) (pm := [(.d .str)]) (rs := [.bool]) (an := list_isKey.a) (N := 47) (vars := [(.tmp 2)]) Tryd.func115 (by kernel_rfl) (by kernel_rfl) (by kernel_rfl) (by kernel_rfl) (by kernel_rfl) (by kernel_rfl) (O := list_isKey.O)
    (fun k => by unfold list_isKey.O; exact oracle_of (P := Tryd.prog) (C := ctx) ⟨(list_isSmall.ok), ⟨(list_isDigit.ok), trivial⟩⟩) list_isKey.T ⟨⟨by kernel_rfl, fun _ => by first | rfl | rw [list_isKey.l0], fun k h => list_isKey.l0_eq k h.1 h.2.1⟩, trivial⟩ k (fun h => list_isKey.f_eq k h.1)
mutual
def list_steps.l0 : Nat → ByteArray → (List T_list_step) → Int → Int → Option ((List T_list_step) × Bool)
  | 0, _, _, _, _ => none
  | k + 1, x0, x4, x5, x6 => (bif (ile x6 (slen x0)) then (bif (ilt x6 (slen x0)) then ((sat x0 x6).bind fun y1 => (bif (!ieq y1 46) then (list_steps.l0 k x0 x4 x5 (wadd .i64 x6 1)) else (list_steps.l1 k x0 x4 x5 x6))) else (list_steps.l1 k x0 x4 x5 x6)) else (some (x4, true)))
def list_steps.l1 : Nat → ByteArray → (List T_list_step) → Int → Int → Option ((List T_list_step) × Bool)
  | 0, _, _, _, _ => none
  | k + 1, x0, x4, x5, x6 => ((ssub x0 x5 x6).bind fun y2 => ((list_isKey.f k y2).bind fun y3 => (bif y3 then ((lapp 24 x4 [(T_list_step.mk y2 0)]).bind fun y4 => (list_steps.l0 k x0 y4 (wadd .i64 x6 1) (wadd .i64 x6 1))) else (list_steps.l2 k x0 x4 (wadd .i64 x6 1) x6 y2 0 0))))
def list_steps.l2 : Nat → ByteArray → (List T_list_step) → Int → Int → ByteArray → Int → Int → Option ((List T_list_step) × Bool)
  | 0, _, _, _, _, _, _, _ => none
  | k + 1, x0, x4, x5, x6, x7, x8, x9 => (bif (ilt x9 (slen x7)) then ((sat x7 x9).bind fun y5 => ((list_isDigit.f y5).bind fun y6 => (bif (bif (!y6) then true else (ilt 3 x9)) then (some ([], false)) else ((sat x7 x9).bind fun y7 => (list_steps.l2 k x0 x4 x5 x6 x7 (wadd .i64 (wmul .i64 10 x8) (wcv .i64 (wsub .u8 y7 48))) (wadd .i64 x9 1)))))) else (bif (seq x7 c_empty) then (some ([], false)) else ((sat x7 0).bind fun y8 => (bif (bif (ieq y8 48) then (!seq x7 c_0) else false) then (some ([], false)) else ((lapp 24 x4 [(T_list_step.mk c_empty x8)]).bind fun y9 => (list_steps.l0 k x0 y9 x5 (wadd .i64 x6 1)))))))
end
def list_steps.f (k : Nat) (a0 : ByteArray) : Option ((List T_list_step) × Bool) := (bif (ilt 400 (slen a0)) then (some ([], false)) else (bif (seq a0 c_empty) then (some ([], true)) else (list_steps.l0 k a0 [] 0 0)))
def list_steps.O (k : Nat) : Oracle sg := fun n => lkp n [(115, list_isKey.e k), (138, list_isDigit.e)]
def list_steps.a : Ann := (.n .z (.n .z (.n .z (.n .z (.n (.n .z (.lp 0 (.n .z (.n (.n .z (.lab 1 (.n .z (.n .z (.n .z (.n .z (.n (.n .z (.lp 2 .z)) .z))))))) .z)))) .z)))))
def list_steps.L (k : Nat) : Nat → St sg.U → Option (RT sg.U [(.sl (.st 2)), .bool]) := labs [(0, labOf sg [(0, (.d .str)), (4, (.row 127 (.st 2))), (5, (.d (.int .i64))), (6, (.d (.int .i64)))] (fun h => list_steps.l0 k h.1 h.2.1 h.2.2.1 h.2.2.2.1)), (1, labOf sg [(0, (.d .str)), (4, (.row 127 (.st 2))), (5, (.d (.int .i64))), (6, (.d (.int .i64)))] (fun h => list_steps.l1 k h.1 h.2.1 h.2.2.1 h.2.2.2.1)), (2, labOf sg [(0, (.d .str)), (4, (.row 127 (.st 2))), (5, (.d (.int .i64))), (6, (.d (.int .i64))), (7, (.d .str)), (8, (.d (.int .i64))), (9, (.d (.int .i64)))] (fun h => list_steps.l2 k h.1 h.2.1 h.2.2.1 h.2.2.2.1 h.2.2.2.2.1 h.2.2.2.2.2.1 h.2.2.2.2.2.2.1))]
theorem list_steps.l0_eq (k : Nat) (x0 : ByteArray) (x4 : (List T_list_step)) (x5 : Int) (x6 : Int) : list_steps.l0 (k + 1) x0 x4 x5 x6 = runFrom (C := ctx) (list_steps.O k) ⟨84, [], []⟩ (list_steps.L k) (Tryd.f118.body.getD .skip) list_steps.a 0 (endK ctx [(.sl (.st 2)), .bool] [(.tmp 2), (.tmp 3)]) (encD [(0, (.d .str)), (4, (.row 127 (.st 2))), (5, (.d (.int .i64))), (6, (.d (.int .i64)))] (x0, x4, x5, x6, ()) (startD sg.U ⟨84, [], []⟩ [(0, (.d .str)), (4, (.row 127 (.st 2))), (5, (.d (.int .i64))), (6, (.d (.int .i64)))])) := by
  rw [list_steps.l0]
  kernel_rfl
theorem list_steps.l1_eq (k : Nat) (x0 : ByteArray) (x4 : (List T_list_step)) (x5 : Int) (x6 : Int) : list_steps.l1 (k + 1) x0 x4 x5 x6 = runFrom (C := ctx) (list_steps.O k) ⟨84, [], []⟩ (list_steps.L k) (Tryd.f118.body.getD .skip) list_steps.a 1 (endK ctx [(.sl (.st 2)), .bool] [(.tmp 2), (.tmp 3)]) (encD [(0, (.d .str)), (4, (.row 127 (.st 2))), (5, (.d (.int .i64))), (6, (.d (.int .i64)))] (x0, x4, x5, x6, ()) (startD sg.U ⟨84, [], []⟩ [(0, (.d .str)), (4, (.row 127 (.st 2))), (5, (.d (.int .i64))), (6, (.d (.int .i64)))])) := by
  rw [list_steps.l1]
  kernel_rfl
theorem list_steps.l2_eq (k : Nat) (x0 : ByteArray) (x4 : (List T_list_step)) (x5 : Int) (x6 : Int) (x7 : ByteArray) (x8 : Int) (x9 : Int) : list_steps.l2 (k + 1) x0 x4 x5 x6 x7 x8 x9 = runFrom (C := ctx) (list_steps.O k) ⟨84, [], []⟩ (list_steps.L k) (Tryd.f118.body.getD .skip) list_steps.a 2 (endK ctx [(.sl (.st 2)), .bool] [(.tmp 2), (.tmp 3)]) (encD [(0, (.d .str)), (4, (.row 127 (.st 2))), (5, (.d (.int .i64))), (6, (.d (.int .i64))), (7, (.d .str)), (8, (.d (.int .i64))), (9, (.d (.int .i64)))] (x0, x4, x5, x6, x7, x8, x9, ()) (startD sg.U ⟨84, [], []⟩ [(0, (.d .str)), (4, (.row 127 (.st 2))), (5, (.d (.int .i64))), (6, (.d (.int .i64))), (7, (.d .str)), (8, (.d (.int .i64))), (9, (.d (.int .i64)))])) := by
  rw [list_steps.l2]
  kernel_rfl
theorem list_steps.f_eq (k : Nat) (a0 : ByteArray) : list_steps.f k a0 = codeK (C := ctx) (list_steps.O k) ⟨84, [], []⟩ (list_steps.L k) (Tryd.f118.body.getD .skip) list_steps.a (endK ctx [(.sl (.st 2)), .bool] [(.tmp 2), (.tmp 3)]) (slotsOf sg.U 0 [(.d .str)] (a0, ()) (empty sg.U)) := by
  unfold list_steps.f
  kernel_rfl
def list_steps.e (k : Nat) : Entry sg := entryOf sg [(.d .str)] [(.sl (.st 2)), .bool] (fun h => list_steps.f k h.1)
def list_steps.T : List (Lb sg (RT sg.U [(.sl (.st 2)), .bool])) := [⟨0, [(0, (.d .str)), (4, (.row 127 (.st 2))), (5, (.d (.int .i64))), (6, (.d (.int .i64)))], fun k h => list_steps.l0 k h.1 h.2.1 h.2.2.1 h.2.2.2.1⟩, ⟨1, [(0, (.d .str)), (4, (.row 127 (.st 2))), (5, (.d (.int .i64))), (6, (.d (.int .i64)))], fun k h => list_steps.l1 k h.1 h.2.1 h.2.2.1 h.2.2.2.1⟩, ⟨2, [(0, (.d .str)), (4, (.row 127 (.st 2))), (5, (.d (.int .i64))), (6, (.d (.int .i64))), (7, (.d .str)), (8, (.d (.int .i64))), (9, (.d (.int .i64)))], fun k h => list_steps.l2 k h.1 h.2.1 h.2.2.1 h.2.2.2.1 h.2.2.2.2.1 h.2.2.2.2.2.1 h.2.2.2.2.2.2.1⟩]
theorem list_steps.ok (k : Nat) : (list_steps.e k).Sound Tryd.prog ctx 118 :=
  entry_ok base_ok mo (fn := Tryd.f118) (b := (Tryd.f118.body.getD .skip)) (pm := [(.d .str)]) (rs := [(.sl (.st 2)), .bool]) (an := list_steps.a) (N := 84) (vars := [(.tmp 2), (.tmp 3)]) Tryd.func118 (by kernel_rfl) (by kernel_rfl) (by kernel_rfl) (by kernel_rfl) (by kernel_rfl) (by kernel_rfl) (O := list_steps.O)
    (fun k => by unfold list_steps.O; exact oracle_of (P := Tryd.prog) (C := ctx) ⟨(list_isKey.ok k), ⟨(list_isDigit.ok), trivial⟩⟩) list_steps.T ⟨⟨by kernel_rfl, fun _ => by first | rfl | rw [list_steps.l0], fun k h => list_steps.l0_eq k h.1 h.2.1 h.2.2.1 h.2.2.2.1⟩, ⟨⟨by kernel_rfl, fun _ => by first | rfl | rw [list_steps.l1], fun k h => list_steps.l1_eq k h.1 h.2.1 h.2.2.1 h.2.2.2.1⟩, ⟨⟨by kernel_rfl, fun _ => by first | rfl | rw [list_steps.l2], fun k h => list_steps.l2_eq k h.1 h.2.1 h.2.2.1 h.2.2.2.1 h.2.2.2.2.1 h.2.2.2.2.2.1 h.2.2.2.2.2.2.1⟩, trivial⟩⟩⟩ k (fun h => list_steps.f_eq k h.1)
def list_reserved.f (a0 : ByteArray) : Option (Bool) := (bif (seq a0 c_and) then (some true) else (bif (seq a0 c_or) then (some true) else (bif (seq a0 c_not) then (some true) else (bif (seq a0 c_has) then (some true) else (bif (seq a0 c_in) then (some true) else (bif (seq a0 c_begins) then (some true) else (some false)))))))
def list_reserved.O : Oracle sg := fun n => lkp n []
def list_reserved.a : Ann := .z
def list_reserved.L : Nat → St sg.U → Option (RT sg.U [.bool]) := labs []
theorem list_reserved.f_eq (a0 : ByteArray) : list_reserved.f a0 = codeK (C := ctx) (list_reserved.O) ⟨11, [], []⟩ (list_reserved.L) (Tryd.f119.body.getD .skip) list_reserved.a (endK ctx [.bool] [(.tmp 2)]) (slotsOf sg.U 0 [(.d .str)] (a0, ()) (empty sg.U)) := by
  unfold list_reserved.f
  kernel_rfl
def list_reserved.e : Entry sg := entryOf sg [(.d .str)] [.bool] (fun h => list_reserved.f h.1)
def list_reserved.T : List (Lb sg (RT sg.U [.bool])) := []
theorem list_reserved.ok : (list_reserved.e).Sound Tryd.prog ctx 119 :=
  entry_ok base_ok mo (fn := Tryd.f119) (b := (Tryd.f119.body.getD .skip)) (pm := [(.d .str)]) (rs := [.bool]) (an := list_reserved.a) (N := 11) (vars := [(.tmp 2)]) Tryd.func119 (by kernel_rfl) (by kernel_rfl) (by kernel_rfl) (by kernel_rfl) (by kernel_rfl) (by kernel_rfl) (O := fun _ => list_reserved.O)
    (fun _ => by unfold list_reserved.O; exact oracle_of (P := Tryd.prog) (C := ctx) trivial) list_reserved.T trivial 0 (fun h => list_reserved.f_eq h.1)
def list_isRoute.f (k : Nat) (a0 : ByteArray) : Option (Bool) := ((list_steps.f k a0).bind fun y1 => (bif (bif y1.2 then (!seq a0 c_empty) else false) then ((list_reserved.f a0).bind fun y2 => (some (!y2))) else (some false)))
def list_isRoute.O (k : Nat) : Oracle sg := fun n => lkp n [(118, list_steps.e k), (119, list_reserved.e)]
def list_isRoute.a : Ann := .z
def list_isRoute.L (k : Nat) : Nat → St sg.U → Option (RT sg.U [.bool]) := labs []
theorem list_isRoute.f_eq (k : Nat) (a0 : ByteArray) : list_isRoute.f k a0 = codeK (C := ctx) (list_isRoute.O k) ⟨20, [], []⟩ (list_isRoute.L k) (Tryd.f92.body.getD .skip) list_isRoute.a (endK ctx [.bool] [(.tmp 2)]) (slotsOf sg.U 0 [(.d .str)] (a0, ()) (empty sg.U)) := by
  unfold list_isRoute.f
  kernel_rfl
def list_isRoute.e (k : Nat) : Entry sg := entryOf sg [(.d .str)] [.bool] (fun h => list_isRoute.f k h.1)
def list_isRoute.T : List (Lb sg (RT sg.U [.bool])) := []
theorem list_isRoute.ok (k : Nat) : (list_isRoute.e k).Sound Tryd.prog ctx 92 :=
  entry_ok base_ok mo (fn := Tryd.f92) (b := (Tryd.f92.body.getD .skip)) (pm := [(.d .str)]) (rs := [.bool]) (an := list_isRoute.a) (N := 20) (vars := [(.tmp 2)]) Tryd.func92 (by kernel_rfl) (by kernel_rfl) (by kernel_rfl) (by kernel_rfl) (by kernel_rfl) (by kernel_rfl) (O := list_isRoute.O)
    (fun k => by unfold list_isRoute.O; exact oracle_of (P := Tryd.prog) (C := ctx) ⟨(list_steps.ok k), ⟨(list_reserved.ok), trivial⟩⟩) list_isRoute.T trivial k (fun h => list_isRoute.f_eq k h.1)
mutual
def conf_count.l0 : Nat → Int → (List T_api_Value) → Int → Int → Option (Int)
  | 0, _, _, _, _ => none
  | k + 1, x3, x7, x8, x9 => (bif (ilt x9 x8) then ((lat x7 x9).bind fun y1 => (bif (ilt 1000 x3) then (some x3) else ((conf_count.f k (T_api_Value.mk y1.fKind y1.fBool y1.fInt y1.fText y1.fItems y1.fKeys)).bind fun y2 => (conf_count.l0 k (wadd .i64 x3 y2) x7 x8 (wadd .i64 x9 1))))) else (some x3))
def conf_count.f : Nat → T_api_Value → Option (Int)
  | 0, _ => none
  | k + 1, a0 => (conf_count.l0 k 1 a0.fItems (llen a0.fItems) 0)
end
def conf_count.e (k : Nat) : Entry sg := entryOf sg [(.d (.st 1))] [(.int .i64)] (fun h => conf_count.f k h.1)
def conf_count.O (k : Nat) : Oracle sg := fun n => lkp n [(37, conf_count.e k)]
def conf_count.a : Ann := (.n .z (.n .z (.n (.n .z (.lp 0 .z)) .z)))
def conf_count.L (k : Nat) : Nat → St sg.U → Option (RT sg.U [(.int .i64)]) := labs [(0, labOf sg [(3, (.d (.int .i64))), (7, (.d (.sl (.st 1)))), (8, (.d (.int .i64))), (9, (.d (.int .i64)))] (fun h => conf_count.l0 k h.1 h.2.1 h.2.2.1 h.2.2.2.1))]
theorem conf_count.l0_eq (k : Nat) (x3 : Int) (x7 : (List T_api_Value)) (x8 : Int) (x9 : Int) : conf_count.l0 (k + 1) x3 x7 x8 x9 = runFrom (C := ctx) (conf_count.O k) ⟨21, [], []⟩ (conf_count.L k) (Tryd.f37.body.getD .skip) conf_count.a 0 (endK ctx [(.int .i64)] [(.tmp 2)]) (encD [(3, (.d (.int .i64))), (7, (.d (.sl (.st 1)))), (8, (.d (.int .i64))), (9, (.d (.int .i64)))] (x3, x7, x8, x9, ()) (startD sg.U ⟨21, [], []⟩ [(3, (.d (.int .i64))), (7, (.d (.sl (.st 1)))), (8, (.d (.int .i64))), (9, (.d (.int .i64)))])) := by
  rw [conf_count.l0]
  kernel_rfl
theorem conf_count.f_eq (k : Nat) (a0 : T_api_Value) : conf_count.f (k + 1) a0 = codeK (C := ctx) (conf_count.O k) ⟨21, [], []⟩ (conf_count.L k) (Tryd.f37.body.getD .skip) conf_count.a (endK ctx [(.int .i64)] [(.tmp 2)]) (slotsOf sg.U 0 [(.d (.st 1))] (a0, ()) (empty sg.U)) := by
  rw [conf_count.f]
  kernel_rfl
def conf_count.T : List (Lb sg (RT sg.U [(.int .i64)])) := [⟨0, [(3, (.d (.int .i64))), (7, (.d (.sl (.st 1)))), (8, (.d (.int .i64))), (9, (.d (.int .i64)))], fun k h => conf_count.l0 k h.1 h.2.1 h.2.2.1 h.2.2.2.1⟩]
theorem conf_count.ok : ∀ k : Nat, (conf_count.e k).Sound Tryd.prog ctx 37 :=
  entry_rec base_ok mo (fn := Tryd.f37) (b := (Tryd.f37.body.getD .skip)) (pm := [(.d (.st 1))]) (rs := [(.int .i64)]) (an := conf_count.a) (N := 21) (vars := [(.tmp 2)]) Tryd.func37 (by kernel_rfl) (by kernel_rfl) (by kernel_rfl) (by kernel_rfl) (by kernel_rfl) (by kernel_rfl) (O := conf_count.O) conf_count.T ⟨⟨by kernel_rfl, fun _ => by first | rfl | rw [conf_count.l0], fun k h => conf_count.l0_eq k h.1 h.2.1 h.2.2.1 h.2.2.2.1⟩, trivial⟩ (F := fun k h => conf_count.f k h.1) (fun _ => by first | rfl | rw [conf_count.f]) (fun k h => conf_count.f_eq k h.1)
    (fun k own => by unfold conf_count.O; exact oracle_of (P := Tryd.prog) (C := ctx) ⟨own, trivial⟩)
mutual
def conf_levels.l0 : Nat → Int → (List T_api_Value) → Int → Int → Option (Int)
  | 0, _, _, _, _ => none
  | k + 1, x3, x7, x8, x9 => (bif (ilt x9 x8) then ((lat x7 x9).bind fun y1 => ((conf_levels.f k (T_api_Value.mk y1.fKind y1.fBool y1.fInt y1.fText y1.fItems y1.fKeys)).bind fun y2 => (conf_levels.l0 k (imax x3 y2) x7 x8 (wadd .i64 x9 1)))) else (some (wadd .i64 x3 1)))
def conf_levels.f : Nat → T_api_Value → Option (Int)
  | 0, _ => none
  | k + 1, a0 => (conf_levels.l0 k 0 a0.fItems (llen a0.fItems) 0)
end
def conf_levels.e (k : Nat) : Entry sg := entryOf sg [(.d (.st 1))] [(.int .i64)] (fun h => conf_levels.f k h.1)
def conf_levels.O (k : Nat) : Oracle sg := fun n => lkp n [(38, conf_levels.e k)]
def conf_levels.a : Ann := (.n .z (.n .z (.n (.n .z (.lp 0 .z)) .z)))
def conf_levels.L (k : Nat) : Nat → St sg.U → Option (RT sg.U [(.int .i64)]) := labs [(0, labOf sg [(3, (.d (.int .i64))), (7, (.d (.sl (.st 1)))), (8, (.d (.int .i64))), (9, (.d (.int .i64)))] (fun h => conf_levels.l0 k h.1 h.2.1 h.2.2.1 h.2.2.2.1))]
theorem conf_levels.l0_eq (k : Nat) (x3 : Int) (x7 : (List T_api_Value)) (x8 : Int) (x9 : Int) : conf_levels.l0 (k + 1) x3 x7 x8 x9 = runFrom (C := ctx) (conf_levels.O k) ⟨20, [], []⟩ (conf_levels.L k) (Tryd.f38.body.getD .skip) conf_levels.a 0 (endK ctx [(.int .i64)] [(.tmp 2)]) (encD [(3, (.d (.int .i64))), (7, (.d (.sl (.st 1)))), (8, (.d (.int .i64))), (9, (.d (.int .i64)))] (x3, x7, x8, x9, ()) (startD sg.U ⟨20, [], []⟩ [(3, (.d (.int .i64))), (7, (.d (.sl (.st 1)))), (8, (.d (.int .i64))), (9, (.d (.int .i64)))])) := by
  rw [conf_levels.l0]
  kernel_rfl
theorem conf_levels.f_eq (k : Nat) (a0 : T_api_Value) : conf_levels.f (k + 1) a0 = codeK (C := ctx) (conf_levels.O k) ⟨20, [], []⟩ (conf_levels.L k) (Tryd.f38.body.getD .skip) conf_levels.a (endK ctx [(.int .i64)] [(.tmp 2)]) (slotsOf sg.U 0 [(.d (.st 1))] (a0, ()) (empty sg.U)) := by
  rw [conf_levels.f]
  kernel_rfl
def conf_levels.T : List (Lb sg (RT sg.U [(.int .i64)])) := [⟨0, [(3, (.d (.int .i64))), (7, (.d (.sl (.st 1)))), (8, (.d (.int .i64))), (9, (.d (.int .i64)))], fun k h => conf_levels.l0 k h.1 h.2.1 h.2.2.1 h.2.2.2.1⟩]
theorem conf_levels.ok : ∀ k : Nat, (conf_levels.e k).Sound Tryd.prog ctx 38 :=
  entry_rec base_ok mo (fn := Tryd.f38) (b := (Tryd.f38.body.getD .skip)) (pm := [(.d (.st 1))]) (rs := [(.int .i64)]) (an := conf_levels.a) (N := 20) (vars := [(.tmp 2)]) Tryd.func38 (by kernel_rfl) (by kernel_rfl) (by kernel_rfl) (by kernel_rfl) (by kernel_rfl) (by kernel_rfl) (O := conf_levels.O) conf_levels.T ⟨⟨by kernel_rfl, fun _ => by first | rfl | rw [conf_levels.l0], fun k h => conf_levels.l0_eq k h.1 h.2.1 h.2.2.1 h.2.2.2.1⟩, trivial⟩ (F := fun k h => conf_levels.f k h.1) (fun _ => by first | rfl | rw [conf_levels.f]) (fun k h => conf_levels.f_eq k h.1)
    (fun k own => by unfold conf_levels.O; exact oracle_of (P := Tryd.prog) (C := ctx) ⟨own, trivial⟩)
def conf_unused.l0 : Nat → Int → Bool → Int → ByteArray → (List T_api_Value) → (List ByteArray) → Int → Bool → Option (Bool)
  | 0, _, _, _, _, _, _, _, _ => none
  | k + 1, x1_0, x1_1, x1_2, x1_3, x1_4, x1_5, x3, x6 => (bif x6 then (some true) else (bif (bif (bif (ilt 0 (llen x1_4)) then (!ieq x3 5) else false) then (!ieq x3 6) else false) then (some true) else (bif (bif (ilt 0 (llen x1_5)) then (!ieq x3 6) else false) then (some true) else (some (bif (ieq x3 6) then (!ieq (llen x1_5) (llen x1_4)) else false)))))
def conf_unused.f (k : Nat) (a0 : T_api_Value) : Option (Bool) := (bif (bif a0.fBool then (!ieq a0.fKind 1) else false) then (conf_unused.l0 k a0.fKind a0.fBool a0.fInt a0.fText a0.fItems a0.fKeys a0.fKind true) else (bif (bif (bif (!ieq a0.fInt 0) then (!ieq a0.fKind 2) else false) then (!ieq a0.fKind 4) else false) then (conf_unused.l0 k a0.fKind a0.fBool a0.fInt a0.fText a0.fItems a0.fKeys a0.fKind true) else (conf_unused.l0 k a0.fKind a0.fBool a0.fInt a0.fText a0.fItems a0.fKeys a0.fKind (bif (!seq a0.fText c_empty) then (!ieq a0.fKind 3) else false))))
def conf_unused.O (k : Nat) : Oracle sg := fun n => lkp n []
def conf_unused.a : Ann := (.n .z (.n .z (.n (.n .z (.lab 0 .z)) .z)))
def conf_unused.L (k : Nat) : Nat → St sg.U → Option (RT sg.U [.bool]) := labs [(0, labOf sg [(1, (.box [.d (.int .i64), .d .bool, .d (.int .i64), .d .str, .d (.sl (.st 1)), .d (.sl .str)])), (3, (.d (.int .i64))), (6, (.d .bool))] (fun h => conf_unused.l0 k h.1 h.2.1 h.2.2.1 h.2.2.2.1 h.2.2.2.2.1 h.2.2.2.2.2.1 h.2.2.2.2.2.2.1 h.2.2.2.2.2.2.2.1))]
theorem conf_unused.l0_eq (k : Nat) (x1_0 : Int) (x1_1 : Bool) (x1_2 : Int) (x1_3 : ByteArray) (x1_4 : (List T_api_Value)) (x1_5 : (List ByteArray)) (x3 : Int) (x6 : Bool) : conf_unused.l0 (k + 1) x1_0 x1_1 x1_2 x1_3 x1_4 x1_5 x3 x6 = runFrom (C := ctx) (conf_unused.O k) ⟨63, [], []⟩ (conf_unused.L k) (Tryd.f87.body.getD .skip) conf_unused.a 0 (endK ctx [.bool] [(.tmp 2)]) (encD [(1, (.box [.d (.int .i64), .d .bool, .d (.int .i64), .d .str, .d (.sl (.st 1)), .d (.sl .str)])), (3, (.d (.int .i64))), (6, (.d .bool))] (x1_0, x1_1, x1_2, x1_3, x1_4, x1_5, x3, x6, ()) (startD sg.U ⟨63, [], []⟩ [(1, (.box [.d (.int .i64), .d .bool, .d (.int .i64), .d .str, .d (.sl (.st 1)), .d (.sl .str)])), (3, (.d (.int .i64))), (6, (.d .bool))])) := by
  rw [conf_unused.l0]
  kernel_rfl
theorem conf_unused.f_eq (k : Nat) (a0 : T_api_Value) : conf_unused.f k a0 = codeK (C := ctx) (conf_unused.O k) ⟨63, [], []⟩ (conf_unused.L k) (Tryd.f87.body.getD .skip) conf_unused.a (endK ctx [.bool] [(.tmp 2)]) (slotsOf sg.U 0 [(.d (.st 1))] (a0, ()) (empty sg.U)) := by
  unfold conf_unused.f
  kernel_rfl
def conf_unused.e (k : Nat) : Entry sg := entryOf sg [(.d (.st 1))] [.bool] (fun h => conf_unused.f k h.1)
def conf_unused.T : List (Lb sg (RT sg.U [.bool])) := [⟨0, [(1, (.box [.d (.int .i64), .d .bool, .d (.int .i64), .d .str, .d (.sl (.st 1)), .d (.sl .str)])), (3, (.d (.int .i64))), (6, (.d .bool))], fun k h => conf_unused.l0 k h.1 h.2.1 h.2.2.1 h.2.2.2.1 h.2.2.2.2.1 h.2.2.2.2.2.1 h.2.2.2.2.2.2.1 h.2.2.2.2.2.2.2.1⟩]
theorem conf_unused.ok (k : Nat) : (conf_unused.e k).Sound Tryd.prog ctx 87 :=
  entry_ok base_ok mo (fn := Tryd.f87) (b := (Tryd.f87.body.getD .skip)) (pm := [(.d (.st 1))]) (rs := [.bool]) (an := conf_unused.a) (N := 63) (vars := [(.tmp 2)]) Tryd.func87 (by kernel_rfl) (by kernel_rfl) (by kernel_rfl) (by kernel_rfl) (by kernel_rfl) (by kernel_rfl) (O := conf_unused.O)
    (fun k => by unfold conf_unused.O; exact oracle_of (P := Tryd.prog) (C := ctx) trivial) conf_unused.T ⟨⟨by kernel_rfl, fun _ => by first | rfl | rw [conf_unused.l0], fun k h => conf_unused.l0_eq k h.1 h.2.1 h.2.2.1 h.2.2.2.1 h.2.2.2.2.1 h.2.2.2.2.2.1 h.2.2.2.2.2.2.1 h.2.2.2.2.2.2.2.1⟩, trivial⟩ k (fun h => conf_unused.f_eq k h.1)
def conf_badDay.f (a0 : Int) : Option (Bool) := (some (bif (ilt a0 0) then true else (ilt 84005 a0)))
def conf_badDay.O : Oracle sg := fun n => lkp n []
def conf_badDay.a : Ann := .z
def conf_badDay.L : Nat → St sg.U → Option (RT sg.U [.bool]) := labs []
theorem conf_badDay.f_eq (a0 : Int) : conf_badDay.f a0 = codeK (C := ctx) (conf_badDay.O) ⟨9, [], []⟩ (conf_badDay.L) (Tryd.f88.body.getD .skip) conf_badDay.a (endK ctx [.bool] [(.tmp 2)]) (slotsOf sg.U 0 [(.d (.int .i64))] (a0, ()) (empty sg.U)) := by
  unfold conf_badDay.f
  kernel_rfl
def conf_badDay.e : Entry sg := entryOf sg [(.d (.int .i64))] [.bool] (fun h => conf_badDay.f h.1)
def conf_badDay.T : List (Lb sg (RT sg.U [.bool])) := []
theorem conf_badDay.ok : (conf_badDay.e).Sound Tryd.prog ctx 88 :=
  entry_ok base_ok mo (fn := Tryd.f88) (b := (Tryd.f88.body.getD .skip)) (pm := [(.d (.int .i64))]) (rs := [.bool]) (an := conf_badDay.a) (N := 9) (vars := [(.tmp 2)]) Tryd.func88 (by kernel_rfl) (by kernel_rfl) (by kernel_rfl) (by kernel_rfl) (by kernel_rfl) (by kernel_rfl) (O := fun _ => conf_badDay.O)
    (fun _ => by unfold conf_badDay.O; exact oracle_of (P := Tryd.prog) (C := ctx) trivial) conf_badDay.T trivial 0 (fun h => conf_badDay.f_eq h.1)
def conf_badBytes.l0 : Nat → ByteArray → Int → Option (Bool)
  | 0, _, _ => none
  | k + 1, x0, x3 => (bif (ilt x3 (slen x0)) then ((sat x0 x3).bind fun y1 => (bif (ilt y1 32) then ((sat x0 x3).bind fun y2 => (bif (!ieq y2 9) then ((sat x0 x3).bind fun y3 => (bif (!ieq y3 10) then (some true) else (conf_badBytes.l0 k x0 (wadd .i64 x3 1)))) else (conf_badBytes.l0 k x0 (wadd .i64 x3 1)))) else (conf_badBytes.l0 k x0 (wadd .i64 x3 1)))) else (some false))
def conf_badBytes.f (k : Nat) (a0 : ByteArray) : Option (Bool) := (conf_badBytes.l0 k a0 0)
def conf_badBytes.O (k : Nat) : Oracle sg := fun n => lkp n []
def conf_badBytes.a : Ann := (.n .z (.n (.n .z (.lp 0 .z)) .z))
def conf_badBytes.L (k : Nat) : Nat → St sg.U → Option (RT sg.U [.bool]) := labs [(0, labOf sg [(0, (.d .str)), (3, (.d (.int .i64)))] (fun h => conf_badBytes.l0 k h.1 h.2.1))]
theorem conf_badBytes.l0_eq (k : Nat) (x0 : ByteArray) (x3 : Int) : conf_badBytes.l0 (k + 1) x0 x3 = runFrom (C := ctx) (conf_badBytes.O k) ⟨26, [], []⟩ (conf_badBytes.L k) (Tryd.f89.body.getD .skip) conf_badBytes.a 0 (endK ctx [.bool] [(.tmp 2)]) (encD [(0, (.d .str)), (3, (.d (.int .i64)))] (x0, x3, ()) (startD sg.U ⟨26, [], []⟩ [(0, (.d .str)), (3, (.d (.int .i64)))])) := by
  rw [conf_badBytes.l0]
  kernel_rfl
theorem conf_badBytes.f_eq (k : Nat) (a0 : ByteArray) : conf_badBytes.f k a0 = codeK (C := ctx) (conf_badBytes.O k) ⟨26, [], []⟩ (conf_badBytes.L k) (Tryd.f89.body.getD .skip) conf_badBytes.a (endK ctx [.bool] [(.tmp 2)]) (slotsOf sg.U 0 [(.d .str)] (a0, ()) (empty sg.U)) := by
  unfold conf_badBytes.f
  kernel_rfl
def conf_badBytes.e (k : Nat) : Entry sg := entryOf sg [(.d .str)] [.bool] (fun h => conf_badBytes.f k h.1)
def conf_badBytes.T : List (Lb sg (RT sg.U [.bool])) := [⟨0, [(0, (.d .str)), (3, (.d (.int .i64)))], fun k h => conf_badBytes.l0 k h.1 h.2.1⟩]
theorem conf_badBytes.ok (k : Nat) : (conf_badBytes.e k).Sound Tryd.prog ctx 89 :=
  entry_ok base_ok mo (fn := Tryd.f89) (b := (Tryd.f89.body.getD .skip)) (pm := [(.d .str)]) (rs := [.bool]) (an := conf_badBytes.a) (N := 26) (vars := [(.tmp 2)]) Tryd.func89 (by kernel_rfl) (by kernel_rfl) (by kernel_rfl) (by kernel_rfl) (by kernel_rfl) (by kernel_rfl) (O := conf_badBytes.O)
    (fun k => by unfold conf_badBytes.O; exact oracle_of (P := Tryd.prog) (C := ctx) trivial) conf_badBytes.T ⟨⟨by kernel_rfl, fun _ => by first | rfl | rw [conf_badBytes.l0], fun k h => conf_badBytes.l0_eq k h.1 h.2.1⟩, trivial⟩ k (fun h => conf_badBytes.f_eq k h.1)
def conf_isSmall.f (a0 : Int) : Option (Bool) := (some (bif (ile 97 a0) then (ile a0 122) else false))
def conf_isSmall.O : Oracle sg := fun n => lkp n []
def conf_isSmall.a : Ann := .z
def conf_isSmall.L : Nat → St sg.U → Option (RT sg.U [.bool]) := labs []
theorem conf_isSmall.f_eq (a0 : Int) : conf_isSmall.f a0 = codeK (C := ctx) (conf_isSmall.O) ⟨9, [], []⟩ (conf_isSmall.L) (Tryd.f116.body.getD .skip) conf_isSmall.a (endK ctx [.bool] [(.tmp 2)]) (slotsOf sg.U 0 [(.d (.int .u8))] (a0, ()) (empty sg.U)) := by
  unfold conf_isSmall.f
  kernel_rfl
def conf_isSmall.e : Entry sg := entryOf sg [(.d (.int .u8))] [.bool] (fun h => conf_isSmall.f h.1)
def conf_isSmall.T : List (Lb sg (RT sg.U [.bool])) := []
theorem conf_isSmall.ok : (conf_isSmall.e).Sound Tryd.prog ctx 116 :=
  entry_ok base_ok mo (fn := Tryd.f116) (b := (Tryd.f116.body.getD .skip)) (pm := [(.d (.int .u8))]) (rs := [.bool]) (an := conf_isSmall.a) (N := 9) (vars := [(.tmp 2)]) Tryd.func116 (by kernel_rfl) (by kernel_rfl) (by kernel_rfl) (by kernel_rfl) (by kernel_rfl) (by kernel_rfl) (O := fun _ => conf_isSmall.O)
    (fun _ => by unfold conf_isSmall.O; exact oracle_of (P := Tryd.prog) (C := ctx) trivial) conf_isSmall.T trivial 0 (fun h => conf_isSmall.f_eq h.1)
def conf_isDigit.f (a0 : Int) : Option (Bool) := (some (bif (ile 48 a0) then (ile a0 57) else false))
def conf_isDigit.O : Oracle sg := fun n => lkp n []
def conf_isDigit.a : Ann := .z
def conf_isDigit.L : Nat → St sg.U → Option (RT sg.U [.bool]) := labs []
theorem conf_isDigit.f_eq (a0 : Int) : conf_isDigit.f a0 = codeK (C := ctx) (conf_isDigit.O) ⟨9, [], []⟩ (conf_isDigit.L) (Tryd.f117.body.getD .skip) conf_isDigit.a (endK ctx [.bool] [(.tmp 2)]) (slotsOf sg.U 0 [(.d (.int .u8))] (a0, ()) (empty sg.U)) := by
  unfold conf_isDigit.f
  kernel_rfl
def conf_isDigit.e : Entry sg := entryOf sg [(.d (.int .u8))] [.bool] (fun h => conf_isDigit.f h.1)
def conf_isDigit.T : List (Lb sg (RT sg.U [.bool])) := []
theorem conf_isDigit.ok : (conf_isDigit.e).Sound Tryd.prog ctx 117 :=
  entry_ok base_ok mo (fn := Tryd.f117) (b := (Tryd.f117.body.getD .skip)) (pm := [(.d (.int .u8))]) (rs := [.bool]) (an := conf_isDigit.a) (N := 9) (vars := [(.tmp 2)]) Tryd.func117 (by kernel_rfl) (by kernel_rfl) (by kernel_rfl) (by kernel_rfl) (by kernel_rfl) (by kernel_rfl) (O := fun _ => conf_isDigit.O)
    (fun _ => by unfold conf_isDigit.O; exact oracle_of (P := Tryd.prog) (C := ctx) trivial) conf_isDigit.T trivial 0 (fun h => conf_isDigit.f_eq h.1)
def conf_isKey.l0 : Nat → ByteArray → Int → Option (Bool)
  | 0, _, _ => none
  | k + 1, x0, x3 => (bif (ilt x3 (slen x0)) then ((sat x0 x3).bind fun y3 => ((conf_isSmall.f y3).bind fun y4 => (bif (!y4) then ((sat x0 x3).bind fun y5 => ((conf_isDigit.f y5).bind fun y6 => (bif (!y6) then ((sat x0 x3).bind fun y7 => (bif (!ieq y7 45) then ((sat x0 x3).bind fun y8 => (bif (!ieq y8 95) then (some false) else (conf_isKey.l0 k x0 (wadd .i64 x3 1)))) else (conf_isKey.l0 k x0 (wadd .i64 x3 1)))) else (conf_isKey.l0 k x0 (wadd .i64 x3 1))))) else (conf_isKey.l0 k x0 (wadd .i64 x3 1))))) else (some true))
def conf_isKey.f (k : Nat) (a0 : ByteArray) : Option (Bool) := (bif (bif (seq a0 c_empty) then true else (ilt 40 (slen a0))) then (some false) else ((sat a0 0).bind fun y1 => ((conf_isSmall.f y1).bind fun y2 => (bif (!y2) then (some false) else (conf_isKey.l0 k a0 1)))))
def conf_isKey.O (k : Nat) : Oracle sg := fun n => lkp n [(116, conf_isSmall.e), (117, conf_isDigit.e)]
def conf_isKey.a : Ann := (.n .z (.n .z (.n (.n .z (.lp 0 .z)) .z)))
def conf_isKey.L (k : Nat) : Nat → St sg.U → Option (RT sg.U [.bool]) := labs [(0, labOf sg [(0, (.d .str)), (3, (.d (.int .i64)))] (fun h => conf_isKey.l0 k h.1 h.2.1))]
theorem conf_isKey.l0_eq (k : Nat) (x0 : ByteArray) (x3 : Int) : conf_isKey.l0 (k + 1) x0 x3 = runFrom (C := ctx) (conf_isKey.O k) ⟨47, [], []⟩ (conf_isKey.L k) (Tryd.f90.body.getD .skip) conf_isKey.a 0 (endK ctx [.bool] [(.tmp 2)]) (encD [(0, (.d .str)), (3, (.d (.int .i64)))] (x0, x3, ()) (startD sg.U ⟨47, [], []⟩ [(0, (.d .str)), (3, (.d (.int .i64)))])) := by
  rw [conf_isKey.l0]
  kernel_rfl
theorem conf_isKey.f_eq (k : Nat) (a0 : ByteArray) : conf_isKey.f k a0 = codeK (C := ctx) (conf_isKey.O k) ⟨47, [], []⟩ (conf_isKey.L k) (Tryd.f90.body.getD .skip) conf_isKey.a (endK ctx [.bool] [(.tmp 2)]) (slotsOf sg.U 0 [(.d .str)] (a0, ()) (empty sg.U)) := by
  unfold conf_isKey.f
  kernel_rfl
def conf_isKey.e (k : Nat) : Entry sg := entryOf sg [(.d .str)] [.bool] (fun h => conf_isKey.f k h.1)
def conf_isKey.T : List (Lb sg (RT sg.U [.bool])) := [⟨0, [(0, (.d .str)), (3, (.d (.int .i64)))], fun k h => conf_isKey.l0 k h.1 h.2.1⟩]
theorem conf_isKey.ok (k : Nat) : (conf_isKey.e k).Sound Tryd.prog ctx 90 :=
  entry_ok base_ok mo (fn := Tryd.f90) (b := (Tryd.f90.body.getD .skip)) (pm := [(.d .str)]) (rs := [.bool]) (an := conf_isKey.a) (N := 47) (vars := [(.tmp 2)]) Tryd.func90 (by kernel_rfl) (by kernel_rfl) (by kernel_rfl) (by kernel_rfl) (by kernel_rfl) (by kernel_rfl) (O := conf_isKey.O)
    (fun k => by unfold conf_isKey.O; exact oracle_of (P := Tryd.prog) (C := ctx) ⟨(conf_isSmall.ok), ⟨(conf_isDigit.ok), trivial⟩⟩) conf_isKey.T ⟨⟨by kernel_rfl, fun _ => by first | rfl | rw [conf_isKey.l0], fun k h => conf_isKey.l0_eq k h.1 h.2.1⟩, trivial⟩ k (fun h => conf_isKey.f_eq k h.1)
mutual
def conf_valueFault.l0 : Nat → Int → Bool → Int → ByteArray → (List T_api_Value) → (List ByteArray) → Bool → Option (Int)
  | 0, _, _, _, _, _, _, _ => none
  | k + 1, x1_0, x1_1, x1_2, x1_3, x1_4, x1_5, x17 => (bif x17 then (some 2) else (bif (ilt 5000 (slen x1_3)) then (some 4) else ((conf_badBytes.f k x1_3).bind fun y3 => (bif y3 then (some 9) else (conf_valueFault.l1 k x1_0 x1_1 x1_2 x1_3 x1_4 x1_5 x1_5 (llen x1_5) 0)))))
def conf_valueFault.l1 : Nat → Int → Bool → Int → ByteArray → (List T_api_Value) → (List ByteArray) → (List ByteArray) → Int → Int → Option (Int)
  | 0, _, _, _, _, _, _, _, _, _ => none
  | k + 1, x1_0, x1_1, x1_2, x1_3, x1_4, x1_5, x36, x37, x38 => (bif (ilt x38 x37) then ((lat x36 x38).bind fun y4 => ((conf_isKey.f k y4).bind fun y5 => (bif (!y5) then (some 12) else (bif (ilt 0 x38) then ((lat x1_5 (wsub .i64 x38 1)).bind fun y6 => (bif (sle y4 y6) then (some 5) else (conf_valueFault.l1 k x1_0 x1_1 x1_2 x1_3 x1_4 x1_5 x36 x37 (wadd .i64 x38 1)))) else (conf_valueFault.l1 k x1_0 x1_1 x1_2 x1_3 x1_4 x1_5 x36 x37 (wadd .i64 x38 1)))))) else (some 0))
end
def conf_valueFault.f (k : Nat) (a0 : T_api_Value) : Option (Int) := (bif (bif (ilt a0.fKind 0) then true else (ilt 6 a0.fKind)) then (some 10) else ((conf_unused.f k (T_api_Value.mk a0.fKind a0.fBool a0.fInt a0.fText a0.fItems a0.fKeys)).bind fun y1 => (bif y1 then (some 1) else (bif (ieq a0.fKind 4) then ((conf_badDay.f a0.fInt).bind fun y2 => (conf_valueFault.l0 k a0.fKind a0.fBool a0.fInt a0.fText a0.fItems a0.fKeys y2)) else (conf_valueFault.l0 k a0.fKind a0.fBool a0.fInt a0.fText a0.fItems a0.fKeys false)))))
def conf_valueFault.O (k : Nat) : Oracle sg := fun n => lkp n [(87, conf_unused.e k), (88, conf_badDay.e), (89, conf_badBytes.e k), (90, conf_isKey.e k)]
def conf_valueFault.a : Ann := (.n .z (.n (.n .z (.n .z (.n .z (.n .z (.n .z (.lab 0 .z)))))) (.n (.n .z (.lp 1 .z)) .z)))
def conf_valueFault.L (k : Nat) : Nat → St sg.U → Option (RT sg.U [(.int .i64)]) := labs [(0, labOf sg [(1, (.box [.d (.int .i64), .d .bool, .d (.int .i64), .d .str, .d (.sl (.st 1)), .d (.sl .str)])), (17, (.d .bool))] (fun h => conf_valueFault.l0 k h.1 h.2.1 h.2.2.1 h.2.2.2.1 h.2.2.2.2.1 h.2.2.2.2.2.1 h.2.2.2.2.2.2.1)), (1, labOf sg [(1, (.box [.d (.int .i64), .d .bool, .d (.int .i64), .d .str, .d (.sl (.st 1)), .d (.sl .str)])), (36, (.d (.sl .str))), (37, (.d (.int .i64))), (38, (.d (.int .i64)))] (fun h => conf_valueFault.l1 k h.1 h.2.1 h.2.2.1 h.2.2.2.1 h.2.2.2.2.1 h.2.2.2.2.2.1 h.2.2.2.2.2.2.1 h.2.2.2.2.2.2.2.1 h.2.2.2.2.2.2.2.2.1))]
theorem conf_valueFault.l0_eq (k : Nat) (x1_0 : Int) (x1_1 : Bool) (x1_2 : Int) (x1_3 : ByteArray) (x1_4 : (List T_api_Value)) (x1_5 : (List ByteArray)) (x17 : Bool) : conf_valueFault.l0 (k + 1) x1_0 x1_1 x1_2 x1_3 x1_4 x1_5 x17 = runFrom (C := ctx) (conf_valueFault.O k) ⟨59, [], []⟩ (conf_valueFault.L k) (Tryd.f68.body.getD .skip) conf_valueFault.a 0 (endK ctx [(.int .i64)] [(.tmp 2)]) (encD [(1, (.box [.d (.int .i64), .d .bool, .d (.int .i64), .d .str, .d (.sl (.st 1)), .d (.sl .str)])), (17, (.d .bool))] (x1_0, x1_1, x1_2, x1_3, x1_4, x1_5, x17, ()) (startD sg.U ⟨59, [], []⟩ [(1, (.box [.d (.int .i64), .d .bool, .d (.int .i64), .d .str, .d (.sl (.st 1)), .d (.sl .str)])), (17, (.d .bool))])) := by
  rw [conf_valueFault.l0]
  kernel_rfl
theorem conf_valueFault.l1_eq (k : Nat) (x1_0 : Int) (x1_1 : Bool) (x1_2 : Int) (x1_3 : ByteArray) (x1_4 : (List T_api_Value)) (x1_5 : (List ByteArray)) (x36 : (List ByteArray)) (x37 : Int) (x38 : Int) : conf_valueFault.l1 (k + 1) x1_0 x1_1 x1_2 x1_3 x1_4 x1_5 x36 x37 x38 = runFrom (C := ctx) (conf_valueFault.O k) ⟨59, [], []⟩ (conf_valueFault.L k) (Tryd.f68.body.getD .skip) conf_valueFault.a 1 (endK ctx [(.int .i64)] [(.tmp 2)]) (encD [(1, (.box [.d (.int .i64), .d .bool, .d (.int .i64), .d .str, .d (.sl (.st 1)), .d (.sl .str)])), (36, (.d (.sl .str))), (37, (.d (.int .i64))), (38, (.d (.int .i64)))] (x1_0, x1_1, x1_2, x1_3, x1_4, x1_5, x36, x37, x38, ()) (startD sg.U ⟨59, [], []⟩ [(1, (.box [.d (.int .i64), .d .bool, .d (.int .i64), .d .str, .d (.sl (.st 1)), .d (.sl .str)])), (36, (.d (.sl .str))), (37, (.d (.int .i64))), (38, (.d (.int .i64)))])) := by
  rw [conf_valueFault.l1]
  kernel_rfl
theorem conf_valueFault.f_eq (k : Nat) (a0 : T_api_Value) : conf_valueFault.f k a0 = codeK (C := ctx) (conf_valueFault.O k) ⟨59, [], []⟩ (conf_valueFault.L k) (Tryd.f68.body.getD .skip) conf_valueFault.a (endK ctx [(.int .i64)] [(.tmp 2)]) (slotsOf sg.U 0 [(.d (.st 1))] (a0, ()) (empty sg.U)) := by
  unfold conf_valueFault.f
  kernel_rfl
def conf_valueFault.e (k : Nat) : Entry sg := entryOf sg [(.d (.st 1))] [(.int .i64)] (fun h => conf_valueFault.f k h.1)
def conf_valueFault.T : List (Lb sg (RT sg.U [(.int .i64)])) := [⟨0, [(1, (.box [.d (.int .i64), .d .bool, .d (.int .i64), .d .str, .d (.sl (.st 1)), .d (.sl .str)])), (17, (.d .bool))], fun k h => conf_valueFault.l0 k h.1 h.2.1 h.2.2.1 h.2.2.2.1 h.2.2.2.2.1 h.2.2.2.2.2.1 h.2.2.2.2.2.2.1⟩, ⟨1, [(1, (.box [.d (.int .i64), .d .bool, .d (.int .i64), .d .str, .d (.sl (.st 1)), .d (.sl .str)])), (36, (.d (.sl .str))), (37, (.d (.int .i64))), (38, (.d (.int .i64)))], fun k h => conf_valueFault.l1 k h.1 h.2.1 h.2.2.1 h.2.2.2.1 h.2.2.2.2.1 h.2.2.2.2.2.1 h.2.2.2.2.2.2.1 h.2.2.2.2.2.2.2.1 h.2.2.2.2.2.2.2.2.1⟩]
theorem conf_valueFault.ok (k : Nat) : (conf_valueFault.e k).Sound Tryd.prog ctx 68 :=
  entry_ok base_ok mo (fn := Tryd.f68) (b := (Tryd.f68.body.getD .skip)) (pm := [(.d (.st 1))]) (rs := [(.int .i64)]) (an := conf_valueFault.a) (N := 59) (vars := [(.tmp 2)]) Tryd.func68 (by kernel_rfl) (by kernel_rfl) (by kernel_rfl) (by kernel_rfl) (by kernel_rfl) (by kernel_rfl) (O := conf_valueFault.O)
    (fun k => by unfold conf_valueFault.O; exact oracle_of (P := Tryd.prog) (C := ctx) ⟨(conf_unused.ok k), ⟨(conf_badDay.ok), ⟨(conf_badBytes.ok k), ⟨(conf_isKey.ok k), trivial⟩⟩⟩⟩) conf_valueFault.T ⟨⟨by kernel_rfl, fun _ => by first | rfl | rw [conf_valueFault.l0], fun k h => conf_valueFault.l0_eq k h.1 h.2.1 h.2.2.1 h.2.2.2.1 h.2.2.2.2.1 h.2.2.2.2.2.1 h.2.2.2.2.2.2.1⟩, ⟨⟨by kernel_rfl, fun _ => by first | rfl | rw [conf_valueFault.l1], fun k h => conf_valueFault.l1_eq k h.1 h.2.1 h.2.2.1 h.2.2.2.1 h.2.2.2.2.1 h.2.2.2.2.2.1 h.2.2.2.2.2.2.1 h.2.2.2.2.2.2.2.1 h.2.2.2.2.2.2.2.2.1⟩, trivial⟩⟩ k (fun h => conf_valueFault.f_eq k h.1)
mutual
def conf_valuesFault.l0 : Nat → (List T_api_Value) → Int → Int → Option (Int)
  | 0, _, _, _ => none
  | k + 1, x13, x14, x15 => (bif (ilt x15 x14) then ((lat x13 x15).bind fun y2 => ((conf_valuesFault.f k (T_api_Value.mk y2.fKind y2.fBool y2.fInt y2.fText y2.fItems y2.fKeys)).bind fun y3 => (bif (!ieq y3 0) then (some y3) else (conf_valuesFault.l0 k x13 x14 (wadd .i64 x15 1))))) else (some 0))
def conf_valuesFault.f : Nat → T_api_Value → Option (Int)
  | 0, _ => none
  | k + 1, a0 => ((conf_valueFault.f k (T_api_Value.mk a0.fKind a0.fBool a0.fInt a0.fText a0.fItems a0.fKeys)).bind fun y1 => (bif (!ieq y1 0) then (some y1) else (conf_valuesFault.l0 k a0.fItems (llen a0.fItems) 0)))
end
def conf_valuesFault.e (k : Nat) : Entry sg := entryOf sg [(.d (.st 1))] [(.int .i64)] (fun h => conf_valuesFault.f k h.1)
def conf_valuesFault.O (k : Nat) : Oracle sg := fun n => lkp n [(39, conf_valuesFault.e k), (68, conf_valueFault.e k)]
def conf_valuesFault.a : Ann := (.n .z (.n .z (.n (.n .z (.lp 0 .z)) .z)))
def conf_valuesFault.L (k : Nat) : Nat → St sg.U → Option (RT sg.U [(.int .i64)]) := labs [(0, labOf sg [(13, (.d (.sl (.st 1)))), (14, (.d (.int .i64))), (15, (.d (.int .i64)))] (fun h => conf_valuesFault.l0 k h.1 h.2.1 h.2.2.1))]
theorem conf_valuesFault.l0_eq (k : Nat) (x13 : (List T_api_Value)) (x14 : Int) (x15 : Int) : conf_valuesFault.l0 (k + 1) x13 x14 x15 = runFrom (C := ctx) (conf_valuesFault.O k) ⟨25, [], []⟩ (conf_valuesFault.L k) (Tryd.f39.body.getD .skip) conf_valuesFault.a 0 (endK ctx [(.int .i64)] [(.tmp 2)]) (encD [(13, (.d (.sl (.st 1)))), (14, (.d (.int .i64))), (15, (.d (.int .i64)))] (x13, x14, x15, ()) (startD sg.U ⟨25, [], []⟩ [(13, (.d (.sl (.st 1)))), (14, (.d (.int .i64))), (15, (.d (.int .i64)))])) := by
  rw [conf_valuesFault.l0]
  kernel_rfl
theorem conf_valuesFault.f_eq (k : Nat) (a0 : T_api_Value) : conf_valuesFault.f (k + 1) a0 = codeK (C := ctx) (conf_valuesFault.O k) ⟨25, [], []⟩ (conf_valuesFault.L k) (Tryd.f39.body.getD .skip) conf_valuesFault.a (endK ctx [(.int .i64)] [(.tmp 2)]) (slotsOf sg.U 0 [(.d (.st 1))] (a0, ()) (empty sg.U)) := by
  rw [conf_valuesFault.f]
  kernel_rfl
def conf_valuesFault.T : List (Lb sg (RT sg.U [(.int .i64)])) := [⟨0, [(13, (.d (.sl (.st 1)))), (14, (.d (.int .i64))), (15, (.d (.int .i64)))], fun k h => conf_valuesFault.l0 k h.1 h.2.1 h.2.2.1⟩]
theorem conf_valuesFault.ok : ∀ k : Nat, (conf_valuesFault.e k).Sound Tryd.prog ctx 39 :=
  entry_rec base_ok mo (fn := Tryd.f39) (b := (Tryd.f39.body.getD .skip)) (pm := [(.d (.st 1))]) (rs := [(.int .i64)]) (an := conf_valuesFault.a) (N := 25) (vars := [(.tmp 2)]) Tryd.func39 (by kernel_rfl) (by kernel_rfl) (by kernel_rfl) (by kernel_rfl) (by kernel_rfl) (by kernel_rfl) (O := conf_valuesFault.O) conf_valuesFault.T ⟨⟨by kernel_rfl, fun _ => by first | rfl | rw [conf_valuesFault.l0], fun k h => conf_valuesFault.l0_eq k h.1 h.2.1 h.2.2.1⟩, trivial⟩ (F := fun k h => conf_valuesFault.f k h.1) (fun _ => by first | rfl | rw [conf_valuesFault.f]) (fun k h => conf_valuesFault.f_eq k h.1)
    (fun k own => by unfold conf_valuesFault.O; exact oracle_of (P := Tryd.prog) (C := ctx) ⟨own, ⟨(conf_valueFault.ok k), trivial⟩⟩)
def conf_Check.f (k : Nat) (a0 : T_api_Value) : Option (Int) := ((conf_count.f k (T_api_Value.mk a0.fKind a0.fBool a0.fInt a0.fText a0.fItems a0.fKeys)).bind fun y1 => (bif (ilt 1000 y1) then (some 4) else ((conf_levels.f k (T_api_Value.mk a0.fKind a0.fBool a0.fInt a0.fText a0.fItems a0.fKeys)).bind fun y2 => (bif (ilt 8 y2) then (some 13) else ((conf_valuesFault.f k (T_api_Value.mk a0.fKind a0.fBool a0.fInt a0.fText a0.fItems a0.fKeys)).bind fun y3 => (some y3))))))
def conf_Check.O (k : Nat) : Oracle sg := fun n => lkp n [(37, conf_count.e k), (38, conf_levels.e k), (39, conf_valuesFault.e k)]
def conf_Check.a : Ann := .z
def conf_Check.L (k : Nat) : Nat → St sg.U → Option (RT sg.U [(.int .i64)]) := labs []
theorem conf_Check.f_eq (k : Nat) (a0 : T_api_Value) : conf_Check.f k a0 = codeK (C := ctx) (conf_Check.O k) ⟨11, [], []⟩ (conf_Check.L k) (Tryd.f15.body.getD .skip) conf_Check.a (endK ctx [(.int .i64)] [(.tmp 2)]) (slotsOf sg.U 0 [(.d (.st 1))] (a0, ()) (empty sg.U)) := by
  unfold conf_Check.f
  kernel_rfl
def conf_Check.e (k : Nat) : Entry sg := entryOf sg [(.d (.st 1))] [(.int .i64)] (fun h => conf_Check.f k h.1)
def conf_Check.T : List (Lb sg (RT sg.U [(.int .i64)])) := []
theorem conf_Check.ok (k : Nat) : (conf_Check.e k).Sound Tryd.prog ctx 15 :=
  entry_ok base_ok mo (fn := Tryd.f15) (b := (Tryd.f15.body.getD .skip)) (pm := [(.d (.st 1))]) (rs := [(.int .i64)]) (an := conf_Check.a) (N := 11) (vars := [(.tmp 2)]) Tryd.func15 (by kernel_rfl) (by kernel_rfl) (by kernel_rfl) (by kernel_rfl) (by kernel_rfl) (by kernel_rfl) (O := conf_Check.O)
    (fun k => by unfold conf_Check.O; exact oracle_of (P := Tryd.prog) (C := ctx) ⟨(conf_count.ok k), ⟨(conf_levels.ok k), ⟨(conf_valuesFault.ok k), trivial⟩⟩⟩) conf_Check.T trivial k (fun h => conf_Check.f_eq k h.1)
def list_compound.f (a0 : T_api_Value) : Option (Bool) := (some (bif (ieq a0.fKind 5) then true else (ieq a0.fKind 6)))
def list_compound.O : Oracle sg := fun n => lkp n []
def list_compound.a : Ann := .z
def list_compound.L : Nat → St sg.U → Option (RT sg.U [.bool]) := labs []
theorem list_compound.f_eq (a0 : T_api_Value) : list_compound.f a0 = codeK (C := ctx) (list_compound.O) ⟨11, [], []⟩ (list_compound.L) (Tryd.f120.body.getD .skip) list_compound.a (endK ctx [.bool] [(.tmp 2)]) (slotsOf sg.U 0 [(.d (.st 1))] (a0, ()) (empty sg.U)) := by
  unfold list_compound.f
  kernel_rfl
def list_compound.e : Entry sg := entryOf sg [(.d (.st 1))] [.bool] (fun h => list_compound.f h.1)
def list_compound.T : List (Lb sg (RT sg.U [.bool])) := []
theorem list_compound.ok : (list_compound.e).Sound Tryd.prog ctx 120 :=
  entry_ok base_ok mo (fn := Tryd.f120) (b := (Tryd.f120.body.getD .skip)) (pm := [(.d (.st 1))]) (rs := [.bool]) (an := list_compound.a) (N := 11) (vars := [(.tmp 2)]) Tryd.func120 (by kernel_rfl) (by kernel_rfl) (by kernel_rfl) (by kernel_rfl) (by kernel_rfl) (by kernel_rfl) (O := fun _ => list_compound.O)
    (fun _ => by unfold list_compound.O; exact oracle_of (P := Tryd.prog) (C := ctx) trivial) list_compound.T trivial 0 (fun h => list_compound.f_eq h.1)
def list_wrongKind.l0 : Nat → (List T_api_Value) → Int → Int → Option (Bool)
  | 0, _, _, _ => none
  | k + 1, x14, x15, x16 => (bif (ilt x16 x15) then ((lat x14 x16).bind fun y2 => ((list_compound.f (T_api_Value.mk y2.fKind y2.fBool y2.fInt y2.fText y2.fItems y2.fKeys)).bind fun y3 => (bif y3 then (some true) else (list_wrongKind.l0 k x14 x15 (wadd .i64 x16 1))))) else (some false))
def list_wrongKind.f (k : Nat) (a0 : Int) (a1 : T_api_Value) : Option (Bool) := (bif (ieq a0 12) then (bif (!ieq a1.fKind 5) then (some true) else (list_wrongKind.l0 k a1.fItems (llen a1.fItems) 0)) else (bif (ieq a0 13) then (some (!ieq a1.fKind 3)) else ((list_compound.f (T_api_Value.mk a1.fKind a1.fBool a1.fInt a1.fText a1.fItems a1.fKeys)).bind fun y1 => (some y1))))
def list_wrongKind.O (k : Nat) : Oracle sg := fun n => lkp n [(120, list_compound.e)]
def list_wrongKind.a : Ann := (.n .z (.n (.n .z (.n .z (.n (.n .z (.n (.n .z (.lp 0 .z)) .z)) .z))) .z))
def list_wrongKind.L (k : Nat) : Nat → St sg.U → Option (RT sg.U [.bool]) := labs [(0, labOf sg [(14, (.d (.sl (.st 1)))), (15, (.d (.int .i64))), (16, (.d (.int .i64)))] (fun h => list_wrongKind.l0 k h.1 h.2.1 h.2.2.1))]
theorem list_wrongKind.l0_eq (k : Nat) (x14 : (List T_api_Value)) (x15 : Int) (x16 : Int) : list_wrongKind.l0 (k + 1) x14 x15 x16 = runFrom (C := ctx) (list_wrongKind.O k) ⟨30, [], []⟩ (list_wrongKind.L k) (Tryd.f93.body.getD .skip) list_wrongKind.a 0 (endK ctx [.bool] [(.tmp 4)]) (encD [(14, (.d (.sl (.st 1)))), (15, (.d (.int .i64))), (16, (.d (.int .i64)))] (x14, x15, x16, ()) (startD sg.U ⟨30, [], []⟩ [(14, (.d (.sl (.st 1)))), (15, (.d (.int .i64))), (16, (.d (.int .i64)))])) := by
  rw [list_wrongKind.l0]
  kernel_rfl
theorem list_wrongKind.f_eq (k : Nat) (a0 : Int) (a1 : T_api_Value) : list_wrongKind.f k a0 a1 = codeK (C := ctx) (list_wrongKind.O k) ⟨30, [], []⟩ (list_wrongKind.L k) (Tryd.f93.body.getD .skip) list_wrongKind.a (endK ctx [.bool] [(.tmp 4)]) (slotsOf sg.U 0 [(.d (.int .i64)), (.d (.st 1))] (a0, a1, ()) (empty sg.U)) := by
  unfold list_wrongKind.f
  kernel_rfl
def list_wrongKind.e (k : Nat) : Entry sg := entryOf sg [(.d (.int .i64)), (.d (.st 1))] [.bool] (fun h => list_wrongKind.f k h.1 h.2.1)
def list_wrongKind.T : List (Lb sg (RT sg.U [.bool])) := [⟨0, [(14, (.d (.sl (.st 1)))), (15, (.d (.int .i64))), (16, (.d (.int .i64)))], fun k h => list_wrongKind.l0 k h.1 h.2.1 h.2.2.1⟩]
theorem list_wrongKind.ok (k : Nat) : (list_wrongKind.e k).Sound Tryd.prog ctx 93 :=
  entry_ok base_ok mo (fn := Tryd.f93) (b := (Tryd.f93.body.getD .skip)) (pm := [(.d (.int .i64)), (.d (.st 1))]) (rs := [.bool]) (an := list_wrongKind.a) (N := 30) (vars := [(.tmp 4)]) Tryd.func93 (by kernel_rfl) (by kernel_rfl) (by kernel_rfl) (by kernel_rfl) (by kernel_rfl) (by kernel_rfl) (O := list_wrongKind.O)
    (fun k => by unfold list_wrongKind.O; exact oracle_of (P := Tryd.prog) (C := ctx) ⟨(list_compound.ok), trivial⟩) list_wrongKind.T ⟨⟨by kernel_rfl, fun _ => by first | rfl | rw [list_wrongKind.l0], fun k h => list_wrongKind.l0_eq k h.1 h.2.1 h.2.2.1⟩, trivial⟩ k (fun h => list_wrongKind.f_eq k h.1 h.2.1)
mutual
def list_condFault.l0 : Nat → Int → ByteArray → Int → Bool → Int → ByteArray → (List T_api_Value) → (List ByteArray) → (List T_list_Cond) → (List T_list_Cond) → Int → Int → Option (Int)
  | 0, _, _, _, _, _, _, _, _, _, _, _, _ => none
  | k + 1, x1_0, x1_1, x1_2, x1_3, x1_4, x1_5, x1_6, x1_7, x1_8, x41, x42, x43 => (bif (ilt x43 x42) then ((lat x41 x43).bind fun y1 => (bif (bif (ile x1_0 2) then (ieq y1.fOp x1_0) else false) then (some 1) else (list_condFault.l0 k x1_0 x1_1 x1_2 x1_3 x1_4 x1_5 x1_6 x1_7 x1_8 x41 x42 (wadd .i64 x43 1)))) else (bif (ile x1_0 3) then (bif (!seq x1_1 c_empty) then (some 1) else ((list_zero.f (T_api_Value.mk x1_2 x1_3 x1_4 x1_5 x1_6 x1_7)).bind fun y2 => (bif (!y2) then (some 1) else (bif (ieq x1_0 4) then ((list_zero.f (T_api_Value.mk x1_2 x1_3 x1_4 x1_5 x1_6 x1_7)).bind fun y3 => (bif (!y3) then (some 1) else (list_condFault.l1 k x1_0 x1_1 x1_2 x1_3 x1_4 x1_5 x1_6 x1_7 x1_8))) else (list_condFault.l1 k x1_0 x1_1 x1_2 x1_3 x1_4 x1_5 x1_6 x1_7 x1_8))))) else (bif (ieq x1_0 4) then ((list_zero.f (T_api_Value.mk x1_2 x1_3 x1_4 x1_5 x1_6 x1_7)).bind fun y4 => (bif (!y4) then (some 1) else (list_condFault.l1 k x1_0 x1_1 x1_2 x1_3 x1_4 x1_5 x1_6 x1_7 x1_8))) else (list_condFault.l1 k x1_0 x1_1 x1_2 x1_3 x1_4 x1_5 x1_6 x1_7 x1_8))))
def list_condFault.l1 : Nat → Int → ByteArray → Int → Bool → Int → ByteArray → (List T_api_Value) → (List ByteArray) → (List T_list_Cond) → Option (Int)
  | 0, _, _, _, _, _, _, _, _, _ => none
  | k + 1, x1_0, x1_1, x1_2, x1_3, x1_4, x1_5, x1_6, x1_7, x1_8 => (bif (ile x1_0 3) then (some 0) else ((list_isRoute.f k x1_1).bind fun y5 => (bif (!y5) then (some 3) else ((conf_Check.f k (T_api_Value.mk x1_2 x1_3 x1_4 x1_5 x1_6 x1_7)).bind fun y6 => (bif (!ieq y6 0) then (some y6) else (bif (!ieq x1_0 4) then ((list_wrongKind.f k x1_0 (T_api_Value.mk x1_2 x1_3 x1_4 x1_5 x1_6 x1_7)).bind fun y7 => (bif y7 then (some 10) else (some 0))) else (some 0)))))))
end
def list_condFault.f (k : Nat) (a0 : T_list_Cond) : Option (Int) := (bif (bif (ilt a0.fOp 1) then true else (ilt 13 a0.fOp)) then (some 1) else (bif (bif (ile a0.fOp 2) then (ilt (llen a0.fKids) 2) else false) then (some 1) else (bif (bif (ieq a0.fOp 3) then (!ieq (llen a0.fKids) 1) else false) then (some 1) else (bif (bif (ile 4 a0.fOp) then (ilt 0 (llen a0.fKids)) else false) then (some 1) else (list_condFault.l0 k a0.fOp a0.fRoute a0.fValue.fKind a0.fValue.fBool a0.fValue.fInt a0.fValue.fText a0.fValue.fItems a0.fValue.fKeys a0.fKids a0.fKids (llen a0.fKids) 0)))))
def list_condFault.O (k : Nat) : Oracle sg := fun n => lkp n [(15, conf_Check.e k), (91, list_zero.e), (92, list_isRoute.e k), (93, list_wrongKind.e k)]
def list_condFault.a : Ann := (.n .z (.n .z (.n .z (.n (.n .z (.lp 0 .z)) (.n .z (.lab 1 .z))))))
def list_condFault.L (k : Nat) : Nat → St sg.U → Option (RT sg.U [(.int .i64)]) := labs [(0, labOf sg [(1, (.box [.d (.int .i64), .d .str, .d (.int .i64), .d .bool, .d (.int .i64), .d .str, .d (.sl (.st 1)), .d (.sl .str), .d (.sl (.st 0))])), (41, (.d (.sl (.st 0)))), (42, (.d (.int .i64))), (43, (.d (.int .i64)))] (fun h => list_condFault.l0 k h.1 h.2.1 h.2.2.1 h.2.2.2.1 h.2.2.2.2.1 h.2.2.2.2.2.1 h.2.2.2.2.2.2.1 h.2.2.2.2.2.2.2.1 h.2.2.2.2.2.2.2.2.1 h.2.2.2.2.2.2.2.2.2.1 h.2.2.2.2.2.2.2.2.2.2.1 h.2.2.2.2.2.2.2.2.2.2.2.1)), (1, labOf sg [(1, (.box [.d (.int .i64), .d .str, .d (.int .i64), .d .bool, .d (.int .i64), .d .str, .d (.sl (.st 1)), .d (.sl .str), .d (.sl (.st 0))]))] (fun h => list_condFault.l1 k h.1 h.2.1 h.2.2.1 h.2.2.2.1 h.2.2.2.2.1 h.2.2.2.2.2.1 h.2.2.2.2.2.2.1 h.2.2.2.2.2.2.2.1 h.2.2.2.2.2.2.2.2.1))]
theorem list_condFault.l0_eq (k : Nat) (x1_0 : Int) (x1_1 : ByteArray) (x1_2 : Int) (x1_3 : Bool) (x1_4 : Int) (x1_5 : ByteArray) (x1_6 : (List T_api_Value)) (x1_7 : (List ByteArray)) (x1_8 : (List T_list_Cond)) (x41 : (List T_list_Cond)) (x42 : Int) (x43 : Int) : list_condFault.l0 (k + 1) x1_0 x1_1 x1_2 x1_3 x1_4 x1_5 x1_6 x1_7 x1_8 x41 x42 x43 = runFrom (C := ctx) (list_condFault.O k) ⟨106, [], []⟩ (list_condFault.L k) (Tryd.f69.body.getD .skip) list_condFault.a 0 (endK ctx [(.int .i64)] [(.tmp 2)]) (encD [(1, (.box [.d (.int .i64), .d .str, .d (.int .i64), .d .bool, .d (.int .i64), .d .str, .d (.sl (.st 1)), .d (.sl .str), .d (.sl (.st 0))])), (41, (.d (.sl (.st 0)))), (42, (.d (.int .i64))), (43, (.d (.int .i64)))] (x1_0, x1_1, x1_2, x1_3, x1_4, x1_5, x1_6, x1_7, x1_8, x41, x42, x43, ()) (startD sg.U ⟨106, [], []⟩ [(1, (.box [.d (.int .i64), .d .str, .d (.int .i64), .d .bool, .d (.int .i64), .d .str, .d (.sl (.st 1)), .d (.sl .str), .d (.sl (.st 0))])), (41, (.d (.sl (.st 0)))), (42, (.d (.int .i64))), (43, (.d (.int .i64)))])) := by
  rw [list_condFault.l0]
  kernel_rfl
theorem list_condFault.l1_eq (k : Nat) (x1_0 : Int) (x1_1 : ByteArray) (x1_2 : Int) (x1_3 : Bool) (x1_4 : Int) (x1_5 : ByteArray) (x1_6 : (List T_api_Value)) (x1_7 : (List ByteArray)) (x1_8 : (List T_list_Cond)) : list_condFault.l1 (k + 1) x1_0 x1_1 x1_2 x1_3 x1_4 x1_5 x1_6 x1_7 x1_8 = runFrom (C := ctx) (list_condFault.O k) ⟨106, [], []⟩ (list_condFault.L k) (Tryd.f69.body.getD .skip) list_condFault.a 1 (endK ctx [(.int .i64)] [(.tmp 2)]) (encD [(1, (.box [.d (.int .i64), .d .str, .d (.int .i64), .d .bool, .d (.int .i64), .d .str, .d (.sl (.st 1)), .d (.sl .str), .d (.sl (.st 0))]))] (x1_0, x1_1, x1_2, x1_3, x1_4, x1_5, x1_6, x1_7, x1_8, ()) (startD sg.U ⟨106, [], []⟩ [(1, (.box [.d (.int .i64), .d .str, .d (.int .i64), .d .bool, .d (.int .i64), .d .str, .d (.sl (.st 1)), .d (.sl .str), .d (.sl (.st 0))]))])) := by
  rw [list_condFault.l1]
  kernel_rfl
theorem list_condFault.f_eq (k : Nat) (a0 : T_list_Cond) : list_condFault.f k a0 = codeK (C := ctx) (list_condFault.O k) ⟨106, [], []⟩ (list_condFault.L k) (Tryd.f69.body.getD .skip) list_condFault.a (endK ctx [(.int .i64)] [(.tmp 2)]) (slotsOf sg.U 0 [(.d (.st 0))] (a0, ()) (empty sg.U)) := by
  unfold list_condFault.f
  kernel_rfl
def list_condFault.e (k : Nat) : Entry sg := entryOf sg [(.d (.st 0))] [(.int .i64)] (fun h => list_condFault.f k h.1)
def list_condFault.T : List (Lb sg (RT sg.U [(.int .i64)])) := [⟨0, [(1, (.box [.d (.int .i64), .d .str, .d (.int .i64), .d .bool, .d (.int .i64), .d .str, .d (.sl (.st 1)), .d (.sl .str), .d (.sl (.st 0))])), (41, (.d (.sl (.st 0)))), (42, (.d (.int .i64))), (43, (.d (.int .i64)))], fun k h => list_condFault.l0 k h.1 h.2.1 h.2.2.1 h.2.2.2.1 h.2.2.2.2.1 h.2.2.2.2.2.1 h.2.2.2.2.2.2.1 h.2.2.2.2.2.2.2.1 h.2.2.2.2.2.2.2.2.1 h.2.2.2.2.2.2.2.2.2.1 h.2.2.2.2.2.2.2.2.2.2.1 h.2.2.2.2.2.2.2.2.2.2.2.1⟩, ⟨1, [(1, (.box [.d (.int .i64), .d .str, .d (.int .i64), .d .bool, .d (.int .i64), .d .str, .d (.sl (.st 1)), .d (.sl .str), .d (.sl (.st 0))]))], fun k h => list_condFault.l1 k h.1 h.2.1 h.2.2.1 h.2.2.2.1 h.2.2.2.2.1 h.2.2.2.2.2.1 h.2.2.2.2.2.2.1 h.2.2.2.2.2.2.2.1 h.2.2.2.2.2.2.2.2.1⟩]
theorem list_condFault.ok (k : Nat) : (list_condFault.e k).Sound Tryd.prog ctx 69 :=
  entry_ok base_ok mo (fn := Tryd.f69) (b := (Tryd.f69.body.getD .skip)) (pm := [(.d (.st 0))]) (rs := [(.int .i64)]) (an := list_condFault.a) (N := 106) (vars := [(.tmp 2)]) Tryd.func69 (by kernel_rfl) (by kernel_rfl) (by kernel_rfl) (by kernel_rfl) (by kernel_rfl) (by kernel_rfl) (O := list_condFault.O)
    (fun k => by unfold list_condFault.O; exact oracle_of (P := Tryd.prog) (C := ctx) ⟨(conf_Check.ok k), ⟨(list_zero.ok), ⟨(list_isRoute.ok k), ⟨(list_wrongKind.ok k), trivial⟩⟩⟩⟩) list_condFault.T ⟨⟨by kernel_rfl, fun _ => by first | rfl | rw [list_condFault.l0], fun k h => list_condFault.l0_eq k h.1 h.2.1 h.2.2.1 h.2.2.2.1 h.2.2.2.2.1 h.2.2.2.2.2.1 h.2.2.2.2.2.2.1 h.2.2.2.2.2.2.2.1 h.2.2.2.2.2.2.2.2.1 h.2.2.2.2.2.2.2.2.2.1 h.2.2.2.2.2.2.2.2.2.2.1 h.2.2.2.2.2.2.2.2.2.2.2.1⟩, ⟨⟨by kernel_rfl, fun _ => by first | rfl | rw [list_condFault.l1], fun k h => list_condFault.l1_eq k h.1 h.2.1 h.2.2.1 h.2.2.2.1 h.2.2.2.2.1 h.2.2.2.2.2.1 h.2.2.2.2.2.2.1 h.2.2.2.2.2.2.2.1 h.2.2.2.2.2.2.2.2.1⟩, trivial⟩⟩ k (fun h => list_condFault.f_eq k h.1)
mutual
def list_condsFault.l0 : Nat → (List T_list_Cond) → Int → Int → Option (Int)
  | 0, _, _, _ => none
  | k + 1, x13, x14, x15 => (bif (ilt x15 x14) then ((lat x13 x15).bind fun y2 => ((list_condsFault.f k (T_list_Cond.mk y2.fOp y2.fRoute (T_api_Value.mk y2.fValue.fKind y2.fValue.fBool y2.fValue.fInt y2.fValue.fText y2.fValue.fItems y2.fValue.fKeys) y2.fKids)).bind fun y3 => (bif (!ieq y3 0) then (some y3) else (list_condsFault.l0 k x13 x14 (wadd .i64 x15 1))))) else (some 0))
def list_condsFault.f : Nat → T_list_Cond → Option (Int)
  | 0, _ => none
  | k + 1, a0 => ((list_condFault.f k (T_list_Cond.mk a0.fOp a0.fRoute (T_api_Value.mk a0.fValue.fKind a0.fValue.fBool a0.fValue.fInt a0.fValue.fText a0.fValue.fItems a0.fValue.fKeys) a0.fKids)).bind fun y1 => (bif (!ieq y1 0) then (some y1) else (list_condsFault.l0 k a0.fKids (llen a0.fKids) 0)))
end
def list_condsFault.e (k : Nat) : Entry sg := entryOf sg [(.d (.st 0))] [(.int .i64)] (fun h => list_condsFault.f k h.1)
def list_condsFault.O (k : Nat) : Oracle sg := fun n => lkp n [(42, list_condsFault.e k), (69, list_condFault.e k)]
def list_condsFault.a : Ann := (.n .z (.n .z (.n (.n .z (.lp 0 .z)) .z)))
def list_condsFault.L (k : Nat) : Nat → St sg.U → Option (RT sg.U [(.int .i64)]) := labs [(0, labOf sg [(13, (.d (.sl (.st 0)))), (14, (.d (.int .i64))), (15, (.d (.int .i64)))] (fun h => list_condsFault.l0 k h.1 h.2.1 h.2.2.1))]
theorem list_condsFault.l0_eq (k : Nat) (x13 : (List T_list_Cond)) (x14 : Int) (x15 : Int) : list_condsFault.l0 (k + 1) x13 x14 x15 = runFrom (C := ctx) (list_condsFault.O k) ⟨25, [], []⟩ (list_condsFault.L k) (Tryd.f42.body.getD .skip) list_condsFault.a 0 (endK ctx [(.int .i64)] [(.tmp 2)]) (encD [(13, (.d (.sl (.st 0)))), (14, (.d (.int .i64))), (15, (.d (.int .i64)))] (x13, x14, x15, ()) (startD sg.U ⟨25, [], []⟩ [(13, (.d (.sl (.st 0)))), (14, (.d (.int .i64))), (15, (.d (.int .i64)))])) := by
  rw [list_condsFault.l0]
  kernel_rfl
theorem list_condsFault.f_eq (k : Nat) (a0 : T_list_Cond) : list_condsFault.f (k + 1) a0 = codeK (C := ctx) (list_condsFault.O k) ⟨25, [], []⟩ (list_condsFault.L k) (Tryd.f42.body.getD .skip) list_condsFault.a (endK ctx [(.int .i64)] [(.tmp 2)]) (slotsOf sg.U 0 [(.d (.st 0))] (a0, ()) (empty sg.U)) := by
  rw [list_condsFault.f]
  kernel_rfl
def list_condsFault.T : List (Lb sg (RT sg.U [(.int .i64)])) := [⟨0, [(13, (.d (.sl (.st 0)))), (14, (.d (.int .i64))), (15, (.d (.int .i64)))], fun k h => list_condsFault.l0 k h.1 h.2.1 h.2.2.1⟩]
theorem list_condsFault.ok : ∀ k : Nat, (list_condsFault.e k).Sound Tryd.prog ctx 42 :=
  entry_rec base_ok mo (fn := Tryd.f42) (b := (Tryd.f42.body.getD .skip)) (pm := [(.d (.st 0))]) (rs := [(.int .i64)]) (an := list_condsFault.a) (N := 25) (vars := [(.tmp 2)]) Tryd.func42 (by kernel_rfl) (by kernel_rfl) (by kernel_rfl) (by kernel_rfl) (by kernel_rfl) (by kernel_rfl) (O := list_condsFault.O) list_condsFault.T ⟨⟨by kernel_rfl, fun _ => by first | rfl | rw [list_condsFault.l0], fun k h => list_condsFault.l0_eq k h.1 h.2.1 h.2.2.1⟩, trivial⟩ (F := fun k h => list_condsFault.f k h.1) (fun _ => by first | rfl | rw [list_condsFault.f]) (fun k h => list_condsFault.f_eq k h.1)
    (fun k own => by unfold list_condsFault.O; exact oracle_of (P := Tryd.prog) (C := ctx) ⟨own, ⟨(list_condFault.ok k), trivial⟩⟩)
def list_CheckCond.f (k : Nat) (a0 : T_list_Cond) : Option (Int) := ((list_many.f k (T_list_Cond.mk a0.fOp a0.fRoute (T_api_Value.mk a0.fValue.fKind a0.fValue.fBool a0.fValue.fInt a0.fValue.fText a0.fValue.fItems a0.fValue.fKeys) a0.fKids)).bind fun y1 => (bif (ilt 200 y1) then (some 4) else ((list_deep.f k (T_list_Cond.mk a0.fOp a0.fRoute (T_api_Value.mk a0.fValue.fKind a0.fValue.fBool a0.fValue.fInt a0.fValue.fText a0.fValue.fItems a0.fValue.fKeys) a0.fKids)).bind fun y2 => (bif (ilt 20 y2) then (some 13) else ((list_condsFault.f k (T_list_Cond.mk a0.fOp a0.fRoute (T_api_Value.mk a0.fValue.fKind a0.fValue.fBool a0.fValue.fInt a0.fValue.fText a0.fValue.fItems a0.fValue.fKeys) a0.fKids)).bind fun y3 => (some y3))))))
def list_CheckCond.O (k : Nat) : Oracle sg := fun n => lkp n [(40, list_many.e k), (41, list_deep.e k), (42, list_condsFault.e k)]
def list_CheckCond.a : Ann := .z
def list_CheckCond.L (k : Nat) : Nat → St sg.U → Option (RT sg.U [(.int .i64)]) := labs []
theorem list_CheckCond.f_eq (k : Nat) (a0 : T_list_Cond) : list_CheckCond.f k a0 = codeK (C := ctx) (list_CheckCond.O k) ⟨11, [], []⟩ (list_CheckCond.L k) (Tryd.f17.body.getD .skip) list_CheckCond.a (endK ctx [(.int .i64)] [(.tmp 2)]) (slotsOf sg.U 0 [(.d (.st 0))] (a0, ()) (empty sg.U)) := by
  unfold list_CheckCond.f
  kernel_rfl
def list_CheckCond.e (k : Nat) : Entry sg := entryOf sg [(.d (.st 0))] [(.int .i64)] (fun h => list_CheckCond.f k h.1)
def list_CheckCond.T : List (Lb sg (RT sg.U [(.int .i64)])) := []
theorem list_CheckCond.ok (k : Nat) : (list_CheckCond.e k).Sound Tryd.prog ctx 17 :=
  entry_ok base_ok mo (fn := Tryd.f17) (b := (Tryd.f17.body.getD .skip)) (pm := [(.d (.st 0))]) (rs := [(.int .i64)]) (an := list_CheckCond.a) (N := 11) (vars := [(.tmp 2)]) Tryd.func17 (by kernel_rfl) (by kernel_rfl) (by kernel_rfl) (by kernel_rfl) (by kernel_rfl) (by kernel_rfl) (O := list_CheckCond.O)
    (fun k => by unfold list_CheckCond.O; exact oracle_of (P := Tryd.prog) (C := ctx) ⟨(list_many.ok k), ⟨(list_deep.ok k), ⟨(list_condsFault.ok k), trivial⟩⟩⟩) list_CheckCond.T trivial k (fun h => list_CheckCond.f_eq k h.1)
mutual
def mastref2_condsOf.l0 : Nat → Int → Int → (List T_list_Cond) → Int → Int → Option (Int × Int)
  | 0, _, _, _, _, _ => none
  | k + 1, x2, x3, x9, x10, x11 => (bif (ilt x11 x10) then ((lat x9 x11).bind fun y1 => ((mastref2_condsOf.f k (T_list_Cond.mk y1.fOp y1.fRoute (T_api_Value.mk y1.fValue.fKind y1.fValue.fBool y1.fValue.fInt y1.fValue.fText y1.fValue.fItems y1.fValue.fKeys) y1.fKids)).bind fun y2 => (mastref2_condsOf.l0 k (wadd .i64 x2 y2.1) (imax x3 y2.2) x9 x10 (wadd .i64 x11 1)))) else (some (x2, (wadd .i64 x3 1))))
def mastref2_condsOf.f : Nat → T_list_Cond → Option (Int × Int)
  | 0, _ => none
  | k + 1, a0 => (mastref2_condsOf.l0 k 1 0 a0.fKids (llen a0.fKids) 0)
end
def mastref2_condsOf.e (k : Nat) : Entry sg := entryOf sg [(.d (.st 0))] [(.int .i64), (.int .i64)] (fun h => mastref2_condsOf.f k h.1)
def mastref2_condsOf.O (k : Nat) : Oracle sg := fun n => lkp n [(43, mastref2_condsOf.e k)]
def mastref2_condsOf.a : Ann := (.n .z (.n .z (.n (.n .z (.lp 0 .z)) .z)))
def mastref2_condsOf.L (k : Nat) : Nat → St sg.U → Option (RT sg.U [(.int .i64), (.int .i64)]) := labs [(0, labOf sg [(2, (.d (.int .i64))), (3, (.d (.int .i64))), (9, (.d (.sl (.st 0)))), (10, (.d (.int .i64))), (11, (.d (.int .i64)))] (fun h => mastref2_condsOf.l0 k h.1 h.2.1 h.2.2.1 h.2.2.2.1 h.2.2.2.2.1))]
theorem mastref2_condsOf.l0_eq (k : Nat) (x2 : Int) (x3 : Int) (x9 : (List T_list_Cond)) (x10 : Int) (x11 : Int) : mastref2_condsOf.l0 (k + 1) x2 x3 x9 x10 x11 = runFrom (C := ctx) (mastref2_condsOf.O k) ⟨30, [], []⟩ (mastref2_condsOf.L k) (Tryd.f43.body.getD .skip) mastref2_condsOf.a 0 (endK ctx [(.int .i64), (.int .i64)] [(.tmp 2), (.tmp 3)]) (encD [(2, (.d (.int .i64))), (3, (.d (.int .i64))), (9, (.d (.sl (.st 0)))), (10, (.d (.int .i64))), (11, (.d (.int .i64)))] (x2, x3, x9, x10, x11, ()) (startD sg.U ⟨30, [], []⟩ [(2, (.d (.int .i64))), (3, (.d (.int .i64))), (9, (.d (.sl (.st 0)))), (10, (.d (.int .i64))), (11, (.d (.int .i64)))])) := by
  rw [mastref2_condsOf.l0]
  kernel_rfl
theorem mastref2_condsOf.f_eq (k : Nat) (a0 : T_list_Cond) : mastref2_condsOf.f (k + 1) a0 = codeK (C := ctx) (mastref2_condsOf.O k) ⟨30, [], []⟩ (mastref2_condsOf.L k) (Tryd.f43.body.getD .skip) mastref2_condsOf.a (endK ctx [(.int .i64), (.int .i64)] [(.tmp 2), (.tmp 3)]) (slotsOf sg.U 0 [(.d (.st 0))] (a0, ()) (empty sg.U)) := by
  rw [mastref2_condsOf.f]
  kernel_rfl
def mastref2_condsOf.T : List (Lb sg (RT sg.U [(.int .i64), (.int .i64)])) := [⟨0, [(2, (.d (.int .i64))), (3, (.d (.int .i64))), (9, (.d (.sl (.st 0)))), (10, (.d (.int .i64))), (11, (.d (.int .i64)))], fun k h => mastref2_condsOf.l0 k h.1 h.2.1 h.2.2.1 h.2.2.2.1 h.2.2.2.2.1⟩]
theorem mastref2_condsOf.ok : ∀ k : Nat, (mastref2_condsOf.e k).Sound Tryd.prog ctx 43 :=
  entry_rec base_ok mo (fn := Tryd.f43) (b := (Tryd.f43.body.getD .skip)) (pm := [(.d (.st 0))]) (rs := [(.int .i64), (.int .i64)]) (an := mastref2_condsOf.a) (N := 30) (vars := [(.tmp 2), (.tmp 3)]) Tryd.func43 (by kernel_rfl) (by kernel_rfl) (by kernel_rfl) (by kernel_rfl) (by kernel_rfl) (by kernel_rfl) (O := mastref2_condsOf.O) mastref2_condsOf.T ⟨⟨by kernel_rfl, fun _ => by first | rfl | rw [mastref2_condsOf.l0], fun k h => mastref2_condsOf.l0_eq k h.1 h.2.1 h.2.2.1 h.2.2.2.1 h.2.2.2.2.1⟩, trivial⟩ (F := fun k h => mastref2_condsOf.f k h.1) (fun _ => by first | rfl | rw [mastref2_condsOf.f]) (fun k h => mastref2_condsOf.f_eq k h.1)
    (fun k own => by unfold mastref2_condsOf.O; exact oracle_of (P := Tryd.prog) (C := ctx) ⟨own, trivial⟩)
def mastref2_eachCond_c1.f (a0 : T_list_Cond) (a1_0 : Int) (a1_1 : ByteArray) (a1_2 : Int) (a1_3 : Bool) (a1_4 : Int) (a1_5 : ByteArray) (a1_6 : (List T_api_Value)) (a1_7 : (List ByteArray)) (a1_8 : (List T_list_Cond)) : Option (Bool × Int × ByteArray × Int × Bool × Int × ByteArray × (List T_api_Value) × (List ByteArray) × (List T_list_Cond) × Unit) := (some ((ieq a0.fOp a1_0), (a1_0, a1_1, a1_2, a1_3, a1_4, a1_5, a1_6, a1_7, a1_8, ())))
def mastref2_eachCond_c1.O : Oracle sg := fun n => lkp n []
def mastref2_eachCond_c1.a : Ann := .z
def mastref2_eachCond_c1.L : Nat → St sg.U → Option (RT sg.U [.bool] × HL sg.U (PM.outs [(.d (.st 0)), (.ref [.d (.int .i64), .d .str, .d (.int .i64), .d .bool, .d (.int .i64), .d .str, .d (.sl (.st 1)), .d (.sl .str), .d (.sl (.st 0))])])) := labs []
theorem mastref2_eachCond_c1.f_eq (a0 : T_list_Cond) (a1_0 : Int) (a1_1 : ByteArray) (a1_2 : Int) (a1_3 : Bool) (a1_4 : Int) (a1_5 : ByteArray) (a1_6 : (List T_api_Value)) (a1_7 : (List ByteArray)) (a1_8 : (List T_list_Cond)) : mastref2_eachCond_c1.f a0 a1_0 a1_1 a1_2 a1_3 a1_4 a1_5 a1_6 a1_7 a1_8 = codeK (C := ctx) (mastref2_eachCond_c1.O) ⟨9, [1], []⟩ (mastref2_eachCond_c1.L) (Tryd.f71.body.getD .skip) mastref2_eachCond_c1.a (endR ctx [.bool] [(.tmp 3)] [(.d (.st 0)), (.ref [.d (.int .i64), .d .str, .d (.int .i64), .d .bool, .d (.int .i64), .d .str, .d (.sl (.st 1)), .d (.sl .str), .d (.sl (.st 0))])]) (slotsOf sg.U 0 [(.d (.st 0)), (.ref [.d (.int .i64), .d .str, .d (.int .i64), .d .bool, .d (.int .i64), .d .str, .d (.sl (.st 1)), .d (.sl .str), .d (.sl (.st 0))])] (a0, a1_0, a1_1, a1_2, a1_3, a1_4, a1_5, a1_6, a1_7, a1_8, ()) (emptyG sg.U (PM.gs [(.d (.st 0)), (.ref [.d (.int .i64), .d .str, .d (.int .i64), .d .bool, .d (.int .i64), .d .str, .d (.sl (.st 1)), .d (.sl .str), .d (.sl (.st 0))])]))) := by
  unfold mastref2_eachCond_c1.f
  kernel_rfl
def mastref2_eachCond_c1.e : Entry sg := entryR sg [(.d (.st 0)), (.ref [.d (.int .i64), .d .str, .d (.int .i64), .d .bool, .d (.int .i64), .d .str, .d (.sl (.st 1)), .d (.sl .str), .d (.sl (.st 0))])] [.bool] (fun h => mastref2_eachCond_c1.f h.1 h.2.1 h.2.2.1 h.2.2.2.1 h.2.2.2.2.1 h.2.2.2.2.2.1 h.2.2.2.2.2.2.1 h.2.2.2.2.2.2.2.1 h.2.2.2.2.2.2.2.2.1 h.2.2.2.2.2.2.2.2.2.1)
def mastref2_eachCond_c1.T : List (Lb sg (RT sg.U [.bool] × HL sg.U (PM.outs [(.d (.st 0)), (.ref [.d (.int .i64), .d .str, .d (.int .i64), .d .bool, .d (.int .i64), .d .str, .d (.sl (.st 1)), .d (.sl .str), .d (.sl (.st 0))])]))) := []
theorem mastref2_eachCond_c1.ok : (mastref2_eachCond_c1.e).Sound Tryd.prog ctx 71 :=
  entryR_ok base_ok mo (fn := Tryd.f71) (b := (Tryd.f71.body.getD .skip)) (pm := [(.d (.st 0)), (.ref [.d (.int .i64), .d .str, .d (.int .i64), .d .bool, .d (.int .i64), .d .str, .d (.sl (.st 1)), .d (.sl .str), .d (.sl (.st 0))])]) (rs := [.bool]) (an := mastref2_eachCond_c1.a) (N := 9) (vars := [(.tmp 3)]) Tryd.func71 (by kernel_rfl) (by kernel_rfl) (by kernel_rfl) (by kernel_rfl) (by kernel_rfl) (by kernel_rfl) (by kernel_rfl) (by kernel_rfl) (O := fun _ => mastref2_eachCond_c1.O)
    (fun _ => by unfold mastref2_eachCond_c1.O; exact oracle_of (P := Tryd.prog) (C := ctx) trivial) mastref2_eachCond_c1.T trivial 0 (fun h => mastref2_eachCond_c1.f_eq h.1 h.2.1 h.2.2.1 h.2.2.2.1 h.2.2.2.2.1 h.2.2.2.2.2.1 h.2.2.2.2.2.2.1 h.2.2.2.2.2.2.2.1 h.2.2.2.2.2.2.2.2.1 h.2.2.2.2.2.2.2.2.2.1)
def slices_IndexFunc_list_Cond_list_Cond_at_mastref2_eachCond_c1.l0 : Nat → (List T_list_Cond) → Int → Int → Int → ByteArray → Int → Bool → Int → ByteArray → (List T_api_Value) → (List ByteArray) → (List T_list_Cond) → Option (Int × Int × ByteArray × Int × Bool × Int × ByteArray × (List T_api_Value) × (List ByteArray) × (List T_list_Cond) × Unit)
  | 0, _, _, _, _, _, _, _, _, _, _, _, _ => none
  | k + 1, x0, x7, x8, x19_0, x19_1, x19_2, x19_3, x19_4, x19_5, x19_6, x19_7, x19_8 => (bif (ilt x8 x7) then ((lat x0 x8).bind fun y1 => ((mastref2_eachCond_c1.f y1 x19_0 x19_1 x19_2 x19_3 x19_4 x19_5 x19_6 x19_7 x19_8).bind fun y2 => (bif y2.1 then (some (x8, (y2.2.1, y2.2.2.1, y2.2.2.2.1, y2.2.2.2.2.1, y2.2.2.2.2.2.1, y2.2.2.2.2.2.2.1, y2.2.2.2.2.2.2.2.1, y2.2.2.2.2.2.2.2.2.1, y2.2.2.2.2.2.2.2.2.2.1, ()))) else (slices_IndexFunc_list_Cond_list_Cond_at_mastref2_eachCond_c1.l0 k x0 x7 (wadd .i64 x8 1) y2.2.1 y2.2.2.1 y2.2.2.2.1 y2.2.2.2.2.1 y2.2.2.2.2.2.1 y2.2.2.2.2.2.2.1 y2.2.2.2.2.2.2.2.1 y2.2.2.2.2.2.2.2.2.1 y2.2.2.2.2.2.2.2.2.2.1)))) else (some ((-1), (x19_0, x19_1, x19_2, x19_3, x19_4, x19_5, x19_6, x19_7, x19_8, ()))))
def slices_IndexFunc_list_Cond_list_Cond_at_mastref2_eachCond_c1.f (k : Nat) (a0 : (List T_list_Cond)) (a19_0 : Int) (a19_1 : ByteArray) (a19_2 : Int) (a19_3 : Bool) (a19_4 : Int) (a19_5 : ByteArray) (a19_6 : (List T_api_Value)) (a19_7 : (List ByteArray)) (a19_8 : (List T_list_Cond)) : Option (Int × Int × ByteArray × Int × Bool × Int × ByteArray × (List T_api_Value) × (List ByteArray) × (List T_list_Cond) × Unit) := (slices_IndexFunc_list_Cond_list_Cond_at_mastref2_eachCond_c1.l0 k a0 (llen a0) 0 a19_0 a19_1 a19_2 a19_3 a19_4 a19_5 a19_6 a19_7 a19_8)
def slices_IndexFunc_list_Cond_list_Cond_at_mastref2_eachCond_c1.O (k : Nat) : Oracle sg := fun n => lkp n [(71, mastref2_eachCond_c1.e)]
def slices_IndexFunc_list_Cond_list_Cond_at_mastref2_eachCond_c1.a : Ann := (.n .z (.n (.n .z (.lp 0 .z)) .z))
def slices_IndexFunc_list_Cond_list_Cond_at_mastref2_eachCond_c1.L (k : Nat) : Nat → St sg.U → Option (RT sg.U [(.int .i64)] × HL sg.U (PM.outs [(.d (.sl (.st 0))), (.clo 71 [19]), (.gh 19 [.d (.int .i64), .d .str, .d (.int .i64), .d .bool, .d (.int .i64), .d .str, .d (.sl (.st 1)), .d (.sl .str), .d (.sl (.st 0))])])) := labs [(0, labOf sg [(0, (.d (.sl (.st 0)))), (1, (.clo 71 [19])), (7, (.d (.int .i64))), (8, (.d (.int .i64))), (19, (.gh [.d (.int .i64), .d .str, .d (.int .i64), .d .bool, .d (.int .i64), .d .str, .d (.sl (.st 1)), .d (.sl .str), .d (.sl (.st 0))]))] (fun h => slices_IndexFunc_list_Cond_list_Cond_at_mastref2_eachCond_c1.l0 k h.1 h.2.1 h.2.2.1 h.2.2.2.1 h.2.2.2.2.1 h.2.2.2.2.2.1 h.2.2.2.2.2.2.1 h.2.2.2.2.2.2.2.1 h.2.2.2.2.2.2.2.2.1 h.2.2.2.2.2.2.2.2.2.1 h.2.2.2.2.2.2.2.2.2.2.1 h.2.2.2.2.2.2.2.2.2.2.2.1))]
theorem slices_IndexFunc_list_Cond_list_Cond_at_mastref2_eachCond_c1.l0_eq (k : Nat) (x0 : (List T_list_Cond)) (x7 : Int) (x8 : Int) (x19_0 : Int) (x19_1 : ByteArray) (x19_2 : Int) (x19_3 : Bool) (x19_4 : Int) (x19_5 : ByteArray) (x19_6 : (List T_api_Value)) (x19_7 : (List ByteArray)) (x19_8 : (List T_list_Cond)) : slices_IndexFunc_list_Cond_list_Cond_at_mastref2_eachCond_c1.l0 (k + 1) x0 x7 x8 x19_0 x19_1 x19_2 x19_3 x19_4 x19_5 x19_6 x19_7 x19_8 = runFrom (C := ctx) (slices_IndexFunc_list_Cond_list_Cond_at_mastref2_eachCond_c1.O k) ⟨19, [], [19]⟩ (slices_IndexFunc_list_Cond_list_Cond_at_mastref2_eachCond_c1.L k) (Tryd.f94.body.getD .skip) slices_IndexFunc_list_Cond_list_Cond_at_mastref2_eachCond_c1.a 0 (endR ctx [(.int .i64)] [(.tmp 4)] [(.d (.sl (.st 0))), (.clo 71 [19]), (.gh 19 [.d (.int .i64), .d .str, .d (.int .i64), .d .bool, .d (.int .i64), .d .str, .d (.sl (.st 1)), .d (.sl .str), .d (.sl (.st 0))])]) (encD [(0, (.d (.sl (.st 0)))), (1, (.clo 71 [19])), (7, (.d (.int .i64))), (8, (.d (.int .i64))), (19, (.gh [.d (.int .i64), .d .str, .d (.int .i64), .d .bool, .d (.int .i64), .d .str, .d (.sl (.st 1)), .d (.sl .str), .d (.sl (.st 0))]))] (x0, x7, x8, x19_0, x19_1, x19_2, x19_3, x19_4, x19_5, x19_6, x19_7, x19_8, ()) (startD sg.U ⟨19, [], [19]⟩ [(0, (.d (.sl (.st 0)))), (1, (.clo 71 [19])), (7, (.d (.int .i64))), (8, (.d (.int .i64))), (19, (.gh [.d (.int .i64), .d .str, .d (.int .i64), .d .bool, .d (.int .i64), .d .str, .d (.sl (.st 1)), .d (.sl .str), .d (.sl (.st 0))]))])) := by
  rw [slices_IndexFunc_list_Cond_list_Cond_at_mastref2_eachCond_c1.l0]
  kernel_rfl
theorem slices_IndexFunc_list_Cond_list_Cond_at_mastref2_eachCond_c1.f_eq (k : Nat) (a0 : (List T_list_Cond)) (a19_0 : Int) (a19_1 : ByteArray) (a19_2 : Int) (a19_3 : Bool) (a19_4 : Int) (a19_5 : ByteArray) (a19_6 : (List T_api_Value)) (a19_7 : (List ByteArray)) (a19_8 : (List T_list_Cond)) : slices_IndexFunc_list_Cond_list_Cond_at_mastref2_eachCond_c1.f k a0 a19_0 a19_1 a19_2 a19_3 a19_4 a19_5 a19_6 a19_7 a19_8 = codeK (C := ctx) (slices_IndexFunc_list_Cond_list_Cond_at_mastref2_eachCond_c1.O k) ⟨19, [], [19]⟩ (slices_IndexFunc_list_Cond_list_Cond_at_mastref2_eachCond_c1.L k) (Tryd.f94.body.getD .skip) slices_IndexFunc_list_Cond_list_Cond_at_mastref2_eachCond_c1.a (endR ctx [(.int .i64)] [(.tmp 4)] [(.d (.sl (.st 0))), (.clo 71 [19]), (.gh 19 [.d (.int .i64), .d .str, .d (.int .i64), .d .bool, .d (.int .i64), .d .str, .d (.sl (.st 1)), .d (.sl .str), .d (.sl (.st 0))])]) (slotsOf sg.U 0 [(.d (.sl (.st 0))), (.clo 71 [19]), (.gh 19 [.d (.int .i64), .d .str, .d (.int .i64), .d .bool, .d (.int .i64), .d .str, .d (.sl (.st 1)), .d (.sl .str), .d (.sl (.st 0))])] (a0, a19_0, a19_1, a19_2, a19_3, a19_4, a19_5, a19_6, a19_7, a19_8, ()) (emptyG sg.U (PM.gs [(.d (.sl (.st 0))), (.clo 71 [19]), (.gh 19 [.d (.int .i64), .d .str, .d (.int .i64), .d .bool, .d (.int .i64), .d .str, .d (.sl (.st 1)), .d (.sl .str), .d (.sl (.st 0))])]))) := by
  unfold slices_IndexFunc_list_Cond_list_Cond_at_mastref2_eachCond_c1.f
  kernel_rfl
def slices_IndexFunc_list_Cond_list_Cond_at_mastref2_eachCond_c1.e (k : Nat) : Entry sg := entryR sg [(.d (.sl (.st 0))), (.clo 71 [19]), (.gh 19 [.d (.int .i64), .d .str, .d (.int .i64), .d .bool, .d (.int .i64), .d .str, .d (.sl (.st 1)), .d (.sl .str), .d (.sl (.st 0))])] [(.int .i64)] (fun h => slices_IndexFunc_list_Cond_list_Cond_at_mastref2_eachCond_c1.f k h.1 h.2.1 h.2.2.1 h.2.2.2.1 h.2.2.2.2.1 h.2.2.2.2.2.1 h.2.2.2.2.2.2.1 h.2.2.2.2.2.2.2.1 h.2.2.2.2.2.2.2.2.1 h.2.2.2.2.2.2.2.2.2.1)
def slices_IndexFunc_list_Cond_list_Cond_at_mastref2_eachCond_c1.T : List (Lb sg (RT sg.U [(.int .i64)] × HL sg.U (PM.outs [(.d (.sl (.st 0))), (.clo 71 [19]), (.gh 19 [.d (.int .i64), .d .str, .d (.int .i64), .d .bool, .d (.int .i64), .d .str, .d (.sl (.st 1)), .d (.sl .str), .d (.sl (.st 0))])]))) := [⟨0, [(0, (.d (.sl (.st 0)))), (1, (.clo 71 [19])), (7, (.d (.int .i64))), (8, (.d (.int .i64))), (19, (.gh [.d (.int .i64), .d .str, .d (.int .i64), .d .bool, .d (.int .i64), .d .str, .d (.sl (.st 1)), .d (.sl .str), .d (.sl (.st 0))]))], fun k h => slices_IndexFunc_list_Cond_list_Cond_at_mastref2_eachCond_c1.l0 k h.1 h.2.1 h.2.2.1 h.2.2.2.1 h.2.2.2.2.1 h.2.2.2.2.2.1 h.2.2.2.2.2.2.1 h.2.2.2.2.2.2.2.1 h.2.2.2.2.2.2.2.2.1 h.2.2.2.2.2.2.2.2.2.1 h.2.2.2.2.2.2.2.2.2.2.1 h.2.2.2.2.2.2.2.2.2.2.2.1⟩]
theorem slices_IndexFunc_list_Cond_list_Cond_at_mastref2_eachCond_c1.ok (k : Nat) : (slices_IndexFunc_list_Cond_list_Cond_at_mastref2_eachCond_c1.e k).Sound Tryd.prog ctx 94 :=
  entryR_ok base_ok mo (fn := Tryd.f94) (b := (Tryd.f94.body.getD .skip)) (pm := [(.d (.sl (.st 0))), (.clo 71 [19]), (.gh 19 [.d (.int .i64), .d .str, .d (.int .i64), .d .bool, .d (.int .i64), .d .str, .d (.sl (.st 1)), .d (.sl .str), .d (.sl (.st 0))])]) (rs := [(.int .i64)]) (an := slices_IndexFunc_list_Cond_list_Cond_at_mastref2_eachCond_c1.a) (N := 19) (vars := [(.tmp 4)]) Tryd.func94 (by kernel_rfl) (by kernel_rfl) (by kernel_rfl) (by kernel_rfl) (by kernel_rfl) (by kernel_rfl) (by kernel_rfl) (by kernel_rfl) (O := slices_IndexFunc_list_Cond_list_Cond_at_mastref2_eachCond_c1.O)
    (fun k => by unfold slices_IndexFunc_list_Cond_list_Cond_at_mastref2_eachCond_c1.O; exact oracle_of (P := Tryd.prog) (C := ctx) ⟨(mastref2_eachCond_c1.ok), trivial⟩) slices_IndexFunc_list_Cond_list_Cond_at_mastref2_eachCond_c1.T ⟨⟨by kernel_rfl, fun _ => by first | rfl | rw [slices_IndexFunc_list_Cond_list_Cond_at_mastref2_eachCond_c1.l0], fun k h => slices_IndexFunc_list_Cond_list_Cond_at_mastref2_eachCond_c1.l0_eq k h.1 h.2.1 h.2.2.1 h.2.2.2.1 h.2.2.2.2.1 h.2.2.2.2.2.1 h.2.2.2.2.2.2.1 h.2.2.2.2.2.2.2.1 h.2.2.2.2.2.2.2.2.1 h.2.2.2.2.2.2.2.2.2.1 h.2.2.2.2.2.2.2.2.2.2.1 h.2.2.2.2.2.2.2.2.2.2.2.1⟩, trivial⟩ k (fun h => slices_IndexFunc_list_Cond_list_Cond_at_mastref2_eachCond_c1.f_eq k h.1 h.2.1 h.2.2.1 h.2.2.2.1 h.2.2.2.2.1 h.2.2.2.2.2.1 h.2.2.2.2.2.2.1 h.2.2.2.2.2.2.2.1 h.2.2.2.2.2.2.2.2.1 h.2.2.2.2.2.2.2.2.2.1)
def slices_ContainsFunc_list_Cond_list_Cond_at_mastref2_eachCond_c1.f (k : Nat) (a0 : (List T_list_Cond)) (a9_0 : Int) (a9_1 : ByteArray) (a9_2 : Int) (a9_3 : Bool) (a9_4 : Int) (a9_5 : ByteArray) (a9_6 : (List T_api_Value)) (a9_7 : (List ByteArray)) (a9_8 : (List T_list_Cond)) : Option (Bool × Int × ByteArray × Int × Bool × Int × ByteArray × (List T_api_Value) × (List ByteArray) × (List T_list_Cond) × Unit) := ((slices_IndexFunc_list_Cond_list_Cond_at_mastref2_eachCond_c1.f k a0 a9_0 a9_1 a9_2 a9_3 a9_4 a9_5 a9_6 a9_7 a9_8).bind fun y1 => (some ((ile 0 y1.1), (y1.2.1, y1.2.2.1, y1.2.2.2.1, y1.2.2.2.2.1, y1.2.2.2.2.2.1, y1.2.2.2.2.2.2.1, y1.2.2.2.2.2.2.2.1, y1.2.2.2.2.2.2.2.2.1, y1.2.2.2.2.2.2.2.2.2.1, ()))))
def slices_ContainsFunc_list_Cond_list_Cond_at_mastref2_eachCond_c1.O (k : Nat) : Oracle sg := fun n => lkp n [(94, slices_IndexFunc_list_Cond_list_Cond_at_mastref2_eachCond_c1.e k)]
def slices_ContainsFunc_list_Cond_list_Cond_at_mastref2_eachCond_c1.a : Ann := .z
def slices_ContainsFunc_list_Cond_list_Cond_at_mastref2_eachCond_c1.L (k : Nat) : Nat → St sg.U → Option (RT sg.U [.bool] × HL sg.U (PM.outs [(.d (.sl (.st 0))), (.clo 71 [9]), (.gh 9 [.d (.int .i64), .d .str, .d (.int .i64), .d .bool, .d (.int .i64), .d .str, .d (.sl (.st 1)), .d (.sl .str), .d (.sl (.st 0))])])) := labs []
theorem slices_ContainsFunc_list_Cond_list_Cond_at_mastref2_eachCond_c1.f_eq (k : Nat) (a0 : (List T_list_Cond)) (a9_0 : Int) (a9_1 : ByteArray) (a9_2 : Int) (a9_3 : Bool) (a9_4 : Int) (a9_5 : ByteArray) (a9_6 : (List T_api_Value)) (a9_7 : (List ByteArray)) (a9_8 : (List T_list_Cond)) : slices_ContainsFunc_list_Cond_list_Cond_at_mastref2_eachCond_c1.f k a0 a9_0 a9_1 a9_2 a9_3 a9_4 a9_5 a9_6 a9_7 a9_8 = codeK (C := ctx) (slices_ContainsFunc_list_Cond_list_Cond_at_mastref2_eachCond_c1.O k) ⟨9, [], [9]⟩ (slices_ContainsFunc_list_Cond_list_Cond_at_mastref2_eachCond_c1.L k) (Tryd.f70.body.getD .skip) slices_ContainsFunc_list_Cond_list_Cond_at_mastref2_eachCond_c1.a (endR ctx [.bool] [(.tmp 4)] [(.d (.sl (.st 0))), (.clo 71 [9]), (.gh 9 [.d (.int .i64), .d .str, .d (.int .i64), .d .bool, .d (.int .i64), .d .str, .d (.sl (.st 1)), .d (.sl .str), .d (.sl (.st 0))])]) (slotsOf sg.U 0 [(.d (.sl (.st 0))), (.clo 71 [9]), (.gh 9 [.d (.int .i64), .d .str, .d (.int .i64), .d .bool, .d (.int .i64), .d .str, .d (.sl (.st 1)), .d (.sl .str), .d (.sl (.st 0))])] (a0, a9_0, a9_1, a9_2, a9_3, a9_4, a9_5, a9_6, a9_7, a9_8, ()) (emptyG sg.U (PM.gs [(.d (.sl (.st 0))), (.clo 71 [9]), (.gh 9 [.d (.int .i64), .d .str, .d (.int .i64), .d .bool, .d (.int .i64), .d .str, .d (.sl (.st 1)), .d (.sl .str), .d (.sl (.st 0))])]))) := by
  unfold slices_ContainsFunc_list_Cond_list_Cond_at_mastref2_eachCond_c1.f
  kernel_rfl
def slices_ContainsFunc_list_Cond_list_Cond_at_mastref2_eachCond_c1.e (k : Nat) : Entry sg := entryR sg [(.d (.sl (.st 0))), (.clo 71 [9]), (.gh 9 [.d (.int .i64), .d .str, .d (.int .i64), .d .bool, .d (.int .i64), .d .str, .d (.sl (.st 1)), .d (.sl .str), .d (.sl (.st 0))])] [.bool] (fun h => slices_ContainsFunc_list_Cond_list_Cond_at_mastref2_eachCond_c1.f k h.1 h.2.1 h.2.2.1 h.2.2.2.1 h.2.2.2.2.1 h.2.2.2.2.2.1 h.2.2.2.2.2.2.1 h.2.2.2.2.2.2.2.1 h.2.2.2.2.2.2.2.2.1 h.2.2.2.2.2.2.2.2.2.1)
def slices_ContainsFunc_list_Cond_list_Cond_at_mastref2_eachCond_c1.T : List (Lb sg (RT sg.U [.bool] × HL sg.U (PM.outs [(.d (.sl (.st 0))), (.clo 71 [9]), (.gh 9 [.d (.int .i64), .d .str, .d (.int .i64), .d .bool, .d (.int .i64), .d .str, .d (.sl (.st 1)), .d (.sl .str), .d (.sl (.st 0))])]))) := []
theorem slices_ContainsFunc_list_Cond_list_Cond_at_mastref2_eachCond_c1.ok (k : Nat) : (slices_ContainsFunc_list_Cond_list_Cond_at_mastref2_eachCond_c1.e k).Sound Tryd.prog ctx 70 :=
  entryR_ok base_ok mo (fn := Tryd.f70) (b := (Tryd.f70.body.getD .skip)) (pm := [(.d (.sl (.st 0))), (.clo 71 [9]), (.gh 9 [.d (.int .i64), .d .str, .d (.int .i64), .d .bool, .d (.int .i64), .d .str, .d (.sl (.st 1)), .d (.sl .str), .d (.sl (.st 0))])]) (rs := [.bool]) (an := slices_ContainsFunc_list_Cond_list_Cond_at_mastref2_eachCond_c1.a) (N := 9) (vars := [(.tmp 4)]) Tryd.func70 (by kernel_rfl) (by kernel_rfl) (by kernel_rfl) (by kernel_rfl) (by kernel_rfl) (by kernel_rfl) (by kernel_rfl) (by kernel_rfl) (O := slices_ContainsFunc_list_Cond_list_Cond_at_mastref2_eachCond_c1.O)
    (fun k => by unfold slices_ContainsFunc_list_Cond_list_Cond_at_mastref2_eachCond_c1.O; exact oracle_of (P := Tryd.prog) (C := ctx) ⟨(slices_IndexFunc_list_Cond_list_Cond_at_mastref2_eachCond_c1.ok k), trivial⟩) slices_ContainsFunc_list_Cond_list_Cond_at_mastref2_eachCond_c1.T trivial k (fun h => slices_ContainsFunc_list_Cond_list_Cond_at_mastref2_eachCond_c1.f_eq k h.1 h.2.1 h.2.2.1 h.2.2.2.1 h.2.2.2.2.1 h.2.2.2.2.2.1 h.2.2.2.2.2.2.1 h.2.2.2.2.2.2.2.1 h.2.2.2.2.2.2.2.2.1 h.2.2.2.2.2.2.2.2.2.1)
def cmp_isNaN_int.f (a0 : Int) : Option (Bool) := (some (!ieq a0 a0))
def cmp_isNaN_int.O : Oracle sg := fun n => lkp n []
def cmp_isNaN_int.a : Ann := .z
def cmp_isNaN_int.L : Nat → St sg.U → Option (RT sg.U [.bool]) := labs []
theorem cmp_isNaN_int.f_eq (a0 : Int) : cmp_isNaN_int.f a0 = codeK (C := ctx) (cmp_isNaN_int.O) ⟨6, [], []⟩ (cmp_isNaN_int.L) (Tryd.f139.body.getD .skip) cmp_isNaN_int.a (endK ctx [.bool] [(.tmp 2)]) (slotsOf sg.U 0 [(.d (.int .i64))] (a0, ()) (empty sg.U)) := by
  unfold cmp_isNaN_int.f
  kernel_rfl
def cmp_isNaN_int.e : Entry sg := entryOf sg [(.d (.int .i64))] [.bool] (fun h => cmp_isNaN_int.f h.1)
def cmp_isNaN_int.T : List (Lb sg (RT sg.U [.bool])) := []
theorem cmp_isNaN_int.ok : (cmp_isNaN_int.e).Sound Tryd.prog ctx 139 :=
  entry_ok base_ok mo (fn := Tryd.f139) (b := (Tryd.f139.body.getD .skip)) (pm := [(.d (.int .i64))]) (rs := [.bool]) (an := cmp_isNaN_int.a) (N := 6) (vars := [(.tmp 2)]) Tryd.func139 (by kernel_rfl) (by kernel_rfl) (by kernel_rfl) (by kernel_rfl) (by kernel_rfl) (by kernel_rfl) (O := fun _ => cmp_isNaN_int.O)
    (fun _ => by unfold cmp_isNaN_int.O; exact oracle_of (P := Tryd.prog) (C := ctx) trivial) cmp_isNaN_int.T trivial 0 (fun h => cmp_isNaN_int.f_eq h.1)
def cmp_Compare_int.f (a0 : Int) (a1 : Int) : Option (Int) := ((cmp_isNaN_int.f a0).bind fun y1 => ((cmp_isNaN_int.f a1).bind fun y2 => (bif y1 then (bif y2 then (some 0) else (some (-1))) else (bif y2 then (some 1) else (bif (ilt a0 a1) then (some (-1)) else (bif (ilt a1 a0) then (some 1) else (some 0)))))))
def cmp_Compare_int.O : Oracle sg := fun n => lkp n [(139, cmp_isNaN_int.e)]
def cmp_Compare_int.a : Ann := .z
def cmp_Compare_int.L : Nat → St sg.U → Option (RT sg.U [(.int .i64)]) := labs []
theorem cmp_Compare_int.f_eq (a0 : Int) (a1 : Int) : cmp_Compare_int.f a0 a1 = codeK (C := ctx) (cmp_Compare_int.O) ⟨20, [], []⟩ (cmp_Compare_int.L) (Tryd.f121.body.getD .skip) cmp_Compare_int.a (endK ctx [(.int .i64)] [(.tmp 4)]) (slotsOf sg.U 0 [(.d (.int .i64)), (.d (.int .i64))] (a0, a1, ()) (empty sg.U)) := by
  unfold cmp_Compare_int.f
  kernel_rfl
def cmp_Compare_int.e : Entry sg := entryOf sg [(.d (.int .i64)), (.d (.int .i64))] [(.int .i64)] (fun h => cmp_Compare_int.f h.1 h.2.1)
def cmp_Compare_int.T : List (Lb sg (RT sg.U [(.int .i64)])) := []
theorem cmp_Compare_int.ok : (cmp_Compare_int.e).Sound Tryd.prog ctx 121 :=
  entry_ok base_ok mo (fn := Tryd.f121) (b := (Tryd.f121.body.getD .skip)) (pm := [(.d (.int .i64)), (.d (.int .i64))]) (rs := [(.int .i64)]) (an := cmp_Compare_int.a) (N := 20) (vars := [(.tmp 4)]) Tryd.func121 (by kernel_rfl) (by kernel_rfl) (by kernel_rfl) (by kernel_rfl) (by kernel_rfl) (by kernel_rfl) (O := fun _ => cmp_Compare_int.O)
    (fun _ => by unfold cmp_Compare_int.O; exact oracle_of (P := Tryd.prog) (C := ctx) ⟨(cmp_isNaN_int.ok), trivial⟩) cmp_Compare_int.T trivial 0 (fun h => cmp_Compare_int.f_eq h.1 h.2.1)
def strings_Compare.f (a0 : ByteArray) (a1 : ByteArray) : Option (Int) := some (Lib.compareBytes a0.data.toList a1.data.toList)
def strings_Compare.e : Entry sg := entryOf sg [(.d .str), (.d .str)] [(.int .i64)] (fun h => strings_Compare.f h.1 h.2.1)
theorem strings_Compare.ok : (strings_Compare.e).Sound Tryd.prog ctx 123 :=
  entry_extern (C := ctx) sg_ok Tryd.func123 (by kernel_rfl) (by kernel_rfl) (by kernel_rfl) (by kernel_rfl) (fun hh x w hx hG => by
    obtain rfl := Option.some.inj hx
    refine (Tryd.strings_Compare hh.1 hh.2.1 w).mono ?_
    rintro e w' ⟨rfl, hb⟩
    exact ⟨rfl, by first | exact hb ▸ Grow.refl _ | exact Grow.of_below hb | (obtain ⟨k, os, rfl⟩ := hb; exact Grow.of_below (Lib.below_grow _ w (Nat.le_refl _) k os))⟩)
def cmp_isNaN_string.f (a0 : ByteArray) : Option (Bool) := (some (!seq a0 a0))
def cmp_isNaN_string.O : Oracle sg := fun n => lkp n []
def cmp_isNaN_string.a : Ann := .z
def cmp_isNaN_string.L : Nat → St sg.U → Option (RT sg.U [.bool]) := labs []
theorem cmp_isNaN_string.f_eq (a0 : ByteArray) : cmp_isNaN_string.f a0 = codeK (C := ctx) (cmp_isNaN_string.O) ⟨6, [], []⟩ (cmp_isNaN_string.L) (Tryd.f156.body.getD .skip) cmp_isNaN_string.a (endK ctx [.bool] [(.tmp 2)]) (slotsOf sg.U 0 [(.d .str)] (a0, ()) (empty sg.U)) := by
  unfold cmp_isNaN_string.f
  kernel_rfl
def cmp_isNaN_string.e : Entry sg := entryOf sg [(.d .str)] [.bool] (fun h => cmp_isNaN_string.f h.1)
def cmp_isNaN_string.T : List (Lb sg (RT sg.U [.bool])) := []
theorem cmp_isNaN_string.ok : (cmp_isNaN_string.e).Sound Tryd.prog ctx 156 :=
  entry_ok base_ok mo (fn := Tryd.f156) (b := (Tryd.f156.body.getD .skip)) (pm := [(.d .str)]) (rs := [.bool]) (an := cmp_isNaN_string.a) (N := 6) (vars := [(.tmp 2)]) Tryd.func156 (by kernel_rfl) (by kernel_rfl) (by kernel_rfl) (by kernel_rfl) (by kernel_rfl) (by kernel_rfl) (O := fun _ => cmp_isNaN_string.O)
    (fun _ => by unfold cmp_isNaN_string.O; exact oracle_of (P := Tryd.prog) (C := ctx) trivial) cmp_isNaN_string.T trivial 0 (fun h => cmp_isNaN_string.f_eq h.1)
def cmp_Compare_string.f (a0 : ByteArray) (a1 : ByteArray) : Option (Int) := ((cmp_isNaN_string.f a0).bind fun y1 => ((cmp_isNaN_string.f a1).bind fun y2 => (bif y1 then (bif y2 then (some 0) else (some (-1))) else (bif y2 then (some 1) else (bif (slt a0 a1) then (some (-1)) else (bif (!sle a0 a1) then (some 1) else (some 0)))))))
def cmp_Compare_string.O : Oracle sg := fun n => lkp n [(156, cmp_isNaN_string.e)]
def cmp_Compare_string.a : Ann := .z
def cmp_Compare_string.L : Nat → St sg.U → Option (RT sg.U [(.int .i64)]) := labs []
theorem cmp_Compare_string.f_eq (a0 : ByteArray) (a1 : ByteArray) : cmp_Compare_string.f a0 a1 = codeK (C := ctx) (cmp_Compare_string.O) ⟨20, [], []⟩ (cmp_Compare_string.L) (Tryd.f141.body.getD .skip) cmp_Compare_string.a (endK ctx [(.int .i64)] [(.tmp 4)]) (slotsOf sg.U 0 [(.d .str), (.d .str)] (a0, a1, ()) (empty sg.U)) := by
  unfold cmp_Compare_string.f
  kernel_rfl
def cmp_Compare_string.e : Entry sg := entryOf sg [(.d .str), (.d .str)] [(.int .i64)] (fun h => cmp_Compare_string.f h.1 h.2.1)
def cmp_Compare_string.T : List (Lb sg (RT sg.U [(.int .i64)])) := []
theorem cmp_Compare_string.ok : (cmp_Compare_string.e).Sound Tryd.prog ctx 141 :=
  entry_ok base_ok mo (fn := Tryd.f141) (b := (Tryd.f141.body.getD .skip)) (pm := [(.d .str), (.d .str)]) (rs := [(.int .i64)]) (an := cmp_Compare_string.a) (N := 20) (vars := [(.tmp 4)]) Tryd.func141 (by kernel_rfl) (by kernel_rfl) (by kernel_rfl) (by kernel_rfl) (by kernel_rfl) (by kernel_rfl) (O := fun _ => cmp_Compare_string.O)
    (fun _ => by unfold cmp_Compare_string.O; exact oracle_of (P := Tryd.prog) (C := ctx) ⟨(cmp_isNaN_string.ok), trivial⟩) cmp_Compare_string.T trivial 0 (fun h => cmp_Compare_string.f_eq h.1 h.2.1)
def slices_Compare_string_string.l0 : Nat → (List ByteArray) → (List ByteArray) → (List ByteArray) → Int → Int → Option (Int)
  | 0, _, _, _, _, _ => none
  | k + 1, x0, x1, x9, x10, x11 => (bif (ilt x11 x10) then ((lat x9 x11).bind fun y1 => (bif (ile (llen x1) x11) then (some 1) else ((lat x1 x11).bind fun y2 => ((cmp_Compare_string.f y1 y2).bind fun y3 => (bif (!ieq y3 0) then (some y3) else (slices_Compare_string_string.l0 k x0 x1 x9 x10 (wadd .i64 x11 1))))))) else (bif (ilt (llen x0) (llen x1)) then (some (-1)) else (some 0)))
def slices_Compare_string_string.f (k : Nat) (a0 : (List ByteArray)) (a1 : (List ByteArray)) : Option (Int) := (slices_Compare_string_string.l0 k a0 a1 a0 (llen a0) 0)
def slices_Compare_string_string.O (k : Nat) : Oracle sg := fun n => lkp n [(141, cmp_Compare_string.e)]
def slices_Compare_string_string.a : Ann := (.n .z (.n (.n .z (.lp 0 .z)) .z))
def slices_Compare_string_string.L (k : Nat) : Nat → St sg.U → Option (RT sg.U [(.int .i64)]) := labs [(0, labOf sg [(0, (.d (.sl .str))), (1, (.d (.sl .str))), (9, (.d (.sl .str))), (10, (.d (.int .i64))), (11, (.d (.int .i64)))] (fun h => slices_Compare_string_string.l0 k h.1 h.2.1 h.2.2.1 h.2.2.2.1 h.2.2.2.2.1))]
theorem slices_Compare_string_string.l0_eq (k : Nat) (x0 : (List ByteArray)) (x1 : (List ByteArray)) (x9 : (List ByteArray)) (x10 : Int) (x11 : Int) : slices_Compare_string_string.l0 (k + 1) x0 x1 x9 x10 x11 = runFrom (C := ctx) (slices_Compare_string_string.O k) ⟨36, [], []⟩ (slices_Compare_string_string.L k) (Tryd.f124.body.getD .skip) slices_Compare_string_string.a 0 (endK ctx [(.int .i64)] [(.tmp 4)]) (encD [(0, (.d (.sl .str))), (1, (.d (.sl .str))), (9, (.d (.sl .str))), (10, (.d (.int .i64))), (11, (.d (.int .i64)))] (x0, x1, x9, x10, x11, ()) (startD sg.U ⟨36, [], []⟩ [(0, (.d (.sl .str))), (1, (.d (.sl .str))), (9, (.d (.sl .str))), (10, (.d (.int .i64))), (11, (.d (.int .i64)))])) := by
  rw [slices_Compare_string_string.l0]
  kernel_rfl
theorem slices_Compare_string_string.f_eq (k : Nat) (a0 : (List ByteArray)) (a1 : (List ByteArray)) : slices_Compare_string_string.f k a0 a1 = codeK (C := ctx) (slices_Compare_string_string.O k) ⟨36, [], []⟩ (slices_Compare_string_string.L k) (Tryd.f124.body.getD .skip) slices_Compare_string_string.a (endK ctx [(.int .i64)] [(.tmp 4)]) (slotsOf sg.U 0 [(.d (.sl .str)), (.d (.sl .str))] (a0, a1, ()) (empty sg.U)) := by
  unfold slices_Compare_string_string.f
  kernel_rfl
def slices_Compare_string_string.e (k : Nat) : Entry sg := entryOf sg [(.d (.sl .str)), (.d (.sl .str))] [(.int .i64)] (fun h => slices_Compare_string_string.f k h.1 h.2.1)
def slices_Compare_string_string.T : List (Lb sg (RT sg.U [(.int .i64)])) := [⟨0, [(0, (.d (.sl .str))), (1, (.d (.sl .str))), (9, (.d (.sl .str))), (10, (.d (.int .i64))), (11, (.d (.int .i64)))], fun k h => slices_Compare_string_string.l0 k h.1 h.2.1 h.2.2.1 h.2.2.2.1 h.2.2.2.2.1⟩]
theorem slices_Compare_string_string.ok (k : Nat) : (slices_Compare_string_string.e k).Sound Tryd.prog ctx 124 :=
  entry_ok base_ok mo (fn := Tryd.f124) (b := (Tryd.f124.body.getD .skip)) (pm := [(.d (.sl .str)), (.d (.sl .str))]) (rs := [(.int .i64)]) (an := slices_Compare_string_string.a) (N := 36) (vars := [(.tmp 4)]) Tryd.func124 (by kernel_rfl) (by kernel_rfl) (by kernel_rfl) (by kernel_rfl) (by kernel_rfl) (by kernel_rfl) (O := slices_Compare_string_string.O)
    (fun k => by unfold slices_Compare_string_string.O; exact oracle_of (P := Tryd.prog) (C := ctx) ⟨(cmp_Compare_string.ok), trivial⟩) slices_Compare_string_string.T ⟨⟨by kernel_rfl, fun _ => by first | rfl | rw [slices_Compare_string_string.l0], fun k h => slices_Compare_string_string.l0_eq k h.1 h.2.1 h.2.2.1 h.2.2.2.1 h.2.2.2.2.1⟩, trivial⟩ k (fun h => slices_Compare_string_string.f_eq k h.1 h.2.1)
def cmp_Or_int.l0 : Nat → Int → (List Int) → Int → Int → Option (Int)
  | 0, _, _, _, _ => none
  | k + 1, x3, x6, x7, x8 => (bif (ilt x8 x7) then ((lat x6 x8).bind fun y1 => (bif (!ieq y1 x3) then (some y1) else (cmp_Or_int.l0 k x3 x6 x7 (wadd .i64 x8 1)))) else (some x3))
def cmp_Or_int.f (k : Nat) (a0 : (List Int)) : Option (Int) := (cmp_Or_int.l0 k 0 a0 (llen a0) 0)
def cmp_Or_int.O (k : Nat) : Oracle sg := fun n => lkp n []
def cmp_Or_int.a : Ann := (.n .z (.n .z (.n (.n .z (.lp 0 .z)) .z)))
def cmp_Or_int.L (k : Nat) : Nat → St sg.U → Option (RT sg.U [(.int .i64)]) := labs [(0, labOf sg [(3, (.d (.int .i64))), (6, (.d (.sl (.int .i64)))), (7, (.d (.int .i64))), (8, (.d (.int .i64)))] (fun h => cmp_Or_int.l0 k h.1 h.2.1 h.2.2.1 h.2.2.2.1))]
theorem cmp_Or_int.l0_eq (k : Nat) (x3 : Int) (x6 : (List Int)) (x7 : Int) (x8 : Int) : cmp_Or_int.l0 (k + 1) x3 x6 x7 x8 = runFrom (C := ctx) (cmp_Or_int.O k) ⟨18, [], []⟩ (cmp_Or_int.L k) (Tryd.f122.body.getD .skip) cmp_Or_int.a 0 (endK ctx [(.int .i64)] [(.tmp 2)]) (encD [(3, (.d (.int .i64))), (6, (.d (.sl (.int .i64)))), (7, (.d (.int .i64))), (8, (.d (.int .i64)))] (x3, x6, x7, x8, ()) (startD sg.U ⟨18, [], []⟩ [(3, (.d (.int .i64))), (6, (.d (.sl (.int .i64)))), (7, (.d (.int .i64))), (8, (.d (.int .i64)))])) := by
  rw [cmp_Or_int.l0]
  kernel_rfl
theorem cmp_Or_int.f_eq (k : Nat) (a0 : (List Int)) : cmp_Or_int.f k a0 = codeK (C := ctx) (cmp_Or_int.O k) ⟨18, [], []⟩ (cmp_Or_int.L k) (Tryd.f122.body.getD .skip) cmp_Or_int.a (endK ctx [(.int .i64)] [(.tmp 2)]) (slotsOf sg.U 0 [(.d (.sl (.int .i64)))] (a0, ()) (empty sg.U)) := by
  unfold cmp_Or_int.f
  kernel_rfl
def cmp_Or_int.e (k : Nat) : Entry sg := entryOf sg [(.d (.sl (.int .i64)))] [(.int .i64)] (fun h => cmp_Or_int.f k h.1)
def cmp_Or_int.T : List (Lb sg (RT sg.U [(.int .i64)])) := [⟨0, [(3, (.d (.int .i64))), (6, (.d (.sl (.int .i64)))), (7, (.d (.int .i64))), (8, (.d (.int .i64)))], fun k h => cmp_Or_int.l0 k h.1 h.2.1 h.2.2.1 h.2.2.2.1⟩]
theorem cmp_Or_int.ok (k : Nat) : (cmp_Or_int.e k).Sound Tryd.prog ctx 122 :=
  entry_ok base_ok mo (fn := Tryd.f122) (b := (Tryd.f122.body.getD .skip)) (pm := [(.d (.sl (.int .i64)))]) (rs := [(.int .i64)]) (an := cmp_Or_int.a) (N := 18) (vars := [(.tmp 2)]) Tryd.func122 (by kernel_rfl) (by kernel_rfl) (by kernel_rfl) (by kernel_rfl) (by kernel_rfl) (by kernel_rfl) (O := cmp_Or_int.O)
    (fun k => by unfold cmp_Or_int.O; exact oracle_of (P := Tryd.prog) (C := ctx) trivial) cmp_Or_int.T ⟨⟨by kernel_rfl, fun _ => by first | rfl | rw [cmp_Or_int.l0], fun k h => cmp_Or_int.l0_eq k h.1 h.2.1 h.2.2.1 h.2.2.2.1⟩, trivial⟩ k (fun h => cmp_Or_int.f_eq k h.1)
mutual
def mastref2_CompareOf.l0 : Nat → Int → Bool → Int → ByteArray → (List T_api_Value) → (List ByteArray) → Int → Bool → Int → ByteArray → (List T_api_Value) → (List ByteArray) → Int → Option (Int)
  | 0, _, _, _, _, _, _, _, _, _, _, _, _, _ => none
  | k + 1, x2_0, x2_1, x2_2, x2_3, x2_4, x2_5, x3_0, x3_1, x3_2, x3_3, x3_4, x3_5, x7 => (bif (bif (ilt x7 (llen x2_4)) then (ilt x7 (llen x3_4)) else false) then ((lat x2_4 x7).bind fun y6 => ((lat x3_4 x7).bind fun y7 => ((mastref2_CompareOf.f k y6 y7).bind fun y8 => (bif (!ieq y8 0) then (some y8) else (mastref2_CompareOf.l0 k x2_0 x2_1 x2_2 x2_3 x2_4 x2_5 x3_0 x3_1 x3_2 x3_3 x3_4 x3_5 (wadd .i64 x7 1)))))) else ((cmp_Compare_int.f (llen x2_4) (llen x3_4)).bind fun y9 => (some y9)))
def mastref2_CompareOf.f : Nat → T_api_Value → T_api_Value → Option (Int)
  | 0, _, _ => none
  | k + 1, a0, a1 => ((cmp_Compare_int.f a0.fKind a1.fKind).bind fun y1 => (bif (!ieq y1 0) then (some y1) else (bif (!(a0.fBool == a1.fBool)) then (bif a1.fBool then (some (-1)) else (some 1)) else ((cmp_Compare_int.f a0.fInt a1.fInt).bind fun y2 => ((strings_Compare.f a0.fText a1.fText).bind fun y3 => ((slices_Compare_string_string.f k a0.fKeys a1.fKeys).bind fun y4 => ((cmp_Or_int.f k [y2, y3, y4]).bind fun y5 => (bif (!ieq y5 0) then (some y5) else (mastref2_CompareOf.l0 k a0.fKind a0.fBool a0.fInt a0.fText a0.fItems a0.fKeys a1.fKind a1.fBool a1.fInt a1.fText a1.fItems a1.fKeys 0)))))))))
end
def mastref2_CompareOf.e (k : Nat) : Entry sg := entryOf sg [(.d (.st 1)), (.d (.st 1))] [(.int .i64)] (fun h => mastref2_CompareOf.f k h.1 h.2.1)
def mastref2_CompareOf.O (k : Nat) : Oracle sg := fun n => lkp n [(95, mastref2_CompareOf.e k), (121, cmp_Compare_int.e), (122, cmp_Or_int.e k), (123, strings_Compare.e), (124, slices_Compare_string_string.e k)]
def mastref2_CompareOf.a : Ann := (.n .z (.n .z (.n .z (.n .z (.n (.n .z (.lp 0 .z)) .z)))))
def mastref2_CompareOf.L (k : Nat) : Nat → St sg.U → Option (RT sg.U [(.int .i64)]) := labs [(0, labOf sg [(2, (.box [.d (.int .i64), .d .bool, .d (.int .i64), .d .str, .d (.sl (.st 1)), .d (.sl .str)])), (3, (.box [.d (.int .i64), .d .bool, .d (.int .i64), .d .str, .d (.sl (.st 1)), .d (.sl .str)])), (7, (.d (.int .i64)))] (fun h => mastref2_CompareOf.l0 k h.1 h.2.1 h.2.2.1 h.2.2.2.1 h.2.2.2.2.1 h.2.2.2.2.2.1 h.2.2.2.2.2.2.1 h.2.2.2.2.2.2.2.1 h.2.2.2.2.2.2.2.2.1 h.2.2.2.2.2.2.2.2.2.1 h.2.2.2.2.2.2.2.2.2.2.1 h.2.2.2.2.2.2.2.2.2.2.2.1 h.2.2.2.2.2.2.2.2.2.2.2.2.1))]
theorem mastref2_CompareOf.l0_eq (k : Nat) (x2_0 : Int) (x2_1 : Bool) (x2_2 : Int) (x2_3 : ByteArray) (x2_4 : (List T_api_Value)) (x2_5 : (List ByteArray)) (x3_0 : Int) (x3_1 : Bool) (x3_2 : Int) (x3_3 : ByteArray) (x3_4 : (List T_api_Value)) (x3_5 : (List ByteArray)) (x7 : Int) : mastref2_CompareOf.l0 (k + 1) x2_0 x2_1 x2_2 x2_3 x2_4 x2_5 x3_0 x3_1 x3_2 x3_3 x3_4 x3_5 x7 = runFrom (C := ctx) (mastref2_CompareOf.O k) ⟨79, [], []⟩ (mastref2_CompareOf.L k) (Tryd.f95.body.getD .skip) mastref2_CompareOf.a 0 (endK ctx [(.int .i64)] [(.tmp 4)]) (encD [(2, (.box [.d (.int .i64), .d .bool, .d (.int .i64), .d .str, .d (.sl (.st 1)), .d (.sl .str)])), (3, (.box [.d (.int .i64), .d .bool, .d (.int .i64), .d .str, .d (.sl (.st 1)), .d (.sl .str)])), (7, (.d (.int .i64)))] (x2_0, x2_1, x2_2, x2_3, x2_4, x2_5, x3_0, x3_1, x3_2, x3_3, x3_4, x3_5, x7, ()) (startD sg.U ⟨79, [], []⟩ [(2, (.box [.d (.int .i64), .d .bool, .d (.int .i64), .d .str, .d (.sl (.st 1)), .d (.sl .str)])), (3, (.box [.d (.int .i64), .d .bool, .d (.int .i64), .d .str, .d (.sl (.st 1)), .d (.sl .str)])), (7, (.d (.int .i64)))])) := by
  rw [mastref2_CompareOf.l0]
  kernel_rfl
theorem mastref2_CompareOf.f_eq (k : Nat) (a0 : T_api_Value) (a1 : T_api_Value) : mastref2_CompareOf.f (k + 1) a0 a1 = codeK (C := ctx) (mastref2_CompareOf.O k) ⟨79, [], []⟩ (mastref2_CompareOf.L k) (Tryd.f95.body.getD .skip) mastref2_CompareOf.a (endK ctx [(.int .i64)] [(.tmp 4)]) (slotsOf sg.U 0 [(.d (.st 1)), (.d (.st 1))] (a0, a1, ()) (empty sg.U)) := by
  rw [mastref2_CompareOf.f]
  kernel_rfl
def mastref2_CompareOf.T : List (Lb sg (RT sg.U [(.int .i64)])) := [⟨0, [(2, (.box [.d (.int .i64), .d .bool, .d (.int .i64), .d .str, .d (.sl (.st 1)), .d (.sl .str)])), (3, (.box [.d (.int .i64), .d .bool, .d (.int .i64), .d .str, .d (.sl (.st 1)), .d (.sl .str)])), (7, (.d (.int .i64)))], fun k h => mastref2_CompareOf.l0 k h.1 h.2.1 h.2.2.1 h.2.2.2.1 h.2.2.2.2.1 h.2.2.2.2.2.1 h.2.2.2.2.2.2.1 h.2.2.2.2.2.2.2.1 h.2.2.2.2.2.2.2.2.1 h.2.2.2.2.2.2.2.2.2.1 h.2.2.2.2.2.2.2.2.2.2.1 h.2.2.2.2.2.2.2.2.2.2.2.1 h.2.2.2.2.2.2.2.2.2.2.2.2.1⟩]
theorem mastref2_CompareOf.ok : ∀ k : Nat, (mastref2_CompareOf.e k).Sound Tryd.prog ctx 95 :=
  entry_rec base_ok mo (fn := Tryd.f95) (b := (Tryd.f95.body.getD .skip)) (pm := [(.d (.st 1)), (.d (.st 1))]) (rs := [(.int .i64)]) (an := mastref2_CompareOf.a) (N := 79) (vars := [(.tmp 4)]) Tryd.func95 (by kernel_rfl) (by kernel_rfl) (by kernel_rfl) (by kernel_rfl) (by kernel_rfl) (by kernel_rfl) (O := mastref2_CompareOf.O) mastref2_CompareOf.T ⟨⟨by kernel_rfl, fun _ => by first | rfl | rw [mastref2_CompareOf.l0], fun k h => mastref2_CompareOf.l0_eq k h.1 h.2.1 h.2.2.1 h.2.2.2.1 h.2.2.2.2.1 h.2.2.2.2.2.1 h.2.2.2.2.2.2.1 h.2.2.2.2.2.2.2.1 h.2.2.2.2.2.2.2.2.1 h.2.2.2.2.2.2.2.2.2.1 h.2.2.2.2.2.2.2.2.2.2.1 h.2.2.2.2.2.2.2.2.2.2.2.1 h.2.2.2.2.2.2.2.2.2.2.2.2.1⟩, trivial⟩ (F := fun k h => mastref2_CompareOf.f k h.1 h.2.1) (fun _ => by first | rfl | rw [mastref2_CompareOf.f]) (fun k h => mastref2_CompareOf.f_eq k h.1 h.2.1)
    (fun k own => by unfold mastref2_CompareOf.O; exact oracle_of (P := Tryd.prog) (C := ctx) ⟨own, ⟨(cmp_Compare_int.ok), ⟨(cmp_Or_int.ok k), ⟨(strings_Compare.ok), ⟨(slices_Compare_string_string.ok k), trivial⟩⟩⟩⟩⟩)
def mastref2_SameOf.f (k : Nat) (a0 : T_api_Value) (a1 : T_api_Value) : Option (Bool) := ((mastref2_CompareOf.f k (T_api_Value.mk a0.fKind a0.fBool a0.fInt a0.fText a0.fItems a0.fKeys) (T_api_Value.mk a1.fKind a1.fBool a1.fInt a1.fText a1.fItems a1.fKeys)).bind fun y1 => (some (ieq y1 0)))
def mastref2_SameOf.O (k : Nat) : Oracle sg := fun n => lkp n [(95, mastref2_CompareOf.e k)]
def mastref2_SameOf.a : Ann := .z
def mastref2_SameOf.L (k : Nat) : Nat → St sg.U → Option (RT sg.U [.bool]) := labs []
theorem mastref2_SameOf.f_eq (k : Nat) (a0 : T_api_Value) (a1 : T_api_Value) : mastref2_SameOf.f k a0 a1 = codeK (C := ctx) (mastref2_SameOf.O k) ⟨9, [], []⟩ (mastref2_SameOf.L k) (Tryd.f72.body.getD .skip) mastref2_SameOf.a (endK ctx [.bool] [(.tmp 4)]) (slotsOf sg.U 0 [(.d (.st 1)), (.d (.st 1))] (a0, a1, ()) (empty sg.U)) := by
  unfold mastref2_SameOf.f
  kernel_rfl
def mastref2_SameOf.e (k : Nat) : Entry sg := entryOf sg [(.d (.st 1)), (.d (.st 1))] [.bool] (fun h => mastref2_SameOf.f k h.1 h.2.1)
def mastref2_SameOf.T : List (Lb sg (RT sg.U [.bool])) := []
theorem mastref2_SameOf.ok (k : Nat) : (mastref2_SameOf.e k).Sound Tryd.prog ctx 72 :=
  entry_ok base_ok mo (fn := Tryd.f72) (b := (Tryd.f72.body.getD .skip)) (pm := [(.d (.st 1)), (.d (.st 1))]) (rs := [.bool]) (an := mastref2_SameOf.a) (N := 9) (vars := [(.tmp 4)]) Tryd.func72 (by kernel_rfl) (by kernel_rfl) (by kernel_rfl) (by kernel_rfl) (by kernel_rfl) (by kernel_rfl) (O := mastref2_SameOf.O)
    (fun k => by unfold mastref2_SameOf.O; exact oracle_of (P := Tryd.prog) (C := ctx) ⟨(mastref2_CompareOf.ok k), trivial⟩) mastref2_SameOf.T trivial k (fun h => mastref2_SameOf.f_eq k h.1 h.2.1)
def strings_Split.f (a0 : ByteArray) (a1 : ByteArray) : Option ((List ByteArray)) := splitF a0 a1
def strings_Split.e : Entry sg := entryOf sg [(.d .str), (.d .str)] [(.sl .str)] (fun h => strings_Split.f h.1 h.2.1)
theorem strings_Split.ok : (strings_Split.e).Sound Tryd.prog ctx 96 :=
  split_sound (C := ctx) sg_ok Tryd.func96 (by kernel_rfl) (by kernel_rfl) (kM := 1) (fun w hG => by obtain ⟨m, hm⟩ := hG 1 (by simp [ctx, sg]); exact ⟨m, cells_cell hm⟩) (fun s sep m w hs hm h1 => Tryd.strings_Split s sep m w hs hm h1)
def strings_Trim.f (a0 : ByteArray) (a1 : ByteArray) : Option (ByteArray) := if a0.size ≤ 9223372036854775807 ∧ a1.size < 4294967281 ∧ (a1.data.toList.all fun b => decide (b.toNat < 128)) = true then some (⟨(Lib.trimS a0.data.toList a1.data.toList).toArray⟩) else none
def strings_Trim.e : Entry sg := entryOf sg [(.d .str), (.d .str)] [.str] (fun h => strings_Trim.f h.1 h.2.1)
theorem strings_Trim.ok : (strings_Trim.e).Sound Tryd.prog ctx 79 :=
  entry_extern (C := ctx) sg_ok Tryd.func79 (by kernel_rfl) (by kernel_rfl) (by kernel_rfl) (by kernel_rfl) (fun hh x w hx hG => by
    unfold strings_Trim.f at hx
    split at hx
    · rename_i c
      obtain rfl := Option.some.inj hx
      refine (Any.strings_Trim_laid Tryd.lays160 (by kernel_rfl) hh.1 hh.2.1 w c.1 c.2.1 (ascii_of_all c.2.2)).mono ?_
      rintro e w' ⟨rfl, hb⟩
      exact ⟨rfl, by first | exact hb ▸ Grow.refl _ | exact Grow.of_below hb | (obtain ⟨k, os, rfl⟩ := hb; exact Grow.of_below (Lib.below_grow _ w (Nat.le_refl _) k os))⟩
    · cases hx)
def mastref2_digitsAlone.f (a0 : ByteArray) : Option (Bool) := (bif (!seq a0 c_empty) then ((strings_Trim.f a0 c_0123456789).bind fun y1 => (some (seq y1 c_empty))) else (some false))
def mastref2_digitsAlone.O : Oracle sg := fun n => lkp n [(79, strings_Trim.e)]
def mastref2_digitsAlone.a : Ann := .z
def mastref2_digitsAlone.L : Nat → St sg.U → Option (RT sg.U [.bool]) := labs []
theorem mastref2_digitsAlone.f_eq (a0 : ByteArray) : mastref2_digitsAlone.f a0 = codeK (C := ctx) (mastref2_digitsAlone.O) ⟨10, [], []⟩ (mastref2_digitsAlone.L) (Tryd.f97.body.getD .skip) mastref2_digitsAlone.a (endK ctx [.bool] [(.tmp 2)]) (slotsOf sg.U 0 [(.d .str)] (a0, ()) (empty sg.U)) := by
  unfold mastref2_digitsAlone.f
  kernel_rfl
def mastref2_digitsAlone.e : Entry sg := entryOf sg [(.d .str)] [.bool] (fun h => mastref2_digitsAlone.f h.1)
def mastref2_digitsAlone.T : List (Lb sg (RT sg.U [.bool])) := []
theorem mastref2_digitsAlone.ok : (mastref2_digitsAlone.e).Sound Tryd.prog ctx 97 :=
  entry_ok base_ok mo (fn := Tryd.f97) (b := (Tryd.f97.body.getD .skip)) (pm := [(.d .str)]) (rs := [.bool]) (an := mastref2_digitsAlone.a) (N := 10) (vars := [(.tmp 2)]) Tryd.func97 (by kernel_rfl) (by kernel_rfl) (by kernel_rfl) (by kernel_rfl) (by kernel_rfl) (by kernel_rfl) (O := fun _ => mastref2_digitsAlone.O)
    (fun _ => by unfold mastref2_digitsAlone.O; exact oracle_of (P := Tryd.prog) (C := ctx) ⟨(strings_Trim.ok), trivial⟩) mastref2_digitsAlone.T trivial 0 (fun h => mastref2_digitsAlone.f_eq h.1)
def mastref2_IsKey.f (a0 : ByteArray) : Option (Bool) := (bif (bif (seq a0 c_empty) then true else (ilt 40 (slen a0))) then (some false) else ((sat a0 0).bind fun y1 => (bif (ilt y1 97) then (some false) else ((sat a0 0).bind fun y2 => (bif (ilt 122 y2) then (some false) else ((strings_Trim.f a0 c_abcdefghijklmnopqrst_0e2e2cf4).bind fun y3 => (some (seq y3 c_empty))))))))
def mastref2_IsKey.O : Oracle sg := fun n => lkp n [(79, strings_Trim.e)]
def mastref2_IsKey.a : Ann := .z
def mastref2_IsKey.L : Nat → St sg.U → Option (RT sg.U [.bool]) := labs []
theorem mastref2_IsKey.f_eq (a0 : ByteArray) : mastref2_IsKey.f a0 = codeK (C := ctx) (mastref2_IsKey.O) ⟨23, [], []⟩ (mastref2_IsKey.L) (Tryd.f67.body.getD .skip) mastref2_IsKey.a (endK ctx [.bool] [(.tmp 2)]) (slotsOf sg.U 0 [(.d .str)] (a0, ()) (empty sg.U)) := by
  unfold mastref2_IsKey.f
  kernel_rfl
def mastref2_IsKey.e : Entry sg := entryOf sg [(.d .str)] [.bool] (fun h => mastref2_IsKey.f h.1)
def mastref2_IsKey.T : List (Lb sg (RT sg.U [.bool])) := []
theorem mastref2_IsKey.ok : (mastref2_IsKey.e).Sound Tryd.prog ctx 67 :=
  entry_ok base_ok mo (fn := Tryd.f67) (b := (Tryd.f67.body.getD .skip)) (pm := [(.d .str)]) (rs := [.bool]) (an := mastref2_IsKey.a) (N := 23) (vars := [(.tmp 2)]) Tryd.func67 (by kernel_rfl) (by kernel_rfl) (by kernel_rfl) (by kernel_rfl) (by kernel_rfl) (by kernel_rfl) (O := fun _ => mastref2_IsKey.O)
    (fun _ => by unfold mastref2_IsKey.O; exact oracle_of (P := Tryd.prog) (C := ctx) ⟨(strings_Trim.ok), trivial⟩) mastref2_IsKey.T trivial 0 (fun h => mastref2_IsKey.f_eq h.1)
mutual
def mastref2_RouteParts.l0 : Nat → Bool → (List ByteArray) → (List ByteArray) → Int → Int → Option ((List ByteArray) × Bool)
  | 0, _, _, _, _, _ => none
  | k + 1, x1, x6, x17, x18, x19 => (bif (ilt x19 x18) then ((lat x17 x19).bind fun y2 => ((mastref2_digitsAlone.f y2).bind fun y3 => (bif (bif y3 then (ile (slen y2) 4) else false) then ((sat y2 0).bind fun y4 => (mastref2_RouteParts.l1 k x1 x6 y2 (bif (!ieq y4 48) then true else (seq y2 c_0)) x17 x18 x19)) else (mastref2_RouteParts.l1 k x1 x6 y2 false x17 x18 x19)))) else (some (x6, true)))
def mastref2_RouteParts.l1 : Nat → Bool → (List ByteArray) → ByteArray → Bool → (List ByteArray) → Int → Int → Option ((List ByteArray) × Bool)
  | 0, _, _, _, _, _, _, _ => none
  | k + 1, x1, x6, x8, x9, x17, x18, x19 => (bif (!x9) then ((mastref2_IsKey.f x8).bind fun y5 => (bif (bif (!y5) then (!(bif x1 then (seq x8 c__2a) else false)) else false) then (some ([], false)) else (mastref2_RouteParts.l0 k x1 x6 x17 x18 (wadd .i64 x19 1)))) else (mastref2_RouteParts.l0 k x1 x6 x17 x18 (wadd .i64 x19 1)))
end
def mastref2_RouteParts.f (k : Nat) (a0 : ByteArray) (a1 : Bool) : Option ((List ByteArray) × Bool) := (bif (ilt 400 (slen a0)) then (some ([], false)) else (bif (seq a0 c_empty) then (some ([], true)) else ((strings_Split.f a0 c__2e).bind fun y1 => (mastref2_RouteParts.l0 k a1 y1 y1 (llen y1) 0))))
def mastref2_RouteParts.O (k : Nat) : Oracle sg := fun n => lkp n [(67, mastref2_IsKey.e), (96, strings_Split.e), (97, mastref2_digitsAlone.e)]
def mastref2_RouteParts.a : Ann := (.n .z (.n .z (.n .z (.n .z (.n (.n .z (.lp 0 (.n .z (.n .z (.n (.n .z (.n .z (.lab 1 .z))) .z))))) .z)))))
def mastref2_RouteParts.L (k : Nat) : Nat → St sg.U → Option (RT sg.U [(.sl .str), .bool]) := labs [(0, labOf sg [(1, (.d .bool)), (6, (.d (.sl .str))), (17, (.d (.sl .str))), (18, (.d (.int .i64))), (19, (.d (.int .i64)))] (fun h => mastref2_RouteParts.l0 k h.1 h.2.1 h.2.2.1 h.2.2.2.1 h.2.2.2.2.1)), (1, labOf sg [(1, (.d .bool)), (6, (.d (.sl .str))), (8, (.d .str)), (9, (.d .bool)), (17, (.d (.sl .str))), (18, (.d (.int .i64))), (19, (.d (.int .i64)))] (fun h => mastref2_RouteParts.l1 k h.1 h.2.1 h.2.2.1 h.2.2.2.1 h.2.2.2.2.1 h.2.2.2.2.2.1 h.2.2.2.2.2.2.1))]
theorem mastref2_RouteParts.l0_eq (k : Nat) (x1 : Bool) (x6 : (List ByteArray)) (x17 : (List ByteArray)) (x18 : Int) (x19 : Int) : mastref2_RouteParts.l0 (k + 1) x1 x6 x17 x18 x19 = runFrom (C := ctx) (mastref2_RouteParts.O k) ⟨56, [], []⟩ (mastref2_RouteParts.L k) (Tryd.f73.body.getD .skip) mastref2_RouteParts.a 0 (endK ctx [(.sl .str), .bool] [(.tmp 4), (.tmp 5)]) (encD [(1, (.d .bool)), (6, (.d (.sl .str))), (17, (.d (.sl .str))), (18, (.d (.int .i64))), (19, (.d (.int .i64)))] (x1, x6, x17, x18, x19, ()) (startD sg.U ⟨56, [], []⟩ [(1, (.d .bool)), (6, (.d (.sl .str))), (17, (.d (.sl .str))), (18, (.d (.int .i64))), (19, (.d (.int .i64)))])) := by
  rw [mastref2_RouteParts.l0]
  kernel_rfl
theorem mastref2_RouteParts.l1_eq (k : Nat) (x1 : Bool) (x6 : (List ByteArray)) (x8 : ByteArray) (x9 : Bool) (x17 : (List ByteArray)) (x18 : Int) (x19 : Int) : mastref2_RouteParts.l1 (k + 1) x1 x6 x8 x9 x17 x18 x19 = runFrom (C := ctx) (mastref2_RouteParts.O k) ⟨56, [], []⟩ (mastref2_RouteParts.L k) (Tryd.f73.body.getD .skip) mastref2_RouteParts.a 1 (endK ctx [(.sl .str), .bool] [(.tmp 4), (.tmp 5)]) (encD [(1, (.d .bool)), (6, (.d (.sl .str))), (8, (.d .str)), (9, (.d .bool)), (17, (.d (.sl .str))), (18, (.d (.int .i64))), (19, (.d (.int .i64)))] (x1, x6, x8, x9, x17, x18, x19, ()) (startD sg.U ⟨56, [], []⟩ [(1, (.d .bool)), (6, (.d (.sl .str))), (8, (.d .str)), (9, (.d .bool)), (17, (.d (.sl .str))), (18, (.d (.int .i64))), (19, (.d (.int .i64)))])) := by
  rw [mastref2_RouteParts.l1]
  kernel_rfl
theorem mastref2_RouteParts.f_eq (k : Nat) (a0 : ByteArray) (a1 : Bool) : mastref2_RouteParts.f k a0 a1 = codeK (C := ctx) (mastref2_RouteParts.O k) ⟨56, [], []⟩ (mastref2_RouteParts.L k) (Tryd.f73.body.getD .skip) mastref2_RouteParts.a (endK ctx [(.sl .str), .bool] [(.tmp 4), (.tmp 5)]) (slotsOf sg.U 0 [(.d .str), (.d .bool)] (a0, a1, ()) (empty sg.U)) := by
  unfold mastref2_RouteParts.f
  kernel_rfl
def mastref2_RouteParts.e (k : Nat) : Entry sg := entryOf sg [(.d .str), (.d .bool)] [(.sl .str), .bool] (fun h => mastref2_RouteParts.f k h.1 h.2.1)
def mastref2_RouteParts.T : List (Lb sg (RT sg.U [(.sl .str), .bool])) := [⟨0, [(1, (.d .bool)), (6, (.d (.sl .str))), (17, (.d (.sl .str))), (18, (.d (.int .i64))), (19, (.d (.int .i64)))], fun k h => mastref2_RouteParts.l0 k h.1 h.2.1 h.2.2.1 h.2.2.2.1 h.2.2.2.2.1⟩, ⟨1, [(1, (.d .bool)), (6, (.d (.sl .str))), (8, (.d .str)), (9, (.d .bool)), (17, (.d (.sl .str))), (18, (.d (.int .i64))), (19, (.d (.int .i64)))], fun k h => mastref2_RouteParts.l1 k h.1 h.2.1 h.2.2.1 h.2.2.2.1 h.2.2.2.2.1 h.2.2.2.2.2.1 h.2.2.2.2.2.2.1⟩]
theorem mastref2_RouteParts.ok (k : Nat) : (mastref2_RouteParts.e k).Sound Tryd.prog ctx 73 :=
  entry_ok base_ok mo (fn := Tryd.f73) (b := (Tryd.f73.body.getD .skip)) (pm := [(.d .str), (.d .bool)]) (rs := [(.sl .str), .bool]) (an := mastref2_RouteParts.a) (N := 56) (vars := [(.tmp 4), (.tmp 5)]) Tryd.func73 (by kernel_rfl) (by kernel_rfl) (by kernel_rfl) (by kernel_rfl) (by kernel_rfl) (by kernel_rfl) (O := mastref2_RouteParts.O)
    (fun k => by unfold mastref2_RouteParts.O; exact oracle_of (P := Tryd.prog) (C := ctx) ⟨(mastref2_IsKey.ok), ⟨(strings_Split.ok), ⟨(mastref2_digitsAlone.ok), trivial⟩⟩⟩) mastref2_RouteParts.T ⟨⟨by kernel_rfl, fun _ => by first | rfl | rw [mastref2_RouteParts.l0], fun k h => mastref2_RouteParts.l0_eq k h.1 h.2.1 h.2.2.1 h.2.2.2.1 h.2.2.2.2.1⟩, ⟨⟨by kernel_rfl, fun _ => by first | rfl | rw [mastref2_RouteParts.l1], fun k h => mastref2_RouteParts.l1_eq k h.1 h.2.1 h.2.2.1 h.2.2.2.1 h.2.2.2.2.1 h.2.2.2.2.2.1 h.2.2.2.2.2.2.1⟩, trivial⟩⟩ k (fun h => mastref2_RouteParts.f_eq k h.1 h.2.1)
def slices_Index_string_string.l0 : Nat → (List ByteArray) → ByteArray → Int → Int → Option (Int)
  | 0, _, _, _, _ => none
  | k + 1, x0, x1, x7, x8 => (bif (ilt x8 x7) then ((lat x0 x8).bind fun y1 => (bif (seq x1 y1) then (some x8) else (slices_Index_string_string.l0 k x0 x1 x7 (wadd .i64 x8 1)))) else (some (-1)))
def slices_Index_string_string.f (k : Nat) (a0 : (List ByteArray)) (a1 : ByteArray) : Option (Int) := (slices_Index_string_string.l0 k a0 a1 (llen a0) 0)
def slices_Index_string_string.O (k : Nat) : Oracle sg := fun n => lkp n []
def slices_Index_string_string.a : Ann := (.n .z (.n (.n .z (.lp 0 .z)) .z))
def slices_Index_string_string.L (k : Nat) : Nat → St sg.U → Option (RT sg.U [(.int .i64)]) := labs [(0, labOf sg [(0, (.d (.sl .str))), (1, (.d .str)), (7, (.d (.int .i64))), (8, (.d (.int .i64)))] (fun h => slices_Index_string_string.l0 k h.1 h.2.1 h.2.2.1 h.2.2.2.1))]
theorem slices_Index_string_string.l0_eq (k : Nat) (x0 : (List ByteArray)) (x1 : ByteArray) (x7 : Int) (x8 : Int) : slices_Index_string_string.l0 (k + 1) x0 x1 x7 x8 = runFrom (C := ctx) (slices_Index_string_string.O k) ⟨19, [], []⟩ (slices_Index_string_string.L k) (Tryd.f52.body.getD .skip) slices_Index_string_string.a 0 (endK ctx [(.int .i64)] [(.tmp 4)]) (encD [(0, (.d (.sl .str))), (1, (.d .str)), (7, (.d (.int .i64))), (8, (.d (.int .i64)))] (x0, x1, x7, x8, ()) (startD sg.U ⟨19, [], []⟩ [(0, (.d (.sl .str))), (1, (.d .str)), (7, (.d (.int .i64))), (8, (.d (.int .i64)))])) := by
  rw [slices_Index_string_string.l0]
  kernel_rfl
theorem slices_Index_string_string.f_eq (k : Nat) (a0 : (List ByteArray)) (a1 : ByteArray) : slices_Index_string_string.f k a0 a1 = codeK (C := ctx) (slices_Index_string_string.O k) ⟨19, [], []⟩ (slices_Index_string_string.L k) (Tryd.f52.body.getD .skip) slices_Index_string_string.a (endK ctx [(.int .i64)] [(.tmp 4)]) (slotsOf sg.U 0 [(.d (.sl .str)), (.d .str)] (a0, a1, ()) (empty sg.U)) := by
  unfold slices_Index_string_string.f
  kernel_rfl
def slices_Index_string_string.e (k : Nat) : Entry sg := entryOf sg [(.d (.sl .str)), (.d .str)] [(.int .i64)] (fun h => slices_Index_string_string.f k h.1 h.2.1)
def slices_Index_string_string.T : List (Lb sg (RT sg.U [(.int .i64)])) := [⟨0, [(0, (.d (.sl .str))), (1, (.d .str)), (7, (.d (.int .i64))), (8, (.d (.int .i64)))], fun k h => slices_Index_string_string.l0 k h.1 h.2.1 h.2.2.1 h.2.2.2.1⟩]
theorem slices_Index_string_string.ok (k : Nat) : (slices_Index_string_string.e k).Sound Tryd.prog ctx 52 :=
  entry_ok base_ok mo (fn := Tryd.f52) (b := (Tryd.f52.body.getD .skip)) (pm := [(.d (.sl .str)), (.d .str)]) (rs := [(.int .i64)]) (an := slices_Index_string_string.a) (N := 19) (vars := [(.tmp 4)]) Tryd.func52 (by kernel_rfl) (by kernel_rfl) (by kernel_rfl) (by kernel_rfl) (by kernel_rfl) (by kernel_rfl) (O := slices_Index_string_string.O)
    (fun k => by unfold slices_Index_string_string.O; exact oracle_of (P := Tryd.prog) (C := ctx) trivial) slices_Index_string_string.T ⟨⟨by kernel_rfl, fun _ => by first | rfl | rw [slices_Index_string_string.l0], fun k h => slices_Index_string_string.l0_eq k h.1 h.2.1 h.2.2.1 h.2.2.2.1⟩, trivial⟩ k (fun h => slices_Index_string_string.f_eq k h.1 h.2.1)
def slices_Contains_string_string.f (k : Nat) (a0 : (List ByteArray)) (a1 : ByteArray) : Option (Bool) := ((slices_Index_string_string.f k a0 a1).bind fun y1 => (some (ile 0 y1)))
def slices_Contains_string_string.O (k : Nat) : Oracle sg := fun n => lkp n [(52, slices_Index_string_string.e k)]
def slices_Contains_string_string.a : Ann := .z
def slices_Contains_string_string.L (k : Nat) : Nat → St sg.U → Option (RT sg.U [.bool]) := labs []
theorem slices_Contains_string_string.f_eq (k : Nat) (a0 : (List ByteArray)) (a1 : ByteArray) : slices_Contains_string_string.f k a0 a1 = codeK (C := ctx) (slices_Contains_string_string.O k) ⟨9, [], []⟩ (slices_Contains_string_string.L k) (Tryd.f74.body.getD .skip) slices_Contains_string_string.a (endK ctx [.bool] [(.tmp 4)]) (slotsOf sg.U 0 [(.d (.sl .str)), (.d .str)] (a0, a1, ()) (empty sg.U)) := by
  unfold slices_Contains_string_string.f
  kernel_rfl
def slices_Contains_string_string.e (k : Nat) : Entry sg := entryOf sg [(.d (.sl .str)), (.d .str)] [.bool] (fun h => slices_Contains_string_string.f k h.1 h.2.1)
def slices_Contains_string_string.T : List (Lb sg (RT sg.U [.bool])) := []
theorem slices_Contains_string_string.ok (k : Nat) : (slices_Contains_string_string.e k).Sound Tryd.prog ctx 74 :=
  entry_ok base_ok mo (fn := Tryd.f74) (b := (Tryd.f74.body.getD .skip)) (pm := [(.d (.sl .str)), (.d .str)]) (rs := [.bool]) (an := slices_Contains_string_string.a) (N := 9) (vars := [(.tmp 4)]) Tryd.func74 (by kernel_rfl) (by kernel_rfl) (by kernel_rfl) (by kernel_rfl) (by kernel_rfl) (by kernel_rfl) (O := slices_Contains_string_string.O)
    (fun k => by unfold slices_Contains_string_string.O; exact oracle_of (P := Tryd.prog) (C := ctx) ⟨(slices_Index_string_string.ok k), trivial⟩) slices_Contains_string_string.T trivial k (fun h => slices_Contains_string_string.f_eq k h.1 h.2.1)
mutual
def mastref2_ValuesOf.l0 : Nat → Int → (List T_api_Value) → Int → Int → Option (Int)
  | 0, _, _, _, _ => none
  | k + 1, x3, x7, x8, x9 => (bif (ilt x9 x8) then ((lat x7 x9).bind fun y1 => ((mastref2_ValuesOf.f k (T_api_Value.mk y1.fKind y1.fBool y1.fInt y1.fText y1.fItems y1.fKeys)).bind fun y2 => (mastref2_ValuesOf.l0 k (wadd .i64 x3 y2) x7 x8 (wadd .i64 x9 1)))) else (some x3))
def mastref2_ValuesOf.f : Nat → T_api_Value → Option (Int)
  | 0, _ => none
  | k + 1, a0 => (mastref2_ValuesOf.l0 k 1 a0.fItems (llen a0.fItems) 0)
end
def mastref2_ValuesOf.e (k : Nat) : Entry sg := entryOf sg [(.d (.st 1))] [(.int .i64)] (fun h => mastref2_ValuesOf.f k h.1)
def mastref2_ValuesOf.O (k : Nat) : Oracle sg := fun n => lkp n [(33, mastref2_ValuesOf.e k)]
def mastref2_ValuesOf.a : Ann := (.n .z (.n .z (.n (.n .z (.lp 0 .z)) .z)))
def mastref2_ValuesOf.L (k : Nat) : Nat → St sg.U → Option (RT sg.U [(.int .i64)]) := labs [(0, labOf sg [(3, (.d (.int .i64))), (7, (.d (.sl (.st 1)))), (8, (.d (.int .i64))), (9, (.d (.int .i64)))] (fun h => mastref2_ValuesOf.l0 k h.1 h.2.1 h.2.2.1 h.2.2.2.1))]
theorem mastref2_ValuesOf.l0_eq (k : Nat) (x3 : Int) (x7 : (List T_api_Value)) (x8 : Int) (x9 : Int) : mastref2_ValuesOf.l0 (k + 1) x3 x7 x8 x9 = runFrom (C := ctx) (mastref2_ValuesOf.O k) ⟨19, [], []⟩ (mastref2_ValuesOf.L k) (Tryd.f33.body.getD .skip) mastref2_ValuesOf.a 0 (endK ctx [(.int .i64)] [(.tmp 2)]) (encD [(3, (.d (.int .i64))), (7, (.d (.sl (.st 1)))), (8, (.d (.int .i64))), (9, (.d (.int .i64)))] (x3, x7, x8, x9, ()) (startD sg.U ⟨19, [], []⟩ [(3, (.d (.int .i64))), (7, (.d (.sl (.st 1)))), (8, (.d (.int .i64))), (9, (.d (.int .i64)))])) := by
  rw [mastref2_ValuesOf.l0]
  kernel_rfl
theorem mastref2_ValuesOf.f_eq (k : Nat) (a0 : T_api_Value) : mastref2_ValuesOf.f (k + 1) a0 = codeK (C := ctx) (mastref2_ValuesOf.O k) ⟨19, [], []⟩ (mastref2_ValuesOf.L k) (Tryd.f33.body.getD .skip) mastref2_ValuesOf.a (endK ctx [(.int .i64)] [(.tmp 2)]) (slotsOf sg.U 0 [(.d (.st 1))] (a0, ()) (empty sg.U)) := by
  rw [mastref2_ValuesOf.f]
  kernel_rfl
def mastref2_ValuesOf.T : List (Lb sg (RT sg.U [(.int .i64)])) := [⟨0, [(3, (.d (.int .i64))), (7, (.d (.sl (.st 1)))), (8, (.d (.int .i64))), (9, (.d (.int .i64)))], fun k h => mastref2_ValuesOf.l0 k h.1 h.2.1 h.2.2.1 h.2.2.2.1⟩]
theorem mastref2_ValuesOf.ok : ∀ k : Nat, (mastref2_ValuesOf.e k).Sound Tryd.prog ctx 33 :=
  entry_rec base_ok mo (fn := Tryd.f33) (b := (Tryd.f33.body.getD .skip)) (pm := [(.d (.st 1))]) (rs := [(.int .i64)]) (an := mastref2_ValuesOf.a) (N := 19) (vars := [(.tmp 2)]) Tryd.func33 (by kernel_rfl) (by kernel_rfl) (by kernel_rfl) (by kernel_rfl) (by kernel_rfl) (by kernel_rfl) (O := mastref2_ValuesOf.O) mastref2_ValuesOf.T ⟨⟨by kernel_rfl, fun _ => by first | rfl | rw [mastref2_ValuesOf.l0], fun k h => mastref2_ValuesOf.l0_eq k h.1 h.2.1 h.2.2.1 h.2.2.2.1⟩, trivial⟩ (F := fun k h => mastref2_ValuesOf.f k h.1) (fun _ => by first | rfl | rw [mastref2_ValuesOf.f]) (fun k h => mastref2_ValuesOf.f_eq k h.1)
    (fun k own => by unfold mastref2_ValuesOf.O; exact oracle_of (P := Tryd.prog) (C := ctx) ⟨own, trivial⟩)
mutual
def mastref2_LevelsOf.l0 : Nat → Int → (List T_api_Value) → Int → Int → Option (Int)
  | 0, _, _, _, _ => none
  | k + 1, x3, x7, x8, x9 => (bif (ilt x9 x8) then ((lat x7 x9).bind fun y1 => ((mastref2_LevelsOf.f k (T_api_Value.mk y1.fKind y1.fBool y1.fInt y1.fText y1.fItems y1.fKeys)).bind fun y2 => (mastref2_LevelsOf.l0 k (imax x3 y2) x7 x8 (wadd .i64 x9 1)))) else (some (wadd .i64 x3 1)))
def mastref2_LevelsOf.f : Nat → T_api_Value → Option (Int)
  | 0, _ => none
  | k + 1, a0 => (mastref2_LevelsOf.l0 k 0 a0.fItems (llen a0.fItems) 0)
end
def mastref2_LevelsOf.e (k : Nat) : Entry sg := entryOf sg [(.d (.st 1))] [(.int .i64)] (fun h => mastref2_LevelsOf.f k h.1)
def mastref2_LevelsOf.O (k : Nat) : Oracle sg := fun n => lkp n [(34, mastref2_LevelsOf.e k)]
def mastref2_LevelsOf.a : Ann := (.n .z (.n .z (.n (.n .z (.lp 0 .z)) .z)))
def mastref2_LevelsOf.L (k : Nat) : Nat → St sg.U → Option (RT sg.U [(.int .i64)]) := labs [(0, labOf sg [(3, (.d (.int .i64))), (7, (.d (.sl (.st 1)))), (8, (.d (.int .i64))), (9, (.d (.int .i64)))] (fun h => mastref2_LevelsOf.l0 k h.1 h.2.1 h.2.2.1 h.2.2.2.1))]
theorem mastref2_LevelsOf.l0_eq (k : Nat) (x3 : Int) (x7 : (List T_api_Value)) (x8 : Int) (x9 : Int) : mastref2_LevelsOf.l0 (k + 1) x3 x7 x8 x9 = runFrom (C := ctx) (mastref2_LevelsOf.O k) ⟨20, [], []⟩ (mastref2_LevelsOf.L k) (Tryd.f34.body.getD .skip) mastref2_LevelsOf.a 0 (endK ctx [(.int .i64)] [(.tmp 2)]) (encD [(3, (.d (.int .i64))), (7, (.d (.sl (.st 1)))), (8, (.d (.int .i64))), (9, (.d (.int .i64)))] (x3, x7, x8, x9, ()) (startD sg.U ⟨20, [], []⟩ [(3, (.d (.int .i64))), (7, (.d (.sl (.st 1)))), (8, (.d (.int .i64))), (9, (.d (.int .i64)))])) := by
  rw [mastref2_LevelsOf.l0]
  kernel_rfl
theorem mastref2_LevelsOf.f_eq (k : Nat) (a0 : T_api_Value) : mastref2_LevelsOf.f (k + 1) a0 = codeK (C := ctx) (mastref2_LevelsOf.O k) ⟨20, [], []⟩ (mastref2_LevelsOf.L k) (Tryd.f34.body.getD .skip) mastref2_LevelsOf.a (endK ctx [(.int .i64)] [(.tmp 2)]) (slotsOf sg.U 0 [(.d (.st 1))] (a0, ()) (empty sg.U)) := by
  rw [mastref2_LevelsOf.f]
  kernel_rfl
def mastref2_LevelsOf.T : List (Lb sg (RT sg.U [(.int .i64)])) := [⟨0, [(3, (.d (.int .i64))), (7, (.d (.sl (.st 1)))), (8, (.d (.int .i64))), (9, (.d (.int .i64)))], fun k h => mastref2_LevelsOf.l0 k h.1 h.2.1 h.2.2.1 h.2.2.2.1⟩]
theorem mastref2_LevelsOf.ok : ∀ k : Nat, (mastref2_LevelsOf.e k).Sound Tryd.prog ctx 34 :=
  entry_rec base_ok mo (fn := Tryd.f34) (b := (Tryd.f34.body.getD .skip)) (pm := [(.d (.st 1))]) (rs := [(.int .i64)]) (an := mastref2_LevelsOf.a) (N := 20) (vars := [(.tmp 2)]) Tryd.func34 (by kernel_rfl) (by kernel_rfl) (by kernel_rfl) (by kernel_rfl) (by kernel_rfl) (by kernel_rfl) (O := mastref2_LevelsOf.O) mastref2_LevelsOf.T ⟨⟨by kernel_rfl, fun _ => by first | rfl | rw [mastref2_LevelsOf.l0], fun k h => mastref2_LevelsOf.l0_eq k h.1 h.2.1 h.2.2.1 h.2.2.2.1⟩, trivial⟩ (F := fun k h => mastref2_LevelsOf.f k h.1) (fun _ => by first | rfl | rw [mastref2_LevelsOf.f]) (fun k h => mastref2_LevelsOf.f_eq k h.1)
    (fun k own => by unfold mastref2_LevelsOf.O; exact oracle_of (P := Tryd.prog) (C := ctx) ⟨own, trivial⟩)
def mastref2_badByte.l0 : Nat → ByteArray → Int → Option (Bool)
  | 0, _, _ => none
  | k + 1, x0, x3 => (bif (ilt x3 (slen x0)) then ((sat x0 x3).bind fun y1 => (bif (ilt y1 32) then ((sat x0 x3).bind fun y2 => (bif (!ieq y2 9) then ((sat x0 x3).bind fun y3 => (bif (!ieq y3 10) then (some true) else (mastref2_badByte.l0 k x0 (wadd .i64 x3 1)))) else (mastref2_badByte.l0 k x0 (wadd .i64 x3 1)))) else (mastref2_badByte.l0 k x0 (wadd .i64 x3 1)))) else (some false))
def mastref2_badByte.f (k : Nat) (a0 : ByteArray) : Option (Bool) := (mastref2_badByte.l0 k a0 0)
def mastref2_badByte.O (k : Nat) : Oracle sg := fun n => lkp n []
def mastref2_badByte.a : Ann := (.n .z (.n (.n .z (.lp 0 .z)) .z))
def mastref2_badByte.L (k : Nat) : Nat → St sg.U → Option (RT sg.U [.bool]) := labs [(0, labOf sg [(0, (.d .str)), (3, (.d (.int .i64)))] (fun h => mastref2_badByte.l0 k h.1 h.2.1))]
theorem mastref2_badByte.l0_eq (k : Nat) (x0 : ByteArray) (x3 : Int) : mastref2_badByte.l0 (k + 1) x0 x3 = runFrom (C := ctx) (mastref2_badByte.O k) ⟨26, [], []⟩ (mastref2_badByte.L k) (Tryd.f66.body.getD .skip) mastref2_badByte.a 0 (endK ctx [.bool] [(.tmp 2)]) (encD [(0, (.d .str)), (3, (.d (.int .i64)))] (x0, x3, ()) (startD sg.U ⟨26, [], []⟩ [(0, (.d .str)), (3, (.d (.int .i64)))])) := by
  rw [mastref2_badByte.l0]
  kernel_rfl
theorem mastref2_badByte.f_eq (k : Nat) (a0 : ByteArray) : mastref2_badByte.f k a0 = codeK (C := ctx) (mastref2_badByte.O k) ⟨26, [], []⟩ (mastref2_badByte.L k) (Tryd.f66.body.getD .skip) mastref2_badByte.a (endK ctx [.bool] [(.tmp 2)]) (slotsOf sg.U 0 [(.d .str)] (a0, ()) (empty sg.U)) := by
  unfold mastref2_badByte.f
  kernel_rfl
def mastref2_badByte.e (k : Nat) : Entry sg := entryOf sg [(.d .str)] [.bool] (fun h => mastref2_badByte.f k h.1)
def mastref2_badByte.T : List (Lb sg (RT sg.U [.bool])) := [⟨0, [(0, (.d .str)), (3, (.d (.int .i64)))], fun k h => mastref2_badByte.l0 k h.1 h.2.1⟩]
theorem mastref2_badByte.ok (k : Nat) : (mastref2_badByte.e k).Sound Tryd.prog ctx 66 :=
  entry_ok base_ok mo (fn := Tryd.f66) (b := (Tryd.f66.body.getD .skip)) (pm := [(.d .str)]) (rs := [.bool]) (an := mastref2_badByte.a) (N := 26) (vars := [(.tmp 2)]) Tryd.func66 (by kernel_rfl) (by kernel_rfl) (by kernel_rfl) (by kernel_rfl) (by kernel_rfl) (by kernel_rfl) (O := mastref2_badByte.O)
    (fun k => by unfold mastref2_badByte.O; exact oracle_of (P := Tryd.prog) (C := ctx) trivial) mastref2_badByte.T ⟨⟨by kernel_rfl, fun _ => by first | rfl | rw [mastref2_badByte.l0], fun k h => mastref2_badByte.l0_eq k h.1 h.2.1⟩, trivial⟩ k (fun h => mastref2_badByte.f_eq k h.1)
mutual
def mastref2_eachValue.l0 : Nat → Int → Bool → Int → ByteArray → (List T_api_Value) → (List ByteArray) → (List ByteArray) → Int → Int → Option (Int)
  | 0, _, _, _, _, _, _, _, _, _ => none
  | k + 1, x1_0, x1_1, x1_2, x1_3, x1_4, x1_5, x100, x101, x102 => (bif (ilt x102 x101) then ((lat x100 x102).bind fun y2 => ((mastref2_IsKey.f y2).bind fun y3 => (bif (!y3) then (some 12) else (bif (ilt 0 x102) then ((lat x1_5 (wsub .i64 x102 1)).bind fun y4 => (bif (sle y2 y4) then (some 5) else (mastref2_eachValue.l0 k x1_0 x1_1 x1_2 x1_3 x1_4 x1_5 x100 x101 (wadd .i64 x102 1)))) else (mastref2_eachValue.l0 k x1_0 x1_1 x1_2 x1_3 x1_4 x1_5 x100 x101 (wadd .i64 x102 1)))))) else (mastref2_eachValue.l1 k x1_4 (llen x1_4) 0))
def mastref2_eachValue.l1 : Nat → (List T_api_Value) → Int → Int → Option (Int)
  | 0, _, _, _ => none
  | k + 1, x124, x125, x126 => (bif (ilt x126 x125) then ((lat x124 x126).bind fun y5 => ((mastref2_eachValue.f k (T_api_Value.mk y5.fKind y5.fBool y5.fInt y5.fText y5.fItems y5.fKeys)).bind fun y6 => (bif (!ieq y6 0) then (some y6) else (mastref2_eachValue.l1 k x124 x125 (wadd .i64 x126 1))))) else (some 0))
def mastref2_eachValue.f : Nat → T_api_Value → Option (Int)
  | 0, _ => none
  | k + 1, a0 => (bif (bif (ilt a0.fKind 0) then true else (ilt 6 a0.fKind)) then (some 10) else (bif (bif (bif (bif (bif (bif a0.fBool then (!ieq a0.fKind 1) else false) then true else (bif (bif (!ieq a0.fInt 0) then (!ieq a0.fKind 2) else false) then (!ieq a0.fKind 4) else false)) then true else (bif (!seq a0.fText c_empty) then (!ieq a0.fKind 3) else false)) then true else (bif (bif (ilt 0 (llen a0.fItems)) then (!ieq a0.fKind 5) else false) then (!ieq a0.fKind 6) else false)) then true else (bif (ilt 0 (llen a0.fKeys)) then (!ieq a0.fKind 6) else false)) then (some 1) else (bif (bif (ieq a0.fKind 6) then (!ieq (llen a0.fKeys) (llen a0.fItems)) else false) then (some 1) else (bif (bif (ieq a0.fKind 4) then (bif (ilt a0.fInt 0) then true else (ilt 84005 a0.fInt)) else false) then (some 2) else (bif (ilt 5000 (slen a0.fText)) then (some 4) else ((mastref2_badByte.f k a0.fText).bind fun y1 => (bif y1 then (some 9) else (mastref2_eachValue.l0 k a0.fKind a0.fBool a0.fInt a0.fText a0.fItems a0.fKeys a0.fKeys (llen a0.fKeys) 0))))))))
end
def mastref2_eachValue.e (k : Nat) : Entry sg := entryOf sg [(.d (.st 1))] [(.int .i64)] (fun h => mastref2_eachValue.f k h.1)
def mastref2_eachValue.O (k : Nat) : Oracle sg := fun n => lkp n [(35, mastref2_eachValue.e k), (66, mastref2_badByte.e k), (67, mastref2_IsKey.e)]
def mastref2_eachValue.a : Ann := (.n .z (.n .z (.n .z (.n .z (.n .z (.n .z (.n .z (.n .z (.n (.n .z (.lp 0 .z)) (.n (.n .z (.lp 1 .z)) .z))))))))))
def mastref2_eachValue.L (k : Nat) : Nat → St sg.U → Option (RT sg.U [(.int .i64)]) := labs [(0, labOf sg [(1, (.box [.d (.int .i64), .d .bool, .d (.int .i64), .d .str, .d (.sl (.st 1)), .d (.sl .str)])), (100, (.d (.sl .str))), (101, (.d (.int .i64))), (102, (.d (.int .i64)))] (fun h => mastref2_eachValue.l0 k h.1 h.2.1 h.2.2.1 h.2.2.2.1 h.2.2.2.2.1 h.2.2.2.2.2.1 h.2.2.2.2.2.2.1 h.2.2.2.2.2.2.2.1 h.2.2.2.2.2.2.2.2.1)), (1, labOf sg [(124, (.d (.sl (.st 1)))), (125, (.d (.int .i64))), (126, (.d (.int .i64)))] (fun h => mastref2_eachValue.l1 k h.1 h.2.1 h.2.2.1))]
theorem mastref2_eachValue.l0_eq (k : Nat) (x1_0 : Int) (x1_1 : Bool) (x1_2 : Int) (x1_3 : ByteArray) (x1_4 : (List T_api_Value)) (x1_5 : (List ByteArray)) (x100 : (List ByteArray)) (x101 : Int) (x102 : Int) : mastref2_eachValue.l0 (k + 1) x1_0 x1_1 x1_2 x1_3 x1_4 x1_5 x100 x101 x102 = runFrom (C := ctx) (mastref2_eachValue.O k) ⟨136, [], []⟩ (mastref2_eachValue.L k) (Tryd.f35.body.getD .skip) mastref2_eachValue.a 0 (endK ctx [(.int .i64)] [(.tmp 2)]) (encD [(1, (.box [.d (.int .i64), .d .bool, .d (.int .i64), .d .str, .d (.sl (.st 1)), .d (.sl .str)])), (100, (.d (.sl .str))), (101, (.d (.int .i64))), (102, (.d (.int .i64)))] (x1_0, x1_1, x1_2, x1_3, x1_4, x1_5, x100, x101, x102, ()) (startD sg.U ⟨136, [], []⟩ [(1, (.box [.d (.int .i64), .d .bool, .d (.int .i64), .d .str, .d (.sl (.st 1)), .d (.sl .str)])), (100, (.d (.sl .str))), (101, (.d (.int .i64))), (102, (.d (.int .i64)))])) := by
  rw [mastref2_eachValue.l0]
  kernel_rfl
theorem mastref2_eachValue.l1_eq (k : Nat) (x124 : (List T_api_Value)) (x125 : Int) (x126 : Int) : mastref2_eachValue.l1 (k + 1) x124 x125 x126 = runFrom (C := ctx) (mastref2_eachValue.O k) ⟨136, [], []⟩ (mastref2_eachValue.L k) (Tryd.f35.body.getD .skip) mastref2_eachValue.a 1 (endK ctx [(.int .i64)] [(.tmp 2)]) (encD [(124, (.d (.sl (.st 1)))), (125, (.d (.int .i64))), (126, (.d (.int .i64)))] (x124, x125, x126, ()) (startD sg.U ⟨136, [], []⟩ [(124, (.d (.sl (.st 1)))), (125, (.d (.int .i64))), (126, (.d (.int .i64)))])) := by
  rw [mastref2_eachValue.l1]
  kernel_rfl
theorem mastref2_eachValue.f_eq (k : Nat) (a0 : T_api_Value) : mastref2_eachValue.f (k + 1) a0 = codeK (C := ctx) (mastref2_eachValue.O k) ⟨136, [], []⟩ (mastref2_eachValue.L k) (Tryd.f35.body.getD .skip) mastref2_eachValue.a (endK ctx [(.int .i64)] [(.tmp 2)]) (slotsOf sg.U 0 [(.d (.st 1))] (a0, ()) (empty sg.U)) := by
  rw [mastref2_eachValue.f]
  kernel_rfl
def mastref2_eachValue.T : List (Lb sg (RT sg.U [(.int .i64)])) := [⟨0, [(1, (.box [.d (.int .i64), .d .bool, .d (.int .i64), .d .str, .d (.sl (.st 1)), .d (.sl .str)])), (100, (.d (.sl .str))), (101, (.d (.int .i64))), (102, (.d (.int .i64)))], fun k h => mastref2_eachValue.l0 k h.1 h.2.1 h.2.2.1 h.2.2.2.1 h.2.2.2.2.1 h.2.2.2.2.2.1 h.2.2.2.2.2.2.1 h.2.2.2.2.2.2.2.1 h.2.2.2.2.2.2.2.2.1⟩, ⟨1, [(124, (.d (.sl (.st 1)))), (125, (.d (.int .i64))), (126, (.d (.int .i64)))], fun k h => mastref2_eachValue.l1 k h.1 h.2.1 h.2.2.1⟩]
theorem mastref2_eachValue.ok : ∀ k : Nat, (mastref2_eachValue.e k).Sound Tryd.prog ctx 35 :=
  entry_rec base_ok mo (fn := Tryd.f35) (b := (Tryd.f35.body.getD .skip)) (pm := [(.d (.st 1))]) (rs := [(.int .i64)]) (an := mastref2_eachValue.a) (N := 136) (vars := [(.tmp 2)]) Tryd.func35 (by kernel_rfl) (by kernel_rfl) (by kernel_rfl) (by kernel_rfl) (by kernel_rfl) (by kernel_rfl) (O := mastref2_eachValue.O) mastref2_eachValue.T ⟨⟨by kernel_rfl, fun _ => by first | rfl | rw [mastref2_eachValue.l0], fun k h => mastref2_eachValue.l0_eq k h.1 h.2.1 h.2.2.1 h.2.2.2.1 h.2.2.2.2.1 h.2.2.2.2.2.1 h.2.2.2.2.2.2.1 h.2.2.2.2.2.2.2.1 h.2.2.2.2.2.2.2.2.1⟩, ⟨⟨by kernel_rfl, fun _ => by first | rfl | rw [mastref2_eachValue.l1], fun k h => mastref2_eachValue.l1_eq k h.1 h.2.1 h.2.2.1⟩, trivial⟩⟩ (F := fun k h => mastref2_eachValue.f k h.1) (fun _ => by first | rfl | rw [mastref2_eachValue.f]) (fun k h => mastref2_eachValue.f_eq k h.1)
    (fun k own => by unfold mastref2_eachValue.O; exact oracle_of (P := Tryd.prog) (C := ctx) ⟨own, ⟨(mastref2_badByte.ok k), ⟨(mastref2_IsKey.ok), trivial⟩⟩⟩)
def mastref2_ConfCheck.f (k : Nat) (a0 : T_api_Value) : Option (Int) := ((mastref2_ValuesOf.f k (T_api_Value.mk a0.fKind a0.fBool a0.fInt a0.fText a0.fItems a0.fKeys)).bind fun y1 => (bif (ilt 1000 y1) then (some 4) else ((mastref2_LevelsOf.f k (T_api_Value.mk a0.fKind a0.fBool a0.fInt a0.fText a0.fItems a0.fKeys)).bind fun y2 => (bif (ilt 8 y2) then (some 13) else ((mastref2_eachValue.f k (T_api_Value.mk a0.fKind a0.fBool a0.fInt a0.fText a0.fItems a0.fKeys)).bind fun y3 => (some y3))))))
def mastref2_ConfCheck.O (k : Nat) : Oracle sg := fun n => lkp n [(33, mastref2_ValuesOf.e k), (34, mastref2_LevelsOf.e k), (35, mastref2_eachValue.e k)]
def mastref2_ConfCheck.a : Ann := .z
def mastref2_ConfCheck.L (k : Nat) : Nat → St sg.U → Option (RT sg.U [(.int .i64)]) := labs []
theorem mastref2_ConfCheck.f_eq (k : Nat) (a0 : T_api_Value) : mastref2_ConfCheck.f k a0 = codeK (C := ctx) (mastref2_ConfCheck.O k) ⟨11, [], []⟩ (mastref2_ConfCheck.L k) (Tryd.f16.body.getD .skip) mastref2_ConfCheck.a (endK ctx [(.int .i64)] [(.tmp 2)]) (slotsOf sg.U 0 [(.d (.st 1))] (a0, ()) (empty sg.U)) := by
  unfold mastref2_ConfCheck.f
  kernel_rfl
def mastref2_ConfCheck.e (k : Nat) : Entry sg := entryOf sg [(.d (.st 1))] [(.int .i64)] (fun h => mastref2_ConfCheck.f k h.1)
def mastref2_ConfCheck.T : List (Lb sg (RT sg.U [(.int .i64)])) := []
theorem mastref2_ConfCheck.ok (k : Nat) : (mastref2_ConfCheck.e k).Sound Tryd.prog ctx 16 :=
  entry_ok base_ok mo (fn := Tryd.f16) (b := (Tryd.f16.body.getD .skip)) (pm := [(.d (.st 1))]) (rs := [(.int .i64)]) (an := mastref2_ConfCheck.a) (N := 11) (vars := [(.tmp 2)]) Tryd.func16 (by kernel_rfl) (by kernel_rfl) (by kernel_rfl) (by kernel_rfl) (by kernel_rfl) (by kernel_rfl) (O := mastref2_ConfCheck.O)
    (fun k => by unfold mastref2_ConfCheck.O; exact oracle_of (P := Tryd.prog) (C := ctx) ⟨(mastref2_ValuesOf.ok k), ⟨(mastref2_LevelsOf.ok k), ⟨(mastref2_eachValue.ok k), trivial⟩⟩⟩) mastref2_ConfCheck.T trivial k (fun h => mastref2_ConfCheck.f_eq k h.1)
def mastref2_scalar.f (a0 : T_api_Value) : Option (Bool) := (some (bif (!ieq a0.fKind 5) then (!ieq a0.fKind 6) else false))
def mastref2_scalar.O : Oracle sg := fun n => lkp n []
def mastref2_scalar.a : Ann := .z
def mastref2_scalar.L : Nat → St sg.U → Option (RT sg.U [.bool]) := labs []
theorem mastref2_scalar.f_eq (a0 : T_api_Value) : mastref2_scalar.f a0 = codeK (C := ctx) (mastref2_scalar.O) ⟨11, [], []⟩ (mastref2_scalar.L) (Tryd.f100.body.getD .skip) mastref2_scalar.a (endK ctx [.bool] [(.tmp 2)]) (slotsOf sg.U 0 [(.d (.st 1))] (a0, ()) (empty sg.U)) := by
  unfold mastref2_scalar.f
  kernel_rfl
def mastref2_scalar.e : Entry sg := entryOf sg [(.d (.st 1))] [.bool] (fun h => mastref2_scalar.f h.1)
def mastref2_scalar.T : List (Lb sg (RT sg.U [.bool])) := []
theorem mastref2_scalar.ok : (mastref2_scalar.e).Sound Tryd.prog ctx 100 :=
  entry_ok base_ok mo (fn := Tryd.f100) (b := (Tryd.f100.body.getD .skip)) (pm := [(.d (.st 1))]) (rs := [.bool]) (an := mastref2_scalar.a) (N := 11) (vars := [(.tmp 2)]) Tryd.func100 (by kernel_rfl) (by kernel_rfl) (by kernel_rfl) (by kernel_rfl) (by kernel_rfl) (by kernel_rfl) (O := fun _ => mastref2_scalar.O)
    (fun _ => by unfold mastref2_scalar.O; exact oracle_of (P := Tryd.prog) (C := ctx) trivial) mastref2_scalar.T trivial 0 (fun h => mastref2_scalar.f_eq h.1)
def mastref2_valueFault_c1.f (a0 : T_api_Value) : Option (Bool) := ((mastref2_scalar.f (T_api_Value.mk a0.fKind a0.fBool a0.fInt a0.fText a0.fItems a0.fKeys)).bind fun y1 => (some (!y1)))
def mastref2_valueFault_c1.O : Oracle sg := fun n => lkp n [(100, mastref2_scalar.e)]
def mastref2_valueFault_c1.a : Ann := .z
def mastref2_valueFault_c1.L : Nat → St sg.U → Option (RT sg.U [.bool]) := labs []
theorem mastref2_valueFault_c1.f_eq (a0 : T_api_Value) : mastref2_valueFault_c1.f a0 = codeK (C := ctx) (mastref2_valueFault_c1.O) ⟨6, [], []⟩ (mastref2_valueFault_c1.L) (Tryd.f99.body.getD .skip) mastref2_valueFault_c1.a (endK ctx [.bool] [(.tmp 2)]) (slotsOf sg.U 0 [(.d (.st 1))] (a0, ()) (empty sg.U)) := by
  unfold mastref2_valueFault_c1.f
  kernel_rfl
def mastref2_valueFault_c1.e : Entry sg := entryOf sg [(.d (.st 1))] [.bool] (fun h => mastref2_valueFault_c1.f h.1)
def mastref2_valueFault_c1.T : List (Lb sg (RT sg.U [.bool])) := []
theorem mastref2_valueFault_c1.ok : (mastref2_valueFault_c1.e).Sound Tryd.prog ctx 99 :=
  entry_ok base_ok mo (fn := Tryd.f99) (b := (Tryd.f99.body.getD .skip)) (pm := [(.d (.st 1))]) (rs := [.bool]) (an := mastref2_valueFault_c1.a) (N := 6) (vars := [(.tmp 2)]) Tryd.func99 (by kernel_rfl) (by kernel_rfl) (by kernel_rfl) (by kernel_rfl) (by kernel_rfl) (by kernel_rfl) (O := fun _ => mastref2_valueFault_c1.O)
    (fun _ => by unfold mastref2_valueFault_c1.O; exact oracle_of (P := Tryd.prog) (C := ctx) ⟨(mastref2_scalar.ok), trivial⟩) mastref2_valueFault_c1.T trivial 0 (fun h => mastref2_valueFault_c1.f_eq h.1)
def slices_IndexFunc_api_Value_api_Value_at_mastref2_valueFault_c1.l0 : Nat → (List T_api_Value) → Int → Int → Option (Int)
  | 0, _, _, _ => none
  | k + 1, x0, x7, x8 => (bif (ilt x8 x7) then ((lat x0 x8).bind fun y1 => ((mastref2_valueFault_c1.f y1).bind fun y2 => (bif y2 then (some x8) else (slices_IndexFunc_api_Value_api_Value_at_mastref2_valueFault_c1.l0 k x0 x7 (wadd .i64 x8 1))))) else (some (-1)))
def slices_IndexFunc_api_Value_api_Value_at_mastref2_valueFault_c1.f (k : Nat) (a0 : (List T_api_Value)) : Option (Int) := (slices_IndexFunc_api_Value_api_Value_at_mastref2_valueFault_c1.l0 k a0 (llen a0) 0)
def slices_IndexFunc_api_Value_api_Value_at_mastref2_valueFault_c1.O (k : Nat) : Oracle sg := fun n => lkp n [(99, mastref2_valueFault_c1.e)]
def slices_IndexFunc_api_Value_api_Value_at_mastref2_valueFault_c1.a : Ann := (.n .z (.n (.n .z (.lp 0 .z)) .z))
def slices_IndexFunc_api_Value_api_Value_at_mastref2_valueFault_c1.L (k : Nat) : Nat → St sg.U → Option (RT sg.U [(.int .i64)]) := labs [(0, labOf sg [(0, (.d (.sl (.st 1)))), (1, (.clo 99 [])), (7, (.d (.int .i64))), (8, (.d (.int .i64)))] (fun h => slices_IndexFunc_api_Value_api_Value_at_mastref2_valueFault_c1.l0 k h.1 h.2.1 h.2.2.1))]
theorem slices_IndexFunc_api_Value_api_Value_at_mastref2_valueFault_c1.l0_eq (k : Nat) (x0 : (List T_api_Value)) (x7 : Int) (x8 : Int) : slices_IndexFunc_api_Value_api_Value_at_mastref2_valueFault_c1.l0 (k + 1) x0 x7 x8 = runFrom (C := ctx) (slices_IndexFunc_api_Value_api_Value_at_mastref2_valueFault_c1.O k) ⟨19, [], []⟩ (slices_IndexFunc_api_Value_api_Value_at_mastref2_valueFault_c1.L k) (Tryd.f126.body.getD .skip) slices_IndexFunc_api_Value_api_Value_at_mastref2_valueFault_c1.a 0 (endK ctx [(.int .i64)] [(.tmp 4)]) (encD [(0, (.d (.sl (.st 1)))), (1, (.clo 99 [])), (7, (.d (.int .i64))), (8, (.d (.int .i64)))] (x0, x7, x8, ()) (startD sg.U ⟨19, [], []⟩ [(0, (.d (.sl (.st 1)))), (1, (.clo 99 [])), (7, (.d (.int .i64))), (8, (.d (.int .i64)))])) := by
  rw [slices_IndexFunc_api_Value_api_Value_at_mastref2_valueFault_c1.l0]
  kernel_rfl
theorem slices_IndexFunc_api_Value_api_Value_at_mastref2_valueFault_c1.f_eq (k : Nat) (a0 : (List T_api_Value)) : slices_IndexFunc_api_Value_api_Value_at_mastref2_valueFault_c1.f k a0 = codeK (C := ctx) (slices_IndexFunc_api_Value_api_Value_at_mastref2_valueFault_c1.O k) ⟨19, [], []⟩ (slices_IndexFunc_api_Value_api_Value_at_mastref2_valueFault_c1.L k) (Tryd.f126.body.getD .skip) slices_IndexFunc_api_Value_api_Value_at_mastref2_valueFault_c1.a (endK ctx [(.int .i64)] [(.tmp 4)]) (slotsOf sg.U 0 [(.d (.sl (.st 1))), .fn 99] (a0, ()) (empty sg.U)) := by
  unfold slices_IndexFunc_api_Value_api_Value_at_mastref2_valueFault_c1.f
  kernel_rfl
def slices_IndexFunc_api_Value_api_Value_at_mastref2_valueFault_c1.e (k : Nat) : Entry sg := entryOf sg [(.d (.sl (.st 1))), .fn 99] [(.int .i64)] (fun h => slices_IndexFunc_api_Value_api_Value_at_mastref2_valueFault_c1.f k h.1)
def slices_IndexFunc_api_Value_api_Value_at_mastref2_valueFault_c1.T : List (Lb sg (RT sg.U [(.int .i64)])) := [⟨0, [(0, (.d (.sl (.st 1)))), (1, (.clo 99 [])), (7, (.d (.int .i64))), (8, (.d (.int .i64)))], fun k h => slices_IndexFunc_api_Value_api_Value_at_mastref2_valueFault_c1.l0 k h.1 h.2.1 h.2.2.1⟩]
theorem slices_IndexFunc_api_Value_api_Value_at_mastref2_valueFault_c1.ok (k : Nat) : (slices_IndexFunc_api_Value_api_Value_at_mastref2_valueFault_c1.e k).Sound Tryd.prog ctx 126 :=
  entry_ok base_ok mo (fn := Tryd.f126) (b := (Tryd.f126.body.getD .skip)) (pm := [(.d (.sl (.st 1))), .fn 99]) (rs := [(.int .i64)]) (an := slices_IndexFunc_api_Value_api_Value_at_mastref2_valueFault_c1.a) (N := 19) (vars := [(.tmp 4)]) Tryd.func126 (by kernel_rfl) (by kernel_rfl) (by kernel_rfl) (by kernel_rfl) (by kernel_rfl) (by kernel_rfl) (O := slices_IndexFunc_api_Value_api_Value_at_mastref2_valueFault_c1.O)
    (fun k => by unfold slices_IndexFunc_api_Value_api_Value_at_mastref2_valueFault_c1.O; exact oracle_of (P := Tryd.prog) (C := ctx) ⟨(mastref2_valueFault_c1.ok), trivial⟩) slices_IndexFunc_api_Value_api_Value_at_mastref2_valueFault_c1.T ⟨⟨by kernel_rfl, fun _ => by first | rfl | rw [slices_IndexFunc_api_Value_api_Value_at_mastref2_valueFault_c1.l0], fun k h => slices_IndexFunc_api_Value_api_Value_at_mastref2_valueFault_c1.l0_eq k h.1 h.2.1 h.2.2.1⟩, trivial⟩ k (fun h => slices_IndexFunc_api_Value_api_Value_at_mastref2_valueFault_c1.f_eq k h.1)
def slices_ContainsFunc_api_Value_api_Value_at_mastref2_valueFault_c1.f (k : Nat) (a0 : (List T_api_Value)) : Option (Bool) := ((slices_IndexFunc_api_Value_api_Value_at_mastref2_valueFault_c1.f k a0).bind fun y1 => (some (ile 0 y1)))
def slices_ContainsFunc_api_Value_api_Value_at_mastref2_valueFault_c1.O (k : Nat) : Oracle sg := fun n => lkp n [(126, slices_IndexFunc_api_Value_api_Value_at_mastref2_valueFault_c1.e k)]
def slices_ContainsFunc_api_Value_api_Value_at_mastref2_valueFault_c1.a : Ann := .z
def slices_ContainsFunc_api_Value_api_Value_at_mastref2_valueFault_c1.L (k : Nat) : Nat → St sg.U → Option (RT sg.U [.bool]) := labs []
theorem slices_ContainsFunc_api_Value_api_Value_at_mastref2_valueFault_c1.f_eq (k : Nat) (a0 : (List T_api_Value)) : slices_ContainsFunc_api_Value_api_Value_at_mastref2_valueFault_c1.f k a0 = codeK (C := ctx) (slices_ContainsFunc_api_Value_api_Value_at_mastref2_valueFault_c1.O k) ⟨9, [], []⟩ (slices_ContainsFunc_api_Value_api_Value_at_mastref2_valueFault_c1.L k) (Tryd.f98.body.getD .skip) slices_ContainsFunc_api_Value_api_Value_at_mastref2_valueFault_c1.a (endK ctx [.bool] [(.tmp 4)]) (slotsOf sg.U 0 [(.d (.sl (.st 1))), .fn 99] (a0, ()) (empty sg.U)) := by
  unfold slices_ContainsFunc_api_Value_api_Value_at_mastref2_valueFault_c1.f
  kernel_rfl
def slices_ContainsFunc_api_Value_api_Value_at_mastref2_valueFault_c1.e (k : Nat) : Entry sg := entryOf sg [(.d (.sl (.st 1))), .fn 99] [.bool] (fun h => slices_ContainsFunc_api_Value_api_Value_at_mastref2_valueFault_c1.f k h.1)
def slices_ContainsFunc_api_Value_api_Value_at_mastref2_valueFault_c1.T : List (Lb sg (RT sg.U [.bool])) := []
theorem slices_ContainsFunc_api_Value_api_Value_at_mastref2_valueFault_c1.ok (k : Nat) : (slices_ContainsFunc_api_Value_api_Value_at_mastref2_valueFault_c1.e k).Sound Tryd.prog ctx 98 :=
  entry_ok base_ok mo (fn := Tryd.f98) (b := (Tryd.f98.body.getD .skip)) (pm := [(.d (.sl (.st 1))), .fn 99]) (rs := [.bool]) (an := slices_ContainsFunc_api_Value_api_Value_at_mastref2_valueFault_c1.a) (N := 9) (vars := [(.tmp 4)]) Tryd.func98 (by kernel_rfl) (by kernel_rfl) (by kernel_rfl) (by kernel_rfl) (by kernel_rfl) (by kernel_rfl) (O := slices_ContainsFunc_api_Value_api_Value_at_mastref2_valueFault_c1.O)
    (fun k => by unfold slices_ContainsFunc_api_Value_api_Value_at_mastref2_valueFault_c1.O; exact oracle_of (P := Tryd.prog) (C := ctx) ⟨(slices_IndexFunc_api_Value_api_Value_at_mastref2_valueFault_c1.ok k), trivial⟩) slices_ContainsFunc_api_Value_api_Value_at_mastref2_valueFault_c1.T trivial k (fun h => slices_ContainsFunc_api_Value_api_Value_at_mastref2_valueFault_c1.f_eq k h.1)
def mastref2_valueFault.f (k : Nat) (a0 : Int) (a1 : T_api_Value) : Option (Bool) := (bif (ieq a0 12) then (bif (!ieq a1.fKind 5) then (some true) else ((slices_ContainsFunc_api_Value_api_Value_at_mastref2_valueFault_c1.f k a1.fItems).bind fun y1 => (some y1))) else (bif (ieq a0 13) then (some (!ieq a1.fKind 3)) else ((mastref2_scalar.f (T_api_Value.mk a1.fKind a1.fBool a1.fInt a1.fText a1.fItems a1.fKeys)).bind fun y2 => (some (!y2)))))
def mastref2_valueFault.O (k : Nat) : Oracle sg := fun n => lkp n [(98, slices_ContainsFunc_api_Value_api_Value_at_mastref2_valueFault_c1.e k), (100, mastref2_scalar.e)]
def mastref2_valueFault.a : Ann := .z
def mastref2_valueFault.L (k : Nat) : Nat → St sg.U → Option (RT sg.U [.bool]) := labs []
theorem mastref2_valueFault.f_eq (k : Nat) (a0 : Int) (a1 : T_api_Value) : mastref2_valueFault.f k a0 a1 = codeK (C := ctx) (mastref2_valueFault.O k) ⟨24, [], []⟩ (mastref2_valueFault.L k) (Tryd.f75.body.getD .skip) mastref2_valueFault.a (endK ctx [.bool] [(.tmp 4)]) (slotsOf sg.U 0 [(.d (.int .i64)), (.d (.st 1))] (a0, a1, ()) (empty sg.U)) := by
  unfold mastref2_valueFault.f
  kernel_rfl
def mastref2_valueFault.e (k : Nat) : Entry sg := entryOf sg [(.d (.int .i64)), (.d (.st 1))] [.bool] (fun h => mastref2_valueFault.f k h.1 h.2.1)
def mastref2_valueFault.T : List (Lb sg (RT sg.U [.bool])) := []
theorem mastref2_valueFault.ok (k : Nat) : (mastref2_valueFault.e k).Sound Tryd.prog ctx 75 :=
  entry_ok base_ok mo (fn := Tryd.f75) (b := (Tryd.f75.body.getD .skip)) (pm := [(.d (.int .i64)), (.d (.st 1))]) (rs := [.bool]) (an := mastref2_valueFault.a) (N := 24) (vars := [(.tmp 4)]) Tryd.func75 (by kernel_rfl) (by kernel_rfl) (by kernel_rfl) (by kernel_rfl) (by kernel_rfl) (by kernel_rfl) (O := mastref2_valueFault.O)
    (fun k => by unfold mastref2_valueFault.O; exact oracle_of (P := Tryd.prog) (C := ctx) ⟨(slices_ContainsFunc_api_Value_api_Value_at_mastref2_valueFault_c1.ok k), ⟨(mastref2_scalar.ok), trivial⟩⟩) mastref2_valueFault.T trivial k (fun h => mastref2_valueFault.f_eq k h.1 h.2.1)
mutual
def mastref2_eachCond.l0 : Nat → Int → ByteArray → Int → Bool → Int → ByteArray → (List T_api_Value) → (List ByteArray) → (List T_list_Cond) → Bool → Bool → Option (Int)
  | 0, _, _, _, _, _, _, _, _, _, _, _ => none
  | k + 1, x1_0, x1_1, x1_2, x1_3, x1_4, x1_5, x1_6, x1_7, x1_8, x3, x27 => (bif x27 then (some 1) else (bif x3 then ((slices_ContainsFunc_list_Cond_list_Cond_at_mastref2_eachCond_c1.f k x1_8 x1_0 x1_1 x1_2 x1_3 x1_4 x1_5 x1_6 x1_7 x1_8).bind fun y1 => (mastref2_eachCond.l1 k y1.2.1 y1.2.2.1 y1.2.2.2.1 y1.2.2.2.2.1 y1.2.2.2.2.2.1 y1.2.2.2.2.2.2.1 y1.2.2.2.2.2.2.2.1 y1.2.2.2.2.2.2.2.2.1 y1.2.2.2.2.2.2.2.2.2.1 y1.1)) else (mastref2_eachCond.l1 k x1_0 x1_1 x1_2 x1_3 x1_4 x1_5 x1_6 x1_7 x1_8 false)))
def mastref2_eachCond.l1 : Nat → Int → ByteArray → Int → Bool → Int → ByteArray → (List T_api_Value) → (List ByteArray) → (List T_list_Cond) → Bool → Option (Int)
  | 0, _, _, _, _, _, _, _, _, _, _ => none
  | k + 1, x1_0, x1_1, x1_2, x1_3, x1_4, x1_5, x1_6, x1_7, x1_8, x53 => (bif x53 then (some 1) else (bif (bif (ile x1_0 3) then (!seq x1_1 c_empty) else false) then (some 1) else (bif (ile x1_0 4) then ((mastref2_SameOf.f k (T_api_Value.mk x1_2 x1_3 x1_4 x1_5 x1_6 x1_7) (T_api_Value.mk 0 false 0 c_empty [] [])).bind fun y2 => (bif (!y2) then (some 1) else (mastref2_eachCond.l2 k x1_0 x1_1 x1_2 x1_3 x1_4 x1_5 x1_6 x1_7 x1_8))) else (mastref2_eachCond.l2 k x1_0 x1_1 x1_2 x1_3 x1_4 x1_5 x1_6 x1_7 x1_8))))
def mastref2_eachCond.l2 : Nat → Int → ByteArray → Int → Bool → Int → ByteArray → (List T_api_Value) → (List ByteArray) → (List T_list_Cond) → Option (Int)
  | 0, _, _, _, _, _, _, _, _, _ => none
  | k + 1, x1_0, x1_1, x1_2, x1_3, x1_4, x1_5, x1_6, x1_7, x1_8 => (bif (ilt 3 x1_0) then ((mastref2_RouteParts.f k x1_1 false).bind fun y3 => (bif (bif (!y3.2) then true else (seq x1_1 c_empty)) then (some 3) else ((slices_Contains_string_string.f k g_condWords x1_1).bind fun y4 => (bif y4 then (some 3) else ((mastref2_ConfCheck.f k (T_api_Value.mk x1_2 x1_3 x1_4 x1_5 x1_6 x1_7)).bind fun y5 => (bif (!ieq y5 0) then (some y5) else (bif (ilt 4 x1_0) then ((mastref2_valueFault.f k x1_0 (T_api_Value.mk x1_2 x1_3 x1_4 x1_5 x1_6 x1_7)).bind fun y6 => (bif y6 then (some 10) else (mastref2_eachCond.l3 k x1_0 x1_1 x1_2 x1_3 x1_4 x1_5 x1_6 x1_7 x1_8))) else (mastref2_eachCond.l3 k x1_0 x1_1 x1_2 x1_3 x1_4 x1_5 x1_6 x1_7 x1_8)))))))) else (mastref2_eachCond.l3 k x1_0 x1_1 x1_2 x1_3 x1_4 x1_5 x1_6 x1_7 x1_8))
def mastref2_eachCond.l3 : Nat → Int → ByteArray → Int → Bool → Int → ByteArray → (List T_api_Value) → (List ByteArray) → (List T_list_Cond) → Option (Int)
  | 0, _, _, _, _, _, _, _, _, _ => none
  | k + 1, x1_0, x1_1, x1_2, x1_3, x1_4, x1_5, x1_6, x1_7, x1_8 => (mastref2_eachCond.l4 k x1_8 (llen x1_8) 0)
def mastref2_eachCond.l4 : Nat → (List T_list_Cond) → Int → Int → Option (Int)
  | 0, _, _, _ => none
  | k + 1, x119, x120, x121 => (bif (ilt x121 x120) then ((lat x119 x121).bind fun y7 => ((mastref2_eachCond.f k (T_list_Cond.mk y7.fOp y7.fRoute (T_api_Value.mk y7.fValue.fKind y7.fValue.fBool y7.fValue.fInt y7.fValue.fText y7.fValue.fItems y7.fValue.fKeys) y7.fKids)).bind fun y8 => (bif (!ieq y8 0) then (some y8) else (mastref2_eachCond.l4 k x119 x120 (wadd .i64 x121 1))))) else (some 0))
def mastref2_eachCond.f : Nat → T_list_Cond → Option (Int)
  | 0, _ => none
  | k + 1, a0 => (bif (bif (ilt a0.fOp 1) then true else (ilt 13 a0.fOp)) then (some 1) else (bif (bif (bif (ieq a0.fOp 1) then true else (ieq a0.fOp 2)) then (ilt (llen a0.fKids) 2) else false) then (mastref2_eachCond.l0 k a0.fOp a0.fRoute a0.fValue.fKind a0.fValue.fBool a0.fValue.fInt a0.fValue.fText a0.fValue.fItems a0.fValue.fKeys a0.fKids (bif (ieq a0.fOp 1) then true else (ieq a0.fOp 2)) true) else (bif (bif (ieq a0.fOp 3) then (!ieq (llen a0.fKids) 1) else false) then (mastref2_eachCond.l0 k a0.fOp a0.fRoute a0.fValue.fKind a0.fValue.fBool a0.fValue.fInt a0.fValue.fText a0.fValue.fItems a0.fValue.fKeys a0.fKids (bif (ieq a0.fOp 1) then true else (ieq a0.fOp 2)) true) else (mastref2_eachCond.l0 k a0.fOp a0.fRoute a0.fValue.fKind a0.fValue.fBool a0.fValue.fInt a0.fValue.fText a0.fValue.fItems a0.fValue.fKeys a0.fKids (bif (ieq a0.fOp 1) then true else (ieq a0.fOp 2)) (bif (ilt 3 a0.fOp) then (ilt 0 (llen a0.fKids)) else false)))))
end
def mastref2_eachCond.e (k : Nat) : Entry sg := entryOf sg [(.d (.st 0))] [(.int .i64)] (fun h => mastref2_eachCond.f k h.1)
def mastref2_eachCond.O (k : Nat) : Oracle sg := fun n => lkp n [(16, mastref2_ConfCheck.e k), (44, mastref2_eachCond.e k), (70, slices_ContainsFunc_list_Cond_list_Cond_at_mastref2_eachCond_c1.e k), (72, mastref2_SameOf.e k), (73, mastref2_RouteParts.e k), (74, slices_Contains_string_string.e k), (75, mastref2_valueFault.e k)]
def mastref2_eachCond.a : Ann := (.n .z (.n .z (.n (.n .z (.n .z (.n .z (.lab 0 (.n .z (.n .z (.lab 1 .z))))))) (.lab 2 (.n .z (.lab 3 (.n (.n .z (.lp 4 .z)) .z)))))))
def mastref2_eachCond.L (k : Nat) : Nat → St sg.U → Option (RT sg.U [(.int .i64)]) := labs [(0, labOf sg [(1, (.box [.d (.int .i64), .d .str, .d (.int .i64), .d .bool, .d (.int .i64), .d .str, .d (.sl (.st 1)), .d (.sl .str), .d (.sl (.st 0))])), (3, (.d .bool)), (27, (.d .bool))] (fun h => mastref2_eachCond.l0 k h.1 h.2.1 h.2.2.1 h.2.2.2.1 h.2.2.2.2.1 h.2.2.2.2.2.1 h.2.2.2.2.2.2.1 h.2.2.2.2.2.2.2.1 h.2.2.2.2.2.2.2.2.1 h.2.2.2.2.2.2.2.2.2.1 h.2.2.2.2.2.2.2.2.2.2.1)), (1, labOf sg [(1, (.box [.d (.int .i64), .d .str, .d (.int .i64), .d .bool, .d (.int .i64), .d .str, .d (.sl (.st 1)), .d (.sl .str), .d (.sl (.st 0))])), (53, (.d .bool))] (fun h => mastref2_eachCond.l1 k h.1 h.2.1 h.2.2.1 h.2.2.2.1 h.2.2.2.2.1 h.2.2.2.2.2.1 h.2.2.2.2.2.2.1 h.2.2.2.2.2.2.2.1 h.2.2.2.2.2.2.2.2.1 h.2.2.2.2.2.2.2.2.2.1)), (2, labOf sg [(1, (.box [.d (.int .i64), .d .str, .d (.int .i64), .d .bool, .d (.int .i64), .d .str, .d (.sl (.st 1)), .d (.sl .str), .d (.sl (.st 0))]))] (fun h => mastref2_eachCond.l2 k h.1 h.2.1 h.2.2.1 h.2.2.2.1 h.2.2.2.2.1 h.2.2.2.2.2.1 h.2.2.2.2.2.2.1 h.2.2.2.2.2.2.2.1 h.2.2.2.2.2.2.2.2.1)), (3, labOf sg [(1, (.box [.d (.int .i64), .d .str, .d (.int .i64), .d .bool, .d (.int .i64), .d .str, .d (.sl (.st 1)), .d (.sl .str), .d (.sl (.st 0))]))] (fun h => mastref2_eachCond.l3 k h.1 h.2.1 h.2.2.1 h.2.2.2.1 h.2.2.2.2.1 h.2.2.2.2.2.1 h.2.2.2.2.2.2.1 h.2.2.2.2.2.2.2.1 h.2.2.2.2.2.2.2.2.1)), (4, labOf sg [(119, (.d (.sl (.st 0)))), (120, (.d (.int .i64))), (121, (.d (.int .i64)))] (fun h => mastref2_eachCond.l4 k h.1 h.2.1 h.2.2.1))]
theorem mastref2_eachCond.l0_eq (k : Nat) (x1_0 : Int) (x1_1 : ByteArray) (x1_2 : Int) (x1_3 : Bool) (x1_4 : Int) (x1_5 : ByteArray) (x1_6 : (List T_api_Value)) (x1_7 : (List ByteArray)) (x1_8 : (List T_list_Cond)) (x3 : Bool) (x27 : Bool) : mastref2_eachCond.l0 (k + 1) x1_0 x1_1 x1_2 x1_3 x1_4 x1_5 x1_6 x1_7 x1_8 x3 x27 = runFrom (C := ctx) (mastref2_eachCond.O k) ⟨131, [], []⟩ (mastref2_eachCond.L k) (Tryd.f44.body.getD .skip) mastref2_eachCond.a 0 (endK ctx [(.int .i64)] [(.tmp 2)]) (encD [(1, (.box [.d (.int .i64), .d .str, .d (.int .i64), .d .bool, .d (.int .i64), .d .str, .d (.sl (.st 1)), .d (.sl .str), .d (.sl (.st 0))])), (3, (.d .bool)), (27, (.d .bool))] (x1_0, x1_1, x1_2, x1_3, x1_4, x1_5, x1_6, x1_7, x1_8, x3, x27, ()) (startD sg.U ⟨131, [], []⟩ [(1, (.box [.d (.int .i64), .d .str, .d (.int .i64), .d .bool, .d (.int .i64), .d .str, .d (.sl (.st 1)), .d (.sl .str), .d (.sl (.st 0))])), (3, (.d .bool)), (27, (.d .bool))])) := by
  rw [mastref2_eachCond.l0]
  kernel_rfl
theorem mastref2_eachCond.l1_eq (k : Nat) (x1_0 : Int) (x1_1 : ByteArray) (x1_2 : Int) (x1_3 : Bool) (x1_4 : Int) (x1_5 : ByteArray) (x1_6 : (List T_api_Value)) (x1_7 : (List ByteArray)) (x1_8 : (List T_list_Cond)) (x53 : Bool) : mastref2_eachCond.l1 (k + 1) x1_0 x1_1 x1_2 x1_3 x1_4 x1_5 x1_6 x1_7 x1_8 x53 = runFrom (C := ctx) (mastref2_eachCond.O k) ⟨131, [], []⟩ (mastref2_eachCond.L k) (Tryd.f44.body.getD .skip) mastref2_eachCond.a 1 (endK ctx [(.int .i64)] [(.tmp 2)]) (encD [(1, (.box [.d (.int .i64), .d .str, .d (.int .i64), .d .bool, .d (.int .i64), .d .str, .d (.sl (.st 1)), .d (.sl .str), .d (.sl (.st 0))])), (53, (.d .bool))] (x1_0, x1_1, x1_2, x1_3, x1_4, x1_5, x1_6, x1_7, x1_8, x53, ()) (startD sg.U ⟨131, [], []⟩ [(1, (.box [.d (.int .i64), .d .str, .d (.int .i64), .d .bool, .d (.int .i64), .d .str, .d (.sl (.st 1)), .d (.sl .str), .d (.sl (.st 0))])), (53, (.d .bool))])) := by
  rw [mastref2_eachCond.l1]
  kernel_rfl
theorem mastref2_eachCond.l2_eq (k : Nat) (x1_0 : Int) (x1_1 : ByteArray) (x1_2 : Int) (x1_3 : Bool) (x1_4 : Int) (x1_5 : ByteArray) (x1_6 : (List T_api_Value)) (x1_7 : (List ByteArray)) (x1_8 : (List T_list_Cond)) : mastref2_eachCond.l2 (k + 1) x1_0 x1_1 x1_2 x1_3 x1_4 x1_5 x1_6 x1_7 x1_8 = runFrom (C := ctx) (mastref2_eachCond.O k) ⟨131, [], []⟩ (mastref2_eachCond.L k) (Tryd.f44.body.getD .skip) mastref2_eachCond.a 2 (endK ctx [(.int .i64)] [(.tmp 2)]) (encD [(1, (.box [.d (.int .i64), .d .str, .d (.int .i64), .d .bool, .d (.int .i64), .d .str, .d (.sl (.st 1)), .d (.sl .str), .d (.sl (.st 0))]))] (x1_0, x1_1, x1_2, x1_3, x1_4, x1_5, x1_6, x1_7, x1_8, ()) (startD sg.U ⟨131, [], []⟩ [(1, (.box [.d (.int .i64), .d .str, .d (.int .i64), .d .bool, .d (.int .i64), .d .str, .d (.sl (.st 1)), .d (.sl .str), .d (.sl (.st 0))]))])) := by
  rw [mastref2_eachCond.l2]
  kernel_rfl
theorem mastref2_eachCond.l3_eq (k : Nat) (x1_0 : Int) (x1_1 : ByteArray) (x1_2 : Int) (x1_3 : Bool) (x1_4 : Int) (x1_5 : ByteArray) (x1_6 : (List T_api_Value)) (x1_7 : (List ByteArray)) (x1_8 : (List T_list_Cond)) : mastref2_eachCond.l3 (k + 1) x1_0 x1_1 x1_2 x1_3 x1_4 x1_5 x1_6 x1_7 x1_8 = runFrom (C := ctx) (mastref2_eachCond.O k) ⟨131, [], []⟩ (mastref2_eachCond.L k) (Tryd.f44.body.getD .skip) mastref2_eachCond.a 3 (endK ctx [(.int .i64)] [(.tmp 2)]) (encD [(1, (.box [.d (.int .i64), .d .str, .d (.int .i64), .d .bool, .d (.int .i64), .d .str, .d (.sl (.st 1)), .d (.sl .str), .d (.sl (.st 0))]))] (x1_0, x1_1, x1_2, x1_3, x1_4, x1_5, x1_6, x1_7, x1_8, ()) (startD sg.U ⟨131, [], []⟩ [(1, (.box [.d (.int .i64), .d .str, .d (.int .i64), .d .bool, .d (.int .i64), .d .str, .d (.sl (.st 1)), .d (.sl .str), .d (.sl (.st 0))]))])) := by
  rw [mastref2_eachCond.l3]
  kernel_rfl
theorem mastref2_eachCond.l4_eq (k : Nat) (x119 : (List T_list_Cond)) (x120 : Int) (x121 : Int) : mastref2_eachCond.l4 (k + 1) x119 x120 x121 = runFrom (C := ctx) (mastref2_eachCond.O k) ⟨131, [], []⟩ (mastref2_eachCond.L k) (Tryd.f44.body.getD .skip) mastref2_eachCond.a 4 (endK ctx [(.int .i64)] [(.tmp 2)]) (encD [(119, (.d (.sl (.st 0)))), (120, (.d (.int .i64))), (121, (.d (.int .i64)))] (x119, x120, x121, ()) (startD sg.U ⟨131, [], []⟩ [(119, (.d (.sl (.st 0)))), (120, (.d (.int .i64))), (121, (.d (.int .i64)))])) := by
  rw [mastref2_eachCond.l4]
  kernel_rfl
theorem mastref2_eachCond.f_eq (k : Nat) (a0 : T_list_Cond) : mastref2_eachCond.f (k + 1) a0 = codeK (C := ctx) (mastref2_eachCond.O k) ⟨131, [], []⟩ (mastref2_eachCond.L k) (Tryd.f44.body.getD .skip) mastref2_eachCond.a (endK ctx [(.int .i64)] [(.tmp 2)]) (slotsOf sg.U 0 [(.d (.st 0))] (a0, ()) (empty sg.U)) := by
  rw [mastref2_eachCond.f]
  kernel_rfl
def mastref2_eachCond.T : List (Lb sg (RT sg.U [(.int .i64)])) := [⟨0, [(1, (.box [.d (.int .i64), .d .str, .d (.int .i64), .d .bool, .d (.int .i64), .d .str, .d (.sl (.st 1)), .d (.sl .str), .d (.sl (.st 0))])), (3, (.d .bool)), (27, (.d .bool))], fun k h => mastref2_eachCond.l0 k h.1 h.2.1 h.2.2.1 h.2.2.2.1 h.2.2.2.2.1 h.2.2.2.2.2.1 h.2.2.2.2.2.2.1 h.2.2.2.2.2.2.2.1 h.2.2.2.2.2.2.2.2.1 h.2.2.2.2.2.2.2.2.2.1 h.2.2.2.2.2.2.2.2.2.2.1⟩, ⟨1, [(1, (.box [.d (.int .i64), .d .str, .d (.int .i64), .d .bool, .d (.int .i64), .d .str, .d (.sl (.st 1)), .d (.sl .str), .d (.sl (.st 0))])), (53, (.d .bool))], fun k h => mastref2_eachCond.l1 k h.1 h.2.1 h.2.2.1 h.2.2.2.1 h.2.2.2.2.1 h.2.2.2.2.2.1 h.2.2.2.2.2.2.1 h.2.2.2.2.2.2.2.1 h.2.2.2.2.2.2.2.2.1 h.2.2.2.2.2.2.2.2.2.1⟩, ⟨2, [(1, (.box [.d (.int .i64), .d .str, .d (.int .i64), .d .bool, .d (.int .i64), .d .str, .d (.sl (.st 1)), .d (.sl .str), .d (.sl (.st 0))]))], fun k h => mastref2_eachCond.l2 k h.1 h.2.1 h.2.2.1 h.2.2.2.1 h.2.2.2.2.1 h.2.2.2.2.2.1 h.2.2.2.2.2.2.1 h.2.2.2.2.2.2.2.1 h.2.2.2.2.2.2.2.2.1⟩, ⟨3, [(1, (.box [.d (.int .i64), .d .str, .d (.int .i64), .d .bool, .d (.int .i64), .d .str, .d (.sl (.st 1)), .d (.sl .str), .d (.sl (.st 0))]))], fun k h => mastref2_eachCond.l3 k h.1 h.2.1 h.2.2.1 h.2.2.2.1 h.2.2.2.2.1 h.2.2.2.2.2.1 h.2.2.2.2.2.2.1 h.2.2.2.2.2.2.2.1 h.2.2.2.2.2.2.2.2.1⟩, ⟨4, [(119, (.d (.sl (.st 0)))), (120, (.d (.int .i64))), (121, (.d (.int .i64)))], fun k h => mastref2_eachCond.l4 k h.1 h.2.1 h.2.2.1⟩]
theorem mastref2_eachCond.ok : ∀ k : Nat, (mastref2_eachCond.e k).Sound Tryd.prog ctx 44 :=
  entry_rec base_ok mo (fn := Tryd.f44) (b := (Tryd.f44.body.getD .skip)) (pm := [(.d (.st 0))]) (rs := [(.int .i64)]) (an := mastref2_eachCond.a) (N := 131) (vars := [(.tmp 2)]) Tryd.func44 (by kernel_rfl) (by kernel_rfl) (by kernel_rfl) (by kernel_rfl) (by kernel_rfl) (by kernel_rfl) (O := mastref2_eachCond.O) mastref2_eachCond.T ⟨⟨by kernel_rfl, fun _ => by first | rfl | rw [mastref2_eachCond.l0], fun k h => mastref2_eachCond.l0_eq k h.1 h.2.1 h.2.2.1 h.2.2.2.1 h.2.2.2.2.1 h.2.2.2.2.2.1 h.2.2.2.2.2.2.1 h.2.2.2.2.2.2.2.1 h.2.2.2.2.2.2.2.2.1 h.2.2.2.2.2.2.2.2.2.1 h.2.2.2.2.2.2.2.2.2.2.1⟩, ⟨⟨by kernel_rfl, fun _ => by first | rfl | rw [mastref2_eachCond.l1], fun k h => mastref2_eachCond.l1_eq k h.1 h.2.1 h.2.2.1 h.2.2.2.1 h.2.2.2.2.1 h.2.2.2.2.2.1 h.2.2.2.2.2.2.1 h.2.2.2.2.2.2.2.1 h.2.2.2.2.2.2.2.2.1 h.2.2.2.2.2.2.2.2.2.1⟩, ⟨⟨by kernel_rfl, fun _ => by first | rfl | rw [mastref2_eachCond.l2], fun k h => mastref2_eachCond.l2_eq k h.1 h.2.1 h.2.2.1 h.2.2.2.1 h.2.2.2.2.1 h.2.2.2.2.2.1 h.2.2.2.2.2.2.1 h.2.2.2.2.2.2.2.1 h.2.2.2.2.2.2.2.2.1⟩, ⟨⟨by kernel_rfl, fun _ => by first | rfl | rw [mastref2_eachCond.l3], fun k h => mastref2_eachCond.l3_eq k h.1 h.2.1 h.2.2.1 h.2.2.2.1 h.2.2.2.2.1 h.2.2.2.2.2.1 h.2.2.2.2.2.2.1 h.2.2.2.2.2.2.2.1 h.2.2.2.2.2.2.2.2.1⟩, ⟨⟨by kernel_rfl, fun _ => by first | rfl | rw [mastref2_eachCond.l4], fun k h => mastref2_eachCond.l4_eq k h.1 h.2.1 h.2.2.1⟩, trivial⟩⟩⟩⟩⟩ (F := fun k h => mastref2_eachCond.f k h.1) (fun _ => by first | rfl | rw [mastref2_eachCond.f]) (fun k h => mastref2_eachCond.f_eq k h.1)
    (fun k own => by unfold mastref2_eachCond.O; exact oracle_of (P := Tryd.prog) (C := ctx) ⟨(mastref2_ConfCheck.ok k), ⟨own, ⟨(slices_ContainsFunc_list_Cond_list_Cond_at_mastref2_eachCond_c1.ok k), ⟨(mastref2_SameOf.ok k), ⟨(mastref2_RouteParts.ok k), ⟨(slices_Contains_string_string.ok k), ⟨(mastref2_valueFault.ok k), trivial⟩⟩⟩⟩⟩⟩⟩)
def mastref2_CondFault.f (k : Nat) (a0 : T_list_Cond) : Option (Int) := ((mastref2_condsOf.f k (T_list_Cond.mk a0.fOp a0.fRoute (T_api_Value.mk a0.fValue.fKind a0.fValue.fBool a0.fValue.fInt a0.fValue.fText a0.fValue.fItems a0.fValue.fKeys) a0.fKids)).bind fun y1 => (bif (ilt 200 y1.1) then (some 4) else (bif (ilt 20 y1.2) then (some 13) else ((mastref2_eachCond.f k (T_list_Cond.mk a0.fOp a0.fRoute (T_api_Value.mk a0.fValue.fKind a0.fValue.fBool a0.fValue.fInt a0.fValue.fText a0.fValue.fItems a0.fValue.fKeys) a0.fKids)).bind fun y2 => (some y2)))))
def mastref2_CondFault.O (k : Nat) : Oracle sg := fun n => lkp n [(43, mastref2_condsOf.e k), (44, mastref2_eachCond.e k)]
def mastref2_CondFault.a : Ann := .z
def mastref2_CondFault.L (k : Nat) : Nat → St sg.U → Option (RT sg.U [(.int .i64)]) := labs []
theorem mastref2_CondFault.f_eq (k : Nat) (a0 : T_list_Cond) : mastref2_CondFault.f k a0 = codeK (C := ctx) (mastref2_CondFault.O k) ⟨18, [], []⟩ (mastref2_CondFault.L k) (Tryd.f18.body.getD .skip) mastref2_CondFault.a (endK ctx [(.int .i64)] [(.tmp 2)]) (slotsOf sg.U 0 [(.d (.st 0))] (a0, ()) (empty sg.U)) := by
  unfold mastref2_CondFault.f
  kernel_rfl
def mastref2_CondFault.e (k : Nat) : Entry sg := entryOf sg [(.d (.st 0))] [(.int .i64)] (fun h => mastref2_CondFault.f k h.1)
def mastref2_CondFault.T : List (Lb sg (RT sg.U [(.int .i64)])) := []
theorem mastref2_CondFault.ok (k : Nat) : (mastref2_CondFault.e k).Sound Tryd.prog ctx 18 :=
  entry_ok base_ok mo (fn := Tryd.f18) (b := (Tryd.f18.body.getD .skip)) (pm := [(.d (.st 0))]) (rs := [(.int .i64)]) (an := mastref2_CondFault.a) (N := 18) (vars := [(.tmp 2)]) Tryd.func18 (by kernel_rfl) (by kernel_rfl) (by kernel_rfl) (by kernel_rfl) (by kernel_rfl) (by kernel_rfl) (O := mastref2_CondFault.O)
    (fun k => by unfold mastref2_CondFault.O; exact oracle_of (P := Tryd.prog) (C := ctx) ⟨(mastref2_condsOf.ok k), ⟨(mastref2_eachCond.ok k), trivial⟩⟩) mastref2_CondFault.T trivial k (fun h => mastref2_CondFault.f_eq k h.1)
def mastlaw2_CondChecks.f (k : Nat) (a0 : T_list_Cond) : Option (Bool) := ((list_CheckCond.f k (T_list_Cond.mk a0.fOp a0.fRoute (T_api_Value.mk a0.fValue.fKind a0.fValue.fBool a0.fValue.fInt a0.fValue.fText a0.fValue.fItems a0.fValue.fKeys) a0.fKids)).bind fun y1 => ((mastref2_CondFault.f k (T_list_Cond.mk a0.fOp a0.fRoute (T_api_Value.mk a0.fValue.fKind a0.fValue.fBool a0.fValue.fInt a0.fValue.fText a0.fValue.fItems a0.fValue.fKeys) a0.fKids)).bind fun y2 => (some (ieq y1 y2))))
def mastlaw2_CondChecks.O (k : Nat) : Oracle sg := fun n => lkp n [(17, list_CheckCond.e k), (18, mastref2_CondFault.e k)]
def mastlaw2_CondChecks.a : Ann := .z
def mastlaw2_CondChecks.L (k : Nat) : Nat → St sg.U → Option (RT sg.U [.bool]) := labs []
theorem mastlaw2_CondChecks.f_eq (k : Nat) (a0 : T_list_Cond) : mastlaw2_CondChecks.f k a0 = codeK (C := ctx) (mastlaw2_CondChecks.O k) ⟨8, [], []⟩ (mastlaw2_CondChecks.L k) (Tryd.f7.body.getD .skip) mastlaw2_CondChecks.a (endK ctx [.bool] [(.tmp 2)]) (slotsOf sg.U 0 [(.d (.st 0))] (a0, ()) (empty sg.U)) := by
  unfold mastlaw2_CondChecks.f
  kernel_rfl
def mastlaw2_CondChecks.e (k : Nat) : Entry sg := entryOf sg [(.d (.st 0))] [.bool] (fun h => mastlaw2_CondChecks.f k h.1)
def mastlaw2_CondChecks.T : List (Lb sg (RT sg.U [.bool])) := []
theorem mastlaw2_CondChecks.ok (k : Nat) : (mastlaw2_CondChecks.e k).Sound Tryd.prog ctx 7 :=
  entry_ok base_ok mo (fn := Tryd.f7) (b := (Tryd.f7.body.getD .skip)) (pm := [(.d (.st 0))]) (rs := [.bool]) (an := mastlaw2_CondChecks.a) (N := 8) (vars := [(.tmp 2)]) Tryd.func7 (by kernel_rfl) (by kernel_rfl) (by kernel_rfl) (by kernel_rfl) (by kernel_rfl) (by kernel_rfl) (O := mastlaw2_CondChecks.O)
    (fun k => by unfold mastlaw2_CondChecks.O; exact oracle_of (P := Tryd.prog) (C := ctx) ⟨(list_CheckCond.ok k), ⟨(mastref2_CondFault.ok k), trivial⟩⟩) mastlaw2_CondChecks.T trivial k (fun h => mastlaw2_CondChecks.f_eq k h.1)
end Go.Proofs.YtdffbjbpolhliaaDoor.LCondChecks
