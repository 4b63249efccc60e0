/- The functions behind the law DayReads, checked against the code; their summaries hold. Conditions: none. -/
import Derived.Test.YtibnepagledbjaaDoorLiftZ
import Derived.Test.YtibnepagledbjaaDoorProg
import Derived.Test.YtibnepagledbjaaDoorShelf
import Derived.Shelf.Strings.SlTrimAscii
namespace Go.Proofs.YtibnepagledbjaaDoor.LDayReads
open Go Go.Proofs.YtibnepagledbjaaDoor.Lift
set_option maxRecDepth 100000
set_option linter.unusedVariables false
abbrev sgU : Nat → Type
  | _ => Unit
abbrev sgF : Nat → List Ty
  | _ => []
def sgO : (n : Nat) → sgU n → HL sgU (sgF n)
  | _, _ => ()
def sgB : (n : Nat) → HL sgU (sgF n) → sgU n
  | _, _ => ()
def sg : Sg := { U := sgU, fl := sgF, out := sgO, bld := sgB }
def ctx : Ctx := { S := sg, ty := [(3, .d (.int .i64) 1 0), (5, .d (.int .u8) 1 0), (9, .d .str 1 0), (22, .d (.int .i64) 1 0), (38, .a (.int .i64) 3 3), (86, .d (.sl (.int .i64)) 8 3)], eqs := [] }
def c_empty : ByteArray := ⟨#[]⟩
def c_0123456789 : ByteArray := ⟨#[48, 49, 50, 51, 52, 53, 54, 55, 56, 57]⟩
theorem sg_ok : SgOk sg :=
  ⟨fun n h => by rcases n with n <;> rfl, fun n => by rcases n with n <;> rfl, fun n x => by rcases n with n <;> rfl, fun n => by rcases n with n <;> rfl⟩
theorem base_ok : Base Tryd.prog ctx := base_of sg_ok (by kernel_rfl) (eqOk_of (by kernel_rfl))
theorem open_ok : openB Tryd.prog ctx = true := by kernel_rfl
theorem mo : Tryd.prog.follows .mixedOrders = true := by kernel_rfl
def conf_isDigit.f (a0 : Int) : Option (Bool) := (some (bif (ile 48 a0) then (ile a0 57) else false))
def conf_isDigit.O : Oracle sg := fun n => lkp n []
def conf_isDigit.a : Ann := .z
def conf_isDigit.L : Nat → St sg.U → Option (RT sg.U [.bool]) := labs []
theorem conf_isDigit.f_eq (a0 : Int) : conf_isDigit.f a0 = codeK (C := ctx) (conf_isDigit.O) ⟨9, [], []⟩ (conf_isDigit.L) (Tryd.f13.body.getD .skip) conf_isDigit.a (endK ctx [.bool] [(.tmp 2)]) (slotsOf sg.U 0 [(.d (.int .u8))] (a0, ()) (empty sg.U)) := by
  unfold conf_isDigit.f
  kernel_rfl
def conf_isDigit.e : Entry sg := entryOf sg [(.d (.int .u8))] [.bool] (fun h => conf_isDigit.f h.1)
def conf_isDigit.T : List (Lb sg (RT sg.U [.bool])) := []
theorem conf_isDigit.ok : (conf_isDigit.e).Sound Tryd.prog ctx 13 :=
  entry_ok base_ok mo (fn := Tryd.f13) (b := (Tryd.f13.body.getD .skip)) (pm := [(.d (.int .u8))]) (rs := [.bool]) (an := conf_isDigit.a) (N := 9) (vars := [(.tmp 2)]) Tryd.func13 (by kernel_rfl) (by kernel_rfl) (by kernel_rfl) (by kernel_rfl) (by kernel_rfl) (by kernel_rfl) (O := fun _ => conf_isDigit.O)
    (fun _ => by unfold conf_isDigit.O; exact oracle_of (P := Tryd.prog) (C := ctx) trivial) conf_isDigit.T trivial 0 (fun h => conf_isDigit.f_eq h.1)
def conf_leap.f (a0 : Int) : Option (Bool) := (bif (ieq (irem a0 4) 0) then (bif (!ieq (irem a0 100) 0) then (some true) else (some (ieq (irem a0 400) 0))) else (some false))
def conf_leap.O : Oracle sg := fun n => lkp n []
def conf_leap.a : Ann := .z
def conf_leap.L : Nat → St sg.U → Option (RT sg.U [.bool]) := labs []
theorem conf_leap.f_eq (a0 : Int) : conf_leap.f a0 = codeK (C := ctx) (conf_leap.O) ⟨16, [], []⟩ (conf_leap.L) (Tryd.f74.body.getD .skip) conf_leap.a (endK ctx [.bool] [(.tmp 2)]) (slotsOf sg.U 0 [(.d (.int .i64))] (a0, ()) (empty sg.U)) := by
  unfold conf_leap.f
  kernel_rfl
def conf_leap.e : Entry sg := entryOf sg [(.d (.int .i64))] [.bool] (fun h => conf_leap.f h.1)
def conf_leap.T : List (Lb sg (RT sg.U [.bool])) := []
theorem conf_leap.ok : (conf_leap.e).Sound Tryd.prog ctx 74 :=
  entry_ok base_ok mo (fn := Tryd.f74) (b := (Tryd.f74.body.getD .skip)) (pm := [(.d (.int .i64))]) (rs := [.bool]) (an := conf_leap.a) (N := 16) (vars := [(.tmp 2)]) Tryd.func74 (by kernel_rfl) (by kernel_rfl) (by kernel_rfl) (by kernel_rfl) (by kernel_rfl) (by kernel_rfl) (O := fun _ => conf_leap.O)
    (fun _ => by unfold conf_leap.O; exact oracle_of (P := Tryd.prog) (C := ctx) trivial) conf_leap.T trivial 0 (fun h => conf_leap.f_eq h.1)
def conf_monthDays.f (a0 : Int) (a1 : Int) : Option (Int) := (bif (ieq a1 2) then ((conf_leap.f a0).bind fun y1 => (bif y1 then (some 29) else (some 28))) else (bif (ieq a1 4) then (some 30) else (bif (ieq a1 6) then (some 30) else (bif (ieq a1 9) then (some 30) else (bif (ieq a1 11) then (some 30) else (some 31))))))
def conf_monthDays.O : Oracle sg := fun n => lkp n [(74, conf_leap.e)]
def conf_monthDays.a : Ann := .z
def conf_monthDays.L : Nat → St sg.U → Option (RT sg.U [(.int .i64)]) := labs []
theorem conf_monthDays.f_eq (a0 : Int) (a1 : Int) : conf_monthDays.f a0 a1 = codeK (C := ctx) (conf_monthDays.O) ⟨15, [], []⟩ (conf_monthDays.L) (Tryd.f51.body.getD .skip) conf_monthDays.a (endK ctx [(.int .i64)] [(.tmp 4)]) (slotsOf sg.U 0 [(.d (.int .i64)), (.d (.int .i64))] (a0, a1, ()) (empty sg.U)) := by
  unfold conf_monthDays.f
  kernel_rfl
def conf_monthDays.e : Entry sg := entryOf sg [(.d (.int .i64)), (.d (.int .i64))] [(.int .i64)] (fun h => conf_monthDays.f h.1 h.2.1)
def conf_monthDays.T : List (Lb sg (RT sg.U [(.int .i64)])) := []
theorem conf_monthDays.ok : (conf_monthDays.e).Sound Tryd.prog ctx 51 :=
  entry_ok base_ok mo (fn := Tryd.f51) (b := (Tryd.f51.body.getD .skip)) (pm := [(.d (.int .i64)), (.d (.int .i64))]) (rs := [(.int .i64)]) (an := conf_monthDays.a) (N := 15) (vars := [(.tmp 4)]) Tryd.func51 (by kernel_rfl) (by kernel_rfl) (by kernel_rfl) (by kernel_rfl) (by kernel_rfl) (by kernel_rfl) (O := fun _ => conf_monthDays.O)
    (fun _ => by unfold conf_monthDays.O; exact oracle_of (P := Tryd.prog) (C := ctx) ⟨(conf_leap.ok), trivial⟩) conf_monthDays.T trivial 0 (fun h => conf_monthDays.f_eq h.1 h.2.1)
def conf_before.f (a0 : Int) : Option (Int) := (some (wsub .i64 (wadd .i64 (wsub .i64 (wadd .i64 (wmul .i64 365 (wsub .i64 a0 1970)) (wquo .i64 (wsub .i64 a0 1) 4)) (wquo .i64 (wsub .i64 a0 1) 100)) (wquo .i64 (wsub .i64 a0 1) 400)) 477))
def conf_before.O : Oracle sg := fun n => lkp n []
def conf_before.a : Ann := .z
def conf_before.L : Nat → St sg.U → Option (RT sg.U [(.int .i64)]) := labs []
theorem conf_before.f_eq (a0 : Int) : conf_before.f a0 = codeK (C := ctx) (conf_before.O) ⟨19, [], []⟩ (conf_before.L) (Tryd.f52.body.getD .skip) conf_before.a (endK ctx [(.int .i64)] [(.tmp 2)]) (slotsOf sg.U 0 [(.d (.int .i64))] (a0, ()) (empty sg.U)) := by
  unfold conf_before.f
  kernel_rfl
def conf_before.e : Entry sg := entryOf sg [(.d (.int .i64))] [(.int .i64)] (fun h => conf_before.f h.1)
def conf_before.T : List (Lb sg (RT sg.U [(.int .i64)])) := []
theorem conf_before.ok : (conf_before.e).Sound Tryd.prog ctx 52 :=
  entry_ok base_ok mo (fn := Tryd.f52) (b := (Tryd.f52.body.getD .skip)) (pm := [(.d (.int .i64))]) (rs := [(.int .i64)]) (an := conf_before.a) (N := 19) (vars := [(.tmp 2)]) Tryd.func52 (by kernel_rfl) (by kernel_rfl) (by kernel_rfl) (by kernel_rfl) (by kernel_rfl) (by kernel_rfl) (O := fun _ => conf_before.O)
    (fun _ => by unfold conf_before.O; exact oracle_of (P := Tryd.prog) (C := ctx) trivial) conf_before.T trivial 0 (fun h => conf_before.f_eq h.1)
def conf_dayOf.l0 : Nat → Int → Int → Int → Int → Option (Int × Bool)
  | 0, _, _, _, _ => none
  | k + 1, x0, x1, x8, x9 => (bif (ilt x9 x1) then ((conf_monthDays.f x0 x9).bind fun y3 => (conf_dayOf.l0 k x0 x1 (wadd .i64 x8 y3) (wadd .i64 x9 1))) else (some (x8, true)))
def conf_dayOf.f (k : Nat) (a0 : Int) (a1 : Int) (a2 : Int) : Option (Int × Bool) := (bif (bif (bif (bif (bif (ilt a0 1970) then true else (ilt 2199 a0)) then true else (ilt a1 1)) then true else (ilt 12 a1)) then true else (ilt a2 1)) then (some (0, false)) else ((conf_monthDays.f a0 a1).bind fun y1 => (bif (ilt y1 a2) then (some (0, false)) else ((conf_before.f a0).bind fun y2 => (conf_dayOf.l0 k a0 a1 (wsub .i64 (wadd .i64 y2 a2) 1) 1)))))
def conf_dayOf.O (k : Nat) : Oracle sg := fun n => lkp n [(51, conf_monthDays.e), (52, conf_before.e)]
def conf_dayOf.a : Ann := (.n .z (.n .z (.n .z (.n (.n .z (.lp 0 .z)) .z))))
def conf_dayOf.L (k : Nat) : Nat → St sg.U → Option (RT sg.U [(.int .i64), .bool]) := labs [(0, labOf sg [(0, (.d (.int .i64))), (1, (.d (.int .i64))), (8, (.d (.int .i64))), (9, (.d (.int .i64)))] (fun h => conf_dayOf.l0 k h.1 h.2.1 h.2.2.1 h.2.2.2.1))]
theorem conf_dayOf.l0_eq (k : Nat) (x0 : Int) (x1 : Int) (x8 : Int) (x9 : Int) : conf_dayOf.l0 (k + 1) x0 x1 x8 x9 = runFrom (C := ctx) (conf_dayOf.O k) ⟨51, [], []⟩ (conf_dayOf.L k) (Tryd.f26.body.getD .skip) conf_dayOf.a 0 (endK ctx [(.int .i64), .bool] [(.tmp 6), (.tmp 7)]) (encD [(0, (.d (.int .i64))), (1, (.d (.int .i64))), (8, (.d (.int .i64))), (9, (.d (.int .i64)))] (x0, x1, x8, x9, ()) (startD sg.U ⟨51, [], []⟩ [(0, (.d (.int .i64))), (1, (.d (.int .i64))), (8, (.d (.int .i64))), (9, (.d (.int .i64)))])) := by
  rw [conf_dayOf.l0]
  kernel_rfl
theorem conf_dayOf.f_eq (k : Nat) (a0 : Int) (a1 : Int) (a2 : Int) : conf_dayOf.f k a0 a1 a2 = codeK (C := ctx) (conf_dayOf.O k) ⟨51, [], []⟩ (conf_dayOf.L k) (Tryd.f26.body.getD .skip) conf_dayOf.a (endK ctx [(.int .i64), .bool] [(.tmp 6), (.tmp 7)]) (slotsOf sg.U 0 [(.d (.int .i64)), (.d (.int .i64)), (.d (.int .i64))] (a0, a1, a2, ()) (empty sg.U)) := by
  unfold conf_dayOf.f
  kernel_rfl
def conf_dayOf.e (k : Nat) : Entry sg := entryOf sg [(.d (.int .i64)), (.d (.int .i64)), (.d (.int .i64))] [(.int .i64), .bool] (fun h => conf_dayOf.f k h.1 h.2.1 h.2.2.1)
def conf_dayOf.T : List (Lb sg (RT sg.U [(.int .i64), .bool])) := [⟨0, [(0, (.d (.int .i64))), (1, (.d (.int .i64))), (8, (.d (.int .i64))), (9, (.d (.int .i64)))], fun k h => conf_dayOf.l0 k h.1 h.2.1 h.2.2.1 h.2.2.2.1⟩]
theorem conf_dayOf.ok (k : Nat) : (conf_dayOf.e k).Sound Tryd.prog ctx 26 :=
  entry_ok base_ok mo (fn := Tryd.f26) (b := (Tryd.f26.body.getD .skip)) (pm := [(.d (.int .i64)), (.d (.int .i64)), (.d (.int .i64))]) (rs := [(.int .i64), .bool]) (an := conf_dayOf.a) (N := 51) (vars := [(.tmp 6), (.tmp 7)]) Tryd.func26 (by kernel_rfl) (by kernel_rfl) (by kernel_rfl) (by kernel_rfl) (by kernel_rfl) (by kernel_rfl) (O := conf_dayOf.O)
    (fun k => by unfold conf_dayOf.O; exact oracle_of (P := Tryd.prog) (C := ctx) ⟨(conf_monthDays.ok), ⟨(conf_before.ok), trivial⟩⟩) conf_dayOf.T ⟨⟨by kernel_rfl, fun _ => by first | rfl | rw [conf_dayOf.l0], fun k h => conf_dayOf.l0_eq k h.1 h.2.1 h.2.2.1 h.2.2.2.1⟩, trivial⟩ k (fun h => conf_dayOf.f_eq k h.1 h.2.1 h.2.2.1)
def conf_DayOf.f (k : Nat) (a0 : Int) (a1 : Int) (a2 : Int) : Option (Int × Int) := ((conf_dayOf.f k a0 a1 a2).bind fun y1 => (bif (!y1.2) then (some (0, 2)) else (some (y1.1, 0))))
def conf_DayOf.O (k : Nat) : Oracle sg := fun n => lkp n [(26, conf_dayOf.e k)]
def conf_DayOf.a : Ann := .z
def conf_DayOf.L (k : Nat) : Nat → St sg.U → Option (RT sg.U [(.int .i64), (.int .i64)]) := labs []
theorem conf_DayOf.f_eq (k : Nat) (a0 : Int) (a1 : Int) (a2 : Int) : conf_DayOf.f k a0 a1 a2 = codeK (C := ctx) (conf_DayOf.O k) ⟨20, [], []⟩ (conf_DayOf.L k) (Tryd.f14.body.getD .skip) conf_DayOf.a (endK ctx [(.int .i64), (.int .i64)] [(.tmp 6), (.tmp 7)]) (slotsOf sg.U 0 [(.d (.int .i64)), (.d (.int .i64)), (.d (.int .i64))] (a0, a1, a2, ()) (empty sg.U)) := by
  unfold conf_DayOf.f
  kernel_rfl
def conf_DayOf.e (k : Nat) : Entry sg := entryOf sg [(.d (.int .i64)), (.d (.int .i64)), (.d (.int .i64))] [(.int .i64), (.int .i64)] (fun h => conf_DayOf.f k h.1 h.2.1 h.2.2.1)
def conf_DayOf.T : List (Lb sg (RT sg.U [(.int .i64), (.int .i64)])) := []
theorem conf_DayOf.ok (k : Nat) : (conf_DayOf.e k).Sound Tryd.prog ctx 14 :=
  entry_ok base_ok mo (fn := Tryd.f14) (b := (Tryd.f14.body.getD .skip)) (pm := [(.d (.int .i64)), (.d (.int .i64)), (.d (.int .i64))]) (rs := [(.int .i64), (.int .i64)]) (an := conf_DayOf.a) (N := 20) (vars := [(.tmp 6), (.tmp 7)]) Tryd.func14 (by kernel_rfl) (by kernel_rfl) (by kernel_rfl) (by kernel_rfl) (by kernel_rfl) (by kernel_rfl) (O := conf_DayOf.O)
    (fun k => by unfold conf_DayOf.O; exact oracle_of (P := Tryd.prog) (C := ctx) ⟨(conf_dayOf.ok k), trivial⟩) conf_DayOf.T trivial k (fun h => conf_DayOf.f_eq k h.1 h.2.1 h.2.2.1)
def conf_ReadDay.l0 : Nat → ByteArray → Int → Int → Int → Int → Int → Option (Int × Int)
  | 0, _, _, _, _, _, _ => none
  | k + 1, x0, x4_0, x4_1, x4_2, x5, x6 => (bif (ilt x6 (slen x0)) then (bif (bif (ieq x6 4) then true else (ieq x6 7)) then (conf_ReadDay.l0 k x0 x4_0 x4_1 x4_2 (wadd .i64 x5 1) (wadd .i64 x6 1)) else ((sat x0 x6).bind fun y3 => ((conf_isDigit.f y3).bind fun y4 => (bif (!y4) then (some (0, 8)) else (bif (ieq x5 0) then ((sat x0 x6).bind fun y7 => (bif (ieq x5 0) then (conf_ReadDay.l0 k x0 (wadd .i64 (wmul .i64 10 x4_0) (wcv .i64 (wsub .u8 y7 48))) x4_1 x4_2 x5 (wadd .i64 x6 1)) else (bif (ieq x5 1) then (conf_ReadDay.l0 k x0 x4_0 (wadd .i64 (wmul .i64 10 x4_0) (wcv .i64 (wsub .u8 y7 48))) x4_2 x5 (wadd .i64 x6 1)) else (bif (ieq x5 2) then (conf_ReadDay.l0 k x0 x4_0 x4_1 (wadd .i64 (wmul .i64 10 x4_0) (wcv .i64 (wsub .u8 y7 48))) x5 (wadd .i64 x6 1)) else none)))) else (bif (ieq x5 1) then ((sat x0 x6).bind fun y6 => (bif (ieq x5 0) then (conf_ReadDay.l0 k x0 (wadd .i64 (wmul .i64 10 x4_1) (wcv .i64 (wsub .u8 y6 48))) x4_1 x4_2 x5 (wadd .i64 x6 1)) else (bif (ieq x5 1) then (conf_ReadDay.l0 k x0 x4_0 (wadd .i64 (wmul .i64 10 x4_1) (wcv .i64 (wsub .u8 y6 48))) x4_2 x5 (wadd .i64 x6 1)) else (bif (ieq x5 2) then (conf_ReadDay.l0 k x0 x4_0 x4_1 (wadd .i64 (wmul .i64 10 x4_1) (wcv .i64 (wsub .u8 y6 48))) x5 (wadd .i64 x6 1)) else none)))) else (bif (ieq x5 2) then ((sat x0 x6).bind fun y5 => (bif (ieq x5 0) then (conf_ReadDay.l0 k x0 (wadd .i64 (wmul .i64 10 x4_2) (wcv .i64 (wsub .u8 y5 48))) x4_1 x4_2 x5 (wadd .i64 x6 1)) else (bif (ieq x5 1) then (conf_ReadDay.l0 k x0 x4_0 (wadd .i64 (wmul .i64 10 x4_2) (wcv .i64 (wsub .u8 y5 48))) x4_2 x5 (wadd .i64 x6 1)) else (bif (ieq x5 2) then (conf_ReadDay.l0 k x0 x4_0 x4_1 (wadd .i64 (wmul .i64 10 x4_2) (wcv .i64 (wsub .u8 y5 48))) x5 (wadd .i64 x6 1)) else none)))) else none))))))) else ((conf_DayOf.f k x4_0 x4_1 x4_2).bind fun y8 => (some (y8.1, y8.2))))
def conf_ReadDay.f (k : Nat) (a0 : ByteArray) : Option (Int × Int) := (bif (!ieq (slen a0) 10) then (some (0, 8)) else ((sat a0 4).bind fun y1 => (bif (!ieq y1 45) then (some (0, 8)) else ((sat a0 7).bind fun y2 => (bif (!ieq y2 45) then (some (0, 8)) else (conf_ReadDay.l0 k a0 0 0 0 0 0))))))
def conf_ReadDay.O (k : Nat) : Oracle sg := fun n => lkp n [(13, conf_isDigit.e), (14, conf_DayOf.e k)]
def conf_ReadDay.a : Ann := (.n .z (.n .z (.n .z (.n .z (.n (.n .z (.lp 0 .z)) .z)))))
def conf_ReadDay.L (k : Nat) : Nat → St sg.U → Option (RT sg.U [(.int .i64), (.int .i64)]) := labs [(0, labOf sg [(0, (.d .str)), (4, (.box [.d (.int .i64), .d (.int .i64), .d (.int .i64)])), (5, (.d (.int .i64))), (6, (.d (.int .i64)))] (fun h => conf_ReadDay.l0 k h.1 h.2.1 h.2.2.1 h.2.2.2.1 h.2.2.2.2.1 h.2.2.2.2.2.1))]
theorem conf_ReadDay.l0_eq (k : Nat) (x0 : ByteArray) (x4_0 : Int) (x4_1 : Int) (x4_2 : Int) (x5 : Int) (x6 : Int) : conf_ReadDay.l0 (k + 1) x0 x4_0 x4_1 x4_2 x5 x6 = runFrom (C := ctx) (conf_ReadDay.O k) ⟨62, [], []⟩ (conf_ReadDay.L k) (Tryd.f6.body.getD .skip) conf_ReadDay.a 0 (endK ctx [(.int .i64), (.int .i64)] [(.tmp 2), (.tmp 3)]) (encD [(0, (.d .str)), (4, (.box [.d (.int .i64), .d (.int .i64), .d (.int .i64)])), (5, (.d (.int .i64))), (6, (.d (.int .i64)))] (x0, x4_0, x4_1, x4_2, x5, x6, ()) (startD sg.U ⟨62, [], []⟩ [(0, (.d .str)), (4, (.box [.d (.int .i64), .d (.int .i64), .d (.int .i64)])), (5, (.d (.int .i64))), (6, (.d (.int .i64)))])) := by
  rw [conf_ReadDay.l0]
  kernel_rfl
theorem conf_ReadDay.f_eq (k : Nat) (a0 : ByteArray) : conf_ReadDay.f k a0 = codeK (C := ctx) (conf_ReadDay.O k) ⟨62, [], []⟩ (conf_ReadDay.L k) (Tryd.f6.body.getD .skip) conf_ReadDay.a (endK ctx [(.int .i64), (.int .i64)] [(.tmp 2), (.tmp 3)]) (slotsOf sg.U 0 [(.d .str)] (a0, ()) (empty sg.U)) := by
  unfold conf_ReadDay.f
  kernel_rfl
def conf_ReadDay.e (k : Nat) : Entry sg := entryOf sg [(.d .str)] [(.int .i64), (.int .i64)] (fun h => conf_ReadDay.f k h.1)
def conf_ReadDay.T : List (Lb sg (RT sg.U [(.int .i64), (.int .i64)])) := [⟨0, [(0, (.d .str)), (4, (.box [.d (.int .i64), .d (.int .i64), .d (.int .i64)])), (5, (.d (.int .i64))), (6, (.d (.int .i64)))], fun k h => conf_ReadDay.l0 k h.1 h.2.1 h.2.2.1 h.2.2.2.1 h.2.2.2.2.1 h.2.2.2.2.2.1⟩]
theorem conf_ReadDay.ok (k : Nat) : (conf_ReadDay.e k).Sound Tryd.prog ctx 6 :=
  entry_ok base_ok mo (fn := Tryd.f6) (b := (Tryd.f6.body.getD .skip)) (pm := [(.d .str)]) (rs := [(.int .i64), (.int .i64)]) (an := conf_ReadDay.a) (N := 62) (vars := [(.tmp 2), (.tmp 3)]) Tryd.func6 (by kernel_rfl) (by kernel_rfl) (by kernel_rfl) (by kernel_rfl) (by kernel_rfl) (by kernel_rfl) (O := conf_ReadDay.O)
    (fun k => by unfold conf_ReadDay.O; exact oracle_of (P := Tryd.prog) (C := ctx) ⟨(conf_isDigit.ok), ⟨(conf_DayOf.ok k), trivial⟩⟩) conf_ReadDay.T ⟨⟨by kernel_rfl, fun _ => by first | rfl | rw [conf_ReadDay.l0], fun k h => conf_ReadDay.l0_eq k h.1 h.2.1 h.2.2.1 h.2.2.2.1 h.2.2.2.2.1 h.2.2.2.2.2.1⟩, trivial⟩ k (fun h => conf_ReadDay.f_eq k h.1)
def strings_Trim.f (a0 : ByteArray) (a1 : ByteArray) : Option (ByteArray) := if a0.size ≤ 9223372036854775807 ∧ a1.size < 4294967281 ∧ (a1.data.toList.all fun b => decide (b.toNat < 128)) = true then some (⟨(Lib.trimS a0.data.toList a1.data.toList).toArray⟩) else none
def strings_Trim.e : Entry sg := entryOf sg [(.d .str), (.d .str)] [.str] (fun h => strings_Trim.f h.1 h.2.1)
theorem strings_Trim.ok : (strings_Trim.e).Sound Tryd.prog ctx 53 :=
  entry_extern (C := ctx) sg_ok Tryd.func53 (by kernel_rfl) (by kernel_rfl) (by kernel_rfl) (by kernel_rfl) (fun hh x w hx hG => by
    unfold strings_Trim.f at hx
    split at hx
    · rename_i c
      obtain rfl := Option.some.inj hx
      refine (Any.strings_Trim_laid Tryd.lays160 (by kernel_rfl) hh.1 hh.2.1 w c.1 c.2.1 (ascii_of_all c.2.2)).mono ?_
      rintro e w' ⟨rfl, hb⟩
      exact ⟨rfl, by first | exact hb ▸ Grow.refl _ | exact Grow.of_below hb | (obtain ⟨k, os, rfl⟩ := hb; exact Grow.of_below (Lib.below_grow _ w (Nat.le_refl _) k os))⟩
    · cases hx)
def mastref2_digitsAlone.f (a0 : ByteArray) : Option (Bool) := (bif (!seq a0 c_empty) then ((strings_Trim.f a0 c_0123456789).bind fun y1 => (some (seq y1 c_empty))) else (some false))
def mastref2_digitsAlone.O : Oracle sg := fun n => lkp n [(53, strings_Trim.e)]
def mastref2_digitsAlone.a : Ann := .z
def mastref2_digitsAlone.L : Nat → St sg.U → Option (RT sg.U [.bool]) := labs []
theorem mastref2_digitsAlone.f_eq (a0 : ByteArray) : mastref2_digitsAlone.f a0 = codeK (C := ctx) (mastref2_digitsAlone.O) ⟨10, [], []⟩ (mastref2_digitsAlone.L) (Tryd.f27.body.getD .skip) mastref2_digitsAlone.a (endK ctx [.bool] [(.tmp 2)]) (slotsOf sg.U 0 [(.d .str)] (a0, ()) (empty sg.U)) := by
  unfold mastref2_digitsAlone.f
  kernel_rfl
def mastref2_digitsAlone.e : Entry sg := entryOf sg [(.d .str)] [.bool] (fun h => mastref2_digitsAlone.f h.1)
def mastref2_digitsAlone.T : List (Lb sg (RT sg.U [.bool])) := []
theorem mastref2_digitsAlone.ok : (mastref2_digitsAlone.e).Sound Tryd.prog ctx 27 :=
  entry_ok base_ok mo (fn := Tryd.f27) (b := (Tryd.f27.body.getD .skip)) (pm := [(.d .str)]) (rs := [.bool]) (an := mastref2_digitsAlone.a) (N := 10) (vars := [(.tmp 2)]) Tryd.func27 (by kernel_rfl) (by kernel_rfl) (by kernel_rfl) (by kernel_rfl) (by kernel_rfl) (by kernel_rfl) (O := fun _ => mastref2_digitsAlone.O)
    (fun _ => by unfold mastref2_digitsAlone.O; exact oracle_of (P := Tryd.prog) (C := ctx) ⟨(strings_Trim.ok), trivial⟩) mastref2_digitsAlone.T trivial 0 (fun h => mastref2_digitsAlone.f_eq h.1)
def mastref2_dayForm.f (a0 : ByteArray) : Option (Bool) := (bif (ieq (slen a0) 10) then ((sat a0 4).bind fun y1 => (bif (ieq y1 45) then ((sat a0 7).bind fun y2 => (bif (ieq y2 45) then ((ssub a0 0 4).bind fun y3 => ((ssub a0 5 7).bind fun y4 => ((scat y3 y4).bind fun y5 => ((ssub a0 8 (slen a0)).bind fun y6 => ((scat y5 y6).bind fun y7 => ((mastref2_digitsAlone.f y7).bind fun y8 => (some y8))))))) else (some false))) else (some false))) else (some false))
def mastref2_dayForm.O : Oracle sg := fun n => lkp n [(27, mastref2_digitsAlone.e)]
def mastref2_dayForm.a : Ann := .z
def mastref2_dayForm.L : Nat → St sg.U → Option (RT sg.U [.bool]) := labs []
theorem mastref2_dayForm.f_eq (a0 : ByteArray) : mastref2_dayForm.f a0 = codeK (C := ctx) (mastref2_dayForm.O) ⟨27, [], []⟩ (mastref2_dayForm.L) (Tryd.f15.body.getD .skip) mastref2_dayForm.a (endK ctx [.bool] [(.tmp 2)]) (slotsOf sg.U 0 [(.d .str)] (a0, ()) (empty sg.U)) := by
  unfold mastref2_dayForm.f
  kernel_rfl
def mastref2_dayForm.e : Entry sg := entryOf sg [(.d .str)] [.bool] (fun h => mastref2_dayForm.f h.1)
def mastref2_dayForm.T : List (Lb sg (RT sg.U [.bool])) := []
theorem mastref2_dayForm.ok : (mastref2_dayForm.e).Sound Tryd.prog ctx 15 :=
  entry_ok base_ok mo (fn := Tryd.f15) (b := (Tryd.f15.body.getD .skip)) (pm := [(.d .str)]) (rs := [.bool]) (an := mastref2_dayForm.a) (N := 27) (vars := [(.tmp 2)]) Tryd.func15 (by kernel_rfl) (by kernel_rfl) (by kernel_rfl) (by kernel_rfl) (by kernel_rfl) (by kernel_rfl) (O := fun _ => mastref2_dayForm.O)
    (fun _ => by unfold mastref2_dayForm.O; exact oracle_of (P := Tryd.prog) (C := ctx) ⟨(mastref2_digitsAlone.ok), trivial⟩) mastref2_dayForm.T trivial 0 (fun h => mastref2_dayForm.f_eq h.1)
def strconv_Atoi.f (a0 : ByteArray) : Option (Int) := atoiF a0
def strconv_Atoi.e : Entry sg := atoiE sg
theorem strconv_Atoi.ok : (strconv_Atoi.e).Sound Tryd.prog ctx 16 :=
  atoi_sound (C := ctx) sg_ok Tryd.func16 (by kernel_rfl) (by kernel_rfl) (fun s n w h1 h2 => Tryd.strconv_Atoi s n h1 h2 w)
def mastref2_floor.f (a0 : Int) (a1 : Int) : Option (Int) := (bif ieq a1 0 then none else (bif ieq a1 0 then none else (bif (ilt (irem a0 a1) 0) then (some (wsub .i64 (wquo .i64 a0 a1) 1)) else (some (wquo .i64 a0 a1)))))
def mastref2_floor.O : Oracle sg := fun n => lkp n []
def mastref2_floor.a : Ann := .z
def mastref2_floor.L : Nat → St sg.U → Option (RT sg.U [(.int .i64)]) := labs []
theorem mastref2_floor.f_eq (a0 : Int) (a1 : Int) : mastref2_floor.f a0 a1 = codeK (C := ctx) (mastref2_floor.O) ⟨16, [], []⟩ (mastref2_floor.L) (Tryd.f59.body.getD .skip) mastref2_floor.a (endK ctx [(.int .i64)] [(.tmp 4)]) (slotsOf sg.U 0 [(.d (.int .i64)), (.d (.int .i64))] (a0, a1, ()) (empty sg.U)) := by
  unfold mastref2_floor.f
  kernel_rfl
def mastref2_floor.e : Entry sg := entryOf sg [(.d (.int .i64)), (.d (.int .i64))] [(.int .i64)] (fun h => mastref2_floor.f h.1 h.2.1)
def mastref2_floor.T : List (Lb sg (RT sg.U [(.int .i64)])) := []
theorem mastref2_floor.ok : (mastref2_floor.e).Sound Tryd.prog ctx 59 :=
  entry_ok base_ok mo (fn := Tryd.f59) (b := (Tryd.f59.body.getD .skip)) (pm := [(.d (.int .i64)), (.d (.int .i64))]) (rs := [(.int .i64)]) (an := mastref2_floor.a) (N := 16) (vars := [(.tmp 4)]) Tryd.func59 (by kernel_rfl) (by kernel_rfl) (by kernel_rfl) (by kernel_rfl) (by kernel_rfl) (by kernel_rfl) (O := fun _ => mastref2_floor.O)
    (fun _ => by unfold mastref2_floor.O; exact oracle_of (P := Tryd.prog) (C := ctx) trivial) mastref2_floor.T trivial 0 (fun h => mastref2_floor.f_eq h.1 h.2.1)
def mastref2_leap.f (a0 : Int) : Option (Bool) := (bif (ieq (irem a0 4) 0) then (bif (!ieq (irem a0 100) 0) then (some true) else (some (ieq (irem a0 400) 0))) else (some false))
def mastref2_leap.O : Oracle sg := fun n => lkp n []
def mastref2_leap.a : Ann := .z
def mastref2_leap.L : Nat → St sg.U → Option (RT sg.U [.bool]) := labs []
theorem mastref2_leap.f_eq (a0 : Int) : mastref2_leap.f a0 = codeK (C := ctx) (mastref2_leap.O) ⟨16, [], []⟩ (mastref2_leap.L) (Tryd.f60.body.getD .skip) mastref2_leap.a (endK ctx [.bool] [(.tmp 2)]) (slotsOf sg.U 0 [(.d (.int .i64))] (a0, ()) (empty sg.U)) := by
  unfold mastref2_leap.f
  kernel_rfl
def mastref2_leap.e : Entry sg := entryOf sg [(.d (.int .i64))] [.bool] (fun h => mastref2_leap.f h.1)
def mastref2_leap.T : List (Lb sg (RT sg.U [.bool])) := []
theorem mastref2_leap.ok : (mastref2_leap.e).Sound Tryd.prog ctx 60 :=
  entry_ok base_ok mo (fn := Tryd.f60) (b := (Tryd.f60.body.getD .skip)) (pm := [(.d (.int .i64))]) (rs := [.bool]) (an := mastref2_leap.a) (N := 16) (vars := [(.tmp 2)]) Tryd.func60 (by kernel_rfl) (by kernel_rfl) (by kernel_rfl) (by kernel_rfl) (by kernel_rfl) (by kernel_rfl) (O := fun _ => mastref2_leap.O)
    (fun _ => by unfold mastref2_leap.O; exact oracle_of (P := Tryd.prog) (C := ctx) trivial) mastref2_leap.T trivial 0 (fun h => mastref2_leap.f_eq h.1)
def mastref2_yearDay.f (a0 : Int) : Option (Int) := ((mastref2_floor.f (wsub .i64 a0 2001) 4).bind fun y1 => ((mastref2_floor.f (wsub .i64 a0 2001) 100).bind fun y2 => ((mastref2_floor.f (wsub .i64 a0 2001) 400).bind fun y3 => (some (wadd .i64 (wsub .i64 (wadd .i64 (wmul .i64 365 (wsub .i64 a0 2001)) y1) y2) y3)))))
def mastref2_yearDay.O : Oracle sg := fun n => lkp n [(59, mastref2_floor.e)]
def mastref2_yearDay.a : Ann := .z
def mastref2_yearDay.L : Nat → St sg.U → Option (RT sg.U [(.int .i64)]) := labs []
theorem mastref2_yearDay.f_eq (a0 : Int) : mastref2_yearDay.f a0 = codeK (C := ctx) (mastref2_yearDay.O) ⟨17, [], []⟩ (mastref2_yearDay.L) (Tryd.f61.body.getD .skip) mastref2_yearDay.a (endK ctx [(.int .i64)] [(.tmp 2)]) (slotsOf sg.U 0 [(.d (.int .i64))] (a0, ()) (empty sg.U)) := by
  unfold mastref2_yearDay.f
  kernel_rfl
def mastref2_yearDay.e : Entry sg := entryOf sg [(.d (.int .i64))] [(.int .i64)] (fun h => mastref2_yearDay.f h.1)
def mastref2_yearDay.T : List (Lb sg (RT sg.U [(.int .i64)])) := []
theorem mastref2_yearDay.ok : (mastref2_yearDay.e).Sound Tryd.prog ctx 61 :=
  entry_ok base_ok mo (fn := Tryd.f61) (b := (Tryd.f61.body.getD .skip)) (pm := [(.d (.int .i64))]) (rs := [(.int .i64)]) (an := mastref2_yearDay.a) (N := 17) (vars := [(.tmp 2)]) Tryd.func61 (by kernel_rfl) (by kernel_rfl) (by kernel_rfl) (by kernel_rfl) (by kernel_rfl) (by kernel_rfl) (O := fun _ => mastref2_yearDay.O)
    (fun _ => by unfold mastref2_yearDay.O; exact oracle_of (P := Tryd.prog) (C := ctx) ⟨(mastref2_floor.ok), trivial⟩) mastref2_yearDay.T trivial 0 (fun h => mastref2_yearDay.f_eq h.1)
mutual
def mastref2_dateOf.l0 : Nat → Int → Int → Int → Int → (List Int) → Int → Int → Option (Int)
  | 0, _, _, _, _, _, _, _ => none
  | k + 1, x0, x1, x2, x7, x24, x25, x26 => (bif (ilt x26 x25) then ((lat x24 x26).bind fun y4 => (mastref2_dateOf.l0 k x0 x1 x2 (wadd .i64 x7 y4) x24 x25 (wadd .i64 x26 1))) else (bif (ilt 2 x1) then ((mastref2_leap.f x0).bind fun y5 => (mastref2_dateOf.l1 k x0 x2 x7 y5)) else (mastref2_dateOf.l1 k x0 x2 x7 false)))
def mastref2_dateOf.l1 : Nat → Int → Int → Int → Bool → Option (Int)
  | 0, _, _, _, _ => none
  | k + 1, x0, x2, x7, x39 => (bif x39 then (mastref2_dateOf.l2 k x0 x2 (wadd .i64 x7 1)) else (mastref2_dateOf.l2 k x0 x2 x7))
def mastref2_dateOf.l2 : Nat → Int → Int → Int → Option (Int)
  | 0, _, _, _ => none
  | k + 1, x0, x2, x7 => ((mastref2_yearDay.f x0).bind fun y6 => (some (wsub .i64 (wadd .i64 (wadd .i64 y6 x7) x2) 1)))
end
def mastref2_dateOf.f (k : Nat) (a0 : Int) (a1 : Int) (a2 : Int) : Option (Int) := ((mastref2_floor.f (wsub .i64 a1 1) 12).bind fun y1 => ((mastref2_floor.f (wsub .i64 a1 1) 12).bind fun y2 => ((lsub [31, 28, 31, 30, 31, 30, 31, 31, 30, 31, 30, 31] 0 (wsub .i64 (wsub .i64 a1 (wmul .i64 12 y2)) 1)).bind fun y3 => (mastref2_dateOf.l0 k (wadd .i64 a0 y1) (wsub .i64 a1 (wmul .i64 12 y2)) a2 0 y3 (llen y3) 0))))
def mastref2_dateOf.O (k : Nat) : Oracle sg := fun n => lkp n [(59, mastref2_floor.e), (60, mastref2_leap.e), (61, mastref2_yearDay.e)]
def mastref2_dateOf.a : Ann := (.n .z (.n .z (.n .z (.n (.n .z (.lp 0 .z)) (.n (.n .z (.lab 1 .z)) (.lab 2 .z))))))
def mastref2_dateOf.L (k : Nat) : Nat → St sg.U → Option (RT sg.U [(.int .i64)]) := labs [(0, labOf sg [(0, (.d (.int .i64))), (1, (.d (.int .i64))), (2, (.d (.int .i64))), (7, (.d (.int .i64))), (24, (.d (.sl (.int .i64)))), (25, (.d (.int .i64))), (26, (.d (.int .i64)))] (fun h => mastref2_dateOf.l0 k h.1 h.2.1 h.2.2.1 h.2.2.2.1 h.2.2.2.2.1 h.2.2.2.2.2.1 h.2.2.2.2.2.2.1)), (1, labOf sg [(0, (.d (.int .i64))), (2, (.d (.int .i64))), (7, (.d (.int .i64))), (39, (.d .bool))] (fun h => mastref2_dateOf.l1 k h.1 h.2.1 h.2.2.1 h.2.2.2.1)), (2, labOf sg [(0, (.d (.int .i64))), (2, (.d (.int .i64))), (7, (.d (.int .i64)))] (fun h => mastref2_dateOf.l2 k h.1 h.2.1 h.2.2.1))]
theorem mastref2_dateOf.l0_eq (k : Nat) (x0 : Int) (x1 : Int) (x2 : Int) (x7 : Int) (x24 : (List Int)) (x25 : Int) (x26 : Int) : mastref2_dateOf.l0 (k + 1) x0 x1 x2 x7 x24 x25 x26 = runFrom (C := ctx) (mastref2_dateOf.O k) ⟨49, [], []⟩ (mastref2_dateOf.L k) (Tryd.f30.body.getD .skip) mastref2_dateOf.a 0 (endK ctx [(.int .i64)] [(.tmp 6)]) (encD [(0, (.d (.int .i64))), (1, (.d (.int .i64))), (2, (.d (.int .i64))), (7, (.d (.int .i64))), (24, (.d (.sl (.int .i64)))), (25, (.d (.int .i64))), (26, (.d (.int .i64)))] (x0, x1, x2, x7, x24, x25, x26, ()) (startD sg.U ⟨49, [], []⟩ [(0, (.d (.int .i64))), (1, (.d (.int .i64))), (2, (.d (.int .i64))), (7, (.d (.int .i64))), (24, (.d (.sl (.int .i64)))), (25, (.d (.int .i64))), (26, (.d (.int .i64)))])) := by
  rw [mastref2_dateOf.l0]
  kernel_rfl
theorem mastref2_dateOf.l1_eq (k : Nat) (x0 : Int) (x2 : Int) (x7 : Int) (x39 : Bool) : mastref2_dateOf.l1 (k + 1) x0 x2 x7 x39 = runFrom (C := ctx) (mastref2_dateOf.O k) ⟨49, [], []⟩ (mastref2_dateOf.L k) (Tryd.f30.body.getD .skip) mastref2_dateOf.a 1 (endK ctx [(.int .i64)] [(.tmp 6)]) (encD [(0, (.d (.int .i64))), (2, (.d (.int .i64))), (7, (.d (.int .i64))), (39, (.d .bool))] (x0, x2, x7, x39, ()) (startD sg.U ⟨49, [], []⟩ [(0, (.d (.int .i64))), (2, (.d (.int .i64))), (7, (.d (.int .i64))), (39, (.d .bool))])) := by
  rw [mastref2_dateOf.l1]
  kernel_rfl
theorem mastref2_dateOf.l2_eq (k : Nat) (x0 : Int) (x2 : Int) (x7 : Int) : mastref2_dateOf.l2 (k + 1) x0 x2 x7 = runFrom (C := ctx) (mastref2_dateOf.O k) ⟨49, [], []⟩ (mastref2_dateOf.L k) (Tryd.f30.body.getD .skip) mastref2_dateOf.a 2 (endK ctx [(.int .i64)] [(.tmp 6)]) (encD [(0, (.d (.int .i64))), (2, (.d (.int .i64))), (7, (.d (.int .i64)))] (x0, x2, x7, ()) (startD sg.U ⟨49, [], []⟩ [(0, (.d (.int .i64))), (2, (.d (.int .i64))), (7, (.d (.int .i64)))])) := by
  rw [mastref2_dateOf.l2]
  kernel_rfl
theorem mastref2_dateOf.f_eq (k : Nat) (a0 : Int) (a1 : Int) (a2 : Int) : mastref2_dateOf.f k a0 a1 a2 = codeK (C := ctx) (mastref2_dateOf.O k) ⟨49, [], []⟩ (mastref2_dateOf.L k) (Tryd.f30.body.getD .skip) mastref2_dateOf.a (endK ctx [(.int .i64)] [(.tmp 6)]) (slotsOf sg.U 0 [(.d (.int .i64)), (.d (.int .i64)), (.d (.int .i64))] (a0, a1, a2, ()) (empty sg.U)) := by
  unfold mastref2_dateOf.f
  kernel_rfl
def mastref2_dateOf.e (k : Nat) : Entry sg := entryOf sg [(.d (.int .i64)), (.d (.int .i64)), (.d (.int .i64))] [(.int .i64)] (fun h => mastref2_dateOf.f k h.1 h.2.1 h.2.2.1)
def mastref2_dateOf.T : List (Lb sg (RT sg.U [(.int .i64)])) := [⟨0, [(0, (.d (.int .i64))), (1, (.d (.int .i64))), (2, (.d (.int .i64))), (7, (.d (.int .i64))), (24, (.d (.sl (.int .i64)))), (25, (.d (.int .i64))), (26, (.d (.int .i64)))], fun k h => mastref2_dateOf.l0 k h.1 h.2.1 h.2.2.1 h.2.2.2.1 h.2.2.2.2.1 h.2.2.2.2.2.1 h.2.2.2.2.2.2.1⟩, ⟨1, [(0, (.d (.int .i64))), (2, (.d (.int .i64))), (7, (.d (.int .i64))), (39, (.d .bool))], fun k h => mastref2_dateOf.l1 k h.1 h.2.1 h.2.2.1 h.2.2.2.1⟩, ⟨2, [(0, (.d (.int .i64))), (2, (.d (.int .i64))), (7, (.d (.int .i64)))], fun k h => mastref2_dateOf.l2 k h.1 h.2.1 h.2.2.1⟩]
theorem mastref2_dateOf.ok (k : Nat) : (mastref2_dateOf.e k).Sound Tryd.prog ctx 30 :=
  entry_ok base_ok mo (fn := Tryd.f30) (b := (Tryd.f30.body.getD .skip)) (pm := [(.d (.int .i64)), (.d (.int .i64)), (.d (.int .i64))]) (rs := [(.int .i64)]) (an := mastref2_dateOf.a) (N := 49) (vars := [(.tmp 6)]) Tryd.func30 (by kernel_rfl) (by kernel_rfl) (by kernel_rfl) (by kernel_rfl) (by kernel_rfl) (by kernel_rfl) (O := mastref2_dateOf.O)
    (fun k => by unfold mastref2_dateOf.O; exact oracle_of (P := Tryd.prog) (C := ctx) ⟨(mastref2_floor.ok), ⟨(mastref2_leap.ok), ⟨(mastref2_yearDay.ok), trivial⟩⟩⟩) mastref2_dateOf.T ⟨⟨by kernel_rfl, fun _ => by first | rfl | rw [mastref2_dateOf.l0], fun k h => mastref2_dateOf.l0_eq k h.1 h.2.1 h.2.2.1 h.2.2.2.1 h.2.2.2.2.1 h.2.2.2.2.2.1 h.2.2.2.2.2.2.1⟩, ⟨⟨by kernel_rfl, fun _ => by first | rfl | rw [mastref2_dateOf.l1], fun k h => mastref2_dateOf.l1_eq k h.1 h.2.1 h.2.2.1 h.2.2.2.1⟩, ⟨⟨by kernel_rfl, fun _ => by first | rfl | rw [mastref2_dateOf.l2], fun k h => mastref2_dateOf.l2_eq k h.1 h.2.1 h.2.2.1⟩, trivial⟩⟩⟩ k (fun h => mastref2_dateOf.f_eq k h.1 h.2.1 h.2.2.1)
def mastref2_date_parts.l0 : Nat → Int → Int → Int → Option (Int × Int × Int)
  | 0, _, _, _ => none
  | k + 1, x2, x3, x4 => (some (x2, x3, x4))
def mastref2_date_parts.f (k : Nat) (a0 : Int) : Option (Int × Int × Int) := ((mastref2_floor.f (wadd .i64 a0 730791) 146097).bind fun y1 => (bif (ilt 12 (wadd .i64 (wquo .i64 (wadd .i64 (wmul .i64 5 (wsub .i64 (wsub .i64 (wadd .i64 a0 730791) (wmul .i64 146097 y1)) (wsub .i64 (wadd .i64 (wmul .i64 365 (wquo .i64 (wsub .i64 (wadd .i64 (wsub .i64 (wsub .i64 (wadd .i64 a0 730791) (wmul .i64 146097 y1)) (wquo .i64 (wsub .i64 (wadd .i64 a0 730791) (wmul .i64 146097 y1)) 1460)) (wquo .i64 (wsub .i64 (wadd .i64 a0 730791) (wmul .i64 146097 y1)) 36524)) (wquo .i64 (wsub .i64 (wadd .i64 a0 730791) (wmul .i64 146097 y1)) 146096)) 365)) (wquo .i64 (wquo .i64 (wsub .i64 (wadd .i64 (wsub .i64 (wsub .i64 (wadd .i64 a0 730791) (wmul .i64 146097 y1)) (wquo .i64 (wsub .i64 (wadd .i64 a0 730791) (wmul .i64 146097 y1)) 1460)) (wquo .i64 (wsub .i64 (wadd .i64 a0 730791) (wmul .i64 146097 y1)) 36524)) (wquo .i64 (wsub .i64 (wadd .i64 a0 730791) (wmul .i64 146097 y1)) 146096)) 365) 4)) (wquo .i64 (wquo .i64 (wsub .i64 (wadd .i64 (wsub .i64 (wsub .i64 (wadd .i64 a0 730791) (wmul .i64 146097 y1)) (wquo .i64 (wsub .i64 (wadd .i64 a0 730791) (wmul .i64 146097 y1)) 1460)) (wquo .i64 (wsub .i64 (wadd .i64 a0 730791) (wmul .i64 146097 y1)) 36524)) (wquo .i64 (wsub .i64 (wadd .i64 a0 730791) (wmul .i64 146097 y1)) 146096)) 365) 100)))) 2) 153) 3)) then (mastref2_date_parts.l0 k (wadd .i64 (wadd .i64 (wmul .i64 400 y1) (wquo .i64 (wsub .i64 (wadd .i64 (wsub .i64 (wsub .i64 (wadd .i64 a0 730791) (wmul .i64 146097 y1)) (wquo .i64 (wsub .i64 (wadd .i64 a0 730791) (wmul .i64 146097 y1)) 1460)) (wquo .i64 (wsub .i64 (wadd .i64 a0 730791) (wmul .i64 146097 y1)) 36524)) (wquo .i64 (wsub .i64 (wadd .i64 a0 730791) (wmul .i64 146097 y1)) 146096)) 365)) 1) (wsub .i64 (wadd .i64 (wquo .i64 (wadd .i64 (wmul .i64 5 (wsub .i64 (wsub .i64 (wadd .i64 a0 730791) (wmul .i64 146097 y1)) (wsub .i64 (wadd .i64 (wmul .i64 365 (wquo .i64 (wsub .i64 (wadd .i64 (wsub .i64 (wsub .i64 (wadd .i64 a0 730791) (wmul .i64 146097 y1)) (wquo .i64 (wsub .i64 (wadd .i64 a0 730791) (wmul .i64 146097 y1)) 1460)) (wquo .i64 (wsub .i64 (wadd .i64 a0 730791) (wmul .i64 146097 y1)) 36524)) (wquo .i64 (wsub .i64 (wadd .i64 a0 730791) (wmul .i64 146097 y1)) 146096)) 365)) (wquo .i64 (wquo .i64 (wsub .i64 (wadd .i64 (wsub .i64 (wsub .i64 (wadd .i64 a0 730791) (wmul .i64 146097 y1)) (wquo .i64 (wsub .i64 (wadd .i64 a0 730791) (wmul .i64 146097 y1)) 1460)) (wquo .i64 (wsub .i64 (wadd .i64 a0 730791) (wmul .i64 146097 y1)) 36524)) (wquo .i64 (wsub .i64 (wadd .i64 a0 730791) (wmul .i64 146097 y1)) 146096)) 365) 4)) (wquo .i64 (wquo .i64 (wsub .i64 (wadd .i64 (wsub .i64 (wsub .i64 (wadd .i64 a0 730791) (wmul .i64 146097 y1)) (wquo .i64 (wsub .i64 (wadd .i64 a0 730791) (wmul .i64 146097 y1)) 1460)) (wquo .i64 (wsub .i64 (wadd .i64 a0 730791) (wmul .i64 146097 y1)) 36524)) (wquo .i64 (wsub .i64 (wadd .i64 a0 730791) (wmul .i64 146097 y1)) 146096)) 365) 100)))) 2) 153) 3) 12) (wadd .i64 (wsub .i64 (wsub .i64 (wsub .i64 (wadd .i64 a0 730791) (wmul .i64 146097 y1)) (wsub .i64 (wadd .i64 (wmul .i64 365 (wquo .i64 (wsub .i64 (wadd .i64 (wsub .i64 (wsub .i64 (wadd .i64 a0 730791) (wmul .i64 146097 y1)) (wquo .i64 (wsub .i64 (wadd .i64 a0 730791) (wmul .i64 146097 y1)) 1460)) (wquo .i64 (wsub .i64 (wadd .i64 a0 730791) (wmul .i64 146097 y1)) 36524)) (wquo .i64 (wsub .i64 (wadd .i64 a0 730791) (wmul .i64 146097 y1)) 146096)) 365)) (wquo .i64 (wquo .i64 (wsub .i64 (wadd .i64 (wsub .i64 (wsub .i64 (wadd .i64 a0 730791) (wmul .i64 146097 y1)) (wquo .i64 (wsub .i64 (wadd .i64 a0 730791) (wmul .i64 146097 y1)) 1460)) (wquo .i64 (wsub .i64 (wadd .i64 a0 730791) (wmul .i64 146097 y1)) 36524)) (wquo .i64 (wsub .i64 (wadd .i64 a0 730791) (wmul .i64 146097 y1)) 146096)) 365) 4)) (wquo .i64 (wquo .i64 (wsub .i64 (wadd .i64 (wsub .i64 (wsub .i64 (wadd .i64 a0 730791) (wmul .i64 146097 y1)) (wquo .i64 (wsub .i64 (wadd .i64 a0 730791) (wmul .i64 146097 y1)) 1460)) (wquo .i64 (wsub .i64 (wadd .i64 a0 730791) (wmul .i64 146097 y1)) 36524)) (wquo .i64 (wsub .i64 (wadd .i64 a0 730791) (wmul .i64 146097 y1)) 146096)) 365) 100))) (wquo .i64 (wadd .i64 (wmul .i64 153 (wquo .i64 (wadd .i64 (wmul .i64 5 (wsub .i64 (wsub .i64 (wadd .i64 a0 730791) (wmul .i64 146097 y1)) (wsub .i64 (wadd .i64 (wmul .i64 365 (wquo .i64 (wsub .i64 (wadd .i64 (wsub .i64 (wsub .i64 (wadd .i64 a0 730791) (wmul .i64 146097 y1)) (wquo .i64 (wsub .i64 (wadd .i64 a0 730791) (wmul .i64 146097 y1)) 1460)) (wquo .i64 (wsub .i64 (wadd .i64 a0 730791) (wmul .i64 146097 y1)) 36524)) (wquo .i64 (wsub .i64 (wadd .i64 a0 730791) (wmul .i64 146097 y1)) 146096)) 365)) (wquo .i64 (wquo .i64 (wsub .i64 (wadd .i64 (wsub .i64 (wsub .i64 (wadd .i64 a0 730791) (wmul .i64 146097 y1)) (wquo .i64 (wsub .i64 (wadd .i64 a0 730791) (wmul .i64 146097 y1)) 1460)) (wquo .i64 (wsub .i64 (wadd .i64 a0 730791) (wmul .i64 146097 y1)) 36524)) (wquo .i64 (wsub .i64 (wadd .i64 a0 730791) (wmul .i64 146097 y1)) 146096)) 365) 4)) (wquo .i64 (wquo .i64 (wsub .i64 (wadd .i64 (wsub .i64 (wsub .i64 (wadd .i64 a0 730791) (wmul .i64 146097 y1)) (wquo .i64 (wsub .i64 (wadd .i64 a0 730791) (wmul .i64 146097 y1)) 1460)) (wquo .i64 (wsub .i64 (wadd .i64 a0 730791) (wmul .i64 146097 y1)) 36524)) (wquo .i64 (wsub .i64 (wadd .i64 a0 730791) (wmul .i64 146097 y1)) 146096)) 365) 100)))) 2) 153)) 2) 5)) 1)) else (mastref2_date_parts.l0 k (wadd .i64 (wmul .i64 400 y1) (wquo .i64 (wsub .i64 (wadd .i64 (wsub .i64 (wsub .i64 (wadd .i64 a0 730791) (wmul .i64 146097 y1)) (wquo .i64 (wsub .i64 (wadd .i64 a0 730791) (wmul .i64 146097 y1)) 1460)) (wquo .i64 (wsub .i64 (wadd .i64 a0 730791) (wmul .i64 146097 y1)) 36524)) (wquo .i64 (wsub .i64 (wadd .i64 a0 730791) (wmul .i64 146097 y1)) 146096)) 365)) (wadd .i64 (wquo .i64 (wadd .i64 (wmul .i64 5 (wsub .i64 (wsub .i64 (wadd .i64 a0 730791) (wmul .i64 146097 y1)) (wsub .i64 (wadd .i64 (wmul .i64 365 (wquo .i64 (wsub .i64 (wadd .i64 (wsub .i64 (wsub .i64 (wadd .i64 a0 730791) (wmul .i64 146097 y1)) (wquo .i64 (wsub .i64 (wadd .i64 a0 730791) (wmul .i64 146097 y1)) 1460)) (wquo .i64 (wsub .i64 (wadd .i64 a0 730791) (wmul .i64 146097 y1)) 36524)) (wquo .i64 (wsub .i64 (wadd .i64 a0 730791) (wmul .i64 146097 y1)) 146096)) 365)) (wquo .i64 (wquo .i64 (wsub .i64 (wadd .i64 (wsub .i64 (wsub .i64 (wadd .i64 a0 730791) (wmul .i64 146097 y1)) (wquo .i64 (wsub .i64 (wadd .i64 a0 730791) (wmul .i64 146097 y1)) 1460)) (wquo .i64 (wsub .i64 (wadd .i64 a0 730791) (wmul .i64 146097 y1)) 36524)) (wquo .i64 (wsub .i64 (wadd .i64 a0 730791) (wmul .i64 146097 y1)) 146096)) 365) 4)) (wquo .i64 (wquo .i64 (wsub .i64 (wadd .i64 (wsub .i64 (wsub .i64 (wadd .i64 a0 730791) (wmul .i64 146097 y1)) (wquo .i64 (wsub .i64 (wadd .i64 a0 730791) (wmul .i64 146097 y1)) 1460)) (wquo .i64 (wsub .i64 (wadd .i64 a0 730791) (wmul .i64 146097 y1)) 36524)) (wquo .i64 (wsub .i64 (wadd .i64 a0 730791) (wmul .i64 146097 y1)) 146096)) 365) 100)))) 2) 153) 3) (wadd .i64 (wsub .i64 (wsub .i64 (wsub .i64 (wadd .i64 a0 730791) (wmul .i64 146097 y1)) (wsub .i64 (wadd .i64 (wmul .i64 365 (wquo .i64 (wsub .i64 (wadd .i64 (wsub .i64 (wsub .i64 (wadd .i64 a0 730791) (wmul .i64 146097 y1)) (wquo .i64 (wsub .i64 (wadd .i64 a0 730791) (wmul .i64 146097 y1)) 1460)) (wquo .i64 (wsub .i64 (wadd .i64 a0 730791) (wmul .i64 146097 y1)) 36524)) (wquo .i64 (wsub .i64 (wadd .i64 a0 730791) (wmul .i64 146097 y1)) 146096)) 365)) (wquo .i64 (wquo .i64 (wsub .i64 (wadd .i64 (wsub .i64 (wsub .i64 (wadd .i64 a0 730791) (wmul .i64 146097 y1)) (wquo .i64 (wsub .i64 (wadd .i64 a0 730791) (wmul .i64 146097 y1)) 1460)) (wquo .i64 (wsub .i64 (wadd .i64 a0 730791) (wmul .i64 146097 y1)) 36524)) (wquo .i64 (wsub .i64 (wadd .i64 a0 730791) (wmul .i64 146097 y1)) 146096)) 365) 4)) (wquo .i64 (wquo .i64 (wsub .i64 (wadd .i64 (wsub .i64 (wsub .i64 (wadd .i64 a0 730791) (wmul .i64 146097 y1)) (wquo .i64 (wsub .i64 (wadd .i64 a0 730791) (wmul .i64 146097 y1)) 1460)) (wquo .i64 (wsub .i64 (wadd .i64 a0 730791) (wmul .i64 146097 y1)) 36524)) (wquo .i64 (wsub .i64 (wadd .i64 a0 730791) (wmul .i64 146097 y1)) 146096)) 365) 100))) (wquo .i64 (wadd .i64 (wmul .i64 153 (wquo .i64 (wadd .i64 (wmul .i64 5 (wsub .i64 (wsub .i64 (wadd .i64 a0 730791) (wmul .i64 146097 y1)) (wsub .i64 (wadd .i64 (wmul .i64 365 (wquo .i64 (wsub .i64 (wadd .i64 (wsub .i64 (wsub .i64 (wadd .i64 a0 730791) (wmul .i64 146097 y1)) (wquo .i64 (wsub .i64 (wadd .i64 a0 730791) (wmul .i64 146097 y1)) 1460)) (wquo .i64 (wsub .i64 (wadd .i64 a0 730791) (wmul .i64 146097 y1)) 36524)) (wquo .i64 (wsub .i64 (wadd .i64 a0 730791) (wmul .i64 146097 y1)) 146096)) 365)) (wquo .i64 (wquo .i64 (wsub .i64 (wadd .i64 (wsub .i64 (wsub .i64 (wadd .i64 a0 730791) (wmul .i64 146097 y1)) (wquo .i64 (wsub .i64 (wadd .i64 a0 730791) (wmul .i64 146097 y1)) 1460)) (wquo .i64 (wsub .i64 (wadd .i64 a0 730791) (wmul .i64 146097 y1)) 36524)) (wquo .i64 (wsub .i64 (wadd .i64 a0 730791) (wmul .i64 146097 y1)) 146096)) 365) 4)) (wquo .i64 (wquo .i64 (wsub .i64 (wadd .i64 (wsub .i64 (wsub .i64 (wadd .i64 a0 730791) (wmul .i64 146097 y1)) (wquo .i64 (wsub .i64 (wadd .i64 a0 730791) (wmul .i64 146097 y1)) 1460)) (wquo .i64 (wsub .i64 (wadd .i64 a0 730791) (wmul .i64 146097 y1)) 36524)) (wquo .i64 (wsub .i64 (wadd .i64 a0 730791) (wmul .i64 146097 y1)) 146096)) 365) 100)))) 2) 153)) 2) 5)) 1))))
def mastref2_date_parts.O (k : Nat) : Oracle sg := fun n => lkp n [(59, mastref2_floor.e)]
def mastref2_date_parts.a : Ann := (.n .z (.n .z (.n .z (.n .z (.n .z (.n .z (.n .z (.n .z (.n .z (.n .z (.lab 0 .z)))))))))))
def mastref2_date_parts.L (k : Nat) : Nat → St sg.U → Option (RT sg.U [(.int .i64), (.int .i64), (.int .i64)]) := labs [(0, labOf sg [(2, (.d (.int .i64))), (3, (.d (.int .i64))), (4, (.d (.int .i64)))] (fun h => mastref2_date_parts.l0 k h.1 h.2.1 h.2.2.1))]
theorem mastref2_date_parts.l0_eq (k : Nat) (x2 : Int) (x3 : Int) (x4 : Int) : mastref2_date_parts.l0 (k + 1) x2 x3 x4 = runFrom (C := ctx) (mastref2_date_parts.O k) ⟨64, [], []⟩ (mastref2_date_parts.L k) (Tryd.f62.body.getD .skip) mastref2_date_parts.a 0 (endK ctx [(.int .i64), (.int .i64), (.int .i64)] [(.tmp 2), (.tmp 3), (.tmp 4)]) (encD [(2, (.d (.int .i64))), (3, (.d (.int .i64))), (4, (.d (.int .i64)))] (x2, x3, x4, ()) (startD sg.U ⟨64, [], []⟩ [(2, (.d (.int .i64))), (3, (.d (.int .i64))), (4, (.d (.int .i64)))])) := by
  rw [mastref2_date_parts.l0]
  kernel_rfl
theorem mastref2_date_parts.f_eq (k : Nat) (a0 : Int) : mastref2_date_parts.f k a0 = codeK (C := ctx) (mastref2_date_parts.O k) ⟨64, [], []⟩ (mastref2_date_parts.L k) (Tryd.f62.body.getD .skip) mastref2_date_parts.a (endK ctx [(.int .i64), (.int .i64), (.int .i64)] [(.tmp 2), (.tmp 3), (.tmp 4)]) (slotsOf sg.U 0 [(.d (.int .i64))] (a0, ()) (empty sg.U)) := by
  unfold mastref2_date_parts.f
  kernel_rfl
def mastref2_date_parts.e (k : Nat) : Entry sg := entryOf sg [(.d (.int .i64))] [(.int .i64), (.int .i64), (.int .i64)] (fun h => mastref2_date_parts.f k h.1)
def mastref2_date_parts.T : List (Lb sg (RT sg.U [(.int .i64), (.int .i64), (.int .i64)])) := [⟨0, [(2, (.d (.int .i64))), (3, (.d (.int .i64))), (4, (.d (.int .i64)))], fun k h => mastref2_date_parts.l0 k h.1 h.2.1 h.2.2.1⟩]
theorem mastref2_date_parts.ok (k : Nat) : (mastref2_date_parts.e k).Sound Tryd.prog ctx 62 :=
  entry_ok base_ok mo (fn := Tryd.f62) (b := (Tryd.f62.body.getD .skip)) (pm := [(.d (.int .i64))]) (rs := [(.int .i64), (.int .i64), (.int .i64)]) (an := mastref2_date_parts.a) (N := 64) (vars := [(.tmp 2), (.tmp 3), (.tmp 4)]) Tryd.func62 (by kernel_rfl) (by kernel_rfl) (by kernel_rfl) (by kernel_rfl) (by kernel_rfl) (by kernel_rfl) (O := mastref2_date_parts.O)
    (fun k => by unfold mastref2_date_parts.O; exact oracle_of (P := Tryd.prog) (C := ctx) ⟨(mastref2_floor.ok), trivial⟩) mastref2_date_parts.T ⟨⟨by kernel_rfl, fun _ => by first | rfl | rw [mastref2_date_parts.l0], fun k h => mastref2_date_parts.l0_eq k h.1 h.2.1 h.2.2.1⟩, trivial⟩ k (fun h => mastref2_date_parts.f_eq k h.1)
def mastref2_date_number.f (k : Nat) (a0 : Int) : Option (Int) := ((mastref2_date_parts.f k a0).bind fun y1 => (some y1.2.2))
def mastref2_date_number.O (k : Nat) : Oracle sg := fun n => lkp n [(62, mastref2_date_parts.e k)]
def mastref2_date_number.a : Ann := .z
def mastref2_date_number.L (k : Nat) : Nat → St sg.U → Option (RT sg.U [(.int .i64)]) := labs []
theorem mastref2_date_number.f_eq (k : Nat) (a0 : Int) : mastref2_date_number.f k a0 = codeK (C := ctx) (mastref2_date_number.O k) ⟨13, [], []⟩ (mastref2_date_number.L k) (Tryd.f31.body.getD .skip) mastref2_date_number.a (endK ctx [(.int .i64)] [(.tmp 2)]) (slotsOf sg.U 0 [(.d (.int .i64))] (a0, ()) (empty sg.U)) := by
  unfold mastref2_date_number.f
  kernel_rfl
def mastref2_date_number.e (k : Nat) : Entry sg := entryOf sg [(.d (.int .i64))] [(.int .i64)] (fun h => mastref2_date_number.f k h.1)
def mastref2_date_number.T : List (Lb sg (RT sg.U [(.int .i64)])) := []
theorem mastref2_date_number.ok (k : Nat) : (mastref2_date_number.e k).Sound Tryd.prog ctx 31 :=
  entry_ok base_ok mo (fn := Tryd.f31) (b := (Tryd.f31.body.getD .skip)) (pm := [(.d (.int .i64))]) (rs := [(.int .i64)]) (an := mastref2_date_number.a) (N := 13) (vars := [(.tmp 2)]) Tryd.func31 (by kernel_rfl) (by kernel_rfl) (by kernel_rfl) (by kernel_rfl) (by kernel_rfl) (by kernel_rfl) (O := mastref2_date_number.O)
    (fun k => by unfold mastref2_date_number.O; exact oracle_of (P := Tryd.prog) (C := ctx) ⟨(mastref2_date_parts.ok k), trivial⟩) mastref2_date_number.T trivial k (fun h => mastref2_date_number.f_eq k h.1)
def mastref2_DayOf.f (k : Nat) (a0 : Int) (a1 : Int) (a2 : Int) : Option (Int × Int) := (bif (bif (bif (bif (bif (bif (ilt a0 1970) then true else (ilt 2199 a0)) then true else (ilt a1 1)) then true else (ilt 12 a1)) then true else (ilt a2 1)) then true else (ilt 31 a2)) then (some (0, 2)) else ((mastref2_dateOf.f k a0 a1 a2).bind fun y1 => ((mastref2_date_number.f k y1).bind fun y2 => (bif (!ieq y2 a2) then (some (0, 2)) else (some ((wadd .i64 y1 11323), 0))))))
def mastref2_DayOf.O (k : Nat) : Oracle sg := fun n => lkp n [(30, mastref2_dateOf.e k), (31, mastref2_date_number.e k)]
def mastref2_DayOf.a : Ann := .z
def mastref2_DayOf.L (k : Nat) : Nat → St sg.U → Option (RT sg.U [(.int .i64), (.int .i64)]) := labs []
theorem mastref2_DayOf.f_eq (k : Nat) (a0 : Int) (a1 : Int) (a2 : Int) : mastref2_DayOf.f k a0 a1 a2 = codeK (C := ctx) (mastref2_DayOf.O k) ⟨41, [], []⟩ (mastref2_DayOf.L k) (Tryd.f17.body.getD .skip) mastref2_DayOf.a (endK ctx [(.int .i64), (.int .i64)] [(.tmp 6), (.tmp 7)]) (slotsOf sg.U 0 [(.d (.int .i64)), (.d (.int .i64)), (.d (.int .i64))] (a0, a1, a2, ()) (empty sg.U)) := by
  unfold mastref2_DayOf.f
  kernel_rfl
def mastref2_DayOf.e (k : Nat) : Entry sg := entryOf sg [(.d (.int .i64)), (.d (.int .i64)), (.d (.int .i64))] [(.int .i64), (.int .i64)] (fun h => mastref2_DayOf.f k h.1 h.2.1 h.2.2.1)
def mastref2_DayOf.T : List (Lb sg (RT sg.U [(.int .i64), (.int .i64)])) := []
theorem mastref2_DayOf.ok (k : Nat) : (mastref2_DayOf.e k).Sound Tryd.prog ctx 17 :=
  entry_ok base_ok mo (fn := Tryd.f17) (b := (Tryd.f17.body.getD .skip)) (pm := [(.d (.int .i64)), (.d (.int .i64)), (.d (.int .i64))]) (rs := [(.int .i64), (.int .i64)]) (an := mastref2_DayOf.a) (N := 41) (vars := [(.tmp 6), (.tmp 7)]) Tryd.func17 (by kernel_rfl) (by kernel_rfl) (by kernel_rfl) (by kernel_rfl) (by kernel_rfl) (by kernel_rfl) (O := mastref2_DayOf.O)
    (fun k => by unfold mastref2_DayOf.O; exact oracle_of (P := Tryd.prog) (C := ctx) ⟨(mastref2_dateOf.ok k), ⟨(mastref2_date_number.ok k), trivial⟩⟩) mastref2_DayOf.T trivial k (fun h => mastref2_DayOf.f_eq k h.1 h.2.1 h.2.2.1)
def mastref2_DayOfString.f (k : Nat) (a0 : ByteArray) : Option (Int × Int) := ((mastref2_dayForm.f a0).bind fun y1 => (bif (!y1) then (some (0, 8)) else ((ssub a0 0 4).bind fun y2 => ((strconv_Atoi.f y2).bind fun y3 => ((ssub a0 5 7).bind fun y4 => ((strconv_Atoi.f y4).bind fun y5 => ((ssub a0 8 (slen a0)).bind fun y6 => ((strconv_Atoi.f y6).bind fun y7 => ((mastref2_DayOf.f k y3 y5 y7).bind fun y8 => (some (y8.1, y8.2)))))))))))
def mastref2_DayOfString.O (k : Nat) : Oracle sg := fun n => lkp n [(15, mastref2_dayForm.e), (16, strconv_Atoi.e), (17, mastref2_DayOf.e k)]
def mastref2_DayOfString.a : Ann := .z
def mastref2_DayOfString.L (k : Nat) : Nat → St sg.U → Option (RT sg.U [(.int .i64), (.int .i64)]) := labs []
theorem mastref2_DayOfString.f_eq (k : Nat) (a0 : ByteArray) : mastref2_DayOfString.f k a0 = codeK (C := ctx) (mastref2_DayOfString.O k) ⟨37, [], []⟩ (mastref2_DayOfString.L k) (Tryd.f7.body.getD .skip) mastref2_DayOfString.a (endK ctx [(.int .i64), (.int .i64)] [(.tmp 2), (.tmp 3)]) (slotsOf sg.U 0 [(.d .str)] (a0, ()) (empty sg.U)) := by
  unfold mastref2_DayOfString.f
  kernel_rfl
def mastref2_DayOfString.e (k : Nat) : Entry sg := entryOf sg [(.d .str)] [(.int .i64), (.int .i64)] (fun h => mastref2_DayOfString.f k h.1)
def mastref2_DayOfString.T : List (Lb sg (RT sg.U [(.int .i64), (.int .i64)])) := []
theorem mastref2_DayOfString.ok (k : Nat) : (mastref2_DayOfString.e k).Sound Tryd.prog ctx 7 :=
  entry_ok base_ok mo (fn := Tryd.f7) (b := (Tryd.f7.body.getD .skip)) (pm := [(.d .str)]) (rs := [(.int .i64), (.int .i64)]) (an := mastref2_DayOfString.a) (N := 37) (vars := [(.tmp 2), (.tmp 3)]) Tryd.func7 (by kernel_rfl) (by kernel_rfl) (by kernel_rfl) (by kernel_rfl) (by kernel_rfl) (by kernel_rfl) (O := mastref2_DayOfString.O)
    (fun k => by unfold mastref2_DayOfString.O; exact oracle_of (P := Tryd.prog) (C := ctx) ⟨(mastref2_dayForm.ok), ⟨(strconv_Atoi.ok), ⟨(mastref2_DayOf.ok k), trivial⟩⟩⟩) mastref2_DayOfString.T trivial k (fun h => mastref2_DayOfString.f_eq k h.1)
def mastlaw2_DayReads.f (k : Nat) (a0 : ByteArray) : Option (Bool) := ((conf_ReadDay.f k a0).bind fun y1 => ((mastref2_DayOfString.f k a0).bind fun y2 => (some (bif (ieq y1.2 y2.2) then (ieq y1.1 y2.1) else false))))
def mastlaw2_DayReads.O (k : Nat) : Oracle sg := fun n => lkp n [(6, conf_ReadDay.e k), (7, mastref2_DayOfString.e k)]
def mastlaw2_DayReads.a : Ann := .z
def mastlaw2_DayReads.L (k : Nat) : Nat → St sg.U → Option (RT sg.U [.bool]) := labs []
theorem mastlaw2_DayReads.f_eq (k : Nat) (a0 : ByteArray) : mastlaw2_DayReads.f k a0 = codeK (C := ctx) (mastlaw2_DayReads.O k) ⟨25, [], []⟩ (mastlaw2_DayReads.L k) (Tryd.f3.body.getD .skip) mastlaw2_DayReads.a (endK ctx [.bool] [(.tmp 2)]) (slotsOf sg.U 0 [(.d .str)] (a0, ()) (empty sg.U)) := by
  unfold mastlaw2_DayReads.f
  kernel_rfl
def mastlaw2_DayReads.e (k : Nat) : Entry sg := entryOf sg [(.d .str)] [.bool] (fun h => mastlaw2_DayReads.f k h.1)
def mastlaw2_DayReads.T : List (Lb sg (RT sg.U [.bool])) := []
theorem mastlaw2_DayReads.ok (k : Nat) : (mastlaw2_DayReads.e k).Sound Tryd.prog ctx 3 :=
  entry_ok base_ok mo (fn := Tryd.f3) (b := (Tryd.f3.body.getD .skip)) (pm := [(.d .str)]) (rs := [.bool]) (an := mastlaw2_DayReads.a) (N := 25) (vars := [(.tmp 2)]) Tryd.func3 (by kernel_rfl) (by kernel_rfl) (by kernel_rfl) (by kernel_rfl) (by kernel_rfl) (by kernel_rfl) (O := mastlaw2_DayReads.O)
    (fun k => by unfold mastlaw2_DayReads.O; exact oracle_of (P := Tryd.prog) (C := ctx) ⟨(conf_ReadDay.ok k), ⟨(mastref2_DayOfString.ok k), trivial⟩⟩) mastlaw2_DayReads.T trivial k (fun h => mastlaw2_DayReads.f_eq k h.1)
end Go.Proofs.YtibnepagledbjaaDoor.LDayReads
