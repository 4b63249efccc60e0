/- The functions behind the law ConfRoutes, checked against the code; their summaries hold. Conditions: none. -/
import Derived.Test.YthmedjljckbidaaGreatDoorLiftZ
import Derived.Test.YthmedjljckbidaaGreatDoorProg
import Derived.Test.YthmedjljckbidaaGreatDoorShelf
import Derived.Shelf.Strings.SlTrimAscii
namespace Go.Proofs.YthmedjljckbidaaGreatDoor.LConfRoutes
open Go Go.Proofs.YthmedjljckbidaaGreatDoor.Lift
set_option maxRecDepth 100000
set_option linter.unusedVariables false
structure T_api_Value where
  fKind : Int
  fBool : Bool
  fInt : Int
  fText : ByteArray
  fItems : (List T_api_Value)
  fKeys : (List ByteArray)
  deriving Inhabited
abbrev sgU : Nat → Type
  | 0 => T_api_Value
  | 1 => Unit
  | 2 => Unit
  | 3 => Unit
  | 4 => Unit
  | 5 => Unit
  | 6 => Unit
  | 7 => Unit
  | 8 => Unit
  | 9 => Unit
  | 10 => Unit
  | 11 => Unit
  | 12 => Unit
  | 13 => Unit
  | 14 => Unit
  | 15 => Unit
  | 16 => Unit
  | 17 => Unit
  | 18 => Unit
  | 19 => Unit
  | 20 => Unit
  | 21 => Unit
  | 22 => Unit
  | 23 => Unit
  | 24 => Unit
  | 25 => Unit
  | 26 => Unit
  | 27 => Unit
  | 28 => Unit
  | _ + 29 => Unit
abbrev sgF : Nat → List Ty
  | 0 => [(.int .i64), .bool, (.int .i64), .str, (.sl (.st 0)), (.sl .str)]
  | 1 => []
  | 2 => []
  | 3 => []
  | 4 => []
  | 5 => []
  | 6 => []
  | 7 => []
  | 8 => []
  | 9 => []
  | 10 => []
  | 11 => []
  | 12 => []
  | 13 => []
  | 14 => []
  | 15 => []
  | 16 => []
  | 17 => []
  | 18 => []
  | 19 => []
  | 20 => []
  | 21 => []
  | 22 => []
  | 23 => []
  | 24 => []
  | 25 => []
  | 26 => []
  | 27 => []
  | 28 => []
  | _ + 29 => []
def sgO : (n : Nat) → sgU n → HL sgU (sgF n)
  | 0, x => (x.fKind, x.fBool, x.fInt, x.fText, x.fItems, x.fKeys, ())
  | 1, _ => ()
  | 2, _ => ()
  | 3, _ => ()
  | 4, _ => ()
  | 5, _ => ()
  | 6, _ => ()
  | 7, _ => ()
  | 8, _ => ()
  | 9, _ => ()
  | 10, _ => ()
  | 11, _ => ()
  | 12, _ => ()
  | 13, _ => ()
  | 14, _ => ()
  | 15, _ => ()
  | 16, _ => ()
  | 17, _ => ()
  | 18, _ => ()
  | 19, _ => ()
  | 20, _ => ()
  | 21, _ => ()
  | 22, _ => ()
  | 23, _ => ()
  | 24, _ => ()
  | 25, _ => ()
  | 26, _ => ()
  | 27, _ => ()
  | 28, _ => ()
  | _ + 29, _ => ()
def sgB : (n : Nat) → HL sgU (sgF n) → sgU n
  | 0, h => ⟨h.1, h.2.1, h.2.2.1, h.2.2.2.1, h.2.2.2.2.1, h.2.2.2.2.2.1⟩
  | 1, _ => ()
  | 2, _ => ()
  | 3, _ => ()
  | 4, _ => ()
  | 5, _ => ()
  | 6, _ => ()
  | 7, _ => ()
  | 8, _ => ()
  | 9, _ => ()
  | 10, _ => ()
  | 11, _ => ()
  | 12, _ => ()
  | 13, _ => ()
  | 14, _ => ()
  | 15, _ => ()
  | 16, _ => ()
  | 17, _ => ()
  | 18, _ => ()
  | 19, _ => ()
  | 20, _ => ()
  | 21, _ => ()
  | 22, _ => ()
  | 23, _ => ()
  | 24, _ => ()
  | 25, _ => ()
  | 26, _ => ()
  | 27, _ => ()
  | 28, _ => ()
  | _ + 29, _ => ()
def sg : Sg := { U := sgU, fl := sgF, out := sgO, bld := sgB, gl := [6], gp := fun k c => match k with | 6 => c = (Lib.pow10Tab.map fun z => Value.int .u64 z).toArray | _ => ∃ m, c[0]? = some (.int .i64 m) }
def ctx : Ctx := { S := sg, ty := [(87, .n), (3, .d (.int .i64) 1 0), (4, .d .bool 1 0), (5, .d (.int .u8) 1 0), (9, .d .str 1 0), (23, .d (.sl .str) 16 9), (27, .d (.int .i64) 1 0), (32, .d (.sl (.st 0)) 88 34), (34, .d (.st 0) 1 0)], eqs := [] }
def c_empty : ByteArray := ⟨#[]⟩
def c__2e : ByteArray := ⟨#[46]⟩
def c_abcdefghijklmnopqrst_0e2e2cf4 : ByteArray := ⟨#[97, 98, 99, 100, 101, 102, 103, 104, 105, 106, 107, 108, 109, 110, 111, 112, 113, 114, 115, 116, 117, 118, 119, 120, 121, 122, 48, 49, 50, 51, 52, 53, 54, 55, 56, 57, 45, 95]⟩
theorem sg_ok : SgOk sg :=
  ⟨fun n h => by rcases n with _ | _ | _ | _ | _ | _ | _ | _ | _ | _ | _ | _ | _ | _ | _ | _ | _ | _ | _ | _ | _ | _ | _ | _ | _ | _ | _ | _ | _ | n <;> rfl, fun n => by rcases n with _ | _ | _ | _ | _ | _ | _ | _ | _ | _ | _ | _ | _ | _ | _ | _ | _ | _ | _ | _ | _ | _ | _ | _ | _ | _ | _ | _ | _ | n <;> rfl, fun n x => by rcases n with _ | _ | _ | _ | _ | _ | _ | _ | _ | _ | _ | _ | _ | _ | _ | _ | _ | _ | _ | _ | _ | _ | _ | _ | _ | _ | _ | _ | _ | n <;> rfl, fun n => by rcases n with _ | _ | _ | _ | _ | _ | _ | _ | _ | _ | _ | _ | _ | _ | _ | _ | _ | _ | _ | _ | _ | _ | _ | _ | _ | _ | _ | _ | _ | n <;> rfl⟩
theorem base_ok : Base Tryz.prog ctx := base_of sg_ok (by kernel_rfl) (eqOk_of (by kernel_rfl))
theorem open_ok : openB Tryz.prog ctx = true := by kernel_rfl
theorem mo : Tryz.prog.follows .mixedOrders = true := by kernel_rfl
mutual
def conf_count.l0 : Nat → Int → (List T_api_Value) → Int → Int → Option (Int)
  | 0, _, _, _, _ => none
  | k + 1, x3, x7, x8, x9 => (bif (ilt x9 x8) then ((lat x7 x9).bind fun y1 => (bif (ilt 1000 x3) then (some x3) else ((conf_count.f k (T_api_Value.mk y1.fKind y1.fBool y1.fInt y1.fText y1.fItems y1.fKeys)).bind fun y2 => (conf_count.l0 k (wadd .i64 x3 y2) x7 x8 (wadd .i64 x9 1))))) else (some x3))
def conf_count.f : Nat → T_api_Value → Option (Int)
  | 0, _ => none
  | k + 1, a0 => (conf_count.l0 k 1 a0.fItems (llen a0.fItems) 0)
end
def conf_count.e (k : Nat) : Entry sg := entryOf sg [(.d (.st 0))] [(.int .i64)] (fun h => conf_count.f k h.1)
def conf_count.O (k : Nat) : Oracle sg := fun n => lkp n [(130, conf_count.e k)]
def conf_count.a : Ann := (.n .z (.n .z (.n (.n .z (.lp 0 .z)) .z)))
def conf_count.L (k : Nat) : Nat → St sg.U → Option (RT sg.U [(.int .i64)]) := labs [(0, labOf sg [(3, (.d (.int .i64))), (7, (.d (.sl (.st 0)))), (8, (.d (.int .i64))), (9, (.d (.int .i64)))] (fun h => conf_count.l0 k h.1 h.2.1 h.2.2.1 h.2.2.2.1))]
theorem conf_count.l0_eq (k : Nat) (x3 : Int) (x7 : (List T_api_Value)) (x8 : Int) (x9 : Int) : conf_count.l0 (k + 1) x3 x7 x8 x9 = runFrom (C := ctx) (conf_count.O k) ⟨21, [], []⟩ (conf_count.L k) (Tryz.f130.body.getD .skip) conf_count.a 0 (endK ctx [(.int .i64)] [(.tmp 2)]) (encD [(3, (.d (.int .i64))), (7, (.d (.sl (.st 0)))), (8, (.d (.int .i64))), (9, (.d (.int .i64)))] (x3, x7, x8, x9, ()) (startD sg.U ⟨21, [], []⟩ [(3, (.d (.int .i64))), (7, (.d (.sl (.st 0)))), (8, (.d (.int .i64))), (9, (.d (.int .i64)))])) := by
  rw [conf_count.l0]
  kernel_rfl
theorem conf_count.f_eq (k : Nat) (a0 : T_api_Value) : conf_count.f (k + 1) a0 = codeK (C := ctx) (conf_count.O k) ⟨21, [], []⟩ (conf_count.L k) (Tryz.f130.body.getD .skip) conf_count.a (endK ctx [(.int .i64)] [(.tmp 2)]) (slotsOf sg.U 0 [(.d (.st 0))] (a0, ()) (empty sg.U)) := by
  rw [conf_count.f]
  kernel_rfl
def conf_count.T : List (Lb sg (RT sg.U [(.int .i64)])) := [⟨0, [(3, (.d (.int .i64))), (7, (.d (.sl (.st 0)))), (8, (.d (.int .i64))), (9, (.d (.int .i64)))], fun k h => conf_count.l0 k h.1 h.2.1 h.2.2.1 h.2.2.2.1⟩]
theorem conf_count.ok : ∀ k : Nat, (conf_count.e k).Sound Tryz.prog ctx 130 :=
  entry_rec base_ok mo (fn := Tryz.f130) (b := (Tryz.f130.body.getD .skip)) (pm := [(.d (.st 0))]) (rs := [(.int .i64)]) (an := conf_count.a) (N := 21) (vars := [(.tmp 2)]) Tryz.func130 (by kernel_rfl) (by kernel_rfl) (by kernel_rfl) (by kernel_rfl) (by kernel_rfl) (by kernel_rfl) (O := conf_count.O) conf_count.T ⟨⟨by kernel_rfl, fun _ => by first | rfl | rw [conf_count.l0], fun k h => conf_count.l0_eq k h.1 h.2.1 h.2.2.1 h.2.2.2.1⟩, trivial⟩ (F := fun k h => conf_count.f k h.1) (fun _ => by first | rfl | rw [conf_count.f]) (fun k h => conf_count.f_eq k h.1)
    (fun k own => by unfold conf_count.O; exact oracle_of (P := Tryz.prog) (C := ctx) ⟨own, trivial⟩)
mutual
def conf_levels.l0 : Nat → Int → (List T_api_Value) → Int → Int → Option (Int)
  | 0, _, _, _, _ => none
  | k + 1, x3, x7, x8, x9 => (bif (ilt x9 x8) then ((lat x7 x9).bind fun y1 => ((conf_levels.f k (T_api_Value.mk y1.fKind y1.fBool y1.fInt y1.fText y1.fItems y1.fKeys)).bind fun y2 => (conf_levels.l0 k (imax x3 y2) x7 x8 (wadd .i64 x9 1)))) else (some (wadd .i64 x3 1)))
def conf_levels.f : Nat → T_api_Value → Option (Int)
  | 0, _ => none
  | k + 1, a0 => (conf_levels.l0 k 0 a0.fItems (llen a0.fItems) 0)
end
def conf_levels.e (k : Nat) : Entry sg := entryOf sg [(.d (.st 0))] [(.int .i64)] (fun h => conf_levels.f k h.1)
def conf_levels.O (k : Nat) : Oracle sg := fun n => lkp n [(131, conf_levels.e k)]
def conf_levels.a : Ann := (.n .z (.n .z (.n (.n .z (.lp 0 .z)) .z)))
def conf_levels.L (k : Nat) : Nat → St sg.U → Option (RT sg.U [(.int .i64)]) := labs [(0, labOf sg [(3, (.d (.int .i64))), (7, (.d (.sl (.st 0)))), (8, (.d (.int .i64))), (9, (.d (.int .i64)))] (fun h => conf_levels.l0 k h.1 h.2.1 h.2.2.1 h.2.2.2.1))]
theorem conf_levels.l0_eq (k : Nat) (x3 : Int) (x7 : (List T_api_Value)) (x8 : Int) (x9 : Int) : conf_levels.l0 (k + 1) x3 x7 x8 x9 = runFrom (C := ctx) (conf_levels.O k) ⟨20, [], []⟩ (conf_levels.L k) (Tryz.f131.body.getD .skip) conf_levels.a 0 (endK ctx [(.int .i64)] [(.tmp 2)]) (encD [(3, (.d (.int .i64))), (7, (.d (.sl (.st 0)))), (8, (.d (.int .i64))), (9, (.d (.int .i64)))] (x3, x7, x8, x9, ()) (startD sg.U ⟨20, [], []⟩ [(3, (.d (.int .i64))), (7, (.d (.sl (.st 0)))), (8, (.d (.int .i64))), (9, (.d (.int .i64)))])) := by
  rw [conf_levels.l0]
  kernel_rfl
theorem conf_levels.f_eq (k : Nat) (a0 : T_api_Value) : conf_levels.f (k + 1) a0 = codeK (C := ctx) (conf_levels.O k) ⟨20, [], []⟩ (conf_levels.L k) (Tryz.f131.body.getD .skip) conf_levels.a (endK ctx [(.int .i64)] [(.tmp 2)]) (slotsOf sg.U 0 [(.d (.st 0))] (a0, ()) (empty sg.U)) := by
  rw [conf_levels.f]
  kernel_rfl
def conf_levels.T : List (Lb sg (RT sg.U [(.int .i64)])) := [⟨0, [(3, (.d (.int .i64))), (7, (.d (.sl (.st 0)))), (8, (.d (.int .i64))), (9, (.d (.int .i64)))], fun k h => conf_levels.l0 k h.1 h.2.1 h.2.2.1 h.2.2.2.1⟩]
theorem conf_levels.ok : ∀ k : Nat, (conf_levels.e k).Sound Tryz.prog ctx 131 :=
  entry_rec base_ok mo (fn := Tryz.f131) (b := (Tryz.f131.body.getD .skip)) (pm := [(.d (.st 0))]) (rs := [(.int .i64)]) (an := conf_levels.a) (N := 20) (vars := [(.tmp 2)]) Tryz.func131 (by kernel_rfl) (by kernel_rfl) (by kernel_rfl) (by kernel_rfl) (by kernel_rfl) (by kernel_rfl) (O := conf_levels.O) conf_levels.T ⟨⟨by kernel_rfl, fun _ => by first | rfl | rw [conf_levels.l0], fun k h => conf_levels.l0_eq k h.1 h.2.1 h.2.2.1 h.2.2.2.1⟩, trivial⟩ (F := fun k h => conf_levels.f k h.1) (fun _ => by first | rfl | rw [conf_levels.f]) (fun k h => conf_levels.f_eq k h.1)
    (fun k own => by unfold conf_levels.O; exact oracle_of (P := Tryz.prog) (C := ctx) ⟨own, trivial⟩)
def conf_unused.l0 : Nat → Int → Bool → Int → ByteArray → (List T_api_Value) → (List ByteArray) → Int → Bool → Option (Bool)
  | 0, _, _, _, _, _, _, _, _ => none
  | k + 1, x1_0, x1_1, x1_2, x1_3, x1_4, x1_5, x3, x6 => (bif x6 then (some true) else (bif (bif (bif (ilt 0 (llen x1_4)) then (!ieq x3 5) else false) then (!ieq x3 6) else false) then (some true) else (bif (bif (ilt 0 (llen x1_5)) then (!ieq x3 6) else false) then (some true) else (some (bif (ieq x3 6) then (!ieq (llen x1_5) (llen x1_4)) else false)))))
def conf_unused.f (k : Nat) (a0 : T_api_Value) : Option (Bool) := (bif (bif a0.fBool then (!ieq a0.fKind 1) else false) then (conf_unused.l0 k a0.fKind a0.fBool a0.fInt a0.fText a0.fItems a0.fKeys a0.fKind true) else (bif (bif (bif (!ieq a0.fInt 0) then (!ieq a0.fKind 2) else false) then (!ieq a0.fKind 4) else false) then (conf_unused.l0 k a0.fKind a0.fBool a0.fInt a0.fText a0.fItems a0.fKeys a0.fKind true) else (conf_unused.l0 k a0.fKind a0.fBool a0.fInt a0.fText a0.fItems a0.fKeys a0.fKind (bif (!seq a0.fText c_empty) then (!ieq a0.fKind 3) else false))))
def conf_unused.O (k : Nat) : Oracle sg := fun n => lkp n []
def conf_unused.a : Ann := (.n .z (.n .z (.n (.n .z (.lab 0 .z)) .z)))
def conf_unused.L (k : Nat) : Nat → St sg.U → Option (RT sg.U [.bool]) := labs [(0, labOf sg [(1, (.box [.d (.int .i64), .d .bool, .d (.int .i64), .d .str, .d (.sl (.st 0)), .d (.sl .str)])), (3, (.d (.int .i64))), (6, (.d .bool))] (fun h => conf_unused.l0 k h.1 h.2.1 h.2.2.1 h.2.2.2.1 h.2.2.2.2.1 h.2.2.2.2.2.1 h.2.2.2.2.2.2.1 h.2.2.2.2.2.2.2.1))]
theorem conf_unused.l0_eq (k : Nat) (x1_0 : Int) (x1_1 : Bool) (x1_2 : Int) (x1_3 : ByteArray) (x1_4 : (List T_api_Value)) (x1_5 : (List ByteArray)) (x3 : Int) (x6 : Bool) : conf_unused.l0 (k + 1) x1_0 x1_1 x1_2 x1_3 x1_4 x1_5 x3 x6 = runFrom (C := ctx) (conf_unused.O k) ⟨63, [], []⟩ (conf_unused.L k) (Tryz.f261.body.getD .skip) conf_unused.a 0 (endK ctx [.bool] [(.tmp 2)]) (encD [(1, (.box [.d (.int .i64), .d .bool, .d (.int .i64), .d .str, .d (.sl (.st 0)), .d (.sl .str)])), (3, (.d (.int .i64))), (6, (.d .bool))] (x1_0, x1_1, x1_2, x1_3, x1_4, x1_5, x3, x6, ()) (startD sg.U ⟨63, [], []⟩ [(1, (.box [.d (.int .i64), .d .bool, .d (.int .i64), .d .str, .d (.sl (.st 0)), .d (.sl .str)])), (3, (.d (.int .i64))), (6, (.d .bool))])) := by
  rw [conf_unused.l0]
  kernel_rfl
theorem conf_unused.f_eq (k : Nat) (a0 : T_api_Value) : conf_unused.f k a0 = codeK (C := ctx) (conf_unused.O k) ⟨63, [], []⟩ (conf_unused.L k) (Tryz.f261.body.getD .skip) conf_unused.a (endK ctx [.bool] [(.tmp 2)]) (slotsOf sg.U 0 [(.d (.st 0))] (a0, ()) (empty sg.U)) := by
  unfold conf_unused.f
  kernel_rfl
def conf_unused.e (k : Nat) : Entry sg := entryOf sg [(.d (.st 0))] [.bool] (fun h => conf_unused.f k h.1)
def conf_unused.T : List (Lb sg (RT sg.U [.bool])) := [⟨0, [(1, (.box [.d (.int .i64), .d .bool, .d (.int .i64), .d .str, .d (.sl (.st 0)), .d (.sl .str)])), (3, (.d (.int .i64))), (6, (.d .bool))], fun k h => conf_unused.l0 k h.1 h.2.1 h.2.2.1 h.2.2.2.1 h.2.2.2.2.1 h.2.2.2.2.2.1 h.2.2.2.2.2.2.1 h.2.2.2.2.2.2.2.1⟩]
theorem conf_unused.ok (k : Nat) : (conf_unused.e k).Sound Tryz.prog ctx 261 :=
  entry_ok base_ok mo (fn := Tryz.f261) (b := (Tryz.f261.body.getD .skip)) (pm := [(.d (.st 0))]) (rs := [.bool]) (an := conf_unused.a) (N := 63) (vars := [(.tmp 2)]) Tryz.func261 (by kernel_rfl) (by kernel_rfl) (by kernel_rfl) (by kernel_rfl) (by kernel_rfl) (by kernel_rfl) (O := conf_unused.O)
    (fun k => by unfold conf_unused.O; exact oracle_of (P := Tryz.prog) (C := ctx) trivial) conf_unused.T ⟨⟨by kernel_rfl, fun _ => by first | rfl | rw [conf_unused.l0], fun k h => conf_unused.l0_eq k h.1 h.2.1 h.2.2.1 h.2.2.2.1 h.2.2.2.2.1 h.2.2.2.2.2.1 h.2.2.2.2.2.2.1 h.2.2.2.2.2.2.2.1⟩, trivial⟩ k (fun h => conf_unused.f_eq k h.1)
def conf_badDay.f (a0 : Int) : Option (Bool) := (some (bif (ilt a0 0) then true else (ilt 84005 a0)))
def conf_badDay.O : Oracle sg := fun n => lkp n []
def conf_badDay.a : Ann := .z
def conf_badDay.L : Nat → St sg.U → Option (RT sg.U [.bool]) := labs []
theorem conf_badDay.f_eq (a0 : Int) : conf_badDay.f a0 = codeK (C := ctx) (conf_badDay.O) ⟨9, [], []⟩ (conf_badDay.L) (Tryz.f262.body.getD .skip) conf_badDay.a (endK ctx [.bool] [(.tmp 2)]) (slotsOf sg.U 0 [(.d (.int .i64))] (a0, ()) (empty sg.U)) := by
  unfold conf_badDay.f
  kernel_rfl
def conf_badDay.e : Entry sg := entryOf sg [(.d (.int .i64))] [.bool] (fun h => conf_badDay.f h.1)
def conf_badDay.T : List (Lb sg (RT sg.U [.bool])) := []
theorem conf_badDay.ok : (conf_badDay.e).Sound Tryz.prog ctx 262 :=
  entry_ok base_ok mo (fn := Tryz.f262) (b := (Tryz.f262.body.getD .skip)) (pm := [(.d (.int .i64))]) (rs := [.bool]) (an := conf_badDay.a) (N := 9) (vars := [(.tmp 2)]) Tryz.func262 (by kernel_rfl) (by kernel_rfl) (by kernel_rfl) (by kernel_rfl) (by kernel_rfl) (by kernel_rfl) (O := fun _ => conf_badDay.O)
    (fun _ => by unfold conf_badDay.O; exact oracle_of (P := Tryz.prog) (C := ctx) trivial) conf_badDay.T trivial 0 (fun h => conf_badDay.f_eq h.1)
def conf_badBytes.l0 : Nat → ByteArray → Int → Option (Bool)
  | 0, _, _ => none
  | k + 1, x0, x3 => (bif (ilt x3 (slen x0)) then ((sat x0 x3).bind fun y1 => (bif (ilt y1 32) then ((sat x0 x3).bind fun y2 => (bif (!ieq y2 9) then ((sat x0 x3).bind fun y3 => (bif (!ieq y3 10) then (some true) else (conf_badBytes.l0 k x0 (wadd .i64 x3 1)))) else (conf_badBytes.l0 k x0 (wadd .i64 x3 1)))) else (conf_badBytes.l0 k x0 (wadd .i64 x3 1)))) else (some false))
def conf_badBytes.f (k : Nat) (a0 : ByteArray) : Option (Bool) := (conf_badBytes.l0 k a0 0)
def conf_badBytes.O (k : Nat) : Oracle sg := fun n => lkp n []
def conf_badBytes.a : Ann := (.n .z (.n (.n .z (.lp 0 .z)) .z))
def conf_badBytes.L (k : Nat) : Nat → St sg.U → Option (RT sg.U [.bool]) := labs [(0, labOf sg [(0, (.d .str)), (3, (.d (.int .i64)))] (fun h => conf_badBytes.l0 k h.1 h.2.1))]
theorem conf_badBytes.l0_eq (k : Nat) (x0 : ByteArray) (x3 : Int) : conf_badBytes.l0 (k + 1) x0 x3 = runFrom (C := ctx) (conf_badBytes.O k) ⟨26, [], []⟩ (conf_badBytes.L k) (Tryz.f235.body.getD .skip) conf_badBytes.a 0 (endK ctx [.bool] [(.tmp 2)]) (encD [(0, (.d .str)), (3, (.d (.int .i64)))] (x0, x3, ()) (startD sg.U ⟨26, [], []⟩ [(0, (.d .str)), (3, (.d (.int .i64)))])) := by
  rw [conf_badBytes.l0]
  kernel_rfl
theorem conf_badBytes.f_eq (k : Nat) (a0 : ByteArray) : conf_badBytes.f k a0 = codeK (C := ctx) (conf_badBytes.O k) ⟨26, [], []⟩ (conf_badBytes.L k) (Tryz.f235.body.getD .skip) conf_badBytes.a (endK ctx [.bool] [(.tmp 2)]) (slotsOf sg.U 0 [(.d .str)] (a0, ()) (empty sg.U)) := by
  unfold conf_badBytes.f
  kernel_rfl
def conf_badBytes.e (k : Nat) : Entry sg := entryOf sg [(.d .str)] [.bool] (fun h => conf_badBytes.f k h.1)
def conf_badBytes.T : List (Lb sg (RT sg.U [.bool])) := [⟨0, [(0, (.d .str)), (3, (.d (.int .i64)))], fun k h => conf_badBytes.l0 k h.1 h.2.1⟩]
theorem conf_badBytes.ok (k : Nat) : (conf_badBytes.e k).Sound Tryz.prog ctx 235 :=
  entry_ok base_ok mo (fn := Tryz.f235) (b := (Tryz.f235.body.getD .skip)) (pm := [(.d .str)]) (rs := [.bool]) (an := conf_badBytes.a) (N := 26) (vars := [(.tmp 2)]) Tryz.func235 (by kernel_rfl) (by kernel_rfl) (by kernel_rfl) (by kernel_rfl) (by kernel_rfl) (by kernel_rfl) (O := conf_badBytes.O)
    (fun k => by unfold conf_badBytes.O; exact oracle_of (P := Tryz.prog) (C := ctx) trivial) conf_badBytes.T ⟨⟨by kernel_rfl, fun _ => by first | rfl | rw [conf_badBytes.l0], fun k h => conf_badBytes.l0_eq k h.1 h.2.1⟩, trivial⟩ k (fun h => conf_badBytes.f_eq k h.1)
def conf_isSmall.f (a0 : Int) : Option (Bool) := (some (bif (ile 97 a0) then (ile a0 122) else false))
def conf_isSmall.O : Oracle sg := fun n => lkp n []
def conf_isSmall.a : Ann := .z
def conf_isSmall.L : Nat → St sg.U → Option (RT sg.U [.bool]) := labs []
theorem conf_isSmall.f_eq (a0 : Int) : conf_isSmall.f a0 = codeK (C := ctx) (conf_isSmall.O) ⟨9, [], []⟩ (conf_isSmall.L) (Tryz.f237.body.getD .skip) conf_isSmall.a (endK ctx [.bool] [(.tmp 2)]) (slotsOf sg.U 0 [(.d (.int .u8))] (a0, ()) (empty sg.U)) := by
  unfold conf_isSmall.f
  kernel_rfl
def conf_isSmall.e : Entry sg := entryOf sg [(.d (.int .u8))] [.bool] (fun h => conf_isSmall.f h.1)
def conf_isSmall.T : List (Lb sg (RT sg.U [.bool])) := []
theorem conf_isSmall.ok : (conf_isSmall.e).Sound Tryz.prog ctx 237 :=
  entry_ok base_ok mo (fn := Tryz.f237) (b := (Tryz.f237.body.getD .skip)) (pm := [(.d (.int .u8))]) (rs := [.bool]) (an := conf_isSmall.a) (N := 9) (vars := [(.tmp 2)]) Tryz.func237 (by kernel_rfl) (by kernel_rfl) (by kernel_rfl) (by kernel_rfl) (by kernel_rfl) (by kernel_rfl) (O := fun _ => conf_isSmall.O)
    (fun _ => by unfold conf_isSmall.O; exact oracle_of (P := Tryz.prog) (C := ctx) trivial) conf_isSmall.T trivial 0 (fun h => conf_isSmall.f_eq h.1)
def conf_isDigit.f (a0 : Int) : Option (Bool) := (some (bif (ile 48 a0) then (ile a0 57) else false))
def conf_isDigit.O : Oracle sg := fun n => lkp n []
def conf_isDigit.a : Ann := .z
def conf_isDigit.L : Nat → St sg.U → Option (RT sg.U [.bool]) := labs []
theorem conf_isDigit.f_eq (a0 : Int) : conf_isDigit.f a0 = codeK (C := ctx) (conf_isDigit.O) ⟨9, [], []⟩ (conf_isDigit.L) (Tryz.f238.body.getD .skip) conf_isDigit.a (endK ctx [.bool] [(.tmp 2)]) (slotsOf sg.U 0 [(.d (.int .u8))] (a0, ()) (empty sg.U)) := by
  unfold conf_isDigit.f
  kernel_rfl
def conf_isDigit.e : Entry sg := entryOf sg [(.d (.int .u8))] [.bool] (fun h => conf_isDigit.f h.1)
def conf_isDigit.T : List (Lb sg (RT sg.U [.bool])) := []
theorem conf_isDigit.ok : (conf_isDigit.e).Sound Tryz.prog ctx 238 :=
  entry_ok base_ok mo (fn := Tryz.f238) (b := (Tryz.f238.body.getD .skip)) (pm := [(.d (.int .u8))]) (rs := [.bool]) (an := conf_isDigit.a) (N := 9) (vars := [(.tmp 2)]) Tryz.func238 (by kernel_rfl) (by kernel_rfl) (by kernel_rfl) (by kernel_rfl) (by kernel_rfl) (by kernel_rfl) (O := fun _ => conf_isDigit.O)
    (fun _ => by unfold conf_isDigit.O; exact oracle_of (P := Tryz.prog) (C := ctx) trivial) conf_isDigit.T trivial 0 (fun h => conf_isDigit.f_eq h.1)
def conf_isKey.l0 : Nat → ByteArray → Int → Option (Bool)
  | 0, _, _ => none
  | k + 1, x0, x3 => (bif (ilt x3 (slen x0)) then ((sat x0 x3).bind fun y3 => ((conf_isSmall.f y3).bind fun y4 => (bif (!y4) then ((sat x0 x3).bind fun y5 => ((conf_isDigit.f y5).bind fun y6 => (bif (!y6) then ((sat x0 x3).bind fun y7 => (bif (!ieq y7 45) then ((sat x0 x3).bind fun y8 => (bif (!ieq y8 95) then (some false) else (conf_isKey.l0 k x0 (wadd .i64 x3 1)))) else (conf_isKey.l0 k x0 (wadd .i64 x3 1)))) else (conf_isKey.l0 k x0 (wadd .i64 x3 1))))) else (conf_isKey.l0 k x0 (wadd .i64 x3 1))))) else (some true))
def conf_isKey.f (k : Nat) (a0 : ByteArray) : Option (Bool) := (bif (bif (seq a0 c_empty) then true else (ilt 40 (slen a0))) then (some false) else ((sat a0 0).bind fun y1 => ((conf_isSmall.f y1).bind fun y2 => (bif (!y2) then (some false) else (conf_isKey.l0 k a0 1)))))
def conf_isKey.O (k : Nat) : Oracle sg := fun n => lkp n [(237, conf_isSmall.e), (238, conf_isDigit.e)]
def conf_isKey.a : Ann := (.n .z (.n .z (.n (.n .z (.lp 0 .z)) .z)))
def conf_isKey.L (k : Nat) : Nat → St sg.U → Option (RT sg.U [.bool]) := labs [(0, labOf sg [(0, (.d .str)), (3, (.d (.int .i64)))] (fun h => conf_isKey.l0 k h.1 h.2.1))]
theorem conf_isKey.l0_eq (k : Nat) (x0 : ByteArray) (x3 : Int) : conf_isKey.l0 (k + 1) x0 x3 = runFrom (C := ctx) (conf_isKey.O k) ⟨47, [], []⟩ (conf_isKey.L k) (Tryz.f173.body.getD .skip) conf_isKey.a 0 (endK ctx [.bool] [(.tmp 2)]) (encD [(0, (.d .str)), (3, (.d (.int .i64)))] (x0, x3, ()) (startD sg.U ⟨47, [], []⟩ [(0, (.d .str)), (3, (.d (.int .i64)))])) := by
  rw [conf_isKey.l0]
  kernel_rfl
theorem conf_isKey.f_eq (k : Nat) (a0 : ByteArray) : conf_isKey.f k a0 = codeK (C := ctx) (conf_isKey.O k) ⟨47, [], []⟩ (conf_isKey.L k) (Tryz.f173.body.getD .skip) conf_isKey.a (endK ctx [.bool] [(.tmp 2)]) (slotsOf sg.U 0 [(.d .str)] (a0, ()) (empty sg.U)) := by
  unfold conf_isKey.f
  kernel_rfl
def conf_isKey.e (k : Nat) : Entry sg := entryOf sg [(.d .str)] [.bool] (fun h => conf_isKey.f k h.1)
def conf_isKey.T : List (Lb sg (RT sg.U [.bool])) := [⟨0, [(0, (.d .str)), (3, (.d (.int .i64)))], fun k h => conf_isKey.l0 k h.1 h.2.1⟩]
theorem conf_isKey.ok (k : Nat) : (conf_isKey.e k).Sound Tryz.prog ctx 173 :=
  entry_ok base_ok mo (fn := Tryz.f173) (b := (Tryz.f173.body.getD .skip)) (pm := [(.d .str)]) (rs := [.bool]) (an := conf_isKey.a) (N := 47) (vars := [(.tmp 2)]) Tryz.func173 (by kernel_rfl) (by kernel_rfl) (by kernel_rfl) (by kernel_rfl) (by kernel_rfl) (by kernel_rfl) (O := conf_isKey.O)
    (fun k => by unfold conf_isKey.O; exact oracle_of (P := Tryz.prog) (C := ctx) ⟨(conf_isSmall.ok), ⟨(conf_isDigit.ok), trivial⟩⟩) conf_isKey.T ⟨⟨by kernel_rfl, fun _ => by first | rfl | rw [conf_isKey.l0], fun k h => conf_isKey.l0_eq k h.1 h.2.1⟩, trivial⟩ k (fun h => conf_isKey.f_eq k h.1)
mutual
def conf_valueFault.l0 : Nat → Int → Bool → Int → ByteArray → (List T_api_Value) → (List ByteArray) → Bool → Option (Int)
  | 0, _, _, _, _, _, _, _ => none
  | k + 1, x1_0, x1_1, x1_2, x1_3, x1_4, x1_5, x17 => (bif x17 then (some 2) else (bif (ilt 5000 (slen x1_3)) then (some 4) else ((conf_badBytes.f k x1_3).bind fun y3 => (bif y3 then (some 9) else (conf_valueFault.l1 k x1_0 x1_1 x1_2 x1_3 x1_4 x1_5 x1_5 (llen x1_5) 0)))))
def conf_valueFault.l1 : Nat → Int → Bool → Int → ByteArray → (List T_api_Value) → (List ByteArray) → (List ByteArray) → Int → Int → Option (Int)
  | 0, _, _, _, _, _, _, _, _, _ => none
  | k + 1, x1_0, x1_1, x1_2, x1_3, x1_4, x1_5, x36, x37, x38 => (bif (ilt x38 x37) then ((lat x36 x38).bind fun y4 => ((conf_isKey.f k y4).bind fun y5 => (bif (!y5) then (some 12) else (bif (ilt 0 x38) then ((lat x1_5 (wsub .i64 x38 1)).bind fun y6 => (bif (sle y4 y6) then (some 5) else (conf_valueFault.l1 k x1_0 x1_1 x1_2 x1_3 x1_4 x1_5 x36 x37 (wadd .i64 x38 1)))) else (conf_valueFault.l1 k x1_0 x1_1 x1_2 x1_3 x1_4 x1_5 x36 x37 (wadd .i64 x38 1)))))) else (some 0))
end
def conf_valueFault.f (k : Nat) (a0 : T_api_Value) : Option (Int) := (bif (bif (ilt a0.fKind 0) then true else (ilt 6 a0.fKind)) then (some 10) else ((conf_unused.f k (T_api_Value.mk a0.fKind a0.fBool a0.fInt a0.fText a0.fItems a0.fKeys)).bind fun y1 => (bif y1 then (some 1) else (bif (ieq a0.fKind 4) then ((conf_badDay.f a0.fInt).bind fun y2 => (conf_valueFault.l0 k a0.fKind a0.fBool a0.fInt a0.fText a0.fItems a0.fKeys y2)) else (conf_valueFault.l0 k a0.fKind a0.fBool a0.fInt a0.fText a0.fItems a0.fKeys false)))))
def conf_valueFault.O (k : Nat) : Oracle sg := fun n => lkp n [(173, conf_isKey.e k), (235, conf_badBytes.e k), (261, conf_unused.e k), (262, conf_badDay.e)]
def conf_valueFault.a : Ann := (.n .z (.n (.n .z (.n .z (.n .z (.n .z (.n .z (.lab 0 .z)))))) (.n (.n .z (.lp 1 .z)) .z)))
def conf_valueFault.L (k : Nat) : Nat → St sg.U → Option (RT sg.U [(.int .i64)]) := labs [(0, labOf sg [(1, (.box [.d (.int .i64), .d .bool, .d (.int .i64), .d .str, .d (.sl (.st 0)), .d (.sl .str)])), (17, (.d .bool))] (fun h => conf_valueFault.l0 k h.1 h.2.1 h.2.2.1 h.2.2.2.1 h.2.2.2.2.1 h.2.2.2.2.2.1 h.2.2.2.2.2.2.1)), (1, labOf sg [(1, (.box [.d (.int .i64), .d .bool, .d (.int .i64), .d .str, .d (.sl (.st 0)), .d (.sl .str)])), (36, (.d (.sl .str))), (37, (.d (.int .i64))), (38, (.d (.int .i64)))] (fun h => conf_valueFault.l1 k h.1 h.2.1 h.2.2.1 h.2.2.2.1 h.2.2.2.2.1 h.2.2.2.2.2.1 h.2.2.2.2.2.2.1 h.2.2.2.2.2.2.2.1 h.2.2.2.2.2.2.2.2.1))]
theorem conf_valueFault.l0_eq (k : Nat) (x1_0 : Int) (x1_1 : Bool) (x1_2 : Int) (x1_3 : ByteArray) (x1_4 : (List T_api_Value)) (x1_5 : (List ByteArray)) (x17 : Bool) : conf_valueFault.l0 (k + 1) x1_0 x1_1 x1_2 x1_3 x1_4 x1_5 x17 = runFrom (C := ctx) (conf_valueFault.O k) ⟨59, [], []⟩ (conf_valueFault.L k) (Tryz.f208.body.getD .skip) conf_valueFault.a 0 (endK ctx [(.int .i64)] [(.tmp 2)]) (encD [(1, (.box [.d (.int .i64), .d .bool, .d (.int .i64), .d .str, .d (.sl (.st 0)), .d (.sl .str)])), (17, (.d .bool))] (x1_0, x1_1, x1_2, x1_3, x1_4, x1_5, x17, ()) (startD sg.U ⟨59, [], []⟩ [(1, (.box [.d (.int .i64), .d .bool, .d (.int .i64), .d .str, .d (.sl (.st 0)), .d (.sl .str)])), (17, (.d .bool))])) := by
  rw [conf_valueFault.l0]
  kernel_rfl
theorem conf_valueFault.l1_eq (k : Nat) (x1_0 : Int) (x1_1 : Bool) (x1_2 : Int) (x1_3 : ByteArray) (x1_4 : (List T_api_Value)) (x1_5 : (List ByteArray)) (x36 : (List ByteArray)) (x37 : Int) (x38 : Int) : conf_valueFault.l1 (k + 1) x1_0 x1_1 x1_2 x1_3 x1_4 x1_5 x36 x37 x38 = runFrom (C := ctx) (conf_valueFault.O k) ⟨59, [], []⟩ (conf_valueFault.L k) (Tryz.f208.body.getD .skip) conf_valueFault.a 1 (endK ctx [(.int .i64)] [(.tmp 2)]) (encD [(1, (.box [.d (.int .i64), .d .bool, .d (.int .i64), .d .str, .d (.sl (.st 0)), .d (.sl .str)])), (36, (.d (.sl .str))), (37, (.d (.int .i64))), (38, (.d (.int .i64)))] (x1_0, x1_1, x1_2, x1_3, x1_4, x1_5, x36, x37, x38, ()) (startD sg.U ⟨59, [], []⟩ [(1, (.box [.d (.int .i64), .d .bool, .d (.int .i64), .d .str, .d (.sl (.st 0)), .d (.sl .str)])), (36, (.d (.sl .str))), (37, (.d (.int .i64))), (38, (.d (.int .i64)))])) := by
  rw [conf_valueFault.l1]
  kernel_rfl
theorem conf_valueFault.f_eq (k : Nat) (a0 : T_api_Value) : conf_valueFault.f k a0 = codeK (C := ctx) (conf_valueFault.O k) ⟨59, [], []⟩ (conf_valueFault.L k) (Tryz.f208.body.getD .skip) conf_valueFault.a (endK ctx [(.int .i64)] [(.tmp 2)]) (slotsOf sg.U 0 [(.d (.st 0))] (a0, ()) (empty sg.U)) := by
  unfold conf_valueFault.f
  kernel_rfl
def conf_valueFault.e (k : Nat) : Entry sg := entryOf sg [(.d (.st 0))] [(.int .i64)] (fun h => conf_valueFault.f k h.1)
def conf_valueFault.T : List (Lb sg (RT sg.U [(.int .i64)])) := [⟨0, [(1, (.box [.d (.int .i64), .d .bool, .d (.int .i64), .d .str, .d (.sl (.st 0)), .d (.sl .str)])), (17, (.d .bool))], fun k h => conf_valueFault.l0 k h.1 h.2.1 h.2.2.1 h.2.2.2.1 h.2.2.2.2.1 h.2.2.2.2.2.1 h.2.2.2.2.2.2.1⟩, ⟨1, [(1, (.box [.d (.int .i64), .d .bool, .d (.int .i64), .d .str, .d (.sl (.st 0)), .d (.sl .str)])), (36, (.d (.sl .str))), (37, (.d (.int .i64))), (38, (.d (.int .i64)))], fun k h => conf_valueFault.l1 k h.1 h.2.1 h.2.2.1 h.2.2.2.1 h.2.2.2.2.1 h.2.2.2.2.2.1 h.2.2.2.2.2.2.1 h.2.2.2.2.2.2.2.1 h.2.2.2.2.2.2.2.2.1⟩]
theorem conf_valueFault.ok (k : Nat) : (conf_valueFault.e k).Sound Tryz.prog ctx 208 :=
  entry_ok base_ok mo (fn := Tryz.f208) (b := (Tryz.f208.body.getD .skip)) (pm := [(.d (.st 0))]) (rs := [(.int .i64)]) (an := conf_valueFault.a) (N := 59) (vars := [(.tmp 2)]) Tryz.func208 (by kernel_rfl) (by kernel_rfl) (by kernel_rfl) (by kernel_rfl) (by kernel_rfl) (by kernel_rfl) (O := conf_valueFault.O)
    (fun k => by unfold conf_valueFault.O; exact oracle_of (P := Tryz.prog) (C := ctx) ⟨(conf_isKey.ok k), ⟨(conf_badBytes.ok k), ⟨(conf_unused.ok k), ⟨(conf_badDay.ok), trivial⟩⟩⟩⟩) conf_valueFault.T ⟨⟨by kernel_rfl, fun _ => by first | rfl | rw [conf_valueFault.l0], fun k h => conf_valueFault.l0_eq k h.1 h.2.1 h.2.2.1 h.2.2.2.1 h.2.2.2.2.1 h.2.2.2.2.2.1 h.2.2.2.2.2.2.1⟩, ⟨⟨by kernel_rfl, fun _ => by first | rfl | rw [conf_valueFault.l1], fun k h => conf_valueFault.l1_eq k h.1 h.2.1 h.2.2.1 h.2.2.2.1 h.2.2.2.2.1 h.2.2.2.2.2.1 h.2.2.2.2.2.2.1 h.2.2.2.2.2.2.2.1 h.2.2.2.2.2.2.2.2.1⟩, trivial⟩⟩ k (fun h => conf_valueFault.f_eq k h.1)
mutual
def conf_valuesFault.l0 : Nat → (List T_api_Value) → Int → Int → Option (Int)
  | 0, _, _, _ => none
  | k + 1, x13, x14, x15 => (bif (ilt x15 x14) then ((lat x13 x15).bind fun y2 => ((conf_valuesFault.f k (T_api_Value.mk y2.fKind y2.fBool y2.fInt y2.fText y2.fItems y2.fKeys)).bind fun y3 => (bif (!ieq y3 0) then (some y3) else (conf_valuesFault.l0 k x13 x14 (wadd .i64 x15 1))))) else (some 0))
def conf_valuesFault.f : Nat → T_api_Value → Option (Int)
  | 0, _ => none
  | k + 1, a0 => ((conf_valueFault.f k (T_api_Value.mk a0.fKind a0.fBool a0.fInt a0.fText a0.fItems a0.fKeys)).bind fun y1 => (bif (!ieq y1 0) then (some y1) else (conf_valuesFault.l0 k a0.fItems (llen a0.fItems) 0)))
end
def conf_valuesFault.e (k : Nat) : Entry sg := entryOf sg [(.d (.st 0))] [(.int .i64)] (fun h => conf_valuesFault.f k h.1)
def conf_valuesFault.O (k : Nat) : Oracle sg := fun n => lkp n [(132, conf_valuesFault.e k), (208, conf_valueFault.e k)]
def conf_valuesFault.a : Ann := (.n .z (.n .z (.n (.n .z (.lp 0 .z)) .z)))
def conf_valuesFault.L (k : Nat) : Nat → St sg.U → Option (RT sg.U [(.int .i64)]) := labs [(0, labOf sg [(13, (.d (.sl (.st 0)))), (14, (.d (.int .i64))), (15, (.d (.int .i64)))] (fun h => conf_valuesFault.l0 k h.1 h.2.1 h.2.2.1))]
theorem conf_valuesFault.l0_eq (k : Nat) (x13 : (List T_api_Value)) (x14 : Int) (x15 : Int) : conf_valuesFault.l0 (k + 1) x13 x14 x15 = runFrom (C := ctx) (conf_valuesFault.O k) ⟨25, [], []⟩ (conf_valuesFault.L k) (Tryz.f132.body.getD .skip) conf_valuesFault.a 0 (endK ctx [(.int .i64)] [(.tmp 2)]) (encD [(13, (.d (.sl (.st 0)))), (14, (.d (.int .i64))), (15, (.d (.int .i64)))] (x13, x14, x15, ()) (startD sg.U ⟨25, [], []⟩ [(13, (.d (.sl (.st 0)))), (14, (.d (.int .i64))), (15, (.d (.int .i64)))])) := by
  rw [conf_valuesFault.l0]
  kernel_rfl
theorem conf_valuesFault.f_eq (k : Nat) (a0 : T_api_Value) : conf_valuesFault.f (k + 1) a0 = codeK (C := ctx) (conf_valuesFault.O k) ⟨25, [], []⟩ (conf_valuesFault.L k) (Tryz.f132.body.getD .skip) conf_valuesFault.a (endK ctx [(.int .i64)] [(.tmp 2)]) (slotsOf sg.U 0 [(.d (.st 0))] (a0, ()) (empty sg.U)) := by
  rw [conf_valuesFault.f]
  kernel_rfl
def conf_valuesFault.T : List (Lb sg (RT sg.U [(.int .i64)])) := [⟨0, [(13, (.d (.sl (.st 0)))), (14, (.d (.int .i64))), (15, (.d (.int .i64)))], fun k h => conf_valuesFault.l0 k h.1 h.2.1 h.2.2.1⟩]
theorem conf_valuesFault.ok : ∀ k : Nat, (conf_valuesFault.e k).Sound Tryz.prog ctx 132 :=
  entry_rec base_ok mo (fn := Tryz.f132) (b := (Tryz.f132.body.getD .skip)) (pm := [(.d (.st 0))]) (rs := [(.int .i64)]) (an := conf_valuesFault.a) (N := 25) (vars := [(.tmp 2)]) Tryz.func132 (by kernel_rfl) (by kernel_rfl) (by kernel_rfl) (by kernel_rfl) (by kernel_rfl) (by kernel_rfl) (O := conf_valuesFault.O) conf_valuesFault.T ⟨⟨by kernel_rfl, fun _ => by first | rfl | rw [conf_valuesFault.l0], fun k h => conf_valuesFault.l0_eq k h.1 h.2.1 h.2.2.1⟩, trivial⟩ (F := fun k h => conf_valuesFault.f k h.1) (fun _ => by first | rfl | rw [conf_valuesFault.f]) (fun k h => conf_valuesFault.f_eq k h.1)
    (fun k own => by unfold conf_valuesFault.O; exact oracle_of (P := Tryz.prog) (C := ctx) ⟨own, ⟨(conf_valueFault.ok k), trivial⟩⟩)
def conf_Check.f (k : Nat) (a0 : T_api_Value) : Option (Int) := ((conf_count.f k (T_api_Value.mk a0.fKind a0.fBool a0.fInt a0.fText a0.fItems a0.fKeys)).bind fun y1 => (bif (ilt 1000 y1) then (some 4) else ((conf_levels.f k (T_api_Value.mk a0.fKind a0.fBool a0.fInt a0.fText a0.fItems a0.fKeys)).bind fun y2 => (bif (ilt 8 y2) then (some 13) else ((conf_valuesFault.f k (T_api_Value.mk a0.fKind a0.fBool a0.fInt a0.fText a0.fItems a0.fKeys)).bind fun y3 => (some y3))))))
def conf_Check.O (k : Nat) : Oracle sg := fun n => lkp n [(130, conf_count.e k), (131, conf_levels.e k), (132, conf_valuesFault.e k)]
def conf_Check.a : Ann := .z
def conf_Check.L (k : Nat) : Nat → St sg.U → Option (RT sg.U [(.int .i64)]) := labs []
theorem conf_Check.f_eq (k : Nat) (a0 : T_api_Value) : conf_Check.f k a0 = codeK (C := ctx) (conf_Check.O k) ⟨11, [], []⟩ (conf_Check.L k) (Tryz.f55.body.getD .skip) conf_Check.a (endK ctx [(.int .i64)] [(.tmp 2)]) (slotsOf sg.U 0 [(.d (.st 0))] (a0, ()) (empty sg.U)) := by
  unfold conf_Check.f
  kernel_rfl
def conf_Check.e (k : Nat) : Entry sg := entryOf sg [(.d (.st 0))] [(.int .i64)] (fun h => conf_Check.f k h.1)
def conf_Check.T : List (Lb sg (RT sg.U [(.int .i64)])) := []
theorem conf_Check.ok (k : Nat) : (conf_Check.e k).Sound Tryz.prog ctx 55 :=
  entry_ok base_ok mo (fn := Tryz.f55) (b := (Tryz.f55.body.getD .skip)) (pm := [(.d (.st 0))]) (rs := [(.int .i64)]) (an := conf_Check.a) (N := 11) (vars := [(.tmp 2)]) Tryz.func55 (by kernel_rfl) (by kernel_rfl) (by kernel_rfl) (by kernel_rfl) (by kernel_rfl) (by kernel_rfl) (O := conf_Check.O)
    (fun k => by unfold conf_Check.O; exact oracle_of (P := Tryz.prog) (C := ctx) ⟨(conf_count.ok k), ⟨(conf_levels.ok k), ⟨(conf_valuesFault.ok k), trivial⟩⟩⟩) conf_Check.T trivial k (fun h => conf_Check.f_eq k h.1)
def strconv_Itoa.f (a0 : Int) : Option (ByteArray) := if -9223372036854775808 ≤ a0 ∧ a0 ≤ 9223372036854775807 then some (⟨(Lib.itoa a0).toArray⟩) else none
def strconv_Itoa.e : Entry sg := entryOf sg [(.d (.int .i64))] [.str] (fun h => strconv_Itoa.f h.1)
theorem strconv_Itoa.ok : (strconv_Itoa.e).Sound Tryz.prog ctx 209 :=
  entry_extern (C := ctx) sg_ok Tryz.func209 (by kernel_rfl) (by kernel_rfl) (by kernel_rfl) (by kernel_rfl) (fun hh x w hx hG => by
    unfold strconv_Itoa.f at hx
    split at hx
    · rename_i c
      obtain rfl := Option.some.inj hx
      have htab : Lib.TabIs Tryz.prog w "internal/strconv.uint64pow10" .u64 Lib.pow10Tab := var_of (k := 6) (by kernel_rfl) (hG 6 (by simp [ctx, sg])) rfl
      refine (Tryz.strconv_Itoa hh.1 c.1 c.2 w htab).mono ?_
      rintro e w' ⟨rfl, hb⟩
      exact ⟨rfl, by first | exact hb ▸ Grow.refl _ | exact Grow.of_below hb | (obtain ⟨k, os, rfl⟩ := hb; exact Grow.of_below (Lib.below_grow _ w (Nat.le_refl _) k os))⟩
    · cases hx)
def conf_part.f (a0 : T_api_Value) (a1 : Int) : Option (ByteArray) := (bif (ieq a0.fKind 6) then ((lat a0.fKeys a1).bind fun y1 => (some y1)) else ((strconv_Itoa.f a1).bind fun y2 => (some y2)))
def conf_part.O : Oracle sg := fun n => lkp n [(209, strconv_Itoa.e)]
def conf_part.a : Ann := .z
def conf_part.L : Nat → St sg.U → Option (RT sg.U [.str]) := labs []
theorem conf_part.f_eq (a0 : T_api_Value) (a1 : Int) : conf_part.f a0 a1 = codeK (C := ctx) (conf_part.O) ⟨15, [], []⟩ (conf_part.L) (Tryz.f134.body.getD .skip) conf_part.a (endK ctx [.str] [(.tmp 4)]) (slotsOf sg.U 0 [(.d (.st 0)), (.d (.int .i64))] (a0, a1, ()) (empty sg.U)) := by
  unfold conf_part.f
  kernel_rfl
def conf_part.e : Entry sg := entryOf sg [(.d (.st 0)), (.d (.int .i64))] [.str] (fun h => conf_part.f h.1 h.2.1)
def conf_part.T : List (Lb sg (RT sg.U [.str])) := []
theorem conf_part.ok : (conf_part.e).Sound Tryz.prog ctx 134 :=
  entry_ok base_ok mo (fn := Tryz.f134) (b := (Tryz.f134.body.getD .skip)) (pm := [(.d (.st 0)), (.d (.int .i64))]) (rs := [.str]) (an := conf_part.a) (N := 15) (vars := [(.tmp 4)]) Tryz.func134 (by kernel_rfl) (by kernel_rfl) (by kernel_rfl) (by kernel_rfl) (by kernel_rfl) (by kernel_rfl) (O := fun _ => conf_part.O)
    (fun _ => by unfold conf_part.O; exact oracle_of (P := Tryz.prog) (C := ctx) ⟨(strconv_Itoa.ok), trivial⟩) conf_part.T trivial 0 (fun h => conf_part.f_eq h.1 h.2.1)
def conf_joined.f (a0 : ByteArray) (a1 : ByteArray) : Option (ByteArray) := (bif (seq a0 c_empty) then (some a1) else ((scat a0 c__2e).bind fun y1 => ((scat y1 a1).bind fun y2 => (some y2))))
def conf_joined.O : Oracle sg := fun n => lkp n []
def conf_joined.a : Ann := .z
def conf_joined.L : Nat → St sg.U → Option (RT sg.U [.str]) := labs []
theorem conf_joined.f_eq (a0 : ByteArray) (a1 : ByteArray) : conf_joined.f a0 a1 = codeK (C := ctx) (conf_joined.O) ⟨12, [], []⟩ (conf_joined.L) (Tryz.f133.body.getD .skip) conf_joined.a (endK ctx [.str] [(.tmp 4)]) (slotsOf sg.U 0 [(.d .str), (.d .str)] (a0, a1, ()) (empty sg.U)) := by
  unfold conf_joined.f
  kernel_rfl
def conf_joined.e : Entry sg := entryOf sg [(.d .str), (.d .str)] [.str] (fun h => conf_joined.f h.1 h.2.1)
def conf_joined.T : List (Lb sg (RT sg.U [.str])) := []
theorem conf_joined.ok : (conf_joined.e).Sound Tryz.prog ctx 133 :=
  entry_ok base_ok mo (fn := Tryz.f133) (b := (Tryz.f133.body.getD .skip)) (pm := [(.d .str), (.d .str)]) (rs := [.str]) (an := conf_joined.a) (N := 12) (vars := [(.tmp 4)]) Tryz.func133 (by kernel_rfl) (by kernel_rfl) (by kernel_rfl) (by kernel_rfl) (by kernel_rfl) (by kernel_rfl) (O := fun _ => conf_joined.O)
    (fun _ => by unfold conf_joined.O; exact oracle_of (P := Tryz.prog) (C := ctx) trivial) conf_joined.T trivial 0 (fun h => conf_joined.f_eq h.1 h.2.1)
mutual
def conf_routes.l0 : Nat → (List ByteArray) → ByteArray → Int → Bool → Int → ByteArray → (List T_api_Value) → (List ByteArray) → (List T_api_Value) → Int → Int → Option ((List ByteArray) × Unit)
  | 0, _, _, _, _, _, _, _, _, _, _, _ => none
  | k + 1, x0, x2, x4_0, x4_1, x4_2, x4_3, x4_4, x4_5, x18, x19, x20 => (bif (ilt x20 x19) then ((lat x18 x20).bind fun y2 => ((conf_part.f (T_api_Value.mk x4_0 x4_1 x4_2 x4_3 x4_4 x4_5) x20).bind fun y3 => ((conf_joined.f x2 y3).bind fun y4 => ((conf_routes.f k x0 (T_api_Value.mk y2.fKind y2.fBool y2.fInt y2.fText y2.fItems y2.fKeys) y4).bind fun y5 => (conf_routes.l0 k y5.1 x2 x4_0 x4_1 x4_2 x4_3 x4_4 x4_5 x18 x19 (wadd .i64 x20 1)))))) else (some (x0, (()))))
def conf_routes.f : Nat → (List ByteArray) → T_api_Value → ByteArray → Option ((List ByteArray) × Unit)
  | 0, _, _, _ => none
  | k + 1, a0, a1, a2 => (bif (ieq (llen a1.fItems) 0) then ((lapp 16 a0 [a2]).bind fun y1 => (some (y1, (())))) else (conf_routes.l0 k a0 a2 a1.fKind a1.fBool a1.fInt a1.fText a1.fItems a1.fKeys a1.fItems (llen a1.fItems) 0))
end
def conf_routes.e (k : Nat) : Entry sg := entryW sg 9 .str [(.rw 9 .str), (.d (.st 0)), (.d .str)] [] (fun h => conf_routes.f k h.1 h.2.1 h.2.2.1)
def conf_routes.O (k : Nat) : Oracle sg := fun n => lkp n [(56, conf_routes.e k), (133, conf_joined.e), (134, conf_part.e)]
def conf_routes.a : Ann := (.n .z (.n .z (.n (.n .z (.lp 0 .z)) .z)))
def conf_routes.L (k : Nat) : Nat → St sg.U → Option (RT sg.U [(.sl .str)] × HL sg.U (PM.outs [(.rw 9 .str), (.d (.st 0)), (.d .str)])) := labs [(0, labOf sg [(0, (.row 9 .str)), (2, (.d .str)), (4, (.box [.d (.int .i64), .d .bool, .d (.int .i64), .d .str, .d (.sl (.st 0)), .d (.sl .str)])), (18, (.d (.sl (.st 0)))), (19, (.d (.int .i64))), (20, (.d (.int .i64)))] (fun h => conf_routes.l0 k h.1 h.2.1 h.2.2.1 h.2.2.2.1 h.2.2.2.2.1 h.2.2.2.2.2.1 h.2.2.2.2.2.2.1 h.2.2.2.2.2.2.2.1 h.2.2.2.2.2.2.2.2.1 h.2.2.2.2.2.2.2.2.2.1 h.2.2.2.2.2.2.2.2.2.2.1))]
theorem conf_routes.l0_eq (k : Nat) (x0 : (List ByteArray)) (x2 : ByteArray) (x4_0 : Int) (x4_1 : Bool) (x4_2 : Int) (x4_3 : ByteArray) (x4_4 : (List T_api_Value)) (x4_5 : (List ByteArray)) (x18 : (List T_api_Value)) (x19 : Int) (x20 : Int) : conf_routes.l0 (k + 1) x0 x2 x4_0 x4_1 x4_2 x4_3 x4_4 x4_5 x18 x19 x20 = runFrom (C := ctx) (conf_routes.O k) ⟨35, [], []⟩ (conf_routes.L k) (Tryz.f56.body.getD .skip) conf_routes.a 0 (endW ctx 9 .str [] [(.tmp 6)] [(.rw 9 .str), (.d (.st 0)), (.d .str)]) (encD [(0, (.row 9 .str)), (2, (.d .str)), (4, (.box [.d (.int .i64), .d .bool, .d (.int .i64), .d .str, .d (.sl (.st 0)), .d (.sl .str)])), (18, (.d (.sl (.st 0)))), (19, (.d (.int .i64))), (20, (.d (.int .i64)))] (x0, x2, x4_0, x4_1, x4_2, x4_3, x4_4, x4_5, x18, x19, x20, ()) (startD sg.U ⟨35, [], []⟩ [(0, (.row 9 .str)), (2, (.d .str)), (4, (.box [.d (.int .i64), .d .bool, .d (.int .i64), .d .str, .d (.sl (.st 0)), .d (.sl .str)])), (18, (.d (.sl (.st 0)))), (19, (.d (.int .i64))), (20, (.d (.int .i64)))])) := by
  rw [conf_routes.l0]
  kernel_rfl
theorem conf_routes.f_eq (k : Nat) (a0 : (List ByteArray)) (a1 : T_api_Value) (a2 : ByteArray) : conf_routes.f (k + 1) a0 a1 a2 = codeK (C := ctx) (conf_routes.O k) ⟨35, [], []⟩ (conf_routes.L k) (Tryz.f56.body.getD .skip) conf_routes.a (endW ctx 9 .str [] [(.tmp 6)] [(.rw 9 .str), (.d (.st 0)), (.d .str)]) (slotsOf sg.U 0 [(.rw 9 .str), (.d (.st 0)), (.d .str)] (a0, a1, a2, ()) (emptyG sg.U (PM.gs [(.rw 9 .str), (.d (.st 0)), (.d .str)]))) := by
  rw [conf_routes.f]
  kernel_rfl
def conf_routes.T : List (Lb sg (RT sg.U [(.sl .str)] × HL sg.U (PM.outs [(.rw 9 .str), (.d (.st 0)), (.d .str)]))) := [⟨0, [(0, (.row 9 .str)), (2, (.d .str)), (4, (.box [.d (.int .i64), .d .bool, .d (.int .i64), .d .str, .d (.sl (.st 0)), .d (.sl .str)])), (18, (.d (.sl (.st 0)))), (19, (.d (.int .i64))), (20, (.d (.int .i64)))], fun k h => conf_routes.l0 k h.1 h.2.1 h.2.2.1 h.2.2.2.1 h.2.2.2.2.1 h.2.2.2.2.2.1 h.2.2.2.2.2.2.1 h.2.2.2.2.2.2.2.1 h.2.2.2.2.2.2.2.2.1 h.2.2.2.2.2.2.2.2.2.1 h.2.2.2.2.2.2.2.2.2.2.1⟩]
theorem conf_routes.ok : ∀ k : Nat, (conf_routes.e k).Sound Tryz.prog ctx 56 :=
  entryW_rec base_ok mo (fn := Tryz.f56) (b := (Tryz.f56.body.getD .skip)) (pm := [(.rw 9 .str), (.d (.st 0)), (.d .str)]) (rs := []) (E := 9) (t := .str) (an := conf_routes.a) (N := 35) (vars := [(.tmp 6)]) Tryz.func56 (by kernel_rfl) (by kernel_rfl) (by kernel_rfl) (by kernel_rfl) (by kernel_rfl) (by kernel_rfl) (by kernel_rfl) (by kernel_rfl) (O := conf_routes.O) conf_routes.T ⟨⟨by kernel_rfl, fun _ => by first | rfl | rw [conf_routes.l0], fun k h => conf_routes.l0_eq k h.1 h.2.1 h.2.2.1 h.2.2.2.1 h.2.2.2.2.1 h.2.2.2.2.2.1 h.2.2.2.2.2.2.1 h.2.2.2.2.2.2.2.1 h.2.2.2.2.2.2.2.2.1 h.2.2.2.2.2.2.2.2.2.1 h.2.2.2.2.2.2.2.2.2.2.1⟩, trivial⟩ (F := fun k h => conf_routes.f k h.1 h.2.1 h.2.2.1) (fun _ => by first | rfl | rw [conf_routes.f]) (fun k h => conf_routes.f_eq k h.1 h.2.1 h.2.2.1)
    (fun k own => by unfold conf_routes.O; exact oracle_of (P := Tryz.prog) (C := ctx) ⟨own, ⟨(conf_joined.ok), ⟨(conf_part.ok), trivial⟩⟩⟩)
def conf_routes_nil.l0 : Nat → (List ByteArray) → ByteArray → Int → Bool → Int → ByteArray → (List T_api_Value) → (List ByteArray) → (List T_api_Value) → Int → Int → Option ((List ByteArray))
  | 0, _, _, _, _, _, _, _, _, _, _, _ => none
  | k + 1, x0, x2, x4_0, x4_1, x4_2, x4_3, x4_4, x4_5, x18, x19, x20 => (bif (ilt x20 x19) then ((lat x18 x20).bind fun y2 => ((conf_part.f (T_api_Value.mk x4_0 x4_1 x4_2 x4_3 x4_4 x4_5) x20).bind fun y3 => ((conf_joined.f x2 y3).bind fun y4 => ((conf_routes.f k x0 (T_api_Value.mk y2.fKind y2.fBool y2.fInt y2.fText y2.fItems y2.fKeys) y4).bind fun y5 => (conf_routes_nil.l0 k y5.1 x2 x4_0 x4_1 x4_2 x4_3 x4_4 x4_5 x18 x19 (wadd .i64 x20 1)))))) else (some x0))
def conf_routes_nil.f (k : Nat) (a1 : T_api_Value) (a2 : ByteArray) : Option ((List ByteArray)) := (bif (ieq (llen a1.fItems) 0) then ((lapp 16 [] [a2]).bind fun y1 => (some y1)) else (conf_routes_nil.l0 k [] a2 a1.fKind a1.fBool a1.fInt a1.fText a1.fItems a1.fKeys a1.fItems (llen a1.fItems) 0))
def conf_routes_nil.O (k : Nat) : Oracle sg := fun n => lkp n [(56, conf_routes.e k), (133, conf_joined.e), (134, conf_part.e)]
def conf_routes_nil.a : Ann := (.n .z (.n .z (.n (.n .z (.lp 0 .z)) .z)))
def conf_routes_nil.L (k : Nat) : Nat → St sg.U → Option (RT sg.U [(.sl .str)]) := labs [(0, labOf sg [(0, (.row 9 .str)), (2, (.d .str)), (4, (.box [.d (.int .i64), .d .bool, .d (.int .i64), .d .str, .d (.sl (.st 0)), .d (.sl .str)])), (18, (.d (.sl (.st 0)))), (19, (.d (.int .i64))), (20, (.d (.int .i64)))] (fun h => conf_routes_nil.l0 k h.1 h.2.1 h.2.2.1 h.2.2.2.1 h.2.2.2.2.1 h.2.2.2.2.2.1 h.2.2.2.2.2.2.1 h.2.2.2.2.2.2.2.1 h.2.2.2.2.2.2.2.2.1 h.2.2.2.2.2.2.2.2.2.1 h.2.2.2.2.2.2.2.2.2.2.1))]
theorem conf_routes_nil.l0_eq (k : Nat) (x0 : (List ByteArray)) (x2 : ByteArray) (x4_0 : Int) (x4_1 : Bool) (x4_2 : Int) (x4_3 : ByteArray) (x4_4 : (List T_api_Value)) (x4_5 : (List ByteArray)) (x18 : (List T_api_Value)) (x19 : Int) (x20 : Int) : conf_routes_nil.l0 (k + 1) x0 x2 x4_0 x4_1 x4_2 x4_3 x4_4 x4_5 x18 x19 x20 = runFrom (C := ctx) (conf_routes_nil.O k) ⟨35, [], []⟩ (conf_routes_nil.L k) (Tryz.f56.body.getD .skip) conf_routes_nil.a 0 (endK ctx [(.sl .str)] [(.tmp 6)]) (encD [(0, (.row 9 .str)), (2, (.d .str)), (4, (.box [.d (.int .i64), .d .bool, .d (.int .i64), .d .str, .d (.sl (.st 0)), .d (.sl .str)])), (18, (.d (.sl (.st 0)))), (19, (.d (.int .i64))), (20, (.d (.int .i64)))] (x0, x2, x4_0, x4_1, x4_2, x4_3, x4_4, x4_5, x18, x19, x20, ()) (startD sg.U ⟨35, [], []⟩ [(0, (.row 9 .str)), (2, (.d .str)), (4, (.box [.d (.int .i64), .d .bool, .d (.int .i64), .d .str, .d (.sl (.st 0)), .d (.sl .str)])), (18, (.d (.sl (.st 0)))), (19, (.d (.int .i64))), (20, (.d (.int .i64)))])) := by
  rw [conf_routes_nil.l0]
  kernel_rfl
theorem conf_routes_nil.f_eq (k : Nat) (a1 : T_api_Value) (a2 : ByteArray) : conf_routes_nil.f k a1 a2 = codeK (C := ctx) (conf_routes_nil.O k) ⟨35, [], []⟩ (conf_routes_nil.L k) (Tryz.f56.body.getD .skip) conf_routes_nil.a (endK ctx [(.sl .str)] [(.tmp 6)]) (slotsOf sg.U 0 [.nl, (.d (.st 0)), (.d .str)] (a1, a2, ()) (empty sg.U)) := by
  unfold conf_routes_nil.f
  kernel_rfl
def conf_routes_nil.e (k : Nat) : Entry sg := entryOf sg [.nl, (.d (.st 0)), (.d .str)] [(.sl .str)] (fun h => conf_routes_nil.f k h.1 h.2.1)
def conf_routes_nil.T : List (Lb sg (RT sg.U [(.sl .str)])) := [⟨0, [(0, (.row 9 .str)), (2, (.d .str)), (4, (.box [.d (.int .i64), .d .bool, .d (.int .i64), .d .str, .d (.sl (.st 0)), .d (.sl .str)])), (18, (.d (.sl (.st 0)))), (19, (.d (.int .i64))), (20, (.d (.int .i64)))], fun k h => conf_routes_nil.l0 k h.1 h.2.1 h.2.2.1 h.2.2.2.1 h.2.2.2.2.1 h.2.2.2.2.2.1 h.2.2.2.2.2.2.1 h.2.2.2.2.2.2.2.1 h.2.2.2.2.2.2.2.2.1 h.2.2.2.2.2.2.2.2.2.1 h.2.2.2.2.2.2.2.2.2.2.1⟩]
theorem conf_routes_nil.ok (k : Nat) : (conf_routes_nil.e k).Sound Tryz.prog ctx 56 :=
  entry_ok base_ok mo (fn := Tryz.f56) (b := (Tryz.f56.body.getD .skip)) (pm := [.nl, (.d (.st 0)), (.d .str)]) (rs := [(.sl .str)]) (an := conf_routes_nil.a) (N := 35) (vars := [(.tmp 6)]) Tryz.func56 (by kernel_rfl) (by kernel_rfl) (by kernel_rfl) (by kernel_rfl) (by kernel_rfl) (by kernel_rfl) (O := conf_routes_nil.O)
    (fun k => by unfold conf_routes_nil.O; exact oracle_of (P := Tryz.prog) (C := ctx) ⟨(conf_routes.ok k), ⟨(conf_joined.ok), ⟨(conf_part.ok), trivial⟩⟩⟩) conf_routes_nil.T ⟨⟨by kernel_rfl, fun _ => by first | rfl | rw [conf_routes_nil.l0], fun k h => conf_routes_nil.l0_eq k h.1 h.2.1 h.2.2.1 h.2.2.2.1 h.2.2.2.2.1 h.2.2.2.2.2.1 h.2.2.2.2.2.2.1 h.2.2.2.2.2.2.2.1 h.2.2.2.2.2.2.2.2.1 h.2.2.2.2.2.2.2.2.2.1 h.2.2.2.2.2.2.2.2.2.2.1⟩, trivial⟩ k (fun h => conf_routes_nil.f_eq k h.1 h.2.1)
def conf_Routes.f (k : Nat) (a0 : T_api_Value) : Option ((List ByteArray) × Int) := ((conf_Check.f k (T_api_Value.mk a0.fKind a0.fBool a0.fInt a0.fText a0.fItems a0.fKeys)).bind fun y1 => (bif (!ieq y1 0) then (some ([], y1)) else ((conf_routes_nil.f k (T_api_Value.mk a0.fKind a0.fBool a0.fInt a0.fText a0.fItems a0.fKeys) c_empty).bind fun y2 => (some (y2, 0)))))
def conf_Routes.O (k : Nat) : Oracle sg := fun n => lkp n [(55, conf_Check.e k), (56, conf_routes_nil.e k)]
def conf_Routes.a : Ann := .z
def conf_Routes.L (k : Nat) : Nat → St sg.U → Option (RT sg.U [(.sl .str), (.int .i64)]) := labs []
theorem conf_Routes.f_eq (k : Nat) (a0 : T_api_Value) : conf_Routes.f k a0 = codeK (C := ctx) (conf_Routes.O k) ⟨12, [], []⟩ (conf_Routes.L k) (Tryz.f14.body.getD .skip) conf_Routes.a (endK ctx [(.sl .str), (.int .i64)] [(.tmp 2), (.tmp 3)]) (slotsOf sg.U 0 [(.d (.st 0))] (a0, ()) (empty sg.U)) := by
  unfold conf_Routes.f
  kernel_rfl
def conf_Routes.e (k : Nat) : Entry sg := entryOf sg [(.d (.st 0))] [(.sl .str), (.int .i64)] (fun h => conf_Routes.f k h.1)
def conf_Routes.T : List (Lb sg (RT sg.U [(.sl .str), (.int .i64)])) := []
theorem conf_Routes.ok (k : Nat) : (conf_Routes.e k).Sound Tryz.prog ctx 14 :=
  entry_ok base_ok mo (fn := Tryz.f14) (b := (Tryz.f14.body.getD .skip)) (pm := [(.d (.st 0))]) (rs := [(.sl .str), (.int .i64)]) (an := conf_Routes.a) (N := 12) (vars := [(.tmp 2), (.tmp 3)]) Tryz.func14 (by kernel_rfl) (by kernel_rfl) (by kernel_rfl) (by kernel_rfl) (by kernel_rfl) (by kernel_rfl) (O := conf_Routes.O)
    (fun k => by unfold conf_Routes.O; exact oracle_of (P := Tryz.prog) (C := ctx) ⟨(conf_Check.ok k), ⟨(conf_routes_nil.ok k), trivial⟩⟩) conf_Routes.T trivial k (fun h => conf_Routes.f_eq k h.1)
mutual
def mastref2_ValuesOf.l0 : Nat → Int → (List T_api_Value) → Int → Int → Option (Int)
  | 0, _, _, _, _ => none
  | k + 1, x3, x7, x8, x9 => (bif (ilt x9 x8) then ((lat x7 x9).bind fun y1 => ((mastref2_ValuesOf.f k (T_api_Value.mk y1.fKind y1.fBool y1.fInt y1.fText y1.fItems y1.fKeys)).bind fun y2 => (mastref2_ValuesOf.l0 k (wadd .i64 x3 y2) x7 x8 (wadd .i64 x9 1)))) else (some x3))
def mastref2_ValuesOf.f : Nat → T_api_Value → Option (Int)
  | 0, _ => none
  | k + 1, a0 => (mastref2_ValuesOf.l0 k 1 a0.fItems (llen a0.fItems) 0)
end
def mastref2_ValuesOf.e (k : Nat) : Entry sg := entryOf sg [(.d (.st 0))] [(.int .i64)] (fun h => mastref2_ValuesOf.f k h.1)
def mastref2_ValuesOf.O (k : Nat) : Oracle sg := fun n => lkp n [(135, mastref2_ValuesOf.e k)]
def mastref2_ValuesOf.a : Ann := (.n .z (.n .z (.n (.n .z (.lp 0 .z)) .z)))
def mastref2_ValuesOf.L (k : Nat) : Nat → St sg.U → Option (RT sg.U [(.int .i64)]) := labs [(0, labOf sg [(3, (.d (.int .i64))), (7, (.d (.sl (.st 0)))), (8, (.d (.int .i64))), (9, (.d (.int .i64)))] (fun h => mastref2_ValuesOf.l0 k h.1 h.2.1 h.2.2.1 h.2.2.2.1))]
theorem mastref2_ValuesOf.l0_eq (k : Nat) (x3 : Int) (x7 : (List T_api_Value)) (x8 : Int) (x9 : Int) : mastref2_ValuesOf.l0 (k + 1) x3 x7 x8 x9 = runFrom (C := ctx) (mastref2_ValuesOf.O k) ⟨19, [], []⟩ (mastref2_ValuesOf.L k) (Tryz.f135.body.getD .skip) mastref2_ValuesOf.a 0 (endK ctx [(.int .i64)] [(.tmp 2)]) (encD [(3, (.d (.int .i64))), (7, (.d (.sl (.st 0)))), (8, (.d (.int .i64))), (9, (.d (.int .i64)))] (x3, x7, x8, x9, ()) (startD sg.U ⟨19, [], []⟩ [(3, (.d (.int .i64))), (7, (.d (.sl (.st 0)))), (8, (.d (.int .i64))), (9, (.d (.int .i64)))])) := by
  rw [mastref2_ValuesOf.l0]
  kernel_rfl
theorem mastref2_ValuesOf.f_eq (k : Nat) (a0 : T_api_Value) : mastref2_ValuesOf.f (k + 1) a0 = codeK (C := ctx) (mastref2_ValuesOf.O k) ⟨19, [], []⟩ (mastref2_ValuesOf.L k) (Tryz.f135.body.getD .skip) mastref2_ValuesOf.a (endK ctx [(.int .i64)] [(.tmp 2)]) (slotsOf sg.U 0 [(.d (.st 0))] (a0, ()) (empty sg.U)) := by
  rw [mastref2_ValuesOf.f]
  kernel_rfl
def mastref2_ValuesOf.T : List (Lb sg (RT sg.U [(.int .i64)])) := [⟨0, [(3, (.d (.int .i64))), (7, (.d (.sl (.st 0)))), (8, (.d (.int .i64))), (9, (.d (.int .i64)))], fun k h => mastref2_ValuesOf.l0 k h.1 h.2.1 h.2.2.1 h.2.2.2.1⟩]
theorem mastref2_ValuesOf.ok : ∀ k : Nat, (mastref2_ValuesOf.e k).Sound Tryz.prog ctx 135 :=
  entry_rec base_ok mo (fn := Tryz.f135) (b := (Tryz.f135.body.getD .skip)) (pm := [(.d (.st 0))]) (rs := [(.int .i64)]) (an := mastref2_ValuesOf.a) (N := 19) (vars := [(.tmp 2)]) Tryz.func135 (by kernel_rfl) (by kernel_rfl) (by kernel_rfl) (by kernel_rfl) (by kernel_rfl) (by kernel_rfl) (O := mastref2_ValuesOf.O) mastref2_ValuesOf.T ⟨⟨by kernel_rfl, fun _ => by first | rfl | rw [mastref2_ValuesOf.l0], fun k h => mastref2_ValuesOf.l0_eq k h.1 h.2.1 h.2.2.1 h.2.2.2.1⟩, trivial⟩ (F := fun k h => mastref2_ValuesOf.f k h.1) (fun _ => by first | rfl | rw [mastref2_ValuesOf.f]) (fun k h => mastref2_ValuesOf.f_eq k h.1)
    (fun k own => by unfold mastref2_ValuesOf.O; exact oracle_of (P := Tryz.prog) (C := ctx) ⟨own, trivial⟩)
mutual
def mastref2_LevelsOf.l0 : Nat → Int → (List T_api_Value) → Int → Int → Option (Int)
  | 0, _, _, _, _ => none
  | k + 1, x3, x7, x8, x9 => (bif (ilt x9 x8) then ((lat x7 x9).bind fun y1 => ((mastref2_LevelsOf.f k (T_api_Value.mk y1.fKind y1.fBool y1.fInt y1.fText y1.fItems y1.fKeys)).bind fun y2 => (mastref2_LevelsOf.l0 k (imax x3 y2) x7 x8 (wadd .i64 x9 1)))) else (some (wadd .i64 x3 1)))
def mastref2_LevelsOf.f : Nat → T_api_Value → Option (Int)
  | 0, _ => none
  | k + 1, a0 => (mastref2_LevelsOf.l0 k 0 a0.fItems (llen a0.fItems) 0)
end
def mastref2_LevelsOf.e (k : Nat) : Entry sg := entryOf sg [(.d (.st 0))] [(.int .i64)] (fun h => mastref2_LevelsOf.f k h.1)
def mastref2_LevelsOf.O (k : Nat) : Oracle sg := fun n => lkp n [(136, mastref2_LevelsOf.e k)]
def mastref2_LevelsOf.a : Ann := (.n .z (.n .z (.n (.n .z (.lp 0 .z)) .z)))
def mastref2_LevelsOf.L (k : Nat) : Nat → St sg.U → Option (RT sg.U [(.int .i64)]) := labs [(0, labOf sg [(3, (.d (.int .i64))), (7, (.d (.sl (.st 0)))), (8, (.d (.int .i64))), (9, (.d (.int .i64)))] (fun h => mastref2_LevelsOf.l0 k h.1 h.2.1 h.2.2.1 h.2.2.2.1))]
theorem mastref2_LevelsOf.l0_eq (k : Nat) (x3 : Int) (x7 : (List T_api_Value)) (x8 : Int) (x9 : Int) : mastref2_LevelsOf.l0 (k + 1) x3 x7 x8 x9 = runFrom (C := ctx) (mastref2_LevelsOf.O k) ⟨20, [], []⟩ (mastref2_LevelsOf.L k) (Tryz.f136.body.getD .skip) mastref2_LevelsOf.a 0 (endK ctx [(.int .i64)] [(.tmp 2)]) (encD [(3, (.d (.int .i64))), (7, (.d (.sl (.st 0)))), (8, (.d (.int .i64))), (9, (.d (.int .i64)))] (x3, x7, x8, x9, ()) (startD sg.U ⟨20, [], []⟩ [(3, (.d (.int .i64))), (7, (.d (.sl (.st 0)))), (8, (.d (.int .i64))), (9, (.d (.int .i64)))])) := by
  rw [mastref2_LevelsOf.l0]
  kernel_rfl
theorem mastref2_LevelsOf.f_eq (k : Nat) (a0 : T_api_Value) : mastref2_LevelsOf.f (k + 1) a0 = codeK (C := ctx) (mastref2_LevelsOf.O k) ⟨20, [], []⟩ (mastref2_LevelsOf.L k) (Tryz.f136.body.getD .skip) mastref2_LevelsOf.a (endK ctx [(.int .i64)] [(.tmp 2)]) (slotsOf sg.U 0 [(.d (.st 0))] (a0, ()) (empty sg.U)) := by
  rw [mastref2_LevelsOf.f]
  kernel_rfl
def mastref2_LevelsOf.T : List (Lb sg (RT sg.U [(.int .i64)])) := [⟨0, [(3, (.d (.int .i64))), (7, (.d (.sl (.st 0)))), (8, (.d (.int .i64))), (9, (.d (.int .i64)))], fun k h => mastref2_LevelsOf.l0 k h.1 h.2.1 h.2.2.1 h.2.2.2.1⟩]
theorem mastref2_LevelsOf.ok : ∀ k : Nat, (mastref2_LevelsOf.e k).Sound Tryz.prog ctx 136 :=
  entry_rec base_ok mo (fn := Tryz.f136) (b := (Tryz.f136.body.getD .skip)) (pm := [(.d (.st 0))]) (rs := [(.int .i64)]) (an := mastref2_LevelsOf.a) (N := 20) (vars := [(.tmp 2)]) Tryz.func136 (by kernel_rfl) (by kernel_rfl) (by kernel_rfl) (by kernel_rfl) (by kernel_rfl) (by kernel_rfl) (O := mastref2_LevelsOf.O) mastref2_LevelsOf.T ⟨⟨by kernel_rfl, fun _ => by first | rfl | rw [mastref2_LevelsOf.l0], fun k h => mastref2_LevelsOf.l0_eq k h.1 h.2.1 h.2.2.1 h.2.2.2.1⟩, trivial⟩ (F := fun k h => mastref2_LevelsOf.f k h.1) (fun _ => by first | rfl | rw [mastref2_LevelsOf.f]) (fun k h => mastref2_LevelsOf.f_eq k h.1)
    (fun k own => by unfold mastref2_LevelsOf.O; exact oracle_of (P := Tryz.prog) (C := ctx) ⟨own, trivial⟩)
def mastref2_badByte.l0 : Nat → ByteArray → Int → Option (Bool)
  | 0, _, _ => none
  | k + 1, x0, x3 => (bif (ilt x3 (slen x0)) then ((sat x0 x3).bind fun y1 => (bif (ilt y1 32) then ((sat x0 x3).bind fun y2 => (bif (!ieq y2 9) then ((sat x0 x3).bind fun y3 => (bif (!ieq y3 10) then (some true) else (mastref2_badByte.l0 k x0 (wadd .i64 x3 1)))) else (mastref2_badByte.l0 k x0 (wadd .i64 x3 1)))) else (mastref2_badByte.l0 k x0 (wadd .i64 x3 1)))) else (some false))
def mastref2_badByte.f (k : Nat) (a0 : ByteArray) : Option (Bool) := (mastref2_badByte.l0 k a0 0)
def mastref2_badByte.O (k : Nat) : Oracle sg := fun n => lkp n []
def mastref2_badByte.a : Ann := (.n .z (.n (.n .z (.lp 0 .z)) .z))
def mastref2_badByte.L (k : Nat) : Nat → St sg.U → Option (RT sg.U [.bool]) := labs [(0, labOf sg [(0, (.d .str)), (3, (.d (.int .i64)))] (fun h => mastref2_badByte.l0 k h.1 h.2.1))]
theorem mastref2_badByte.l0_eq (k : Nat) (x0 : ByteArray) (x3 : Int) : mastref2_badByte.l0 (k + 1) x0 x3 = runFrom (C := ctx) (mastref2_badByte.O k) ⟨26, [], []⟩ (mastref2_badByte.L k) (Tryz.f210.body.getD .skip) mastref2_badByte.a 0 (endK ctx [.bool] [(.tmp 2)]) (encD [(0, (.d .str)), (3, (.d (.int .i64)))] (x0, x3, ()) (startD sg.U ⟨26, [], []⟩ [(0, (.d .str)), (3, (.d (.int .i64)))])) := by
  rw [mastref2_badByte.l0]
  kernel_rfl
theorem mastref2_badByte.f_eq (k : Nat) (a0 : ByteArray) : mastref2_badByte.f k a0 = codeK (C := ctx) (mastref2_badByte.O k) ⟨26, [], []⟩ (mastref2_badByte.L k) (Tryz.f210.body.getD .skip) mastref2_badByte.a (endK ctx [.bool] [(.tmp 2)]) (slotsOf sg.U 0 [(.d .str)] (a0, ()) (empty sg.U)) := by
  unfold mastref2_badByte.f
  kernel_rfl
def mastref2_badByte.e (k : Nat) : Entry sg := entryOf sg [(.d .str)] [.bool] (fun h => mastref2_badByte.f k h.1)
def mastref2_badByte.T : List (Lb sg (RT sg.U [.bool])) := [⟨0, [(0, (.d .str)), (3, (.d (.int .i64)))], fun k h => mastref2_badByte.l0 k h.1 h.2.1⟩]
theorem mastref2_badByte.ok (k : Nat) : (mastref2_badByte.e k).Sound Tryz.prog ctx 210 :=
  entry_ok base_ok mo (fn := Tryz.f210) (b := (Tryz.f210.body.getD .skip)) (pm := [(.d .str)]) (rs := [.bool]) (an := mastref2_badByte.a) (N := 26) (vars := [(.tmp 2)]) Tryz.func210 (by kernel_rfl) (by kernel_rfl) (by kernel_rfl) (by kernel_rfl) (by kernel_rfl) (by kernel_rfl) (O := mastref2_badByte.O)
    (fun k => by unfold mastref2_badByte.O; exact oracle_of (P := Tryz.prog) (C := ctx) trivial) mastref2_badByte.T ⟨⟨by kernel_rfl, fun _ => by first | rfl | rw [mastref2_badByte.l0], fun k h => mastref2_badByte.l0_eq k h.1 h.2.1⟩, trivial⟩ k (fun h => mastref2_badByte.f_eq k h.1)
def strings_Trim.f (a0 : ByteArray) (a1 : ByteArray) : Option (ByteArray) := if a0.size ≤ 9223372036854775807 ∧ a1.size < 4294967281 ∧ (a1.data.toList.all fun b => decide (b.toNat < 128)) = true then some (⟨(Lib.trimS a0.data.toList a1.data.toList).toArray⟩) else none
def strings_Trim.e : Entry sg := entryOf sg [(.d .str), (.d .str)] [.str] (fun h => strings_Trim.f h.1 h.2.1)
theorem strings_Trim.ok : (strings_Trim.e).Sound Tryz.prog ctx 81 :=
  entry_extern (C := ctx) sg_ok Tryz.func81 (by kernel_rfl) (by kernel_rfl) (by kernel_rfl) (by kernel_rfl) (fun hh x w hx hG => by
    unfold strings_Trim.f at hx
    split at hx
    · rename_i c
      obtain rfl := Option.some.inj hx
      refine (Any.strings_Trim_laid Tryz.lays160 (by kernel_rfl) hh.1 hh.2.1 w c.1 c.2.1 (ascii_of_all c.2.2)).mono ?_
      rintro e w' ⟨rfl, hb⟩
      exact ⟨rfl, by first | exact hb ▸ Grow.refl _ | exact Grow.of_below hb | (obtain ⟨k, os, rfl⟩ := hb; exact Grow.of_below (Lib.below_grow _ w (Nat.le_refl _) k os))⟩
    · cases hx)
def mastref2_IsKey.f (a0 : ByteArray) : Option (Bool) := (bif (bif (seq a0 c_empty) then true else (ilt 40 (slen a0))) then (some false) else ((sat a0 0).bind fun y1 => (bif (ilt y1 97) then (some false) else ((sat a0 0).bind fun y2 => (bif (ilt 122 y2) then (some false) else ((strings_Trim.f a0 c_abcdefghijklmnopqrst_0e2e2cf4).bind fun y3 => (some (seq y3 c_empty))))))))
def mastref2_IsKey.O : Oracle sg := fun n => lkp n [(81, strings_Trim.e)]
def mastref2_IsKey.a : Ann := .z
def mastref2_IsKey.L : Nat → St sg.U → Option (RT sg.U [.bool]) := labs []
theorem mastref2_IsKey.f_eq (a0 : ByteArray) : mastref2_IsKey.f a0 = codeK (C := ctx) (mastref2_IsKey.O) ⟨23, [], []⟩ (mastref2_IsKey.L) (Tryz.f211.body.getD .skip) mastref2_IsKey.a (endK ctx [.bool] [(.tmp 2)]) (slotsOf sg.U 0 [(.d .str)] (a0, ()) (empty sg.U)) := by
  unfold mastref2_IsKey.f
  kernel_rfl
def mastref2_IsKey.e : Entry sg := entryOf sg [(.d .str)] [.bool] (fun h => mastref2_IsKey.f h.1)
def mastref2_IsKey.T : List (Lb sg (RT sg.U [.bool])) := []
theorem mastref2_IsKey.ok : (mastref2_IsKey.e).Sound Tryz.prog ctx 211 :=
  entry_ok base_ok mo (fn := Tryz.f211) (b := (Tryz.f211.body.getD .skip)) (pm := [(.d .str)]) (rs := [.bool]) (an := mastref2_IsKey.a) (N := 23) (vars := [(.tmp 2)]) Tryz.func211 (by kernel_rfl) (by kernel_rfl) (by kernel_rfl) (by kernel_rfl) (by kernel_rfl) (by kernel_rfl) (O := fun _ => mastref2_IsKey.O)
    (fun _ => by unfold mastref2_IsKey.O; exact oracle_of (P := Tryz.prog) (C := ctx) ⟨(strings_Trim.ok), trivial⟩) mastref2_IsKey.T trivial 0 (fun h => mastref2_IsKey.f_eq h.1)
mutual
def mastref2_eachValue.l0 : Nat → Int → Bool → Int → ByteArray → (List T_api_Value) → (List ByteArray) → (List ByteArray) → Int → Int → Option (Int)
  | 0, _, _, _, _, _, _, _, _, _ => none
  | k + 1, x1_0, x1_1, x1_2, x1_3, x1_4, x1_5, x100, x101, x102 => (bif (ilt x102 x101) then ((lat x100 x102).bind fun y2 => ((mastref2_IsKey.f y2).bind fun y3 => (bif (!y3) then (some 12) else (bif (ilt 0 x102) then ((lat x1_5 (wsub .i64 x102 1)).bind fun y4 => (bif (sle y2 y4) then (some 5) else (mastref2_eachValue.l0 k x1_0 x1_1 x1_2 x1_3 x1_4 x1_5 x100 x101 (wadd .i64 x102 1)))) else (mastref2_eachValue.l0 k x1_0 x1_1 x1_2 x1_3 x1_4 x1_5 x100 x101 (wadd .i64 x102 1)))))) else (mastref2_eachValue.l1 k x1_4 (llen x1_4) 0))
def mastref2_eachValue.l1 : Nat → (List T_api_Value) → Int → Int → Option (Int)
  | 0, _, _, _ => none
  | k + 1, x124, x125, x126 => (bif (ilt x126 x125) then ((lat x124 x126).bind fun y5 => ((mastref2_eachValue.f k (T_api_Value.mk y5.fKind y5.fBool y5.fInt y5.fText y5.fItems y5.fKeys)).bind fun y6 => (bif (!ieq y6 0) then (some y6) else (mastref2_eachValue.l1 k x124 x125 (wadd .i64 x126 1))))) else (some 0))
def mastref2_eachValue.f : Nat → T_api_Value → Option (Int)
  | 0, _ => none
  | k + 1, a0 => (bif (bif (ilt a0.fKind 0) then true else (ilt 6 a0.fKind)) then (some 10) else (bif (bif (bif (bif (bif (bif a0.fBool then (!ieq a0.fKind 1) else false) then true else (bif (bif (!ieq a0.fInt 0) then (!ieq a0.fKind 2) else false) then (!ieq a0.fKind 4) else false)) then true else (bif (!seq a0.fText c_empty) then (!ieq a0.fKind 3) else false)) then true else (bif (bif (ilt 0 (llen a0.fItems)) then (!ieq a0.fKind 5) else false) then (!ieq a0.fKind 6) else false)) then true else (bif (ilt 0 (llen a0.fKeys)) then (!ieq a0.fKind 6) else false)) then (some 1) else (bif (bif (ieq a0.fKind 6) then (!ieq (llen a0.fKeys) (llen a0.fItems)) else false) then (some 1) else (bif (bif (ieq a0.fKind 4) then (bif (ilt a0.fInt 0) then true else (ilt 84005 a0.fInt)) else false) then (some 2) else (bif (ilt 5000 (slen a0.fText)) then (some 4) else ((mastref2_badByte.f k a0.fText).bind fun y1 => (bif y1 then (some 9) else (mastref2_eachValue.l0 k a0.fKind a0.fBool a0.fInt a0.fText a0.fItems a0.fKeys a0.fKeys (llen a0.fKeys) 0))))))))
end
def mastref2_eachValue.e (k : Nat) : Entry sg := entryOf sg [(.d (.st 0))] [(.int .i64)] (fun h => mastref2_eachValue.f k h.1)
def mastref2_eachValue.O (k : Nat) : Oracle sg := fun n => lkp n [(137, mastref2_eachValue.e k), (210, mastref2_badByte.e k), (211, mastref2_IsKey.e)]
def mastref2_eachValue.a : Ann := (.n .z (.n .z (.n .z (.n .z (.n .z (.n .z (.n .z (.n .z (.n (.n .z (.lp 0 .z)) (.n (.n .z (.lp 1 .z)) .z))))))))))
def mastref2_eachValue.L (k : Nat) : Nat → St sg.U → Option (RT sg.U [(.int .i64)]) := labs [(0, labOf sg [(1, (.box [.d (.int .i64), .d .bool, .d (.int .i64), .d .str, .d (.sl (.st 0)), .d (.sl .str)])), (100, (.d (.sl .str))), (101, (.d (.int .i64))), (102, (.d (.int .i64)))] (fun h => mastref2_eachValue.l0 k h.1 h.2.1 h.2.2.1 h.2.2.2.1 h.2.2.2.2.1 h.2.2.2.2.2.1 h.2.2.2.2.2.2.1 h.2.2.2.2.2.2.2.1 h.2.2.2.2.2.2.2.2.1)), (1, labOf sg [(124, (.d (.sl (.st 0)))), (125, (.d (.int .i64))), (126, (.d (.int .i64)))] (fun h => mastref2_eachValue.l1 k h.1 h.2.1 h.2.2.1))]
theorem mastref2_eachValue.l0_eq (k : Nat) (x1_0 : Int) (x1_1 : Bool) (x1_2 : Int) (x1_3 : ByteArray) (x1_4 : (List T_api_Value)) (x1_5 : (List ByteArray)) (x100 : (List ByteArray)) (x101 : Int) (x102 : Int) : mastref2_eachValue.l0 (k + 1) x1_0 x1_1 x1_2 x1_3 x1_4 x1_5 x100 x101 x102 = runFrom (C := ctx) (mastref2_eachValue.O k) ⟨136, [], []⟩ (mastref2_eachValue.L k) (Tryz.f137.body.getD .skip) mastref2_eachValue.a 0 (endK ctx [(.int .i64)] [(.tmp 2)]) (encD [(1, (.box [.d (.int .i64), .d .bool, .d (.int .i64), .d .str, .d (.sl (.st 0)), .d (.sl .str)])), (100, (.d (.sl .str))), (101, (.d (.int .i64))), (102, (.d (.int .i64)))] (x1_0, x1_1, x1_2, x1_3, x1_4, x1_5, x100, x101, x102, ()) (startD sg.U ⟨136, [], []⟩ [(1, (.box [.d (.int .i64), .d .bool, .d (.int .i64), .d .str, .d (.sl (.st 0)), .d (.sl .str)])), (100, (.d (.sl .str))), (101, (.d (.int .i64))), (102, (.d (.int .i64)))])) := by
  rw [mastref2_eachValue.l0]
  kernel_rfl
theorem mastref2_eachValue.l1_eq (k : Nat) (x124 : (List T_api_Value)) (x125 : Int) (x126 : Int) : mastref2_eachValue.l1 (k + 1) x124 x125 x126 = runFrom (C := ctx) (mastref2_eachValue.O k) ⟨136, [], []⟩ (mastref2_eachValue.L k) (Tryz.f137.body.getD .skip) mastref2_eachValue.a 1 (endK ctx [(.int .i64)] [(.tmp 2)]) (encD [(124, (.d (.sl (.st 0)))), (125, (.d (.int .i64))), (126, (.d (.int .i64)))] (x124, x125, x126, ()) (startD sg.U ⟨136, [], []⟩ [(124, (.d (.sl (.st 0)))), (125, (.d (.int .i64))), (126, (.d (.int .i64)))])) := by
  rw [mastref2_eachValue.l1]
  kernel_rfl
theorem mastref2_eachValue.f_eq (k : Nat) (a0 : T_api_Value) : mastref2_eachValue.f (k + 1) a0 = codeK (C := ctx) (mastref2_eachValue.O k) ⟨136, [], []⟩ (mastref2_eachValue.L k) (Tryz.f137.body.getD .skip) mastref2_eachValue.a (endK ctx [(.int .i64)] [(.tmp 2)]) (slotsOf sg.U 0 [(.d (.st 0))] (a0, ()) (empty sg.U)) := by
  rw [mastref2_eachValue.f]
  kernel_rfl
def mastref2_eachValue.T : List (Lb sg (RT sg.U [(.int .i64)])) := [⟨0, [(1, (.box [.d (.int .i64), .d .bool, .d (.int .i64), .d .str, .d (.sl (.st 0)), .d (.sl .str)])), (100, (.d (.sl .str))), (101, (.d (.int .i64))), (102, (.d (.int .i64)))], fun k h => mastref2_eachValue.l0 k h.1 h.2.1 h.2.2.1 h.2.2.2.1 h.2.2.2.2.1 h.2.2.2.2.2.1 h.2.2.2.2.2.2.1 h.2.2.2.2.2.2.2.1 h.2.2.2.2.2.2.2.2.1⟩, ⟨1, [(124, (.d (.sl (.st 0)))), (125, (.d (.int .i64))), (126, (.d (.int .i64)))], fun k h => mastref2_eachValue.l1 k h.1 h.2.1 h.2.2.1⟩]
theorem mastref2_eachValue.ok : ∀ k : Nat, (mastref2_eachValue.e k).Sound Tryz.prog ctx 137 :=
  entry_rec base_ok mo (fn := Tryz.f137) (b := (Tryz.f137.body.getD .skip)) (pm := [(.d (.st 0))]) (rs := [(.int .i64)]) (an := mastref2_eachValue.a) (N := 136) (vars := [(.tmp 2)]) Tryz.func137 (by kernel_rfl) (by kernel_rfl) (by kernel_rfl) (by kernel_rfl) (by kernel_rfl) (by kernel_rfl) (O := mastref2_eachValue.O) mastref2_eachValue.T ⟨⟨by kernel_rfl, fun _ => by first | rfl | rw [mastref2_eachValue.l0], fun k h => mastref2_eachValue.l0_eq k h.1 h.2.1 h.2.2.1 h.2.2.2.1 h.2.2.2.2.1 h.2.2.2.2.2.1 h.2.2.2.2.2.2.1 h.2.2.2.2.2.2.2.1 h.2.2.2.2.2.2.2.2.1⟩, ⟨⟨by kernel_rfl, fun _ => by first | rfl | rw [mastref2_eachValue.l1], fun k h => mastref2_eachValue.l1_eq k h.1 h.2.1 h.2.2.1⟩, trivial⟩⟩ (F := fun k h => mastref2_eachValue.f k h.1) (fun _ => by first | rfl | rw [mastref2_eachValue.f]) (fun k h => mastref2_eachValue.f_eq k h.1)
    (fun k own => by unfold mastref2_eachValue.O; exact oracle_of (P := Tryz.prog) (C := ctx) ⟨own, ⟨(mastref2_badByte.ok k), ⟨(mastref2_IsKey.ok), trivial⟩⟩⟩)
def mastref2_ConfCheck.f (k : Nat) (a0 : T_api_Value) : Option (Int) := ((mastref2_ValuesOf.f k (T_api_Value.mk a0.fKind a0.fBool a0.fInt a0.fText a0.fItems a0.fKeys)).bind fun y1 => (bif (ilt 1000 y1) then (some 4) else ((mastref2_LevelsOf.f k (T_api_Value.mk a0.fKind a0.fBool a0.fInt a0.fText a0.fItems a0.fKeys)).bind fun y2 => (bif (ilt 8 y2) then (some 13) else ((mastref2_eachValue.f k (T_api_Value.mk a0.fKind a0.fBool a0.fInt a0.fText a0.fItems a0.fKeys)).bind fun y3 => (some y3))))))
def mastref2_ConfCheck.O (k : Nat) : Oracle sg := fun n => lkp n [(135, mastref2_ValuesOf.e k), (136, mastref2_LevelsOf.e k), (137, mastref2_eachValue.e k)]
def mastref2_ConfCheck.a : Ann := .z
def mastref2_ConfCheck.L (k : Nat) : Nat → St sg.U → Option (RT sg.U [(.int .i64)]) := labs []
theorem mastref2_ConfCheck.f_eq (k : Nat) (a0 : T_api_Value) : mastref2_ConfCheck.f k a0 = codeK (C := ctx) (mastref2_ConfCheck.O k) ⟨11, [], []⟩ (mastref2_ConfCheck.L k) (Tryz.f57.body.getD .skip) mastref2_ConfCheck.a (endK ctx [(.int .i64)] [(.tmp 2)]) (slotsOf sg.U 0 [(.d (.st 0))] (a0, ()) (empty sg.U)) := by
  unfold mastref2_ConfCheck.f
  kernel_rfl
def mastref2_ConfCheck.e (k : Nat) : Entry sg := entryOf sg [(.d (.st 0))] [(.int .i64)] (fun h => mastref2_ConfCheck.f k h.1)
def mastref2_ConfCheck.T : List (Lb sg (RT sg.U [(.int .i64)])) := []
theorem mastref2_ConfCheck.ok (k : Nat) : (mastref2_ConfCheck.e k).Sound Tryz.prog ctx 57 :=
  entry_ok base_ok mo (fn := Tryz.f57) (b := (Tryz.f57.body.getD .skip)) (pm := [(.d (.st 0))]) (rs := [(.int .i64)]) (an := mastref2_ConfCheck.a) (N := 11) (vars := [(.tmp 2)]) Tryz.func57 (by kernel_rfl) (by kernel_rfl) (by kernel_rfl) (by kernel_rfl) (by kernel_rfl) (by kernel_rfl) (O := mastref2_ConfCheck.O)
    (fun k => by unfold mastref2_ConfCheck.O; exact oracle_of (P := Tryz.prog) (C := ctx) ⟨(mastref2_ValuesOf.ok k), ⟨(mastref2_LevelsOf.ok k), ⟨(mastref2_eachValue.ok k), trivial⟩⟩⟩) mastref2_ConfCheck.T trivial k (fun h => mastref2_ConfCheck.f_eq k h.1)
def mastref2_PartOf.f (a0 : T_api_Value) (a1 : Int) : Option (ByteArray) := (bif (ieq a0.fKind 6) then ((lat a0.fKeys a1).bind fun y1 => (some y1)) else ((strconv_Itoa.f a1).bind fun y2 => (some y2)))
def mastref2_PartOf.O : Oracle sg := fun n => lkp n [(209, strconv_Itoa.e)]
def mastref2_PartOf.a : Ann := .z
def mastref2_PartOf.L : Nat → St sg.U → Option (RT sg.U [.str]) := labs []
theorem mastref2_PartOf.f_eq (a0 : T_api_Value) (a1 : Int) : mastref2_PartOf.f a0 a1 = codeK (C := ctx) (mastref2_PartOf.O) ⟨15, [], []⟩ (mastref2_PartOf.L) (Tryz.f139.body.getD .skip) mastref2_PartOf.a (endK ctx [.str] [(.tmp 4)]) (slotsOf sg.U 0 [(.d (.st 0)), (.d (.int .i64))] (a0, a1, ()) (empty sg.U)) := by
  unfold mastref2_PartOf.f
  kernel_rfl
def mastref2_PartOf.e : Entry sg := entryOf sg [(.d (.st 0)), (.d (.int .i64))] [.str] (fun h => mastref2_PartOf.f h.1 h.2.1)
def mastref2_PartOf.T : List (Lb sg (RT sg.U [.str])) := []
theorem mastref2_PartOf.ok : (mastref2_PartOf.e).Sound Tryz.prog ctx 139 :=
  entry_ok base_ok mo (fn := Tryz.f139) (b := (Tryz.f139.body.getD .skip)) (pm := [(.d (.st 0)), (.d (.int .i64))]) (rs := [.str]) (an := mastref2_PartOf.a) (N := 15) (vars := [(.tmp 4)]) Tryz.func139 (by kernel_rfl) (by kernel_rfl) (by kernel_rfl) (by kernel_rfl) (by kernel_rfl) (by kernel_rfl) (O := fun _ => mastref2_PartOf.O)
    (fun _ => by unfold mastref2_PartOf.O; exact oracle_of (P := Tryz.prog) (C := ctx) ⟨(strconv_Itoa.ok), trivial⟩) mastref2_PartOf.T trivial 0 (fun h => mastref2_PartOf.f_eq h.1 h.2.1)
def mastref2_Route.f (a0 : ByteArray) (a1 : ByteArray) : Option (ByteArray) := (bif (seq a0 c_empty) then (some a1) else ((scat a0 c__2e).bind fun y1 => ((scat y1 a1).bind fun y2 => (some y2))))
def mastref2_Route.O : Oracle sg := fun n => lkp n []
def mastref2_Route.a : Ann := .z
def mastref2_Route.L : Nat → St sg.U → Option (RT sg.U [.str]) := labs []
theorem mastref2_Route.f_eq (a0 : ByteArray) (a1 : ByteArray) : mastref2_Route.f a0 a1 = codeK (C := ctx) (mastref2_Route.O) ⟨12, [], []⟩ (mastref2_Route.L) (Tryz.f138.body.getD .skip) mastref2_Route.a (endK ctx [.str] [(.tmp 4)]) (slotsOf sg.U 0 [(.d .str), (.d .str)] (a0, a1, ()) (empty sg.U)) := by
  unfold mastref2_Route.f
  kernel_rfl
def mastref2_Route.e : Entry sg := entryOf sg [(.d .str), (.d .str)] [.str] (fun h => mastref2_Route.f h.1 h.2.1)
def mastref2_Route.T : List (Lb sg (RT sg.U [.str])) := []
theorem mastref2_Route.ok : (mastref2_Route.e).Sound Tryz.prog ctx 138 :=
  entry_ok base_ok mo (fn := Tryz.f138) (b := (Tryz.f138.body.getD .skip)) (pm := [(.d .str), (.d .str)]) (rs := [.str]) (an := mastref2_Route.a) (N := 12) (vars := [(.tmp 4)]) Tryz.func138 (by kernel_rfl) (by kernel_rfl) (by kernel_rfl) (by kernel_rfl) (by kernel_rfl) (by kernel_rfl) (O := fun _ => mastref2_Route.O)
    (fun _ => by unfold mastref2_Route.O; exact oracle_of (P := Tryz.prog) (C := ctx) trivial) mastref2_Route.T trivial 0 (fun h => mastref2_Route.f_eq h.1 h.2.1)
mutual
def mastref2_routes.l0 : Nat → ByteArray → Int → Bool → Int → ByteArray → (List T_api_Value) → (List ByteArray) → (List ByteArray) → (List T_api_Value) → Int → Int → Option ((List ByteArray))
  | 0, _, _, _, _, _, _, _, _, _, _, _ => none
  | k + 1, x1, x2_0, x2_1, x2_2, x2_3, x2_4, x2_5, x5, x15, x16, x17 => (bif (ilt x17 x16) then ((lat x15 x17).bind fun y1 => ((mastref2_PartOf.f (T_api_Value.mk x2_0 x2_1 x2_2 x2_3 x2_4 x2_5) x17).bind fun y2 => ((mastref2_Route.f x1 y2).bind fun y3 => ((mastref2_routes.f k (T_api_Value.mk y1.fKind y1.fBool y1.fInt y1.fText y1.fItems y1.fKeys) y3).bind fun y4 => ((lapp 16 x5 y4).bind fun y5 => (mastref2_routes.l0 k x1 x2_0 x2_1 x2_2 x2_3 x2_4 x2_5 y5 x15 x16 (wadd .i64 x17 1))))))) else (some x5))
def mastref2_routes.f : Nat → T_api_Value → ByteArray → Option ((List ByteArray))
  | 0, _, _ => none
  | k + 1, a0, a1 => (bif (ieq (llen a0.fItems) 0) then (some [a1]) else (mastref2_routes.l0 k a1 a0.fKind a0.fBool a0.fInt a0.fText a0.fItems a0.fKeys [] a0.fItems (llen a0.fItems) 0))
end
def mastref2_routes.e (k : Nat) : Entry sg := entryOf sg [(.d (.st 0)), (.d .str)] [(.sl .str)] (fun h => mastref2_routes.f k h.1 h.2.1)
def mastref2_routes.O (k : Nat) : Oracle sg := fun n => lkp n [(58, mastref2_routes.e k), (138, mastref2_Route.e), (139, mastref2_PartOf.e)]
def mastref2_routes.a : Ann := (.n .z (.n .z (.n .z (.n (.n .z (.lp 0 .z)) .z))))
def mastref2_routes.L (k : Nat) : Nat → St sg.U → Option (RT sg.U [(.sl .str)]) := labs [(0, labOf sg [(1, (.d .str)), (2, (.box [.d (.int .i64), .d .bool, .d (.int .i64), .d .str, .d (.sl (.st 0)), .d (.sl .str)])), (5, (.row 9 .str)), (15, (.d (.sl (.st 0)))), (16, (.d (.int .i64))), (17, (.d (.int .i64)))] (fun h => mastref2_routes.l0 k h.1 h.2.1 h.2.2.1 h.2.2.2.1 h.2.2.2.2.1 h.2.2.2.2.2.1 h.2.2.2.2.2.2.1 h.2.2.2.2.2.2.2.1 h.2.2.2.2.2.2.2.2.1 h.2.2.2.2.2.2.2.2.2.1 h.2.2.2.2.2.2.2.2.2.2.1))]
theorem mastref2_routes.l0_eq (k : Nat) (x1 : ByteArray) (x2_0 : Int) (x2_1 : Bool) (x2_2 : Int) (x2_3 : ByteArray) (x2_4 : (List T_api_Value)) (x2_5 : (List ByteArray)) (x5 : (List ByteArray)) (x15 : (List T_api_Value)) (x16 : Int) (x17 : Int) : mastref2_routes.l0 (k + 1) x1 x2_0 x2_1 x2_2 x2_3 x2_4 x2_5 x5 x15 x16 x17 = runFrom (C := ctx) (mastref2_routes.O k) ⟨33, [], []⟩ (mastref2_routes.L k) (Tryz.f58.body.getD .skip) mastref2_routes.a 0 (endK ctx [(.sl .str)] [(.tmp 4)]) (encD [(1, (.d .str)), (2, (.box [.d (.int .i64), .d .bool, .d (.int .i64), .d .str, .d (.sl (.st 0)), .d (.sl .str)])), (5, (.row 9 .str)), (15, (.d (.sl (.st 0)))), (16, (.d (.int .i64))), (17, (.d (.int .i64)))] (x1, x2_0, x2_1, x2_2, x2_3, x2_4, x2_5, x5, x15, x16, x17, ()) (startD sg.U ⟨33, [], []⟩ [(1, (.d .str)), (2, (.box [.d (.int .i64), .d .bool, .d (.int .i64), .d .str, .d (.sl (.st 0)), .d (.sl .str)])), (5, (.row 9 .str)), (15, (.d (.sl (.st 0)))), (16, (.d (.int .i64))), (17, (.d (.int .i64)))])) := by
  rw [mastref2_routes.l0]
  kernel_rfl
theorem mastref2_routes.f_eq (k : Nat) (a0 : T_api_Value) (a1 : ByteArray) : mastref2_routes.f (k + 1) a0 a1 = codeK (C := ctx) (mastref2_routes.O k) ⟨33, [], []⟩ (mastref2_routes.L k) (Tryz.f58.body.getD .skip) mastref2_routes.a (endK ctx [(.sl .str)] [(.tmp 4)]) (slotsOf sg.U 0 [(.d (.st 0)), (.d .str)] (a0, a1, ()) (empty sg.U)) := by
  rw [mastref2_routes.f]
  kernel_rfl
def mastref2_routes.T : List (Lb sg (RT sg.U [(.sl .str)])) := [⟨0, [(1, (.d .str)), (2, (.box [.d (.int .i64), .d .bool, .d (.int .i64), .d .str, .d (.sl (.st 0)), .d (.sl .str)])), (5, (.row 9 .str)), (15, (.d (.sl (.st 0)))), (16, (.d (.int .i64))), (17, (.d (.int .i64)))], fun k h => mastref2_routes.l0 k h.1 h.2.1 h.2.2.1 h.2.2.2.1 h.2.2.2.2.1 h.2.2.2.2.2.1 h.2.2.2.2.2.2.1 h.2.2.2.2.2.2.2.1 h.2.2.2.2.2.2.2.2.1 h.2.2.2.2.2.2.2.2.2.1 h.2.2.2.2.2.2.2.2.2.2.1⟩]
theorem mastref2_routes.ok : ∀ k : Nat, (mastref2_routes.e k).Sound Tryz.prog ctx 58 :=
  entry_rec base_ok mo (fn := Tryz.f58) (b := (Tryz.f58.body.getD .skip)) (pm := [(.d (.st 0)), (.d .str)]) (rs := [(.sl .str)]) (an := mastref2_routes.a) (N := 33) (vars := [(.tmp 4)]) Tryz.func58 (by kernel_rfl) (by kernel_rfl) (by kernel_rfl) (by kernel_rfl) (by kernel_rfl) (by kernel_rfl) (O := mastref2_routes.O) mastref2_routes.T ⟨⟨by kernel_rfl, fun _ => by first | rfl | rw [mastref2_routes.l0], fun k h => mastref2_routes.l0_eq k h.1 h.2.1 h.2.2.1 h.2.2.2.1 h.2.2.2.2.1 h.2.2.2.2.2.1 h.2.2.2.2.2.2.1 h.2.2.2.2.2.2.2.1 h.2.2.2.2.2.2.2.2.1 h.2.2.2.2.2.2.2.2.2.1 h.2.2.2.2.2.2.2.2.2.2.1⟩, trivial⟩ (F := fun k h => mastref2_routes.f k h.1 h.2.1) (fun _ => by first | rfl | rw [mastref2_routes.f]) (fun k h => mastref2_routes.f_eq k h.1 h.2.1)
    (fun k own => by unfold mastref2_routes.O; exact oracle_of (P := Tryz.prog) (C := ctx) ⟨own, ⟨(mastref2_Route.ok), ⟨(mastref2_PartOf.ok), trivial⟩⟩⟩)
def mastref2_RoutesOf.f (k : Nat) (a0 : T_api_Value) : Option ((List ByteArray) × Int) := ((mastref2_ConfCheck.f k (T_api_Value.mk a0.fKind a0.fBool a0.fInt a0.fText a0.fItems a0.fKeys)).bind fun y1 => (bif (!ieq y1 0) then (some ([], y1)) else ((mastref2_routes.f k (T_api_Value.mk a0.fKind a0.fBool a0.fInt a0.fText a0.fItems a0.fKeys) c_empty).bind fun y2 => (some (y2, 0)))))
def mastref2_RoutesOf.O (k : Nat) : Oracle sg := fun n => lkp n [(57, mastref2_ConfCheck.e k), (58, mastref2_routes.e k)]
def mastref2_RoutesOf.a : Ann := .z
def mastref2_RoutesOf.L (k : Nat) : Nat → St sg.U → Option (RT sg.U [(.sl .str), (.int .i64)]) := labs []
theorem mastref2_RoutesOf.f_eq (k : Nat) (a0 : T_api_Value) : mastref2_RoutesOf.f k a0 = codeK (C := ctx) (mastref2_RoutesOf.O k) ⟨12, [], []⟩ (mastref2_RoutesOf.L k) (Tryz.f15.body.getD .skip) mastref2_RoutesOf.a (endK ctx [(.sl .str), (.int .i64)] [(.tmp 2), (.tmp 3)]) (slotsOf sg.U 0 [(.d (.st 0))] (a0, ()) (empty sg.U)) := by
  unfold mastref2_RoutesOf.f
  kernel_rfl
def mastref2_RoutesOf.e (k : Nat) : Entry sg := entryOf sg [(.d (.st 0))] [(.sl .str), (.int .i64)] (fun h => mastref2_RoutesOf.f k h.1)
def mastref2_RoutesOf.T : List (Lb sg (RT sg.U [(.sl .str), (.int .i64)])) := []
theorem mastref2_RoutesOf.ok (k : Nat) : (mastref2_RoutesOf.e k).Sound Tryz.prog ctx 15 :=
  entry_ok base_ok mo (fn := Tryz.f15) (b := (Tryz.f15.body.getD .skip)) (pm := [(.d (.st 0))]) (rs := [(.sl .str), (.int .i64)]) (an := mastref2_RoutesOf.a) (N := 12) (vars := [(.tmp 2), (.tmp 3)]) Tryz.func15 (by kernel_rfl) (by kernel_rfl) (by kernel_rfl) (by kernel_rfl) (by kernel_rfl) (by kernel_rfl) (O := mastref2_RoutesOf.O)
    (fun k => by unfold mastref2_RoutesOf.O; exact oracle_of (P := Tryz.prog) (C := ctx) ⟨(mastref2_ConfCheck.ok k), ⟨(mastref2_routes.ok k), trivial⟩⟩) mastref2_RoutesOf.T trivial k (fun h => mastref2_RoutesOf.f_eq k h.1)
def slices_Equal_string_string.l0 : Nat → (List ByteArray) → (List ByteArray) → Int → Int → Option (Bool)
  | 0, _, _, _, _ => none
  | k + 1, x0, x1, x12, x13 => (bif (ilt x13 x12) then ((lat x0 x13).bind fun y1 => ((lat x1 x13).bind fun y2 => (bif (!seq y1 y2) then (some false) else (slices_Equal_string_string.l0 k x0 x1 x12 (wadd .i64 x13 1))))) else (some true))
def slices_Equal_string_string.f (k : Nat) (a0 : (List ByteArray)) (a1 : (List ByteArray)) : Option (Bool) := (bif (!ieq (llen a0) (llen a1)) then (some false) else (slices_Equal_string_string.l0 k a0 a1 (llen a0) 0))
def slices_Equal_string_string.O (k : Nat) : Oracle sg := fun n => lkp n []
def slices_Equal_string_string.a : Ann := (.n .z (.n .z (.n (.n .z (.lp 0 .z)) .z)))
def slices_Equal_string_string.L (k : Nat) : Nat → St sg.U → Option (RT sg.U [.bool]) := labs [(0, labOf sg [(0, (.d (.sl .str))), (1, (.d (.sl .str))), (12, (.d (.int .i64))), (13, (.d (.int .i64)))] (fun h => slices_Equal_string_string.l0 k h.1 h.2.1 h.2.2.1 h.2.2.2.1))]
theorem slices_Equal_string_string.l0_eq (k : Nat) (x0 : (List ByteArray)) (x1 : (List ByteArray)) (x12 : Int) (x13 : Int) : slices_Equal_string_string.l0 (k + 1) x0 x1 x12 x13 = runFrom (C := ctx) (slices_Equal_string_string.O k) ⟨26, [], []⟩ (slices_Equal_string_string.L k) (Tryz.f43.body.getD .skip) slices_Equal_string_string.a 0 (endK ctx [.bool] [(.tmp 4)]) (encD [(0, (.d (.sl .str))), (1, (.d (.sl .str))), (12, (.d (.int .i64))), (13, (.d (.int .i64)))] (x0, x1, x12, x13, ()) (startD sg.U ⟨26, [], []⟩ [(0, (.d (.sl .str))), (1, (.d (.sl .str))), (12, (.d (.int .i64))), (13, (.d (.int .i64)))])) := by
  rw [slices_Equal_string_string.l0]
  kernel_rfl
theorem slices_Equal_string_string.f_eq (k : Nat) (a0 : (List ByteArray)) (a1 : (List ByteArray)) : slices_Equal_string_string.f k a0 a1 = codeK (C := ctx) (slices_Equal_string_string.O k) ⟨26, [], []⟩ (slices_Equal_string_string.L k) (Tryz.f43.body.getD .skip) slices_Equal_string_string.a (endK ctx [.bool] [(.tmp 4)]) (slotsOf sg.U 0 [(.d (.sl .str)), (.d (.sl .str))] (a0, a1, ()) (empty sg.U)) := by
  unfold slices_Equal_string_string.f
  kernel_rfl
def slices_Equal_string_string.e (k : Nat) : Entry sg := entryOf sg [(.d (.sl .str)), (.d (.sl .str))] [.bool] (fun h => slices_Equal_string_string.f k h.1 h.2.1)
def slices_Equal_string_string.T : List (Lb sg (RT sg.U [.bool])) := [⟨0, [(0, (.d (.sl .str))), (1, (.d (.sl .str))), (12, (.d (.int .i64))), (13, (.d (.int .i64)))], fun k h => slices_Equal_string_string.l0 k h.1 h.2.1 h.2.2.1 h.2.2.2.1⟩]
theorem slices_Equal_string_string.ok (k : Nat) : (slices_Equal_string_string.e k).Sound Tryz.prog ctx 43 :=
  entry_ok base_ok mo (fn := Tryz.f43) (b := (Tryz.f43.body.getD .skip)) (pm := [(.d (.sl .str)), (.d (.sl .str))]) (rs := [.bool]) (an := slices_Equal_string_string.a) (N := 26) (vars := [(.tmp 4)]) Tryz.func43 (by kernel_rfl) (by kernel_rfl) (by kernel_rfl) (by kernel_rfl) (by kernel_rfl) (by kernel_rfl) (O := slices_Equal_string_string.O)
    (fun k => by unfold slices_Equal_string_string.O; exact oracle_of (P := Tryz.prog) (C := ctx) trivial) slices_Equal_string_string.T ⟨⟨by kernel_rfl, fun _ => by first | rfl | rw [slices_Equal_string_string.l0], fun k h => slices_Equal_string_string.l0_eq k h.1 h.2.1 h.2.2.1 h.2.2.2.1⟩, trivial⟩ k (fun h => slices_Equal_string_string.f_eq k h.1 h.2.1)
def mastref2_Alike_at_string.f (k : Nat) (a0 : (List ByteArray)) (a1 : (List ByteArray)) : Option (Bool) := ((slices_Equal_string_string.f k a0 a1).bind fun y1 => (some y1))
def mastref2_Alike_at_string.O (k : Nat) : Oracle sg := fun n => lkp n [(43, slices_Equal_string_string.e k)]
def mastref2_Alike_at_string.a : Ann := .z
def mastref2_Alike_at_string.L (k : Nat) : Nat → St sg.U → Option (RT sg.U [.bool]) := labs []
theorem mastref2_Alike_at_string.f_eq (k : Nat) (a0 : (List ByteArray)) (a1 : (List ByteArray)) : mastref2_Alike_at_string.f k a0 a1 = codeK (C := ctx) (mastref2_Alike_at_string.O k) ⟨296, [], []⟩ (mastref2_Alike_at_string.L k) (Tryz.f13.body.getD .skip) mastref2_Alike_at_string.a (endK ctx [.bool] [(.tmp 4)]) (slotsOf sg.U 0 [(.iv 23 (.sl .str)), (.iv 23 (.sl .str))] (a0, a1, ()) (empty sg.U)) := by
  unfold mastref2_Alike_at_string.f
  kernel_rfl
def mastref2_Alike_at_string.e (k : Nat) : Entry sg := entryOf sg [(.iv 23 (.sl .str)), (.iv 23 (.sl .str))] [.bool] (fun h => mastref2_Alike_at_string.f k h.1 h.2.1)
def mastref2_Alike_at_string.T : List (Lb sg (RT sg.U [.bool])) := []
theorem mastref2_Alike_at_string.ok (k : Nat) : (mastref2_Alike_at_string.e k).Sound Tryz.prog ctx 13 :=
  entry_ok base_ok mo (fn := Tryz.f13) (b := (Tryz.f13.body.getD .skip)) (pm := [(.iv 23 (.sl .str)), (.iv 23 (.sl .str))]) (rs := [.bool]) (an := mastref2_Alike_at_string.a) (N := 296) (vars := [(.tmp 4)]) Tryz.func13 (by kernel_rfl) (by kernel_rfl) (by kernel_rfl) (by kernel_rfl) (by kernel_rfl) (by kernel_rfl) (O := mastref2_Alike_at_string.O)
    (fun k => by unfold mastref2_Alike_at_string.O; exact oracle_of (P := Tryz.prog) (C := ctx) ⟨(slices_Equal_string_string.ok k), trivial⟩) mastref2_Alike_at_string.T trivial k (fun h => mastref2_Alike_at_string.f_eq k h.1 h.2.1)
def mastlaw2_ConfRoutes.f (k : Nat) (a0 : T_api_Value) : Option (Bool) := ((conf_Routes.f k (T_api_Value.mk a0.fKind a0.fBool a0.fInt a0.fText a0.fItems a0.fKeys)).bind fun y1 => ((mastref2_RoutesOf.f k (T_api_Value.mk a0.fKind a0.fBool a0.fInt a0.fText a0.fItems a0.fKeys)).bind fun y2 => (bif (ieq y1.2 y2.2) then ((mastref2_Alike_at_string.f k y1.1 y2.1).bind fun y3 => (some y3)) else (some false))))
def mastlaw2_ConfRoutes.O (k : Nat) : Oracle sg := fun n => lkp n [(13, mastref2_Alike_at_string.e k), (14, conf_Routes.e k), (15, mastref2_RoutesOf.e k)]
def mastlaw2_ConfRoutes.a : Ann := .z
def mastlaw2_ConfRoutes.L (k : Nat) : Nat → St sg.U → Option (RT sg.U [.bool]) := labs []
theorem mastlaw2_ConfRoutes.f_eq (k : Nat) (a0 : T_api_Value) : mastlaw2_ConfRoutes.f k a0 = codeK (C := ctx) (mastlaw2_ConfRoutes.O k) ⟨27, [], []⟩ (mastlaw2_ConfRoutes.L k) (Tryz.f4.body.getD .skip) mastlaw2_ConfRoutes.a (endK ctx [.bool] [(.tmp 2)]) (slotsOf sg.U 0 [(.d (.st 0))] (a0, ()) (empty sg.U)) := by
  unfold mastlaw2_ConfRoutes.f
  kernel_rfl
def mastlaw2_ConfRoutes.e (k : Nat) : Entry sg := entryOf sg [(.d (.st 0))] [.bool] (fun h => mastlaw2_ConfRoutes.f k h.1)
def mastlaw2_ConfRoutes.T : List (Lb sg (RT sg.U [.bool])) := []
theorem mastlaw2_ConfRoutes.ok (k : Nat) : (mastlaw2_ConfRoutes.e k).Sound Tryz.prog ctx 4 :=
  entry_ok base_ok mo (fn := Tryz.f4) (b := (Tryz.f4.body.getD .skip)) (pm := [(.d (.st 0))]) (rs := [.bool]) (an := mastlaw2_ConfRoutes.a) (N := 27) (vars := [(.tmp 2)]) Tryz.func4 (by kernel_rfl) (by kernel_rfl) (by kernel_rfl) (by kernel_rfl) (by kernel_rfl) (by kernel_rfl) (O := mastlaw2_ConfRoutes.O)
    (fun k => by unfold mastlaw2_ConfRoutes.O; exact oracle_of (P := Tryz.prog) (C := ctx) ⟨(mastref2_Alike_at_string.ok k), ⟨(conf_Routes.ok k), ⟨(mastref2_RoutesOf.ok k), trivial⟩⟩⟩) mastlaw2_ConfRoutes.T trivial k (fun h => mastlaw2_ConfRoutes.f_eq k h.1)
end Go.Proofs.YthmedjljckbidaaGreatDoor.LConfRoutes
