/- The functions behind the law ConfGets, checked against the code; their summaries hold. Conditions: none. -/
import Derived.Test.YtibnepagledbjaaGreatDoorLiftZ
import Derived.Test.YtibnepagledbjaaGreatDoorProg
import Derived.Test.YtibnepagledbjaaGreatDoorShelf
import Derived.Shelf.Strings.SlTrimAscii
namespace Go.Proofs.YtibnepagledbjaaGreatDoor.LConfGets
open Go Go.Proofs.YtibnepagledbjaaGreatDoor.Lift
set_option maxRecDepth 100000
set_option linter.unusedVariables false
structure T_api_Value where
  fKind : Int
  fBool : Bool
  fInt : Int
  fText : ByteArray
  fItems : (List T_api_Value)
  fKeys : (List ByteArray)
  deriving Inhabited
structure T_conf_step where
  fkey : ByteArray
  fnumber : Int
  fstar : Bool
  deriving Inhabited
abbrev sgU : Nat → Type
  | 0 => T_api_Value
  | 1 => T_conf_step
  | _ + 2 => Unit
abbrev sgF : Nat → List Ty
  | 0 => [(.int .i64), .bool, (.int .i64), .str, (.sl (.st 0)), (.sl .str)]
  | 1 => [.str, (.int .i64), .bool]
  | _ + 2 => []
def sgO : (n : Nat) → sgU n → HL sgU (sgF n)
  | 0, x => (x.fKind, x.fBool, x.fInt, x.fText, x.fItems, x.fKeys, ())
  | 1, x => (x.fkey, x.fnumber, x.fstar, ())
  | _ + 2, _ => ()
def sgB : (n : Nat) → HL sgU (sgF n) → sgU n
  | 0, h => ⟨h.1, h.2.1, h.2.2.1, h.2.2.2.1, h.2.2.2.2.1, h.2.2.2.2.2.1⟩
  | 1, h => ⟨h.1, h.2.1, h.2.2.1⟩
  | _ + 2, _ => ()
def sg : Sg := { U := sgU, fl := sgF, out := sgO, bld := sgB, gl := [0] }
def ctx : Ctx := { S := sg, ty := [(3, .d (.int .i64) 1 0), (4, .d .bool 1 0), (5, .d (.int .u8) 1 0), (9, .d .str 1 0), (22, .d (.sl (.st 0)) 88 25), (23, .d (.sl .str) 16 9), (25, .d (.st 0) 1 0), (26, .d (.int .i64) 1 0), (103, .d (.sl (.int .i64)) 8 3), (153, .d (.sl (.st 1)) 32 272), (272, .d (.st 1) 1 0), (330, .d (.int .u64) 1 0)], eqs := [] }
def c_empty : ByteArray := ⟨#[]⟩
def c__2e : ByteArray := ⟨#[46]⟩
def c__2a : ByteArray := ⟨#[42]⟩
def c__2d : ByteArray := ⟨#[45]⟩
def c_0 : ByteArray := ⟨#[48]⟩
def c_abcdefghijklmnopqrst_0e2e2cf4 : ByteArray := ⟨#[97, 98, 99, 100, 101, 102, 103, 104, 105, 106, 107, 108, 109, 110, 111, 112, 113, 114, 115, 116, 117, 118, 119, 120, 121, 122, 48, 49, 50, 51, 52, 53, 54, 55, 56, 57, 45, 95]⟩
def c_0123456789 : ByteArray := ⟨#[48, 49, 50, 51, 52, 53, 54, 55, 56, 57]⟩
theorem sg_ok : SgOk sg :=
  ⟨fun n h => by rcases n with _ | _ | n <;> rfl, fun n => by rcases n with _ | _ | n <;> rfl, fun n x => by rcases n with _ | _ | n <;> rfl, fun n => by rcases n with _ | _ | n <;> rfl⟩
theorem base_ok : Base Tryz.prog ctx := base_of sg_ok (by kernel_rfl) (eqOk_of (by kernel_rfl))
theorem open_ok : openB Tryz.prog ctx = true := by kernel_rfl
theorem mo : Tryz.prog.follows .mixedOrders = true := by kernel_rfl
mutual
def conf_count.l0 : Nat → Int → (List T_api_Value) → Int → Int → Option (Int)
  | 0, _, _, _, _ => none
  | k + 1, x3, x7, x8, x9 => (bif (ilt x9 x8) then ((lat x7 x9).bind fun y1 => (bif (ilt 1000 x3) then (some x3) else ((conf_count.f k (T_api_Value.mk y1.fKind y1.fBool y1.fInt y1.fText y1.fItems y1.fKeys)).bind fun y2 => (conf_count.l0 k (wadd .i64 x3 y2) x7 x8 (wadd .i64 x9 1))))) else (some x3))
def conf_count.f : Nat → T_api_Value → Option (Int)
  | 0, _ => none
  | k + 1, a0 => (conf_count.l0 k 1 a0.fItems (llen a0.fItems) 0)
end
def conf_count.e (k : Nat) : Entry sg := entryOf sg [(.d (.st 0))] [(.int .i64)] (fun h => conf_count.f k h.1)
def conf_count.O (k : Nat) : Oracle sg := fun n => lkp n [(86, conf_count.e k)]
def conf_count.a : Ann := (.n .z (.n .z (.n (.n .z (.lp 0 .z)) .z)))
def conf_count.L (k : Nat) : Nat → St sg.U → Option (RT sg.U [(.int .i64)]) := labs [(0, labOf sg [(3, (.d (.int .i64))), (7, (.d (.sl (.st 0)))), (8, (.d (.int .i64))), (9, (.d (.int .i64)))] (fun h => conf_count.l0 k h.1 h.2.1 h.2.2.1 h.2.2.2.1))]
theorem conf_count.l0_eq (k : Nat) (x3 : Int) (x7 : (List T_api_Value)) (x8 : Int) (x9 : Int) : conf_count.l0 (k + 1) x3 x7 x8 x9 = runFrom (C := ctx) (conf_count.O k) ⟨21, [], []⟩ (conf_count.L k) (Tryz.f86.body.getD .skip) conf_count.a 0 (endK ctx [(.int .i64)] [(.tmp 2)]) (encD [(3, (.d (.int .i64))), (7, (.d (.sl (.st 0)))), (8, (.d (.int .i64))), (9, (.d (.int .i64)))] (x3, x7, x8, x9, ()) (startD sg.U ⟨21, [], []⟩ [(3, (.d (.int .i64))), (7, (.d (.sl (.st 0)))), (8, (.d (.int .i64))), (9, (.d (.int .i64)))])) := by
  rw [conf_count.l0]
  kernel_rfl
theorem conf_count.f_eq (k : Nat) (a0 : T_api_Value) : conf_count.f (k + 1) a0 = codeK (C := ctx) (conf_count.O k) ⟨21, [], []⟩ (conf_count.L k) (Tryz.f86.body.getD .skip) conf_count.a (endK ctx [(.int .i64)] [(.tmp 2)]) (slotsOf sg.U 0 [(.d (.st 0))] (a0, ()) (empty sg.U)) := by
  rw [conf_count.f]
  kernel_rfl
def conf_count.T : List (Lb sg (RT sg.U [(.int .i64)])) := [⟨0, [(3, (.d (.int .i64))), (7, (.d (.sl (.st 0)))), (8, (.d (.int .i64))), (9, (.d (.int .i64)))], fun k h => conf_count.l0 k h.1 h.2.1 h.2.2.1 h.2.2.2.1⟩]
theorem conf_count.ok : ∀ k : Nat, (conf_count.e k).Sound Tryz.prog ctx 86 :=
  entry_rec base_ok mo (fn := Tryz.f86) (b := (Tryz.f86.body.getD .skip)) (pm := [(.d (.st 0))]) (rs := [(.int .i64)]) (an := conf_count.a) (N := 21) (vars := [(.tmp 2)]) Tryz.func86 (by kernel_rfl) (by kernel_rfl) (by kernel_rfl) (by kernel_rfl) (by kernel_rfl) (by kernel_rfl) (O := conf_count.O) conf_count.T ⟨⟨by kernel_rfl, fun _ => by first | rfl | rw [conf_count.l0], fun k h => conf_count.l0_eq k h.1 h.2.1 h.2.2.1 h.2.2.2.1⟩, trivial⟩ (F := fun k h => conf_count.f k h.1) (fun _ => by first | rfl | rw [conf_count.f]) (fun k h => conf_count.f_eq k h.1)
    (fun k own => by unfold conf_count.O; exact oracle_of (P := Tryz.prog) (C := ctx) ⟨own, trivial⟩)
mutual
def conf_levels.l0 : Nat → Int → (List T_api_Value) → Int → Int → Option (Int)
  | 0, _, _, _, _ => none
  | k + 1, x3, x7, x8, x9 => (bif (ilt x9 x8) then ((lat x7 x9).bind fun y1 => ((conf_levels.f k (T_api_Value.mk y1.fKind y1.fBool y1.fInt y1.fText y1.fItems y1.fKeys)).bind fun y2 => (conf_levels.l0 k (imax x3 y2) x7 x8 (wadd .i64 x9 1)))) else (some (wadd .i64 x3 1)))
def conf_levels.f : Nat → T_api_Value → Option (Int)
  | 0, _ => none
  | k + 1, a0 => (conf_levels.l0 k 0 a0.fItems (llen a0.fItems) 0)
end
def conf_levels.e (k : Nat) : Entry sg := entryOf sg [(.d (.st 0))] [(.int .i64)] (fun h => conf_levels.f k h.1)
def conf_levels.O (k : Nat) : Oracle sg := fun n => lkp n [(87, conf_levels.e k)]
def conf_levels.a : Ann := (.n .z (.n .z (.n (.n .z (.lp 0 .z)) .z)))
def conf_levels.L (k : Nat) : Nat → St sg.U → Option (RT sg.U [(.int .i64)]) := labs [(0, labOf sg [(3, (.d (.int .i64))), (7, (.d (.sl (.st 0)))), (8, (.d (.int .i64))), (9, (.d (.int .i64)))] (fun h => conf_levels.l0 k h.1 h.2.1 h.2.2.1 h.2.2.2.1))]
theorem conf_levels.l0_eq (k : Nat) (x3 : Int) (x7 : (List T_api_Value)) (x8 : Int) (x9 : Int) : conf_levels.l0 (k + 1) x3 x7 x8 x9 = runFrom (C := ctx) (conf_levels.O k) ⟨20, [], []⟩ (conf_levels.L k) (Tryz.f87.body.getD .skip) conf_levels.a 0 (endK ctx [(.int .i64)] [(.tmp 2)]) (encD [(3, (.d (.int .i64))), (7, (.d (.sl (.st 0)))), (8, (.d (.int .i64))), (9, (.d (.int .i64)))] (x3, x7, x8, x9, ()) (startD sg.U ⟨20, [], []⟩ [(3, (.d (.int .i64))), (7, (.d (.sl (.st 0)))), (8, (.d (.int .i64))), (9, (.d (.int .i64)))])) := by
  rw [conf_levels.l0]
  kernel_rfl
theorem conf_levels.f_eq (k : Nat) (a0 : T_api_Value) : conf_levels.f (k + 1) a0 = codeK (C := ctx) (conf_levels.O k) ⟨20, [], []⟩ (conf_levels.L k) (Tryz.f87.body.getD .skip) conf_levels.a (endK ctx [(.int .i64)] [(.tmp 2)]) (slotsOf sg.U 0 [(.d (.st 0))] (a0, ()) (empty sg.U)) := by
  rw [conf_levels.f]
  kernel_rfl
def conf_levels.T : List (Lb sg (RT sg.U [(.int .i64)])) := [⟨0, [(3, (.d (.int .i64))), (7, (.d (.sl (.st 0)))), (8, (.d (.int .i64))), (9, (.d (.int .i64)))], fun k h => conf_levels.l0 k h.1 h.2.1 h.2.2.1 h.2.2.2.1⟩]
theorem conf_levels.ok : ∀ k : Nat, (conf_levels.e k).Sound Tryz.prog ctx 87 :=
  entry_rec base_ok mo (fn := Tryz.f87) (b := (Tryz.f87.body.getD .skip)) (pm := [(.d (.st 0))]) (rs := [(.int .i64)]) (an := conf_levels.a) (N := 20) (vars := [(.tmp 2)]) Tryz.func87 (by kernel_rfl) (by kernel_rfl) (by kernel_rfl) (by kernel_rfl) (by kernel_rfl) (by kernel_rfl) (O := conf_levels.O) conf_levels.T ⟨⟨by kernel_rfl, fun _ => by first | rfl | rw [conf_levels.l0], fun k h => conf_levels.l0_eq k h.1 h.2.1 h.2.2.1 h.2.2.2.1⟩, trivial⟩ (F := fun k h => conf_levels.f k h.1) (fun _ => by first | rfl | rw [conf_levels.f]) (fun k h => conf_levels.f_eq k h.1)
    (fun k own => by unfold conf_levels.O; exact oracle_of (P := Tryz.prog) (C := ctx) ⟨own, trivial⟩)
def conf_unused.l0 : Nat → Int → Bool → Int → ByteArray → (List T_api_Value) → (List ByteArray) → Int → Bool → Option (Bool)
  | 0, _, _, _, _, _, _, _, _ => none
  | k + 1, x1_0, x1_1, x1_2, x1_3, x1_4, x1_5, x3, x6 => (bif x6 then (some true) else (bif (bif (bif (ilt 0 (llen x1_4)) then (!ieq x3 5) else false) then (!ieq x3 6) else false) then (some true) else (bif (bif (ilt 0 (llen x1_5)) then (!ieq x3 6) else false) then (some true) else (some (bif (ieq x3 6) then (!ieq (llen x1_5) (llen x1_4)) else false)))))
def conf_unused.f (k : Nat) (a0 : T_api_Value) : Option (Bool) := (bif (bif a0.fBool then (!ieq a0.fKind 1) else false) then (conf_unused.l0 k a0.fKind a0.fBool a0.fInt a0.fText a0.fItems a0.fKeys a0.fKind true) else (bif (bif (bif (!ieq a0.fInt 0) then (!ieq a0.fKind 2) else false) then (!ieq a0.fKind 4) else false) then (conf_unused.l0 k a0.fKind a0.fBool a0.fInt a0.fText a0.fItems a0.fKeys a0.fKind true) else (conf_unused.l0 k a0.fKind a0.fBool a0.fInt a0.fText a0.fItems a0.fKeys a0.fKind (bif (!seq a0.fText c_empty) then (!ieq a0.fKind 3) else false))))
def conf_unused.O (k : Nat) : Oracle sg := fun n => lkp n []
def conf_unused.a : Ann := (.n .z (.n .z (.n (.n .z (.lab 0 .z)) .z)))
def conf_unused.L (k : Nat) : Nat → St sg.U → Option (RT sg.U [.bool]) := labs [(0, labOf sg [(1, (.box [.d (.int .i64), .d .bool, .d (.int .i64), .d .str, .d (.sl (.st 0)), .d (.sl .str)])), (3, (.d (.int .i64))), (6, (.d .bool))] (fun h => conf_unused.l0 k h.1 h.2.1 h.2.2.1 h.2.2.2.1 h.2.2.2.2.1 h.2.2.2.2.2.1 h.2.2.2.2.2.2.1 h.2.2.2.2.2.2.2.1))]
theorem conf_unused.l0_eq (k : Nat) (x1_0 : Int) (x1_1 : Bool) (x1_2 : Int) (x1_3 : ByteArray) (x1_4 : (List T_api_Value)) (x1_5 : (List ByteArray)) (x3 : Int) (x6 : Bool) : conf_unused.l0 (k + 1) x1_0 x1_1 x1_2 x1_3 x1_4 x1_5 x3 x6 = runFrom (C := ctx) (conf_unused.O k) ⟨63, [], []⟩ (conf_unused.L k) (Tryz.f210.body.getD .skip) conf_unused.a 0 (endK ctx [.bool] [(.tmp 2)]) (encD [(1, (.box [.d (.int .i64), .d .bool, .d (.int .i64), .d .str, .d (.sl (.st 0)), .d (.sl .str)])), (3, (.d (.int .i64))), (6, (.d .bool))] (x1_0, x1_1, x1_2, x1_3, x1_4, x1_5, x3, x6, ()) (startD sg.U ⟨63, [], []⟩ [(1, (.box [.d (.int .i64), .d .bool, .d (.int .i64), .d .str, .d (.sl (.st 0)), .d (.sl .str)])), (3, (.d (.int .i64))), (6, (.d .bool))])) := by
  rw [conf_unused.l0]
  kernel_rfl
theorem conf_unused.f_eq (k : Nat) (a0 : T_api_Value) : conf_unused.f k a0 = codeK (C := ctx) (conf_unused.O k) ⟨63, [], []⟩ (conf_unused.L k) (Tryz.f210.body.getD .skip) conf_unused.a (endK ctx [.bool] [(.tmp 2)]) (slotsOf sg.U 0 [(.d (.st 0))] (a0, ()) (empty sg.U)) := by
  unfold conf_unused.f
  kernel_rfl
def conf_unused.e (k : Nat) : Entry sg := entryOf sg [(.d (.st 0))] [.bool] (fun h => conf_unused.f k h.1)
def conf_unused.T : List (Lb sg (RT sg.U [.bool])) := [⟨0, [(1, (.box [.d (.int .i64), .d .bool, .d (.int .i64), .d .str, .d (.sl (.st 0)), .d (.sl .str)])), (3, (.d (.int .i64))), (6, (.d .bool))], fun k h => conf_unused.l0 k h.1 h.2.1 h.2.2.1 h.2.2.2.1 h.2.2.2.2.1 h.2.2.2.2.2.1 h.2.2.2.2.2.2.1 h.2.2.2.2.2.2.2.1⟩]
theorem conf_unused.ok (k : Nat) : (conf_unused.e k).Sound Tryz.prog ctx 210 :=
  entry_ok base_ok mo (fn := Tryz.f210) (b := (Tryz.f210.body.getD .skip)) (pm := [(.d (.st 0))]) (rs := [.bool]) (an := conf_unused.a) (N := 63) (vars := [(.tmp 2)]) Tryz.func210 (by kernel_rfl) (by kernel_rfl) (by kernel_rfl) (by kernel_rfl) (by kernel_rfl) (by kernel_rfl) (O := conf_unused.O)
    (fun k => by unfold conf_unused.O; exact oracle_of (P := Tryz.prog) (C := ctx) trivial) conf_unused.T ⟨⟨by kernel_rfl, fun _ => by first | rfl | rw [conf_unused.l0], fun k h => conf_unused.l0_eq k h.1 h.2.1 h.2.2.1 h.2.2.2.1 h.2.2.2.2.1 h.2.2.2.2.2.1 h.2.2.2.2.2.2.1 h.2.2.2.2.2.2.2.1⟩, trivial⟩ k (fun h => conf_unused.f_eq k h.1)
def conf_badDay.f (a0 : Int) : Option (Bool) := (some (bif (ilt a0 0) then true else (ilt 84005 a0)))
def conf_badDay.O : Oracle sg := fun n => lkp n []
def conf_badDay.a : Ann := .z
def conf_badDay.L : Nat → St sg.U → Option (RT sg.U [.bool]) := labs []
theorem conf_badDay.f_eq (a0 : Int) : conf_badDay.f a0 = codeK (C := ctx) (conf_badDay.O) ⟨9, [], []⟩ (conf_badDay.L) (Tryz.f211.body.getD .skip) conf_badDay.a (endK ctx [.bool] [(.tmp 2)]) (slotsOf sg.U 0 [(.d (.int .i64))] (a0, ()) (empty sg.U)) := by
  unfold conf_badDay.f
  kernel_rfl
def conf_badDay.e : Entry sg := entryOf sg [(.d (.int .i64))] [.bool] (fun h => conf_badDay.f h.1)
def conf_badDay.T : List (Lb sg (RT sg.U [.bool])) := []
theorem conf_badDay.ok : (conf_badDay.e).Sound Tryz.prog ctx 211 :=
  entry_ok base_ok mo (fn := Tryz.f211) (b := (Tryz.f211.body.getD .skip)) (pm := [(.d (.int .i64))]) (rs := [.bool]) (an := conf_badDay.a) (N := 9) (vars := [(.tmp 2)]) Tryz.func211 (by kernel_rfl) (by kernel_rfl) (by kernel_rfl) (by kernel_rfl) (by kernel_rfl) (by kernel_rfl) (O := fun _ => conf_badDay.O)
    (fun _ => by unfold conf_badDay.O; exact oracle_of (P := Tryz.prog) (C := ctx) trivial) conf_badDay.T trivial 0 (fun h => conf_badDay.f_eq h.1)
def conf_badBytes.l0 : Nat → ByteArray → Int → Option (Bool)
  | 0, _, _ => none
  | k + 1, x0, x3 => (bif (ilt x3 (slen x0)) then ((sat x0 x3).bind fun y1 => (bif (ilt y1 32) then ((sat x0 x3).bind fun y2 => (bif (!ieq y2 9) then ((sat x0 x3).bind fun y3 => (bif (!ieq y3 10) then (some true) else (conf_badBytes.l0 k x0 (wadd .i64 x3 1)))) else (conf_badBytes.l0 k x0 (wadd .i64 x3 1)))) else (conf_badBytes.l0 k x0 (wadd .i64 x3 1)))) else (some false))
def conf_badBytes.f (k : Nat) (a0 : ByteArray) : Option (Bool) := (conf_badBytes.l0 k a0 0)
def conf_badBytes.O (k : Nat) : Oracle sg := fun n => lkp n []
def conf_badBytes.a : Ann := (.n .z (.n (.n .z (.lp 0 .z)) .z))
def conf_badBytes.L (k : Nat) : Nat → St sg.U → Option (RT sg.U [.bool]) := labs [(0, labOf sg [(0, (.d .str)), (3, (.d (.int .i64)))] (fun h => conf_badBytes.l0 k h.1 h.2.1))]
theorem conf_badBytes.l0_eq (k : Nat) (x0 : ByteArray) (x3 : Int) : conf_badBytes.l0 (k + 1) x0 x3 = runFrom (C := ctx) (conf_badBytes.O k) ⟨26, [], []⟩ (conf_badBytes.L k) (Tryz.f212.body.getD .skip) conf_badBytes.a 0 (endK ctx [.bool] [(.tmp 2)]) (encD [(0, (.d .str)), (3, (.d (.int .i64)))] (x0, x3, ()) (startD sg.U ⟨26, [], []⟩ [(0, (.d .str)), (3, (.d (.int .i64)))])) := by
  rw [conf_badBytes.l0]
  kernel_rfl
theorem conf_badBytes.f_eq (k : Nat) (a0 : ByteArray) : conf_badBytes.f k a0 = codeK (C := ctx) (conf_badBytes.O k) ⟨26, [], []⟩ (conf_badBytes.L k) (Tryz.f212.body.getD .skip) conf_badBytes.a (endK ctx [.bool] [(.tmp 2)]) (slotsOf sg.U 0 [(.d .str)] (a0, ()) (empty sg.U)) := by
  unfold conf_badBytes.f
  kernel_rfl
def conf_badBytes.e (k : Nat) : Entry sg := entryOf sg [(.d .str)] [.bool] (fun h => conf_badBytes.f k h.1)
def conf_badBytes.T : List (Lb sg (RT sg.U [.bool])) := [⟨0, [(0, (.d .str)), (3, (.d (.int .i64)))], fun k h => conf_badBytes.l0 k h.1 h.2.1⟩]
theorem conf_badBytes.ok (k : Nat) : (conf_badBytes.e k).Sound Tryz.prog ctx 212 :=
  entry_ok base_ok mo (fn := Tryz.f212) (b := (Tryz.f212.body.getD .skip)) (pm := [(.d .str)]) (rs := [.bool]) (an := conf_badBytes.a) (N := 26) (vars := [(.tmp 2)]) Tryz.func212 (by kernel_rfl) (by kernel_rfl) (by kernel_rfl) (by kernel_rfl) (by kernel_rfl) (by kernel_rfl) (O := conf_badBytes.O)
    (fun k => by unfold conf_badBytes.O; exact oracle_of (P := Tryz.prog) (C := ctx) trivial) conf_badBytes.T ⟨⟨by kernel_rfl, fun _ => by first | rfl | rw [conf_badBytes.l0], fun k h => conf_badBytes.l0_eq k h.1 h.2.1⟩, trivial⟩ k (fun h => conf_badBytes.f_eq k h.1)
def conf_isSmall.f (a0 : Int) : Option (Bool) := (some (bif (ile 97 a0) then (ile a0 122) else false))
def conf_isSmall.O : Oracle sg := fun n => lkp n []
def conf_isSmall.a : Ann := .z
def conf_isSmall.L : Nat → St sg.U → Option (RT sg.U [.bool]) := labs []
theorem conf_isSmall.f_eq (a0 : Int) : conf_isSmall.f a0 = codeK (C := ctx) (conf_isSmall.O) ⟨9, [], []⟩ (conf_isSmall.L) (Tryz.f203.body.getD .skip) conf_isSmall.a (endK ctx [.bool] [(.tmp 2)]) (slotsOf sg.U 0 [(.d (.int .u8))] (a0, ()) (empty sg.U)) := by
  unfold conf_isSmall.f
  kernel_rfl
def conf_isSmall.e : Entry sg := entryOf sg [(.d (.int .u8))] [.bool] (fun h => conf_isSmall.f h.1)
def conf_isSmall.T : List (Lb sg (RT sg.U [.bool])) := []
theorem conf_isSmall.ok : (conf_isSmall.e).Sound Tryz.prog ctx 203 :=
  entry_ok base_ok mo (fn := Tryz.f203) (b := (Tryz.f203.body.getD .skip)) (pm := [(.d (.int .u8))]) (rs := [.bool]) (an := conf_isSmall.a) (N := 9) (vars := [(.tmp 2)]) Tryz.func203 (by kernel_rfl) (by kernel_rfl) (by kernel_rfl) (by kernel_rfl) (by kernel_rfl) (by kernel_rfl) (O := fun _ => conf_isSmall.O)
    (fun _ => by unfold conf_isSmall.O; exact oracle_of (P := Tryz.prog) (C := ctx) trivial) conf_isSmall.T trivial 0 (fun h => conf_isSmall.f_eq h.1)
def conf_isDigit.f (a0 : Int) : Option (Bool) := (some (bif (ile 48 a0) then (ile a0 57) else false))
def conf_isDigit.O : Oracle sg := fun n => lkp n []
def conf_isDigit.a : Ann := .z
def conf_isDigit.L : Nat → St sg.U → Option (RT sg.U [.bool]) := labs []
theorem conf_isDigit.f_eq (a0 : Int) : conf_isDigit.f a0 = codeK (C := ctx) (conf_isDigit.O) ⟨9, [], []⟩ (conf_isDigit.L) (Tryz.f204.body.getD .skip) conf_isDigit.a (endK ctx [.bool] [(.tmp 2)]) (slotsOf sg.U 0 [(.d (.int .u8))] (a0, ()) (empty sg.U)) := by
  unfold conf_isDigit.f
  kernel_rfl
def conf_isDigit.e : Entry sg := entryOf sg [(.d (.int .u8))] [.bool] (fun h => conf_isDigit.f h.1)
def conf_isDigit.T : List (Lb sg (RT sg.U [.bool])) := []
theorem conf_isDigit.ok : (conf_isDigit.e).Sound Tryz.prog ctx 204 :=
  entry_ok base_ok mo (fn := Tryz.f204) (b := (Tryz.f204.body.getD .skip)) (pm := [(.d (.int .u8))]) (rs := [.bool]) (an := conf_isDigit.a) (N := 9) (vars := [(.tmp 2)]) Tryz.func204 (by kernel_rfl) (by kernel_rfl) (by kernel_rfl) (by kernel_rfl) (by kernel_rfl) (by kernel_rfl) (O := fun _ => conf_isDigit.O)
    (fun _ => by unfold conf_isDigit.O; exact oracle_of (P := Tryz.prog) (C := ctx) trivial) conf_isDigit.T trivial 0 (fun h => conf_isDigit.f_eq h.1)
def conf_isKey.l0 : Nat → ByteArray → Int → Option (Bool)
  | 0, _, _ => none
  | k + 1, x0, x3 => (bif (ilt x3 (slen x0)) then ((sat x0 x3).bind fun y3 => ((conf_isSmall.f y3).bind fun y4 => (bif (!y4) then ((sat x0 x3).bind fun y5 => ((conf_isDigit.f y5).bind fun y6 => (bif (!y6) then ((sat x0 x3).bind fun y7 => (bif (!ieq y7 45) then ((sat x0 x3).bind fun y8 => (bif (!ieq y8 95) then (some false) else (conf_isKey.l0 k x0 (wadd .i64 x3 1)))) else (conf_isKey.l0 k x0 (wadd .i64 x3 1)))) else (conf_isKey.l0 k x0 (wadd .i64 x3 1))))) else (conf_isKey.l0 k x0 (wadd .i64 x3 1))))) else (some true))
def conf_isKey.f (k : Nat) (a0 : ByteArray) : Option (Bool) := (bif (bif (seq a0 c_empty) then true else (ilt 40 (slen a0))) then (some false) else ((sat a0 0).bind fun y1 => ((conf_isSmall.f y1).bind fun y2 => (bif (!y2) then (some false) else (conf_isKey.l0 k a0 1)))))
def conf_isKey.O (k : Nat) : Oracle sg := fun n => lkp n [(203, conf_isSmall.e), (204, conf_isDigit.e)]
def conf_isKey.a : Ann := (.n .z (.n .z (.n (.n .z (.lp 0 .z)) .z)))
def conf_isKey.L (k : Nat) : Nat → St sg.U → Option (RT sg.U [.bool]) := labs [(0, labOf sg [(0, (.d .str)), (3, (.d (.int .i64)))] (fun h => conf_isKey.l0 k h.1 h.2.1))]
theorem conf_isKey.l0_eq (k : Nat) (x0 : ByteArray) (x3 : Int) : conf_isKey.l0 (k + 1) x0 x3 = runFrom (C := ctx) (conf_isKey.O k) ⟨47, [], []⟩ (conf_isKey.L k) (Tryz.f154.body.getD .skip) conf_isKey.a 0 (endK ctx [.bool] [(.tmp 2)]) (encD [(0, (.d .str)), (3, (.d (.int .i64)))] (x0, x3, ()) (startD sg.U ⟨47, [], []⟩ [(0, (.d .str)), (3, (.d (.int .i64)))])) := by
  rw [conf_isKey.l0]
  kernel_rfl
theorem conf_isKey.f_eq (k : Nat) (a0 : ByteArray) : conf_isKey.f k a0 = codeK (C := ctx) (conf_isKey.O k) ⟨47, [], []⟩ (conf_isKey.L k) (Tryz.f154.body.getD .skip) conf_isKey.a (endK ctx [.bool] [(.tmp 2)]) (slotsOf sg.U 0 [(.d .str)] (a0, ()) (empty sg.U)) := by
  unfold conf_isKey.f
  kernel_rfl
def conf_isKey.e (k : Nat) : Entry sg := entryOf sg [(.d .str)] [.bool] (fun h => conf_isKey.f k h.1)
def conf_isKey.T : List (Lb sg (RT sg.U [.bool])) := [⟨0, [(0, (.d .str)), (3, (.d (.int .i64)))], fun k h => conf_isKey.l0 k h.1 h.2.1⟩]
theorem conf_isKey.ok (k : Nat) : (conf_isKey.e k).Sound Tryz.prog ctx 154 :=
  entry_ok base_ok mo (fn := Tryz.f154) (b := (Tryz.f154.body.getD .skip)) (pm := [(.d .str)]) (rs := [.bool]) (an := conf_isKey.a) (N := 47) (vars := [(.tmp 2)]) Tryz.func154 (by kernel_rfl) (by kernel_rfl) (by kernel_rfl) (by kernel_rfl) (by kernel_rfl) (by kernel_rfl) (O := conf_isKey.O)
    (fun k => by unfold conf_isKey.O; exact oracle_of (P := Tryz.prog) (C := ctx) ⟨(conf_isSmall.ok), ⟨(conf_isDigit.ok), trivial⟩⟩) conf_isKey.T ⟨⟨by kernel_rfl, fun _ => by first | rfl | rw [conf_isKey.l0], fun k h => conf_isKey.l0_eq k h.1 h.2.1⟩, trivial⟩ k (fun h => conf_isKey.f_eq k h.1)
mutual
def conf_valueFault.l0 : Nat → Int → Bool → Int → ByteArray → (List T_api_Value) → (List ByteArray) → Bool → Option (Int)
  | 0, _, _, _, _, _, _, _ => none
  | k + 1, x1_0, x1_1, x1_2, x1_3, x1_4, x1_5, x17 => (bif x17 then (some 2) else (bif (ilt 5000 (slen x1_3)) then (some 4) else ((conf_badBytes.f k x1_3).bind fun y3 => (bif y3 then (some 9) else (conf_valueFault.l1 k x1_0 x1_1 x1_2 x1_3 x1_4 x1_5 x1_5 (llen x1_5) 0)))))
def conf_valueFault.l1 : Nat → Int → Bool → Int → ByteArray → (List T_api_Value) → (List ByteArray) → (List ByteArray) → Int → Int → Option (Int)
  | 0, _, _, _, _, _, _, _, _, _ => none
  | k + 1, x1_0, x1_1, x1_2, x1_3, x1_4, x1_5, x36, x37, x38 => (bif (ilt x38 x37) then ((lat x36 x38).bind fun y4 => ((conf_isKey.f k y4).bind fun y5 => (bif (!y5) then (some 12) else (bif (ilt 0 x38) then ((lat x1_5 (wsub .i64 x38 1)).bind fun y6 => (bif (sle y4 y6) then (some 5) else (conf_valueFault.l1 k x1_0 x1_1 x1_2 x1_3 x1_4 x1_5 x36 x37 (wadd .i64 x38 1)))) else (conf_valueFault.l1 k x1_0 x1_1 x1_2 x1_3 x1_4 x1_5 x36 x37 (wadd .i64 x38 1)))))) else (some 0))
end
def conf_valueFault.f (k : Nat) (a0 : T_api_Value) : Option (Int) := (bif (bif (ilt a0.fKind 0) then true else (ilt 6 a0.fKind)) then (some 10) else ((conf_unused.f k (T_api_Value.mk a0.fKind a0.fBool a0.fInt a0.fText a0.fItems a0.fKeys)).bind fun y1 => (bif y1 then (some 1) else (bif (ieq a0.fKind 4) then ((conf_badDay.f a0.fInt).bind fun y2 => (conf_valueFault.l0 k a0.fKind a0.fBool a0.fInt a0.fText a0.fItems a0.fKeys y2)) else (conf_valueFault.l0 k a0.fKind a0.fBool a0.fInt a0.fText a0.fItems a0.fKeys false)))))
def conf_valueFault.O (k : Nat) : Oracle sg := fun n => lkp n [(154, conf_isKey.e k), (210, conf_unused.e k), (211, conf_badDay.e), (212, conf_badBytes.e k)]
def conf_valueFault.a : Ann := (.n .z (.n (.n .z (.n .z (.n .z (.n .z (.n .z (.lab 0 .z)))))) (.n (.n .z (.lp 1 .z)) .z)))
def conf_valueFault.L (k : Nat) : Nat → St sg.U → Option (RT sg.U [(.int .i64)]) := labs [(0, labOf sg [(1, (.box [.d (.int .i64), .d .bool, .d (.int .i64), .d .str, .d (.sl (.st 0)), .d (.sl .str)])), (17, (.d .bool))] (fun h => conf_valueFault.l0 k h.1 h.2.1 h.2.2.1 h.2.2.2.1 h.2.2.2.2.1 h.2.2.2.2.2.1 h.2.2.2.2.2.2.1)), (1, labOf sg [(1, (.box [.d (.int .i64), .d .bool, .d (.int .i64), .d .str, .d (.sl (.st 0)), .d (.sl .str)])), (36, (.d (.sl .str))), (37, (.d (.int .i64))), (38, (.d (.int .i64)))] (fun h => conf_valueFault.l1 k h.1 h.2.1 h.2.2.1 h.2.2.2.1 h.2.2.2.2.1 h.2.2.2.2.2.1 h.2.2.2.2.2.2.1 h.2.2.2.2.2.2.2.1 h.2.2.2.2.2.2.2.2.1))]
theorem conf_valueFault.l0_eq (k : Nat) (x1_0 : Int) (x1_1 : Bool) (x1_2 : Int) (x1_3 : ByteArray) (x1_4 : (List T_api_Value)) (x1_5 : (List ByteArray)) (x17 : Bool) : conf_valueFault.l0 (k + 1) x1_0 x1_1 x1_2 x1_3 x1_4 x1_5 x17 = runFrom (C := ctx) (conf_valueFault.O k) ⟨59, [], []⟩ (conf_valueFault.L k) (Tryz.f167.body.getD .skip) conf_valueFault.a 0 (endK ctx [(.int .i64)] [(.tmp 2)]) (encD [(1, (.box [.d (.int .i64), .d .bool, .d (.int .i64), .d .str, .d (.sl (.st 0)), .d (.sl .str)])), (17, (.d .bool))] (x1_0, x1_1, x1_2, x1_3, x1_4, x1_5, x17, ()) (startD sg.U ⟨59, [], []⟩ [(1, (.box [.d (.int .i64), .d .bool, .d (.int .i64), .d .str, .d (.sl (.st 0)), .d (.sl .str)])), (17, (.d .bool))])) := by
  rw [conf_valueFault.l0]
  kernel_rfl
theorem conf_valueFault.l1_eq (k : Nat) (x1_0 : Int) (x1_1 : Bool) (x1_2 : Int) (x1_3 : ByteArray) (x1_4 : (List T_api_Value)) (x1_5 : (List ByteArray)) (x36 : (List ByteArray)) (x37 : Int) (x38 : Int) : conf_valueFault.l1 (k + 1) x1_0 x1_1 x1_2 x1_3 x1_4 x1_5 x36 x37 x38 = runFrom (C := ctx) (conf_valueFault.O k) ⟨59, [], []⟩ (conf_valueFault.L k) (Tryz.f167.body.getD .skip) conf_valueFault.a 1 (endK ctx [(.int .i64)] [(.tmp 2)]) (encD [(1, (.box [.d (.int .i64), .d .bool, .d (.int .i64), .d .str, .d (.sl (.st 0)), .d (.sl .str)])), (36, (.d (.sl .str))), (37, (.d (.int .i64))), (38, (.d (.int .i64)))] (x1_0, x1_1, x1_2, x1_3, x1_4, x1_5, x36, x37, x38, ()) (startD sg.U ⟨59, [], []⟩ [(1, (.box [.d (.int .i64), .d .bool, .d (.int .i64), .d .str, .d (.sl (.st 0)), .d (.sl .str)])), (36, (.d (.sl .str))), (37, (.d (.int .i64))), (38, (.d (.int .i64)))])) := by
  rw [conf_valueFault.l1]
  kernel_rfl
theorem conf_valueFault.f_eq (k : Nat) (a0 : T_api_Value) : conf_valueFault.f k a0 = codeK (C := ctx) (conf_valueFault.O k) ⟨59, [], []⟩ (conf_valueFault.L k) (Tryz.f167.body.getD .skip) conf_valueFault.a (endK ctx [(.int .i64)] [(.tmp 2)]) (slotsOf sg.U 0 [(.d (.st 0))] (a0, ()) (empty sg.U)) := by
  unfold conf_valueFault.f
  kernel_rfl
def conf_valueFault.e (k : Nat) : Entry sg := entryOf sg [(.d (.st 0))] [(.int .i64)] (fun h => conf_valueFault.f k h.1)
def conf_valueFault.T : List (Lb sg (RT sg.U [(.int .i64)])) := [⟨0, [(1, (.box [.d (.int .i64), .d .bool, .d (.int .i64), .d .str, .d (.sl (.st 0)), .d (.sl .str)])), (17, (.d .bool))], fun k h => conf_valueFault.l0 k h.1 h.2.1 h.2.2.1 h.2.2.2.1 h.2.2.2.2.1 h.2.2.2.2.2.1 h.2.2.2.2.2.2.1⟩, ⟨1, [(1, (.box [.d (.int .i64), .d .bool, .d (.int .i64), .d .str, .d (.sl (.st 0)), .d (.sl .str)])), (36, (.d (.sl .str))), (37, (.d (.int .i64))), (38, (.d (.int .i64)))], fun k h => conf_valueFault.l1 k h.1 h.2.1 h.2.2.1 h.2.2.2.1 h.2.2.2.2.1 h.2.2.2.2.2.1 h.2.2.2.2.2.2.1 h.2.2.2.2.2.2.2.1 h.2.2.2.2.2.2.2.2.1⟩]
theorem conf_valueFault.ok (k : Nat) : (conf_valueFault.e k).Sound Tryz.prog ctx 167 :=
  entry_ok base_ok mo (fn := Tryz.f167) (b := (Tryz.f167.body.getD .skip)) (pm := [(.d (.st 0))]) (rs := [(.int .i64)]) (an := conf_valueFault.a) (N := 59) (vars := [(.tmp 2)]) Tryz.func167 (by kernel_rfl) (by kernel_rfl) (by kernel_rfl) (by kernel_rfl) (by kernel_rfl) (by kernel_rfl) (O := conf_valueFault.O)
    (fun k => by unfold conf_valueFault.O; exact oracle_of (P := Tryz.prog) (C := ctx) ⟨(conf_isKey.ok k), ⟨(conf_unused.ok k), ⟨(conf_badDay.ok), ⟨(conf_badBytes.ok k), trivial⟩⟩⟩⟩) conf_valueFault.T ⟨⟨by kernel_rfl, fun _ => by first | rfl | rw [conf_valueFault.l0], fun k h => conf_valueFault.l0_eq k h.1 h.2.1 h.2.2.1 h.2.2.2.1 h.2.2.2.2.1 h.2.2.2.2.2.1 h.2.2.2.2.2.2.1⟩, ⟨⟨by kernel_rfl, fun _ => by first | rfl | rw [conf_valueFault.l1], fun k h => conf_valueFault.l1_eq k h.1 h.2.1 h.2.2.1 h.2.2.2.1 h.2.2.2.2.1 h.2.2.2.2.2.1 h.2.2.2.2.2.2.1 h.2.2.2.2.2.2.2.1 h.2.2.2.2.2.2.2.2.1⟩, trivial⟩⟩ k (fun h => conf_valueFault.f_eq k h.1)
mutual
def conf_valuesFault.l0 : Nat → (List T_api_Value) → Int → Int → Option (Int)
  | 0, _, _, _ => none
  | k + 1, x13, x14, x15 => (bif (ilt x15 x14) then ((lat x13 x15).bind fun y2 => ((conf_valuesFault.f k (T_api_Value.mk y2.fKind y2.fBool y2.fInt y2.fText y2.fItems y2.fKeys)).bind fun y3 => (bif (!ieq y3 0) then (some y3) else (conf_valuesFault.l0 k x13 x14 (wadd .i64 x15 1))))) else (some 0))
def conf_valuesFault.f : Nat → T_api_Value → Option (Int)
  | 0, _ => none
  | k + 1, a0 => ((conf_valueFault.f k (T_api_Value.mk a0.fKind a0.fBool a0.fInt a0.fText a0.fItems a0.fKeys)).bind fun y1 => (bif (!ieq y1 0) then (some y1) else (conf_valuesFault.l0 k a0.fItems (llen a0.fItems) 0)))
end
def conf_valuesFault.e (k : Nat) : Entry sg := entryOf sg [(.d (.st 0))] [(.int .i64)] (fun h => conf_valuesFault.f k h.1)
def conf_valuesFault.O (k : Nat) : Oracle sg := fun n => lkp n [(88, conf_valuesFault.e k), (167, conf_valueFault.e k)]
def conf_valuesFault.a : Ann := (.n .z (.n .z (.n (.n .z (.lp 0 .z)) .z)))
def conf_valuesFault.L (k : Nat) : Nat → St sg.U → Option (RT sg.U [(.int .i64)]) := labs [(0, labOf sg [(13, (.d (.sl (.st 0)))), (14, (.d (.int .i64))), (15, (.d (.int .i64)))] (fun h => conf_valuesFault.l0 k h.1 h.2.1 h.2.2.1))]
theorem conf_valuesFault.l0_eq (k : Nat) (x13 : (List T_api_Value)) (x14 : Int) (x15 : Int) : conf_valuesFault.l0 (k + 1) x13 x14 x15 = runFrom (C := ctx) (conf_valuesFault.O k) ⟨25, [], []⟩ (conf_valuesFault.L k) (Tryz.f88.body.getD .skip) conf_valuesFault.a 0 (endK ctx [(.int .i64)] [(.tmp 2)]) (encD [(13, (.d (.sl (.st 0)))), (14, (.d (.int .i64))), (15, (.d (.int .i64)))] (x13, x14, x15, ()) (startD sg.U ⟨25, [], []⟩ [(13, (.d (.sl (.st 0)))), (14, (.d (.int .i64))), (15, (.d (.int .i64)))])) := by
  rw [conf_valuesFault.l0]
  kernel_rfl
theorem conf_valuesFault.f_eq (k : Nat) (a0 : T_api_Value) : conf_valuesFault.f (k + 1) a0 = codeK (C := ctx) (conf_valuesFault.O k) ⟨25, [], []⟩ (conf_valuesFault.L k) (Tryz.f88.body.getD .skip) conf_valuesFault.a (endK ctx [(.int .i64)] [(.tmp 2)]) (slotsOf sg.U 0 [(.d (.st 0))] (a0, ()) (empty sg.U)) := by
  rw [conf_valuesFault.f]
  kernel_rfl
def conf_valuesFault.T : List (Lb sg (RT sg.U [(.int .i64)])) := [⟨0, [(13, (.d (.sl (.st 0)))), (14, (.d (.int .i64))), (15, (.d (.int .i64)))], fun k h => conf_valuesFault.l0 k h.1 h.2.1 h.2.2.1⟩]
theorem conf_valuesFault.ok : ∀ k : Nat, (conf_valuesFault.e k).Sound Tryz.prog ctx 88 :=
  entry_rec base_ok mo (fn := Tryz.f88) (b := (Tryz.f88.body.getD .skip)) (pm := [(.d (.st 0))]) (rs := [(.int .i64)]) (an := conf_valuesFault.a) (N := 25) (vars := [(.tmp 2)]) Tryz.func88 (by kernel_rfl) (by kernel_rfl) (by kernel_rfl) (by kernel_rfl) (by kernel_rfl) (by kernel_rfl) (O := conf_valuesFault.O) conf_valuesFault.T ⟨⟨by kernel_rfl, fun _ => by first | rfl | rw [conf_valuesFault.l0], fun k h => conf_valuesFault.l0_eq k h.1 h.2.1 h.2.2.1⟩, trivial⟩ (F := fun k h => conf_valuesFault.f k h.1) (fun _ => by first | rfl | rw [conf_valuesFault.f]) (fun k h => conf_valuesFault.f_eq k h.1)
    (fun k own => by unfold conf_valuesFault.O; exact oracle_of (P := Tryz.prog) (C := ctx) ⟨own, ⟨(conf_valueFault.ok k), trivial⟩⟩)
def conf_Check.f (k : Nat) (a0 : T_api_Value) : Option (Int) := ((conf_count.f k (T_api_Value.mk a0.fKind a0.fBool a0.fInt a0.fText a0.fItems a0.fKeys)).bind fun y1 => (bif (ilt 1000 y1) then (some 4) else ((conf_levels.f k (T_api_Value.mk a0.fKind a0.fBool a0.fInt a0.fText a0.fItems a0.fKeys)).bind fun y2 => (bif (ilt 8 y2) then (some 13) else ((conf_valuesFault.f k (T_api_Value.mk a0.fKind a0.fBool a0.fInt a0.fText a0.fItems a0.fKeys)).bind fun y3 => (some y3))))))
def conf_Check.O (k : Nat) : Oracle sg := fun n => lkp n [(86, conf_count.e k), (87, conf_levels.e k), (88, conf_valuesFault.e k)]
def conf_Check.a : Ann := .z
def conf_Check.L (k : Nat) : Nat → St sg.U → Option (RT sg.U [(.int .i64)]) := labs []
theorem conf_Check.f_eq (k : Nat) (a0 : T_api_Value) : conf_Check.f k a0 = codeK (C := ctx) (conf_Check.O k) ⟨11, [], []⟩ (conf_Check.L k) (Tryz.f32.body.getD .skip) conf_Check.a (endK ctx [(.int .i64)] [(.tmp 2)]) (slotsOf sg.U 0 [(.d (.st 0))] (a0, ()) (empty sg.U)) := by
  unfold conf_Check.f
  kernel_rfl
def conf_Check.e (k : Nat) : Entry sg := entryOf sg [(.d (.st 0))] [(.int .i64)] (fun h => conf_Check.f k h.1)
def conf_Check.T : List (Lb sg (RT sg.U [(.int .i64)])) := []
theorem conf_Check.ok (k : Nat) : (conf_Check.e k).Sound Tryz.prog ctx 32 :=
  entry_ok base_ok mo (fn := Tryz.f32) (b := (Tryz.f32.body.getD .skip)) (pm := [(.d (.st 0))]) (rs := [(.int .i64)]) (an := conf_Check.a) (N := 11) (vars := [(.tmp 2)]) Tryz.func32 (by kernel_rfl) (by kernel_rfl) (by kernel_rfl) (by kernel_rfl) (by kernel_rfl) (by kernel_rfl) (O := conf_Check.O)
    (fun k => by unfold conf_Check.O; exact oracle_of (P := Tryz.prog) (C := ctx) ⟨(conf_count.ok k), ⟨(conf_levels.ok k), ⟨(conf_valuesFault.ok k), trivial⟩⟩⟩) conf_Check.T trivial k (fun h => conf_Check.f_eq k h.1)
def strings_Split.f (a0 : ByteArray) (a1 : ByteArray) : Option ((List ByteArray)) := splitF a0 a1
def strings_Split.e : Entry sg := entryOf sg [(.d .str), (.d .str)] [(.sl .str)] (fun h => strings_Split.f h.1 h.2.1)
theorem strings_Split.ok : (strings_Split.e).Sound Tryz.prog ctx 64 :=
  split_sound (C := ctx) sg_ok Tryz.func64 (by kernel_rfl) (by kernel_rfl) (kM := 0) (fun w hG => by obtain ⟨m, hm⟩ := hG 0 (by simp [ctx, sg]); exact ⟨m, cells_cell hm⟩) (fun s sep m w hs hm h1 => Tryz.strings_Split s sep m w hs hm h1)
def internal_stringslite_HasPrefix.f (a0 : ByteArray) (a1 : ByteArray) : Option (Bool) := (bif (ile (slen a1) (slen a0)) then ((ssub a0 0 (slen a1)).bind fun y1 => (some (seq y1 a1))) else (some false))
def internal_stringslite_HasPrefix.O : Oracle sg := fun n => lkp n []
def internal_stringslite_HasPrefix.a : Ann := .z
def internal_stringslite_HasPrefix.L : Nat → St sg.U → Option (RT sg.U [.bool]) := labs []
theorem internal_stringslite_HasPrefix.f_eq (a0 : ByteArray) (a1 : ByteArray) : internal_stringslite_HasPrefix.f a0 a1 = codeK (C := ctx) (internal_stringslite_HasPrefix.O) ⟨18, [], []⟩ (internal_stringslite_HasPrefix.L) (Tryz.f216.body.getD .skip) internal_stringslite_HasPrefix.a (endK ctx [.bool] [(.tmp 4)]) (slotsOf sg.U 0 [(.d .str), (.d .str)] (a0, a1, ()) (empty sg.U)) := by
  unfold internal_stringslite_HasPrefix.f
  kernel_rfl
def internal_stringslite_HasPrefix.e : Entry sg := entryOf sg [(.d .str), (.d .str)] [.bool] (fun h => internal_stringslite_HasPrefix.f h.1 h.2.1)
def internal_stringslite_HasPrefix.T : List (Lb sg (RT sg.U [.bool])) := []
theorem internal_stringslite_HasPrefix.ok : (internal_stringslite_HasPrefix.e).Sound Tryz.prog ctx 216 :=
  entry_ok base_ok mo (fn := Tryz.f216) (b := (Tryz.f216.body.getD .skip)) (pm := [(.d .str), (.d .str)]) (rs := [.bool]) (an := internal_stringslite_HasPrefix.a) (N := 18) (vars := [(.tmp 4)]) Tryz.func216 (by kernel_rfl) (by kernel_rfl) (by kernel_rfl) (by kernel_rfl) (by kernel_rfl) (by kernel_rfl) (O := fun _ => internal_stringslite_HasPrefix.O)
    (fun _ => by unfold internal_stringslite_HasPrefix.O; exact oracle_of (P := Tryz.prog) (C := ctx) trivial) internal_stringslite_HasPrefix.T trivial 0 (fun h => internal_stringslite_HasPrefix.f_eq h.1 h.2.1)
def internal_stringslite_TrimPrefix.f (a0 : ByteArray) (a1 : ByteArray) : Option (ByteArray) := ((internal_stringslite_HasPrefix.f a0 a1).bind fun y1 => (bif y1 then ((ssub a0 (slen a1) (slen a0)).bind fun y2 => (some y2)) else (some a0)))
def internal_stringslite_TrimPrefix.O : Oracle sg := fun n => lkp n [(216, internal_stringslite_HasPrefix.e)]
def internal_stringslite_TrimPrefix.a : Ann := .z
def internal_stringslite_TrimPrefix.L : Nat → St sg.U → Option (RT sg.U [.str]) := labs []
theorem internal_stringslite_TrimPrefix.f_eq (a0 : ByteArray) (a1 : ByteArray) : internal_stringslite_TrimPrefix.f a0 a1 = codeK (C := ctx) (internal_stringslite_TrimPrefix.O) ⟨13, [], []⟩ (internal_stringslite_TrimPrefix.L) (Tryz.f232.body.getD .skip) internal_stringslite_TrimPrefix.a (endK ctx [.str] [(.tmp 4)]) (slotsOf sg.U 0 [(.d .str), (.d .str)] (a0, a1, ()) (empty sg.U)) := by
  unfold internal_stringslite_TrimPrefix.f
  kernel_rfl
def internal_stringslite_TrimPrefix.e : Entry sg := entryOf sg [(.d .str), (.d .str)] [.str] (fun h => internal_stringslite_TrimPrefix.f h.1 h.2.1)
def internal_stringslite_TrimPrefix.T : List (Lb sg (RT sg.U [.str])) := []
theorem internal_stringslite_TrimPrefix.ok : (internal_stringslite_TrimPrefix.e).Sound Tryz.prog ctx 232 :=
  entry_ok base_ok mo (fn := Tryz.f232) (b := (Tryz.f232.body.getD .skip)) (pm := [(.d .str), (.d .str)]) (rs := [.str]) (an := internal_stringslite_TrimPrefix.a) (N := 13) (vars := [(.tmp 4)]) Tryz.func232 (by kernel_rfl) (by kernel_rfl) (by kernel_rfl) (by kernel_rfl) (by kernel_rfl) (by kernel_rfl) (O := fun _ => internal_stringslite_TrimPrefix.O)
    (fun _ => by unfold internal_stringslite_TrimPrefix.O; exact oracle_of (P := Tryz.prog) (C := ctx) ⟨(internal_stringslite_HasPrefix.ok), trivial⟩) internal_stringslite_TrimPrefix.T trivial 0 (fun h => internal_stringslite_TrimPrefix.f_eq h.1 h.2.1)
def strings_TrimPrefix.f (a0 : ByteArray) (a1 : ByteArray) : Option (ByteArray) := ((internal_stringslite_TrimPrefix.f a0 a1).bind fun y1 => (some y1))
def strings_TrimPrefix.O : Oracle sg := fun n => lkp n [(232, internal_stringslite_TrimPrefix.e)]
def strings_TrimPrefix.a : Ann := .z
def strings_TrimPrefix.L : Nat → St sg.U → Option (RT sg.U [.str]) := labs []
theorem strings_TrimPrefix.f_eq (a0 : ByteArray) (a1 : ByteArray) : strings_TrimPrefix.f a0 a1 = codeK (C := ctx) (strings_TrimPrefix.O) ⟨8, [], []⟩ (strings_TrimPrefix.L) (Tryz.f205.body.getD .skip) strings_TrimPrefix.a (endK ctx [.str] [(.tmp 4)]) (slotsOf sg.U 0 [(.d .str), (.d .str)] (a0, a1, ()) (empty sg.U)) := by
  unfold strings_TrimPrefix.f
  kernel_rfl
def strings_TrimPrefix.e : Entry sg := entryOf sg [(.d .str), (.d .str)] [.str] (fun h => strings_TrimPrefix.f h.1 h.2.1)
def strings_TrimPrefix.T : List (Lb sg (RT sg.U [.str])) := []
theorem strings_TrimPrefix.ok : (strings_TrimPrefix.e).Sound Tryz.prog ctx 205 :=
  entry_ok base_ok mo (fn := Tryz.f205) (b := (Tryz.f205.body.getD .skip)) (pm := [(.d .str), (.d .str)]) (rs := [.str]) (an := strings_TrimPrefix.a) (N := 8) (vars := [(.tmp 4)]) Tryz.func205 (by kernel_rfl) (by kernel_rfl) (by kernel_rfl) (by kernel_rfl) (by kernel_rfl) (by kernel_rfl) (O := fun _ => strings_TrimPrefix.O)
    (fun _ => by unfold strings_TrimPrefix.O; exact oracle_of (P := Tryz.prog) (C := ctx) ⟨(internal_stringslite_TrimPrefix.ok), trivial⟩) strings_TrimPrefix.T trivial 0 (fun h => strings_TrimPrefix.f_eq h.1 h.2.1)
def conf_isInteger.l0 : Nat → ByteArray → Int → Option (Bool)
  | 0, _, _ => none
  | k + 1, x0, x3 => (bif (ilt x3 (slen x0)) then ((sat x0 x3).bind fun y2 => ((conf_isDigit.f y2).bind fun y3 => (bif (!y3) then (some false) else (conf_isInteger.l0 k x0 (wadd .i64 x3 1))))) else (some true))
def conf_isInteger.f (k : Nat) (a0 : ByteArray) : Option (Bool) := ((strings_TrimPrefix.f a0 c__2d).bind fun y1 => (bif (seq y1 c_empty) then (some false) else (conf_isInteger.l0 k y1 0)))
def conf_isInteger.O (k : Nat) : Oracle sg := fun n => lkp n [(204, conf_isDigit.e), (205, strings_TrimPrefix.e)]
def conf_isInteger.a : Ann := (.n .z (.n .z (.n .z (.n (.n .z (.lp 0 .z)) .z))))
def conf_isInteger.L (k : Nat) : Nat → St sg.U → Option (RT sg.U [.bool]) := labs [(0, labOf sg [(0, (.d .str)), (3, (.d (.int .i64)))] (fun h => conf_isInteger.l0 k h.1 h.2.1))]
theorem conf_isInteger.l0_eq (k : Nat) (x0 : ByteArray) (x3 : Int) : conf_isInteger.l0 (k + 1) x0 x3 = runFrom (C := ctx) (conf_isInteger.O k) ⟨19, [], []⟩ (conf_isInteger.L k) (Tryz.f155.body.getD .skip) conf_isInteger.a 0 (endK ctx [.bool] [(.tmp 2)]) (encD [(0, (.d .str)), (3, (.d (.int .i64)))] (x0, x3, ()) (startD sg.U ⟨19, [], []⟩ [(0, (.d .str)), (3, (.d (.int .i64)))])) := by
  rw [conf_isInteger.l0]
  kernel_rfl
theorem conf_isInteger.f_eq (k : Nat) (a0 : ByteArray) : conf_isInteger.f k a0 = codeK (C := ctx) (conf_isInteger.O k) ⟨19, [], []⟩ (conf_isInteger.L k) (Tryz.f155.body.getD .skip) conf_isInteger.a (endK ctx [.bool] [(.tmp 2)]) (slotsOf sg.U 0 [(.d .str)] (a0, ()) (empty sg.U)) := by
  unfold conf_isInteger.f
  kernel_rfl
def conf_isInteger.e (k : Nat) : Entry sg := entryOf sg [(.d .str)] [.bool] (fun h => conf_isInteger.f k h.1)
def conf_isInteger.T : List (Lb sg (RT sg.U [.bool])) := [⟨0, [(0, (.d .str)), (3, (.d (.int .i64)))], fun k h => conf_isInteger.l0 k h.1 h.2.1⟩]
theorem conf_isInteger.ok (k : Nat) : (conf_isInteger.e k).Sound Tryz.prog ctx 155 :=
  entry_ok base_ok mo (fn := Tryz.f155) (b := (Tryz.f155.body.getD .skip)) (pm := [(.d .str)]) (rs := [.bool]) (an := conf_isInteger.a) (N := 19) (vars := [(.tmp 2)]) Tryz.func155 (by kernel_rfl) (by kernel_rfl) (by kernel_rfl) (by kernel_rfl) (by kernel_rfl) (by kernel_rfl) (O := conf_isInteger.O)
    (fun k => by unfold conf_isInteger.O; exact oracle_of (P := Tryz.prog) (C := ctx) ⟨(conf_isDigit.ok), ⟨(strings_TrimPrefix.ok), trivial⟩⟩) conf_isInteger.T ⟨⟨by kernel_rfl, fun _ => by first | rfl | rw [conf_isInteger.l0], fun k h => conf_isInteger.l0_eq k h.1 h.2.1⟩, trivial⟩ k (fun h => conf_isInteger.f_eq k h.1)
def strconv_Atoi.f (a0 : ByteArray) : Option (Int) := atoiF a0
def strconv_Atoi.e : Entry sg := atoiE sg
theorem strconv_Atoi.ok : (strconv_Atoi.e).Sound Tryz.prog ctx 156 :=
  atoi_sound (C := ctx) sg_ok Tryz.func156 (by kernel_rfl) (by kernel_rfl) (fun s n w h1 h2 => Tryz.strconv_Atoi s n h1 h2 w)
def conf_steps.l0 : Nat → Bool → (List T_conf_step) → (List ByteArray) → Int → Int → Option ((List T_conf_step) × Bool)
  | 0, _, _, _, _, _ => none
  | k + 1, x1, x6, x17, x18, x19 => (bif (ilt x19 x18) then ((lat x17 x19).bind fun y2 => ((conf_isKey.f k y2).bind fun y3 => (bif y3 then ((lapp 32 x6 [(T_conf_step.mk y2 0 false)]).bind fun y4 => (conf_steps.l0 k x1 y4 x17 x18 (wadd .i64 x19 1))) else (bif (bif x1 then (seq y2 c__2a) else false) then ((lapp 32 x6 [(T_conf_step.mk c_empty 0 true)]).bind fun y5 => (conf_steps.l0 k x1 y5 x17 x18 (wadd .i64 x19 1))) else (bif (bif (seq y2 c_empty) then true else (ilt 4 (slen y2))) then (some ([], false)) else ((conf_isInteger.f k y2).bind fun y6 => (bif (!y6) then (some ([], false)) else ((sat y2 0).bind fun y7 => (bif (ieq y7 45) then (some ([], false)) else ((sat y2 0).bind fun y8 => (bif (bif (ieq y8 48) then (!seq y2 c_0) else false) then (some ([], false)) else ((strconv_Atoi.f y2).bind fun y9 => ((lapp 32 x6 [(T_conf_step.mk c_empty y9 false)]).bind fun y10 => (conf_steps.l0 k x1 y10 x17 x18 (wadd .i64 x19 1))))))))))))))) else (some (x6, true)))
def conf_steps.f (k : Nat) (a0 : ByteArray) (a1 : Bool) : Option ((List T_conf_step) × Bool) := (bif (ilt 400 (slen a0)) then (some ([], false)) else (bif (seq a0 c_empty) then (some ([], true)) else ((strings_Split.f a0 c__2e).bind fun y1 => (conf_steps.l0 k a1 [] y1 (llen y1) 0))))
def conf_steps.O (k : Nat) : Oracle sg := fun n => lkp n [(64, strings_Split.e), (154, conf_isKey.e k), (155, conf_isInteger.e k), (156, strconv_Atoi.e)]
def conf_steps.a : Ann := (.n .z (.n .z (.n .z (.n .z (.n (.n .z (.lp 0 .z)) .z)))))
def conf_steps.L (k : Nat) : Nat → St sg.U → Option (RT sg.U [(.sl (.st 1)), .bool]) := labs [(0, labOf sg [(1, (.d .bool)), (6, (.row 272 (.st 1))), (17, (.d (.sl .str))), (18, (.d (.int .i64))), (19, (.d (.int .i64)))] (fun h => conf_steps.l0 k h.1 h.2.1 h.2.2.1 h.2.2.2.1 h.2.2.2.2.1))]
theorem conf_steps.l0_eq (k : Nat) (x1 : Bool) (x6 : (List T_conf_step)) (x17 : (List ByteArray)) (x18 : Int) (x19 : Int) : conf_steps.l0 (k + 1) x1 x6 x17 x18 x19 = runFrom (C := ctx) (conf_steps.O k) ⟨79, [], []⟩ (conf_steps.L k) (Tryz.f78.body.getD .skip) conf_steps.a 0 (endK ctx [(.sl (.st 1)), .bool] [(.tmp 4), (.tmp 5)]) (encD [(1, (.d .bool)), (6, (.row 272 (.st 1))), (17, (.d (.sl .str))), (18, (.d (.int .i64))), (19, (.d (.int .i64)))] (x1, x6, x17, x18, x19, ()) (startD sg.U ⟨79, [], []⟩ [(1, (.d .bool)), (6, (.row 272 (.st 1))), (17, (.d (.sl .str))), (18, (.d (.int .i64))), (19, (.d (.int .i64)))])) := by
  rw [conf_steps.l0]
  kernel_rfl
theorem conf_steps.f_eq (k : Nat) (a0 : ByteArray) (a1 : Bool) : conf_steps.f k a0 a1 = codeK (C := ctx) (conf_steps.O k) ⟨79, [], []⟩ (conf_steps.L k) (Tryz.f78.body.getD .skip) conf_steps.a (endK ctx [(.sl (.st 1)), .bool] [(.tmp 4), (.tmp 5)]) (slotsOf sg.U 0 [(.d .str), (.d .bool)] (a0, a1, ()) (empty sg.U)) := by
  unfold conf_steps.f
  kernel_rfl
def conf_steps.e (k : Nat) : Entry sg := entryOf sg [(.d .str), (.d .bool)] [(.sl (.st 1)), .bool] (fun h => conf_steps.f k h.1 h.2.1)
def conf_steps.T : List (Lb sg (RT sg.U [(.sl (.st 1)), .bool])) := [⟨0, [(1, (.d .bool)), (6, (.row 272 (.st 1))), (17, (.d (.sl .str))), (18, (.d (.int .i64))), (19, (.d (.int .i64)))], fun k h => conf_steps.l0 k h.1 h.2.1 h.2.2.1 h.2.2.2.1 h.2.2.2.2.1⟩]
theorem conf_steps.ok (k : Nat) : (conf_steps.e k).Sound Tryz.prog ctx 78 :=
  entry_ok base_ok mo (fn := Tryz.f78) (b := (Tryz.f78.body.getD .skip)) (pm := [(.d .str), (.d .bool)]) (rs := [(.sl (.st 1)), .bool]) (an := conf_steps.a) (N := 79) (vars := [(.tmp 4), (.tmp 5)]) Tryz.func78 (by kernel_rfl) (by kernel_rfl) (by kernel_rfl) (by kernel_rfl) (by kernel_rfl) (by kernel_rfl) (O := conf_steps.O)
    (fun k => by unfold conf_steps.O; exact oracle_of (P := Tryz.prog) (C := ctx) ⟨(strings_Split.ok), ⟨(conf_isKey.ok k), ⟨(conf_isInteger.ok k), ⟨(strconv_Atoi.ok), trivial⟩⟩⟩⟩) conf_steps.T ⟨⟨by kernel_rfl, fun _ => by first | rfl | rw [conf_steps.l0], fun k h => conf_steps.l0_eq k h.1 h.2.1 h.2.2.1 h.2.2.2.1 h.2.2.2.2.1⟩, trivial⟩ k (fun h => conf_steps.f_eq k h.1 h.2.1)
def sort_SearchStrings_c1.f (a0 : Int) (a1_0 : (List ByteArray)) (a2_0 : ByteArray) : Option (Bool × (List ByteArray) × ByteArray × Unit) := ((lat a1_0 a0).bind fun y1 => (some ((!slt y1 a2_0), (a1_0, a2_0, ()))))
def sort_SearchStrings_c1.O : Oracle sg := fun n => lkp n []
def sort_SearchStrings_c1.a : Ann := .z
def sort_SearchStrings_c1.L : Nat → St sg.U → Option (RT sg.U [.bool] × HL sg.U (PM.outs [(.d (.int .i64)), (.ref [.d (.sl .str)]), (.ref [.d .str])])) := labs []
theorem sort_SearchStrings_c1.f_eq (a0 : Int) (a1_0 : (List ByteArray)) (a2_0 : ByteArray) : sort_SearchStrings_c1.f a0 a1_0 a2_0 = codeK (C := ctx) (sort_SearchStrings_c1.O) ⟨11, [1, 2], []⟩ (sort_SearchStrings_c1.L) (Tryz.f240.body.getD .skip) sort_SearchStrings_c1.a (endR ctx [.bool] [(.tmp 4)] [(.d (.int .i64)), (.ref [.d (.sl .str)]), (.ref [.d .str])]) (slotsOf sg.U 0 [(.d (.int .i64)), (.ref [.d (.sl .str)]), (.ref [.d .str])] (a0, a1_0, a2_0, ()) (emptyG sg.U (PM.gs [(.d (.int .i64)), (.ref [.d (.sl .str)]), (.ref [.d .str])]))) := by
  unfold sort_SearchStrings_c1.f
  kernel_rfl
def sort_SearchStrings_c1.e : Entry sg := entryR sg [(.d (.int .i64)), (.ref [.d (.sl .str)]), (.ref [.d .str])] [.bool] (fun h => sort_SearchStrings_c1.f h.1 h.2.1 h.2.2.1)
def sort_SearchStrings_c1.T : List (Lb sg (RT sg.U [.bool] × HL sg.U (PM.outs [(.d (.int .i64)), (.ref [.d (.sl .str)]), (.ref [.d .str])]))) := []
theorem sort_SearchStrings_c1.ok : (sort_SearchStrings_c1.e).Sound Tryz.prog ctx 240 :=
  entryR_ok base_ok mo (fn := Tryz.f240) (b := (Tryz.f240.body.getD .skip)) (pm := [(.d (.int .i64)), (.ref [.d (.sl .str)]), (.ref [.d .str])]) (rs := [.bool]) (an := sort_SearchStrings_c1.a) (N := 11) (vars := [(.tmp 4)]) Tryz.func240 (by kernel_rfl) (by kernel_rfl) (by kernel_rfl) (by kernel_rfl) (by kernel_rfl) (by kernel_rfl) (by kernel_rfl) (by kernel_rfl) (O := fun _ => sort_SearchStrings_c1.O)
    (fun _ => by unfold sort_SearchStrings_c1.O; exact oracle_of (P := Tryz.prog) (C := ctx) trivial) sort_SearchStrings_c1.T trivial 0 (fun h => sort_SearchStrings_c1.f_eq h.1 h.2.1 h.2.2.1)
def sort_Search_at_sort_SearchStrings_c1.l0 : Nat → Int → Int → (List ByteArray) → ByteArray → Option (Int × (List ByteArray) × ByteArray × Unit)
  | 0, _, _, _, _ => none
  | k + 1, x5, x6, x26_0, x27_0 => (bif (ilt x5 x6) then (bif ilt 1 0 then none else ((sort_SearchStrings_c1.f (wcv .i64 (ishr .u64 (wcv .u64 (wadd .i64 x5 x6)) 1)) x26_0 x27_0).bind fun y1 => (bif (!y1.1) then (sort_Search_at_sort_SearchStrings_c1.l0 k (wadd .i64 (wcv .i64 (ishr .u64 (wcv .u64 (wadd .i64 x5 x6)) 1)) 1) x6 y1.2.1 y1.2.2.1) else (sort_Search_at_sort_SearchStrings_c1.l0 k x5 (wcv .i64 (ishr .u64 (wcv .u64 (wadd .i64 x5 x6)) 1)) y1.2.1 y1.2.2.1)))) else (some (x5, (x26_0, x27_0, ()))))
def sort_Search_at_sort_SearchStrings_c1.f (k : Nat) (a0 : Int) (a26_0 : (List ByteArray)) (a27_0 : ByteArray) : Option (Int × (List ByteArray) × ByteArray × Unit) := (sort_Search_at_sort_SearchStrings_c1.l0 k 0 a0 a26_0 a27_0)
def sort_Search_at_sort_SearchStrings_c1.O (k : Nat) : Oracle sg := fun n => lkp n [(240, sort_SearchStrings_c1.e)]
def sort_Search_at_sort_SearchStrings_c1.a : Ann := (.n .z (.n .z (.n (.lp 0 .z) .z)))
def sort_Search_at_sort_SearchStrings_c1.L (k : Nat) : Nat → St sg.U → Option (RT sg.U [(.int .i64)] × HL sg.U (PM.outs [(.d (.int .i64)), (.clo 240 [26, 27]), (.gh 26 [.d (.sl .str)]), (.gh 27 [.d .str])])) := labs [(0, labOf sg [(1, (.clo 240 [26, 27])), (5, (.d (.int .i64))), (6, (.d (.int .i64))), (26, (.gh [.d (.sl .str)])), (27, (.gh [.d .str]))] (fun h => sort_Search_at_sort_SearchStrings_c1.l0 k h.1 h.2.1 h.2.2.1 h.2.2.2.1))]
theorem sort_Search_at_sort_SearchStrings_c1.l0_eq (k : Nat) (x5 : Int) (x6 : Int) (x26_0 : (List ByteArray)) (x27_0 : ByteArray) : sort_Search_at_sort_SearchStrings_c1.l0 (k + 1) x5 x6 x26_0 x27_0 = runFrom (C := ctx) (sort_Search_at_sort_SearchStrings_c1.O k) ⟨26, [], [26, 27]⟩ (sort_Search_at_sort_SearchStrings_c1.L k) (Tryz.f239.body.getD .skip) sort_Search_at_sort_SearchStrings_c1.a 0 (endR ctx [(.int .i64)] [(.tmp 4)] [(.d (.int .i64)), (.clo 240 [26, 27]), (.gh 26 [.d (.sl .str)]), (.gh 27 [.d .str])]) (encD [(1, (.clo 240 [26, 27])), (5, (.d (.int .i64))), (6, (.d (.int .i64))), (26, (.gh [.d (.sl .str)])), (27, (.gh [.d .str]))] (x5, x6, x26_0, x27_0, ()) (startD sg.U ⟨26, [], [26, 27]⟩ [(1, (.clo 240 [26, 27])), (5, (.d (.int .i64))), (6, (.d (.int .i64))), (26, (.gh [.d (.sl .str)])), (27, (.gh [.d .str]))])) := by
  rw [sort_Search_at_sort_SearchStrings_c1.l0]
  kernel_rfl
theorem sort_Search_at_sort_SearchStrings_c1.f_eq (k : Nat) (a0 : Int) (a26_0 : (List ByteArray)) (a27_0 : ByteArray) : sort_Search_at_sort_SearchStrings_c1.f k a0 a26_0 a27_0 = codeK (C := ctx) (sort_Search_at_sort_SearchStrings_c1.O k) ⟨26, [], [26, 27]⟩ (sort_Search_at_sort_SearchStrings_c1.L k) (Tryz.f239.body.getD .skip) sort_Search_at_sort_SearchStrings_c1.a (endR ctx [(.int .i64)] [(.tmp 4)] [(.d (.int .i64)), (.clo 240 [26, 27]), (.gh 26 [.d (.sl .str)]), (.gh 27 [.d .str])]) (slotsOf sg.U 0 [(.d (.int .i64)), (.clo 240 [26, 27]), (.gh 26 [.d (.sl .str)]), (.gh 27 [.d .str])] (a0, a26_0, a27_0, ()) (emptyG sg.U (PM.gs [(.d (.int .i64)), (.clo 240 [26, 27]), (.gh 26 [.d (.sl .str)]), (.gh 27 [.d .str])]))) := by
  unfold sort_Search_at_sort_SearchStrings_c1.f
  kernel_rfl
def sort_Search_at_sort_SearchStrings_c1.e (k : Nat) : Entry sg := entryR sg [(.d (.int .i64)), (.clo 240 [26, 27]), (.gh 26 [.d (.sl .str)]), (.gh 27 [.d .str])] [(.int .i64)] (fun h => sort_Search_at_sort_SearchStrings_c1.f k h.1 h.2.1 h.2.2.1)
def sort_Search_at_sort_SearchStrings_c1.T : List (Lb sg (RT sg.U [(.int .i64)] × HL sg.U (PM.outs [(.d (.int .i64)), (.clo 240 [26, 27]), (.gh 26 [.d (.sl .str)]), (.gh 27 [.d .str])]))) := [⟨0, [(1, (.clo 240 [26, 27])), (5, (.d (.int .i64))), (6, (.d (.int .i64))), (26, (.gh [.d (.sl .str)])), (27, (.gh [.d .str]))], fun k h => sort_Search_at_sort_SearchStrings_c1.l0 k h.1 h.2.1 h.2.2.1 h.2.2.2.1⟩]
theorem sort_Search_at_sort_SearchStrings_c1.ok (k : Nat) : (sort_Search_at_sort_SearchStrings_c1.e k).Sound Tryz.prog ctx 239 :=
  entryR_ok base_ok mo (fn := Tryz.f239) (b := (Tryz.f239.body.getD .skip)) (pm := [(.d (.int .i64)), (.clo 240 [26, 27]), (.gh 26 [.d (.sl .str)]), (.gh 27 [.d .str])]) (rs := [(.int .i64)]) (an := sort_Search_at_sort_SearchStrings_c1.a) (N := 26) (vars := [(.tmp 4)]) Tryz.func239 (by kernel_rfl) (by kernel_rfl) (by kernel_rfl) (by kernel_rfl) (by kernel_rfl) (by kernel_rfl) (by kernel_rfl) (by kernel_rfl) (O := sort_Search_at_sort_SearchStrings_c1.O)
    (fun k => by unfold sort_Search_at_sort_SearchStrings_c1.O; exact oracle_of (P := Tryz.prog) (C := ctx) ⟨(sort_SearchStrings_c1.ok), trivial⟩) sort_Search_at_sort_SearchStrings_c1.T ⟨⟨by kernel_rfl, fun _ => by first | rfl | rw [sort_Search_at_sort_SearchStrings_c1.l0], fun k h => sort_Search_at_sort_SearchStrings_c1.l0_eq k h.1 h.2.1 h.2.2.1 h.2.2.2.1⟩, trivial⟩ k (fun h => sort_Search_at_sort_SearchStrings_c1.f_eq k h.1 h.2.1 h.2.2.1)
def sort_SearchStrings.f (k : Nat) (a0 : (List ByteArray)) (a1 : ByteArray) : Option (Int) := ((sort_Search_at_sort_SearchStrings_c1.f k (llen a0) a0 a1).bind fun y1 => (some y1.1))
def sort_SearchStrings.O (k : Nat) : Oracle sg := fun n => lkp n [(239, sort_Search_at_sort_SearchStrings_c1.e k)]
def sort_SearchStrings.a : Ann := .z
def sort_SearchStrings.L (k : Nat) : Nat → St sg.U → Option (RT sg.U [(.int .i64)]) := labs []
theorem sort_SearchStrings.f_eq (k : Nat) (a0 : (List ByteArray)) (a1 : ByteArray) : sort_SearchStrings.f k a0 a1 = codeK (C := ctx) (sort_SearchStrings.O k) ⟨9, [], []⟩ (sort_SearchStrings.L k) (Tryz.f209.body.getD .skip) sort_SearchStrings.a (endK ctx [(.int .i64)] [(.tmp 4)]) (slotsOf sg.U 0 [(.d (.sl .str)), (.d .str)] (a0, a1, ()) (empty sg.U)) := by
  unfold sort_SearchStrings.f
  kernel_rfl
def sort_SearchStrings.e (k : Nat) : Entry sg := entryOf sg [(.d (.sl .str)), (.d .str)] [(.int .i64)] (fun h => sort_SearchStrings.f k h.1 h.2.1)
def sort_SearchStrings.T : List (Lb sg (RT sg.U [(.int .i64)])) := []
theorem sort_SearchStrings.ok (k : Nat) : (sort_SearchStrings.e k).Sound Tryz.prog ctx 209 :=
  entry_ok base_ok mo (fn := Tryz.f209) (b := (Tryz.f209.body.getD .skip)) (pm := [(.d (.sl .str)), (.d .str)]) (rs := [(.int .i64)]) (an := sort_SearchStrings.a) (N := 9) (vars := [(.tmp 4)]) Tryz.func209 (by kernel_rfl) (by kernel_rfl) (by kernel_rfl) (by kernel_rfl) (by kernel_rfl) (by kernel_rfl) (O := sort_SearchStrings.O)
    (fun k => by unfold sort_SearchStrings.O; exact oracle_of (P := Tryz.prog) (C := ctx) ⟨(sort_Search_at_sort_SearchStrings_c1.ok k), trivial⟩) sort_SearchStrings.T trivial k (fun h => sort_SearchStrings.f_eq k h.1 h.2.1)
def conf_find.f (k : Nat) (a0 : T_api_Value) (a1 : ByteArray) : Option (Int × Bool) := ((sort_SearchStrings.f k a0.fKeys a1).bind fun y1 => (bif (ilt y1 (llen a0.fKeys)) then ((lat a0.fKeys y1).bind fun y2 => (some (y1, (seq y2 a1)))) else (some (y1, false))))
def conf_find.O (k : Nat) : Oracle sg := fun n => lkp n [(209, sort_SearchStrings.e k)]
def conf_find.a : Ann := .z
def conf_find.L (k : Nat) : Nat → St sg.U → Option (RT sg.U [(.int .i64), .bool]) := labs []
theorem conf_find.f_eq (k : Nat) (a0 : T_api_Value) (a1 : ByteArray) : conf_find.f k a0 a1 = codeK (C := ctx) (conf_find.O k) ⟨26, [], []⟩ (conf_find.L k) (Tryz.f162.body.getD .skip) conf_find.a (endK ctx [(.int .i64), .bool] [(.tmp 4), (.tmp 5)]) (slotsOf sg.U 0 [(.d (.st 0)), (.d .str)] (a0, a1, ()) (empty sg.U)) := by
  unfold conf_find.f
  kernel_rfl
def conf_find.e (k : Nat) : Entry sg := entryOf sg [(.d (.st 0)), (.d .str)] [(.int .i64), .bool] (fun h => conf_find.f k h.1 h.2.1)
def conf_find.T : List (Lb sg (RT sg.U [(.int .i64), .bool])) := []
theorem conf_find.ok (k : Nat) : (conf_find.e k).Sound Tryz.prog ctx 162 :=
  entry_ok base_ok mo (fn := Tryz.f162) (b := (Tryz.f162.body.getD .skip)) (pm := [(.d (.st 0)), (.d .str)]) (rs := [(.int .i64), .bool]) (an := conf_find.a) (N := 26) (vars := [(.tmp 4), (.tmp 5)]) Tryz.func162 (by kernel_rfl) (by kernel_rfl) (by kernel_rfl) (by kernel_rfl) (by kernel_rfl) (by kernel_rfl) (O := conf_find.O)
    (fun k => by unfold conf_find.O; exact oracle_of (P := Tryz.prog) (C := ctx) ⟨(sort_SearchStrings.ok k), trivial⟩) conf_find.T trivial k (fun h => conf_find.f_eq k h.1 h.2.1)
def conf_follow.f (k : Nat) (a0 : T_api_Value) (a1 : T_conf_step) : Option (T_api_Value × Bool) := (bif (!seq a1.fkey c_empty) then (bif (!ieq a0.fKind 6) then (some ((T_api_Value.mk 0 false 0 c_empty [] []), false)) else ((conf_find.f k (T_api_Value.mk a0.fKind a0.fBool a0.fInt a0.fText a0.fItems a0.fKeys) a1.fkey).bind fun y1 => (bif (!y1.2) then (some ((T_api_Value.mk 0 false 0 c_empty [] []), false)) else ((lat a0.fItems y1.1).bind fun y2 => (some ((T_api_Value.mk y2.fKind y2.fBool y2.fInt y2.fText y2.fItems y2.fKeys), true)))))) else (bif (bif (!ieq a0.fKind 5) then true else (ile (llen a0.fItems) a1.fnumber)) then (some ((T_api_Value.mk 0 false 0 c_empty [] []), false)) else ((lat a0.fItems a1.fnumber).bind fun y3 => (some ((T_api_Value.mk y3.fKind y3.fBool y3.fInt y3.fText y3.fItems y3.fKeys), true)))))
def conf_follow.O (k : Nat) : Oracle sg := fun n => lkp n [(162, conf_find.e k)]
def conf_follow.a : Ann := .z
def conf_follow.L (k : Nat) : Nat → St sg.U → Option (RT sg.U [(.st 0), .bool]) := labs []
theorem conf_follow.f_eq (k : Nat) (a0 : T_api_Value) (a1 : T_conf_step) : conf_follow.f k a0 a1 = codeK (C := ctx) (conf_follow.O k) ⟨48, [], []⟩ (conf_follow.L k) (Tryz.f157.body.getD .skip) conf_follow.a (endK ctx [(.st 0), .bool] [(.cell 4 25), (.tmp 5)]) (slotsOf sg.U 0 [(.d (.st 0)), (.d (.st 1))] (a0, a1, ()) (empty sg.U)) := by
  unfold conf_follow.f
  kernel_rfl
def conf_follow.e (k : Nat) : Entry sg := entryOf sg [(.d (.st 0)), (.d (.st 1))] [(.st 0), .bool] (fun h => conf_follow.f k h.1 h.2.1)
def conf_follow.T : List (Lb sg (RT sg.U [(.st 0), .bool])) := []
theorem conf_follow.ok (k : Nat) : (conf_follow.e k).Sound Tryz.prog ctx 157 :=
  entry_ok base_ok mo (fn := Tryz.f157) (b := (Tryz.f157.body.getD .skip)) (pm := [(.d (.st 0)), (.d (.st 1))]) (rs := [(.st 0), .bool]) (an := conf_follow.a) (N := 48) (vars := [(.cell 4 25), (.tmp 5)]) Tryz.func157 (by kernel_rfl) (by kernel_rfl) (by kernel_rfl) (by kernel_rfl) (by kernel_rfl) (by kernel_rfl) (O := conf_follow.O)
    (fun k => by unfold conf_follow.O; exact oracle_of (P := Tryz.prog) (C := ctx) ⟨(conf_find.ok k), trivial⟩) conf_follow.T trivial k (fun h => conf_follow.f_eq k h.1 h.2.1)
def conf_get.l0 : Nat → Int → Bool → Int → ByteArray → (List T_api_Value) → (List ByteArray) → Int → Bool → Int → ByteArray → (List T_api_Value) → (List ByteArray) → (List T_conf_step) → Int → Int → Option (T_api_Value × Bool)
  | 0, _, _, _, _, _, _, _, _, _, _, _, _, _, _, _ => none
  | k + 1, x2_0, x2_1, x2_2, x2_3, x2_4, x2_5, x4_0, x4_1, x4_2, x4_3, x4_4, x4_5, x9, x10, x11 => (bif (ilt x11 x10) then ((lat x9 x11).bind fun y1 => ((conf_follow.f k (T_api_Value.mk x2_0 x2_1 x2_2 x2_3 x2_4 x2_5) y1).bind fun y2 => (bif (!y2.2) then (some ((T_api_Value.mk 0 false 0 c_empty [] []), false)) else (conf_get.l0 k y2.1.fKind y2.1.fBool y2.1.fInt y2.1.fText y2.1.fItems y2.1.fKeys x4_0 x4_1 x4_2 x4_3 x4_4 x4_5 x9 x10 (wadd .i64 x11 1))))) else (some ((T_api_Value.mk x2_0 x2_1 x2_2 x2_3 x2_4 x2_5), true)))
def conf_get.f (k : Nat) (a0 : T_api_Value) (a1 : (List T_conf_step)) : Option (T_api_Value × Bool) := (conf_get.l0 k a0.fKind a0.fBool a0.fInt a0.fText a0.fItems a0.fKeys 0 false 0 c_empty [] [] a1 (llen a1) 0)
def conf_get.O (k : Nat) : Oracle sg := fun n => lkp n [(157, conf_follow.e k)]
def conf_get.a : Ann := (.n .z (.n (.n .z (.lp 0 .z)) .z))
def conf_get.L (k : Nat) : Nat → St sg.U → Option (RT sg.U [(.st 0), .bool]) := labs [(0, labOf sg [(2, (.box [.d (.int .i64), .d .bool, .d (.int .i64), .d .str, .d (.sl (.st 0)), .d (.sl .str)])), (4, (.box [.d (.int .i64), .d .bool, .d (.int .i64), .d .str, .row 25 (.st 0), .row 9 .str])), (9, (.d (.sl (.st 1)))), (10, (.d (.int .i64))), (11, (.d (.int .i64)))] (fun h => conf_get.l0 k h.1 h.2.1 h.2.2.1 h.2.2.2.1 h.2.2.2.2.1 h.2.2.2.2.2.1 h.2.2.2.2.2.2.1 h.2.2.2.2.2.2.2.1 h.2.2.2.2.2.2.2.2.1 h.2.2.2.2.2.2.2.2.2.1 h.2.2.2.2.2.2.2.2.2.2.1 h.2.2.2.2.2.2.2.2.2.2.2.1 h.2.2.2.2.2.2.2.2.2.2.2.2.1 h.2.2.2.2.2.2.2.2.2.2.2.2.2.1 h.2.2.2.2.2.2.2.2.2.2.2.2.2.2.1))]
theorem conf_get.l0_eq (k : Nat) (x2_0 : Int) (x2_1 : Bool) (x2_2 : Int) (x2_3 : ByteArray) (x2_4 : (List T_api_Value)) (x2_5 : (List ByteArray)) (x4_0 : Int) (x4_1 : Bool) (x4_2 : Int) (x4_3 : ByteArray) (x4_4 : (List T_api_Value)) (x4_5 : (List ByteArray)) (x9 : (List T_conf_step)) (x10 : Int) (x11 : Int) : conf_get.l0 (k + 1) x2_0 x2_1 x2_2 x2_3 x2_4 x2_5 x4_0 x4_1 x4_2 x4_3 x4_4 x4_5 x9 x10 x11 = runFrom (C := ctx) (conf_get.O k) ⟨26, [], []⟩ (conf_get.L k) (Tryz.f79.body.getD .skip) conf_get.a 0 (endK ctx [(.st 0), .bool] [(.cell 4 25), (.tmp 5)]) (encD [(2, (.box [.d (.int .i64), .d .bool, .d (.int .i64), .d .str, .d (.sl (.st 0)), .d (.sl .str)])), (4, (.box [.d (.int .i64), .d .bool, .d (.int .i64), .d .str, .row 25 (.st 0), .row 9 .str])), (9, (.d (.sl (.st 1)))), (10, (.d (.int .i64))), (11, (.d (.int .i64)))] (x2_0, x2_1, x2_2, x2_3, x2_4, x2_5, x4_0, x4_1, x4_2, x4_3, x4_4, x4_5, x9, x10, x11, ()) (startD sg.U ⟨26, [], []⟩ [(2, (.box [.d (.int .i64), .d .bool, .d (.int .i64), .d .str, .d (.sl (.st 0)), .d (.sl .str)])), (4, (.box [.d (.int .i64), .d .bool, .d (.int .i64), .d .str, .row 25 (.st 0), .row 9 .str])), (9, (.d (.sl (.st 1)))), (10, (.d (.int .i64))), (11, (.d (.int .i64)))])) := by
  rw [conf_get.l0]
  kernel_rfl
theorem conf_get.f_eq (k : Nat) (a0 : T_api_Value) (a1 : (List T_conf_step)) : conf_get.f k a0 a1 = codeK (C := ctx) (conf_get.O k) ⟨26, [], []⟩ (conf_get.L k) (Tryz.f79.body.getD .skip) conf_get.a (endK ctx [(.st 0), .bool] [(.cell 4 25), (.tmp 5)]) (slotsOf sg.U 0 [(.d (.st 0)), (.d (.sl (.st 1)))] (a0, a1, ()) (empty sg.U)) := by
  unfold conf_get.f
  kernel_rfl
def conf_get.e (k : Nat) : Entry sg := entryOf sg [(.d (.st 0)), (.d (.sl (.st 1)))] [(.st 0), .bool] (fun h => conf_get.f k h.1 h.2.1)
def conf_get.T : List (Lb sg (RT sg.U [(.st 0), .bool])) := [⟨0, [(2, (.box [.d (.int .i64), .d .bool, .d (.int .i64), .d .str, .d (.sl (.st 0)), .d (.sl .str)])), (4, (.box [.d (.int .i64), .d .bool, .d (.int .i64), .d .str, .row 25 (.st 0), .row 9 .str])), (9, (.d (.sl (.st 1)))), (10, (.d (.int .i64))), (11, (.d (.int .i64)))], fun k h => conf_get.l0 k h.1 h.2.1 h.2.2.1 h.2.2.2.1 h.2.2.2.2.1 h.2.2.2.2.2.1 h.2.2.2.2.2.2.1 h.2.2.2.2.2.2.2.1 h.2.2.2.2.2.2.2.2.1 h.2.2.2.2.2.2.2.2.2.1 h.2.2.2.2.2.2.2.2.2.2.1 h.2.2.2.2.2.2.2.2.2.2.2.1 h.2.2.2.2.2.2.2.2.2.2.2.2.1 h.2.2.2.2.2.2.2.2.2.2.2.2.2.1 h.2.2.2.2.2.2.2.2.2.2.2.2.2.2.1⟩]
theorem conf_get.ok (k : Nat) : (conf_get.e k).Sound Tryz.prog ctx 79 :=
  entry_ok base_ok mo (fn := Tryz.f79) (b := (Tryz.f79.body.getD .skip)) (pm := [(.d (.st 0)), (.d (.sl (.st 1)))]) (rs := [(.st 0), .bool]) (an := conf_get.a) (N := 26) (vars := [(.cell 4 25), (.tmp 5)]) Tryz.func79 (by kernel_rfl) (by kernel_rfl) (by kernel_rfl) (by kernel_rfl) (by kernel_rfl) (by kernel_rfl) (O := conf_get.O)
    (fun k => by unfold conf_get.O; exact oracle_of (P := Tryz.prog) (C := ctx) ⟨(conf_follow.ok k), trivial⟩) conf_get.T ⟨⟨by kernel_rfl, fun _ => by first | rfl | rw [conf_get.l0], fun k h => conf_get.l0_eq k h.1 h.2.1 h.2.2.1 h.2.2.2.1 h.2.2.2.2.1 h.2.2.2.2.2.1 h.2.2.2.2.2.2.1 h.2.2.2.2.2.2.2.1 h.2.2.2.2.2.2.2.2.1 h.2.2.2.2.2.2.2.2.2.1 h.2.2.2.2.2.2.2.2.2.2.1 h.2.2.2.2.2.2.2.2.2.2.2.1 h.2.2.2.2.2.2.2.2.2.2.2.2.1 h.2.2.2.2.2.2.2.2.2.2.2.2.2.1 h.2.2.2.2.2.2.2.2.2.2.2.2.2.2.1⟩, trivial⟩ k (fun h => conf_get.f_eq k h.1 h.2.1)
mutual
def conf_clone.l0 : Nat → Int → Bool → Int → ByteArray → (List T_api_Value) → (List ByteArray) → Int → Bool → Int → ByteArray → (List T_api_Value) → (List ByteArray) → (List T_api_Value) → (List T_api_Value) → Int → Int → Option (T_api_Value)
  | 0, _, _, _, _, _, _, _, _, _, _, _, _, _, _, _, _ => none
  | k + 1, x1_0, x1_1, x1_2, x1_3, x1_4, x1_5, x2_0, x2_1, x2_2, x2_3, x2_4, x2_5, x3, x11, x12, x13 => (bif (ilt x13 x12) then ((lat x11 x13).bind fun y2 => ((conf_clone.f k (T_api_Value.mk y2.fKind y2.fBool y2.fInt y2.fText y2.fItems y2.fKeys)).bind fun y3 => ((lapp 88 x3 [y3]).bind fun y4 => (conf_clone.l0 k x1_0 x1_1 x1_2 x1_3 x1_4 x1_5 x2_0 x2_1 x2_2 x2_3 x2_4 x2_5 y4 x11 x12 (wadd .i64 x13 1))))) else (some (T_api_Value.mk x1_0 x1_1 x1_2 x1_3 x3 x1_5)))
def conf_clone.f : Nat → T_api_Value → Option (T_api_Value)
  | 0, _ => none
  | k + 1, a0 => ((lapp 16 [] a0.fKeys).bind fun y1 => (conf_clone.l0 k a0.fKind a0.fBool a0.fInt a0.fText a0.fItems y1 0 false 0 c_empty [] [] [] a0.fItems (llen a0.fItems) 0))
end
def conf_clone.e (k : Nat) : Entry sg := entryOf sg [(.d (.st 0))] [(.st 0)] (fun h => conf_clone.f k h.1)
def conf_clone.O (k : Nat) : Oracle sg := fun n => lkp n [(80, conf_clone.e k)]
def conf_clone.a : Ann := (.n .z (.n .z (.n .z (.n (.n .z (.lp 0 .z)) .z))))
def conf_clone.L (k : Nat) : Nat → St sg.U → Option (RT sg.U [(.st 0)]) := labs [(0, labOf sg [(1, (.box [.d (.int .i64), .d .bool, .d (.int .i64), .d .str, .d (.sl (.st 0)), .row 9 .str])), (2, (.box [.d (.int .i64), .d .bool, .d (.int .i64), .d .str, .row 25 (.st 0), .row 9 .str])), (3, (.row 25 (.st 0))), (11, (.d (.sl (.st 0)))), (12, (.d (.int .i64))), (13, (.d (.int .i64)))] (fun h => conf_clone.l0 k h.1 h.2.1 h.2.2.1 h.2.2.2.1 h.2.2.2.2.1 h.2.2.2.2.2.1 h.2.2.2.2.2.2.1 h.2.2.2.2.2.2.2.1 h.2.2.2.2.2.2.2.2.1 h.2.2.2.2.2.2.2.2.2.1 h.2.2.2.2.2.2.2.2.2.2.1 h.2.2.2.2.2.2.2.2.2.2.2.1 h.2.2.2.2.2.2.2.2.2.2.2.2.1 h.2.2.2.2.2.2.2.2.2.2.2.2.2.1 h.2.2.2.2.2.2.2.2.2.2.2.2.2.2.1 h.2.2.2.2.2.2.2.2.2.2.2.2.2.2.2.1))]
theorem conf_clone.l0_eq (k : Nat) (x1_0 : Int) (x1_1 : Bool) (x1_2 : Int) (x1_3 : ByteArray) (x1_4 : (List T_api_Value)) (x1_5 : (List ByteArray)) (x2_0 : Int) (x2_1 : Bool) (x2_2 : Int) (x2_3 : ByteArray) (x2_4 : (List T_api_Value)) (x2_5 : (List ByteArray)) (x3 : (List T_api_Value)) (x11 : (List T_api_Value)) (x12 : Int) (x13 : Int) : conf_clone.l0 (k + 1) x1_0 x1_1 x1_2 x1_3 x1_4 x1_5 x2_0 x2_1 x2_2 x2_3 x2_4 x2_5 x3 x11 x12 x13 = runFrom (C := ctx) (conf_clone.O k) ⟨26, [], []⟩ (conf_clone.L k) (Tryz.f80.body.getD .skip) conf_clone.a 0 (endK ctx [(.st 0)] [(.cell 2 25)]) (encD [(1, (.box [.d (.int .i64), .d .bool, .d (.int .i64), .d .str, .d (.sl (.st 0)), .row 9 .str])), (2, (.box [.d (.int .i64), .d .bool, .d (.int .i64), .d .str, .row 25 (.st 0), .row 9 .str])), (3, (.row 25 (.st 0))), (11, (.d (.sl (.st 0)))), (12, (.d (.int .i64))), (13, (.d (.int .i64)))] (x1_0, x1_1, x1_2, x1_3, x1_4, x1_5, x2_0, x2_1, x2_2, x2_3, x2_4, x2_5, x3, x11, x12, x13, ()) (startD sg.U ⟨26, [], []⟩ [(1, (.box [.d (.int .i64), .d .bool, .d (.int .i64), .d .str, .d (.sl (.st 0)), .row 9 .str])), (2, (.box [.d (.int .i64), .d .bool, .d (.int .i64), .d .str, .row 25 (.st 0), .row 9 .str])), (3, (.row 25 (.st 0))), (11, (.d (.sl (.st 0)))), (12, (.d (.int .i64))), (13, (.d (.int .i64)))])) := by
  rw [conf_clone.l0]
  kernel_rfl
theorem conf_clone.f_eq (k : Nat) (a0 : T_api_Value) : conf_clone.f (k + 1) a0 = codeK (C := ctx) (conf_clone.O k) ⟨26, [], []⟩ (conf_clone.L k) (Tryz.f80.body.getD .skip) conf_clone.a (endK ctx [(.st 0)] [(.cell 2 25)]) (slotsOf sg.U 0 [(.d (.st 0))] (a0, ()) (empty sg.U)) := by
  rw [conf_clone.f]
  kernel_rfl
def conf_clone.T : List (Lb sg (RT sg.U [(.st 0)])) := [⟨0, [(1, (.box [.d (.int .i64), .d .bool, .d (.int .i64), .d .str, .d (.sl (.st 0)), .row 9 .str])), (2, (.box [.d (.int .i64), .d .bool, .d (.int .i64), .d .str, .row 25 (.st 0), .row 9 .str])), (3, (.row 25 (.st 0))), (11, (.d (.sl (.st 0)))), (12, (.d (.int .i64))), (13, (.d (.int .i64)))], fun k h => conf_clone.l0 k h.1 h.2.1 h.2.2.1 h.2.2.2.1 h.2.2.2.2.1 h.2.2.2.2.2.1 h.2.2.2.2.2.2.1 h.2.2.2.2.2.2.2.1 h.2.2.2.2.2.2.2.2.1 h.2.2.2.2.2.2.2.2.2.1 h.2.2.2.2.2.2.2.2.2.2.1 h.2.2.2.2.2.2.2.2.2.2.2.1 h.2.2.2.2.2.2.2.2.2.2.2.2.1 h.2.2.2.2.2.2.2.2.2.2.2.2.2.1 h.2.2.2.2.2.2.2.2.2.2.2.2.2.2.1 h.2.2.2.2.2.2.2.2.2.2.2.2.2.2.2.1⟩]
theorem conf_clone.ok : ∀ k : Nat, (conf_clone.e k).Sound Tryz.prog ctx 80 :=
  entry_rec base_ok mo (fn := Tryz.f80) (b := (Tryz.f80.body.getD .skip)) (pm := [(.d (.st 0))]) (rs := [(.st 0)]) (an := conf_clone.a) (N := 26) (vars := [(.cell 2 25)]) Tryz.func80 (by kernel_rfl) (by kernel_rfl) (by kernel_rfl) (by kernel_rfl) (by kernel_rfl) (by kernel_rfl) (O := conf_clone.O) conf_clone.T ⟨⟨by kernel_rfl, fun _ => by first | rfl | rw [conf_clone.l0], fun k h => conf_clone.l0_eq k h.1 h.2.1 h.2.2.1 h.2.2.2.1 h.2.2.2.2.1 h.2.2.2.2.2.1 h.2.2.2.2.2.2.1 h.2.2.2.2.2.2.2.1 h.2.2.2.2.2.2.2.2.1 h.2.2.2.2.2.2.2.2.2.1 h.2.2.2.2.2.2.2.2.2.2.1 h.2.2.2.2.2.2.2.2.2.2.2.1 h.2.2.2.2.2.2.2.2.2.2.2.2.1 h.2.2.2.2.2.2.2.2.2.2.2.2.2.1 h.2.2.2.2.2.2.2.2.2.2.2.2.2.2.1 h.2.2.2.2.2.2.2.2.2.2.2.2.2.2.2.1⟩, trivial⟩ (F := fun k h => conf_clone.f k h.1) (fun _ => by first | rfl | rw [conf_clone.f]) (fun k h => conf_clone.f_eq k h.1)
    (fun k own => by unfold conf_clone.O; exact oracle_of (P := Tryz.prog) (C := ctx) ⟨own, trivial⟩)
def conf_Get.f (k : Nat) (a0 : T_api_Value) (a1 : ByteArray) : Option (T_api_Value × Int) := ((conf_Check.f k (T_api_Value.mk a0.fKind a0.fBool a0.fInt a0.fText a0.fItems a0.fKeys)).bind fun y1 => (bif (!ieq y1 0) then (some ((T_api_Value.mk 0 false 0 c_empty [] []), y1)) else ((conf_steps.f k a1 false).bind fun y2 => (bif (!y2.2) then (some ((T_api_Value.mk 0 false 0 c_empty [] []), 3)) else ((conf_get.f k (T_api_Value.mk a0.fKind a0.fBool a0.fInt a0.fText a0.fItems a0.fKeys) y2.1).bind fun y3 => (bif (!y3.2) then (some ((T_api_Value.mk 0 false 0 c_empty [] []), 7)) else ((conf_clone.f k (T_api_Value.mk y3.1.fKind y3.1.fBool y3.1.fInt y3.1.fText y3.1.fItems y3.1.fKeys)).bind fun y4 => (some ((T_api_Value.mk y4.fKind y4.fBool y4.fInt y4.fText y4.fItems y4.fKeys), 0)))))))))
def conf_Get.O (k : Nat) : Oracle sg := fun n => lkp n [(32, conf_Check.e k), (78, conf_steps.e k), (79, conf_get.e k), (80, conf_clone.e k)]
def conf_Get.a : Ann := .z
def conf_Get.L (k : Nat) : Nat → St sg.U → Option (RT sg.U [(.st 0), (.int .i64)]) := labs []
theorem conf_Get.f_eq (k : Nat) (a0 : T_api_Value) (a1 : ByteArray) : conf_Get.f k a0 a1 = codeK (C := ctx) (conf_Get.O k) ⟨35, [], []⟩ (conf_Get.L k) (Tryz.f27.body.getD .skip) conf_Get.a (endK ctx [(.st 0), (.int .i64)] [(.cell 4 25), (.tmp 5)]) (slotsOf sg.U 0 [(.d (.st 0)), (.d .str)] (a0, a1, ()) (empty sg.U)) := by
  unfold conf_Get.f
  kernel_rfl
def conf_Get.e (k : Nat) : Entry sg := entryOf sg [(.d (.st 0)), (.d .str)] [(.st 0), (.int .i64)] (fun h => conf_Get.f k h.1 h.2.1)
def conf_Get.T : List (Lb sg (RT sg.U [(.st 0), (.int .i64)])) := []
theorem conf_Get.ok (k : Nat) : (conf_Get.e k).Sound Tryz.prog ctx 27 :=
  entry_ok base_ok mo (fn := Tryz.f27) (b := (Tryz.f27.body.getD .skip)) (pm := [(.d (.st 0)), (.d .str)]) (rs := [(.st 0), (.int .i64)]) (an := conf_Get.a) (N := 35) (vars := [(.cell 4 25), (.tmp 5)]) Tryz.func27 (by kernel_rfl) (by kernel_rfl) (by kernel_rfl) (by kernel_rfl) (by kernel_rfl) (by kernel_rfl) (O := conf_Get.O)
    (fun k => by unfold conf_Get.O; exact oracle_of (P := Tryz.prog) (C := ctx) ⟨(conf_Check.ok k), ⟨(conf_steps.ok k), ⟨(conf_get.ok k), ⟨(conf_clone.ok k), trivial⟩⟩⟩⟩) conf_Get.T trivial k (fun h => conf_Get.f_eq k h.1 h.2.1)
mutual
def mastref2_ValuesOf.l0 : Nat → Int → (List T_api_Value) → Int → Int → Option (Int)
  | 0, _, _, _, _ => none
  | k + 1, x3, x7, x8, x9 => (bif (ilt x9 x8) then ((lat x7 x9).bind fun y1 => ((mastref2_ValuesOf.f k (T_api_Value.mk y1.fKind y1.fBool y1.fInt y1.fText y1.fItems y1.fKeys)).bind fun y2 => (mastref2_ValuesOf.l0 k (wadd .i64 x3 y2) x7 x8 (wadd .i64 x9 1)))) else (some x3))
def mastref2_ValuesOf.f : Nat → T_api_Value → Option (Int)
  | 0, _ => none
  | k + 1, a0 => (mastref2_ValuesOf.l0 k 1 a0.fItems (llen a0.fItems) 0)
end
def mastref2_ValuesOf.e (k : Nat) : Entry sg := entryOf sg [(.d (.st 0))] [(.int .i64)] (fun h => mastref2_ValuesOf.f k h.1)
def mastref2_ValuesOf.O (k : Nat) : Oracle sg := fun n => lkp n [(91, mastref2_ValuesOf.e k)]
def mastref2_ValuesOf.a : Ann := (.n .z (.n .z (.n (.n .z (.lp 0 .z)) .z)))
def mastref2_ValuesOf.L (k : Nat) : Nat → St sg.U → Option (RT sg.U [(.int .i64)]) := labs [(0, labOf sg [(3, (.d (.int .i64))), (7, (.d (.sl (.st 0)))), (8, (.d (.int .i64))), (9, (.d (.int .i64)))] (fun h => mastref2_ValuesOf.l0 k h.1 h.2.1 h.2.2.1 h.2.2.2.1))]
theorem mastref2_ValuesOf.l0_eq (k : Nat) (x3 : Int) (x7 : (List T_api_Value)) (x8 : Int) (x9 : Int) : mastref2_ValuesOf.l0 (k + 1) x3 x7 x8 x9 = runFrom (C := ctx) (mastref2_ValuesOf.O k) ⟨19, [], []⟩ (mastref2_ValuesOf.L k) (Tryz.f91.body.getD .skip) mastref2_ValuesOf.a 0 (endK ctx [(.int .i64)] [(.tmp 2)]) (encD [(3, (.d (.int .i64))), (7, (.d (.sl (.st 0)))), (8, (.d (.int .i64))), (9, (.d (.int .i64)))] (x3, x7, x8, x9, ()) (startD sg.U ⟨19, [], []⟩ [(3, (.d (.int .i64))), (7, (.d (.sl (.st 0)))), (8, (.d (.int .i64))), (9, (.d (.int .i64)))])) := by
  rw [mastref2_ValuesOf.l0]
  kernel_rfl
theorem mastref2_ValuesOf.f_eq (k : Nat) (a0 : T_api_Value) : mastref2_ValuesOf.f (k + 1) a0 = codeK (C := ctx) (mastref2_ValuesOf.O k) ⟨19, [], []⟩ (mastref2_ValuesOf.L k) (Tryz.f91.body.getD .skip) mastref2_ValuesOf.a (endK ctx [(.int .i64)] [(.tmp 2)]) (slotsOf sg.U 0 [(.d (.st 0))] (a0, ()) (empty sg.U)) := by
  rw [mastref2_ValuesOf.f]
  kernel_rfl
def mastref2_ValuesOf.T : List (Lb sg (RT sg.U [(.int .i64)])) := [⟨0, [(3, (.d (.int .i64))), (7, (.d (.sl (.st 0)))), (8, (.d (.int .i64))), (9, (.d (.int .i64)))], fun k h => mastref2_ValuesOf.l0 k h.1 h.2.1 h.2.2.1 h.2.2.2.1⟩]
theorem mastref2_ValuesOf.ok : ∀ k : Nat, (mastref2_ValuesOf.e k).Sound Tryz.prog ctx 91 :=
  entry_rec base_ok mo (fn := Tryz.f91) (b := (Tryz.f91.body.getD .skip)) (pm := [(.d (.st 0))]) (rs := [(.int .i64)]) (an := mastref2_ValuesOf.a) (N := 19) (vars := [(.tmp 2)]) Tryz.func91 (by kernel_rfl) (by kernel_rfl) (by kernel_rfl) (by kernel_rfl) (by kernel_rfl) (by kernel_rfl) (O := mastref2_ValuesOf.O) mastref2_ValuesOf.T ⟨⟨by kernel_rfl, fun _ => by first | rfl | rw [mastref2_ValuesOf.l0], fun k h => mastref2_ValuesOf.l0_eq k h.1 h.2.1 h.2.2.1 h.2.2.2.1⟩, trivial⟩ (F := fun k h => mastref2_ValuesOf.f k h.1) (fun _ => by first | rfl | rw [mastref2_ValuesOf.f]) (fun k h => mastref2_ValuesOf.f_eq k h.1)
    (fun k own => by unfold mastref2_ValuesOf.O; exact oracle_of (P := Tryz.prog) (C := ctx) ⟨own, trivial⟩)
mutual
def mastref2_LevelsOf.l0 : Nat → Int → (List T_api_Value) → Int → Int → Option (Int)
  | 0, _, _, _, _ => none
  | k + 1, x3, x7, x8, x9 => (bif (ilt x9 x8) then ((lat x7 x9).bind fun y1 => ((mastref2_LevelsOf.f k (T_api_Value.mk y1.fKind y1.fBool y1.fInt y1.fText y1.fItems y1.fKeys)).bind fun y2 => (mastref2_LevelsOf.l0 k (imax x3 y2) x7 x8 (wadd .i64 x9 1)))) else (some (wadd .i64 x3 1)))
def mastref2_LevelsOf.f : Nat → T_api_Value → Option (Int)
  | 0, _ => none
  | k + 1, a0 => (mastref2_LevelsOf.l0 k 0 a0.fItems (llen a0.fItems) 0)
end
def mastref2_LevelsOf.e (k : Nat) : Entry sg := entryOf sg [(.d (.st 0))] [(.int .i64)] (fun h => mastref2_LevelsOf.f k h.1)
def mastref2_LevelsOf.O (k : Nat) : Oracle sg := fun n => lkp n [(92, mastref2_LevelsOf.e k)]
def mastref2_LevelsOf.a : Ann := (.n .z (.n .z (.n (.n .z (.lp 0 .z)) .z)))
def mastref2_LevelsOf.L (k : Nat) : Nat → St sg.U → Option (RT sg.U [(.int .i64)]) := labs [(0, labOf sg [(3, (.d (.int .i64))), (7, (.d (.sl (.st 0)))), (8, (.d (.int .i64))), (9, (.d (.int .i64)))] (fun h => mastref2_LevelsOf.l0 k h.1 h.2.1 h.2.2.1 h.2.2.2.1))]
theorem mastref2_LevelsOf.l0_eq (k : Nat) (x3 : Int) (x7 : (List T_api_Value)) (x8 : Int) (x9 : Int) : mastref2_LevelsOf.l0 (k + 1) x3 x7 x8 x9 = runFrom (C := ctx) (mastref2_LevelsOf.O k) ⟨20, [], []⟩ (mastref2_LevelsOf.L k) (Tryz.f92.body.getD .skip) mastref2_LevelsOf.a 0 (endK ctx [(.int .i64)] [(.tmp 2)]) (encD [(3, (.d (.int .i64))), (7, (.d (.sl (.st 0)))), (8, (.d (.int .i64))), (9, (.d (.int .i64)))] (x3, x7, x8, x9, ()) (startD sg.U ⟨20, [], []⟩ [(3, (.d (.int .i64))), (7, (.d (.sl (.st 0)))), (8, (.d (.int .i64))), (9, (.d (.int .i64)))])) := by
  rw [mastref2_LevelsOf.l0]
  kernel_rfl
theorem mastref2_LevelsOf.f_eq (k : Nat) (a0 : T_api_Value) : mastref2_LevelsOf.f (k + 1) a0 = codeK (C := ctx) (mastref2_LevelsOf.O k) ⟨20, [], []⟩ (mastref2_LevelsOf.L k) (Tryz.f92.body.getD .skip) mastref2_LevelsOf.a (endK ctx [(.int .i64)] [(.tmp 2)]) (slotsOf sg.U 0 [(.d (.st 0))] (a0, ()) (empty sg.U)) := by
  rw [mastref2_LevelsOf.f]
  kernel_rfl
def mastref2_LevelsOf.T : List (Lb sg (RT sg.U [(.int .i64)])) := [⟨0, [(3, (.d (.int .i64))), (7, (.d (.sl (.st 0)))), (8, (.d (.int .i64))), (9, (.d (.int .i64)))], fun k h => mastref2_LevelsOf.l0 k h.1 h.2.1 h.2.2.1 h.2.2.2.1⟩]
theorem mastref2_LevelsOf.ok : ∀ k : Nat, (mastref2_LevelsOf.e k).Sound Tryz.prog ctx 92 :=
  entry_rec base_ok mo (fn := Tryz.f92) (b := (Tryz.f92.body.getD .skip)) (pm := [(.d (.st 0))]) (rs := [(.int .i64)]) (an := mastref2_LevelsOf.a) (N := 20) (vars := [(.tmp 2)]) Tryz.func92 (by kernel_rfl) (by kernel_rfl) (by kernel_rfl) (by kernel_rfl) (by kernel_rfl) (by kernel_rfl) (O := mastref2_LevelsOf.O) mastref2_LevelsOf.T ⟨⟨by kernel_rfl, fun _ => by first | rfl | rw [mastref2_LevelsOf.l0], fun k h => mastref2_LevelsOf.l0_eq k h.1 h.2.1 h.2.2.1 h.2.2.2.1⟩, trivial⟩ (F := fun k h => mastref2_LevelsOf.f k h.1) (fun _ => by first | rfl | rw [mastref2_LevelsOf.f]) (fun k h => mastref2_LevelsOf.f_eq k h.1)
    (fun k own => by unfold mastref2_LevelsOf.O; exact oracle_of (P := Tryz.prog) (C := ctx) ⟨own, trivial⟩)
def mastref2_badByte.l0 : Nat → ByteArray → Int → Option (Bool)
  | 0, _, _ => none
  | k + 1, x0, x3 => (bif (ilt x3 (slen x0)) then ((sat x0 x3).bind fun y1 => (bif (ilt y1 32) then ((sat x0 x3).bind fun y2 => (bif (!ieq y2 9) then ((sat x0 x3).bind fun y3 => (bif (!ieq y3 10) then (some true) else (mastref2_badByte.l0 k x0 (wadd .i64 x3 1)))) else (mastref2_badByte.l0 k x0 (wadd .i64 x3 1)))) else (mastref2_badByte.l0 k x0 (wadd .i64 x3 1)))) else (some false))
def mastref2_badByte.f (k : Nat) (a0 : ByteArray) : Option (Bool) := (mastref2_badByte.l0 k a0 0)
def mastref2_badByte.O (k : Nat) : Oracle sg := fun n => lkp n []
def mastref2_badByte.a : Ann := (.n .z (.n (.n .z (.lp 0 .z)) .z))
def mastref2_badByte.L (k : Nat) : Nat → St sg.U → Option (RT sg.U [.bool]) := labs [(0, labOf sg [(0, (.d .str)), (3, (.d (.int .i64)))] (fun h => mastref2_badByte.l0 k h.1 h.2.1))]
theorem mastref2_badByte.l0_eq (k : Nat) (x0 : ByteArray) (x3 : Int) : mastref2_badByte.l0 (k + 1) x0 x3 = runFrom (C := ctx) (mastref2_badByte.O k) ⟨26, [], []⟩ (mastref2_badByte.L k) (Tryz.f169.body.getD .skip) mastref2_badByte.a 0 (endK ctx [.bool] [(.tmp 2)]) (encD [(0, (.d .str)), (3, (.d (.int .i64)))] (x0, x3, ()) (startD sg.U ⟨26, [], []⟩ [(0, (.d .str)), (3, (.d (.int .i64)))])) := by
  rw [mastref2_badByte.l0]
  kernel_rfl
theorem mastref2_badByte.f_eq (k : Nat) (a0 : ByteArray) : mastref2_badByte.f k a0 = codeK (C := ctx) (mastref2_badByte.O k) ⟨26, [], []⟩ (mastref2_badByte.L k) (Tryz.f169.body.getD .skip) mastref2_badByte.a (endK ctx [.bool] [(.tmp 2)]) (slotsOf sg.U 0 [(.d .str)] (a0, ()) (empty sg.U)) := by
  unfold mastref2_badByte.f
  kernel_rfl
def mastref2_badByte.e (k : Nat) : Entry sg := entryOf sg [(.d .str)] [.bool] (fun h => mastref2_badByte.f k h.1)
def mastref2_badByte.T : List (Lb sg (RT sg.U [.bool])) := [⟨0, [(0, (.d .str)), (3, (.d (.int .i64)))], fun k h => mastref2_badByte.l0 k h.1 h.2.1⟩]
theorem mastref2_badByte.ok (k : Nat) : (mastref2_badByte.e k).Sound Tryz.prog ctx 169 :=
  entry_ok base_ok mo (fn := Tryz.f169) (b := (Tryz.f169.body.getD .skip)) (pm := [(.d .str)]) (rs := [.bool]) (an := mastref2_badByte.a) (N := 26) (vars := [(.tmp 2)]) Tryz.func169 (by kernel_rfl) (by kernel_rfl) (by kernel_rfl) (by kernel_rfl) (by kernel_rfl) (by kernel_rfl) (O := mastref2_badByte.O)
    (fun k => by unfold mastref2_badByte.O; exact oracle_of (P := Tryz.prog) (C := ctx) trivial) mastref2_badByte.T ⟨⟨by kernel_rfl, fun _ => by first | rfl | rw [mastref2_badByte.l0], fun k h => mastref2_badByte.l0_eq k h.1 h.2.1⟩, trivial⟩ k (fun h => mastref2_badByte.f_eq k h.1)
def strings_Trim.f (a0 : ByteArray) (a1 : ByteArray) : Option (ByteArray) := if a0.size ≤ 9223372036854775807 ∧ a1.size < 4294967281 ∧ (a1.data.toList.all fun b => decide (b.toNat < 128)) = true then some (⟨(Lib.trimS a0.data.toList a1.data.toList).toArray⟩) else none
def strings_Trim.e : Entry sg := entryOf sg [(.d .str), (.d .str)] [.str] (fun h => strings_Trim.f h.1 h.2.1)
theorem strings_Trim.ok : (strings_Trim.e).Sound Tryz.prog ctx 118 :=
  entry_extern (C := ctx) sg_ok Tryz.func118 (by kernel_rfl) (by kernel_rfl) (by kernel_rfl) (by kernel_rfl) (fun hh x w hx hG => by
    unfold strings_Trim.f at hx
    split at hx
    · rename_i c
      obtain rfl := Option.some.inj hx
      refine (Any.strings_Trim_laid Tryz.lays160 (by kernel_rfl) hh.1 hh.2.1 w c.1 c.2.1 (ascii_of_all c.2.2)).mono ?_
      rintro e w' ⟨rfl, hb⟩
      exact ⟨rfl, by first | exact hb ▸ Grow.refl _ | exact Grow.of_below hb | (obtain ⟨k, os, rfl⟩ := hb; exact Grow.of_below (Lib.below_grow _ w (Nat.le_refl _) k os))⟩
    · cases hx)
def mastref2_IsKey.f (a0 : ByteArray) : Option (Bool) := (bif (bif (seq a0 c_empty) then true else (ilt 40 (slen a0))) then (some false) else ((sat a0 0).bind fun y1 => (bif (ilt y1 97) then (some false) else ((sat a0 0).bind fun y2 => (bif (ilt 122 y2) then (some false) else ((strings_Trim.f a0 c_abcdefghijklmnopqrst_0e2e2cf4).bind fun y3 => (some (seq y3 c_empty))))))))
def mastref2_IsKey.O : Oracle sg := fun n => lkp n [(118, strings_Trim.e)]
def mastref2_IsKey.a : Ann := .z
def mastref2_IsKey.L : Nat → St sg.U → Option (RT sg.U [.bool]) := labs []
theorem mastref2_IsKey.f_eq (a0 : ByteArray) : mastref2_IsKey.f a0 = codeK (C := ctx) (mastref2_IsKey.O) ⟨23, [], []⟩ (mastref2_IsKey.L) (Tryz.f159.body.getD .skip) mastref2_IsKey.a (endK ctx [.bool] [(.tmp 2)]) (slotsOf sg.U 0 [(.d .str)] (a0, ()) (empty sg.U)) := by
  unfold mastref2_IsKey.f
  kernel_rfl
def mastref2_IsKey.e : Entry sg := entryOf sg [(.d .str)] [.bool] (fun h => mastref2_IsKey.f h.1)
def mastref2_IsKey.T : List (Lb sg (RT sg.U [.bool])) := []
theorem mastref2_IsKey.ok : (mastref2_IsKey.e).Sound Tryz.prog ctx 159 :=
  entry_ok base_ok mo (fn := Tryz.f159) (b := (Tryz.f159.body.getD .skip)) (pm := [(.d .str)]) (rs := [.bool]) (an := mastref2_IsKey.a) (N := 23) (vars := [(.tmp 2)]) Tryz.func159 (by kernel_rfl) (by kernel_rfl) (by kernel_rfl) (by kernel_rfl) (by kernel_rfl) (by kernel_rfl) (O := fun _ => mastref2_IsKey.O)
    (fun _ => by unfold mastref2_IsKey.O; exact oracle_of (P := Tryz.prog) (C := ctx) ⟨(strings_Trim.ok), trivial⟩) mastref2_IsKey.T trivial 0 (fun h => mastref2_IsKey.f_eq h.1)
mutual
def mastref2_eachValue.l0 : Nat → Int → Bool → Int → ByteArray → (List T_api_Value) → (List ByteArray) → (List ByteArray) → Int → Int → Option (Int)
  | 0, _, _, _, _, _, _, _, _, _ => none
  | k + 1, x1_0, x1_1, x1_2, x1_3, x1_4, x1_5, x100, x101, x102 => (bif (ilt x102 x101) then ((lat x100 x102).bind fun y2 => ((mastref2_IsKey.f y2).bind fun y3 => (bif (!y3) then (some 12) else (bif (ilt 0 x102) then ((lat x1_5 (wsub .i64 x102 1)).bind fun y4 => (bif (sle y2 y4) then (some 5) else (mastref2_eachValue.l0 k x1_0 x1_1 x1_2 x1_3 x1_4 x1_5 x100 x101 (wadd .i64 x102 1)))) else (mastref2_eachValue.l0 k x1_0 x1_1 x1_2 x1_3 x1_4 x1_5 x100 x101 (wadd .i64 x102 1)))))) else (mastref2_eachValue.l1 k x1_4 (llen x1_4) 0))
def mastref2_eachValue.l1 : Nat → (List T_api_Value) → Int → Int → Option (Int)
  | 0, _, _, _ => none
  | k + 1, x124, x125, x126 => (bif (ilt x126 x125) then ((lat x124 x126).bind fun y5 => ((mastref2_eachValue.f k (T_api_Value.mk y5.fKind y5.fBool y5.fInt y5.fText y5.fItems y5.fKeys)).bind fun y6 => (bif (!ieq y6 0) then (some y6) else (mastref2_eachValue.l1 k x124 x125 (wadd .i64 x126 1))))) else (some 0))
def mastref2_eachValue.f : Nat → T_api_Value → Option (Int)
  | 0, _ => none
  | k + 1, a0 => (bif (bif (ilt a0.fKind 0) then true else (ilt 6 a0.fKind)) then (some 10) else (bif (bif (bif (bif (bif (bif a0.fBool then (!ieq a0.fKind 1) else false) then true else (bif (bif (!ieq a0.fInt 0) then (!ieq a0.fKind 2) else false) then (!ieq a0.fKind 4) else false)) then true else (bif (!seq a0.fText c_empty) then (!ieq a0.fKind 3) else false)) then true else (bif (bif (ilt 0 (llen a0.fItems)) then (!ieq a0.fKind 5) else false) then (!ieq a0.fKind 6) else false)) then true else (bif (ilt 0 (llen a0.fKeys)) then (!ieq a0.fKind 6) else false)) then (some 1) else (bif (bif (ieq a0.fKind 6) then (!ieq (llen a0.fKeys) (llen a0.fItems)) else false) then (some 1) else (bif (bif (ieq a0.fKind 4) then (bif (ilt a0.fInt 0) then true else (ilt 84005 a0.fInt)) else false) then (some 2) else (bif (ilt 5000 (slen a0.fText)) then (some 4) else ((mastref2_badByte.f k a0.fText).bind fun y1 => (bif y1 then (some 9) else (mastref2_eachValue.l0 k a0.fKind a0.fBool a0.fInt a0.fText a0.fItems a0.fKeys a0.fKeys (llen a0.fKeys) 0))))))))
end
def mastref2_eachValue.e (k : Nat) : Entry sg := entryOf sg [(.d (.st 0))] [(.int .i64)] (fun h => mastref2_eachValue.f k h.1)
def mastref2_eachValue.O (k : Nat) : Oracle sg := fun n => lkp n [(93, mastref2_eachValue.e k), (159, mastref2_IsKey.e), (169, mastref2_badByte.e k)]
def mastref2_eachValue.a : Ann := (.n .z (.n .z (.n .z (.n .z (.n .z (.n .z (.n .z (.n .z (.n (.n .z (.lp 0 .z)) (.n (.n .z (.lp 1 .z)) .z))))))))))
def mastref2_eachValue.L (k : Nat) : Nat → St sg.U → Option (RT sg.U [(.int .i64)]) := labs [(0, labOf sg [(1, (.box [.d (.int .i64), .d .bool, .d (.int .i64), .d .str, .d (.sl (.st 0)), .d (.sl .str)])), (100, (.d (.sl .str))), (101, (.d (.int .i64))), (102, (.d (.int .i64)))] (fun h => mastref2_eachValue.l0 k h.1 h.2.1 h.2.2.1 h.2.2.2.1 h.2.2.2.2.1 h.2.2.2.2.2.1 h.2.2.2.2.2.2.1 h.2.2.2.2.2.2.2.1 h.2.2.2.2.2.2.2.2.1)), (1, labOf sg [(124, (.d (.sl (.st 0)))), (125, (.d (.int .i64))), (126, (.d (.int .i64)))] (fun h => mastref2_eachValue.l1 k h.1 h.2.1 h.2.2.1))]
theorem mastref2_eachValue.l0_eq (k : Nat) (x1_0 : Int) (x1_1 : Bool) (x1_2 : Int) (x1_3 : ByteArray) (x1_4 : (List T_api_Value)) (x1_5 : (List ByteArray)) (x100 : (List ByteArray)) (x101 : Int) (x102 : Int) : mastref2_eachValue.l0 (k + 1) x1_0 x1_1 x1_2 x1_3 x1_4 x1_5 x100 x101 x102 = runFrom (C := ctx) (mastref2_eachValue.O k) ⟨136, [], []⟩ (mastref2_eachValue.L k) (Tryz.f93.body.getD .skip) mastref2_eachValue.a 0 (endK ctx [(.int .i64)] [(.tmp 2)]) (encD [(1, (.box [.d (.int .i64), .d .bool, .d (.int .i64), .d .str, .d (.sl (.st 0)), .d (.sl .str)])), (100, (.d (.sl .str))), (101, (.d (.int .i64))), (102, (.d (.int .i64)))] (x1_0, x1_1, x1_2, x1_3, x1_4, x1_5, x100, x101, x102, ()) (startD sg.U ⟨136, [], []⟩ [(1, (.box [.d (.int .i64), .d .bool, .d (.int .i64), .d .str, .d (.sl (.st 0)), .d (.sl .str)])), (100, (.d (.sl .str))), (101, (.d (.int .i64))), (102, (.d (.int .i64)))])) := by
  rw [mastref2_eachValue.l0]
  kernel_rfl
theorem mastref2_eachValue.l1_eq (k : Nat) (x124 : (List T_api_Value)) (x125 : Int) (x126 : Int) : mastref2_eachValue.l1 (k + 1) x124 x125 x126 = runFrom (C := ctx) (mastref2_eachValue.O k) ⟨136, [], []⟩ (mastref2_eachValue.L k) (Tryz.f93.body.getD .skip) mastref2_eachValue.a 1 (endK ctx [(.int .i64)] [(.tmp 2)]) (encD [(124, (.d (.sl (.st 0)))), (125, (.d (.int .i64))), (126, (.d (.int .i64)))] (x124, x125, x126, ()) (startD sg.U ⟨136, [], []⟩ [(124, (.d (.sl (.st 0)))), (125, (.d (.int .i64))), (126, (.d (.int .i64)))])) := by
  rw [mastref2_eachValue.l1]
  kernel_rfl
theorem mastref2_eachValue.f_eq (k : Nat) (a0 : T_api_Value) : mastref2_eachValue.f (k + 1) a0 = codeK (C := ctx) (mastref2_eachValue.O k) ⟨136, [], []⟩ (mastref2_eachValue.L k) (Tryz.f93.body.getD .skip) mastref2_eachValue.a (endK ctx [(.int .i64)] [(.tmp 2)]) (slotsOf sg.U 0 [(.d (.st 0))] (a0, ()) (empty sg.U)) := by
  rw [mastref2_eachValue.f]
  kernel_rfl
def mastref2_eachValue.T : List (Lb sg (RT sg.U [(.int .i64)])) := [⟨0, [(1, (.box [.d (.int .i64), .d .bool, .d (.int .i64), .d .str, .d (.sl (.st 0)), .d (.sl .str)])), (100, (.d (.sl .str))), (101, (.d (.int .i64))), (102, (.d (.int .i64)))], fun k h => mastref2_eachValue.l0 k h.1 h.2.1 h.2.2.1 h.2.2.2.1 h.2.2.2.2.1 h.2.2.2.2.2.1 h.2.2.2.2.2.2.1 h.2.2.2.2.2.2.2.1 h.2.2.2.2.2.2.2.2.1⟩, ⟨1, [(124, (.d (.sl (.st 0)))), (125, (.d (.int .i64))), (126, (.d (.int .i64)))], fun k h => mastref2_eachValue.l1 k h.1 h.2.1 h.2.2.1⟩]
theorem mastref2_eachValue.ok : ∀ k : Nat, (mastref2_eachValue.e k).Sound Tryz.prog ctx 93 :=
  entry_rec base_ok mo (fn := Tryz.f93) (b := (Tryz.f93.body.getD .skip)) (pm := [(.d (.st 0))]) (rs := [(.int .i64)]) (an := mastref2_eachValue.a) (N := 136) (vars := [(.tmp 2)]) Tryz.func93 (by kernel_rfl) (by kernel_rfl) (by kernel_rfl) (by kernel_rfl) (by kernel_rfl) (by kernel_rfl) (O := mastref2_eachValue.O) mastref2_eachValue.T ⟨⟨by kernel_rfl, fun _ => by first | rfl | rw [mastref2_eachValue.l0], fun k h => mastref2_eachValue.l0_eq k h.1 h.2.1 h.2.2.1 h.2.2.2.1 h.2.2.2.2.1 h.2.2.2.2.2.1 h.2.2.2.2.2.2.1 h.2.2.2.2.2.2.2.1 h.2.2.2.2.2.2.2.2.1⟩, ⟨⟨by kernel_rfl, fun _ => by first | rfl | rw [mastref2_eachValue.l1], fun k h => mastref2_eachValue.l1_eq k h.1 h.2.1 h.2.2.1⟩, trivial⟩⟩ (F := fun k h => mastref2_eachValue.f k h.1) (fun _ => by first | rfl | rw [mastref2_eachValue.f]) (fun k h => mastref2_eachValue.f_eq k h.1)
    (fun k own => by unfold mastref2_eachValue.O; exact oracle_of (P := Tryz.prog) (C := ctx) ⟨own, ⟨(mastref2_IsKey.ok), ⟨(mastref2_badByte.ok k), trivial⟩⟩⟩)
def mastref2_ConfCheck.f (k : Nat) (a0 : T_api_Value) : Option (Int) := ((mastref2_ValuesOf.f k (T_api_Value.mk a0.fKind a0.fBool a0.fInt a0.fText a0.fItems a0.fKeys)).bind fun y1 => (bif (ilt 1000 y1) then (some 4) else ((mastref2_LevelsOf.f k (T_api_Value.mk a0.fKind a0.fBool a0.fInt a0.fText a0.fItems a0.fKeys)).bind fun y2 => (bif (ilt 8 y2) then (some 13) else ((mastref2_eachValue.f k (T_api_Value.mk a0.fKind a0.fBool a0.fInt a0.fText a0.fItems a0.fKeys)).bind fun y3 => (some y3))))))
def mastref2_ConfCheck.O (k : Nat) : Oracle sg := fun n => lkp n [(91, mastref2_ValuesOf.e k), (92, mastref2_LevelsOf.e k), (93, mastref2_eachValue.e k)]
def mastref2_ConfCheck.a : Ann := .z
def mastref2_ConfCheck.L (k : Nat) : Nat → St sg.U → Option (RT sg.U [(.int .i64)]) := labs []
theorem mastref2_ConfCheck.f_eq (k : Nat) (a0 : T_api_Value) : mastref2_ConfCheck.f k a0 = codeK (C := ctx) (mastref2_ConfCheck.O k) ⟨11, [], []⟩ (mastref2_ConfCheck.L k) (Tryz.f34.body.getD .skip) mastref2_ConfCheck.a (endK ctx [(.int .i64)] [(.tmp 2)]) (slotsOf sg.U 0 [(.d (.st 0))] (a0, ()) (empty sg.U)) := by
  unfold mastref2_ConfCheck.f
  kernel_rfl
def mastref2_ConfCheck.e (k : Nat) : Entry sg := entryOf sg [(.d (.st 0))] [(.int .i64)] (fun h => mastref2_ConfCheck.f k h.1)
def mastref2_ConfCheck.T : List (Lb sg (RT sg.U [(.int .i64)])) := []
theorem mastref2_ConfCheck.ok (k : Nat) : (mastref2_ConfCheck.e k).Sound Tryz.prog ctx 34 :=
  entry_ok base_ok mo (fn := Tryz.f34) (b := (Tryz.f34.body.getD .skip)) (pm := [(.d (.st 0))]) (rs := [(.int .i64)]) (an := mastref2_ConfCheck.a) (N := 11) (vars := [(.tmp 2)]) Tryz.func34 (by kernel_rfl) (by kernel_rfl) (by kernel_rfl) (by kernel_rfl) (by kernel_rfl) (by kernel_rfl) (O := mastref2_ConfCheck.O)
    (fun k => by unfold mastref2_ConfCheck.O; exact oracle_of (P := Tryz.prog) (C := ctx) ⟨(mastref2_ValuesOf.ok k), ⟨(mastref2_LevelsOf.ok k), ⟨(mastref2_eachValue.ok k), trivial⟩⟩⟩) mastref2_ConfCheck.T trivial k (fun h => mastref2_ConfCheck.f_eq k h.1)
def mastref2_digitsAlone.f (a0 : ByteArray) : Option (Bool) := (bif (!seq a0 c_empty) then ((strings_Trim.f a0 c_0123456789).bind fun y1 => (some (seq y1 c_empty))) else (some false))
def mastref2_digitsAlone.O : Oracle sg := fun n => lkp n [(118, strings_Trim.e)]
def mastref2_digitsAlone.a : Ann := .z
def mastref2_digitsAlone.L : Nat → St sg.U → Option (RT sg.U [.bool]) := labs []
theorem mastref2_digitsAlone.f_eq (a0 : ByteArray) : mastref2_digitsAlone.f a0 = codeK (C := ctx) (mastref2_digitsAlone.O) ⟨10, [], []⟩ (mastref2_digitsAlone.L) (Tryz.f158.body.getD .skip) mastref2_digitsAlone.a (endK ctx [.bool] [(.tmp 2)]) (slotsOf sg.U 0 [(.d .str)] (a0, ()) (empty sg.U)) := by
  unfold mastref2_digitsAlone.f
  kernel_rfl
def mastref2_digitsAlone.e : Entry sg := entryOf sg [(.d .str)] [.bool] (fun h => mastref2_digitsAlone.f h.1)
def mastref2_digitsAlone.T : List (Lb sg (RT sg.U [.bool])) := []
theorem mastref2_digitsAlone.ok : (mastref2_digitsAlone.e).Sound Tryz.prog ctx 158 :=
  entry_ok base_ok mo (fn := Tryz.f158) (b := (Tryz.f158.body.getD .skip)) (pm := [(.d .str)]) (rs := [.bool]) (an := mastref2_digitsAlone.a) (N := 10) (vars := [(.tmp 2)]) Tryz.func158 (by kernel_rfl) (by kernel_rfl) (by kernel_rfl) (by kernel_rfl) (by kernel_rfl) (by kernel_rfl) (O := fun _ => mastref2_digitsAlone.O)
    (fun _ => by unfold mastref2_digitsAlone.O; exact oracle_of (P := Tryz.prog) (C := ctx) ⟨(strings_Trim.ok), trivial⟩) mastref2_digitsAlone.T trivial 0 (fun h => mastref2_digitsAlone.f_eq h.1)
mutual
def mastref2_RouteParts.l0 : Nat → Bool → (List ByteArray) → (List ByteArray) → Int → Int → Option ((List ByteArray) × Bool)
  | 0, _, _, _, _, _ => none
  | k + 1, x1, x6, x17, x18, x19 => (bif (ilt x19 x18) then ((lat x17 x19).bind fun y2 => ((mastref2_digitsAlone.f y2).bind fun y3 => (bif (bif y3 then (ile (slen y2) 4) else false) then ((sat y2 0).bind fun y4 => (mastref2_RouteParts.l1 k x1 x6 y2 (bif (!ieq y4 48) then true else (seq y2 c_0)) x17 x18 x19)) else (mastref2_RouteParts.l1 k x1 x6 y2 false x17 x18 x19)))) else (some (x6, true)))
def mastref2_RouteParts.l1 : Nat → Bool → (List ByteArray) → ByteArray → Bool → (List ByteArray) → Int → Int → Option ((List ByteArray) × Bool)
  | 0, _, _, _, _, _, _, _ => none
  | k + 1, x1, x6, x8, x9, x17, x18, x19 => (bif (!x9) then ((mastref2_IsKey.f x8).bind fun y5 => (bif (bif (!y5) then (!(bif x1 then (seq x8 c__2a) else false)) else false) then (some ([], false)) else (mastref2_RouteParts.l0 k x1 x6 x17 x18 (wadd .i64 x19 1)))) else (mastref2_RouteParts.l0 k x1 x6 x17 x18 (wadd .i64 x19 1)))
end
def mastref2_RouteParts.f (k : Nat) (a0 : ByteArray) (a1 : Bool) : Option ((List ByteArray) × Bool) := (bif (ilt 400 (slen a0)) then (some ([], false)) else (bif (seq a0 c_empty) then (some ([], true)) else ((strings_Split.f a0 c__2e).bind fun y1 => (mastref2_RouteParts.l0 k a1 y1 y1 (llen y1) 0))))
def mastref2_RouteParts.O (k : Nat) : Oracle sg := fun n => lkp n [(64, strings_Split.e), (158, mastref2_digitsAlone.e), (159, mastref2_IsKey.e)]
def mastref2_RouteParts.a : Ann := (.n .z (.n .z (.n .z (.n .z (.n (.n .z (.lp 0 (.n .z (.n .z (.n (.n .z (.n .z (.lab 1 .z))) .z))))) .z)))))
def mastref2_RouteParts.L (k : Nat) : Nat → St sg.U → Option (RT sg.U [(.sl .str), .bool]) := labs [(0, labOf sg [(1, (.d .bool)), (6, (.d (.sl .str))), (17, (.d (.sl .str))), (18, (.d (.int .i64))), (19, (.d (.int .i64)))] (fun h => mastref2_RouteParts.l0 k h.1 h.2.1 h.2.2.1 h.2.2.2.1 h.2.2.2.2.1)), (1, labOf sg [(1, (.d .bool)), (6, (.d (.sl .str))), (8, (.d .str)), (9, (.d .bool)), (17, (.d (.sl .str))), (18, (.d (.int .i64))), (19, (.d (.int .i64)))] (fun h => mastref2_RouteParts.l1 k h.1 h.2.1 h.2.2.1 h.2.2.2.1 h.2.2.2.2.1 h.2.2.2.2.2.1 h.2.2.2.2.2.2.1))]
theorem mastref2_RouteParts.l0_eq (k : Nat) (x1 : Bool) (x6 : (List ByteArray)) (x17 : (List ByteArray)) (x18 : Int) (x19 : Int) : mastref2_RouteParts.l0 (k + 1) x1 x6 x17 x18 x19 = runFrom (C := ctx) (mastref2_RouteParts.O k) ⟨56, [], []⟩ (mastref2_RouteParts.L k) (Tryz.f81.body.getD .skip) mastref2_RouteParts.a 0 (endK ctx [(.sl .str), .bool] [(.tmp 4), (.tmp 5)]) (encD [(1, (.d .bool)), (6, (.d (.sl .str))), (17, (.d (.sl .str))), (18, (.d (.int .i64))), (19, (.d (.int .i64)))] (x1, x6, x17, x18, x19, ()) (startD sg.U ⟨56, [], []⟩ [(1, (.d .bool)), (6, (.d (.sl .str))), (17, (.d (.sl .str))), (18, (.d (.int .i64))), (19, (.d (.int .i64)))])) := by
  rw [mastref2_RouteParts.l0]
  kernel_rfl
theorem mastref2_RouteParts.l1_eq (k : Nat) (x1 : Bool) (x6 : (List ByteArray)) (x8 : ByteArray) (x9 : Bool) (x17 : (List ByteArray)) (x18 : Int) (x19 : Int) : mastref2_RouteParts.l1 (k + 1) x1 x6 x8 x9 x17 x18 x19 = runFrom (C := ctx) (mastref2_RouteParts.O k) ⟨56, [], []⟩ (mastref2_RouteParts.L k) (Tryz.f81.body.getD .skip) mastref2_RouteParts.a 1 (endK ctx [(.sl .str), .bool] [(.tmp 4), (.tmp 5)]) (encD [(1, (.d .bool)), (6, (.d (.sl .str))), (8, (.d .str)), (9, (.d .bool)), (17, (.d (.sl .str))), (18, (.d (.int .i64))), (19, (.d (.int .i64)))] (x1, x6, x8, x9, x17, x18, x19, ()) (startD sg.U ⟨56, [], []⟩ [(1, (.d .bool)), (6, (.d (.sl .str))), (8, (.d .str)), (9, (.d .bool)), (17, (.d (.sl .str))), (18, (.d (.int .i64))), (19, (.d (.int .i64)))])) := by
  rw [mastref2_RouteParts.l1]
  kernel_rfl
theorem mastref2_RouteParts.f_eq (k : Nat) (a0 : ByteArray) (a1 : Bool) : mastref2_RouteParts.f k a0 a1 = codeK (C := ctx) (mastref2_RouteParts.O k) ⟨56, [], []⟩ (mastref2_RouteParts.L k) (Tryz.f81.body.getD .skip) mastref2_RouteParts.a (endK ctx [(.sl .str), .bool] [(.tmp 4), (.tmp 5)]) (slotsOf sg.U 0 [(.d .str), (.d .bool)] (a0, a1, ()) (empty sg.U)) := by
  unfold mastref2_RouteParts.f
  kernel_rfl
def mastref2_RouteParts.e (k : Nat) : Entry sg := entryOf sg [(.d .str), (.d .bool)] [(.sl .str), .bool] (fun h => mastref2_RouteParts.f k h.1 h.2.1)
def mastref2_RouteParts.T : List (Lb sg (RT sg.U [(.sl .str), .bool])) := [⟨0, [(1, (.d .bool)), (6, (.d (.sl .str))), (17, (.d (.sl .str))), (18, (.d (.int .i64))), (19, (.d (.int .i64)))], fun k h => mastref2_RouteParts.l0 k h.1 h.2.1 h.2.2.1 h.2.2.2.1 h.2.2.2.2.1⟩, ⟨1, [(1, (.d .bool)), (6, (.d (.sl .str))), (8, (.d .str)), (9, (.d .bool)), (17, (.d (.sl .str))), (18, (.d (.int .i64))), (19, (.d (.int .i64)))], fun k h => mastref2_RouteParts.l1 k h.1 h.2.1 h.2.2.1 h.2.2.2.1 h.2.2.2.2.1 h.2.2.2.2.2.1 h.2.2.2.2.2.2.1⟩]
theorem mastref2_RouteParts.ok (k : Nat) : (mastref2_RouteParts.e k).Sound Tryz.prog ctx 81 :=
  entry_ok base_ok mo (fn := Tryz.f81) (b := (Tryz.f81.body.getD .skip)) (pm := [(.d .str), (.d .bool)]) (rs := [(.sl .str), .bool]) (an := mastref2_RouteParts.a) (N := 56) (vars := [(.tmp 4), (.tmp 5)]) Tryz.func81 (by kernel_rfl) (by kernel_rfl) (by kernel_rfl) (by kernel_rfl) (by kernel_rfl) (by kernel_rfl) (O := mastref2_RouteParts.O)
    (fun k => by unfold mastref2_RouteParts.O; exact oracle_of (P := Tryz.prog) (C := ctx) ⟨(strings_Split.ok), ⟨(mastref2_digitsAlone.ok), ⟨(mastref2_IsKey.ok), trivial⟩⟩⟩) mastref2_RouteParts.T ⟨⟨by kernel_rfl, fun _ => by first | rfl | rw [mastref2_RouteParts.l0], fun k h => mastref2_RouteParts.l0_eq k h.1 h.2.1 h.2.2.1 h.2.2.2.1 h.2.2.2.2.1⟩, ⟨⟨by kernel_rfl, fun _ => by first | rfl | rw [mastref2_RouteParts.l1], fun k h => mastref2_RouteParts.l1_eq k h.1 h.2.1 h.2.2.1 h.2.2.2.1 h.2.2.2.2.1 h.2.2.2.2.2.1 h.2.2.2.2.2.2.1⟩, trivial⟩⟩ k (fun h => mastref2_RouteParts.f_eq k h.1 h.2.1)
def slices_Index_string_string.l0 : Nat → (List ByteArray) → ByteArray → Int → Int → Option (Int)
  | 0, _, _, _, _ => none
  | k + 1, x0, x1, x7, x8 => (bif (ilt x8 x7) then ((lat x0 x8).bind fun y1 => (bif (seq x1 y1) then (some x8) else (slices_Index_string_string.l0 k x0 x1 x7 (wadd .i64 x8 1)))) else (some (-1)))
def slices_Index_string_string.f (k : Nat) (a0 : (List ByteArray)) (a1 : ByteArray) : Option (Int) := (slices_Index_string_string.l0 k a0 a1 (llen a0) 0)
def slices_Index_string_string.O (k : Nat) : Oracle sg := fun n => lkp n []
def slices_Index_string_string.a : Ann := (.n .z (.n (.n .z (.lp 0 .z)) .z))
def slices_Index_string_string.L (k : Nat) : Nat → St sg.U → Option (RT sg.U [(.int .i64)]) := labs [(0, labOf sg [(0, (.d (.sl .str))), (1, (.d .str)), (7, (.d (.int .i64))), (8, (.d (.int .i64)))] (fun h => slices_Index_string_string.l0 k h.1 h.2.1 h.2.2.1 h.2.2.2.1))]
theorem slices_Index_string_string.l0_eq (k : Nat) (x0 : (List ByteArray)) (x1 : ByteArray) (x7 : Int) (x8 : Int) : slices_Index_string_string.l0 (k + 1) x0 x1 x7 x8 = runFrom (C := ctx) (slices_Index_string_string.O k) ⟨19, [], []⟩ (slices_Index_string_string.L k) (Tryz.f179.body.getD .skip) slices_Index_string_string.a 0 (endK ctx [(.int .i64)] [(.tmp 4)]) (encD [(0, (.d (.sl .str))), (1, (.d .str)), (7, (.d (.int .i64))), (8, (.d (.int .i64)))] (x0, x1, x7, x8, ()) (startD sg.U ⟨19, [], []⟩ [(0, (.d (.sl .str))), (1, (.d .str)), (7, (.d (.int .i64))), (8, (.d (.int .i64)))])) := by
  rw [slices_Index_string_string.l0]
  kernel_rfl
theorem slices_Index_string_string.f_eq (k : Nat) (a0 : (List ByteArray)) (a1 : ByteArray) : slices_Index_string_string.f k a0 a1 = codeK (C := ctx) (slices_Index_string_string.O k) ⟨19, [], []⟩ (slices_Index_string_string.L k) (Tryz.f179.body.getD .skip) slices_Index_string_string.a (endK ctx [(.int .i64)] [(.tmp 4)]) (slotsOf sg.U 0 [(.d (.sl .str)), (.d .str)] (a0, a1, ()) (empty sg.U)) := by
  unfold slices_Index_string_string.f
  kernel_rfl
def slices_Index_string_string.e (k : Nat) : Entry sg := entryOf sg [(.d (.sl .str)), (.d .str)] [(.int .i64)] (fun h => slices_Index_string_string.f k h.1 h.2.1)
def slices_Index_string_string.T : List (Lb sg (RT sg.U [(.int .i64)])) := [⟨0, [(0, (.d (.sl .str))), (1, (.d .str)), (7, (.d (.int .i64))), (8, (.d (.int .i64)))], fun k h => slices_Index_string_string.l0 k h.1 h.2.1 h.2.2.1 h.2.2.2.1⟩]
theorem slices_Index_string_string.ok (k : Nat) : (slices_Index_string_string.e k).Sound Tryz.prog ctx 179 :=
  entry_ok base_ok mo (fn := Tryz.f179) (b := (Tryz.f179.body.getD .skip)) (pm := [(.d (.sl .str)), (.d .str)]) (rs := [(.int .i64)]) (an := slices_Index_string_string.a) (N := 19) (vars := [(.tmp 4)]) Tryz.func179 (by kernel_rfl) (by kernel_rfl) (by kernel_rfl) (by kernel_rfl) (by kernel_rfl) (by kernel_rfl) (O := slices_Index_string_string.O)
    (fun k => by unfold slices_Index_string_string.O; exact oracle_of (P := Tryz.prog) (C := ctx) trivial) slices_Index_string_string.T ⟨⟨by kernel_rfl, fun _ => by first | rfl | rw [slices_Index_string_string.l0], fun k h => slices_Index_string_string.l0_eq k h.1 h.2.1 h.2.2.1 h.2.2.2.1⟩, trivial⟩ k (fun h => slices_Index_string_string.f_eq k h.1 h.2.1)
def mastref2_Step.f (k : Nat) (a0 : T_api_Value) (a1 : ByteArray) : Option (Int) := ((sat a1 0).bind fun y1 => (bif (ile 97 y1) then (bif (!ieq a0.fKind 6) then (some (-1)) else ((slices_Index_string_string.f k a0.fKeys a1).bind fun y2 => (some y2))) else ((strconv_Atoi.f a1).bind fun y3 => (bif (bif (ieq a0.fKind 5) then (ilt y3 (llen a0.fItems)) else false) then (some y3) else (some (-1))))))
def mastref2_Step.O (k : Nat) : Oracle sg := fun n => lkp n [(156, strconv_Atoi.e), (179, slices_Index_string_string.e k)]
def mastref2_Step.a : Ann := .z
def mastref2_Step.L (k : Nat) : Nat → St sg.U → Option (RT sg.U [(.int .i64)]) := labs []
theorem mastref2_Step.f_eq (k : Nat) (a0 : T_api_Value) (a1 : ByteArray) : mastref2_Step.f k a0 a1 = codeK (C := ctx) (mastref2_Step.O k) ⟨33, [], []⟩ (mastref2_Step.L k) (Tryz.f160.body.getD .skip) mastref2_Step.a (endK ctx [(.int .i64)] [(.tmp 4)]) (slotsOf sg.U 0 [(.d (.st 0)), (.d .str)] (a0, a1, ()) (empty sg.U)) := by
  unfold mastref2_Step.f
  kernel_rfl
def mastref2_Step.e (k : Nat) : Entry sg := entryOf sg [(.d (.st 0)), (.d .str)] [(.int .i64)] (fun h => mastref2_Step.f k h.1 h.2.1)
def mastref2_Step.T : List (Lb sg (RT sg.U [(.int .i64)])) := []
theorem mastref2_Step.ok (k : Nat) : (mastref2_Step.e k).Sound Tryz.prog ctx 160 :=
  entry_ok base_ok mo (fn := Tryz.f160) (b := (Tryz.f160.body.getD .skip)) (pm := [(.d (.st 0)), (.d .str)]) (rs := [(.int .i64)]) (an := mastref2_Step.a) (N := 33) (vars := [(.tmp 4)]) Tryz.func160 (by kernel_rfl) (by kernel_rfl) (by kernel_rfl) (by kernel_rfl) (by kernel_rfl) (by kernel_rfl) (O := mastref2_Step.O)
    (fun k => by unfold mastref2_Step.O; exact oracle_of (P := Tryz.prog) (C := ctx) ⟨(strconv_Atoi.ok), ⟨(slices_Index_string_string.ok k), trivial⟩⟩) mastref2_Step.T trivial k (fun h => mastref2_Step.f_eq k h.1 h.2.1)
def mastref2_Follow.l0 : Nat → Int → Bool → Int → ByteArray → (List T_api_Value) → (List ByteArray) → Int → Bool → Int → ByteArray → (List T_api_Value) → (List ByteArray) → (List ByteArray) → Int → Int → Option (T_api_Value × Bool)
  | 0, _, _, _, _, _, _, _, _, _, _, _, _, _, _, _ => none
  | k + 1, x2_0, x2_1, x2_2, x2_3, x2_4, x2_5, x4_0, x4_1, x4_2, x4_3, x4_4, x4_5, x9, x10, x11 => (bif (ilt x11 x10) then ((lat x9 x11).bind fun y1 => ((mastref2_Step.f k (T_api_Value.mk x2_0 x2_1 x2_2 x2_3 x2_4 x2_5) y1).bind fun y2 => (bif (ilt y2 0) then (some ((T_api_Value.mk 0 false 0 c_empty [] []), false)) else ((lat x2_4 y2).bind fun y3 => (mastref2_Follow.l0 k y3.fKind y3.fBool y3.fInt y3.fText y3.fItems y3.fKeys x4_0 x4_1 x4_2 x4_3 x4_4 x4_5 x9 x10 (wadd .i64 x11 1)))))) else (some ((T_api_Value.mk x2_0 x2_1 x2_2 x2_3 x2_4 x2_5), true)))
def mastref2_Follow.f (k : Nat) (a0 : T_api_Value) (a1 : (List ByteArray)) : Option (T_api_Value × Bool) := (mastref2_Follow.l0 k a0.fKind a0.fBool a0.fInt a0.fText a0.fItems a0.fKeys 0 false 0 c_empty [] [] a1 (llen a1) 0)
def mastref2_Follow.O (k : Nat) : Oracle sg := fun n => lkp n [(160, mastref2_Step.e k)]
def mastref2_Follow.a : Ann := (.n .z (.n (.n .z (.lp 0 .z)) .z))
def mastref2_Follow.L (k : Nat) : Nat → St sg.U → Option (RT sg.U [(.st 0), .bool]) := labs [(0, labOf sg [(2, (.box [.d (.int .i64), .d .bool, .d (.int .i64), .d .str, .d (.sl (.st 0)), .d (.sl .str)])), (4, (.box [.d (.int .i64), .d .bool, .d (.int .i64), .d .str, .row 25 (.st 0), .row 9 .str])), (9, (.d (.sl .str))), (10, (.d (.int .i64))), (11, (.d (.int .i64)))] (fun h => mastref2_Follow.l0 k h.1 h.2.1 h.2.2.1 h.2.2.2.1 h.2.2.2.2.1 h.2.2.2.2.2.1 h.2.2.2.2.2.2.1 h.2.2.2.2.2.2.2.1 h.2.2.2.2.2.2.2.2.1 h.2.2.2.2.2.2.2.2.2.1 h.2.2.2.2.2.2.2.2.2.2.1 h.2.2.2.2.2.2.2.2.2.2.2.1 h.2.2.2.2.2.2.2.2.2.2.2.2.1 h.2.2.2.2.2.2.2.2.2.2.2.2.2.1 h.2.2.2.2.2.2.2.2.2.2.2.2.2.2.1))]
theorem mastref2_Follow.l0_eq (k : Nat) (x2_0 : Int) (x2_1 : Bool) (x2_2 : Int) (x2_3 : ByteArray) (x2_4 : (List T_api_Value)) (x2_5 : (List ByteArray)) (x4_0 : Int) (x4_1 : Bool) (x4_2 : Int) (x4_3 : ByteArray) (x4_4 : (List T_api_Value)) (x4_5 : (List ByteArray)) (x9 : (List ByteArray)) (x10 : Int) (x11 : Int) : mastref2_Follow.l0 (k + 1) x2_0 x2_1 x2_2 x2_3 x2_4 x2_5 x4_0 x4_1 x4_2 x4_3 x4_4 x4_5 x9 x10 x11 = runFrom (C := ctx) (mastref2_Follow.O k) ⟨28, [], []⟩ (mastref2_Follow.L k) (Tryz.f82.body.getD .skip) mastref2_Follow.a 0 (endK ctx [(.st 0), .bool] [(.cell 4 25), (.tmp 5)]) (encD [(2, (.box [.d (.int .i64), .d .bool, .d (.int .i64), .d .str, .d (.sl (.st 0)), .d (.sl .str)])), (4, (.box [.d (.int .i64), .d .bool, .d (.int .i64), .d .str, .row 25 (.st 0), .row 9 .str])), (9, (.d (.sl .str))), (10, (.d (.int .i64))), (11, (.d (.int .i64)))] (x2_0, x2_1, x2_2, x2_3, x2_4, x2_5, x4_0, x4_1, x4_2, x4_3, x4_4, x4_5, x9, x10, x11, ()) (startD sg.U ⟨28, [], []⟩ [(2, (.box [.d (.int .i64), .d .bool, .d (.int .i64), .d .str, .d (.sl (.st 0)), .d (.sl .str)])), (4, (.box [.d (.int .i64), .d .bool, .d (.int .i64), .d .str, .row 25 (.st 0), .row 9 .str])), (9, (.d (.sl .str))), (10, (.d (.int .i64))), (11, (.d (.int .i64)))])) := by
  rw [mastref2_Follow.l0]
  kernel_rfl
theorem mastref2_Follow.f_eq (k : Nat) (a0 : T_api_Value) (a1 : (List ByteArray)) : mastref2_Follow.f k a0 a1 = codeK (C := ctx) (mastref2_Follow.O k) ⟨28, [], []⟩ (mastref2_Follow.L k) (Tryz.f82.body.getD .skip) mastref2_Follow.a (endK ctx [(.st 0), .bool] [(.cell 4 25), (.tmp 5)]) (slotsOf sg.U 0 [(.d (.st 0)), (.d (.sl .str))] (a0, a1, ()) (empty sg.U)) := by
  unfold mastref2_Follow.f
  kernel_rfl
def mastref2_Follow.e (k : Nat) : Entry sg := entryOf sg [(.d (.st 0)), (.d (.sl .str))] [(.st 0), .bool] (fun h => mastref2_Follow.f k h.1 h.2.1)
def mastref2_Follow.T : List (Lb sg (RT sg.U [(.st 0), .bool])) := [⟨0, [(2, (.box [.d (.int .i64), .d .bool, .d (.int .i64), .d .str, .d (.sl (.st 0)), .d (.sl .str)])), (4, (.box [.d (.int .i64), .d .bool, .d (.int .i64), .d .str, .row 25 (.st 0), .row 9 .str])), (9, (.d (.sl .str))), (10, (.d (.int .i64))), (11, (.d (.int .i64)))], fun k h => mastref2_Follow.l0 k h.1 h.2.1 h.2.2.1 h.2.2.2.1 h.2.2.2.2.1 h.2.2.2.2.2.1 h.2.2.2.2.2.2.1 h.2.2.2.2.2.2.2.1 h.2.2.2.2.2.2.2.2.1 h.2.2.2.2.2.2.2.2.2.1 h.2.2.2.2.2.2.2.2.2.2.1 h.2.2.2.2.2.2.2.2.2.2.2.1 h.2.2.2.2.2.2.2.2.2.2.2.2.1 h.2.2.2.2.2.2.2.2.2.2.2.2.2.1 h.2.2.2.2.2.2.2.2.2.2.2.2.2.2.1⟩]
theorem mastref2_Follow.ok (k : Nat) : (mastref2_Follow.e k).Sound Tryz.prog ctx 82 :=
  entry_ok base_ok mo (fn := Tryz.f82) (b := (Tryz.f82.body.getD .skip)) (pm := [(.d (.st 0)), (.d (.sl .str))]) (rs := [(.st 0), .bool]) (an := mastref2_Follow.a) (N := 28) (vars := [(.cell 4 25), (.tmp 5)]) Tryz.func82 (by kernel_rfl) (by kernel_rfl) (by kernel_rfl) (by kernel_rfl) (by kernel_rfl) (by kernel_rfl) (O := mastref2_Follow.O)
    (fun k => by unfold mastref2_Follow.O; exact oracle_of (P := Tryz.prog) (C := ctx) ⟨(mastref2_Step.ok k), trivial⟩) mastref2_Follow.T ⟨⟨by kernel_rfl, fun _ => by first | rfl | rw [mastref2_Follow.l0], fun k h => mastref2_Follow.l0_eq k h.1 h.2.1 h.2.2.1 h.2.2.2.1 h.2.2.2.2.1 h.2.2.2.2.2.1 h.2.2.2.2.2.2.1 h.2.2.2.2.2.2.2.1 h.2.2.2.2.2.2.2.2.1 h.2.2.2.2.2.2.2.2.2.1 h.2.2.2.2.2.2.2.2.2.2.1 h.2.2.2.2.2.2.2.2.2.2.2.1 h.2.2.2.2.2.2.2.2.2.2.2.2.1 h.2.2.2.2.2.2.2.2.2.2.2.2.2.1 h.2.2.2.2.2.2.2.2.2.2.2.2.2.2.1⟩, trivial⟩ k (fun h => mastref2_Follow.f_eq k h.1 h.2.1)
def mastref2_GetOf.f (k : Nat) (a0 : T_api_Value) (a1 : ByteArray) : Option (T_api_Value × Int) := ((mastref2_ConfCheck.f k (T_api_Value.mk a0.fKind a0.fBool a0.fInt a0.fText a0.fItems a0.fKeys)).bind fun y1 => (bif (!ieq y1 0) then (some ((T_api_Value.mk 0 false 0 c_empty [] []), y1)) else ((mastref2_RouteParts.f k a1 false).bind fun y2 => (bif (!y2.2) then (some ((T_api_Value.mk 0 false 0 c_empty [] []), 3)) else ((mastref2_Follow.f k (T_api_Value.mk a0.fKind a0.fBool a0.fInt a0.fText a0.fItems a0.fKeys) y2.1).bind fun y3 => (bif (!y3.2) then (some ((T_api_Value.mk 0 false 0 c_empty [] []), 7)) else (some ((T_api_Value.mk y3.1.fKind y3.1.fBool y3.1.fInt y3.1.fText y3.1.fItems y3.1.fKeys), 0))))))))
def mastref2_GetOf.O (k : Nat) : Oracle sg := fun n => lkp n [(34, mastref2_ConfCheck.e k), (81, mastref2_RouteParts.e k), (82, mastref2_Follow.e k)]
def mastref2_GetOf.a : Ann := .z
def mastref2_GetOf.L (k : Nat) : Nat → St sg.U → Option (RT sg.U [(.st 0), (.int .i64)]) := labs []
theorem mastref2_GetOf.f_eq (k : Nat) (a0 : T_api_Value) (a1 : ByteArray) : mastref2_GetOf.f k a0 a1 = codeK (C := ctx) (mastref2_GetOf.O k) ⟨35, [], []⟩ (mastref2_GetOf.L k) (Tryz.f28.body.getD .skip) mastref2_GetOf.a (endK ctx [(.st 0), (.int .i64)] [(.cell 4 25), (.tmp 5)]) (slotsOf sg.U 0 [(.d (.st 0)), (.d .str)] (a0, a1, ()) (empty sg.U)) := by
  unfold mastref2_GetOf.f
  kernel_rfl
def mastref2_GetOf.e (k : Nat) : Entry sg := entryOf sg [(.d (.st 0)), (.d .str)] [(.st 0), (.int .i64)] (fun h => mastref2_GetOf.f k h.1 h.2.1)
def mastref2_GetOf.T : List (Lb sg (RT sg.U [(.st 0), (.int .i64)])) := []
theorem mastref2_GetOf.ok (k : Nat) : (mastref2_GetOf.e k).Sound Tryz.prog ctx 28 :=
  entry_ok base_ok mo (fn := Tryz.f28) (b := (Tryz.f28.body.getD .skip)) (pm := [(.d (.st 0)), (.d .str)]) (rs := [(.st 0), (.int .i64)]) (an := mastref2_GetOf.a) (N := 35) (vars := [(.cell 4 25), (.tmp 5)]) Tryz.func28 (by kernel_rfl) (by kernel_rfl) (by kernel_rfl) (by kernel_rfl) (by kernel_rfl) (by kernel_rfl) (O := mastref2_GetOf.O)
    (fun k => by unfold mastref2_GetOf.O; exact oracle_of (P := Tryz.prog) (C := ctx) ⟨(mastref2_ConfCheck.ok k), ⟨(mastref2_RouteParts.ok k), ⟨(mastref2_Follow.ok k), trivial⟩⟩⟩) mastref2_GetOf.T trivial k (fun h => mastref2_GetOf.f_eq k h.1 h.2.1)
def cmp_isNaN_int.f (a0 : Int) : Option (Bool) := (some (!ieq a0 a0))
def cmp_isNaN_int.O : Oracle sg := fun n => lkp n []
def cmp_isNaN_int.a : Ann := .z
def cmp_isNaN_int.L : Nat → St sg.U → Option (RT sg.U [.bool]) := labs []
theorem cmp_isNaN_int.f_eq (a0 : Int) : cmp_isNaN_int.f a0 = codeK (C := ctx) (cmp_isNaN_int.O) ⟨6, [], []⟩ (cmp_isNaN_int.L) (Tryz.f180.body.getD .skip) cmp_isNaN_int.a (endK ctx [.bool] [(.tmp 2)]) (slotsOf sg.U 0 [(.d (.int .i64))] (a0, ()) (empty sg.U)) := by
  unfold cmp_isNaN_int.f
  kernel_rfl
def cmp_isNaN_int.e : Entry sg := entryOf sg [(.d (.int .i64))] [.bool] (fun h => cmp_isNaN_int.f h.1)
def cmp_isNaN_int.T : List (Lb sg (RT sg.U [.bool])) := []
theorem cmp_isNaN_int.ok : (cmp_isNaN_int.e).Sound Tryz.prog ctx 180 :=
  entry_ok base_ok mo (fn := Tryz.f180) (b := (Tryz.f180.body.getD .skip)) (pm := [(.d (.int .i64))]) (rs := [.bool]) (an := cmp_isNaN_int.a) (N := 6) (vars := [(.tmp 2)]) Tryz.func180 (by kernel_rfl) (by kernel_rfl) (by kernel_rfl) (by kernel_rfl) (by kernel_rfl) (by kernel_rfl) (O := fun _ => cmp_isNaN_int.O)
    (fun _ => by unfold cmp_isNaN_int.O; exact oracle_of (P := Tryz.prog) (C := ctx) trivial) cmp_isNaN_int.T trivial 0 (fun h => cmp_isNaN_int.f_eq h.1)
def cmp_Compare_int.f (a0 : Int) (a1 : Int) : Option (Int) := ((cmp_isNaN_int.f a0).bind fun y1 => ((cmp_isNaN_int.f a1).bind fun y2 => (bif y1 then (bif y2 then (some 0) else (some (-1))) else (bif y2 then (some 1) else (bif (ilt a0 a1) then (some (-1)) else (bif (ilt a1 a0) then (some 1) else (some 0)))))))
def cmp_Compare_int.O : Oracle sg := fun n => lkp n [(180, cmp_isNaN_int.e)]
def cmp_Compare_int.a : Ann := .z
def cmp_Compare_int.L : Nat → St sg.U → Option (RT sg.U [(.int .i64)]) := labs []
theorem cmp_Compare_int.f_eq (a0 : Int) (a1 : Int) : cmp_Compare_int.f a0 a1 = codeK (C := ctx) (cmp_Compare_int.O) ⟨20, [], []⟩ (cmp_Compare_int.L) (Tryz.f128.body.getD .skip) cmp_Compare_int.a (endK ctx [(.int .i64)] [(.tmp 4)]) (slotsOf sg.U 0 [(.d (.int .i64)), (.d (.int .i64))] (a0, a1, ()) (empty sg.U)) := by
  unfold cmp_Compare_int.f
  kernel_rfl
def cmp_Compare_int.e : Entry sg := entryOf sg [(.d (.int .i64)), (.d (.int .i64))] [(.int .i64)] (fun h => cmp_Compare_int.f h.1 h.2.1)
def cmp_Compare_int.T : List (Lb sg (RT sg.U [(.int .i64)])) := []
theorem cmp_Compare_int.ok : (cmp_Compare_int.e).Sound Tryz.prog ctx 128 :=
  entry_ok base_ok mo (fn := Tryz.f128) (b := (Tryz.f128.body.getD .skip)) (pm := [(.d (.int .i64)), (.d (.int .i64))]) (rs := [(.int .i64)]) (an := cmp_Compare_int.a) (N := 20) (vars := [(.tmp 4)]) Tryz.func128 (by kernel_rfl) (by kernel_rfl) (by kernel_rfl) (by kernel_rfl) (by kernel_rfl) (by kernel_rfl) (O := fun _ => cmp_Compare_int.O)
    (fun _ => by unfold cmp_Compare_int.O; exact oracle_of (P := Tryz.prog) (C := ctx) ⟨(cmp_isNaN_int.ok), trivial⟩) cmp_Compare_int.T trivial 0 (fun h => cmp_Compare_int.f_eq h.1 h.2.1)
def strings_Compare.f (a0 : ByteArray) (a1 : ByteArray) : Option (Int) := some (Lib.compareBytes a0.data.toList a1.data.toList)
def strings_Compare.e : Entry sg := entryOf sg [(.d .str), (.d .str)] [(.int .i64)] (fun h => strings_Compare.f h.1 h.2.1)
theorem strings_Compare.ok : (strings_Compare.e).Sound Tryz.prog ctx 130 :=
  entry_extern (C := ctx) sg_ok Tryz.func130 (by kernel_rfl) (by kernel_rfl) (by kernel_rfl) (by kernel_rfl) (fun hh x w hx hG => by
    obtain rfl := Option.some.inj hx
    refine (Tryz.strings_Compare hh.1 hh.2.1 w).mono ?_
    rintro e w' ⟨rfl, hb⟩
    exact ⟨rfl, by first | exact hb ▸ Grow.refl _ | exact Grow.of_below hb | (obtain ⟨k, os, rfl⟩ := hb; exact Grow.of_below (Lib.below_grow _ w (Nat.le_refl _) k os))⟩)
def cmp_isNaN_string.f (a0 : ByteArray) : Option (Bool) := (some (!seq a0 a0))
def cmp_isNaN_string.O : Oracle sg := fun n => lkp n []
def cmp_isNaN_string.a : Ann := .z
def cmp_isNaN_string.L : Nat → St sg.U → Option (RT sg.U [.bool]) := labs []
theorem cmp_isNaN_string.f_eq (a0 : ByteArray) : cmp_isNaN_string.f a0 = codeK (C := ctx) (cmp_isNaN_string.O) ⟨6, [], []⟩ (cmp_isNaN_string.L) (Tryz.f238.body.getD .skip) cmp_isNaN_string.a (endK ctx [.bool] [(.tmp 2)]) (slotsOf sg.U 0 [(.d .str)] (a0, ()) (empty sg.U)) := by
  unfold cmp_isNaN_string.f
  kernel_rfl
def cmp_isNaN_string.e : Entry sg := entryOf sg [(.d .str)] [.bool] (fun h => cmp_isNaN_string.f h.1)
def cmp_isNaN_string.T : List (Lb sg (RT sg.U [.bool])) := []
theorem cmp_isNaN_string.ok : (cmp_isNaN_string.e).Sound Tryz.prog ctx 238 :=
  entry_ok base_ok mo (fn := Tryz.f238) (b := (Tryz.f238.body.getD .skip)) (pm := [(.d .str)]) (rs := [.bool]) (an := cmp_isNaN_string.a) (N := 6) (vars := [(.tmp 2)]) Tryz.func238 (by kernel_rfl) (by kernel_rfl) (by kernel_rfl) (by kernel_rfl) (by kernel_rfl) (by kernel_rfl) (O := fun _ => cmp_isNaN_string.O)
    (fun _ => by unfold cmp_isNaN_string.O; exact oracle_of (P := Tryz.prog) (C := ctx) trivial) cmp_isNaN_string.T trivial 0 (fun h => cmp_isNaN_string.f_eq h.1)
def cmp_Compare_string.f (a0 : ByteArray) (a1 : ByteArray) : Option (Int) := ((cmp_isNaN_string.f a0).bind fun y1 => ((cmp_isNaN_string.f a1).bind fun y2 => (bif y1 then (bif y2 then (some 0) else (some (-1))) else (bif y2 then (some 1) else (bif (slt a0 a1) then (some (-1)) else (bif (!sle a0 a1) then (some 1) else (some 0)))))))
def cmp_Compare_string.O : Oracle sg := fun n => lkp n [(238, cmp_isNaN_string.e)]
def cmp_Compare_string.a : Ann := .z
def cmp_Compare_string.L : Nat → St sg.U → Option (RT sg.U [(.int .i64)]) := labs []
theorem cmp_Compare_string.f_eq (a0 : ByteArray) (a1 : ByteArray) : cmp_Compare_string.f a0 a1 = codeK (C := ctx) (cmp_Compare_string.O) ⟨20, [], []⟩ (cmp_Compare_string.L) (Tryz.f208.body.getD .skip) cmp_Compare_string.a (endK ctx [(.int .i64)] [(.tmp 4)]) (slotsOf sg.U 0 [(.d .str), (.d .str)] (a0, a1, ()) (empty sg.U)) := by
  unfold cmp_Compare_string.f
  kernel_rfl
def cmp_Compare_string.e : Entry sg := entryOf sg [(.d .str), (.d .str)] [(.int .i64)] (fun h => cmp_Compare_string.f h.1 h.2.1)
def cmp_Compare_string.T : List (Lb sg (RT sg.U [(.int .i64)])) := []
theorem cmp_Compare_string.ok : (cmp_Compare_string.e).Sound Tryz.prog ctx 208 :=
  entry_ok base_ok mo (fn := Tryz.f208) (b := (Tryz.f208.body.getD .skip)) (pm := [(.d .str), (.d .str)]) (rs := [(.int .i64)]) (an := cmp_Compare_string.a) (N := 20) (vars := [(.tmp 4)]) Tryz.func208 (by kernel_rfl) (by kernel_rfl) (by kernel_rfl) (by kernel_rfl) (by kernel_rfl) (by kernel_rfl) (O := fun _ => cmp_Compare_string.O)
    (fun _ => by unfold cmp_Compare_string.O; exact oracle_of (P := Tryz.prog) (C := ctx) ⟨(cmp_isNaN_string.ok), trivial⟩) cmp_Compare_string.T trivial 0 (fun h => cmp_Compare_string.f_eq h.1 h.2.1)
def slices_Compare_string_string.l0 : Nat → (List ByteArray) → (List ByteArray) → (List ByteArray) → Int → Int → Option (Int)
  | 0, _, _, _, _, _ => none
  | k + 1, x0, x1, x9, x10, x11 => (bif (ilt x11 x10) then ((lat x9 x11).bind fun y1 => (bif (ile (llen x1) x11) then (some 1) else ((lat x1 x11).bind fun y2 => ((cmp_Compare_string.f y1 y2).bind fun y3 => (bif (!ieq y3 0) then (some y3) else (slices_Compare_string_string.l0 k x0 x1 x9 x10 (wadd .i64 x11 1))))))) else (bif (ilt (llen x0) (llen x1)) then (some (-1)) else (some 0)))
def slices_Compare_string_string.f (k : Nat) (a0 : (List ByteArray)) (a1 : (List ByteArray)) : Option (Int) := (slices_Compare_string_string.l0 k a0 a1 a0 (llen a0) 0)
def slices_Compare_string_string.O (k : Nat) : Oracle sg := fun n => lkp n [(208, cmp_Compare_string.e)]
def slices_Compare_string_string.a : Ann := (.n .z (.n (.n .z (.lp 0 .z)) .z))
def slices_Compare_string_string.L (k : Nat) : Nat → St sg.U → Option (RT sg.U [(.int .i64)]) := labs [(0, labOf sg [(0, (.d (.sl .str))), (1, (.d (.sl .str))), (9, (.d (.sl .str))), (10, (.d (.int .i64))), (11, (.d (.int .i64)))] (fun h => slices_Compare_string_string.l0 k h.1 h.2.1 h.2.2.1 h.2.2.2.1 h.2.2.2.2.1))]
theorem slices_Compare_string_string.l0_eq (k : Nat) (x0 : (List ByteArray)) (x1 : (List ByteArray)) (x9 : (List ByteArray)) (x10 : Int) (x11 : Int) : slices_Compare_string_string.l0 (k + 1) x0 x1 x9 x10 x11 = runFrom (C := ctx) (slices_Compare_string_string.O k) ⟨36, [], []⟩ (slices_Compare_string_string.L k) (Tryz.f161.body.getD .skip) slices_Compare_string_string.a 0 (endK ctx [(.int .i64)] [(.tmp 4)]) (encD [(0, (.d (.sl .str))), (1, (.d (.sl .str))), (9, (.d (.sl .str))), (10, (.d (.int .i64))), (11, (.d (.int .i64)))] (x0, x1, x9, x10, x11, ()) (startD sg.U ⟨36, [], []⟩ [(0, (.d (.sl .str))), (1, (.d (.sl .str))), (9, (.d (.sl .str))), (10, (.d (.int .i64))), (11, (.d (.int .i64)))])) := by
  rw [slices_Compare_string_string.l0]
  kernel_rfl
theorem slices_Compare_string_string.f_eq (k : Nat) (a0 : (List ByteArray)) (a1 : (List ByteArray)) : slices_Compare_string_string.f k a0 a1 = codeK (C := ctx) (slices_Compare_string_string.O k) ⟨36, [], []⟩ (slices_Compare_string_string.L k) (Tryz.f161.body.getD .skip) slices_Compare_string_string.a (endK ctx [(.int .i64)] [(.tmp 4)]) (slotsOf sg.U 0 [(.d (.sl .str)), (.d (.sl .str))] (a0, a1, ()) (empty sg.U)) := by
  unfold slices_Compare_string_string.f
  kernel_rfl
def slices_Compare_string_string.e (k : Nat) : Entry sg := entryOf sg [(.d (.sl .str)), (.d (.sl .str))] [(.int .i64)] (fun h => slices_Compare_string_string.f k h.1 h.2.1)
def slices_Compare_string_string.T : List (Lb sg (RT sg.U [(.int .i64)])) := [⟨0, [(0, (.d (.sl .str))), (1, (.d (.sl .str))), (9, (.d (.sl .str))), (10, (.d (.int .i64))), (11, (.d (.int .i64)))], fun k h => slices_Compare_string_string.l0 k h.1 h.2.1 h.2.2.1 h.2.2.2.1 h.2.2.2.2.1⟩]
theorem slices_Compare_string_string.ok (k : Nat) : (slices_Compare_string_string.e k).Sound Tryz.prog ctx 161 :=
  entry_ok base_ok mo (fn := Tryz.f161) (b := (Tryz.f161.body.getD .skip)) (pm := [(.d (.sl .str)), (.d (.sl .str))]) (rs := [(.int .i64)]) (an := slices_Compare_string_string.a) (N := 36) (vars := [(.tmp 4)]) Tryz.func161 (by kernel_rfl) (by kernel_rfl) (by kernel_rfl) (by kernel_rfl) (by kernel_rfl) (by kernel_rfl) (O := slices_Compare_string_string.O)
    (fun k => by unfold slices_Compare_string_string.O; exact oracle_of (P := Tryz.prog) (C := ctx) ⟨(cmp_Compare_string.ok), trivial⟩) slices_Compare_string_string.T ⟨⟨by kernel_rfl, fun _ => by first | rfl | rw [slices_Compare_string_string.l0], fun k h => slices_Compare_string_string.l0_eq k h.1 h.2.1 h.2.2.1 h.2.2.2.1 h.2.2.2.2.1⟩, trivial⟩ k (fun h => slices_Compare_string_string.f_eq k h.1 h.2.1)
def cmp_Or_int.l0 : Nat → Int → (List Int) → Int → Int → Option (Int)
  | 0, _, _, _, _ => none
  | k + 1, x3, x6, x7, x8 => (bif (ilt x8 x7) then ((lat x6 x8).bind fun y1 => (bif (!ieq y1 x3) then (some y1) else (cmp_Or_int.l0 k x3 x6 x7 (wadd .i64 x8 1)))) else (some x3))
def cmp_Or_int.f (k : Nat) (a0 : (List Int)) : Option (Int) := (cmp_Or_int.l0 k 0 a0 (llen a0) 0)
def cmp_Or_int.O (k : Nat) : Oracle sg := fun n => lkp n []
def cmp_Or_int.a : Ann := (.n .z (.n .z (.n (.n .z (.lp 0 .z)) .z)))
def cmp_Or_int.L (k : Nat) : Nat → St sg.U → Option (RT sg.U [(.int .i64)]) := labs [(0, labOf sg [(3, (.d (.int .i64))), (6, (.d (.sl (.int .i64)))), (7, (.d (.int .i64))), (8, (.d (.int .i64)))] (fun h => cmp_Or_int.l0 k h.1 h.2.1 h.2.2.1 h.2.2.2.1))]
theorem cmp_Or_int.l0_eq (k : Nat) (x3 : Int) (x6 : (List Int)) (x7 : Int) (x8 : Int) : cmp_Or_int.l0 (k + 1) x3 x6 x7 x8 = runFrom (C := ctx) (cmp_Or_int.O k) ⟨18, [], []⟩ (cmp_Or_int.L k) (Tryz.f127.body.getD .skip) cmp_Or_int.a 0 (endK ctx [(.int .i64)] [(.tmp 2)]) (encD [(3, (.d (.int .i64))), (6, (.d (.sl (.int .i64)))), (7, (.d (.int .i64))), (8, (.d (.int .i64)))] (x3, x6, x7, x8, ()) (startD sg.U ⟨18, [], []⟩ [(3, (.d (.int .i64))), (6, (.d (.sl (.int .i64)))), (7, (.d (.int .i64))), (8, (.d (.int .i64)))])) := by
  rw [cmp_Or_int.l0]
  kernel_rfl
theorem cmp_Or_int.f_eq (k : Nat) (a0 : (List Int)) : cmp_Or_int.f k a0 = codeK (C := ctx) (cmp_Or_int.O k) ⟨18, [], []⟩ (cmp_Or_int.L k) (Tryz.f127.body.getD .skip) cmp_Or_int.a (endK ctx [(.int .i64)] [(.tmp 2)]) (slotsOf sg.U 0 [(.d (.sl (.int .i64)))] (a0, ()) (empty sg.U)) := by
  unfold cmp_Or_int.f
  kernel_rfl
def cmp_Or_int.e (k : Nat) : Entry sg := entryOf sg [(.d (.sl (.int .i64)))] [(.int .i64)] (fun h => cmp_Or_int.f k h.1)
def cmp_Or_int.T : List (Lb sg (RT sg.U [(.int .i64)])) := [⟨0, [(3, (.d (.int .i64))), (6, (.d (.sl (.int .i64)))), (7, (.d (.int .i64))), (8, (.d (.int .i64)))], fun k h => cmp_Or_int.l0 k h.1 h.2.1 h.2.2.1 h.2.2.2.1⟩]
theorem cmp_Or_int.ok (k : Nat) : (cmp_Or_int.e k).Sound Tryz.prog ctx 127 :=
  entry_ok base_ok mo (fn := Tryz.f127) (b := (Tryz.f127.body.getD .skip)) (pm := [(.d (.sl (.int .i64)))]) (rs := [(.int .i64)]) (an := cmp_Or_int.a) (N := 18) (vars := [(.tmp 2)]) Tryz.func127 (by kernel_rfl) (by kernel_rfl) (by kernel_rfl) (by kernel_rfl) (by kernel_rfl) (by kernel_rfl) (O := cmp_Or_int.O)
    (fun k => by unfold cmp_Or_int.O; exact oracle_of (P := Tryz.prog) (C := ctx) trivial) cmp_Or_int.T ⟨⟨by kernel_rfl, fun _ => by first | rfl | rw [cmp_Or_int.l0], fun k h => cmp_Or_int.l0_eq k h.1 h.2.1 h.2.2.1 h.2.2.2.1⟩, trivial⟩ k (fun h => cmp_Or_int.f_eq k h.1)
mutual
def mastref2_CompareOf.l0 : Nat → Int → Bool → Int → ByteArray → (List T_api_Value) → (List ByteArray) → Int → Bool → Int → ByteArray → (List T_api_Value) → (List ByteArray) → Int → Option (Int)
  | 0, _, _, _, _, _, _, _, _, _, _, _, _, _ => none
  | k + 1, x2_0, x2_1, x2_2, x2_3, x2_4, x2_5, x3_0, x3_1, x3_2, x3_3, x3_4, x3_5, x7 => (bif (bif (ilt x7 (llen x2_4)) then (ilt x7 (llen x3_4)) else false) then ((lat x2_4 x7).bind fun y6 => ((lat x3_4 x7).bind fun y7 => ((mastref2_CompareOf.f k y6 y7).bind fun y8 => (bif (!ieq y8 0) then (some y8) else (mastref2_CompareOf.l0 k x2_0 x2_1 x2_2 x2_3 x2_4 x2_5 x3_0 x3_1 x3_2 x3_3 x3_4 x3_5 (wadd .i64 x7 1)))))) else ((cmp_Compare_int.f (llen x2_4) (llen x3_4)).bind fun y9 => (some y9)))
def mastref2_CompareOf.f : Nat → T_api_Value → T_api_Value → Option (Int)
  | 0, _, _ => none
  | k + 1, a0, a1 => ((cmp_Compare_int.f a0.fKind a1.fKind).bind fun y1 => (bif (!ieq y1 0) then (some y1) else (bif (!(a0.fBool == a1.fBool)) then (bif a1.fBool then (some (-1)) else (some 1)) else ((cmp_Compare_int.f a0.fInt a1.fInt).bind fun y2 => ((strings_Compare.f a0.fText a1.fText).bind fun y3 => ((slices_Compare_string_string.f k a0.fKeys a1.fKeys).bind fun y4 => ((cmp_Or_int.f k [y2, y3, y4]).bind fun y5 => (bif (!ieq y5 0) then (some y5) else (mastref2_CompareOf.l0 k a0.fKind a0.fBool a0.fInt a0.fText a0.fItems a0.fKeys a1.fKind a1.fBool a1.fInt a1.fText a1.fItems a1.fKeys 0)))))))))
end
def mastref2_CompareOf.e (k : Nat) : Entry sg := entryOf sg [(.d (.st 0)), (.d (.st 0))] [(.int .i64)] (fun h => mastref2_CompareOf.f k h.1 h.2.1)
def mastref2_CompareOf.O (k : Nat) : Oracle sg := fun n => lkp n [(83, mastref2_CompareOf.e k), (127, cmp_Or_int.e k), (128, cmp_Compare_int.e), (130, strings_Compare.e), (161, slices_Compare_string_string.e k)]
def mastref2_CompareOf.a : Ann := (.n .z (.n .z (.n .z (.n .z (.n (.n .z (.lp 0 .z)) .z)))))
def mastref2_CompareOf.L (k : Nat) : Nat → St sg.U → Option (RT sg.U [(.int .i64)]) := labs [(0, labOf sg [(2, (.box [.d (.int .i64), .d .bool, .d (.int .i64), .d .str, .d (.sl (.st 0)), .d (.sl .str)])), (3, (.box [.d (.int .i64), .d .bool, .d (.int .i64), .d .str, .d (.sl (.st 0)), .d (.sl .str)])), (7, (.d (.int .i64)))] (fun h => mastref2_CompareOf.l0 k h.1 h.2.1 h.2.2.1 h.2.2.2.1 h.2.2.2.2.1 h.2.2.2.2.2.1 h.2.2.2.2.2.2.1 h.2.2.2.2.2.2.2.1 h.2.2.2.2.2.2.2.2.1 h.2.2.2.2.2.2.2.2.2.1 h.2.2.2.2.2.2.2.2.2.2.1 h.2.2.2.2.2.2.2.2.2.2.2.1 h.2.2.2.2.2.2.2.2.2.2.2.2.1))]
theorem mastref2_CompareOf.l0_eq (k : Nat) (x2_0 : Int) (x2_1 : Bool) (x2_2 : Int) (x2_3 : ByteArray) (x2_4 : (List T_api_Value)) (x2_5 : (List ByteArray)) (x3_0 : Int) (x3_1 : Bool) (x3_2 : Int) (x3_3 : ByteArray) (x3_4 : (List T_api_Value)) (x3_5 : (List ByteArray)) (x7 : Int) : mastref2_CompareOf.l0 (k + 1) x2_0 x2_1 x2_2 x2_3 x2_4 x2_5 x3_0 x3_1 x3_2 x3_3 x3_4 x3_5 x7 = runFrom (C := ctx) (mastref2_CompareOf.O k) ⟨79, [], []⟩ (mastref2_CompareOf.L k) (Tryz.f83.body.getD .skip) mastref2_CompareOf.a 0 (endK ctx [(.int .i64)] [(.tmp 4)]) (encD [(2, (.box [.d (.int .i64), .d .bool, .d (.int .i64), .d .str, .d (.sl (.st 0)), .d (.sl .str)])), (3, (.box [.d (.int .i64), .d .bool, .d (.int .i64), .d .str, .d (.sl (.st 0)), .d (.sl .str)])), (7, (.d (.int .i64)))] (x2_0, x2_1, x2_2, x2_3, x2_4, x2_5, x3_0, x3_1, x3_2, x3_3, x3_4, x3_5, x7, ()) (startD sg.U ⟨79, [], []⟩ [(2, (.box [.d (.int .i64), .d .bool, .d (.int .i64), .d .str, .d (.sl (.st 0)), .d (.sl .str)])), (3, (.box [.d (.int .i64), .d .bool, .d (.int .i64), .d .str, .d (.sl (.st 0)), .d (.sl .str)])), (7, (.d (.int .i64)))])) := by
  rw [mastref2_CompareOf.l0]
  kernel_rfl
theorem mastref2_CompareOf.f_eq (k : Nat) (a0 : T_api_Value) (a1 : T_api_Value) : mastref2_CompareOf.f (k + 1) a0 a1 = codeK (C := ctx) (mastref2_CompareOf.O k) ⟨79, [], []⟩ (mastref2_CompareOf.L k) (Tryz.f83.body.getD .skip) mastref2_CompareOf.a (endK ctx [(.int .i64)] [(.tmp 4)]) (slotsOf sg.U 0 [(.d (.st 0)), (.d (.st 0))] (a0, a1, ()) (empty sg.U)) := by
  rw [mastref2_CompareOf.f]
  kernel_rfl
def mastref2_CompareOf.T : List (Lb sg (RT sg.U [(.int .i64)])) := [⟨0, [(2, (.box [.d (.int .i64), .d .bool, .d (.int .i64), .d .str, .d (.sl (.st 0)), .d (.sl .str)])), (3, (.box [.d (.int .i64), .d .bool, .d (.int .i64), .d .str, .d (.sl (.st 0)), .d (.sl .str)])), (7, (.d (.int .i64)))], fun k h => mastref2_CompareOf.l0 k h.1 h.2.1 h.2.2.1 h.2.2.2.1 h.2.2.2.2.1 h.2.2.2.2.2.1 h.2.2.2.2.2.2.1 h.2.2.2.2.2.2.2.1 h.2.2.2.2.2.2.2.2.1 h.2.2.2.2.2.2.2.2.2.1 h.2.2.2.2.2.2.2.2.2.2.1 h.2.2.2.2.2.2.2.2.2.2.2.1 h.2.2.2.2.2.2.2.2.2.2.2.2.1⟩]
theorem mastref2_CompareOf.ok : ∀ k : Nat, (mastref2_CompareOf.e k).Sound Tryz.prog ctx 83 :=
  entry_rec base_ok mo (fn := Tryz.f83) (b := (Tryz.f83.body.getD .skip)) (pm := [(.d (.st 0)), (.d (.st 0))]) (rs := [(.int .i64)]) (an := mastref2_CompareOf.a) (N := 79) (vars := [(.tmp 4)]) Tryz.func83 (by kernel_rfl) (by kernel_rfl) (by kernel_rfl) (by kernel_rfl) (by kernel_rfl) (by kernel_rfl) (O := mastref2_CompareOf.O) mastref2_CompareOf.T ⟨⟨by kernel_rfl, fun _ => by first | rfl | rw [mastref2_CompareOf.l0], fun k h => mastref2_CompareOf.l0_eq k h.1 h.2.1 h.2.2.1 h.2.2.2.1 h.2.2.2.2.1 h.2.2.2.2.2.1 h.2.2.2.2.2.2.1 h.2.2.2.2.2.2.2.1 h.2.2.2.2.2.2.2.2.1 h.2.2.2.2.2.2.2.2.2.1 h.2.2.2.2.2.2.2.2.2.2.1 h.2.2.2.2.2.2.2.2.2.2.2.1 h.2.2.2.2.2.2.2.2.2.2.2.2.1⟩, trivial⟩ (F := fun k h => mastref2_CompareOf.f k h.1 h.2.1) (fun _ => by first | rfl | rw [mastref2_CompareOf.f]) (fun k h => mastref2_CompareOf.f_eq k h.1 h.2.1)
    (fun k own => by unfold mastref2_CompareOf.O; exact oracle_of (P := Tryz.prog) (C := ctx) ⟨own, ⟨(cmp_Or_int.ok k), ⟨(cmp_Compare_int.ok), ⟨(strings_Compare.ok), ⟨(slices_Compare_string_string.ok k), trivial⟩⟩⟩⟩⟩)
def mastref2_SameOf.f (k : Nat) (a0 : T_api_Value) (a1 : T_api_Value) : Option (Bool) := ((mastref2_CompareOf.f k (T_api_Value.mk a0.fKind a0.fBool a0.fInt a0.fText a0.fItems a0.fKeys) (T_api_Value.mk a1.fKind a1.fBool a1.fInt a1.fText a1.fItems a1.fKeys)).bind fun y1 => (some (ieq y1 0)))
def mastref2_SameOf.O (k : Nat) : Oracle sg := fun n => lkp n [(83, mastref2_CompareOf.e k)]
def mastref2_SameOf.a : Ann := .z
def mastref2_SameOf.L (k : Nat) : Nat → St sg.U → Option (RT sg.U [.bool]) := labs []
theorem mastref2_SameOf.f_eq (k : Nat) (a0 : T_api_Value) (a1 : T_api_Value) : mastref2_SameOf.f k a0 a1 = codeK (C := ctx) (mastref2_SameOf.O k) ⟨9, [], []⟩ (mastref2_SameOf.L k) (Tryz.f29.body.getD .skip) mastref2_SameOf.a (endK ctx [.bool] [(.tmp 4)]) (slotsOf sg.U 0 [(.d (.st 0)), (.d (.st 0))] (a0, a1, ()) (empty sg.U)) := by
  unfold mastref2_SameOf.f
  kernel_rfl
def mastref2_SameOf.e (k : Nat) : Entry sg := entryOf sg [(.d (.st 0)), (.d (.st 0))] [.bool] (fun h => mastref2_SameOf.f k h.1 h.2.1)
def mastref2_SameOf.T : List (Lb sg (RT sg.U [.bool])) := []
theorem mastref2_SameOf.ok (k : Nat) : (mastref2_SameOf.e k).Sound Tryz.prog ctx 29 :=
  entry_ok base_ok mo (fn := Tryz.f29) (b := (Tryz.f29.body.getD .skip)) (pm := [(.d (.st 0)), (.d (.st 0))]) (rs := [.bool]) (an := mastref2_SameOf.a) (N := 9) (vars := [(.tmp 4)]) Tryz.func29 (by kernel_rfl) (by kernel_rfl) (by kernel_rfl) (by kernel_rfl) (by kernel_rfl) (by kernel_rfl) (O := mastref2_SameOf.O)
    (fun k => by unfold mastref2_SameOf.O; exact oracle_of (P := Tryz.prog) (C := ctx) ⟨(mastref2_CompareOf.ok k), trivial⟩) mastref2_SameOf.T trivial k (fun h => mastref2_SameOf.f_eq k h.1 h.2.1)
def mastlaw2_ConfGets.f (k : Nat) (a0 : T_api_Value) (a1 : ByteArray) : Option (Bool) := ((conf_Get.f k (T_api_Value.mk a0.fKind a0.fBool a0.fInt a0.fText a0.fItems a0.fKeys) a1).bind fun y1 => ((mastref2_GetOf.f k (T_api_Value.mk a0.fKind a0.fBool a0.fInt a0.fText a0.fItems a0.fKeys) a1).bind fun y2 => (bif (ieq y1.2 y2.2) then ((mastref2_SameOf.f k (T_api_Value.mk y1.1.fKind y1.1.fBool y1.1.fInt y1.1.fText y1.1.fItems y1.1.fKeys) (T_api_Value.mk y2.1.fKind y2.1.fBool y2.1.fInt y2.1.fText y2.1.fItems y2.1.fKeys)).bind fun y3 => (some y3)) else (some false))))
def mastlaw2_ConfGets.O (k : Nat) : Oracle sg := fun n => lkp n [(27, conf_Get.e k), (28, mastref2_GetOf.e k), (29, mastref2_SameOf.e k)]
def mastlaw2_ConfGets.a : Ann := .z
def mastlaw2_ConfGets.L (k : Nat) : Nat → St sg.U → Option (RT sg.U [.bool]) := labs []
theorem mastlaw2_ConfGets.f_eq (k : Nat) (a0 : T_api_Value) (a1 : ByteArray) : mastlaw2_ConfGets.f k a0 a1 = codeK (C := ctx) (mastlaw2_ConfGets.O k) ⟨29, [], []⟩ (mastlaw2_ConfGets.L k) (Tryz.f8.body.getD .skip) mastlaw2_ConfGets.a (endK ctx [.bool] [(.tmp 4)]) (slotsOf sg.U 0 [(.d (.st 0)), (.d .str)] (a0, a1, ()) (empty sg.U)) := by
  unfold mastlaw2_ConfGets.f
  kernel_rfl
def mastlaw2_ConfGets.e (k : Nat) : Entry sg := entryOf sg [(.d (.st 0)), (.d .str)] [.bool] (fun h => mastlaw2_ConfGets.f k h.1 h.2.1)
def mastlaw2_ConfGets.T : List (Lb sg (RT sg.U [.bool])) := []
theorem mastlaw2_ConfGets.ok (k : Nat) : (mastlaw2_ConfGets.e k).Sound Tryz.prog ctx 8 :=
  entry_ok base_ok mo (fn := Tryz.f8) (b := (Tryz.f8.body.getD .skip)) (pm := [(.d (.st 0)), (.d .str)]) (rs := [.bool]) (an := mastlaw2_ConfGets.a) (N := 29) (vars := [(.tmp 4)]) Tryz.func8 (by kernel_rfl) (by kernel_rfl) (by kernel_rfl) (by kernel_rfl) (by kernel_rfl) (by kernel_rfl) (O := mastlaw2_ConfGets.O)
    (fun k => by unfold mastlaw2_ConfGets.O; exact oracle_of (P := Tryz.prog) (C := ctx) ⟨(conf_Get.ok k), ⟨(mastref2_GetOf.ok k), ⟨(mastref2_SameOf.ok k), trivial⟩⟩⟩) mastlaw2_ConfGets.T trivial k (fun h => mastlaw2_ConfGets.f_eq k h.1 h.2.1)
end Go.Proofs.YtibnepagledbjaaGreatDoor.LConfGets
