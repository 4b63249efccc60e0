/- The functions behind the law TreeHides, checked against the code; their summaries hold. Conditions: none. -/
import Derived.Test.YtdffbjbpolhliaaDoorLiftZ
import Derived.Test.YtdffbjbpolhliaaDoorProg
import Derived.Test.YtdffbjbpolhliaaDoorShelf
import Derived.Shelf.Strings.SlTrimAscii
namespace Go.Proofs.YtdffbjbpolhliaaDoor.LTreeHides
open Go Go.Proofs.YtdffbjbpolhliaaDoor.Lift
set_option maxRecDepth 100000
set_option linter.unusedVariables false
structure T_api_Value where
  fKind : Int
  fBool : Bool
  fInt : Int
  fText : ByteArray
  fItems : (List T_api_Value)
  fKeys : (List ByteArray)
  deriving Inhabited
abbrev sgU : Nat → Type
  | 0 => T_api_Value
  | _ + 1 => Unit
abbrev sgF : Nat → List Ty
  | 0 => [(.int .i64), .bool, (.int .i64), .str, (.sl (.st 0)), (.sl .str)]
  | _ + 1 => []
def sgO : (n : Nat) → sgU n → HL sgU (sgF n)
  | 0, x => (x.fKind, x.fBool, x.fInt, x.fText, x.fItems, x.fKeys, ())
  | _ + 1, _ => ()
def sgB : (n : Nat) → HL sgU (sgF n) → sgU n
  | 0, h => ⟨h.1, h.2.1, h.2.2.1, h.2.2.2.1, h.2.2.2.2.1, h.2.2.2.2.2.1⟩
  | _ + 1, _ => ()
def sg : Sg := { U := sgU, fl := sgF, out := sgO, bld := sgB }
def ctx : Ctx := { S := sg, ty := [(3, .d (.int .i64) 1 0), (4, .d .bool 1 0), (5, .d (.int .u8) 1 0), (9, .d .str 1 0), (22, .d (.sl (.st 0)) 88 25), (23, .d (.sl .str) 16 9), (25, .d (.st 0) 1 0), (30, .d (.int .i64) 1 0)], eqs := [] }
def c_empty : ByteArray := ⟨#[]⟩
def c_draft : ByteArray := ⟨#[100, 114, 97, 102, 116]⟩
def c_expire : ByteArray := ⟨#[101, 120, 112, 105, 114, 101]⟩
def c_publish : ByteArray := ⟨#[112, 117, 98, 108, 105, 115, 104]⟩
def c_date : ByteArray := ⟨#[100, 97, 116, 101]⟩
def c_abcdefghijklmnopqrst_0e2e2cf4 : ByteArray := ⟨#[97, 98, 99, 100, 101, 102, 103, 104, 105, 106, 107, 108, 109, 110, 111, 112, 113, 114, 115, 116, 117, 118, 119, 120, 121, 122, 48, 49, 50, 51, 52, 53, 54, 55, 56, 57, 45, 95]⟩
theorem sg_ok : SgOk sg :=
  ⟨fun n h => by rcases n with _ | n <;> rfl, fun n => by rcases n with _ | n <;> rfl, fun n x => by rcases n with _ | n <;> rfl, fun n => by rcases n with _ | n <;> rfl⟩
theorem base_ok : Base Tryd.prog ctx := base_of sg_ok (by kernel_rfl) (eqOk_of (by kernel_rfl))
theorem open_ok : openB Tryd.prog ctx = true := by kernel_rfl
theorem mo : Tryd.prog.follows .mixedOrders = true := by kernel_rfl
mutual
def conf_count.l0 : Nat → Int → (List T_api_Value) → Int → Int → Option (Int)
  | 0, _, _, _, _ => none
  | k + 1, x3, x7, x8, x9 => (bif (ilt x9 x8) then ((lat x7 x9).bind fun y1 => (bif (ilt 1000 x3) then (some x3) else ((conf_count.f k (T_api_Value.mk y1.fKind y1.fBool y1.fInt y1.fText y1.fItems y1.fKeys)).bind fun y2 => (conf_count.l0 k (wadd .i64 x3 y2) x7 x8 (wadd .i64 x9 1))))) else (some x3))
def conf_count.f : Nat → T_api_Value → Option (Int)
  | 0, _ => none
  | k + 1, a0 => (conf_count.l0 k 1 a0.fItems (llen a0.fItems) 0)
end
def conf_count.e (k : Nat) : Entry sg := entryOf sg [(.d (.st 0))] [(.int .i64)] (fun h => conf_count.f k h.1)
def conf_count.O (k : Nat) : Oracle sg := fun n => lkp n [(37, conf_count.e k)]
def conf_count.a : Ann := (.n .z (.n .z (.n (.n .z (.lp 0 .z)) .z)))
def conf_count.L (k : Nat) : Nat → St sg.U → Option (RT sg.U [(.int .i64)]) := labs [(0, labOf sg [(3, (.d (.int .i64))), (7, (.d (.sl (.st 0)))), (8, (.d (.int .i64))), (9, (.d (.int .i64)))] (fun h => conf_count.l0 k h.1 h.2.1 h.2.2.1 h.2.2.2.1))]
theorem conf_count.l0_eq (k : Nat) (x3 : Int) (x7 : (List T_api_Value)) (x8 : Int) (x9 : Int) : conf_count.l0 (k + 1) x3 x7 x8 x9 = runFrom (C := ctx) (conf_count.O k) ⟨21, [], []⟩ (conf_count.L k) (Tryd.f37.body.getD .skip) conf_count.a 0 (endK ctx [(.int .i64)] [(.tmp 2)]) (encD [(3, (.d (.int .i64))), (7, (.d (.sl (.st 0)))), (8, (.d (.int .i64))), (9, (.d (.int .i64)))] (x3, x7, x8, x9, ()) (startD sg.U ⟨21, [], []⟩ [(3, (.d (.int .i64))), (7, (.d (.sl (.st 0)))), (8, (.d (.int .i64))), (9, (.d (.int .i64)))])) := by
  rw [conf_count.l0]
  kernel_rfl
theorem conf_count.f_eq (k : Nat) (a0 : T_api_Value) : conf_count.f (k + 1) a0 = codeK (C := ctx) (conf_count.O k) ⟨21, [], []⟩ (conf_count.L k) (Tryd.f37.body.getD .skip) conf_count.a (endK ctx [(.int .i64)] [(.tmp 2)]) (slotsOf sg.U 0 [(.d (.st 0))] (a0, ()) (empty sg.U)) := by
  rw [conf_count.f]
  kernel_rfl
def conf_count.T : List (Lb sg (RT sg.U [(.int .i64)])) := [⟨0, [(3, (.d (.int .i64))), (7, (.d (.sl (.st 0)))), (8, (.d (.int .i64))), (9, (.d (.int .i64)))], fun k h => conf_count.l0 k h.1 h.2.1 h.2.2.1 h.2.2.2.1⟩]
theorem conf_count.ok : ∀ k : Nat, (conf_count.e k).Sound Tryd.prog ctx 37 :=
  entry_rec base_ok mo (fn := Tryd.f37) (b := (Tryd.f37.body.getD .skip)) (pm := [(.d (.st 0))]) (rs := [(.int .i64)]) (an := conf_count.a) (N := 21) (vars := [(.tmp 2)]) Tryd.func37 (by kernel_rfl) (by kernel_rfl) (by kernel_rfl) (by kernel_rfl) (by kernel_rfl) (by kernel_rfl) (O := conf_count.O) conf_count.T ⟨⟨by kernel_rfl, fun _ => by first | rfl | rw [conf_count.l0], fun k h => conf_count.l0_eq k h.1 h.2.1 h.2.2.1 h.2.2.2.1⟩, trivial⟩ (F := fun k h => conf_count.f k h.1) (fun _ => by first | rfl | rw [conf_count.f]) (fun k h => conf_count.f_eq k h.1)
    (fun k own => by unfold conf_count.O; exact oracle_of (P := Tryd.prog) (C := ctx) ⟨own, trivial⟩)
mutual
def conf_levels.l0 : Nat → Int → (List T_api_Value) → Int → Int → Option (Int)
  | 0, _, _, _, _ => none
  | k + 1, x3, x7, x8, x9 => (bif (ilt x9 x8) then ((lat x7 x9).bind fun y1 => ((conf_levels.f k (T_api_Value.mk y1.fKind y1.fBool y1.fInt y1.fText y1.fItems y1.fKeys)).bind fun y2 => (conf_levels.l0 k (imax x3 y2) x7 x8 (wadd .i64 x9 1)))) else (some (wadd .i64 x3 1)))
def conf_levels.f : Nat → T_api_Value → Option (Int)
  | 0, _ => none
  | k + 1, a0 => (conf_levels.l0 k 0 a0.fItems (llen a0.fItems) 0)
end
def conf_levels.e (k : Nat) : Entry sg := entryOf sg [(.d (.st 0))] [(.int .i64)] (fun h => conf_levels.f k h.1)
def conf_levels.O (k : Nat) : Oracle sg := fun n => lkp n [(38, conf_levels.e k)]
def conf_levels.a : Ann := (.n .z (.n .z (.n (.n .z (.lp 0 .z)) .z)))
def conf_levels.L (k : Nat) : Nat → St sg.U → Option (RT sg.U [(.int .i64)]) := labs [(0, labOf sg [(3, (.d (.int .i64))), (7, (.d (.sl (.st 0)))), (8, (.d (.int .i64))), (9, (.d (.int .i64)))] (fun h => conf_levels.l0 k h.1 h.2.1 h.2.2.1 h.2.2.2.1))]
theorem conf_levels.l0_eq (k : Nat) (x3 : Int) (x7 : (List T_api_Value)) (x8 : Int) (x9 : Int) : conf_levels.l0 (k + 1) x3 x7 x8 x9 = runFrom (C := ctx) (conf_levels.O k) ⟨20, [], []⟩ (conf_levels.L k) (Tryd.f38.body.getD .skip) conf_levels.a 0 (endK ctx [(.int .i64)] [(.tmp 2)]) (encD [(3, (.d (.int .i64))), (7, (.d (.sl (.st 0)))), (8, (.d (.int .i64))), (9, (.d (.int .i64)))] (x3, x7, x8, x9, ()) (startD sg.U ⟨20, [], []⟩ [(3, (.d (.int .i64))), (7, (.d (.sl (.st 0)))), (8, (.d (.int .i64))), (9, (.d (.int .i64)))])) := by
  rw [conf_levels.l0]
  kernel_rfl
theorem conf_levels.f_eq (k : Nat) (a0 : T_api_Value) : conf_levels.f (k + 1) a0 = codeK (C := ctx) (conf_levels.O k) ⟨20, [], []⟩ (conf_levels.L k) (Tryd.f38.body.getD .skip) conf_levels.a (endK ctx [(.int .i64)] [(.tmp 2)]) (slotsOf sg.U 0 [(.d (.st 0))] (a0, ()) (empty sg.U)) := by
  rw [conf_levels.f]
  kernel_rfl
def conf_levels.T : List (Lb sg (RT sg.U [(.int .i64)])) := [⟨0, [(3, (.d (.int .i64))), (7, (.d (.sl (.st 0)))), (8, (.d (.int .i64))), (9, (.d (.int .i64)))], fun k h => conf_levels.l0 k h.1 h.2.1 h.2.2.1 h.2.2.2.1⟩]
theorem conf_levels.ok : ∀ k : Nat, (conf_levels.e k).Sound Tryd.prog ctx 38 :=
  entry_rec base_ok mo (fn := Tryd.f38) (b := (Tryd.f38.body.getD .skip)) (pm := [(.d (.st 0))]) (rs := [(.int .i64)]) (an := conf_levels.a) (N := 20) (vars := [(.tmp 2)]) Tryd.func38 (by kernel_rfl) (by kernel_rfl) (by kernel_rfl) (by kernel_rfl) (by kernel_rfl) (by kernel_rfl) (O := conf_levels.O) conf_levels.T ⟨⟨by kernel_rfl, fun _ => by first | rfl | rw [conf_levels.l0], fun k h => conf_levels.l0_eq k h.1 h.2.1 h.2.2.1 h.2.2.2.1⟩, trivial⟩ (F := fun k h => conf_levels.f k h.1) (fun _ => by first | rfl | rw [conf_levels.f]) (fun k h => conf_levels.f_eq k h.1)
    (fun k own => by unfold conf_levels.O; exact oracle_of (P := Tryd.prog) (C := ctx) ⟨own, trivial⟩)
def conf_unused.l0 : Nat → Int → Bool → Int → ByteArray → (List T_api_Value) → (List ByteArray) → Int → Bool → Option (Bool)
  | 0, _, _, _, _, _, _, _, _ => none
  | k + 1, x1_0, x1_1, x1_2, x1_3, x1_4, x1_5, x3, x6 => (bif x6 then (some true) else (bif (bif (bif (ilt 0 (llen x1_4)) then (!ieq x3 5) else false) then (!ieq x3 6) else false) then (some true) else (bif (bif (ilt 0 (llen x1_5)) then (!ieq x3 6) else false) then (some true) else (some (bif (ieq x3 6) then (!ieq (llen x1_5) (llen x1_4)) else false)))))
def conf_unused.f (k : Nat) (a0 : T_api_Value) : Option (Bool) := (bif (bif a0.fBool then (!ieq a0.fKind 1) else false) then (conf_unused.l0 k a0.fKind a0.fBool a0.fInt a0.fText a0.fItems a0.fKeys a0.fKind true) else (bif (bif (bif (!ieq a0.fInt 0) then (!ieq a0.fKind 2) else false) then (!ieq a0.fKind 4) else false) then (conf_unused.l0 k a0.fKind a0.fBool a0.fInt a0.fText a0.fItems a0.fKeys a0.fKind true) else (conf_unused.l0 k a0.fKind a0.fBool a0.fInt a0.fText a0.fItems a0.fKeys a0.fKind (bif (!seq a0.fText c_empty) then (!ieq a0.fKind 3) else false))))
def conf_unused.O (k : Nat) : Oracle sg := fun n => lkp n []
def conf_unused.a : Ann := (.n .z (.n .z (.n (.n .z (.lab 0 .z)) .z)))
def conf_unused.L (k : Nat) : Nat → St sg.U → Option (RT sg.U [.bool]) := labs [(0, labOf sg [(1, (.box [.d (.int .i64), .d .bool, .d (.int .i64), .d .str, .d (.sl (.st 0)), .d (.sl .str)])), (3, (.d (.int .i64))), (6, (.d .bool))] (fun h => conf_unused.l0 k h.1 h.2.1 h.2.2.1 h.2.2.2.1 h.2.2.2.2.1 h.2.2.2.2.2.1 h.2.2.2.2.2.2.1 h.2.2.2.2.2.2.2.1))]
theorem conf_unused.l0_eq (k : Nat) (x1_0 : Int) (x1_1 : Bool) (x1_2 : Int) (x1_3 : ByteArray) (x1_4 : (List T_api_Value)) (x1_5 : (List ByteArray)) (x3 : Int) (x6 : Bool) : conf_unused.l0 (k + 1) x1_0 x1_1 x1_2 x1_3 x1_4 x1_5 x3 x6 = runFrom (C := ctx) (conf_unused.O k) ⟨63, [], []⟩ (conf_unused.L k) (Tryd.f87.body.getD .skip) conf_unused.a 0 (endK ctx [.bool] [(.tmp 2)]) (encD [(1, (.box [.d (.int .i64), .d .bool, .d (.int .i64), .d .str, .d (.sl (.st 0)), .d (.sl .str)])), (3, (.d (.int .i64))), (6, (.d .bool))] (x1_0, x1_1, x1_2, x1_3, x1_4, x1_5, x3, x6, ()) (startD sg.U ⟨63, [], []⟩ [(1, (.box [.d (.int .i64), .d .bool, .d (.int .i64), .d .str, .d (.sl (.st 0)), .d (.sl .str)])), (3, (.d (.int .i64))), (6, (.d .bool))])) := by
  rw [conf_unused.l0]
  kernel_rfl
theorem conf_unused.f_eq (k : Nat) (a0 : T_api_Value) : conf_unused.f k a0 = codeK (C := ctx) (conf_unused.O k) ⟨63, [], []⟩ (conf_unused.L k) (Tryd.f87.body.getD .skip) conf_unused.a (endK ctx [.bool] [(.tmp 2)]) (slotsOf sg.U 0 [(.d (.st 0))] (a0, ()) (empty sg.U)) := by
  unfold conf_unused.f
  kernel_rfl
def conf_unused.e (k : Nat) : Entry sg := entryOf sg [(.d (.st 0))] [.bool] (fun h => conf_unused.f k h.1)
def conf_unused.T : List (Lb sg (RT sg.U [.bool])) := [⟨0, [(1, (.box [.d (.int .i64), .d .bool, .d (.int .i64), .d .str, .d (.sl (.st 0)), .d (.sl .str)])), (3, (.d (.int .i64))), (6, (.d .bool))], fun k h => conf_unused.l0 k h.1 h.2.1 h.2.2.1 h.2.2.2.1 h.2.2.2.2.1 h.2.2.2.2.2.1 h.2.2.2.2.2.2.1 h.2.2.2.2.2.2.2.1⟩]
theorem conf_unused.ok (k : Nat) : (conf_unused.e k).Sound Tryd.prog ctx 87 :=
  entry_ok base_ok mo (fn := Tryd.f87) (b := (Tryd.f87.body.getD .skip)) (pm := [(.d (.st 0))]) (rs := [.bool]) (an := conf_unused.a) (N := 63) (vars := [(.tmp 2)]) Tryd.func87 (by kernel_rfl) (by kernel_rfl) (by kernel_rfl) (by kernel_rfl) (by kernel_rfl) (by kernel_rfl) (O := conf_unused.O)
    (fun k => by unfold conf_unused.O; exact oracle_of (P := Tryd.prog) (C := ctx) trivial) conf_unused.T ⟨⟨by kernel_rfl, fun _ => by first | rfl | rw [conf_unused.l0], fun k h => conf_unused.l0_eq k h.1 h.2.1 h.2.2.1 h.2.2.2.1 h.2.2.2.2.1 h.2.2.2.2.2.1 h.2.2.2.2.2.2.1 h.2.2.2.2.2.2.2.1⟩, trivial⟩ k (fun h => conf_unused.f_eq k h.1)
def conf_badDay.f (a0 : Int) : Option (Bool) := (some (bif (ilt a0 0) then true else (ilt 84005 a0)))
def conf_badDay.O : Oracle sg := fun n => lkp n []
def conf_badDay.a : Ann := .z
def conf_badDay.L : Nat → St sg.U → Option (RT sg.U [.bool]) := labs []
theorem conf_badDay.f_eq (a0 : Int) : conf_badDay.f a0 = codeK (C := ctx) (conf_badDay.O) ⟨9, [], []⟩ (conf_badDay.L) (Tryd.f88.body.getD .skip) conf_badDay.a (endK ctx [.bool] [(.tmp 2)]) (slotsOf sg.U 0 [(.d (.int .i64))] (a0, ()) (empty sg.U)) := by
  unfold conf_badDay.f
  kernel_rfl
def conf_badDay.e : Entry sg := entryOf sg [(.d (.int .i64))] [.bool] (fun h => conf_badDay.f h.1)
def conf_badDay.T : List (Lb sg (RT sg.U [.bool])) := []
theorem conf_badDay.ok : (conf_badDay.e).Sound Tryd.prog ctx 88 :=
  entry_ok base_ok mo (fn := Tryd.f88) (b := (Tryd.f88.body.getD .skip)) (pm := [(.d (.int .i64))]) (rs := [.bool]) (an := conf_badDay.a) (N := 9) (vars := [(.tmp 2)]) Tryd.func88 (by kernel_rfl) (by kernel_rfl) (by kernel_rfl) (by kernel_rfl) (by kernel_rfl) (by kernel_rfl) (O := fun _ => conf_badDay.O)
    (fun _ => by unfold conf_badDay.O; exact oracle_of (P := Tryd.prog) (C := ctx) trivial) conf_badDay.T trivial 0 (fun h => conf_badDay.f_eq h.1)
def conf_badBytes.l0 : Nat → ByteArray → Int → Option (Bool)
  | 0, _, _ => none
  | k + 1, x0, x3 => (bif (ilt x3 (slen x0)) then ((sat x0 x3).bind fun y1 => (bif (ilt y1 32) then ((sat x0 x3).bind fun y2 => (bif (!ieq y2 9) then ((sat x0 x3).bind fun y3 => (bif (!ieq y3 10) then (some true) else (conf_badBytes.l0 k x0 (wadd .i64 x3 1)))) else (conf_badBytes.l0 k x0 (wadd .i64 x3 1)))) else (conf_badBytes.l0 k x0 (wadd .i64 x3 1)))) else (some false))
def conf_badBytes.f (k : Nat) (a0 : ByteArray) : Option (Bool) := (conf_badBytes.l0 k a0 0)
def conf_badBytes.O (k : Nat) : Oracle sg := fun n => lkp n []
def conf_badBytes.a : Ann := (.n .z (.n (.n .z (.lp 0 .z)) .z))
def conf_badBytes.L (k : Nat) : Nat → St sg.U → Option (RT sg.U [.bool]) := labs [(0, labOf sg [(0, (.d .str)), (3, (.d (.int .i64)))] (fun h => conf_badBytes.l0 k h.1 h.2.1))]
theorem conf_badBytes.l0_eq (k : Nat) (x0 : ByteArray) (x3 : Int) : conf_badBytes.l0 (k + 1) x0 x3 = runFrom (C := ctx) (conf_badBytes.O k) ⟨26, [], []⟩ (conf_badBytes.L k) (Tryd.f89.body.getD .skip) conf_badBytes.a 0 (endK ctx [.bool] [(.tmp 2)]) (encD [(0, (.d .str)), (3, (.d (.int .i64)))] (x0, x3, ()) (startD sg.U ⟨26, [], []⟩ [(0, (.d .str)), (3, (.d (.int .i64)))])) := by
  rw [conf_badBytes.l0]
  kernel_rfl
theorem conf_badBytes.f_eq (k : Nat) (a0 : ByteArray) : conf_badBytes.f k a0 = codeK (C := ctx) (conf_badBytes.O k) ⟨26, [], []⟩ (conf_badBytes.L k) (Tryd.f89.body.getD .skip) conf_badBytes.a (endK ctx [.bool] [(.tmp 2)]) (slotsOf sg.U 0 [(.d .str)] (a0, ()) (empty sg.U)) := by
  unfold conf_badBytes.f
  kernel_rfl
def conf_badBytes.e (k : Nat) : Entry sg := entryOf sg [(.d .str)] [.bool] (fun h => conf_badBytes.f k h.1)
def conf_badBytes.T : List (Lb sg (RT sg.U [.bool])) := [⟨0, [(0, (.d .str)), (3, (.d (.int .i64)))], fun k h => conf_badBytes.l0 k h.1 h.2.1⟩]
theorem conf_badBytes.ok (k : Nat) : (conf_badBytes.e k).Sound Tryd.prog ctx 89 :=
  entry_ok base_ok mo (fn := Tryd.f89) (b := (Tryd.f89.body.getD .skip)) (pm := [(.d .str)]) (rs := [.bool]) (an := conf_badBytes.a) (N := 26) (vars := [(.tmp 2)]) Tryd.func89 (by kernel_rfl) (by kernel_rfl) (by kernel_rfl) (by kernel_rfl) (by kernel_rfl) (by kernel_rfl) (O := conf_badBytes.O)
    (fun k => by unfold conf_badBytes.O; exact oracle_of (P := Tryd.prog) (C := ctx) trivial) conf_badBytes.T ⟨⟨by kernel_rfl, fun _ => by first | rfl | rw [conf_badBytes.l0], fun k h => conf_badBytes.l0_eq k h.1 h.2.1⟩, trivial⟩ k (fun h => conf_badBytes.f_eq k h.1)
def conf_isSmall.f (a0 : Int) : Option (Bool) := (some (bif (ile 97 a0) then (ile a0 122) else false))
def conf_isSmall.O : Oracle sg := fun n => lkp n []
def conf_isSmall.a : Ann := .z
def conf_isSmall.L : Nat → St sg.U → Option (RT sg.U [.bool]) := labs []
theorem conf_isSmall.f_eq (a0 : Int) : conf_isSmall.f a0 = codeK (C := ctx) (conf_isSmall.O) ⟨9, [], []⟩ (conf_isSmall.L) (Tryd.f116.body.getD .skip) conf_isSmall.a (endK ctx [.bool] [(.tmp 2)]) (slotsOf sg.U 0 [(.d (.int .u8))] (a0, ()) (empty sg.U)) := by
  unfold conf_isSmall.f
  kernel_rfl
def conf_isSmall.e : Entry sg := entryOf sg [(.d (.int .u8))] [.bool] (fun h => conf_isSmall.f h.1)
def conf_isSmall.T : List (Lb sg (RT sg.U [.bool])) := []
theorem conf_isSmall.ok : (conf_isSmall.e).Sound Tryd.prog ctx 116 :=
  entry_ok base_ok mo (fn := Tryd.f116) (b := (Tryd.f116.body.getD .skip)) (pm := [(.d (.int .u8))]) (rs := [.bool]) (an := conf_isSmall.a) (N := 9) (vars := [(.tmp 2)]) Tryd.func116 (by kernel_rfl) (by kernel_rfl) (by kernel_rfl) (by kernel_rfl) (by kernel_rfl) (by kernel_rfl) (O := fun _ => conf_isSmall.O)
    (fun _ => by unfold conf_isSmall.O; exact oracle_of (P := Tryd.prog) (C := ctx) trivial) conf_isSmall.T trivial 0 (fun h => conf_isSmall.f_eq h.1)
def conf_isDigit.f (a0 : Int) : Option (Bool) := (some (bif (ile 48 a0) then (ile a0 57) else false))
def conf_isDigit.O : Oracle sg := fun n => lkp n []
def conf_isDigit.a : Ann := .z
def conf_isDigit.L : Nat → St sg.U → Option (RT sg.U [.bool]) := labs []
theorem conf_isDigit.f_eq (a0 : Int) : conf_isDigit.f a0 = codeK (C := ctx) (conf_isDigit.O) ⟨9, [], []⟩ (conf_isDigit.L) (Tryd.f117.body.getD .skip) conf_isDigit.a (endK ctx [.bool] [(.tmp 2)]) (slotsOf sg.U 0 [(.d (.int .u8))] (a0, ()) (empty sg.U)) := by
  unfold conf_isDigit.f
  kernel_rfl
def conf_isDigit.e : Entry sg := entryOf sg [(.d (.int .u8))] [.bool] (fun h => conf_isDigit.f h.1)
def conf_isDigit.T : List (Lb sg (RT sg.U [.bool])) := []
theorem conf_isDigit.ok : (conf_isDigit.e).Sound Tryd.prog ctx 117 :=
  entry_ok base_ok mo (fn := Tryd.f117) (b := (Tryd.f117.body.getD .skip)) (pm := [(.d (.int .u8))]) (rs := [.bool]) (an := conf_isDigit.a) (N := 9) (vars := [(.tmp 2)]) Tryd.func117 (by kernel_rfl) (by kernel_rfl) (by kernel_rfl) (by kernel_rfl) (by kernel_rfl) (by kernel_rfl) (O := fun _ => conf_isDigit.O)
    (fun _ => by unfold conf_isDigit.O; exact oracle_of (P := Tryd.prog) (C := ctx) trivial) conf_isDigit.T trivial 0 (fun h => conf_isDigit.f_eq h.1)
def conf_isKey.l0 : Nat → ByteArray → Int → Option (Bool)
  | 0, _, _ => none
  | k + 1, x0, x3 => (bif (ilt x3 (slen x0)) then ((sat x0 x3).bind fun y3 => ((conf_isSmall.f y3).bind fun y4 => (bif (!y4) then ((sat x0 x3).bind fun y5 => ((conf_isDigit.f y5).bind fun y6 => (bif (!y6) then ((sat x0 x3).bind fun y7 => (bif (!ieq y7 45) then ((sat x0 x3).bind fun y8 => (bif (!ieq y8 95) then (some false) else (conf_isKey.l0 k x0 (wadd .i64 x3 1)))) else (conf_isKey.l0 k x0 (wadd .i64 x3 1)))) else (conf_isKey.l0 k x0 (wadd .i64 x3 1))))) else (conf_isKey.l0 k x0 (wadd .i64 x3 1))))) else (some true))
def conf_isKey.f (k : Nat) (a0 : ByteArray) : Option (Bool) := (bif (bif (seq a0 c_empty) then true else (ilt 40 (slen a0))) then (some false) else ((sat a0 0).bind fun y1 => ((conf_isSmall.f y1).bind fun y2 => (bif (!y2) then (some false) else (conf_isKey.l0 k a0 1)))))
def conf_isKey.O (k : Nat) : Oracle sg := fun n => lkp n [(116, conf_isSmall.e), (117, conf_isDigit.e)]
def conf_isKey.a : Ann := (.n .z (.n .z (.n (.n .z (.lp 0 .z)) .z)))
def conf_isKey.L (k : Nat) : Nat → St sg.U → Option (RT sg.U [.bool]) := labs [(0, labOf sg [(0, (.d .str)), (3, (.d (.int .i64)))] (fun h => conf_isKey.l0 k h.1 h.2.1))]
theorem conf_isKey.l0_eq (k : Nat) (x0 : ByteArray) (x3 : Int) : conf_isKey.l0 (k + 1) x0 x3 = runFrom (C := ctx) (conf_isKey.O k) ⟨47, [], []⟩ (conf_isKey.L k) (Tryd.f90.body.getD .skip) conf_isKey.a 0 (endK ctx [.bool] [(.tmp 2)]) (encD [(0, (.d .str)), (3, (.d (.int .i64)))] (x0, x3, ()) (startD sg.U ⟨47, [], []⟩ [(0, (.d .str)), (3, (.d (.int .i64)))])) := by
  rw [conf_isKey.l0]
  kernel_rfl
theorem conf_isKey.f_eq (k : Nat) (a0 : ByteArray) : conf_isKey.f k a0 = codeK (C := ctx) (conf_isKey.O k) ⟨47, [], []⟩ (conf_isKey.L k) (Tryd.f90.body.getD .skip) conf_isKey.a (endK ctx [.bool] [(.tmp 2)]) (slotsOf sg.U 0 [(.d .str)] (a0, ()) (empty sg.U)) := by
  unfold conf_isKey.f
  kernel_rfl
def conf_isKey.e (k : Nat) : Entry sg := entryOf sg [(.d .str)] [.bool] (fun h => conf_isKey.f k h.1)
def conf_isKey.T : List (Lb sg (RT sg.U [.bool])) := [⟨0, [(0, (.d .str)), (3, (.d (.int .i64)))], fun k h => conf_isKey.l0 k h.1 h.2.1⟩]
theorem conf_isKey.ok (k : Nat) : (conf_isKey.e k).Sound Tryd.prog ctx 90 :=
  entry_ok base_ok mo (fn := Tryd.f90) (b := (Tryd.f90.body.getD .skip)) (pm := [(.d .str)]) (rs := [.bool]) (an := conf_isKey.a) (N := 47) (vars := [(.tmp 2)]) Tryd.func90 (by kernel_rfl) (by kernel_rfl) (by kernel_rfl) (by kernel_rfl) (by kernel_rfl) (by kernel_rfl) (O := conf_isKey.O)
    (fun k => by unfold conf_isKey.O; exact oracle_of (P := Tryd.prog) (C := ctx) ⟨(conf_isSmall.ok), ⟨(conf_isDigit.ok), trivial⟩⟩) conf_isKey.T ⟨⟨by kernel_rfl, fun _ => by first | rfl | rw [conf_isKey.l0], fun k h => conf_isKey.l0_eq k h.1 h.2.1⟩, trivial⟩ k (fun h => conf_isKey.f_eq k h.1)
mutual
def conf_valueFault.l0 : Nat → Int → Bool → Int → ByteArray → (List T_api_Value) → (List ByteArray) → Bool → Option (Int)
  | 0, _, _, _, _, _, _, _ => none
  | k + 1, x1_0, x1_1, x1_2, x1_3, x1_4, x1_5, x17 => (bif x17 then (some 2) else (bif (ilt 5000 (slen x1_3)) then (some 4) else ((conf_badBytes.f k x1_3).bind fun y3 => (bif y3 then (some 9) else (conf_valueFault.l1 k x1_0 x1_1 x1_2 x1_3 x1_4 x1_5 x1_5 (llen x1_5) 0)))))
def conf_valueFault.l1 : Nat → Int → Bool → Int → ByteArray → (List T_api_Value) → (List ByteArray) → (List ByteArray) → Int → Int → Option (Int)
  | 0, _, _, _, _, _, _, _, _, _ => none
  | k + 1, x1_0, x1_1, x1_2, x1_3, x1_4, x1_5, x36, x37, x38 => (bif (ilt x38 x37) then ((lat x36 x38).bind fun y4 => ((conf_isKey.f k y4).bind fun y5 => (bif (!y5) then (some 12) else (bif (ilt 0 x38) then ((lat x1_5 (wsub .i64 x38 1)).bind fun y6 => (bif (sle y4 y6) then (some 5) else (conf_valueFault.l1 k x1_0 x1_1 x1_2 x1_3 x1_4 x1_5 x36 x37 (wadd .i64 x38 1)))) else (conf_valueFault.l1 k x1_0 x1_1 x1_2 x1_3 x1_4 x1_5 x36 x37 (wadd .i64 x38 1)))))) else (some 0))
end
def conf_valueFault.f (k : Nat) (a0 : T_api_Value) : Option (Int) := (bif (bif (ilt a0.fKind 0) then true else (ilt 6 a0.fKind)) then (some 10) else ((conf_unused.f k (T_api_Value.mk a0.fKind a0.fBool a0.fInt a0.fText a0.fItems a0.fKeys)).bind fun y1 => (bif y1 then (some 1) else (bif (ieq a0.fKind 4) then ((conf_badDay.f a0.fInt).bind fun y2 => (conf_valueFault.l0 k a0.fKind a0.fBool a0.fInt a0.fText a0.fItems a0.fKeys y2)) else (conf_valueFault.l0 k a0.fKind a0.fBool a0.fInt a0.fText a0.fItems a0.fKeys false)))))
def conf_valueFault.O (k : Nat) : Oracle sg := fun n => lkp n [(87, conf_unused.e k), (88, conf_badDay.e), (89, conf_badBytes.e k), (90, conf_isKey.e k)]
def conf_valueFault.a : Ann := (.n .z (.n (.n .z (.n .z (.n .z (.n .z (.n .z (.lab 0 .z)))))) (.n (.n .z (.lp 1 .z)) .z)))
def conf_valueFault.L (k : Nat) : Nat → St sg.U → Option (RT sg.U [(.int .i64)]) := labs [(0, labOf sg [(1, (.box [.d (.int .i64), .d .bool, .d (.int .i64), .d .str, .d (.sl (.st 0)), .d (.sl .str)])), (17, (.d .bool))] (fun h => conf_valueFault.l0 k h.1 h.2.1 h.2.2.1 h.2.2.2.1 h.2.2.2.2.1 h.2.2.2.2.2.1 h.2.2.2.2.2.2.1)), (1, labOf sg [(1, (.box [.d (.int .i64), .d .bool, .d (.int .i64), .d .str, .d (.sl (.st 0)), .d (.sl .str)])), (36, (.d (.sl .str))), (37, (.d (.int .i64))), (38, (.d (.int .i64)))] (fun h => conf_valueFault.l1 k h.1 h.2.1 h.2.2.1 h.2.2.2.1 h.2.2.2.2.1 h.2.2.2.2.2.1 h.2.2.2.2.2.2.1 h.2.2.2.2.2.2.2.1 h.2.2.2.2.2.2.2.2.1))]
theorem conf_valueFault.l0_eq (k : Nat) (x1_0 : Int) (x1_1 : Bool) (x1_2 : Int) (x1_3 : ByteArray) (x1_4 : (List T_api_Value)) (x1_5 : (List ByteArray)) (x17 : Bool) : conf_valueFault.l0 (k + 1) x1_0 x1_1 x1_2 x1_3 x1_4 x1_5 x17 = runFrom (C := ctx) (conf_valueFault.O k) ⟨59, [], []⟩ (conf_valueFault.L k) (Tryd.f68.body.getD .skip) conf_valueFault.a 0 (endK ctx [(.int .i64)] [(.tmp 2)]) (encD [(1, (.box [.d (.int .i64), .d .bool, .d (.int .i64), .d .str, .d (.sl (.st 0)), .d (.sl .str)])), (17, (.d .bool))] (x1_0, x1_1, x1_2, x1_3, x1_4, x1_5, x17, ()) (startD sg.U ⟨59, [], []⟩ [(1, (.box [.d (.int .i64), .d .bool, .d (.int .i64), .d .str, .d (.sl (.st 0)), .d (.sl .str)])), (17, (.d .bool))])) := by
  rw [conf_valueFault.l0]
  kernel_rfl
theorem conf_valueFault.l1_eq (k : Nat) (x1_0 : Int) (x1_1 : Bool) (x1_2 : Int) (x1_3 : ByteArray) (x1_4 : (List T_api_Value)) (x1_5 : (List ByteArray)) (x36 : (List ByteArray)) (x37 : Int) (x38 : Int) : conf_valueFault.l1 (k + 1) x1_0 x1_1 x1_2 x1_3 x1_4 x1_5 x36 x37 x38 = runFrom (C := ctx) (conf_valueFault.O k) ⟨59, [], []⟩ (conf_valueFault.L k) (Tryd.f68.body.getD .skip) conf_valueFault.a 1 (endK ctx [(.int .i64)] [(.tmp 2)]) (encD [(1, (.box [.d (.int .i64), .d .bool, .d (.int .i64), .d .str, .d (.sl (.st 0)), .d (.sl .str)])), (36, (.d (.sl .str))), (37, (.d (.int .i64))), (38, (.d (.int .i64)))] (x1_0, x1_1, x1_2, x1_3, x1_4, x1_5, x36, x37, x38, ()) (startD sg.U ⟨59, [], []⟩ [(1, (.box [.d (.int .i64), .d .bool, .d (.int .i64), .d .str, .d (.sl (.st 0)), .d (.sl .str)])), (36, (.d (.sl .str))), (37, (.d (.int .i64))), (38, (.d (.int .i64)))])) := by
  rw [conf_valueFault.l1]
  kernel_rfl
theorem conf_valueFault.f_eq (k : Nat) (a0 : T_api_Value) : conf_valueFault.f k a0 = codeK (C := ctx) (conf_valueFault.O k) ⟨59, [], []⟩ (conf_valueFault.L k) (Tryd.f68.body.getD .skip) conf_valueFault.a (endK ctx [(.int .i64)] [(.tmp 2)]) (slotsOf sg.U 0 [(.d (.st 0))] (a0, ()) (empty sg.U)) := by
  unfold conf_valueFault.f
  kernel_rfl
def conf_valueFault.e (k : Nat) : Entry sg := entryOf sg [(.d (.st 0))] [(.int .i64)] (fun h => conf_valueFault.f k h.1)
def conf_valueFault.T : List (Lb sg (RT sg.U [(.int .i64)])) := [⟨0, [(1, (.box [.d (.int .i64), .d .bool, .d (.int .i64), .d .str, .d (.sl (.st 0)), .d (.sl .str)])), (17, (.d .bool))], fun k h => conf_valueFault.l0 k h.1 h.2.1 h.2.2.1 h.2.2.2.1 h.2.2.2.2.1 h.2.2.2.2.2.1 h.2.2.2.2.2.2.1⟩, ⟨1, [(1, (.box [.d (.int .i64), .d .bool, .d (.int .i64), .d .str, .d (.sl (.st 0)), .d (.sl .str)])), (36, (.d (.sl .str))), (37, (.d (.int .i64))), (38, (.d (.int .i64)))], fun k h => conf_valueFault.l1 k h.1 h.2.1 h.2.2.1 h.2.2.2.1 h.2.2.2.2.1 h.2.2.2.2.2.1 h.2.2.2.2.2.2.1 h.2.2.2.2.2.2.2.1 h.2.2.2.2.2.2.2.2.1⟩]
theorem conf_valueFault.ok (k : Nat) : (conf_valueFault.e k).Sound Tryd.prog ctx 68 :=
  entry_ok base_ok mo (fn := Tryd.f68) (b := (Tryd.f68.body.getD .skip)) (pm := [(.d (.st 0))]) (rs := [(.int .i64)]) (an := conf_valueFault.a) (N := 59) (vars := [(.tmp 2)]) Tryd.func68 (by kernel_rfl) (by kernel_rfl) (by kernel_rfl) (by kernel_rfl) (by kernel_rfl) (by kernel_rfl) (O := conf_valueFault.O)
    (fun k => by unfold conf_valueFault.O; exact oracle_of (P := Tryd.prog) (C := ctx) ⟨(conf_unused.ok k), ⟨(conf_badDay.ok), ⟨(conf_badBytes.ok k), ⟨(conf_isKey.ok k), trivial⟩⟩⟩⟩) conf_valueFault.T ⟨⟨by kernel_rfl, fun _ => by first | rfl | rw [conf_valueFault.l0], fun k h => conf_valueFault.l0_eq k h.1 h.2.1 h.2.2.1 h.2.2.2.1 h.2.2.2.2.1 h.2.2.2.2.2.1 h.2.2.2.2.2.2.1⟩, ⟨⟨by kernel_rfl, fun _ => by first | rfl | rw [conf_valueFault.l1], fun k h => conf_valueFault.l1_eq k h.1 h.2.1 h.2.2.1 h.2.2.2.1 h.2.2.2.2.1 h.2.2.2.2.2.1 h.2.2.2.2.2.2.1 h.2.2.2.2.2.2.2.1 h.2.2.2.2.2.2.2.2.1⟩, trivial⟩⟩ k (fun h => conf_valueFault.f_eq k h.1)
mutual
def conf_valuesFault.l0 : Nat → (List T_api_Value) → Int → Int → Option (Int)
  | 0, _, _, _ => none
  | k + 1, x13, x14, x15 => (bif (ilt x15 x14) then ((lat x13 x15).bind fun y2 => ((conf_valuesFault.f k (T_api_Value.mk y2.fKind y2.fBool y2.fInt y2.fText y2.fItems y2.fKeys)).bind fun y3 => (bif (!ieq y3 0) then (some y3) else (conf_valuesFault.l0 k x13 x14 (wadd .i64 x15 1))))) else (some 0))
def conf_valuesFault.f : Nat → T_api_Value → Option (Int)
  | 0, _ => none
  | k + 1, a0 => ((conf_valueFault.f k (T_api_Value.mk a0.fKind a0.fBool a0.fInt a0.fText a0.fItems a0.fKeys)).bind fun y1 => (bif (!ieq y1 0) then (some y1) else (conf_valuesFault.l0 k a0.fItems (llen a0.fItems) 0)))
end
def conf_valuesFault.e (k : Nat) : Entry sg := entryOf sg [(.d (.st 0))] [(.int .i64)] (fun h => conf_valuesFault.f k h.1)
def conf_valuesFault.O (k : Nat) : Oracle sg := fun n => lkp n [(39, conf_valuesFault.e k), (68, conf_valueFault.e k)]
def conf_valuesFault.a : Ann := (.n .z (.n .z (.n (.n .z (.lp 0 .z)) .z)))
def conf_valuesFault.L (k : Nat) : Nat → St sg.U → Option (RT sg.U [(.int .i64)]) := labs [(0, labOf sg [(13, (.d (.sl (.st 0)))), (14, (.d (.int .i64))), (15, (.d (.int .i64)))] (fun h => conf_valuesFault.l0 k h.1 h.2.1 h.2.2.1))]
theorem conf_valuesFault.l0_eq (k : Nat) (x13 : (List T_api_Value)) (x14 : Int) (x15 : Int) : conf_valuesFault.l0 (k + 1) x13 x14 x15 = runFrom (C := ctx) (conf_valuesFault.O k) ⟨25, [], []⟩ (conf_valuesFault.L k) (Tryd.f39.body.getD .skip) conf_valuesFault.a 0 (endK ctx [(.int .i64)] [(.tmp 2)]) (encD [(13, (.d (.sl (.st 0)))), (14, (.d (.int .i64))), (15, (.d (.int .i64)))] (x13, x14, x15, ()) (startD sg.U ⟨25, [], []⟩ [(13, (.d (.sl (.st 0)))), (14, (.d (.int .i64))), (15, (.d (.int .i64)))])) := by
  rw [conf_valuesFault.l0]
  kernel_rfl
theorem conf_valuesFault.f_eq (k : Nat) (a0 : T_api_Value) : conf_valuesFault.f (k + 1) a0 = codeK (C := ctx) (conf_valuesFault.O k) ⟨25, [], []⟩ (conf_valuesFault.L k) (Tryd.f39.body.getD .skip) conf_valuesFault.a (endK ctx [(.int .i64)] [(.tmp 2)]) (slotsOf sg.U 0 [(.d (.st 0))] (a0, ()) (empty sg.U)) := by
  rw [conf_valuesFault.f]
  kernel_rfl
def conf_valuesFault.T : List (Lb sg (RT sg.U [(.int .i64)])) := [⟨0, [(13, (.d (.sl (.st 0)))), (14, (.d (.int .i64))), (15, (.d (.int .i64)))], fun k h => conf_valuesFault.l0 k h.1 h.2.1 h.2.2.1⟩]
theorem conf_valuesFault.ok : ∀ k : Nat, (conf_valuesFault.e k).Sound Tryd.prog ctx 39 :=
  entry_rec base_ok mo (fn := Tryd.f39) (b := (Tryd.f39.body.getD .skip)) (pm := [(.d (.st 0))]) (rs := [(.int .i64)]) (an := conf_valuesFault.a) (N := 25) (vars := [(.tmp 2)]) Tryd.func39 (by kernel_rfl) (by kernel_rfl) (by kernel_rfl) (by kernel_rfl) (by kernel_rfl) (by kernel_rfl) (O := conf_valuesFault.O) conf_valuesFault.T ⟨⟨by kernel_rfl, fun _ => by first | rfl | rw [conf_valuesFault.l0], fun k h => conf_valuesFault.l0_eq k h.1 h.2.1 h.2.2.1⟩, trivial⟩ (F := fun k h => conf_valuesFault.f k h.1) (fun _ => by first | rfl | rw [conf_valuesFault.f]) (fun k h => conf_valuesFault.f_eq k h.1)
    (fun k own => by unfold conf_valuesFault.O; exact oracle_of (P := Tryd.prog) (C := ctx) ⟨own, ⟨(conf_valueFault.ok k), trivial⟩⟩)
def conf_Check.f (k : Nat) (a0 : T_api_Value) : Option (Int) := ((conf_count.f k (T_api_Value.mk a0.fKind a0.fBool a0.fInt a0.fText a0.fItems a0.fKeys)).bind fun y1 => (bif (ilt 1000 y1) then (some 4) else ((conf_levels.f k (T_api_Value.mk a0.fKind a0.fBool a0.fInt a0.fText a0.fItems a0.fKeys)).bind fun y2 => (bif (ilt 8 y2) then (some 13) else ((conf_valuesFault.f k (T_api_Value.mk a0.fKind a0.fBool a0.fInt a0.fText a0.fItems a0.fKeys)).bind fun y3 => (some y3))))))
def conf_Check.O (k : Nat) : Oracle sg := fun n => lkp n [(37, conf_count.e k), (38, conf_levels.e k), (39, conf_valuesFault.e k)]
def conf_Check.a : Ann := .z
def conf_Check.L (k : Nat) : Nat → St sg.U → Option (RT sg.U [(.int .i64)]) := labs []
theorem conf_Check.f_eq (k : Nat) (a0 : T_api_Value) : conf_Check.f k a0 = codeK (C := ctx) (conf_Check.O k) ⟨11, [], []⟩ (conf_Check.L k) (Tryd.f15.body.getD .skip) conf_Check.a (endK ctx [(.int .i64)] [(.tmp 2)]) (slotsOf sg.U 0 [(.d (.st 0))] (a0, ()) (empty sg.U)) := by
  unfold conf_Check.f
  kernel_rfl
def conf_Check.e (k : Nat) : Entry sg := entryOf sg [(.d (.st 0))] [(.int .i64)] (fun h => conf_Check.f k h.1)
def conf_Check.T : List (Lb sg (RT sg.U [(.int .i64)])) := []
theorem conf_Check.ok (k : Nat) : (conf_Check.e k).Sound Tryd.prog ctx 15 :=
  entry_ok base_ok mo (fn := Tryd.f15) (b := (Tryd.f15.body.getD .skip)) (pm := [(.d (.st 0))]) (rs := [(.int .i64)]) (an := conf_Check.a) (N := 11) (vars := [(.tmp 2)]) Tryd.func15 (by kernel_rfl) (by kernel_rfl) (by kernel_rfl) (by kernel_rfl) (by kernel_rfl) (by kernel_rfl) (O := conf_Check.O)
    (fun k => by unfold conf_Check.O; exact oracle_of (P := Tryd.prog) (C := ctx) ⟨(conf_count.ok k), ⟨(conf_levels.ok k), ⟨(conf_valuesFault.ok k), trivial⟩⟩⟩) conf_Check.T trivial k (fun h => conf_Check.f_eq k h.1)
def tree_setting.l0 : Nat → ByteArray → Int → Int → Bool → Int → ByteArray → (List T_api_Value) → (List ByteArray) → Int → Bool → Int → ByteArray → (List T_api_Value) → (List ByteArray) → (List ByteArray) → Int → Int → Option (T_api_Value × Bool)
  | 0, _, _, _, _, _, _, _, _, _, _, _, _, _, _, _, _, _ => none
  | k + 1, x1, x2, x3_0, x3_1, x3_2, x3_3, x3_4, x3_5, x6_0, x6_1, x6_2, x6_3, x6_4, x6_5, x15, x16, x17 => (bif (ilt x17 x16) then ((lat x15 x17).bind fun y1 => (bif (seq y1 x1) then ((lat x3_4 x17).bind fun y2 => ((lat x3_4 x17).bind fun y3 => (some ((T_api_Value.mk y2.fKind y2.fBool y2.fInt y2.fText y2.fItems y2.fKeys), (ieq y3.fKind x2))))) else (tree_setting.l0 k x1 x2 x3_0 x3_1 x3_2 x3_3 x3_4 x3_5 x6_0 x6_1 x6_2 x6_3 x6_4 x6_5 x15 x16 (wadd .i64 x17 1)))) else (some ((T_api_Value.mk 0 false 0 c_empty [] []), false)))
def tree_setting.f (k : Nat) (a0 : T_api_Value) (a1 : ByteArray) (a2 : Int) : Option (T_api_Value × Bool) := (bif (!ieq a0.fKind 6) then (some ((T_api_Value.mk 0 false 0 c_empty [] []), false)) else (tree_setting.l0 k a1 a2 a0.fKind a0.fBool a0.fInt a0.fText a0.fItems a0.fKeys 0 false 0 c_empty [] [] a0.fKeys (llen a0.fKeys) 0))
def tree_setting.O (k : Nat) : Oracle sg := fun n => lkp n []
def tree_setting.a : Ann := (.n .z (.n .z (.n (.n .z (.lp 0 .z)) .z)))
def tree_setting.L (k : Nat) : Nat → St sg.U → Option (RT sg.U [(.st 0), .bool]) := labs [(0, labOf sg [(1, (.d .str)), (2, (.d (.int .i64))), (3, (.box [.d (.int .i64), .d .bool, .d (.int .i64), .d .str, .d (.sl (.st 0)), .d (.sl .str)])), (6, (.box [.d (.int .i64), .d .bool, .d (.int .i64), .d .str, .row 25 (.st 0), .row 9 .str])), (15, (.d (.sl .str))), (16, (.d (.int .i64))), (17, (.d (.int .i64)))] (fun h => tree_setting.l0 k h.1 h.2.1 h.2.2.1 h.2.2.2.1 h.2.2.2.2.1 h.2.2.2.2.2.1 h.2.2.2.2.2.2.1 h.2.2.2.2.2.2.2.1 h.2.2.2.2.2.2.2.2.1 h.2.2.2.2.2.2.2.2.2.1 h.2.2.2.2.2.2.2.2.2.2.1 h.2.2.2.2.2.2.2.2.2.2.2.1 h.2.2.2.2.2.2.2.2.2.2.2.2.1 h.2.2.2.2.2.2.2.2.2.2.2.2.2.1 h.2.2.2.2.2.2.2.2.2.2.2.2.2.2.1 h.2.2.2.2.2.2.2.2.2.2.2.2.2.2.2.1 h.2.2.2.2.2.2.2.2.2.2.2.2.2.2.2.2.1))]
theorem tree_setting.l0_eq (k : Nat) (x1 : ByteArray) (x2 : Int) (x3_0 : Int) (x3_1 : Bool) (x3_2 : Int) (x3_3 : ByteArray) (x3_4 : (List T_api_Value)) (x3_5 : (List ByteArray)) (x6_0 : Int) (x6_1 : Bool) (x6_2 : Int) (x6_3 : ByteArray) (x6_4 : (List T_api_Value)) (x6_5 : (List ByteArray)) (x15 : (List ByteArray)) (x16 : Int) (x17 : Int) : tree_setting.l0 (k + 1) x1 x2 x3_0 x3_1 x3_2 x3_3 x3_4 x3_5 x6_0 x6_1 x6_2 x6_3 x6_4 x6_5 x15 x16 x17 = runFrom (C := ctx) (tree_setting.O k) ⟨40, [], []⟩ (tree_setting.L k) (Tryd.f51.body.getD .skip) tree_setting.a 0 (endK ctx [(.st 0), .bool] [(.cell 6 25), (.tmp 7)]) (encD [(1, (.d .str)), (2, (.d (.int .i64))), (3, (.box [.d (.int .i64), .d .bool, .d (.int .i64), .d .str, .d (.sl (.st 0)), .d (.sl .str)])), (6, (.box [.d (.int .i64), .d .bool, .d (.int .i64), .d .str, .row 25 (.st 0), .row 9 .str])), (15, (.d (.sl .str))), (16, (.d (.int .i64))), (17, (.d (.int .i64)))] (x1, x2, x3_0, x3_1, x3_2, x3_3, x3_4, x3_5, x6_0, x6_1, x6_2, x6_3, x6_4, x6_5, x15, x16, x17, ()) (startD sg.U ⟨40, [], []⟩ [(1, (.d .str)), (2, (.d (.int .i64))), (3, (.box [.d (.int .i64), .d .bool, .d (.int .i64), .d .str, .d (.sl (.st 0)), .d (.sl .str)])), (6, (.box [.d (.int .i64), .d .bool, .d (.int .i64), .d .str, .row 25 (.st 0), .row 9 .str])), (15, (.d (.sl .str))), (16, (.d (.int .i64))), (17, (.d (.int .i64)))])) := by
  rw [tree_setting.l0]
  kernel_rfl
theorem tree_setting.f_eq (k : Nat) (a0 : T_api_Value) (a1 : ByteArray) (a2 : Int) : tree_setting.f k a0 a1 a2 = codeK (C := ctx) (tree_setting.O k) ⟨40, [], []⟩ (tree_setting.L k) (Tryd.f51.body.getD .skip) tree_setting.a (endK ctx [(.st 0), .bool] [(.cell 6 25), (.tmp 7)]) (slotsOf sg.U 0 [(.d (.st 0)), (.d .str), (.d (.int .i64))] (a0, a1, a2, ()) (empty sg.U)) := by
  unfold tree_setting.f
  kernel_rfl
def tree_setting.e (k : Nat) : Entry sg := entryOf sg [(.d (.st 0)), (.d .str), (.d (.int .i64))] [(.st 0), .bool] (fun h => tree_setting.f k h.1 h.2.1 h.2.2.1)
def tree_setting.T : List (Lb sg (RT sg.U [(.st 0), .bool])) := [⟨0, [(1, (.d .str)), (2, (.d (.int .i64))), (3, (.box [.d (.int .i64), .d .bool, .d (.int .i64), .d .str, .d (.sl (.st 0)), .d (.sl .str)])), (6, (.box [.d (.int .i64), .d .bool, .d (.int .i64), .d .str, .row 25 (.st 0), .row 9 .str])), (15, (.d (.sl .str))), (16, (.d (.int .i64))), (17, (.d (.int .i64)))], fun k h => tree_setting.l0 k h.1 h.2.1 h.2.2.1 h.2.2.2.1 h.2.2.2.2.1 h.2.2.2.2.2.1 h.2.2.2.2.2.2.1 h.2.2.2.2.2.2.2.1 h.2.2.2.2.2.2.2.2.1 h.2.2.2.2.2.2.2.2.2.1 h.2.2.2.2.2.2.2.2.2.2.1 h.2.2.2.2.2.2.2.2.2.2.2.1 h.2.2.2.2.2.2.2.2.2.2.2.2.1 h.2.2.2.2.2.2.2.2.2.2.2.2.2.1 h.2.2.2.2.2.2.2.2.2.2.2.2.2.2.1 h.2.2.2.2.2.2.2.2.2.2.2.2.2.2.2.1 h.2.2.2.2.2.2.2.2.2.2.2.2.2.2.2.2.1⟩]
theorem tree_setting.ok (k : Nat) : (tree_setting.e k).Sound Tryd.prog ctx 51 :=
  entry_ok base_ok mo (fn := Tryd.f51) (b := (Tryd.f51.body.getD .skip)) (pm := [(.d (.st 0)), (.d .str), (.d (.int .i64))]) (rs := [(.st 0), .bool]) (an := tree_setting.a) (N := 40) (vars := [(.cell 6 25), (.tmp 7)]) Tryd.func51 (by kernel_rfl) (by kernel_rfl) (by kernel_rfl) (by kernel_rfl) (by kernel_rfl) (by kernel_rfl) (O := tree_setting.O)
    (fun k => by unfold tree_setting.O; exact oracle_of (P := Tryd.prog) (C := ctx) trivial) tree_setting.T ⟨⟨by kernel_rfl, fun _ => by first | rfl | rw [tree_setting.l0], fun k h => tree_setting.l0_eq k h.1 h.2.1 h.2.2.1 h.2.2.2.1 h.2.2.2.2.1 h.2.2.2.2.2.1 h.2.2.2.2.2.2.1 h.2.2.2.2.2.2.2.1 h.2.2.2.2.2.2.2.2.1 h.2.2.2.2.2.2.2.2.2.1 h.2.2.2.2.2.2.2.2.2.2.1 h.2.2.2.2.2.2.2.2.2.2.2.1 h.2.2.2.2.2.2.2.2.2.2.2.2.1 h.2.2.2.2.2.2.2.2.2.2.2.2.2.1 h.2.2.2.2.2.2.2.2.2.2.2.2.2.2.1 h.2.2.2.2.2.2.2.2.2.2.2.2.2.2.2.1 h.2.2.2.2.2.2.2.2.2.2.2.2.2.2.2.2.1⟩, trivial⟩ k (fun h => tree_setting.f_eq k h.1 h.2.1 h.2.2.1)
def tree_hidden.l0 : Nat → Int → Int → Bool → Int → ByteArray → (List T_api_Value) → (List ByteArray) → Bool → Option (Bool)
  | 0, _, _, _, _, _, _, _, _ => none
  | k + 1, x1, x9_0, x9_1, x9_2, x9_3, x9_4, x9_5, x10 => (some (bif x10 then (ilt x1 x9_2) else false))
def tree_hidden.f (k : Nat) (a0 : T_api_Value) (a1 : Int) : Option (Bool) := ((tree_setting.f k (T_api_Value.mk a0.fKind a0.fBool a0.fInt a0.fText a0.fItems a0.fKeys) c_draft 1).bind fun y1 => (bif (bif y1.2 then y1.1.fBool else false) then (some true) else ((tree_setting.f k (T_api_Value.mk a0.fKind a0.fBool a0.fInt a0.fText a0.fItems a0.fKeys) c_expire 4).bind fun y2 => (bif (bif y2.2 then (ile y2.1.fInt a1) else false) then (some true) else ((tree_setting.f k (T_api_Value.mk a0.fKind a0.fBool a0.fInt a0.fText a0.fItems a0.fKeys) c_publish 4).bind fun y3 => (bif (!y3.2) then ((tree_setting.f k (T_api_Value.mk a0.fKind a0.fBool a0.fInt a0.fText a0.fItems a0.fKeys) c_date 4).bind fun y4 => (tree_hidden.l0 k a1 y4.1.fKind y4.1.fBool y4.1.fInt y4.1.fText y4.1.fItems y4.1.fKeys y4.2)) else (tree_hidden.l0 k a1 y3.1.fKind y3.1.fBool y3.1.fInt y3.1.fText y3.1.fItems y3.1.fKeys y3.2)))))))
def tree_hidden.O (k : Nat) : Oracle sg := fun n => lkp n [(51, tree_setting.e k)]
def tree_hidden.a : Ann := (.n .z (.n .z (.n .z (.n .z (.n .z (.lab 0 .z))))))
def tree_hidden.L (k : Nat) : Nat → St sg.U → Option (RT sg.U [.bool]) := labs [(0, labOf sg [(1, (.d (.int .i64))), (9, (.box [.d (.int .i64), .d .bool, .d (.int .i64), .d .str, .d (.sl (.st 0)), .d (.sl .str)])), (10, (.d .bool))] (fun h => tree_hidden.l0 k h.1 h.2.1 h.2.2.1 h.2.2.2.1 h.2.2.2.2.1 h.2.2.2.2.2.1 h.2.2.2.2.2.2.1 h.2.2.2.2.2.2.2.1))]
theorem tree_hidden.l0_eq (k : Nat) (x1 : Int) (x9_0 : Int) (x9_1 : Bool) (x9_2 : Int) (x9_3 : ByteArray) (x9_4 : (List T_api_Value)) (x9_5 : (List ByteArray)) (x10 : Bool) : tree_hidden.l0 (k + 1) x1 x9_0 x9_1 x9_2 x9_3 x9_4 x9_5 x10 = runFrom (C := ctx) (tree_hidden.O k) ⟨52, [], []⟩ (tree_hidden.L k) (Tryd.f23.body.getD .skip) tree_hidden.a 0 (endK ctx [.bool] [(.tmp 4)]) (encD [(1, (.d (.int .i64))), (9, (.box [.d (.int .i64), .d .bool, .d (.int .i64), .d .str, .d (.sl (.st 0)), .d (.sl .str)])), (10, (.d .bool))] (x1, x9_0, x9_1, x9_2, x9_3, x9_4, x9_5, x10, ()) (startD sg.U ⟨52, [], []⟩ [(1, (.d (.int .i64))), (9, (.box [.d (.int .i64), .d .bool, .d (.int .i64), .d .str, .d (.sl (.st 0)), .d (.sl .str)])), (10, (.d .bool))])) := by
  rw [tree_hidden.l0]
  kernel_rfl
theorem tree_hidden.f_eq (k : Nat) (a0 : T_api_Value) (a1 : Int) : tree_hidden.f k a0 a1 = codeK (C := ctx) (tree_hidden.O k) ⟨52, [], []⟩ (tree_hidden.L k) (Tryd.f23.body.getD .skip) tree_hidden.a (endK ctx [.bool] [(.tmp 4)]) (slotsOf sg.U 0 [(.d (.st 0)), (.d (.int .i64))] (a0, a1, ()) (empty sg.U)) := by
  unfold tree_hidden.f
  kernel_rfl
def tree_hidden.e (k : Nat) : Entry sg := entryOf sg [(.d (.st 0)), (.d (.int .i64))] [.bool] (fun h => tree_hidden.f k h.1 h.2.1)
def tree_hidden.T : List (Lb sg (RT sg.U [.bool])) := [⟨0, [(1, (.d (.int .i64))), (9, (.box [.d (.int .i64), .d .bool, .d (.int .i64), .d .str, .d (.sl (.st 0)), .d (.sl .str)])), (10, (.d .bool))], fun k h => tree_hidden.l0 k h.1 h.2.1 h.2.2.1 h.2.2.2.1 h.2.2.2.2.1 h.2.2.2.2.2.1 h.2.2.2.2.2.2.1 h.2.2.2.2.2.2.2.1⟩]
theorem tree_hidden.ok (k : Nat) : (tree_hidden.e k).Sound Tryd.prog ctx 23 :=
  entry_ok base_ok mo (fn := Tryd.f23) (b := (Tryd.f23.body.getD .skip)) (pm := [(.d (.st 0)), (.d (.int .i64))]) (rs := [.bool]) (an := tree_hidden.a) (N := 52) (vars := [(.tmp 4)]) Tryd.func23 (by kernel_rfl) (by kernel_rfl) (by kernel_rfl) (by kernel_rfl) (by kernel_rfl) (by kernel_rfl) (O := tree_hidden.O)
    (fun k => by unfold tree_hidden.O; exact oracle_of (P := Tryd.prog) (C := ctx) ⟨(tree_setting.ok k), trivial⟩) tree_hidden.T ⟨⟨by kernel_rfl, fun _ => by first | rfl | rw [tree_hidden.l0], fun k h => tree_hidden.l0_eq k h.1 h.2.1 h.2.2.1 h.2.2.2.1 h.2.2.2.2.1 h.2.2.2.2.2.1 h.2.2.2.2.2.2.1 h.2.2.2.2.2.2.2.1⟩, trivial⟩ k (fun h => tree_hidden.f_eq k h.1 h.2.1)
def tree_Hidden.f (k : Nat) (a0 : T_api_Value) (a1 : Int) : Option (Bool) := ((conf_Check.f k (T_api_Value.mk a0.fKind a0.fBool a0.fInt a0.fText a0.fItems a0.fKeys)).bind fun y1 => (bif (ieq y1 0) then ((tree_hidden.f k (T_api_Value.mk a0.fKind a0.fBool a0.fInt a0.fText a0.fItems a0.fKeys) a1).bind fun y2 => (some y2)) else (some false)))
def tree_Hidden.O (k : Nat) : Oracle sg := fun n => lkp n [(15, conf_Check.e k), (23, tree_hidden.e k)]
def tree_Hidden.a : Ann := .z
def tree_Hidden.L (k : Nat) : Nat → St sg.U → Option (RT sg.U [.bool]) := labs []
theorem tree_Hidden.f_eq (k : Nat) (a0 : T_api_Value) (a1 : Int) : tree_Hidden.f k a0 a1 = codeK (C := ctx) (tree_Hidden.O k) ⟨13, [], []⟩ (tree_Hidden.L k) (Tryd.f9.body.getD .skip) tree_Hidden.a (endK ctx [.bool] [(.tmp 4)]) (slotsOf sg.U 0 [(.d (.st 0)), (.d (.int .i64))] (a0, a1, ()) (empty sg.U)) := by
  unfold tree_Hidden.f
  kernel_rfl
def tree_Hidden.e (k : Nat) : Entry sg := entryOf sg [(.d (.st 0)), (.d (.int .i64))] [.bool] (fun h => tree_Hidden.f k h.1 h.2.1)
def tree_Hidden.T : List (Lb sg (RT sg.U [.bool])) := []
theorem tree_Hidden.ok (k : Nat) : (tree_Hidden.e k).Sound Tryd.prog ctx 9 :=
  entry_ok base_ok mo (fn := Tryd.f9) (b := (Tryd.f9.body.getD .skip)) (pm := [(.d (.st 0)), (.d (.int .i64))]) (rs := [.bool]) (an := tree_Hidden.a) (N := 13) (vars := [(.tmp 4)]) Tryd.func9 (by kernel_rfl) (by kernel_rfl) (by kernel_rfl) (by kernel_rfl) (by kernel_rfl) (by kernel_rfl) (O := tree_Hidden.O)
    (fun k => by unfold tree_Hidden.O; exact oracle_of (P := Tryd.prog) (C := ctx) ⟨(conf_Check.ok k), ⟨(tree_hidden.ok k), trivial⟩⟩) tree_Hidden.T trivial k (fun h => tree_Hidden.f_eq k h.1 h.2.1)
mutual
def mastref2_ValuesOf.l0 : Nat → Int → (List T_api_Value) → Int → Int → Option (Int)
  | 0, _, _, _, _ => none
  | k + 1, x3, x7, x8, x9 => (bif (ilt x9 x8) then ((lat x7 x9).bind fun y1 => ((mastref2_ValuesOf.f k (T_api_Value.mk y1.fKind y1.fBool y1.fInt y1.fText y1.fItems y1.fKeys)).bind fun y2 => (mastref2_ValuesOf.l0 k (wadd .i64 x3 y2) x7 x8 (wadd .i64 x9 1)))) else (some x3))
def mastref2_ValuesOf.f : Nat → T_api_Value → Option (Int)
  | 0, _ => none
  | k + 1, a0 => (mastref2_ValuesOf.l0 k 1 a0.fItems (llen a0.fItems) 0)
end
def mastref2_ValuesOf.e (k : Nat) : Entry sg := entryOf sg [(.d (.st 0))] [(.int .i64)] (fun h => mastref2_ValuesOf.f k h.1)
def mastref2_ValuesOf.O (k : Nat) : Oracle sg := fun n => lkp n [(33, mastref2_ValuesOf.e k)]
def mastref2_ValuesOf.a : Ann := (.n .z (.n .z (.n (.n .z (.lp 0 .z)) .z)))
def mastref2_ValuesOf.L (k : Nat) : Nat → St sg.U → Option (RT sg.U [(.int .i64)]) := labs [(0, labOf sg [(3, (.d (.int .i64))), (7, (.d (.sl (.st 0)))), (8, (.d (.int .i64))), (9, (.d (.int .i64)))] (fun h => mastref2_ValuesOf.l0 k h.1 h.2.1 h.2.2.1 h.2.2.2.1))]
theorem mastref2_ValuesOf.l0_eq (k : Nat) (x3 : Int) (x7 : (List T_api_Value)) (x8 : Int) (x9 : Int) : mastref2_ValuesOf.l0 (k + 1) x3 x7 x8 x9 = runFrom (C := ctx) (mastref2_ValuesOf.O k) ⟨19, [], []⟩ (mastref2_ValuesOf.L k) (Tryd.f33.body.getD .skip) mastref2_ValuesOf.a 0 (endK ctx [(.int .i64)] [(.tmp 2)]) (encD [(3, (.d (.int .i64))), (7, (.d (.sl (.st 0)))), (8, (.d (.int .i64))), (9, (.d (.int .i64)))] (x3, x7, x8, x9, ()) (startD sg.U ⟨19, [], []⟩ [(3, (.d (.int .i64))), (7, (.d (.sl (.st 0)))), (8, (.d (.int .i64))), (9, (.d (.int .i64)))])) := by
  rw [mastref2_ValuesOf.l0]
  kernel_rfl
theorem mastref2_ValuesOf.f_eq (k : Nat) (a0 : T_api_Value) : mastref2_ValuesOf.f (k + 1) a0 = codeK (C := ctx) (mastref2_ValuesOf.O k) ⟨19, [], []⟩ (mastref2_ValuesOf.L k) (Tryd.f33.body.getD .skip) mastref2_ValuesOf.a (endK ctx [(.int .i64)] [(.tmp 2)]) (slotsOf sg.U 0 [(.d (.st 0))] (a0, ()) (empty sg.U)) := by
  rw [mastref2_ValuesOf.f]
  kernel_rfl
def mastref2_ValuesOf.T : List (Lb sg (RT sg.U [(.int .i64)])) := [⟨0, [(3, (.d (.int .i64))), (7, (.d (.sl (.st 0)))), (8, (.d (.int .i64))), (9, (.d (.int .i64)))], fun k h => mastref2_ValuesOf.l0 k h.1 h.2.1 h.2.2.1 h.2.2.2.1⟩]
theorem mastref2_ValuesOf.ok : ∀ k : Nat, (mastref2_ValuesOf.e k).Sound Tryd.prog ctx 33 :=
  entry_rec base_ok mo (fn := Tryd.f33) (b := (Tryd.f33.body.getD .skip)) (pm := [(.d (.st 0))]) (rs := [(.int .i64)]) (an := mastref2_ValuesOf.a) (N := 19) (vars := [(.tmp 2)]) Tryd.func33 (by kernel_rfl) (by kernel_rfl) (by kernel_rfl) (by kernel_rfl) (by kernel_rfl) (by kernel_rfl) (O := mastref2_ValuesOf.O) mastref2_ValuesOf.T ⟨⟨by kernel_rfl, fun _ => by first | rfl | rw [mastref2_ValuesOf.l0], fun k h => mastref2_ValuesOf.l0_eq k h.1 h.2.1 h.2.2.1 h.2.2.2.1⟩, trivial⟩ (F := fun k h => mastref2_ValuesOf.f k h.1) (fun _ => by first | rfl | rw [mastref2_ValuesOf.f]) (fun k h => mastref2_ValuesOf.f_eq k h.1)
    (fun k own => by unfold mastref2_ValuesOf.O; exact oracle_of (P := Tryd.prog) (C := ctx) ⟨own, trivial⟩)
mutual
def mastref2_LevelsOf.l0 : Nat → Int → (List T_api_Value) → Int → Int → Option (Int)
  | 0, _, _, _, _ => none
  | k + 1, x3, x7, x8, x9 => (bif (ilt x9 x8) then ((lat x7 x9).bind fun y1 => ((mastref2_LevelsOf.f k (T_api_Value.mk y1.fKind y1.fBool y1.fInt y1.fText y1.fItems y1.fKeys)).bind fun y2 => (mastref2_LevelsOf.l0 k (imax x3 y2) x7 x8 (wadd .i64 x9 1)))) else (some (wadd .i64 x3 1)))
def mastref2_LevelsOf.f : Nat → T_api_Value → Option (Int)
  | 0, _ => none
  | k + 1, a0 => (mastref2_LevelsOf.l0 k 0 a0.fItems (llen a0.fItems) 0)
end
def mastref2_LevelsOf.e (k : Nat) : Entry sg := entryOf sg [(.d (.st 0))] [(.int .i64)] (fun h => mastref2_LevelsOf.f k h.1)
def mastref2_LevelsOf.O (k : Nat) : Oracle sg := fun n => lkp n [(34, mastref2_LevelsOf.e k)]
def mastref2_LevelsOf.a : Ann := (.n .z (.n .z (.n (.n .z (.lp 0 .z)) .z)))
def mastref2_LevelsOf.L (k : Nat) : Nat → St sg.U → Option (RT sg.U [(.int .i64)]) := labs [(0, labOf sg [(3, (.d (.int .i64))), (7, (.d (.sl (.st 0)))), (8, (.d (.int .i64))), (9, (.d (.int .i64)))] (fun h => mastref2_LevelsOf.l0 k h.1 h.2.1 h.2.2.1 h.2.2.2.1))]
theorem mastref2_LevelsOf.l0_eq (k : Nat) (x3 : Int) (x7 : (List T_api_Value)) (x8 : Int) (x9 : Int) : mastref2_LevelsOf.l0 (k + 1) x3 x7 x8 x9 = runFrom (C := ctx) (mastref2_LevelsOf.O k) ⟨20, [], []⟩ (mastref2_LevelsOf.L k) (Tryd.f34.body.getD .skip) mastref2_LevelsOf.a 0 (endK ctx [(.int .i64)] [(.tmp 2)]) (encD [(3, (.d (.int .i64))), (7, (.d (.sl (.st 0)))), (8, (.d (.int .i64))), (9, (.d (.int .i64)))] (x3, x7, x8, x9, ()) (startD sg.U ⟨20, [], []⟩ [(3, (.d (.int .i64))), (7, (.d (.sl (.st 0)))), (8, (.d (.int .i64))), (9, (.d (.int .i64)))])) := by
  rw [mastref2_LevelsOf.l0]
  kernel_rfl
theorem mastref2_LevelsOf.f_eq (k : Nat) (a0 : T_api_Value) : mastref2_LevelsOf.f (k + 1) a0 = codeK (C := ctx) (mastref2_LevelsOf.O k) ⟨20, [], []⟩ (mastref2_LevelsOf.L k) (Tryd.f34.body.getD .skip) mastref2_LevelsOf.a (endK ctx [(.int .i64)] [(.tmp 2)]) (slotsOf sg.U 0 [(.d (.st 0))] (a0, ()) (empty sg.U)) := by
  rw [mastref2_LevelsOf.f]
  kernel_rfl
def mastref2_LevelsOf.T : List (Lb sg (RT sg.U [(.int .i64)])) := [⟨0, [(3, (.d (.int .i64))), (7, (.d (.sl (.st 0)))), (8, (.d (.int .i64))), (9, (.d (.int .i64)))], fun k h => mastref2_LevelsOf.l0 k h.1 h.2.1 h.2.2.1 h.2.2.2.1⟩]
theorem mastref2_LevelsOf.ok : ∀ k : Nat, (mastref2_LevelsOf.e k).Sound Tryd.prog ctx 34 :=
  entry_rec base_ok mo (fn := Tryd.f34) (b := (Tryd.f34.body.getD .skip)) (pm := [(.d (.st 0))]) (rs := [(.int .i64)]) (an := mastref2_LevelsOf.a) (N := 20) (vars := [(.tmp 2)]) Tryd.func34 (by kernel_rfl) (by kernel_rfl) (by kernel_rfl) (by kernel_rfl) (by kernel_rfl) (by kernel_rfl) (O := mastref2_LevelsOf.O) mastref2_LevelsOf.T ⟨⟨by kernel_rfl, fun _ => by first | rfl | rw [mastref2_LevelsOf.l0], fun k h => mastref2_LevelsOf.l0_eq k h.1 h.2.1 h.2.2.1 h.2.2.2.1⟩, trivial⟩ (F := fun k h => mastref2_LevelsOf.f k h.1) (fun _ => by first | rfl | rw [mastref2_LevelsOf.f]) (fun k h => mastref2_LevelsOf.f_eq k h.1)
    (fun k own => by unfold mastref2_LevelsOf.O; exact oracle_of (P := Tryd.prog) (C := ctx) ⟨own, trivial⟩)
def mastref2_badByte.l0 : Nat → ByteArray → Int → Option (Bool)
  | 0, _, _ => none
  | k + 1, x0, x3 => (bif (ilt x3 (slen x0)) then ((sat x0 x3).bind fun y1 => (bif (ilt y1 32) then ((sat x0 x3).bind fun y2 => (bif (!ieq y2 9) then ((sat x0 x3).bind fun y3 => (bif (!ieq y3 10) then (some true) else (mastref2_badByte.l0 k x0 (wadd .i64 x3 1)))) else (mastref2_badByte.l0 k x0 (wadd .i64 x3 1)))) else (mastref2_badByte.l0 k x0 (wadd .i64 x3 1)))) else (some false))
def mastref2_badByte.f (k : Nat) (a0 : ByteArray) : Option (Bool) := (mastref2_badByte.l0 k a0 0)
def mastref2_badByte.O (k : Nat) : Oracle sg := fun n => lkp n []
def mastref2_badByte.a : Ann := (.n .z (.n (.n .z (.lp 0 .z)) .z))
def mastref2_badByte.L (k : Nat) : Nat → St sg.U → Option (RT sg.U [.bool]) := labs [(0, labOf sg [(0, (.d .str)), (3, (.d (.int .i64)))] (fun h => mastref2_badByte.l0 k h.1 h.2.1))]
theorem mastref2_badByte.l0_eq (k : Nat) (x0 : ByteArray) (x3 : Int) : mastref2_badByte.l0 (k + 1) x0 x3 = runFrom (C := ctx) (mastref2_badByte.O k) ⟨26, [], []⟩ (mastref2_badByte.L k) (Tryd.f66.body.getD .skip) mastref2_badByte.a 0 (endK ctx [.bool] [(.tmp 2)]) (encD [(0, (.d .str)), (3, (.d (.int .i64)))] (x0, x3, ()) (startD sg.U ⟨26, [], []⟩ [(0, (.d .str)), (3, (.d (.int .i64)))])) := by
  rw [mastref2_badByte.l0]
  kernel_rfl
theorem mastref2_badByte.f_eq (k : Nat) (a0 : ByteArray) : mastref2_badByte.f k a0 = codeK (C := ctx) (mastref2_badByte.O k) ⟨26, [], []⟩ (mastref2_badByte.L k) (Tryd.f66.body.getD .skip) mastref2_badByte.a (endK ctx [.bool] [(.tmp 2)]) (slotsOf sg.U 0 [(.d .str)] (a0, ()) (empty sg.U)) := by
  unfold mastref2_badByte.f
  kernel_rfl
def mastref2_badByte.e (k : Nat) : Entry sg := entryOf sg [(.d .str)] [.bool] (fun h => mastref2_badByte.f k h.1)
def mastref2_badByte.T : List (Lb sg (RT sg.U [.bool])) := [⟨0, [(0, (.d .str)), (3, (.d (.int .i64)))], fun k h => mastref2_badByte.l0 k h.1 h.2.1⟩]
theorem mastref2_badByte.ok (k : Nat) : (mastref2_badByte.e k).Sound Tryd.prog ctx 66 :=
  entry_ok base_ok mo (fn := Tryd.f66) (b := (Tryd.f66.body.getD .skip)) (pm := [(.d .str)]) (rs := [.bool]) (an := mastref2_badByte.a) (N := 26) (vars := [(.tmp 2)]) Tryd.func66 (by kernel_rfl) (by kernel_rfl) (by kernel_rfl) (by kernel_rfl) (by kernel_rfl) (by kernel_rfl) (O := mastref2_badByte.O)
    (fun k => by unfold mastref2_badByte.O; exact oracle_of (P := Tryd.prog) (C := ctx) trivial) mastref2_badByte.T ⟨⟨by kernel_rfl, fun _ => by first | rfl | rw [mastref2_badByte.l0], fun k h => mastref2_badByte.l0_eq k h.1 h.2.1⟩, trivial⟩ k (fun h => mastref2_badByte.f_eq k h.1)
def strings_Trim.f (a0 : ByteArray) (a1 : ByteArray) : Option (ByteArray) := if a0.size ≤ 9223372036854775807 ∧ a1.size < 4294967281 ∧ (a1.data.toList.all fun b => decide (b.toNat < 128)) = true then some (⟨(Lib.trimS a0.data.toList a1.data.toList).toArray⟩) else none
def strings_Trim.e : Entry sg := entryOf sg [(.d .str), (.d .str)] [.str] (fun h => strings_Trim.f h.1 h.2.1)
theorem strings_Trim.ok : (strings_Trim.e).Sound Tryd.prog ctx 79 :=
  entry_extern (C := ctx) sg_ok Tryd.func79 (by kernel_rfl) (by kernel_rfl) (by kernel_rfl) (by kernel_rfl) (fun hh x w hx hG => by
    unfold strings_Trim.f at hx
    split at hx
    · rename_i c
      obtain rfl := Option.some.inj hx
      refine (Any.strings_Trim_laid Tryd.lays160 (by kernel_rfl) hh.1 hh.2.1 w c.1 c.2.1 (ascii_of_all c.2.2)).mono ?_
      rintro e w' ⟨rfl, hb⟩
      exact ⟨rfl, by first | exact hb ▸ Grow.refl _ | exact Grow.of_below hb⟩
    · cases hx)
def mastref2_IsKey.f (a0 : ByteArray) : Option (Bool) := (bif (bif (seq a0 c_empty) then true else (ilt 40 (slen a0))) then (some false) else ((sat a0 0).bind fun y1 => (bif (ilt y1 97) then (some false) else ((sat a0 0).bind fun y2 => (bif (ilt 122 y2) then (some false) else ((strings_Trim.f a0 c_abcdefghijklmnopqrst_0e2e2cf4).bind fun y3 => (some (seq y3 c_empty))))))))
def mastref2_IsKey.O : Oracle sg := fun n => lkp n [(79, strings_Trim.e)]
def mastref2_IsKey.a : Ann := .z
def mastref2_IsKey.L : Nat → St sg.U → Option (RT sg.U [.bool]) := labs []
theorem mastref2_IsKey.f_eq (a0 : ByteArray) : mastref2_IsKey.f a0 = codeK (C := ctx) (mastref2_IsKey.O) ⟨23, [], []⟩ (mastref2_IsKey.L) (Tryd.f67.body.getD .skip) mastref2_IsKey.a (endK ctx [.bool] [(.tmp 2)]) (slotsOf sg.U 0 [(.d .str)] (a0, ()) (empty sg.U)) := by
  unfold mastref2_IsKey.f
  kernel_rfl
def mastref2_IsKey.e : Entry sg := entryOf sg [(.d .str)] [.bool] (fun h => mastref2_IsKey.f h.1)
def mastref2_IsKey.T : List (Lb sg (RT sg.U [.bool])) := []
theorem mastref2_IsKey.ok : (mastref2_IsKey.e).Sound Tryd.prog ctx 67 :=
  entry_ok base_ok mo (fn := Tryd.f67) (b := (Tryd.f67.body.getD .skip)) (pm := [(.d .str)]) (rs := [.bool]) (an := mastref2_IsKey.a) (N := 23) (vars := [(.tmp 2)]) Tryd.func67 (by kernel_rfl) (by kernel_rfl) (by kernel_rfl) (by kernel_rfl) (by kernel_rfl) (by kernel_rfl) (O := fun _ => mastref2_IsKey.O)
    (fun _ => by unfold mastref2_IsKey.O; exact oracle_of (P := Tryd.prog) (C := ctx) ⟨(strings_Trim.ok), trivial⟩) mastref2_IsKey.T trivial 0 (fun h => mastref2_IsKey.f_eq h.1)
mutual
def mastref2_eachValue.l0 : Nat → Int → Bool → Int → ByteArray → (List T_api_Value) → (List ByteArray) → (List ByteArray) → Int → Int → Option (Int)
  | 0, _, _, _, _, _, _, _, _, _ => none
  | k + 1, x1_0, x1_1, x1_2, x1_3, x1_4, x1_5, x100, x101, x102 => (bif (ilt x102 x101) then ((lat x100 x102).bind fun y2 => ((mastref2_IsKey.f y2).bind fun y3 => (bif (!y3) then (some 12) else (bif (ilt 0 x102) then ((lat x1_5 (wsub .i64 x102 1)).bind fun y4 => (bif (sle y2 y4) then (some 5) else (mastref2_eachValue.l0 k x1_0 x1_1 x1_2 x1_3 x1_4 x1_5 x100 x101 (wadd .i64 x102 1)))) else (mastref2_eachValue.l0 k x1_0 x1_1 x1_2 x1_3 x1_4 x1_5 x100 x101 (wadd .i64 x102 1)))))) else (mastref2_eachValue.l1 k x1_4 (llen x1_4) 0))
def mastref2_eachValue.l1 : Nat → (List T_api_Value) → Int → Int → Option (Int)
  | 0, _, _, _ => none
  | k + 1, x124, x125, x126 => (bif (ilt x126 x125) then ((lat x124 x126).bind fun y5 => ((mastref2_eachValue.f k (T_api_Value.mk y5.fKind y5.fBool y5.fInt y5.fText y5.fItems y5.fKeys)).bind fun y6 => (bif (!ieq y6 0) then (some y6) else (mastref2_eachValue.l1 k x124 x125 (wadd .i64 x126 1))))) else (some 0))
def mastref2_eachValue.f : Nat → T_api_Value → Option (Int)
  | 0, _ => none
  | k + 1, a0 => (bif (bif (ilt a0.fKind 0) then true else (ilt 6 a0.fKind)) then (some 10) else (bif (bif (bif (bif (bif (bif a0.fBool then (!ieq a0.fKind 1) else false) then true else (bif (bif (!ieq a0.fInt 0) then (!ieq a0.fKind 2) else false) then (!ieq a0.fKind 4) else false)) then true else (bif (!seq a0.fText c_empty) then (!ieq a0.fKind 3) else false)) then true else (bif (bif (ilt 0 (llen a0.fItems)) then (!ieq a0.fKind 5) else false) then (!ieq a0.fKind 6) else false)) then true else (bif (ilt 0 (llen a0.fKeys)) then (!ieq a0.fKind 6) else false)) then (some 1) else (bif (bif (ieq a0.fKind 6) then (!ieq (llen a0.fKeys) (llen a0.fItems)) else false) then (some 1) else (bif (bif (ieq a0.fKind 4) then (bif (ilt a0.fInt 0) then true else (ilt 84005 a0.fInt)) else false) then (some 2) else (bif (ilt 5000 (slen a0.fText)) then (some 4) else ((mastref2_badByte.f k a0.fText).bind fun y1 => (bif y1 then (some 9) else (mastref2_eachValue.l0 k a0.fKind a0.fBool a0.fInt a0.fText a0.fItems a0.fKeys a0.fKeys (llen a0.fKeys) 0))))))))
end
def mastref2_eachValue.e (k : Nat) : Entry sg := entryOf sg [(.d (.st 0))] [(.int .i64)] (fun h => mastref2_eachValue.f k h.1)
def mastref2_eachValue.O (k : Nat) : Oracle sg := fun n => lkp n [(35, mastref2_eachValue.e k), (66, mastref2_badByte.e k), (67, mastref2_IsKey.e)]
def mastref2_eachValue.a : Ann := (.n .z (.n .z (.n .z (.n .z (.n .z (.n .z (.n .z (.n .z (.n (.n .z (.lp 0 .z)) (.n (.n .z (.lp 1 .z)) .z))))))))))
def mastref2_eachValue.L (k : Nat) : Nat → St sg.U → Option (RT sg.U [(.int .i64)]) := labs [(0, labOf sg [(1, (.box [.d (.int .i64), .d .bool, .d (.int .i64), .d .str, .d (.sl (.st 0)), .d (.sl .str)])), (100, (.d (.sl .str))), (101, (.d (.int .i64))), (102, (.d (.int .i64)))] (fun h => mastref2_eachValue.l0 k h.1 h.2.1 h.2.2.1 h.2.2.2.1 h.2.2.2.2.1 h.2.2.2.2.2.1 h.2.2.2.2.2.2.1 h.2.2.2.2.2.2.2.1 h.2.2.2.2.2.2.2.2.1)), (1, labOf sg [(124, (.d (.sl (.st 0)))), (125, (.d (.int .i64))), (126, (.d (.int .i64)))] (fun h => mastref2_eachValue.l1 k h.1 h.2.1 h.2.2.1))]
theorem mastref2_eachValue.l0_eq (k : Nat) (x1_0 : Int) (x1_1 : Bool) (x1_2 : Int) (x1_3 : ByteArray) (x1_4 : (List T_api_Value)) (x1_5 : (List ByteArray)) (x100 : (List ByteArray)) (x101 : Int) (x102 : Int) : mastref2_eachValue.l0 (k + 1) x1_0 x1_1 x1_2 x1_3 x1_4 x1_5 x100 x101 x102 = runFrom (C := ctx) (mastref2_eachValue.O k) ⟨136, [], []⟩ (mastref2_eachValue.L k) (Tryd.f35.body.getD .skip) mastref2_eachValue.a 0 (endK ctx [(.int .i64)] [(.tmp 2)]) (encD [(1, (.box [.d (.int .i64), .d .bool, .d (.int .i64), .d .str, .d (.sl (.st 0)), .d (.sl .str)])), (100, (.d (.sl .str))), (101, (.d (.int .i64))), (102, (.d (.int .i64)))] (x1_0, x1_1, x1_2, x1_3, x1_4, x1_5, x100, x101, x102, ()) (startD sg.U ⟨136, [], []⟩ [(1, (.box [.d (.int .i64), .d .bool, .d (.int .i64), .d .str, .d (.sl (.st 0)), .d (.sl .str)])), (100, (.d (.sl .str))), (101, (.d (.int .i64))), (102, (.d (.int .i64)))])) := by
  rw [mastref2_eachValue.l0]
  kernel_rfl
theorem mastref2_eachValue.l1_eq (k : Nat) (x124 : (List T_api_Value)) (x125 : Int) (x126 : Int) : mastref2_eachValue.l1 (k + 1) x124 x125 x126 = runFrom (C := ctx) (mastref2_eachValue.O k) ⟨136, [], []⟩ (mastref2_eachValue.L k) (Tryd.f35.body.getD .skip) mastref2_eachValue.a 1 (endK ctx [(.int .i64)] [(.tmp 2)]) (encD [(124, (.d (.sl (.st 0)))), (125, (.d (.int .i64))), (126, (.d (.int .i64)))] (x124, x125, x126, ()) (startD sg.U ⟨136, [], []⟩ [(124, (.d (.sl (.st 0)))), (125, (.d (.int .i64))), (126, (.d (.int .i64)))])) := by
  rw [mastref2_eachValue.l1]
  kernel_rfl
theorem mastref2_eachValue.f_eq (k : Nat) (a0 : T_api_Value) : mastref2_eachValue.f (k + 1) a0 = codeK (C := ctx) (mastref2_eachValue.O k) ⟨136, [], []⟩ (mastref2_eachValue.L k) (Tryd.f35.body.getD .skip) mastref2_eachValue.a (endK ctx [(.int .i64)] [(.tmp 2)]) (slotsOf sg.U 0 [(.d (.st 0))] (a0, ()) (empty sg.U)) := by
  rw [mastref2_eachValue.f]
  kernel_rfl
def mastref2_eachValue.T : List (Lb sg (RT sg.U [(.int .i64)])) := [⟨0, [(1, (.box [.d (.int .i64), .d .bool, .d (.int .i64), .d .str, .d (.sl (.st 0)), .d (.sl .str)])), (100, (.d (.sl .str))), (101, (.d (.int .i64))), (102, (.d (.int .i64)))], fun k h => mastref2_eachValue.l0 k h.1 h.2.1 h.2.2.1 h.2.2.2.1 h.2.2.2.2.1 h.2.2.2.2.2.1 h.2.2.2.2.2.2.1 h.2.2.2.2.2.2.2.1 h.2.2.2.2.2.2.2.2.1⟩, ⟨1, [(124, (.d (.sl (.st 0)))), (125, (.d (.int .i64))), (126, (.d (.int .i64)))], fun k h => mastref2_eachValue.l1 k h.1 h.2.1 h.2.2.1⟩]
theorem mastref2_eachValue.ok : ∀ k : Nat, (mastref2_eachValue.e k).Sound Tryd.prog ctx 35 :=
  entry_rec base_ok mo (fn := Tryd.f35) (b := (Tryd.f35.body.getD .skip)) (pm := [(.d (.st 0))]) (rs := [(.int .i64)]) (an := mastref2_eachValue.a) (N := 136) (vars := [(.tmp 2)]) Tryd.func35 (by kernel_rfl) (by kernel_rfl) (by kernel_rfl) (by kernel_rfl) (by kernel_rfl) (by kernel_rfl) (O := mastref2_eachValue.O) mastref2_eachValue.T ⟨⟨by kernel_rfl, fun _ => by first | rfl | rw [mastref2_eachValue.l0], fun k h => mastref2_eachValue.l0_eq k h.1 h.2.1 h.2.2.1 h.2.2.2.1 h.2.2.2.2.1 h.2.2.2.2.2.1 h.2.2.2.2.2.2.1 h.2.2.2.2.2.2.2.1 h.2.2.2.2.2.2.2.2.1⟩, ⟨⟨by kernel_rfl, fun _ => by first | rfl | rw [mastref2_eachValue.l1], fun k h => mastref2_eachValue.l1_eq k h.1 h.2.1 h.2.2.1⟩, trivial⟩⟩ (F := fun k h => mastref2_eachValue.f k h.1) (fun _ => by first | rfl | rw [mastref2_eachValue.f]) (fun k h => mastref2_eachValue.f_eq k h.1)
    (fun k own => by unfold mastref2_eachValue.O; exact oracle_of (P := Tryd.prog) (C := ctx) ⟨own, ⟨(mastref2_badByte.ok k), ⟨(mastref2_IsKey.ok), trivial⟩⟩⟩)
def mastref2_ConfCheck.f (k : Nat) (a0 : T_api_Value) : Option (Int) := ((mastref2_ValuesOf.f k (T_api_Value.mk a0.fKind a0.fBool a0.fInt a0.fText a0.fItems a0.fKeys)).bind fun y1 => (bif (ilt 1000 y1) then (some 4) else ((mastref2_LevelsOf.f k (T_api_Value.mk a0.fKind a0.fBool a0.fInt a0.fText a0.fItems a0.fKeys)).bind fun y2 => (bif (ilt 8 y2) then (some 13) else ((mastref2_eachValue.f k (T_api_Value.mk a0.fKind a0.fBool a0.fInt a0.fText a0.fItems a0.fKeys)).bind fun y3 => (some y3))))))
def mastref2_ConfCheck.O (k : Nat) : Oracle sg := fun n => lkp n [(33, mastref2_ValuesOf.e k), (34, mastref2_LevelsOf.e k), (35, mastref2_eachValue.e k)]
def mastref2_ConfCheck.a : Ann := .z
def mastref2_ConfCheck.L (k : Nat) : Nat → St sg.U → Option (RT sg.U [(.int .i64)]) := labs []
theorem mastref2_ConfCheck.f_eq (k : Nat) (a0 : T_api_Value) : mastref2_ConfCheck.f k a0 = codeK (C := ctx) (mastref2_ConfCheck.O k) ⟨11, [], []⟩ (mastref2_ConfCheck.L k) (Tryd.f16.body.getD .skip) mastref2_ConfCheck.a (endK ctx [(.int .i64)] [(.tmp 2)]) (slotsOf sg.U 0 [(.d (.st 0))] (a0, ()) (empty sg.U)) := by
  unfold mastref2_ConfCheck.f
  kernel_rfl
def mastref2_ConfCheck.e (k : Nat) : Entry sg := entryOf sg [(.d (.st 0))] [(.int .i64)] (fun h => mastref2_ConfCheck.f k h.1)
def mastref2_ConfCheck.T : List (Lb sg (RT sg.U [(.int .i64)])) := []
theorem mastref2_ConfCheck.ok (k : Nat) : (mastref2_ConfCheck.e k).Sound Tryd.prog ctx 16 :=
  entry_ok base_ok mo (fn := Tryd.f16) (b := (Tryd.f16.body.getD .skip)) (pm := [(.d (.st 0))]) (rs := [(.int .i64)]) (an := mastref2_ConfCheck.a) (N := 11) (vars := [(.tmp 2)]) Tryd.func16 (by kernel_rfl) (by kernel_rfl) (by kernel_rfl) (by kernel_rfl) (by kernel_rfl) (by kernel_rfl) (O := mastref2_ConfCheck.O)
    (fun k => by unfold mastref2_ConfCheck.O; exact oracle_of (P := Tryd.prog) (C := ctx) ⟨(mastref2_ValuesOf.ok k), ⟨(mastref2_LevelsOf.ok k), ⟨(mastref2_eachValue.ok k), trivial⟩⟩⟩) mastref2_ConfCheck.T trivial k (fun h => mastref2_ConfCheck.f_eq k h.1)
def slices_Index_string_string.l0 : Nat → (List ByteArray) → ByteArray → Int → Int → Option (Int)
  | 0, _, _, _, _ => none
  | k + 1, x0, x1, x7, x8 => (bif (ilt x8 x7) then ((lat x0 x8).bind fun y1 => (bif (seq x1 y1) then (some x8) else (slices_Index_string_string.l0 k x0 x1 x7 (wadd .i64 x8 1)))) else (some (-1)))
def slices_Index_string_string.f (k : Nat) (a0 : (List ByteArray)) (a1 : ByteArray) : Option (Int) := (slices_Index_string_string.l0 k a0 a1 (llen a0) 0)
def slices_Index_string_string.O (k : Nat) : Oracle sg := fun n => lkp n []
def slices_Index_string_string.a : Ann := (.n .z (.n (.n .z (.lp 0 .z)) .z))
def slices_Index_string_string.L (k : Nat) : Nat → St sg.U → Option (RT sg.U [(.int .i64)]) := labs [(0, labOf sg [(0, (.d (.sl .str))), (1, (.d .str)), (7, (.d (.int .i64))), (8, (.d (.int .i64)))] (fun h => slices_Index_string_string.l0 k h.1 h.2.1 h.2.2.1 h.2.2.2.1))]
theorem slices_Index_string_string.l0_eq (k : Nat) (x0 : (List ByteArray)) (x1 : ByteArray) (x7 : Int) (x8 : Int) : slices_Index_string_string.l0 (k + 1) x0 x1 x7 x8 = runFrom (C := ctx) (slices_Index_string_string.O k) ⟨19, [], []⟩ (slices_Index_string_string.L k) (Tryd.f52.body.getD .skip) slices_Index_string_string.a 0 (endK ctx [(.int .i64)] [(.tmp 4)]) (encD [(0, (.d (.sl .str))), (1, (.d .str)), (7, (.d (.int .i64))), (8, (.d (.int .i64)))] (x0, x1, x7, x8, ()) (startD sg.U ⟨19, [], []⟩ [(0, (.d (.sl .str))), (1, (.d .str)), (7, (.d (.int .i64))), (8, (.d (.int .i64)))])) := by
  rw [slices_Index_string_string.l0]
  kernel_rfl
theorem slices_Index_string_string.f_eq (k : Nat) (a0 : (List ByteArray)) (a1 : ByteArray) : slices_Index_string_string.f k a0 a1 = codeK (C := ctx) (slices_Index_string_string.O k) ⟨19, [], []⟩ (slices_Index_string_string.L k) (Tryd.f52.body.getD .skip) slices_Index_string_string.a (endK ctx [(.int .i64)] [(.tmp 4)]) (slotsOf sg.U 0 [(.d (.sl .str)), (.d .str)] (a0, a1, ()) (empty sg.U)) := by
  unfold slices_Index_string_string.f
  kernel_rfl
def slices_Index_string_string.e (k : Nat) : Entry sg := entryOf sg [(.d (.sl .str)), (.d .str)] [(.int .i64)] (fun h => slices_Index_string_string.f k h.1 h.2.1)
def slices_Index_string_string.T : List (Lb sg (RT sg.U [(.int .i64)])) := [⟨0, [(0, (.d (.sl .str))), (1, (.d .str)), (7, (.d (.int .i64))), (8, (.d (.int .i64)))], fun k h => slices_Index_string_string.l0 k h.1 h.2.1 h.2.2.1 h.2.2.2.1⟩]
theorem slices_Index_string_string.ok (k : Nat) : (slices_Index_string_string.e k).Sound Tryd.prog ctx 52 :=
  entry_ok base_ok mo (fn := Tryd.f52) (b := (Tryd.f52.body.getD .skip)) (pm := [(.d (.sl .str)), (.d .str)]) (rs := [(.int .i64)]) (an := slices_Index_string_string.a) (N := 19) (vars := [(.tmp 4)]) Tryd.func52 (by kernel_rfl) (by kernel_rfl) (by kernel_rfl) (by kernel_rfl) (by kernel_rfl) (by kernel_rfl) (O := slices_Index_string_string.O)
    (fun k => by unfold slices_Index_string_string.O; exact oracle_of (P := Tryd.prog) (C := ctx) trivial) slices_Index_string_string.T ⟨⟨by kernel_rfl, fun _ => by first | rfl | rw [slices_Index_string_string.l0], fun k h => slices_Index_string_string.l0_eq k h.1 h.2.1 h.2.2.1 h.2.2.2.1⟩, trivial⟩ k (fun h => slices_Index_string_string.f_eq k h.1 h.2.1)
def mastref2_has.f (k : Nat) (a0 : T_api_Value) (a1 : ByteArray) : Option (T_api_Value × Bool) := ((slices_Index_string_string.f k a0.fKeys a1).bind fun y1 => (bif (bif (bif (!ieq a0.fKind 6) then true else (ilt y1 0)) then true else (ile (llen a0.fItems) y1)) then (some ((T_api_Value.mk 0 false 0 c_empty [] []), false)) else ((lat a0.fItems y1).bind fun y2 => (some ((T_api_Value.mk y2.fKind y2.fBool y2.fInt y2.fText y2.fItems y2.fKeys), true)))))
def mastref2_has.O (k : Nat) : Oracle sg := fun n => lkp n [(52, slices_Index_string_string.e k)]
def mastref2_has.a : Ann := .z
def mastref2_has.L (k : Nat) : Nat → St sg.U → Option (RT sg.U [(.st 0), .bool]) := labs []
theorem mastref2_has.f_eq (k : Nat) (a0 : T_api_Value) (a1 : ByteArray) : mastref2_has.f k a0 a1 = codeK (C := ctx) (mastref2_has.O k) ⟨31, [], []⟩ (mastref2_has.L k) (Tryd.f24.body.getD .skip) mastref2_has.a (endK ctx [(.st 0), .bool] [(.cell 4 25), (.tmp 5)]) (slotsOf sg.U 0 [(.d (.st 0)), (.d .str)] (a0, a1, ()) (empty sg.U)) := by
  unfold mastref2_has.f
  kernel_rfl
def mastref2_has.e (k : Nat) : Entry sg := entryOf sg [(.d (.st 0)), (.d .str)] [(.st 0), .bool] (fun h => mastref2_has.f k h.1 h.2.1)
def mastref2_has.T : List (Lb sg (RT sg.U [(.st 0), .bool])) := []
theorem mastref2_has.ok (k : Nat) : (mastref2_has.e k).Sound Tryd.prog ctx 24 :=
  entry_ok base_ok mo (fn := Tryd.f24) (b := (Tryd.f24.body.getD .skip)) (pm := [(.d (.st 0)), (.d .str)]) (rs := [(.st 0), .bool]) (an := mastref2_has.a) (N := 31) (vars := [(.cell 4 25), (.tmp 5)]) Tryd.func24 (by kernel_rfl) (by kernel_rfl) (by kernel_rfl) (by kernel_rfl) (by kernel_rfl) (by kernel_rfl) (O := mastref2_has.O)
    (fun k => by unfold mastref2_has.O; exact oracle_of (P := Tryd.prog) (C := ctx) ⟨(slices_Index_string_string.ok k), trivial⟩) mastref2_has.T trivial k (fun h => mastref2_has.f_eq k h.1 h.2.1)
def mastref2_HiddenOn.l0 : Nat → Int → Int → Bool → Int → ByteArray → (List T_api_Value) → (List ByteArray) → Int → Bool → Int → ByteArray → (List T_api_Value) → (List ByteArray) → Option (Bool)
  | 0, _, _, _, _, _, _, _, _, _, _, _, _, _ => none
  | k + 1, x1, x2_0, x2_1, x2_2, x2_3, x2_4, x2_5, x7_0, x7_1, x7_2, x7_3, x7_4, x7_5 => (bif (bif (ieq x7_0 4) then (ilt x1 x7_2) else false) then (some true) else ((mastref2_has.f k (T_api_Value.mk x2_0 x2_1 x2_2 x2_3 x2_4 x2_5) c_expire).bind fun y5 => (some (bif (ieq y5.1.fKind 4) then (ile y5.1.fInt x1) else false))))
def mastref2_HiddenOn.f (k : Nat) (a0 : T_api_Value) (a1 : Int) : Option (Bool) := ((mastref2_ConfCheck.f k (T_api_Value.mk a0.fKind a0.fBool a0.fInt a0.fText a0.fItems a0.fKeys)).bind fun y1 => (bif (bif (!ieq y1 0) then true else (!ieq a0.fKind 6)) then (some false) else ((mastref2_has.f k (T_api_Value.mk a0.fKind a0.fBool a0.fInt a0.fText a0.fItems a0.fKeys) c_draft).bind fun y2 => (bif (bif (ieq y2.1.fKind 1) then y2.1.fBool else false) then (some true) else ((mastref2_has.f k (T_api_Value.mk a0.fKind a0.fBool a0.fInt a0.fText a0.fItems a0.fKeys) c_publish).bind fun y3 => (bif (!ieq y3.1.fKind 4) then ((mastref2_has.f k (T_api_Value.mk a0.fKind a0.fBool a0.fInt a0.fText a0.fItems a0.fKeys) c_date).bind fun y4 => (mastref2_HiddenOn.l0 k a1 a0.fKind a0.fBool a0.fInt a0.fText a0.fItems a0.fKeys y4.1.fKind y4.1.fBool y4.1.fInt y4.1.fText y4.1.fItems y4.1.fKeys)) else (mastref2_HiddenOn.l0 k a1 a0.fKind a0.fBool a0.fInt a0.fText a0.fItems a0.fKeys y3.1.fKind y3.1.fBool y3.1.fInt y3.1.fText y3.1.fItems y3.1.fKeys)))))))
def mastref2_HiddenOn.O (k : Nat) : Oracle sg := fun n => lkp n [(16, mastref2_ConfCheck.e k), (24, mastref2_has.e k)]
def mastref2_HiddenOn.a : Ann := (.n .z (.n .z (.n .z (.n .z (.n .z (.lab 0 .z))))))
def mastref2_HiddenOn.L (k : Nat) : Nat → St sg.U → Option (RT sg.U [.bool]) := labs [(0, labOf sg [(1, (.d (.int .i64))), (2, (.box [.d (.int .i64), .d .bool, .d (.int .i64), .d .str, .d (.sl (.st 0)), .d (.sl .str)])), (7, (.box [.d (.int .i64), .d .bool, .d (.int .i64), .d .str, .d (.sl (.st 0)), .d (.sl .str)]))] (fun h => mastref2_HiddenOn.l0 k h.1 h.2.1 h.2.2.1 h.2.2.2.1 h.2.2.2.2.1 h.2.2.2.2.2.1 h.2.2.2.2.2.2.1 h.2.2.2.2.2.2.2.1 h.2.2.2.2.2.2.2.2.1 h.2.2.2.2.2.2.2.2.2.1 h.2.2.2.2.2.2.2.2.2.2.1 h.2.2.2.2.2.2.2.2.2.2.2.1 h.2.2.2.2.2.2.2.2.2.2.2.2.1))]
theorem mastref2_HiddenOn.l0_eq (k : Nat) (x1 : Int) (x2_0 : Int) (x2_1 : Bool) (x2_2 : Int) (x2_3 : ByteArray) (x2_4 : (List T_api_Value)) (x2_5 : (List ByteArray)) (x7_0 : Int) (x7_1 : Bool) (x7_2 : Int) (x7_3 : ByteArray) (x7_4 : (List T_api_Value)) (x7_5 : (List ByteArray)) : mastref2_HiddenOn.l0 (k + 1) x1 x2_0 x2_1 x2_2 x2_3 x2_4 x2_5 x7_0 x7_1 x7_2 x7_3 x7_4 x7_5 = runFrom (C := ctx) (mastref2_HiddenOn.O k) ⟨67, [], []⟩ (mastref2_HiddenOn.L k) (Tryd.f10.body.getD .skip) mastref2_HiddenOn.a 0 (endK ctx [.bool] [(.tmp 4)]) (encD [(1, (.d (.int .i64))), (2, (.box [.d (.int .i64), .d .bool, .d (.int .i64), .d .str, .d (.sl (.st 0)), .d (.sl .str)])), (7, (.box [.d (.int .i64), .d .bool, .d (.int .i64), .d .str, .d (.sl (.st 0)), .d (.sl .str)]))] (x1, x2_0, x2_1, x2_2, x2_3, x2_4, x2_5, x7_0, x7_1, x7_2, x7_3, x7_4, x7_5, ()) (startD sg.U ⟨67, [], []⟩ [(1, (.d (.int .i64))), (2, (.box [.d (.int .i64), .d .bool, .d (.int .i64), .d .str, .d (.sl (.st 0)), .d (.sl .str)])), (7, (.box [.d (.int .i64), .d .bool, .d (.int .i64), .d .str, .d (.sl (.st 0)), .d (.sl .str)]))])) := by
  rw [mastref2_HiddenOn.l0]
  kernel_rfl
theorem mastref2_HiddenOn.f_eq (k : Nat) (a0 : T_api_Value) (a1 : Int) : mastref2_HiddenOn.f k a0 a1 = codeK (C := ctx) (mastref2_HiddenOn.O k) ⟨67, [], []⟩ (mastref2_HiddenOn.L k) (Tryd.f10.body.getD .skip) mastref2_HiddenOn.a (endK ctx [.bool] [(.tmp 4)]) (slotsOf sg.U 0 [(.d (.st 0)), (.d (.int .i64))] (a0, a1, ()) (empty sg.U)) := by
  unfold mastref2_HiddenOn.f
  kernel_rfl
def mastref2_HiddenOn.e (k : Nat) : Entry sg := entryOf sg [(.d (.st 0)), (.d (.int .i64))] [.bool] (fun h => mastref2_HiddenOn.f k h.1 h.2.1)
def mastref2_HiddenOn.T : List (Lb sg (RT sg.U [.bool])) := [⟨0, [(1, (.d (.int .i64))), (2, (.box [.d (.int .i64), .d .bool, .d (.int .i64), .d .str, .d (.sl (.st 0)), .d (.sl .str)])), (7, (.box [.d (.int .i64), .d .bool, .d (.int .i64), .d .str, .d (.sl (.st 0)), .d (.sl .str)]))], fun k h => mastref2_HiddenOn.l0 k h.1 h.2.1 h.2.2.1 h.2.2.2.1 h.2.2.2.2.1 h.2.2.2.2.2.1 h.2.2.2.2.2.2.1 h.2.2.2.2.2.2.2.1 h.2.2.2.2.2.2.2.2.1 h.2.2.2.2.2.2.2.2.2.1 h.2.2.2.2.2.2.2.2.2.2.1 h.2.2.2.2.2.2.2.2.2.2.2.1 h.2.2.2.2.2.2.2.2.2.2.2.2.1⟩]
theorem mastref2_HiddenOn.ok (k : Nat) : (mastref2_HiddenOn.e k).Sound Tryd.prog ctx 10 :=
  entry_ok base_ok mo (fn := Tryd.f10) (b := (Tryd.f10.body.getD .skip)) (pm := [(.d (.st 0)), (.d (.int .i64))]) (rs := [.bool]) (an := mastref2_HiddenOn.a) (N := 67) (vars := [(.tmp 4)]) Tryd.func10 (by kernel_rfl) (by kernel_rfl) (by kernel_rfl) (by kernel_rfl) (by kernel_rfl) (by kernel_rfl) (O := mastref2_HiddenOn.O)
    (fun k => by unfold mastref2_HiddenOn.O; exact oracle_of (P := Tryd.prog) (C := ctx) ⟨(mastref2_ConfCheck.ok k), ⟨(mastref2_has.ok k), trivial⟩⟩) mastref2_HiddenOn.T ⟨⟨by kernel_rfl, fun _ => by first | rfl | rw [mastref2_HiddenOn.l0], fun k h => mastref2_HiddenOn.l0_eq k h.1 h.2.1 h.2.2.1 h.2.2.2.1 h.2.2.2.2.1 h.2.2.2.2.2.1 h.2.2.2.2.2.2.1 h.2.2.2.2.2.2.2.1 h.2.2.2.2.2.2.2.2.1 h.2.2.2.2.2.2.2.2.2.1 h.2.2.2.2.2.2.2.2.2.2.1 h.2.2.2.2.2.2.2.2.2.2.2.1 h.2.2.2.2.2.2.2.2.2.2.2.2.1⟩, trivial⟩ k (fun h => mastref2_HiddenOn.f_eq k h.1 h.2.1)
def mastlaw2_TreeHides.f (k : Nat) (a0 : T_api_Value) (a1 : Int) : Option (Bool) := ((tree_Hidden.f k (T_api_Value.mk a0.fKind a0.fBool a0.fInt a0.fText a0.fItems a0.fKeys) a1).bind fun y1 => ((mastref2_HiddenOn.f k (T_api_Value.mk a0.fKind a0.fBool a0.fInt a0.fText a0.fItems a0.fKeys) a1).bind fun y2 => (some (y1 == y2))))
def mastlaw2_TreeHides.O (k : Nat) : Oracle sg := fun n => lkp n [(9, tree_Hidden.e k), (10, mastref2_HiddenOn.e k)]
def mastlaw2_TreeHides.a : Ann := .z
def mastlaw2_TreeHides.L (k : Nat) : Nat → St sg.U → Option (RT sg.U [.bool]) := labs []
theorem mastlaw2_TreeHides.f_eq (k : Nat) (a0 : T_api_Value) (a1 : Int) : mastlaw2_TreeHides.f k a0 a1 = codeK (C := ctx) (mastlaw2_TreeHides.O k) ⟨12, [], []⟩ (mastlaw2_TreeHides.L k) (Tryd.f3.body.getD .skip) mastlaw2_TreeHides.a (endK ctx [.bool] [(.tmp 4)]) (slotsOf sg.U 0 [(.d (.st 0)), (.d (.int .i64))] (a0, a1, ()) (empty sg.U)) := by
  unfold mastlaw2_TreeHides.f
  kernel_rfl
def mastlaw2_TreeHides.e (k : Nat) : Entry sg := entryOf sg [(.d (.st 0)), (.d (.int .i64))] [.bool] (fun h => mastlaw2_TreeHides.f k h.1 h.2.1)
def mastlaw2_TreeHides.T : List (Lb sg (RT sg.U [.bool])) := []
theorem mastlaw2_TreeHides.ok (k : Nat) : (mastlaw2_TreeHides.e k).Sound Tryd.prog ctx 3 :=
  entry_ok base_ok mo (fn := Tryd.f3) (b := (Tryd.f3.body.getD .skip)) (pm := [(.d (.st 0)), (.d (.int .i64))]) (rs := [.bool]) (an := mastlaw2_TreeHides.a) (N := 12) (vars := [(.tmp 4)]) Tryd.func3 (by kernel_rfl) (by kernel_rfl) (by kernel_rfl) (by kernel_rfl) (by kernel_rfl) (by kernel_rfl) (O := mastlaw2_TreeHides.O)
    (fun k => by unfold mastlaw2_TreeHides.O; exact oracle_of (P := Tryd.prog) (C := ctx) ⟨(tree_Hidden.ok k), ⟨(mastref2_HiddenOn.ok k), trivial⟩⟩) mastlaw2_TreeHides.T trivial k (fun h => mastlaw2_TreeHides.f_eq k h.1 h.2.1)
end Go.Proofs.YtdffbjbpolhliaaDoor.LTreeHides
