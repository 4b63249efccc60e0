/- The functions behind the law ListItems, checked against the code; their summaries hold. Conditions: none. -/
import Derived.Test.YtdffbjbpolhliaaDoorLiftZ
import Derived.Test.YtdffbjbpolhliaaDoorProg
import Derived.Test.YtdffbjbpolhliaaDoorShelf
import Derived.Shelf.Strings.SlTrimAscii
namespace Go.Proofs.YtdffbjbpolhliaaDoor.LListItems
open Go Go.Proofs.YtdffbjbpolhliaaDoor.Lift
set_option maxRecDepth 100000
set_option linter.unusedVariables false
structure T_api_Value where
  fKind : Int
  fBool : Bool
  fInt : Int
  fText : ByteArray
  fItems : (List T_api_Value)
  fKeys : (List ByteArray)
  deriving Inhabited
abbrev sgU : Nat → Type
  | 0 => T_api_Value
  | _ + 1 => Unit
abbrev sgF : Nat → List Ty
  | 0 => [(.int .i64), .bool, (.int .i64), .str, (.sl (.st 0)), (.sl .str)]
  | _ + 1 => []
def sgO : (n : Nat) → sgU n → HL sgU (sgF n)
  | 0, x => (x.fKind, x.fBool, x.fInt, x.fText, x.fItems, x.fKeys, ())
  | _ + 1, _ => ()
def sgB : (n : Nat) → HL sgU (sgF n) → sgU n
  | 0, h => ⟨h.1, h.2.1, h.2.2.1, h.2.2.2.1, h.2.2.2.2.1, h.2.2.2.2.2.1⟩
  | _ + 1, _ => ()
def sg : Sg := { U := sgU, fl := sgF, out := sgO, bld := sgB }
def ctx : Ctx := { S := sg, ty := [(3, .d (.int .i64) 1 0), (4, .d .bool 1 0), (5, .d (.int .u8) 1 0), (9, .d .str 1 0), (22, .d (.sl (.st 0)) 88 25), (23, .d (.sl .str) 16 9), (25, .d (.st 0) 1 0), (30, .d (.int .i64) 1 0)], eqs := [] }
def c_empty : ByteArray := ⟨#[]⟩
def c_abcdefghijklmnopqrst_0e2e2cf4 : ByteArray := ⟨#[97, 98, 99, 100, 101, 102, 103, 104, 105, 106, 107, 108, 109, 110, 111, 112, 113, 114, 115, 116, 117, 118, 119, 120, 121, 122, 48, 49, 50, 51, 52, 53, 54, 55, 56, 57, 45, 95]⟩
theorem sg_ok : SgOk sg :=
  ⟨fun n h => by rcases n with _ | n <;> rfl, fun n => by rcases n with _ | n <;> rfl, fun n x => by rcases n with _ | n <;> rfl, fun n => by rcases n with _ | n <;> rfl⟩
theorem base_ok : Base Tryd.prog ctx := base_of sg_ok (by kernel_rfl) (eqOk_of (by kernel_rfl))
theorem open_ok : openB Tryd.prog ctx = true := by kernel_rfl
theorem mo : Tryd.prog.follows .mixedOrders = true := by kernel_rfl
mutual
def list_count.l0 : Nat → Int → (List T_api_Value) → Int → Int → Option (Int)
  | 0, _, _, _, _ => none
  | k + 1, x3, x7, x8, x9 => (bif (ilt x9 x8) then ((lat x7 x9).bind fun y1 => (bif (ilt 5000 x3) then (some x3) else ((list_count.f k (T_api_Value.mk y1.fKind y1.fBool y1.fInt y1.fText y1.fItems y1.fKeys)).bind fun y2 => (list_count.l0 k (wadd .i64 x3 y2) x7 x8 (wadd .i64 x9 1))))) else (some x3))
def list_count.f : Nat → T_api_Value → Option (Int)
  | 0, _ => none
  | k + 1, a0 => (list_count.l0 k 1 a0.fItems (llen a0.fItems) 0)
end
def list_count.e (k : Nat) : Entry sg := entryOf sg [(.d (.st 0))] [(.int .i64)] (fun h => list_count.f k h.1)
def list_count.O (k : Nat) : Oracle sg := fun n => lkp n [(30, list_count.e k)]
def list_count.a : Ann := (.n .z (.n .z (.n (.n .z (.lp 0 .z)) .z)))
def list_count.L (k : Nat) : Nat → St sg.U → Option (RT sg.U [(.int .i64)]) := labs [(0, labOf sg [(3, (.d (.int .i64))), (7, (.d (.sl (.st 0)))), (8, (.d (.int .i64))), (9, (.d (.int .i64)))] (fun h => list_count.l0 k h.1 h.2.1 h.2.2.1 h.2.2.2.1))]
theorem list_count.l0_eq (k : Nat) (x3 : Int) (x7 : (List T_api_Value)) (x8 : Int) (x9 : Int) : list_count.l0 (k + 1) x3 x7 x8 x9 = runFrom (C := ctx) (list_count.O k) ⟨21, [], []⟩ (list_count.L k) (Tryd.f30.body.getD .skip) list_count.a 0 (endK ctx [(.int .i64)] [(.tmp 2)]) (encD [(3, (.d (.int .i64))), (7, (.d (.sl (.st 0)))), (8, (.d (.int .i64))), (9, (.d (.int .i64)))] (x3, x7, x8, x9, ()) (startD sg.U ⟨21, [], []⟩ [(3, (.d (.int .i64))), (7, (.d (.sl (.st 0)))), (8, (.d (.int .i64))), (9, (.d (.int .i64)))])) := by
  rw [list_count.l0]
  kernel_rfl
theorem list_count.f_eq (k : Nat) (a0 : T_api_Value) : list_count.f (k + 1) a0 = codeK (C := ctx) (list_count.O k) ⟨21, [], []⟩ (list_count.L k) (Tryd.f30.body.getD .skip) list_count.a (endK ctx [(.int .i64)] [(.tmp 2)]) (slotsOf sg.U 0 [(.d (.st 0))] (a0, ()) (empty sg.U)) := by
  rw [list_count.f]
  kernel_rfl
def list_count.T : List (Lb sg (RT sg.U [(.int .i64)])) := [⟨0, [(3, (.d (.int .i64))), (7, (.d (.sl (.st 0)))), (8, (.d (.int .i64))), (9, (.d (.int .i64)))], fun k h => list_count.l0 k h.1 h.2.1 h.2.2.1 h.2.2.2.1⟩]
theorem list_count.ok : ∀ k : Nat, (list_count.e k).Sound Tryd.prog ctx 30 :=
  entry_rec base_ok mo (fn := Tryd.f30) (b := (Tryd.f30.body.getD .skip)) (pm := [(.d (.st 0))]) (rs := [(.int .i64)]) (an := list_count.a) (N := 21) (vars := [(.tmp 2)]) Tryd.func30 (by kernel_rfl) (by kernel_rfl) (by kernel_rfl) (by kernel_rfl) (by kernel_rfl) (by kernel_rfl) (O := list_count.O) list_count.T ⟨⟨by kernel_rfl, fun _ => by first | rfl | rw [list_count.l0], fun k h => list_count.l0_eq k h.1 h.2.1 h.2.2.1 h.2.2.2.1⟩, trivial⟩ (F := fun k h => list_count.f k h.1) (fun _ => by first | rfl | rw [list_count.f]) (fun k h => list_count.f_eq k h.1)
    (fun k own => by unfold list_count.O; exact oracle_of (P := Tryd.prog) (C := ctx) ⟨own, trivial⟩)
mutual
def list_levels.l0 : Nat → Int → (List T_api_Value) → Int → Int → Option (Int)
  | 0, _, _, _, _ => none
  | k + 1, x3, x7, x8, x9 => (bif (ilt x9 x8) then ((lat x7 x9).bind fun y1 => ((list_levels.f k (T_api_Value.mk y1.fKind y1.fBool y1.fInt y1.fText y1.fItems y1.fKeys)).bind fun y2 => (list_levels.l0 k (imax x3 y2) x7 x8 (wadd .i64 x9 1)))) else (some (wadd .i64 x3 1)))
def list_levels.f : Nat → T_api_Value → Option (Int)
  | 0, _ => none
  | k + 1, a0 => (list_levels.l0 k 0 a0.fItems (llen a0.fItems) 0)
end
def list_levels.e (k : Nat) : Entry sg := entryOf sg [(.d (.st 0))] [(.int .i64)] (fun h => list_levels.f k h.1)
def list_levels.O (k : Nat) : Oracle sg := fun n => lkp n [(31, list_levels.e k)]
def list_levels.a : Ann := (.n .z (.n .z (.n (.n .z (.lp 0 .z)) .z)))
def list_levels.L (k : Nat) : Nat → St sg.U → Option (RT sg.U [(.int .i64)]) := labs [(0, labOf sg [(3, (.d (.int .i64))), (7, (.d (.sl (.st 0)))), (8, (.d (.int .i64))), (9, (.d (.int .i64)))] (fun h => list_levels.l0 k h.1 h.2.1 h.2.2.1 h.2.2.2.1))]
theorem list_levels.l0_eq (k : Nat) (x3 : Int) (x7 : (List T_api_Value)) (x8 : Int) (x9 : Int) : list_levels.l0 (k + 1) x3 x7 x8 x9 = runFrom (C := ctx) (list_levels.O k) ⟨20, [], []⟩ (list_levels.L k) (Tryd.f31.body.getD .skip) list_levels.a 0 (endK ctx [(.int .i64)] [(.tmp 2)]) (encD [(3, (.d (.int .i64))), (7, (.d (.sl (.st 0)))), (8, (.d (.int .i64))), (9, (.d (.int .i64)))] (x3, x7, x8, x9, ()) (startD sg.U ⟨20, [], []⟩ [(3, (.d (.int .i64))), (7, (.d (.sl (.st 0)))), (8, (.d (.int .i64))), (9, (.d (.int .i64)))])) := by
  rw [list_levels.l0]
  kernel_rfl
theorem list_levels.f_eq (k : Nat) (a0 : T_api_Value) : list_levels.f (k + 1) a0 = codeK (C := ctx) (list_levels.O k) ⟨20, [], []⟩ (list_levels.L k) (Tryd.f31.body.getD .skip) list_levels.a (endK ctx [(.int .i64)] [(.tmp 2)]) (slotsOf sg.U 0 [(.d (.st 0))] (a0, ()) (empty sg.U)) := by
  rw [list_levels.f]
  kernel_rfl
def list_levels.T : List (Lb sg (RT sg.U [(.int .i64)])) := [⟨0, [(3, (.d (.int .i64))), (7, (.d (.sl (.st 0)))), (8, (.d (.int .i64))), (9, (.d (.int .i64)))], fun k h => list_levels.l0 k h.1 h.2.1 h.2.2.1 h.2.2.2.1⟩]
theorem list_levels.ok : ∀ k : Nat, (list_levels.e k).Sound Tryd.prog ctx 31 :=
  entry_rec base_ok mo (fn := Tryd.f31) (b := (Tryd.f31.body.getD .skip)) (pm := [(.d (.st 0))]) (rs := [(.int .i64)]) (an := list_levels.a) (N := 20) (vars := [(.tmp 2)]) Tryd.func31 (by kernel_rfl) (by kernel_rfl) (by kernel_rfl) (by kernel_rfl) (by kernel_rfl) (by kernel_rfl) (O := list_levels.O) list_levels.T ⟨⟨by kernel_rfl, fun _ => by first | rfl | rw [list_levels.l0], fun k h => list_levels.l0_eq k h.1 h.2.1 h.2.2.1 h.2.2.2.1⟩, trivial⟩ (F := fun k h => list_levels.f k h.1) (fun _ => by first | rfl | rw [list_levels.f]) (fun k h => list_levels.f_eq k h.1)
    (fun k own => by unfold list_levels.O; exact oracle_of (P := Tryd.prog) (C := ctx) ⟨own, trivial⟩)
mutual
def conf_count.l0 : Nat → Int → (List T_api_Value) → Int → Int → Option (Int)
  | 0, _, _, _, _ => none
  | k + 1, x3, x7, x8, x9 => (bif (ilt x9 x8) then ((lat x7 x9).bind fun y1 => (bif (ilt 1000 x3) then (some x3) else ((conf_count.f k (T_api_Value.mk y1.fKind y1.fBool y1.fInt y1.fText y1.fItems y1.fKeys)).bind fun y2 => (conf_count.l0 k (wadd .i64 x3 y2) x7 x8 (wadd .i64 x9 1))))) else (some x3))
def conf_count.f : Nat → T_api_Value → Option (Int)
  | 0, _ => none
  | k + 1, a0 => (conf_count.l0 k 1 a0.fItems (llen a0.fItems) 0)
end
def conf_count.e (k : Nat) : Entry sg := entryOf sg [(.d (.st 0))] [(.int .i64)] (fun h => conf_count.f k h.1)
def conf_count.O (k : Nat) : Oracle sg := fun n => lkp n [(37, conf_count.e k)]
def conf_count.a : Ann := (.n .z (.n .z (.n (.n .z (.lp 0 .z)) .z)))
def conf_count.L (k : Nat) : Nat → St sg.U → Option (RT sg.U [(.int .i64)]) := labs [(0, labOf sg [(3, (.d (.int .i64))), (7, (.d (.sl (.st 0)))), (8, (.d (.int .i64))), (9, (.d (.int .i64)))] (fun h => conf_count.l0 k h.1 h.2.1 h.2.2.1 h.2.2.2.1))]
theorem conf_count.l0_eq (k : Nat) (x3 : Int) (x7 : (List T_api_Value)) (x8 : Int) (x9 : Int) : conf_count.l0 (k + 1) x3 x7 x8 x9 = runFrom (C := ctx) (conf_count.O k) ⟨21, [], []⟩ (conf_count.L k) (Tryd.f37.body.getD .skip) conf_count.a 0 (endK ctx [(.int .i64)] [(.tmp 2)]) (encD [(3, (.d (.int .i64))), (7, (.d (.sl (.st 0)))), (8, (.d (.int .i64))), (9, (.d (.int .i64)))] (x3, x7, x8, x9, ()) (startD sg.U ⟨21, [], []⟩ [(3, (.d (.int .i64))), (7, (.d (.sl (.st 0)))), (8, (.d (.int .i64))), (9, (.d (.int .i64)))])) := by
  rw [conf_count.l0]
  kernel_rfl
theorem conf_count.f_eq (k : Nat) (a0 : T_api_Value) : conf_count.f (k + 1) a0 = codeK (C := ctx) (conf_count.O k) ⟨21, [], []⟩ (conf_count.L k) (Tryd.f37.body.getD .skip) conf_count.a (endK ctx [(.int .i64)] [(.tmp 2)]) (slotsOf sg.U 0 [(.d (.st 0))] (a0, ()) (empty sg.U)) := by
  rw [conf_count.f]
  kernel_rfl
def conf_count.T : List (Lb sg (RT sg.U [(.int .i64)])) := [⟨0, [(3, (.d (.int .i64))), (7, (.d (.sl (.st 0)))), (8, (.d (.int .i64))), (9, (.d (.int .i64)))], fun k h => conf_count.l0 k h.1 h.2.1 h.2.2.1 h.2.2.2.1⟩]
theorem conf_count.ok : ∀ k : Nat, (conf_count.e k).Sound Tryd.prog ctx 37 :=
  entry_rec base_ok mo (fn := Tryd.f37) (b := (Tryd.f37.body.getD .skip)) (pm := [(.d (.st 0))]) (rs := [(.int .i64)]) (an := conf_count.a) (N := 21) (vars := [(.tmp 2)]) Tryd.func37 (by kernel_rfl) (by kernel_rfl) (by kernel_rfl) (by kernel_rfl) (by kernel_rfl) (by kernel_rfl) (O := conf_count.O) conf_count.T ⟨⟨by kernel_rfl, fun _ => by first | rfl | rw [conf_count.l0], fun k h => conf_count.l0_eq k h.1 h.2.1 h.2.2.1 h.2.2.2.1⟩, trivial⟩ (F := fun k h => conf_count.f k h.1) (fun _ => by first | rfl | rw [conf_count.f]) (fun k h => conf_count.f_eq k h.1)
    (fun k own => by unfold conf_count.O; exact oracle_of (P := Tryd.prog) (C := ctx) ⟨own, trivial⟩)
mutual
def conf_levels.l0 : Nat → Int → (List T_api_Value) → Int → Int → Option (Int)
  | 0, _, _, _, _ => none
  | k + 1, x3, x7, x8, x9 => (bif (ilt x9 x8) then ((lat x7 x9).bind fun y1 => ((conf_levels.f k (T_api_Value.mk y1.fKind y1.fBool y1.fInt y1.fText y1.fItems y1.fKeys)).bind fun y2 => (conf_levels.l0 k (imax x3 y2) x7 x8 (wadd .i64 x9 1)))) else (some (wadd .i64 x3 1)))
def conf_levels.f : Nat → T_api_Value → Option (Int)
  | 0, _ => none
  | k + 1, a0 => (conf_levels.l0 k 0 a0.fItems (llen a0.fItems) 0)
end
def conf_levels.e (k : Nat) : Entry sg := entryOf sg [(.d (.st 0))] [(.int .i64)] (fun h => conf_levels.f k h.1)
def conf_levels.O (k : Nat) : Oracle sg := fun n => lkp n [(38, conf_levels.e k)]
def conf_levels.a : Ann := (.n .z (.n .z (.n (.n .z (.lp 0 .z)) .z)))
def conf_levels.L (k : Nat) : Nat → St sg.U → Option (RT sg.U [(.int .i64)]) := labs [(0, labOf sg [(3, (.d (.int .i64))), (7, (.d (.sl (.st 0)))), (8, (.d (.int .i64))), (9, (.d (.int .i64)))] (fun h => conf_levels.l0 k h.1 h.2.1 h.2.2.1 h.2.2.2.1))]
theorem conf_levels.l0_eq (k : Nat) (x3 : Int) (x7 : (List T_api_Value)) (x8 : Int) (x9 : Int) : conf_levels.l0 (k + 1) x3 x7 x8 x9 = runFrom (C := ctx) (conf_levels.O k) ⟨20, [], []⟩ (conf_levels.L k) (Tryd.f38.body.getD .skip) conf_levels.a 0 (endK ctx [(.int .i64)] [(.tmp 2)]) (encD [(3, (.d (.int .i64))), (7, (.d (.sl (.st 0)))), (8, (.d (.int .i64))), (9, (.d (.int .i64)))] (x3, x7, x8, x9, ()) (startD sg.U ⟨20, [], []⟩ [(3, (.d (.int .i64))), (7, (.d (.sl (.st 0)))), (8, (.d (.int .i64))), (9, (.d (.int .i64)))])) := by
  rw [conf_levels.l0]
  kernel_rfl
theorem conf_levels.f_eq (k : Nat) (a0 : T_api_Value) : conf_levels.f (k + 1) a0 = codeK (C := ctx) (conf_levels.O k) ⟨20, [], []⟩ (conf_levels.L k) (Tryd.f38.body.getD .skip) conf_levels.a (endK ctx [(.int .i64)] [(.tmp 2)]) (slotsOf sg.U 0 [(.d (.st 0))] (a0, ()) (empty sg.U)) := by
  rw [conf_levels.f]
  kernel_rfl
def conf_levels.T : List (Lb sg (RT sg.U [(.int .i64)])) := [⟨0, [(3, (.d (.int .i64))), (7, (.d (.sl (.st 0)))), (8, (.d (.int .i64))), (9, (.d (.int .i64)))], fun k h => conf_levels.l0 k h.1 h.2.1 h.2.2.1 h.2.2.2.1⟩]
theorem conf_levels.ok : ∀ k : Nat, (conf_levels.e k).Sound Tryd.prog ctx 38 :=
  entry_rec base_ok mo (fn := Tryd.f38) (b := (Tryd.f38.body.getD .skip)) (pm := [(.d (.st 0))]) (rs := [(.int .i64)]) (an := conf_levels.a) (N := 20) (vars := [(.tmp 2)]) Tryd.func38 (by kernel_rfl) (by kernel_rfl) (by kernel_rfl) (by kernel_rfl) (by kernel_rfl) (by kernel_rfl) (O := conf_levels.O) conf_levels.T ⟨⟨by kernel_rfl, fun _ => by first | rfl | rw [conf_levels.l0], fun k h => conf_levels.l0_eq k h.1 h.2.1 h.2.2.1 h.2.2.2.1⟩, trivial⟩ (F := fun k h => conf_levels.f k h.1) (fun _ => by first | rfl | rw [conf_levels.f]) (fun k h => conf_levels.f_eq k h.1)
    (fun k own => by unfold conf_levels.O; exact oracle_of (P := Tryd.prog) (C := ctx) ⟨own, trivial⟩)
def conf_unused.l0 : Nat → Int → Bool → Int → ByteArray → (List T_api_Value) → (List ByteArray) → Int → Bool → Option (Bool)
  | 0, _, _, _, _, _, _, _, _ => none
  | k + 1, x1_0, x1_1, x1_2, x1_3, x1_4, x1_5, x3, x6 => (bif x6 then (some true) else (bif (bif (bif (ilt 0 (llen x1_4)) then (!ieq x3 5) else false) then (!ieq x3 6) else false) then (some true) else (bif (bif (ilt 0 (llen x1_5)) then (!ieq x3 6) else false) then (some true) else (some (bif (ieq x3 6) then (!ieq (llen x1_5) (llen x1_4)) else false)))))
def conf_unused.f (k : Nat) (a0 : T_api_Value) : Option (Bool) := (bif (bif a0.fBool then (!ieq a0.fKind 1) else false) then (conf_unused.l0 k a0.fKind a0.fBool a0.fInt a0.fText a0.fItems a0.fKeys a0.fKind true) else (bif (bif (bif (!ieq a0.fInt 0) then (!ieq a0.fKind 2) else false) then (!ieq a0.fKind 4) else false) then (conf_unused.l0 k a0.fKind a0.fBool a0.fInt a0.fText a0.fItems a0.fKeys a0.fKind true) else (conf_unused.l0 k a0.fKind a0.fBool a0.fInt a0.fText a0.fItems a0.fKeys a0.fKind (bif (!seq a0.fText c_empty) then (!ieq a0.fKind 3) else false))))
def conf_unused.O (k : Nat) : Oracle sg := fun n => lkp n []
def conf_unused.a : Ann := (.n .z (.n .z (.n (.n .z (.lab 0 .z)) .z)))
def conf_unused.L (k : Nat) : Nat → St sg.U → Option (RT sg.U [.bool]) := labs [(0, labOf sg [(1, (.box [.d (.int .i64), .d .bool, .d (.int .i64), .d .str, .d (.sl (.st 0)), .d (.sl .str)])), (3, (.d (.int .i64))), (6, (.d .bool))] (fun h => conf_unused.l0 k h.1 h.2.1 h.2.2.1 h.2.2.2.1 h.2.2.2.2.1 h.2.2.2.2.2.1 h.2.2.2.2.2.2.1 h.2.2.2.2.2.2.2.1))]
theorem conf_unused.l0_eq (k : Nat) (x1_0 : Int) (x1_1 : Bool) (x1_2 : Int) (x1_3 : ByteArray) (x1_4 : (List T_api_Value)) (x1_5 : (List ByteArray)) (x3 : Int) (x6 : Bool) : conf_unused.l0 (k + 1) x1_0 x1_1 x1_2 x1_3 x1_4 x1_5 x3 x6 = runFrom (C := ctx) (conf_unused.O k) ⟨63, [], []⟩ (conf_unused.L k) (Tryd.f87.body.getD .skip) conf_unused.a 0 (endK ctx [.bool] [(.tmp 2)]) (encD [(1, (.box [.d (.int .i64), .d .bool, .d (.int .i64), .d .str, .d (.sl (.st 0)), .d (.sl .str)])), (3, (.d (.int .i64))), (6, (.d .bool))] (x1_0, x1_1, x1_2, x1_3, x1_4, x1_5, x3, x6, ()) (startD sg.U ⟨63, [], []⟩ [(1, (.box [.d (.int .i64), .d .bool, .d (.int .i64), .d .str, .d (.sl (.st 0)), .d (.sl .str)])), (3, (.d (.int .i64))), (6, (.d .bool))])) := by
  rw [conf_unused.l0]
  kernel_rfl
theorem conf_unused.f_eq (k : Nat) (a0 : T_api_Value) : conf_unused.f k a0 = codeK (C := ctx) (conf_unused.O k) ⟨63, [], []⟩ (conf_unused.L k) (Tryd.f87.body.getD .skip) conf_unused.a (endK ctx [.bool] [(.tmp 2)]) (slotsOf sg.U 0 [(.d (.st 0))] (a0, ()) (empty sg.U)) := by
  unfold conf_unused.f
  kernel_rfl
def conf_unused.e (k : Nat) : Entry sg := entryOf sg [(.d (.st 0))] [.bool] (fun h => conf_unused.f k h.1)
def conf_unused.T : List (Lb sg (RT sg.U [.bool])) := [⟨0, [(1, (.box [.d (.int .i64), .d .bool, .d (.int .i64), .d .str, .d (.sl (.st 0)), .d (.sl .str)])), (3, (.d (.int .i64))), (6, (.d .bool))], fun k h => conf_unused.l0 k h.1 h.2.1 h.2.2.1 h.2.2.2.1 h.2.2.2.2.1 h.2.2.2.2.2.1 h.2.2.2.2.2.2.1 h.2.2.2.2.2.2.2.1⟩]
theorem conf_unused.ok (k : Nat) : (conf_unused.e k).Sound Tryd.prog ctx 87 :=
  entry_ok base_ok mo (fn := Tryd.f87) (b := (Tryd.f87.body.getD .skip)) (pm := [(.d (.st 0))]) (rs := [.bool]) (an := conf_unused.a) (N := 63) (vars := [(.tmp 2)]) Tryd.func87 (by kernel_rfl) (by kernel_rfl) (by kernel_rfl) (by kernel_rfl) (by kernel_rfl) (by kernel_rfl) (O := conf_unused.O)
    (fun k => by unfold conf_unused.O; exact oracle_of (P := Tryd.prog) (C := ctx) trivial) conf_unused.T ⟨⟨by kernel_rfl, fun _ => by first | rfl | rw [conf_unused.l0], fun k h => conf_unused.l0_eq k h.1 h.2.1 h.2.2.1 h.2.2.2.1 h.2.2.2.2.1 h.2.2.2.2.2.1 h.2.2.2.2.2.2.1 h.2.2.2.2.2.2.2.1⟩, trivial⟩ k (fun h => conf_unused.f_eq k h.1)
def conf_badDay.f (a0 : Int) : Option (Bool) := (some (bif (ilt a0 0) then true else (ilt 84005 a0)))
def conf_badDay.O : Oracle sg := fun n => lkp n []
def conf_badDay.a : Ann := .z
def conf_badDay.L : Nat → St sg.U → Option (RT sg.U [.bool]) := labs []
theorem conf_badDay.f_eq (a0 : Int) : conf_badDay.f a0 = codeK (C := ctx) (conf_badDay.O) ⟨9, [], []⟩ (conf_badDay.L) (Tryd.f88.body.getD .skip) conf_badDay.a (endK ctx [.bool] [(.tmp 2)]) (slotsOf sg.U 0 [(.d (.int .i64))] (a0, ()) (empty sg.U)) := by
  unfold conf_badDay.f
  kernel_rfl
def conf_badDay.e : Entry sg := entryOf sg [(.d (.int .i64))] [.bool] (fun h => conf_badDay.f h.1)
def conf_badDay.T : List (Lb sg (RT sg.U [.bool])) := []
theorem conf_badDay.ok : (conf_badDay.e).Sound Tryd.prog ctx 88 :=
  entry_ok base_ok mo (fn := Tryd.f88) (b := (Tryd.f88.body.getD .skip)) (pm := [(.d (.int .i64))]) (rs := [.bool]) (an := conf_badDay.a) (N := 9) (vars := [(.tmp 2)]) Tryd.func88 (by kernel_rfl) (by kernel_rfl) (by kernel_rfl) (by kernel_rfl) (by kernel_rfl) (by kernel_rfl) (O := fun _ => conf_badDay.O)
    (fun _ => by unfold conf_badDay.O; exact oracle_of (P := Tryd.prog) (C := ctx) trivial) conf_badDay.T trivial 0 (fun h => conf_badDay.f_eq h.1)
def conf_badBytes.l0 : Nat → ByteArray → Int → Option (Bool)
  | 0, _, _ => none
  | k + 1, x0, x3 => (bif (ilt x3 (slen x0)) then ((sat x0 x3).bind fun y1 => (bif (ilt y1 32) then ((sat x0 x3).bind fun y2 => (bif (!ieq y2 9) then ((sat x0 x3).bind fun y3 => (bif (!ieq y3 10) then (some true) else (conf_badBytes.l0 k x0 (wadd .i64 x3 1)))) else (conf_badBytes.l0 k x0 (wadd .i64 x3 1)))) else (conf_badBytes.l0 k x0 (wadd .i64 x3 1)))) else (some false))
def conf_badBytes.f (k : Nat) (a0 : ByteArray) : Option (Bool) := (conf_badBytes.l0 k a0 0)
def conf_badBytes.O (k : Nat) : Oracle sg := fun n => lkp n []
def conf_badBytes.a : Ann := (.n .z (.n (.n .z (.lp 0 .z)) .z))
def conf_badBytes.L (k : Nat) : Nat → St sg.U → Option (RT sg.U [.bool]) := labs [(0, labOf sg [(0, (.d .str)), (3, (.d (.int .i64)))] (fun h => conf_badBytes.l0 k h.1 h.2.1))]
theorem conf_badBytes.l0_eq (k : Nat) (x0 : ByteArray) (x3 : Int) : conf_badBytes.l0 (k + 1) x0 x3 = runFrom (C := ctx) (conf_badBytes.O k) ⟨26, [], []⟩ (conf_badBytes.L k) (Tryd.f89.body.getD .skip) conf_badBytes.a 0 (endK ctx [.bool] [(.tmp 2)]) (encD [(0, (.d .str)), (3, (.d (.int .i64)))] (x0, x3, ()) (startD sg.U ⟨26, [], []⟩ [(0, (.d .str)), (3, (.d (.int .i64)))])) := by
  rw [conf_badBytes.l0]
  kernel_rfl
theorem conf_badBytes.f_eq (k : Nat) (a0 : ByteArray) : conf_badBytes.f k a0 = codeK (C := ctx) (conf_badBytes.O k) ⟨26, [], []⟩ (conf_badBytes.L k) (Tryd.f89.body.getD .skip) conf_badBytes.a (endK ctx [.bool] [(.tmp 2)]) (slotsOf sg.U 0 [(.d .str)] (a0, ()) (empty sg.U)) := by
  unfold conf_badBytes.f
  kernel_rfl
def conf_badBytes.e (k : Nat) : Entry sg := entryOf sg [(.d .str)] [.bool] (fun h => conf_badBytes.f k h.1)
def conf_badBytes.T : List (Lb sg (RT sg.U [.bool])) := [⟨0, [(0, (.d .str)), (3, (.d (.int .i64)))], fun k h => conf_badBytes.l0 k h.1 h.2.1⟩]
theorem conf_badBytes.ok (k : Nat) : (conf_badBytes.e k).Sound Tryd.prog ctx 89 :=
  entry_ok base_ok mo (fn := Tryd.f89) (b := (Tryd.f89.body.getD .skip)) (pm := [(.d .str)]) (rs := [.bool]) (an := conf_badBytes.a) (N := 26) (vars := [(.tmp 2)]) Tryd.func89 (by kernel_rfl) (by kernel_rfl) (by kernel_rfl) (by kernel_rfl) (by kernel_rfl) (by kernel_rfl) (O := conf_badBytes.O)
    (fun k => by unfold conf_badBytes.O; exact oracle_of (P := Tryd.prog) (C := ctx) trivial) conf_badBytes.T ⟨⟨by kernel_rfl, fun _ => by first | rfl | rw [conf_badBytes.l0], fun k h => conf_badBytes.l0_eq k h.1 h.2.1⟩, trivial⟩ k (fun h => conf_badBytes.f_eq k h.1)
def conf_isSmall.f (a0 : Int) : Option (Bool) := (some (bif (ile 97 a0) then (ile a0 122) else false))
def conf_isSmall.O : Oracle sg := fun n => lkp n []
def conf_isSmall.a : Ann := .z
def conf_isSmall.L : Nat → St sg.U → Option (RT sg.U [.bool]) := labs []
theorem conf_isSmall.f_eq (a0 : Int) : conf_isSmall.f a0 = codeK (C := ctx) (conf_isSmall.O) ⟨9, [], []⟩ (conf_isSmall.L) (Tryd.f116.body.getD .skip) conf_isSmall.a (endK ctx [.bool] [(.tmp 2)]) (slotsOf sg.U 0 [(.d (.int .u8))] (a0, ()) (empty sg.U)) := by
  unfold conf_isSmall.f
  kernel_rfl
def conf_isSmall.e : Entry sg := entryOf sg [(.d (.int .u8))] [.bool] (fun h => conf_isSmall.f h.1)
def conf_isSmall.T : List (Lb sg (RT sg.U [.bool])) := []
theorem conf_isSmall.ok : (conf_isSmall.e).Sound Tryd.prog ctx 116 :=
  entry_ok base_ok mo (fn := Tryd.f116) (b := (Tryd.f116.body.getD .skip)) (pm := [(.d (.int .u8))]) (rs := [.bool]) (an := conf_isSmall.a) (N := 9) (vars := [(.tmp 2)]) Tryd.func116 (by kernel_rfl) (by kernel_rfl) (by kernel_rfl) (by kernel_rfl) (by kernel_rfl) (by kernel_rfl) (O := fun _ => conf_isSmall.O)
    (fun _ => by unfold conf_isSmall.O; exact oracle_of (P := Tryd.prog) (C := ctx) trivial) conf_isSmall.T trivial 0 (fun h => conf_isSmall.f_eq h.1)
def conf_isDigit.f (a0 : Int) : Option (Bool) := (some (bif (ile 48 a0) then (ile a0 57) else false))
def conf_isDigit.O : Oracle sg := fun n => lkp n []
def conf_isDigit.a : Ann := .z
def conf_isDigit.L : Nat → St sg.U → Option (RT sg.U [.bool]) := labs []
theorem conf_isDigit.f_eq (a0 : Int) : conf_isDigit.f a0 = codeK (C := ctx) (conf_isDigit.O) ⟨9, [], []⟩ (conf_isDigit.L) (Tryd.f117.body.getD .skip) conf_isDigit.a (endK ctx [.bool] [(.tmp 2)]) (slotsOf sg.U 0 [(.d (.int .u8))] (a0, ()) (empty sg.U)) := by
  unfold conf_isDigit.f
  kernel_rfl
def conf_isDigit.e : Entry sg := entryOf sg [(.d (.int .u8))] [.bool] (fun h => conf_isDigit.f h.1)
def conf_isDigit.T : List (Lb sg (RT sg.U [.bool])) := []
theorem conf_isDigit.ok : (conf_isDigit.e).Sound Tryd.prog ctx 117 :=
  entry_ok base_ok mo (fn := Tryd.f117) (b := (Tryd.f117.body.getD .skip)) (pm := [(.d (.int .u8))]) (rs := [.bool]) (an := conf_isDigit.a) (N := 9) (vars := [(.tmp 2)]) Tryd.func117 (by kernel_rfl) (by kernel_rfl) (by kernel_rfl) (by kernel_rfl) (by kernel_rfl) (by kernel_rfl) (O := fun _ => conf_isDigit.O)
    (fun _ => by unfold conf_isDigit.O; exact oracle_of (P := Tryd.prog) (C := ctx) trivial) conf_isDigit.T trivial 0 (fun h => conf_isDigit.f_eq h.1)
def conf_isKey.l0 : Nat → ByteArray → Int → Option (Bool)
  | 0, _, _ => none
  | k + 1, x0, x3 => (bif (ilt x3 (slen x0)) then ((sat x0 x3).bind fun y3 => ((conf_isSmall.f y3).bind fun y4 => (bif (!y4) then ((sat x0 x3).bind fun y5 => ((conf_isDigit.f y5).bind fun y6 => (bif (!y6) then ((sat x0 x3).bind fun y7 => (bif (!ieq y7 45) then ((sat x0 x3).bind fun y8 => (bif (!ieq y8 95) then (some false) else (conf_isKey.l0 k x0 (wadd .i64 x3 1)))) else (conf_isKey.l0 k x0 (wadd .i64 x3 1)))) else (conf_isKey.l0 k x0 (wadd .i64 x3 1))))) else (conf_isKey.l0 k x0 (wadd .i64 x3 1))))) else (some true))
def conf_isKey.f (k : Nat) (a0 : ByteArray) : Option (Bool) := (bif (bif (seq a0 c_empty) then true else (ilt 40 (slen a0))) then (some false) else ((sat a0 0).bind fun y1 => ((conf_isSmall.f y1).bind fun y2 => (bif (!y2) then (some false) else (conf_isKey.l0 k a0 1)))))
def conf_isKey.O (k : Nat) : Oracle sg := fun n => lkp n [(116, conf_isSmall.e), (117, conf_isDigit.e)]
def conf_isKey.a : Ann := (.n .z (.n .z (.n (.n .z (.lp 0 .z)) .z)))
def conf_isKey.L (k : Nat) : Nat → St sg.U → Option (RT sg.U [.bool]) := labs [(0, labOf sg [(0, (.d .str)), (3, (.d (.int .i64)))] (fun h => conf_isKey.l0 k h.1 h.2.1))]
theorem conf_isKey.l0_eq (k : Nat) (x0 : ByteArray) (x3 : Int) : conf_isKey.l0 (k + 1) x0 x3 = runFrom (C := ctx) (conf_isKey.O k) ⟨47, [], []⟩ (conf_isKey.L k) (Tryd.f90.body.getD .skip) conf_isKey.a 0 (endK ctx [.bool] [(.tmp 2)]) (encD [(0, (.d .str)), (3, (.d (.int .i64)))] (x0, x3, ()) (startD sg.U ⟨47, [], []⟩ [(0, (.d .str)), (3, (.d (.int .i64)))])) := by
  rw [conf_isKey.l0]
  kernel_rfl
theorem conf_isKey.f_eq (k : Nat) (a0 : ByteArray) : conf_isKey.f k a0 = codeK (C := ctx) (conf_isKey.O k) ⟨47, [], []⟩ (conf_isKey.L k) (Tryd.f90.body.getD .skip) conf_isKey.a (endK ctx [.bool] [(.tmp 2)]) (slotsOf sg.U 0 [(.d .str)] (a0, ()) (empty sg.U)) := by
  unfold conf_isKey.f
  kernel_rfl
def conf_isKey.e (k : Nat) : Entry sg := entryOf sg [(.d .str)] [.bool] (fun h => conf_isKey.f k h.1)
def conf_isKey.T : List (Lb sg (RT sg.U [.bool])) := [⟨0, [(0, (.d .str)), (3, (.d (.int .i64)))], fun k h => conf_isKey.l0 k h.1 h.2.1⟩]
theorem conf_isKey.ok (k : Nat) : (conf_isKey.e k).Sound Tryd.prog ctx 90 :=
  entry_ok base_ok mo (fn := Tryd.f90) (b := (Tryd.f90.body.getD .skip)) (pm := [(.d .str)]) (rs := [.bool]) (an := conf_isKey.a) (N := 47) (vars := [(.tmp 2)]) Tryd.func90 (by kernel_rfl) (by kernel_rfl) (by kernel_rfl) (by kernel_rfl) (by kernel_rfl) (by kernel_rfl) (O := conf_isKey.O)
    (fun k => by unfold conf_isKey.O; exact oracle_of (P := Tryd.prog) (C := ctx) ⟨(conf_isSmall.ok), ⟨(conf_isDigit.ok), trivial⟩⟩) conf_isKey.T ⟨⟨by kernel_rfl, fun _ => by first | rfl | rw [conf_isKey.l0], fun k h => conf_isKey.l0_eq k h.1 h.2.1⟩, trivial⟩ k (fun h => conf_isKey.f_eq k h.1)
mutual
def conf_valueFault.l0 : Nat → Int → Bool → Int → ByteArray → (List T_api_Value) → (List ByteArray) → Bool → Option (Int)
  | 0, _, _, _, _, _, _, _ => none
  | k + 1, x1_0, x1_1, x1_2, x1_3, x1_4, x1_5, x17 => (bif x17 then (some 2) else (bif (ilt 5000 (slen x1_3)) then (some 4) else ((conf_badBytes.f k x1_3).bind fun y3 => (bif y3 then (some 9) else (conf_valueFault.l1 k x1_0 x1_1 x1_2 x1_3 x1_4 x1_5 x1_5 (llen x1_5) 0)))))
def conf_valueFault.l1 : Nat → Int → Bool → Int → ByteArray → (List T_api_Value) → (List ByteArray) → (List ByteArray) → Int → Int → Option (Int)
  | 0, _, _, _, _, _, _, _, _, _ => none
  | k + 1, x1_0, x1_1, x1_2, x1_3, x1_4, x1_5, x36, x37, x38 => (bif (ilt x38 x37) then ((lat x36 x38).bind fun y4 => ((conf_isKey.f k y4).bind fun y5 => (bif (!y5) then (some 12) else (bif (ilt 0 x38) then ((lat x1_5 (wsub .i64 x38 1)).bind fun y6 => (bif (sle y4 y6) then (some 5) else (conf_valueFault.l1 k x1_0 x1_1 x1_2 x1_3 x1_4 x1_5 x36 x37 (wadd .i64 x38 1)))) else (conf_valueFault.l1 k x1_0 x1_1 x1_2 x1_3 x1_4 x1_5 x36 x37 (wadd .i64 x38 1)))))) else (some 0))
end
def conf_valueFault.f (k : Nat) (a0 : T_api_Value) : Option (Int) := (bif (bif (ilt a0.fKind 0) then true else (ilt 6 a0.fKind)) then (some 10) else ((conf_unused.f k (T_api_Value.mk a0.fKind a0.fBool a0.fInt a0.fText a0.fItems a0.fKeys)).bind fun y1 => (bif y1 then (some 1) else (bif (ieq a0.fKind 4) then ((conf_badDay.f a0.fInt).bind fun y2 => (conf_valueFault.l0 k a0.fKind a0.fBool a0.fInt a0.fText a0.fItems a0.fKeys y2)) else (conf_valueFault.l0 k a0.fKind a0.fBool a0.fInt a0.fText a0.fItems a0.fKeys false)))))
def conf_valueFault.O (k : Nat) : Oracle sg := fun n => lkp n [(87, conf_unused.e k), (88, conf_badDay.e), (89, conf_badBytes.e k), (90, conf_isKey.e k)]
def conf_valueFault.a : Ann := (.n .z (.n (.n .z (.n .z (.n .z (.n .z (.n .z (.lab 0 .z)))))) (.n (.n .z (.lp 1 .z)) .z)))
def conf_valueFault.L (k : Nat) : Nat → St sg.U → Option (RT sg.U [(.int .i64)]) := labs [(0, labOf sg [(1, (.box [.d (.int .i64), .d .bool, .d (.int .i64), .d .str, .d (.sl (.st 0)), .d (.sl .str)])), (17, (.d .bool))] (fun h => conf_valueFault.l0 k h.1 h.2.1 h.2.2.1 h.2.2.2.1 h.2.2.2.2.1 h.2.2.2.2.2.1 h.2.2.2.2.2.2.1)), (1, labOf sg [(1, (.box [.d (.int .i64), .d .bool, .d (.int .i64), .d .str, .d (.sl (.st 0)), .d (.sl .str)])), (36, (.d (.sl .str))), (37, (.d (.int .i64))), (38, (.d (.int .i64)))] (fun h => conf_valueFault.l1 k h.1 h.2.1 h.2.2.1 h.2.2.2.1 h.2.2.2.2.1 h.2.2.2.2.2.1 h.2.2.2.2.2.2.1 h.2.2.2.2.2.2.2.1 h.2.2.2.2.2.2.2.2.1))]
theorem conf_valueFault.l0_eq (k : Nat) (x1_0 : Int) (x1_1 : Bool) (x1_2 : Int) (x1_3 : ByteArray) (x1_4 : (List T_api_Value)) (x1_5 : (List ByteArray)) (x17 : Bool) : conf_valueFault.l0 (k + 1) x1_0 x1_1 x1_2 x1_3 x1_4 x1_5 x17 = runFrom (C := ctx) (conf_valueFault.O k) ⟨59, [], []⟩ (conf_valueFault.L k) (Tryd.f68.body.getD .skip) conf_valueFault.a 0 (endK ctx [(.int .i64)] [(.tmp 2)]) (encD [(1, (.box [.d (.int .i64), .d .bool, .d (.int .i64), .d .str, .d (.sl (.st 0)), .d (.sl .str)])), (17, (.d .bool))] (x1_0, x1_1, x1_2, x1_3, x1_4, x1_5, x17, ()) (startD sg.U ⟨59, [], []⟩ [(1, (.box [.d (.int .i64), .d .bool, .d (.int .i64), .d .str, .d (.sl (.st 0)), .d (.sl .str)])), (17, (.d .bool))])) := by
  rw [conf_valueFault.l0]
  kernel_rfl
theorem conf_valueFault.l1_eq (k : Nat) (x1_0 : Int) (x1_1 : Bool) (x1_2 : Int) (x1_3 : ByteArray) (x1_4 : (List T_api_Value)) (x1_5 : (List ByteArray)) (x36 : (List ByteArray)) (x37 : Int) (x38 : Int) : conf_valueFault.l1 (k + 1) x1_0 x1_1 x1_2 x1_3 x1_4 x1_5 x36 x37 x38 = runFrom (C := ctx) (conf_valueFault.O k) ⟨59, [], []⟩ (conf_valueFault.L k) (Tryd.f68.body.getD .skip) conf_valueFault.a 1 (endK ctx [(.int .i64)] [(.tmp 2)]) (encD [(1, (.box [.d (.int .i64), .d .bool, .d (.int .i64), .d .str, .d (.sl (.st 0)), .d (.sl .str)])), (36, (.d (.sl .str))), (37, (.d (.int .i64))), (38, (.d (.int .i64)))] (x1_0, x1_1, x1_2, x1_3, x1_4, x1_5, x36, x37, x38, ()) (startD sg.U ⟨59, [], []⟩ [(1, (.box [.d (.int .i64), .d .bool, .d (.int .i64), .d .str, .d (.sl (.st 0)), .d (.sl .str)])), (36, (.d (.sl .str))), (37, (.d (.int .i64))), (38, (.d (.int .i64)))])) := by
  rw [conf_valueFault.l1]
  kernel_rfl
theorem conf_valueFault.f_eq (k : Nat) (a0 : T_api_Value) : conf_valueFault.f k a0 = codeK (C := ctx) (conf_valueFault.O k) ⟨59, [], []⟩ (conf_valueFault.L k) (Tryd.f68.body.getD .skip) conf_valueFault.a (endK ctx [(.int .i64)] [(.tmp 2)]) (slotsOf sg.U 0 [(.d (.st 0))] (a0, ()) (empty sg.U)) := by
  unfold conf_valueFault.f
  kernel_rfl
def conf_valueFault.e (k : Nat) : Entry sg := entryOf sg [(.d (.st 0))] [(.int .i64)] (fun h => conf_valueFault.f k h.1)
def conf_valueFault.T : List (Lb sg (RT sg.U [(.int .i64)])) := [⟨0, [(1, (.box [.d (.int .i64), .d .bool, .d (.int .i64), .d .str, .d (.sl (.st 0)), .d (.sl .str)])), (17, (.d .bool))], fun k h => conf_valueFault.l0 k h.1 h.2.1 h.2.2.1 h.2.2.2.1 h.2.2.2.2.1 h.2.2.2.2.2.1 h.2.2.2.2.2.2.1⟩, ⟨1, [(1, (.box [.d (.int .i64), .d .bool, .d (.int .i64), .d .str, .d (.sl (.st 0)), .d (.sl .str)])), (36, (.d (.sl .str))), (37, (.d (.int .i64))), (38, (.d (.int .i64)))], fun k h => conf_valueFault.l1 k h.1 h.2.1 h.2.2.1 h.2.2.2.1 h.2.2.2.2.1 h.2.2.2.2.2.1 h.2.2.2.2.2.2.1 h.2.2.2.2.2.2.2.1 h.2.2.2.2.2.2.2.2.1⟩]
theorem conf_valueFault.ok (k : Nat) : (conf_valueFault.e k).Sound Tryd.prog ctx 68 :=
  entry_ok base_ok mo (fn := Tryd.f68) (b := (Tryd.f68.body.getD .skip)) (pm := [(.d (.st 0))]) (rs := [(.int .i64)]) (an := conf_valueFault.a) (N := 59) (vars := [(.tmp 2)]) Tryd.func68 (by kernel_rfl) (by kernel_rfl) (by kernel_rfl) (by kernel_rfl) (by kernel_rfl) (by kernel_rfl) (O := conf_valueFault.O)
    (fun k => by unfold conf_valueFault.O; exact oracle_of (P := Tryd.prog) (C := ctx) ⟨(conf_unused.ok k), ⟨(conf_badDay.ok), ⟨(conf_badBytes.ok k), ⟨(conf_isKey.ok k), trivial⟩⟩⟩⟩) conf_valueFault.T ⟨⟨by kernel_rfl, fun _ => by first | rfl | rw [conf_valueFault.l0], fun k h => conf_valueFault.l0_eq k h.1 h.2.1 h.2.2.1 h.2.2.2.1 h.2.2.2.2.1 h.2.2.2.2.2.1 h.2.2.2.2.2.2.1⟩, ⟨⟨by kernel_rfl, fun _ => by first | rfl | rw [conf_valueFault.l1], fun k h => conf_valueFault.l1_eq k h.1 h.2.1 h.2.2.1 h.2.2.2.1 h.2.2.2.2.1 h.2.2.2.2.2.1 h.2.2.2.2.2.2.1 h.2.2.2.2.2.2.2.1 h.2.2.2.2.2.2.2.2.1⟩, trivial⟩⟩ k (fun h => conf_valueFault.f_eq k h.1)
mutual
def conf_valuesFault.l0 : Nat → (List T_api_Value) → Int → Int → Option (Int)
  | 0, _, _, _ => none
  | k + 1, x13, x14, x15 => (bif (ilt x15 x14) then ((lat x13 x15).bind fun y2 => ((conf_valuesFault.f k (T_api_Value.mk y2.fKind y2.fBool y2.fInt y2.fText y2.fItems y2.fKeys)).bind fun y3 => (bif (!ieq y3 0) then (some y3) else (conf_valuesFault.l0 k x13 x14 (wadd .i64 x15 1))))) else (some 0))
def conf_valuesFault.f : Nat → T_api_Value → Option (Int)
  | 0, _ => none
  | k + 1, a0 => ((conf_valueFault.f k (T_api_Value.mk a0.fKind a0.fBool a0.fInt a0.fText a0.fItems a0.fKeys)).bind fun y1 => (bif (!ieq y1 0) then (some y1) else (conf_valuesFault.l0 k a0.fItems (llen a0.fItems) 0)))
end
def conf_valuesFault.e (k : Nat) : Entry sg := entryOf sg [(.d (.st 0))] [(.int .i64)] (fun h => conf_valuesFault.f k h.1)
def conf_valuesFault.O (k : Nat) : Oracle sg := fun n => lkp n [(39, conf_valuesFault.e k), (68, conf_valueFault.e k)]
def conf_valuesFault.a : Ann := (.n .z (.n .z (.n (.n .z (.lp 0 .z)) .z)))
def conf_valuesFault.L (k : Nat) : Nat → St sg.U → Option (RT sg.U [(.int .i64)]) := labs [(0, labOf sg [(13, (.d (.sl (.st 0)))), (14, (.d (.int .i64))), (15, (.d (.int .i64)))] (fun h => conf_valuesFault.l0 k h.1 h.2.1 h.2.2.1))]
theorem conf_valuesFault.l0_eq (k : Nat) (x13 : (List T_api_Value)) (x14 : Int) (x15 : Int) : conf_valuesFault.l0 (k + 1) x13 x14 x15 = runFrom (C := ctx) (conf_valuesFault.O k) ⟨25, [], []⟩ (conf_valuesFault.L k) (Tryd.f39.body.getD .skip) conf_valuesFault.a 0 (endK ctx [(.int .i64)] [(.tmp 2)]) (encD [(13, (.d (.sl (.st 0)))), (14, (.d (.int .i64))), (15, (.d (.int .i64)))] (x13, x14, x15, ()) (startD sg.U ⟨25, [], []⟩ [(13, (.d (.sl (.st 0)))), (14, (.d (.int .i64))), (15, (.d (.int .i64)))])) := by
  rw [conf_valuesFault.l0]
  kernel_rfl
theorem conf_valuesFault.f_eq (k : Nat) (a0 : T_api_Value) : conf_valuesFault.f (k + 1) a0 = codeK (C := ctx) (conf_valuesFault.O k) ⟨25, [], []⟩ (conf_valuesFault.L k) (Tryd.f39.body.getD .skip) conf_valuesFault.a (endK ctx [(.int .i64)] [(.tmp 2)]) (slotsOf sg.U 0 [(.d (.st 0))] (a0, ()) (empty sg.U)) := by
  rw [conf_valuesFault.f]
  kernel_rfl
def conf_valuesFault.T : List (Lb sg (RT sg.U [(.int .i64)])) := [⟨0, [(13, (.d (.sl (.st 0)))), (14, (.d (.int .i64))), (15, (.d (.int .i64)))], fun k h => conf_valuesFault.l0 k h.1 h.2.1 h.2.2.1⟩]
theorem conf_valuesFault.ok : ∀ k : Nat, (conf_valuesFault.e k).Sound Tryd.prog ctx 39 :=
  entry_rec base_ok mo (fn := Tryd.f39) (b := (Tryd.f39.body.getD .skip)) (pm := [(.d (.st 0))]) (rs := [(.int .i64)]) (an := conf_valuesFault.a) (N := 25) (vars := [(.tmp 2)]) Tryd.func39 (by kernel_rfl) (by kernel_rfl) (by kernel_rfl) (by kernel_rfl) (by kernel_rfl) (by kernel_rfl) (O := conf_valuesFault.O) conf_valuesFault.T ⟨⟨by kernel_rfl, fun _ => by first | rfl | rw [conf_valuesFault.l0], fun k h => conf_valuesFault.l0_eq k h.1 h.2.1 h.2.2.1⟩, trivial⟩ (F := fun k h => conf_valuesFault.f k h.1) (fun _ => by first | rfl | rw [conf_valuesFault.f]) (fun k h => conf_valuesFault.f_eq k h.1)
    (fun k own => by unfold conf_valuesFault.O; exact oracle_of (P := Tryd.prog) (C := ctx) ⟨own, ⟨(conf_valueFault.ok k), trivial⟩⟩)
def conf_Check.f (k : Nat) (a0 : T_api_Value) : Option (Int) := ((conf_count.f k (T_api_Value.mk a0.fKind a0.fBool a0.fInt a0.fText a0.fItems a0.fKeys)).bind fun y1 => (bif (ilt 1000 y1) then (some 4) else ((conf_levels.f k (T_api_Value.mk a0.fKind a0.fBool a0.fInt a0.fText a0.fItems a0.fKeys)).bind fun y2 => (bif (ilt 8 y2) then (some 13) else ((conf_valuesFault.f k (T_api_Value.mk a0.fKind a0.fBool a0.fInt a0.fText a0.fItems a0.fKeys)).bind fun y3 => (some y3))))))
def conf_Check.O (k : Nat) : Oracle sg := fun n => lkp n [(37, conf_count.e k), (38, conf_levels.e k), (39, conf_valuesFault.e k)]
def conf_Check.a : Ann := .z
def conf_Check.L (k : Nat) : Nat → St sg.U → Option (RT sg.U [(.int .i64)]) := labs []
theorem conf_Check.f_eq (k : Nat) (a0 : T_api_Value) : conf_Check.f k a0 = codeK (C := ctx) (conf_Check.O k) ⟨11, [], []⟩ (conf_Check.L k) (Tryd.f15.body.getD .skip) conf_Check.a (endK ctx [(.int .i64)] [(.tmp 2)]) (slotsOf sg.U 0 [(.d (.st 0))] (a0, ()) (empty sg.U)) := by
  unfold conf_Check.f
  kernel_rfl
def conf_Check.e (k : Nat) : Entry sg := entryOf sg [(.d (.st 0))] [(.int .i64)] (fun h => conf_Check.f k h.1)
def conf_Check.T : List (Lb sg (RT sg.U [(.int .i64)])) := []
theorem conf_Check.ok (k : Nat) : (conf_Check.e k).Sound Tryd.prog ctx 15 :=
  entry_ok base_ok mo (fn := Tryd.f15) (b := (Tryd.f15.body.getD .skip)) (pm := [(.d (.st 0))]) (rs := [(.int .i64)]) (an := conf_Check.a) (N := 11) (vars := [(.tmp 2)]) Tryd.func15 (by kernel_rfl) (by kernel_rfl) (by kernel_rfl) (by kernel_rfl) (by kernel_rfl) (by kernel_rfl) (O := conf_Check.O)
    (fun k => by unfold conf_Check.O; exact oracle_of (P := Tryd.prog) (C := ctx) ⟨(conf_count.ok k), ⟨(conf_levels.ok k), ⟨(conf_valuesFault.ok k), trivial⟩⟩⟩) conf_Check.T trivial k (fun h => conf_Check.f_eq k h.1)
def list_isSmall.f (a0 : Int) : Option (Bool) := (some (bif (ile 97 a0) then (ile a0 122) else false))
def list_isSmall.O : Oracle sg := fun n => lkp n []
def list_isSmall.a : Ann := .z
def list_isSmall.L : Nat → St sg.U → Option (RT sg.U [.bool]) := labs []
theorem list_isSmall.f_eq (a0 : Int) : list_isSmall.f a0 = codeK (C := ctx) (list_isSmall.O) ⟨9, [], []⟩ (list_isSmall.L) (Tryd.f137.body.getD .skip) list_isSmall.a (endK ctx [.bool] [(.tmp 2)]) (slotsOf sg.U 0 [(.d (.int .u8))] (a0, ()) (empty sg.U)) := by
  unfold list_isSmall.f
  kernel_rfl
def list_isSmall.e : Entry sg := entryOf sg [(.d (.int .u8))] [.bool] (fun h => list_isSmall.f h.1)
def list_isSmall.T : List (Lb sg (RT sg.U [.bool])) := []
theorem list_isSmall.ok : (list_isSmall.e).Sound Tryd.prog ctx 137 :=
  entry_ok base_ok mo (fn := Tryd.f137) (b := (Tryd.f137.body.getD .skip)) (pm := [(.d (.int .u8))]) (rs := [.bool]) (an := list_isSmall.a) (N := 9) (vars := [(.tmp 2)]) Tryd.func137 (by kernel_rfl) (by kernel_rfl) (by kernel_rfl) (by kernel_rfl) (by kernel_rfl) (by kernel_rfl) (O := fun _ => list_isSmall.O)
    (fun _ => by unfold list_isSmall.O; exact oracle_of (P := Tryd.prog) (C := ctx) trivial) list_isSmall.T trivial 0 (fun h => list_isSmall.f_eq h.1)
def list_isDigit.f (a0 : Int) : Option (Bool) := (some (bif (ile 48 a0) then (ile a0 57) else false))
def list_isDigit.O : Oracle sg := fun n => lkp n []
def list_isDigit.a : Ann := .z
def list_isDigit.L : Nat → St sg.U → Option (RT sg.U [.bool]) := labs []
theorem list_isDigit.f_eq (a0 : Int) : list_isDigit.f a0 = codeK (C := ctx) (list_isDigit.O) ⟨9, [], []⟩ (list_isDigit.L) (Tryd.f138.body.getD .skip) list_isDigit.a (endK ctx [.bool] [(.tmp 2)]) (slotsOf sg.U 0 [(.d (.int .u8))] (a0, ()) (empty sg.U)) := by
  unfold list_isDigit.f
  kernel_rfl
def list_isDigit.e : Entry sg := entryOf sg [(.d (.int .u8))] [.bool] (fun h => list_isDigit.f h.1)
def list_isDigit.T : List (Lb sg (RT sg.U [.bool])) := []
theorem list_isDigit.ok : (list_isDigit.e).Sound Tryd.prog ctx 138 :=
  entry_ok base_ok mo (fn := Tryd.f138) (b := (Tryd.f138.body.getD .skip)) (pm := [(.d (.int .u8))]) (rs := [.bool]) (an := list_isDigit.a) (N := 9) (vars := [(.tmp 2)]) Tryd.func138 (by kernel_rfl) (by kernel_rfl) (by kernel_rfl) (by kernel_rfl) (by kernel_rfl) (by kernel_rfl) (O := fun _ => list_isDigit.O)
    (fun _ => by unfold list_isDigit.O; exact oracle_of (P := Tryd.prog) (C := ctx) trivial) list_isDigit.T trivial 0 (fun h => list_isDigit.f_eq h.1)
def list_isKey.l0 : Nat → ByteArray → Int → Option (Bool)
  | 0, _, _ => none
  | k + 1, x0, x3 => (bif (ilt x3 (slen x0)) then ((sat x0 x3).bind fun y3 => ((list_isSmall.f y3).bind fun y4 => (bif (!y4) then ((sat x0 x3).bind fun y5 => ((list_isDigit.f y5).bind fun y6 => (bif (!y6) then ((sat x0 x3).bind fun y7 => (bif (!ieq y7 45) then ((sat x0 x3).bind fun y8 => (bif (!ieq y8 95) then (some false) else (list_isKey.l0 k x0 (wadd .i64 x3 1)))) else (list_isKey.l0 k x0 (wadd .i64 x3 1)))) else (list_isKey.l0 k x0 (wadd .i64 x3 1))))) else (list_isKey.l0 k x0 (wadd .i64 x3 1))))) else (some true))
def list_isKey.f (k : Nat) (a0 : ByteArray) : Option (Bool) := (bif (bif (seq a0 c_empty) then true else (ilt 40 (slen a0))) then (some false) else ((sat a0 0).bind fun y1 => ((list_isSmall.f y1).bind fun y2 => (bif (!y2) then (some false) else (list_isKey.l0 k a0 1)))))
def list_isKey.O (k : Nat) : Oracle sg := fun n => lkp n [(137, list_isSmall.e), (138, list_isDigit.e)]
def list_isKey.a : Ann := (.n .z (.n .z (.n (.n .z (.lp 0 .z)) .z)))
def list_isKey.L (k : Nat) : Nat → St sg.U → Option (RT sg.U [.bool]) := labs [(0, labOf sg [(0, (.d .str)), (3, (.d (.int .i64)))] (fun h => list_isKey.l0 k h.1 h.2.1))]
theorem list_isKey.l0_eq (k : Nat) (x0 : ByteArray) (x3 : Int) : list_isKey.l0 (k + 1) x0 x3 = runFrom (C := ctx) (list_isKey.O k) ⟨47, [], []⟩ (list_isKey.L k) (Tryd.f115.body.getD .skip) list_isKey.a 0 (endK ctx [.bool] [(.tmp 2)]) (encD [(0, (.d .str)), (3, (.d (.int .i64)))] (x0, x3, ()) (startD sg.U ⟨47, [], []⟩ [(0, (.d .str)), (3, (.d (.int .i64)))])) := by
  rw [list_isKey.l0]
  kernel_rfl
theorem list_isKey.f_eq (k : Nat) (a0 : ByteArray) : list_isKey.f k a0 = codeK (C := ctx) (list_isKey.O k) ⟨47, [], []⟩ (list_isKey.L k) (Tryd.f115.body.getD .skip) list_isKey.a (endK ctx [.bool] [(.tmp 2)]) (slotsOf sg.U 0 [(.d .str)] (a0, ()) (empty sg.U)) := by
  unfold list_isKey.f
  kernel_rfl
def list_isKey.e (k : Nat) : Entry sg := entryOf sg [(.d .str)] [.bool] (fun h => list_isKey.f k h.1)
def list_isKey.T : List (Lb sg (RT sg.U [.bool])) := [⟨0, [(0, (.d .str)), (3, (.d (.int .i64)))], fun k h => list_isKey.l0 k h.1 h.2.1⟩]
theorem list_isKey.ok (k : Nat) : (list_isKey.e k).Sound Tryd.prog ctx 115 :=
  entry_ok base_ok mo (fn := Tryd.f115) (b := (Tryd.f115.body.getD .skip)) (pm := [(.d .str)]) (rs := [.bool]) (an := list_isKey.a) (N := 47) (vars := [(.tmp 2)]) Tryd.func115 (by kernel_rfl) (by kernel_rfl) (by kernel_rfl) (by kernel_rfl) (by kernel_rfl) (by kernel_rfl) (O := list_isKey.O)
    (fun k => by unfold list_isKey.O; exact oracle_of (P := Tryd.prog) (C := ctx) ⟨(list_isSmall.ok), ⟨(list_isDigit.ok), trivial⟩⟩) list_isKey.T ⟨⟨by kernel_rfl, fun _ => by first | rfl | rw [list_isKey.l0], fun k h => list_isKey.l0_eq k h.1 h.2.1⟩, trivial⟩ k (fun h => list_isKey.f_eq k h.1)
def list_tableFault.l0 : Nat → Int → Bool → Int → ByteArray → (List T_api_Value) → (List ByteArray) → (List ByteArray) → Int → Int → Option (Int)
  | 0, _, _, _, _, _, _, _, _, _ => none
  | k + 1, x1_0, x1_1, x1_2, x1_3, x1_4, x1_5, x27, x28, x29 => (bif (ilt x29 x28) then ((lat x27 x29).bind fun y1 => ((list_isKey.f k y1).bind fun y2 => (bif (!y2) then (some 12) else (bif (ilt 0 x29) then ((lat x1_5 (wsub .i64 x29 1)).bind fun y3 => (bif (sle y1 y3) then (some 5) else (list_tableFault.l0 k x1_0 x1_1 x1_2 x1_3 x1_4 x1_5 x27 x28 (wadd .i64 x29 1)))) else (list_tableFault.l0 k x1_0 x1_1 x1_2 x1_3 x1_4 x1_5 x27 x28 (wadd .i64 x29 1)))))) else (some 0))
def list_tableFault.f (k : Nat) (a0 : T_api_Value) : Option (Int) := (bif (bif (bif (bif a0.fBool then true else (!ieq a0.fInt 0)) then true else (!seq a0.fText c_empty)) then true else (!ieq (llen a0.fKeys) (llen a0.fItems))) then (some 1) else (list_tableFault.l0 k a0.fKind a0.fBool a0.fInt a0.fText a0.fItems a0.fKeys a0.fKeys (llen a0.fKeys) 0))
def list_tableFault.O (k : Nat) : Oracle sg := fun n => lkp n [(115, list_isKey.e k)]
def list_tableFault.a : Ann := (.n .z (.n .z (.n (.n .z (.lp 0 .z)) .z)))
def list_tableFault.L (k : Nat) : Nat → St sg.U → Option (RT sg.U [(.int .i64)]) := labs [(0, labOf sg [(1, (.box [.d (.int .i64), .d .bool, .d (.int .i64), .d .str, .d (.sl (.st 0)), .d (.sl .str)])), (27, (.d (.sl .str))), (28, (.d (.int .i64))), (29, (.d (.int .i64)))] (fun h => list_tableFault.l0 k h.1 h.2.1 h.2.2.1 h.2.2.2.1 h.2.2.2.2.1 h.2.2.2.2.2.1 h.2.2.2.2.2.2.1 h.2.2.2.2.2.2.2.1 h.2.2.2.2.2.2.2.2.1))]
theorem list_tableFault.l0_eq (k : Nat) (x1_0 : Int) (x1_1 : Bool) (x1_2 : Int) (x1_3 : ByteArray) (x1_4 : (List T_api_Value)) (x1_5 : (List ByteArray)) (x27 : (List ByteArray)) (x28 : Int) (x29 : Int) : list_tableFault.l0 (k + 1) x1_0 x1_1 x1_2 x1_3 x1_4 x1_5 x27 x28 x29 = runFrom (C := ctx) (list_tableFault.O k) ⟨50, [], []⟩ (list_tableFault.L k) (Tryd.f86.body.getD .skip) list_tableFault.a 0 (endK ctx [(.int .i64)] [(.tmp 2)]) (encD [(1, (.box [.d (.int .i64), .d .bool, .d (.int .i64), .d .str, .d (.sl (.st 0)), .d (.sl .str)])), (27, (.d (.sl .str))), (28, (.d (.int .i64))), (29, (.d (.int .i64)))] (x1_0, x1_1, x1_2, x1_3, x1_4, x1_5, x27, x28, x29, ()) (startD sg.U ⟨50, [], []⟩ [(1, (.box [.d (.int .i64), .d .bool, .d (.int .i64), .d .str, .d (.sl (.st 0)), .d (.sl .str)])), (27, (.d (.sl .str))), (28, (.d (.int .i64))), (29, (.d (.int .i64)))])) := by
  rw [list_tableFault.l0]
  kernel_rfl
theorem list_tableFault.f_eq (k : Nat) (a0 : T_api_Value) : list_tableFault.f k a0 = codeK (C := ctx) (list_tableFault.O k) ⟨50, [], []⟩ (list_tableFault.L k) (Tryd.f86.body.getD .skip) list_tableFault.a (endK ctx [(.int .i64)] [(.tmp 2)]) (slotsOf sg.U 0 [(.d (.st 0))] (a0, ()) (empty sg.U)) := by
  unfold list_tableFault.f
  kernel_rfl
def list_tableFault.e (k : Nat) : Entry sg := entryOf sg [(.d (.st 0))] [(.int .i64)] (fun h => list_tableFault.f k h.1)
def list_tableFault.T : List (Lb sg (RT sg.U [(.int .i64)])) := [⟨0, [(1, (.box [.d (.int .i64), .d .bool, .d (.int .i64), .d .str, .d (.sl (.st 0)), .d (.sl .str)])), (27, (.d (.sl .str))), (28, (.d (.int .i64))), (29, (.d (.int .i64)))], fun k h => list_tableFault.l0 k h.1 h.2.1 h.2.2.1 h.2.2.2.1 h.2.2.2.2.1 h.2.2.2.2.2.1 h.2.2.2.2.2.2.1 h.2.2.2.2.2.2.2.1 h.2.2.2.2.2.2.2.2.1⟩]
theorem list_tableFault.ok (k : Nat) : (list_tableFault.e k).Sound Tryd.prog ctx 86 :=
  entry_ok base_ok mo (fn := Tryd.f86) (b := (Tryd.f86.body.getD .skip)) (pm := [(.d (.st 0))]) (rs := [(.int .i64)]) (an := list_tableFault.a) (N := 50) (vars := [(.tmp 2)]) Tryd.func86 (by kernel_rfl) (by kernel_rfl) (by kernel_rfl) (by kernel_rfl) (by kernel_rfl) (by kernel_rfl) (O := list_tableFault.O)
    (fun k => by unfold list_tableFault.O; exact oracle_of (P := Tryd.prog) (C := ctx) ⟨(list_isKey.ok k), trivial⟩) list_tableFault.T ⟨⟨by kernel_rfl, fun _ => by first | rfl | rw [list_tableFault.l0], fun k h => list_tableFault.l0_eq k h.1 h.2.1 h.2.2.1 h.2.2.2.1 h.2.2.2.2.1 h.2.2.2.2.2.1 h.2.2.2.2.2.2.1 h.2.2.2.2.2.2.2.1 h.2.2.2.2.2.2.2.2.1⟩, trivial⟩ k (fun h => list_tableFault.f_eq k h.1)
def list_valueFault.l0 : Nat → Int → Bool → Int → ByteArray → (List T_api_Value) → (List ByteArray) → Int → Bool → Int → ByteArray → (List T_api_Value) → (List ByteArray) → Int → Bool → Option (Int)
  | 0, _, _, _, _, _, _, _, _, _, _, _, _, _, _ => none
  | k + 1, x1_0, x1_1, x1_2, x1_3, x1_4, x1_5, x3_0, x3_1, x3_2, x3_3, x3_4, x3_5, x15, x23 => (bif x23 then (bif (ilt 0 (llen x1_4)) then (some 1) else ((conf_Check.f k (T_api_Value.mk 3 x3_1 x3_2 x3_3 x3_4 x3_5)).bind fun y1 => (some y1))) else (bif (ieq x15 5) then ((conf_Check.f k (T_api_Value.mk x3_0 x3_1 x3_2 x3_3 x3_4 x3_5)).bind fun y2 => (some y2)) else (bif (ieq x15 6) then ((lmake 88 (llen x1_4) (llen x1_4) (T_api_Value.mk 0 false 0 c_empty [] [])).bind fun y3 => (bif (ilt 999 (llen y3)) then ((list_tableFault.f k (T_api_Value.mk x1_0 x1_1 x1_2 x1_3 x1_4 x1_5)).bind fun y4 => (some y4)) else ((conf_Check.f k (T_api_Value.mk x3_0 x3_1 x3_2 x3_3 y3 x3_5)).bind fun y5 => (some y5)))) else (bif (ilt 0 (llen x1_4)) then (some 1) else ((conf_Check.f k (T_api_Value.mk x3_0 x3_1 x3_2 x3_3 x1_4 x3_5)).bind fun y6 => (some y6))))))
def list_valueFault.f (k : Nat) (a0 : T_api_Value) : Option (Int) := (bif (bif (ilt a0.fKind 0) then true else (ilt 8 a0.fKind)) then (some 10) else (bif (ieq a0.fKind 7) then (list_valueFault.l0 k a0.fKind a0.fBool a0.fInt a0.fText a0.fItems a0.fKeys a0.fKind a0.fBool a0.fInt a0.fText [] a0.fKeys a0.fKind true) else (list_valueFault.l0 k a0.fKind a0.fBool a0.fInt a0.fText a0.fItems a0.fKeys a0.fKind a0.fBool a0.fInt a0.fText [] a0.fKeys a0.fKind (ieq a0.fKind 8))))
def list_valueFault.O (k : Nat) : Oracle sg := fun n => lkp n [(15, conf_Check.e k), (86, list_tableFault.e k)]
def list_valueFault.a : Ann := (.n .z (.n .z (.n .z (.n .z (.n (.n .z (.n .z (.lab 0 .z))) .z)))))
def list_valueFault.L (k : Nat) : Nat → St sg.U → Option (RT sg.U [(.int .i64)]) := labs [(0, labOf sg [(1, (.box [.d (.int .i64), .d .bool, .d (.int .i64), .d .str, .d (.sl (.st 0)), .d (.sl .str)])), (3, (.box [.d (.int .i64), .d .bool, .d (.int .i64), .d .str, .row 25 (.st 0), .d (.sl .str)])), (15, (.d (.int .i64))), (23, (.d .bool))] (fun h => list_valueFault.l0 k h.1 h.2.1 h.2.2.1 h.2.2.2.1 h.2.2.2.2.1 h.2.2.2.2.2.1 h.2.2.2.2.2.2.1 h.2.2.2.2.2.2.2.1 h.2.2.2.2.2.2.2.2.1 h.2.2.2.2.2.2.2.2.2.1 h.2.2.2.2.2.2.2.2.2.2.1 h.2.2.2.2.2.2.2.2.2.2.2.1 h.2.2.2.2.2.2.2.2.2.2.2.2.1 h.2.2.2.2.2.2.2.2.2.2.2.2.2.1))]
theorem list_valueFault.l0_eq (k : Nat) (x1_0 : Int) (x1_1 : Bool) (x1_2 : Int) (x1_3 : ByteArray) (x1_4 : (List T_api_Value)) (x1_5 : (List ByteArray)) (x3_0 : Int) (x3_1 : Bool) (x3_2 : Int) (x3_3 : ByteArray) (x3_4 : (List T_api_Value)) (x3_5 : (List ByteArray)) (x15 : Int) (x23 : Bool) : list_valueFault.l0 (k + 1) x1_0 x1_1 x1_2 x1_3 x1_4 x1_5 x3_0 x3_1 x3_2 x3_3 x3_4 x3_5 x15 x23 = runFrom (C := ctx) (list_valueFault.O k) ⟨48, [], []⟩ (list_valueFault.L k) (Tryd.f65.body.getD .skip) list_valueFault.a 0 (endK ctx [(.int .i64)] [(.tmp 2)]) (encD [(1, (.box [.d (.int .i64), .d .bool, .d (.int .i64), .d .str, .d (.sl (.st 0)), .d (.sl .str)])), (3, (.box [.d (.int .i64), .d .bool, .d (.int .i64), .d .str, .row 25 (.st 0), .d (.sl .str)])), (15, (.d (.int .i64))), (23, (.d .bool))] (x1_0, x1_1, x1_2, x1_3, x1_4, x1_5, x3_0, x3_1, x3_2, x3_3, x3_4, x3_5, x15, x23, ()) (startD sg.U ⟨48, [], []⟩ [(1, (.box [.d (.int .i64), .d .bool, .d (.int .i64), .d .str, .d (.sl (.st 0)), .d (.sl .str)])), (3, (.box [.d (.int .i64), .d .bool, .d (.int .i64), .d .str, .row 25 (.st 0), .d (.sl .str)])), (15, (.d (.int .i64))), (23, (.d .bool))])) := by
  rw [list_valueFault.l0]
  kernel_rfl
theorem list_valueFault.f_eq (k : Nat) (a0 : T_api_Value) : list_valueFault.f k a0 = codeK (C := ctx) (list_valueFault.O k) ⟨48, [], []⟩ (list_valueFault.L k) (Tryd.f65.body.getD .skip) list_valueFault.a (endK ctx [(.int .i64)] [(.tmp 2)]) (slotsOf sg.U 0 [(.d (.st 0))] (a0, ()) (empty sg.U)) := by
  unfold list_valueFault.f
  kernel_rfl
def list_valueFault.e (k : Nat) : Entry sg := entryOf sg [(.d (.st 0))] [(.int .i64)] (fun h => list_valueFault.f k h.1)
def list_valueFault.T : List (Lb sg (RT sg.U [(.int .i64)])) := [⟨0, [(1, (.box [.d (.int .i64), .d .bool, .d (.int .i64), .d .str, .d (.sl (.st 0)), .d (.sl .str)])), (3, (.box [.d (.int .i64), .d .bool, .d (.int .i64), .d .str, .row 25 (.st 0), .d (.sl .str)])), (15, (.d (.int .i64))), (23, (.d .bool))], fun k h => list_valueFault.l0 k h.1 h.2.1 h.2.2.1 h.2.2.2.1 h.2.2.2.2.1 h.2.2.2.2.2.1 h.2.2.2.2.2.2.1 h.2.2.2.2.2.2.2.1 h.2.2.2.2.2.2.2.2.1 h.2.2.2.2.2.2.2.2.2.1 h.2.2.2.2.2.2.2.2.2.2.1 h.2.2.2.2.2.2.2.2.2.2.2.1 h.2.2.2.2.2.2.2.2.2.2.2.2.1 h.2.2.2.2.2.2.2.2.2.2.2.2.2.1⟩]
theorem list_valueFault.ok (k : Nat) : (list_valueFault.e k).Sound Tryd.prog ctx 65 :=
  entry_ok base_ok mo (fn := Tryd.f65) (b := (Tryd.f65.body.getD .skip)) (pm := [(.d (.st 0))]) (rs := [(.int .i64)]) (an := list_valueFault.a) (N := 48) (vars := [(.tmp 2)]) Tryd.func65 (by kernel_rfl) (by kernel_rfl) (by kernel_rfl) (by kernel_rfl) (by kernel_rfl) (by kernel_rfl) (O := list_valueFault.O)
    (fun k => by unfold list_valueFault.O; exact oracle_of (P := Tryd.prog) (C := ctx) ⟨(conf_Check.ok k), ⟨(list_tableFault.ok k), trivial⟩⟩) list_valueFault.T ⟨⟨by kernel_rfl, fun _ => by first | rfl | rw [list_valueFault.l0], fun k h => list_valueFault.l0_eq k h.1 h.2.1 h.2.2.1 h.2.2.2.1 h.2.2.2.2.1 h.2.2.2.2.2.1 h.2.2.2.2.2.2.1 h.2.2.2.2.2.2.2.1 h.2.2.2.2.2.2.2.2.1 h.2.2.2.2.2.2.2.2.2.1 h.2.2.2.2.2.2.2.2.2.2.1 h.2.2.2.2.2.2.2.2.2.2.2.1 h.2.2.2.2.2.2.2.2.2.2.2.2.1 h.2.2.2.2.2.2.2.2.2.2.2.2.2.1⟩, trivial⟩ k (fun h => list_valueFault.f_eq k h.1)
mutual
def list_valuesFault.l0 : Nat → (List T_api_Value) → Int → Int → Option (Int)
  | 0, _, _, _ => none
  | k + 1, x13, x14, x15 => (bif (ilt x15 x14) then ((lat x13 x15).bind fun y2 => ((list_valuesFault.f k (T_api_Value.mk y2.fKind y2.fBool y2.fInt y2.fText y2.fItems y2.fKeys)).bind fun y3 => (bif (!ieq y3 0) then (some y3) else (list_valuesFault.l0 k x13 x14 (wadd .i64 x15 1))))) else (some 0))
def list_valuesFault.f : Nat → T_api_Value → Option (Int)
  | 0, _ => none
  | k + 1, a0 => ((list_valueFault.f k (T_api_Value.mk a0.fKind a0.fBool a0.fInt a0.fText a0.fItems a0.fKeys)).bind fun y1 => (bif (!ieq y1 0) then (some y1) else (list_valuesFault.l0 k a0.fItems (llen a0.fItems) 0)))
end
def list_valuesFault.e (k : Nat) : Entry sg := entryOf sg [(.d (.st 0))] [(.int .i64)] (fun h => list_valuesFault.f k h.1)
def list_valuesFault.O (k : Nat) : Oracle sg := fun n => lkp n [(32, list_valuesFault.e k), (65, list_valueFault.e k)]
def list_valuesFault.a : Ann := (.n .z (.n .z (.n (.n .z (.lp 0 .z)) .z)))
def list_valuesFault.L (k : Nat) : Nat → St sg.U → Option (RT sg.U [(.int .i64)]) := labs [(0, labOf sg [(13, (.d (.sl (.st 0)))), (14, (.d (.int .i64))), (15, (.d (.int .i64)))] (fun h => list_valuesFault.l0 k h.1 h.2.1 h.2.2.1))]
theorem list_valuesFault.l0_eq (k : Nat) (x13 : (List T_api_Value)) (x14 : Int) (x15 : Int) : list_valuesFault.l0 (k + 1) x13 x14 x15 = runFrom (C := ctx) (list_valuesFault.O k) ⟨25, [], []⟩ (list_valuesFault.L k) (Tryd.f32.body.getD .skip) list_valuesFault.a 0 (endK ctx [(.int .i64)] [(.tmp 2)]) (encD [(13, (.d (.sl (.st 0)))), (14, (.d (.int .i64))), (15, (.d (.int .i64)))] (x13, x14, x15, ()) (startD sg.U ⟨25, [], []⟩ [(13, (.d (.sl (.st 0)))), (14, (.d (.int .i64))), (15, (.d (.int .i64)))])) := by
  rw [list_valuesFault.l0]
  kernel_rfl
theorem list_valuesFault.f_eq (k : Nat) (a0 : T_api_Value) : list_valuesFault.f (k + 1) a0 = codeK (C := ctx) (list_valuesFault.O k) ⟨25, [], []⟩ (list_valuesFault.L k) (Tryd.f32.body.getD .skip) list_valuesFault.a (endK ctx [(.int .i64)] [(.tmp 2)]) (slotsOf sg.U 0 [(.d (.st 0))] (a0, ()) (empty sg.U)) := by
  rw [list_valuesFault.f]
  kernel_rfl
def list_valuesFault.T : List (Lb sg (RT sg.U [(.int .i64)])) := [⟨0, [(13, (.d (.sl (.st 0)))), (14, (.d (.int .i64))), (15, (.d (.int .i64)))], fun k h => list_valuesFault.l0 k h.1 h.2.1 h.2.2.1⟩]
theorem list_valuesFault.ok : ∀ k : Nat, (list_valuesFault.e k).Sound Tryd.prog ctx 32 :=
  entry_rec base_ok mo (fn := Tryd.f32) (b := (Tryd.f32.body.getD .skip)) (pm := [(.d (.st 0))]) (rs := [(.int .i64)]) (an := list_valuesFault.a) (N := 25) (vars := [(.tmp 2)]) Tryd.func32 (by kernel_rfl) (by kernel_rfl) (by kernel_rfl) (by kernel_rfl) (by kernel_rfl) (by kernel_rfl) (O := list_valuesFault.O) list_valuesFault.T ⟨⟨by kernel_rfl, fun _ => by first | rfl | rw [list_valuesFault.l0], fun k h => list_valuesFault.l0_eq k h.1 h.2.1 h.2.2.1⟩, trivial⟩ (F := fun k h => list_valuesFault.f k h.1) (fun _ => by first | rfl | rw [list_valuesFault.f]) (fun k h => list_valuesFault.f_eq k h.1)
    (fun k own => by unfold list_valuesFault.O; exact oracle_of (P := Tryd.prog) (C := ctx) ⟨own, ⟨(list_valueFault.ok k), trivial⟩⟩)
def list_CheckItem.f (k : Nat) (a0 : T_api_Value) : Option (Int) := ((list_count.f k (T_api_Value.mk a0.fKind a0.fBool a0.fInt a0.fText a0.fItems a0.fKeys)).bind fun y1 => (bif (ilt 5000 y1) then (some 4) else ((list_levels.f k (T_api_Value.mk a0.fKind a0.fBool a0.fInt a0.fText a0.fItems a0.fKeys)).bind fun y2 => (bif (ilt 10 y2) then (some 13) else ((list_valuesFault.f k (T_api_Value.mk a0.fKind a0.fBool a0.fInt a0.fText a0.fItems a0.fKeys)).bind fun y3 => (some y3))))))
def list_CheckItem.O (k : Nat) : Oracle sg := fun n => lkp n [(30, list_count.e k), (31, list_levels.e k), (32, list_valuesFault.e k)]
def list_CheckItem.a : Ann := .z
def list_CheckItem.L (k : Nat) : Nat → St sg.U → Option (RT sg.U [(.int .i64)]) := labs []
theorem list_CheckItem.f_eq (k : Nat) (a0 : T_api_Value) : list_CheckItem.f k a0 = codeK (C := ctx) (list_CheckItem.O k) ⟨11, [], []⟩ (list_CheckItem.L k) (Tryd.f13.body.getD .skip) list_CheckItem.a (endK ctx [(.int .i64)] [(.tmp 2)]) (slotsOf sg.U 0 [(.d (.st 0))] (a0, ()) (empty sg.U)) := by
  unfold list_CheckItem.f
  kernel_rfl
def list_CheckItem.e (k : Nat) : Entry sg := entryOf sg [(.d (.st 0))] [(.int .i64)] (fun h => list_CheckItem.f k h.1)
def list_CheckItem.T : List (Lb sg (RT sg.U [(.int .i64)])) := []
theorem list_CheckItem.ok (k : Nat) : (list_CheckItem.e k).Sound Tryd.prog ctx 13 :=
  entry_ok base_ok mo (fn := Tryd.f13) (b := (Tryd.f13.body.getD .skip)) (pm := [(.d (.st 0))]) (rs := [(.int .i64)]) (an := list_CheckItem.a) (N := 11) (vars := [(.tmp 2)]) Tryd.func13 (by kernel_rfl) (by kernel_rfl) (by kernel_rfl) (by kernel_rfl) (by kernel_rfl) (by kernel_rfl) (O := list_CheckItem.O)
    (fun k => by unfold list_CheckItem.O; exact oracle_of (P := Tryd.prog) (C := ctx) ⟨(list_count.ok k), ⟨(list_levels.ok k), ⟨(list_valuesFault.ok k), trivial⟩⟩⟩) list_CheckItem.T trivial k (fun h => list_CheckItem.f_eq k h.1)
mutual
def mastref2_ValuesOf.l0 : Nat → Int → (List T_api_Value) → Int → Int → Option (Int)
  | 0, _, _, _, _ => none
  | k + 1, x3, x7, x8, x9 => (bif (ilt x9 x8) then ((lat x7 x9).bind fun y1 => ((mastref2_ValuesOf.f k (T_api_Value.mk y1.fKind y1.fBool y1.fInt y1.fText y1.fItems y1.fKeys)).bind fun y2 => (mastref2_ValuesOf.l0 k (wadd .i64 x3 y2) x7 x8 (wadd .i64 x9 1)))) else (some x3))
def mastref2_ValuesOf.f : Nat → T_api_Value → Option (Int)
  | 0, _ => none
  | k + 1, a0 => (mastref2_ValuesOf.l0 k 1 a0.fItems (llen a0.fItems) 0)
end
def mastref2_ValuesOf.e (k : Nat) : Entry sg := entryOf sg [(.d (.st 0))] [(.int .i64)] (fun h => mastref2_ValuesOf.f k h.1)
def mastref2_ValuesOf.O (k : Nat) : Oracle sg := fun n => lkp n [(33, mastref2_ValuesOf.e k)]
def mastref2_ValuesOf.a : Ann := (.n .z (.n .z (.n (.n .z (.lp 0 .z)) .z)))
def mastref2_ValuesOf.L (k : Nat) : Nat → St sg.U → Option (RT sg.U [(.int .i64)]) := labs [(0, labOf sg [(3, (.d (.int .i64))), (7, (.d (.sl (.st 0)))), (8, (.d (.int .i64))), (9, (.d (.int .i64)))] (fun h => mastref2_ValuesOf.l0 k h.1 h.2.1 h.2.2.1 h.2.2.2.1))]
theorem mastref2_ValuesOf.l0_eq (k : Nat) (x3 : Int) (x7 : (List T_api_Value)) (x8 : Int) (x9 : Int) : mastref2_ValuesOf.l0 (k + 1) x3 x7 x8 x9 = runFrom (C := ctx) (mastref2_ValuesOf.O k) ⟨19, [], []⟩ (mastref2_ValuesOf.L k) (Tryd.f33.body.getD .skip) mastref2_ValuesOf.a 0 (endK ctx [(.int .i64)] [(.tmp 2)]) (encD [(3, (.d (.int .i64))), (7, (.d (.sl (.st 0)))), (8, (.d (.int .i64))), (9, (.d (.int .i64)))] (x3, x7, x8, x9, ()) (startD sg.U ⟨19, [], []⟩ [(3, (.d (.int .i64))), (7, (.d (.sl (.st 0)))), (8, (.d (.int .i64))), (9, (.d (.int .i64)))])) := by
  rw [mastref2_ValuesOf.l0]
  kernel_rfl
theorem mastref2_ValuesOf.f_eq (k : Nat) (a0 : T_api_Value) : mastref2_ValuesOf.f (k + 1) a0 = codeK (C := ctx) (mastref2_ValuesOf.O k) ⟨19, [], []⟩ (mastref2_ValuesOf.L k) (Tryd.f33.body.getD .skip) mastref2_ValuesOf.a (endK ctx [(.int .i64)] [(.tmp 2)]) (slotsOf sg.U 0 [(.d (.st 0))] (a0, ()) (empty sg.U)) := by
  rw [mastref2_ValuesOf.f]
  kernel_rfl
def mastref2_ValuesOf.T : List (Lb sg (RT sg.U [(.int .i64)])) := [⟨0, [(3, (.d (.int .i64))), (7, (.d (.sl (.st 0)))), (8, (.d (.int .i64))), (9, (.d (.int .i64)))], fun k h => mastref2_ValuesOf.l0 k h.1 h.2.1 h.2.2.1 h.2.2.2.1⟩]
theorem mastref2_ValuesOf.ok : ∀ k : Nat, (mastref2_ValuesOf.e k).Sound Tryd.prog ctx 33 :=
  entry_rec base_ok mo (fn := Tryd.f33) (b := (Tryd.f33.body.getD .skip)) (pm := [(.d (.st 0))]) (rs := [(.int .i64)]) (an := mastref2_ValuesOf.a) (N := 19) (vars := [(.tmp 2)]) Tryd.func33 (by kernel_rfl) (by kernel_rfl) (by kernel_rfl) (by kernel_rfl) (by kernel_rfl) (by kernel_rfl) (O := mastref2_ValuesOf.O) mastref2_ValuesOf.T ⟨⟨by kernel_rfl, fun _ => by first | rfl | rw [mastref2_ValuesOf.l0], fun k h => mastref2_ValuesOf.l0_eq k h.1 h.2.1 h.2.2.1 h.2.2.2.1⟩, trivial⟩ (F := fun k h => mastref2_ValuesOf.f k h.1) (fun _ => by first | rfl | rw [mastref2_ValuesOf.f]) (fun k h => mastref2_ValuesOf.f_eq k h.1)
    (fun k own => by unfold mastref2_ValuesOf.O; exact oracle_of (P := Tryd.prog) (C := ctx) ⟨own, trivial⟩)
mutual
def mastref2_LevelsOf.l0 : Nat → Int → (List T_api_Value) → Int → Int → Option (Int)
  | 0, _, _, _, _ => none
  | k + 1, x3, x7, x8, x9 => (bif (ilt x9 x8) then ((lat x7 x9).bind fun y1 => ((mastref2_LevelsOf.f k (T_api_Value.mk y1.fKind y1.fBool y1.fInt y1.fText y1.fItems y1.fKeys)).bind fun y2 => (mastref2_LevelsOf.l0 k (imax x3 y2) x7 x8 (wadd .i64 x9 1)))) else (some (wadd .i64 x3 1)))
def mastref2_LevelsOf.f : Nat → T_api_Value → Option (Int)
  | 0, _ => none
  | k + 1, a0 => (mastref2_LevelsOf.l0 k 0 a0.fItems (llen a0.fItems) 0)
end
def mastref2_LevelsOf.e (k : Nat) : Entry sg := entryOf sg [(.d (.st 0))] [(.int .i64)] (fun h => mastref2_LevelsOf.f k h.1)
def mastref2_LevelsOf.O (k : Nat) : Oracle sg := fun n => lkp n [(34, mastref2_LevelsOf.e k)]
def mastref2_LevelsOf.a : Ann := (.n .z (.n .z (.n (.n .z (.lp 0 .z)) .z)))
def mastref2_LevelsOf.L (k : Nat) : Nat → St sg.U → Option (RT sg.U [(.int .i64)]) := labs [(0, labOf sg [(3, (.d (.int .i64))), (7, (.d (.sl (.st 0)))), (8, (.d (.int .i64))), (9, (.d (.int .i64)))] (fun h => mastref2_LevelsOf.l0 k h.1 h.2.1 h.2.2.1 h.2.2.2.1))]
theorem mastref2_LevelsOf.l0_eq (k : Nat) (x3 : Int) (x7 : (List T_api_Value)) (x8 : Int) (x9 : Int) : mastref2_LevelsOf.l0 (k + 1) x3 x7 x8 x9 = runFrom (C := ctx) (mastref2_LevelsOf.O k) ⟨20, [], []⟩ (mastref2_LevelsOf.L k) (Tryd.f34.body.getD .skip) mastref2_LevelsOf.a 0 (endK ctx [(.int .i64)] [(.tmp 2)]) (encD [(3, (.d (.int .i64))), (7, (.d (.sl (.st 0)))), (8, (.d (.int .i64))), (9, (.d (.int .i64)))] (x3, x7, x8, x9, ()) (startD sg.U ⟨20, [], []⟩ [(3, (.d (.int .i64))), (7, (.d (.sl (.st 0)))), (8, (.d (.int .i64))), (9, (.d (.int .i64)))])) := by
  rw [mastref2_LevelsOf.l0]
  kernel_rfl
theorem mastref2_LevelsOf.f_eq (k : Nat) (a0 : T_api_Value) : mastref2_LevelsOf.f (k + 1) a0 = codeK (C := ctx) (mastref2_LevelsOf.O k) ⟨20, [], []⟩ (mastref2_LevelsOf.L k) (Tryd.f34.body.getD .skip) mastref2_LevelsOf.a (endK ctx [(.int .i64)] [(.tmp 2)]) (slotsOf sg.U 0 [(.d (.st 0))] (a0, ()) (empty sg.U)) := by
  rw [mastref2_LevelsOf.f]
  kernel_rfl
def mastref2_LevelsOf.T : List (Lb sg (RT sg.U [(.int .i64)])) := [⟨0, [(3, (.d (.int .i64))), (7, (.d (.sl (.st 0)))), (8, (.d (.int .i64))), (9, (.d (.int .i64)))], fun k h => mastref2_LevelsOf.l0 k h.1 h.2.1 h.2.2.1 h.2.2.2.1⟩]
theorem mastref2_LevelsOf.ok : ∀ k : Nat, (mastref2_LevelsOf.e k).Sound Tryd.prog ctx 34 :=
  entry_rec base_ok mo (fn := Tryd.f34) (b := (Tryd.f34.body.getD .skip)) (pm := [(.d (.st 0))]) (rs := [(.int .i64)]) (an := mastref2_LevelsOf.a) (N := 20) (vars := [(.tmp 2)]) Tryd.func34 (by kernel_rfl) (by kernel_rfl) (by kernel_rfl) (by kernel_rfl) (by kernel_rfl) (by kernel_rfl) (O := mastref2_LevelsOf.O) mastref2_LevelsOf.T ⟨⟨by kernel_rfl, fun _ => by first | rfl | rw [mastref2_LevelsOf.l0], fun k h => mastref2_LevelsOf.l0_eq k h.1 h.2.1 h.2.2.1 h.2.2.2.1⟩, trivial⟩ (F := fun k h => mastref2_LevelsOf.f k h.1) (fun _ => by first | rfl | rw [mastref2_LevelsOf.f]) (fun k h => mastref2_LevelsOf.f_eq k h.1)
    (fun k own => by unfold mastref2_LevelsOf.O; exact oracle_of (P := Tryd.prog) (C := ctx) ⟨own, trivial⟩)
mutual
def mastref2_settled.l0 : Nat → Int → Bool → Int → ByteArray → (List T_api_Value) → (List ByteArray) → Int → Bool → Int → ByteArray → (List T_api_Value) → (List ByteArray) → Int → Bool → Int → ByteArray → (List T_api_Value) → (List ByteArray) → Option (T_api_Value)
  | 0, _, _, _, _, _, _, _, _, _, _, _, _, _, _, _, _, _, _ => none
  | k + 1, x1_0, x1_1, x1_2, x1_3, x1_4, x1_5, x2_0, x2_1, x2_2, x2_3, x2_4, x2_5, x3_0, x3_1, x3_2, x3_3, x3_4, x3_5 => (mastref2_settled.l1 k x2_0 x2_1 x2_2 x2_3 x2_4 x2_5 x3_0 x3_1 x3_2 x3_3 [] x3_5 x1_4 (llen x1_4) 0)
def mastref2_settled.l1 : Nat → Int → Bool → Int → ByteArray → (List T_api_Value) → (List ByteArray) → Int → Bool → Int → ByteArray → (List T_api_Value) → (List ByteArray) → (List T_api_Value) → Int → Int → Option (T_api_Value)
  | 0, _, _, _, _, _, _, _, _, _, _, _, _, _, _, _ => none
  | k + 1, x2_0, x2_1, x2_2, x2_3, x2_4, x2_5, x3_0, x3_1, x3_2, x3_3, x3_4, x3_5, x18, x19, x20 => (bif (ilt x20 x19) then ((lat x18 x20).bind fun y1 => ((mastref2_settled.f k (T_api_Value.mk y1.fKind y1.fBool y1.fInt y1.fText y1.fItems y1.fKeys)).bind fun y2 => ((lapp 88 x3_4 [y2]).bind fun y3 => (mastref2_settled.l1 k x2_0 x2_1 x2_2 x2_3 x2_4 x2_5 x3_0 x3_1 x3_2 x3_3 y3 x3_5 x18 x19 (wadd .i64 x20 1))))) else (some (T_api_Value.mk x3_0 x3_1 x3_2 x3_3 x3_4 x3_5)))
def mastref2_settled.f : Nat → T_api_Value → Option (T_api_Value)
  | 0, _ => none
  | k + 1, a0 => (bif (bif (ieq a0.fKind 7) then true else (ieq a0.fKind 8)) then (mastref2_settled.l0 k a0.fKind a0.fBool a0.fInt a0.fText a0.fItems a0.fKeys 0 false 0 c_empty [] [] 3 a0.fBool a0.fInt a0.fText a0.fItems a0.fKeys) else (mastref2_settled.l0 k a0.fKind a0.fBool a0.fInt a0.fText a0.fItems a0.fKeys 0 false 0 c_empty [] [] a0.fKind a0.fBool a0.fInt a0.fText a0.fItems a0.fKeys))
end
def mastref2_settled.e (k : Nat) : Entry sg := entryOf sg [(.d (.st 0))] [(.st 0)] (fun h => mastref2_settled.f k h.1)
def mastref2_settled.O (k : Nat) : Oracle sg := fun n => lkp n [(36, mastref2_settled.e k)]
def mastref2_settled.a : Ann := (.n .z (.n .z (.n .z (.lab 0 (.n .z (.n (.n .z (.lp 1 .z)) .z))))))
def mastref2_settled.L (k : Nat) : Nat → St sg.U → Option (RT sg.U [(.st 0)]) := labs [(0, labOf sg [(1, (.box [.d (.int .i64), .d .bool, .d (.int .i64), .d .str, .d (.sl (.st 0)), .d (.sl .str)])), (2, (.box [.d (.int .i64), .d .bool, .d (.int .i64), .d .str, .row 25 (.st 0), .row 9 .str])), (3, (.box [.d (.int .i64), .d .bool, .d (.int .i64), .d .str, .d (.sl (.st 0)), .d (.sl .str)]))] (fun h => mastref2_settled.l0 k h.1 h.2.1 h.2.2.1 h.2.2.2.1 h.2.2.2.2.1 h.2.2.2.2.2.1 h.2.2.2.2.2.2.1 h.2.2.2.2.2.2.2.1 h.2.2.2.2.2.2.2.2.1 h.2.2.2.2.2.2.2.2.2.1 h.2.2.2.2.2.2.2.2.2.2.1 h.2.2.2.2.2.2.2.2.2.2.2.1 h.2.2.2.2.2.2.2.2.2.2.2.2.1 h.2.2.2.2.2.2.2.2.2.2.2.2.2.1 h.2.2.2.2.2.2.2.2.2.2.2.2.2.2.1 h.2.2.2.2.2.2.2.2.2.2.2.2.2.2.2.1 h.2.2.2.2.2.2.2.2.2.2.2.2.2.2.2.2.1 h.2.2.2.2.2.2.2.2.2.2.2.2.2.2.2.2.2.1)), (1, labOf sg [(2, (.box [.d (.int .i64), .d .bool, .d (.int .i64), .d .str, .row 25 (.st 0), .row 9 .str])), (3, (.box [.d (.int .i64), .d .bool, .d (.int .i64), .d .str, .row 25 (.st 0), .d (.sl .str)])), (18, (.d (.sl (.st 0)))), (19, (.d (.int .i64))), (20, (.d (.int .i64)))] (fun h => mastref2_settled.l1 k h.1 h.2.1 h.2.2.1 h.2.2.2.1 h.2.2.2.2.1 h.2.2.2.2.2.1 h.2.2.2.2.2.2.1 h.2.2.2.2.2.2.2.1 h.2.2.2.2.2.2.2.2.1 h.2.2.2.2.2.2.2.2.2.1 h.2.2.2.2.2.2.2.2.2.2.1 h.2.2.2.2.2.2.2.2.2.2.2.1 h.2.2.2.2.2.2.2.2.2.2.2.2.1 h.2.2.2.2.2.2.2.2.2.2.2.2.2.1 h.2.2.2.2.2.2.2.2.2.2.2.2.2.2.1))]
theorem mastref2_settled.l0_eq (k : Nat) (x1_0 : Int) (x1_1 : Bool) (x1_2 : Int) (x1_3 : ByteArray) (x1_4 : (List T_api_Value)) (x1_5 : (List ByteArray)) (x2_0 : Int) (x2_1 : Bool) (x2_2 : Int) (x2_3 : ByteArray) (x2_4 : (List T_api_Value)) (x2_5 : (List ByteArray)) (x3_0 : Int) (x3_1 : Bool) (x3_2 : Int) (x3_3 : ByteArray) (x3_4 : (List T_api_Value)) (x3_5 : (List ByteArray)) : mastref2_settled.l0 (k + 1) x1_0 x1_1 x1_2 x1_3 x1_4 x1_5 x2_0 x2_1 x2_2 x2_3 x2_4 x2_5 x3_0 x3_1 x3_2 x3_3 x3_4 x3_5 = runFrom (C := ctx) (mastref2_settled.O k) ⟨33, [], []⟩ (mastref2_settled.L k) (Tryd.f36.body.getD .skip) mastref2_settled.a 0 (endK ctx [(.st 0)] [(.cell 2 25)]) (encD [(1, (.box [.d (.int .i64), .d .bool, .d (.int .i64), .d .str, .d (.sl (.st 0)), .d (.sl .str)])), (2, (.box [.d (.int .i64), .d .bool, .d (.int .i64), .d .str, .row 25 (.st 0), .row 9 .str])), (3, (.box [.d (.int .i64), .d .bool, .d (.int .i64), .d .str, .d (.sl (.st 0)), .d (.sl .str)]))] (x1_0, x1_1, x1_2, x1_3, x1_4, x1_5, x2_0, x2_1, x2_2, x2_3, x2_4, x2_5, x3_0, x3_1, x3_2, x3_3, x3_4, x3_5, ()) (startD sg.U ⟨33, [], []⟩ [(1, (.box [.d (.int .i64), .d .bool, .d (.int .i64), .d .str, .d (.sl (.st 0)), .d (.sl .str)])), (2, (.box [.d (.int .i64), .d .bool, .d (.int .i64), .d .str, .row 25 (.st 0), .row 9 .str])), (3, (.box [.d (.int .i64), .d .bool, .d (.int .i64), .d .str, .d (.sl (.st 0)), .d (.sl .str)]))])) := by
  rw [mastref2_settled.l0]
  kernel_rfl
theorem mastref2_settled.l1_eq (k : Nat) (x2_0 : Int) (x2_1 : Bool) (x2_2 : Int) (x2_3 : ByteArray) (x2_4 : (List T_api_Value)) (x2_5 : (List ByteArray)) (x3_0 : Int) (x3_1 : Bool) (x3_2 : Int) (x3_3 : ByteArray) (x3_4 : (List T_api_Value)) (x3_5 : (List ByteArray)) (x18 : (List T_api_Value)) (x19 : Int) (x20 : Int) : mastref2_settled.l1 (k + 1) x2_0 x2_1 x2_2 x2_3 x2_4 x2_5 x3_0 x3_1 x3_2 x3_3 x3_4 x3_5 x18 x19 x20 = runFrom (C := ctx) (mastref2_settled.O k) ⟨33, [], []⟩ (mastref2_settled.L k) (Tryd.f36.body.getD .skip) mastref2_settled.a 1 (endK ctx [(.st 0)] [(.cell 2 25)]) (encD [(2, (.box [.d (.int .i64), .d .bool, .d (.int .i64), .d .str, .row 25 (.st 0), .row 9 .str])), (3, (.box [.d (.int .i64), .d .bool, .d (.int .i64), .d .str, .row 25 (.st 0), .d (.sl .str)])), (18, (.d (.sl (.st 0)))), (19, (.d (.int .i64))), (20, (.d (.int .i64)))] (x2_0, x2_1, x2_2, x2_3, x2_4, x2_5, x3_0, x3_1, x3_2, x3_3, x3_4, x3_5, x18, x19, x20, ()) (startD sg.U ⟨33, [], []⟩ [(2, (.box [.d (.int .i64), .d .bool, .d (.int .i64), .d .str, .row 25 (.st 0), .row 9 .str])), (3, (.box [.d (.int .i64), .d .bool, .d (.int .i64), .d .str, .row 25 (.st 0), .d (.sl .str)])), (18, (.d (.sl (.st 0)))), (19, (.d (.int .i64))), (20, (.d (.int .i64)))])) := by
  rw [mastref2_settled.l1]
  kernel_rfl
theorem mastref2_settled.f_eq (k : Nat) (a0 : T_api_Value) : mastref2_settled.f (k + 1) a0 = codeK (C := ctx) (mastref2_settled.O k) ⟨33, [], []⟩ (mastref2_settled.L k) (Tryd.f36.body.getD .skip) mastref2_settled.a (endK ctx [(.st 0)] [(.cell 2 25)]) (slotsOf sg.U 0 [(.d (.st 0))] (a0, ()) (empty sg.U)) := by
  rw [mastref2_settled.f]
  kernel_rfl
def mastref2_settled.T : List (Lb sg (RT sg.U [(.st 0)])) := [⟨0, [(1, (.box [.d (.int .i64), .d .bool, .d (.int .i64), .d .str, .d (.sl (.st 0)), .d (.sl .str)])), (2, (.box [.d (.int .i64), .d .bool, .d (.int .i64), .d .str, .row 25 (.st 0), .row 9 .str])), (3, (.box [.d (.int .i64), .d .bool, .d (.int .i64), .d .str, .d (.sl (.st 0)), .d (.sl .str)]))], fun k h => mastref2_settled.l0 k h.1 h.2.1 h.2.2.1 h.2.2.2.1 h.2.2.2.2.1 h.2.2.2.2.2.1 h.2.2.2.2.2.2.1 h.2.2.2.2.2.2.2.1 h.2.2.2.2.2.2.2.2.1 h.2.2.2.2.2.2.2.2.2.1 h.2.2.2.2.2.2.2.2.2.2.1 h.2.2.2.2.2.2.2.2.2.2.2.1 h.2.2.2.2.2.2.2.2.2.2.2.2.1 h.2.2.2.2.2.2.2.2.2.2.2.2.2.1 h.2.2.2.2.2.2.2.2.2.2.2.2.2.2.1 h.2.2.2.2.2.2.2.2.2.2.2.2.2.2.2.1 h.2.2.2.2.2.2.2.2.2.2.2.2.2.2.2.2.1 h.2.2.2.2.2.2.2.2.2.2.2.2.2.2.2.2.2.1⟩, ⟨1, [(2, (.box [.d (.int .i64), .d .bool, .d (.int .i64), .d .str, .row 25 (.st 0), .row 9 .str])), (3, (.box [.d (.int .i64), .d .bool, .d (.int .i64), .d .str, .row 25 (.st 0), .d (.sl .str)])), (18, (.d (.sl (.st 0)))), (19, (.d (.int .i64))), (20, (.d (.int .i64)))], fun k h => mastref2_settled.l1 k h.1 h.2.1 h.2.2.1 h.2.2.2.1 h.2.2.2.2.1 h.2.2.2.2.2.1 h.2.2.2.2.2.2.1 h.2.2.2.2.2.2.2.1 h.2.2.2.2.2.2.2.2.1 h.2.2.2.2.2.2.2.2.2.1 h.2.2.2.2.2.2.2.2.2.2.1 h.2.2.2.2.2.2.2.2.2.2.2.1 h.2.2.2.2.2.2.2.2.2.2.2.2.1 h.2.2.2.2.2.2.2.2.2.2.2.2.2.1 h.2.2.2.2.2.2.2.2.2.2.2.2.2.2.1⟩]
theorem mastref2_settled.ok : ∀ k : Nat, (mastref2_settled.e k).Sound Tryd.prog ctx 36 :=
  entry_rec base_ok mo (fn := Tryd.f36) (b := (Tryd.f36.body.getD .skip)) (pm := [(.d (.st 0))]) (rs := [(.st 0)]) (an := mastref2_settled.a) (N := 33) (vars := [(.cell 2 25)]) Tryd.func36 (by kernel_rfl) (by kernel_rfl) (by kernel_rfl) (by kernel_rfl) (by kernel_rfl) (by kernel_rfl) (O := mastref2_settled.O) mastref2_settled.T ⟨⟨by kernel_rfl, fun _ => by first | rfl | rw [mastref2_settled.l0], fun k h => mastref2_settled.l0_eq k h.1 h.2.1 h.2.2.1 h.2.2.2.1 h.2.2.2.2.1 h.2.2.2.2.2.1 h.2.2.2.2.2.2.1 h.2.2.2.2.2.2.2.1 h.2.2.2.2.2.2.2.2.1 h.2.2.2.2.2.2.2.2.2.1 h.2.2.2.2.2.2.2.2.2.2.1 h.2.2.2.2.2.2.2.2.2.2.2.1 h.2.2.2.2.2.2.2.2.2.2.2.2.1 h.2.2.2.2.2.2.2.2.2.2.2.2.2.1 h.2.2.2.2.2.2.2.2.2.2.2.2.2.2.1 h.2.2.2.2.2.2.2.2.2.2.2.2.2.2.2.1 h.2.2.2.2.2.2.2.2.2.2.2.2.2.2.2.2.1 h.2.2.2.2.2.2.2.2.2.2.2.2.2.2.2.2.2.1⟩, ⟨⟨by kernel_rfl, fun _ => by first | rfl | rw [mastref2_settled.l1], fun k h => mastref2_settled.l1_eq k h.1 h.2.1 h.2.2.1 h.2.2.2.1 h.2.2.2.2.1 h.2.2.2.2.2.1 h.2.2.2.2.2.2.1 h.2.2.2.2.2.2.2.1 h.2.2.2.2.2.2.2.2.1 h.2.2.2.2.2.2.2.2.2.1 h.2.2.2.2.2.2.2.2.2.2.1 h.2.2.2.2.2.2.2.2.2.2.2.1 h.2.2.2.2.2.2.2.2.2.2.2.2.1 h.2.2.2.2.2.2.2.2.2.2.2.2.2.1 h.2.2.2.2.2.2.2.2.2.2.2.2.2.2.1⟩, trivial⟩⟩ (F := fun k h => mastref2_settled.f k h.1) (fun _ => by first | rfl | rw [mastref2_settled.f]) (fun k h => mastref2_settled.f_eq k h.1)
    (fun k own => by unfold mastref2_settled.O; exact oracle_of (P := Tryd.prog) (C := ctx) ⟨own, trivial⟩)
def mastref2_badByte.l0 : Nat → ByteArray → Int → Option (Bool)
  | 0, _, _ => none
  | k + 1, x0, x3 => (bif (ilt x3 (slen x0)) then ((sat x0 x3).bind fun y1 => (bif (ilt y1 32) then ((sat x0 x3).bind fun y2 => (bif (!ieq y2 9) then ((sat x0 x3).bind fun y3 => (bif (!ieq y3 10) then (some true) else (mastref2_badByte.l0 k x0 (wadd .i64 x3 1)))) else (mastref2_badByte.l0 k x0 (wadd .i64 x3 1)))) else (mastref2_badByte.l0 k x0 (wadd .i64 x3 1)))) else (some false))
def mastref2_badByte.f (k : Nat) (a0 : ByteArray) : Option (Bool) := (mastref2_badByte.l0 k a0 0)
def mastref2_badByte.O (k : Nat) : Oracle sg := fun n => lkp n []
def mastref2_badByte.a : Ann := (.n .z (.n (.n .z (.lp 0 .z)) .z))
def mastref2_badByte.L (k : Nat) : Nat → St sg.U → Option (RT sg.U [.bool]) := labs [(0, labOf sg [(0, (.d .str)), (3, (.d (.int .i64)))] (fun h => mastref2_badByte.l0 k h.1 h.2.1))]
theorem mastref2_badByte.l0_eq (k : Nat) (x0 : ByteArray) (x3 : Int) : mastref2_badByte.l0 (k + 1) x0 x3 = runFrom (C := ctx) (mastref2_badByte.O k) ⟨26, [], []⟩ (mastref2_badByte.L k) (Tryd.f66.body.getD .skip) mastref2_badByte.a 0 (endK ctx [.bool] [(.tmp 2)]) (encD [(0, (.d .str)), (3, (.d (.int .i64)))] (x0, x3, ()) (startD sg.U ⟨26, [], []⟩ [(0, (.d .str)), (3, (.d (.int .i64)))])) := by
  rw [mastref2_badByte.l0]
  kernel_rfl
theorem mastref2_badByte.f_eq (k : Nat) (a0 : ByteArray) : mastref2_badByte.f k a0 = codeK (C := ctx) (mastref2_badByte.O k) ⟨26, [], []⟩ (mastref2_badByte.L k) (Tryd.f66.body.getD .skip) mastref2_badByte.a (endK ctx [.bool] [(.tmp 2)]) (slotsOf sg.U 0 [(.d .str)] (a0, ()) (empty sg.U)) := by
  unfold mastref2_badByte.f
  kernel_rfl
def mastref2_badByte.e (k : Nat) : Entry sg := entryOf sg [(.d .str)] [.bool] (fun h => mastref2_badByte.f k h.1)
def mastref2_badByte.T : List (Lb sg (RT sg.U [.bool])) := [⟨0, [(0, (.d .str)), (3, (.d (.int .i64)))], fun k h => mastref2_badByte.l0 k h.1 h.2.1⟩]
theorem mastref2_badByte.ok (k : Nat) : (mastref2_badByte.e k).Sound Tryd.prog ctx 66 :=
  entry_ok base_ok mo (fn := Tryd.f66) (b := (Tryd.f66.body.getD .skip)) (pm := [(.d .str)]) (rs := [.bool]) (an := mastref2_badByte.a) (N := 26) (vars := [(.tmp 2)]) Tryd.func66 (by kernel_rfl) (by kernel_rfl) (by kernel_rfl) (by kernel_rfl) (by kernel_rfl) (by kernel_rfl) (O := mastref2_badByte.O)
    (fun k => by unfold mastref2_badByte.O; exact oracle_of (P := Tryd.prog) (C := ctx) trivial) mastref2_badByte.T ⟨⟨by kernel_rfl, fun _ => by first | rfl | rw [mastref2_badByte.l0], fun k h => mastref2_badByte.l0_eq k h.1 h.2.1⟩, trivial⟩ k (fun h => mastref2_badByte.f_eq k h.1)
def strings_Trim.f (a0 : ByteArray) (a1 : ByteArray) : Option (ByteArray) := if a0.size ≤ 9223372036854775807 ∧ a1.size < 4294967281 ∧ (a1.data.toList.all fun b => decide (b.toNat < 128)) = true then some (⟨(Lib.trimS a0.data.toList a1.data.toList).toArray⟩) else none
def strings_Trim.e : Entry sg := entryOf sg [(.d .str), (.d .str)] [.str] (fun h => strings_Trim.f h.1 h.2.1)
theorem strings_Trim.ok : (strings_Trim.e).Sound Tryd.prog ctx 79 :=
  entry_extern (C := ctx) sg_ok Tryd.func79 (by kernel_rfl) (by kernel_rfl) (by kernel_rfl) (by kernel_rfl) (fun hh x w hx hG => by
    unfold strings_Trim.f at hx
    split at hx
    · rename_i c
      obtain rfl := Option.some.inj hx
      refine (Any.strings_Trim_laid Tryd.lays160 (by kernel_rfl) hh.1 hh.2.1 w c.1 c.2.1 (ascii_of_all c.2.2)).mono ?_
      rintro e w' ⟨rfl, hb⟩
      exact ⟨rfl, by first | exact hb ▸ Grow.refl _ | exact Grow.of_below hb⟩
    · cases hx)
def mastref2_IsKey.f (a0 : ByteArray) : Option (Bool) := (bif (bif (seq a0 c_empty) then true else (ilt 40 (slen a0))) then (some false) else ((sat a0 0).bind fun y1 => (bif (ilt y1 97) then (some false) else ((sat a0 0).bind fun y2 => (bif (ilt 122 y2) then (some false) else ((strings_Trim.f a0 c_abcdefghijklmnopqrst_0e2e2cf4).bind fun y3 => (some (seq y3 c_empty))))))))
def mastref2_IsKey.O : Oracle sg := fun n => lkp n [(79, strings_Trim.e)]
def mastref2_IsKey.a : Ann := .z
def mastref2_IsKey.L : Nat → St sg.U → Option (RT sg.U [.bool]) := labs []
theorem mastref2_IsKey.f_eq (a0 : ByteArray) : mastref2_IsKey.f a0 = codeK (C := ctx) (mastref2_IsKey.O) ⟨23, [], []⟩ (mastref2_IsKey.L) (Tryd.f67.body.getD .skip) mastref2_IsKey.a (endK ctx [.bool] [(.tmp 2)]) (slotsOf sg.U 0 [(.d .str)] (a0, ()) (empty sg.U)) := by
  unfold mastref2_IsKey.f
  kernel_rfl
def mastref2_IsKey.e : Entry sg := entryOf sg [(.d .str)] [.bool] (fun h => mastref2_IsKey.f h.1)
def mastref2_IsKey.T : List (Lb sg (RT sg.U [.bool])) := []
theorem mastref2_IsKey.ok : (mastref2_IsKey.e).Sound Tryd.prog ctx 67 :=
  entry_ok base_ok mo (fn := Tryd.f67) (b := (Tryd.f67.body.getD .skip)) (pm := [(.d .str)]) (rs := [.bool]) (an := mastref2_IsKey.a) (N := 23) (vars := [(.tmp 2)]) Tryd.func67 (by kernel_rfl) (by kernel_rfl) (by kernel_rfl) (by kernel_rfl) (by kernel_rfl) (by kernel_rfl) (O := fun _ => mastref2_IsKey.O)
    (fun _ => by unfold mastref2_IsKey.O; exact oracle_of (P := Tryd.prog) (C := ctx) ⟨(strings_Trim.ok), trivial⟩) mastref2_IsKey.T trivial 0 (fun h => mastref2_IsKey.f_eq h.1)
mutual
def mastref2_eachValue.l0 : Nat → Int → Bool → Int → ByteArray → (List T_api_Value) → (List ByteArray) → (List ByteArray) → Int → Int → Option (Int)
  | 0, _, _, _, _, _, _, _, _, _ => none
  | k + 1, x1_0, x1_1, x1_2, x1_3, x1_4, x1_5, x100, x101, x102 => (bif (ilt x102 x101) then ((lat x100 x102).bind fun y2 => ((mastref2_IsKey.f y2).bind fun y3 => (bif (!y3) then (some 12) else (bif (ilt 0 x102) then ((lat x1_5 (wsub .i64 x102 1)).bind fun y4 => (bif (sle y2 y4) then (some 5) else (mastref2_eachValue.l0 k x1_0 x1_1 x1_2 x1_3 x1_4 x1_5 x100 x101 (wadd .i64 x102 1)))) else (mastref2_eachValue.l0 k x1_0 x1_1 x1_2 x1_3 x1_4 x1_5 x100 x101 (wadd .i64 x102 1)))))) else (mastref2_eachValue.l1 k x1_4 (llen x1_4) 0))
def mastref2_eachValue.l1 : Nat → (List T_api_Value) → Int → Int → Option (Int)
  | 0, _, _, _ => none
  | k + 1, x124, x125, x126 => (bif (ilt x126 x125) then ((lat x124 x126).bind fun y5 => ((mastref2_eachValue.f k (T_api_Value.mk y5.fKind y5.fBool y5.fInt y5.fText y5.fItems y5.fKeys)).bind fun y6 => (bif (!ieq y6 0) then (some y6) else (mastref2_eachValue.l1 k x124 x125 (wadd .i64 x126 1))))) else (some 0))
def mastref2_eachValue.f : Nat → T_api_Value → Option (Int)
  | 0, _ => none
  | k + 1, a0 => (bif (bif (ilt a0.fKind 0) then true else (ilt 6 a0.fKind)) then (some 10) else (bif (bif (bif (bif (bif (bif a0.fBool then (!ieq a0.fKind 1) else false) then true else (bif (bif (!ieq a0.fInt 0) then (!ieq a0.fKind 2) else false) then (!ieq a0.fKind 4) else false)) then true else (bif (!seq a0.fText c_empty) then (!ieq a0.fKind 3) else false)) then true else (bif (bif (ilt 0 (llen a0.fItems)) then (!ieq a0.fKind 5) else false) then (!ieq a0.fKind 6) else false)) then true else (bif (ilt 0 (llen a0.fKeys)) then (!ieq a0.fKind 6) else false)) then (some 1) else (bif (bif (ieq a0.fKind 6) then (!ieq (llen a0.fKeys) (llen a0.fItems)) else false) then (some 1) else (bif (bif (ieq a0.fKind 4) then (bif (ilt a0.fInt 0) then true else (ilt 84005 a0.fInt)) else false) then (some 2) else (bif (ilt 5000 (slen a0.fText)) then (some 4) else ((mastref2_badByte.f k a0.fText).bind fun y1 => (bif y1 then (some 9) else (mastref2_eachValue.l0 k a0.fKind a0.fBool a0.fInt a0.fText a0.fItems a0.fKeys a0.fKeys (llen a0.fKeys) 0))))))))
end
def mastref2_eachValue.e (k : Nat) : Entry sg := entryOf sg [(.d (.st 0))] [(.int .i64)] (fun h => mastref2_eachValue.f k h.1)
def mastref2_eachValue.O (k : Nat) : Oracle sg := fun n => lkp n [(35, mastref2_eachValue.e k), (66, mastref2_badByte.e k), (67, mastref2_IsKey.e)]
def mastref2_eachValue.a : Ann := (.n .z (.n .z (.n .z (.n .z (.n .z (.n .z (.n .z (.n .z (.n (.n .z (.lp 0 .z)) (.n (.n .z (.lp 1 .z)) .z))))))))))
def mastref2_eachValue.L (k : Nat) : Nat → St sg.U → Option (RT sg.U [(.int .i64)]) := labs [(0, labOf sg [(1, (.box [.d (.int .i64), .d .bool, .d (.int .i64), .d .str, .d (.sl (.st 0)), .d (.sl .str)])), (100, (.d (.sl .str))), (101, (.d (.int .i64))), (102, (.d (.int .i64)))] (fun h => mastref2_eachValue.l0 k h.1 h.2.1 h.2.2.1 h.2.2.2.1 h.2.2.2.2.1 h.2.2.2.2.2.1 h.2.2.2.2.2.2.1 h.2.2.2.2.2.2.2.1 h.2.2.2.2.2.2.2.2.1)), (1, labOf sg [(124, (.d (.sl (.st 0)))), (125, (.d (.int .i64))), (126, (.d (.int .i64)))] (fun h => mastref2_eachValue.l1 k h.1 h.2.1 h.2.2.1))]
theorem mastref2_eachValue.l0_eq (k : Nat) (x1_0 : Int) (x1_1 : Bool) (x1_2 : Int) (x1_3 : ByteArray) (x1_4 : (List T_api_Value)) (x1_5 : (List ByteArray)) (x100 : (List ByteArray)) (x101 : Int) (x102 : Int) : mastref2_eachValue.l0 (k + 1) x1_0 x1_1 x1_2 x1_3 x1_4 x1_5 x100 x101 x102 = runFrom (C := ctx) (mastref2_eachValue.O k) ⟨136, [], []⟩ (mastref2_eachValue.L k) (Tryd.f35.body.getD .skip) mastref2_eachValue.a 0 (endK ctx [(.int .i64)] [(.tmp 2)]) (encD [(1, (.box [.d (.int .i64), .d .bool, .d (.int .i64), .d .str, .d (.sl (.st 0)), .d (.sl .str)])), (100, (.d (.sl .str))), (101, (.d (.int .i64))), (102, (.d (.int .i64)))] (x1_0, x1_1, x1_2, x1_3, x1_4, x1_5, x100, x101, x102, ()) (startD sg.U ⟨136, [], []⟩ [(1, (.box [.d (.int .i64), .d .bool, .d (.int .i64), .d .str, .d (.sl (.st 0)), .d (.sl .str)])), (100, (.d (.sl .str))), (101, (.d (.int .i64))), (102, (.d (.int .i64)))])) := by
  rw [mastref2_eachValue.l0]
  kernel_rfl
theorem mastref2_eachValue.l1_eq (k : Nat) (x124 : (List T_api_Value)) (x125 : Int) (x126 : Int) : mastref2_eachValue.l1 (k + 1) x124 x125 x126 = runFrom (C := ctx) (mastref2_eachValue.O k) ⟨136, [], []⟩ (mastref2_eachValue.L k) (Tryd.f35.body.getD .skip) mastref2_eachValue.a 1 (endK ctx [(.int .i64)] [(.tmp 2)]) (encD [(124, (.d (.sl (.st 0)))), (125, (.d (.int .i64))), (126, (.d (.int .i64)))] (x124, x125, x126, ()) (startD sg.U ⟨136, [], []⟩ [(124, (.d (.sl (.st 0)))), (125, (.d (.int .i64))), (126, (.d (.int .i64)))])) := by
  rw [mastref2_eachValue.l1]
  kernel_rfl
theorem mastref2_eachValue.f_eq (k : Nat) (a0 : T_api_Value) : mastref2_eachValue.f (k + 1) a0 = codeK (C := ctx) (mastref2_eachValue.O k) ⟨136, [], []⟩ (mastref2_eachValue.L k) (Tryd.f35.body.getD .skip) mastref2_eachValue.a (endK ctx [(.int .i64)] [(.tmp 2)]) (slotsOf sg.U 0 [(.d (.st 0))] (a0, ()) (empty sg.U)) := by
  rw [mastref2_eachValue.f]
  kernel_rfl
def mastref2_eachValue.T : List (Lb sg (RT sg.U [(.int .i64)])) := [⟨0, [(1, (.box [.d (.int .i64), .d .bool, .d (.int .i64), .d .str, .d (.sl (.st 0)), .d (.sl .str)])), (100, (.d (.sl .str))), (101, (.d (.int .i64))), (102, (.d (.int .i64)))], fun k h => mastref2_eachValue.l0 k h.1 h.2.1 h.2.2.1 h.2.2.2.1 h.2.2.2.2.1 h.2.2.2.2.2.1 h.2.2.2.2.2.2.1 h.2.2.2.2.2.2.2.1 h.2.2.2.2.2.2.2.2.1⟩, ⟨1, [(124, (.d (.sl (.st 0)))), (125, (.d (.int .i64))), (126, (.d (.int .i64)))], fun k h => mastref2_eachValue.l1 k h.1 h.2.1 h.2.2.1⟩]
theorem mastref2_eachValue.ok : ∀ k : Nat, (mastref2_eachValue.e k).Sound Tryd.prog ctx 35 :=
  entry_rec base_ok mo (fn := Tryd.f35) (b := (Tryd.f35.body.getD .skip)) (pm := [(.d (.st 0))]) (rs := [(.int .i64)]) (an := mastref2_eachValue.a) (N := 136) (vars := [(.tmp 2)]) Tryd.func35 (by kernel_rfl) (by kernel_rfl) (by kernel_rfl) (by kernel_rfl) (by kernel_rfl) (by kernel_rfl) (O := mastref2_eachValue.O) mastref2_eachValue.T ⟨⟨by kernel_rfl, fun _ => by first | rfl | rw [mastref2_eachValue.l0], fun k h => mastref2_eachValue.l0_eq k h.1 h.2.1 h.2.2.1 h.2.2.2.1 h.2.2.2.2.1 h.2.2.2.2.2.1 h.2.2.2.2.2.2.1 h.2.2.2.2.2.2.2.1 h.2.2.2.2.2.2.2.2.1⟩, ⟨⟨by kernel_rfl, fun _ => by first | rfl | rw [mastref2_eachValue.l1], fun k h => mastref2_eachValue.l1_eq k h.1 h.2.1 h.2.2.1⟩, trivial⟩⟩ (F := fun k h => mastref2_eachValue.f k h.1) (fun _ => by first | rfl | rw [mastref2_eachValue.f]) (fun k h => mastref2_eachValue.f_eq k h.1)
    (fun k own => by unfold mastref2_eachValue.O; exact oracle_of (P := Tryd.prog) (C := ctx) ⟨own, ⟨(mastref2_badByte.ok k), ⟨(mastref2_IsKey.ok), trivial⟩⟩⟩)
def mastref2_ItemFault.f (k : Nat) (a0 : T_api_Value) : Option (Int) := ((mastref2_ValuesOf.f k (T_api_Value.mk a0.fKind a0.fBool a0.fInt a0.fText a0.fItems a0.fKeys)).bind fun y1 => (bif (ilt 5000 y1) then (some 4) else ((mastref2_LevelsOf.f k (T_api_Value.mk a0.fKind a0.fBool a0.fInt a0.fText a0.fItems a0.fKeys)).bind fun y2 => (bif (ilt 10 y2) then (some 13) else ((mastref2_settled.f k (T_api_Value.mk a0.fKind a0.fBool a0.fInt a0.fText a0.fItems a0.fKeys)).bind fun y3 => ((mastref2_eachValue.f k y3).bind fun y4 => (some y4)))))))
def mastref2_ItemFault.O (k : Nat) : Oracle sg := fun n => lkp n [(33, mastref2_ValuesOf.e k), (34, mastref2_LevelsOf.e k), (35, mastref2_eachValue.e k), (36, mastref2_settled.e k)]
def mastref2_ItemFault.a : Ann := .z
def mastref2_ItemFault.L (k : Nat) : Nat → St sg.U → Option (RT sg.U [(.int .i64)]) := labs []
theorem mastref2_ItemFault.f_eq (k : Nat) (a0 : T_api_Value) : mastref2_ItemFault.f k a0 = codeK (C := ctx) (mastref2_ItemFault.O k) ⟨12, [], []⟩ (mastref2_ItemFault.L k) (Tryd.f14.body.getD .skip) mastref2_ItemFault.a (endK ctx [(.int .i64)] [(.tmp 2)]) (slotsOf sg.U 0 [(.d (.st 0))] (a0, ()) (empty sg.U)) := by
  unfold mastref2_ItemFault.f
  kernel_rfl
def mastref2_ItemFault.e (k : Nat) : Entry sg := entryOf sg [(.d (.st 0))] [(.int .i64)] (fun h => mastref2_ItemFault.f k h.1)
def mastref2_ItemFault.T : List (Lb sg (RT sg.U [(.int .i64)])) := []
theorem mastref2_ItemFault.ok (k : Nat) : (mastref2_ItemFault.e k).Sound Tryd.prog ctx 14 :=
  entry_ok base_ok mo (fn := Tryd.f14) (b := (Tryd.f14.body.getD .skip)) (pm := [(.d (.st 0))]) (rs := [(.int .i64)]) (an := mastref2_ItemFault.a) (N := 12) (vars := [(.tmp 2)]) Tryd.func14 (by kernel_rfl) (by kernel_rfl) (by kernel_rfl) (by kernel_rfl) (by kernel_rfl) (by kernel_rfl) (O := mastref2_ItemFault.O)
    (fun k => by unfold mastref2_ItemFault.O; exact oracle_of (P := Tryd.prog) (C := ctx) ⟨(mastref2_ValuesOf.ok k), ⟨(mastref2_LevelsOf.ok k), ⟨(mastref2_eachValue.ok k), ⟨(mastref2_settled.ok k), trivial⟩⟩⟩⟩) mastref2_ItemFault.T trivial k (fun h => mastref2_ItemFault.f_eq k h.1)
def mastlaw2_ListItems.f (k : Nat) (a0 : T_api_Value) : Option (Bool) := ((list_CheckItem.f k (T_api_Value.mk a0.fKind a0.fBool a0.fInt a0.fText a0.fItems a0.fKeys)).bind fun y1 => ((mastref2_ItemFault.f k (T_api_Value.mk a0.fKind a0.fBool a0.fInt a0.fText a0.fItems a0.fKeys)).bind fun y2 => (some (ieq y1 y2))))
def mastlaw2_ListItems.O (k : Nat) : Oracle sg := fun n => lkp n [(13, list_CheckItem.e k), (14, mastref2_ItemFault.e k)]
def mastlaw2_ListItems.a : Ann := .z
def mastlaw2_ListItems.L (k : Nat) : Nat → St sg.U → Option (RT sg.U [.bool]) := labs []
theorem mastlaw2_ListItems.f_eq (k : Nat) (a0 : T_api_Value) : mastlaw2_ListItems.f k a0 = codeK (C := ctx) (mastlaw2_ListItems.O k) ⟨8, [], []⟩ (mastlaw2_ListItems.L k) (Tryd.f5.body.getD .skip) mastlaw2_ListItems.a (endK ctx [.bool] [(.tmp 2)]) (slotsOf sg.U 0 [(.d (.st 0))] (a0, ()) (empty sg.U)) := by
  unfold mastlaw2_ListItems.f
  kernel_rfl
def mastlaw2_ListItems.e (k : Nat) : Entry sg := entryOf sg [(.d (.st 0))] [.bool] (fun h => mastlaw2_ListItems.f k h.1)
def mastlaw2_ListItems.T : List (Lb sg (RT sg.U [.bool])) := []
theorem mastlaw2_ListItems.ok (k : Nat) : (mastlaw2_ListItems.e k).Sound Tryd.prog ctx 5 :=
  entry_ok base_ok mo (fn := Tryd.f5) (b := (Tryd.f5.body.getD .skip)) (pm := [(.d (.st 0))]) (rs := [.bool]) (an := mastlaw2_ListItems.a) (N := 8) (vars := [(.tmp 2)]) Tryd.func5 (by kernel_rfl) (by kernel_rfl) (by kernel_rfl) (by kernel_rfl) (by kernel_rfl) (by kernel_rfl) (O := mastlaw2_ListItems.O)
    (fun k => by unfold mastlaw2_ListItems.O; exact oracle_of (P := Tryd.prog) (C := ctx) ⟨(list_CheckItem.ok k), ⟨(mastref2_ItemFault.ok k), trivial⟩⟩) mastlaw2_ListItems.T trivial k (fun h => mastlaw2_ListItems.f_eq k h.1)
end Go.Proofs.YtdffbjbpolhliaaDoor.LListItems
