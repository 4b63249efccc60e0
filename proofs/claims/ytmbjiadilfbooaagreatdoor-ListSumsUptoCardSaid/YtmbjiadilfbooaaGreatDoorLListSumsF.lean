/- The functions behind the law ListSums, checked against the code; their summaries hold. Conditions: none. -/
import Derived.Test.YtmbjiadilfbooaaGreatDoorLiftZ
import Derived.Test.YtmbjiadilfbooaaGreatDoorProg
import Derived.Test.YtmbjiadilfbooaaGreatDoorShelf
import Derived.Shelf.Strings.SlTrimAscii
namespace Go.Proofs.YtmbjiadilfbooaaGreatDoor.LListSums
open Go Go.Proofs.YtmbjiadilfbooaaGreatDoor.Lift
set_option maxRecDepth 100000
set_option linter.unusedVariables false
structure T_api_Value where
  fKind : Int
  fBool : Bool
  fInt : Int
  fText : ByteArray
  fItems : (List T_api_Value)
  fKeys : (List ByteArray)
  deriving Inhabited
structure T_list_step where
  fkey : ByteArray
  fnumber : Int
  deriving Inhabited
abbrev sgU : Nat → Type
  | 0 => T_api_Value
  | 1 => T_list_step
  | _ + 2 => Unit
abbrev sgF : Nat → List Ty
  | 0 => [(.int .i64), .bool, (.int .i64), .str, (.sl (.st 0)), (.sl .str)]
  | 1 => [.str, (.int .i64)]
  | _ + 2 => []
def sgO : (n : Nat) → sgU n → HL sgU (sgF n)
  | 0, x => (x.fKind, x.fBool, x.fInt, x.fText, x.fItems, x.fKeys, ())
  | 1, x => (x.fkey, x.fnumber, ())
  | _ + 2, _ => ()
def sgB : (n : Nat) → HL sgU (sgF n) → sgU n
  | 0, h => ⟨h.1, h.2.1, h.2.2.1, h.2.2.2.1, h.2.2.2.2.1, h.2.2.2.2.2.1⟩
  | 1, h => ⟨h.1, h.2.1⟩
  | _ + 2, _ => ()
def sg : Sg := { U := sgU, fl := sgF, out := sgO, bld := sgB, gl := [2] }
def ctx : Ctx := { S := sg, ty := [(3, .d (.int .i64) 1 0), (4, .d .bool 1 0), (5, .d (.int .u8) 1 0), (9, .d .str 1 0), (22, .d (.sl (.st 0)) 88 25), (23, .d (.sl .str) 16 9), (25, .d (.st 0) 1 0), (29, .d (.int .i64) 1 0), (33, .d (.sl (.int .i64)) 8 3), (74, .d (.int .u64) 1 0), (192, .d (.sl (.st 1)) 24 291), (291, .d (.st 1) 1 0)], eqs := [] }
def c_empty : ByteArray := ⟨#[]⟩
def c_0 : ByteArray := ⟨#[48]⟩
def c_abcdefghijklmnopqrst_0e2e2cf4 : ByteArray := ⟨#[97, 98, 99, 100, 101, 102, 103, 104, 105, 106, 107, 108, 109, 110, 111, 112, 113, 114, 115, 116, 117, 118, 119, 120, 121, 122, 48, 49, 50, 51, 52, 53, 54, 55, 56, 57, 45, 95]⟩
def c__2e : ByteArray := ⟨#[46]⟩
def c_0123456789 : ByteArray := ⟨#[48, 49, 50, 51, 52, 53, 54, 55, 56, 57]⟩
def c__2a : ByteArray := ⟨#[42]⟩
theorem sg_ok : SgOk sg :=
  ⟨fun n h => by rcases n with _ | _ | n <;> rfl, fun n => by rcases n with _ | _ | n <;> rfl, fun n x => by rcases n with _ | _ | n <;> rfl, fun n => by rcases n with _ | _ | n <;> rfl⟩
theorem base_ok : Base Tryz.prog ctx := base_of sg_ok (by kernel_rfl) (eqOk_of (by kernel_rfl))
theorem open_ok : openB Tryz.prog ctx = true := by kernel_rfl
theorem mo : Tryz.prog.follows .mixedOrders = true := by kernel_rfl
mutual
def list_count.l0 : Nat → Int → (List T_api_Value) → Int → Int → Option (Int)
  | 0, _, _, _, _ => none
  | k + 1, x3, x7, x8, x9 => (bif (ilt x9 x8) then ((lat x7 x9).bind fun y1 => (bif (ilt 5000 x3) then (some x3) else ((list_count.f k (T_api_Value.mk y1.fKind y1.fBool y1.fInt y1.fText y1.fItems y1.fKeys)).bind fun y2 => (list_count.l0 k (wadd .i64 x3 y2) x7 x8 (wadd .i64 x9 1))))) else (some x3))
def list_count.f : Nat → T_api_Value → Option (Int)
  | 0, _ => none
  | k + 1, a0 => (list_count.l0 k 1 a0.fItems (llen a0.fItems) 0)
end
def list_count.e (k : Nat) : Entry sg := entryOf sg [(.d (.st 0))] [(.int .i64)] (fun h => list_count.f k h.1)
def list_count.O (k : Nat) : Oracle sg := fun n => lkp n [(112, list_count.e k)]
def list_count.a : Ann := (.n .z (.n .z (.n (.n .z (.lp 0 .z)) .z)))
def list_count.L (k : Nat) : Nat → St sg.U → Option (RT sg.U [(.int .i64)]) := labs [(0, labOf sg [(3, (.d (.int .i64))), (7, (.d (.sl (.st 0)))), (8, (.d (.int .i64))), (9, (.d (.int .i64)))] (fun h => list_count.l0 k h.1 h.2.1 h.2.2.1 h.2.2.2.1))]
theorem list_count.l0_eq (k : Nat) (x3 : Int) (x7 : (List T_api_Value)) (x8 : Int) (x9 : Int) : list_count.l0 (k + 1) x3 x7 x8 x9 = runFrom (C := ctx) (list_count.O k) ⟨21, [], []⟩ (list_count.L k) (Tryz.f112.body.getD .skip) list_count.a 0 (endK ctx [(.int .i64)] [(.tmp 2)]) (encD [(3, (.d (.int .i64))), (7, (.d (.sl (.st 0)))), (8, (.d (.int .i64))), (9, (.d (.int .i64)))] (x3, x7, x8, x9, ()) (startD sg.U ⟨21, [], []⟩ [(3, (.d (.int .i64))), (7, (.d (.sl (.st 0)))), (8, (.d (.int .i64))), (9, (.d (.int .i64)))])) := by
  rw [list_count.l0]
  kernel_rfl
theorem list_count.f_eq (k : Nat) (a0 : T_api_Value) : list_count.f (k + 1) a0 = codeK (C := ctx) (list_count.O k) ⟨21, [], []⟩ (list_count.L k) (Tryz.f112.body.getD .skip) list_count.a (endK ctx [(.int .i64)] [(.tmp 2)]) (slotsOf sg.U 0 [(.d (.st 0))] (a0, ()) (empty sg.U)) := by
  rw [list_count.f]
  kernel_rfl
def list_count.T : List (Lb sg (RT sg.U [(.int .i64)])) := [⟨0, [(3, (.d (.int .i64))), (7, (.d (.sl (.st 0)))), (8, (.d (.int .i64))), (9, (.d (.int .i64)))], fun k h => list_count.l0 k h.1 h.2.1 h.2.2.1 h.2.2.2.1⟩]
theorem list_count.ok : ∀ k : Nat, (list_count.e k).Sound Tryz.prog ctx 112 :=
  entry_rec base_ok mo (fn := Tryz.f112) (b := (Tryz.f112.body.getD .skip)) (pm := [(.d (.st 0))]) (rs := [(.int .i64)]) (an := list_count.a) (N := 21) (vars := [(.tmp 2)]) Tryz.func112 (by kernel_rfl) (by kernel_rfl) (by kernel_rfl) (by kernel_rfl) (by kernel_rfl) (by kernel_rfl) (O := list_count.O) list_count.T ⟨⟨by kernel_rfl, fun _ => by first | rfl | rw [list_count.l0], fun k h => list_count.l0_eq k h.1 h.2.1 h.2.2.1 h.2.2.2.1⟩, trivial⟩ (F := fun k h => list_count.f k h.1) (fun _ => by first | rfl | rw [list_count.f]) (fun k h => list_count.f_eq k h.1)
    (fun k own => by unfold list_count.O; exact oracle_of (P := Tryz.prog) (C := ctx) ⟨own, trivial⟩)
mutual
def list_levels.l0 : Nat → Int → (List T_api_Value) → Int → Int → Option (Int)
  | 0, _, _, _, _ => none
  | k + 1, x3, x7, x8, x9 => (bif (ilt x9 x8) then ((lat x7 x9).bind fun y1 => ((list_levels.f k (T_api_Value.mk y1.fKind y1.fBool y1.fInt y1.fText y1.fItems y1.fKeys)).bind fun y2 => (list_levels.l0 k (imax x3 y2) x7 x8 (wadd .i64 x9 1)))) else (some (wadd .i64 x3 1)))
def list_levels.f : Nat → T_api_Value → Option (Int)
  | 0, _ => none
  | k + 1, a0 => (list_levels.l0 k 0 a0.fItems (llen a0.fItems) 0)
end
def list_levels.e (k : Nat) : Entry sg := entryOf sg [(.d (.st 0))] [(.int .i64)] (fun h => list_levels.f k h.1)
def list_levels.O (k : Nat) : Oracle sg := fun n => lkp n [(113, list_levels.e k)]
def list_levels.a : Ann := (.n .z (.n .z (.n (.n .z (.lp 0 .z)) .z)))
def list_levels.L (k : Nat) : Nat → St sg.U → Option (RT sg.U [(.int .i64)]) := labs [(0, labOf sg [(3, (.d (.int .i64))), (7, (.d (.sl (.st 0)))), (8, (.d (.int .i64))), (9, (.d (.int .i64)))] (fun h => list_levels.l0 k h.1 h.2.1 h.2.2.1 h.2.2.2.1))]
theorem list_levels.l0_eq (k : Nat) (x3 : Int) (x7 : (List T_api_Value)) (x8 : Int) (x9 : Int) : list_levels.l0 (k + 1) x3 x7 x8 x9 = runFrom (C := ctx) (list_levels.O k) ⟨20, [], []⟩ (list_levels.L k) (Tryz.f113.body.getD .skip) list_levels.a 0 (endK ctx [(.int .i64)] [(.tmp 2)]) (encD [(3, (.d (.int .i64))), (7, (.d (.sl (.st 0)))), (8, (.d (.int .i64))), (9, (.d (.int .i64)))] (x3, x7, x8, x9, ()) (startD sg.U ⟨20, [], []⟩ [(3, (.d (.int .i64))), (7, (.d (.sl (.st 0)))), (8, (.d (.int .i64))), (9, (.d (.int .i64)))])) := by
  rw [list_levels.l0]
  kernel_rfl
theorem list_levels.f_eq (k : Nat) (a0 : T_api_Value) : list_levels.f (k + 1) a0 = codeK (C := ctx) (list_levels.O k) ⟨20, [], []⟩ (list_levels.L k) (Tryz.f113.body.getD .skip) list_levels.a (endK ctx [(.int .i64)] [(.tmp 2)]) (slotsOf sg.U 0 [(.d (.st 0))] (a0, ()) (empty sg.U)) := by
  rw [list_levels.f]
  kernel_rfl
def list_levels.T : List (Lb sg (RT sg.U [(.int .i64)])) := [⟨0, [(3, (.d (.int .i64))), (7, (.d (.sl (.st 0)))), (8, (.d (.int .i64))), (9, (.d (.int .i64)))], fun k h => list_levels.l0 k h.1 h.2.1 h.2.2.1 h.2.2.2.1⟩]
theorem list_levels.ok : ∀ k : Nat, (list_levels.e k).Sound Tryz.prog ctx 113 :=
  entry_rec base_ok mo (fn := Tryz.f113) (b := (Tryz.f113.body.getD .skip)) (pm := [(.d (.st 0))]) (rs := [(.int .i64)]) (an := list_levels.a) (N := 20) (vars := [(.tmp 2)]) Tryz.func113 (by kernel_rfl) (by kernel_rfl) (by kernel_rfl) (by kernel_rfl) (by kernel_rfl) (by kernel_rfl) (O := list_levels.O) list_levels.T ⟨⟨by kernel_rfl, fun _ => by first | rfl | rw [list_levels.l0], fun k h => list_levels.l0_eq k h.1 h.2.1 h.2.2.1 h.2.2.2.1⟩, trivial⟩ (F := fun k h => list_levels.f k h.1) (fun _ => by first | rfl | rw [list_levels.f]) (fun k h => list_levels.f_eq k h.1)
    (fun k own => by unfold list_levels.O; exact oracle_of (P := Tryz.prog) (C := ctx) ⟨own, trivial⟩)
mutual
def conf_count.l0 : Nat → Int → (List T_api_Value) → Int → Int → Option (Int)
  | 0, _, _, _, _ => none
  | k + 1, x3, x7, x8, x9 => (bif (ilt x9 x8) then ((lat x7 x9).bind fun y1 => (bif (ilt 1000 x3) then (some x3) else ((conf_count.f k (T_api_Value.mk y1.fKind y1.fBool y1.fInt y1.fText y1.fItems y1.fKeys)).bind fun y2 => (conf_count.l0 k (wadd .i64 x3 y2) x7 x8 (wadd .i64 x9 1))))) else (some x3))
def conf_count.f : Nat → T_api_Value → Option (Int)
  | 0, _ => none
  | k + 1, a0 => (conf_count.l0 k 1 a0.fItems (llen a0.fItems) 0)
end
def conf_count.e (k : Nat) : Entry sg := entryOf sg [(.d (.st 0))] [(.int .i64)] (fun h => conf_count.f k h.1)
def conf_count.O (k : Nat) : Oracle sg := fun n => lkp n [(142, conf_count.e k)]
def conf_count.a : Ann := (.n .z (.n .z (.n (.n .z (.lp 0 .z)) .z)))
def conf_count.L (k : Nat) : Nat → St sg.U → Option (RT sg.U [(.int .i64)]) := labs [(0, labOf sg [(3, (.d (.int .i64))), (7, (.d (.sl (.st 0)))), (8, (.d (.int .i64))), (9, (.d (.int .i64)))] (fun h => conf_count.l0 k h.1 h.2.1 h.2.2.1 h.2.2.2.1))]
theorem conf_count.l0_eq (k : Nat) (x3 : Int) (x7 : (List T_api_Value)) (x8 : Int) (x9 : Int) : conf_count.l0 (k + 1) x3 x7 x8 x9 = runFrom (C := ctx) (conf_count.O k) ⟨21, [], []⟩ (conf_count.L k) (Tryz.f142.body.getD .skip) conf_count.a 0 (endK ctx [(.int .i64)] [(.tmp 2)]) (encD [(3, (.d (.int .i64))), (7, (.d (.sl (.st 0)))), (8, (.d (.int .i64))), (9, (.d (.int .i64)))] (x3, x7, x8, x9, ()) (startD sg.U ⟨21, [], []⟩ [(3, (.d (.int .i64))), (7, (.d (.sl (.st 0)))), (8, (.d (.int .i64))), (9, (.d (.int .i64)))])) := by
  rw [conf_count.l0]
  kernel_rfl
theorem conf_count.f_eq (k : Nat) (a0 : T_api_Value) : conf_count.f (k + 1) a0 = codeK (C := ctx) (conf_count.O k) ⟨21, [], []⟩ (conf_count.L k) (Tryz.f142.body.getD .skip) conf_count.a (endK ctx [(.int .i64)] [(.tmp 2)]) (slotsOf sg.U 0 [(.d (.st 0))] (a0, ()) (empty sg.U)) := by
  rw [conf_count.f]
  kernel_rfl
def conf_count.T : List (Lb sg (RT sg.U [(.int .i64)])) := [⟨0, [(3, (.d (.int .i64))), (7, (.d (.sl (.st 0)))), (8, (.d (.int .i64))), (9, (.d (.int .i64)))], fun k h => conf_count.l0 k h.1 h.2.1 h.2.2.1 h.2.2.2.1⟩]
theorem conf_count.ok : ∀ k : Nat, (conf_count.e k).Sound Tryz.prog ctx 142 :=
  entry_rec base_ok mo (fn := Tryz.f142) (b := (Tryz.f142.body.getD .skip)) (pm := [(.d (.st 0))]) (rs := [(.int .i64)]) (an := conf_count.a) (N := 21) (vars := [(.tmp 2)]) Tryz.func142 (by kernel_rfl) (by kernel_rfl) (by kernel_rfl) (by kernel_rfl) (by kernel_rfl) (by kernel_rfl) (O := conf_count.O) conf_count.T ⟨⟨by kernel_rfl, fun _ => by first | rfl | rw [conf_count.l0], fun k h => conf_count.l0_eq k h.1 h.2.1 h.2.2.1 h.2.2.2.1⟩, trivial⟩ (F := fun k h => conf_count.f k h.1) (fun _ => by first | rfl | rw [conf_count.f]) (fun k h => conf_count.f_eq k h.1)
    (fun k own => by unfold conf_count.O; exact oracle_of (P := Tryz.prog) (C := ctx) ⟨own, trivial⟩)
mutual
def conf_levels.l0 : Nat → Int → (List T_api_Value) → Int → Int → Option (Int)
  | 0, _, _, _, _ => none
  | k + 1, x3, x7, x8, x9 => (bif (ilt x9 x8) then ((lat x7 x9).bind fun y1 => ((conf_levels.f k (T_api_Value.mk y1.fKind y1.fBool y1.fInt y1.fText y1.fItems y1.fKeys)).bind fun y2 => (conf_levels.l0 k (imax x3 y2) x7 x8 (wadd .i64 x9 1)))) else (some (wadd .i64 x3 1)))
def conf_levels.f : Nat → T_api_Value → Option (Int)
  | 0, _ => none
  | k + 1, a0 => (conf_levels.l0 k 0 a0.fItems (llen a0.fItems) 0)
end
def conf_levels.e (k : Nat) : Entry sg := entryOf sg [(.d (.st 0))] [(.int .i64)] (fun h => conf_levels.f k h.1)
def conf_levels.O (k : Nat) : Oracle sg := fun n => lkp n [(143, conf_levels.e k)]
def conf_levels.a : Ann := (.n .z (.n .z (.n (.n .z (.lp 0 .z)) .z)))
def conf_levels.L (k : Nat) : Nat → St sg.U → Option (RT sg.U [(.int .i64)]) := labs [(0, labOf sg [(3, (.d (.int .i64))), (7, (.d (.sl (.st 0)))), (8, (.d (.int .i64))), (9, (.d (.int .i64)))] (fun h => conf_levels.l0 k h.1 h.2.1 h.2.2.1 h.2.2.2.1))]
theorem conf_levels.l0_eq (k : Nat) (x3 : Int) (x7 : (List T_api_Value)) (x8 : Int) (x9 : Int) : conf_levels.l0 (k + 1) x3 x7 x8 x9 = runFrom (C := ctx) (conf_levels.O k) ⟨20, [], []⟩ (conf_levels.L k) (Tryz.f143.body.getD .skip) conf_levels.a 0 (endK ctx [(.int .i64)] [(.tmp 2)]) (encD [(3, (.d (.int .i64))), (7, (.d (.sl (.st 0)))), (8, (.d (.int .i64))), (9, (.d (.int .i64)))] (x3, x7, x8, x9, ()) (startD sg.U ⟨20, [], []⟩ [(3, (.d (.int .i64))), (7, (.d (.sl (.st 0)))), (8, (.d (.int .i64))), (9, (.d (.int .i64)))])) := by
  rw [conf_levels.l0]
  kernel_rfl
theorem conf_levels.f_eq (k : Nat) (a0 : T_api_Value) : conf_levels.f (k + 1) a0 = codeK (C := ctx) (conf_levels.O k) ⟨20, [], []⟩ (conf_levels.L k) (Tryz.f143.body.getD .skip) conf_levels.a (endK ctx [(.int .i64)] [(.tmp 2)]) (slotsOf sg.U 0 [(.d (.st 0))] (a0, ()) (empty sg.U)) := by
  rw [conf_levels.f]
  kernel_rfl
def conf_levels.T : List (Lb sg (RT sg.U [(.int .i64)])) := [⟨0, [(3, (.d (.int .i64))), (7, (.d (.sl (.st 0)))), (8, (.d (.int .i64))), (9, (.d (.int .i64)))], fun k h => conf_levels.l0 k h.1 h.2.1 h.2.2.1 h.2.2.2.1⟩]
theorem conf_levels.ok : ∀ k : Nat, (conf_levels.e k).Sound Tryz.prog ctx 143 :=
  entry_rec base_ok mo (fn := Tryz.f143) (b := (Tryz.f143.body.getD .skip)) (pm := [(.d (.st 0))]) (rs := [(.int .i64)]) (an := conf_levels.a) (N := 20) (vars := [(.tmp 2)]) Tryz.func143 (by kernel_rfl) (by kernel_rfl) (by kernel_rfl) (by kernel_rfl) (by kernel_rfl) (by kernel_rfl) (O := conf_levels.O) conf_levels.T ⟨⟨by kernel_rfl, fun _ => by first | rfl | rw [conf_levels.l0], fun k h => conf_levels.l0_eq k h.1 h.2.1 h.2.2.1 h.2.2.2.1⟩, trivial⟩ (F := fun k h => conf_levels.f k h.1) (fun _ => by first | rfl | rw [conf_levels.f]) (fun k h => conf_levels.f_eq k h.1)
    (fun k own => by unfold conf_levels.O; exact oracle_of (P := Tryz.prog) (C := ctx) ⟨own, trivial⟩)
def conf_unused.l0 : Nat → Int → Bool → Int → ByteArray → (List T_api_Value) → (List ByteArray) → Int → Bool → Option (Bool)
  | 0, _, _, _, _, _, _, _, _ => none
  | k + 1, x1_0, x1_1, x1_2, x1_3, x1_4, x1_5, x3, x6 => (bif x6 then (some true) else (bif (bif (bif (ilt 0 (llen x1_4)) then (!ieq x3 5) else false) then (!ieq x3 6) else false) then (some true) else (bif (bif (ilt 0 (llen x1_5)) then (!ieq x3 6) else false) then (some true) else (some (bif (ieq x3 6) then (!ieq (llen x1_5) (llen x1_4)) else false)))))
def conf_unused.f (k : Nat) (a0 : T_api_Value) : Option (Bool) := (bif (bif a0.fBool then (!ieq a0.fKind 1) else false) then (conf_unused.l0 k a0.fKind a0.fBool a0.fInt a0.fText a0.fItems a0.fKeys a0.fKind true) else (bif (bif (bif (!ieq a0.fInt 0) then (!ieq a0.fKind 2) else false) then (!ieq a0.fKind 4) else false) then (conf_unused.l0 k a0.fKind a0.fBool a0.fInt a0.fText a0.fItems a0.fKeys a0.fKind true) else (conf_unused.l0 k a0.fKind a0.fBool a0.fInt a0.fText a0.fItems a0.fKeys a0.fKind (bif (!seq a0.fText c_empty) then (!ieq a0.fKind 3) else false))))
def conf_unused.O (k : Nat) : Oracle sg := fun n => lkp n []
def conf_unused.a : Ann := (.n .z (.n .z (.n (.n .z (.lab 0 .z)) .z)))
def conf_unused.L (k : Nat) : Nat → St sg.U → Option (RT sg.U [.bool]) := labs [(0, labOf sg [(1, (.box [.d (.int .i64), .d .bool, .d (.int .i64), .d .str, .d (.sl (.st 0)), .d (.sl .str)])), (3, (.d (.int .i64))), (6, (.d .bool))] (fun h => conf_unused.l0 k h.1 h.2.1 h.2.2.1 h.2.2.2.1 h.2.2.2.2.1 h.2.2.2.2.2.1 h.2.2.2.2.2.2.1 h.2.2.2.2.2.2.2.1))]
theorem conf_unused.l0_eq (k : Nat) (x1_0 : Int) (x1_1 : Bool) (x1_2 : Int) (x1_3 : ByteArray) (x1_4 : (List T_api_Value)) (x1_5 : (List ByteArray)) (x3 : Int) (x6 : Bool) : conf_unused.l0 (k + 1) x1_0 x1_1 x1_2 x1_3 x1_4 x1_5 x3 x6 = runFrom (C := ctx) (conf_unused.O k) ⟨63, [], []⟩ (conf_unused.L k) (Tryz.f256.body.getD .skip) conf_unused.a 0 (endK ctx [.bool] [(.tmp 2)]) (encD [(1, (.box [.d (.int .i64), .d .bool, .d (.int .i64), .d .str, .d (.sl (.st 0)), .d (.sl .str)])), (3, (.d (.int .i64))), (6, (.d .bool))] (x1_0, x1_1, x1_2, x1_3, x1_4, x1_5, x3, x6, ()) (startD sg.U ⟨63, [], []⟩ [(1, (.box [.d (.int .i64), .d .bool, .d (.int .i64), .d .str, .d (.sl (.st 0)), .d (.sl .str)])), (3, (.d (.int .i64))), (6, (.d .bool))])) := by
  rw [conf_unused.l0]
  kernel_rfl
theorem conf_unused.f_eq (k : Nat) (a0 : T_api_Value) : conf_unused.f k a0 = codeK (C := ctx) (conf_unused.O k) ⟨63, [], []⟩ (conf_unused.L k) (Tryz.f256.body.getD .skip) conf_unused.a (endK ctx [.bool] [(.tmp 2)]) (slotsOf sg.U 0 [(.d (.st 0))] (a0, ()) (empty sg.U)) := by
  unfold conf_unused.f
  kernel_rfl
def conf_unused.e (k : Nat) : Entry sg := entryOf sg [(.d (.st 0))] [.bool] (fun h => conf_unused.f k h.1)
def conf_unused.T : List (Lb sg (RT sg.U [.bool])) := [⟨0, [(1, (.box [.d (.int .i64), .d .bool, .d (.int .i64), .d .str, .d (.sl (.st 0)), .d (.sl .str)])), (3, (.d (.int .i64))), (6, (.d .bool))], fun k h => conf_unused.l0 k h.1 h.2.1 h.2.2.1 h.2.2.2.1 h.2.2.2.2.1 h.2.2.2.2.2.1 h.2.2.2.2.2.2.1 h.2.2.2.2.2.2.2.1⟩]
theorem conf_unused.ok (k : Nat) : (conf_unused.e k).Sound Tryz.prog ctx 256 :=
  entry_ok base_ok mo (fn := Tryz.f256) (b := (Tryz.f256.body.getD .skip)) (pm := [(.d (.st 0))]) (rs := [.bool]) (an := conf_unused.a) (N := 63) (vars := [(.tmp 2)]) Tryz.func256 (by kernel_rfl) (by kernel_rfl) (by kernel_rfl) (by kernel_rfl) (by kernel_rfl) (by kernel_rfl) (O := conf_unused.O)
    (fun k => by unfold conf_unused.O; exact oracle_of (P := Tryz.prog) (C := ctx) trivial) conf_unused.T ⟨⟨by kernel_rfl, fun _ => by first | rfl | rw [conf_unused.l0], fun k h => conf_unused.l0_eq k h.1 h.2.1 h.2.2.1 h.2.2.2.1 h.2.2.2.2.1 h.2.2.2.2.2.1 h.2.2.2.2.2.2.1 h.2.2.2.2.2.2.2.1⟩, trivial⟩ k (fun h => conf_unused.f_eq k h.1)
def conf_badDay.f (a0 : Int) : Option (Bool) := (some (bif (ilt a0 0) then true else (ilt 84005 a0)))
def conf_badDay.O : Oracle sg := fun n => lkp n []
def conf_badDay.a : Ann := .z
def conf_badDay.L : Nat → St sg.U → Option (RT sg.U [.bool]) := labs []
theorem conf_badDay.f_eq (a0 : Int) : conf_badDay.f a0 = codeK (C := ctx) (conf_badDay.O) ⟨9, [], []⟩ (conf_badDay.L) (Tryz.f257.body.getD .skip) conf_badDay.a (endK ctx [.bool] [(.tmp 2)]) (slotsOf sg.U 0 [(.d (.int .i64))] (a0, ()) (empty sg.U)) := by
  unfold conf_badDay.f
  kernel_rfl
def conf_badDay.e : Entry sg := entryOf sg [(.d (.int .i64))] [.bool] (fun h => conf_badDay.f h.1)
def conf_badDay.T : List (Lb sg (RT sg.U [.bool])) := []
theorem conf_badDay.ok : (conf_badDay.e).Sound Tryz.prog ctx 257 :=
  entry_ok base_ok mo (fn := Tryz.f257) (b := (Tryz.f257.body.getD .skip)) (pm := [(.d (.int .i64))]) (rs := [.bool]) (an := conf_badDay.a) (N := 9) (vars := [(.tmp 2)]) Tryz.func257 (by kernel_rfl) (by kernel_rfl) (by kernel_rfl) (by kernel_rfl) (by kernel_rfl) (by kernel_rfl) (O := fun _ => conf_badDay.O)
    (fun _ => by unfold conf_badDay.O; exact oracle_of (P := Tryz.prog) (C := ctx) trivial) conf_badDay.T trivial 0 (fun h => conf_badDay.f_eq h.1)
def conf_badBytes.l0 : Nat → ByteArray → Int → Option (Bool)
  | 0, _, _ => none
  | k + 1, x0, x3 => (bif (ilt x3 (slen x0)) then ((sat x0 x3).bind fun y1 => (bif (ilt y1 32) then ((sat x0 x3).bind fun y2 => (bif (!ieq y2 9) then ((sat x0 x3).bind fun y3 => (bif (!ieq y3 10) then (some true) else (conf_badBytes.l0 k x0 (wadd .i64 x3 1)))) else (conf_badBytes.l0 k x0 (wadd .i64 x3 1)))) else (conf_badBytes.l0 k x0 (wadd .i64 x3 1)))) else (some false))
def conf_badBytes.f (k : Nat) (a0 : ByteArray) : Option (Bool) := (conf_badBytes.l0 k a0 0)
def conf_badBytes.O (k : Nat) : Oracle sg := fun n => lkp n []
def conf_badBytes.a : Ann := (.n .z (.n (.n .z (.lp 0 .z)) .z))
def conf_badBytes.L (k : Nat) : Nat → St sg.U → Option (RT sg.U [.bool]) := labs [(0, labOf sg [(0, (.d .str)), (3, (.d (.int .i64)))] (fun h => conf_badBytes.l0 k h.1 h.2.1))]
theorem conf_badBytes.l0_eq (k : Nat) (x0 : ByteArray) (x3 : Int) : conf_badBytes.l0 (k + 1) x0 x3 = runFrom (C := ctx) (conf_badBytes.O k) ⟨26, [], []⟩ (conf_badBytes.L k) (Tryz.f222.body.getD .skip) conf_badBytes.a 0 (endK ctx [.bool] [(.tmp 2)]) (encD [(0, (.d .str)), (3, (.d (.int .i64)))] (x0, x3, ()) (startD sg.U ⟨26, [], []⟩ [(0, (.d .str)), (3, (.d (.int .i64)))])) := by
  rw [conf_badBytes.l0]
  kernel_rfl
theorem conf_badBytes.f_eq (k : Nat) (a0 : ByteArray) : conf_badBytes.f k a0 = codeK (C := ctx) (conf_badBytes.O k) ⟨26, [], []⟩ (conf_badBytes.L k) (Tryz.f222.body.getD .skip) conf_badBytes.a (endK ctx [.bool] [(.tmp 2)]) (slotsOf sg.U 0 [(.d .str)] (a0, ()) (empty sg.U)) := by
  unfold conf_badBytes.f
  kernel_rfl
def conf_badBytes.e (k : Nat) : Entry sg := entryOf sg [(.d .str)] [.bool] (fun h => conf_badBytes.f k h.1)
def conf_badBytes.T : List (Lb sg (RT sg.U [.bool])) := [⟨0, [(0, (.d .str)), (3, (.d (.int .i64)))], fun k h => conf_badBytes.l0 k h.1 h.2.1⟩]
theorem conf_badBytes.ok (k : Nat) : (conf_badBytes.e k).Sound Tryz.prog ctx 222 :=
  entry_ok base_ok mo (fn := Tryz.f222) (b := (Tryz.f222.body.getD .skip)) (pm := [(.d .str)]) (rs := [.bool]) (an := conf_badBytes.a) (N := 26) (vars := [(.tmp 2)]) Tryz.func222 (by kernel_rfl) (by kernel_rfl) (by kernel_rfl) (by kernel_rfl) (by kernel_rfl) (by kernel_rfl) (O := conf_badBytes.O)
    (fun k => by unfold conf_badBytes.O; exact oracle_of (P := Tryz.prog) (C := ctx) trivial) conf_badBytes.T ⟨⟨by kernel_rfl, fun _ => by first | rfl | rw [conf_badBytes.l0], fun k h => conf_badBytes.l0_eq k h.1 h.2.1⟩, trivial⟩ k (fun h => conf_badBytes.f_eq k h.1)
def conf_isSmall.f (a0 : Int) : Option (Bool) := (some (bif (ile 97 a0) then (ile a0 122) else false))
def conf_isSmall.O : Oracle sg := fun n => lkp n []
def conf_isSmall.a : Ann := .z
def conf_isSmall.L : Nat → St sg.U → Option (RT sg.U [.bool]) := labs []
theorem conf_isSmall.f_eq (a0 : Int) : conf_isSmall.f a0 = codeK (C := ctx) (conf_isSmall.O) ⟨9, [], []⟩ (conf_isSmall.L) (Tryz.f225.body.getD .skip) conf_isSmall.a (endK ctx [.bool] [(.tmp 2)]) (slotsOf sg.U 0 [(.d (.int .u8))] (a0, ()) (empty sg.U)) := by
  unfold conf_isSmall.f
  kernel_rfl
def conf_isSmall.e : Entry sg := entryOf sg [(.d (.int .u8))] [.bool] (fun h => conf_isSmall.f h.1)
def conf_isSmall.T : List (Lb sg (RT sg.U [.bool])) := []
theorem conf_isSmall.ok : (conf_isSmall.e).Sound Tryz.prog ctx 225 :=
  entry_ok base_ok mo (fn := Tryz.f225) (b := (Tryz.f225.body.getD .skip)) (pm := [(.d (.int .u8))]) (rs := [.bool]) (an := conf_isSmall.a) (N := 9) (vars := [(.tmp 2)]) Tryz.func225 (by kernel_rfl) (by kernel_rfl) (by kernel_rfl) (by kernel_rfl) (by kernel_rfl) (by kernel_rfl) (O := fun _ => conf_isSmall.O)
    (fun _ => by unfold conf_isSmall.O; exact oracle_of (P := Tryz.prog) (C := ctx) trivial) conf_isSmall.T trivial 0 (fun h => conf_isSmall.f_eq h.1)
def conf_isDigit.f (a0 : Int) : Option (Bool) := (some (bif (ile 48 a0) then (ile a0 57) else false))
def conf_isDigit.O : Oracle sg := fun n => lkp n []
def conf_isDigit.a : Ann := .z
def conf_isDigit.L : Nat → St sg.U → Option (RT sg.U [.bool]) := labs []
theorem conf_isDigit.f_eq (a0 : Int) : conf_isDigit.f a0 = codeK (C := ctx) (conf_isDigit.O) ⟨9, [], []⟩ (conf_isDigit.L) (Tryz.f226.body.getD .skip) conf_isDigit.a (endK ctx [.bool] [(.tmp 2)]) (slotsOf sg.U 0 [(.d (.int .u8))] (a0, ()) (empty sg.U)) := by
  unfold conf_isDigit.f
  kernel_rfl
def conf_isDigit.e : Entry sg := entryOf sg [(.d (.int .u8))] [.bool] (fun h => conf_isDigit.f h.1)
def conf_isDigit.T : List (Lb sg (RT sg.U [.bool])) := []
theorem conf_isDigit.ok : (conf_isDigit.e).Sound Tryz.prog ctx 226 :=
  entry_ok base_ok mo (fn := Tryz.f226) (b := (Tryz.f226.body.getD .skip)) (pm := [(.d (.int .u8))]) (rs := [.bool]) (an := conf_isDigit.a) (N := 9) (vars := [(.tmp 2)]) Tryz.func226 (by kernel_rfl) (by kernel_rfl) (by kernel_rfl) (by kernel_rfl) (by kernel_rfl) (by kernel_rfl) (O := fun _ => conf_isDigit.O)
    (fun _ => by unfold conf_isDigit.O; exact oracle_of (P := Tryz.prog) (C := ctx) trivial) conf_isDigit.T trivial 0 (fun h => conf_isDigit.f_eq h.1)
def conf_isKey.l0 : Nat → ByteArray → Int → Option (Bool)
  | 0, _, _ => none
  | k + 1, x0, x3 => (bif (ilt x3 (slen x0)) then ((sat x0 x3).bind fun y3 => ((conf_isSmall.f y3).bind fun y4 => (bif (!y4) then ((sat x0 x3).bind fun y5 => ((conf_isDigit.f y5).bind fun y6 => (bif (!y6) then ((sat x0 x3).bind fun y7 => (bif (!ieq y7 45) then ((sat x0 x3).bind fun y8 => (bif (!ieq y8 95) then (some false) else (conf_isKey.l0 k x0 (wadd .i64 x3 1)))) else (conf_isKey.l0 k x0 (wadd .i64 x3 1)))) else (conf_isKey.l0 k x0 (wadd .i64 x3 1))))) else (conf_isKey.l0 k x0 (wadd .i64 x3 1))))) else (some true))
def conf_isKey.f (k : Nat) (a0 : ByteArray) : Option (Bool) := (bif (bif (seq a0 c_empty) then true else (ilt 40 (slen a0))) then (some false) else ((sat a0 0).bind fun y1 => ((conf_isSmall.f y1).bind fun y2 => (bif (!y2) then (some false) else (conf_isKey.l0 k a0 1)))))
def conf_isKey.O (k : Nat) : Oracle sg := fun n => lkp n [(225, conf_isSmall.e), (226, conf_isDigit.e)]
def conf_isKey.a : Ann := (.n .z (.n .z (.n (.n .z (.lp 0 .z)) .z)))
def conf_isKey.L (k : Nat) : Nat → St sg.U → Option (RT sg.U [.bool]) := labs [(0, labOf sg [(0, (.d .str)), (3, (.d (.int .i64)))] (fun h => conf_isKey.l0 k h.1 h.2.1))]
theorem conf_isKey.l0_eq (k : Nat) (x0 : ByteArray) (x3 : Int) : conf_isKey.l0 (k + 1) x0 x3 = runFrom (C := ctx) (conf_isKey.O k) ⟨47, [], []⟩ (conf_isKey.L k) (Tryz.f145.body.getD .skip) conf_isKey.a 0 (endK ctx [.bool] [(.tmp 2)]) (encD [(0, (.d .str)), (3, (.d (.int .i64)))] (x0, x3, ()) (startD sg.U ⟨47, [], []⟩ [(0, (.d .str)), (3, (.d (.int .i64)))])) := by
  rw [conf_isKey.l0]
  kernel_rfl
theorem conf_isKey.f_eq (k : Nat) (a0 : ByteArray) : conf_isKey.f k a0 = codeK (C := ctx) (conf_isKey.O k) ⟨47, [], []⟩ (conf_isKey.L k) (Tryz.f145.body.getD .skip) conf_isKey.a (endK ctx [.bool] [(.tmp 2)]) (slotsOf sg.U 0 [(.d .str)] (a0, ()) (empty sg.U)) := by
  unfold conf_isKey.f
  kernel_rfl
def conf_isKey.e (k : Nat) : Entry sg := entryOf sg [(.d .str)] [.bool] (fun h => conf_isKey.f k h.1)
def conf_isKey.T : List (Lb sg (RT sg.U [.bool])) := [⟨0, [(0, (.d .str)), (3, (.d (.int .i64)))], fun k h => conf_isKey.l0 k h.1 h.2.1⟩]
theorem conf_isKey.ok (k : Nat) : (conf_isKey.e k).Sound Tryz.prog ctx 145 :=
  entry_ok base_ok mo (fn := Tryz.f145) (b := (Tryz.f145.body.getD .skip)) (pm := [(.d .str)]) (rs := [.bool]) (an := conf_isKey.a) (N := 47) (vars := [(.tmp 2)]) Tryz.func145 (by kernel_rfl) (by kernel_rfl) (by kernel_rfl) (by kernel_rfl) (by kernel_rfl) (by kernel_rfl) (O := conf_isKey.O)
    (fun k => by unfold conf_isKey.O; exact oracle_of (P := Tryz.prog) (C := ctx) ⟨(conf_isSmall.ok), ⟨(conf_isDigit.ok), trivial⟩⟩) conf_isKey.T ⟨⟨by kernel_rfl, fun _ => by first | rfl | rw [conf_isKey.l0], fun k h => conf_isKey.l0_eq k h.1 h.2.1⟩, trivial⟩ k (fun h => conf_isKey.f_eq k h.1)
mutual
def conf_valueFault.l0 : Nat → Int → Bool → Int → ByteArray → (List T_api_Value) → (List ByteArray) → Bool → Option (Int)
  | 0, _, _, _, _, _, _, _ => none
  | k + 1, x1_0, x1_1, x1_2, x1_3, x1_4, x1_5, x17 => (bif x17 then (some 2) else (bif (ilt 5000 (slen x1_3)) then (some 4) else ((conf_badBytes.f k x1_3).bind fun y3 => (bif y3 then (some 9) else (conf_valueFault.l1 k x1_0 x1_1 x1_2 x1_3 x1_4 x1_5 x1_5 (llen x1_5) 0)))))
def conf_valueFault.l1 : Nat → Int → Bool → Int → ByteArray → (List T_api_Value) → (List ByteArray) → (List ByteArray) → Int → Int → Option (Int)
  | 0, _, _, _, _, _, _, _, _, _ => none
  | k + 1, x1_0, x1_1, x1_2, x1_3, x1_4, x1_5, x36, x37, x38 => (bif (ilt x38 x37) then ((lat x36 x38).bind fun y4 => ((conf_isKey.f k y4).bind fun y5 => (bif (!y5) then (some 12) else (bif (ilt 0 x38) then ((lat x1_5 (wsub .i64 x38 1)).bind fun y6 => (bif (sle y4 y6) then (some 5) else (conf_valueFault.l1 k x1_0 x1_1 x1_2 x1_3 x1_4 x1_5 x36 x37 (wadd .i64 x38 1)))) else (conf_valueFault.l1 k x1_0 x1_1 x1_2 x1_3 x1_4 x1_5 x36 x37 (wadd .i64 x38 1)))))) else (some 0))
end
def conf_valueFault.f (k : Nat) (a0 : T_api_Value) : Option (Int) := (bif (bif (ilt a0.fKind 0) then true else (ilt 6 a0.fKind)) then (some 10) else ((conf_unused.f k (T_api_Value.mk a0.fKind a0.fBool a0.fInt a0.fText a0.fItems a0.fKeys)).bind fun y1 => (bif y1 then (some 1) else (bif (ieq a0.fKind 4) then ((conf_badDay.f a0.fInt).bind fun y2 => (conf_valueFault.l0 k a0.fKind a0.fBool a0.fInt a0.fText a0.fItems a0.fKeys y2)) else (conf_valueFault.l0 k a0.fKind a0.fBool a0.fInt a0.fText a0.fItems a0.fKeys false)))))
def conf_valueFault.O (k : Nat) : Oracle sg := fun n => lkp n [(145, conf_isKey.e k), (222, conf_badBytes.e k), (256, conf_unused.e k), (257, conf_badDay.e)]
def conf_valueFault.a : Ann := (.n .z (.n (.n .z (.n .z (.n .z (.n .z (.n .z (.lab 0 .z)))))) (.n (.n .z (.lp 1 .z)) .z)))
def conf_valueFault.L (k : Nat) : Nat → St sg.U → Option (RT sg.U [(.int .i64)]) := labs [(0, labOf sg [(1, (.box [.d (.int .i64), .d .bool, .d (.int .i64), .d .str, .d (.sl (.st 0)), .d (.sl .str)])), (17, (.d .bool))] (fun h => conf_valueFault.l0 k h.1 h.2.1 h.2.2.1 h.2.2.2.1 h.2.2.2.2.1 h.2.2.2.2.2.1 h.2.2.2.2.2.2.1)), (1, labOf sg [(1, (.box [.d (.int .i64), .d .bool, .d (.int .i64), .d .str, .d (.sl (.st 0)), .d (.sl .str)])), (36, (.d (.sl .str))), (37, (.d (.int .i64))), (38, (.d (.int .i64)))] (fun h => conf_valueFault.l1 k h.1 h.2.1 h.2.2.1 h.2.2.2.1 h.2.2.2.2.1 h.2.2.2.2.2.1 h.2.2.2.2.2.2.1 h.2.2.2.2.2.2.2.1 h.2.2.2.2.2.2.2.2.1))]
theorem conf_valueFault.l0_eq (k : Nat) (x1_0 : Int) (x1_1 : Bool) (x1_2 : Int) (x1_3 : ByteArray) (x1_4 : (List T_api_Value)) (x1_5 : (List ByteArray)) (x17 : Bool) : conf_valueFault.l0 (k + 1) x1_0 x1_1 x1_2 x1_3 x1_4 x1_5 x17 = runFrom (C := ctx) (conf_valueFault.O k) ⟨59, [], []⟩ (conf_valueFault.L k) (Tryz.f224.body.getD .skip) conf_valueFault.a 0 (endK ctx [(.int .i64)] [(.tmp 2)]) (encD [(1, (.box [.d (.int .i64), .d .bool, .d (.int .i64), .d .str, .d (.sl (.st 0)), .d (.sl .str)])), (17, (.d .bool))] (x1_0, x1_1, x1_2, x1_3, x1_4, x1_5, x17, ()) (startD sg.U ⟨59, [], []⟩ [(1, (.box [.d (.int .i64), .d .bool, .d (.int .i64), .d .str, .d (.sl (.st 0)), .d (.sl .str)])), (17, (.d .bool))])) := by
  rw [conf_valueFault.l0]
  kernel_rfl
theorem conf_valueFault.l1_eq (k : Nat) (x1_0 : Int) (x1_1 : Bool) (x1_2 : Int) (x1_3 : ByteArray) (x1_4 : (List T_api_Value)) (x1_5 : (List ByteArray)) (x36 : (List ByteArray)) (x37 : Int) (x38 : Int) : conf_valueFault.l1 (k + 1) x1_0 x1_1 x1_2 x1_3 x1_4 x1_5 x36 x37 x38 = runFrom (C := ctx) (conf_valueFault.O k) ⟨59, [], []⟩ (conf_valueFault.L k) (Tryz.f224.body.getD .skip) conf_valueFault.a 1 (endK ctx [(.int .i64)] [(.tmp 2)]) (encD [(1, (.box [.d (.int .i64), .d .bool, .d (.int .i64), .d .str, .d (.sl (.st 0)), .d (.sl .str)])), (36, (.d (.sl .str))), (37, (.d (.int .i64))), (38, (.d (.int .i64)))] (x1_0, x1_1, x1_2, x1_3, x1_4, x1_5, x36, x37, x38, ()) (startD sg.U ⟨59, [], []⟩ [(1, (.box [.d (.int .i64), .d .bool, .d (.int .i64), .d .str, .d (.sl (.st 0)), .d (.sl .str)])), (36, (.d (.sl .str))), (37, (.d (.int .i64))), (38, (.d (.int .i64)))])) := by
  rw [conf_valueFault.l1]
  kernel_rfl
theorem conf_valueFault.f_eq (k : Nat) (a0 : T_api_Value) : conf_valueFault.f k a0 = codeK (C := ctx) (conf_valueFault.O k) ⟨59, [], []⟩ (conf_valueFault.L k) (Tryz.f224.body.getD .skip) conf_valueFault.a (endK ctx [(.int .i64)] [(.tmp 2)]) (slotsOf sg.U 0 [(.d (.st 0))] (a0, ()) (empty sg.U)) := by
  unfold conf_valueFault.f
  kernel_rfl
def conf_valueFault.e (k : Nat) : Entry sg := entryOf sg [(.d (.st 0))] [(.int .i64)] (fun h => conf_valueFault.f k h.1)
def conf_valueFault.T : List (Lb sg (RT sg.U [(.int .i64)])) := [⟨0, [(1, (.box [.d (.int .i64), .d .bool, .d (.int .i64), .d .str, .d (.sl (.st 0)), .d (.sl .str)])), (17, (.d .bool))], fun k h => conf_valueFault.l0 k h.1 h.2.1 h.2.2.1 h.2.2.2.1 h.2.2.2.2.1 h.2.2.2.2.2.1 h.2.2.2.2.2.2.1⟩, ⟨1, [(1, (.box [.d (.int .i64), .d .bool, .d (.int .i64), .d .str, .d (.sl (.st 0)), .d (.sl .str)])), (36, (.d (.sl .str))), (37, (.d (.int .i64))), (38, (.d (.int .i64)))], fun k h => conf_valueFault.l1 k h.1 h.2.1 h.2.2.1 h.2.2.2.1 h.2.2.2.2.1 h.2.2.2.2.2.1 h.2.2.2.2.2.2.1 h.2.2.2.2.2.2.2.1 h.2.2.2.2.2.2.2.2.1⟩]
theorem conf_valueFault.ok (k : Nat) : (conf_valueFault.e k).Sound Tryz.prog ctx 224 :=
  entry_ok base_ok mo (fn := Tryz.f224) (b := (Tryz.f224.body.getD .skip)) (pm := [(.d (.st 0))]) (rs := [(.int .i64)]) (an := conf_valueFault.a) (N := 59) (vars := [(.tmp 2)]) Tryz.func224 (by kernel_rfl) (by kernel_rfl) (by kernel_rfl) (by kernel_rfl) (by kernel_rfl) (by kernel_rfl) (O := conf_valueFault.O)
    (fun k => by unfold conf_valueFault.O; exact oracle_of (P := Tryz.prog) (C := ctx) ⟨(conf_isKey.ok k), ⟨(conf_badBytes.ok k), ⟨(conf_unused.ok k), ⟨(conf_badDay.ok), trivial⟩⟩⟩⟩) conf_valueFault.T ⟨⟨by kernel_rfl, fun _ => by first | rfl | rw [conf_valueFault.l0], fun k h => conf_valueFault.l0_eq k h.1 h.2.1 h.2.2.1 h.2.2.2.1 h.2.2.2.2.1 h.2.2.2.2.2.1 h.2.2.2.2.2.2.1⟩, ⟨⟨by kernel_rfl, fun _ => by first | rfl | rw [conf_valueFault.l1], fun k h => conf_valueFault.l1_eq k h.1 h.2.1 h.2.2.1 h.2.2.2.1 h.2.2.2.2.1 h.2.2.2.2.2.1 h.2.2.2.2.2.2.1 h.2.2.2.2.2.2.2.1 h.2.2.2.2.2.2.2.2.1⟩, trivial⟩⟩ k (fun h => conf_valueFault.f_eq k h.1)
mutual
def conf_valuesFault.l0 : Nat → (List T_api_Value) → Int → Int → Option (Int)
  | 0, _, _, _ => none
  | k + 1, x13, x14, x15 => (bif (ilt x15 x14) then ((lat x13 x15).bind fun y2 => ((conf_valuesFault.f k (T_api_Value.mk y2.fKind y2.fBool y2.fInt y2.fText y2.fItems y2.fKeys)).bind fun y3 => (bif (!ieq y3 0) then (some y3) else (conf_valuesFault.l0 k x13 x14 (wadd .i64 x15 1))))) else (some 0))
def conf_valuesFault.f : Nat → T_api_Value → Option (Int)
  | 0, _ => none
  | k + 1, a0 => ((conf_valueFault.f k (T_api_Value.mk a0.fKind a0.fBool a0.fInt a0.fText a0.fItems a0.fKeys)).bind fun y1 => (bif (!ieq y1 0) then (some y1) else (conf_valuesFault.l0 k a0.fItems (llen a0.fItems) 0)))
end
def conf_valuesFault.e (k : Nat) : Entry sg := entryOf sg [(.d (.st 0))] [(.int .i64)] (fun h => conf_valuesFault.f k h.1)
def conf_valuesFault.O (k : Nat) : Oracle sg := fun n => lkp n [(144, conf_valuesFault.e k), (224, conf_valueFault.e k)]
def conf_valuesFault.a : Ann := (.n .z (.n .z (.n (.n .z (.lp 0 .z)) .z)))
def conf_valuesFault.L (k : Nat) : Nat → St sg.U → Option (RT sg.U [(.int .i64)]) := labs [(0, labOf sg [(13, (.d (.sl (.st 0)))), (14, (.d (.int .i64))), (15, (.d (.int .i64)))] (fun h => conf_valuesFault.l0 k h.1 h.2.1 h.2.2.1))]
theorem conf_valuesFault.l0_eq (k : Nat) (x13 : (List T_api_Value)) (x14 : Int) (x15 : Int) : conf_valuesFault.l0 (k + 1) x13 x14 x15 = runFrom (C := ctx) (conf_valuesFault.O k) ⟨25, [], []⟩ (conf_valuesFault.L k) (Tryz.f144.body.getD .skip) conf_valuesFault.a 0 (endK ctx [(.int .i64)] [(.tmp 2)]) (encD [(13, (.d (.sl (.st 0)))), (14, (.d (.int .i64))), (15, (.d (.int .i64)))] (x13, x14, x15, ()) (startD sg.U ⟨25, [], []⟩ [(13, (.d (.sl (.st 0)))), (14, (.d (.int .i64))), (15, (.d (.int .i64)))])) := by
  rw [conf_valuesFault.l0]
  kernel_rfl
theorem conf_valuesFault.f_eq (k : Nat) (a0 : T_api_Value) : conf_valuesFault.f (k + 1) a0 = codeK (C := ctx) (conf_valuesFault.O k) ⟨25, [], []⟩ (conf_valuesFault.L k) (Tryz.f144.body.getD .skip) conf_valuesFault.a (endK ctx [(.int .i64)] [(.tmp 2)]) (slotsOf sg.U 0 [(.d (.st 0))] (a0, ()) (empty sg.U)) := by
  rw [conf_valuesFault.f]
  kernel_rfl
def conf_valuesFault.T : List (Lb sg (RT sg.U [(.int .i64)])) := [⟨0, [(13, (.d (.sl (.st 0)))), (14, (.d (.int .i64))), (15, (.d (.int .i64)))], fun k h => conf_valuesFault.l0 k h.1 h.2.1 h.2.2.1⟩]
theorem conf_valuesFault.ok : ∀ k : Nat, (conf_valuesFault.e k).Sound Tryz.prog ctx 144 :=
  entry_rec base_ok mo (fn := Tryz.f144) (b := (Tryz.f144.body.getD .skip)) (pm := [(.d (.st 0))]) (rs := [(.int .i64)]) (an := conf_valuesFault.a) (N := 25) (vars := [(.tmp 2)]) Tryz.func144 (by kernel_rfl) (by kernel_rfl) (by kernel_rfl) (by kernel_rfl) (by kernel_rfl) (by kernel_rfl) (O := conf_valuesFault.O) conf_valuesFault.T ⟨⟨by kernel_rfl, fun _ => by first | rfl | rw [conf_valuesFault.l0], fun k h => conf_valuesFault.l0_eq k h.1 h.2.1 h.2.2.1⟩, trivial⟩ (F := fun k h => conf_valuesFault.f k h.1) (fun _ => by first | rfl | rw [conf_valuesFault.f]) (fun k h => conf_valuesFault.f_eq k h.1)
    (fun k own => by unfold conf_valuesFault.O; exact oracle_of (P := Tryz.prog) (C := ctx) ⟨own, ⟨(conf_valueFault.ok k), trivial⟩⟩)
def conf_Check.f (k : Nat) (a0 : T_api_Value) : Option (Int) := ((conf_count.f k (T_api_Value.mk a0.fKind a0.fBool a0.fInt a0.fText a0.fItems a0.fKeys)).bind fun y1 => (bif (ilt 1000 y1) then (some 4) else ((conf_levels.f k (T_api_Value.mk a0.fKind a0.fBool a0.fInt a0.fText a0.fItems a0.fKeys)).bind fun y2 => (bif (ilt 8 y2) then (some 13) else ((conf_valuesFault.f k (T_api_Value.mk a0.fKind a0.fBool a0.fInt a0.fText a0.fItems a0.fKeys)).bind fun y3 => (some y3))))))
def conf_Check.O (k : Nat) : Oracle sg := fun n => lkp n [(142, conf_count.e k), (143, conf_levels.e k), (144, conf_valuesFault.e k)]
def conf_Check.a : Ann := .z
def conf_Check.L (k : Nat) : Nat → St sg.U → Option (RT sg.U [(.int .i64)]) := labs []
theorem conf_Check.f_eq (k : Nat) (a0 : T_api_Value) : conf_Check.f k a0 = codeK (C := ctx) (conf_Check.O k) ⟨11, [], []⟩ (conf_Check.L k) (Tryz.f52.body.getD .skip) conf_Check.a (endK ctx [(.int .i64)] [(.tmp 2)]) (slotsOf sg.U 0 [(.d (.st 0))] (a0, ()) (empty sg.U)) := by
  unfold conf_Check.f
  kernel_rfl
def conf_Check.e (k : Nat) : Entry sg := entryOf sg [(.d (.st 0))] [(.int .i64)] (fun h => conf_Check.f k h.1)
def conf_Check.T : List (Lb sg (RT sg.U [(.int .i64)])) := []
theorem conf_Check.ok (k : Nat) : (conf_Check.e k).Sound Tryz.prog ctx 52 :=
  entry_ok base_ok mo (fn := Tryz.f52) (b := (Tryz.f52.body.getD .skip)) (pm := [(.d (.st 0))]) (rs := [(.int .i64)]) (an := conf_Check.a) (N := 11) (vars := [(.tmp 2)]) Tryz.func52 (by kernel_rfl) (by kernel_rfl) (by kernel_rfl) (by kernel_rfl) (by kernel_rfl) (by kernel_rfl) (O := conf_Check.O)
    (fun k => by unfold conf_Check.O; exact oracle_of (P := Tryz.prog) (C := ctx) ⟨(conf_count.ok k), ⟨(conf_levels.ok k), ⟨(conf_valuesFault.ok k), trivial⟩⟩⟩) conf_Check.T trivial k (fun h => conf_Check.f_eq k h.1)
def list_isSmall.f (a0 : Int) : Option (Bool) := (some (bif (ile 97 a0) then (ile a0 122) else false))
def list_isSmall.O : Oracle sg := fun n => lkp n []
def list_isSmall.a : Ann := .z
def list_isSmall.L : Nat → St sg.U → Option (RT sg.U [.bool]) := labs []
theorem list_isSmall.f_eq (a0 : Int) : list_isSmall.f a0 = codeK (C := ctx) (list_isSmall.O) ⟨9, [], []⟩ (list_isSmall.L) (Tryz.f255.body.getD .skip) list_isSmall.a (endK ctx [.bool] [(.tmp 2)]) (slotsOf sg.U 0 [(.d (.int .u8))] (a0, ()) (empty sg.U)) := by
  unfold list_isSmall.f
  kernel_rfl
def list_isSmall.e : Entry sg := entryOf sg [(.d (.int .u8))] [.bool] (fun h => list_isSmall.f h.1)
def list_isSmall.T : List (Lb sg (RT sg.U [.bool])) := []
theorem list_isSmall.ok : (list_isSmall.e).Sound Tryz.prog ctx 255 :=
  entry_ok base_ok mo (fn := Tryz.f255) (b := (Tryz.f255.body.getD .skip)) (pm := [(.d (.int .u8))]) (rs := [.bool]) (an := list_isSmall.a) (N := 9) (vars := [(.tmp 2)]) Tryz.func255 (by kernel_rfl) (by kernel_rfl) (by kernel_rfl) (by kernel_rfl) (by kernel_rfl) (by kernel_rfl) (O := fun _ => list_isSmall.O)
    (fun _ => by unfold list_isSmall.O; exact oracle_of (P := Tryz.prog) (C := ctx) trivial) list_isSmall.T trivial 0 (fun h => list_isSmall.f_eq h.1)
def list_isDigit.f (a0 : Int) : Option (Bool) := (some (bif (ile 48 a0) then (ile a0 57) else false))
def list_isDigit.O : Oracle sg := fun n => lkp n []
def list_isDigit.a : Ann := .z
def list_isDigit.L : Nat → St sg.U → Option (RT sg.U [.bool]) := labs []
theorem list_isDigit.f_eq (a0 : Int) : list_isDigit.f a0 = codeK (C := ctx) (list_isDigit.O) ⟨9, [], []⟩ (list_isDigit.L) (Tryz.f211.body.getD .skip) list_isDigit.a (endK ctx [.bool] [(.tmp 2)]) (slotsOf sg.U 0 [(.d (.int .u8))] (a0, ()) (empty sg.U)) := by
  unfold list_isDigit.f
  kernel_rfl
def list_isDigit.e : Entry sg := entryOf sg [(.d (.int .u8))] [.bool] (fun h => list_isDigit.f h.1)
def list_isDigit.T : List (Lb sg (RT sg.U [.bool])) := []
theorem list_isDigit.ok : (list_isDigit.e).Sound Tryz.prog ctx 211 :=
  entry_ok base_ok mo (fn := Tryz.f211) (b := (Tryz.f211.body.getD .skip)) (pm := [(.d (.int .u8))]) (rs := [.bool]) (an := list_isDigit.a) (N := 9) (vars := [(.tmp 2)]) Tryz.func211 (by kernel_rfl) (by kernel_rfl) (by kernel_rfl) (by kernel_rfl) (by kernel_rfl) (by kernel_rfl) (O := fun _ => list_isDigit.O)
    (fun _ => by unfold list_isDigit.O; exact oracle_of (P := Tryz.prog) (C := ctx) trivial) list_isDigit.T trivial 0 (fun h => list_isDigit.f_eq h.1)
def list_isKey.l0 : Nat → ByteArray → Int → Option (Bool)
  | 0, _, _ => none
  | k + 1, x0, x3 => (bif (ilt x3 (slen x0)) then ((sat x0 x3).bind fun y3 => ((list_isSmall.f y3).bind fun y4 => (bif (!y4) then ((sat x0 x3).bind fun y5 => ((list_isDigit.f y5).bind fun y6 => (bif (!y6) then ((sat x0 x3).bind fun y7 => (bif (!ieq y7 45) then ((sat x0 x3).bind fun y8 => (bif (!ieq y8 95) then (some false) else (list_isKey.l0 k x0 (wadd .i64 x3 1)))) else (list_isKey.l0 k x0 (wadd .i64 x3 1)))) else (list_isKey.l0 k x0 (wadd .i64 x3 1))))) else (list_isKey.l0 k x0 (wadd .i64 x3 1))))) else (some true))
def list_isKey.f (k : Nat) (a0 : ByteArray) : Option (Bool) := (bif (bif (seq a0 c_empty) then true else (ilt 40 (slen a0))) then (some false) else ((sat a0 0).bind fun y1 => ((list_isSmall.f y1).bind fun y2 => (bif (!y2) then (some false) else (list_isKey.l0 k a0 1)))))
def list_isKey.O (k : Nat) : Oracle sg := fun n => lkp n [(211, list_isDigit.e), (255, list_isSmall.e)]
def list_isKey.a : Ann := (.n .z (.n .z (.n (.n .z (.lp 0 .z)) .z)))
def list_isKey.L (k : Nat) : Nat → St sg.U → Option (RT sg.U [.bool]) := labs [(0, labOf sg [(0, (.d .str)), (3, (.d (.int .i64)))] (fun h => list_isKey.l0 k h.1 h.2.1))]
theorem list_isKey.l0_eq (k : Nat) (x0 : ByteArray) (x3 : Int) : list_isKey.l0 (k + 1) x0 x3 = runFrom (C := ctx) (list_isKey.O k) ⟨47, [], []⟩ (list_isKey.L k) (Tryz.f210.body.getD .skip) list_isKey.a 0 (endK ctx [.bool] [(.tmp 2)]) (encD [(0, (.d .str)), (3, (.d (.int .i64)))] (x0, x3, ()) (startD sg.U ⟨47, [], []⟩ [(0, (.d .str)), (3, (.d (.int .i64)))])) := by
  rw [list_isKey.l0]
  kernel_rfl
theorem list_isKey.f_eq (k : Nat) (a0 : ByteArray) : list_isKey.f k a0 = codeK (C := ctx) (list_isKey.O k) ⟨47, [], []⟩ (list_isKey.L k) (Tryz.f210.body.getD .skip) list_isKey.a (endK ctx [.bool] [(.tmp 2)]) (slotsOf sg.U 0 [(.d .str)] (a0, ()) (empty sg.U)) := by
  unfold list_isKey.f
  kernel_rfl
def list_isKey.e (k : Nat) : Entry sg := entryOf sg [(.d .str)] [.bool] (fun h => list_isKey.f k h.1)
def list_isKey.T : List (Lb sg (RT sg.U [.bool])) := [⟨0, [(0, (.d .str)), (3, (.d (.int .i64)))], fun k h => list_isKey.l0 k h.1 h.2.1⟩]
theorem list_isKey.ok (k : Nat) : (list_isKey.e k).Sound Tryz.prog ctx 210 :=
  entry_ok base_ok mo (fn := Tryz.f210) (b := (Tryz.f210.body.getD .skip)) (pm := [(.d .str)]) (rs := [.bool]) (an := list_isKey.a) (N := 47) (vars := [(.tmp 2)]) Tryz.func210 (by kernel_rfl) (by kernel_rfl) (by kernel_rfl) (by kernel_rfl) (by kernel_rfl) (by kernel_rfl) (O := list_isKey.O)
    (fun k => by unfold list_isKey.O; exact oracle_of (P := Tryz.prog) (C := ctx) ⟨(list_isDigit.ok), ⟨(list_isSmall.ok), trivial⟩⟩) list_isKey.T ⟨⟨by kernel_rfl, fun _ => by first | rfl | rw [list_isKey.l0], fun k h => list_isKey.l0_eq k h.1 h.2.1⟩, trivial⟩ k (fun h => list_isKey.f_eq k h.1)
def list_tableFault.l0 : Nat → Int → Bool → Int → ByteArray → (List T_api_Value) → (List ByteArray) → (List ByteArray) → Int → Int → Option (Int)
  | 0, _, _, _, _, _, _, _, _, _ => none
  | k + 1, x1_0, x1_1, x1_2, x1_3, x1_4, x1_5, x27, x28, x29 => (bif (ilt x29 x28) then ((lat x27 x29).bind fun y1 => ((list_isKey.f k y1).bind fun y2 => (bif (!y2) then (some 12) else (bif (ilt 0 x29) then ((lat x1_5 (wsub .i64 x29 1)).bind fun y3 => (bif (sle y1 y3) then (some 5) else (list_tableFault.l0 k x1_0 x1_1 x1_2 x1_3 x1_4 x1_5 x27 x28 (wadd .i64 x29 1)))) else (list_tableFault.l0 k x1_0 x1_1 x1_2 x1_3 x1_4 x1_5 x27 x28 (wadd .i64 x29 1)))))) else (some 0))
def list_tableFault.f (k : Nat) (a0 : T_api_Value) : Option (Int) := (bif (bif (bif (bif a0.fBool then true else (!ieq a0.fInt 0)) then true else (!seq a0.fText c_empty)) then true else (!ieq (llen a0.fKeys) (llen a0.fItems))) then (some 1) else (list_tableFault.l0 k a0.fKind a0.fBool a0.fInt a0.fText a0.fItems a0.fKeys a0.fKeys (llen a0.fKeys) 0))
def list_tableFault.O (k : Nat) : Oracle sg := fun n => lkp n [(210, list_isKey.e k)]
def list_tableFault.a : Ann := (.n .z (.n .z (.n (.n .z (.lp 0 .z)) .z)))
def list_tableFault.L (k : Nat) : Nat → St sg.U → Option (RT sg.U [(.int .i64)]) := labs [(0, labOf sg [(1, (.box [.d (.int .i64), .d .bool, .d (.int .i64), .d .str, .d (.sl (.st 0)), .d (.sl .str)])), (27, (.d (.sl .str))), (28, (.d (.int .i64))), (29, (.d (.int .i64)))] (fun h => list_tableFault.l0 k h.1 h.2.1 h.2.2.1 h.2.2.2.1 h.2.2.2.2.1 h.2.2.2.2.2.1 h.2.2.2.2.2.2.1 h.2.2.2.2.2.2.2.1 h.2.2.2.2.2.2.2.2.1))]
theorem list_tableFault.l0_eq (k : Nat) (x1_0 : Int) (x1_1 : Bool) (x1_2 : Int) (x1_3 : ByteArray) (x1_4 : (List T_api_Value)) (x1_5 : (List ByteArray)) (x27 : (List ByteArray)) (x28 : Int) (x29 : Int) : list_tableFault.l0 (k + 1) x1_0 x1_1 x1_2 x1_3 x1_4 x1_5 x27 x28 x29 = runFrom (C := ctx) (list_tableFault.O k) ⟨50, [], []⟩ (list_tableFault.L k) (Tryz.f254.body.getD .skip) list_tableFault.a 0 (endK ctx [(.int .i64)] [(.tmp 2)]) (encD [(1, (.box [.d (.int .i64), .d .bool, .d (.int .i64), .d .str, .d (.sl (.st 0)), .d (.sl .str)])), (27, (.d (.sl .str))), (28, (.d (.int .i64))), (29, (.d (.int .i64)))] (x1_0, x1_1, x1_2, x1_3, x1_4, x1_5, x27, x28, x29, ()) (startD sg.U ⟨50, [], []⟩ [(1, (.box [.d (.int .i64), .d .bool, .d (.int .i64), .d .str, .d (.sl (.st 0)), .d (.sl .str)])), (27, (.d (.sl .str))), (28, (.d (.int .i64))), (29, (.d (.int .i64)))])) := by
  rw [list_tableFault.l0]
  kernel_rfl
theorem list_tableFault.f_eq (k : Nat) (a0 : T_api_Value) : list_tableFault.f k a0 = codeK (C := ctx) (list_tableFault.O k) ⟨50, [], []⟩ (list_tableFault.L k) (Tryz.f254.body.getD .skip) list_tableFault.a (endK ctx [(.int .i64)] [(.tmp 2)]) (slotsOf sg.U 0 [(.d (.st 0))] (a0, ()) (empty sg.U)) := by
  unfold list_tableFault.f
  kernel_rfl
def list_tableFault.e (k : Nat) : Entry sg := entryOf sg [(.d (.st 0))] [(.int .i64)] (fun h => list_tableFault.f k h.1)
def list_tableFault.T : List (Lb sg (RT sg.U [(.int .i64)])) := [⟨0, [(1, (.box [.d (.int .i64), .d .bool, .d (.int .i64), .d .str, .d (.sl (.st 0)), .d (.sl .str)])), (27, (.d (.sl .str))), (28, (.d (.int .i64))), (29, (.d (.int .i64)))], fun k h => list_tableFault.l0 k h.1 h.2.1 h.2.2.1 h.2.2.2.1 h.2.2.2.2.1 h.2.2.2.2.2.1 h.2.2.2.2.2.2.1 h.2.2.2.2.2.2.2.1 h.2.2.2.2.2.2.2.2.1⟩]
theorem list_tableFault.ok (k : Nat) : (list_tableFault.e k).Sound Tryz.prog ctx 254 :=
  entry_ok base_ok mo (fn := Tryz.f254) (b := (Tryz.f254.body.getD .skip)) (pm := [(.d (.st 0))]) (rs := [(.int .i64)]) (an := list_tableFault.a) (N := 50) (vars := [(.tmp 2)]) Tryz.func254 (by kernel_rfl) (by kernel_rfl) (by kernel_rfl) (by kernel_rfl) (by kernel_rfl) (by kernel_rfl) (O := list_tableFault.O)
    (fun k => by unfold list_tableFault.O; exact oracle_of (P := Tryz.prog) (C := ctx) ⟨(list_isKey.ok k), trivial⟩) list_tableFault.T ⟨⟨by kernel_rfl, fun _ => by first | rfl | rw [list_tableFault.l0], fun k h => list_tableFault.l0_eq k h.1 h.2.1 h.2.2.1 h.2.2.2.1 h.2.2.2.2.1 h.2.2.2.2.2.1 h.2.2.2.2.2.2.1 h.2.2.2.2.2.2.2.1 h.2.2.2.2.2.2.2.2.1⟩, trivial⟩ k (fun h => list_tableFault.f_eq k h.1)
def list_valueFault.l0 : Nat → Int → Bool → Int → ByteArray → (List T_api_Value) → (List ByteArray) → Int → Bool → Int → ByteArray → (List T_api_Value) → (List ByteArray) → Int → Bool → Option (Int)
  | 0, _, _, _, _, _, _, _, _, _, _, _, _, _, _ => none
  | k + 1, x1_0, x1_1, x1_2, x1_3, x1_4, x1_5, x3_0, x3_1, x3_2, x3_3, x3_4, x3_5, x15, x23 => (bif x23 then (bif (ilt 0 (llen x1_4)) then (some 1) else ((conf_Check.f k (T_api_Value.mk 3 x3_1 x3_2 x3_3 x3_4 x3_5)).bind fun y1 => (some y1))) else (bif (ieq x15 5) then ((conf_Check.f k (T_api_Value.mk x3_0 x3_1 x3_2 x3_3 x3_4 x3_5)).bind fun y2 => (some y2)) else (bif (ieq x15 6) then ((lmake 88 (llen x1_4) (llen x1_4) (T_api_Value.mk 0 false 0 c_empty [] [])).bind fun y3 => (bif (ilt 999 (llen y3)) then ((list_tableFault.f k (T_api_Value.mk x1_0 x1_1 x1_2 x1_3 x1_4 x1_5)).bind fun y4 => (some y4)) else ((conf_Check.f k (T_api_Value.mk x3_0 x3_1 x3_2 x3_3 y3 x3_5)).bind fun y5 => (some y5)))) else (bif (ilt 0 (llen x1_4)) then (some 1) else ((conf_Check.f k (T_api_Value.mk x3_0 x3_1 x3_2 x3_3 x1_4 x3_5)).bind fun y6 => (some y6))))))
def list_valueFault.f (k : Nat) (a0 : T_api_Value) : Option (Int) := (bif (bif (ilt a0.fKind 0) then true else (ilt 8 a0.fKind)) then (some 10) else (bif (ieq a0.fKind 7) then (list_valueFault.l0 k a0.fKind a0.fBool a0.fInt a0.fText a0.fItems a0.fKeys a0.fKind a0.fBool a0.fInt a0.fText [] a0.fKeys a0.fKind true) else (list_valueFault.l0 k a0.fKind a0.fBool a0.fInt a0.fText a0.fItems a0.fKeys a0.fKind a0.fBool a0.fInt a0.fText [] a0.fKeys a0.fKind (ieq a0.fKind 8))))
def list_valueFault.O (k : Nat) : Oracle sg := fun n => lkp n [(52, conf_Check.e k), (254, list_tableFault.e k)]
def list_valueFault.a : Ann := (.n .z (.n .z (.n .z (.n .z (.n (.n .z (.n .z (.lab 0 .z))) .z)))))
def list_valueFault.L (k : Nat) : Nat → St sg.U → Option (RT sg.U [(.int .i64)]) := labs [(0, labOf sg [(1, (.box [.d (.int .i64), .d .bool, .d (.int .i64), .d .str, .d (.sl (.st 0)), .d (.sl .str)])), (3, (.box [.d (.int .i64), .d .bool, .d (.int .i64), .d .str, .row 25 (.st 0), .d (.sl .str)])), (15, (.d (.int .i64))), (23, (.d .bool))] (fun h => list_valueFault.l0 k h.1 h.2.1 h.2.2.1 h.2.2.2.1 h.2.2.2.2.1 h.2.2.2.2.2.1 h.2.2.2.2.2.2.1 h.2.2.2.2.2.2.2.1 h.2.2.2.2.2.2.2.2.1 h.2.2.2.2.2.2.2.2.2.1 h.2.2.2.2.2.2.2.2.2.2.1 h.2.2.2.2.2.2.2.2.2.2.2.1 h.2.2.2.2.2.2.2.2.2.2.2.2.1 h.2.2.2.2.2.2.2.2.2.2.2.2.2.1))]
theorem list_valueFault.l0_eq (k : Nat) (x1_0 : Int) (x1_1 : Bool) (x1_2 : Int) (x1_3 : ByteArray) (x1_4 : (List T_api_Value)) (x1_5 : (List ByteArray)) (x3_0 : Int) (x3_1 : Bool) (x3_2 : Int) (x3_3 : ByteArray) (x3_4 : (List T_api_Value)) (x3_5 : (List ByteArray)) (x15 : Int) (x23 : Bool) : list_valueFault.l0 (k + 1) x1_0 x1_1 x1_2 x1_3 x1_4 x1_5 x3_0 x3_1 x3_2 x3_3 x3_4 x3_5 x15 x23 = runFrom (C := ctx) (list_valueFault.O k) ⟨48, [], []⟩ (list_valueFault.L k) (Tryz.f209.body.getD .skip) list_valueFault.a 0 (endK ctx [(.int .i64)] [(.tmp 2)]) (encD [(1, (.box [.d (.int .i64), .d .bool, .d (.int .i64), .d .str, .d (.sl (.st 0)), .d (.sl .str)])), (3, (.box [.d (.int .i64), .d .bool, .d (.int .i64), .d .str, .row 25 (.st 0), .d (.sl .str)])), (15, (.d (.int .i64))), (23, (.d .bool))] (x1_0, x1_1, x1_2, x1_3, x1_4, x1_5, x3_0, x3_1, x3_2, x3_3, x3_4, x3_5, x15, x23, ()) (startD sg.U ⟨48, [], []⟩ [(1, (.box [.d (.int .i64), .d .bool, .d (.int .i64), .d .str, .d (.sl (.st 0)), .d (.sl .str)])), (3, (.box [.d (.int .i64), .d .bool, .d (.int .i64), .d .str, .row 25 (.st 0), .d (.sl .str)])), (15, (.d (.int .i64))), (23, (.d .bool))])) := by
  rw [list_valueFault.l0]
  kernel_rfl
theorem list_valueFault.f_eq (k : Nat) (a0 : T_api_Value) : list_valueFault.f k a0 = codeK (C := ctx) (list_valueFault.O k) ⟨48, [], []⟩ (list_valueFault.L k) (Tryz.f209.body.getD .skip) list_valueFault.a (endK ctx [(.int .i64)] [(.tmp 2)]) (slotsOf sg.U 0 [(.d (.st 0))] (a0, ()) (empty sg.U)) := by
  unfold list_valueFault.f
  kernel_rfl
def list_valueFault.e (k : Nat) : Entry sg := entryOf sg [(.d (.st 0))] [(.int .i64)] (fun h => list_valueFault.f k h.1)
def list_valueFault.T : List (Lb sg (RT sg.U [(.int .i64)])) := [⟨0, [(1, (.box [.d (.int .i64), .d .bool, .d (.int .i64), .d .str, .d (.sl (.st 0)), .d (.sl .str)])), (3, (.box [.d (.int .i64), .d .bool, .d (.int .i64), .d .str, .row 25 (.st 0), .d (.sl .str)])), (15, (.d (.int .i64))), (23, (.d .bool))], fun k h => list_valueFault.l0 k h.1 h.2.1 h.2.2.1 h.2.2.2.1 h.2.2.2.2.1 h.2.2.2.2.2.1 h.2.2.2.2.2.2.1 h.2.2.2.2.2.2.2.1 h.2.2.2.2.2.2.2.2.1 h.2.2.2.2.2.2.2.2.2.1 h.2.2.2.2.2.2.2.2.2.2.1 h.2.2.2.2.2.2.2.2.2.2.2.1 h.2.2.2.2.2.2.2.2.2.2.2.2.1 h.2.2.2.2.2.2.2.2.2.2.2.2.2.1⟩]
theorem list_valueFault.ok (k : Nat) : (list_valueFault.e k).Sound Tryz.prog ctx 209 :=
  entry_ok base_ok mo (fn := Tryz.f209) (b := (Tryz.f209.body.getD .skip)) (pm := [(.d (.st 0))]) (rs := [(.int .i64)]) (an := list_valueFault.a) (N := 48) (vars := [(.tmp 2)]) Tryz.func209 (by kernel_rfl) (by kernel_rfl) (by kernel_rfl) (by kernel_rfl) (by kernel_rfl) (by kernel_rfl) (O := list_valueFault.O)
    (fun k => by unfold list_valueFault.O; exact oracle_of (P := Tryz.prog) (C := ctx) ⟨(conf_Check.ok k), ⟨(list_tableFault.ok k), trivial⟩⟩) list_valueFault.T ⟨⟨by kernel_rfl, fun _ => by first | rfl | rw [list_valueFault.l0], fun k h => list_valueFault.l0_eq k h.1 h.2.1 h.2.2.1 h.2.2.2.1 h.2.2.2.2.1 h.2.2.2.2.2.1 h.2.2.2.2.2.2.1 h.2.2.2.2.2.2.2.1 h.2.2.2.2.2.2.2.2.1 h.2.2.2.2.2.2.2.2.2.1 h.2.2.2.2.2.2.2.2.2.2.1 h.2.2.2.2.2.2.2.2.2.2.2.1 h.2.2.2.2.2.2.2.2.2.2.2.2.1 h.2.2.2.2.2.2.2.2.2.2.2.2.2.1⟩, trivial⟩ k (fun h => list_valueFault.f_eq k h.1)
mutual
def list_valuesFault.l0 : Nat → (List T_api_Value) → Int → Int → Option (Int)
  | 0, _, _, _ => none
  | k + 1, x13, x14, x15 => (bif (ilt x15 x14) then ((lat x13 x15).bind fun y2 => ((list_valuesFault.f k (T_api_Value.mk y2.fKind y2.fBool y2.fInt y2.fText y2.fItems y2.fKeys)).bind fun y3 => (bif (!ieq y3 0) then (some y3) else (list_valuesFault.l0 k x13 x14 (wadd .i64 x15 1))))) else (some 0))
def list_valuesFault.f : Nat → T_api_Value → Option (Int)
  | 0, _ => none
  | k + 1, a0 => ((list_valueFault.f k (T_api_Value.mk a0.fKind a0.fBool a0.fInt a0.fText a0.fItems a0.fKeys)).bind fun y1 => (bif (!ieq y1 0) then (some y1) else (list_valuesFault.l0 k a0.fItems (llen a0.fItems) 0)))
end
def list_valuesFault.e (k : Nat) : Entry sg := entryOf sg [(.d (.st 0))] [(.int .i64)] (fun h => list_valuesFault.f k h.1)
def list_valuesFault.O (k : Nat) : Oracle sg := fun n => lkp n [(114, list_valuesFault.e k), (209, list_valueFault.e k)]
def list_valuesFault.a : Ann := (.n .z (.n .z (.n (.n .z (.lp 0 .z)) .z)))
def list_valuesFault.L (k : Nat) : Nat → St sg.U → Option (RT sg.U [(.int .i64)]) := labs [(0, labOf sg [(13, (.d (.sl (.st 0)))), (14, (.d (.int .i64))), (15, (.d (.int .i64)))] (fun h => list_valuesFault.l0 k h.1 h.2.1 h.2.2.1))]
theorem list_valuesFault.l0_eq (k : Nat) (x13 : (List T_api_Value)) (x14 : Int) (x15 : Int) : list_valuesFault.l0 (k + 1) x13 x14 x15 = runFrom (C := ctx) (list_valuesFault.O k) ⟨25, [], []⟩ (list_valuesFault.L k) (Tryz.f114.body.getD .skip) list_valuesFault.a 0 (endK ctx [(.int .i64)] [(.tmp 2)]) (encD [(13, (.d (.sl (.st 0)))), (14, (.d (.int .i64))), (15, (.d (.int .i64)))] (x13, x14, x15, ()) (startD sg.U ⟨25, [], []⟩ [(13, (.d (.sl (.st 0)))), (14, (.d (.int .i64))), (15, (.d (.int .i64)))])) := by
  rw [list_valuesFault.l0]
  kernel_rfl
theorem list_valuesFault.f_eq (k : Nat) (a0 : T_api_Value) : list_valuesFault.f (k + 1) a0 = codeK (C := ctx) (list_valuesFault.O k) ⟨25, [], []⟩ (list_valuesFault.L k) (Tryz.f114.body.getD .skip) list_valuesFault.a (endK ctx [(.int .i64)] [(.tmp 2)]) (slotsOf sg.U 0 [(.d (.st 0))] (a0, ()) (empty sg.U)) := by
  rw [list_valuesFault.f]
  kernel_rfl
def list_valuesFault.T : List (Lb sg (RT sg.U [(.int .i64)])) := [⟨0, [(13, (.d (.sl (.st 0)))), (14, (.d (.int .i64))), (15, (.d (.int .i64)))], fun k h => list_valuesFault.l0 k h.1 h.2.1 h.2.2.1⟩]
theorem list_valuesFault.ok : ∀ k : Nat, (list_valuesFault.e k).Sound Tryz.prog ctx 114 :=
  entry_rec base_ok mo (fn := Tryz.f114) (b := (Tryz.f114.body.getD .skip)) (pm := [(.d (.st 0))]) (rs := [(.int .i64)]) (an := list_valuesFault.a) (N := 25) (vars := [(.tmp 2)]) Tryz.func114 (by kernel_rfl) (by kernel_rfl) (by kernel_rfl) (by kernel_rfl) (by kernel_rfl) (by kernel_rfl) (O := list_valuesFault.O) list_valuesFault.T ⟨⟨by kernel_rfl, fun _ => by first | rfl | rw [list_valuesFault.l0], fun k h => list_valuesFault.l0_eq k h.1 h.2.1 h.2.2.1⟩, trivial⟩ (F := fun k h => list_valuesFault.f k h.1) (fun _ => by first | rfl | rw [list_valuesFault.f]) (fun k h => list_valuesFault.f_eq k h.1)
    (fun k own => by unfold list_valuesFault.O; exact oracle_of (P := Tryz.prog) (C := ctx) ⟨own, ⟨(list_valueFault.ok k), trivial⟩⟩)
def list_CheckItem.f (k : Nat) (a0 : T_api_Value) : Option (Int) := ((list_count.f k (T_api_Value.mk a0.fKind a0.fBool a0.fInt a0.fText a0.fItems a0.fKeys)).bind fun y1 => (bif (ilt 5000 y1) then (some 4) else ((list_levels.f k (T_api_Value.mk a0.fKind a0.fBool a0.fInt a0.fText a0.fItems a0.fKeys)).bind fun y2 => (bif (ilt 10 y2) then (some 13) else ((list_valuesFault.f k (T_api_Value.mk a0.fKind a0.fBool a0.fInt a0.fText a0.fItems a0.fKeys)).bind fun y3 => (some y3))))))
def list_CheckItem.O (k : Nat) : Oracle sg := fun n => lkp n [(112, list_count.e k), (113, list_levels.e k), (114, list_valuesFault.e k)]
def list_CheckItem.a : Ann := .z
def list_CheckItem.L (k : Nat) : Nat → St sg.U → Option (RT sg.U [(.int .i64)]) := labs []
theorem list_CheckItem.f_eq (k : Nat) (a0 : T_api_Value) : list_CheckItem.f k a0 = codeK (C := ctx) (list_CheckItem.O k) ⟨11, [], []⟩ (list_CheckItem.L k) (Tryz.f32.body.getD .skip) list_CheckItem.a (endK ctx [(.int .i64)] [(.tmp 2)]) (slotsOf sg.U 0 [(.d (.st 0))] (a0, ()) (empty sg.U)) := by
  unfold list_CheckItem.f
  kernel_rfl
def list_CheckItem.e (k : Nat) : Entry sg := entryOf sg [(.d (.st 0))] [(.int .i64)] (fun h => list_CheckItem.f k h.1)
def list_CheckItem.T : List (Lb sg (RT sg.U [(.int .i64)])) := []
theorem list_CheckItem.ok (k : Nat) : (list_CheckItem.e k).Sound Tryz.prog ctx 32 :=
  entry_ok base_ok mo (fn := Tryz.f32) (b := (Tryz.f32.body.getD .skip)) (pm := [(.d (.st 0))]) (rs := [(.int .i64)]) (an := list_CheckItem.a) (N := 11) (vars := [(.tmp 2)]) Tryz.func32 (by kernel_rfl) (by kernel_rfl) (by kernel_rfl) (by kernel_rfl) (by kernel_rfl) (by kernel_rfl) (O := list_CheckItem.O)
    (fun k => by unfold list_CheckItem.O; exact oracle_of (P := Tryz.prog) (C := ctx) ⟨(list_count.ok k), ⟨(list_levels.ok k), ⟨(list_valuesFault.ok k), trivial⟩⟩⟩) list_CheckItem.T trivial k (fun h => list_CheckItem.f_eq k h.1)
def list_listFault.l0 : Nat → (List T_api_Value) → Int → Int → Option (Int)
  | 0, _, _, _ => none
  | k + 1, x9, x10, x11 => (bif (ilt x11 x10) then ((lat x9 x11).bind fun y1 => ((list_CheckItem.f k (T_api_Value.mk y1.fKind y1.fBool y1.fInt y1.fText y1.fItems y1.fKeys)).bind fun y2 => (bif (!ieq y2 0) then (some y2) else (list_listFault.l0 k x9 x10 (wadd .i64 x11 1))))) else (some 0))
def list_listFault.f (k : Nat) (a0 : (List T_api_Value)) : Option (Int) := (bif (ilt 2000 (llen a0)) then (some 4) else (list_listFault.l0 k a0 (llen a0) 0))
def list_listFault.O (k : Nat) : Oracle sg := fun n => lkp n [(32, list_CheckItem.e k)]
def list_listFault.a : Ann := (.n .z (.n .z (.n (.n .z (.lp 0 .z)) .z)))
def list_listFault.L (k : Nat) : Nat → St sg.U → Option (RT sg.U [(.int .i64)]) := labs [(0, labOf sg [(9, (.d (.sl (.st 0)))), (10, (.d (.int .i64))), (11, (.d (.int .i64)))] (fun h => list_listFault.l0 k h.1 h.2.1 h.2.2.1))]
theorem list_listFault.l0_eq (k : Nat) (x9 : (List T_api_Value)) (x10 : Int) (x11 : Int) : list_listFault.l0 (k + 1) x9 x10 x11 = runFrom (C := ctx) (list_listFault.O k) ⟨21, [], []⟩ (list_listFault.L k) (Tryz.f36.body.getD .skip) list_listFault.a 0 (endK ctx [(.int .i64)] [(.tmp 2)]) (encD [(9, (.d (.sl (.st 0)))), (10, (.d (.int .i64))), (11, (.d (.int .i64)))] (x9, x10, x11, ()) (startD sg.U ⟨21, [], []⟩ [(9, (.d (.sl (.st 0)))), (10, (.d (.int .i64))), (11, (.d (.int .i64)))])) := by
  rw [list_listFault.l0]
  kernel_rfl
theorem list_listFault.f_eq (k : Nat) (a0 : (List T_api_Value)) : list_listFault.f k a0 = codeK (C := ctx) (list_listFault.O k) ⟨21, [], []⟩ (list_listFault.L k) (Tryz.f36.body.getD .skip) list_listFault.a (endK ctx [(.int .i64)] [(.tmp 2)]) (slotsOf sg.U 0 [(.d (.sl (.st 0)))] (a0, ()) (empty sg.U)) := by
  unfold list_listFault.f
  kernel_rfl
def list_listFault.e (k : Nat) : Entry sg := entryOf sg [(.d (.sl (.st 0)))] [(.int .i64)] (fun h => list_listFault.f k h.1)
def list_listFault.T : List (Lb sg (RT sg.U [(.int .i64)])) := [⟨0, [(9, (.d (.sl (.st 0)))), (10, (.d (.int .i64))), (11, (.d (.int .i64)))], fun k h => list_listFault.l0 k h.1 h.2.1 h.2.2.1⟩]
theorem list_listFault.ok (k : Nat) : (list_listFault.e k).Sound Tryz.prog ctx 36 :=
  entry_ok base_ok mo (fn := Tryz.f36) (b := (Tryz.f36.body.getD .skip)) (pm := [(.d (.sl (.st 0)))]) (rs := [(.int .i64)]) (an := list_listFault.a) (N := 21) (vars := [(.tmp 2)]) Tryz.func36 (by kernel_rfl) (by kernel_rfl) (by kernel_rfl) (by kernel_rfl) (by kernel_rfl) (by kernel_rfl) (O := list_listFault.O)
    (fun k => by unfold list_listFault.O; exact oracle_of (P := Tryz.prog) (C := ctx) ⟨(list_CheckItem.ok k), trivial⟩) list_listFault.T ⟨⟨by kernel_rfl, fun _ => by first | rfl | rw [list_listFault.l0], fun k h => list_listFault.l0_eq k h.1 h.2.1 h.2.2.1⟩, trivial⟩ k (fun h => list_listFault.f_eq k h.1)
mutual
def list_steps.l0 : Nat → ByteArray → (List T_list_step) → Int → Int → Option ((List T_list_step) × Bool)
  | 0, _, _, _, _ => none
  | k + 1, x0, x4, x5, x6 => (bif (ile x6 (slen x0)) then (bif (ilt x6 (slen x0)) then ((sat x0 x6).bind fun y1 => (bif (!ieq y1 46) then (list_steps.l0 k x0 x4 x5 (wadd .i64 x6 1)) else (list_steps.l1 k x0 x4 x5 x6))) else (list_steps.l1 k x0 x4 x5 x6)) else (some (x4, true)))
def list_steps.l1 : Nat → ByteArray → (List T_list_step) → Int → Int → Option ((List T_list_step) × Bool)
  | 0, _, _, _, _ => none
  | k + 1, x0, x4, x5, x6 => ((ssub x0 x5 x6).bind fun y2 => ((list_isKey.f k y2).bind fun y3 => (bif y3 then ((lapp 24 x4 [(T_list_step.mk y2 0)]).bind fun y4 => (list_steps.l0 k x0 y4 (wadd .i64 x6 1) (wadd .i64 x6 1))) else (list_steps.l2 k x0 x4 (wadd .i64 x6 1) x6 y2 0 0))))
def list_steps.l2 : Nat → ByteArray → (List T_list_step) → Int → Int → ByteArray → Int → Int → Option ((List T_list_step) × Bool)
  | 0, _, _, _, _, _, _, _ => none
  | k + 1, x0, x4, x5, x6, x7, x8, x9 => (bif (ilt x9 (slen x7)) then ((sat x7 x9).bind fun y5 => ((list_isDigit.f y5).bind fun y6 => (bif (bif (!y6) then true else (ilt 3 x9)) then (some ([], false)) else ((sat x7 x9).bind fun y7 => (list_steps.l2 k x0 x4 x5 x6 x7 (wadd .i64 (wmul .i64 10 x8) (wcv .i64 (wsub .u8 y7 48))) (wadd .i64 x9 1)))))) else (bif (seq x7 c_empty) then (some ([], false)) else ((sat x7 0).bind fun y8 => (bif (bif (ieq y8 48) then (!seq x7 c_0) else false) then (some ([], false)) else ((lapp 24 x4 [(T_list_step.mk c_empty x8)]).bind fun y9 => (list_steps.l0 k x0 y9 x5 (wadd .i64 x6 1)))))))
end
def list_steps.f (k : Nat) (a0 : ByteArray) : Option ((List T_list_step) × Bool) := (bif (ilt 400 (slen a0)) then (some ([], false)) else (bif (seq a0 c_empty) then (some ([], true)) else (list_steps.l0 k a0 [] 0 0)))
def list_steps.O (k : Nat) : Oracle sg := fun n => lkp n [(210, list_isKey.e k), (211, list_isDigit.e)]
def list_steps.a : Ann := (.n .z (.n .z (.n .z (.n .z (.n (.n .z (.lp 0 (.n .z (.n (.n .z (.lab 1 (.n .z (.n .z (.n .z (.n .z (.n (.n .z (.lp 2 .z)) .z))))))) .z)))) .z)))))
def list_steps.L (k : Nat) : Nat → St sg.U → Option (RT sg.U [(.sl (.st 1)), .bool]) := labs [(0, labOf sg [(0, (.d .str)), (4, (.row 291 (.st 1))), (5, (.d (.int .i64))), (6, (.d (.int .i64)))] (fun h => list_steps.l0 k h.1 h.2.1 h.2.2.1 h.2.2.2.1)), (1, labOf sg [(0, (.d .str)), (4, (.row 291 (.st 1))), (5, (.d (.int .i64))), (6, (.d (.int .i64)))] (fun h => list_steps.l1 k h.1 h.2.1 h.2.2.1 h.2.2.2.1)), (2, labOf sg [(0, (.d .str)), (4, (.row 291 (.st 1))), (5, (.d (.int .i64))), (6, (.d (.int .i64))), (7, (.d .str)), (8, (.d (.int .i64))), (9, (.d (.int .i64)))] (fun h => list_steps.l2 k h.1 h.2.1 h.2.2.1 h.2.2.2.1 h.2.2.2.2.1 h.2.2.2.2.2.1 h.2.2.2.2.2.2.1))]
theorem list_steps.l0_eq (k : Nat) (x0 : ByteArray) (x4 : (List T_list_step)) (x5 : Int) (x6 : Int) : list_steps.l0 (k + 1) x0 x4 x5 x6 = runFrom (C := ctx) (list_steps.O k) ⟨84, [], []⟩ (list_steps.L k) (Tryz.f115.body.getD .skip) list_steps.a 0 (endK ctx [(.sl (.st 1)), .bool] [(.tmp 2), (.tmp 3)]) (encD [(0, (.d .str)), (4, (.row 291 (.st 1))), (5, (.d (.int .i64))), (6, (.d (.int .i64)))] (x0, x4, x5, x6, ()) (startD sg.U ⟨84, [], []⟩ [(0, (.d .str)), (4, (.row 291 (.st 1))), (5, (.d (.int .i64))), (6, (.d (.int .i64)))])) := by
  rw [list_steps.l0]
  kernel_rfl
theorem list_steps.l1_eq (k : Nat) (x0 : ByteArray) (x4 : (List T_list_step)) (x5 : Int) (x6 : Int) : list_steps.l1 (k + 1) x0 x4 x5 x6 = runFrom (C := ctx) (list_steps.O k) ⟨84, [], []⟩ (list_steps.L k) (Tryz.f115.body.getD .skip) list_steps.a 1 (endK ctx [(.sl (.st 1)), .bool] [(.tmp 2), (.tmp 3)]) (encD [(0, (.d .str)), (4, (.row 291 (.st 1))), (5, (.d (.int .i64))), (6, (.d (.int .i64)))] (x0, x4, x5, x6, ()) (startD sg.U ⟨84, [], []⟩ [(0, (.d .str)), (4, (.row 291 (.st 1))), (5, (.d (.int .i64))), (6, (.d (.int .i64)))])) := by
  rw [list_steps.l1]
  kernel_rfl
theorem list_steps.l2_eq (k : Nat) (x0 : ByteArray) (x4 : (List T_list_step)) (x5 : Int) (x6 : Int) (x7 : ByteArray) (x8 : Int) (x9 : Int) : list_steps.l2 (k + 1) x0 x4 x5 x6 x7 x8 x9 = runFrom (C := ctx) (list_steps.O k) ⟨84, [], []⟩ (list_steps.L k) (Tryz.f115.body.getD .skip) list_steps.a 2 (endK ctx [(.sl (.st 1)), .bool] [(.tmp 2), (.tmp 3)]) (encD [(0, (.d .str)), (4, (.row 291 (.st 1))), (5, (.d (.int .i64))), (6, (.d (.int .i64))), (7, (.d .str)), (8, (.d (.int .i64))), (9, (.d (.int .i64)))] (x0, x4, x5, x6, x7, x8, x9, ()) (startD sg.U ⟨84, [], []⟩ [(0, (.d .str)), (4, (.row 291 (.st 1))), (5, (.d (.int .i64))), (6, (.d (.int .i64))), (7, (.d .str)), (8, (.d (.int .i64))), (9, (.d (.int .i64)))])) := by
  rw [list_steps.l2]
  kernel_rfl
theorem list_steps.f_eq (k : Nat) (a0 : ByteArray) : list_steps.f k a0 = codeK (C := ctx) (list_steps.O k) ⟨84, [], []⟩ (list_steps.L k) (Tryz.f115.body.getD .skip) list_steps.a (endK ctx [(.sl (.st 1)), .bool] [(.tmp 2), (.tmp 3)]) (slotsOf sg.U 0 [(.d .str)] (a0, ()) (empty sg.U)) := by
  unfold list_steps.f
  kernel_rfl
def list_steps.e (k : Nat) : Entry sg := entryOf sg [(.d .str)] [(.sl (.st 1)), .bool] (fun h => list_steps.f k h.1)
def list_steps.T : List (Lb sg (RT sg.U [(.sl (.st 1)), .bool])) := [⟨0, [(0, (.d .str)), (4, (.row 291 (.st 1))), (5, (.d (.int .i64))), (6, (.d (.int .i64)))], fun k h => list_steps.l0 k h.1 h.2.1 h.2.2.1 h.2.2.2.1⟩, ⟨1, [(0, (.d .str)), (4, (.row 291 (.st 1))), (5, (.d (.int .i64))), (6, (.d (.int .i64)))], fun k h => list_steps.l1 k h.1 h.2.1 h.2.2.1 h.2.2.2.1⟩, ⟨2, [(0, (.d .str)), (4, (.row 291 (.st 1))), (5, (.d (.int .i64))), (6, (.d (.int .i64))), (7, (.d .str)), (8, (.d (.int .i64))), (9, (.d (.int .i64)))], fun k h => list_steps.l2 k h.1 h.2.1 h.2.2.1 h.2.2.2.1 h.2.2.2.2.1 h.2.2.2.2.2.1 h.2.2.2.2.2.2.1⟩]
theorem list_steps.ok (k : Nat) : (list_steps.e k).Sound Tryz.prog ctx 115 :=
  entry_ok base_ok mo (fn := Tryz.f115) (b := (Tryz.f115.body.getD .skip)) (pm := [(.d .str)]) (rs := [(.sl (.st 1)), .bool]) (an := list_steps.a) (N := 84) (vars := [(.tmp 2), (.tmp 3)]) Tryz.func115 (by kernel_rfl) (by kernel_rfl) (by kernel_rfl) (by kernel_rfl) (by kernel_rfl) (by kernel_rfl) (O := list_steps.O)
    (fun k => by unfold list_steps.O; exact oracle_of (P := Tryz.prog) (C := ctx) ⟨(list_isKey.ok k), ⟨(list_isDigit.ok), trivial⟩⟩) list_steps.T ⟨⟨by kernel_rfl, fun _ => by first | rfl | rw [list_steps.l0], fun k h => list_steps.l0_eq k h.1 h.2.1 h.2.2.1 h.2.2.2.1⟩, ⟨⟨by kernel_rfl, fun _ => by first | rfl | rw [list_steps.l1], fun k h => list_steps.l1_eq k h.1 h.2.1 h.2.2.1 h.2.2.2.1⟩, ⟨⟨by kernel_rfl, fun _ => by first | rfl | rw [list_steps.l2], fun k h => list_steps.l2_eq k h.1 h.2.1 h.2.2.1 h.2.2.2.1 h.2.2.2.2.1 h.2.2.2.2.2.1 h.2.2.2.2.2.2.1⟩, trivial⟩⟩⟩ k (fun h => list_steps.f_eq k h.1)
def list_routed.f (k : Nat) (a0 : (List T_api_Value)) (a1 : ByteArray) : Option (Int) := ((list_listFault.f k a0).bind fun y1 => (bif (!ieq y1 0) then (some y1) else ((list_steps.f k a1).bind fun y2 => (bif (!y2.2) then (some 3) else (some 0)))))
def list_routed.O (k : Nat) : Oracle sg := fun n => lkp n [(36, list_listFault.e k), (115, list_steps.e k)]
def list_routed.a : Ann := .z
def list_routed.L (k : Nat) : Nat → St sg.U → Option (RT sg.U [(.int .i64)]) := labs []
theorem list_routed.f_eq (k : Nat) (a0 : (List T_api_Value)) (a1 : ByteArray) : list_routed.f k a0 a1 = codeK (C := ctx) (list_routed.O k) ⟨20, [], []⟩ (list_routed.L k) (Tryz.f41.body.getD .skip) list_routed.a (endK ctx [(.int .i64)] [(.tmp 4)]) (slotsOf sg.U 0 [(.d (.sl (.st 0))), (.d .str)] (a0, a1, ()) (empty sg.U)) := by
  unfold list_routed.f
  kernel_rfl
def list_routed.e (k : Nat) : Entry sg := entryOf sg [(.d (.sl (.st 0))), (.d .str)] [(.int .i64)] (fun h => list_routed.f k h.1 h.2.1)
def list_routed.T : List (Lb sg (RT sg.U [(.int .i64)])) := []
theorem list_routed.ok (k : Nat) : (list_routed.e k).Sound Tryz.prog ctx 41 :=
  entry_ok base_ok mo (fn := Tryz.f41) (b := (Tryz.f41.body.getD .skip)) (pm := [(.d (.sl (.st 0))), (.d .str)]) (rs := [(.int .i64)]) (an := list_routed.a) (N := 20) (vars := [(.tmp 4)]) Tryz.func41 (by kernel_rfl) (by kernel_rfl) (by kernel_rfl) (by kernel_rfl) (by kernel_rfl) (by kernel_rfl) (O := list_routed.O)
    (fun k => by unfold list_routed.O; exact oracle_of (P := Tryz.prog) (C := ctx) ⟨(list_listFault.ok k), ⟨(list_steps.ok k), trivial⟩⟩) list_routed.T trivial k (fun h => list_routed.f_eq k h.1 h.2.1)
mutual
def list_at.l0 : Nat → Int → Bool → Int → ByteArray → (List T_api_Value) → (List ByteArray) → Int → Bool → Int → ByteArray → (List T_api_Value) → (List ByteArray) → (List T_list_step) → Int → Int → Option (T_api_Value)
  | 0, _, _, _, _, _, _, _, _, _, _, _, _, _, _, _ => none
  | k + 1, x2_0, x2_1, x2_2, x2_3, x2_4, x2_5, x4_0, x4_1, x4_2, x4_3, x4_4, x4_5, x10, x11, x12 => (bif (ilt x12 x11) then ((lat x10 x12).bind fun y1 => (bif (bif (!seq y1.fkey c_empty) then (ieq x2_0 6) else false) then (list_at.l1 k x2_0 x2_1 x2_2 x2_3 x2_4 x2_5 x4_0 x4_1 x4_2 x4_3 x4_4 x4_5 y1.fkey y1.fnumber 0 false 0 c_empty [] [] x10 x11 x12 x2_5 (llen x2_5) 0) else (bif (bif (bif (seq y1.fkey c_empty) then (ieq x2_0 5) else false) then (ilt y1.fnumber (llen x2_4)) else false) then ((lat x2_4 y1.fnumber).bind fun y2 => (list_at.l0 k y2.fKind y2.fBool y2.fInt y2.fText y2.fItems y2.fKeys x4_0 x4_1 x4_2 x4_3 x4_4 x4_5 x10 x11 (wadd .i64 x12 1))) else (list_at.l0 k 0 false 0 c_empty [] [] x4_0 x4_1 x4_2 x4_3 x4_4 x4_5 x10 x11 (wadd .i64 x12 1))))) else (some (T_api_Value.mk x2_0 x2_1 x2_2 x2_3 x2_4 x2_5)))
def list_at.l1 : Nat → Int → Bool → Int → ByteArray → (List T_api_Value) → (List ByteArray) → Int → Bool → Int → ByteArray → (List T_api_Value) → (List ByteArray) → ByteArray → Int → Int → Bool → Int → ByteArray → (List T_api_Value) → (List ByteArray) → (List T_list_step) → Int → Int → (List ByteArray) → Int → Int → Option (T_api_Value)
  | 0, _, _, _, _, _, _, _, _, _, _, _, _, _, _, _, _, _, _, _, _, _, _, _, _, _, _ => none
  | k + 1, x2_0, x2_1, x2_2, x2_3, x2_4, x2_5, x4_0, x4_1, x4_2, x4_3, x4_4, x4_5, x6_0, x6_1, x7_0, x7_1, x7_2, x7_3, x7_4, x7_5, x10, x11, x12, x27, x28, x29 => (bif (ilt x29 x28) then ((lat x27 x29).bind fun y3 => (bif (seq y3 x6_0) then ((lat x2_4 x29).bind fun y4 => (list_at.l1 k x2_0 x2_1 x2_2 x2_3 x2_4 x2_5 x4_0 x4_1 x4_2 x4_3 x4_4 x4_5 x6_0 x6_1 y4.fKind y4.fBool y4.fInt y4.fText y4.fItems y4.fKeys x10 x11 x12 x27 x28 (wadd .i64 x29 1))) else (list_at.l1 k x2_0 x2_1 x2_2 x2_3 x2_4 x2_5 x4_0 x4_1 x4_2 x4_3 x4_4 x4_5 x6_0 x6_1 x7_0 x7_1 x7_2 x7_3 x7_4 x7_5 x10 x11 x12 x27 x28 (wadd .i64 x29 1)))) else (list_at.l0 k x7_0 x7_1 x7_2 x7_3 x7_4 x7_5 x4_0 x4_1 x4_2 x4_3 x4_4 x4_5 x10 x11 (wadd .i64 x12 1)))
end
def list_at.f (k : Nat) (a0 : T_api_Value) (a1 : (List T_list_step)) : Option (T_api_Value) := (list_at.l0 k a0.fKind a0.fBool a0.fInt a0.fText a0.fItems a0.fKeys 0 false 0 c_empty [] [] a1 (llen a1) 0)
def list_at.O (k : Nat) : Oracle sg := fun n => lkp n []
def list_at.a : Ann := (.n .z (.n (.n .z (.lp 0 (.n .z (.n .z (.n (.n .z (.n .z (.n (.n .z (.n (.n .z (.lp 1 .z)) .z)) .z))) .z))))) .z))
def list_at.L (k : Nat) : Nat → St sg.U → Option (RT sg.U [(.st 0)]) := labs [(0, labOf sg [(2, (.box [.d (.int .i64), .d .bool, .d (.int .i64), .d .str, .d (.sl (.st 0)), .d (.sl .str)])), (4, (.box [.d (.int .i64), .d .bool, .d (.int .i64), .d .str, .row 25 (.st 0), .row 9 .str])), (10, (.d (.sl (.st 1)))), (11, (.d (.int .i64))), (12, (.d (.int .i64)))] (fun h => list_at.l0 k h.1 h.2.1 h.2.2.1 h.2.2.2.1 h.2.2.2.2.1 h.2.2.2.2.2.1 h.2.2.2.2.2.2.1 h.2.2.2.2.2.2.2.1 h.2.2.2.2.2.2.2.2.1 h.2.2.2.2.2.2.2.2.2.1 h.2.2.2.2.2.2.2.2.2.2.1 h.2.2.2.2.2.2.2.2.2.2.2.1 h.2.2.2.2.2.2.2.2.2.2.2.2.1 h.2.2.2.2.2.2.2.2.2.2.2.2.2.1 h.2.2.2.2.2.2.2.2.2.2.2.2.2.2.1)), (1, labOf sg [(2, (.box [.d (.int .i64), .d .bool, .d (.int .i64), .d .str, .d (.sl (.st 0)), .d (.sl .str)])), (4, (.box [.d (.int .i64), .d .bool, .d (.int .i64), .d .str, .row 25 (.st 0), .row 9 .str])), (6, (.box [.d .str, .d (.int .i64)])), (7, (.box [.d (.int .i64), .d .bool, .d (.int .i64), .d .str, .d (.sl (.st 0)), .d (.sl .str)])), (10, (.d (.sl (.st 1)))), (11, (.d (.int .i64))), (12, (.d (.int .i64))), (27, (.d (.sl .str))), (28, (.d (.int .i64))), (29, (.d (.int .i64)))] (fun h => list_at.l1 k h.1 h.2.1 h.2.2.1 h.2.2.2.1 h.2.2.2.2.1 h.2.2.2.2.2.1 h.2.2.2.2.2.2.1 h.2.2.2.2.2.2.2.1 h.2.2.2.2.2.2.2.2.1 h.2.2.2.2.2.2.2.2.2.1 h.2.2.2.2.2.2.2.2.2.2.1 h.2.2.2.2.2.2.2.2.2.2.2.1 h.2.2.2.2.2.2.2.2.2.2.2.2.1 h.2.2.2.2.2.2.2.2.2.2.2.2.2.1 h.2.2.2.2.2.2.2.2.2.2.2.2.2.2.1 h.2.2.2.2.2.2.2.2.2.2.2.2.2.2.2.1 h.2.2.2.2.2.2.2.2.2.2.2.2.2.2.2.2.1 h.2.2.2.2.2.2.2.2.2.2.2.2.2.2.2.2.2.1 h.2.2.2.2.2.2.2.2.2.2.2.2.2.2.2.2.2.2.1 h.2.2.2.2.2.2.2.2.2.2.2.2.2.2.2.2.2.2.2.1 h.2.2.2.2.2.2.2.2.2.2.2.2.2.2.2.2.2.2.2.2.1 h.2.2.2.2.2.2.2.2.2.2.2.2.2.2.2.2.2.2.2.2.2.1 h.2.2.2.2.2.2.2.2.2.2.2.2.2.2.2.2.2.2.2.2.2.2.1 h.2.2.2.2.2.2.2.2.2.2.2.2.2.2.2.2.2.2.2.2.2.2.2.1 h.2.2.2.2.2.2.2.2.2.2.2.2.2.2.2.2.2.2.2.2.2.2.2.2.1 h.2.2.2.2.2.2.2.2.2.2.2.2.2.2.2.2.2.2.2.2.2.2.2.2.2.1))]
theorem list_at.l0_eq (k : Nat) (x2_0 : Int) (x2_1 : Bool) (x2_2 : Int) (x2_3 : ByteArray) (x2_4 : (List T_api_Value)) (x2_5 : (List ByteArray)) (x4_0 : Int) (x4_1 : Bool) (x4_2 : Int) (x4_3 : ByteArray) (x4_4 : (List T_api_Value)) (x4_5 : (List ByteArray)) (x10 : (List T_list_step)) (x11 : Int) (x12 : Int) : list_at.l0 (k + 1) x2_0 x2_1 x2_2 x2_3 x2_4 x2_5 x4_0 x4_1 x4_2 x4_3 x4_4 x4_5 x10 x11 x12 = runFrom (C := ctx) (list_at.O k) ⟨70, [], []⟩ (list_at.L k) (Tryz.f116.body.getD .skip) list_at.a 0 (endK ctx [(.st 0)] [(.cell 4 25)]) (encD [(2, (.box [.d (.int .i64), .d .bool, .d (.int .i64), .d .str, .d (.sl (.st 0)), .d (.sl .str)])), (4, (.box [.d (.int .i64), .d .bool, .d (.int .i64), .d .str, .row 25 (.st 0), .row 9 .str])), (10, (.d (.sl (.st 1)))), (11, (.d (.int .i64))), (12, (.d (.int .i64)))] (x2_0, x2_1, x2_2, x2_3, x2_4, x2_5, x4_0, x4_1, x4_2, x4_3, x4_4, x4_5, x10, x11, x12, ()) (startD sg.U ⟨70, [], []⟩ [(2, (.box [.d (.int .i64), .d .bool, .d (.int .i64), .d .str, .d (.sl (.st 0)), .d (.sl .str)])), (4, (.box [.d (.int .i64), .d .bool, .d (.int .i64), .d .str, .row 25 (.st 0), .row 9 .str])), (10, (.d (.sl (.st 1)))), (11, (.d (.int .i64))), (12, (.d (.int .i64)))])) := by
  rw [list_at.l0]
  kernel_rfl
theorem list_at.l1_eq (k : Nat) (x2_0 : Int) (x2_1 : Bool) (x2_2 : Int) (x2_3 : ByteArray) (x2_4 : (List T_api_Value)) (x2_5 : (List ByteArray)) (x4_0 : Int) (x4_1 : Bool) (x4_2 : Int) (x4_3 : ByteArray) (x4_4 : (List T_api_Value)) (x4_5 : (List ByteArray)) (x6_0 : ByteArray) (x6_1 : Int) (x7_0 : Int) (x7_1 : Bool) (x7_2 : Int) (x7_3 : ByteArray) (x7_4 : (List T_api_Value)) (x7_5 : (List ByteArray)) (x10 : (List T_list_step)) (x11 : Int) (x12 : Int) (x27 : (List ByteArray)) (x28 : Int) (x29 : Int) : list_at.l1 (k + 1) x2_0 x2_1 x2_2 x2_3 x2_4 x2_5 x4_0 x4_1 x4_2 x4_3 x4_4 x4_5 x6_0 x6_1 x7_0 x7_1 x7_2 x7_3 x7_4 x7_5 x10 x11 x12 x27 x28 x29 = runFrom (C := ctx) (list_at.O k) ⟨70, [], []⟩ (list_at.L k) (Tryz.f116.body.getD .skip) list_at.a 1 (endK ctx [(.st 0)] [(.cell 4 25)]) (encD [(2, (.box [.d (.int .i64), .d .bool, .d (.int .i64), .d .str, .d (.sl (.st 0)), .d (.sl .str)])), (4, (.box [.d (.int .i64), .d .bool, .d (.int .i64), .d .str, .row 25 (.st 0), .row 9 .str])), (6, (.box [.d .str, .d (.int .i64)])), (7, (.box [.d (.int .i64), .d .bool, .d (.int .i64), .d .str, .d (.sl (.st 0)), .d (.sl .str)])), (10, (.d (.sl (.st 1)))), (11, (.d (.int .i64))), (12, (.d (.int .i64))), (27, (.d (.sl .str))), (28, (.d (.int .i64))), (29, (.d (.int .i64)))] (x2_0, x2_1, x2_2, x2_3, x2_4, x2_5, x4_0, x4_1, x4_2, x4_3, x4_4, x4_5, x6_0, x6_1, x7_0, x7_1, x7_2, x7_3, x7_4, x7_5, x10, x11, x12, x27, x28, x29, ()) (startD sg.U ⟨70, [], []⟩ [(2, (.box [.d (.int .i64), .d .bool, .d (.int .i64), .d .str, .d (.sl (.st 0)), .d (.sl .str)])), (4, (.box [.d (.int .i64), .d .bool, .d (.int .i64), .d .str, .row 25 (.st 0), .row 9 .str])), (6, (.box [.d .str, .d (.int .i64)])), (7, (.box [.d (.int .i64), .d .bool, .d (.int .i64), .d .str, .d (.sl (.st 0)), .d (.sl .str)])), (10, (.d (.sl (.st 1)))), (11, (.d (.int .i64))), (12, (.d (.int .i64))), (27, (.d (.sl .str))), (28, (.d (.int .i64))), (29, (.d (.int .i64)))])) := by
  rw [list_at.l1]
  kernel_rfl
theorem list_at.f_eq (k : Nat) (a0 : T_api_Value) (a1 : (List T_list_step)) : list_at.f k a0 a1 = codeK (C := ctx) (list_at.O k) ⟨70, [], []⟩ (list_at.L k) (Tryz.f116.body.getD .skip) list_at.a (endK ctx [(.st 0)] [(.cell 4 25)]) (slotsOf sg.U 0 [(.d (.st 0)), (.d (.sl (.st 1)))] (a0, a1, ()) (empty sg.U)) := by
  unfold list_at.f
  kernel_rfl
def list_at.e (k : Nat) : Entry sg := entryOf sg [(.d (.st 0)), (.d (.sl (.st 1)))] [(.st 0)] (fun h => list_at.f k h.1 h.2.1)
def list_at.T : List (Lb sg (RT sg.U [(.st 0)])) := [⟨0, [(2, (.box [.d (.int .i64), .d .bool, .d (.int .i64), .d .str, .d (.sl (.st 0)), .d (.sl .str)])), (4, (.box [.d (.int .i64), .d .bool, .d (.int .i64), .d .str, .row 25 (.st 0), .row 9 .str])), (10, (.d (.sl (.st 1)))), (11, (.d (.int .i64))), (12, (.d (.int .i64)))], fun k h => list_at.l0 k h.1 h.2.1 h.2.2.1 h.2.2.2.1 h.2.2.2.2.1 h.2.2.2.2.2.1 h.2.2.2.2.2.2.1 h.2.2.2.2.2.2.2.1 h.2.2.2.2.2.2.2.2.1 h.2.2.2.2.2.2.2.2.2.1 h.2.2.2.2.2.2.2.2.2.2.1 h.2.2.2.2.2.2.2.2.2.2.2.1 h.2.2.2.2.2.2.2.2.2.2.2.2.1 h.2.2.2.2.2.2.2.2.2.2.2.2.2.1 h.2.2.2.2.2.2.2.2.2.2.2.2.2.2.1⟩, ⟨1, [(2, (.box [.d (.int .i64), .d .bool, .d (.int .i64), .d .str, .d (.sl (.st 0)), .d (.sl .str)])), (4, (.box [.d (.int .i64), .d .bool, .d (.int .i64), .d .str, .row 25 (.st 0), .row 9 .str])), (6, (.box [.d .str, .d (.int .i64)])), (7, (.box [.d (.int .i64), .d .bool, .d (.int .i64), .d .str, .d (.sl (.st 0)), .d (.sl .str)])), (10, (.d (.sl (.st 1)))), (11, (.d (.int .i64))), (12, (.d (.int .i64))), (27, (.d (.sl .str))), (28, (.d (.int .i64))), (29, (.d (.int .i64)))], fun k h => list_at.l1 k h.1 h.2.1 h.2.2.1 h.2.2.2.1 h.2.2.2.2.1 h.2.2.2.2.2.1 h.2.2.2.2.2.2.1 h.2.2.2.2.2.2.2.1 h.2.2.2.2.2.2.2.2.1 h.2.2.2.2.2.2.2.2.2.1 h.2.2.2.2.2.2.2.2.2.2.1 h.2.2.2.2.2.2.2.2.2.2.2.1 h.2.2.2.2.2.2.2.2.2.2.2.2.1 h.2.2.2.2.2.2.2.2.2.2.2.2.2.1 h.2.2.2.2.2.2.2.2.2.2.2.2.2.2.1 h.2.2.2.2.2.2.2.2.2.2.2.2.2.2.2.1 h.2.2.2.2.2.2.2.2.2.2.2.2.2.2.2.2.1 h.2.2.2.2.2.2.2.2.2.2.2.2.2.2.2.2.2.1 h.2.2.2.2.2.2.2.2.2.2.2.2.2.2.2.2.2.2.1 h.2.2.2.2.2.2.2.2.2.2.2.2.2.2.2.2.2.2.2.1 h.2.2.2.2.2.2.2.2.2.2.2.2.2.2.2.2.2.2.2.2.1 h.2.2.2.2.2.2.2.2.2.2.2.2.2.2.2.2.2.2.2.2.2.1 h.2.2.2.2.2.2.2.2.2.2.2.2.2.2.2.2.2.2.2.2.2.2.1 h.2.2.2.2.2.2.2.2.2.2.2.2.2.2.2.2.2.2.2.2.2.2.2.1 h.2.2.2.2.2.2.2.2.2.2.2.2.2.2.2.2.2.2.2.2.2.2.2.2.1 h.2.2.2.2.2.2.2.2.2.2.2.2.2.2.2.2.2.2.2.2.2.2.2.2.2.1⟩]
theorem list_at.ok (k : Nat) : (list_at.e k).Sound Tryz.prog ctx 116 :=
  entry_ok base_ok mo (fn := Tryz.f116) (b := (Tryz.f116.body.getD .skip)) (pm := [(.d (.st 0)), (.d (.sl (.st 1)))]) (rs := [(.st 0)]) (an := list_at.a) (N := 70) (vars := [(.cell 4 25)]) Tryz.func116 (by kernel_rfl) (by kernel_rfl) (by kernel_rfl) (by kernel_rfl) (by kernel_rfl) (by kernel_rfl) (O := list_at.O)
    (fun k => by unfold list_at.O; exact oracle_of (P := Tryz.prog) (C := ctx) trivial) list_at.T ⟨⟨by kernel_rfl, fun _ => by first | rfl | rw [list_at.l0], fun k h => list_at.l0_eq k h.1 h.2.1 h.2.2.1 h.2.2.2.1 h.2.2.2.2.1 h.2.2.2.2.2.1 h.2.2.2.2.2.2.1 h.2.2.2.2.2.2.2.1 h.2.2.2.2.2.2.2.2.1 h.2.2.2.2.2.2.2.2.2.1 h.2.2.2.2.2.2.2.2.2.2.1 h.2.2.2.2.2.2.2.2.2.2.2.1 h.2.2.2.2.2.2.2.2.2.2.2.2.1 h.2.2.2.2.2.2.2.2.2.2.2.2.2.1 h.2.2.2.2.2.2.2.2.2.2.2.2.2.2.1⟩, ⟨⟨by kernel_rfl, fun _ => by first | rfl | rw [list_at.l1], fun k h => list_at.l1_eq k h.1 h.2.1 h.2.2.1 h.2.2.2.1 h.2.2.2.2.1 h.2.2.2.2.2.1 h.2.2.2.2.2.2.1 h.2.2.2.2.2.2.2.1 h.2.2.2.2.2.2.2.2.1 h.2.2.2.2.2.2.2.2.2.1 h.2.2.2.2.2.2.2.2.2.2.1 h.2.2.2.2.2.2.2.2.2.2.2.1 h.2.2.2.2.2.2.2.2.2.2.2.2.1 h.2.2.2.2.2.2.2.2.2.2.2.2.2.1 h.2.2.2.2.2.2.2.2.2.2.2.2.2.2.1 h.2.2.2.2.2.2.2.2.2.2.2.2.2.2.2.1 h.2.2.2.2.2.2.2.2.2.2.2.2.2.2.2.2.1 h.2.2.2.2.2.2.2.2.2.2.2.2.2.2.2.2.2.1 h.2.2.2.2.2.2.2.2.2.2.2.2.2.2.2.2.2.2.1 h.2.2.2.2.2.2.2.2.2.2.2.2.2.2.2.2.2.2.2.1 h.2.2.2.2.2.2.2.2.2.2.2.2.2.2.2.2.2.2.2.2.1 h.2.2.2.2.2.2.2.2.2.2.2.2.2.2.2.2.2.2.2.2.2.1 h.2.2.2.2.2.2.2.2.2.2.2.2.2.2.2.2.2.2.2.2.2.2.1 h.2.2.2.2.2.2.2.2.2.2.2.2.2.2.2.2.2.2.2.2.2.2.2.1 h.2.2.2.2.2.2.2.2.2.2.2.2.2.2.2.2.2.2.2.2.2.2.2.2.1 h.2.2.2.2.2.2.2.2.2.2.2.2.2.2.2.2.2.2.2.2.2.2.2.2.2.1⟩, trivial⟩⟩ k (fun h => list_at.f_eq k h.1 h.2.1)
def list_had.l0 : Nat → (List T_list_step) → (List T_api_Value) → (List T_api_Value) → Int → Int → Option ((List T_api_Value))
  | 0, _, _, _, _, _ => none
  | k + 1, x5, x7, x15, x16, x17 => (bif (ilt x17 x16) then ((lat x15 x17).bind fun y2 => ((list_at.f k (T_api_Value.mk y2.fKind y2.fBool y2.fInt y2.fText y2.fItems y2.fKeys) x5).bind fun y3 => ((lapp 88 x7 [y3]).bind fun y4 => (list_had.l0 k x5 y4 x15 x16 (wadd .i64 x17 1))))) else (some x7))
def list_had.f (k : Nat) (a0 : (List T_api_Value)) (a1 : ByteArray) : Option ((List T_api_Value)) := ((list_steps.f k a1).bind fun y1 => (list_had.l0 k y1.1 [] a0 (llen a0) 0))
def list_had.O (k : Nat) : Oracle sg := fun n => lkp n [(115, list_steps.e k), (116, list_at.e k)]
def list_had.a : Ann := (.n .z (.n .z (.n .z (.n (.n .z (.lp 0 .z)) .z))))
def list_had.L (k : Nat) : Nat → St sg.U → Option (RT sg.U [(.sl (.st 0))]) := labs [(0, labOf sg [(5, (.d (.sl (.st 1)))), (7, (.row 25 (.st 0))), (15, (.d (.sl (.st 0)))), (16, (.d (.int .i64))), (17, (.d (.int .i64)))] (fun h => list_had.l0 k h.1 h.2.1 h.2.2.1 h.2.2.2.1 h.2.2.2.2.1))]
theorem list_had.l0_eq (k : Nat) (x5 : (List T_list_step)) (x7 : (List T_api_Value)) (x15 : (List T_api_Value)) (x16 : Int) (x17 : Int) : list_had.l0 (k + 1) x5 x7 x15 x16 x17 = runFrom (C := ctx) (list_had.O k) ⟨29, [], []⟩ (list_had.L k) (Tryz.f42.body.getD .skip) list_had.a 0 (endK ctx [(.sl (.st 0))] [(.tmp 4)]) (encD [(5, (.d (.sl (.st 1)))), (7, (.row 25 (.st 0))), (15, (.d (.sl (.st 0)))), (16, (.d (.int .i64))), (17, (.d (.int .i64)))] (x5, x7, x15, x16, x17, ()) (startD sg.U ⟨29, [], []⟩ [(5, (.d (.sl (.st 1)))), (7, (.row 25 (.st 0))), (15, (.d (.sl (.st 0)))), (16, (.d (.int .i64))), (17, (.d (.int .i64)))])) := by
  rw [list_had.l0]
  kernel_rfl
theorem list_had.f_eq (k : Nat) (a0 : (List T_api_Value)) (a1 : ByteArray) : list_had.f k a0 a1 = codeK (C := ctx) (list_had.O k) ⟨29, [], []⟩ (list_had.L k) (Tryz.f42.body.getD .skip) list_had.a (endK ctx [(.sl (.st 0))] [(.tmp 4)]) (slotsOf sg.U 0 [(.d (.sl (.st 0))), (.d .str)] (a0, a1, ()) (empty sg.U)) := by
  unfold list_had.f
  kernel_rfl
def list_had.e (k : Nat) : Entry sg := entryOf sg [(.d (.sl (.st 0))), (.d .str)] [(.sl (.st 0))] (fun h => list_had.f k h.1 h.2.1)
def list_had.T : List (Lb sg (RT sg.U [(.sl (.st 0))])) := [⟨0, [(5, (.d (.sl (.st 1)))), (7, (.row 25 (.st 0))), (15, (.d (.sl (.st 0)))), (16, (.d (.int .i64))), (17, (.d (.int .i64)))], fun k h => list_had.l0 k h.1 h.2.1 h.2.2.1 h.2.2.2.1 h.2.2.2.2.1⟩]
theorem list_had.ok (k : Nat) : (list_had.e k).Sound Tryz.prog ctx 42 :=
  entry_ok base_ok mo (fn := Tryz.f42) (b := (Tryz.f42.body.getD .skip)) (pm := [(.d (.sl (.st 0))), (.d .str)]) (rs := [(.sl (.st 0))]) (an := list_had.a) (N := 29) (vars := [(.tmp 4)]) Tryz.func42 (by kernel_rfl) (by kernel_rfl) (by kernel_rfl) (by kernel_rfl) (by kernel_rfl) (by kernel_rfl) (O := list_had.O)
    (fun k => by unfold list_had.O; exact oracle_of (P := Tryz.prog) (C := ctx) ⟨(list_steps.ok k), ⟨(list_at.ok k), trivial⟩⟩) list_had.T ⟨⟨by kernel_rfl, fun _ => by first | rfl | rw [list_had.l0], fun k h => list_had.l0_eq k h.1 h.2.1 h.2.2.1 h.2.2.2.1 h.2.2.2.2.1⟩, trivial⟩ k (fun h => list_had.f_eq k h.1 h.2.1)
def math_bits_Add64.f (a0 : Int) (a1 : Int) (a2 : Int) : Option (Int × Int) := add64F a0 a1 a2
def math_bits_Add64.e : Entry sg := entryOf sg [(.d (.int .u64)), (.d (.int .u64)), (.d (.int .u64))] [(.int .u64), (.int .u64)] (fun h => math_bits_Add64.f h.1 h.2.1 h.2.2.1)
theorem math_bits_Add64.ok : (math_bits_Add64.e).Sound Tryz.prog ctx 43 :=
  add64_sound (C := ctx) sg_ok Tryz.func43 (by kernel_rfl) (by kernel_rfl) (by kernel_rfl) (by kernel_rfl)
def list_Sum.l0 : Nat → Int → Int → (List T_api_Value) → Int → Int → Option (Int × Int)
  | 0, _, _, _, _, _ => none
  | k + 1, x7, x8, x21, x22, x23 => (bif (ilt x23 x22) then ((lat x21 x23).bind fun y3 => (bif (ieq y3.fKind 2) then ((math_bits_Add64.f x8 (wcv .u64 y3.fInt) 0).bind fun y4 => (bif ilt 63 0 then none else (list_Sum.l0 k (wadd .i64 (wadd .i64 x7 (wcv .i64 y4.2)) (ishr .i64 y3.fInt 63)) y4.1 x21 x22 (wadd .i64 x23 1)))) else (list_Sum.l0 k x7 x8 x21 x22 (wadd .i64 x23 1)))) else (bif ilt 63 0 then none else (bif (!ieq x7 (ishr .i64 (wcv .i64 x8) 63)) then (some (0, 2)) else (some ((wcv .i64 x8), 0)))))
def list_Sum.f (k : Nat) (a0 : (List T_api_Value)) (a1 : ByteArray) : Option (Int × Int) := ((list_routed.f k a0 a1).bind fun y1 => (bif (!ieq y1 0) then (some (0, y1)) else ((list_had.f k a0 a1).bind fun y2 => (list_Sum.l0 k 0 0 y2 (llen y2) 0))))
def list_Sum.O (k : Nat) : Oracle sg := fun n => lkp n [(41, list_routed.e k), (42, list_had.e k), (43, math_bits_Add64.e)]
def list_Sum.a : Ann := (.n .z (.n .z (.n .z (.n (.n .z (.lp 0 .z)) .z))))
def list_Sum.L (k : Nat) : Nat → St sg.U → Option (RT sg.U [(.int .i64), (.int .i64)]) := labs [(0, labOf sg [(7, (.d (.int .i64))), (8, (.d (.int .u64))), (21, (.d (.sl (.st 0)))), (22, (.d (.int .i64))), (23, (.d (.int .i64)))] (fun h => list_Sum.l0 k h.1 h.2.1 h.2.2.1 h.2.2.2.1 h.2.2.2.2.1))]
theorem list_Sum.l0_eq (k : Nat) (x7 : Int) (x8 : Int) (x21 : (List T_api_Value)) (x22 : Int) (x23 : Int) : list_Sum.l0 (k + 1) x7 x8 x21 x22 x23 = runFrom (C := ctx) (list_Sum.O k) ⟨55, [], []⟩ (list_Sum.L k) (Tryz.f16.body.getD .skip) list_Sum.a 0 (endK ctx [(.int .i64), (.int .i64)] [(.tmp 4), (.tmp 5)]) (encD [(7, (.d (.int .i64))), (8, (.d (.int .u64))), (21, (.d (.sl (.st 0)))), (22, (.d (.int .i64))), (23, (.d (.int .i64)))] (x7, x8, x21, x22, x23, ()) (startD sg.U ⟨55, [], []⟩ [(7, (.d (.int .i64))), (8, (.d (.int .u64))), (21, (.d (.sl (.st 0)))), (22, (.d (.int .i64))), (23, (.d (.int .i64)))])) := by
  rw [list_Sum.l0]
  kernel_rfl
theorem list_Sum.f_eq (k : Nat) (a0 : (List T_api_Value)) (a1 : ByteArray) : list_Sum.f k a0 a1 = codeK (C := ctx) (list_Sum.O k) ⟨55, [], []⟩ (list_Sum.L k) (Tryz.f16.body.getD .skip) list_Sum.a (endK ctx [(.int .i64), (.int .i64)] [(.tmp 4), (.tmp 5)]) (slotsOf sg.U 0 [(.d (.sl (.st 0))), (.d .str)] (a0, a1, ()) (empty sg.U)) := by
  unfold list_Sum.f
  kernel_rfl
def list_Sum.e (k : Nat) : Entry sg := entryOf sg [(.d (.sl (.st 0))), (.d .str)] [(.int .i64), (.int .i64)] (fun h => list_Sum.f k h.1 h.2.1)
def list_Sum.T : List (Lb sg (RT sg.U [(.int .i64), (.int .i64)])) := [⟨0, [(7, (.d (.int .i64))), (8, (.d (.int .u64))), (21, (.d (.sl (.st 0)))), (22, (.d (.int .i64))), (23, (.d (.int .i64)))], fun k h => list_Sum.l0 k h.1 h.2.1 h.2.2.1 h.2.2.2.1 h.2.2.2.2.1⟩]
theorem list_Sum.ok (k : Nat) : (list_Sum.e k).Sound Tryz.prog ctx 16 :=
  entry_ok base_ok mo (fn := Tryz.f16) (b := (Tryz.f16.body.getD .skip)) (pm := [(.d (.sl (.st 0))), (.d .str)]) (rs := [(.int .i64), (.int .i64)]) (an := list_Sum.a) (N := 55) (vars := [(.tmp 4), (.tmp 5)]) Tryz.func16 (by kernel_rfl) (by kernel_rfl) (by kernel_rfl) (by kernel_rfl) (by kernel_rfl) (by kernel_rfl) (O := list_Sum.O)
    (fun k => by unfold list_Sum.O; exact oracle_of (P := Tryz.prog) (C := ctx) ⟨(list_routed.ok k), ⟨(list_had.ok k), ⟨(math_bits_Add64.ok), trivial⟩⟩⟩) list_Sum.T ⟨⟨by kernel_rfl, fun _ => by first | rfl | rw [list_Sum.l0], fun k h => list_Sum.l0_eq k h.1 h.2.1 h.2.2.1 h.2.2.2.1 h.2.2.2.2.1⟩, trivial⟩ k (fun h => list_Sum.f_eq k h.1 h.2.1)
mutual
def mastref2_ValuesOf.l0 : Nat → Int → (List T_api_Value) → Int → Int → Option (Int)
  | 0, _, _, _, _ => none
  | k + 1, x3, x7, x8, x9 => (bif (ilt x9 x8) then ((lat x7 x9).bind fun y1 => ((mastref2_ValuesOf.f k (T_api_Value.mk y1.fKind y1.fBool y1.fInt y1.fText y1.fItems y1.fKeys)).bind fun y2 => (mastref2_ValuesOf.l0 k (wadd .i64 x3 y2) x7 x8 (wadd .i64 x9 1)))) else (some x3))
def mastref2_ValuesOf.f : Nat → T_api_Value → Option (Int)
  | 0, _ => none
  | k + 1, a0 => (mastref2_ValuesOf.l0 k 1 a0.fItems (llen a0.fItems) 0)
end
def mastref2_ValuesOf.e (k : Nat) : Entry sg := entryOf sg [(.d (.st 0))] [(.int .i64)] (fun h => mastref2_ValuesOf.f k h.1)
def mastref2_ValuesOf.O (k : Nat) : Oracle sg := fun n => lkp n [(121, mastref2_ValuesOf.e k)]
def mastref2_ValuesOf.a : Ann := (.n .z (.n .z (.n (.n .z (.lp 0 .z)) .z)))
def mastref2_ValuesOf.L (k : Nat) : Nat → St sg.U → Option (RT sg.U [(.int .i64)]) := labs [(0, labOf sg [(3, (.d (.int .i64))), (7, (.d (.sl (.st 0)))), (8, (.d (.int .i64))), (9, (.d (.int .i64)))] (fun h => mastref2_ValuesOf.l0 k h.1 h.2.1 h.2.2.1 h.2.2.2.1))]
theorem mastref2_ValuesOf.l0_eq (k : Nat) (x3 : Int) (x7 : (List T_api_Value)) (x8 : Int) (x9 : Int) : mastref2_ValuesOf.l0 (k + 1) x3 x7 x8 x9 = runFrom (C := ctx) (mastref2_ValuesOf.O k) ⟨19, [], []⟩ (mastref2_ValuesOf.L k) (Tryz.f121.body.getD .skip) mastref2_ValuesOf.a 0 (endK ctx [(.int .i64)] [(.tmp 2)]) (encD [(3, (.d (.int .i64))), (7, (.d (.sl (.st 0)))), (8, (.d (.int .i64))), (9, (.d (.int .i64)))] (x3, x7, x8, x9, ()) (startD sg.U ⟨19, [], []⟩ [(3, (.d (.int .i64))), (7, (.d (.sl (.st 0)))), (8, (.d (.int .i64))), (9, (.d (.int .i64)))])) := by
  rw [mastref2_ValuesOf.l0]
  kernel_rfl
theorem mastref2_ValuesOf.f_eq (k : Nat) (a0 : T_api_Value) : mastref2_ValuesOf.f (k + 1) a0 = codeK (C := ctx) (mastref2_ValuesOf.O k) ⟨19, [], []⟩ (mastref2_ValuesOf.L k) (Tryz.f121.body.getD .skip) mastref2_ValuesOf.a (endK ctx [(.int .i64)] [(.tmp 2)]) (slotsOf sg.U 0 [(.d (.st 0))] (a0, ()) (empty sg.U)) := by
  rw [mastref2_ValuesOf.f]
  kernel_rfl
def mastref2_ValuesOf.T : List (Lb sg (RT sg.U [(.int .i64)])) := [⟨0, [(3, (.d (.int .i64))), (7, (.d (.sl (.st 0)))), (8, (.d (.int .i64))), (9, (.d (.int .i64)))], fun k h => mastref2_ValuesOf.l0 k h.1 h.2.1 h.2.2.1 h.2.2.2.1⟩]
theorem mastref2_ValuesOf.ok : ∀ k : Nat, (mastref2_ValuesOf.e k).Sound Tryz.prog ctx 121 :=
  entry_rec base_ok mo (fn := Tryz.f121) (b := (Tryz.f121.body.getD .skip)) (pm := [(.d (.st 0))]) (rs := [(.int .i64)]) (an := mastref2_ValuesOf.a) (N := 19) (vars := [(.tmp 2)]) Tryz.func121 (by kernel_rfl) (by kernel_rfl) (by kernel_rfl) (by kernel_rfl) (by kernel_rfl) (by kernel_rfl) (O := mastref2_ValuesOf.O) mastref2_ValuesOf.T ⟨⟨by kernel_rfl, fun _ => by first | rfl | rw [mastref2_ValuesOf.l0], fun k h => mastref2_ValuesOf.l0_eq k h.1 h.2.1 h.2.2.1 h.2.2.2.1⟩, trivial⟩ (F := fun k h => mastref2_ValuesOf.f k h.1) (fun _ => by first | rfl | rw [mastref2_ValuesOf.f]) (fun k h => mastref2_ValuesOf.f_eq k h.1)
    (fun k own => by unfold mastref2_ValuesOf.O; exact oracle_of (P := Tryz.prog) (C := ctx) ⟨own, trivial⟩)
mutual
def mastref2_LevelsOf.l0 : Nat → Int → (List T_api_Value) → Int → Int → Option (Int)
  | 0, _, _, _, _ => none
  | k + 1, x3, x7, x8, x9 => (bif (ilt x9 x8) then ((lat x7 x9).bind fun y1 => ((mastref2_LevelsOf.f k (T_api_Value.mk y1.fKind y1.fBool y1.fInt y1.fText y1.fItems y1.fKeys)).bind fun y2 => (mastref2_LevelsOf.l0 k (imax x3 y2) x7 x8 (wadd .i64 x9 1)))) else (some (wadd .i64 x3 1)))
def mastref2_LevelsOf.f : Nat → T_api_Value → Option (Int)
  | 0, _ => none
  | k + 1, a0 => (mastref2_LevelsOf.l0 k 0 a0.fItems (llen a0.fItems) 0)
end
def mastref2_LevelsOf.e (k : Nat) : Entry sg := entryOf sg [(.d (.st 0))] [(.int .i64)] (fun h => mastref2_LevelsOf.f k h.1)
def mastref2_LevelsOf.O (k : Nat) : Oracle sg := fun n => lkp n [(122, mastref2_LevelsOf.e k)]
def mastref2_LevelsOf.a : Ann := (.n .z (.n .z (.n (.n .z (.lp 0 .z)) .z)))
def mastref2_LevelsOf.L (k : Nat) : Nat → St sg.U → Option (RT sg.U [(.int .i64)]) := labs [(0, labOf sg [(3, (.d (.int .i64))), (7, (.d (.sl (.st 0)))), (8, (.d (.int .i64))), (9, (.d (.int .i64)))] (fun h => mastref2_LevelsOf.l0 k h.1 h.2.1 h.2.2.1 h.2.2.2.1))]
theorem mastref2_LevelsOf.l0_eq (k : Nat) (x3 : Int) (x7 : (List T_api_Value)) (x8 : Int) (x9 : Int) : mastref2_LevelsOf.l0 (k + 1) x3 x7 x8 x9 = runFrom (C := ctx) (mastref2_LevelsOf.O k) ⟨20, [], []⟩ (mastref2_LevelsOf.L k) (Tryz.f122.body.getD .skip) mastref2_LevelsOf.a 0 (endK ctx [(.int .i64)] [(.tmp 2)]) (encD [(3, (.d (.int .i64))), (7, (.d (.sl (.st 0)))), (8, (.d (.int .i64))), (9, (.d (.int .i64)))] (x3, x7, x8, x9, ()) (startD sg.U ⟨20, [], []⟩ [(3, (.d (.int .i64))), (7, (.d (.sl (.st 0)))), (8, (.d (.int .i64))), (9, (.d (.int .i64)))])) := by
  rw [mastref2_LevelsOf.l0]
  kernel_rfl
theorem mastref2_LevelsOf.f_eq (k : Nat) (a0 : T_api_Value) : mastref2_LevelsOf.f (k + 1) a0 = codeK (C := ctx) (mastref2_LevelsOf.O k) ⟨20, [], []⟩ (mastref2_LevelsOf.L k) (Tryz.f122.body.getD .skip) mastref2_LevelsOf.a (endK ctx [(.int .i64)] [(.tmp 2)]) (slotsOf sg.U 0 [(.d (.st 0))] (a0, ()) (empty sg.U)) := by
  rw [mastref2_LevelsOf.f]
  kernel_rfl
def mastref2_LevelsOf.T : List (Lb sg (RT sg.U [(.int .i64)])) := [⟨0, [(3, (.d (.int .i64))), (7, (.d (.sl (.st 0)))), (8, (.d (.int .i64))), (9, (.d (.int .i64)))], fun k h => mastref2_LevelsOf.l0 k h.1 h.2.1 h.2.2.1 h.2.2.2.1⟩]
theorem mastref2_LevelsOf.ok : ∀ k : Nat, (mastref2_LevelsOf.e k).Sound Tryz.prog ctx 122 :=
  entry_rec base_ok mo (fn := Tryz.f122) (b := (Tryz.f122.body.getD .skip)) (pm := [(.d (.st 0))]) (rs := [(.int .i64)]) (an := mastref2_LevelsOf.a) (N := 20) (vars := [(.tmp 2)]) Tryz.func122 (by kernel_rfl) (by kernel_rfl) (by kernel_rfl) (by kernel_rfl) (by kernel_rfl) (by kernel_rfl) (O := mastref2_LevelsOf.O) mastref2_LevelsOf.T ⟨⟨by kernel_rfl, fun _ => by first | rfl | rw [mastref2_LevelsOf.l0], fun k h => mastref2_LevelsOf.l0_eq k h.1 h.2.1 h.2.2.1 h.2.2.2.1⟩, trivial⟩ (F := fun k h => mastref2_LevelsOf.f k h.1) (fun _ => by first | rfl | rw [mastref2_LevelsOf.f]) (fun k h => mastref2_LevelsOf.f_eq k h.1)
    (fun k own => by unfold mastref2_LevelsOf.O; exact oracle_of (P := Tryz.prog) (C := ctx) ⟨own, trivial⟩)
mutual
def mastref2_settled.l0 : Nat → Int → Bool → Int → ByteArray → (List T_api_Value) → (List ByteArray) → Int → Bool → Int → ByteArray → (List T_api_Value) → (List ByteArray) → Int → Bool → Int → ByteArray → (List T_api_Value) → (List ByteArray) → Option (T_api_Value)
  | 0, _, _, _, _, _, _, _, _, _, _, _, _, _, _, _, _, _, _ => none
  | k + 1, x1_0, x1_1, x1_2, x1_3, x1_4, x1_5, x2_0, x2_1, x2_2, x2_3, x2_4, x2_5, x3_0, x3_1, x3_2, x3_3, x3_4, x3_5 => (mastref2_settled.l1 k x2_0 x2_1 x2_2 x2_3 x2_4 x2_5 x3_0 x3_1 x3_2 x3_3 [] x3_5 x1_4 (llen x1_4) 0)
def mastref2_settled.l1 : Nat → Int → Bool → Int → ByteArray → (List T_api_Value) → (List ByteArray) → Int → Bool → Int → ByteArray → (List T_api_Value) → (List ByteArray) → (List T_api_Value) → Int → Int → Option (T_api_Value)
  | 0, _, _, _, _, _, _, _, _, _, _, _, _, _, _, _ => none
  | k + 1, x2_0, x2_1, x2_2, x2_3, x2_4, x2_5, x3_0, x3_1, x3_2, x3_3, x3_4, x3_5, x18, x19, x20 => (bif (ilt x20 x19) then ((lat x18 x20).bind fun y1 => ((mastref2_settled.f k (T_api_Value.mk y1.fKind y1.fBool y1.fInt y1.fText y1.fItems y1.fKeys)).bind fun y2 => ((lapp 88 x3_4 [y2]).bind fun y3 => (mastref2_settled.l1 k x2_0 x2_1 x2_2 x2_3 x2_4 x2_5 x3_0 x3_1 x3_2 x3_3 y3 x3_5 x18 x19 (wadd .i64 x20 1))))) else (some (T_api_Value.mk x3_0 x3_1 x3_2 x3_3 x3_4 x3_5)))
def mastref2_settled.f : Nat → T_api_Value → Option (T_api_Value)
  | 0, _ => none
  | k + 1, a0 => (bif (bif (ieq a0.fKind 7) then true else (ieq a0.fKind 8)) then (mastref2_settled.l0 k a0.fKind a0.fBool a0.fInt a0.fText a0.fItems a0.fKeys 0 false 0 c_empty [] [] 3 a0.fBool a0.fInt a0.fText a0.fItems a0.fKeys) else (mastref2_settled.l0 k a0.fKind a0.fBool a0.fInt a0.fText a0.fItems a0.fKeys 0 false 0 c_empty [] [] a0.fKind a0.fBool a0.fInt a0.fText a0.fItems a0.fKeys))
end
def mastref2_settled.e (k : Nat) : Entry sg := entryOf sg [(.d (.st 0))] [(.st 0)] (fun h => mastref2_settled.f k h.1)
def mastref2_settled.O (k : Nat) : Oracle sg := fun n => lkp n [(124, mastref2_settled.e k)]
def mastref2_settled.a : Ann := (.n .z (.n .z (.n .z (.lab 0 (.n .z (.n (.n .z (.lp 1 .z)) .z))))))
def mastref2_settled.L (k : Nat) : Nat → St sg.U → Option (RT sg.U [(.st 0)]) := labs [(0, labOf sg [(1, (.box [.d (.int .i64), .d .bool, .d (.int .i64), .d .str, .d (.sl (.st 0)), .d (.sl .str)])), (2, (.box [.d (.int .i64), .d .bool, .d (.int .i64), .d .str, .row 25 (.st 0), .row 9 .str])), (3, (.box [.d (.int .i64), .d .bool, .d (.int .i64), .d .str, .d (.sl (.st 0)), .d (.sl .str)]))] (fun h => mastref2_settled.l0 k h.1 h.2.1 h.2.2.1 h.2.2.2.1 h.2.2.2.2.1 h.2.2.2.2.2.1 h.2.2.2.2.2.2.1 h.2.2.2.2.2.2.2.1 h.2.2.2.2.2.2.2.2.1 h.2.2.2.2.2.2.2.2.2.1 h.2.2.2.2.2.2.2.2.2.2.1 h.2.2.2.2.2.2.2.2.2.2.2.1 h.2.2.2.2.2.2.2.2.2.2.2.2.1 h.2.2.2.2.2.2.2.2.2.2.2.2.2.1 h.2.2.2.2.2.2.2.2.2.2.2.2.2.2.1 h.2.2.2.2.2.2.2.2.2.2.2.2.2.2.2.1 h.2.2.2.2.2.2.2.2.2.2.2.2.2.2.2.2.1 h.2.2.2.2.2.2.2.2.2.2.2.2.2.2.2.2.2.1)), (1, labOf sg [(2, (.box [.d (.int .i64), .d .bool, .d (.int .i64), .d .str, .row 25 (.st 0), .row 9 .str])), (3, (.box [.d (.int .i64), .d .bool, .d (.int .i64), .d .str, .row 25 (.st 0), .d (.sl .str)])), (18, (.d (.sl (.st 0)))), (19, (.d (.int .i64))), (20, (.d (.int .i64)))] (fun h => mastref2_settled.l1 k h.1 h.2.1 h.2.2.1 h.2.2.2.1 h.2.2.2.2.1 h.2.2.2.2.2.1 h.2.2.2.2.2.2.1 h.2.2.2.2.2.2.2.1 h.2.2.2.2.2.2.2.2.1 h.2.2.2.2.2.2.2.2.2.1 h.2.2.2.2.2.2.2.2.2.2.1 h.2.2.2.2.2.2.2.2.2.2.2.1 h.2.2.2.2.2.2.2.2.2.2.2.2.1 h.2.2.2.2.2.2.2.2.2.2.2.2.2.1 h.2.2.2.2.2.2.2.2.2.2.2.2.2.2.1))]
theorem mastref2_settled.l0_eq (k : Nat) (x1_0 : Int) (x1_1 : Bool) (x1_2 : Int) (x1_3 : ByteArray) (x1_4 : (List T_api_Value)) (x1_5 : (List ByteArray)) (x2_0 : Int) (x2_1 : Bool) (x2_2 : Int) (x2_3 : ByteArray) (x2_4 : (List T_api_Value)) (x2_5 : (List ByteArray)) (x3_0 : Int) (x3_1 : Bool) (x3_2 : Int) (x3_3 : ByteArray) (x3_4 : (List T_api_Value)) (x3_5 : (List ByteArray)) : mastref2_settled.l0 (k + 1) x1_0 x1_1 x1_2 x1_3 x1_4 x1_5 x2_0 x2_1 x2_2 x2_3 x2_4 x2_5 x3_0 x3_1 x3_2 x3_3 x3_4 x3_5 = runFrom (C := ctx) (mastref2_settled.O k) ⟨33, [], []⟩ (mastref2_settled.L k) (Tryz.f124.body.getD .skip) mastref2_settled.a 0 (endK ctx [(.st 0)] [(.cell 2 25)]) (encD [(1, (.box [.d (.int .i64), .d .bool, .d (.int .i64), .d .str, .d (.sl (.st 0)), .d (.sl .str)])), (2, (.box [.d (.int .i64), .d .bool, .d (.int .i64), .d .str, .row 25 (.st 0), .row 9 .str])), (3, (.box [.d (.int .i64), .d .bool, .d (.int .i64), .d .str, .d (.sl (.st 0)), .d (.sl .str)]))] (x1_0, x1_1, x1_2, x1_3, x1_4, x1_5, x2_0, x2_1, x2_2, x2_3, x2_4, x2_5, x3_0, x3_1, x3_2, x3_3, x3_4, x3_5, ()) (startD sg.U ⟨33, [], []⟩ [(1, (.box [.d (.int .i64), .d .bool, .d (.int .i64), .d .str, .d (.sl (.st 0)), .d (.sl .str)])), (2, (.box [.d (.int .i64), .d .bool, .d (.int .i64), .d .str, .row 25 (.st 0), .row 9 .str])), (3, (.box [.d (.int .i64), .d .bool, .d (.int .i64), .d .str, .d (.sl (.st 0)), .d (.sl .str)]))])) := by
  rw [mastref2_settled.l0]
  kernel_rfl
theorem mastref2_settled.l1_eq (k : Nat) (x2_0 : Int) (x2_1 : Bool) (x2_2 : Int) (x2_3 : ByteArray) (x2_4 : (List T_api_Value)) (x2_5 : (List ByteArray)) (x3_0 : Int) (x3_1 : Bool) (x3_2 : Int) (x3_3 : ByteArray) (x3_4 : (List T_api_Value)) (x3_5 : (List ByteArray)) (x18 : (List T_api_Value)) (x19 : Int) (x20 : Int) : mastref2_settled.l1 (k + 1) x2_0 x2_1 x2_2 x2_3 x2_4 x2_5 x3_0 x3_1 x3_2 x3_3 x3_4 x3_5 x18 x19 x20 = runFrom (C := ctx) (mastref2_settled.O k) ⟨33, [], []⟩ (mastref2_settled.L k) (Tryz.f124.body.getD .skip) mastref2_settled.a 1 (endK ctx [(.st 0)] [(.cell 2 25)]) (encD [(2, (.box [.d (.int .i64), .d .bool, .d (.int .i64), .d .str, .row 25 (.st 0), .row 9 .str])), (3, (.box [.d (.int .i64), .d .bool, .d (.int .i64), .d .str, .row 25 (.st 0), .d (.sl .str)])), (18, (.d (.sl (.st 0)))), (19, (.d (.int .i64))), (20, (.d (.int .i64)))] (x2_0, x2_1, x2_2, x2_3, x2_4, x2_5, x3_0, x3_1, x3_2, x3_3, x3_4, x3_5, x18, x19, x20, ()) (startD sg.U ⟨33, [], []⟩ [(2, (.box [.d (.int .i64), .d .bool, .d (.int .i64), .d .str, .row 25 (.st 0), .row 9 .str])), (3, (.box [.d (.int .i64), .d .bool, .d (.int .i64), .d .str, .row 25 (.st 0), .d (.sl .str)])), (18, (.d (.sl (.st 0)))), (19, (.d (.int .i64))), (20, (.d (.int .i64)))])) := by
  rw [mastref2_settled.l1]
  kernel_rfl
theorem mastref2_settled.f_eq (k : Nat) (a0 : T_api_Value) : mastref2_settled.f (k + 1) a0 = codeK (C := ctx) (mastref2_settled.O k) ⟨33, [], []⟩ (mastref2_settled.L k) (Tryz.f124.body.getD .skip) mastref2_settled.a (endK ctx [(.st 0)] [(.cell 2 25)]) (slotsOf sg.U 0 [(.d (.st 0))] (a0, ()) (empty sg.U)) := by
  rw [mastref2_settled.f]
  kernel_rfl
def mastref2_settled.T : List (Lb sg (RT sg.U [(.st 0)])) := [⟨0, [(1, (.box [.d (.int .i64), .d .bool, .d (.int .i64), .d .str, .d (.sl (.st 0)), .d (.sl .str)])), (2, (.box [.d (.int .i64), .d .bool, .d (.int .i64), .d .str, .row 25 (.st 0), .row 9 .str])), (3, (.box [.d (.int .i64), .d .bool, .d (.int .i64), .d .str, .d (.sl (.st 0)), .d (.sl .str)]))], fun k h => mastref2_settled.l0 k h.1 h.2.1 h.2.2.1 h.2.2.2.1 h.2.2.2.2.1 h.2.2.2.2.2.1 h.2.2.2.2.2.2.1 h.2.2.2.2.2.2.2.1 h.2.2.2.2.2.2.2.2.1 h.2.2.2.2.2.2.2.2.2.1 h.2.2.2.2.2.2.2.2.2.2.1 h.2.2.2.2.2.2.2.2.2.2.2.1 h.2.2.2.2.2.2.2.2.2.2.2.2.1 h.2.2.2.2.2.2.2.2.2.2.2.2.2.1 h.2.2.2.2.2.2.2.2.2.2.2.2.2.2.1 h.2.2.2.2.2.2.2.2.2.2.2.2.2.2.2.1 h.2.2.2.2.2.2.2.2.2.2.2.2.2.2.2.2.1 h.2.2.2.2.2.2.2.2.2.2.2.2.2.2.2.2.2.1⟩, ⟨1, [(2, (.box [.d (.int .i64), .d .bool, .d (.int .i64), .d .str, .row 25 (.st 0), .row 9 .str])), (3, (.box [.d (.int .i64), .d .bool, .d (.int .i64), .d .str, .row 25 (.st 0), .d (.sl .str)])), (18, (.d (.sl (.st 0)))), (19, (.d (.int .i64))), (20, (.d (.int .i64)))], fun k h => mastref2_settled.l1 k h.1 h.2.1 h.2.2.1 h.2.2.2.1 h.2.2.2.2.1 h.2.2.2.2.2.1 h.2.2.2.2.2.2.1 h.2.2.2.2.2.2.2.1 h.2.2.2.2.2.2.2.2.1 h.2.2.2.2.2.2.2.2.2.1 h.2.2.2.2.2.2.2.2.2.2.1 h.2.2.2.2.2.2.2.2.2.2.2.1 h.2.2.2.2.2.2.2.2.2.2.2.2.1 h.2.2.2.2.2.2.2.2.2.2.2.2.2.1 h.2.2.2.2.2.2.2.2.2.2.2.2.2.2.1⟩]
theorem mastref2_settled.ok : ∀ k : Nat, (mastref2_settled.e k).Sound Tryz.prog ctx 124 :=
  entry_rec base_ok mo (fn := Tryz.f124) (b := (Tryz.f124.body.getD .skip)) (pm := [(.d (.st 0))]) (rs := [(.st 0)]) (an := mastref2_settled.a) (N := 33) (vars := [(.cell 2 25)]) Tryz.func124 (by kernel_rfl) (by kernel_rfl) (by kernel_rfl) (by kernel_rfl) (by kernel_rfl) (by kernel_rfl) (O := mastref2_settled.O) mastref2_settled.T ⟨⟨by kernel_rfl, fun _ => by first | rfl | rw [mastref2_settled.l0], fun k h => mastref2_settled.l0_eq k h.1 h.2.1 h.2.2.1 h.2.2.2.1 h.2.2.2.2.1 h.2.2.2.2.2.1 h.2.2.2.2.2.2.1 h.2.2.2.2.2.2.2.1 h.2.2.2.2.2.2.2.2.1 h.2.2.2.2.2.2.2.2.2.1 h.2.2.2.2.2.2.2.2.2.2.1 h.2.2.2.2.2.2.2.2.2.2.2.1 h.2.2.2.2.2.2.2.2.2.2.2.2.1 h.2.2.2.2.2.2.2.2.2.2.2.2.2.1 h.2.2.2.2.2.2.2.2.2.2.2.2.2.2.1 h.2.2.2.2.2.2.2.2.2.2.2.2.2.2.2.1 h.2.2.2.2.2.2.2.2.2.2.2.2.2.2.2.2.1 h.2.2.2.2.2.2.2.2.2.2.2.2.2.2.2.2.2.1⟩, ⟨⟨by kernel_rfl, fun _ => by first | rfl | rw [mastref2_settled.l1], fun k h => mastref2_settled.l1_eq k h.1 h.2.1 h.2.2.1 h.2.2.2.1 h.2.2.2.2.1 h.2.2.2.2.2.1 h.2.2.2.2.2.2.1 h.2.2.2.2.2.2.2.1 h.2.2.2.2.2.2.2.2.1 h.2.2.2.2.2.2.2.2.2.1 h.2.2.2.2.2.2.2.2.2.2.1 h.2.2.2.2.2.2.2.2.2.2.2.1 h.2.2.2.2.2.2.2.2.2.2.2.2.1 h.2.2.2.2.2.2.2.2.2.2.2.2.2.1 h.2.2.2.2.2.2.2.2.2.2.2.2.2.2.1⟩, trivial⟩⟩ (F := fun k h => mastref2_settled.f k h.1) (fun _ => by first | rfl | rw [mastref2_settled.f]) (fun k h => mastref2_settled.f_eq k h.1)
    (fun k own => by unfold mastref2_settled.O; exact oracle_of (P := Tryz.prog) (C := ctx) ⟨own, trivial⟩)
def mastref2_badByte.l0 : Nat → ByteArray → Int → Option (Bool)
  | 0, _, _ => none
  | k + 1, x0, x3 => (bif (ilt x3 (slen x0)) then ((sat x0 x3).bind fun y1 => (bif (ilt y1 32) then ((sat x0 x3).bind fun y2 => (bif (!ieq y2 9) then ((sat x0 x3).bind fun y3 => (bif (!ieq y3 10) then (some true) else (mastref2_badByte.l0 k x0 (wadd .i64 x3 1)))) else (mastref2_badByte.l0 k x0 (wadd .i64 x3 1)))) else (mastref2_badByte.l0 k x0 (wadd .i64 x3 1)))) else (some false))
def mastref2_badByte.f (k : Nat) (a0 : ByteArray) : Option (Bool) := (mastref2_badByte.l0 k a0 0)
def mastref2_badByte.O (k : Nat) : Oracle sg := fun n => lkp n []
def mastref2_badByte.a : Ann := (.n .z (.n (.n .z (.lp 0 .z)) .z))
def mastref2_badByte.L (k : Nat) : Nat → St sg.U → Option (RT sg.U [.bool]) := labs [(0, labOf sg [(0, (.d .str)), (3, (.d (.int .i64)))] (fun h => mastref2_badByte.l0 k h.1 h.2.1))]
theorem mastref2_badByte.l0_eq (k : Nat) (x0 : ByteArray) (x3 : Int) : mastref2_badByte.l0 (k + 1) x0 x3 = runFrom (C := ctx) (mastref2_badByte.O k) ⟨26, [], []⟩ (mastref2_badByte.L k) (Tryz.f215.body.getD .skip) mastref2_badByte.a 0 (endK ctx [.bool] [(.tmp 2)]) (encD [(0, (.d .str)), (3, (.d (.int .i64)))] (x0, x3, ()) (startD sg.U ⟨26, [], []⟩ [(0, (.d .str)), (3, (.d (.int .i64)))])) := by
  rw [mastref2_badByte.l0]
  kernel_rfl
theorem mastref2_badByte.f_eq (k : Nat) (a0 : ByteArray) : mastref2_badByte.f k a0 = codeK (C := ctx) (mastref2_badByte.O k) ⟨26, [], []⟩ (mastref2_badByte.L k) (Tryz.f215.body.getD .skip) mastref2_badByte.a (endK ctx [.bool] [(.tmp 2)]) (slotsOf sg.U 0 [(.d .str)] (a0, ()) (empty sg.U)) := by
  unfold mastref2_badByte.f
  kernel_rfl
def mastref2_badByte.e (k : Nat) : Entry sg := entryOf sg [(.d .str)] [.bool] (fun h => mastref2_badByte.f k h.1)
def mastref2_badByte.T : List (Lb sg (RT sg.U [.bool])) := [⟨0, [(0, (.d .str)), (3, (.d (.int .i64)))], fun k h => mastref2_badByte.l0 k h.1 h.2.1⟩]
theorem mastref2_badByte.ok (k : Nat) : (mastref2_badByte.e k).Sound Tryz.prog ctx 215 :=
  entry_ok base_ok mo (fn := Tryz.f215) (b := (Tryz.f215.body.getD .skip)) (pm := [(.d .str)]) (rs := [.bool]) (an := mastref2_badByte.a) (N := 26) (vars := [(.tmp 2)]) Tryz.func215 (by kernel_rfl) (by kernel_rfl) (by kernel_rfl) (by kernel_rfl) (by kernel_rfl) (by kernel_rfl) (O := mastref2_badByte.O)
    (fun k => by unfold mastref2_badByte.O; exact oracle_of (P := Tryz.prog) (C := ctx) trivial) mastref2_badByte.T ⟨⟨by kernel_rfl, fun _ => by first | rfl | rw [mastref2_badByte.l0], fun k h => mastref2_badByte.l0_eq k h.1 h.2.1⟩, trivial⟩ k (fun h => mastref2_badByte.f_eq k h.1)
def strings_Trim.f (a0 : ByteArray) (a1 : ByteArray) : Option (ByteArray) := if a0.size ≤ 9223372036854775807 ∧ a1.size < 4294967281 ∧ (a1.data.toList.all fun b => decide (b.toNat < 128)) = true then some (⟨(Lib.trimS a0.data.toList a1.data.toList).toArray⟩) else none
def strings_Trim.e : Entry sg := entryOf sg [(.d .str), (.d .str)] [.str] (fun h => strings_Trim.f h.1 h.2.1)
theorem strings_Trim.ok : (strings_Trim.e).Sound Tryz.prog ctx 101 :=
  entry_extern (C := ctx) sg_ok Tryz.func101 (by kernel_rfl) (by kernel_rfl) (by kernel_rfl) (by kernel_rfl) (fun hh x w hx hG => by
    unfold strings_Trim.f at hx
    split at hx
    · rename_i c
      obtain rfl := Option.some.inj hx
      refine (Any.strings_Trim_laid Tryz.lays160 (by kernel_rfl) hh.1 hh.2.1 w c.1 c.2.1 (ascii_of_all c.2.2)).mono ?_
      rintro e w' ⟨rfl, hb⟩
      exact ⟨rfl, by first | exact hb ▸ Grow.refl _ | exact Grow.of_below hb | (obtain ⟨k, os, rfl⟩ := hb; exact Grow.of_below (Lib.below_grow _ w (Nat.le_refl _) k os))⟩
    · cases hx)
def mastref2_IsKey.f (a0 : ByteArray) : Option (Bool) := (bif (bif (seq a0 c_empty) then true else (ilt 40 (slen a0))) then (some false) else ((sat a0 0).bind fun y1 => (bif (ilt y1 97) then (some false) else ((sat a0 0).bind fun y2 => (bif (ilt 122 y2) then (some false) else ((strings_Trim.f a0 c_abcdefghijklmnopqrst_0e2e2cf4).bind fun y3 => (some (seq y3 c_empty))))))))
def mastref2_IsKey.O : Oracle sg := fun n => lkp n [(101, strings_Trim.e)]
def mastref2_IsKey.a : Ann := .z
def mastref2_IsKey.L : Nat → St sg.U → Option (RT sg.U [.bool]) := labs []
theorem mastref2_IsKey.f_eq (a0 : ByteArray) : mastref2_IsKey.f a0 = codeK (C := ctx) (mastref2_IsKey.O) ⟨23, [], []⟩ (mastref2_IsKey.L) (Tryz.f136.body.getD .skip) mastref2_IsKey.a (endK ctx [.bool] [(.tmp 2)]) (slotsOf sg.U 0 [(.d .str)] (a0, ()) (empty sg.U)) := by
  unfold mastref2_IsKey.f
  kernel_rfl
def mastref2_IsKey.e : Entry sg := entryOf sg [(.d .str)] [.bool] (fun h => mastref2_IsKey.f h.1)
def mastref2_IsKey.T : List (Lb sg (RT sg.U [.bool])) := []
theorem mastref2_IsKey.ok : (mastref2_IsKey.e).Sound Tryz.prog ctx 136 :=
  entry_ok base_ok mo (fn := Tryz.f136) (b := (Tryz.f136.body.getD .skip)) (pm := [(.d .str)]) (rs := [.bool]) (an := mastref2_IsKey.a) (N := 23) (vars := [(.tmp 2)]) Tryz.func136 (by kernel_rfl) (by kernel_rfl) (by kernel_rfl) (by kernel_rfl) (by kernel_rfl) (by kernel_rfl) (O := fun _ => mastref2_IsKey.O)
    (fun _ => by unfold mastref2_IsKey.O; exact oracle_of (P := Tryz.prog) (C := ctx) ⟨(strings_Trim.ok), trivial⟩) mastref2_IsKey.T trivial 0 (fun h => mastref2_IsKey.f_eq h.1)
mutual
def mastref2_eachValue.l0 : Nat → Int → Bool → Int → ByteArray → (List T_api_Value) → (List ByteArray) → (List ByteArray) → Int → Int → Option (Int)
  | 0, _, _, _, _, _, _, _, _, _ => none
  | k + 1, x1_0, x1_1, x1_2, x1_3, x1_4, x1_5, x100, x101, x102 => (bif (ilt x102 x101) then ((lat x100 x102).bind fun y2 => ((mastref2_IsKey.f y2).bind fun y3 => (bif (!y3) then (some 12) else (bif (ilt 0 x102) then ((lat x1_5 (wsub .i64 x102 1)).bind fun y4 => (bif (sle y2 y4) then (some 5) else (mastref2_eachValue.l0 k x1_0 x1_1 x1_2 x1_3 x1_4 x1_5 x100 x101 (wadd .i64 x102 1)))) else (mastref2_eachValue.l0 k x1_0 x1_1 x1_2 x1_3 x1_4 x1_5 x100 x101 (wadd .i64 x102 1)))))) else (mastref2_eachValue.l1 k x1_4 (llen x1_4) 0))
def mastref2_eachValue.l1 : Nat → (List T_api_Value) → Int → Int → Option (Int)
  | 0, _, _, _ => none
  | k + 1, x124, x125, x126 => (bif (ilt x126 x125) then ((lat x124 x126).bind fun y5 => ((mastref2_eachValue.f k (T_api_Value.mk y5.fKind y5.fBool y5.fInt y5.fText y5.fItems y5.fKeys)).bind fun y6 => (bif (!ieq y6 0) then (some y6) else (mastref2_eachValue.l1 k x124 x125 (wadd .i64 x126 1))))) else (some 0))
def mastref2_eachValue.f : Nat → T_api_Value → Option (Int)
  | 0, _ => none
  | k + 1, a0 => (bif (bif (ilt a0.fKind 0) then true else (ilt 6 a0.fKind)) then (some 10) else (bif (bif (bif (bif (bif (bif a0.fBool then (!ieq a0.fKind 1) else false) then true else (bif (bif (!ieq a0.fInt 0) then (!ieq a0.fKind 2) else false) then (!ieq a0.fKind 4) else false)) then true else (bif (!seq a0.fText c_empty) then (!ieq a0.fKind 3) else false)) then true else (bif (bif (ilt 0 (llen a0.fItems)) then (!ieq a0.fKind 5) else false) then (!ieq a0.fKind 6) else false)) then true else (bif (ilt 0 (llen a0.fKeys)) then (!ieq a0.fKind 6) else false)) then (some 1) else (bif (bif (ieq a0.fKind 6) then (!ieq (llen a0.fKeys) (llen a0.fItems)) else false) then (some 1) else (bif (bif (ieq a0.fKind 4) then (bif (ilt a0.fInt 0) then true else (ilt 84005 a0.fInt)) else false) then (some 2) else (bif (ilt 5000 (slen a0.fText)) then (some 4) else ((mastref2_badByte.f k a0.fText).bind fun y1 => (bif y1 then (some 9) else (mastref2_eachValue.l0 k a0.fKind a0.fBool a0.fInt a0.fText a0.fItems a0.fKeys a0.fKeys (llen a0.fKeys) 0))))))))
end
def mastref2_eachValue.e (k : Nat) : Entry sg := entryOf sg [(.d (.st 0))] [(.int .i64)] (fun h => mastref2_eachValue.f k h.1)
def mastref2_eachValue.O (k : Nat) : Oracle sg := fun n => lkp n [(123, mastref2_eachValue.e k), (136, mastref2_IsKey.e), (215, mastref2_badByte.e k)]
def mastref2_eachValue.a : Ann := (.n .z (.n .z (.n .z (.n .z (.n .z (.n .z (.n .z (.n .z (.n (.n .z (.lp 0 .z)) (.n (.n .z (.lp 1 .z)) .z))))))))))
def mastref2_eachValue.L (k : Nat) : Nat → St sg.U → Option (RT sg.U [(.int .i64)]) := labs [(0, labOf sg [(1, (.box [.d (.int .i64), .d .bool, .d (.int .i64), .d .str, .d (.sl (.st 0)), .d (.sl .str)])), (100, (.d (.sl .str))), (101, (.d (.int .i64))), (102, (.d (.int .i64)))] (fun h => mastref2_eachValue.l0 k h.1 h.2.1 h.2.2.1 h.2.2.2.1 h.2.2.2.2.1 h.2.2.2.2.2.1 h.2.2.2.2.2.2.1 h.2.2.2.2.2.2.2.1 h.2.2.2.2.2.2.2.2.1)), (1, labOf sg [(124, (.d (.sl (.st 0)))), (125, (.d (.int .i64))), (126, (.d (.int .i64)))] (fun h => mastref2_eachValue.l1 k h.1 h.2.1 h.2.2.1))]
theorem mastref2_eachValue.l0_eq (k : Nat) (x1_0 : Int) (x1_1 : Bool) (x1_2 : Int) (x1_3 : ByteArray) (x1_4 : (List T_api_Value)) (x1_5 : (List ByteArray)) (x100 : (List ByteArray)) (x101 : Int) (x102 : Int) : mastref2_eachValue.l0 (k + 1) x1_0 x1_1 x1_2 x1_3 x1_4 x1_5 x100 x101 x102 = runFrom (C := ctx) (mastref2_eachValue.O k) ⟨136, [], []⟩ (mastref2_eachValue.L k) (Tryz.f123.body.getD .skip) mastref2_eachValue.a 0 (endK ctx [(.int .i64)] [(.tmp 2)]) (encD [(1, (.box [.d (.int .i64), .d .bool, .d (.int .i64), .d .str, .d (.sl (.st 0)), .d (.sl .str)])), (100, (.d (.sl .str))), (101, (.d (.int .i64))), (102, (.d (.int .i64)))] (x1_0, x1_1, x1_2, x1_3, x1_4, x1_5, x100, x101, x102, ()) (startD sg.U ⟨136, [], []⟩ [(1, (.box [.d (.int .i64), .d .bool, .d (.int .i64), .d .str, .d (.sl (.st 0)), .d (.sl .str)])), (100, (.d (.sl .str))), (101, (.d (.int .i64))), (102, (.d (.int .i64)))])) := by
  rw [mastref2_eachValue.l0]
  kernel_rfl
theorem mastref2_eachValue.l1_eq (k : Nat) (x124 : (List T_api_Value)) (x125 : Int) (x126 : Int) : mastref2_eachValue.l1 (k + 1) x124 x125 x126 = runFrom (C := ctx) (mastref2_eachValue.O k) ⟨136, [], []⟩ (mastref2_eachValue.L k) (Tryz.f123.body.getD .skip) mastref2_eachValue.a 1 (endK ctx [(.int .i64)] [(.tmp 2)]) (encD [(124, (.d (.sl (.st 0)))), (125, (.d (.int .i64))), (126, (.d (.int .i64)))] (x124, x125, x126, ()) (startD sg.U ⟨136, [], []⟩ [(124, (.d (.sl (.st 0)))), (125, (.d (.int .i64))), (126, (.d (.int .i64)))])) := by
  rw [mastref2_eachValue.l1]
  kernel_rfl
theorem mastref2_eachValue.f_eq (k : Nat) (a0 : T_api_Value) : mastref2_eachValue.f (k + 1) a0 = codeK (C := ctx) (mastref2_eachValue.O k) ⟨136, [], []⟩ (mastref2_eachValue.L k) (Tryz.f123.body.getD .skip) mastref2_eachValue.a (endK ctx [(.int .i64)] [(.tmp 2)]) (slotsOf sg.U 0 [(.d (.st 0))] (a0, ()) (empty sg.U)) := by
  rw [mastref2_eachValue.f]
  kernel_rfl
def mastref2_eachValue.T : List (Lb sg (RT sg.U [(.int .i64)])) := [⟨0, [(1, (.box [.d (.int .i64), .d .bool, .d (.int .i64), .d .str, .d (.sl (.st 0)), .d (.sl .str)])), (100, (.d (.sl .str))), (101, (.d (.int .i64))), (102, (.d (.int .i64)))], fun k h => mastref2_eachValue.l0 k h.1 h.2.1 h.2.2.1 h.2.2.2.1 h.2.2.2.2.1 h.2.2.2.2.2.1 h.2.2.2.2.2.2.1 h.2.2.2.2.2.2.2.1 h.2.2.2.2.2.2.2.2.1⟩, ⟨1, [(124, (.d (.sl (.st 0)))), (125, (.d (.int .i64))), (126, (.d (.int .i64)))], fun k h => mastref2_eachValue.l1 k h.1 h.2.1 h.2.2.1⟩]
theorem mastref2_eachValue.ok : ∀ k : Nat, (mastref2_eachValue.e k).Sound Tryz.prog ctx 123 :=
  entry_rec base_ok mo (fn := Tryz.f123) (b := (Tryz.f123.body.getD .skip)) (pm := [(.d (.st 0))]) (rs := [(.int .i64)]) (an := mastref2_eachValue.a) (N := 136) (vars := [(.tmp 2)]) Tryz.func123 (by kernel_rfl) (by kernel_rfl) (by kernel_rfl) (by kernel_rfl) (by kernel_rfl) (by kernel_rfl) (O := mastref2_eachValue.O) mastref2_eachValue.T ⟨⟨by kernel_rfl, fun _ => by first | rfl | rw [mastref2_eachValue.l0], fun k h => mastref2_eachValue.l0_eq k h.1 h.2.1 h.2.2.1 h.2.2.2.1 h.2.2.2.2.1 h.2.2.2.2.2.1 h.2.2.2.2.2.2.1 h.2.2.2.2.2.2.2.1 h.2.2.2.2.2.2.2.2.1⟩, ⟨⟨by kernel_rfl, fun _ => by first | rfl | rw [mastref2_eachValue.l1], fun k h => mastref2_eachValue.l1_eq k h.1 h.2.1 h.2.2.1⟩, trivial⟩⟩ (F := fun k h => mastref2_eachValue.f k h.1) (fun _ => by first | rfl | rw [mastref2_eachValue.f]) (fun k h => mastref2_eachValue.f_eq k h.1)
    (fun k own => by unfold mastref2_eachValue.O; exact oracle_of (P := Tryz.prog) (C := ctx) ⟨own, ⟨(mastref2_IsKey.ok), ⟨(mastref2_badByte.ok k), trivial⟩⟩⟩)
def mastref2_ItemFault.f (k : Nat) (a0 : T_api_Value) : Option (Int) := ((mastref2_ValuesOf.f k (T_api_Value.mk a0.fKind a0.fBool a0.fInt a0.fText a0.fItems a0.fKeys)).bind fun y1 => (bif (ilt 5000 y1) then (some 4) else ((mastref2_LevelsOf.f k (T_api_Value.mk a0.fKind a0.fBool a0.fInt a0.fText a0.fItems a0.fKeys)).bind fun y2 => (bif (ilt 10 y2) then (some 13) else ((mastref2_settled.f k (T_api_Value.mk a0.fKind a0.fBool a0.fInt a0.fText a0.fItems a0.fKeys)).bind fun y3 => ((mastref2_eachValue.f k y3).bind fun y4 => (some y4)))))))
def mastref2_ItemFault.O (k : Nat) : Oracle sg := fun n => lkp n [(121, mastref2_ValuesOf.e k), (122, mastref2_LevelsOf.e k), (123, mastref2_eachValue.e k), (124, mastref2_settled.e k)]
def mastref2_ItemFault.a : Ann := .z
def mastref2_ItemFault.L (k : Nat) : Nat → St sg.U → Option (RT sg.U [(.int .i64)]) := labs []
theorem mastref2_ItemFault.f_eq (k : Nat) (a0 : T_api_Value) : mastref2_ItemFault.f k a0 = codeK (C := ctx) (mastref2_ItemFault.O k) ⟨12, [], []⟩ (mastref2_ItemFault.L k) (Tryz.f34.body.getD .skip) mastref2_ItemFault.a (endK ctx [(.int .i64)] [(.tmp 2)]) (slotsOf sg.U 0 [(.d (.st 0))] (a0, ()) (empty sg.U)) := by
  unfold mastref2_ItemFault.f
  kernel_rfl
def mastref2_ItemFault.e (k : Nat) : Entry sg := entryOf sg [(.d (.st 0))] [(.int .i64)] (fun h => mastref2_ItemFault.f k h.1)
def mastref2_ItemFault.T : List (Lb sg (RT sg.U [(.int .i64)])) := []
theorem mastref2_ItemFault.ok (k : Nat) : (mastref2_ItemFault.e k).Sound Tryz.prog ctx 34 :=
  entry_ok base_ok mo (fn := Tryz.f34) (b := (Tryz.f34.body.getD .skip)) (pm := [(.d (.st 0))]) (rs := [(.int .i64)]) (an := mastref2_ItemFault.a) (N := 12) (vars := [(.tmp 2)]) Tryz.func34 (by kernel_rfl) (by kernel_rfl) (by kernel_rfl) (by kernel_rfl) (by kernel_rfl) (by kernel_rfl) (O := mastref2_ItemFault.O)
    (fun k => by unfold mastref2_ItemFault.O; exact oracle_of (P := Tryz.prog) (C := ctx) ⟨(mastref2_ValuesOf.ok k), ⟨(mastref2_LevelsOf.ok k), ⟨(mastref2_eachValue.ok k), ⟨(mastref2_settled.ok k), trivial⟩⟩⟩⟩) mastref2_ItemFault.T trivial k (fun h => mastref2_ItemFault.f_eq k h.1)
def mastref2_ListFault.l0 : Nat → (List T_api_Value) → Int → Int → Option (Int)
  | 0, _, _, _ => none
  | k + 1, x9, x10, x11 => (bif (ilt x11 x10) then ((lat x9 x11).bind fun y1 => ((mastref2_ItemFault.f k (T_api_Value.mk y1.fKind y1.fBool y1.fInt y1.fText y1.fItems y1.fKeys)).bind fun y2 => (bif (!ieq y2 0) then (some y2) else (mastref2_ListFault.l0 k x9 x10 (wadd .i64 x11 1))))) else (some 0))
def mastref2_ListFault.f (k : Nat) (a0 : (List T_api_Value)) : Option (Int) := (bif (ilt 2000 (llen a0)) then (some 4) else (mastref2_ListFault.l0 k a0 (llen a0) 0))
def mastref2_ListFault.O (k : Nat) : Oracle sg := fun n => lkp n [(34, mastref2_ItemFault.e k)]
def mastref2_ListFault.a : Ann := (.n .z (.n .z (.n (.n .z (.lp 0 .z)) .z)))
def mastref2_ListFault.L (k : Nat) : Nat → St sg.U → Option (RT sg.U [(.int .i64)]) := labs [(0, labOf sg [(9, (.d (.sl (.st 0)))), (10, (.d (.int .i64))), (11, (.d (.int .i64)))] (fun h => mastref2_ListFault.l0 k h.1 h.2.1 h.2.2.1))]
theorem mastref2_ListFault.l0_eq (k : Nat) (x9 : (List T_api_Value)) (x10 : Int) (x11 : Int) : mastref2_ListFault.l0 (k + 1) x9 x10 x11 = runFrom (C := ctx) (mastref2_ListFault.O k) ⟨21, [], []⟩ (mastref2_ListFault.L k) (Tryz.f13.body.getD .skip) mastref2_ListFault.a 0 (endK ctx [(.int .i64)] [(.tmp 2)]) (encD [(9, (.d (.sl (.st 0)))), (10, (.d (.int .i64))), (11, (.d (.int .i64)))] (x9, x10, x11, ()) (startD sg.U ⟨21, [], []⟩ [(9, (.d (.sl (.st 0)))), (10, (.d (.int .i64))), (11, (.d (.int .i64)))])) := by
  rw [mastref2_ListFault.l0]
  kernel_rfl
theorem mastref2_ListFault.f_eq (k : Nat) (a0 : (List T_api_Value)) : mastref2_ListFault.f k a0 = codeK (C := ctx) (mastref2_ListFault.O k) ⟨21, [], []⟩ (mastref2_ListFault.L k) (Tryz.f13.body.getD .skip) mastref2_ListFault.a (endK ctx [(.int .i64)] [(.tmp 2)]) (slotsOf sg.U 0 [(.d (.sl (.st 0)))] (a0, ()) (empty sg.U)) := by
  unfold mastref2_ListFault.f
  kernel_rfl
def mastref2_ListFault.e (k : Nat) : Entry sg := entryOf sg [(.d (.sl (.st 0)))] [(.int .i64)] (fun h => mastref2_ListFault.f k h.1)
def mastref2_ListFault.T : List (Lb sg (RT sg.U [(.int .i64)])) := [⟨0, [(9, (.d (.sl (.st 0)))), (10, (.d (.int .i64))), (11, (.d (.int .i64)))], fun k h => mastref2_ListFault.l0 k h.1 h.2.1 h.2.2.1⟩]
theorem mastref2_ListFault.ok (k : Nat) : (mastref2_ListFault.e k).Sound Tryz.prog ctx 13 :=
  entry_ok base_ok mo (fn := Tryz.f13) (b := (Tryz.f13.body.getD .skip)) (pm := [(.d (.sl (.st 0)))]) (rs := [(.int .i64)]) (an := mastref2_ListFault.a) (N := 21) (vars := [(.tmp 2)]) Tryz.func13 (by kernel_rfl) (by kernel_rfl) (by kernel_rfl) (by kernel_rfl) (by kernel_rfl) (by kernel_rfl) (O := mastref2_ListFault.O)
    (fun k => by unfold mastref2_ListFault.O; exact oracle_of (P := Tryz.prog) (C := ctx) ⟨(mastref2_ItemFault.ok k), trivial⟩) mastref2_ListFault.T ⟨⟨by kernel_rfl, fun _ => by first | rfl | rw [mastref2_ListFault.l0], fun k h => mastref2_ListFault.l0_eq k h.1 h.2.1 h.2.2.1⟩, trivial⟩ k (fun h => mastref2_ListFault.f_eq k h.1)
def strings_Split.f (a0 : ByteArray) (a1 : ByteArray) : Option ((List ByteArray)) := splitF a0 a1
def strings_Split.e : Entry sg := entryOf sg [(.d .str), (.d .str)] [(.sl .str)] (fun h => strings_Split.f h.1 h.2.1)
theorem strings_Split.ok : (strings_Split.e).Sound Tryz.prog ctx 55 :=
  split_sound (C := ctx) sg_ok Tryz.func55 (by kernel_rfl) (by kernel_rfl) (kM := 2) (fun w hG => by obtain ⟨m, hm⟩ := hG 2 (by simp [ctx, sg]); exact ⟨m, cells_cell hm⟩) (fun s sep m w hs hm h1 => Tryz.strings_Split s sep m w hs hm h1)
def mastref2_digitsAlone.f (a0 : ByteArray) : Option (Bool) := (bif (!seq a0 c_empty) then ((strings_Trim.f a0 c_0123456789).bind fun y1 => (some (seq y1 c_empty))) else (some false))
def mastref2_digitsAlone.O : Oracle sg := fun n => lkp n [(101, strings_Trim.e)]
def mastref2_digitsAlone.a : Ann := .z
def mastref2_digitsAlone.L : Nat → St sg.U → Option (RT sg.U [.bool]) := labs []
theorem mastref2_digitsAlone.f_eq (a0 : ByteArray) : mastref2_digitsAlone.f a0 = codeK (C := ctx) (mastref2_digitsAlone.O) ⟨10, [], []⟩ (mastref2_digitsAlone.L) (Tryz.f98.body.getD .skip) mastref2_digitsAlone.a (endK ctx [.bool] [(.tmp 2)]) (slotsOf sg.U 0 [(.d .str)] (a0, ()) (empty sg.U)) := by
  unfold mastref2_digitsAlone.f
  kernel_rfl
def mastref2_digitsAlone.e : Entry sg := entryOf sg [(.d .str)] [.bool] (fun h => mastref2_digitsAlone.f h.1)
def mastref2_digitsAlone.T : List (Lb sg (RT sg.U [.bool])) := []
theorem mastref2_digitsAlone.ok : (mastref2_digitsAlone.e).Sound Tryz.prog ctx 98 :=
  entry_ok base_ok mo (fn := Tryz.f98) (b := (Tryz.f98.body.getD .skip)) (pm := [(.d .str)]) (rs := [.bool]) (an := mastref2_digitsAlone.a) (N := 10) (vars := [(.tmp 2)]) Tryz.func98 (by kernel_rfl) (by kernel_rfl) (by kernel_rfl) (by kernel_rfl) (by kernel_rfl) (by kernel_rfl) (O := fun _ => mastref2_digitsAlone.O)
    (fun _ => by unfold mastref2_digitsAlone.O; exact oracle_of (P := Tryz.prog) (C := ctx) ⟨(strings_Trim.ok), trivial⟩) mastref2_digitsAlone.T trivial 0 (fun h => mastref2_digitsAlone.f_eq h.1)
mutual
def mastref2_RouteParts.l0 : Nat → Bool → (List ByteArray) → (List ByteArray) → Int → Int → Option ((List ByteArray) × Bool)
  | 0, _, _, _, _, _ => none
  | k + 1, x1, x6, x17, x18, x19 => (bif (ilt x19 x18) then ((lat x17 x19).bind fun y2 => ((mastref2_digitsAlone.f y2).bind fun y3 => (bif (bif y3 then (ile (slen y2) 4) else false) then ((sat y2 0).bind fun y4 => (mastref2_RouteParts.l1 k x1 x6 y2 (bif (!ieq y4 48) then true else (seq y2 c_0)) x17 x18 x19)) else (mastref2_RouteParts.l1 k x1 x6 y2 false x17 x18 x19)))) else (some (x6, true)))
def mastref2_RouteParts.l1 : Nat → Bool → (List ByteArray) → ByteArray → Bool → (List ByteArray) → Int → Int → Option ((List ByteArray) × Bool)
  | 0, _, _, _, _, _, _, _ => none
  | k + 1, x1, x6, x8, x9, x17, x18, x19 => (bif (!x9) then ((mastref2_IsKey.f x8).bind fun y5 => (bif (bif (!y5) then (!(bif x1 then (seq x8 c__2a) else false)) else false) then (some ([], false)) else (mastref2_RouteParts.l0 k x1 x6 x17 x18 (wadd .i64 x19 1)))) else (mastref2_RouteParts.l0 k x1 x6 x17 x18 (wadd .i64 x19 1)))
end
def mastref2_RouteParts.f (k : Nat) (a0 : ByteArray) (a1 : Bool) : Option ((List ByteArray) × Bool) := (bif (ilt 400 (slen a0)) then (some ([], false)) else (bif (seq a0 c_empty) then (some ([], true)) else ((strings_Split.f a0 c__2e).bind fun y1 => (mastref2_RouteParts.l0 k a1 y1 y1 (llen y1) 0))))
def mastref2_RouteParts.O (k : Nat) : Oracle sg := fun n => lkp n [(55, strings_Split.e), (98, mastref2_digitsAlone.e), (136, mastref2_IsKey.e)]
def mastref2_RouteParts.a : Ann := (.n .z (.n .z (.n .z (.n .z (.n (.n .z (.lp 0 (.n .z (.n .z (.n (.n .z (.n .z (.lab 1 .z))) .z))))) .z)))))
def mastref2_RouteParts.L (k : Nat) : Nat → St sg.U → Option (RT sg.U [(.sl .str), .bool]) := labs [(0, labOf sg [(1, (.d .bool)), (6, (.d (.sl .str))), (17, (.d (.sl .str))), (18, (.d (.int .i64))), (19, (.d (.int .i64)))] (fun h => mastref2_RouteParts.l0 k h.1 h.2.1 h.2.2.1 h.2.2.2.1 h.2.2.2.2.1)), (1, labOf sg [(1, (.d .bool)), (6, (.d (.sl .str))), (8, (.d .str)), (9, (.d .bool)), (17, (.d (.sl .str))), (18, (.d (.int .i64))), (19, (.d (.int .i64)))] (fun h => mastref2_RouteParts.l1 k h.1 h.2.1 h.2.2.1 h.2.2.2.1 h.2.2.2.2.1 h.2.2.2.2.2.1 h.2.2.2.2.2.2.1))]
theorem mastref2_RouteParts.l0_eq (k : Nat) (x1 : Bool) (x6 : (List ByteArray)) (x17 : (List ByteArray)) (x18 : Int) (x19 : Int) : mastref2_RouteParts.l0 (k + 1) x1 x6 x17 x18 x19 = runFrom (C := ctx) (mastref2_RouteParts.O k) ⟨56, [], []⟩ (mastref2_RouteParts.L k) (Tryz.f45.body.getD .skip) mastref2_RouteParts.a 0 (endK ctx [(.sl .str), .bool] [(.tmp 4), (.tmp 5)]) (encD [(1, (.d .bool)), (6, (.d (.sl .str))), (17, (.d (.sl .str))), (18, (.d (.int .i64))), (19, (.d (.int .i64)))] (x1, x6, x17, x18, x19, ()) (startD sg.U ⟨56, [], []⟩ [(1, (.d .bool)), (6, (.d (.sl .str))), (17, (.d (.sl .str))), (18, (.d (.int .i64))), (19, (.d (.int .i64)))])) := by
  rw [mastref2_RouteParts.l0]
  kernel_rfl
theorem mastref2_RouteParts.l1_eq (k : Nat) (x1 : Bool) (x6 : (List ByteArray)) (x8 : ByteArray) (x9 : Bool) (x17 : (List ByteArray)) (x18 : Int) (x19 : Int) : mastref2_RouteParts.l1 (k + 1) x1 x6 x8 x9 x17 x18 x19 = runFrom (C := ctx) (mastref2_RouteParts.O k) ⟨56, [], []⟩ (mastref2_RouteParts.L k) (Tryz.f45.body.getD .skip) mastref2_RouteParts.a 1 (endK ctx [(.sl .str), .bool] [(.tmp 4), (.tmp 5)]) (encD [(1, (.d .bool)), (6, (.d (.sl .str))), (8, (.d .str)), (9, (.d .bool)), (17, (.d (.sl .str))), (18, (.d (.int .i64))), (19, (.d (.int .i64)))] (x1, x6, x8, x9, x17, x18, x19, ()) (startD sg.U ⟨56, [], []⟩ [(1, (.d .bool)), (6, (.d (.sl .str))), (8, (.d .str)), (9, (.d .bool)), (17, (.d (.sl .str))), (18, (.d (.int .i64))), (19, (.d (.int .i64)))])) := by
  rw [mastref2_RouteParts.l1]
  kernel_rfl
theorem mastref2_RouteParts.f_eq (k : Nat) (a0 : ByteArray) (a1 : Bool) : mastref2_RouteParts.f k a0 a1 = codeK (C := ctx) (mastref2_RouteParts.O k) ⟨56, [], []⟩ (mastref2_RouteParts.L k) (Tryz.f45.body.getD .skip) mastref2_RouteParts.a (endK ctx [(.sl .str), .bool] [(.tmp 4), (.tmp 5)]) (slotsOf sg.U 0 [(.d .str), (.d .bool)] (a0, a1, ()) (empty sg.U)) := by
  unfold mastref2_RouteParts.f
  kernel_rfl
def mastref2_RouteParts.e (k : Nat) : Entry sg := entryOf sg [(.d .str), (.d .bool)] [(.sl .str), .bool] (fun h => mastref2_RouteParts.f k h.1 h.2.1)
def mastref2_RouteParts.T : List (Lb sg (RT sg.U [(.sl .str), .bool])) := [⟨0, [(1, (.d .bool)), (6, (.d (.sl .str))), (17, (.d (.sl .str))), (18, (.d (.int .i64))), (19, (.d (.int .i64)))], fun k h => mastref2_RouteParts.l0 k h.1 h.2.1 h.2.2.1 h.2.2.2.1 h.2.2.2.2.1⟩, ⟨1, [(1, (.d .bool)), (6, (.d (.sl .str))), (8, (.d .str)), (9, (.d .bool)), (17, (.d (.sl .str))), (18, (.d (.int .i64))), (19, (.d (.int .i64)))], fun k h => mastref2_RouteParts.l1 k h.1 h.2.1 h.2.2.1 h.2.2.2.1 h.2.2.2.2.1 h.2.2.2.2.2.1 h.2.2.2.2.2.2.1⟩]
theorem mastref2_RouteParts.ok (k : Nat) : (mastref2_RouteParts.e k).Sound Tryz.prog ctx 45 :=
  entry_ok base_ok mo (fn := Tryz.f45) (b := (Tryz.f45.body.getD .skip)) (pm := [(.d .str), (.d .bool)]) (rs := [(.sl .str), .bool]) (an := mastref2_RouteParts.a) (N := 56) (vars := [(.tmp 4), (.tmp 5)]) Tryz.func45 (by kernel_rfl) (by kernel_rfl) (by kernel_rfl) (by kernel_rfl) (by kernel_rfl) (by kernel_rfl) (O := mastref2_RouteParts.O)
    (fun k => by unfold mastref2_RouteParts.O; exact oracle_of (P := Tryz.prog) (C := ctx) ⟨(strings_Split.ok), ⟨(mastref2_digitsAlone.ok), ⟨(mastref2_IsKey.ok), trivial⟩⟩⟩) mastref2_RouteParts.T ⟨⟨by kernel_rfl, fun _ => by first | rfl | rw [mastref2_RouteParts.l0], fun k h => mastref2_RouteParts.l0_eq k h.1 h.2.1 h.2.2.1 h.2.2.2.1 h.2.2.2.2.1⟩, ⟨⟨by kernel_rfl, fun _ => by first | rfl | rw [mastref2_RouteParts.l1], fun k h => mastref2_RouteParts.l1_eq k h.1 h.2.1 h.2.2.1 h.2.2.2.1 h.2.2.2.2.1 h.2.2.2.2.2.1 h.2.2.2.2.2.2.1⟩, trivial⟩⟩ k (fun h => mastref2_RouteParts.f_eq k h.1 h.2.1)
def mastref2_RouteFault.f (k : Nat) (a0 : (List T_api_Value)) (a1 : ByteArray) : Option (Int) := ((mastref2_ListFault.f k a0).bind fun y1 => (bif (!ieq y1 0) then (some y1) else ((mastref2_RouteParts.f k a1 false).bind fun y2 => (bif (!y2.2) then (some 3) else (some 0)))))
def mastref2_RouteFault.O (k : Nat) : Oracle sg := fun n => lkp n [(13, mastref2_ListFault.e k), (45, mastref2_RouteParts.e k)]
def mastref2_RouteFault.a : Ann := .z
def mastref2_RouteFault.L (k : Nat) : Nat → St sg.U → Option (RT sg.U [(.int .i64)]) := labs []
theorem mastref2_RouteFault.f_eq (k : Nat) (a0 : (List T_api_Value)) (a1 : ByteArray) : mastref2_RouteFault.f k a0 a1 = codeK (C := ctx) (mastref2_RouteFault.O k) ⟨20, [], []⟩ (mastref2_RouteFault.L k) (Tryz.f19.body.getD .skip) mastref2_RouteFault.a (endK ctx [(.int .i64)] [(.tmp 4)]) (slotsOf sg.U 0 [(.d (.sl (.st 0))), (.d .str)] (a0, a1, ()) (empty sg.U)) := by
  unfold mastref2_RouteFault.f
  kernel_rfl
def mastref2_RouteFault.e (k : Nat) : Entry sg := entryOf sg [(.d (.sl (.st 0))), (.d .str)] [(.int .i64)] (fun h => mastref2_RouteFault.f k h.1 h.2.1)
def mastref2_RouteFault.T : List (Lb sg (RT sg.U [(.int .i64)])) := []
theorem mastref2_RouteFault.ok (k : Nat) : (mastref2_RouteFault.e k).Sound Tryz.prog ctx 19 :=
  entry_ok base_ok mo (fn := Tryz.f19) (b := (Tryz.f19.body.getD .skip)) (pm := [(.d (.sl (.st 0))), (.d .str)]) (rs := [(.int .i64)]) (an := mastref2_RouteFault.a) (N := 20) (vars := [(.tmp 4)]) Tryz.func19 (by kernel_rfl) (by kernel_rfl) (by kernel_rfl) (by kernel_rfl) (by kernel_rfl) (by kernel_rfl) (O := mastref2_RouteFault.O)
    (fun k => by unfold mastref2_RouteFault.O; exact oracle_of (P := Tryz.prog) (C := ctx) ⟨(mastref2_ListFault.ok k), ⟨(mastref2_RouteParts.ok k), trivial⟩⟩) mastref2_RouteFault.T trivial k (fun h => mastref2_RouteFault.f_eq k h.1 h.2.1)
def slices_Index_string_string.l0 : Nat → (List ByteArray) → ByteArray → Int → Int → Option (Int)
  | 0, _, _, _, _ => none
  | k + 1, x0, x1, x7, x8 => (bif (ilt x8 x7) then ((lat x0 x8).bind fun y1 => (bif (seq x1 y1) then (some x8) else (slices_Index_string_string.l0 k x0 x1 x7 (wadd .i64 x8 1)))) else (some (-1)))
def slices_Index_string_string.f (k : Nat) (a0 : (List ByteArray)) (a1 : ByteArray) : Option (Int) := (slices_Index_string_string.l0 k a0 a1 (llen a0) 0)
def slices_Index_string_string.O (k : Nat) : Oracle sg := fun n => lkp n []
def slices_Index_string_string.a : Ann := (.n .z (.n (.n .z (.lp 0 .z)) .z))
def slices_Index_string_string.L (k : Nat) : Nat → St sg.U → Option (RT sg.U [(.int .i64)]) := labs [(0, labOf sg [(0, (.d (.sl .str))), (1, (.d .str)), (7, (.d (.int .i64))), (8, (.d (.int .i64)))] (fun h => slices_Index_string_string.l0 k h.1 h.2.1 h.2.2.1 h.2.2.2.1))]
theorem slices_Index_string_string.l0_eq (k : Nat) (x0 : (List ByteArray)) (x1 : ByteArray) (x7 : Int) (x8 : Int) : slices_Index_string_string.l0 (k + 1) x0 x1 x7 x8 = runFrom (C := ctx) (slices_Index_string_string.O k) ⟨19, [], []⟩ (slices_Index_string_string.L k) (Tryz.f156.body.getD .skip) slices_Index_string_string.a 0 (endK ctx [(.int .i64)] [(.tmp 4)]) (encD [(0, (.d (.sl .str))), (1, (.d .str)), (7, (.d (.int .i64))), (8, (.d (.int .i64)))] (x0, x1, x7, x8, ()) (startD sg.U ⟨19, [], []⟩ [(0, (.d (.sl .str))), (1, (.d .str)), (7, (.d (.int .i64))), (8, (.d (.int .i64)))])) := by
  rw [slices_Index_string_string.l0]
  kernel_rfl
theorem slices_Index_string_string.f_eq (k : Nat) (a0 : (List ByteArray)) (a1 : ByteArray) : slices_Index_string_string.f k a0 a1 = codeK (C := ctx) (slices_Index_string_string.O k) ⟨19, [], []⟩ (slices_Index_string_string.L k) (Tryz.f156.body.getD .skip) slices_Index_string_string.a (endK ctx [(.int .i64)] [(.tmp 4)]) (slotsOf sg.U 0 [(.d (.sl .str)), (.d .str)] (a0, a1, ()) (empty sg.U)) := by
  unfold slices_Index_string_string.f
  kernel_rfl
def slices_Index_string_string.e (k : Nat) : Entry sg := entryOf sg [(.d (.sl .str)), (.d .str)] [(.int .i64)] (fun h => slices_Index_string_string.f k h.1 h.2.1)
def slices_Index_string_string.T : List (Lb sg (RT sg.U [(.int .i64)])) := [⟨0, [(0, (.d (.sl .str))), (1, (.d .str)), (7, (.d (.int .i64))), (8, (.d (.int .i64)))], fun k h => slices_Index_string_string.l0 k h.1 h.2.1 h.2.2.1 h.2.2.2.1⟩]
theorem slices_Index_string_string.ok (k : Nat) : (slices_Index_string_string.e k).Sound Tryz.prog ctx 156 :=
  entry_ok base_ok mo (fn := Tryz.f156) (b := (Tryz.f156.body.getD .skip)) (pm := [(.d (.sl .str)), (.d .str)]) (rs := [(.int .i64)]) (an := slices_Index_string_string.a) (N := 19) (vars := [(.tmp 4)]) Tryz.func156 (by kernel_rfl) (by kernel_rfl) (by kernel_rfl) (by kernel_rfl) (by kernel_rfl) (by kernel_rfl) (O := slices_Index_string_string.O)
    (fun k => by unfold slices_Index_string_string.O; exact oracle_of (P := Tryz.prog) (C := ctx) trivial) slices_Index_string_string.T ⟨⟨by kernel_rfl, fun _ => by first | rfl | rw [slices_Index_string_string.l0], fun k h => slices_Index_string_string.l0_eq k h.1 h.2.1 h.2.2.1 h.2.2.2.1⟩, trivial⟩ k (fun h => slices_Index_string_string.f_eq k h.1 h.2.1)
def strconv_Atoi.f (a0 : ByteArray) : Option (Int) := atoiF a0
def strconv_Atoi.e : Entry sg := atoiE sg
theorem strconv_Atoi.ok : (strconv_Atoi.e).Sound Tryz.prog ctx 100 :=
  atoi_sound (C := ctx) sg_ok Tryz.func100 (by kernel_rfl) (by kernel_rfl) (fun s n w h1 h2 => Tryz.strconv_Atoi s n h1 h2 w)
def mastref2_Step.f (k : Nat) (a0 : T_api_Value) (a1 : ByteArray) : Option (Int) := ((sat a1 0).bind fun y1 => (bif (ile 97 y1) then (bif (!ieq a0.fKind 6) then (some (-1)) else ((slices_Index_string_string.f k a0.fKeys a1).bind fun y2 => (some y2))) else ((strconv_Atoi.f a1).bind fun y3 => (bif (bif (ieq a0.fKind 5) then (ilt y3 (llen a0.fItems)) else false) then (some y3) else (some (-1))))))
def mastref2_Step.O (k : Nat) : Oracle sg := fun n => lkp n [(100, strconv_Atoi.e), (156, slices_Index_string_string.e k)]
def mastref2_Step.a : Ann := .z
def mastref2_Step.L (k : Nat) : Nat → St sg.U → Option (RT sg.U [(.int .i64)]) := labs []
theorem mastref2_Step.f_eq (k : Nat) (a0 : T_api_Value) (a1 : ByteArray) : mastref2_Step.f k a0 a1 = codeK (C := ctx) (mastref2_Step.O k) ⟨33, [], []⟩ (mastref2_Step.L k) (Tryz.f137.body.getD .skip) mastref2_Step.a (endK ctx [(.int .i64)] [(.tmp 4)]) (slotsOf sg.U 0 [(.d (.st 0)), (.d .str)] (a0, a1, ()) (empty sg.U)) := by
  unfold mastref2_Step.f
  kernel_rfl
def mastref2_Step.e (k : Nat) : Entry sg := entryOf sg [(.d (.st 0)), (.d .str)] [(.int .i64)] (fun h => mastref2_Step.f k h.1 h.2.1)
def mastref2_Step.T : List (Lb sg (RT sg.U [(.int .i64)])) := []
theorem mastref2_Step.ok (k : Nat) : (mastref2_Step.e k).Sound Tryz.prog ctx 137 :=
  entry_ok base_ok mo (fn := Tryz.f137) (b := (Tryz.f137.body.getD .skip)) (pm := [(.d (.st 0)), (.d .str)]) (rs := [(.int .i64)]) (an := mastref2_Step.a) (N := 33) (vars := [(.tmp 4)]) Tryz.func137 (by kernel_rfl) (by kernel_rfl) (by kernel_rfl) (by kernel_rfl) (by kernel_rfl) (by kernel_rfl) (O := mastref2_Step.O)
    (fun k => by unfold mastref2_Step.O; exact oracle_of (P := Tryz.prog) (C := ctx) ⟨(strconv_Atoi.ok), ⟨(slices_Index_string_string.ok k), trivial⟩⟩) mastref2_Step.T trivial k (fun h => mastref2_Step.f_eq k h.1 h.2.1)
def mastref2_Follow.l0 : Nat → Int → Bool → Int → ByteArray → (List T_api_Value) → (List ByteArray) → Int → Bool → Int → ByteArray → (List T_api_Value) → (List ByteArray) → (List ByteArray) → Int → Int → Option (T_api_Value × Bool)
  | 0, _, _, _, _, _, _, _, _, _, _, _, _, _, _, _ => none
  | k + 1, x2_0, x2_1, x2_2, x2_3, x2_4, x2_5, x4_0, x4_1, x4_2, x4_3, x4_4, x4_5, x9, x10, x11 => (bif (ilt x11 x10) then ((lat x9 x11).bind fun y1 => ((mastref2_Step.f k (T_api_Value.mk x2_0 x2_1 x2_2 x2_3 x2_4 x2_5) y1).bind fun y2 => (bif (ilt y2 0) then (some ((T_api_Value.mk 0 false 0 c_empty [] []), false)) else ((lat x2_4 y2).bind fun y3 => (mastref2_Follow.l0 k y3.fKind y3.fBool y3.fInt y3.fText y3.fItems y3.fKeys x4_0 x4_1 x4_2 x4_3 x4_4 x4_5 x9 x10 (wadd .i64 x11 1)))))) else (some ((T_api_Value.mk x2_0 x2_1 x2_2 x2_3 x2_4 x2_5), true)))
def mastref2_Follow.f (k : Nat) (a0 : T_api_Value) (a1 : (List ByteArray)) : Option (T_api_Value × Bool) := (mastref2_Follow.l0 k a0.fKind a0.fBool a0.fInt a0.fText a0.fItems a0.fKeys 0 false 0 c_empty [] [] a1 (llen a1) 0)
def mastref2_Follow.O (k : Nat) : Oracle sg := fun n => lkp n [(137, mastref2_Step.e k)]
def mastref2_Follow.a : Ann := (.n .z (.n (.n .z (.lp 0 .z)) .z))
def mastref2_Follow.L (k : Nat) : Nat → St sg.U → Option (RT sg.U [(.st 0), .bool]) := labs [(0, labOf sg [(2, (.box [.d (.int .i64), .d .bool, .d (.int .i64), .d .str, .d (.sl (.st 0)), .d (.sl .str)])), (4, (.box [.d (.int .i64), .d .bool, .d (.int .i64), .d .str, .row 25 (.st 0), .row 9 .str])), (9, (.d (.sl .str))), (10, (.d (.int .i64))), (11, (.d (.int .i64)))] (fun h => mastref2_Follow.l0 k h.1 h.2.1 h.2.2.1 h.2.2.2.1 h.2.2.2.2.1 h.2.2.2.2.2.1 h.2.2.2.2.2.2.1 h.2.2.2.2.2.2.2.1 h.2.2.2.2.2.2.2.2.1 h.2.2.2.2.2.2.2.2.2.1 h.2.2.2.2.2.2.2.2.2.2.1 h.2.2.2.2.2.2.2.2.2.2.2.1 h.2.2.2.2.2.2.2.2.2.2.2.2.1 h.2.2.2.2.2.2.2.2.2.2.2.2.2.1 h.2.2.2.2.2.2.2.2.2.2.2.2.2.2.1))]
theorem mastref2_Follow.l0_eq (k : Nat) (x2_0 : Int) (x2_1 : Bool) (x2_2 : Int) (x2_3 : ByteArray) (x2_4 : (List T_api_Value)) (x2_5 : (List ByteArray)) (x4_0 : Int) (x4_1 : Bool) (x4_2 : Int) (x4_3 : ByteArray) (x4_4 : (List T_api_Value)) (x4_5 : (List ByteArray)) (x9 : (List ByteArray)) (x10 : Int) (x11 : Int) : mastref2_Follow.l0 (k + 1) x2_0 x2_1 x2_2 x2_3 x2_4 x2_5 x4_0 x4_1 x4_2 x4_3 x4_4 x4_5 x9 x10 x11 = runFrom (C := ctx) (mastref2_Follow.O k) ⟨28, [], []⟩ (mastref2_Follow.L k) (Tryz.f46.body.getD .skip) mastref2_Follow.a 0 (endK ctx [(.st 0), .bool] [(.cell 4 25), (.tmp 5)]) (encD [(2, (.box [.d (.int .i64), .d .bool, .d (.int .i64), .d .str, .d (.sl (.st 0)), .d (.sl .str)])), (4, (.box [.d (.int .i64), .d .bool, .d (.int .i64), .d .str, .row 25 (.st 0), .row 9 .str])), (9, (.d (.sl .str))), (10, (.d (.int .i64))), (11, (.d (.int .i64)))] (x2_0, x2_1, x2_2, x2_3, x2_4, x2_5, x4_0, x4_1, x4_2, x4_3, x4_4, x4_5, x9, x10, x11, ()) (startD sg.U ⟨28, [], []⟩ [(2, (.box [.d (.int .i64), .d .bool, .d (.int .i64), .d .str, .d (.sl (.st 0)), .d (.sl .str)])), (4, (.box [.d (.int .i64), .d .bool, .d (.int .i64), .d .str, .row 25 (.st 0), .row 9 .str])), (9, (.d (.sl .str))), (10, (.d (.int .i64))), (11, (.d (.int .i64)))])) := by
  rw [mastref2_Follow.l0]
  kernel_rfl
theorem mastref2_Follow.f_eq (k : Nat) (a0 : T_api_Value) (a1 : (List ByteArray)) : mastref2_Follow.f k a0 a1 = codeK (C := ctx) (mastref2_Follow.O k) ⟨28, [], []⟩ (mastref2_Follow.L k) (Tryz.f46.body.getD .skip) mastref2_Follow.a (endK ctx [(.st 0), .bool] [(.cell 4 25), (.tmp 5)]) (slotsOf sg.U 0 [(.d (.st 0)), (.d (.sl .str))] (a0, a1, ()) (empty sg.U)) := by
  unfold mastref2_Follow.f
  kernel_rfl
def mastref2_Follow.e (k : Nat) : Entry sg := entryOf sg [(.d (.st 0)), (.d (.sl .str))] [(.st 0), .bool] (fun h => mastref2_Follow.f k h.1 h.2.1)
def mastref2_Follow.T : List (Lb sg (RT sg.U [(.st 0), .bool])) := [⟨0, [(2, (.box [.d (.int .i64), .d .bool, .d (.int .i64), .d .str, .d (.sl (.st 0)), .d (.sl .str)])), (4, (.box [.d (.int .i64), .d .bool, .d (.int .i64), .d .str, .row 25 (.st 0), .row 9 .str])), (9, (.d (.sl .str))), (10, (.d (.int .i64))), (11, (.d (.int .i64)))], fun k h => mastref2_Follow.l0 k h.1 h.2.1 h.2.2.1 h.2.2.2.1 h.2.2.2.2.1 h.2.2.2.2.2.1 h.2.2.2.2.2.2.1 h.2.2.2.2.2.2.2.1 h.2.2.2.2.2.2.2.2.1 h.2.2.2.2.2.2.2.2.2.1 h.2.2.2.2.2.2.2.2.2.2.1 h.2.2.2.2.2.2.2.2.2.2.2.1 h.2.2.2.2.2.2.2.2.2.2.2.2.1 h.2.2.2.2.2.2.2.2.2.2.2.2.2.1 h.2.2.2.2.2.2.2.2.2.2.2.2.2.2.1⟩]
theorem mastref2_Follow.ok (k : Nat) : (mastref2_Follow.e k).Sound Tryz.prog ctx 46 :=
  entry_ok base_ok mo (fn := Tryz.f46) (b := (Tryz.f46.body.getD .skip)) (pm := [(.d (.st 0)), (.d (.sl .str))]) (rs := [(.st 0), .bool]) (an := mastref2_Follow.a) (N := 28) (vars := [(.cell 4 25), (.tmp 5)]) Tryz.func46 (by kernel_rfl) (by kernel_rfl) (by kernel_rfl) (by kernel_rfl) (by kernel_rfl) (by kernel_rfl) (O := mastref2_Follow.O)
    (fun k => by unfold mastref2_Follow.O; exact oracle_of (P := Tryz.prog) (C := ctx) ⟨(mastref2_Step.ok k), trivial⟩) mastref2_Follow.T ⟨⟨by kernel_rfl, fun _ => by first | rfl | rw [mastref2_Follow.l0], fun k h => mastref2_Follow.l0_eq k h.1 h.2.1 h.2.2.1 h.2.2.2.1 h.2.2.2.2.1 h.2.2.2.2.2.1 h.2.2.2.2.2.2.1 h.2.2.2.2.2.2.2.1 h.2.2.2.2.2.2.2.2.1 h.2.2.2.2.2.2.2.2.2.1 h.2.2.2.2.2.2.2.2.2.2.1 h.2.2.2.2.2.2.2.2.2.2.2.1 h.2.2.2.2.2.2.2.2.2.2.2.2.1 h.2.2.2.2.2.2.2.2.2.2.2.2.2.1 h.2.2.2.2.2.2.2.2.2.2.2.2.2.2.1⟩, trivial⟩ k (fun h => mastref2_Follow.f_eq k h.1 h.2.1)
def mastref2_HasAt.f (k : Nat) (a0 : T_api_Value) (a1 : ByteArray) : Option (T_api_Value) := ((mastref2_RouteParts.f k a1 false).bind fun y1 => ((mastref2_Follow.f k (T_api_Value.mk a0.fKind a0.fBool a0.fInt a0.fText a0.fItems a0.fKeys) y1.1).bind fun y2 => (some (T_api_Value.mk y2.1.fKind y2.1.fBool y2.1.fInt y2.1.fText y2.1.fItems y2.1.fKeys))))
def mastref2_HasAt.O (k : Nat) : Oracle sg := fun n => lkp n [(45, mastref2_RouteParts.e k), (46, mastref2_Follow.e k)]
def mastref2_HasAt.a : Ann := .z
def mastref2_HasAt.L (k : Nat) : Nat → St sg.U → Option (RT sg.U [(.st 0)]) := labs []
theorem mastref2_HasAt.f_eq (k : Nat) (a0 : T_api_Value) (a1 : ByteArray) : mastref2_HasAt.f k a0 a1 = codeK (C := ctx) (mastref2_HasAt.O k) ⟨21, [], []⟩ (mastref2_HasAt.L k) (Tryz.f20.body.getD .skip) mastref2_HasAt.a (endK ctx [(.st 0)] [(.cell 4 25)]) (slotsOf sg.U 0 [(.d (.st 0)), (.d .str)] (a0, a1, ()) (empty sg.U)) := by
  unfold mastref2_HasAt.f
  kernel_rfl
def mastref2_HasAt.e (k : Nat) : Entry sg := entryOf sg [(.d (.st 0)), (.d .str)] [(.st 0)] (fun h => mastref2_HasAt.f k h.1 h.2.1)
def mastref2_HasAt.T : List (Lb sg (RT sg.U [(.st 0)])) := []
theorem mastref2_HasAt.ok (k : Nat) : (mastref2_HasAt.e k).Sound Tryz.prog ctx 20 :=
  entry_ok base_ok mo (fn := Tryz.f20) (b := (Tryz.f20.body.getD .skip)) (pm := [(.d (.st 0)), (.d .str)]) (rs := [(.st 0)]) (an := mastref2_HasAt.a) (N := 21) (vars := [(.cell 4 25)]) Tryz.func20 (by kernel_rfl) (by kernel_rfl) (by kernel_rfl) (by kernel_rfl) (by kernel_rfl) (by kernel_rfl) (O := mastref2_HasAt.O)
    (fun k => by unfold mastref2_HasAt.O; exact oracle_of (P := Tryz.prog) (C := ctx) ⟨(mastref2_RouteParts.ok k), ⟨(mastref2_Follow.ok k), trivial⟩⟩) mastref2_HasAt.T trivial k (fun h => mastref2_HasAt.f_eq k h.1 h.2.1)
def mastref2_SumOf.l0 : Nat → ByteArray → Int → Int → (List T_api_Value) → Int → Int → Option (Int × Int)
  | 0, _, _, _, _, _, _ => none
  | k + 1, x1, x7, x8, x20, x21, x22 => (bif (ilt x22 x21) then ((lat x20 x22).bind fun y2 => ((mastref2_HasAt.f k (T_api_Value.mk y2.fKind y2.fBool y2.fInt y2.fText y2.fItems y2.fKeys) x1).bind fun y3 => (bif (ieq y3.fKind 2) then ((math_bits_Add64.f x8 (wcv .u64 y3.fInt) 0).bind fun y4 => (bif ilt 63 0 then none else (mastref2_SumOf.l0 k x1 (wadd .i64 (wadd .i64 x7 (wcv .i64 y4.2)) (ishr .i64 y3.fInt 63)) y4.1 x20 x21 (wadd .i64 x22 1)))) else (mastref2_SumOf.l0 k x1 x7 x8 x20 x21 (wadd .i64 x22 1))))) else (bif ilt 63 0 then none else (bif (!ieq x7 (ishr .i64 (wcv .i64 x8) 63)) then (some (0, 2)) else (some ((wcv .i64 x8), 0)))))
def mastref2_SumOf.f (k : Nat) (a0 : (List T_api_Value)) (a1 : ByteArray) : Option (Int × Int) := ((mastref2_RouteFault.f k a0 a1).bind fun y1 => (bif (!ieq y1 0) then (some (0, y1)) else (mastref2_SumOf.l0 k a1 0 0 a0 (llen a0) 0)))
def mastref2_SumOf.O (k : Nat) : Oracle sg := fun n => lkp n [(19, mastref2_RouteFault.e k), (20, mastref2_HasAt.e k), (43, math_bits_Add64.e)]
def mastref2_SumOf.a : Ann := (.n .z (.n .z (.n .z (.n (.n .z (.lp 0 .z)) .z))))
def mastref2_SumOf.L (k : Nat) : Nat → St sg.U → Option (RT sg.U [(.int .i64), (.int .i64)]) := labs [(0, labOf sg [(1, (.d .str)), (7, (.d (.int .i64))), (8, (.d (.int .u64))), (20, (.d (.sl (.st 0)))), (21, (.d (.int .i64))), (22, (.d (.int .i64)))] (fun h => mastref2_SumOf.l0 k h.1 h.2.1 h.2.2.1 h.2.2.2.1 h.2.2.2.2.1 h.2.2.2.2.2.1))]
theorem mastref2_SumOf.l0_eq (k : Nat) (x1 : ByteArray) (x7 : Int) (x8 : Int) (x20 : (List T_api_Value)) (x21 : Int) (x22 : Int) : mastref2_SumOf.l0 (k + 1) x1 x7 x8 x20 x21 x22 = runFrom (C := ctx) (mastref2_SumOf.O k) ⟨57, [], []⟩ (mastref2_SumOf.L k) (Tryz.f17.body.getD .skip) mastref2_SumOf.a 0 (endK ctx [(.int .i64), (.int .i64)] [(.tmp 4), (.tmp 5)]) (encD [(1, (.d .str)), (7, (.d (.int .i64))), (8, (.d (.int .u64))), (20, (.d (.sl (.st 0)))), (21, (.d (.int .i64))), (22, (.d (.int .i64)))] (x1, x7, x8, x20, x21, x22, ()) (startD sg.U ⟨57, [], []⟩ [(1, (.d .str)), (7, (.d (.int .i64))), (8, (.d (.int .u64))), (20, (.d (.sl (.st 0)))), (21, (.d (.int .i64))), (22, (.d (.int .i64)))])) := by
  rw [mastref2_SumOf.l0]
  kernel_rfl
theorem mastref2_SumOf.f_eq (k : Nat) (a0 : (List T_api_Value)) (a1 : ByteArray) : mastref2_SumOf.f k a0 a1 = codeK (C := ctx) (mastref2_SumOf.O k) ⟨57, [], []⟩ (mastref2_SumOf.L k) (Tryz.f17.body.getD .skip) mastref2_SumOf.a (endK ctx [(.int .i64), (.int .i64)] [(.tmp 4), (.tmp 5)]) (slotsOf sg.U 0 [(.d (.sl (.st 0))), (.d .str)] (a0, a1, ()) (empty sg.U)) := by
  unfold mastref2_SumOf.f
  kernel_rfl
def mastref2_SumOf.e (k : Nat) : Entry sg := entryOf sg [(.d (.sl (.st 0))), (.d .str)] [(.int .i64), (.int .i64)] (fun h => mastref2_SumOf.f k h.1 h.2.1)
def mastref2_SumOf.T : List (Lb sg (RT sg.U [(.int .i64), (.int .i64)])) := [⟨0, [(1, (.d .str)), (7, (.d (.int .i64))), (8, (.d (.int .u64))), (20, (.d (.sl (.st 0)))), (21, (.d (.int .i64))), (22, (.d (.int .i64)))], fun k h => mastref2_SumOf.l0 k h.1 h.2.1 h.2.2.1 h.2.2.2.1 h.2.2.2.2.1 h.2.2.2.2.2.1⟩]
theorem mastref2_SumOf.ok (k : Nat) : (mastref2_SumOf.e k).Sound Tryz.prog ctx 17 :=
  entry_ok base_ok mo (fn := Tryz.f17) (b := (Tryz.f17.body.getD .skip)) (pm := [(.d (.sl (.st 0))), (.d .str)]) (rs := [(.int .i64), (.int .i64)]) (an := mastref2_SumOf.a) (N := 57) (vars := [(.tmp 4), (.tmp 5)]) Tryz.func17 (by kernel_rfl) (by kernel_rfl) (by kernel_rfl) (by kernel_rfl) (by kernel_rfl) (by kernel_rfl) (O := mastref2_SumOf.O)
    (fun k => by unfold mastref2_SumOf.O; exact oracle_of (P := Tryz.prog) (C := ctx) ⟨(mastref2_RouteFault.ok k), ⟨(mastref2_HasAt.ok k), ⟨(math_bits_Add64.ok), trivial⟩⟩⟩) mastref2_SumOf.T ⟨⟨by kernel_rfl, fun _ => by first | rfl | rw [mastref2_SumOf.l0], fun k h => mastref2_SumOf.l0_eq k h.1 h.2.1 h.2.2.1 h.2.2.2.1 h.2.2.2.2.1 h.2.2.2.2.2.1⟩, trivial⟩ k (fun h => mastref2_SumOf.f_eq k h.1 h.2.1)
def conf_sign.f (a0 : Int) (a1 : Int) : Option (Int) := (bif (ilt a0 a1) then (some (-1)) else (bif (ilt a1 a0) then (some 1) else (some 0)))
def conf_sign.O : Oracle sg := fun n => lkp n []
def conf_sign.a : Ann := .z
def conf_sign.L : Nat → St sg.U → Option (RT sg.U [(.int .i64)]) := labs []
theorem conf_sign.f_eq (a0 : Int) (a1 : Int) : conf_sign.f a0 a1 = codeK (C := ctx) (conf_sign.O) ⟨13, [], []⟩ (conf_sign.L) (Tryz.f134.body.getD .skip) conf_sign.a (endK ctx [(.int .i64)] [(.tmp 4)]) (slotsOf sg.U 0 [(.d (.int .i64)), (.d (.int .i64))] (a0, a1, ()) (empty sg.U)) := by
  unfold conf_sign.f
  kernel_rfl
def conf_sign.e : Entry sg := entryOf sg [(.d (.int .i64)), (.d (.int .i64))] [(.int .i64)] (fun h => conf_sign.f h.1 h.2.1)
def conf_sign.T : List (Lb sg (RT sg.U [(.int .i64)])) := []
theorem conf_sign.ok : (conf_sign.e).Sound Tryz.prog ctx 134 :=
  entry_ok base_ok mo (fn := Tryz.f134) (b := (Tryz.f134.body.getD .skip)) (pm := [(.d (.int .i64)), (.d (.int .i64))]) (rs := [(.int .i64)]) (an := conf_sign.a) (N := 13) (vars := [(.tmp 4)]) Tryz.func134 (by kernel_rfl) (by kernel_rfl) (by kernel_rfl) (by kernel_rfl) (by kernel_rfl) (by kernel_rfl) (O := fun _ => conf_sign.O)
    (fun _ => by unfold conf_sign.O; exact oracle_of (P := Tryz.prog) (C := ctx) trivial) conf_sign.T trivial 0 (fun h => conf_sign.f_eq h.1 h.2.1)
def conf_bit.f (a0 : Bool) : Option (Int) := (bif a0 then (some 1) else (some 0))
def conf_bit.O : Oracle sg := fun n => lkp n []
def conf_bit.a : Ann := .z
def conf_bit.L : Nat → St sg.U → Option (RT sg.U [(.int .i64)]) := labs []
theorem conf_bit.f_eq (a0 : Bool) : conf_bit.f a0 = codeK (C := ctx) (conf_bit.O) ⟨4, [], []⟩ (conf_bit.L) (Tryz.f135.body.getD .skip) conf_bit.a (endK ctx [(.int .i64)] [(.tmp 2)]) (slotsOf sg.U 0 [(.d .bool)] (a0, ()) (empty sg.U)) := by
  unfold conf_bit.f
  kernel_rfl
def conf_bit.e : Entry sg := entryOf sg [(.d .bool)] [(.int .i64)] (fun h => conf_bit.f h.1)
def conf_bit.T : List (Lb sg (RT sg.U [(.int .i64)])) := []
theorem conf_bit.ok : (conf_bit.e).Sound Tryz.prog ctx 135 :=
  entry_ok base_ok mo (fn := Tryz.f135) (b := (Tryz.f135.body.getD .skip)) (pm := [(.d .bool)]) (rs := [(.int .i64)]) (an := conf_bit.a) (N := 4) (vars := [(.tmp 2)]) Tryz.func135 (by kernel_rfl) (by kernel_rfl) (by kernel_rfl) (by kernel_rfl) (by kernel_rfl) (by kernel_rfl) (O := fun _ => conf_bit.O)
    (fun _ => by unfold conf_bit.O; exact oracle_of (P := Tryz.prog) (C := ctx) trivial) conf_bit.T trivial 0 (fun h => conf_bit.f_eq h.1)
def strings_Compare.f (a0 : ByteArray) (a1 : ByteArray) : Option (Int) := some (Lib.compareBytes a0.data.toList a1.data.toList)
def strings_Compare.e : Entry sg := entryOf sg [(.d .str), (.d .str)] [(.int .i64)] (fun h => strings_Compare.f h.1 h.2.1)
theorem strings_Compare.ok : (strings_Compare.e).Sound Tryz.prog ctx 49 :=
  entry_extern (C := ctx) sg_ok Tryz.func49 (by kernel_rfl) (by kernel_rfl) (by kernel_rfl) (by kernel_rfl) (fun hh x w hx hG => by
    obtain rfl := Option.some.inj hx
    refine (Tryz.strings_Compare hh.1 hh.2.1 w).mono ?_
    rintro e w' ⟨rfl, hb⟩
    exact ⟨rfl, by first | exact hb ▸ Grow.refl _ | exact Grow.of_below hb | (obtain ⟨k, os, rfl⟩ := hb; exact Grow.of_below (Lib.below_grow _ w (Nat.le_refl _) k os))⟩)
mutual
def conf_Compare.l0 : Nat → Int → Bool → Int → ByteArray → (List T_api_Value) → (List ByteArray) → Int → Bool → Int → ByteArray → (List T_api_Value) → (List ByteArray) → (List Int) → Int → Int → Option (Int)
  | 0, _, _, _, _, _, _, _, _, _, _, _, _, _, _, _ => none
  | k + 1, x2_0, x2_1, x2_2, x2_3, x2_4, x2_5, x3_0, x3_1, x3_2, x3_3, x3_4, x3_5, x34, x35, x36 => (bif (ilt x36 x35) then ((lat x34 x36).bind fun y7 => ((lat x34 x36).bind fun y8 => (bif (!ieq y8 0) then (some y8) else (conf_Compare.l0 k x2_0 x2_1 x2_2 x2_3 x2_4 x2_5 x3_0 x3_1 x3_2 x3_3 x3_4 x3_5 x34 x35 (wadd .i64 x36 1))))) else (conf_Compare.l1 k x2_0 x2_1 x2_2 x2_3 x2_4 x2_5 x3_0 x3_1 x3_2 x3_3 x3_4 x3_5 0))
def conf_Compare.l1 : Nat → Int → Bool → Int → ByteArray → (List T_api_Value) → (List ByteArray) → Int → Bool → Int → ByteArray → (List T_api_Value) → (List ByteArray) → Int → Option (Int)
  | 0, _, _, _, _, _, _, _, _, _, _, _, _, _ => none
  | k + 1, x2_0, x2_1, x2_2, x2_3, x2_4, x2_5, x3_0, x3_1, x3_2, x3_3, x3_4, x3_5, x7 => (bif (bif (ilt x7 (llen x2_5)) then (ilt x7 (llen x3_5)) else false) then ((lat x2_5 x7).bind fun y9 => ((lat x3_5 x7).bind fun y10 => ((strings_Compare.f y9 y10).bind fun y11 => (bif (!ieq y11 0) then (some y11) else (conf_Compare.l1 k x2_0 x2_1 x2_2 x2_3 x2_4 x2_5 x3_0 x3_1 x3_2 x3_3 x3_4 x3_5 (wadd .i64 x7 1)))))) else ((conf_sign.f (llen x2_5) (llen x3_5)).bind fun y12 => (bif (!ieq y12 0) then (some y12) else (conf_Compare.l2 k x2_0 x2_1 x2_2 x2_3 x2_4 x2_5 x3_0 x3_1 x3_2 x3_3 x3_4 x3_5 0))))
def conf_Compare.l2 : Nat → Int → Bool → Int → ByteArray → (List T_api_Value) → (List ByteArray) → Int → Bool → Int → ByteArray → (List T_api_Value) → (List ByteArray) → Int → Option (Int)
  | 0, _, _, _, _, _, _, _, _, _, _, _, _, _ => none
  | k + 1, x2_0, x2_1, x2_2, x2_3, x2_4, x2_5, x3_0, x3_1, x3_2, x3_3, x3_4, x3_5, x10 => (bif (bif (ilt x10 (llen x2_4)) then (ilt x10 (llen x3_4)) else false) then ((lat x2_4 x10).bind fun y13 => ((lat x3_4 x10).bind fun y14 => ((conf_Compare.f k y13 y14).bind fun y15 => (bif (!ieq y15 0) then (some y15) else (conf_Compare.l2 k x2_0 x2_1 x2_2 x2_3 x2_4 x2_5 x3_0 x3_1 x3_2 x3_3 x3_4 x3_5 (wadd .i64 x10 1)))))) else ((conf_sign.f (llen x2_4) (llen x3_4)).bind fun y16 => (some y16)))
def conf_Compare.f : Nat → T_api_Value → T_api_Value → Option (Int)
  | 0, _, _ => none
  | k + 1, a0, a1 => ((conf_sign.f a0.fKind a1.fKind).bind fun y1 => ((conf_bit.f a0.fBool).bind fun y2 => ((conf_bit.f a1.fBool).bind fun y3 => ((conf_sign.f y2 y3).bind fun y4 => ((conf_sign.f a0.fInt a1.fInt).bind fun y5 => ((strings_Compare.f a0.fText a1.fText).bind fun y6 => (conf_Compare.l0 k a0.fKind a0.fBool a0.fInt a0.fText a0.fItems a0.fKeys a1.fKind a1.fBool a1.fInt a1.fText a1.fItems a1.fKeys [y1, y4, y5, y6] (llen [y1, y4, y5, y6]) 0)))))))
end
def conf_Compare.e (k : Nat) : Entry sg := entryOf sg [(.d (.st 0)), (.d (.st 0))] [(.int .i64)] (fun h => conf_Compare.f k h.1 h.2.1)
def conf_Compare.O (k : Nat) : Oracle sg := fun n => lkp n [(44, conf_Compare.e k), (49, strings_Compare.e), (134, conf_sign.e), (135, conf_bit.e)]
def conf_Compare.a : Ann := (.n .z (.n (.n .z (.lp 0 .z)) (.n (.n .z (.lp 1 .z)) (.n .z (.n (.n .z (.lp 2 .z)) .z)))))
def conf_Compare.L (k : Nat) : Nat → St sg.U → Option (RT sg.U [(.int .i64)]) := labs [(0, labOf sg [(2, (.box [.d (.int .i64), .d .bool, .d (.int .i64), .d .str, .d (.sl (.st 0)), .d (.sl .str)])), (3, (.box [.d (.int .i64), .d .bool, .d (.int .i64), .d .str, .d (.sl (.st 0)), .d (.sl .str)])), (34, (.row 3 (.int .i64))), (35, (.d (.int .i64))), (36, (.d (.int .i64)))] (fun h => conf_Compare.l0 k h.1 h.2.1 h.2.2.1 h.2.2.2.1 h.2.2.2.2.1 h.2.2.2.2.2.1 h.2.2.2.2.2.2.1 h.2.2.2.2.2.2.2.1 h.2.2.2.2.2.2.2.2.1 h.2.2.2.2.2.2.2.2.2.1 h.2.2.2.2.2.2.2.2.2.2.1 h.2.2.2.2.2.2.2.2.2.2.2.1 h.2.2.2.2.2.2.2.2.2.2.2.2.1 h.2.2.2.2.2.2.2.2.2.2.2.2.2.1 h.2.2.2.2.2.2.2.2.2.2.2.2.2.2.1)), (1, labOf sg [(2, (.box [.d (.int .i64), .d .bool, .d (.int .i64), .d .str, .d (.sl (.st 0)), .d (.sl .str)])), (3, (.box [.d (.int .i64), .d .bool, .d (.int .i64), .d .str, .d (.sl (.st 0)), .d (.sl .str)])), (7, (.d (.int .i64)))] (fun h => conf_Compare.l1 k h.1 h.2.1 h.2.2.1 h.2.2.2.1 h.2.2.2.2.1 h.2.2.2.2.2.1 h.2.2.2.2.2.2.1 h.2.2.2.2.2.2.2.1 h.2.2.2.2.2.2.2.2.1 h.2.2.2.2.2.2.2.2.2.1 h.2.2.2.2.2.2.2.2.2.2.1 h.2.2.2.2.2.2.2.2.2.2.2.1 h.2.2.2.2.2.2.2.2.2.2.2.2.1)), (2, labOf sg [(2, (.box [.d (.int .i64), .d .bool, .d (.int .i64), .d .str, .d (.sl (.st 0)), .d (.sl .str)])), (3, (.box [.d (.int .i64), .d .bool, .d (.int .i64), .d .str, .d (.sl (.st 0)), .d (.sl .str)])), (10, (.d (.int .i64)))] (fun h => conf_Compare.l2 k h.1 h.2.1 h.2.2.1 h.2.2.2.1 h.2.2.2.2.1 h.2.2.2.2.2.1 h.2.2.2.2.2.2.1 h.2.2.2.2.2.2.2.1 h.2.2.2.2.2.2.2.2.1 h.2.2.2.2.2.2.2.2.2.1 h.2.2.2.2.2.2.2.2.2.2.1 h.2.2.2.2.2.2.2.2.2.2.2.1 h.2.2.2.2.2.2.2.2.2.2.2.2.1))]
theorem conf_Compare.l0_eq (k : Nat) (x2_0 : Int) (x2_1 : Bool) (x2_2 : Int) (x2_3 : ByteArray) (x2_4 : (List T_api_Value)) (x2_5 : (List ByteArray)) (x3_0 : Int) (x3_1 : Bool) (x3_2 : Int) (x3_3 : ByteArray) (x3_4 : (List T_api_Value)) (x3_5 : (List ByteArray)) (x34 : (List Int)) (x35 : Int) (x36 : Int) : conf_Compare.l0 (k + 1) x2_0 x2_1 x2_2 x2_3 x2_4 x2_5 x3_0 x3_1 x3_2 x3_3 x3_4 x3_5 x34 x35 x36 = runFrom (C := ctx) (conf_Compare.O k) ⟨117, [], []⟩ (conf_Compare.L k) (Tryz.f44.body.getD .skip) conf_Compare.a 0 (endK ctx [(.int .i64)] [(.tmp 4)]) (encD [(2, (.box [.d (.int .i64), .d .bool, .d (.int .i64), .d .str, .d (.sl (.st 0)), .d (.sl .str)])), (3, (.box [.d (.int .i64), .d .bool, .d (.int .i64), .d .str, .d (.sl (.st 0)), .d (.sl .str)])), (34, (.row 3 (.int .i64))), (35, (.d (.int .i64))), (36, (.d (.int .i64)))] (x2_0, x2_1, x2_2, x2_3, x2_4, x2_5, x3_0, x3_1, x3_2, x3_3, x3_4, x3_5, x34, x35, x36, ()) (startD sg.U ⟨117, [], []⟩ [(2, (.box [.d (.int .i64), .d .bool, .d (.int .i64), .d .str, .d (.sl (.st 0)), .d (.sl .str)])), (3, (.box [.d (.int .i64), .d .bool, .d (.int .i64), .d .str, .d (.sl (.st 0)), .d (.sl .str)])), (34, (.row 3 (.int .i64))), (35, (.d (.int .i64))), (36, (.d (.int .i64)))])) := by
  rw [conf_Compare.l0]
  kernel_rfl
theorem conf_Compare.l1_eq (k : Nat) (x2_0 : Int) (x2_1 : Bool) (x2_2 : Int) (x2_3 : ByteArray) (x2_4 : (List T_api_Value)) (x2_5 : (List ByteArray)) (x3_0 : Int) (x3_1 : Bool) (x3_2 : Int) (x3_3 : ByteArray) (x3_4 : (List T_api_Value)) (x3_5 : (List ByteArray)) (x7 : Int) : conf_Compare.l1 (k + 1) x2_0 x2_1 x2_2 x2_3 x2_4 x2_5 x3_0 x3_1 x3_2 x3_3 x3_4 x3_5 x7 = runFrom (C := ctx) (conf_Compare.O k) ⟨117, [], []⟩ (conf_Compare.L k) (Tryz.f44.body.getD .skip) conf_Compare.a 1 (endK ctx [(.int .i64)] [(.tmp 4)]) (encD [(2, (.box [.d (.int .i64), .d .bool, .d (.int .i64), .d .str, .d (.sl (.st 0)), .d (.sl .str)])), (3, (.box [.d (.int .i64), .d .bool, .d (.int .i64), .d .str, .d (.sl (.st 0)), .d (.sl .str)])), (7, (.d (.int .i64)))] (x2_0, x2_1, x2_2, x2_3, x2_4, x2_5, x3_0, x3_1, x3_2, x3_3, x3_4, x3_5, x7, ()) (startD sg.U ⟨117, [], []⟩ [(2, (.box [.d (.int .i64), .d .bool, .d (.int .i64), .d .str, .d (.sl (.st 0)), .d (.sl .str)])), (3, (.box [.d (.int .i64), .d .bool, .d (.int .i64), .d .str, .d (.sl (.st 0)), .d (.sl .str)])), (7, (.d (.int .i64)))])) := by
  rw [conf_Compare.l1]
  kernel_rfl
theorem conf_Compare.l2_eq (k : Nat) (x2_0 : Int) (x2_1 : Bool) (x2_2 : Int) (x2_3 : ByteArray) (x2_4 : (List T_api_Value)) (x2_5 : (List ByteArray)) (x3_0 : Int) (x3_1 : Bool) (x3_2 : Int) (x3_3 : ByteArray) (x3_4 : (List T_api_Value)) (x3_5 : (List ByteArray)) (x10 : Int) : conf_Compare.l2 (k + 1) x2_0 x2_1 x2_2 x2_3 x2_4 x2_5 x3_0 x3_1 x3_2 x3_3 x3_4 x3_5 x10 = runFrom (C := ctx) (conf_Compare.O k) ⟨117, [], []⟩ (conf_Compare.L k) (Tryz.f44.body.getD .skip) conf_Compare.a 2 (endK ctx [(.int .i64)] [(.tmp 4)]) (encD [(2, (.box [.d (.int .i64), .d .bool, .d (.int .i64), .d .str, .d (.sl (.st 0)), .d (.sl .str)])), (3, (.box [.d (.int .i64), .d .bool, .d (.int .i64), .d .str, .d (.sl (.st 0)), .d (.sl .str)])), (10, (.d (.int .i64)))] (x2_0, x2_1, x2_2, x2_3, x2_4, x2_5, x3_0, x3_1, x3_2, x3_3, x3_4, x3_5, x10, ()) (startD sg.U ⟨117, [], []⟩ [(2, (.box [.d (.int .i64), .d .bool, .d (.int .i64), .d .str, .d (.sl (.st 0)), .d (.sl .str)])), (3, (.box [.d (.int .i64), .d .bool, .d (.int .i64), .d .str, .d (.sl (.st 0)), .d (.sl .str)])), (10, (.d (.int .i64)))])) := by
  rw [conf_Compare.l2]
  kernel_rfl
theorem conf_Compare.f_eq (k : Nat) (a0 : T_api_Value) (a1 : T_api_Value) : conf_Compare.f (k + 1) a0 a1 = codeK (C := ctx) (conf_Compare.O k) ⟨117, [], []⟩ (conf_Compare.L k) (Tryz.f44.body.getD .skip) conf_Compare.a (endK ctx [(.int .i64)] [(.tmp 4)]) (slotsOf sg.U 0 [(.d (.st 0)), (.d (.st 0))] (a0, a1, ()) (empty sg.U)) := by
  rw [conf_Compare.f]
  kernel_rfl
def conf_Compare.T : List (Lb sg (RT sg.U [(.int .i64)])) := [⟨0, [(2, (.box [.d (.int .i64), .d .bool, .d (.int .i64), .d .str, .d (.sl (.st 0)), .d (.sl .str)])), (3, (.box [.d (.int .i64), .d .bool, .d (.int .i64), .d .str, .d (.sl (.st 0)), .d (.sl .str)])), (34, (.row 3 (.int .i64))), (35, (.d (.int .i64))), (36, (.d (.int .i64)))], fun k h => conf_Compare.l0 k h.1 h.2.1 h.2.2.1 h.2.2.2.1 h.2.2.2.2.1 h.2.2.2.2.2.1 h.2.2.2.2.2.2.1 h.2.2.2.2.2.2.2.1 h.2.2.2.2.2.2.2.2.1 h.2.2.2.2.2.2.2.2.2.1 h.2.2.2.2.2.2.2.2.2.2.1 h.2.2.2.2.2.2.2.2.2.2.2.1 h.2.2.2.2.2.2.2.2.2.2.2.2.1 h.2.2.2.2.2.2.2.2.2.2.2.2.2.1 h.2.2.2.2.2.2.2.2.2.2.2.2.2.2.1⟩, ⟨1, [(2, (.box [.d (.int .i64), .d .bool, .d (.int .i64), .d .str, .d (.sl (.st 0)), .d (.sl .str)])), (3, (.box [.d (.int .i64), .d .bool, .d (.int .i64), .d .str, .d (.sl (.st 0)), .d (.sl .str)])), (7, (.d (.int .i64)))], fun k h => conf_Compare.l1 k h.1 h.2.1 h.2.2.1 h.2.2.2.1 h.2.2.2.2.1 h.2.2.2.2.2.1 h.2.2.2.2.2.2.1 h.2.2.2.2.2.2.2.1 h.2.2.2.2.2.2.2.2.1 h.2.2.2.2.2.2.2.2.2.1 h.2.2.2.2.2.2.2.2.2.2.1 h.2.2.2.2.2.2.2.2.2.2.2.1 h.2.2.2.2.2.2.2.2.2.2.2.2.1⟩, ⟨2, [(2, (.box [.d (.int .i64), .d .bool, .d (.int .i64), .d .str, .d (.sl (.st 0)), .d (.sl .str)])), (3, (.box [.d (.int .i64), .d .bool, .d (.int .i64), .d .str, .d (.sl (.st 0)), .d (.sl .str)])), (10, (.d (.int .i64)))], fun k h => conf_Compare.l2 k h.1 h.2.1 h.2.2.1 h.2.2.2.1 h.2.2.2.2.1 h.2.2.2.2.2.1 h.2.2.2.2.2.2.1 h.2.2.2.2.2.2.2.1 h.2.2.2.2.2.2.2.2.1 h.2.2.2.2.2.2.2.2.2.1 h.2.2.2.2.2.2.2.2.2.2.1 h.2.2.2.2.2.2.2.2.2.2.2.1 h.2.2.2.2.2.2.2.2.2.2.2.2.1⟩]
theorem conf_Compare.ok : ∀ k : Nat, (conf_Compare.e k).Sound Tryz.prog ctx 44 :=
  entry_rec base_ok mo (fn := Tryz.f44) (b := (Tryz.f44.body.getD .skip)) (pm := [(.d (.st 0)), (.d (.st 0))]) (rs := [(.int .i64)]) (an := conf_Compare.a) (N := 117) (vars := [(.tmp 4)]) Tryz.func44 (by kernel_rfl) (by kernel_rfl) (by kernel_rfl) (by kernel_rfl) (by kernel_rfl) (by kernel_rfl) (O := conf_Compare.O) conf_Compare.T ⟨⟨by kernel_rfl, fun _ => by first | rfl | rw [conf_Compare.l0], fun k h => conf_Compare.l0_eq k h.1 h.2.1 h.2.2.1 h.2.2.2.1 h.2.2.2.2.1 h.2.2.2.2.2.1 h.2.2.2.2.2.2.1 h.2.2.2.2.2.2.2.1 h.2.2.2.2.2.2.2.2.1 h.2.2.2.2.2.2.2.2.2.1 h.2.2.2.2.2.2.2.2.2.2.1 h.2.2.2.2.2.2.2.2.2.2.2.1 h.2.2.2.2.2.2.2.2.2.2.2.2.1 h.2.2.2.2.2.2.2.2.2.2.2.2.2.1 h.2.2.2.2.2.2.2.2.2.2.2.2.2.2.1⟩, ⟨⟨by kernel_rfl, fun _ => by first | rfl | rw [conf_Compare.l1], fun k h => conf_Compare.l1_eq k h.1 h.2.1 h.2.2.1 h.2.2.2.1 h.2.2.2.2.1 h.2.2.2.2.2.1 h.2.2.2.2.2.2.1 h.2.2.2.2.2.2.2.1 h.2.2.2.2.2.2.2.2.1 h.2.2.2.2.2.2.2.2.2.1 h.2.2.2.2.2.2.2.2.2.2.1 h.2.2.2.2.2.2.2.2.2.2.2.1 h.2.2.2.2.2.2.2.2.2.2.2.2.1⟩, ⟨⟨by kernel_rfl, fun _ => by first | rfl | rw [conf_Compare.l2], fun k h => conf_Compare.l2_eq k h.1 h.2.1 h.2.2.1 h.2.2.2.1 h.2.2.2.2.1 h.2.2.2.2.2.1 h.2.2.2.2.2.2.1 h.2.2.2.2.2.2.2.1 h.2.2.2.2.2.2.2.2.1 h.2.2.2.2.2.2.2.2.2.1 h.2.2.2.2.2.2.2.2.2.2.1 h.2.2.2.2.2.2.2.2.2.2.2.1 h.2.2.2.2.2.2.2.2.2.2.2.2.1⟩, trivial⟩⟩⟩ (F := fun k h => conf_Compare.f k h.1 h.2.1) (fun _ => by first | rfl | rw [conf_Compare.f]) (fun k h => conf_Compare.f_eq k h.1 h.2.1)
    (fun k own => by unfold conf_Compare.O; exact oracle_of (P := Tryz.prog) (C := ctx) ⟨own, ⟨(strings_Compare.ok), ⟨(conf_sign.ok), ⟨(conf_bit.ok), trivial⟩⟩⟩⟩)
mutual
def list_Extremes.l0 : Nat → Int → Int → (List T_api_Value) → (List T_api_Value) → Int → Int → Option (Int × Int × Int)
  | 0, _, _, _, _, _, _ => none
  | k + 1, x4, x5, x8, x20, x21, x22 => (bif (ilt x22 x21) then ((lat x20 x22).bind fun y3 => (bif (ieq y3.fKind 0) then (list_Extremes.l0 k x4 x5 x8 x20 x21 (wadd .i64 x22 1)) else (bif (ilt x4 0) then (list_Extremes.l1 k x22 x5 x8 x22 y3.fKind y3.fBool y3.fInt y3.fText y3.fItems y3.fKeys x20 x21 x22) else ((lat x8 x4).bind fun y4 => ((conf_Compare.f k (T_api_Value.mk y3.fKind y3.fBool y3.fInt y3.fText y3.fItems y3.fKeys) y4).bind fun y5 => (bif (ilt y5 0) then (list_Extremes.l1 k x22 x5 x8 x22 y3.fKind y3.fBool y3.fInt y3.fText y3.fItems y3.fKeys x20 x21 x22) else (list_Extremes.l1 k x4 x5 x8 x22 y3.fKind y3.fBool y3.fInt y3.fText y3.fItems y3.fKeys x20 x21 x22))))))) else (bif (ilt x4 0) then (some (0, 0, 7)) else (some (x4, x5, 0))))
def list_Extremes.l1 : Nat → Int → Int → (List T_api_Value) → Int → Int → Bool → Int → ByteArray → (List T_api_Value) → (List ByteArray) → (List T_api_Value) → Int → Int → Option (Int × Int × Int)
  | 0, _, _, _, _, _, _, _, _, _, _, _, _, _ => none
  | k + 1, x4, x5, x8, x9, x10_0, x10_1, x10_2, x10_3, x10_4, x10_5, x20, x21, x22 => (bif (ilt x5 0) then (list_Extremes.l0 k x4 x9 x8 x20 x21 (wadd .i64 x22 1)) else ((lat x8 x5).bind fun y6 => ((conf_Compare.f k (T_api_Value.mk x10_0 x10_1 x10_2 x10_3 x10_4 x10_5) y6).bind fun y7 => (bif (ilt 0 y7) then (list_Extremes.l0 k x4 x9 x8 x20 x21 (wadd .i64 x22 1)) else (list_Extremes.l0 k x4 x5 x8 x20 x21 (wadd .i64 x22 1))))))
end
def list_Extremes.f (k : Nat) (a0 : (List T_api_Value)) (a1 : ByteArray) : Option (Int × Int × Int) := ((list_routed.f k a0 a1).bind fun y1 => (bif (!ieq y1 0) then (some (0, 0, y1)) else ((list_had.f k a0 a1).bind fun y2 => (list_Extremes.l0 k (-1) (-1) y2 y2 (llen y2) 0))))
def list_Extremes.O (k : Nat) : Oracle sg := fun n => lkp n [(41, list_routed.e k), (42, list_had.e k), (44, conf_Compare.e k)]
def list_Extremes.a : Ann := (.n .z (.n .z (.n .z (.n .z (.n (.n .z (.lp 0 (.n .z (.n .z (.n (.n .z (.n .z (.n .z (.lab 1 .z)))) .z))))) .z)))))
def list_Extremes.L (k : Nat) : Nat → St sg.U → Option (RT sg.U [(.int .i64), (.int .i64), (.int .i64)]) := labs [(0, labOf sg [(4, (.d (.int .i64))), (5, (.d (.int .i64))), (8, (.d (.sl (.st 0)))), (20, (.d (.sl (.st 0)))), (21, (.d (.int .i64))), (22, (.d (.int .i64)))] (fun h => list_Extremes.l0 k h.1 h.2.1 h.2.2.1 h.2.2.2.1 h.2.2.2.2.1 h.2.2.2.2.2.1)), (1, labOf sg [(4, (.d (.int .i64))), (5, (.d (.int .i64))), (8, (.d (.sl (.st 0)))), (9, (.d (.int .i64))), (10, (.box [.d (.int .i64), .d .bool, .d (.int .i64), .d .str, .d (.sl (.st 0)), .d (.sl .str)])), (20, (.d (.sl (.st 0)))), (21, (.d (.int .i64))), (22, (.d (.int .i64)))] (fun h => list_Extremes.l1 k h.1 h.2.1 h.2.2.1 h.2.2.2.1 h.2.2.2.2.1 h.2.2.2.2.2.1 h.2.2.2.2.2.2.1 h.2.2.2.2.2.2.2.1 h.2.2.2.2.2.2.2.2.1 h.2.2.2.2.2.2.2.2.2.1 h.2.2.2.2.2.2.2.2.2.2.1 h.2.2.2.2.2.2.2.2.2.2.2.1 h.2.2.2.2.2.2.2.2.2.2.2.2.1))]
theorem list_Extremes.l0_eq (k : Nat) (x4 : Int) (x5 : Int) (x8 : (List T_api_Value)) (x20 : (List T_api_Value)) (x21 : Int) (x22 : Int) : list_Extremes.l0 (k + 1) x4 x5 x8 x20 x21 x22 = runFrom (C := ctx) (list_Extremes.O k) ⟨59, [], []⟩ (list_Extremes.L k) (Tryz.f18.body.getD .skip) list_Extremes.a 0 (endK ctx [(.int .i64), (.int .i64), (.int .i64)] [(.tmp 4), (.tmp 5), (.tmp 6)]) (encD [(4, (.d (.int .i64))), (5, (.d (.int .i64))), (8, (.d (.sl (.st 0)))), (20, (.d (.sl (.st 0)))), (21, (.d (.int .i64))), (22, (.d (.int .i64)))] (x4, x5, x8, x20, x21, x22, ()) (startD sg.U ⟨59, [], []⟩ [(4, (.d (.int .i64))), (5, (.d (.int .i64))), (8, (.d (.sl (.st 0)))), (20, (.d (.sl (.st 0)))), (21, (.d (.int .i64))), (22, (.d (.int .i64)))])) := by
  rw [list_Extremes.l0]
  kernel_rfl
theorem list_Extremes.l1_eq (k : Nat) (x4 : Int) (x5 : Int) (x8 : (List T_api_Value)) (x9 : Int) (x10_0 : Int) (x10_1 : Bool) (x10_2 : Int) (x10_3 : ByteArray) (x10_4 : (List T_api_Value)) (x10_5 : (List ByteArray)) (x20 : (List T_api_Value)) (x21 : Int) (x22 : Int) : list_Extremes.l1 (k + 1) x4 x5 x8 x9 x10_0 x10_1 x10_2 x10_3 x10_4 x10_5 x20 x21 x22 = runFrom (C := ctx) (list_Extremes.O k) ⟨59, [], []⟩ (list_Extremes.L k) (Tryz.f18.body.getD .skip) list_Extremes.a 1 (endK ctx [(.int .i64), (.int .i64), (.int .i64)] [(.tmp 4), (.tmp 5), (.tmp 6)]) (encD [(4, (.d (.int .i64))), (5, (.d (.int .i64))), (8, (.d (.sl (.st 0)))), (9, (.d (.int .i64))), (10, (.box [.d (.int .i64), .d .bool, .d (.int .i64), .d .str, .d (.sl (.st 0)), .d (.sl .str)])), (20, (.d (.sl (.st 0)))), (21, (.d (.int .i64))), (22, (.d (.int .i64)))] (x4, x5, x8, x9, x10_0, x10_1, x10_2, x10_3, x10_4, x10_5, x20, x21, x22, ()) (startD sg.U ⟨59, [], []⟩ [(4, (.d (.int .i64))), (5, (.d (.int .i64))), (8, (.d (.sl (.st 0)))), (9, (.d (.int .i64))), (10, (.box [.d (.int .i64), .d .bool, .d (.int .i64), .d .str, .d (.sl (.st 0)), .d (.sl .str)])), (20, (.d (.sl (.st 0)))), (21, (.d (.int .i64))), (22, (.d (.int .i64)))])) := by
  rw [list_Extremes.l1]
  kernel_rfl
theorem list_Extremes.f_eq (k : Nat) (a0 : (List T_api_Value)) (a1 : ByteArray) : list_Extremes.f k a0 a1 = codeK (C := ctx) (list_Extremes.O k) ⟨59, [], []⟩ (list_Extremes.L k) (Tryz.f18.body.getD .skip) list_Extremes.a (endK ctx [(.int .i64), (.int .i64), (.int .i64)] [(.tmp 4), (.tmp 5), (.tmp 6)]) (slotsOf sg.U 0 [(.d (.sl (.st 0))), (.d .str)] (a0, a1, ()) (empty sg.U)) := by
  unfold list_Extremes.f
  kernel_rfl
def list_Extremes.e (k : Nat) : Entry sg := entryOf sg [(.d (.sl (.st 0))), (.d .str)] [(.int .i64), (.int .i64), (.int .i64)] (fun h => list_Extremes.f k h.1 h.2.1)
def list_Extremes.T : List (Lb sg (RT sg.U [(.int .i64), (.int .i64), (.int .i64)])) := [⟨0, [(4, (.d (.int .i64))), (5, (.d (.int .i64))), (8, (.d (.sl (.st 0)))), (20, (.d (.sl (.st 0)))), (21, (.d (.int .i64))), (22, (.d (.int .i64)))], fun k h => list_Extremes.l0 k h.1 h.2.1 h.2.2.1 h.2.2.2.1 h.2.2.2.2.1 h.2.2.2.2.2.1⟩, ⟨1, [(4, (.d (.int .i64))), (5, (.d (.int .i64))), (8, (.d (.sl (.st 0)))), (9, (.d (.int .i64))), (10, (.box [.d (.int .i64), .d .bool, .d (.int .i64), .d .str, .d (.sl (.st 0)), .d (.sl .str)])), (20, (.d (.sl (.st 0)))), (21, (.d (.int .i64))), (22, (.d (.int .i64)))], fun k h => list_Extremes.l1 k h.1 h.2.1 h.2.2.1 h.2.2.2.1 h.2.2.2.2.1 h.2.2.2.2.2.1 h.2.2.2.2.2.2.1 h.2.2.2.2.2.2.2.1 h.2.2.2.2.2.2.2.2.1 h.2.2.2.2.2.2.2.2.2.1 h.2.2.2.2.2.2.2.2.2.2.1 h.2.2.2.2.2.2.2.2.2.2.2.1 h.2.2.2.2.2.2.2.2.2.2.2.2.1⟩]
theorem list_Extremes.ok (k : Nat) : (list_Extremes.e k).Sound Tryz.prog ctx 18 :=
  entry_ok base_ok mo (fn := Tryz.f18) (b := (Tryz.f18.body.getD .skip)) (pm := [(.d (.sl (.st 0))), (.d .str)]) (rs := [(.int .i64), (.int .i64), (.int .i64)]) (an := list_Extremes.a) (N := 59) (vars := [(.tmp 4), (.tmp 5), (.tmp 6)]) Tryz.func18 (by kernel_rfl) (by kernel_rfl) (by kernel_rfl) (by kernel_rfl) (by kernel_rfl) (by kernel_rfl) (O := list_Extremes.O)
    (fun k => by unfold list_Extremes.O; exact oracle_of (P := Tryz.prog) (C := ctx) ⟨(list_routed.ok k), ⟨(list_had.ok k), ⟨(conf_Compare.ok k), trivial⟩⟩⟩) list_Extremes.T ⟨⟨by kernel_rfl, fun _ => by first | rfl | rw [list_Extremes.l0], fun k h => list_Extremes.l0_eq k h.1 h.2.1 h.2.2.1 h.2.2.2.1 h.2.2.2.2.1 h.2.2.2.2.2.1⟩, ⟨⟨by kernel_rfl, fun _ => by first | rfl | rw [list_Extremes.l1], fun k h => list_Extremes.l1_eq k h.1 h.2.1 h.2.2.1 h.2.2.2.1 h.2.2.2.2.1 h.2.2.2.2.2.1 h.2.2.2.2.2.2.1 h.2.2.2.2.2.2.2.1 h.2.2.2.2.2.2.2.2.1 h.2.2.2.2.2.2.2.2.2.1 h.2.2.2.2.2.2.2.2.2.2.1 h.2.2.2.2.2.2.2.2.2.2.2.1 h.2.2.2.2.2.2.2.2.2.2.2.2.1⟩, trivial⟩⟩ k (fun h => list_Extremes.f_eq k h.1 h.2.1)
def cmp_isNaN_int.f (a0 : Int) : Option (Bool) := (some (!ieq a0 a0))
def cmp_isNaN_int.O : Oracle sg := fun n => lkp n []
def cmp_isNaN_int.a : Ann := .z
def cmp_isNaN_int.L : Nat → St sg.U → Option (RT sg.U [.bool]) := labs []
theorem cmp_isNaN_int.f_eq (a0 : Int) : cmp_isNaN_int.f a0 = codeK (C := ctx) (cmp_isNaN_int.O) ⟨6, [], []⟩ (cmp_isNaN_int.L) (Tryz.f138.body.getD .skip) cmp_isNaN_int.a (endK ctx [.bool] [(.tmp 2)]) (slotsOf sg.U 0 [(.d (.int .i64))] (a0, ()) (empty sg.U)) := by
  unfold cmp_isNaN_int.f
  kernel_rfl
def cmp_isNaN_int.e : Entry sg := entryOf sg [(.d (.int .i64))] [.bool] (fun h => cmp_isNaN_int.f h.1)
def cmp_isNaN_int.T : List (Lb sg (RT sg.U [.bool])) := []
theorem cmp_isNaN_int.ok : (cmp_isNaN_int.e).Sound Tryz.prog ctx 138 :=
  entry_ok base_ok mo (fn := Tryz.f138) (b := (Tryz.f138.body.getD .skip)) (pm := [(.d (.int .i64))]) (rs := [.bool]) (an := cmp_isNaN_int.a) (N := 6) (vars := [(.tmp 2)]) Tryz.func138 (by kernel_rfl) (by kernel_rfl) (by kernel_rfl) (by kernel_rfl) (by kernel_rfl) (by kernel_rfl) (O := fun _ => cmp_isNaN_int.O)
    (fun _ => by unfold cmp_isNaN_int.O; exact oracle_of (P := Tryz.prog) (C := ctx) trivial) cmp_isNaN_int.T trivial 0 (fun h => cmp_isNaN_int.f_eq h.1)
def cmp_Compare_int.f (a0 : Int) (a1 : Int) : Option (Int) := ((cmp_isNaN_int.f a0).bind fun y1 => ((cmp_isNaN_int.f a1).bind fun y2 => (bif y1 then (bif y2 then (some 0) else (some (-1))) else (bif y2 then (some 1) else (bif (ilt a0 a1) then (some (-1)) else (bif (ilt a1 a0) then (some 1) else (some 0)))))))
def cmp_Compare_int.O : Oracle sg := fun n => lkp n [(138, cmp_isNaN_int.e)]
def cmp_Compare_int.a : Ann := .z
def cmp_Compare_int.L : Nat → St sg.U → Option (RT sg.U [(.int .i64)]) := labs []
theorem cmp_Compare_int.f_eq (a0 : Int) (a1 : Int) : cmp_Compare_int.f a0 a1 = codeK (C := ctx) (cmp_Compare_int.O) ⟨20, [], []⟩ (cmp_Compare_int.L) (Tryz.f47.body.getD .skip) cmp_Compare_int.a (endK ctx [(.int .i64)] [(.tmp 4)]) (slotsOf sg.U 0 [(.d (.int .i64)), (.d (.int .i64))] (a0, a1, ()) (empty sg.U)) := by
  unfold cmp_Compare_int.f
  kernel_rfl
def cmp_Compare_int.e : Entry sg := entryOf sg [(.d (.int .i64)), (.d (.int .i64))] [(.int .i64)] (fun h => cmp_Compare_int.f h.1 h.2.1)
def cmp_Compare_int.T : List (Lb sg (RT sg.U [(.int .i64)])) := []
theorem cmp_Compare_int.ok : (cmp_Compare_int.e).Sound Tryz.prog ctx 47 :=
  entry_ok base_ok mo (fn := Tryz.f47) (b := (Tryz.f47.body.getD .skip)) (pm := [(.d (.int .i64)), (.d (.int .i64))]) (rs := [(.int .i64)]) (an := cmp_Compare_int.a) (N := 20) (vars := [(.tmp 4)]) Tryz.func47 (by kernel_rfl) (by kernel_rfl) (by kernel_rfl) (by kernel_rfl) (by kernel_rfl) (by kernel_rfl) (O := fun _ => cmp_Compare_int.O)
    (fun _ => by unfold cmp_Compare_int.O; exact oracle_of (P := Tryz.prog) (C := ctx) ⟨(cmp_isNaN_int.ok), trivial⟩) cmp_Compare_int.T trivial 0 (fun h => cmp_Compare_int.f_eq h.1 h.2.1)
def cmp_isNaN_string.f (a0 : ByteArray) : Option (Bool) := (some (!seq a0 a0))
def cmp_isNaN_string.O : Oracle sg := fun n => lkp n []
def cmp_isNaN_string.a : Ann := .z
def cmp_isNaN_string.L : Nat → St sg.U → Option (RT sg.U [.bool]) := labs []
theorem cmp_isNaN_string.f_eq (a0 : ByteArray) : cmp_isNaN_string.f a0 = codeK (C := ctx) (cmp_isNaN_string.O) ⟨6, [], []⟩ (cmp_isNaN_string.L) (Tryz.f221.body.getD .skip) cmp_isNaN_string.a (endK ctx [.bool] [(.tmp 2)]) (slotsOf sg.U 0 [(.d .str)] (a0, ()) (empty sg.U)) := by
  unfold cmp_isNaN_string.f
  kernel_rfl
def cmp_isNaN_string.e : Entry sg := entryOf sg [(.d .str)] [.bool] (fun h => cmp_isNaN_string.f h.1)
def cmp_isNaN_string.T : List (Lb sg (RT sg.U [.bool])) := []
theorem cmp_isNaN_string.ok : (cmp_isNaN_string.e).Sound Tryz.prog ctx 221 :=
  entry_ok base_ok mo (fn := Tryz.f221) (b := (Tryz.f221.body.getD .skip)) (pm := [(.d .str)]) (rs := [.bool]) (an := cmp_isNaN_string.a) (N := 6) (vars := [(.tmp 2)]) Tryz.func221 (by kernel_rfl) (by kernel_rfl) (by kernel_rfl) (by kernel_rfl) (by kernel_rfl) (by kernel_rfl) (O := fun _ => cmp_isNaN_string.O)
    (fun _ => by unfold cmp_isNaN_string.O; exact oracle_of (P := Tryz.prog) (C := ctx) trivial) cmp_isNaN_string.T trivial 0 (fun h => cmp_isNaN_string.f_eq h.1)
def cmp_Compare_string.f (a0 : ByteArray) (a1 : ByteArray) : Option (Int) := ((cmp_isNaN_string.f a0).bind fun y1 => ((cmp_isNaN_string.f a1).bind fun y2 => (bif y1 then (bif y2 then (some 0) else (some (-1))) else (bif y2 then (some 1) else (bif (slt a0 a1) then (some (-1)) else (bif (!sle a0 a1) then (some 1) else (some 0)))))))
def cmp_Compare_string.O : Oracle sg := fun n => lkp n [(221, cmp_isNaN_string.e)]
def cmp_Compare_string.a : Ann := .z
def cmp_Compare_string.L : Nat → St sg.U → Option (RT sg.U [(.int .i64)]) := labs []
theorem cmp_Compare_string.f_eq (a0 : ByteArray) (a1 : ByteArray) : cmp_Compare_string.f a0 a1 = codeK (C := ctx) (cmp_Compare_string.O) ⟨20, [], []⟩ (cmp_Compare_string.L) (Tryz.f140.body.getD .skip) cmp_Compare_string.a (endK ctx [(.int .i64)] [(.tmp 4)]) (slotsOf sg.U 0 [(.d .str), (.d .str)] (a0, a1, ()) (empty sg.U)) := by
  unfold cmp_Compare_string.f
  kernel_rfl
def cmp_Compare_string.e : Entry sg := entryOf sg [(.d .str), (.d .str)] [(.int .i64)] (fun h => cmp_Compare_string.f h.1 h.2.1)
def cmp_Compare_string.T : List (Lb sg (RT sg.U [(.int .i64)])) := []
theorem cmp_Compare_string.ok : (cmp_Compare_string.e).Sound Tryz.prog ctx 140 :=
  entry_ok base_ok mo (fn := Tryz.f140) (b := (Tryz.f140.body.getD .skip)) (pm := [(.d .str), (.d .str)]) (rs := [(.int .i64)]) (an := cmp_Compare_string.a) (N := 20) (vars := [(.tmp 4)]) Tryz.func140 (by kernel_rfl) (by kernel_rfl) (by kernel_rfl) (by kernel_rfl) (by kernel_rfl) (by kernel_rfl) (O := fun _ => cmp_Compare_string.O)
    (fun _ => by unfold cmp_Compare_string.O; exact oracle_of (P := Tryz.prog) (C := ctx) ⟨(cmp_isNaN_string.ok), trivial⟩) cmp_Compare_string.T trivial 0 (fun h => cmp_Compare_string.f_eq h.1 h.2.1)
def slices_Compare_string_string.l0 : Nat → (List ByteArray) → (List ByteArray) → (List ByteArray) → Int → Int → Option (Int)
  | 0, _, _, _, _, _ => none
  | k + 1, x0, x1, x9, x10, x11 => (bif (ilt x11 x10) then ((lat x9 x11).bind fun y1 => (bif (ile (llen x1) x11) then (some 1) else ((lat x1 x11).bind fun y2 => ((cmp_Compare_string.f y1 y2).bind fun y3 => (bif (!ieq y3 0) then (some y3) else (slices_Compare_string_string.l0 k x0 x1 x9 x10 (wadd .i64 x11 1))))))) else (bif (ilt (llen x0) (llen x1)) then (some (-1)) else (some 0)))
def slices_Compare_string_string.f (k : Nat) (a0 : (List ByteArray)) (a1 : (List ByteArray)) : Option (Int) := (slices_Compare_string_string.l0 k a0 a1 a0 (llen a0) 0)
def slices_Compare_string_string.O (k : Nat) : Oracle sg := fun n => lkp n [(140, cmp_Compare_string.e)]
def slices_Compare_string_string.a : Ann := (.n .z (.n (.n .z (.lp 0 .z)) .z))
def slices_Compare_string_string.L (k : Nat) : Nat → St sg.U → Option (RT sg.U [(.int .i64)]) := labs [(0, labOf sg [(0, (.d (.sl .str))), (1, (.d (.sl .str))), (9, (.d (.sl .str))), (10, (.d (.int .i64))), (11, (.d (.int .i64)))] (fun h => slices_Compare_string_string.l0 k h.1 h.2.1 h.2.2.1 h.2.2.2.1 h.2.2.2.2.1))]
theorem slices_Compare_string_string.l0_eq (k : Nat) (x0 : (List ByteArray)) (x1 : (List ByteArray)) (x9 : (List ByteArray)) (x10 : Int) (x11 : Int) : slices_Compare_string_string.l0 (k + 1) x0 x1 x9 x10 x11 = runFrom (C := ctx) (slices_Compare_string_string.O k) ⟨36, [], []⟩ (slices_Compare_string_string.L k) (Tryz.f50.body.getD .skip) slices_Compare_string_string.a 0 (endK ctx [(.int .i64)] [(.tmp 4)]) (encD [(0, (.d (.sl .str))), (1, (.d (.sl .str))), (9, (.d (.sl .str))), (10, (.d (.int .i64))), (11, (.d (.int .i64)))] (x0, x1, x9, x10, x11, ()) (startD sg.U ⟨36, [], []⟩ [(0, (.d (.sl .str))), (1, (.d (.sl .str))), (9, (.d (.sl .str))), (10, (.d (.int .i64))), (11, (.d (.int .i64)))])) := by
  rw [slices_Compare_string_string.l0]
  kernel_rfl
theorem slices_Compare_string_string.f_eq (k : Nat) (a0 : (List ByteArray)) (a1 : (List ByteArray)) : slices_Compare_string_string.f k a0 a1 = codeK (C := ctx) (slices_Compare_string_string.O k) ⟨36, [], []⟩ (slices_Compare_string_string.L k) (Tryz.f50.body.getD .skip) slices_Compare_string_string.a (endK ctx [(.int .i64)] [(.tmp 4)]) (slotsOf sg.U 0 [(.d (.sl .str)), (.d (.sl .str))] (a0, a1, ()) (empty sg.U)) := by
  unfold slices_Compare_string_string.f
  kernel_rfl
def slices_Compare_string_string.e (k : Nat) : Entry sg := entryOf sg [(.d (.sl .str)), (.d (.sl .str))] [(.int .i64)] (fun h => slices_Compare_string_string.f k h.1 h.2.1)
def slices_Compare_string_string.T : List (Lb sg (RT sg.U [(.int .i64)])) := [⟨0, [(0, (.d (.sl .str))), (1, (.d (.sl .str))), (9, (.d (.sl .str))), (10, (.d (.int .i64))), (11, (.d (.int .i64)))], fun k h => slices_Compare_string_string.l0 k h.1 h.2.1 h.2.2.1 h.2.2.2.1 h.2.2.2.2.1⟩]
theorem slices_Compare_string_string.ok (k : Nat) : (slices_Compare_string_string.e k).Sound Tryz.prog ctx 50 :=
  entry_ok base_ok mo (fn := Tryz.f50) (b := (Tryz.f50.body.getD .skip)) (pm := [(.d (.sl .str)), (.d (.sl .str))]) (rs := [(.int .i64)]) (an := slices_Compare_string_string.a) (N := 36) (vars := [(.tmp 4)]) Tryz.func50 (by kernel_rfl) (by kernel_rfl) (by kernel_rfl) (by kernel_rfl) (by kernel_rfl) (by kernel_rfl) (O := slices_Compare_string_string.O)
    (fun k => by unfold slices_Compare_string_string.O; exact oracle_of (P := Tryz.prog) (C := ctx) ⟨(cmp_Compare_string.ok), trivial⟩) slices_Compare_string_string.T ⟨⟨by kernel_rfl, fun _ => by first | rfl | rw [slices_Compare_string_string.l0], fun k h => slices_Compare_string_string.l0_eq k h.1 h.2.1 h.2.2.1 h.2.2.2.1 h.2.2.2.2.1⟩, trivial⟩ k (fun h => slices_Compare_string_string.f_eq k h.1 h.2.1)
def cmp_Or_int.l0 : Nat → Int → (List Int) → Int → Int → Option (Int)
  | 0, _, _, _, _ => none
  | k + 1, x3, x6, x7, x8 => (bif (ilt x8 x7) then ((lat x6 x8).bind fun y1 => (bif (!ieq y1 x3) then (some y1) else (cmp_Or_int.l0 k x3 x6 x7 (wadd .i64 x8 1)))) else (some x3))
def cmp_Or_int.f (k : Nat) (a0 : (List Int)) : Option (Int) := (cmp_Or_int.l0 k 0 a0 (llen a0) 0)
def cmp_Or_int.O (k : Nat) : Oracle sg := fun n => lkp n []
def cmp_Or_int.a : Ann := (.n .z (.n .z (.n (.n .z (.lp 0 .z)) .z)))
def cmp_Or_int.L (k : Nat) : Nat → St sg.U → Option (RT sg.U [(.int .i64)]) := labs [(0, labOf sg [(3, (.d (.int .i64))), (6, (.d (.sl (.int .i64)))), (7, (.d (.int .i64))), (8, (.d (.int .i64)))] (fun h => cmp_Or_int.l0 k h.1 h.2.1 h.2.2.1 h.2.2.2.1))]
theorem cmp_Or_int.l0_eq (k : Nat) (x3 : Int) (x6 : (List Int)) (x7 : Int) (x8 : Int) : cmp_Or_int.l0 (k + 1) x3 x6 x7 x8 = runFrom (C := ctx) (cmp_Or_int.O k) ⟨18, [], []⟩ (cmp_Or_int.L k) (Tryz.f48.body.getD .skip) cmp_Or_int.a 0 (endK ctx [(.int .i64)] [(.tmp 2)]) (encD [(3, (.d (.int .i64))), (6, (.d (.sl (.int .i64)))), (7, (.d (.int .i64))), (8, (.d (.int .i64)))] (x3, x6, x7, x8, ()) (startD sg.U ⟨18, [], []⟩ [(3, (.d (.int .i64))), (6, (.d (.sl (.int .i64)))), (7, (.d (.int .i64))), (8, (.d (.int .i64)))])) := by
  rw [cmp_Or_int.l0]
  kernel_rfl
theorem cmp_Or_int.f_eq (k : Nat) (a0 : (List Int)) : cmp_Or_int.f k a0 = codeK (C := ctx) (cmp_Or_int.O k) ⟨18, [], []⟩ (cmp_Or_int.L k) (Tryz.f48.body.getD .skip) cmp_Or_int.a (endK ctx [(.int .i64)] [(.tmp 2)]) (slotsOf sg.U 0 [(.d (.sl (.int .i64)))] (a0, ()) (empty sg.U)) := by
  unfold cmp_Or_int.f
  kernel_rfl
def cmp_Or_int.e (k : Nat) : Entry sg := entryOf sg [(.d (.sl (.int .i64)))] [(.int .i64)] (fun h => cmp_Or_int.f k h.1)
def cmp_Or_int.T : List (Lb sg (RT sg.U [(.int .i64)])) := [⟨0, [(3, (.d (.int .i64))), (6, (.d (.sl (.int .i64)))), (7, (.d (.int .i64))), (8, (.d (.int .i64)))], fun k h => cmp_Or_int.l0 k h.1 h.2.1 h.2.2.1 h.2.2.2.1⟩]
theorem cmp_Or_int.ok (k : Nat) : (cmp_Or_int.e k).Sound Tryz.prog ctx 48 :=
  entry_ok base_ok mo (fn := Tryz.f48) (b := (Tryz.f48.body.getD .skip)) (pm := [(.d (.sl (.int .i64)))]) (rs := [(.int .i64)]) (an := cmp_Or_int.a) (N := 18) (vars := [(.tmp 2)]) Tryz.func48 (by kernel_rfl) (by kernel_rfl) (by kernel_rfl) (by kernel_rfl) (by kernel_rfl) (by kernel_rfl) (O := cmp_Or_int.O)
    (fun k => by unfold cmp_Or_int.O; exact oracle_of (P := Tryz.prog) (C := ctx) trivial) cmp_Or_int.T ⟨⟨by kernel_rfl, fun _ => by first | rfl | rw [cmp_Or_int.l0], fun k h => cmp_Or_int.l0_eq k h.1 h.2.1 h.2.2.1 h.2.2.2.1⟩, trivial⟩ k (fun h => cmp_Or_int.f_eq k h.1)
mutual
def mastref2_CompareOf.l0 : Nat → Int → Bool → Int → ByteArray → (List T_api_Value) → (List ByteArray) → Int → Bool → Int → ByteArray → (List T_api_Value) → (List ByteArray) → Int → Option (Int)
  | 0, _, _, _, _, _, _, _, _, _, _, _, _, _ => none
  | k + 1, x2_0, x2_1, x2_2, x2_3, x2_4, x2_5, x3_0, x3_1, x3_2, x3_3, x3_4, x3_5, x7 => (bif (bif (ilt x7 (llen x2_4)) then (ilt x7 (llen x3_4)) else false) then ((lat x2_4 x7).bind fun y6 => ((lat x3_4 x7).bind fun y7 => ((mastref2_CompareOf.f k y6 y7).bind fun y8 => (bif (!ieq y8 0) then (some y8) else (mastref2_CompareOf.l0 k x2_0 x2_1 x2_2 x2_3 x2_4 x2_5 x3_0 x3_1 x3_2 x3_3 x3_4 x3_5 (wadd .i64 x7 1)))))) else ((cmp_Compare_int.f (llen x2_4) (llen x3_4)).bind fun y9 => (some y9)))
def mastref2_CompareOf.f : Nat → T_api_Value → T_api_Value → Option (Int)
  | 0, _, _ => none
  | k + 1, a0, a1 => ((cmp_Compare_int.f a0.fKind a1.fKind).bind fun y1 => (bif (!ieq y1 0) then (some y1) else (bif (!(a0.fBool == a1.fBool)) then (bif a1.fBool then (some (-1)) else (some 1)) else ((cmp_Compare_int.f a0.fInt a1.fInt).bind fun y2 => ((strings_Compare.f a0.fText a1.fText).bind fun y3 => ((slices_Compare_string_string.f k a0.fKeys a1.fKeys).bind fun y4 => ((cmp_Or_int.f k [y2, y3, y4]).bind fun y5 => (bif (!ieq y5 0) then (some y5) else (mastref2_CompareOf.l0 k a0.fKind a0.fBool a0.fInt a0.fText a0.fItems a0.fKeys a1.fKind a1.fBool a1.fInt a1.fText a1.fItems a1.fKeys 0)))))))))
end
def mastref2_CompareOf.e (k : Nat) : Entry sg := entryOf sg [(.d (.st 0)), (.d (.st 0))] [(.int .i64)] (fun h => mastref2_CompareOf.f k h.1 h.2.1)
def mastref2_CompareOf.O (k : Nat) : Oracle sg := fun n => lkp n [(21, mastref2_CompareOf.e k), (47, cmp_Compare_int.e), (48, cmp_Or_int.e k), (49, strings_Compare.e), (50, slices_Compare_string_string.e k)]
def mastref2_CompareOf.a : Ann := (.n .z (.n .z (.n .z (.n .z (.n (.n .z (.lp 0 .z)) .z)))))
def mastref2_CompareOf.L (k : Nat) : Nat → St sg.U → Option (RT sg.U [(.int .i64)]) := labs [(0, labOf sg [(2, (.box [.d (.int .i64), .d .bool, .d (.int .i64), .d .str, .d (.sl (.st 0)), .d (.sl .str)])), (3, (.box [.d (.int .i64), .d .bool, .d (.int .i64), .d .str, .d (.sl (.st 0)), .d (.sl .str)])), (7, (.d (.int .i64)))] (fun h => mastref2_CompareOf.l0 k h.1 h.2.1 h.2.2.1 h.2.2.2.1 h.2.2.2.2.1 h.2.2.2.2.2.1 h.2.2.2.2.2.2.1 h.2.2.2.2.2.2.2.1 h.2.2.2.2.2.2.2.2.1 h.2.2.2.2.2.2.2.2.2.1 h.2.2.2.2.2.2.2.2.2.2.1 h.2.2.2.2.2.2.2.2.2.2.2.1 h.2.2.2.2.2.2.2.2.2.2.2.2.1))]
theorem mastref2_CompareOf.l0_eq (k : Nat) (x2_0 : Int) (x2_1 : Bool) (x2_2 : Int) (x2_3 : ByteArray) (x2_4 : (List T_api_Value)) (x2_5 : (List ByteArray)) (x3_0 : Int) (x3_1 : Bool) (x3_2 : Int) (x3_3 : ByteArray) (x3_4 : (List T_api_Value)) (x3_5 : (List ByteArray)) (x7 : Int) : mastref2_CompareOf.l0 (k + 1) x2_0 x2_1 x2_2 x2_3 x2_4 x2_5 x3_0 x3_1 x3_2 x3_3 x3_4 x3_5 x7 = runFrom (C := ctx) (mastref2_CompareOf.O k) ⟨79, [], []⟩ (mastref2_CompareOf.L k) (Tryz.f21.body.getD .skip) mastref2_CompareOf.a 0 (endK ctx [(.int .i64)] [(.tmp 4)]) (encD [(2, (.box [.d (.int .i64), .d .bool, .d (.int .i64), .d .str, .d (.sl (.st 0)), .d (.sl .str)])), (3, (.box [.d (.int .i64), .d .bool, .d (.int .i64), .d .str, .d (.sl (.st 0)), .d (.sl .str)])), (7, (.d (.int .i64)))] (x2_0, x2_1, x2_2, x2_3, x2_4, x2_5, x3_0, x3_1, x3_2, x3_3, x3_4, x3_5, x7, ()) (startD sg.U ⟨79, [], []⟩ [(2, (.box [.d (.int .i64), .d .bool, .d (.int .i64), .d .str, .d (.sl (.st 0)), .d (.sl .str)])), (3, (.box [.d (.int .i64), .d .bool, .d (.int .i64), .d .str, .d (.sl (.st 0)), .d (.sl .str)])), (7, (.d (.int .i64)))])) := by
  rw [mastref2_CompareOf.l0]
  kernel_rfl
theorem mastref2_CompareOf.f_eq (k : Nat) (a0 : T_api_Value) (a1 : T_api_Value) : mastref2_CompareOf.f (k + 1) a0 a1 = codeK (C := ctx) (mastref2_CompareOf.O k) ⟨79, [], []⟩ (mastref2_CompareOf.L k) (Tryz.f21.body.getD .skip) mastref2_CompareOf.a (endK ctx [(.int .i64)] [(.tmp 4)]) (slotsOf sg.U 0 [(.d (.st 0)), (.d (.st 0))] (a0, a1, ()) (empty sg.U)) := by
  rw [mastref2_CompareOf.f]
  kernel_rfl
def mastref2_CompareOf.T : List (Lb sg (RT sg.U [(.int .i64)])) := [⟨0, [(2, (.box [.d (.int .i64), .d .bool, .d (.int .i64), .d .str, .d (.sl (.st 0)), .d (.sl .str)])), (3, (.box [.d (.int .i64), .d .bool, .d (.int .i64), .d .str, .d (.sl (.st 0)), .d (.sl .str)])), (7, (.d (.int .i64)))], fun k h => mastref2_CompareOf.l0 k h.1 h.2.1 h.2.2.1 h.2.2.2.1 h.2.2.2.2.1 h.2.2.2.2.2.1 h.2.2.2.2.2.2.1 h.2.2.2.2.2.2.2.1 h.2.2.2.2.2.2.2.2.1 h.2.2.2.2.2.2.2.2.2.1 h.2.2.2.2.2.2.2.2.2.2.1 h.2.2.2.2.2.2.2.2.2.2.2.1 h.2.2.2.2.2.2.2.2.2.2.2.2.1⟩]
theorem mastref2_CompareOf.ok : ∀ k : Nat, (mastref2_CompareOf.e k).Sound Tryz.prog ctx 21 :=
  entry_rec base_ok mo (fn := Tryz.f21) (b := (Tryz.f21.body.getD .skip)) (pm := [(.d (.st 0)), (.d (.st 0))]) (rs := [(.int .i64)]) (an := mastref2_CompareOf.a) (N := 79) (vars := [(.tmp 4)]) Tryz.func21 (by kernel_rfl) (by kernel_rfl) (by kernel_rfl) (by kernel_rfl) (by kernel_rfl) (by kernel_rfl) (O := mastref2_CompareOf.O) mastref2_CompareOf.T ⟨⟨by kernel_rfl, fun _ => by first | rfl | rw [mastref2_CompareOf.l0], fun k h => mastref2_CompareOf.l0_eq k h.1 h.2.1 h.2.2.1 h.2.2.2.1 h.2.2.2.2.1 h.2.2.2.2.2.1 h.2.2.2.2.2.2.1 h.2.2.2.2.2.2.2.1 h.2.2.2.2.2.2.2.2.1 h.2.2.2.2.2.2.2.2.2.1 h.2.2.2.2.2.2.2.2.2.2.1 h.2.2.2.2.2.2.2.2.2.2.2.1 h.2.2.2.2.2.2.2.2.2.2.2.2.1⟩, trivial⟩ (F := fun k h => mastref2_CompareOf.f k h.1 h.2.1) (fun _ => by first | rfl | rw [mastref2_CompareOf.f]) (fun k h => mastref2_CompareOf.f_eq k h.1 h.2.1)
    (fun k own => by unfold mastref2_CompareOf.O; exact oracle_of (P := Tryz.prog) (C := ctx) ⟨own, ⟨(cmp_Compare_int.ok), ⟨(cmp_Or_int.ok k), ⟨(strings_Compare.ok), ⟨(slices_Compare_string_string.ok k), trivial⟩⟩⟩⟩⟩)
mutual
def mastlaw2_ListSums.l0 : Nat → (List T_api_Value) → ByteArray → Int → Int → Int → Int → Int → (List T_api_Value) → Int → Int → Option (Bool)
  | 0, _, _, _, _, _, _, _, _, _, _ => none
  | k + 1, x0, x1, x6, x9, x10, x12, x13, x60, x61, x62 => (bif (ilt x62 x61) then ((lat x60 x62).bind fun y5 => ((mastref2_HasAt.f k (T_api_Value.mk y5.fKind y5.fBool y5.fInt y5.fText y5.fItems y5.fKeys) x1).bind fun y6 => (bif (ieq y6.fKind 0) then (mastlaw2_ListSums.l0 k x0 x1 x6 x9 x10 x12 x13 x60 x61 (wadd .i64 x62 1)) else (bif (ilt x12 0) then (mastlaw2_ListSums.l1 k x0 x1 x6 x9 x10 x62 x13 x62 y6.fKind y6.fBool y6.fInt y6.fText y6.fItems y6.fKeys x60 x61 x62) else ((lat x0 x12).bind fun y7 => ((mastref2_HasAt.f k y7 x1).bind fun y8 => ((mastref2_CompareOf.f k (T_api_Value.mk y6.fKind y6.fBool y6.fInt y6.fText y6.fItems y6.fKeys) y8).bind fun y9 => (bif (ilt y9 0) then (mastlaw2_ListSums.l1 k x0 x1 x6 x9 x10 x62 x13 x62 y6.fKind y6.fBool y6.fInt y6.fText y6.fItems y6.fKeys x60 x61 x62) else (mastlaw2_ListSums.l1 k x0 x1 x6 x9 x10 x12 x13 x62 y6.fKind y6.fBool y6.fInt y6.fText y6.fItems y6.fKeys x60 x61 x62))))))))) else (bif (ilt x12 0) then (some (bif (bif (ieq x9 0) then (ieq x10 0) else false) then (ieq x6 7) else false)) else (some (bif (bif (ieq x9 x12) then (ieq x10 x13) else false) then (ieq x6 0) else false))))
def mastlaw2_ListSums.l1 : Nat → (List T_api_Value) → ByteArray → Int → Int → Int → Int → Int → Int → Int → Bool → Int → ByteArray → (List T_api_Value) → (List ByteArray) → (List T_api_Value) → Int → Int → Option (Bool)
  | 0, _, _, _, _, _, _, _, _, _, _, _, _, _, _, _, _, _ => none
  | k + 1, x0, x1, x6, x9, x10, x12, x13, x14, x16_0, x16_1, x16_2, x16_3, x16_4, x16_5, x60, x61, x62 => (bif (ilt x13 0) then (mastlaw2_ListSums.l0 k x0 x1 x6 x9 x10 x12 x14 x60 x61 (wadd .i64 x62 1)) else ((lat x0 x13).bind fun y10 => ((mastref2_HasAt.f k y10 x1).bind fun y11 => ((mastref2_CompareOf.f k (T_api_Value.mk x16_0 x16_1 x16_2 x16_3 x16_4 x16_5) y11).bind fun y12 => (bif (ilt 0 y12) then (mastlaw2_ListSums.l0 k x0 x1 x6 x9 x10 x12 x14 x60 x61 (wadd .i64 x62 1)) else (mastlaw2_ListSums.l0 k x0 x1 x6 x9 x10 x12 x13 x60 x61 (wadd .i64 x62 1)))))))
end
def mastlaw2_ListSums.f (k : Nat) (a0 : (List T_api_Value)) (a1 : ByteArray) : Option (Bool) := ((list_Sum.f k a0 a1).bind fun y1 => ((mastref2_SumOf.f k a0 a1).bind fun y2 => (bif (bif (!ieq y1.2 y2.2) then true else (!ieq y1.1 y2.1)) then (some false) else ((list_Extremes.f k a0 a1).bind fun y3 => ((mastref2_RouteFault.f k a0 a1).bind fun y4 => (bif (!ieq y4 0) then (some (bif (bif (ieq y3.1 0) then (ieq y3.2.1 0) else false) then (ieq y3.2.2 y4) else false)) else (mastlaw2_ListSums.l0 k a0 a1 y3.2.2 y3.1 y3.2.1 (-1) (-1) a0 (llen a0) 0)))))))
def mastlaw2_ListSums.O (k : Nat) : Oracle sg := fun n => lkp n [(16, list_Sum.e k), (17, mastref2_SumOf.e k), (18, list_Extremes.e k), (19, mastref2_RouteFault.e k), (20, mastref2_HasAt.e k), (21, mastref2_CompareOf.e k)]
def mastlaw2_ListSums.a : Ann := (.n .z (.n .z (.n .z (.n .z (.n .z (.n .z (.n .z (.n (.n .z (.lp 0 (.n .z (.n .z (.n (.n .z (.n .z (.n .z (.n .z (.lab 1 .z))))) .z))))) .z))))))))
def mastlaw2_ListSums.L (k : Nat) : Nat → St sg.U → Option (RT sg.U [.bool]) := labs [(0, labOf sg [(0, (.d (.sl (.st 0)))), (1, (.d .str)), (6, (.d (.int .i64))), (9, (.d (.int .i64))), (10, (.d (.int .i64))), (12, (.d (.int .i64))), (13, (.d (.int .i64))), (60, (.d (.sl (.st 0)))), (61, (.d (.int .i64))), (62, (.d (.int .i64)))] (fun h => mastlaw2_ListSums.l0 k h.1 h.2.1 h.2.2.1 h.2.2.2.1 h.2.2.2.2.1 h.2.2.2.2.2.1 h.2.2.2.2.2.2.1 h.2.2.2.2.2.2.2.1 h.2.2.2.2.2.2.2.2.1 h.2.2.2.2.2.2.2.2.2.1)), (1, labOf sg [(0, (.d (.sl (.st 0)))), (1, (.d .str)), (6, (.d (.int .i64))), (9, (.d (.int .i64))), (10, (.d (.int .i64))), (12, (.d (.int .i64))), (13, (.d (.int .i64))), (14, (.d (.int .i64))), (16, (.box [.d (.int .i64), .d .bool, .d (.int .i64), .d .str, .d (.sl (.st 0)), .d (.sl .str)])), (60, (.d (.sl (.st 0)))), (61, (.d (.int .i64))), (62, (.d (.int .i64)))] (fun h => mastlaw2_ListSums.l1 k h.1 h.2.1 h.2.2.1 h.2.2.2.1 h.2.2.2.2.1 h.2.2.2.2.2.1 h.2.2.2.2.2.2.1 h.2.2.2.2.2.2.2.1 h.2.2.2.2.2.2.2.2.1 h.2.2.2.2.2.2.2.2.2.1 h.2.2.2.2.2.2.2.2.2.2.1 h.2.2.2.2.2.2.2.2.2.2.2.1 h.2.2.2.2.2.2.2.2.2.2.2.2.1 h.2.2.2.2.2.2.2.2.2.2.2.2.2.1 h.2.2.2.2.2.2.2.2.2.2.2.2.2.2.1 h.2.2.2.2.2.2.2.2.2.2.2.2.2.2.2.1 h.2.2.2.2.2.2.2.2.2.2.2.2.2.2.2.2.1))]
theorem mastlaw2_ListSums.l0_eq (k : Nat) (x0 : (List T_api_Value)) (x1 : ByteArray) (x6 : Int) (x9 : Int) (x10 : Int) (x12 : Int) (x13 : Int) (x60 : (List T_api_Value)) (x61 : Int) (x62 : Int) : mastlaw2_ListSums.l0 (k + 1) x0 x1 x6 x9 x10 x12 x13 x60 x61 x62 = runFrom (C := ctx) (mastlaw2_ListSums.O k) ⟨126, [], []⟩ (mastlaw2_ListSums.L k) (Tryz.f5.body.getD .skip) mastlaw2_ListSums.a 0 (endK ctx [.bool] [(.tmp 4)]) (encD [(0, (.d (.sl (.st 0)))), (1, (.d .str)), (6, (.d (.int .i64))), (9, (.d (.int .i64))), (10, (.d (.int .i64))), (12, (.d (.int .i64))), (13, (.d (.int .i64))), (60, (.d (.sl (.st 0)))), (61, (.d (.int .i64))), (62, (.d (.int .i64)))] (x0, x1, x6, x9, x10, x12, x13, x60, x61, x62, ()) (startD sg.U ⟨126, [], []⟩ [(0, (.d (.sl (.st 0)))), (1, (.d .str)), (6, (.d (.int .i64))), (9, (.d (.int .i64))), (10, (.d (.int .i64))), (12, (.d (.int .i64))), (13, (.d (.int .i64))), (60, (.d (.sl (.st 0)))), (61, (.d (.int .i64))), (62, (.d (.int .i64)))])) := by
  rw [mastlaw2_ListSums.l0]
  kernel_rfl
theorem mastlaw2_ListSums.l1_eq (k : Nat) (x0 : (List T_api_Value)) (x1 : ByteArray) (x6 : Int) (x9 : Int) (x10 : Int) (x12 : Int) (x13 : Int) (x14 : Int) (x16_0 : Int) (x16_1 : Bool) (x16_2 : Int) (x16_3 : ByteArray) (x16_4 : (List T_api_Value)) (x16_5 : (List ByteArray)) (x60 : (List T_api_Value)) (x61 : Int) (x62 : Int) : mastlaw2_ListSums.l1 (k + 1) x0 x1 x6 x9 x10 x12 x13 x14 x16_0 x16_1 x16_2 x16_3 x16_4 x16_5 x60 x61 x62 = runFrom (C := ctx) (mastlaw2_ListSums.O k) ⟨126, [], []⟩ (mastlaw2_ListSums.L k) (Tryz.f5.body.getD .skip) mastlaw2_ListSums.a 1 (endK ctx [.bool] [(.tmp 4)]) (encD [(0, (.d (.sl (.st 0)))), (1, (.d .str)), (6, (.d (.int .i64))), (9, (.d (.int .i64))), (10, (.d (.int .i64))), (12, (.d (.int .i64))), (13, (.d (.int .i64))), (14, (.d (.int .i64))), (16, (.box [.d (.int .i64), .d .bool, .d (.int .i64), .d .str, .d (.sl (.st 0)), .d (.sl .str)])), (60, (.d (.sl (.st 0)))), (61, (.d (.int .i64))), (62, (.d (.int .i64)))] (x0, x1, x6, x9, x10, x12, x13, x14, x16_0, x16_1, x16_2, x16_3, x16_4, x16_5, x60, x61, x62, ()) (startD sg.U ⟨126, [], []⟩ [(0, (.d (.sl (.st 0)))), (1, (.d .str)), (6, (.d (.int .i64))), (9, (.d (.int .i64))), (10, (.d (.int .i64))), (12, (.d (.int .i64))), (13, (.d (.int .i64))), (14, (.d (.int .i64))), (16, (.box [.d (.int .i64), .d .bool, .d (.int .i64), .d .str, .d (.sl (.st 0)), .d (.sl .str)])), (60, (.d (.sl (.st 0)))), (61, (.d (.int .i64))), (62, (.d (.int .i64)))])) := by
  rw [mastlaw2_ListSums.l1]
  kernel_rfl
theorem mastlaw2_ListSums.f_eq (k : Nat) (a0 : (List T_api_Value)) (a1 : ByteArray) : mastlaw2_ListSums.f k a0 a1 = codeK (C := ctx) (mastlaw2_ListSums.O k) ⟨126, [], []⟩ (mastlaw2_ListSums.L k) (Tryz.f5.body.getD .skip) mastlaw2_ListSums.a (endK ctx [.bool] [(.tmp 4)]) (slotsOf sg.U 0 [(.d (.sl (.st 0))), (.d .str)] (a0, a1, ()) (empty sg.U)) := by
  unfold mastlaw2_ListSums.f
  kernel_rfl
def mastlaw2_ListSums.e (k : Nat) : Entry sg := entryOf sg [(.d (.sl (.st 0))), (.d .str)] [.bool] (fun h => mastlaw2_ListSums.f k h.1 h.2.1)
def mastlaw2_ListSums.T : List (Lb sg (RT sg.U [.bool])) := [⟨0, [(0, (.d (.sl (.st 0)))), (1, (.d .str)), (6, (.d (.int .i64))), (9, (.d (.int .i64))), (10, (.d (.int .i64))), (12, (.d (.int .i64))), (13, (.d (.int .i64))), (60, (.d (.sl (.st 0)))), (61, (.d (.int .i64))), (62, (.d (.int .i64)))], fun k h => mastlaw2_ListSums.l0 k h.1 h.2.1 h.2.2.1 h.2.2.2.1 h.2.2.2.2.1 h.2.2.2.2.2.1 h.2.2.2.2.2.2.1 h.2.2.2.2.2.2.2.1 h.2.2.2.2.2.2.2.2.1 h.2.2.2.2.2.2.2.2.2.1⟩, ⟨1, [(0, (.d (.sl (.st 0)))), (1, (.d .str)), (6, (.d (.int .i64))), (9, (.d (.int .i64))), (10, (.d (.int .i64))), (12, (.d (.int .i64))), (13, (.d (.int .i64))), (14, (.d (.int .i64))), (16, (.box [.d (.int .i64), .d .bool, .d (.int .i64), .d .str, .d (.sl (.st 0)), .d (.sl .str)])), (60, (.d (.sl (.st 0)))), (61, (.d (.int .i64))), (62, (.d (.int .i64)))], fun k h => mastlaw2_ListSums.l1 k h.1 h.2.1 h.2.2.1 h.2.2.2.1 h.2.2.2.2.1 h.2.2.2.2.2.1 h.2.2.2.2.2.2.1 h.2.2.2.2.2.2.2.1 h.2.2.2.2.2.2.2.2.1 h.2.2.2.2.2.2.2.2.2.1 h.2.2.2.2.2.2.2.2.2.2.1 h.2.2.2.2.2.2.2.2.2.2.2.1 h.2.2.2.2.2.2.2.2.2.2.2.2.1 h.2.2.2.2.2.2.2.2.2.2.2.2.2.1 h.2.2.2.2.2.2.2.2.2.2.2.2.2.2.1 h.2.2.2.2.2.2.2.2.2.2.2.2.2.2.2.1 h.2.2.2.2.2.2.2.2.2.2.2.2.2.2.2.2.1⟩]
theorem mastlaw2_ListSums.ok (k : Nat) : (mastlaw2_ListSums.e k).Sound Tryz.prog ctx 5 :=
  entry_ok base_ok mo (fn := Tryz.f5) (b := (Tryz.f5.body.getD .skip)) (pm := [(.d (.sl (.st 0))), (.d .str)]) (rs := [.bool]) (an := mastlaw2_ListSums.a) (N := 126) (vars := [(.tmp 4)]) Tryz.func5 (by kernel_rfl) (by kernel_rfl) (by kernel_rfl) (by kernel_rfl) (by kernel_rfl) (by kernel_rfl) (O := mastlaw2_ListSums.O)
    (fun k => by unfold mastlaw2_ListSums.O; exact oracle_of (P := Tryz.prog) (C := ctx) ⟨(list_Sum.ok k), ⟨(mastref2_SumOf.ok k), ⟨(list_Extremes.ok k), ⟨(mastref2_RouteFault.ok k), ⟨(mastref2_HasAt.ok k), ⟨(mastref2_CompareOf.ok k), trivial⟩⟩⟩⟩⟩⟩) mastlaw2_ListSums.T ⟨⟨by kernel_rfl, fun _ => by first | rfl | rw [mastlaw2_ListSums.l0], fun k h => mastlaw2_ListSums.l0_eq k h.1 h.2.1 h.2.2.1 h.2.2.2.1 h.2.2.2.2.1 h.2.2.2.2.2.1 h.2.2.2.2.2.2.1 h.2.2.2.2.2.2.2.1 h.2.2.2.2.2.2.2.2.1 h.2.2.2.2.2.2.2.2.2.1⟩, ⟨⟨by kernel_rfl, fun _ => by first | rfl | rw [mastlaw2_ListSums.l1], fun k h => mastlaw2_ListSums.l1_eq k h.1 h.2.1 h.2.2.1 h.2.2.2.1 h.2.2.2.2.1 h.2.2.2.2.2.1 h.2.2.2.2.2.2.1 h.2.2.2.2.2.2.2.1 h.2.2.2.2.2.2.2.2.1 h.2.2.2.2.2.2.2.2.2.1 h.2.2.2.2.2.2.2.2.2.2.1 h.2.2.2.2.2.2.2.2.2.2.2.1 h.2.2.2.2.2.2.2.2.2.2.2.2.1 h.2.2.2.2.2.2.2.2.2.2.2.2.2.1 h.2.2.2.2.2.2.2.2.2.2.2.2.2.2.1 h.2.2.2.2.2.2.2.2.2.2.2.2.2.2.2.1 h.2.2.2.2.2.2.2.2.2.2.2.2.2.2.2.2.1⟩, trivial⟩⟩ k (fun h => mastlaw2_ListSums.f_eq k h.1 h.2.1)
end Go.Proofs.YtmbjiadilfbooaaGreatDoor.LListSums
