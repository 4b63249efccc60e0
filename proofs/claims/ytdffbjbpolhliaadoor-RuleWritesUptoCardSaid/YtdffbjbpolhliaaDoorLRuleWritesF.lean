/- The functions behind the law RuleWrites, checked against the code; their summaries hold. Conditions: none. -/
import Derived.Test.YtdffbjbpolhliaaDoorLiftZ
import Derived.Test.YtdffbjbpolhliaaDoorProg
import Derived.Test.YtdffbjbpolhliaaDoorShelf
namespace Go.Proofs.YtdffbjbpolhliaaDoor.LRuleWrites
open Go Go.Proofs.YtdffbjbpolhliaaDoor.Lift
set_option maxRecDepth 100000
set_option linter.unusedVariables false
structure T_lang_Test where
  fOp : Int
  fModulus : Int
  fLow : Int
  fHigh : Int
  fKids : (List T_lang_Test)
  deriving Inhabited
structure T_lang_Rule where
  fForms : (List T_lang_Test)
  deriving Inhabited
abbrev sgU : Nat → Type
  | 0 => T_lang_Rule
  | 1 => T_lang_Test
  | _ + 2 => Unit
abbrev sgF : Nat → List Ty
  | 0 => [(.sl (.st 1))]
  | 1 => [(.int .i64), (.int .i64), (.int .i64), (.int .i64), (.sl (.st 1))]
  | _ + 2 => []
def sgO : (n : Nat) → sgU n → HL sgU (sgF n)
  | 0, x => (x.fForms, ())
  | 1, x => (x.fOp, x.fModulus, x.fLow, x.fHigh, x.fKids, ())
  | _ + 2, _ => ()
def sgB : (n : Nat) → HL sgU (sgF n) → sgU n
  | 0, h => ⟨h.1⟩
  | 1, h => ⟨h.1, h.2.1, h.2.2.1, h.2.2.2.1, h.2.2.2.2.1⟩
  | _ + 2, _ => ()
def sg : Sg := { U := sgU, fl := sgF, out := sgO, bld := sgB, gl := [2], gp := fun k c => match k with | 2 => c = (Lib.pow10Tab.map fun z => Value.int .u64 z).toArray | _ => ∃ m, c[0]? = some (.int .i64 m) }
def ctx : Ctx := { S := sg, ty := [(3, .d (.int .i64) 1 0), (9, .d .str 1 0), (23, .d (.sl .str) 16 9), (27, .d (.sl (.st 1)) 56 48), (29, .d (.st 0) 1 0), (30, .d (.int .i64) 1 0), (48, .d (.st 1) 1 0), (84, .m 3 3)], eqs := [] }
def c_empty : ByteArray := ⟨#[]⟩
def c__20_26_20 : ByteArray := ⟨#[32, 38, 32]⟩
def c__28 : ByteArray := ⟨#[40]⟩
def c__29 : ByteArray := ⟨#[41]⟩
def c__20_7c_20 : ByteArray := ⟨#[32, 124, 32]⟩
def c__21_28 : ByteArray := ⟨#[33, 40]⟩
def c_n : ByteArray := ⟨#[110]⟩
def c__25 : ByteArray := ⟨#[37]⟩
def c__3d : ByteArray := ⟨#[61]⟩
def c__2e_2e : ByteArray := ⟨#[46, 46]⟩
def c__3b_20 : ByteArray := ⟨#[59, 32]⟩
theorem sg_ok : SgOk sg :=
  ⟨fun n h => by rcases n with _ | _ | n <;> rfl, fun n => by rcases n with _ | _ | n <;> rfl, fun n x => by rcases n with _ | _ | n <;> rfl, fun n => by rcases n with _ | _ | n <;> rfl⟩
theorem base_ok : Base Tryd.prog ctx := base_of sg_ok (by kernel_rfl) (eqOk_of (by kernel_rfl))
theorem open_ok : openB Tryd.prog ctx = true := by kernel_rfl
theorem mo : Tryd.prog.follows .mixedOrders = true := by kernel_rfl
mutual
def lang_tests.l0 : Nat → Int → (List T_lang_Test) → Int → Int → Option (Int)
  | 0, _, _, _, _ => none
  | k + 1, x3, x7, x8, x9 => (bif (ilt x9 x8) then ((lat x7 x9).bind fun y1 => (bif (ilt 20 x3) then (some x3) else ((lang_tests.f k (T_lang_Test.mk y1.fOp y1.fModulus y1.fLow y1.fHigh y1.fKids)).bind fun y2 => (lang_tests.l0 k (wadd .i64 x3 y2) x7 x8 (wadd .i64 x9 1))))) else (some x3))
def lang_tests.f : Nat → T_lang_Test → Option (Int)
  | 0, _ => none
  | k + 1, a0 => (lang_tests.l0 k 1 a0.fKids (llen a0.fKids) 0)
end
def lang_tests.e (k : Nat) : Entry sg := entryOf sg [(.d (.st 1))] [(.int .i64)] (fun h => lang_tests.f k h.1)
def lang_tests.O (k : Nat) : Oracle sg := fun n => lkp n [(53, lang_tests.e k)]
def lang_tests.a : Ann := (.n .z (.n .z (.n (.n .z (.lp 0 .z)) .z)))
def lang_tests.L (k : Nat) : Nat → St sg.U → Option (RT sg.U [(.int .i64)]) := labs [(0, labOf sg [(3, (.d (.int .i64))), (7, (.d (.sl (.st 1)))), (8, (.d (.int .i64))), (9, (.d (.int .i64)))] (fun h => lang_tests.l0 k h.1 h.2.1 h.2.2.1 h.2.2.2.1))]
theorem lang_tests.l0_eq (k : Nat) (x3 : Int) (x7 : (List T_lang_Test)) (x8 : Int) (x9 : Int) : lang_tests.l0 (k + 1) x3 x7 x8 x9 = runFrom (C := ctx) (lang_tests.O k) ⟨21, [], []⟩ (lang_tests.L k) (Tryd.f53.body.getD .skip) lang_tests.a 0 (endK ctx [(.int .i64)] [(.tmp 2)]) (encD [(3, (.d (.int .i64))), (7, (.d (.sl (.st 1)))), (8, (.d (.int .i64))), (9, (.d (.int .i64)))] (x3, x7, x8, x9, ()) (startD sg.U ⟨21, [], []⟩ [(3, (.d (.int .i64))), (7, (.d (.sl (.st 1)))), (8, (.d (.int .i64))), (9, (.d (.int .i64)))])) := by
  rw [lang_tests.l0]
  kernel_rfl
theorem lang_tests.f_eq (k : Nat) (a0 : T_lang_Test) : lang_tests.f (k + 1) a0 = codeK (C := ctx) (lang_tests.O k) ⟨21, [], []⟩ (lang_tests.L k) (Tryd.f53.body.getD .skip) lang_tests.a (endK ctx [(.int .i64)] [(.tmp 2)]) (slotsOf sg.U 0 [(.d (.st 1))] (a0, ()) (empty sg.U)) := by
  rw [lang_tests.f]
  kernel_rfl
def lang_tests.T : List (Lb sg (RT sg.U [(.int .i64)])) := [⟨0, [(3, (.d (.int .i64))), (7, (.d (.sl (.st 1)))), (8, (.d (.int .i64))), (9, (.d (.int .i64)))], fun k h => lang_tests.l0 k h.1 h.2.1 h.2.2.1 h.2.2.2.1⟩]
theorem lang_tests.ok : ∀ k : Nat, (lang_tests.e k).Sound Tryd.prog ctx 53 :=
  entry_rec base_ok mo (fn := Tryd.f53) (b := (Tryd.f53.body.getD .skip)) (pm := [(.d (.st 1))]) (rs := [(.int .i64)]) (an := lang_tests.a) (N := 21) (vars := [(.tmp 2)]) Tryd.func53 (by kernel_rfl) (by kernel_rfl) (by kernel_rfl) (by kernel_rfl) (by kernel_rfl) (by kernel_rfl) (O := lang_tests.O) lang_tests.T ⟨⟨by kernel_rfl, fun _ => by first | rfl | rw [lang_tests.l0], fun k h => lang_tests.l0_eq k h.1 h.2.1 h.2.2.1 h.2.2.2.1⟩, trivial⟩ (F := fun k h => lang_tests.f k h.1) (fun _ => by first | rfl | rw [lang_tests.f]) (fun k h => lang_tests.f_eq k h.1)
    (fun k own => by unfold lang_tests.O; exact oracle_of (P := Tryd.prog) (C := ctx) ⟨own, trivial⟩)
mutual
def lang_levels.l0 : Nat → Int → (List T_lang_Test) → Int → Int → Option (Int)
  | 0, _, _, _, _ => none
  | k + 1, x3, x7, x8, x9 => (bif (ilt x9 x8) then ((lat x7 x9).bind fun y1 => ((lang_levels.f k (T_lang_Test.mk y1.fOp y1.fModulus y1.fLow y1.fHigh y1.fKids)).bind fun y2 => (lang_levels.l0 k (imax x3 y2) x7 x8 (wadd .i64 x9 1)))) else (some (wadd .i64 x3 1)))
def lang_levels.f : Nat → T_lang_Test → Option (Int)
  | 0, _ => none
  | k + 1, a0 => (lang_levels.l0 k 0 a0.fKids (llen a0.fKids) 0)
end
def lang_levels.e (k : Nat) : Entry sg := entryOf sg [(.d (.st 1))] [(.int .i64)] (fun h => lang_levels.f k h.1)
def lang_levels.O (k : Nat) : Oracle sg := fun n => lkp n [(54, lang_levels.e k)]
def lang_levels.a : Ann := (.n .z (.n .z (.n (.n .z (.lp 0 .z)) .z)))
def lang_levels.L (k : Nat) : Nat → St sg.U → Option (RT sg.U [(.int .i64)]) := labs [(0, labOf sg [(3, (.d (.int .i64))), (7, (.d (.sl (.st 1)))), (8, (.d (.int .i64))), (9, (.d (.int .i64)))] (fun h => lang_levels.l0 k h.1 h.2.1 h.2.2.1 h.2.2.2.1))]
theorem lang_levels.l0_eq (k : Nat) (x3 : Int) (x7 : (List T_lang_Test)) (x8 : Int) (x9 : Int) : lang_levels.l0 (k + 1) x3 x7 x8 x9 = runFrom (C := ctx) (lang_levels.O k) ⟨20, [], []⟩ (lang_levels.L k) (Tryd.f54.body.getD .skip) lang_levels.a 0 (endK ctx [(.int .i64)] [(.tmp 2)]) (encD [(3, (.d (.int .i64))), (7, (.d (.sl (.st 1)))), (8, (.d (.int .i64))), (9, (.d (.int .i64)))] (x3, x7, x8, x9, ()) (startD sg.U ⟨20, [], []⟩ [(3, (.d (.int .i64))), (7, (.d (.sl (.st 1)))), (8, (.d (.int .i64))), (9, (.d (.int .i64)))])) := by
  rw [lang_levels.l0]
  kernel_rfl
theorem lang_levels.f_eq (k : Nat) (a0 : T_lang_Test) : lang_levels.f (k + 1) a0 = codeK (C := ctx) (lang_levels.O k) ⟨20, [], []⟩ (lang_levels.L k) (Tryd.f54.body.getD .skip) lang_levels.a (endK ctx [(.int .i64)] [(.tmp 2)]) (slotsOf sg.U 0 [(.d (.st 1))] (a0, ()) (empty sg.U)) := by
  rw [lang_levels.f]
  kernel_rfl
def lang_levels.T : List (Lb sg (RT sg.U [(.int .i64)])) := [⟨0, [(3, (.d (.int .i64))), (7, (.d (.sl (.st 1)))), (8, (.d (.int .i64))), (9, (.d (.int .i64)))], fun k h => lang_levels.l0 k h.1 h.2.1 h.2.2.1 h.2.2.2.1⟩]
theorem lang_levels.ok : ∀ k : Nat, (lang_levels.e k).Sound Tryd.prog ctx 54 :=
  entry_rec base_ok mo (fn := Tryd.f54) (b := (Tryd.f54.body.getD .skip)) (pm := [(.d (.st 1))]) (rs := [(.int .i64)]) (an := lang_levels.a) (N := 20) (vars := [(.tmp 2)]) Tryd.func54 (by kernel_rfl) (by kernel_rfl) (by kernel_rfl) (by kernel_rfl) (by kernel_rfl) (by kernel_rfl) (O := lang_levels.O) lang_levels.T ⟨⟨by kernel_rfl, fun _ => by first | rfl | rw [lang_levels.l0], fun k h => lang_levels.l0_eq k h.1 h.2.1 h.2.2.1 h.2.2.2.1⟩, trivial⟩ (F := fun k h => lang_levels.f k h.1) (fun _ => by first | rfl | rw [lang_levels.f]) (fun k h => lang_levels.f_eq k h.1)
    (fun k own => by unfold lang_levels.O; exact oracle_of (P := Tryd.prog) (C := ctx) ⟨own, trivial⟩)
mutual
def lang_testForm.l0 : Nat → Int → Int → Int → Int → (List T_lang_Test) → Int → Int → Bool → Option (Bool)
  | 0, _, _, _, _, _, _, _, _ => none
  | k + 1, x1_0, x1_1, x1_2, x1_3, x1_4, x3, x10, x15 => (bif x15 then (bif (ilt x3 2) then (some false) else (lang_testForm.l1 k x1_0 x1_1 x1_2 x1_3 x1_4)) else (bif (ieq x10 4) then (bif (ilt x3 1) then (some false) else (lang_testForm.l1 k x1_0 x1_1 x1_2 x1_3 x1_4)) else (some false)))
def lang_testForm.l1 : Nat → Int → Int → Int → Int → (List T_lang_Test) → Option (Bool)
  | 0, _, _, _, _, _ => none
  | k + 1, x1_0, x1_1, x1_2, x1_3, x1_4 => (lang_testForm.l2 k x1_0 x1_1 x1_2 x1_3 x1_4 x1_4 (llen x1_4) 0)
def lang_testForm.l2 : Nat → Int → Int → Int → Int → (List T_lang_Test) → (List T_lang_Test) → Int → Int → Option (Bool)
  | 0, _, _, _, _, _, _, _, _ => none
  | k + 1, x1_0, x1_1, x1_2, x1_3, x1_4, x25, x26, x27 => (bif (ilt x27 x26) then ((lat x25 x27).bind fun y1 => (bif (bif (!ieq x1_0 4) then (ieq y1.fOp x1_0) else false) then (some false) else ((lang_testForm.f k (T_lang_Test.mk y1.fOp y1.fModulus y1.fLow y1.fHigh y1.fKids)).bind fun y2 => (bif (!y2) then (some false) else (lang_testForm.l2 k x1_0 x1_1 x1_2 x1_3 x1_4 x25 x26 (wadd .i64 x27 1)))))) else (some (bif (bif (ieq x1_1 0) then (ieq x1_2 0) else false) then (ieq x1_3 0) else false)))
def lang_testForm.f : Nat → T_lang_Test → Option (Bool)
  | 0, _ => none
  | k + 1, a0 => (bif (ieq a0.fOp 1) then (some (ieq (llen a0.fKids) 0)) else (bif (ieq a0.fOp 2) then (lang_testForm.l0 k a0.fOp a0.fModulus a0.fLow a0.fHigh a0.fKids (llen a0.fKids) a0.fOp true) else (lang_testForm.l0 k a0.fOp a0.fModulus a0.fLow a0.fHigh a0.fKids (llen a0.fKids) a0.fOp (ieq a0.fOp 3))))
end
def lang_testForm.e (k : Nat) : Entry sg := entryOf sg [(.d (.st 1))] [.bool] (fun h => lang_testForm.f k h.1)
def lang_testForm.O (k : Nat) : Oracle sg := fun n => lkp n [(55, lang_testForm.e k)]
def lang_testForm.a : Ann := (.n .z (.n .z (.n (.n .z (.n .z (.n .z (.n .z (.lab 0 .z))))) (.lab 1 (.n (.n .z (.lp 2 .z)) .z)))))
def lang_testForm.L (k : Nat) : Nat → St sg.U → Option (RT sg.U [.bool]) := labs [(0, labOf sg [(1, (.box [.d (.int .i64), .d (.int .i64), .d (.int .i64), .d (.int .i64), .d (.sl (.st 1))])), (3, (.d (.int .i64))), (10, (.d (.int .i64))), (15, (.d .bool))] (fun h => lang_testForm.l0 k h.1 h.2.1 h.2.2.1 h.2.2.2.1 h.2.2.2.2.1 h.2.2.2.2.2.1 h.2.2.2.2.2.2.1 h.2.2.2.2.2.2.2.1)), (1, labOf sg [(1, (.box [.d (.int .i64), .d (.int .i64), .d (.int .i64), .d (.int .i64), .d (.sl (.st 1))]))] (fun h => lang_testForm.l1 k h.1 h.2.1 h.2.2.1 h.2.2.2.1 h.2.2.2.2.1)), (2, labOf sg [(1, (.box [.d (.int .i64), .d (.int .i64), .d (.int .i64), .d (.int .i64), .d (.sl (.st 1))])), (25, (.d (.sl (.st 1)))), (26, (.d (.int .i64))), (27, (.d (.int .i64)))] (fun h => lang_testForm.l2 k h.1 h.2.1 h.2.2.1 h.2.2.2.1 h.2.2.2.2.1 h.2.2.2.2.2.1 h.2.2.2.2.2.2.1 h.2.2.2.2.2.2.2.1))]
theorem lang_testForm.l0_eq (k : Nat) (x1_0 : Int) (x1_1 : Int) (x1_2 : Int) (x1_3 : Int) (x1_4 : (List T_lang_Test)) (x3 : Int) (x10 : Int) (x15 : Bool) : lang_testForm.l0 (k + 1) x1_0 x1_1 x1_2 x1_3 x1_4 x3 x10 x15 = runFrom (C := ctx) (lang_testForm.O k) ⟨60, [], []⟩ (lang_testForm.L k) (Tryd.f55.body.getD .skip) lang_testForm.a 0 (endK ctx [.bool] [(.tmp 2)]) (encD [(1, (.box [.d (.int .i64), .d (.int .i64), .d (.int .i64), .d (.int .i64), .d (.sl (.st 1))])), (3, (.d (.int .i64))), (10, (.d (.int .i64))), (15, (.d .bool))] (x1_0, x1_1, x1_2, x1_3, x1_4, x3, x10, x15, ()) (startD sg.U ⟨60, [], []⟩ [(1, (.box [.d (.int .i64), .d (.int .i64), .d (.int .i64), .d (.int .i64), .d (.sl (.st 1))])), (3, (.d (.int .i64))), (10, (.d (.int .i64))), (15, (.d .bool))])) := by
  rw [lang_testForm.l0]
  kernel_rfl
theorem lang_testForm.l1_eq (k : Nat) (x1_0 : Int) (x1_1 : Int) (x1_2 : Int) (x1_3 : Int) (x1_4 : (List T_lang_Test)) : lang_testForm.l1 (k + 1) x1_0 x1_1 x1_2 x1_3 x1_4 = runFrom (C := ctx) (lang_testForm.O k) ⟨60, [], []⟩ (lang_testForm.L k) (Tryd.f55.body.getD .skip) lang_testForm.a 1 (endK ctx [.bool] [(.tmp 2)]) (encD [(1, (.box [.d (.int .i64), .d (.int .i64), .d (.int .i64), .d (.int .i64), .d (.sl (.st 1))]))] (x1_0, x1_1, x1_2, x1_3, x1_4, ()) (startD sg.U ⟨60, [], []⟩ [(1, (.box [.d (.int .i64), .d (.int .i64), .d (.int .i64), .d (.int .i64), .d (.sl (.st 1))]))])) := by
  rw [lang_testForm.l1]
  kernel_rfl
theorem lang_testForm.l2_eq (k : Nat) (x1_0 : Int) (x1_1 : Int) (x1_2 : Int) (x1_3 : Int) (x1_4 : (List T_lang_Test)) (x25 : (List T_lang_Test)) (x26 : Int) (x27 : Int) : lang_testForm.l2 (k + 1) x1_0 x1_1 x1_2 x1_3 x1_4 x25 x26 x27 = runFrom (C := ctx) (lang_testForm.O k) ⟨60, [], []⟩ (lang_testForm.L k) (Tryd.f55.body.getD .skip) lang_testForm.a 2 (endK ctx [.bool] [(.tmp 2)]) (encD [(1, (.box [.d (.int .i64), .d (.int .i64), .d (.int .i64), .d (.int .i64), .d (.sl (.st 1))])), (25, (.d (.sl (.st 1)))), (26, (.d (.int .i64))), (27, (.d (.int .i64)))] (x1_0, x1_1, x1_2, x1_3, x1_4, x25, x26, x27, ()) (startD sg.U ⟨60, [], []⟩ [(1, (.box [.d (.int .i64), .d (.int .i64), .d (.int .i64), .d (.int .i64), .d (.sl (.st 1))])), (25, (.d (.sl (.st 1)))), (26, (.d (.int .i64))), (27, (.d (.int .i64)))])) := by
  rw [lang_testForm.l2]
  kernel_rfl
theorem lang_testForm.f_eq (k : Nat) (a0 : T_lang_Test) : lang_testForm.f (k + 1) a0 = codeK (C := ctx) (lang_testForm.O k) ⟨60, [], []⟩ (lang_testForm.L k) (Tryd.f55.body.getD .skip) lang_testForm.a (endK ctx [.bool] [(.tmp 2)]) (slotsOf sg.U 0 [(.d (.st 1))] (a0, ()) (empty sg.U)) := by
  rw [lang_testForm.f]
  kernel_rfl
def lang_testForm.T : List (Lb sg (RT sg.U [.bool])) := [⟨0, [(1, (.box [.d (.int .i64), .d (.int .i64), .d (.int .i64), .d (.int .i64), .d (.sl (.st 1))])), (3, (.d (.int .i64))), (10, (.d (.int .i64))), (15, (.d .bool))], fun k h => lang_testForm.l0 k h.1 h.2.1 h.2.2.1 h.2.2.2.1 h.2.2.2.2.1 h.2.2.2.2.2.1 h.2.2.2.2.2.2.1 h.2.2.2.2.2.2.2.1⟩, ⟨1, [(1, (.box [.d (.int .i64), .d (.int .i64), .d (.int .i64), .d (.int .i64), .d (.sl (.st 1))]))], fun k h => lang_testForm.l1 k h.1 h.2.1 h.2.2.1 h.2.2.2.1 h.2.2.2.2.1⟩, ⟨2, [(1, (.box [.d (.int .i64), .d (.int .i64), .d (.int .i64), .d (.int .i64), .d (.sl (.st 1))])), (25, (.d (.sl (.st 1)))), (26, (.d (.int .i64))), (27, (.d (.int .i64)))], fun k h => lang_testForm.l2 k h.1 h.2.1 h.2.2.1 h.2.2.2.1 h.2.2.2.2.1 h.2.2.2.2.2.1 h.2.2.2.2.2.2.1 h.2.2.2.2.2.2.2.1⟩]
theorem lang_testForm.ok : ∀ k : Nat, (lang_testForm.e k).Sound Tryd.prog ctx 55 :=
  entry_rec base_ok mo (fn := Tryd.f55) (b := (Tryd.f55.body.getD .skip)) (pm := [(.d (.st 1))]) (rs := [.bool]) (an := lang_testForm.a) (N := 60) (vars := [(.tmp 2)]) Tryd.func55 (by kernel_rfl) (by kernel_rfl) (by kernel_rfl) (by kernel_rfl) (by kernel_rfl) (by kernel_rfl) (O := lang_testForm.O) lang_testForm.T ⟨⟨by kernel_rfl, fun _ => by first | rfl | rw [lang_testForm.l0], fun k h => lang_testForm.l0_eq k h.1 h.2.1 h.2.2.1 h.2.2.2.1 h.2.2.2.2.1 h.2.2.2.2.2.1 h.2.2.2.2.2.2.1 h.2.2.2.2.2.2.2.1⟩, ⟨⟨by kernel_rfl, fun _ => by first | rfl | rw [lang_testForm.l1], fun k h => lang_testForm.l1_eq k h.1 h.2.1 h.2.2.1 h.2.2.2.1 h.2.2.2.2.1⟩, ⟨⟨by kernel_rfl, fun _ => by first | rfl | rw [lang_testForm.l2], fun k h => lang_testForm.l2_eq k h.1 h.2.1 h.2.2.1 h.2.2.2.1 h.2.2.2.2.1 h.2.2.2.2.2.1 h.2.2.2.2.2.2.1 h.2.2.2.2.2.2.2.1⟩, trivial⟩⟩⟩ (F := fun k h => lang_testForm.f k h.1) (fun _ => by first | rfl | rw [lang_testForm.f]) (fun k h => lang_testForm.f_eq k h.1)
    (fun k own => by unfold lang_testForm.O; exact oracle_of (P := Tryd.prog) (C := ctx) ⟨own, trivial⟩)
mutual
def lang_testRange.l0 : Nat → Int → Int → Int → Int → (List T_lang_Test) → (List T_lang_Test) → Int → Int → Option (Bool)
  | 0, _, _, _, _, _, _, _, _ => none
  | k + 1, x1_0, x1_1, x1_2, x1_3, x1_4, x6, x7, x8 => (bif (ilt x8 x7) then ((lat x6 x8).bind fun y1 => ((lang_testRange.f k (T_lang_Test.mk y1.fOp y1.fModulus y1.fLow y1.fHigh y1.fKids)).bind fun y2 => (bif (!y2) then (some false) else (lang_testRange.l0 k x1_0 x1_1 x1_2 x1_3 x1_4 x6 x7 (wadd .i64 x8 1))))) else (bif (!ieq x1_0 1) then (some true) else (some (bif (bif (bif (bif (ieq x1_1 0) then true else (bif (ile 2 x1_1) then (ile x1_1 1000000) else false)) then (ile 0 x1_2) else false) then (ile x1_2 x1_3) else false) then (ile x1_3 1000000000) else false))))
def lang_testRange.f : Nat → T_lang_Test → Option (Bool)
  | 0, _ => none
  | k + 1, a0 => (lang_testRange.l0 k a0.fOp a0.fModulus a0.fLow a0.fHigh a0.fKids a0.fKids (llen a0.fKids) 0)
end
def lang_testRange.e (k : Nat) : Entry sg := entryOf sg [(.d (.st 1))] [.bool] (fun h => lang_testRange.f k h.1)
def lang_testRange.O (k : Nat) : Oracle sg := fun n => lkp n [(56, lang_testRange.e k)]
def lang_testRange.a : Ann := (.n .z (.n (.n .z (.lp 0 .z)) .z))
def lang_testRange.L (k : Nat) : Nat → St sg.U → Option (RT sg.U [.bool]) := labs [(0, labOf sg [(1, (.box [.d (.int .i64), .d (.int .i64), .d (.int .i64), .d (.int .i64), .d (.sl (.st 1))])), (6, (.d (.sl (.st 1)))), (7, (.d (.int .i64))), (8, (.d (.int .i64)))] (fun h => lang_testRange.l0 k h.1 h.2.1 h.2.2.1 h.2.2.2.1 h.2.2.2.2.1 h.2.2.2.2.2.1 h.2.2.2.2.2.2.1 h.2.2.2.2.2.2.2.1))]
theorem lang_testRange.l0_eq (k : Nat) (x1_0 : Int) (x1_1 : Int) (x1_2 : Int) (x1_3 : Int) (x1_4 : (List T_lang_Test)) (x6 : (List T_lang_Test)) (x7 : Int) (x8 : Int) : lang_testRange.l0 (k + 1) x1_0 x1_1 x1_2 x1_3 x1_4 x6 x7 x8 = runFrom (C := ctx) (lang_testRange.O k) ⟨49, [], []⟩ (lang_testRange.L k) (Tryd.f56.body.getD .skip) lang_testRange.a 0 (endK ctx [.bool] [(.tmp 2)]) (encD [(1, (.box [.d (.int .i64), .d (.int .i64), .d (.int .i64), .d (.int .i64), .d (.sl (.st 1))])), (6, (.d (.sl (.st 1)))), (7, (.d (.int .i64))), (8, (.d (.int .i64)))] (x1_0, x1_1, x1_2, x1_3, x1_4, x6, x7, x8, ()) (startD sg.U ⟨49, [], []⟩ [(1, (.box [.d (.int .i64), .d (.int .i64), .d (.int .i64), .d (.int .i64), .d (.sl (.st 1))])), (6, (.d (.sl (.st 1)))), (7, (.d (.int .i64))), (8, (.d (.int .i64)))])) := by
  rw [lang_testRange.l0]
  kernel_rfl
theorem lang_testRange.f_eq (k : Nat) (a0 : T_lang_Test) : lang_testRange.f (k + 1) a0 = codeK (C := ctx) (lang_testRange.O k) ⟨49, [], []⟩ (lang_testRange.L k) (Tryd.f56.body.getD .skip) lang_testRange.a (endK ctx [.bool] [(.tmp 2)]) (slotsOf sg.U 0 [(.d (.st 1))] (a0, ()) (empty sg.U)) := by
  rw [lang_testRange.f]
  kernel_rfl
def lang_testRange.T : List (Lb sg (RT sg.U [.bool])) := [⟨0, [(1, (.box [.d (.int .i64), .d (.int .i64), .d (.int .i64), .d (.int .i64), .d (.sl (.st 1))])), (6, (.d (.sl (.st 1)))), (7, (.d (.int .i64))), (8, (.d (.int .i64)))], fun k h => lang_testRange.l0 k h.1 h.2.1 h.2.2.1 h.2.2.2.1 h.2.2.2.2.1 h.2.2.2.2.2.1 h.2.2.2.2.2.2.1 h.2.2.2.2.2.2.2.1⟩]
theorem lang_testRange.ok : ∀ k : Nat, (lang_testRange.e k).Sound Tryd.prog ctx 56 :=
  entry_rec base_ok mo (fn := Tryd.f56) (b := (Tryd.f56.body.getD .skip)) (pm := [(.d (.st 1))]) (rs := [.bool]) (an := lang_testRange.a) (N := 49) (vars := [(.tmp 2)]) Tryd.func56 (by kernel_rfl) (by kernel_rfl) (by kernel_rfl) (by kernel_rfl) (by kernel_rfl) (by kernel_rfl) (O := lang_testRange.O) lang_testRange.T ⟨⟨by kernel_rfl, fun _ => by first | rfl | rw [lang_testRange.l0], fun k h => lang_testRange.l0_eq k h.1 h.2.1 h.2.2.1 h.2.2.2.1 h.2.2.2.2.1 h.2.2.2.2.2.1 h.2.2.2.2.2.2.1 h.2.2.2.2.2.2.2.1⟩, trivial⟩ (F := fun k h => lang_testRange.f k h.1) (fun _ => by first | rfl | rw [lang_testRange.f]) (fun k h => lang_testRange.f_eq k h.1)
    (fun k own => by unfold lang_testRange.O; exact oracle_of (P := Tryd.prog) (C := ctx) ⟨own, trivial⟩)
mutual
def lang_ruleFault.l0 : Nat → (List T_lang_Test) → (List T_lang_Test) → Int → Int → Option (Int)
  | 0, _, _, _, _ => none
  | k + 1, x1_0, x16, x17, x18 => (bif (ilt x18 x17) then ((lat x16 x18).bind fun y1 => ((lang_tests.f k (T_lang_Test.mk y1.fOp y1.fModulus y1.fLow y1.fHigh y1.fKids)).bind fun y2 => (bif (ilt 20 y2) then (some 4) else (lang_ruleFault.l0 k x1_0 x16 x17 (wadd .i64 x18 1))))) else (lang_ruleFault.l1 k x1_0 x1_0 (llen x1_0) 0))
def lang_ruleFault.l1 : Nat → (List T_lang_Test) → (List T_lang_Test) → Int → Int → Option (Int)
  | 0, _, _, _, _ => none
  | k + 1, x1_0, x27, x28, x29 => (bif (ilt x29 x28) then ((lat x27 x29).bind fun y3 => ((lang_levels.f k (T_lang_Test.mk y3.fOp y3.fModulus y3.fLow y3.fHigh y3.fKids)).bind fun y4 => (bif (ilt 12 y4) then (some 13) else (lang_ruleFault.l1 k x1_0 x27 x28 (wadd .i64 x29 1))))) else (lang_ruleFault.l2 k x1_0 x1_0 (llen x1_0) 0))
def lang_ruleFault.l2 : Nat → (List T_lang_Test) → (List T_lang_Test) → Int → Int → Option (Int)
  | 0, _, _, _, _ => none
  | k + 1, x1_0, x38, x39, x40 => (bif (ilt x40 x39) then ((lat x38 x40).bind fun y5 => ((lang_testForm.f k (T_lang_Test.mk y5.fOp y5.fModulus y5.fLow y5.fHigh y5.fKids)).bind fun y6 => (bif (!y6) then (some 1) else (lang_ruleFault.l2 k x1_0 x38 x39 (wadd .i64 x40 1))))) else (lang_ruleFault.l3 k x1_0 (llen x1_0) 0))
def lang_ruleFault.l3 : Nat → (List T_lang_Test) → Int → Int → Option (Int)
  | 0, _, _, _ => none
  | k + 1, x49, x50, x51 => (bif (ilt x51 x50) then ((lat x49 x51).bind fun y7 => ((lang_testRange.f k (T_lang_Test.mk y7.fOp y7.fModulus y7.fLow y7.fHigh y7.fKids)).bind fun y8 => (bif (!y8) then (some 2) else (lang_ruleFault.l3 k x49 x50 (wadd .i64 x51 1))))) else (some 0))
end
def lang_ruleFault.f (k : Nat) (a0 : T_lang_Rule) : Option (Int) := (bif (ilt 6 (llen a0.fForms)) then (some 4) else (lang_ruleFault.l0 k a0.fForms a0.fForms (llen a0.fForms) 0))
def lang_ruleFault.O (k : Nat) : Oracle sg := fun n => lkp n [(53, lang_tests.e k), (54, lang_levels.e k), (55, lang_testForm.e k), (56, lang_testRange.e k)]
def lang_ruleFault.a : Ann := (.n .z (.n .z (.n (.n .z (.lp 0 .z)) (.n (.n .z (.lp 1 .z)) (.n (.n .z (.lp 2 .z)) (.n (.n .z (.lp 3 .z)) .z))))))
def lang_ruleFault.L (k : Nat) : Nat → St sg.U → Option (RT sg.U [(.int .i64)]) := labs [(0, labOf sg [(1, (.box [.d (.sl (.st 1))])), (16, (.d (.sl (.st 1)))), (17, (.d (.int .i64))), (18, (.d (.int .i64)))] (fun h => lang_ruleFault.l0 k h.1 h.2.1 h.2.2.1 h.2.2.2.1)), (1, labOf sg [(1, (.box [.d (.sl (.st 1))])), (27, (.d (.sl (.st 1)))), (28, (.d (.int .i64))), (29, (.d (.int .i64)))] (fun h => lang_ruleFault.l1 k h.1 h.2.1 h.2.2.1 h.2.2.2.1)), (2, labOf sg [(1, (.box [.d (.sl (.st 1))])), (38, (.d (.sl (.st 1)))), (39, (.d (.int .i64))), (40, (.d (.int .i64)))] (fun h => lang_ruleFault.l2 k h.1 h.2.1 h.2.2.1 h.2.2.2.1)), (3, labOf sg [(49, (.d (.sl (.st 1)))), (50, (.d (.int .i64))), (51, (.d (.int .i64)))] (fun h => lang_ruleFault.l3 k h.1 h.2.1 h.2.2.1))]
theorem lang_ruleFault.l0_eq (k : Nat) (x1_0 : (List T_lang_Test)) (x16 : (List T_lang_Test)) (x17 : Int) (x18 : Int) : lang_ruleFault.l0 (k + 1) x1_0 x16 x17 x18 = runFrom (C := ctx) (lang_ruleFault.O k) ⟨59, [], []⟩ (lang_ruleFault.L k) (Tryd.f25.body.getD .skip) lang_ruleFault.a 0 (endK ctx [(.int .i64)] [(.tmp 2)]) (encD [(1, (.box [.d (.sl (.st 1))])), (16, (.d (.sl (.st 1)))), (17, (.d (.int .i64))), (18, (.d (.int .i64)))] (x1_0, x16, x17, x18, ()) (startD sg.U ⟨59, [], []⟩ [(1, (.box [.d (.sl (.st 1))])), (16, (.d (.sl (.st 1)))), (17, (.d (.int .i64))), (18, (.d (.int .i64)))])) := by
  rw [lang_ruleFault.l0]
  kernel_rfl
theorem lang_ruleFault.l1_eq (k : Nat) (x1_0 : (List T_lang_Test)) (x27 : (List T_lang_Test)) (x28 : Int) (x29 : Int) : lang_ruleFault.l1 (k + 1) x1_0 x27 x28 x29 = runFrom (C := ctx) (lang_ruleFault.O k) ⟨59, [], []⟩ (lang_ruleFault.L k) (Tryd.f25.body.getD .skip) lang_ruleFault.a 1 (endK ctx [(.int .i64)] [(.tmp 2)]) (encD [(1, (.box [.d (.sl (.st 1))])), (27, (.d (.sl (.st 1)))), (28, (.d (.int .i64))), (29, (.d (.int .i64)))] (x1_0, x27, x28, x29, ()) (startD sg.U ⟨59, [], []⟩ [(1, (.box [.d (.sl (.st 1))])), (27, (.d (.sl (.st 1)))), (28, (.d (.int .i64))), (29, (.d (.int .i64)))])) := by
  rw [lang_ruleFault.l1]
  kernel_rfl
theorem lang_ruleFault.l2_eq (k : Nat) (x1_0 : (List T_lang_Test)) (x38 : (List T_lang_Test)) (x39 : Int) (x40 : Int) : lang_ruleFault.l2 (k + 1) x1_0 x38 x39 x40 = runFrom (C := ctx) (lang_ruleFault.O k) ⟨59, [], []⟩ (lang_ruleFault.L k) (Tryd.f25.body.getD .skip) lang_ruleFault.a 2 (endK ctx [(.int .i64)] [(.tmp 2)]) (encD [(1, (.box [.d (.sl (.st 1))])), (38, (.d (.sl (.st 1)))), (39, (.d (.int .i64))), (40, (.d (.int .i64)))] (x1_0, x38, x39, x40, ()) (startD sg.U ⟨59, [], []⟩ [(1, (.box [.d (.sl (.st 1))])), (38, (.d (.sl (.st 1)))), (39, (.d (.int .i64))), (40, (.d (.int .i64)))])) := by
  rw [lang_ruleFault.l2]
  kernel_rfl
theorem lang_ruleFault.l3_eq (k : Nat) (x49 : (List T_lang_Test)) (x50 : Int) (x51 : Int) : lang_ruleFault.l3 (k + 1) x49 x50 x51 = runFrom (C := ctx) (lang_ruleFault.O k) ⟨59, [], []⟩ (lang_ruleFault.L k) (Tryd.f25.body.getD .skip) lang_ruleFault.a 3 (endK ctx [(.int .i64)] [(.tmp 2)]) (encD [(49, (.d (.sl (.st 1)))), (50, (.d (.int .i64))), (51, (.d (.int .i64)))] (x49, x50, x51, ()) (startD sg.U ⟨59, [], []⟩ [(49, (.d (.sl (.st 1)))), (50, (.d (.int .i64))), (51, (.d (.int .i64)))])) := by
  rw [lang_ruleFault.l3]
  kernel_rfl
theorem lang_ruleFault.f_eq (k : Nat) (a0 : T_lang_Rule) : lang_ruleFault.f k a0 = codeK (C := ctx) (lang_ruleFault.O k) ⟨59, [], []⟩ (lang_ruleFault.L k) (Tryd.f25.body.getD .skip) lang_ruleFault.a (endK ctx [(.int .i64)] [(.tmp 2)]) (slotsOf sg.U 0 [(.d (.st 0))] (a0, ()) (empty sg.U)) := by
  unfold lang_ruleFault.f
  kernel_rfl
def lang_ruleFault.e (k : Nat) : Entry sg := entryOf sg [(.d (.st 0))] [(.int .i64)] (fun h => lang_ruleFault.f k h.1)
def lang_ruleFault.T : List (Lb sg (RT sg.U [(.int .i64)])) := [⟨0, [(1, (.box [.d (.sl (.st 1))])), (16, (.d (.sl (.st 1)))), (17, (.d (.int .i64))), (18, (.d (.int .i64)))], fun k h => lang_ruleFault.l0 k h.1 h.2.1 h.2.2.1 h.2.2.2.1⟩, ⟨1, [(1, (.box [.d (.sl (.st 1))])), (27, (.d (.sl (.st 1)))), (28, (.d (.int .i64))), (29, (.d (.int .i64)))], fun k h => lang_ruleFault.l1 k h.1 h.2.1 h.2.2.1 h.2.2.2.1⟩, ⟨2, [(1, (.box [.d (.sl (.st 1))])), (38, (.d (.sl (.st 1)))), (39, (.d (.int .i64))), (40, (.d (.int .i64)))], fun k h => lang_ruleFault.l2 k h.1 h.2.1 h.2.2.1 h.2.2.2.1⟩, ⟨3, [(49, (.d (.sl (.st 1)))), (50, (.d (.int .i64))), (51, (.d (.int .i64)))], fun k h => lang_ruleFault.l3 k h.1 h.2.1 h.2.2.1⟩]
theorem lang_ruleFault.ok (k : Nat) : (lang_ruleFault.e k).Sound Tryd.prog ctx 25 :=
  entry_ok base_ok mo (fn := Tryd.f25) (b := (Tryd.f25.body.getD .skip)) (pm := [(.d (.st 0))]) (rs := [(.int .i64)]) (an := lang_ruleFault.a) (N := 59) (vars := [(.tmp 2)]) Tryd.func25 (by kernel_rfl) (by kernel_rfl) (by kernel_rfl) (by kernel_rfl) (by kernel_rfl) (by kernel_rfl) (O := lang_ruleFault.O)
    (fun k => by unfold lang_ruleFault.O; exact oracle_of (P := Tryd.prog) (C := ctx) ⟨(lang_tests.ok k), ⟨(lang_levels.ok k), ⟨(lang_testForm.ok k), ⟨(lang_testRange.ok k), trivial⟩⟩⟩⟩) lang_ruleFault.T ⟨⟨by kernel_rfl, fun _ => by first | rfl | rw [lang_ruleFault.l0], fun k h => lang_ruleFault.l0_eq k h.1 h.2.1 h.2.2.1 h.2.2.2.1⟩, ⟨⟨by kernel_rfl, fun _ => by first | rfl | rw [lang_ruleFault.l1], fun k h => lang_ruleFault.l1_eq k h.1 h.2.1 h.2.2.1 h.2.2.2.1⟩, ⟨⟨by kernel_rfl, fun _ => by first | rfl | rw [lang_ruleFault.l2], fun k h => lang_ruleFault.l2_eq k h.1 h.2.1 h.2.2.1 h.2.2.2.1⟩, ⟨⟨by kernel_rfl, fun _ => by first | rfl | rw [lang_ruleFault.l3], fun k h => lang_ruleFault.l3_eq k h.1 h.2.1 h.2.2.1⟩, trivial⟩⟩⟩⟩ k (fun h => lang_ruleFault.f_eq k h.1)
def strings_Join.f (a0 : (List ByteArray)) (a1 : ByteArray) : Option (ByteArray) := joinF a0 a1
def strings_Join.e : Entry sg := entryOf sg [(.d (.sl .str)), (.d .str)] [.str] (fun h => strings_Join.f h.1 h.2.1)
theorem strings_Join.ok : (strings_Join.e).Sound Tryd.prog ctx 27 :=
  join_sound (C := ctx) sg_ok Tryd.func27 (by kernel_rfl) (by kernel_rfl) (fun a c sep w => Tryd.strings_Join_none a c sep w) (fun bk o c xs sep w h1 h2 h3 h4 h5 => Tryd.strings_Join bk o c xs sep w h1 h2 h3 h4 h5)
def strconv_Itoa.f (a0 : Int) : Option (ByteArray) := if -9223372036854775808 ≤ a0 ∧ a0 ≤ 9223372036854775807 then some (⟨(Lib.itoa a0).toArray⟩) else none
def strconv_Itoa.e : Entry sg := entryOf sg [(.d (.int .i64))] [.str] (fun h => strconv_Itoa.f h.1)
theorem strconv_Itoa.ok : (strconv_Itoa.e).Sound Tryd.prog ctx 50 :=
  entry_extern (C := ctx) sg_ok Tryd.func50 (by kernel_rfl) (by kernel_rfl) (by kernel_rfl) (by kernel_rfl) (fun hh x w hx hG => by
    unfold strconv_Itoa.f at hx
    split at hx
    · rename_i c
      obtain rfl := Option.some.inj hx
      have htab : Lib.TabIs Tryd.prog w "internal/strconv.uint64pow10" .u64 Lib.pow10Tab := var_of (k := 2) (by kernel_rfl) (hG 2 (by simp [ctx, sg])) rfl
      refine (Tryd.strconv_Itoa hh.1 c.1 c.2 w htab).mono ?_
      rintro e w' ⟨rfl, hb⟩
      exact ⟨rfl, by first | exact hb ▸ Grow.refl _ | exact Grow.of_below hb | (obtain ⟨k, os, rfl⟩ := hb; exact Grow.of_below (Lib.below_grow _ w (Nat.le_refl _) k os))⟩
    · cases hx)
mutual
def lang_testText_c1.l0 : Nat → ByteArray → Int → Int → Int → Int → (List T_lang_Test) → (List ByteArray) → (List T_lang_Test) → Int → Int → Option (ByteArray × Int × Int × Int × Int × (List T_lang_Test) × Unit)
  | 0, _, _, _, _, _, _, _, _, _, _ => none
  | k + 1, x0, x1_0, x1_1, x1_2, x1_3, x1_4, x4, x9, x10, x11 => (bif (ilt x11 x10) then ((lat x9 x11).bind fun y1 => ((lang_testText.f k (T_lang_Test.mk y1.fOp y1.fModulus y1.fLow y1.fHigh y1.fKids)).bind fun y2 => (bif (bif (ieq y1.fOp 3) then (!ieq x1_0 3) else false) then ((scat c__28 y2).bind fun y3 => ((scat y3 c__29).bind fun y4 => (lang_testText_c1.l1 k x0 x1_0 x1_1 x1_2 x1_3 x1_4 x4 y4 x9 x10 x11))) else (lang_testText_c1.l1 k x0 x1_0 x1_1 x1_2 x1_3 x1_4 x4 y2 x9 x10 x11)))) else ((strings_Join.f x4 x0).bind fun y5 => (some (y5, (x1_0, x1_1, x1_2, x1_3, x1_4, ())))))
def lang_testText_c1.l1 : Nat → ByteArray → Int → Int → Int → Int → (List T_lang_Test) → (List ByteArray) → ByteArray → (List T_lang_Test) → Int → Int → Option (ByteArray × Int × Int × Int × Int × (List T_lang_Test) × Unit)
  | 0, _, _, _, _, _, _, _, _, _, _, _ => none
  | k + 1, x0, x1_0, x1_1, x1_2, x1_3, x1_4, x4, x7, x9, x10, x11 => ((lapp 16 x4 [x7]).bind fun y6 => (lang_testText_c1.l0 k x0 x1_0 x1_1 x1_2 x1_3 x1_4 y6 x9 x10 (wadd .i64 x11 1)))
def lang_testText_c1.f : Nat → ByteArray → Int → Int → Int → Int → (List T_lang_Test) → Option (ByteArray × Int × Int × Int × Int × (List T_lang_Test) × Unit)
  | 0, _, _, _, _, _, _ => none
  | k + 1, a0, a1_0, a1_1, a1_2, a1_3, a1_4 => (lang_testText_c1.l0 k a0 a1_0 a1_1 a1_2 a1_3 a1_4 [] a1_4 (llen a1_4) 0)
def lang_testText.l0 : Nat → Int → Int → Int → Int → (List T_lang_Test) → ByteArray → Option (ByteArray)
  | 0, _, _, _, _, _, _ => none
  | k + 1, x1_0, x1_1, x1_2, x1_3, x1_4, x4 => ((strconv_Itoa.f x1_2).bind fun y9 => ((scat c__3d y9).bind fun y10 => ((scat x4 y10).bind fun y11 => (bif (!ieq x1_3 x1_2) then ((strconv_Itoa.f x1_3).bind fun y12 => ((scat c__2e_2e y12).bind fun y13 => ((scat y11 y13).bind fun y14 => (some y14)))) else (some y11)))))
def lang_testText.f : Nat → T_lang_Test → Option (ByteArray)
  | 0, _ => none
  | k + 1, a0 => (bif (ieq a0.fOp 2) then ((lang_testText_c1.f k c__20_26_20 a0.fOp a0.fModulus a0.fLow a0.fHigh a0.fKids).bind fun y1 => (some y1.1)) else (bif (ieq a0.fOp 3) then ((lang_testText_c1.f k c__20_7c_20 a0.fOp a0.fModulus a0.fLow a0.fHigh a0.fKids).bind fun y2 => (some y2.1)) else (bif (ieq a0.fOp 4) then ((lang_testText_c1.f k c__20_7c_20 a0.fOp a0.fModulus a0.fLow a0.fHigh a0.fKids).bind fun y3 => ((scat c__21_28 y3.1).bind fun y4 => ((scat y4 c__29).bind fun y5 => (some y5)))) else (bif (!ieq a0.fModulus 0) then ((strconv_Itoa.f a0.fModulus).bind fun y6 => ((scat c__25 y6).bind fun y7 => ((scat c_n y7).bind fun y8 => (lang_testText.l0 k a0.fOp a0.fModulus a0.fLow a0.fHigh a0.fKids y8)))) else (lang_testText.l0 k a0.fOp a0.fModulus a0.fLow a0.fHigh a0.fKids c_n)))))
end
def lang_testText_c1.e (k : Nat) : Entry sg := entryR sg [(.d .str), (.ref [.d (.int .i64), .d (.int .i64), .d (.int .i64), .d (.int .i64), .d (.sl (.st 1))])] [.str] (fun h => lang_testText_c1.f k h.1 h.2.1 h.2.2.1 h.2.2.2.1 h.2.2.2.2.1 h.2.2.2.2.2.1)
def lang_testText.e (k : Nat) : Entry sg := entryOf sg [(.d (.st 1))] [.str] (fun h => lang_testText.f k h.1)
def lang_testText_c1.O (k : Nat) : Oracle sg := fun n => lkp n [(26, lang_testText.e k), (27, strings_Join.e)]
def lang_testText_c1.a : Ann := (.n .z (.n .z (.n (.n .z (.lp 0 (.n .z (.n .z (.n (.n .z (.n .z (.n .z (.lab 1 .z)))) .z))))) .z)))
def lang_testText_c1.L (k : Nat) : Nat → St sg.U → Option (RT sg.U [.str] × HL sg.U (PM.outs [(.d .str), (.ref [.d (.int .i64), .d (.int .i64), .d (.int .i64), .d (.int .i64), .d (.sl (.st 1))])])) := labs [(0, labOf sg [(0, (.d .str)), (1, (.box [.d (.int .i64), .d (.int .i64), .d (.int .i64), .d (.int .i64), .d (.sl (.st 1))])), (4, (.row 9 .str)), (9, (.d (.sl (.st 1)))), (10, (.d (.int .i64))), (11, (.d (.int .i64)))] (fun h => lang_testText_c1.l0 k h.1 h.2.1 h.2.2.1 h.2.2.2.1 h.2.2.2.2.1 h.2.2.2.2.2.1 h.2.2.2.2.2.2.1 h.2.2.2.2.2.2.2.1 h.2.2.2.2.2.2.2.2.1 h.2.2.2.2.2.2.2.2.2.1)), (1, labOf sg [(0, (.d .str)), (1, (.box [.d (.int .i64), .d (.int .i64), .d (.int .i64), .d (.int .i64), .d (.sl (.st 1))])), (4, (.row 9 .str)), (7, (.d .str)), (9, (.d (.sl (.st 1)))), (10, (.d (.int .i64))), (11, (.d (.int .i64)))] (fun h => lang_testText_c1.l1 k h.1 h.2.1 h.2.2.1 h.2.2.2.1 h.2.2.2.2.1 h.2.2.2.2.2.1 h.2.2.2.2.2.2.1 h.2.2.2.2.2.2.2.1 h.2.2.2.2.2.2.2.2.1 h.2.2.2.2.2.2.2.2.2.1 h.2.2.2.2.2.2.2.2.2.2.1))]
theorem lang_testText_c1.l0_eq (k : Nat) (x0 : ByteArray) (x1_0 : Int) (x1_1 : Int) (x1_2 : Int) (x1_3 : Int) (x1_4 : (List T_lang_Test)) (x4 : (List ByteArray)) (x9 : (List T_lang_Test)) (x10 : Int) (x11 : Int) : lang_testText_c1.l0 (k + 1) x0 x1_0 x1_1 x1_2 x1_3 x1_4 x4 x9 x10 x11 = runFrom (C := ctx) (lang_testText_c1.O k) ⟨36, [1], []⟩ (lang_testText_c1.L k) (Tryd.f57.body.getD .skip) lang_testText_c1.a 0 (endR ctx [.str] [(.tmp 3)] [(.d .str), (.ref [.d (.int .i64), .d (.int .i64), .d (.int .i64), .d (.int .i64), .d (.sl (.st 1))])]) (encD [(0, (.d .str)), (1, (.box [.d (.int .i64), .d (.int .i64), .d (.int .i64), .d (.int .i64), .d (.sl (.st 1))])), (4, (.row 9 .str)), (9, (.d (.sl (.st 1)))), (10, (.d (.int .i64))), (11, (.d (.int .i64)))] (x0, x1_0, x1_1, x1_2, x1_3, x1_4, x4, x9, x10, x11, ()) (startD sg.U ⟨36, [1], []⟩ [(0, (.d .str)), (1, (.box [.d (.int .i64), .d (.int .i64), .d (.int .i64), .d (.int .i64), .d (.sl (.st 1))])), (4, (.row 9 .str)), (9, (.d (.sl (.st 1)))), (10, (.d (.int .i64))), (11, (.d (.int .i64)))])) := by
  rw [lang_testText_c1.l0]
  kernel_rfl
theorem lang_testText_c1.l1_eq (k : Nat) (x0 : ByteArray) (x1_0 : Int) (x1_1 : Int) (x1_2 : Int) (x1_3 : Int) (x1_4 : (List T_lang_Test)) (x4 : (List ByteArray)) (x7 : ByteArray) (x9 : (List T_lang_Test)) (x10 : Int) (x11 : Int) : lang_testText_c1.l1 (k + 1) x0 x1_0 x1_1 x1_2 x1_3 x1_4 x4 x7 x9 x10 x11 = runFrom (C := ctx) (lang_testText_c1.O k) ⟨36, [1], []⟩ (lang_testText_c1.L k) (Tryd.f57.body.getD .skip) lang_testText_c1.a 1 (endR ctx [.str] [(.tmp 3)] [(.d .str), (.ref [.d (.int .i64), .d (.int .i64), .d (.int .i64), .d (.int .i64), .d (.sl (.st 1))])]) (encD [(0, (.d .str)), (1, (.box [.d (.int .i64), .d (.int .i64), .d (.int .i64), .d (.int .i64), .d (.sl (.st 1))])), (4, (.row 9 .str)), (7, (.d .str)), (9, (.d (.sl (.st 1)))), (10, (.d (.int .i64))), (11, (.d (.int .i64)))] (x0, x1_0, x1_1, x1_2, x1_3, x1_4, x4, x7, x9, x10, x11, ()) (startD sg.U ⟨36, [1], []⟩ [(0, (.d .str)), (1, (.box [.d (.int .i64), .d (.int .i64), .d (.int .i64), .d (.int .i64), .d (.sl (.st 1))])), (4, (.row 9 .str)), (7, (.d .str)), (9, (.d (.sl (.st 1)))), (10, (.d (.int .i64))), (11, (.d (.int .i64)))])) := by
  rw [lang_testText_c1.l1]
  kernel_rfl
theorem lang_testText_c1.f_eq (k : Nat) (a0 : ByteArray) (a1_0 : Int) (a1_1 : Int) (a1_2 : Int) (a1_3 : Int) (a1_4 : (List T_lang_Test)) : lang_testText_c1.f (k + 1) a0 a1_0 a1_1 a1_2 a1_3 a1_4 = codeK (C := ctx) (lang_testText_c1.O k) ⟨36, [1], []⟩ (lang_testText_c1.L k) (Tryd.f57.body.getD .skip) lang_testText_c1.a (endR ctx [.str] [(.tmp 3)] [(.d .str), (.ref [.d (.int .i64), .d (.int .i64), .d (.int .i64), .d (.int .i64), .d (.sl (.st 1))])]) (slotsOf sg.U 0 [(.d .str), (.ref [.d (.int .i64), .d (.int .i64), .d (.int .i64), .d (.int .i64), .d (.sl (.st 1))])] (a0, a1_0, a1_1, a1_2, a1_3, a1_4, ()) (emptyG sg.U (PM.gs [(.d .str), (.ref [.d (.int .i64), .d (.int .i64), .d (.int .i64), .d (.int .i64), .d (.sl (.st 1))])]))) := by
  rw [lang_testText_c1.f]
  kernel_rfl
def lang_testText.O (k : Nat) : Oracle sg := fun n => lkp n [(50, strconv_Itoa.e), (57, lang_testText_c1.e k)]
def lang_testText.a : Ann := (.n .z (.n .z (.n .z (.n .z (.n .z (.lab 0 .z))))))
def lang_testText.L (k : Nat) : Nat → St sg.U → Option (RT sg.U [.str]) := labs [(0, labOf sg [(1, (.box [.d (.int .i64), .d (.int .i64), .d (.int .i64), .d (.int .i64), .d (.sl (.st 1))])), (4, (.d .str))] (fun h => lang_testText.l0 k h.1 h.2.1 h.2.2.1 h.2.2.2.1 h.2.2.2.2.1 h.2.2.2.2.2.1))]
theorem lang_testText.l0_eq (k : Nat) (x1_0 : Int) (x1_1 : Int) (x1_2 : Int) (x1_3 : Int) (x1_4 : (List T_lang_Test)) (x4 : ByteArray) : lang_testText.l0 (k + 1) x1_0 x1_1 x1_2 x1_3 x1_4 x4 = runFrom (C := ctx) (lang_testText.O k) ⟨49, [], []⟩ (lang_testText.L k) (Tryd.f26.body.getD .skip) lang_testText.a 0 (endK ctx [.str] [(.tmp 2)]) (encD [(1, (.box [.d (.int .i64), .d (.int .i64), .d (.int .i64), .d (.int .i64), .d (.sl (.st 1))])), (4, (.d .str))] (x1_0, x1_1, x1_2, x1_3, x1_4, x4, ()) (startD sg.U ⟨49, [], []⟩ [(1, (.box [.d (.int .i64), .d (.int .i64), .d (.int .i64), .d (.int .i64), .d (.sl (.st 1))])), (4, (.d .str))])) := by
  rw [lang_testText.l0]
  kernel_rfl
theorem lang_testText.f_eq (k : Nat) (a0 : T_lang_Test) : lang_testText.f (k + 1) a0 = codeK (C := ctx) (lang_testText.O k) ⟨49, [], []⟩ (lang_testText.L k) (Tryd.f26.body.getD .skip) lang_testText.a (endK ctx [.str] [(.tmp 2)]) (slotsOf sg.U 0 [(.d (.st 1))] (a0, ()) (empty sg.U)) := by
  rw [lang_testText.f]
  kernel_rfl
def lang_testText_c1.T : List (Lb sg (RT sg.U [.str] × HL sg.U (PM.outs [(.d .str), (.ref [.d (.int .i64), .d (.int .i64), .d (.int .i64), .d (.int .i64), .d (.sl (.st 1))])]))) := [⟨0, [(0, (.d .str)), (1, (.box [.d (.int .i64), .d (.int .i64), .d (.int .i64), .d (.int .i64), .d (.sl (.st 1))])), (4, (.row 9 .str)), (9, (.d (.sl (.st 1)))), (10, (.d (.int .i64))), (11, (.d (.int .i64)))], fun k h => lang_testText_c1.l0 k h.1 h.2.1 h.2.2.1 h.2.2.2.1 h.2.2.2.2.1 h.2.2.2.2.2.1 h.2.2.2.2.2.2.1 h.2.2.2.2.2.2.2.1 h.2.2.2.2.2.2.2.2.1 h.2.2.2.2.2.2.2.2.2.1⟩, ⟨1, [(0, (.d .str)), (1, (.box [.d (.int .i64), .d (.int .i64), .d (.int .i64), .d (.int .i64), .d (.sl (.st 1))])), (4, (.row 9 .str)), (7, (.d .str)), (9, (.d (.sl (.st 1)))), (10, (.d (.int .i64))), (11, (.d (.int .i64)))], fun k h => lang_testText_c1.l1 k h.1 h.2.1 h.2.2.1 h.2.2.2.1 h.2.2.2.2.1 h.2.2.2.2.2.1 h.2.2.2.2.2.2.1 h.2.2.2.2.2.2.2.1 h.2.2.2.2.2.2.2.2.1 h.2.2.2.2.2.2.2.2.2.1 h.2.2.2.2.2.2.2.2.2.2.1⟩]
def lang_testText.T : List (Lb sg (RT sg.U [.str])) := [⟨0, [(1, (.box [.d (.int .i64), .d (.int .i64), .d (.int .i64), .d (.int .i64), .d (.sl (.st 1))])), (4, (.d .str))], fun k h => lang_testText.l0 k h.1 h.2.1 h.2.2.1 h.2.2.2.1 h.2.2.2.2.1 h.2.2.2.2.2.1⟩]
theorem lang_testText_c1.all : ∀ k : Nat, (lang_testText_c1.e k).Sound Tryd.prog ctx 57 ∧ (lang_testText.e k).Sound Tryd.prog ctx 26 := by
  intro k
  induction k using Nat.strongRecOn with
  | _ k ih =>
    cases k with
    | zero => exact ⟨(entryR_none (by kernel_rfl) (fun _ => by first | rfl | rw [lang_testText_c1.f])), (entry_none (fun _ => by first | rfl | rw [lang_testText.f]))⟩
    | succ k =>
      have own : ∀ j, j ≤ k → (lang_testText_c1.e j).Sound Tryd.prog ctx 57 ∧ (lang_testText.e j).Sound Tryd.prog ctx 26 := fun j hj => ih j (by omega)
      exact ⟨(entryR_step base_ok mo (fn := Tryd.f57) (b := (Tryd.f57.body.getD .skip)) (pm := [(.d .str), (.ref [.d (.int .i64), .d (.int .i64), .d (.int .i64), .d (.int .i64), .d (.sl (.st 1))])]) (rs := [.str]) (an := lang_testText_c1.a) (N := 36) (vars := [(.tmp 3)]) Tryd.func57 (by kernel_rfl) (by kernel_rfl) (by kernel_rfl) (by kernel_rfl) (by kernel_rfl) (by kernel_rfl) (by kernel_rfl) (by kernel_rfl) (O := lang_testText_c1.O) lang_testText_c1.T ⟨⟨by kernel_rfl, fun _ => by first | rfl | rw [lang_testText_c1.l0], fun k h => lang_testText_c1.l0_eq k h.1 h.2.1 h.2.2.1 h.2.2.2.1 h.2.2.2.2.1 h.2.2.2.2.2.1 h.2.2.2.2.2.2.1 h.2.2.2.2.2.2.2.1 h.2.2.2.2.2.2.2.2.1 h.2.2.2.2.2.2.2.2.2.1⟩, ⟨⟨by kernel_rfl, fun _ => by first | rfl | rw [lang_testText_c1.l1], fun k h => lang_testText_c1.l1_eq k h.1 h.2.1 h.2.2.1 h.2.2.2.1 h.2.2.2.2.1 h.2.2.2.2.2.1 h.2.2.2.2.2.2.1 h.2.2.2.2.2.2.2.1 h.2.2.2.2.2.2.2.2.1 h.2.2.2.2.2.2.2.2.2.1 h.2.2.2.2.2.2.2.2.2.2.1⟩, trivial⟩⟩ k (fun h => lang_testText_c1.f_eq k h.1 h.2.1 h.2.2.1 h.2.2.2.1 h.2.2.2.2.1 h.2.2.2.2.2.1) (fun j hj => by unfold lang_testText_c1.O; exact oracle_of (P := Tryd.prog) (C := ctx) ⟨((own j hj).2), ⟨(strings_Join.ok), trivial⟩⟩)), (entry_step base_ok mo (fn := Tryd.f26) (b := (Tryd.f26.body.getD .skip)) (pm := [(.d (.st 1))]) (rs := [.str]) (an := lang_testText.a) (N := 49) (vars := [(.tmp 2)]) Tryd.func26 (by kernel_rfl) (by kernel_rfl) (by kernel_rfl) (by kernel_rfl) (by kernel_rfl) (by kernel_rfl) (O := lang_testText.O) lang_testText.T ⟨⟨by kernel_rfl, fun _ => by first | rfl | rw [lang_testText.l0], fun k h => lang_testText.l0_eq k h.1 h.2.1 h.2.2.1 h.2.2.2.1 h.2.2.2.2.1 h.2.2.2.2.2.1⟩, trivial⟩ k (fun h => lang_testText.f_eq k h.1) (fun j hj => by unfold lang_testText.O; exact oracle_of (P := Tryd.prog) (C := ctx) ⟨(strconv_Itoa.ok), ⟨((own j hj).1), trivial⟩⟩))⟩
theorem lang_testText_c1.ok (k : Nat) : (lang_testText_c1.e k).Sound Tryd.prog ctx 57 := (lang_testText_c1.all k).1
theorem lang_testText.ok (k : Nat) : (lang_testText.e k).Sound Tryd.prog ctx 26 := (lang_testText_c1.all k).2
def lang_RuleString.l0 : Nat → (List ByteArray) → (List T_lang_Test) → Int → Int → Option (ByteArray × Int)
  | 0, _, _, _, _ => none
  | k + 1, x5, x15, x16, x17 => (bif (ilt x17 x16) then ((lat x15 x17).bind fun y2 => ((lang_testText.f k (T_lang_Test.mk y2.fOp y2.fModulus y2.fLow y2.fHigh y2.fKids)).bind fun y3 => ((lapp 16 x5 [y3]).bind fun y4 => (lang_RuleString.l0 k y4 x15 x16 (wadd .i64 x17 1))))) else ((strings_Join.f x5 c__3b_20).bind fun y5 => (bif (ilt 2000 (slen y5)) then (some (c_empty, 4)) else (some (y5, 0)))))
def lang_RuleString.f (k : Nat) (a0 : T_lang_Rule) : Option (ByteArray × Int) := ((lang_ruleFault.f k a0).bind fun y1 => (bif (!ieq y1 0) then (some (c_empty, y1)) else (lang_RuleString.l0 k [] a0.fForms (llen a0.fForms) 0)))
def lang_RuleString.O (k : Nat) : Oracle sg := fun n => lkp n [(25, lang_ruleFault.e k), (26, lang_testText.e k), (27, strings_Join.e)]
def lang_RuleString.a : Ann := (.n .z (.n .z (.n .z (.n (.n .z (.lp 0 .z)) .z))))
def lang_RuleString.L (k : Nat) : Nat → St sg.U → Option (RT sg.U [.str, (.int .i64)]) := labs [(0, labOf sg [(5, (.row 9 .str)), (15, (.d (.sl (.st 1)))), (16, (.d (.int .i64))), (17, (.d (.int .i64)))] (fun h => lang_RuleString.l0 k h.1 h.2.1 h.2.2.1 h.2.2.2.1))]
theorem lang_RuleString.l0_eq (k : Nat) (x5 : (List ByteArray)) (x15 : (List T_lang_Test)) (x16 : Int) (x17 : Int) : lang_RuleString.l0 (k + 1) x5 x15 x16 x17 = runFrom (C := ctx) (lang_RuleString.O k) ⟨33, [], []⟩ (lang_RuleString.L k) (Tryd.f11.body.getD .skip) lang_RuleString.a 0 (endK ctx [.str, (.int .i64)] [(.tmp 2), (.tmp 3)]) (encD [(5, (.row 9 .str)), (15, (.d (.sl (.st 1)))), (16, (.d (.int .i64))), (17, (.d (.int .i64)))] (x5, x15, x16, x17, ()) (startD sg.U ⟨33, [], []⟩ [(5, (.row 9 .str)), (15, (.d (.sl (.st 1)))), (16, (.d (.int .i64))), (17, (.d (.int .i64)))])) := by
  rw [lang_RuleString.l0]
  kernel_rfl
theorem lang_RuleString.f_eq (k : Nat) (a0 : T_lang_Rule) : lang_RuleString.f k a0 = codeK (C := ctx) (lang_RuleString.O k) ⟨33, [], []⟩ (lang_RuleString.L k) (Tryd.f11.body.getD .skip) lang_RuleString.a (endK ctx [.str, (.int .i64)] [(.tmp 2), (.tmp 3)]) (slotsOf sg.U 0 [(.d (.st 0))] (a0, ()) (empty sg.U)) := by
  unfold lang_RuleString.f
  kernel_rfl
def lang_RuleString.e (k : Nat) : Entry sg := entryOf sg [(.d (.st 0))] [.str, (.int .i64)] (fun h => lang_RuleString.f k h.1)
def lang_RuleString.T : List (Lb sg (RT sg.U [.str, (.int .i64)])) := [⟨0, [(5, (.row 9 .str)), (15, (.d (.sl (.st 1)))), (16, (.d (.int .i64))), (17, (.d (.int .i64)))], fun k h => lang_RuleString.l0 k h.1 h.2.1 h.2.2.1 h.2.2.2.1⟩]
theorem lang_RuleString.ok (k : Nat) : (lang_RuleString.e k).Sound Tryd.prog ctx 11 :=
  entry_ok base_ok mo (fn := Tryd.f11) (b := (Tryd.f11.body.getD .skip)) (pm := [(.d (.st 0))]) (rs := [.str, (.int .i64)]) (an := lang_RuleString.a) (N := 33) (vars := [(.tmp 2), (.tmp 3)]) Tryd.func11 (by kernel_rfl) (by kernel_rfl) (by kernel_rfl) (by kernel_rfl) (by kernel_rfl) (by kernel_rfl) (O := lang_RuleString.O)
    (fun k => by unfold lang_RuleString.O; exact oracle_of (P := Tryd.prog) (C := ctx) ⟨(lang_ruleFault.ok k), ⟨(lang_testText.ok k), ⟨(strings_Join.ok), trivial⟩⟩⟩) lang_RuleString.T ⟨⟨by kernel_rfl, fun _ => by first | rfl | rw [lang_RuleString.l0], fun k h => lang_RuleString.l0_eq k h.1 h.2.1 h.2.2.1 h.2.2.2.1⟩, trivial⟩ k (fun h => lang_RuleString.f_eq k h.1)
mutual
def mastref2_testsIn.l0 : Nat → Int → Int → (List T_lang_Test) → Int → Int → Option (Int × Int)
  | 0, _, _, _, _, _ => none
  | k + 1, x2, x3, x9, x10, x11 => (bif (ilt x11 x10) then ((lat x9 x11).bind fun y1 => ((mastref2_testsIn.f k (T_lang_Test.mk y1.fOp y1.fModulus y1.fLow y1.fHigh y1.fKids)).bind fun y2 => (mastref2_testsIn.l0 k (wadd .i64 x2 y2.1) (imax x3 y2.2) x9 x10 (wadd .i64 x11 1)))) else (some (x2, (wadd .i64 x3 1))))
def mastref2_testsIn.f : Nat → T_lang_Test → Option (Int × Int)
  | 0, _ => none
  | k + 1, a0 => (mastref2_testsIn.l0 k 1 0 a0.fKids (llen a0.fKids) 0)
end
def mastref2_testsIn.e (k : Nat) : Entry sg := entryOf sg [(.d (.st 1))] [(.int .i64), (.int .i64)] (fun h => mastref2_testsIn.f k h.1)
def mastref2_testsIn.O (k : Nat) : Oracle sg := fun n => lkp n [(61, mastref2_testsIn.e k)]
def mastref2_testsIn.a : Ann := (.n .z (.n .z (.n (.n .z (.lp 0 .z)) .z)))
def mastref2_testsIn.L (k : Nat) : Nat → St sg.U → Option (RT sg.U [(.int .i64), (.int .i64)]) := labs [(0, labOf sg [(2, (.d (.int .i64))), (3, (.d (.int .i64))), (9, (.d (.sl (.st 1)))), (10, (.d (.int .i64))), (11, (.d (.int .i64)))] (fun h => mastref2_testsIn.l0 k h.1 h.2.1 h.2.2.1 h.2.2.2.1 h.2.2.2.2.1))]
theorem mastref2_testsIn.l0_eq (k : Nat) (x2 : Int) (x3 : Int) (x9 : (List T_lang_Test)) (x10 : Int) (x11 : Int) : mastref2_testsIn.l0 (k + 1) x2 x3 x9 x10 x11 = runFrom (C := ctx) (mastref2_testsIn.O k) ⟨30, [], []⟩ (mastref2_testsIn.L k) (Tryd.f61.body.getD .skip) mastref2_testsIn.a 0 (endK ctx [(.int .i64), (.int .i64)] [(.tmp 2), (.tmp 3)]) (encD [(2, (.d (.int .i64))), (3, (.d (.int .i64))), (9, (.d (.sl (.st 1)))), (10, (.d (.int .i64))), (11, (.d (.int .i64)))] (x2, x3, x9, x10, x11, ()) (startD sg.U ⟨30, [], []⟩ [(2, (.d (.int .i64))), (3, (.d (.int .i64))), (9, (.d (.sl (.st 1)))), (10, (.d (.int .i64))), (11, (.d (.int .i64)))])) := by
  rw [mastref2_testsIn.l0]
  kernel_rfl
theorem mastref2_testsIn.f_eq (k : Nat) (a0 : T_lang_Test) : mastref2_testsIn.f (k + 1) a0 = codeK (C := ctx) (mastref2_testsIn.O k) ⟨30, [], []⟩ (mastref2_testsIn.L k) (Tryd.f61.body.getD .skip) mastref2_testsIn.a (endK ctx [(.int .i64), (.int .i64)] [(.tmp 2), (.tmp 3)]) (slotsOf sg.U 0 [(.d (.st 1))] (a0, ()) (empty sg.U)) := by
  rw [mastref2_testsIn.f]
  kernel_rfl
def mastref2_testsIn.T : List (Lb sg (RT sg.U [(.int .i64), (.int .i64)])) := [⟨0, [(2, (.d (.int .i64))), (3, (.d (.int .i64))), (9, (.d (.sl (.st 1)))), (10, (.d (.int .i64))), (11, (.d (.int .i64)))], fun k h => mastref2_testsIn.l0 k h.1 h.2.1 h.2.2.1 h.2.2.2.1 h.2.2.2.2.1⟩]
theorem mastref2_testsIn.ok : ∀ k : Nat, (mastref2_testsIn.e k).Sound Tryd.prog ctx 61 :=
  entry_rec base_ok mo (fn := Tryd.f61) (b := (Tryd.f61.body.getD .skip)) (pm := [(.d (.st 1))]) (rs := [(.int .i64), (.int .i64)]) (an := mastref2_testsIn.a) (N := 30) (vars := [(.tmp 2), (.tmp 3)]) Tryd.func61 (by kernel_rfl) (by kernel_rfl) (by kernel_rfl) (by kernel_rfl) (by kernel_rfl) (by kernel_rfl) (O := mastref2_testsIn.O) mastref2_testsIn.T ⟨⟨by kernel_rfl, fun _ => by first | rfl | rw [mastref2_testsIn.l0], fun k h => mastref2_testsIn.l0_eq k h.1 h.2.1 h.2.2.1 h.2.2.2.1 h.2.2.2.2.1⟩, trivial⟩ (F := fun k h => mastref2_testsIn.f k h.1) (fun _ => by first | rfl | rw [mastref2_testsIn.f]) (fun k h => mastref2_testsIn.f_eq k h.1)
    (fun k own => by unfold mastref2_testsIn.O; exact oracle_of (P := Tryd.prog) (C := ctx) ⟨own, trivial⟩)
mutual
def mastref2_testForm.l0 : Nat → Int → Int → Int → Int → (List T_lang_Test) → (List T_lang_Test) → Int → Int → Option (Bool)
  | 0, _, _, _, _, _, _, _, _ => none
  | k + 1, x1_0, x1_1, x1_2, x1_3, x1_4, x49, x50, x51 => (bif (ilt x51 x50) then ((lat x49 x51).bind fun y7 => ((mastref2_testForm.f k (T_lang_Test.mk y7.fOp y7.fModulus y7.fLow y7.fHigh y7.fKids)).bind fun y8 => (bif (bif (!y8) then true else (bif (ieq y7.fOp x1_0) then (!ieq x1_0 4) else false)) then (some false) else (mastref2_testForm.l0 k x1_0 x1_1 x1_2 x1_3 x1_4 x49 x50 (wadd .i64 x51 1))))) else (some true))
def mastref2_testForm.f : Nat → T_lang_Test → Option (Bool)
  | 0, _ => none
  | k + 1, a0 => (let y1 : List Int := mputK ieq [] 2; let y2 : List Int := mputV ieq [] [] 2 2; (let y3 : List Int := mputK ieq y1 3; let y4 : List Int := mputV ieq y1 y2 3 2; (let y5 : List Int := mputK ieq y3 4; let y6 : List Int := mputV ieq y3 y4 4 1; (bif (ieq a0.fOp 1) then (some (ieq (llen a0.fKids) 0)) else (bif (bif (bif (bif (bif (!((mget ieq y5 y6 a0.fOp).isSome)) then true else (ilt (llen a0.fKids) ((mget ieq y5 y6 a0.fOp).getD 0))) then true else (!ieq a0.fModulus 0)) then true else (!ieq a0.fLow 0)) then true else (!ieq a0.fHigh 0)) then (some false) else (mastref2_testForm.l0 k a0.fOp a0.fModulus a0.fLow a0.fHigh a0.fKids a0.fKids (llen a0.fKids) 0))))))
end
def mastref2_testForm.e (k : Nat) : Entry sg := entryOf sg [(.d (.st 1))] [.bool] (fun h => mastref2_testForm.f k h.1)
def mastref2_testForm.O (k : Nat) : Oracle sg := fun n => lkp n [(62, mastref2_testForm.e k)]
def mastref2_testForm.a : Ann := (.n .z (.n .z (.n .z (.n .z (.n .z (.n (.n .z (.lp 0 .z)) .z))))))
def mastref2_testForm.L (k : Nat) : Nat → St sg.U → Option (RT sg.U [.bool]) := labs [(0, labOf sg [(1, (.box [.d (.int .i64), .d (.int .i64), .d (.int .i64), .d (.int .i64), .d (.sl (.st 1))])), (49, (.d (.sl (.st 1)))), (50, (.d (.int .i64))), (51, (.d (.int .i64)))] (fun h => mastref2_testForm.l0 k h.1 h.2.1 h.2.2.1 h.2.2.2.1 h.2.2.2.2.1 h.2.2.2.2.2.1 h.2.2.2.2.2.2.1 h.2.2.2.2.2.2.2.1))]
theorem mastref2_testForm.l0_eq (k : Nat) (x1_0 : Int) (x1_1 : Int) (x1_2 : Int) (x1_3 : Int) (x1_4 : (List T_lang_Test)) (x49 : (List T_lang_Test)) (x50 : Int) (x51 : Int) : mastref2_testForm.l0 (k + 1) x1_0 x1_1 x1_2 x1_3 x1_4 x49 x50 x51 = runFrom (C := ctx) (mastref2_testForm.O k) ⟨71, [], []⟩ (mastref2_testForm.L k) (Tryd.f62.body.getD .skip) mastref2_testForm.a 0 (endK ctx [.bool] [(.tmp 2)]) (encD [(1, (.box [.d (.int .i64), .d (.int .i64), .d (.int .i64), .d (.int .i64), .d (.sl (.st 1))])), (49, (.d (.sl (.st 1)))), (50, (.d (.int .i64))), (51, (.d (.int .i64)))] (x1_0, x1_1, x1_2, x1_3, x1_4, x49, x50, x51, ()) (startD sg.U ⟨71, [], []⟩ [(1, (.box [.d (.int .i64), .d (.int .i64), .d (.int .i64), .d (.int .i64), .d (.sl (.st 1))])), (49, (.d (.sl (.st 1)))), (50, (.d (.int .i64))), (51, (.d (.int .i64)))])) := by
  rw [mastref2_testForm.l0]
  kernel_rfl
theorem mastref2_testForm.f_eq (k : Nat) (a0 : T_lang_Test) : mastref2_testForm.f (k + 1) a0 = codeK (C := ctx) (mastref2_testForm.O k) ⟨71, [], []⟩ (mastref2_testForm.L k) (Tryd.f62.body.getD .skip) mastref2_testForm.a (endK ctx [.bool] [(.tmp 2)]) (slotsOf sg.U 0 [(.d (.st 1))] (a0, ()) (empty sg.U)) := by
  rw [mastref2_testForm.f]
  kernel_rfl
def mastref2_testForm.T : List (Lb sg (RT sg.U [.bool])) := [⟨0, [(1, (.box [.d (.int .i64), .d (.int .i64), .d (.int .i64), .d (.int .i64), .d (.sl (.st 1))])), (49, (.d (.sl (.st 1)))), (50, (.d (.int .i64))), (51, (.d (.int .i64)))], fun k h => mastref2_testForm.l0 k h.1 h.2.1 h.2.2.1 h.2.2.2.1 h.2.2.2.2.1 h.2.2.2.2.2.1 h.2.2.2.2.2.2.1 h.2.2.2.2.2.2.2.1⟩]
theorem mastref2_testForm.ok : ∀ k : Nat, (mastref2_testForm.e k).Sound Tryd.prog ctx 62 :=
  entry_rec base_ok mo (fn := Tryd.f62) (b := (Tryd.f62.body.getD .skip)) (pm := [(.d (.st 1))]) (rs := [.bool]) (an := mastref2_testForm.a) (N := 71) (vars := [(.tmp 2)]) Tryd.func62 (by kernel_rfl) (by kernel_rfl) (by kernel_rfl) (by kernel_rfl) (by kernel_rfl) (by kernel_rfl) (O := mastref2_testForm.O) mastref2_testForm.T ⟨⟨by kernel_rfl, fun _ => by first | rfl | rw [mastref2_testForm.l0], fun k h => mastref2_testForm.l0_eq k h.1 h.2.1 h.2.2.1 h.2.2.2.1 h.2.2.2.2.1 h.2.2.2.2.2.1 h.2.2.2.2.2.2.1 h.2.2.2.2.2.2.2.1⟩, trivial⟩ (F := fun k h => mastref2_testForm.f k h.1) (fun _ => by first | rfl | rw [mastref2_testForm.f]) (fun k h => mastref2_testForm.f_eq k h.1)
    (fun k own => by unfold mastref2_testForm.O; exact oracle_of (P := Tryd.prog) (C := ctx) ⟨own, trivial⟩)
mutual
def mastref2_testRange_c1.f : Nat → T_lang_Test → Option (Bool)
  | 0, _ => none
  | k + 1, a0 => ((mastref2_testRange.f k (T_lang_Test.mk a0.fOp a0.fModulus a0.fLow a0.fHigh a0.fKids)).bind fun y1 => (some (!y1)))
def slices_IndexFunc_lang_Test_lang_Test_at_mastref2_testRange_c1.l0 : Nat → (List T_lang_Test) → Int → Int → Option (Int)
  | 0, _, _, _ => none
  | k + 1, x0, x7, x8 => (bif (ilt x8 x7) then ((lat x0 x8).bind fun y1 => ((mastref2_testRange_c1.f k y1).bind fun y2 => (bif y2 then (some x8) else (slices_IndexFunc_lang_Test_lang_Test_at_mastref2_testRange_c1.l0 k x0 x7 (wadd .i64 x8 1))))) else (some (-1)))
def slices_IndexFunc_lang_Test_lang_Test_at_mastref2_testRange_c1.f : Nat → (List T_lang_Test) → Option (Int)
  | 0, _ => none
  | k + 1, a0 => (slices_IndexFunc_lang_Test_lang_Test_at_mastref2_testRange_c1.l0 k a0 (llen a0) 0)
def slices_ContainsFunc_lang_Test_lang_Test_at_mastref2_testRange_c1.f : Nat → (List T_lang_Test) → Option (Bool)
  | 0, _ => none
  | k + 1, a0 => ((slices_IndexFunc_lang_Test_lang_Test_at_mastref2_testRange_c1.f k a0).bind fun y1 => (some (ile 0 y1)))
def mastref2_testRange.f : Nat → T_lang_Test → Option (Bool)
  | 0, _ => none
  | k + 1, a0 => (bif (ieq a0.fOp 1) then (some (bif (bif (bif (bif (ieq a0.fModulus 0) then true else (bif (ile 2 a0.fModulus) then (ile a0.fModulus 1000000) else false)) then (ile 0 a0.fLow) else false) then (ile a0.fLow a0.fHigh) else false) then (ile a0.fHigh 1000000000) else false)) else ((slices_ContainsFunc_lang_Test_lang_Test_at_mastref2_testRange_c1.f k a0.fKids).bind fun y1 => (some (!y1))))
end
def mastref2_testRange_c1.e (k : Nat) : Entry sg := entryOf sg [(.d (.st 1))] [.bool] (fun h => mastref2_testRange_c1.f k h.1)
def slices_IndexFunc_lang_Test_lang_Test_at_mastref2_testRange_c1.e (k : Nat) : Entry sg := entryOf sg [(.d (.sl (.st 1))), .fn 84] [(.int .i64)] (fun h => slices_IndexFunc_lang_Test_lang_Test_at_mastref2_testRange_c1.f k h.1)
def slices_ContainsFunc_lang_Test_lang_Test_at_mastref2_testRange_c1.e (k : Nat) : Entry sg := entryOf sg [(.d (.sl (.st 1))), .fn 84] [.bool] (fun h => slices_ContainsFunc_lang_Test_lang_Test_at_mastref2_testRange_c1.f k h.1)
def mastref2_testRange.e (k : Nat) : Entry sg := entryOf sg [(.d (.st 1))] [.bool] (fun h => mastref2_testRange.f k h.1)
def mastref2_testRange_c1.O (k : Nat) : Oracle sg := fun n => lkp n [(63, mastref2_testRange.e k)]
def mastref2_testRange_c1.a : Ann := .z
def mastref2_testRange_c1.L (k : Nat) : Nat → St sg.U → Option (RT sg.U [.bool]) := labs []
theorem mastref2_testRange_c1.f_eq (k : Nat) (a0 : T_lang_Test) : mastref2_testRange_c1.f (k + 1) a0 = codeK (C := ctx) (mastref2_testRange_c1.O k) ⟨6, [], []⟩ (mastref2_testRange_c1.L k) (Tryd.f84.body.getD .skip) mastref2_testRange_c1.a (endK ctx [.bool] [(.tmp 2)]) (slotsOf sg.U 0 [(.d (.st 1))] (a0, ()) (empty sg.U)) := by
  rw [mastref2_testRange_c1.f]
  kernel_rfl
def slices_IndexFunc_lang_Test_lang_Test_at_mastref2_testRange_c1.O (k : Nat) : Oracle sg := fun n => lkp n [(84, mastref2_testRange_c1.e k)]
def slices_IndexFunc_lang_Test_lang_Test_at_mastref2_testRange_c1.a : Ann := (.n .z (.n (.n .z (.lp 0 .z)) .z))
def slices_IndexFunc_lang_Test_lang_Test_at_mastref2_testRange_c1.L (k : Nat) : Nat → St sg.U → Option (RT sg.U [(.int .i64)]) := labs [(0, labOf sg [(0, (.d (.sl (.st 1)))), (1, (.clo 84 [])), (7, (.d (.int .i64))), (8, (.d (.int .i64)))] (fun h => slices_IndexFunc_lang_Test_lang_Test_at_mastref2_testRange_c1.l0 k h.1 h.2.1 h.2.2.1))]
theorem slices_IndexFunc_lang_Test_lang_Test_at_mastref2_testRange_c1.l0_eq (k : Nat) (x0 : (List T_lang_Test)) (x7 : Int) (x8 : Int) : slices_IndexFunc_lang_Test_lang_Test_at_mastref2_testRange_c1.l0 (k + 1) x0 x7 x8 = runFrom (C := ctx) (slices_IndexFunc_lang_Test_lang_Test_at_mastref2_testRange_c1.O k) ⟨19, [], []⟩ (slices_IndexFunc_lang_Test_lang_Test_at_mastref2_testRange_c1.L k) (Tryd.f114.body.getD .skip) slices_IndexFunc_lang_Test_lang_Test_at_mastref2_testRange_c1.a 0 (endK ctx [(.int .i64)] [(.tmp 4)]) (encD [(0, (.d (.sl (.st 1)))), (1, (.clo 84 [])), (7, (.d (.int .i64))), (8, (.d (.int .i64)))] (x0, x7, x8, ()) (startD sg.U ⟨19, [], []⟩ [(0, (.d (.sl (.st 1)))), (1, (.clo 84 [])), (7, (.d (.int .i64))), (8, (.d (.int .i64)))])) := by
  rw [slices_IndexFunc_lang_Test_lang_Test_at_mastref2_testRange_c1.l0]
  kernel_rfl
theorem slices_IndexFunc_lang_Test_lang_Test_at_mastref2_testRange_c1.f_eq (k : Nat) (a0 : (List T_lang_Test)) : slices_IndexFunc_lang_Test_lang_Test_at_mastref2_testRange_c1.f (k + 1) a0 = codeK (C := ctx) (slices_IndexFunc_lang_Test_lang_Test_at_mastref2_testRange_c1.O k) ⟨19, [], []⟩ (slices_IndexFunc_lang_Test_lang_Test_at_mastref2_testRange_c1.L k) (Tryd.f114.body.getD .skip) slices_IndexFunc_lang_Test_lang_Test_at_mastref2_testRange_c1.a (endK ctx [(.int .i64)] [(.tmp 4)]) (slotsOf sg.U 0 [(.d (.sl (.st 1))), .fn 84] (a0, ()) (empty sg.U)) := by
  rw [slices_IndexFunc_lang_Test_lang_Test_at_mastref2_testRange_c1.f]
  kernel_rfl
def slices_ContainsFunc_lang_Test_lang_Test_at_mastref2_testRange_c1.O (k : Nat) : Oracle sg := fun n => lkp n [(114, slices_IndexFunc_lang_Test_lang_Test_at_mastref2_testRange_c1.e k)]
def slices_ContainsFunc_lang_Test_lang_Test_at_mastref2_testRange_c1.a : Ann := .z
def slices_ContainsFunc_lang_Test_lang_Test_at_mastref2_testRange_c1.L (k : Nat) : Nat → St sg.U → Option (RT sg.U [.bool]) := labs []
theorem slices_ContainsFunc_lang_Test_lang_Test_at_mastref2_testRange_c1.f_eq (k : Nat) (a0 : (List T_lang_Test)) : slices_ContainsFunc_lang_Test_lang_Test_at_mastref2_testRange_c1.f (k + 1) a0 = codeK (C := ctx) (slices_ContainsFunc_lang_Test_lang_Test_at_mastref2_testRange_c1.O k) ⟨9, [], []⟩ (slices_ContainsFunc_lang_Test_lang_Test_at_mastref2_testRange_c1.L k) (Tryd.f83.body.getD .skip) slices_ContainsFunc_lang_Test_lang_Test_at_mastref2_testRange_c1.a (endK ctx [.bool] [(.tmp 4)]) (slotsOf sg.U 0 [(.d (.sl (.st 1))), .fn 84] (a0, ()) (empty sg.U)) := by
  rw [slices_ContainsFunc_lang_Test_lang_Test_at_mastref2_testRange_c1.f]
  kernel_rfl
def mastref2_testRange.O (k : Nat) : Oracle sg := fun n => lkp n [(83, slices_ContainsFunc_lang_Test_lang_Test_at_mastref2_testRange_c1.e k)]
def mastref2_testRange.a : Ann := .z
def mastref2_testRange.L (k : Nat) : Nat → St sg.U → Option (RT sg.U [.bool]) := labs []
theorem mastref2_testRange.f_eq (k : Nat) (a0 : T_lang_Test) : mastref2_testRange.f (k + 1) a0 = codeK (C := ctx) (mastref2_testRange.O k) ⟨40, [], []⟩ (mastref2_testRange.L k) (Tryd.f63.body.getD .skip) mastref2_testRange.a (endK ctx [.bool] [(.tmp 2)]) (slotsOf sg.U 0 [(.d (.st 1))] (a0, ()) (empty sg.U)) := by
  rw [mastref2_testRange.f]
  kernel_rfl
def mastref2_testRange_c1.T : List (Lb sg (RT sg.U [.bool])) := []
def slices_IndexFunc_lang_Test_lang_Test_at_mastref2_testRange_c1.T : List (Lb sg (RT sg.U [(.int .i64)])) := [⟨0, [(0, (.d (.sl (.st 1)))), (1, (.clo 84 [])), (7, (.d (.int .i64))), (8, (.d (.int .i64)))], fun k h => slices_IndexFunc_lang_Test_lang_Test_at_mastref2_testRange_c1.l0 k h.1 h.2.1 h.2.2.1⟩]
def slices_ContainsFunc_lang_Test_lang_Test_at_mastref2_testRange_c1.T : List (Lb sg (RT sg.U [.bool])) := []
def mastref2_testRange.T : List (Lb sg (RT sg.U [.bool])) := []
theorem mastref2_testRange_c1.all : ∀ k : Nat, (mastref2_testRange_c1.e k).Sound Tryd.prog ctx 84 ∧ (slices_IndexFunc_lang_Test_lang_Test_at_mastref2_testRange_c1.e k).Sound Tryd.prog ctx 114 ∧ (slices_ContainsFunc_lang_Test_lang_Test_at_mastref2_testRange_c1.e k).Sound Tryd.prog ctx 83 ∧ (mastref2_testRange.e k).Sound Tryd.prog ctx 63 := by
  intro k
  induction k using Nat.strongRecOn with
  | _ k ih =>
    cases k with
    | zero => exact ⟨(entry_none (fun _ => by first | rfl | rw [mastref2_testRange_c1.f])), (entry_none (fun _ => by first | rfl | rw [slices_IndexFunc_lang_Test_lang_Test_at_mastref2_testRange_c1.f])), (entry_none (fun _ => by first | rfl | rw [slices_ContainsFunc_lang_Test_lang_Test_at_mastref2_testRange_c1.f])), (entry_none (fun _ => by first | rfl | rw [mastref2_testRange.f]))⟩
    | succ k =>
      have own : ∀ j, j ≤ k → (mastref2_testRange_c1.e j).Sound Tryd.prog ctx 84 ∧ (slices_IndexFunc_lang_Test_lang_Test_at_mastref2_testRange_c1.e j).Sound Tryd.prog ctx 114 ∧ (slices_ContainsFunc_lang_Test_lang_Test_at_mastref2_testRange_c1.e j).Sound Tryd.prog ctx 83 ∧ (mastref2_testRange.e j).Sound Tryd.prog ctx 63 := fun j hj => ih j (by omega)
      exact ⟨(entry_step base_ok mo (fn := Tryd.f84) (b := (Tryd.f84.body.getD .skip)) (pm := [(.d (.st 1))]) (rs := [.bool]) (an := mastref2_testRange_c1.a) (N := 6) (vars := [(.tmp 2)]) Tryd.func84 (by kernel_rfl) (by kernel_rfl) (by kernel_rfl) (by kernel_rfl) (by kernel_rfl) (by kernel_rfl) (O := mastref2_testRange_c1.O) mastref2_testRange_c1.T trivial k (fun h => mastref2_testRange_c1.f_eq k h.1) (fun j hj => by unfold mastref2_testRange_c1.O; exact oracle_of (P := Tryd.prog) (C := ctx) ⟨((own j hj).2.2.2), trivial⟩)), (entry_step base_ok mo (fn := Tryd.f114) (b := (Tryd.f114.body.getD .skip)) (pm := [(.d (.sl (.st 1))), .fn 84]) (rs := [(.int .i64)]) (an := slices_IndexFunc_lang_Test_lang_Test_at_mastref2_testRange_c1.a) (N := 19) (vars := [(.tmp 4)]) Tryd.func114 (by kernel_rfl) (by kernel_rfl) (by kernel_rfl) (by kernel_rfl) (by kernel_rfl) (by kernel_rfl) (O := slices_IndexFunc_lang_Test_lang_Test_at_mastref2_testRange_c1.O) slices_IndexFunc_lang_Test_lang_Test_at_mastref2_testRange_c1.T ⟨⟨by kernel_rfl, fun _ => by first | rfl | rw [slices_IndexFunc_lang_Test_lang_Test_at_mastref2_testRange_c1.l0], fun k h => slices_IndexFunc_lang_Test_lang_Test_at_mastref2_testRange_c1.l0_eq k h.1 h.2.1 h.2.2.1⟩, trivial⟩ k (fun h => slices_IndexFunc_lang_Test_lang_Test_at_mastref2_testRange_c1.f_eq k h.1) (fun j hj => by unfold slices_IndexFunc_lang_Test_lang_Test_at_mastref2_testRange_c1.O; exact oracle_of (P := Tryd.prog) (C := ctx) ⟨((own j hj).1), trivial⟩)), (entry_step base_ok mo (fn := Tryd.f83) (b := (Tryd.f83.body.getD .skip)) (pm := [(.d (.sl (.st 1))), .fn 84]) (rs := [.bool]) (an := slices_ContainsFunc_lang_Test_lang_Test_at_mastref2_testRange_c1.a) (N := 9) (vars := [(.tmp 4)]) Tryd.func83 (by kernel_rfl) (by kernel_rfl) (by kernel_rfl) (by kernel_rfl) (by kernel_rfl) (by kernel_rfl) (O := slices_ContainsFunc_lang_Test_lang_Test_at_mastref2_testRange_c1.O) slices_ContainsFunc_lang_Test_lang_Test_at_mastref2_testRange_c1.T trivial k (fun h => slices_ContainsFunc_lang_Test_lang_Test_at_mastref2_testRange_c1.f_eq k h.1) (fun j hj => by unfold slices_ContainsFunc_lang_Test_lang_Test_at_mastref2_testRange_c1.O; exact oracle_of (P := Tryd.prog) (C := ctx) ⟨((own j hj).2.1), trivial⟩)), (entry_step base_ok mo (fn := Tryd.f63) (b := (Tryd.f63.body.getD .skip)) (pm := [(.d (.st 1))]) (rs := [.bool]) (an := mastref2_testRange.a) (N := 40) (vars := [(.tmp 2)]) Tryd.func63 (by kernel_rfl) (by kernel_rfl) (by kernel_rfl) (by kernel_rfl) (by kernel_rfl) (by kernel_rfl) (O := mastref2_testRange.O) mastref2_testRange.T trivial k (fun h => mastref2_testRange.f_eq k h.1) (fun j hj => by unfold mastref2_testRange.O; exact oracle_of (P := Tryd.prog) (C := ctx) ⟨((own j hj).2.2.1), trivial⟩))⟩
theorem mastref2_testRange_c1.ok (k : Nat) : (mastref2_testRange_c1.e k).Sound Tryd.prog ctx 84 := (mastref2_testRange_c1.all k).1
theorem slices_IndexFunc_lang_Test_lang_Test_at_mastref2_testRange_c1.ok (k : Nat) : (slices_IndexFunc_lang_Test_lang_Test_at_mastref2_testRange_c1.e k).Sound Tryd.prog ctx 114 := (mastref2_testRange_c1.all k).2.1
theorem slices_ContainsFunc_lang_Test_lang_Test_at_mastref2_testRange_c1.ok (k : Nat) : (slices_ContainsFunc_lang_Test_lang_Test_at_mastref2_testRange_c1.e k).Sound Tryd.prog ctx 83 := (mastref2_testRange_c1.all k).2.2.1
theorem mastref2_testRange.ok (k : Nat) : (mastref2_testRange.e k).Sound Tryd.prog ctx 63 := (mastref2_testRange_c1.all k).2.2.2
def mastref2_RuleFault.l0 : Nat → Bool → Bool → Bool → (List T_lang_Test) → Int → Int → Option (Int)
  | 0, _, _, _, _, _, _ => none
  | k + 1, x3, x4, x5, x15, x16, x17 => (bif (ilt x17 x16) then ((lat x15 x17).bind fun y1 => ((mastref2_testsIn.f k (T_lang_Test.mk y1.fOp y1.fModulus y1.fLow y1.fHigh y1.fKids)).bind fun y2 => (bif (ilt 20 y2.1) then (some 4) else (bif x4 then ((mastref2_testForm.f k (T_lang_Test.mk y1.fOp y1.fModulus y1.fLow y1.fHigh y1.fKids)).bind fun y3 => (bif x5 then ((mastref2_testRange.f k (T_lang_Test.mk y1.fOp y1.fModulus y1.fLow y1.fHigh y1.fKids)).bind fun y4 => (mastref2_RuleFault.l0 k (bif x3 then true else (ilt 12 y2.2)) y3 y4 x15 x16 (wadd .i64 x17 1))) else (mastref2_RuleFault.l0 k (bif x3 then true else (ilt 12 y2.2)) y3 false x15 x16 (wadd .i64 x17 1)))) else (bif x5 then ((mastref2_testRange.f k (T_lang_Test.mk y1.fOp y1.fModulus y1.fLow y1.fHigh y1.fKids)).bind fun y5 => (mastref2_RuleFault.l0 k (bif x3 then true else (ilt 12 y2.2)) false y5 x15 x16 (wadd .i64 x17 1))) else (mastref2_RuleFault.l0 k (bif x3 then true else (ilt 12 y2.2)) false false x15 x16 (wadd .i64 x17 1))))))) else (bif x3 then (some 13) else (bif (!x4) then (some 1) else (bif (!x5) then (some 2) else (some 0)))))
def mastref2_RuleFault.f (k : Nat) (a0 : T_lang_Rule) : Option (Int) := (bif (ilt 6 (llen a0.fForms)) then (some 4) else (mastref2_RuleFault.l0 k false true true a0.fForms (llen a0.fForms) 0))
def mastref2_RuleFault.O (k : Nat) : Oracle sg := fun n => lkp n [(61, mastref2_testsIn.e k), (62, mastref2_testForm.e k), (63, mastref2_testRange.e k)]
def mastref2_RuleFault.a : Ann := (.n .z (.n .z (.n .z (.n (.n .z (.lp 0 .z)) .z))))
def mastref2_RuleFault.L (k : Nat) : Nat → St sg.U → Option (RT sg.U [(.int .i64)]) := labs [(0, labOf sg [(3, (.d .bool)), (4, (.d .bool)), (5, (.d .bool)), (15, (.d (.sl (.st 1)))), (16, (.d (.int .i64))), (17, (.d (.int .i64)))] (fun h => mastref2_RuleFault.l0 k h.1 h.2.1 h.2.2.1 h.2.2.2.1 h.2.2.2.2.1 h.2.2.2.2.2.1))]
theorem mastref2_RuleFault.l0_eq (k : Nat) (x3 : Bool) (x4 : Bool) (x5 : Bool) (x15 : (List T_lang_Test)) (x16 : Int) (x17 : Int) : mastref2_RuleFault.l0 (k + 1) x3 x4 x5 x15 x16 x17 = runFrom (C := ctx) (mastref2_RuleFault.O k) ⟨52, [], []⟩ (mastref2_RuleFault.L k) (Tryd.f28.body.getD .skip) mastref2_RuleFault.a 0 (endK ctx [(.int .i64)] [(.tmp 2)]) (encD [(3, (.d .bool)), (4, (.d .bool)), (5, (.d .bool)), (15, (.d (.sl (.st 1)))), (16, (.d (.int .i64))), (17, (.d (.int .i64)))] (x3, x4, x5, x15, x16, x17, ()) (startD sg.U ⟨52, [], []⟩ [(3, (.d .bool)), (4, (.d .bool)), (5, (.d .bool)), (15, (.d (.sl (.st 1)))), (16, (.d (.int .i64))), (17, (.d (.int .i64)))])) := by
  rw [mastref2_RuleFault.l0]
  kernel_rfl
theorem mastref2_RuleFault.f_eq (k : Nat) (a0 : T_lang_Rule) : mastref2_RuleFault.f k a0 = codeK (C := ctx) (mastref2_RuleFault.O k) ⟨52, [], []⟩ (mastref2_RuleFault.L k) (Tryd.f28.body.getD .skip) mastref2_RuleFault.a (endK ctx [(.int .i64)] [(.tmp 2)]) (slotsOf sg.U 0 [(.d (.st 0))] (a0, ()) (empty sg.U)) := by
  unfold mastref2_RuleFault.f
  kernel_rfl
def mastref2_RuleFault.e (k : Nat) : Entry sg := entryOf sg [(.d (.st 0))] [(.int .i64)] (fun h => mastref2_RuleFault.f k h.1)
def mastref2_RuleFault.T : List (Lb sg (RT sg.U [(.int .i64)])) := [⟨0, [(3, (.d .bool)), (4, (.d .bool)), (5, (.d .bool)), (15, (.d (.sl (.st 1)))), (16, (.d (.int .i64))), (17, (.d (.int .i64)))], fun k h => mastref2_RuleFault.l0 k h.1 h.2.1 h.2.2.1 h.2.2.2.1 h.2.2.2.2.1 h.2.2.2.2.2.1⟩]
theorem mastref2_RuleFault.ok (k : Nat) : (mastref2_RuleFault.e k).Sound Tryd.prog ctx 28 :=
  entry_ok base_ok mo (fn := Tryd.f28) (b := (Tryd.f28.body.getD .skip)) (pm := [(.d (.st 0))]) (rs := [(.int .i64)]) (an := mastref2_RuleFault.a) (N := 52) (vars := [(.tmp 2)]) Tryd.func28 (by kernel_rfl) (by kernel_rfl) (by kernel_rfl) (by kernel_rfl) (by kernel_rfl) (by kernel_rfl) (O := mastref2_RuleFault.O)
    (fun k => by unfold mastref2_RuleFault.O; exact oracle_of (P := Tryd.prog) (C := ctx) ⟨(mastref2_testsIn.ok k), ⟨(mastref2_testForm.ok k), ⟨(mastref2_testRange.ok k), trivial⟩⟩⟩) mastref2_RuleFault.T ⟨⟨by kernel_rfl, fun _ => by first | rfl | rw [mastref2_RuleFault.l0], fun k h => mastref2_RuleFault.l0_eq k h.1 h.2.1 h.2.2.1 h.2.2.2.1 h.2.2.2.2.1 h.2.2.2.2.2.1⟩, trivial⟩ k (fun h => mastref2_RuleFault.f_eq k h.1)
mutual
def mastref2_testString_c1.l0 : Nat → ByteArray → Bool → Int → Int → Int → Int → (List T_lang_Test) → (List ByteArray) → (List T_lang_Test) → Int → Int → Option (ByteArray × Int × Int × Int × Int × (List T_lang_Test) × Unit)
  | 0, _, _, _, _, _, _, _, _, _, _, _ => none
  | k + 1, x0, x1, x2_0, x2_1, x2_2, x2_3, x2_4, x6, x11, x12, x13 => (bif (ilt x13 x12) then ((lat x11 x13).bind fun y1 => ((mastref2_testString.f k (T_lang_Test.mk y1.fOp y1.fModulus y1.fLow y1.fHigh y1.fKids)).bind fun y2 => (bif (bif x1 then (ieq y1.fOp 3) else false) then ((scat c__28 y2).bind fun y3 => ((scat y3 c__29).bind fun y4 => (mastref2_testString_c1.l1 k x0 x1 x2_0 x2_1 x2_2 x2_3 x2_4 x6 y4 x11 x12 x13))) else (mastref2_testString_c1.l1 k x0 x1 x2_0 x2_1 x2_2 x2_3 x2_4 x6 y2 x11 x12 x13)))) else ((strings_Join.f x6 x0).bind fun y5 => (some (y5, (x2_0, x2_1, x2_2, x2_3, x2_4, ())))))
def mastref2_testString_c1.l1 : Nat → ByteArray → Bool → Int → Int → Int → Int → (List T_lang_Test) → (List ByteArray) → ByteArray → (List T_lang_Test) → Int → Int → Option (ByteArray × Int × Int × Int × Int × (List T_lang_Test) × Unit)
  | 0, _, _, _, _, _, _, _, _, _, _, _, _ => none
  | k + 1, x0, x1, x2_0, x2_1, x2_2, x2_3, x2_4, x6, x9, x11, x12, x13 => ((lapp 16 x6 [x9]).bind fun y6 => (mastref2_testString_c1.l0 k x0 x1 x2_0 x2_1 x2_2 x2_3 x2_4 y6 x11 x12 (wadd .i64 x13 1)))
def mastref2_testString_c1.f : Nat → ByteArray → Bool → Int → Int → Int → Int → (List T_lang_Test) → Option (ByteArray × Int × Int × Int × Int × (List T_lang_Test) × Unit)
  | 0, _, _, _, _, _, _, _ => none
  | k + 1, a0, a1, a2_0, a2_1, a2_2, a2_3, a2_4 => (mastref2_testString_c1.l0 k a0 a1 a2_0 a2_1 a2_2 a2_3 a2_4 [] a2_4 (llen a2_4) 0)
def mastref2_testString.l0 : Nat → Int → Int → Int → Int → (List T_lang_Test) → ByteArray → Option (ByteArray)
  | 0, _, _, _, _, _, _ => none
  | k + 1, x1_0, x1_1, x1_2, x1_3, x1_4, x4 => ((strconv_Itoa.f x1_2).bind fun y9 => ((scat c__3d y9).bind fun y10 => ((scat x4 y10).bind fun y11 => (bif (!ieq x1_3 x1_2) then ((strconv_Itoa.f x1_3).bind fun y12 => ((scat c__2e_2e y12).bind fun y13 => ((scat y11 y13).bind fun y14 => (some y14)))) else (some y11)))))
def mastref2_testString.f : Nat → T_lang_Test → Option (ByteArray)
  | 0, _ => none
  | k + 1, a0 => (bif (ieq a0.fOp 1) then (bif (ilt 0 a0.fModulus) then ((strconv_Itoa.f a0.fModulus).bind fun y1 => ((scat c__25 y1).bind fun y2 => ((scat c_n y2).bind fun y3 => (mastref2_testString.l0 k a0.fOp a0.fModulus a0.fLow a0.fHigh a0.fKids y3)))) else (mastref2_testString.l0 k a0.fOp a0.fModulus a0.fLow a0.fHigh a0.fKids c_n)) else (bif (ieq a0.fOp 2) then ((mastref2_testString_c1.f k c__20_26_20 true a0.fOp a0.fModulus a0.fLow a0.fHigh a0.fKids).bind fun y4 => (some y4.1)) else (bif (ieq a0.fOp 3) then ((mastref2_testString_c1.f k c__20_7c_20 false a0.fOp a0.fModulus a0.fLow a0.fHigh a0.fKids).bind fun y5 => (some y5.1)) else ((mastref2_testString_c1.f k c__20_7c_20 true a0.fOp a0.fModulus a0.fLow a0.fHigh a0.fKids).bind fun y6 => ((scat c__21_28 y6.1).bind fun y7 => ((scat y7 c__29).bind fun y8 => (some y8)))))))
end
def mastref2_testString_c1.e (k : Nat) : Entry sg := entryR sg [(.d .str), (.d .bool), (.ref [.d (.int .i64), .d (.int .i64), .d (.int .i64), .d (.int .i64), .d (.sl (.st 1))])] [.str] (fun h => mastref2_testString_c1.f k h.1 h.2.1 h.2.2.1 h.2.2.2.1 h.2.2.2.2.1 h.2.2.2.2.2.1 h.2.2.2.2.2.2.1)
def mastref2_testString.e (k : Nat) : Entry sg := entryOf sg [(.d (.st 1))] [.str] (fun h => mastref2_testString.f k h.1)
def mastref2_testString_c1.O (k : Nat) : Oracle sg := fun n => lkp n [(27, strings_Join.e), (64, mastref2_testString.e k)]
def mastref2_testString_c1.a : Ann := (.n .z (.n .z (.n (.n .z (.lp 0 (.n .z (.n .z (.n (.n .z (.n .z (.n .z (.lab 1 .z)))) .z))))) .z)))
def mastref2_testString_c1.L (k : Nat) : Nat → St sg.U → Option (RT sg.U [.str] × HL sg.U (PM.outs [(.d .str), (.d .bool), (.ref [.d (.int .i64), .d (.int .i64), .d (.int .i64), .d (.int .i64), .d (.sl (.st 1))])])) := labs [(0, labOf sg [(0, (.d .str)), (1, (.d .bool)), (2, (.box [.d (.int .i64), .d (.int .i64), .d (.int .i64), .d (.int .i64), .d (.sl (.st 1))])), (6, (.row 9 .str)), (11, (.d (.sl (.st 1)))), (12, (.d (.int .i64))), (13, (.d (.int .i64)))] (fun h => mastref2_testString_c1.l0 k h.1 h.2.1 h.2.2.1 h.2.2.2.1 h.2.2.2.2.1 h.2.2.2.2.2.1 h.2.2.2.2.2.2.1 h.2.2.2.2.2.2.2.1 h.2.2.2.2.2.2.2.2.1 h.2.2.2.2.2.2.2.2.2.1 h.2.2.2.2.2.2.2.2.2.2.1)), (1, labOf sg [(0, (.d .str)), (1, (.d .bool)), (2, (.box [.d (.int .i64), .d (.int .i64), .d (.int .i64), .d (.int .i64), .d (.sl (.st 1))])), (6, (.row 9 .str)), (9, (.d .str)), (11, (.d (.sl (.st 1)))), (12, (.d (.int .i64))), (13, (.d (.int .i64)))] (fun h => mastref2_testString_c1.l1 k h.1 h.2.1 h.2.2.1 h.2.2.2.1 h.2.2.2.2.1 h.2.2.2.2.2.1 h.2.2.2.2.2.2.1 h.2.2.2.2.2.2.2.1 h.2.2.2.2.2.2.2.2.1 h.2.2.2.2.2.2.2.2.2.1 h.2.2.2.2.2.2.2.2.2.2.1 h.2.2.2.2.2.2.2.2.2.2.2.1))]
theorem mastref2_testString_c1.l0_eq (k : Nat) (x0 : ByteArray) (x1 : Bool) (x2_0 : Int) (x2_1 : Int) (x2_2 : Int) (x2_3 : Int) (x2_4 : (List T_lang_Test)) (x6 : (List ByteArray)) (x11 : (List T_lang_Test)) (x12 : Int) (x13 : Int) : mastref2_testString_c1.l0 (k + 1) x0 x1 x2_0 x2_1 x2_2 x2_3 x2_4 x6 x11 x12 x13 = runFrom (C := ctx) (mastref2_testString_c1.O k) ⟨36, [2], []⟩ (mastref2_testString_c1.L k) (Tryd.f85.body.getD .skip) mastref2_testString_c1.a 0 (endR ctx [.str] [(.tmp 5)] [(.d .str), (.d .bool), (.ref [.d (.int .i64), .d (.int .i64), .d (.int .i64), .d (.int .i64), .d (.sl (.st 1))])]) (encD [(0, (.d .str)), (1, (.d .bool)), (2, (.box [.d (.int .i64), .d (.int .i64), .d (.int .i64), .d (.int .i64), .d (.sl (.st 1))])), (6, (.row 9 .str)), (11, (.d (.sl (.st 1)))), (12, (.d (.int .i64))), (13, (.d (.int .i64)))] (x0, x1, x2_0, x2_1, x2_2, x2_3, x2_4, x6, x11, x12, x13, ()) (startD sg.U ⟨36, [2], []⟩ [(0, (.d .str)), (1, (.d .bool)), (2, (.box [.d (.int .i64), .d (.int .i64), .d (.int .i64), .d (.int .i64), .d (.sl (.st 1))])), (6, (.row 9 .str)), (11, (.d (.sl (.st 1)))), (12, (.d (.int .i64))), (13, (.d (.int .i64)))])) := by
  rw [mastref2_testString_c1.l0]
  kernel_rfl
theorem mastref2_testString_c1.l1_eq (k : Nat) (x0 : ByteArray) (x1 : Bool) (x2_0 : Int) (x2_1 : Int) (x2_2 : Int) (x2_3 : Int) (x2_4 : (List T_lang_Test)) (x6 : (List ByteArray)) (x9 : ByteArray) (x11 : (List T_lang_Test)) (x12 : Int) (x13 : Int) : mastref2_testString_c1.l1 (k + 1) x0 x1 x2_0 x2_1 x2_2 x2_3 x2_4 x6 x9 x11 x12 x13 = runFrom (C := ctx) (mastref2_testString_c1.O k) ⟨36, [2], []⟩ (mastref2_testString_c1.L k) (Tryd.f85.body.getD .skip) mastref2_testString_c1.a 1 (endR ctx [.str] [(.tmp 5)] [(.d .str), (.d .bool), (.ref [.d (.int .i64), .d (.int .i64), .d (.int .i64), .d (.int .i64), .d (.sl (.st 1))])]) (encD [(0, (.d .str)), (1, (.d .bool)), (2, (.box [.d (.int .i64), .d (.int .i64), .d (.int .i64), .d (.int .i64), .d (.sl (.st 1))])), (6, (.row 9 .str)), (9, (.d .str)), (11, (.d (.sl (.st 1)))), (12, (.d (.int .i64))), (13, (.d (.int .i64)))] (x0, x1, x2_0, x2_1, x2_2, x2_3, x2_4, x6, x9, x11, x12, x13, ()) (startD sg.U ⟨36, [2], []⟩ [(0, (.d .str)), (1, (.d .bool)), (2, (.box [.d (.int .i64), .d (.int .i64), .d (.int .i64), .d (.int .i64), .d (.sl (.st 1))])), (6, (.row 9 .str)), (9, (.d .str)), (11, (.d (.sl (.st 1)))), (12, (.d (.int .i64))), (13, (.d (.int .i64)))])) := by
  rw [mastref2_testString_c1.l1]
  kernel_rfl
theorem mastref2_testString_c1.f_eq (k : Nat) (a0 : ByteArray) (a1 : Bool) (a2_0 : Int) (a2_1 : Int) (a2_2 : Int) (a2_3 : Int) (a2_4 : (List T_lang_Test)) : mastref2_testString_c1.f (k + 1) a0 a1 a2_0 a2_1 a2_2 a2_3 a2_4 = codeK (C := ctx) (mastref2_testString_c1.O k) ⟨36, [2], []⟩ (mastref2_testString_c1.L k) (Tryd.f85.body.getD .skip) mastref2_testString_c1.a (endR ctx [.str] [(.tmp 5)] [(.d .str), (.d .bool), (.ref [.d (.int .i64), .d (.int .i64), .d (.int .i64), .d (.int .i64), .d (.sl (.st 1))])]) (slotsOf sg.U 0 [(.d .str), (.d .bool), (.ref [.d (.int .i64), .d (.int .i64), .d (.int .i64), .d (.int .i64), .d (.sl (.st 1))])] (a0, a1, a2_0, a2_1, a2_2, a2_3, a2_4, ()) (emptyG sg.U (PM.gs [(.d .str), (.d .bool), (.ref [.d (.int .i64), .d (.int .i64), .d (.int .i64), .d (.int .i64), .d (.sl (.st 1))])]))) := by
  rw [mastref2_testString_c1.f]
  kernel_rfl
def mastref2_testString.O (k : Nat) : Oracle sg := fun n => lkp n [(50, strconv_Itoa.e), (85, mastref2_testString_c1.e k)]
def mastref2_testString.a : Ann := (.n .z (.n .z (.n (.n .z (.n .z (.n (.n .z (.n .z (.lab 0 .z))) .z))) .z)))
def mastref2_testString.L (k : Nat) : Nat → St sg.U → Option (RT sg.U [.str]) := labs [(0, labOf sg [(1, (.box [.d (.int .i64), .d (.int .i64), .d (.int .i64), .d (.int .i64), .d (.sl (.st 1))])), (4, (.d .str))] (fun h => mastref2_testString.l0 k h.1 h.2.1 h.2.2.1 h.2.2.2.1 h.2.2.2.2.1 h.2.2.2.2.2.1))]
theorem mastref2_testString.l0_eq (k : Nat) (x1_0 : Int) (x1_1 : Int) (x1_2 : Int) (x1_3 : Int) (x1_4 : (List T_lang_Test)) (x4 : ByteArray) : mastref2_testString.l0 (k + 1) x1_0 x1_1 x1_2 x1_3 x1_4 x4 = runFrom (C := ctx) (mastref2_testString.O k) ⟨49, [], []⟩ (mastref2_testString.L k) (Tryd.f64.body.getD .skip) mastref2_testString.a 0 (endK ctx [.str] [(.tmp 2)]) (encD [(1, (.box [.d (.int .i64), .d (.int .i64), .d (.int .i64), .d (.int .i64), .d (.sl (.st 1))])), (4, (.d .str))] (x1_0, x1_1, x1_2, x1_3, x1_4, x4, ()) (startD sg.U ⟨49, [], []⟩ [(1, (.box [.d (.int .i64), .d (.int .i64), .d (.int .i64), .d (.int .i64), .d (.sl (.st 1))])), (4, (.d .str))])) := by
  rw [mastref2_testString.l0]
  kernel_rfl
theorem mastref2_testString.f_eq (k : Nat) (a0 : T_lang_Test) : mastref2_testString.f (k + 1) a0 = codeK (C := ctx) (mastref2_testString.O k) ⟨49, [], []⟩ (mastref2_testString.L k) (Tryd.f64.body.getD .skip) mastref2_testString.a (endK ctx [.str] [(.tmp 2)]) (slotsOf sg.U 0 [(.d (.st 1))] (a0, ()) (empty sg.U)) := by
  rw [mastref2_testString.f]
  kernel_rfl
def mastref2_testString_c1.T : List (Lb sg (RT sg.U [.str] × HL sg.U (PM.outs [(.d .str), (.d .bool), (.ref [.d (.int .i64), .d (.int .i64), .d (.int .i64), .d (.int .i64), .d (.sl (.st 1))])]))) := [⟨0, [(0, (.d .str)), (1, (.d .bool)), (2, (.box [.d (.int .i64), .d (.int .i64), .d (.int .i64), .d (.int .i64), .d (.sl (.st 1))])), (6, (.row 9 .str)), (11, (.d (.sl (.st 1)))), (12, (.d (.int .i64))), (13, (.d (.int .i64)))], fun k h => mastref2_testString_c1.l0 k h.1 h.2.1 h.2.2.1 h.2.2.2.1 h.2.2.2.2.1 h.2.2.2.2.2.1 h.2.2.2.2.2.2.1 h.2.2.2.2.2.2.2.1 h.2.2.2.2.2.2.2.2.1 h.2.2.2.2.2.2.2.2.2.1 h.2.2.2.2.2.2.2.2.2.2.1⟩, ⟨1, [(0, (.d .str)), (1, (.d .bool)), (2, (.box [.d (.int .i64), .d (.int .i64), .d (.int .i64), .d (.int .i64), .d (.sl (.st 1))])), (6, (.row 9 .str)), (9, (.d .str)), (11, (.d (.sl (.st 1)))), (12, (.d (.int .i64))), (13, (.d (.int .i64)))], fun k h => mastref2_testString_c1.l1 k h.1 h.2.1 h.2.2.1 h.2.2.2.1 h.2.2.2.2.1 h.2.2.2.2.2.1 h.2.2.2.2.2.2.1 h.2.2.2.2.2.2.2.1 h.2.2.2.2.2.2.2.2.1 h.2.2.2.2.2.2.2.2.2.1 h.2.2.2.2.2.2.2.2.2.2.1 h.2.2.2.2.2.2.2.2.2.2.2.1⟩]
def mastref2_testString.T : List (Lb sg (RT sg.U [.str])) := [⟨0, [(1, (.box [.d (.int .i64), .d (.int .i64), .d (.int .i64), .d (.int .i64), .d (.sl (.st 1))])), (4, (.d .str))], fun k h => mastref2_testString.l0 k h.1 h.2.1 h.2.2.1 h.2.2.2.1 h.2.2.2.2.1 h.2.2.2.2.2.1⟩]
theorem mastref2_testString_c1.all : ∀ k : Nat, (mastref2_testString_c1.e k).Sound Tryd.prog ctx 85 ∧ (mastref2_testString.e k).Sound Tryd.prog ctx 64 := by
  intro k
  induction k using Nat.strongRecOn with
  | _ k ih =>
    cases k with
    | zero => exact ⟨(entryR_none (by kernel_rfl) (fun _ => by first | rfl | rw [mastref2_testString_c1.f])), (entry_none (fun _ => by first | rfl | rw [mastref2_testString.f]))⟩
    | succ k =>
      have own : ∀ j, j ≤ k → (mastref2_testString_c1.e j).Sound Tryd.prog ctx 85 ∧ (mastref2_testString.e j).Sound Tryd.prog ctx 64 := fun j hj => ih j (by omega)
      exact ⟨(entryR_step base_ok mo (fn := Tryd.f85) (b := (Tryd.f85.body.getD .skip)) (pm := [(.d .str), (.d .bool), (.ref [.d (.int .i64), .d (.int .i64), .d (.int .i64), .d (.int .i64), .d (.sl (.st 1))])]) (rs := [.str]) (an := mastref2_testString_c1.a) (N := 36) (vars := [(.tmp 5)]) Tryd.func85 (by kernel_rfl) (by kernel_rfl) (by kernel_rfl) (by kernel_rfl) (by kernel_rfl) (by kernel_rfl) (by kernel_rfl) (by kernel_rfl) (O := mastref2_testString_c1.O) mastref2_testString_c1.T ⟨⟨by kernel_rfl, fun _ => by first | rfl | rw [mastref2_testString_c1.l0], fun k h => mastref2_testString_c1.l0_eq k h.1 h.2.1 h.2.2.1 h.2.2.2.1 h.2.2.2.2.1 h.2.2.2.2.2.1 h.2.2.2.2.2.2.1 h.2.2.2.2.2.2.2.1 h.2.2.2.2.2.2.2.2.1 h.2.2.2.2.2.2.2.2.2.1 h.2.2.2.2.2.2.2.2.2.2.1⟩, ⟨⟨by kernel_rfl, fun _ => by first | rfl | rw [mastref2_testString_c1.l1], fun k h => mastref2_testString_c1.l1_eq k h.1 h.2.1 h.2.2.1 h.2.2.2.1 h.2.2.2.2.1 h.2.2.2.2.2.1 h.2.2.2.2.2.2.1 h.2.2.2.2.2.2.2.1 h.2.2.2.2.2.2.2.2.1 h.2.2.2.2.2.2.2.2.2.1 h.2.2.2.2.2.2.2.2.2.2.1 h.2.2.2.2.2.2.2.2.2.2.2.1⟩, trivial⟩⟩ k (fun h => mastref2_testString_c1.f_eq k h.1 h.2.1 h.2.2.1 h.2.2.2.1 h.2.2.2.2.1 h.2.2.2.2.2.1 h.2.2.2.2.2.2.1) (fun j hj => by unfold mastref2_testString_c1.O; exact oracle_of (P := Tryd.prog) (C := ctx) ⟨(strings_Join.ok), ⟨((own j hj).2), trivial⟩⟩)), (entry_step base_ok mo (fn := Tryd.f64) (b := (Tryd.f64.body.getD .skip)) (pm := [(.d (.st 1))]) (rs := [.str]) (an := mastref2_testString.a) (N := 49) (vars := [(.tmp 2)]) Tryd.func64 (by kernel_rfl) (by kernel_rfl) (by kernel_rfl) (by kernel_rfl) (by kernel_rfl) (by kernel_rfl) (O := mastref2_testString.O) mastref2_testString.T ⟨⟨by kernel_rfl, fun _ => by first | rfl | rw [mastref2_testString.l0], fun k h => mastref2_testString.l0_eq k h.1 h.2.1 h.2.2.1 h.2.2.2.1 h.2.2.2.2.1 h.2.2.2.2.2.1⟩, trivial⟩ k (fun h => mastref2_testString.f_eq k h.1) (fun j hj => by unfold mastref2_testString.O; exact oracle_of (P := Tryd.prog) (C := ctx) ⟨(strconv_Itoa.ok), ⟨((own j hj).1), trivial⟩⟩))⟩
theorem mastref2_testString_c1.ok (k : Nat) : (mastref2_testString_c1.e k).Sound Tryd.prog ctx 85 := (mastref2_testString_c1.all k).1
theorem mastref2_testString.ok (k : Nat) : (mastref2_testString.e k).Sound Tryd.prog ctx 64 := (mastref2_testString_c1.all k).2
def mastref2_ruleString.l0 : Nat → (List ByteArray) → (List T_lang_Test) → Int → Int → Option (ByteArray)
  | 0, _, _, _, _ => none
  | k + 1, x3, x7, x8, x9 => (bif (ilt x9 x8) then ((lat x7 x9).bind fun y1 => ((mastref2_testString.f k (T_lang_Test.mk y1.fOp y1.fModulus y1.fLow y1.fHigh y1.fKids)).bind fun y2 => ((lapp 16 x3 [y2]).bind fun y3 => (mastref2_ruleString.l0 k y3 x7 x8 (wadd .i64 x9 1))))) else ((strings_Join.f x3 c__3b_20).bind fun y4 => (some y4)))
def mastref2_ruleString.f (k : Nat) (a0 : T_lang_Rule) : Option (ByteArray) := (mastref2_ruleString.l0 k [] a0.fForms (llen a0.fForms) 0)
def mastref2_ruleString.O (k : Nat) : Oracle sg := fun n => lkp n [(27, strings_Join.e), (64, mastref2_testString.e k)]
def mastref2_ruleString.a : Ann := (.n .z (.n .z (.n (.n .z (.lp 0 .z)) .z)))
def mastref2_ruleString.L (k : Nat) : Nat → St sg.U → Option (RT sg.U [.str]) := labs [(0, labOf sg [(3, (.row 9 .str)), (7, (.d (.sl (.st 1)))), (8, (.d (.int .i64))), (9, (.d (.int .i64)))] (fun h => mastref2_ruleString.l0 k h.1 h.2.1 h.2.2.1 h.2.2.2.1))]
theorem mastref2_ruleString.l0_eq (k : Nat) (x3 : (List ByteArray)) (x7 : (List T_lang_Test)) (x8 : Int) (x9 : Int) : mastref2_ruleString.l0 (k + 1) x3 x7 x8 x9 = runFrom (C := ctx) (mastref2_ruleString.O k) ⟨21, [], []⟩ (mastref2_ruleString.L k) (Tryd.f29.body.getD .skip) mastref2_ruleString.a 0 (endK ctx [.str] [(.tmp 2)]) (encD [(3, (.row 9 .str)), (7, (.d (.sl (.st 1)))), (8, (.d (.int .i64))), (9, (.d (.int .i64)))] (x3, x7, x8, x9, ()) (startD sg.U ⟨21, [], []⟩ [(3, (.row 9 .str)), (7, (.d (.sl (.st 1)))), (8, (.d (.int .i64))), (9, (.d (.int .i64)))])) := by
  rw [mastref2_ruleString.l0]
  kernel_rfl
theorem mastref2_ruleString.f_eq (k : Nat) (a0 : T_lang_Rule) : mastref2_ruleString.f k a0 = codeK (C := ctx) (mastref2_ruleString.O k) ⟨21, [], []⟩ (mastref2_ruleString.L k) (Tryd.f29.body.getD .skip) mastref2_ruleString.a (endK ctx [.str] [(.tmp 2)]) (slotsOf sg.U 0 [(.d (.st 0))] (a0, ()) (empty sg.U)) := by
  unfold mastref2_ruleString.f
  kernel_rfl
def mastref2_ruleString.e (k : Nat) : Entry sg := entryOf sg [(.d (.st 0))] [.str] (fun h => mastref2_ruleString.f k h.1)
def mastref2_ruleString.T : List (Lb sg (RT sg.U [.str])) := [⟨0, [(3, (.row 9 .str)), (7, (.d (.sl (.st 1)))), (8, (.d (.int .i64))), (9, (.d (.int .i64)))], fun k h => mastref2_ruleString.l0 k h.1 h.2.1 h.2.2.1 h.2.2.2.1⟩]
theorem mastref2_ruleString.ok (k : Nat) : (mastref2_ruleString.e k).Sound Tryd.prog ctx 29 :=
  entry_ok base_ok mo (fn := Tryd.f29) (b := (Tryd.f29.body.getD .skip)) (pm := [(.d (.st 0))]) (rs := [.str]) (an := mastref2_ruleString.a) (N := 21) (vars := [(.tmp 2)]) Tryd.func29 (by kernel_rfl) (by kernel_rfl) (by kernel_rfl) (by kernel_rfl) (by kernel_rfl) (by kernel_rfl) (O := mastref2_ruleString.O)
    (fun k => by unfold mastref2_ruleString.O; exact oracle_of (P := Tryd.prog) (C := ctx) ⟨(strings_Join.ok), ⟨(mastref2_testString.ok k), trivial⟩⟩) mastref2_ruleString.T ⟨⟨by kernel_rfl, fun _ => by first | rfl | rw [mastref2_ruleString.l0], fun k h => mastref2_ruleString.l0_eq k h.1 h.2.1 h.2.2.1 h.2.2.2.1⟩, trivial⟩ k (fun h => mastref2_ruleString.f_eq k h.1)
def mastref2_RuleStringOf.f (k : Nat) (a0 : T_lang_Rule) : Option (ByteArray × Int) := ((mastref2_RuleFault.f k a0).bind fun y1 => (bif (!ieq y1 0) then (some (c_empty, y1)) else ((mastref2_ruleString.f k a0).bind fun y2 => (bif (ilt 2000 (slen y2)) then (some (c_empty, 4)) else (some (y2, 0))))))
def mastref2_RuleStringOf.O (k : Nat) : Oracle sg := fun n => lkp n [(28, mastref2_RuleFault.e k), (29, mastref2_ruleString.e k)]
def mastref2_RuleStringOf.a : Ann := .z
def mastref2_RuleStringOf.L (k : Nat) : Nat → St sg.U → Option (RT sg.U [.str, (.int .i64)]) := labs []
theorem mastref2_RuleStringOf.f_eq (k : Nat) (a0 : T_lang_Rule) : mastref2_RuleStringOf.f k a0 = codeK (C := ctx) (mastref2_RuleStringOf.O k) ⟨17, [], []⟩ (mastref2_RuleStringOf.L k) (Tryd.f12.body.getD .skip) mastref2_RuleStringOf.a (endK ctx [.str, (.int .i64)] [(.tmp 2), (.tmp 3)]) (slotsOf sg.U 0 [(.d (.st 0))] (a0, ()) (empty sg.U)) := by
  unfold mastref2_RuleStringOf.f
  kernel_rfl
def mastref2_RuleStringOf.e (k : Nat) : Entry sg := entryOf sg [(.d (.st 0))] [.str, (.int .i64)] (fun h => mastref2_RuleStringOf.f k h.1)
def mastref2_RuleStringOf.T : List (Lb sg (RT sg.U [.str, (.int .i64)])) := []
theorem mastref2_RuleStringOf.ok (k : Nat) : (mastref2_RuleStringOf.e k).Sound Tryd.prog ctx 12 :=
  entry_ok base_ok mo (fn := Tryd.f12) (b := (Tryd.f12.body.getD .skip)) (pm := [(.d (.st 0))]) (rs := [.str, (.int .i64)]) (an := mastref2_RuleStringOf.a) (N := 17) (vars := [(.tmp 2), (.tmp 3)]) Tryd.func12 (by kernel_rfl) (by kernel_rfl) (by kernel_rfl) (by kernel_rfl) (by kernel_rfl) (by kernel_rfl) (O := mastref2_RuleStringOf.O)
    (fun k => by unfold mastref2_RuleStringOf.O; exact oracle_of (P := Tryd.prog) (C := ctx) ⟨(mastref2_RuleFault.ok k), ⟨(mastref2_ruleString.ok k), trivial⟩⟩) mastref2_RuleStringOf.T trivial k (fun h => mastref2_RuleStringOf.f_eq k h.1)
def mastlaw2_RuleWrites.f (k : Nat) (a0 : T_lang_Rule) : Option (Bool) := ((lang_RuleString.f k a0).bind fun y1 => ((mastref2_RuleStringOf.f k a0).bind fun y2 => (some (bif (ieq y1.2 y2.2) then (seq y1.1 y2.1) else false))))
def mastlaw2_RuleWrites.O (k : Nat) : Oracle sg := fun n => lkp n [(11, lang_RuleString.e k), (12, mastref2_RuleStringOf.e k)]
def mastlaw2_RuleWrites.a : Ann := .z
def mastlaw2_RuleWrites.L (k : Nat) : Nat → St sg.U → Option (RT sg.U [.bool]) := labs []
theorem mastlaw2_RuleWrites.f_eq (k : Nat) (a0 : T_lang_Rule) : mastlaw2_RuleWrites.f k a0 = codeK (C := ctx) (mastlaw2_RuleWrites.O k) ⟨25, [], []⟩ (mastlaw2_RuleWrites.L k) (Tryd.f4.body.getD .skip) mastlaw2_RuleWrites.a (endK ctx [.bool] [(.tmp 2)]) (slotsOf sg.U 0 [(.d (.st 0))] (a0, ()) (empty sg.U)) := by
  unfold mastlaw2_RuleWrites.f
  kernel_rfl
def mastlaw2_RuleWrites.e (k : Nat) : Entry sg := entryOf sg [(.d (.st 0))] [.bool] (fun h => mastlaw2_RuleWrites.f k h.1)
def mastlaw2_RuleWrites.T : List (Lb sg (RT sg.U [.bool])) := []
theorem mastlaw2_RuleWrites.ok (k : Nat) : (mastlaw2_RuleWrites.e k).Sound Tryd.prog ctx 4 :=
  entry_ok base_ok mo (fn := Tryd.f4) (b := (Tryd.f4.body.getD .skip)) (pm := [(.d (.st 0))]) (rs := [.bool]) (an := mastlaw2_RuleWrites.a) (N := 25) (vars := [(.tmp 2)]) Tryd.func4 (by kernel_rfl) (by kernel_rfl) (by kernel_rfl) (by kernel_rfl) (by kernel_rfl) (by kernel_rfl) (O := mastlaw2_RuleWrites.O)
    (fun k => by unfold mastlaw2_RuleWrites.O; exact oracle_of (P := Tryd.prog) (C := ctx) ⟨(lang_RuleString.ok k), ⟨(mastref2_RuleStringOf.ok k), trivial⟩⟩) mastlaw2_RuleWrites.T trivial k (fun h => mastlaw2_RuleWrites.f_eq k h.1)
end Go.Proofs.YtdffbjbpolhliaaDoor.LRuleWrites
