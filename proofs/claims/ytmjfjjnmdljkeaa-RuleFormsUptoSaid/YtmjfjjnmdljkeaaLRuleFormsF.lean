/- The functions behind the law RuleForms, checked against the code; their summaries hold. Conditions: none. -/
import Derived.Test.YtmjfjjnmdljkeaaLiftZ
import Derived.Test.YtmjfjjnmdljkeaaProg
namespace Go.Proofs.Ytmjfjjnmdljkeaa.LRuleForms
open Go Go.Proofs.Ytmjfjjnmdljkeaa.Lift
set_option maxRecDepth 100000
set_option linter.unusedVariables false
structure T_lang_Test where
  fOp : Int
  fModulus : Int
  fLow : Int
  fHigh : Int
  fKids : (List T_lang_Test)
  deriving Inhabited
structure T_lang_Rule where
  fForms : (List T_lang_Test)
  deriving Inhabited
abbrev sgU : Nat → Type
  | 0 => T_lang_Rule
  | 1 => T_lang_Test
  | _ + 2 => Unit
abbrev sgF : Nat → List Ty
  | 0 => [(.sl (.st 1))]
  | 1 => [(.int .i64), (.int .i64), (.int .i64), (.int .i64), (.sl (.st 1))]
  | _ + 2 => []
def sgO : (n : Nat) → sgU n → HL sgU (sgF n)
  | 0, x => (x.fForms, ())
  | 1, x => (x.fOp, x.fModulus, x.fLow, x.fHigh, x.fKids, ())
  | _ + 2, _ => ()
def sgB : (n : Nat) → HL sgU (sgF n) → sgU n
  | 0, h => ⟨h.1⟩
  | 1, h => ⟨h.1, h.2.1, h.2.2.1, h.2.2.2.1, h.2.2.2.2.1⟩
  | _ + 2, _ => ()
def sg : Sg := { U := sgU, fl := sgF, out := sgO, bld := sgB }
def ctx : Ctx := { S := sg, ty := [(3, .d (.int .i64) 1 0), (4, .d .bool 1 0), (23, .d (.int .i64) 1 0), (77, .d (.sl (.st 1)) 56 175), (79, .d (.st 0) 1 0), (175, .d (.st 1) 1 0), (178, .o), (180, .d (.int .u64) 1 0), (240, .m 3 3)], eqs := [] }
def c_empty : ByteArray := ⟨#[]⟩
theorem sg_ok : SgOk sg :=
  ⟨fun n h => by rcases n with _ | _ | n <;> rfl, fun n => by rcases n with _ | _ | n <;> rfl, fun n x => by rcases n with _ | _ | n <;> rfl, fun n => by rcases n with _ | _ | n <;> rfl⟩
theorem base_ok : Base Try.prog ctx := base_of sg_ok (by kernel_rfl) (eqOk_of (by kernel_rfl))
theorem open_ok : openB Try.prog ctx = true := by kernel_rfl
theorem mo : Try.prog.follows .mixedOrders = true := by kernel_rfl
mutual
def lang_tests.l0 : Nat → Int → (List T_lang_Test) → Int → Int → Option (Int)
  | 0, _, _, _, _ => none
  | k + 1, x3, x7, x8, x9 => (bif (ilt x9 x8) then ((lat x7 x9).bind fun y1 => (bif (ilt 20 x3) then (some x3) else ((lang_tests.f k (T_lang_Test.mk y1.fOp y1.fModulus y1.fLow y1.fHigh y1.fKids)).bind fun y2 => (lang_tests.l0 k (wadd .i64 x3 y2) x7 x8 (wadd .i64 x9 1))))) else (some x3))
def lang_tests.f : Nat → T_lang_Test → Option (Int)
  | 0, _ => none
  | k + 1, a0 => (lang_tests.l0 k 1 a0.fKids (llen a0.fKids) 0)
end
def lang_tests.e (k : Nat) : Entry sg := entryOf sg [(.d (.st 1))] [(.int .i64)] (fun h => lang_tests.f k h.1)
def lang_tests.O (k : Nat) : Oracle sg := fun n => lkp n [(139, lang_tests.e k)]
def lang_tests.a : Ann := (.n .z (.n .z (.n (.n .z (.lp 0 .z)) .z)))
def lang_tests.L (k : Nat) : Nat → St sg.U → Option (RT sg.U [(.int .i64)]) := labs [(0, labOf sg [(3, (.d (.int .i64))), (7, (.d (.sl (.st 1)))), (8, (.d (.int .i64))), (9, (.d (.int .i64)))] (fun h => lang_tests.l0 k h.1 h.2.1 h.2.2.1 h.2.2.2.1))]
theorem lang_tests.l0_eq (k : Nat) (x3 : Int) (x7 : (List T_lang_Test)) (x8 : Int) (x9 : Int) : lang_tests.l0 (k + 1) x3 x7 x8 x9 = runFrom (C := ctx) (lang_tests.O k) ⟨21, [], []⟩ (lang_tests.L k) (Try.f139.body.getD .skip) lang_tests.a 0 (endK ctx [(.int .i64)] [(.tmp 2)]) (encD [(3, (.d (.int .i64))), (7, (.d (.sl (.st 1)))), (8, (.d (.int .i64))), (9, (.d (.int .i64)))] (x3, x7, x8, x9, ()) (startD sg.U ⟨21, [], []⟩ [(3, (.d (.int .i64))), (7, (.d (.sl (.st 1)))), (8, (.d (.int .i64))), (9, (.d (.int .i64)))])) := by
  rw [lang_tests.l0]
  kernel_rfl
theorem lang_tests.f_eq (k : Nat) (a0 : T_lang_Test) : lang_tests.f (k + 1) a0 = codeK (C := ctx) (lang_tests.O k) ⟨21, [], []⟩ (lang_tests.L k) (Try.f139.body.getD .skip) lang_tests.a (endK ctx [(.int .i64)] [(.tmp 2)]) (slotsOf sg.U 0 [(.d (.st 1))] (a0, ()) (empty sg.U)) := by
  rw [lang_tests.f]
  kernel_rfl
def lang_tests.T : List (Lb sg (RT sg.U [(.int .i64)])) := [⟨0, [(3, (.d (.int .i64))), (7, (.d (.sl (.st 1)))), (8, (.d (.int .i64))), (9, (.d (.int .i64)))], fun k h => lang_tests.l0 k h.1 h.2.1 h.2.2.1 h.2.2.2.1⟩]
theorem lang_tests.ok : ∀ k : Nat, (lang_tests.e k).Sound Try.prog ctx 139 :=
  entry_rec base_ok mo (fn := Try.f139) (b := (Try.f139.body.getD .skip)) (pm := [(.d (.st 1))]) (rs := [(.int .i64)]) (an := lang_tests.a) (N := 21) (vars := [(.tmp 2)]) Try.func139 (by kernel_rfl) (by kernel_rfl) (by kernel_rfl) (by kernel_rfl) (by kernel_rfl) (by kernel_rfl) (O := lang_tests.O) lang_tests.T ⟨⟨by kernel_rfl, fun _ => by first | rfl | rw [lang_tests.l0], fun k h => lang_tests.l0_eq k h.1 h.2.1 h.2.2.1 h.2.2.2.1⟩, trivial⟩ (F := fun k h => lang_tests.f k h.1) (fun _ => by first | rfl | rw [lang_tests.f]) (fun k h => lang_tests.f_eq k h.1)
    (fun k own => by unfold lang_tests.O; exact oracle_of (P := Try.prog) (C := ctx) ⟨own, trivial⟩)
mutual
def lang_levels.l0 : Nat → Int → (List T_lang_Test) → Int → Int → Option (Int)
  | 0, _, _, _, _ => none
  | k + 1, x3, x7, x8, x9 => (bif (ilt x9 x8) then ((lat x7 x9).bind fun y1 => ((lang_levels.f k (T_lang_Test.mk y1.fOp y1.fModulus y1.fLow y1.fHigh y1.fKids)).bind fun y2 => (lang_levels.l0 k (imax x3 y2) x7 x8 (wadd .i64 x9 1)))) else (some (wadd .i64 x3 1)))
def lang_levels.f : Nat → T_lang_Test → Option (Int)
  | 0, _ => none
  | k + 1, a0 => (lang_levels.l0 k 0 a0.fKids (llen a0.fKids) 0)
end
def lang_levels.e (k : Nat) : Entry sg := entryOf sg [(.d (.st 1))] [(.int .i64)] (fun h => lang_levels.f k h.1)
def lang_levels.O (k : Nat) : Oracle sg := fun n => lkp n [(140, lang_levels.e k)]
def lang_levels.a : Ann := (.n .z (.n .z (.n (.n .z (.lp 0 .z)) .z)))
def lang_levels.L (k : Nat) : Nat → St sg.U → Option (RT sg.U [(.int .i64)]) := labs [(0, labOf sg [(3, (.d (.int .i64))), (7, (.d (.sl (.st 1)))), (8, (.d (.int .i64))), (9, (.d (.int .i64)))] (fun h => lang_levels.l0 k h.1 h.2.1 h.2.2.1 h.2.2.2.1))]
theorem lang_levels.l0_eq (k : Nat) (x3 : Int) (x7 : (List T_lang_Test)) (x8 : Int) (x9 : Int) : lang_levels.l0 (k + 1) x3 x7 x8 x9 = runFrom (C := ctx) (lang_levels.O k) ⟨20, [], []⟩ (lang_levels.L k) (Try.f140.body.getD .skip) lang_levels.a 0 (endK ctx [(.int .i64)] [(.tmp 2)]) (encD [(3, (.d (.int .i64))), (7, (.d (.sl (.st 1)))), (8, (.d (.int .i64))), (9, (.d (.int .i64)))] (x3, x7, x8, x9, ()) (startD sg.U ⟨20, [], []⟩ [(3, (.d (.int .i64))), (7, (.d (.sl (.st 1)))), (8, (.d (.int .i64))), (9, (.d (.int .i64)))])) := by
  rw [lang_levels.l0]
  kernel_rfl
theorem lang_levels.f_eq (k : Nat) (a0 : T_lang_Test) : lang_levels.f (k + 1) a0 = codeK (C := ctx) (lang_levels.O k) ⟨20, [], []⟩ (lang_levels.L k) (Try.f140.body.getD .skip) lang_levels.a (endK ctx [(.int .i64)] [(.tmp 2)]) (slotsOf sg.U 0 [(.d (.st 1))] (a0, ()) (empty sg.U)) := by
  rw [lang_levels.f]
  kernel_rfl
def lang_levels.T : List (Lb sg (RT sg.U [(.int .i64)])) := [⟨0, [(3, (.d (.int .i64))), (7, (.d (.sl (.st 1)))), (8, (.d (.int .i64))), (9, (.d (.int .i64)))], fun k h => lang_levels.l0 k h.1 h.2.1 h.2.2.1 h.2.2.2.1⟩]
theorem lang_levels.ok : ∀ k : Nat, (lang_levels.e k).Sound Try.prog ctx 140 :=
  entry_rec base_ok mo (fn := Try.f140) (b := (Try.f140.body.getD .skip)) (pm := [(.d (.st 1))]) (rs := [(.int .i64)]) (an := lang_levels.a) (N := 20) (vars := [(.tmp 2)]) Try.func140 (by kernel_rfl) (by kernel_rfl) (by kernel_rfl) (by kernel_rfl) (by kernel_rfl) (by kernel_rfl) (O := lang_levels.O) lang_levels.T ⟨⟨by kernel_rfl, fun _ => by first | rfl | rw [lang_levels.l0], fun k h => lang_levels.l0_eq k h.1 h.2.1 h.2.2.1 h.2.2.2.1⟩, trivial⟩ (F := fun k h => lang_levels.f k h.1) (fun _ => by first | rfl | rw [lang_levels.f]) (fun k h => lang_levels.f_eq k h.1)
    (fun k own => by unfold lang_levels.O; exact oracle_of (P := Try.prog) (C := ctx) ⟨own, trivial⟩)
mutual
def lang_testForm.l0 : Nat → Int → Int → Int → Int → (List T_lang_Test) → Int → Int → Bool → Option (Bool)
  | 0, _, _, _, _, _, _, _, _ => none
  | k + 1, x1_0, x1_1, x1_2, x1_3, x1_4, x3, x10, x15 => (bif x15 then (bif (ilt x3 2) then (some false) else (lang_testForm.l1 k x1_0 x1_1 x1_2 x1_3 x1_4)) else (bif (ieq x10 4) then (bif (ilt x3 1) then (some false) else (lang_testForm.l1 k x1_0 x1_1 x1_2 x1_3 x1_4)) else (some false)))
def lang_testForm.l1 : Nat → Int → Int → Int → Int → (List T_lang_Test) → Option (Bool)
  | 0, _, _, _, _, _ => none
  | k + 1, x1_0, x1_1, x1_2, x1_3, x1_4 => (lang_testForm.l2 k x1_0 x1_1 x1_2 x1_3 x1_4 x1_4 (llen x1_4) 0)
def lang_testForm.l2 : Nat → Int → Int → Int → Int → (List T_lang_Test) → (List T_lang_Test) → Int → Int → Option (Bool)
  | 0, _, _, _, _, _, _, _, _ => none
  | k + 1, x1_0, x1_1, x1_2, x1_3, x1_4, x25, x26, x27 => (bif (ilt x27 x26) then ((lat x25 x27).bind fun y1 => (bif (bif (!ieq x1_0 4) then (ieq y1.fOp x1_0) else false) then (some false) else ((lang_testForm.f k (T_lang_Test.mk y1.fOp y1.fModulus y1.fLow y1.fHigh y1.fKids)).bind fun y2 => (bif (!y2) then (some false) else (lang_testForm.l2 k x1_0 x1_1 x1_2 x1_3 x1_4 x25 x26 (wadd .i64 x27 1)))))) else (some (bif (bif (ieq x1_1 0) then (ieq x1_2 0) else false) then (ieq x1_3 0) else false)))
def lang_testForm.f : Nat → T_lang_Test → Option (Bool)
  | 0, _ => none
  | k + 1, a0 => (bif (ieq a0.fOp 1) then (some (ieq (llen a0.fKids) 0)) else (bif (ieq a0.fOp 2) then (lang_testForm.l0 k a0.fOp a0.fModulus a0.fLow a0.fHigh a0.fKids (llen a0.fKids) a0.fOp true) else (lang_testForm.l0 k a0.fOp a0.fModulus a0.fLow a0.fHigh a0.fKids (llen a0.fKids) a0.fOp (ieq a0.fOp 3))))
end
def lang_testForm.e (k : Nat) : Entry sg := entryOf sg [(.d (.st 1))] [.bool] (fun h => lang_testForm.f k h.1)
def lang_testForm.O (k : Nat) : Oracle sg := fun n => lkp n [(141, lang_testForm.e k)]
def lang_testForm.a : Ann := (.n .z (.n .z (.n (.n .z (.n .z (.n .z (.n .z (.lab 0 .z))))) (.lab 1 (.n (.n .z (.lp 2 .z)) .z)))))
def lang_testForm.L (k : Nat) : Nat → St sg.U → Option (RT sg.U [.bool]) := labs [(0, labOf sg [(1, (.box [.d (.int .i64), .d (.int .i64), .d (.int .i64), .d (.int .i64), .d (.sl (.st 1))])), (3, (.d (.int .i64))), (10, (.d (.int .i64))), (15, (.d .bool))] (fun h => lang_testForm.l0 k h.1 h.2.1 h.2.2.1 h.2.2.2.1 h.2.2.2.2.1 h.2.2.2.2.2.1 h.2.2.2.2.2.2.1 h.2.2.2.2.2.2.2.1)), (1, labOf sg [(1, (.box [.d (.int .i64), .d (.int .i64), .d (.int .i64), .d (.int .i64), .d (.sl (.st 1))]))] (fun h => lang_testForm.l1 k h.1 h.2.1 h.2.2.1 h.2.2.2.1 h.2.2.2.2.1)), (2, labOf sg [(1, (.box [.d (.int .i64), .d (.int .i64), .d (.int .i64), .d (.int .i64), .d (.sl (.st 1))])), (25, (.d (.sl (.st 1)))), (26, (.d (.int .i64))), (27, (.d (.int .i64)))] (fun h => lang_testForm.l2 k h.1 h.2.1 h.2.2.1 h.2.2.2.1 h.2.2.2.2.1 h.2.2.2.2.2.1 h.2.2.2.2.2.2.1 h.2.2.2.2.2.2.2.1))]
theorem lang_testForm.l0_eq (k : Nat) (x1_0 : Int) (x1_1 : Int) (x1_2 : Int) (x1_3 : Int) (x1_4 : (List T_lang_Test)) (x3 : Int) (x10 : Int) (x15 : Bool) : lang_testForm.l0 (k + 1) x1_0 x1_1 x1_2 x1_3 x1_4 x3 x10 x15 = runFrom (C := ctx) (lang_testForm.O k) ⟨60, [], []⟩ (lang_testForm.L k) (Try.f141.body.getD .skip) lang_testForm.a 0 (endK ctx [.bool] [(.tmp 2)]) (encD [(1, (.box [.d (.int .i64), .d (.int .i64), .d (.int .i64), .d (.int .i64), .d (.sl (.st 1))])), (3, (.d (.int .i64))), (10, (.d (.int .i64))), (15, (.d .bool))] (x1_0, x1_1, x1_2, x1_3, x1_4, x3, x10, x15, ()) (startD sg.U ⟨60, [], []⟩ [(1, (.box [.d (.int .i64), .d (.int .i64), .d (.int .i64), .d (.int .i64), .d (.sl (.st 1))])), (3, (.d (.int .i64))), (10, (.d (.int .i64))), (15, (.d .bool))])) := by
  rw [lang_testForm.l0]
  kernel_rfl
theorem lang_testForm.l1_eq (k : Nat) (x1_0 : Int) (x1_1 : Int) (x1_2 : Int) (x1_3 : Int) (x1_4 : (List T_lang_Test)) : lang_testForm.l1 (k + 1) x1_0 x1_1 x1_2 x1_3 x1_4 = runFrom (C := ctx) (lang_testForm.O k) ⟨60, [], []⟩ (lang_testForm.L k) (Try.f141.body.getD .skip) lang_testForm.a 1 (endK ctx [.bool] [(.tmp 2)]) (encD [(1, (.box [.d (.int .i64), .d (.int .i64), .d (.int .i64), .d (.int .i64), .d (.sl (.st 1))]))] (x1_0, x1_1, x1_2, x1_3, x1_4, ()) (startD sg.U ⟨60, [], []⟩ [(1, (.box [.d (.int .i64), .d (.int .i64), .d (.int .i64), .d (.int .i64), .d (.sl (.st 1))]))])) := by
  rw [lang_testForm.l1]
  kernel_rfl
theorem lang_testForm.l2_eq (k : Nat) (x1_0 : Int) (x1_1 : Int) (x1_2 : Int) (x1_3 : Int) (x1_4 : (List T_lang_Test)) (x25 : (List T_lang_Test)) (x26 : Int) (x27 : Int) : lang_testForm.l2 (k + 1) x1_0 x1_1 x1_2 x1_3 x1_4 x25 x26 x27 = runFrom (C := ctx) (lang_testForm.O k) ⟨60, [], []⟩ (lang_testForm.L k) (Try.f141.body.getD .skip) lang_testForm.a 2 (endK ctx [.bool] [(.tmp 2)]) (encD [(1, (.box [.d (.int .i64), .d (.int .i64), .d (.int .i64), .d (.int .i64), .d (.sl (.st 1))])), (25, (.d (.sl (.st 1)))), (26, (.d (.int .i64))), (27, (.d (.int .i64)))] (x1_0, x1_1, x1_2, x1_3, x1_4, x25, x26, x27, ()) (startD sg.U ⟨60, [], []⟩ [(1, (.box [.d (.int .i64), .d (.int .i64), .d (.int .i64), .d (.int .i64), .d (.sl (.st 1))])), (25, (.d (.sl (.st 1)))), (26, (.d (.int .i64))), (27, (.d (.int .i64)))])) := by
  rw [lang_testForm.l2]
  kernel_rfl
theorem lang_testForm.f_eq (k : Nat) (a0 : T_lang_Test) : lang_testForm.f (k + 1) a0 = codeK (C := ctx) (lang_testForm.O k) ⟨60, [], []⟩ (lang_testForm.L k) (Try.f141.body.getD .skip) lang_testForm.a (endK ctx [.bool] [(.tmp 2)]) (slotsOf sg.U 0 [(.d (.st 1))] (a0, ()) (empty sg.U)) := by
  rw [lang_testForm.f]
  kernel_rfl
def lang_testForm.T : List (Lb sg (RT sg.U [.bool])) := [⟨0, [(1, (.box [.d (.int .i64), .d (.int .i64), .d (.int .i64), .d (.int .i64), .d (.sl (.st 1))])), (3, (.d (.int .i64))), (10, (.d (.int .i64))), (15, (.d .bool))], fun k h => lang_testForm.l0 k h.1 h.2.1 h.2.2.1 h.2.2.2.1 h.2.2.2.2.1 h.2.2.2.2.2.1 h.2.2.2.2.2.2.1 h.2.2.2.2.2.2.2.1⟩, ⟨1, [(1, (.box [.d (.int .i64), .d (.int .i64), .d (.int .i64), .d (.int .i64), .d (.sl (.st 1))]))], fun k h => lang_testForm.l1 k h.1 h.2.1 h.2.2.1 h.2.2.2.1 h.2.2.2.2.1⟩, ⟨2, [(1, (.box [.d (.int .i64), .d (.int .i64), .d (.int .i64), .d (.int .i64), .d (.sl (.st 1))])), (25, (.d (.sl (.st 1)))), (26, (.d (.int .i64))), (27, (.d (.int .i64)))], fun k h => lang_testForm.l2 k h.1 h.2.1 h.2.2.1 h.2.2.2.1 h.2.2.2.2.1 h.2.2.2.2.2.1 h.2.2.2.2.2.2.1 h.2.2.2.2.2.2.2.1⟩]
theorem lang_testForm.ok : ∀ k : Nat, (lang_testForm.e k).Sound Try.prog ctx 141 :=
  entry_rec base_ok mo (fn := Try.f141) (b := (Try.f141.body.getD .skip)) (pm := [(.d (.st 1))]) (rs := [.bool]) (an := lang_testForm.a) (N := 60) (vars := [(.tmp 2)]) Try.func141 (by kernel_rfl) (by kernel_rfl) (by kernel_rfl) (by kernel_rfl) (by kernel_rfl) (by kernel_rfl) (O := lang_testForm.O) lang_testForm.T ⟨⟨by kernel_rfl, fun _ => by first | rfl | rw [lang_testForm.l0], fun k h => lang_testForm.l0_eq k h.1 h.2.1 h.2.2.1 h.2.2.2.1 h.2.2.2.2.1 h.2.2.2.2.2.1 h.2.2.2.2.2.2.1 h.2.2.2.2.2.2.2.1⟩, ⟨⟨by kernel_rfl, fun _ => by first | rfl | rw [lang_testForm.l1], fun k h => lang_testForm.l1_eq k h.1 h.2.1 h.2.2.1 h.2.2.2.1 h.2.2.2.2.1⟩, ⟨⟨by kernel_rfl, fun _ => by first | rfl | rw [lang_testForm.l2], fun k h => lang_testForm.l2_eq k h.1 h.2.1 h.2.2.1 h.2.2.2.1 h.2.2.2.2.1 h.2.2.2.2.2.1 h.2.2.2.2.2.2.1 h.2.2.2.2.2.2.2.1⟩, trivial⟩⟩⟩ (F := fun k h => lang_testForm.f k h.1) (fun _ => by first | rfl | rw [lang_testForm.f]) (fun k h => lang_testForm.f_eq k h.1)
    (fun k own => by unfold lang_testForm.O; exact oracle_of (P := Try.prog) (C := ctx) ⟨own, trivial⟩)
mutual
def lang_testRange.l0 : Nat → Int → Int → Int → Int → (List T_lang_Test) → (List T_lang_Test) → Int → Int → Option (Bool)
  | 0, _, _, _, _, _, _, _, _ => none
  | k + 1, x1_0, x1_1, x1_2, x1_3, x1_4, x6, x7, x8 => (bif (ilt x8 x7) then ((lat x6 x8).bind fun y1 => ((lang_testRange.f k (T_lang_Test.mk y1.fOp y1.fModulus y1.fLow y1.fHigh y1.fKids)).bind fun y2 => (bif (!y2) then (some false) else (lang_testRange.l0 k x1_0 x1_1 x1_2 x1_3 x1_4 x6 x7 (wadd .i64 x8 1))))) else (bif (!ieq x1_0 1) then (some true) else (some (bif (bif (bif (bif (ieq x1_1 0) then true else (bif (ile 2 x1_1) then (ile x1_1 1000000) else false)) then (ile 0 x1_2) else false) then (ile x1_2 x1_3) else false) then (ile x1_3 1000000000) else false))))
def lang_testRange.f : Nat → T_lang_Test → Option (Bool)
  | 0, _ => none
  | k + 1, a0 => (lang_testRange.l0 k a0.fOp a0.fModulus a0.fLow a0.fHigh a0.fKids a0.fKids (llen a0.fKids) 0)
end
def lang_testRange.e (k : Nat) : Entry sg := entryOf sg [(.d (.st 1))] [.bool] (fun h => lang_testRange.f k h.1)
def lang_testRange.O (k : Nat) : Oracle sg := fun n => lkp n [(142, lang_testRange.e k)]
def lang_testRange.a : Ann := (.n .z (.n (.n .z (.lp 0 .z)) .z))
def lang_testRange.L (k : Nat) : Nat → St sg.U → Option (RT sg.U [.bool]) := labs [(0, labOf sg [(1, (.box [.d (.int .i64), .d (.int .i64), .d (.int .i64), .d (.int .i64), .d (.sl (.st 1))])), (6, (.d (.sl (.st 1)))), (7, (.d (.int .i64))), (8, (.d (.int .i64)))] (fun h => lang_testRange.l0 k h.1 h.2.1 h.2.2.1 h.2.2.2.1 h.2.2.2.2.1 h.2.2.2.2.2.1 h.2.2.2.2.2.2.1 h.2.2.2.2.2.2.2.1))]
theorem lang_testRange.l0_eq (k : Nat) (x1_0 : Int) (x1_1 : Int) (x1_2 : Int) (x1_3 : Int) (x1_4 : (List T_lang_Test)) (x6 : (List T_lang_Test)) (x7 : Int) (x8 : Int) : lang_testRange.l0 (k + 1) x1_0 x1_1 x1_2 x1_3 x1_4 x6 x7 x8 = runFrom (C := ctx) (lang_testRange.O k) ⟨49, [], []⟩ (lang_testRange.L k) (Try.f142.body.getD .skip) lang_testRange.a 0 (endK ctx [.bool] [(.tmp 2)]) (encD [(1, (.box [.d (.int .i64), .d (.int .i64), .d (.int .i64), .d (.int .i64), .d (.sl (.st 1))])), (6, (.d (.sl (.st 1)))), (7, (.d (.int .i64))), (8, (.d (.int .i64)))] (x1_0, x1_1, x1_2, x1_3, x1_4, x6, x7, x8, ()) (startD sg.U ⟨49, [], []⟩ [(1, (.box [.d (.int .i64), .d (.int .i64), .d (.int .i64), .d (.int .i64), .d (.sl (.st 1))])), (6, (.d (.sl (.st 1)))), (7, (.d (.int .i64))), (8, (.d (.int .i64)))])) := by
  rw [lang_testRange.l0]
  kernel_rfl
theorem lang_testRange.f_eq (k : Nat) (a0 : T_lang_Test) : lang_testRange.f (k + 1) a0 = codeK (C := ctx) (lang_testRange.O k) ⟨49, [], []⟩ (lang_testRange.L k) (Try.f142.body.getD .skip) lang_testRange.a (endK ctx [.bool] [(.tmp 2)]) (slotsOf sg.U 0 [(.d (.st 1))] (a0, ()) (empty sg.U)) := by
  rw [lang_testRange.f]
  kernel_rfl
def lang_testRange.T : List (Lb sg (RT sg.U [.bool])) := [⟨0, [(1, (.box [.d (.int .i64), .d (.int .i64), .d (.int .i64), .d (.int .i64), .d (.sl (.st 1))])), (6, (.d (.sl (.st 1)))), (7, (.d (.int .i64))), (8, (.d (.int .i64)))], fun k h => lang_testRange.l0 k h.1 h.2.1 h.2.2.1 h.2.2.2.1 h.2.2.2.2.1 h.2.2.2.2.2.1 h.2.2.2.2.2.2.1 h.2.2.2.2.2.2.2.1⟩]
theorem lang_testRange.ok : ∀ k : Nat, (lang_testRange.e k).Sound Try.prog ctx 142 :=
  entry_rec base_ok mo (fn := Try.f142) (b := (Try.f142.body.getD .skip)) (pm := [(.d (.st 1))]) (rs := [.bool]) (an := lang_testRange.a) (N := 49) (vars := [(.tmp 2)]) Try.func142 (by kernel_rfl) (by kernel_rfl) (by kernel_rfl) (by kernel_rfl) (by kernel_rfl) (by kernel_rfl) (O := lang_testRange.O) lang_testRange.T ⟨⟨by kernel_rfl, fun _ => by first | rfl | rw [lang_testRange.l0], fun k h => lang_testRange.l0_eq k h.1 h.2.1 h.2.2.1 h.2.2.2.1 h.2.2.2.2.1 h.2.2.2.2.2.1 h.2.2.2.2.2.2.1 h.2.2.2.2.2.2.2.1⟩, trivial⟩ (F := fun k h => lang_testRange.f k h.1) (fun _ => by first | rfl | rw [lang_testRange.f]) (fun k h => lang_testRange.f_eq k h.1)
    (fun k own => by unfold lang_testRange.O; exact oracle_of (P := Try.prog) (C := ctx) ⟨own, trivial⟩)
mutual
def lang_ruleFault.l0 : Nat → (List T_lang_Test) → (List T_lang_Test) → Int → Int → Option (Int)
  | 0, _, _, _, _ => none
  | k + 1, x1_0, x16, x17, x18 => (bif (ilt x18 x17) then ((lat x16 x18).bind fun y1 => ((lang_tests.f k (T_lang_Test.mk y1.fOp y1.fModulus y1.fLow y1.fHigh y1.fKids)).bind fun y2 => (bif (ilt 20 y2) then (some 4) else (lang_ruleFault.l0 k x1_0 x16 x17 (wadd .i64 x18 1))))) else (lang_ruleFault.l1 k x1_0 x1_0 (llen x1_0) 0))
def lang_ruleFault.l1 : Nat → (List T_lang_Test) → (List T_lang_Test) → Int → Int → Option (Int)
  | 0, _, _, _, _ => none
  | k + 1, x1_0, x27, x28, x29 => (bif (ilt x29 x28) then ((lat x27 x29).bind fun y3 => ((lang_levels.f k (T_lang_Test.mk y3.fOp y3.fModulus y3.fLow y3.fHigh y3.fKids)).bind fun y4 => (bif (ilt 12 y4) then (some 13) else (lang_ruleFault.l1 k x1_0 x27 x28 (wadd .i64 x29 1))))) else (lang_ruleFault.l2 k x1_0 x1_0 (llen x1_0) 0))
def lang_ruleFault.l2 : Nat → (List T_lang_Test) → (List T_lang_Test) → Int → Int → Option (Int)
  | 0, _, _, _, _ => none
  | k + 1, x1_0, x38, x39, x40 => (bif (ilt x40 x39) then ((lat x38 x40).bind fun y5 => ((lang_testForm.f k (T_lang_Test.mk y5.fOp y5.fModulus y5.fLow y5.fHigh y5.fKids)).bind fun y6 => (bif (!y6) then (some 1) else (lang_ruleFault.l2 k x1_0 x38 x39 (wadd .i64 x40 1))))) else (lang_ruleFault.l3 k x1_0 (llen x1_0) 0))
def lang_ruleFault.l3 : Nat → (List T_lang_Test) → Int → Int → Option (Int)
  | 0, _, _, _ => none
  | k + 1, x49, x50, x51 => (bif (ilt x51 x50) then ((lat x49 x51).bind fun y7 => ((lang_testRange.f k (T_lang_Test.mk y7.fOp y7.fModulus y7.fLow y7.fHigh y7.fKids)).bind fun y8 => (bif (!y8) then (some 2) else (lang_ruleFault.l3 k x49 x50 (wadd .i64 x51 1))))) else (some 0))
end
def lang_ruleFault.f (k : Nat) (a0 : T_lang_Rule) : Option (Int) := (bif (ilt 6 (llen a0.fForms)) then (some 4) else (lang_ruleFault.l0 k a0.fForms a0.fForms (llen a0.fForms) 0))
def lang_ruleFault.O (k : Nat) : Oracle sg := fun n => lkp n [(139, lang_tests.e k), (140, lang_levels.e k), (141, lang_testForm.e k), (142, lang_testRange.e k)]
def lang_ruleFault.a : Ann := (.n .z (.n .z (.n (.n .z (.lp 0 .z)) (.n (.n .z (.lp 1 .z)) (.n (.n .z (.lp 2 .z)) (.n (.n .z (.lp 3 .z)) .z))))))
def lang_ruleFault.L (k : Nat) : Nat → St sg.U → Option (RT sg.U [(.int .i64)]) := labs [(0, labOf sg [(1, (.box [.d (.sl (.st 1))])), (16, (.d (.sl (.st 1)))), (17, (.d (.int .i64))), (18, (.d (.int .i64)))] (fun h => lang_ruleFault.l0 k h.1 h.2.1 h.2.2.1 h.2.2.2.1)), (1, labOf sg [(1, (.box [.d (.sl (.st 1))])), (27, (.d (.sl (.st 1)))), (28, (.d (.int .i64))), (29, (.d (.int .i64)))] (fun h => lang_ruleFault.l1 k h.1 h.2.1 h.2.2.1 h.2.2.2.1)), (2, labOf sg [(1, (.box [.d (.sl (.st 1))])), (38, (.d (.sl (.st 1)))), (39, (.d (.int .i64))), (40, (.d (.int .i64)))] (fun h => lang_ruleFault.l2 k h.1 h.2.1 h.2.2.1 h.2.2.2.1)), (3, labOf sg [(49, (.d (.sl (.st 1)))), (50, (.d (.int .i64))), (51, (.d (.int .i64)))] (fun h => lang_ruleFault.l3 k h.1 h.2.1 h.2.2.1))]
theorem lang_ruleFault.l0_eq (k : Nat) (x1_0 : (List T_lang_Test)) (x16 : (List T_lang_Test)) (x17 : Int) (x18 : Int) : lang_ruleFault.l0 (k + 1) x1_0 x16 x17 x18 = runFrom (C := ctx) (lang_ruleFault.O k) ⟨59, [], []⟩ (lang_ruleFault.L k) (Try.f98.body.getD .skip) lang_ruleFault.a 0 (endK ctx [(.int .i64)] [(.tmp 2)]) (encD [(1, (.box [.d (.sl (.st 1))])), (16, (.d (.sl (.st 1)))), (17, (.d (.int .i64))), (18, (.d (.int .i64)))] (x1_0, x16, x17, x18, ()) (startD sg.U ⟨59, [], []⟩ [(1, (.box [.d (.sl (.st 1))])), (16, (.d (.sl (.st 1)))), (17, (.d (.int .i64))), (18, (.d (.int .i64)))])) := by
  rw [lang_ruleFault.l0]
  kernel_rfl
theorem lang_ruleFault.l1_eq (k : Nat) (x1_0 : (List T_lang_Test)) (x27 : (List T_lang_Test)) (x28 : Int) (x29 : Int) : lang_ruleFault.l1 (k + 1) x1_0 x27 x28 x29 = runFrom (C := ctx) (lang_ruleFault.O k) ⟨59, [], []⟩ (lang_ruleFault.L k) (Try.f98.body.getD .skip) lang_ruleFault.a 1 (endK ctx [(.int .i64)] [(.tmp 2)]) (encD [(1, (.box [.d (.sl (.st 1))])), (27, (.d (.sl (.st 1)))), (28, (.d (.int .i64))), (29, (.d (.int .i64)))] (x1_0, x27, x28, x29, ()) (startD sg.U ⟨59, [], []⟩ [(1, (.box [.d (.sl (.st 1))])), (27, (.d (.sl (.st 1)))), (28, (.d (.int .i64))), (29, (.d (.int .i64)))])) := by
  rw [lang_ruleFault.l1]
  kernel_rfl
theorem lang_ruleFault.l2_eq (k : Nat) (x1_0 : (List T_lang_Test)) (x38 : (List T_lang_Test)) (x39 : Int) (x40 : Int) : lang_ruleFault.l2 (k + 1) x1_0 x38 x39 x40 = runFrom (C := ctx) (lang_ruleFault.O k) ⟨59, [], []⟩ (lang_ruleFault.L k) (Try.f98.body.getD .skip) lang_ruleFault.a 2 (endK ctx [(.int .i64)] [(.tmp 2)]) (encD [(1, (.box [.d (.sl (.st 1))])), (38, (.d (.sl (.st 1)))), (39, (.d (.int .i64))), (40, (.d (.int .i64)))] (x1_0, x38, x39, x40, ()) (startD sg.U ⟨59, [], []⟩ [(1, (.box [.d (.sl (.st 1))])), (38, (.d (.sl (.st 1)))), (39, (.d (.int .i64))), (40, (.d (.int .i64)))])) := by
  rw [lang_ruleFault.l2]
  kernel_rfl
theorem lang_ruleFault.l3_eq (k : Nat) (x49 : (List T_lang_Test)) (x50 : Int) (x51 : Int) : lang_ruleFault.l3 (k + 1) x49 x50 x51 = runFrom (C := ctx) (lang_ruleFault.O k) ⟨59, [], []⟩ (lang_ruleFault.L k) (Try.f98.body.getD .skip) lang_ruleFault.a 3 (endK ctx [(.int .i64)] [(.tmp 2)]) (encD [(49, (.d (.sl (.st 1)))), (50, (.d (.int .i64))), (51, (.d (.int .i64)))] (x49, x50, x51, ()) (startD sg.U ⟨59, [], []⟩ [(49, (.d (.sl (.st 1)))), (50, (.d (.int .i64))), (51, (.d (.int .i64)))])) := by
  rw [lang_ruleFault.l3]
  kernel_rfl
theorem lang_ruleFault.f_eq (k : Nat) (a0 : T_lang_Rule) : lang_ruleFault.f k a0 = codeK (C := ctx) (lang_ruleFault.O k) ⟨59, [], []⟩ (lang_ruleFault.L k) (Try.f98.body.getD .skip) lang_ruleFault.a (endK ctx [(.int .i64)] [(.tmp 2)]) (slotsOf sg.U 0 [(.d (.st 0))] (a0, ()) (empty sg.U)) := by
  unfold lang_ruleFault.f
  kernel_rfl
def lang_ruleFault.e (k : Nat) : Entry sg := entryOf sg [(.d (.st 0))] [(.int .i64)] (fun h => lang_ruleFault.f k h.1)
def lang_ruleFault.T : List (Lb sg (RT sg.U [(.int .i64)])) := [⟨0, [(1, (.box [.d (.sl (.st 1))])), (16, (.d (.sl (.st 1)))), (17, (.d (.int .i64))), (18, (.d (.int .i64)))], fun k h => lang_ruleFault.l0 k h.1 h.2.1 h.2.2.1 h.2.2.2.1⟩, ⟨1, [(1, (.box [.d (.sl (.st 1))])), (27, (.d (.sl (.st 1)))), (28, (.d (.int .i64))), (29, (.d (.int .i64)))], fun k h => lang_ruleFault.l1 k h.1 h.2.1 h.2.2.1 h.2.2.2.1⟩, ⟨2, [(1, (.box [.d (.sl (.st 1))])), (38, (.d (.sl (.st 1)))), (39, (.d (.int .i64))), (40, (.d (.int .i64)))], fun k h => lang_ruleFault.l2 k h.1 h.2.1 h.2.2.1 h.2.2.2.1⟩, ⟨3, [(49, (.d (.sl (.st 1)))), (50, (.d (.int .i64))), (51, (.d (.int .i64)))], fun k h => lang_ruleFault.l3 k h.1 h.2.1 h.2.2.1⟩]
theorem lang_ruleFault.ok (k : Nat) : (lang_ruleFault.e k).Sound Try.prog ctx 98 :=
  entry_ok base_ok mo (fn := Try.f98) (b := (Try.f98.body.getD .skip)) (pm := [(.d (.st 0))]) (rs := [(.int .i64)]) (an := lang_ruleFault.a) (N := 59) (vars := [(.tmp 2)]) Try.func98 (by kernel_rfl) (by kernel_rfl) (by kernel_rfl) (by kernel_rfl) (by kernel_rfl) (by kernel_rfl) (O := lang_ruleFault.O)
    (fun k => by unfold lang_ruleFault.O; exact oracle_of (P := Try.prog) (C := ctx) ⟨(lang_tests.ok k), ⟨(lang_levels.ok k), ⟨(lang_testForm.ok k), ⟨(lang_testRange.ok k), trivial⟩⟩⟩⟩) lang_ruleFault.T ⟨⟨by kernel_rfl, fun _ => by first | rfl | rw [lang_ruleFault.l0], fun k h => lang_ruleFault.l0_eq k h.1 h.2.1 h.2.2.1 h.2.2.2.1⟩, ⟨⟨by kernel_rfl, fun _ => by first | rfl | rw [lang_ruleFault.l1], fun k h => lang_ruleFault.l1_eq k h.1 h.2.1 h.2.2.1 h.2.2.2.1⟩, ⟨⟨by kernel_rfl, fun _ => by first | rfl | rw [lang_ruleFault.l2], fun k h => lang_ruleFault.l2_eq k h.1 h.2.1 h.2.2.1 h.2.2.2.1⟩, ⟨⟨by kernel_rfl, fun _ => by first | rfl | rw [lang_ruleFault.l3], fun k h => lang_ruleFault.l3_eq k h.1 h.2.1 h.2.2.1⟩, trivial⟩⟩⟩⟩ k (fun h => lang_ruleFault.f_eq k h.1)
def lang_magnitude.f (a0 : Int) : Option (Int) := (bif (ilt a0 0) then (some (wadd .u64 (wcv .u64 (wsub .i64 0 (wadd .i64 a0 1))) 1)) else (some (wcv .u64 a0)))
def lang_magnitude.O : Oracle sg := fun n => lkp n []
def lang_magnitude.a : Ann := .z
def lang_magnitude.L : Nat → St sg.U → Option (RT sg.U [(.int .u64)]) := labs []
theorem lang_magnitude.f_eq (a0 : Int) : lang_magnitude.f a0 = codeK (C := ctx) (lang_magnitude.O) ⟨12, [], []⟩ (lang_magnitude.L) (Try.f144.body.getD .skip) lang_magnitude.a (endK ctx [(.int .u64)] [(.tmp 2)]) (slotsOf sg.U 0 [(.d (.int .i64))] (a0, ()) (empty sg.U)) := by
  unfold lang_magnitude.f
  kernel_rfl
def lang_magnitude.e : Entry sg := entryOf sg [(.d (.int .i64))] [(.int .u64)] (fun h => lang_magnitude.f h.1)
def lang_magnitude.T : List (Lb sg (RT sg.U [(.int .u64)])) := []
theorem lang_magnitude.ok : (lang_magnitude.e).Sound Try.prog ctx 144 :=
  entry_ok base_ok mo (fn := Try.f144) (b := (Try.f144.body.getD .skip)) (pm := [(.d (.int .i64))]) (rs := [(.int .u64)]) (an := lang_magnitude.a) (N := 12) (vars := [(.tmp 2)]) Try.func144 (by kernel_rfl) (by kernel_rfl) (by kernel_rfl) (by kernel_rfl) (by kernel_rfl) (by kernel_rfl) (O := fun _ => lang_magnitude.O)
    (fun _ => by unfold lang_magnitude.O; exact oracle_of (P := Try.prog) (C := ctx) trivial) lang_magnitude.T trivial 0 (fun h => lang_magnitude.f_eq h.1)
mutual
def lang_holds.l0 : Nat → Int → Int → Int → Int → Int → (List T_lang_Test) → Int → Bool → Option (Bool)
  | 0, _, _, _, _, _, _, _, _ => none
  | k + 1, x1, x2_0, x2_1, x2_2, x2_3, x2_4, x10, x11 => (bif x11 then (lang_holds.l1 k x1 x2_0 x2_1 x2_2 x2_3 x2_4 x2_4 (llen x2_4) 0) else (bif (ieq x10 3) then (lang_holds.l2 k x1 x2_4 (llen x2_4) 0) else (bif (!ieq x2_1 0) then (bif ieq (wcv .u64 x2_1) 0 then none else (lang_holds.l3 k (irem x1 (wcv .u64 x2_1)) x2_0 x2_1 x2_2 x2_3 x2_4)) else (lang_holds.l3 k x1 x2_0 x2_1 x2_2 x2_3 x2_4))))
def lang_holds.l1 : Nat → Int → Int → Int → Int → Int → (List T_lang_Test) → (List T_lang_Test) → Int → Int → Option (Bool)
  | 0, _, _, _, _, _, _, _, _, _ => none
  | k + 1, x1, x2_0, x2_1, x2_2, x2_3, x2_4, x15, x16, x17 => (bif (ilt x17 x16) then ((lat x15 x17).bind fun y1 => ((lang_holds.f k (T_lang_Test.mk y1.fOp y1.fModulus y1.fLow y1.fHigh y1.fKids) x1).bind fun y2 => (bif (!(y2 == (ieq x2_0 2))) then (some false) else (lang_holds.l1 k x1 x2_0 x2_1 x2_2 x2_3 x2_4 x15 x16 (wadd .i64 x17 1))))) else (some true))
def lang_holds.l2 : Nat → Int → (List T_lang_Test) → Int → Int → Option (Bool)
  | 0, _, _, _, _ => none
  | k + 1, x1, x32, x33, x34 => (bif (ilt x34 x33) then ((lat x32 x34).bind fun y3 => ((lang_holds.f k (T_lang_Test.mk y3.fOp y3.fModulus y3.fLow y3.fHigh y3.fKids) x1).bind fun y4 => (bif y4 then (some true) else (lang_holds.l2 k x1 x32 x33 (wadd .i64 x34 1))))) else (some false))
def lang_holds.l3 : Nat → Int → Int → Int → Int → Int → (List T_lang_Test) → Option (Bool)
  | 0, _, _, _, _, _, _ => none
  | k + 1, x1, x2_0, x2_1, x2_2, x2_3, x2_4 => (bif (ile (wcv .u64 x2_2) x1) then (some (ile x1 (wcv .u64 x2_3))) else (some false))
def lang_holds.f : Nat → T_lang_Test → Int → Option (Bool)
  | 0, _, _ => none
  | k + 1, a0, a1 => (bif (ieq a0.fOp 2) then (lang_holds.l0 k a1 a0.fOp a0.fModulus a0.fLow a0.fHigh a0.fKids a0.fOp true) else (lang_holds.l0 k a1 a0.fOp a0.fModulus a0.fLow a0.fHigh a0.fKids a0.fOp (ieq a0.fOp 4)))
end
def lang_holds.e (k : Nat) : Entry sg := entryOf sg [(.d (.st 1)), (.d (.int .u64))] [.bool] (fun h => lang_holds.f k h.1 h.2.1)
def lang_holds.O (k : Nat) : Oracle sg := fun n => lkp n [(143, lang_holds.e k)]
def lang_holds.a : Ann := (.n .z (.n (.n .z (.n .z (.lab 0 (.n (.n (.n .z (.lp 1 .z)) .z) (.n .z (.n (.n (.n .z (.lp 2 .z)) .z) .z)))))) (.n .z (.lab 3 .z))))
def lang_holds.L (k : Nat) : Nat → St sg.U → Option (RT sg.U [.bool]) := labs [(0, labOf sg [(1, (.d (.int .u64))), (2, (.box [.d (.int .i64), .d (.int .i64), .d (.int .i64), .d (.int .i64), .d (.sl (.st 1))])), (10, (.d (.int .i64))), (11, (.d .bool))] (fun h => lang_holds.l0 k h.1 h.2.1 h.2.2.1 h.2.2.2.1 h.2.2.2.2.1 h.2.2.2.2.2.1 h.2.2.2.2.2.2.1 h.2.2.2.2.2.2.2.1)), (1, labOf sg [(1, (.d (.int .u64))), (2, (.box [.d (.int .i64), .d (.int .i64), .d (.int .i64), .d (.int .i64), .d (.sl (.st 1))])), (15, (.d (.sl (.st 1)))), (16, (.d (.int .i64))), (17, (.d (.int .i64)))] (fun h => lang_holds.l1 k h.1 h.2.1 h.2.2.1 h.2.2.2.1 h.2.2.2.2.1 h.2.2.2.2.2.1 h.2.2.2.2.2.2.1 h.2.2.2.2.2.2.2.1 h.2.2.2.2.2.2.2.2.1)), (2, labOf sg [(1, (.d (.int .u64))), (32, (.d (.sl (.st 1)))), (33, (.d (.int .i64))), (34, (.d (.int .i64)))] (fun h => lang_holds.l2 k h.1 h.2.1 h.2.2.1 h.2.2.2.1)), (3, labOf sg [(1, (.d (.int .u64))), (2, (.box [.d (.int .i64), .d (.int .i64), .d (.int .i64), .d (.int .i64), .d (.sl (.st 1))]))] (fun h => lang_holds.l3 k h.1 h.2.1 h.2.2.1 h.2.2.2.1 h.2.2.2.2.1 h.2.2.2.2.2.1))]
theorem lang_holds.l0_eq (k : Nat) (x1 : Int) (x2_0 : Int) (x2_1 : Int) (x2_2 : Int) (x2_3 : Int) (x2_4 : (List T_lang_Test)) (x10 : Int) (x11 : Bool) : lang_holds.l0 (k + 1) x1 x2_0 x2_1 x2_2 x2_3 x2_4 x10 x11 = runFrom (C := ctx) (lang_holds.O k) ⟨62, [], []⟩ (lang_holds.L k) (Try.f143.body.getD .skip) lang_holds.a 0 (endK ctx [.bool] [(.tmp 4)]) (encD [(1, (.d (.int .u64))), (2, (.box [.d (.int .i64), .d (.int .i64), .d (.int .i64), .d (.int .i64), .d (.sl (.st 1))])), (10, (.d (.int .i64))), (11, (.d .bool))] (x1, x2_0, x2_1, x2_2, x2_3, x2_4, x10, x11, ()) (startD sg.U ⟨62, [], []⟩ [(1, (.d (.int .u64))), (2, (.box [.d (.int .i64), .d (.int .i64), .d (.int .i64), .d (.int .i64), .d (.sl (.st 1))])), (10, (.d (.int .i64))), (11, (.d .bool))])) := by
  rw [lang_holds.l0]
  kernel_rfl
theorem lang_holds.l1_eq (k : Nat) (x1 : Int) (x2_0 : Int) (x2_1 : Int) (x2_2 : Int) (x2_3 : Int) (x2_4 : (List T_lang_Test)) (x15 : (List T_lang_Test)) (x16 : Int) (x17 : Int) : lang_holds.l1 (k + 1) x1 x2_0 x2_1 x2_2 x2_3 x2_4 x15 x16 x17 = runFrom (C := ctx) (lang_holds.O k) ⟨62, [], []⟩ (lang_holds.L k) (Try.f143.body.getD .skip) lang_holds.a 1 (endK ctx [.bool] [(.tmp 4)]) (encD [(1, (.d (.int .u64))), (2, (.box [.d (.int .i64), .d (.int .i64), .d (.int .i64), .d (.int .i64), .d (.sl (.st 1))])), (15, (.d (.sl (.st 1)))), (16, (.d (.int .i64))), (17, (.d (.int .i64)))] (x1, x2_0, x2_1, x2_2, x2_3, x2_4, x15, x16, x17, ()) (startD sg.U ⟨62, [], []⟩ [(1, (.d (.int .u64))), (2, (.box [.d (.int .i64), .d (.int .i64), .d (.int .i64), .d (.int .i64), .d (.sl (.st 1))])), (15, (.d (.sl (.st 1)))), (16, (.d (.int .i64))), (17, (.d (.int .i64)))])) := by
  rw [lang_holds.l1]
  kernel_rfl
theorem lang_holds.l2_eq (k : Nat) (x1 : Int) (x32 : (List T_lang_Test)) (x33 : Int) (x34 : Int) : lang_holds.l2 (k + 1) x1 x32 x33 x34 = runFrom (C := ctx) (lang_holds.O k) ⟨62, [], []⟩ (lang_holds.L k) (Try.f143.body.getD .skip) lang_holds.a 2 (endK ctx [.bool] [(.tmp 4)]) (encD [(1, (.d (.int .u64))), (32, (.d (.sl (.st 1)))), (33, (.d (.int .i64))), (34, (.d (.int .i64)))] (x1, x32, x33, x34, ()) (startD sg.U ⟨62, [], []⟩ [(1, (.d (.int .u64))), (32, (.d (.sl (.st 1)))), (33, (.d (.int .i64))), (34, (.d (.int .i64)))])) := by
  rw [lang_holds.l2]
  kernel_rfl
theorem lang_holds.l3_eq (k : Nat) (x1 : Int) (x2_0 : Int) (x2_1 : Int) (x2_2 : Int) (x2_3 : Int) (x2_4 : (List T_lang_Test)) : lang_holds.l3 (k + 1) x1 x2_0 x2_1 x2_2 x2_3 x2_4 = runFrom (C := ctx) (lang_holds.O k) ⟨62, [], []⟩ (lang_holds.L k) (Try.f143.body.getD .skip) lang_holds.a 3 (endK ctx [.bool] [(.tmp 4)]) (encD [(1, (.d (.int .u64))), (2, (.box [.d (.int .i64), .d (.int .i64), .d (.int .i64), .d (.int .i64), .d (.sl (.st 1))]))] (x1, x2_0, x2_1, x2_2, x2_3, x2_4, ()) (startD sg.U ⟨62, [], []⟩ [(1, (.d (.int .u64))), (2, (.box [.d (.int .i64), .d (.int .i64), .d (.int .i64), .d (.int .i64), .d (.sl (.st 1))]))])) := by
  rw [lang_holds.l3]
  kernel_rfl
theorem lang_holds.f_eq (k : Nat) (a0 : T_lang_Test) (a1 : Int) : lang_holds.f (k + 1) a0 a1 = codeK (C := ctx) (lang_holds.O k) ⟨62, [], []⟩ (lang_holds.L k) (Try.f143.body.getD .skip) lang_holds.a (endK ctx [.bool] [(.tmp 4)]) (slotsOf sg.U 0 [(.d (.st 1)), (.d (.int .u64))] (a0, a1, ()) (empty sg.U)) := by
  rw [lang_holds.f]
  kernel_rfl
def lang_holds.T : List (Lb sg (RT sg.U [.bool])) := [⟨0, [(1, (.d (.int .u64))), (2, (.box [.d (.int .i64), .d (.int .i64), .d (.int .i64), .d (.int .i64), .d (.sl (.st 1))])), (10, (.d (.int .i64))), (11, (.d .bool))], fun k h => lang_holds.l0 k h.1 h.2.1 h.2.2.1 h.2.2.2.1 h.2.2.2.2.1 h.2.2.2.2.2.1 h.2.2.2.2.2.2.1 h.2.2.2.2.2.2.2.1⟩, ⟨1, [(1, (.d (.int .u64))), (2, (.box [.d (.int .i64), .d (.int .i64), .d (.int .i64), .d (.int .i64), .d (.sl (.st 1))])), (15, (.d (.sl (.st 1)))), (16, (.d (.int .i64))), (17, (.d (.int .i64)))], fun k h => lang_holds.l1 k h.1 h.2.1 h.2.2.1 h.2.2.2.1 h.2.2.2.2.1 h.2.2.2.2.2.1 h.2.2.2.2.2.2.1 h.2.2.2.2.2.2.2.1 h.2.2.2.2.2.2.2.2.1⟩, ⟨2, [(1, (.d (.int .u64))), (32, (.d (.sl (.st 1)))), (33, (.d (.int .i64))), (34, (.d (.int .i64)))], fun k h => lang_holds.l2 k h.1 h.2.1 h.2.2.1 h.2.2.2.1⟩, ⟨3, [(1, (.d (.int .u64))), (2, (.box [.d (.int .i64), .d (.int .i64), .d (.int .i64), .d (.int .i64), .d (.sl (.st 1))]))], fun k h => lang_holds.l3 k h.1 h.2.1 h.2.2.1 h.2.2.2.1 h.2.2.2.2.1 h.2.2.2.2.2.1⟩]
theorem lang_holds.ok : ∀ k : Nat, (lang_holds.e k).Sound Try.prog ctx 143 :=
  entry_rec base_ok mo (fn := Try.f143) (b := (Try.f143.body.getD .skip)) (pm := [(.d (.st 1)), (.d (.int .u64))]) (rs := [.bool]) (an := lang_holds.a) (N := 62) (vars := [(.tmp 4)]) Try.func143 (by kernel_rfl) (by kernel_rfl) (by kernel_rfl) (by kernel_rfl) (by kernel_rfl) (by kernel_rfl) (O := lang_holds.O) lang_holds.T ⟨⟨by kernel_rfl, fun _ => by first | rfl | rw [lang_holds.l0], fun k h => lang_holds.l0_eq k h.1 h.2.1 h.2.2.1 h.2.2.2.1 h.2.2.2.2.1 h.2.2.2.2.2.1 h.2.2.2.2.2.2.1 h.2.2.2.2.2.2.2.1⟩, ⟨⟨by kernel_rfl, fun _ => by first | rfl | rw [lang_holds.l1], fun k h => lang_holds.l1_eq k h.1 h.2.1 h.2.2.1 h.2.2.2.1 h.2.2.2.2.1 h.2.2.2.2.2.1 h.2.2.2.2.2.2.1 h.2.2.2.2.2.2.2.1 h.2.2.2.2.2.2.2.2.1⟩, ⟨⟨by kernel_rfl, fun _ => by first | rfl | rw [lang_holds.l2], fun k h => lang_holds.l2_eq k h.1 h.2.1 h.2.2.1 h.2.2.2.1⟩, ⟨⟨by kernel_rfl, fun _ => by first | rfl | rw [lang_holds.l3], fun k h => lang_holds.l3_eq k h.1 h.2.1 h.2.2.1 h.2.2.2.1 h.2.2.2.2.1 h.2.2.2.2.2.1⟩, trivial⟩⟩⟩⟩ (F := fun k h => lang_holds.f k h.1 h.2.1) (fun _ => by first | rfl | rw [lang_holds.f]) (fun k h => lang_holds.f_eq k h.1 h.2.1)
    (fun k own => by unfold lang_holds.O; exact oracle_of (P := Try.prog) (C := ctx) ⟨own, trivial⟩)
def lang_form.l0 : Nat → Int → (List T_lang_Test) → (List T_lang_Test) → Int → Int → Option (Int)
  | 0, _, _, _, _, _ => none
  | k + 1, x1, x2_0, x8, x9, x10 => (bif (ilt x10 x9) then ((lat x8 x10).bind fun y1 => ((lang_magnitude.f x1).bind fun y2 => ((lang_holds.f k (T_lang_Test.mk y1.fOp y1.fModulus y1.fLow y1.fHigh y1.fKids) y2).bind fun y3 => (bif y3 then (some x10) else (lang_form.l0 k x1 x2_0 x8 x9 (wadd .i64 x10 1)))))) else (some (llen x2_0)))
def lang_form.f (k : Nat) (a0 : T_lang_Rule) (a1 : Int) : Option (Int) := (lang_form.l0 k a1 a0.fForms a0.fForms (llen a0.fForms) 0)
def lang_form.O (k : Nat) : Oracle sg := fun n => lkp n [(143, lang_holds.e k), (144, lang_magnitude.e)]
def lang_form.a : Ann := (.n .z (.n (.n .z (.lp 0 .z)) .z))
def lang_form.L (k : Nat) : Nat → St sg.U → Option (RT sg.U [(.int .i64)]) := labs [(0, labOf sg [(1, (.d (.int .i64))), (2, (.box [.d (.sl (.st 1))])), (8, (.d (.sl (.st 1)))), (9, (.d (.int .i64))), (10, (.d (.int .i64)))] (fun h => lang_form.l0 k h.1 h.2.1 h.2.2.1 h.2.2.2.1 h.2.2.2.2.1))]
theorem lang_form.l0_eq (k : Nat) (x1 : Int) (x2_0 : (List T_lang_Test)) (x8 : (List T_lang_Test)) (x9 : Int) (x10 : Int) : lang_form.l0 (k + 1) x1 x2_0 x8 x9 x10 = runFrom (C := ctx) (lang_form.O k) ⟨24, [], []⟩ (lang_form.L k) (Try.f99.body.getD .skip) lang_form.a 0 (endK ctx [(.int .i64)] [(.tmp 4)]) (encD [(1, (.d (.int .i64))), (2, (.box [.d (.sl (.st 1))])), (8, (.d (.sl (.st 1)))), (9, (.d (.int .i64))), (10, (.d (.int .i64)))] (x1, x2_0, x8, x9, x10, ()) (startD sg.U ⟨24, [], []⟩ [(1, (.d (.int .i64))), (2, (.box [.d (.sl (.st 1))])), (8, (.d (.sl (.st 1)))), (9, (.d (.int .i64))), (10, (.d (.int .i64)))])) := by
  rw [lang_form.l0]
  kernel_rfl
theorem lang_form.f_eq (k : Nat) (a0 : T_lang_Rule) (a1 : Int) : lang_form.f k a0 a1 = codeK (C := ctx) (lang_form.O k) ⟨24, [], []⟩ (lang_form.L k) (Try.f99.body.getD .skip) lang_form.a (endK ctx [(.int .i64)] [(.tmp 4)]) (slotsOf sg.U 0 [(.d (.st 0)), (.d (.int .i64))] (a0, a1, ()) (empty sg.U)) := by
  unfold lang_form.f
  kernel_rfl
def lang_form.e (k : Nat) : Entry sg := entryOf sg [(.d (.st 0)), (.d (.int .i64))] [(.int .i64)] (fun h => lang_form.f k h.1 h.2.1)
def lang_form.T : List (Lb sg (RT sg.U [(.int .i64)])) := [⟨0, [(1, (.d (.int .i64))), (2, (.box [.d (.sl (.st 1))])), (8, (.d (.sl (.st 1)))), (9, (.d (.int .i64))), (10, (.d (.int .i64)))], fun k h => lang_form.l0 k h.1 h.2.1 h.2.2.1 h.2.2.2.1 h.2.2.2.2.1⟩]
theorem lang_form.ok (k : Nat) : (lang_form.e k).Sound Try.prog ctx 99 :=
  entry_ok base_ok mo (fn := Try.f99) (b := (Try.f99.body.getD .skip)) (pm := [(.d (.st 0)), (.d (.int .i64))]) (rs := [(.int .i64)]) (an := lang_form.a) (N := 24) (vars := [(.tmp 4)]) Try.func99 (by kernel_rfl) (by kernel_rfl) (by kernel_rfl) (by kernel_rfl) (by kernel_rfl) (by kernel_rfl) (O := lang_form.O)
    (fun k => by unfold lang_form.O; exact oracle_of (P := Try.prog) (C := ctx) ⟨(lang_holds.ok k), ⟨(lang_magnitude.ok), trivial⟩⟩) lang_form.T ⟨⟨by kernel_rfl, fun _ => by first | rfl | rw [lang_form.l0], fun k h => lang_form.l0_eq k h.1 h.2.1 h.2.2.1 h.2.2.2.1 h.2.2.2.2.1⟩, trivial⟩ k (fun h => lang_form.f_eq k h.1 h.2.1)
def lang_Form.f (k : Nat) (a0 : T_lang_Rule) (a1 : Int) : Option (Int × Int) := ((lang_ruleFault.f k a0).bind fun y1 => (bif (!ieq y1 0) then (some (0, y1)) else ((lang_form.f k a0 a1).bind fun y2 => (some (y2, 0)))))
def lang_Form.O (k : Nat) : Oracle sg := fun n => lkp n [(98, lang_ruleFault.e k), (99, lang_form.e k)]
def lang_Form.a : Ann := .z
def lang_Form.L (k : Nat) : Nat → St sg.U → Option (RT sg.U [(.int .i64), (.int .i64)]) := labs []
theorem lang_Form.f_eq (k : Nat) (a0 : T_lang_Rule) (a1 : Int) : lang_Form.f k a0 a1 = codeK (C := ctx) (lang_Form.O k) ⟨15, [], []⟩ (lang_Form.L k) (Try.f46.body.getD .skip) lang_Form.a (endK ctx [(.int .i64), (.int .i64)] [(.tmp 4), (.tmp 5)]) (slotsOf sg.U 0 [(.d (.st 0)), (.d (.int .i64))] (a0, a1, ()) (empty sg.U)) := by
  unfold lang_Form.f
  kernel_rfl
def lang_Form.e (k : Nat) : Entry sg := entryOf sg [(.d (.st 0)), (.d (.int .i64))] [(.int .i64), (.int .i64)] (fun h => lang_Form.f k h.1 h.2.1)
def lang_Form.T : List (Lb sg (RT sg.U [(.int .i64), (.int .i64)])) := []
theorem lang_Form.ok (k : Nat) : (lang_Form.e k).Sound Try.prog ctx 46 :=
  entry_ok base_ok mo (fn := Try.f46) (b := (Try.f46.body.getD .skip)) (pm := [(.d (.st 0)), (.d (.int .i64))]) (rs := [(.int .i64), (.int .i64)]) (an := lang_Form.a) (N := 15) (vars := [(.tmp 4), (.tmp 5)]) Try.func46 (by kernel_rfl) (by kernel_rfl) (by kernel_rfl) (by kernel_rfl) (by kernel_rfl) (by kernel_rfl) (O := lang_Form.O)
    (fun k => by unfold lang_Form.O; exact oracle_of (P := Try.prog) (C := ctx) ⟨(lang_ruleFault.ok k), ⟨(lang_form.ok k), trivial⟩⟩) lang_Form.T trivial k (fun h => lang_Form.f_eq k h.1 h.2.1)
mutual
def mastref2_testsIn.l0 : Nat → Int → Int → (List T_lang_Test) → Int → Int → Option (Int × Int)
  | 0, _, _, _, _, _ => none
  | k + 1, x2, x3, x9, x10, x11 => (bif (ilt x11 x10) then ((lat x9 x11).bind fun y1 => ((mastref2_testsIn.f k (T_lang_Test.mk y1.fOp y1.fModulus y1.fLow y1.fHigh y1.fKids)).bind fun y2 => (mastref2_testsIn.l0 k (wadd .i64 x2 y2.1) (imax x3 y2.2) x9 x10 (wadd .i64 x11 1)))) else (some (x2, (wadd .i64 x3 1))))
def mastref2_testsIn.f : Nat → T_lang_Test → Option (Int × Int)
  | 0, _ => none
  | k + 1, a0 => (mastref2_testsIn.l0 k 1 0 a0.fKids (llen a0.fKids) 0)
end
def mastref2_testsIn.e (k : Nat) : Entry sg := entryOf sg [(.d (.st 1))] [(.int .i64), (.int .i64)] (fun h => mastref2_testsIn.f k h.1)
def mastref2_testsIn.O (k : Nat) : Oracle sg := fun n => lkp n [(100, mastref2_testsIn.e k)]
def mastref2_testsIn.a : Ann := (.n .z (.n .z (.n (.n .z (.lp 0 .z)) .z)))
def mastref2_testsIn.L (k : Nat) : Nat → St sg.U → Option (RT sg.U [(.int .i64), (.int .i64)]) := labs [(0, labOf sg [(2, (.d (.int .i64))), (3, (.d (.int .i64))), (9, (.d (.sl (.st 1)))), (10, (.d (.int .i64))), (11, (.d (.int .i64)))] (fun h => mastref2_testsIn.l0 k h.1 h.2.1 h.2.2.1 h.2.2.2.1 h.2.2.2.2.1))]
theorem mastref2_testsIn.l0_eq (k : Nat) (x2 : Int) (x3 : Int) (x9 : (List T_lang_Test)) (x10 : Int) (x11 : Int) : mastref2_testsIn.l0 (k + 1) x2 x3 x9 x10 x11 = runFrom (C := ctx) (mastref2_testsIn.O k) ⟨30, [], []⟩ (mastref2_testsIn.L k) (Try.f100.body.getD .skip) mastref2_testsIn.a 0 (endK ctx [(.int .i64), (.int .i64)] [(.tmp 2), (.tmp 3)]) (encD [(2, (.d (.int .i64))), (3, (.d (.int .i64))), (9, (.d (.sl (.st 1)))), (10, (.d (.int .i64))), (11, (.d (.int .i64)))] (x2, x3, x9, x10, x11, ()) (startD sg.U ⟨30, [], []⟩ [(2, (.d (.int .i64))), (3, (.d (.int .i64))), (9, (.d (.sl (.st 1)))), (10, (.d (.int .i64))), (11, (.d (.int .i64)))])) := by
  rw [mastref2_testsIn.l0]
  kernel_rfl
theorem mastref2_testsIn.f_eq (k : Nat) (a0 : T_lang_Test) : mastref2_testsIn.f (k + 1) a0 = codeK (C := ctx) (mastref2_testsIn.O k) ⟨30, [], []⟩ (mastref2_testsIn.L k) (Try.f100.body.getD .skip) mastref2_testsIn.a (endK ctx [(.int .i64), (.int .i64)] [(.tmp 2), (.tmp 3)]) (slotsOf sg.U 0 [(.d (.st 1))] (a0, ()) (empty sg.U)) := by
  rw [mastref2_testsIn.f]
  kernel_rfl
def mastref2_testsIn.T : List (Lb sg (RT sg.U [(.int .i64), (.int .i64)])) := [⟨0, [(2, (.d (.int .i64))), (3, (.d (.int .i64))), (9, (.d (.sl (.st 1)))), (10, (.d (.int .i64))), (11, (.d (.int .i64)))], fun k h => mastref2_testsIn.l0 k h.1 h.2.1 h.2.2.1 h.2.2.2.1 h.2.2.2.2.1⟩]
theorem mastref2_testsIn.ok : ∀ k : Nat, (mastref2_testsIn.e k).Sound Try.prog ctx 100 :=
  entry_rec base_ok mo (fn := Try.f100) (b := (Try.f100.body.getD .skip)) (pm := [(.d (.st 1))]) (rs := [(.int .i64), (.int .i64)]) (an := mastref2_testsIn.a) (N := 30) (vars := [(.tmp 2), (.tmp 3)]) Try.func100 (by kernel_rfl) (by kernel_rfl) (by kernel_rfl) (by kernel_rfl) (by kernel_rfl) (by kernel_rfl) (O := mastref2_testsIn.O) mastref2_testsIn.T ⟨⟨by kernel_rfl, fun _ => by first | rfl | rw [mastref2_testsIn.l0], fun k h => mastref2_testsIn.l0_eq k h.1 h.2.1 h.2.2.1 h.2.2.2.1 h.2.2.2.2.1⟩, trivial⟩ (F := fun k h => mastref2_testsIn.f k h.1) (fun _ => by first | rfl | rw [mastref2_testsIn.f]) (fun k h => mastref2_testsIn.f_eq k h.1)
    (fun k own => by unfold mastref2_testsIn.O; exact oracle_of (P := Try.prog) (C := ctx) ⟨own, trivial⟩)
mutual
def mastref2_testForm.l0 : Nat → Int → Int → Int → Int → (List T_lang_Test) → (List T_lang_Test) → Int → Int → Option (Bool)
  | 0, _, _, _, _, _, _, _, _ => none
  | k + 1, x1_0, x1_1, x1_2, x1_3, x1_4, x49, x50, x51 => (bif (ilt x51 x50) then ((lat x49 x51).bind fun y7 => ((mastref2_testForm.f k (T_lang_Test.mk y7.fOp y7.fModulus y7.fLow y7.fHigh y7.fKids)).bind fun y8 => (bif (bif (!y8) then true else (bif (ieq y7.fOp x1_0) then (!ieq x1_0 4) else false)) then (some false) else (mastref2_testForm.l0 k x1_0 x1_1 x1_2 x1_3 x1_4 x49 x50 (wadd .i64 x51 1))))) else (some true))
def mastref2_testForm.f : Nat → T_lang_Test → Option (Bool)
  | 0, _ => none
  | k + 1, a0 => (let y1 : List Int := mputK ieq [] 2; let y2 : List Int := mputV ieq [] [] 2 2; (let y3 : List Int := mputK ieq y1 3; let y4 : List Int := mputV ieq y1 y2 3 2; (let y5 : List Int := mputK ieq y3 4; let y6 : List Int := mputV ieq y3 y4 4 1; (bif (ieq a0.fOp 1) then (some (ieq (llen a0.fKids) 0)) else (bif (bif (bif (bif (bif (!((mget ieq y5 y6 a0.fOp).isSome)) then true else (ilt (llen a0.fKids) ((mget ieq y5 y6 a0.fOp).getD 0))) then true else (!ieq a0.fModulus 0)) then true else (!ieq a0.fLow 0)) then true else (!ieq a0.fHigh 0)) then (some false) else (mastref2_testForm.l0 k a0.fOp a0.fModulus a0.fLow a0.fHigh a0.fKids a0.fKids (llen a0.fKids) 0))))))
end
def mastref2_testForm.e (k : Nat) : Entry sg := entryOf sg [(.d (.st 1))] [.bool] (fun h => mastref2_testForm.f k h.1)
def mastref2_testForm.O (k : Nat) : Oracle sg := fun n => lkp n [(101, mastref2_testForm.e k)]
def mastref2_testForm.a : Ann := (.n .z (.n .z (.n .z (.n .z (.n .z (.n (.n .z (.lp 0 .z)) .z))))))
def mastref2_testForm.L (k : Nat) : Nat → St sg.U → Option (RT sg.U [.bool]) := labs [(0, labOf sg [(1, (.box [.d (.int .i64), .d (.int .i64), .d (.int .i64), .d (.int .i64), .d (.sl (.st 1))])), (49, (.d (.sl (.st 1)))), (50, (.d (.int .i64))), (51, (.d (.int .i64)))] (fun h => mastref2_testForm.l0 k h.1 h.2.1 h.2.2.1 h.2.2.2.1 h.2.2.2.2.1 h.2.2.2.2.2.1 h.2.2.2.2.2.2.1 h.2.2.2.2.2.2.2.1))]
theorem mastref2_testForm.l0_eq (k : Nat) (x1_0 : Int) (x1_1 : Int) (x1_2 : Int) (x1_3 : Int) (x1_4 : (List T_lang_Test)) (x49 : (List T_lang_Test)) (x50 : Int) (x51 : Int) : mastref2_testForm.l0 (k + 1) x1_0 x1_1 x1_2 x1_3 x1_4 x49 x50 x51 = runFrom (C := ctx) (mastref2_testForm.O k) ⟨71, [], []⟩ (mastref2_testForm.L k) (Try.f101.body.getD .skip) mastref2_testForm.a 0 (endK ctx [.bool] [(.tmp 2)]) (encD [(1, (.box [.d (.int .i64), .d (.int .i64), .d (.int .i64), .d (.int .i64), .d (.sl (.st 1))])), (49, (.d (.sl (.st 1)))), (50, (.d (.int .i64))), (51, (.d (.int .i64)))] (x1_0, x1_1, x1_2, x1_3, x1_4, x49, x50, x51, ()) (startD sg.U ⟨71, [], []⟩ [(1, (.box [.d (.int .i64), .d (.int .i64), .d (.int .i64), .d (.int .i64), .d (.sl (.st 1))])), (49, (.d (.sl (.st 1)))), (50, (.d (.int .i64))), (51, (.d (.int .i64)))])) := by
  rw [mastref2_testForm.l0]
  kernel_rfl
theorem mastref2_testForm.f_eq (k : Nat) (a0 : T_lang_Test) : mastref2_testForm.f (k + 1) a0 = codeK (C := ctx) (mastref2_testForm.O k) ⟨71, [], []⟩ (mastref2_testForm.L k) (Try.f101.body.getD .skip) mastref2_testForm.a (endK ctx [.bool] [(.tmp 2)]) (slotsOf sg.U 0 [(.d (.st 1))] (a0, ()) (empty sg.U)) := by
  rw [mastref2_testForm.f]
  kernel_rfl
def mastref2_testForm.T : List (Lb sg (RT sg.U [.bool])) := [⟨0, [(1, (.box [.d (.int .i64), .d (.int .i64), .d (.int .i64), .d (.int .i64), .d (.sl (.st 1))])), (49, (.d (.sl (.st 1)))), (50, (.d (.int .i64))), (51, (.d (.int .i64)))], fun k h => mastref2_testForm.l0 k h.1 h.2.1 h.2.2.1 h.2.2.2.1 h.2.2.2.2.1 h.2.2.2.2.2.1 h.2.2.2.2.2.2.1 h.2.2.2.2.2.2.2.1⟩]
theorem mastref2_testForm.ok : ∀ k : Nat, (mastref2_testForm.e k).Sound Try.prog ctx 101 :=
  entry_rec base_ok mo (fn := Try.f101) (b := (Try.f101.body.getD .skip)) (pm := [(.d (.st 1))]) (rs := [.bool]) (an := mastref2_testForm.a) (N := 71) (vars := [(.tmp 2)]) Try.func101 (by kernel_rfl) (by kernel_rfl) (by kernel_rfl) (by kernel_rfl) (by kernel_rfl) (by kernel_rfl) (O := mastref2_testForm.O) mastref2_testForm.T ⟨⟨by kernel_rfl, fun _ => by first | rfl | rw [mastref2_testForm.l0], fun k h => mastref2_testForm.l0_eq k h.1 h.2.1 h.2.2.1 h.2.2.2.1 h.2.2.2.2.1 h.2.2.2.2.2.1 h.2.2.2.2.2.2.1 h.2.2.2.2.2.2.2.1⟩, trivial⟩ (F := fun k h => mastref2_testForm.f k h.1) (fun _ => by first | rfl | rw [mastref2_testForm.f]) (fun k h => mastref2_testForm.f_eq k h.1)
    (fun k own => by unfold mastref2_testForm.O; exact oracle_of (P := Try.prog) (C := ctx) ⟨own, trivial⟩)
mutual
def mastref2_testRange_c1.f : Nat → T_lang_Test → Option (Bool)
  | 0, _ => none
  | k + 1, a0 => ((mastref2_testRange.f k (T_lang_Test.mk a0.fOp a0.fModulus a0.fLow a0.fHigh a0.fKids)).bind fun y1 => (some (!y1)))
def slices_IndexFunc_lang_Test_lang_Test_at_mastref2_testRange_c1.l0 : Nat → (List T_lang_Test) → Int → Int → Option (Int)
  | 0, _, _, _ => none
  | k + 1, x0, x7, x8 => (bif (ilt x8 x7) then ((lat x0 x8).bind fun y1 => ((mastref2_testRange_c1.f k y1).bind fun y2 => (bif y2 then (some x8) else (slices_IndexFunc_lang_Test_lang_Test_at_mastref2_testRange_c1.l0 k x0 x7 (wadd .i64 x8 1))))) else (some (-1)))
def slices_IndexFunc_lang_Test_lang_Test_at_mastref2_testRange_c1.f : Nat → (List T_lang_Test) → Option (Int)
  | 0, _ => none
  | k + 1, a0 => (slices_IndexFunc_lang_Test_lang_Test_at_mastref2_testRange_c1.l0 k a0 (llen a0) 0)
def slices_ContainsFunc_lang_Test_lang_Test_at_mastref2_testRange_c1.f : Nat → (List T_lang_Test) → Option (Bool)
  | 0, _ => none
  | k + 1, a0 => ((slices_IndexFunc_lang_Test_lang_Test_at_mastref2_testRange_c1.f k a0).bind fun y1 => (some (ile 0 y1)))
def mastref2_testRange.f : Nat → T_lang_Test → Option (Bool)
  | 0, _ => none
  | k + 1, a0 => (bif (ieq a0.fOp 1) then (some (bif (bif (bif (bif (ieq a0.fModulus 0) then true else (bif (ile 2 a0.fModulus) then (ile a0.fModulus 1000000) else false)) then (ile 0 a0.fLow) else false) then (ile a0.fLow a0.fHigh) else false) then (ile a0.fHigh 1000000000) else false)) else ((slices_ContainsFunc_lang_Test_lang_Test_at_mastref2_testRange_c1.f k a0.fKids).bind fun y1 => (some (!y1))))
end
def mastref2_testRange_c1.e (k : Nat) : Entry sg := entryOf sg [(.d (.st 1))] [.bool] (fun h => mastref2_testRange_c1.f k h.1)
def slices_IndexFunc_lang_Test_lang_Test_at_mastref2_testRange_c1.e (k : Nat) : Entry sg := entryOf sg [(.d (.sl (.st 1))), .fn 146] [(.int .i64)] (fun h => slices_IndexFunc_lang_Test_lang_Test_at_mastref2_testRange_c1.f k h.1)
def slices_ContainsFunc_lang_Test_lang_Test_at_mastref2_testRange_c1.e (k : Nat) : Entry sg := entryOf sg [(.d (.sl (.st 1))), .fn 146] [.bool] (fun h => slices_ContainsFunc_lang_Test_lang_Test_at_mastref2_testRange_c1.f k h.1)
def mastref2_testRange.e (k : Nat) : Entry sg := entryOf sg [(.d (.st 1))] [.bool] (fun h => mastref2_testRange.f k h.1)
def mastref2_testRange_c1.O (k : Nat) : Oracle sg := fun n => lkp n [(102, mastref2_testRange.e k)]
def mastref2_testRange_c1.a : Ann := .z
def mastref2_testRange_c1.L (k : Nat) : Nat → St sg.U → Option (RT sg.U [.bool]) := labs []
theorem mastref2_testRange_c1.f_eq (k : Nat) (a0 : T_lang_Test) : mastref2_testRange_c1.f (k + 1) a0 = codeK (C := ctx) (mastref2_testRange_c1.O k) ⟨6, [], []⟩ (mastref2_testRange_c1.L k) (Try.f146.body.getD .skip) mastref2_testRange_c1.a (endK ctx [.bool] [(.tmp 2)]) (slotsOf sg.U 0 [(.d (.st 1))] (a0, ()) (empty sg.U)) := by
  rw [mastref2_testRange_c1.f]
  kernel_rfl
def slices_IndexFunc_lang_Test_lang_Test_at_mastref2_testRange_c1.O (k : Nat) : Oracle sg := fun n => lkp n [(146, mastref2_testRange_c1.e k)]
def slices_IndexFunc_lang_Test_lang_Test_at_mastref2_testRange_c1.a : Ann := (.n .z (.n (.n .z (.lp 0 .z)) .z))
def slices_IndexFunc_lang_Test_lang_Test_at_mastref2_testRange_c1.L (k : Nat) : Nat → St sg.U → Option (RT sg.U [(.int .i64)]) := labs [(0, labOf sg [(0, (.d (.sl (.st 1)))), (1, (.clo 146 [])), (7, (.d (.int .i64))), (8, (.d (.int .i64)))] (fun h => slices_IndexFunc_lang_Test_lang_Test_at_mastref2_testRange_c1.l0 k h.1 h.2.1 h.2.2.1))]
theorem slices_IndexFunc_lang_Test_lang_Test_at_mastref2_testRange_c1.l0_eq (k : Nat) (x0 : (List T_lang_Test)) (x7 : Int) (x8 : Int) : slices_IndexFunc_lang_Test_lang_Test_at_mastref2_testRange_c1.l0 (k + 1) x0 x7 x8 = runFrom (C := ctx) (slices_IndexFunc_lang_Test_lang_Test_at_mastref2_testRange_c1.O k) ⟨19, [], []⟩ (slices_IndexFunc_lang_Test_lang_Test_at_mastref2_testRange_c1.L k) (Try.f155.body.getD .skip) slices_IndexFunc_lang_Test_lang_Test_at_mastref2_testRange_c1.a 0 (endK ctx [(.int .i64)] [(.tmp 4)]) (encD [(0, (.d (.sl (.st 1)))), (1, (.clo 146 [])), (7, (.d (.int .i64))), (8, (.d (.int .i64)))] (x0, x7, x8, ()) (startD sg.U ⟨19, [], []⟩ [(0, (.d (.sl (.st 1)))), (1, (.clo 146 [])), (7, (.d (.int .i64))), (8, (.d (.int .i64)))])) := by
  rw [slices_IndexFunc_lang_Test_lang_Test_at_mastref2_testRange_c1.l0]
  kernel_rfl
theorem slices_IndexFunc_lang_Test_lang_Test_at_mastref2_testRange_c1.f_eq (k : Nat) (a0 : (List T_lang_Test)) : slices_IndexFunc_lang_Test_lang_Test_at_mastref2_testRange_c1.f (k + 1) a0 = codeK (C := ctx) (slices_IndexFunc_lang_Test_lang_Test_at_mastref2_testRange_c1.O k) ⟨19, [], []⟩ (slices_IndexFunc_lang_Test_lang_Test_at_mastref2_testRange_c1.L k) (Try.f155.body.getD .skip) slices_IndexFunc_lang_Test_lang_Test_at_mastref2_testRange_c1.a (endK ctx [(.int .i64)] [(.tmp 4)]) (slotsOf sg.U 0 [(.d (.sl (.st 1))), .fn 146] (a0, ()) (empty sg.U)) := by
  rw [slices_IndexFunc_lang_Test_lang_Test_at_mastref2_testRange_c1.f]
  kernel_rfl
def slices_ContainsFunc_lang_Test_lang_Test_at_mastref2_testRange_c1.O (k : Nat) : Oracle sg := fun n => lkp n [(155, slices_IndexFunc_lang_Test_lang_Test_at_mastref2_testRange_c1.e k)]
def slices_ContainsFunc_lang_Test_lang_Test_at_mastref2_testRange_c1.a : Ann := .z
def slices_ContainsFunc_lang_Test_lang_Test_at_mastref2_testRange_c1.L (k : Nat) : Nat → St sg.U → Option (RT sg.U [.bool]) := labs []
theorem slices_ContainsFunc_lang_Test_lang_Test_at_mastref2_testRange_c1.f_eq (k : Nat) (a0 : (List T_lang_Test)) : slices_ContainsFunc_lang_Test_lang_Test_at_mastref2_testRange_c1.f (k + 1) a0 = codeK (C := ctx) (slices_ContainsFunc_lang_Test_lang_Test_at_mastref2_testRange_c1.O k) ⟨9, [], []⟩ (slices_ContainsFunc_lang_Test_lang_Test_at_mastref2_testRange_c1.L k) (Try.f145.body.getD .skip) slices_ContainsFunc_lang_Test_lang_Test_at_mastref2_testRange_c1.a (endK ctx [.bool] [(.tmp 4)]) (slotsOf sg.U 0 [(.d (.sl (.st 1))), .fn 146] (a0, ()) (empty sg.U)) := by
  rw [slices_ContainsFunc_lang_Test_lang_Test_at_mastref2_testRange_c1.f]
  kernel_rfl
def mastref2_testRange.O (k : Nat) : Oracle sg := fun n => lkp n [(145, slices_ContainsFunc_lang_Test_lang_Test_at_mastref2_testRange_c1.e k)]
def mastref2_testRange.a : Ann := .z
def mastref2_testRange.L (k : Nat) : Nat → St sg.U → Option (RT sg.U [.bool]) := labs []
theorem mastref2_testRange.f_eq (k : Nat) (a0 : T_lang_Test) : mastref2_testRange.f (k + 1) a0 = codeK (C := ctx) (mastref2_testRange.O k) ⟨40, [], []⟩ (mastref2_testRange.L k) (Try.f102.body.getD .skip) mastref2_testRange.a (endK ctx [.bool] [(.tmp 2)]) (slotsOf sg.U 0 [(.d (.st 1))] (a0, ()) (empty sg.U)) := by
  rw [mastref2_testRange.f]
  kernel_rfl
def mastref2_testRange_c1.T : List (Lb sg (RT sg.U [.bool])) := []
def slices_IndexFunc_lang_Test_lang_Test_at_mastref2_testRange_c1.T : List (Lb sg (RT sg.U [(.int .i64)])) := [⟨0, [(0, (.d (.sl (.st 1)))), (1, (.clo 146 [])), (7, (.d (.int .i64))), (8, (.d (.int .i64)))], fun k h => slices_IndexFunc_lang_Test_lang_Test_at_mastref2_testRange_c1.l0 k h.1 h.2.1 h.2.2.1⟩]
def slices_ContainsFunc_lang_Test_lang_Test_at_mastref2_testRange_c1.T : List (Lb sg (RT sg.U [.bool])) := []
def mastref2_testRange.T : List (Lb sg (RT sg.U [.bool])) := []
theorem mastref2_testRange_c1.all : ∀ k : Nat, (mastref2_testRange_c1.e k).Sound Try.prog ctx 146 ∧ (slices_IndexFunc_lang_Test_lang_Test_at_mastref2_testRange_c1.e k).Sound Try.prog ctx 155 ∧ (slices_ContainsFunc_lang_Test_lang_Test_at_mastref2_testRange_c1.e k).Sound Try.prog ctx 145 ∧ (mastref2_testRange.e k).Sound Try.prog ctx 102 := by
  intro k
  induction k using Nat.strongRecOn with
  | _ k ih =>
    cases k with
    | zero => exact ⟨(entry_none (fun _ => by first | rfl | rw [mastref2_testRange_c1.f])), (entry_none (fun _ => by first | rfl | rw [slices_IndexFunc_lang_Test_lang_Test_at_mastref2_testRange_c1.f])), (entry_none (fun _ => by first | rfl | rw [slices_ContainsFunc_lang_Test_lang_Test_at_mastref2_testRange_c1.f])), (entry_none (fun _ => by first | rfl | rw [mastref2_testRange.f]))⟩
    | succ k =>
      have own : ∀ j, j ≤ k → (mastref2_testRange_c1.e j).Sound Try.prog ctx 146 ∧ (slices_IndexFunc_lang_Test_lang_Test_at_mastref2_testRange_c1.e j).Sound Try.prog ctx 155 ∧ (slices_ContainsFunc_lang_Test_lang_Test_at_mastref2_testRange_c1.e j).Sound Try.prog ctx 145 ∧ (mastref2_testRange.e j).Sound Try.prog ctx 102 := fun j hj => ih j (by omega)
      exact ⟨(entry_step base_ok mo (fn := Try.f146) (b := (Try.f146.body.getD .skip)) (pm := [(.d (.st 1))]) (rs := [.bool]) (an := mastref2_testRange_c1.a) (N := 6) (vars := [(.tmp 2)]) Try.func146 (by kernel_rfl) (by kernel_rfl) (by kernel_rfl) (by kernel_rfl) (by kernel_rfl) (by kernel_rfl) (O := mastref2_testRange_c1.O) mastref2_testRange_c1.T trivial k (fun h => mastref2_testRange_c1.f_eq k h.1) (fun j hj => by unfold mastref2_testRange_c1.O; exact oracle_of (P := Try.prog) (C := ctx) ⟨((own j hj).2.2.2), trivial⟩)), (entry_step base_ok mo (fn := Try.f155) (b := (Try.f155.body.getD .skip)) (pm := [(.d (.sl (.st 1))), .fn 146]) (rs := [(.int .i64)]) (an := slices_IndexFunc_lang_Test_lang_Test_at_mastref2_testRange_c1.a) (N := 19) (vars := [(.tmp 4)]) Try.func155 (by kernel_rfl) (by kernel_rfl) (by kernel_rfl) (by kernel_rfl) (by kernel_rfl) (by kernel_rfl) (O := slices_IndexFunc_lang_Test_lang_Test_at_mastref2_testRange_c1.O) slices_IndexFunc_lang_Test_lang_Test_at_mastref2_testRange_c1.T ⟨⟨by kernel_rfl, fun _ => by first | rfl | rw [slices_IndexFunc_lang_Test_lang_Test_at_mastref2_testRange_c1.l0], fun k h => slices_IndexFunc_lang_Test_lang_Test_at_mastref2_testRange_c1.l0_eq k h.1 h.2.1 h.2.2.1⟩, trivial⟩ k (fun h => slices_IndexFunc_lang_Test_lang_Test_at_mastref2_testRange_c1.f_eq k h.1) (fun j hj => by unfold slices_IndexFunc_lang_Test_lang_Test_at_mastref2_testRange_c1.O; exact oracle_of (P := Try.prog) (C := ctx) ⟨((own j hj).1), trivial⟩)), (entry_step base_ok mo (fn := Try.f145) (b := (Try.f145.body.getD .skip)) (pm := [(.d (.sl (.st 1))), .fn 146]) (rs := [.bool]) (an := slices_ContainsFunc_lang_Test_lang_Test_at_mastref2_testRange_c1.a) (N := 9) (vars := [(.tmp 4)]) Try.func145 (by kernel_rfl) (by kernel_rfl) (by kernel_rfl) (by kernel_rfl) (by kernel_rfl) (by kernel_rfl) (O := slices_ContainsFunc_lang_Test_lang_Test_at_mastref2_testRange_c1.O) slices_ContainsFunc_lang_Test_lang_Test_at_mastref2_testRange_c1.T trivial k (fun h => slices_ContainsFunc_lang_Test_lang_Test_at_mastref2_testRange_c1.f_eq k h.1) (fun j hj => by unfold slices_ContainsFunc_lang_Test_lang_Test_at_mastref2_testRange_c1.O; exact oracle_of (P := Try.prog) (C := ctx) ⟨((own j hj).2.1), trivial⟩)), (entry_step base_ok mo (fn := Try.f102) (b := (Try.f102.body.getD .skip)) (pm := [(.d (.st 1))]) (rs := [.bool]) (an := mastref2_testRange.a) (N := 40) (vars := [(.tmp 2)]) Try.func102 (by kernel_rfl) (by kernel_rfl) (by kernel_rfl) (by kernel_rfl) (by kernel_rfl) (by kernel_rfl) (O := mastref2_testRange.O) mastref2_testRange.T trivial k (fun h => mastref2_testRange.f_eq k h.1) (fun j hj => by unfold mastref2_testRange.O; exact oracle_of (P := Try.prog) (C := ctx) ⟨((own j hj).2.2.1), trivial⟩))⟩
theorem mastref2_testRange_c1.ok (k : Nat) : (mastref2_testRange_c1.e k).Sound Try.prog ctx 146 := (mastref2_testRange_c1.all k).1
theorem slices_IndexFunc_lang_Test_lang_Test_at_mastref2_testRange_c1.ok (k : Nat) : (slices_IndexFunc_lang_Test_lang_Test_at_mastref2_testRange_c1.e k).Sound Try.prog ctx 155 := (mastref2_testRange_c1.all k).2.1
theorem slices_ContainsFunc_lang_Test_lang_Test_at_mastref2_testRange_c1.ok (k : Nat) : (slices_ContainsFunc_lang_Test_lang_Test_at_mastref2_testRange_c1.e k).Sound Try.prog ctx 145 := (mastref2_testRange_c1.all k).2.2.1
theorem mastref2_testRange.ok (k : Nat) : (mastref2_testRange.e k).Sound Try.prog ctx 102 := (mastref2_testRange_c1.all k).2.2.2
def mastref2_RuleFault.l0 : Nat → Bool → Bool → Bool → (List T_lang_Test) → Int → Int → Option (Int)
  | 0, _, _, _, _, _, _ => none
  | k + 1, x3, x4, x5, x15, x16, x17 => (bif (ilt x17 x16) then ((lat x15 x17).bind fun y1 => ((mastref2_testsIn.f k (T_lang_Test.mk y1.fOp y1.fModulus y1.fLow y1.fHigh y1.fKids)).bind fun y2 => (bif (ilt 20 y2.1) then (some 4) else (bif x4 then ((mastref2_testForm.f k (T_lang_Test.mk y1.fOp y1.fModulus y1.fLow y1.fHigh y1.fKids)).bind fun y3 => (bif x5 then ((mastref2_testRange.f k (T_lang_Test.mk y1.fOp y1.fModulus y1.fLow y1.fHigh y1.fKids)).bind fun y4 => (mastref2_RuleFault.l0 k (bif x3 then true else (ilt 12 y2.2)) y3 y4 x15 x16 (wadd .i64 x17 1))) else (mastref2_RuleFault.l0 k (bif x3 then true else (ilt 12 y2.2)) y3 false x15 x16 (wadd .i64 x17 1)))) else (bif x5 then ((mastref2_testRange.f k (T_lang_Test.mk y1.fOp y1.fModulus y1.fLow y1.fHigh y1.fKids)).bind fun y5 => (mastref2_RuleFault.l0 k (bif x3 then true else (ilt 12 y2.2)) false y5 x15 x16 (wadd .i64 x17 1))) else (mastref2_RuleFault.l0 k (bif x3 then true else (ilt 12 y2.2)) false false x15 x16 (wadd .i64 x17 1))))))) else (bif x3 then (some 13) else (bif (!x4) then (some 1) else (bif (!x5) then (some 2) else (some 0)))))
def mastref2_RuleFault.f (k : Nat) (a0 : T_lang_Rule) : Option (Int) := (bif (ilt 6 (llen a0.fForms)) then (some 4) else (mastref2_RuleFault.l0 k false true true a0.fForms (llen a0.fForms) 0))
def mastref2_RuleFault.O (k : Nat) : Oracle sg := fun n => lkp n [(100, mastref2_testsIn.e k), (101, mastref2_testForm.e k), (102, mastref2_testRange.e k)]
def mastref2_RuleFault.a : Ann := (.n .z (.n .z (.n .z (.n (.n .z (.lp 0 .z)) .z))))
def mastref2_RuleFault.L (k : Nat) : Nat → St sg.U → Option (RT sg.U [(.int .i64)]) := labs [(0, labOf sg [(3, (.d .bool)), (4, (.d .bool)), (5, (.d .bool)), (15, (.d (.sl (.st 1)))), (16, (.d (.int .i64))), (17, (.d (.int .i64)))] (fun h => mastref2_RuleFault.l0 k h.1 h.2.1 h.2.2.1 h.2.2.2.1 h.2.2.2.2.1 h.2.2.2.2.2.1))]
theorem mastref2_RuleFault.l0_eq (k : Nat) (x3 : Bool) (x4 : Bool) (x5 : Bool) (x15 : (List T_lang_Test)) (x16 : Int) (x17 : Int) : mastref2_RuleFault.l0 (k + 1) x3 x4 x5 x15 x16 x17 = runFrom (C := ctx) (mastref2_RuleFault.O k) ⟨52, [], []⟩ (mastref2_RuleFault.L k) (Try.f47.body.getD .skip) mastref2_RuleFault.a 0 (endK ctx [(.int .i64)] [(.tmp 2)]) (encD [(3, (.d .bool)), (4, (.d .bool)), (5, (.d .bool)), (15, (.d (.sl (.st 1)))), (16, (.d (.int .i64))), (17, (.d (.int .i64)))] (x3, x4, x5, x15, x16, x17, ()) (startD sg.U ⟨52, [], []⟩ [(3, (.d .bool)), (4, (.d .bool)), (5, (.d .bool)), (15, (.d (.sl (.st 1)))), (16, (.d (.int .i64))), (17, (.d (.int .i64)))])) := by
  rw [mastref2_RuleFault.l0]
  kernel_rfl
theorem mastref2_RuleFault.f_eq (k : Nat) (a0 : T_lang_Rule) : mastref2_RuleFault.f k a0 = codeK (C := ctx) (mastref2_RuleFault.O k) ⟨52, [], []⟩ (mastref2_RuleFault.L k) (Try.f47.body.getD .skip) mastref2_RuleFault.a (endK ctx [(.int .i64)] [(.tmp 2)]) (slotsOf sg.U 0 [(.d (.st 0))] (a0, ()) (empty sg.U)) := by
  unfold mastref2_RuleFault.f
  kernel_rfl
def mastref2_RuleFault.e (k : Nat) : Entry sg := entryOf sg [(.d (.st 0))] [(.int .i64)] (fun h => mastref2_RuleFault.f k h.1)
def mastref2_RuleFault.T : List (Lb sg (RT sg.U [(.int .i64)])) := [⟨0, [(3, (.d .bool)), (4, (.d .bool)), (5, (.d .bool)), (15, (.d (.sl (.st 1)))), (16, (.d (.int .i64))), (17, (.d (.int .i64)))], fun k h => mastref2_RuleFault.l0 k h.1 h.2.1 h.2.2.1 h.2.2.2.1 h.2.2.2.2.1 h.2.2.2.2.2.1⟩]
theorem mastref2_RuleFault.ok (k : Nat) : (mastref2_RuleFault.e k).Sound Try.prog ctx 47 :=
  entry_ok base_ok mo (fn := Try.f47) (b := (Try.f47.body.getD .skip)) (pm := [(.d (.st 0))]) (rs := [(.int .i64)]) (an := mastref2_RuleFault.a) (N := 52) (vars := [(.tmp 2)]) Try.func47 (by kernel_rfl) (by kernel_rfl) (by kernel_rfl) (by kernel_rfl) (by kernel_rfl) (by kernel_rfl) (O := mastref2_RuleFault.O)
    (fun k => by unfold mastref2_RuleFault.O; exact oracle_of (P := Try.prog) (C := ctx) ⟨(mastref2_testsIn.ok k), ⟨(mastref2_testForm.ok k), ⟨(mastref2_testRange.ok k), trivial⟩⟩⟩) mastref2_RuleFault.T ⟨⟨by kernel_rfl, fun _ => by first | rfl | rw [mastref2_RuleFault.l0], fun k h => mastref2_RuleFault.l0_eq k h.1 h.2.1 h.2.2.1 h.2.2.2.1 h.2.2.2.2.1 h.2.2.2.2.2.1⟩, trivial⟩ k (fun h => mastref2_RuleFault.f_eq k h.1)
def mastref2_sizeOfInt.f (a0 : Int) : Option (Int) := (bif (ilt a0 0) then (some (wadd .u64 (wcv .u64 (wsub .i64 0 (wadd .i64 a0 1))) 1)) else (some (wcv .u64 a0)))
def mastref2_sizeOfInt.O : Oracle sg := fun n => lkp n []
def mastref2_sizeOfInt.a : Ann := .z
def mastref2_sizeOfInt.L : Nat → St sg.U → Option (RT sg.U [(.int .u64)]) := labs []
theorem mastref2_sizeOfInt.f_eq (a0 : Int) : mastref2_sizeOfInt.f a0 = codeK (C := ctx) (mastref2_sizeOfInt.O) ⟨12, [], []⟩ (mastref2_sizeOfInt.L) (Try.f104.body.getD .skip) mastref2_sizeOfInt.a (endK ctx [(.int .u64)] [(.tmp 2)]) (slotsOf sg.U 0 [(.d (.int .i64))] (a0, ()) (empty sg.U)) := by
  unfold mastref2_sizeOfInt.f
  kernel_rfl
def mastref2_sizeOfInt.e : Entry sg := entryOf sg [(.d (.int .i64))] [(.int .u64)] (fun h => mastref2_sizeOfInt.f h.1)
def mastref2_sizeOfInt.T : List (Lb sg (RT sg.U [(.int .u64)])) := []
theorem mastref2_sizeOfInt.ok : (mastref2_sizeOfInt.e).Sound Try.prog ctx 104 :=
  entry_ok base_ok mo (fn := Try.f104) (b := (Try.f104.body.getD .skip)) (pm := [(.d (.int .i64))]) (rs := [(.int .u64)]) (an := mastref2_sizeOfInt.a) (N := 12) (vars := [(.tmp 2)]) Try.func104 (by kernel_rfl) (by kernel_rfl) (by kernel_rfl) (by kernel_rfl) (by kernel_rfl) (by kernel_rfl) (O := fun _ => mastref2_sizeOfInt.O)
    (fun _ => by unfold mastref2_sizeOfInt.O; exact oracle_of (P := Try.prog) (C := ctx) trivial) mastref2_sizeOfInt.T trivial 0 (fun h => mastref2_sizeOfInt.f_eq h.1)
mutual
def mastref2_testHolds_c1.f : Nat → T_lang_Test → Int → Option (Bool × Int × Unit)
  | 0, _, _ => none
  | k + 1, a0, a1_0 => ((mastref2_testHolds.f k (T_lang_Test.mk a0.fOp a0.fModulus a0.fLow a0.fHigh a0.fKids) a1_0).bind fun y1 => (some (y1, (a1_0, ()))))
def mastref2_testHolds_c2.f : Nat → T_lang_Test → Int → Option (Bool × Int × Unit)
  | 0, _, _ => none
  | k + 1, a0, a8_0 => ((mastref2_testHolds_c1.f k (T_lang_Test.mk a0.fOp a0.fModulus a0.fLow a0.fHigh a0.fKids) a8_0).bind fun y1 => (some ((!y1.1), (y1.2.1, ()))))
def slices_IndexFunc_lang_Test_lang_Test_at_mastref2_testHolds_c2.l0 : Nat → (List T_lang_Test) → Int → Int → Int → Option (Int × Int × Unit)
  | 0, _, _, _, _ => none
  | k + 1, x0, x7, x8, x20_0 => (bif (ilt x8 x7) then ((lat x0 x8).bind fun y1 => ((mastref2_testHolds_c2.f k y1 x20_0).bind fun y2 => (bif y2.1 then (some (x8, (y2.2.1, ()))) else (slices_IndexFunc_lang_Test_lang_Test_at_mastref2_testHolds_c2.l0 k x0 x7 (wadd .i64 x8 1) y2.2.1)))) else (some ((-1), (x20_0, ()))))
def slices_IndexFunc_lang_Test_lang_Test_at_mastref2_testHolds_c2.f : Nat → (List T_lang_Test) → Int → Option (Int × Int × Unit)
  | 0, _, _ => none
  | k + 1, a0, a20_0 => (slices_IndexFunc_lang_Test_lang_Test_at_mastref2_testHolds_c2.l0 k a0 (llen a0) 0 a20_0)
def slices_ContainsFunc_lang_Test_lang_Test_at_mastref2_testHolds_c2.f : Nat → (List T_lang_Test) → Int → Option (Bool × Int × Unit)
  | 0, _, _ => none
  | k + 1, a0, a10_0 => ((slices_IndexFunc_lang_Test_lang_Test_at_mastref2_testHolds_c2.f k a0 a10_0).bind fun y1 => (some ((ile 0 y1.1), (y1.2.1, ()))))
def slices_IndexFunc_lang_Test_lang_Test_at_mastref2_testHolds_c1.l0 : Nat → (List T_lang_Test) → Int → Int → Int → Option (Int × Int × Unit)
  | 0, _, _, _, _ => none
  | k + 1, x0, x7, x8, x19_0 => (bif (ilt x8 x7) then ((lat x0 x8).bind fun y1 => ((mastref2_testHolds_c1.f k y1 x19_0).bind fun y2 => (bif y2.1 then (some (x8, (y2.2.1, ()))) else (slices_IndexFunc_lang_Test_lang_Test_at_mastref2_testHolds_c1.l0 k x0 x7 (wadd .i64 x8 1) y2.2.1)))) else (some ((-1), (x19_0, ()))))
def slices_IndexFunc_lang_Test_lang_Test_at_mastref2_testHolds_c1.f : Nat → (List T_lang_Test) → Int → Option (Int × Int × Unit)
  | 0, _, _ => none
  | k + 1, a0, a19_0 => (slices_IndexFunc_lang_Test_lang_Test_at_mastref2_testHolds_c1.l0 k a0 (llen a0) 0 a19_0)
def slices_ContainsFunc_lang_Test_lang_Test_at_mastref2_testHolds_c1.f : Nat → (List T_lang_Test) → Int → Option (Bool × Int × Unit)
  | 0, _, _ => none
  | k + 1, a0, a9_0 => ((slices_IndexFunc_lang_Test_lang_Test_at_mastref2_testHolds_c1.f k a0 a9_0).bind fun y1 => (some ((ile 0 y1.1), (y1.2.1, ()))))
def mastref2_testHolds.l0 : Nat → Int → Int → Int → Int → (List T_lang_Test) → Int → Option (Bool)
  | 0, _, _, _, _, _, _ => none
  | k + 1, x2_0, x2_1, x2_2, x2_3, x2_4, x3_0 => (bif (ile (wcv .u64 x2_2) x3_0) then (some (ile x3_0 (wcv .u64 x2_3))) else (some false))
def mastref2_testHolds.f : Nat → T_lang_Test → Int → Option (Bool)
  | 0, _, _ => none
  | k + 1, a0, a1 => (bif (ieq a0.fOp 1) then (bif (ilt 0 a0.fModulus) then (bif ieq (wcv .u64 a0.fModulus) 0 then none else (mastref2_testHolds.l0 k a0.fOp a0.fModulus a0.fLow a0.fHigh a0.fKids (irem a1 (wcv .u64 a0.fModulus)))) else (mastref2_testHolds.l0 k a0.fOp a0.fModulus a0.fLow a0.fHigh a0.fKids a1)) else (bif (ieq a0.fOp 2) then ((slices_ContainsFunc_lang_Test_lang_Test_at_mastref2_testHolds_c2.f k a0.fKids a1).bind fun y1 => (some (!y1.1))) else (bif (ieq a0.fOp 3) then ((slices_ContainsFunc_lang_Test_lang_Test_at_mastref2_testHolds_c1.f k a0.fKids a1).bind fun y2 => (some y2.1)) else ((slices_ContainsFunc_lang_Test_lang_Test_at_mastref2_testHolds_c1.f k a0.fKids a1).bind fun y3 => (some (!y3.1))))))
end
def mastref2_testHolds_c1.e (k : Nat) : Entry sg := entryR sg [(.d (.st 1)), (.ref [.d (.int .u64)])] [.bool] (fun h => mastref2_testHolds_c1.f k h.1 h.2.1)
def mastref2_testHolds_c2.e (k : Nat) : Entry sg := entryR sg [(.d (.st 1)), (.ref [.clo 147 [8]]), (.gh 8 [.d (.int .u64)])] [.bool] (fun h => mastref2_testHolds_c2.f k h.1 h.2.1)
def slices_IndexFunc_lang_Test_lang_Test_at_mastref2_testHolds_c2.e (k : Nat) : Entry sg := entryR sg [(.d (.sl (.st 1))), (.clo 148 [19]), (.gh 19 [.clo 147 [20]]), (.gh 20 [.d (.int .u64)])] [(.int .i64)] (fun h => slices_IndexFunc_lang_Test_lang_Test_at_mastref2_testHolds_c2.f k h.1 h.2.1)
def slices_ContainsFunc_lang_Test_lang_Test_at_mastref2_testHolds_c2.e (k : Nat) : Entry sg := entryR sg [(.d (.sl (.st 1))), (.clo 148 [9]), (.gh 9 [.clo 147 [10]]), (.gh 10 [.d (.int .u64)])] [.bool] (fun h => slices_ContainsFunc_lang_Test_lang_Test_at_mastref2_testHolds_c2.f k h.1 h.2.1)
def slices_IndexFunc_lang_Test_lang_Test_at_mastref2_testHolds_c1.e (k : Nat) : Entry sg := entryR sg [(.d (.sl (.st 1))), (.clo 147 [19]), (.gh 19 [.d (.int .u64)])] [(.int .i64)] (fun h => slices_IndexFunc_lang_Test_lang_Test_at_mastref2_testHolds_c1.f k h.1 h.2.1)
def slices_ContainsFunc_lang_Test_lang_Test_at_mastref2_testHolds_c1.e (k : Nat) : Entry sg := entryR sg [(.d (.sl (.st 1))), (.clo 147 [9]), (.gh 9 [.d (.int .u64)])] [.bool] (fun h => slices_ContainsFunc_lang_Test_lang_Test_at_mastref2_testHolds_c1.f k h.1 h.2.1)
def mastref2_testHolds.e (k : Nat) : Entry sg := entryOf sg [(.d (.st 1)), (.d (.int .u64))] [.bool] (fun h => mastref2_testHolds.f k h.1 h.2.1)
def mastref2_testHolds_c1.O (k : Nat) : Oracle sg := fun n => lkp n [(103, mastref2_testHolds.e k)]
def mastref2_testHolds_c1.a : Ann := .z
def mastref2_testHolds_c1.L (k : Nat) : Nat → St sg.U → Option (RT sg.U [.bool] × HL sg.U (PM.outs [(.d (.st 1)), (.ref [.d (.int .u64)])])) := labs []
theorem mastref2_testHolds_c1.f_eq (k : Nat) (a0 : T_lang_Test) (a1_0 : Int) : mastref2_testHolds_c1.f (k + 1) a0 a1_0 = codeK (C := ctx) (mastref2_testHolds_c1.O k) ⟨7, [1], []⟩ (mastref2_testHolds_c1.L k) (Try.f147.body.getD .skip) mastref2_testHolds_c1.a (endR ctx [.bool] [(.tmp 3)] [(.d (.st 1)), (.ref [.d (.int .u64)])]) (slotsOf sg.U 0 [(.d (.st 1)), (.ref [.d (.int .u64)])] (a0, a1_0, ()) (emptyG sg.U (PM.gs [(.d (.st 1)), (.ref [.d (.int .u64)])]))) := by
  rw [mastref2_testHolds_c1.f]
  kernel_rfl
def mastref2_testHolds_c2.O (k : Nat) : Oracle sg := fun n => lkp n [(147, mastref2_testHolds_c1.e k)]
def mastref2_testHolds_c2.a : Ann := .z
def mastref2_testHolds_c2.L (k : Nat) : Nat → St sg.U → Option (RT sg.U [.bool] × HL sg.U (PM.outs [(.d (.st 1)), (.ref [.clo 147 [8]]), (.gh 8 [.d (.int .u64)])])) := labs []
theorem mastref2_testHolds_c2.f_eq (k : Nat) (a0 : T_lang_Test) (a8_0 : Int) : mastref2_testHolds_c2.f (k + 1) a0 a8_0 = codeK (C := ctx) (mastref2_testHolds_c2.O k) ⟨8, [1], [8]⟩ (mastref2_testHolds_c2.L k) (Try.f148.body.getD .skip) mastref2_testHolds_c2.a (endR ctx [.bool] [(.tmp 3)] [(.d (.st 1)), (.ref [.clo 147 [8]]), (.gh 8 [.d (.int .u64)])]) (slotsOf sg.U 0 [(.d (.st 1)), (.ref [.clo 147 [8]]), (.gh 8 [.d (.int .u64)])] (a0, a8_0, ()) (emptyG sg.U (PM.gs [(.d (.st 1)), (.ref [.clo 147 [8]]), (.gh 8 [.d (.int .u64)])]))) := by
  rw [mastref2_testHolds_c2.f]
  kernel_rfl
def slices_IndexFunc_lang_Test_lang_Test_at_mastref2_testHolds_c2.O (k : Nat) : Oracle sg := fun n => lkp n [(148, mastref2_testHolds_c2.e k)]
def slices_IndexFunc_lang_Test_lang_Test_at_mastref2_testHolds_c2.a : Ann := (.n .z (.n (.n .z (.lp 0 .z)) .z))
def slices_IndexFunc_lang_Test_lang_Test_at_mastref2_testHolds_c2.L (k : Nat) : Nat → St sg.U → Option (RT sg.U [(.int .i64)] × HL sg.U (PM.outs [(.d (.sl (.st 1))), (.clo 148 [19]), (.gh 19 [.clo 147 [20]]), (.gh 20 [.d (.int .u64)])])) := labs [(0, labOf sg [(0, (.d (.sl (.st 1)))), (1, (.clo 148 [19])), (7, (.d (.int .i64))), (8, (.d (.int .i64))), (19, (.gh [.clo 147 [20]])), (20, (.gh [.d (.int .u64)]))] (fun h => slices_IndexFunc_lang_Test_lang_Test_at_mastref2_testHolds_c2.l0 k h.1 h.2.1 h.2.2.1 h.2.2.2.1))]
theorem slices_IndexFunc_lang_Test_lang_Test_at_mastref2_testHolds_c2.l0_eq (k : Nat) (x0 : (List T_lang_Test)) (x7 : Int) (x8 : Int) (x20_0 : Int) : slices_IndexFunc_lang_Test_lang_Test_at_mastref2_testHolds_c2.l0 (k + 1) x0 x7 x8 x20_0 = runFrom (C := ctx) (slices_IndexFunc_lang_Test_lang_Test_at_mastref2_testHolds_c2.O k) ⟨19, [], [19, 20]⟩ (slices_IndexFunc_lang_Test_lang_Test_at_mastref2_testHolds_c2.L k) (Try.f155.body.getD .skip) slices_IndexFunc_lang_Test_lang_Test_at_mastref2_testHolds_c2.a 0 (endR ctx [(.int .i64)] [(.tmp 4)] [(.d (.sl (.st 1))), (.clo 148 [19]), (.gh 19 [.clo 147 [20]]), (.gh 20 [.d (.int .u64)])]) (encD [(0, (.d (.sl (.st 1)))), (1, (.clo 148 [19])), (7, (.d (.int .i64))), (8, (.d (.int .i64))), (19, (.gh [.clo 147 [20]])), (20, (.gh [.d (.int .u64)]))] (x0, x7, x8, x20_0, ()) (startD sg.U ⟨19, [], [19, 20]⟩ [(0, (.d (.sl (.st 1)))), (1, (.clo 148 [19])), (7, (.d (.int .i64))), (8, (.d (.int .i64))), (19, (.gh [.clo 147 [20]])), (20, (.gh [.d (.int .u64)]))])) := by
  rw [slices_IndexFunc_lang_Test_lang_Test_at_mastref2_testHolds_c2.l0]
  kernel_rfl
theorem slices_IndexFunc_lang_Test_lang_Test_at_mastref2_testHolds_c2.f_eq (k : Nat) (a0 : (List T_lang_Test)) (a20_0 : Int) : slices_IndexFunc_lang_Test_lang_Test_at_mastref2_testHolds_c2.f (k + 1) a0 a20_0 = codeK (C := ctx) (slices_IndexFunc_lang_Test_lang_Test_at_mastref2_testHolds_c2.O k) ⟨19, [], [19, 20]⟩ (slices_IndexFunc_lang_Test_lang_Test_at_mastref2_testHolds_c2.L k) (Try.f155.body.getD .skip) slices_IndexFunc_lang_Test_lang_Test_at_mastref2_testHolds_c2.a (endR ctx [(.int .i64)] [(.tmp 4)] [(.d (.sl (.st 1))), (.clo 148 [19]), (.gh 19 [.clo 147 [20]]), (.gh 20 [.d (.int .u64)])]) (slotsOf sg.U 0 [(.d (.sl (.st 1))), (.clo 148 [19]), (.gh 19 [.clo 147 [20]]), (.gh 20 [.d (.int .u64)])] (a0, a20_0, ()) (emptyG sg.U (PM.gs [(.d (.sl (.st 1))), (.clo 148 [19]), (.gh 19 [.clo 147 [20]]), (.gh 20 [.d (.int .u64)])]))) := by
  rw [slices_IndexFunc_lang_Test_lang_Test_at_mastref2_testHolds_c2.f]
  kernel_rfl
def slices_ContainsFunc_lang_Test_lang_Test_at_mastref2_testHolds_c2.O (k : Nat) : Oracle sg := fun n => lkp n [(155, slices_IndexFunc_lang_Test_lang_Test_at_mastref2_testHolds_c2.e k)]
def slices_ContainsFunc_lang_Test_lang_Test_at_mastref2_testHolds_c2.a : Ann := .z
def slices_ContainsFunc_lang_Test_lang_Test_at_mastref2_testHolds_c2.L (k : Nat) : Nat → St sg.U → Option (RT sg.U [.bool] × HL sg.U (PM.outs [(.d (.sl (.st 1))), (.clo 148 [9]), (.gh 9 [.clo 147 [10]]), (.gh 10 [.d (.int .u64)])])) := labs []
theorem slices_ContainsFunc_lang_Test_lang_Test_at_mastref2_testHolds_c2.f_eq (k : Nat) (a0 : (List T_lang_Test)) (a10_0 : Int) : slices_ContainsFunc_lang_Test_lang_Test_at_mastref2_testHolds_c2.f (k + 1) a0 a10_0 = codeK (C := ctx) (slices_ContainsFunc_lang_Test_lang_Test_at_mastref2_testHolds_c2.O k) ⟨9, [], [9, 10]⟩ (slices_ContainsFunc_lang_Test_lang_Test_at_mastref2_testHolds_c2.L k) (Try.f145.body.getD .skip) slices_ContainsFunc_lang_Test_lang_Test_at_mastref2_testHolds_c2.a (endR ctx [.bool] [(.tmp 4)] [(.d (.sl (.st 1))), (.clo 148 [9]), (.gh 9 [.clo 147 [10]]), (.gh 10 [.d (.int .u64)])]) (slotsOf sg.U 0 [(.d (.sl (.st 1))), (.clo 148 [9]), (.gh 9 [.clo 147 [10]]), (.gh 10 [.d (.int .u64)])] (a0, a10_0, ()) (emptyG sg.U (PM.gs [(.d (.sl (.st 1))), (.clo 148 [9]), (.gh 9 [.clo 147 [10]]), (.gh 10 [.d (.int .u64)])]))) := by
  rw [slices_ContainsFunc_lang_Test_lang_Test_at_mastref2_testHolds_c2.f]
  kernel_rfl
def slices_IndexFunc_lang_Test_lang_Test_at_mastref2_testHolds_c1.O (k : Nat) : Oracle sg := fun n => lkp n [(147, mastref2_testHolds_c1.e k)]
def slices_IndexFunc_lang_Test_lang_Test_at_mastref2_testHolds_c1.a : Ann := (.n .z (.n (.n .z (.lp 0 .z)) .z))
def slices_IndexFunc_lang_Test_lang_Test_at_mastref2_testHolds_c1.L (k : Nat) : Nat → St sg.U → Option (RT sg.U [(.int .i64)] × HL sg.U (PM.outs [(.d (.sl (.st 1))), (.clo 147 [19]), (.gh 19 [.d (.int .u64)])])) := labs [(0, labOf sg [(0, (.d (.sl (.st 1)))), (1, (.clo 147 [19])), (7, (.d (.int .i64))), (8, (.d (.int .i64))), (19, (.gh [.d (.int .u64)]))] (fun h => slices_IndexFunc_lang_Test_lang_Test_at_mastref2_testHolds_c1.l0 k h.1 h.2.1 h.2.2.1 h.2.2.2.1))]
theorem slices_IndexFunc_lang_Test_lang_Test_at_mastref2_testHolds_c1.l0_eq (k : Nat) (x0 : (List T_lang_Test)) (x7 : Int) (x8 : Int) (x19_0 : Int) : slices_IndexFunc_lang_Test_lang_Test_at_mastref2_testHolds_c1.l0 (k + 1) x0 x7 x8 x19_0 = runFrom (C := ctx) (slices_IndexFunc_lang_Test_lang_Test_at_mastref2_testHolds_c1.O k) ⟨19, [], [19]⟩ (slices_IndexFunc_lang_Test_lang_Test_at_mastref2_testHolds_c1.L k) (Try.f155.body.getD .skip) slices_IndexFunc_lang_Test_lang_Test_at_mastref2_testHolds_c1.a 0 (endR ctx [(.int .i64)] [(.tmp 4)] [(.d (.sl (.st 1))), (.clo 147 [19]), (.gh 19 [.d (.int .u64)])]) (encD [(0, (.d (.sl (.st 1)))), (1, (.clo 147 [19])), (7, (.d (.int .i64))), (8, (.d (.int .i64))), (19, (.gh [.d (.int .u64)]))] (x0, x7, x8, x19_0, ()) (startD sg.U ⟨19, [], [19]⟩ [(0, (.d (.sl (.st 1)))), (1, (.clo 147 [19])), (7, (.d (.int .i64))), (8, (.d (.int .i64))), (19, (.gh [.d (.int .u64)]))])) := by
  rw [slices_IndexFunc_lang_Test_lang_Test_at_mastref2_testHolds_c1.l0]
  kernel_rfl
theorem slices_IndexFunc_lang_Test_lang_Test_at_mastref2_testHolds_c1.f_eq (k : Nat) (a0 : (List T_lang_Test)) (a19_0 : Int) : slices_IndexFunc_lang_Test_lang_Test_at_mastref2_testHolds_c1.f (k + 1) a0 a19_0 = codeK (C := ctx) (slices_IndexFunc_lang_Test_lang_Test_at_mastref2_testHolds_c1.O k) ⟨19, [], [19]⟩ (slices_IndexFunc_lang_Test_lang_Test_at_mastref2_testHolds_c1.L k) (Try.f155.body.getD .skip) slices_IndexFunc_lang_Test_lang_Test_at_mastref2_testHolds_c1.a (endR ctx [(.int .i64)] [(.tmp 4)] [(.d (.sl (.st 1))), (.clo 147 [19]), (.gh 19 [.d (.int .u64)])]) (slotsOf sg.U 0 [(.d (.sl (.st 1))), (.clo 147 [19]), (.gh 19 [.d (.int .u64)])] (a0, a19_0, ()) (emptyG sg.U (PM.gs [(.d (.sl (.st 1))), (.clo 147 [19]), (.gh 19 [.d (.int .u64)])]))) := by
  rw [slices_IndexFunc_lang_Test_lang_Test_at_mastref2_testHolds_c1.f]
  kernel_rfl
def slices_ContainsFunc_lang_Test_lang_Test_at_mastref2_testHolds_c1.O (k : Nat) : Oracle sg := fun n => lkp n [(155, slices_IndexFunc_lang_Test_lang_Test_at_mastref2_testHolds_c1.e k)]
def slices_ContainsFunc_lang_Test_lang_Test_at_mastref2_testHolds_c1.a : Ann := .z
def slices_ContainsFunc_lang_Test_lang_Test_at_mastref2_testHolds_c1.L (k : Nat) : Nat → St sg.U → Option (RT sg.U [.bool] × HL sg.U (PM.outs [(.d (.sl (.st 1))), (.clo 147 [9]), (.gh 9 [.d (.int .u64)])])) := labs []
theorem slices_ContainsFunc_lang_Test_lang_Test_at_mastref2_testHolds_c1.f_eq (k : Nat) (a0 : (List T_lang_Test)) (a9_0 : Int) : slices_ContainsFunc_lang_Test_lang_Test_at_mastref2_testHolds_c1.f (k + 1) a0 a9_0 = codeK (C := ctx) (slices_ContainsFunc_lang_Test_lang_Test_at_mastref2_testHolds_c1.O k) ⟨9, [], [9]⟩ (slices_ContainsFunc_lang_Test_lang_Test_at_mastref2_testHolds_c1.L k) (Try.f145.body.getD .skip) slices_ContainsFunc_lang_Test_lang_Test_at_mastref2_testHolds_c1.a (endR ctx [.bool] [(.tmp 4)] [(.d (.sl (.st 1))), (.clo 147 [9]), (.gh 9 [.d (.int .u64)])]) (slotsOf sg.U 0 [(.d (.sl (.st 1))), (.clo 147 [9]), (.gh 9 [.d (.int .u64)])] (a0, a9_0, ()) (emptyG sg.U (PM.gs [(.d (.sl (.st 1))), (.clo 147 [9]), (.gh 9 [.d (.int .u64)])]))) := by
  rw [slices_ContainsFunc_lang_Test_lang_Test_at_mastref2_testHolds_c1.f]
  kernel_rfl
def mastref2_testHolds.O (k : Nat) : Oracle sg := fun n => lkp n [(145, altE 1 148 (slices_ContainsFunc_lang_Test_lang_Test_at_mastref2_testHolds_c2.e k) (slices_ContainsFunc_lang_Test_lang_Test_at_mastref2_testHolds_c1.e k))]
def mastref2_testHolds.a : Ann := (.n .z (.n .z (.n (.n .z (.n .z (.n (.n .z (.lab 0 .z)) .z))) .z)))
def mastref2_testHolds.L (k : Nat) : Nat → St sg.U → Option (RT sg.U [.bool]) := labs [(0, labOf sg [(2, (.box [.d (.int .i64), .d (.int .i64), .d (.int .i64), .d (.int .i64), .d (.sl (.st 1))])), (3, (.box [.d (.int .u64)]))] (fun h => mastref2_testHolds.l0 k h.1 h.2.1 h.2.2.1 h.2.2.2.1 h.2.2.2.2.1 h.2.2.2.2.2.1))]
theorem mastref2_testHolds.l0_eq (k : Nat) (x2_0 : Int) (x2_1 : Int) (x2_2 : Int) (x2_3 : Int) (x2_4 : (List T_lang_Test)) (x3_0 : Int) : mastref2_testHolds.l0 (k + 1) x2_0 x2_1 x2_2 x2_3 x2_4 x3_0 = runFrom (C := ctx) (mastref2_testHolds.O k) ⟨49, [], []⟩ (mastref2_testHolds.L k) (Try.f103.body.getD .skip) mastref2_testHolds.a 0 (endK ctx [.bool] [(.tmp 4)]) (encD [(2, (.box [.d (.int .i64), .d (.int .i64), .d (.int .i64), .d (.int .i64), .d (.sl (.st 1))])), (3, (.box [.d (.int .u64)]))] (x2_0, x2_1, x2_2, x2_3, x2_4, x3_0, ()) (startD sg.U ⟨49, [], []⟩ [(2, (.box [.d (.int .i64), .d (.int .i64), .d (.int .i64), .d (.int .i64), .d (.sl (.st 1))])), (3, (.box [.d (.int .u64)]))])) := by
  rw [mastref2_testHolds.l0]
  kernel_rfl
theorem mastref2_testHolds.f_eq (k : Nat) (a0 : T_lang_Test) (a1 : Int) : mastref2_testHolds.f (k + 1) a0 a1 = codeK (C := ctx) (mastref2_testHolds.O k) ⟨49, [], []⟩ (mastref2_testHolds.L k) (Try.f103.body.getD .skip) mastref2_testHolds.a (endK ctx [.bool] [(.tmp 4)]) (slotsOf sg.U 0 [(.d (.st 1)), (.d (.int .u64))] (a0, a1, ()) (empty sg.U)) := by
  rw [mastref2_testHolds.f]
  kernel_rfl
def mastref2_testHolds_c1.T : List (Lb sg (RT sg.U [.bool] × HL sg.U (PM.outs [(.d (.st 1)), (.ref [.d (.int .u64)])]))) := []
def mastref2_testHolds_c2.T : List (Lb sg (RT sg.U [.bool] × HL sg.U (PM.outs [(.d (.st 1)), (.ref [.clo 147 [8]]), (.gh 8 [.d (.int .u64)])]))) := []
def slices_IndexFunc_lang_Test_lang_Test_at_mastref2_testHolds_c2.T : List (Lb sg (RT sg.U [(.int .i64)] × HL sg.U (PM.outs [(.d (.sl (.st 1))), (.clo 148 [19]), (.gh 19 [.clo 147 [20]]), (.gh 20 [.d (.int .u64)])]))) := [⟨0, [(0, (.d (.sl (.st 1)))), (1, (.clo 148 [19])), (7, (.d (.int .i64))), (8, (.d (.int .i64))), (19, (.gh [.clo 147 [20]])), (20, (.gh [.d (.int .u64)]))], fun k h => slices_IndexFunc_lang_Test_lang_Test_at_mastref2_testHolds_c2.l0 k h.1 h.2.1 h.2.2.1 h.2.2.2.1⟩]
def slices_ContainsFunc_lang_Test_lang_Test_at_mastref2_testHolds_c2.T : List (Lb sg (RT sg.U [.bool] × HL sg.U (PM.outs [(.d (.sl (.st 1))), (.clo 148 [9]), (.gh 9 [.clo 147 [10]]), (.gh 10 [.d (.int .u64)])]))) := []
def slices_IndexFunc_lang_Test_lang_Test_at_mastref2_testHolds_c1.T : List (Lb sg (RT sg.U [(.int .i64)] × HL sg.U (PM.outs [(.d (.sl (.st 1))), (.clo 147 [19]), (.gh 19 [.d (.int .u64)])]))) := [⟨0, [(0, (.d (.sl (.st 1)))), (1, (.clo 147 [19])), (7, (.d (.int .i64))), (8, (.d (.int .i64))), (19, (.gh [.d (.int .u64)]))], fun k h => slices_IndexFunc_lang_Test_lang_Test_at_mastref2_testHolds_c1.l0 k h.1 h.2.1 h.2.2.1 h.2.2.2.1⟩]
def slices_ContainsFunc_lang_Test_lang_Test_at_mastref2_testHolds_c1.T : List (Lb sg (RT sg.U [.bool] × HL sg.U (PM.outs [(.d (.sl (.st 1))), (.clo 147 [9]), (.gh 9 [.d (.int .u64)])]))) := []
def mastref2_testHolds.T : List (Lb sg (RT sg.U [.bool])) := [⟨0, [(2, (.box [.d (.int .i64), .d (.int .i64), .d (.int .i64), .d (.int .i64), .d (.sl (.st 1))])), (3, (.box [.d (.int .u64)]))], fun k h => mastref2_testHolds.l0 k h.1 h.2.1 h.2.2.1 h.2.2.2.1 h.2.2.2.2.1 h.2.2.2.2.2.1⟩]
theorem mastref2_testHolds_c1.all : ∀ k : Nat, (mastref2_testHolds_c1.e k).Sound Try.prog ctx 147 ∧ (mastref2_testHolds_c2.e k).Sound Try.prog ctx 148 ∧ (slices_IndexFunc_lang_Test_lang_Test_at_mastref2_testHolds_c2.e k).Sound Try.prog ctx 155 ∧ (slices_ContainsFunc_lang_Test_lang_Test_at_mastref2_testHolds_c2.e k).Sound Try.prog ctx 145 ∧ (slices_IndexFunc_lang_Test_lang_Test_at_mastref2_testHolds_c1.e k).Sound Try.prog ctx 155 ∧ (slices_ContainsFunc_lang_Test_lang_Test_at_mastref2_testHolds_c1.e k).Sound Try.prog ctx 145 ∧ (mastref2_testHolds.e k).Sound Try.prog ctx 103 := by
  intro k
  induction k using Nat.strongRecOn with
  | _ k ih =>
    cases k with
    | zero => exact ⟨(entryR_none (by kernel_rfl) (fun _ => by first | rfl | rw [mastref2_testHolds_c1.f])), (entryR_none (by kernel_rfl) (fun _ => by first | rfl | rw [mastref2_testHolds_c2.f])), (entryR_none (by kernel_rfl) (fun _ => by first | rfl | rw [slices_IndexFunc_lang_Test_lang_Test_at_mastref2_testHolds_c2.f])), (entryR_none (by kernel_rfl) (fun _ => by first | rfl | rw [slices_ContainsFunc_lang_Test_lang_Test_at_mastref2_testHolds_c2.f])), (entryR_none (by kernel_rfl) (fun _ => by first | rfl | rw [slices_IndexFunc_lang_Test_lang_Test_at_mastref2_testHolds_c1.f])), (entryR_none (by kernel_rfl) (fun _ => by first | rfl | rw [slices_ContainsFunc_lang_Test_lang_Test_at_mastref2_testHolds_c1.f])), (entry_none (fun _ => by first | rfl | rw [mastref2_testHolds.f]))⟩
    | succ k =>
      have own : ∀ j, j ≤ k → (mastref2_testHolds_c1.e j).Sound Try.prog ctx 147 ∧ (mastref2_testHolds_c2.e j).Sound Try.prog ctx 148 ∧ (slices_IndexFunc_lang_Test_lang_Test_at_mastref2_testHolds_c2.e j).Sound Try.prog ctx 155 ∧ (slices_ContainsFunc_lang_Test_lang_Test_at_mastref2_testHolds_c2.e j).Sound Try.prog ctx 145 ∧ (slices_IndexFunc_lang_Test_lang_Test_at_mastref2_testHolds_c1.e j).Sound Try.prog ctx 155 ∧ (slices_ContainsFunc_lang_Test_lang_Test_at_mastref2_testHolds_c1.e j).Sound Try.prog ctx 145 ∧ (mastref2_testHolds.e j).Sound Try.prog ctx 103 := fun j hj => ih j (by omega)
      exact ⟨(entryR_step base_ok mo (fn := Try.f147) (b := (Try.f147.body.getD .skip)) (pm := [(.d (.st 1)), (.ref [.d (.int .u64)])]) (rs := [.bool]) (an := mastref2_testHolds_c1.a) (N := 7) (vars := [(.tmp 3)]) Try.func147 (by kernel_rfl) (by kernel_rfl) (by kernel_rfl) (by kernel_rfl) (by kernel_rfl) (by kernel_rfl) (by kernel_rfl) (by kernel_rfl) (O := mastref2_testHolds_c1.O) mastref2_testHolds_c1.T trivial k (fun h => mastref2_testHolds_c1.f_eq k h.1 h.2.1) (fun j hj => by unfold mastref2_testHolds_c1.O; exact oracle_of (P := Try.prog) (C := ctx) ⟨((own j hj).2.2.2.2.2.2), trivial⟩)), (entryR_step base_ok mo (fn := Try.f148) (b := (Try.f148.body.getD .skip)) (pm := [(.d (.st 1)), (.ref [.clo 147 [8]]), (.gh 8 [.d (.int .u64)])]) (rs := [.bool]) (an := mastref2_testHolds_c2.a) (N := 8) (vars := [(.tmp 3)]) Try.func148 (by kernel_rfl) (by kernel_rfl) (by kernel_rfl) (by kernel_rfl) (by kernel_rfl) (by kernel_rfl) (by kernel_rfl) (by kernel_rfl) (O := mastref2_testHolds_c2.O) mastref2_testHolds_c2.T trivial k (fun h => mastref2_testHolds_c2.f_eq k h.1 h.2.1) (fun j hj => by unfold mastref2_testHolds_c2.O; exact oracle_of (P := Try.prog) (C := ctx) ⟨((own j hj).1), trivial⟩)), (entryR_step base_ok mo (fn := Try.f155) (b := (Try.f155.body.getD .skip)) (pm := [(.d (.sl (.st 1))), (.clo 148 [19]), (.gh 19 [.clo 147 [20]]), (.gh 20 [.d (.int .u64)])]) (rs := [(.int .i64)]) (an := slices_IndexFunc_lang_Test_lang_Test_at_mastref2_testHolds_c2.a) (N := 19) (vars := [(.tmp 4)]) Try.func155 (by kernel_rfl) (by kernel_rfl) (by kernel_rfl) (by kernel_rfl) (by kernel_rfl) (by kernel_rfl) (by kernel_rfl) (by kernel_rfl) (O := slices_IndexFunc_lang_Test_lang_Test_at_mastref2_testHolds_c2.O) slices_IndexFunc_lang_Test_lang_Test_at_mastref2_testHolds_c2.T ⟨⟨by kernel_rfl, fun _ => by first | rfl | rw [slices_IndexFunc_lang_Test_lang_Test_at_mastref2_testHolds_c2.l0], fun k h => slices_IndexFunc_lang_Test_lang_Test_at_mastref2_testHolds_c2.l0_eq k h.1 h.2.1 h.2.2.1 h.2.2.2.1⟩, trivial⟩ k (fun h => slices_IndexFunc_lang_Test_lang_Test_at_mastref2_testHolds_c2.f_eq k h.1 h.2.1) (fun j hj => by unfold slices_IndexFunc_lang_Test_lang_Test_at_mastref2_testHolds_c2.O; exact oracle_of (P := Try.prog) (C := ctx) ⟨((own j hj).2.1), trivial⟩)), (entryR_step base_ok mo (fn := Try.f145) (b := (Try.f145.body.getD .skip)) (pm := [(.d (.sl (.st 1))), (.clo 148 [9]), (.gh 9 [.clo 147 [10]]), (.gh 10 [.d (.int .u64)])]) (rs := [.bool]) (an := slices_ContainsFunc_lang_Test_lang_Test_at_mastref2_testHolds_c2.a) (N := 9) (vars := [(.tmp 4)]) Try.func145 (by kernel_rfl) (by kernel_rfl) (by kernel_rfl) (by kernel_rfl) (by kernel_rfl) (by kernel_rfl) (by kernel_rfl) (by kernel_rfl) (O := slices_ContainsFunc_lang_Test_lang_Test_at_mastref2_testHolds_c2.O) slices_ContainsFunc_lang_Test_lang_Test_at_mastref2_testHolds_c2.T trivial k (fun h => slices_ContainsFunc_lang_Test_lang_Test_at_mastref2_testHolds_c2.f_eq k h.1 h.2.1) (fun j hj => by unfold slices_ContainsFunc_lang_Test_lang_Test_at_mastref2_testHolds_c2.O; exact oracle_of (P := Try.prog) (C := ctx) ⟨((own j hj).2.2.1), trivial⟩)), (entryR_step base_ok mo (fn := Try.f155) (b := (Try.f155.body.getD .skip)) (pm := [(.d (.sl (.st 1))), (.clo 147 [19]), (.gh 19 [.d (.int .u64)])]) (rs := [(.int .i64)]) (an := slices_IndexFunc_lang_Test_lang_Test_at_mastref2_testHolds_c1.a) (N := 19) (vars := [(.tmp 4)]) Try.func155 (by kernel_rfl) (by kernel_rfl) (by kernel_rfl) (by kernel_rfl) (by kernel_rfl) (by kernel_rfl) (by kernel_rfl) (by kernel_rfl) (O := slices_IndexFunc_lang_Test_lang_Test_at_mastref2_testHolds_c1.O) slices_IndexFunc_lang_Test_lang_Test_at_mastref2_testHolds_c1.T ⟨⟨by kernel_rfl, fun _ => by first | rfl | rw [slices_IndexFunc_lang_Test_lang_Test_at_mastref2_testHolds_c1.l0], fun k h => slices_IndexFunc_lang_Test_lang_Test_at_mastref2_testHolds_c1.l0_eq k h.1 h.2.1 h.2.2.1 h.2.2.2.1⟩, trivial⟩ k (fun h => slices_IndexFunc_lang_Test_lang_Test_at_mastref2_testHolds_c1.f_eq k h.1 h.2.1) (fun j hj => by unfold slices_IndexFunc_lang_Test_lang_Test_at_mastref2_testHolds_c1.O; exact oracle_of (P := Try.prog) (C := ctx) ⟨((own j hj).1), trivial⟩)), (entryR_step base_ok mo (fn := Try.f145) (b := (Try.f145.body.getD .skip)) (pm := [(.d (.sl (.st 1))), (.clo 147 [9]), (.gh 9 [.d (.int .u64)])]) (rs := [.bool]) (an := slices_ContainsFunc_lang_Test_lang_Test_at_mastref2_testHolds_c1.a) (N := 9) (vars := [(.tmp 4)]) Try.func145 (by kernel_rfl) (by kernel_rfl) (by kernel_rfl) (by kernel_rfl) (by kernel_rfl) (by kernel_rfl) (by kernel_rfl) (by kernel_rfl) (O := slices_ContainsFunc_lang_Test_lang_Test_at_mastref2_testHolds_c1.O) slices_ContainsFunc_lang_Test_lang_Test_at_mastref2_testHolds_c1.T trivial k (fun h => slices_ContainsFunc_lang_Test_lang_Test_at_mastref2_testHolds_c1.f_eq k h.1 h.2.1) (fun j hj => by unfold slices_ContainsFunc_lang_Test_lang_Test_at_mastref2_testHolds_c1.O; exact oracle_of (P := Try.prog) (C := ctx) ⟨((own j hj).2.2.2.2.1), trivial⟩)), (entry_step base_ok mo (fn := Try.f103) (b := (Try.f103.body.getD .skip)) (pm := [(.d (.st 1)), (.d (.int .u64))]) (rs := [.bool]) (an := mastref2_testHolds.a) (N := 49) (vars := [(.tmp 4)]) Try.func103 (by kernel_rfl) (by kernel_rfl) (by kernel_rfl) (by kernel_rfl) (by kernel_rfl) (by kernel_rfl) (O := mastref2_testHolds.O) mastref2_testHolds.T ⟨⟨by kernel_rfl, fun _ => by first | rfl | rw [mastref2_testHolds.l0], fun k h => mastref2_testHolds.l0_eq k h.1 h.2.1 h.2.2.1 h.2.2.2.1 h.2.2.2.2.1 h.2.2.2.2.2.1⟩, trivial⟩ k (fun h => mastref2_testHolds.f_eq k h.1 h.2.1) (fun j hj => by unfold mastref2_testHolds.O; exact oracle_of (P := Try.prog) (C := ctx) ⟨(altE_sound ((own j hj).2.2.2.1) ((own j hj).2.2.2.2.2.1)), trivial⟩))⟩
theorem mastref2_testHolds_c1.ok (k : Nat) : (mastref2_testHolds_c1.e k).Sound Try.prog ctx 147 := (mastref2_testHolds_c1.all k).1
theorem mastref2_testHolds_c2.ok (k : Nat) : (mastref2_testHolds_c2.e k).Sound Try.prog ctx 148 := (mastref2_testHolds_c1.all k).2.1
theorem slices_IndexFunc_lang_Test_lang_Test_at_mastref2_testHolds_c2.ok (k : Nat) : (slices_IndexFunc_lang_Test_lang_Test_at_mastref2_testHolds_c2.e k).Sound Try.prog ctx 155 := (mastref2_testHolds_c1.all k).2.2.1
theorem slices_ContainsFunc_lang_Test_lang_Test_at_mastref2_testHolds_c2.ok (k : Nat) : (slices_ContainsFunc_lang_Test_lang_Test_at_mastref2_testHolds_c2.e k).Sound Try.prog ctx 145 := (mastref2_testHolds_c1.all k).2.2.2.1
theorem slices_IndexFunc_lang_Test_lang_Test_at_mastref2_testHolds_c1.ok (k : Nat) : (slices_IndexFunc_lang_Test_lang_Test_at_mastref2_testHolds_c1.e k).Sound Try.prog ctx 155 := (mastref2_testHolds_c1.all k).2.2.2.2.1
theorem slices_ContainsFunc_lang_Test_lang_Test_at_mastref2_testHolds_c1.ok (k : Nat) : (slices_ContainsFunc_lang_Test_lang_Test_at_mastref2_testHolds_c1.e k).Sound Try.prog ctx 145 := (mastref2_testHolds_c1.all k).2.2.2.2.2.1
theorem mastref2_testHolds.ok (k : Nat) : (mastref2_testHolds.e k).Sound Try.prog ctx 103 := (mastref2_testHolds_c1.all k).2.2.2.2.2.2
def mastref2_FormOf.l0 : Nat → Int → (List T_lang_Test) → (List T_lang_Test) → Int → Int → Option (Int)
  | 0, _, _, _, _, _ => none
  | k + 1, x1, x2_0, x8, x9, x10 => (bif (ilt x10 x9) then ((lat x8 x10).bind fun y1 => ((mastref2_sizeOfInt.f x1).bind fun y2 => ((mastref2_testHolds.f k (T_lang_Test.mk y1.fOp y1.fModulus y1.fLow y1.fHigh y1.fKids) y2).bind fun y3 => (bif y3 then (some x10) else (mastref2_FormOf.l0 k x1 x2_0 x8 x9 (wadd .i64 x10 1)))))) else (some (llen x2_0)))
def mastref2_FormOf.f (k : Nat) (a0 : T_lang_Rule) (a1 : Int) : Option (Int) := (mastref2_FormOf.l0 k a1 a0.fForms a0.fForms (llen a0.fForms) 0)
def mastref2_FormOf.O (k : Nat) : Oracle sg := fun n => lkp n [(103, mastref2_testHolds.e k), (104, mastref2_sizeOfInt.e)]
def mastref2_FormOf.a : Ann := (.n .z (.n (.n .z (.lp 0 .z)) .z))
def mastref2_FormOf.L (k : Nat) : Nat → St sg.U → Option (RT sg.U [(.int .i64)]) := labs [(0, labOf sg [(1, (.d (.int .i64))), (2, (.box [.d (.sl (.st 1))])), (8, (.d (.sl (.st 1)))), (9, (.d (.int .i64))), (10, (.d (.int .i64)))] (fun h => mastref2_FormOf.l0 k h.1 h.2.1 h.2.2.1 h.2.2.2.1 h.2.2.2.2.1))]
theorem mastref2_FormOf.l0_eq (k : Nat) (x1 : Int) (x2_0 : (List T_lang_Test)) (x8 : (List T_lang_Test)) (x9 : Int) (x10 : Int) : mastref2_FormOf.l0 (k + 1) x1 x2_0 x8 x9 x10 = runFrom (C := ctx) (mastref2_FormOf.O k) ⟨24, [], []⟩ (mastref2_FormOf.L k) (Try.f48.body.getD .skip) mastref2_FormOf.a 0 (endK ctx [(.int .i64)] [(.tmp 4)]) (encD [(1, (.d (.int .i64))), (2, (.box [.d (.sl (.st 1))])), (8, (.d (.sl (.st 1)))), (9, (.d (.int .i64))), (10, (.d (.int .i64)))] (x1, x2_0, x8, x9, x10, ()) (startD sg.U ⟨24, [], []⟩ [(1, (.d (.int .i64))), (2, (.box [.d (.sl (.st 1))])), (8, (.d (.sl (.st 1)))), (9, (.d (.int .i64))), (10, (.d (.int .i64)))])) := by
  rw [mastref2_FormOf.l0]
  kernel_rfl
theorem mastref2_FormOf.f_eq (k : Nat) (a0 : T_lang_Rule) (a1 : Int) : mastref2_FormOf.f k a0 a1 = codeK (C := ctx) (mastref2_FormOf.O k) ⟨24, [], []⟩ (mastref2_FormOf.L k) (Try.f48.body.getD .skip) mastref2_FormOf.a (endK ctx [(.int .i64)] [(.tmp 4)]) (slotsOf sg.U 0 [(.d (.st 0)), (.d (.int .i64))] (a0, a1, ()) (empty sg.U)) := by
  unfold mastref2_FormOf.f
  kernel_rfl
def mastref2_FormOf.e (k : Nat) : Entry sg := entryOf sg [(.d (.st 0)), (.d (.int .i64))] [(.int .i64)] (fun h => mastref2_FormOf.f k h.1 h.2.1)
def mastref2_FormOf.T : List (Lb sg (RT sg.U [(.int .i64)])) := [⟨0, [(1, (.d (.int .i64))), (2, (.box [.d (.sl (.st 1))])), (8, (.d (.sl (.st 1)))), (9, (.d (.int .i64))), (10, (.d (.int .i64)))], fun k h => mastref2_FormOf.l0 k h.1 h.2.1 h.2.2.1 h.2.2.2.1 h.2.2.2.2.1⟩]
theorem mastref2_FormOf.ok (k : Nat) : (mastref2_FormOf.e k).Sound Try.prog ctx 48 :=
  entry_ok base_ok mo (fn := Try.f48) (b := (Try.f48.body.getD .skip)) (pm := [(.d (.st 0)), (.d (.int .i64))]) (rs := [(.int .i64)]) (an := mastref2_FormOf.a) (N := 24) (vars := [(.tmp 4)]) Try.func48 (by kernel_rfl) (by kernel_rfl) (by kernel_rfl) (by kernel_rfl) (by kernel_rfl) (by kernel_rfl) (O := mastref2_FormOf.O)
    (fun k => by unfold mastref2_FormOf.O; exact oracle_of (P := Try.prog) (C := ctx) ⟨(mastref2_testHolds.ok k), ⟨(mastref2_sizeOfInt.ok), trivial⟩⟩) mastref2_FormOf.T ⟨⟨by kernel_rfl, fun _ => by first | rfl | rw [mastref2_FormOf.l0], fun k h => mastref2_FormOf.l0_eq k h.1 h.2.1 h.2.2.1 h.2.2.2.1 h.2.2.2.2.1⟩, trivial⟩ k (fun h => mastref2_FormOf.f_eq k h.1 h.2.1)
def mastlaw2_RuleForms.f (k : Nat) (a0 : T_lang_Rule) (a1 : Int) : Option (Bool) := ((lang_Form.f k a0 a1).bind fun y1 => ((mastref2_RuleFault.f k a0).bind fun y2 => (bif (!ieq y2 0) then (some (bif (ieq y1.1 0) then (ieq y1.2 y2) else false)) else ((mastref2_FormOf.f k a0 a1).bind fun y3 => (some (bif (ieq y1.1 y3) then (ieq y1.2 0) else false))))))
def mastlaw2_RuleForms.O (k : Nat) : Oracle sg := fun n => lkp n [(46, lang_Form.e k), (47, mastref2_RuleFault.e k), (48, mastref2_FormOf.e k)]
def mastlaw2_RuleForms.a : Ann := .z
def mastlaw2_RuleForms.L (k : Nat) : Nat → St sg.U → Option (RT sg.U [.bool]) := labs []
theorem mastlaw2_RuleForms.f_eq (k : Nat) (a0 : T_lang_Rule) (a1 : Int) : mastlaw2_RuleForms.f k a0 a1 = codeK (C := ctx) (mastlaw2_RuleForms.O k) ⟨34, [], []⟩ (mastlaw2_RuleForms.L k) (Try.f14.body.getD .skip) mastlaw2_RuleForms.a (endK ctx [.bool] [(.tmp 4)]) (slotsOf sg.U 0 [(.d (.st 0)), (.d (.int .i64))] (a0, a1, ()) (empty sg.U)) := by
  unfold mastlaw2_RuleForms.f
  kernel_rfl
def mastlaw2_RuleForms.e (k : Nat) : Entry sg := entryOf sg [(.d (.st 0)), (.d (.int .i64))] [.bool] (fun h => mastlaw2_RuleForms.f k h.1 h.2.1)
def mastlaw2_RuleForms.T : List (Lb sg (RT sg.U [.bool])) := []
theorem mastlaw2_RuleForms.ok (k : Nat) : (mastlaw2_RuleForms.e k).Sound Try.prog ctx 14 :=
  entry_ok base_ok mo (fn := Try.f14) (b := (Try.f14.body.getD .skip)) (pm := [(.d (.st 0)), (.d (.int .i64))]) (rs := [.bool]) (an := mastlaw2_RuleForms.a) (N := 34) (vars := [(.tmp 4)]) Try.func14 (by kernel_rfl) (by kernel_rfl) (by kernel_rfl) (by kernel_rfl) (by kernel_rfl) (by kernel_rfl) (O := mastlaw2_RuleForms.O)
    (fun k => by unfold mastlaw2_RuleForms.O; exact oracle_of (P := Try.prog) (C := ctx) ⟨(lang_Form.ok k), ⟨(mastref2_RuleFault.ok k), ⟨(mastref2_FormOf.ok k), trivial⟩⟩⟩) mastlaw2_RuleForms.T trivial k (fun h => mastlaw2_RuleForms.f_eq k h.1 h.2.1)
end Go.Proofs.Ytmjfjjnmdljkeaa.LRuleForms
