/- The functions behind the law ImageRenders, checked against the code; their summaries hold. Conditions: none. -/
import Derived.Test.YtmjfjjnmdljkeaaLiftZ
import Derived.Test.YtmjfjjnmdljkeaaProg
namespace Go.Proofs.Ytmjfjjnmdljkeaa.LImageRenders
open Go Go.Proofs.Ytmjfjjnmdljkeaa.Lift
set_option maxRecDepth 100000
set_option linter.unusedVariables false
structure T_asset_Image where
  fWidth : Int
  fHeight : Int
  fLevels : (List Int)
  deriving Inhabited
structure T_asset_Cut where
  fX : Int
  fY : Int
  fWidth : Int
  fHeight : Int
  fToWidth : Int
  fToHeight : Int
  deriving Inhabited
abbrev sgU : Nat → Type
  | 0 => T_asset_Image
  | 1 => T_asset_Cut
  | 2 => Unit
  | 3 => Unit
  | 4 => Unit
  | 5 => Unit
  | 6 => Unit
  | 7 => Unit
  | 8 => Unit
  | 9 => Unit
  | 10 => Unit
  | 11 => Unit
  | 12 => Unit
  | 13 => Unit
  | 14 => Unit
  | 15 => Unit
  | 16 => Unit
  | 17 => Unit
  | 18 => Unit
  | 19 => Unit
  | 20 => Unit
  | 21 => Unit
  | 22 => Unit
  | 23 => Unit
  | 24 => Unit
  | 25 => Unit
  | 26 => Unit
  | 27 => Unit
  | 28 => Unit
  | 29 => Unit
  | _ + 30 => Unit
abbrev sgF : Nat → List Ty
  | 0 => [(.int .i64), (.int .i64), (.sl (.int .i64))]
  | 1 => [(.int .i64), (.int .i64), (.int .i64), (.int .i64), (.int .i64), (.int .i64)]
  | 2 => []
  | 3 => []
  | 4 => []
  | 5 => []
  | 6 => []
  | 7 => []
  | 8 => []
  | 9 => []
  | 10 => []
  | 11 => []
  | 12 => []
  | 13 => []
  | 14 => []
  | 15 => []
  | 16 => []
  | 17 => []
  | 18 => []
  | 19 => []
  | 20 => []
  | 21 => []
  | 22 => []
  | 23 => []
  | 24 => []
  | 25 => []
  | 26 => []
  | 27 => []
  | 28 => []
  | 29 => []
  | _ + 30 => []
def sgO : (n : Nat) → sgU n → HL sgU (sgF n)
  | 0, x => (x.fWidth, x.fHeight, x.fLevels, ())
  | 1, x => (x.fX, x.fY, x.fWidth, x.fHeight, x.fToWidth, x.fToHeight, ())
  | 2, _ => ()
  | 3, _ => ()
  | 4, _ => ()
  | 5, _ => ()
  | 6, _ => ()
  | 7, _ => ()
  | 8, _ => ()
  | 9, _ => ()
  | 10, _ => ()
  | 11, _ => ()
  | 12, _ => ()
  | 13, _ => ()
  | 14, _ => ()
  | 15, _ => ()
  | 16, _ => ()
  | 17, _ => ()
  | 18, _ => ()
  | 19, _ => ()
  | 20, _ => ()
  | 21, _ => ()
  | 22, _ => ()
  | 23, _ => ()
  | 24, _ => ()
  | 25, _ => ()
  | 26, _ => ()
  | 27, _ => ()
  | 28, _ => ()
  | 29, _ => ()
  | _ + 30, _ => ()
def sgB : (n : Nat) → HL sgU (sgF n) → sgU n
  | 0, h => ⟨h.1, h.2.1, h.2.2.1⟩
  | 1, h => ⟨h.1, h.2.1, h.2.2.1, h.2.2.2.1, h.2.2.2.2.1, h.2.2.2.2.2.1⟩
  | 2, _ => ()
  | 3, _ => ()
  | 4, _ => ()
  | 5, _ => ()
  | 6, _ => ()
  | 7, _ => ()
  | 8, _ => ()
  | 9, _ => ()
  | 10, _ => ()
  | 11, _ => ()
  | 12, _ => ()
  | 13, _ => ()
  | 14, _ => ()
  | 15, _ => ()
  | 16, _ => ()
  | 17, _ => ()
  | 18, _ => ()
  | 19, _ => ()
  | 20, _ => ()
  | 21, _ => ()
  | 22, _ => ()
  | 23, _ => ()
  | 24, _ => ()
  | 25, _ => ()
  | 26, _ => ()
  | 27, _ => ()
  | 28, _ => ()
  | 29, _ => ()
  | _ + 30, _ => ()
def sg : Sg := { U := sgU, fl := sgF, out := sgO, bld := sgB }
def ctx : Ctx := { S := sg, ty := [(35, .n), (37, .n), (50, .n), (72, .n), (79, .n), (107, .n), (117, .n), (120, .n), (121, .n), (122, .n), (125, .n), (126, .n), (127, .n), (128, .n), (131, .n), (132, .n), (133, .n), (134, .n), (142, .n), (148, .n), (154, .n), (159, .n), (164, .n), (3, .d (.int .i64) 1 0), (23, .d (.int .i64) 1 0), (30, .d (.sl (.int .i64)) 8 3), (46, .d (.st 1) 1 0), (67, .d (.st 0) 1 0)], eqs := [] }
def c_empty : ByteArray := ⟨#[]⟩
theorem sg_ok : SgOk sg :=
  ⟨fun n h => by rcases n with _ | _ | _ | _ | _ | _ | _ | _ | _ | _ | _ | _ | _ | _ | _ | _ | _ | _ | _ | _ | _ | _ | _ | _ | _ | _ | _ | _ | _ | _ | n <;> rfl, fun n => by rcases n with _ | _ | _ | _ | _ | _ | _ | _ | _ | _ | _ | _ | _ | _ | _ | _ | _ | _ | _ | _ | _ | _ | _ | _ | _ | _ | _ | _ | _ | _ | n <;> rfl, fun n x => by rcases n with _ | _ | _ | _ | _ | _ | _ | _ | _ | _ | _ | _ | _ | _ | _ | _ | _ | _ | _ | _ | _ | _ | _ | _ | _ | _ | _ | _ | _ | _ | n <;> rfl, fun n => by rcases n with _ | _ | _ | _ | _ | _ | _ | _ | _ | _ | _ | _ | _ | _ | _ | _ | _ | _ | _ | _ | _ | _ | _ | _ | _ | _ | _ | _ | _ | _ | n <;> rfl⟩
theorem base_ok : Base Try.prog ctx := base_of sg_ok (by kernel_rfl) (eqOk_of (by kernel_rfl))
theorem open_ok : openB Try.prog ctx = true := by kernel_rfl
theorem mo : Try.prog.follows .mixedOrders = true := by kernel_rfl
def asset_isSide.f (a0 : Int) : Option (Bool) := (some (bif (ile 1 a0) then (ile a0 64) else false))
def asset_isSide.O : Oracle sg := fun n => lkp n []
def asset_isSide.a : Ann := .z
def asset_isSide.L : Nat → St sg.U → Option (RT sg.U [.bool]) := labs []
theorem asset_isSide.f_eq (a0 : Int) : asset_isSide.f a0 = codeK (C := ctx) (asset_isSide.O) 9 (asset_isSide.L) (Try.f54.body.getD .skip) asset_isSide.a (endK ctx [.bool] [(.tmp 2)]) (slotsOf sg.U 0 [(.d (.int .i64))] (a0, ()) (empty sg.U)) := by
  unfold asset_isSide.f
  kernel_rfl
def asset_isSide.e : Entry sg := entryOf sg [(.d (.int .i64))] [.bool] (fun h => asset_isSide.f h.1)
def asset_isSide.T : List (Lb sg (RT sg.U [.bool])) := []
theorem asset_isSide.ok : (asset_isSide.e).Sound Try.prog ctx 54 :=
  entry_ok base_ok mo (fn := Try.f54) (b := (Try.f54.body.getD .skip)) (pm := [(.d (.int .i64))]) (rs := [.bool]) (an := asset_isSide.a) (N := 9) (vars := [(.tmp 2)]) Try.func54 (by kernel_rfl) (by kernel_rfl) (by kernel_rfl) (by kernel_rfl) (by kernel_rfl) (by kernel_rfl) (O := fun _ => asset_isSide.O)
    (fun _ => by unfold asset_isSide.O; exact oracle_of (P := Try.prog) (C := ctx) trivial) asset_isSide.T trivial 0 (fun h => asset_isSide.f_eq h.1)
def asset_CheckImage.l0 : Nat → (List Int) → Int → Int → Option (Int)
  | 0, _, _, _ => none
  | k + 1, x25, x26, x27 => (bif (ilt x27 x26) then ((lat x25 x27).bind fun y3 => (bif (bif (ilt y3 0) then true else (ilt 15 y3)) then (some 2) else (asset_CheckImage.l0 k x25 x26 (wadd .i64 x27 1)))) else (some 0))
def asset_CheckImage.f (k : Nat) (a0 : T_asset_Image) : Option (Int) := ((asset_isSide.f a0.fWidth).bind fun y1 => (bif (!y1) then (some 2) else ((asset_isSide.f a0.fHeight).bind fun y2 => (bif (!y2) then (some 2) else (bif (!ieq (llen a0.fLevels) (wmul .i64 a0.fWidth a0.fHeight)) then (some 1) else (asset_CheckImage.l0 k a0.fLevels (llen a0.fLevels) 0))))))
def asset_CheckImage.O (k : Nat) : Oracle sg := fun n => lkp n [(54, asset_isSide.e)]
def asset_CheckImage.a : Ann := (.n .z (.n .z (.n .z (.n (.n .z (.lp 0 .z)) .z))))
def asset_CheckImage.L (k : Nat) : Nat → St sg.U → Option (RT sg.U [(.int .i64)]) := labs [(0, labOf sg [(25, (.d (.sl (.int .i64)))), (26, (.d (.int .i64))), (27, (.d (.int .i64)))] (fun h => asset_CheckImage.l0 k h.1 h.2.1 h.2.2.1))]
theorem asset_CheckImage.l0_eq (k : Nat) (x25 : (List Int)) (x26 : Int) (x27 : Int) : asset_CheckImage.l0 (k + 1) x25 x26 x27 = runFrom (C := ctx) (asset_CheckImage.O k) 38 (asset_CheckImage.L k) (Try.f72.body.getD .skip) asset_CheckImage.a 0 (endK ctx [(.int .i64)] [(.tmp 2)]) (encD [(25, (.d (.sl (.int .i64)))), (26, (.d (.int .i64))), (27, (.d (.int .i64)))] (x25, x26, x27, ()) (empty sg.U)) := by
  rw [asset_CheckImage.l0]
  kernel_rfl
theorem asset_CheckImage.f_eq (k : Nat) (a0 : T_asset_Image) : asset_CheckImage.f k a0 = codeK (C := ctx) (asset_CheckImage.O k) 38 (asset_CheckImage.L k) (Try.f72.body.getD .skip) asset_CheckImage.a (endK ctx [(.int .i64)] [(.tmp 2)]) (slotsOf sg.U 0 [(.d (.st 0))] (a0, ()) (empty sg.U)) := by
  unfold asset_CheckImage.f
  kernel_rfl
def asset_CheckImage.e (k : Nat) : Entry sg := entryOf sg [(.d (.st 0))] [(.int .i64)] (fun h => asset_CheckImage.f k h.1)
def asset_CheckImage.T : List (Lb sg (RT sg.U [(.int .i64)])) := [⟨0, [(25, (.d (.sl (.int .i64)))), (26, (.d (.int .i64))), (27, (.d (.int .i64)))], fun k h => asset_CheckImage.l0 k h.1 h.2.1 h.2.2.1⟩]
theorem asset_CheckImage.ok (k : Nat) : (asset_CheckImage.e k).Sound Try.prog ctx 72 :=
  entry_ok base_ok mo (fn := Try.f72) (b := (Try.f72.body.getD .skip)) (pm := [(.d (.st 0))]) (rs := [(.int .i64)]) (an := asset_CheckImage.a) (N := 38) (vars := [(.tmp 2)]) Try.func72 (by kernel_rfl) (by kernel_rfl) (by kernel_rfl) (by kernel_rfl) (by kernel_rfl) (by kernel_rfl) (O := asset_CheckImage.O)
    (fun k => by unfold asset_CheckImage.O; exact oracle_of (P := Try.prog) (C := ctx) ⟨asset_isSide.ok, trivial⟩) asset_CheckImage.T ⟨⟨by kernel_rfl, fun _ => by first | rfl | rw [asset_CheckImage.l0], fun k h => asset_CheckImage.l0_eq k h.1 h.2.1 h.2.2.1⟩, trivial⟩ k (fun h => asset_CheckImage.f_eq k h.1)
def asset_overlap.f (a0 : Int) (a1 : Int) (a2 : Int) (a3 : Int) : Option (Int) := (some (imax 0 (wsub .i64 (imin a1 a3) (imax a0 a2))))
def asset_overlap.O : Oracle sg := fun n => lkp n []
def asset_overlap.a : Ann := .z
def asset_overlap.L : Nat → St sg.U → Option (RT sg.U [(.int .i64)]) := labs []
theorem asset_overlap.f_eq (a0 : Int) (a1 : Int) (a2 : Int) (a3 : Int) : asset_overlap.f a0 a1 a2 a3 = codeK (C := ctx) (asset_overlap.O) 17 (asset_overlap.L) (Try.f73.body.getD .skip) asset_overlap.a (endK ctx [(.int .i64)] [(.tmp 8)]) (slotsOf sg.U 0 [(.d (.int .i64)), (.d (.int .i64)), (.d (.int .i64)), (.d (.int .i64))] (a0, a1, a2, a3, ()) (empty sg.U)) := by
  unfold asset_overlap.f
  kernel_rfl
def asset_overlap.e : Entry sg := entryOf sg [(.d (.int .i64)), (.d (.int .i64)), (.d (.int .i64)), (.d (.int .i64))] [(.int .i64)] (fun h => asset_overlap.f h.1 h.2.1 h.2.2.1 h.2.2.2.1)
def asset_overlap.T : List (Lb sg (RT sg.U [(.int .i64)])) := []
theorem asset_overlap.ok : (asset_overlap.e).Sound Try.prog ctx 73 :=
  entry_ok base_ok mo (fn := Try.f73) (b := (Try.f73.body.getD .skip)) (pm := [(.d (.int .i64)), (.d (.int .i64)), (.d (.int .i64)), (.d (.int .i64))]) (rs := [(.int .i64)]) (an := asset_overlap.a) (N := 17) (vars := [(.tmp 8)]) Try.func73 (by kernel_rfl) (by kernel_rfl) (by kernel_rfl) (by kernel_rfl) (by kernel_rfl) (by kernel_rfl) (O := fun _ => asset_overlap.O)
    (fun _ => by unfold asset_overlap.O; exact oracle_of (P := Try.prog) (C := ctx) trivial) asset_overlap.T trivial 0 (fun h => asset_overlap.f_eq h.1 h.2.1 h.2.2.1 h.2.2.2.1)
mutual
def asset_Render.l0 : Nat → Int → Int → (List Int) → Int → Int → Int → Int → Int → Int → Int → Int → (List Int) → Bool → Option (T_asset_Image × Int)
  | 0, _, _, _, _, _, _, _, _, _, _, _, _, _ => none
  | k + 1, x2_0, x2_1, x2_2, x3_0, x3_1, x3_2, x3_3, x3_4, x3_5, x4_0, x4_1, x4_2, x22 => (bif x22 then (some ((T_asset_Image.mk 0 0 []), 2)) else (asset_Render.l1 k x2_0 x2_1 x2_2 x3_0 x3_1 x3_2 x3_3 x3_4 x3_5 x4_0 x4_1 x4_2 x3_4 x3_5 [] (wmul .i64 x3_2 x3_3) x3_5 0))
def asset_Render.l1 : Nat → Int → Int → (List Int) → Int → Int → Int → Int → Int → Int → Int → Int → (List Int) → Int → Int → (List Int) → Int → Int → Int → Option (T_asset_Image × Int)
  | 0, _, _, _, _, _, _, _, _, _, _, _, _, _, _, _, _, _, _ => none
  | k + 1, x2_0, x2_1, x2_2, x3_0, x3_1, x3_2, x3_3, x3_4, x3_5, x4_0, x4_1, x4_2, x7_0, x7_1, x7_2, x8, x107, x108 => (bif (ilt x108 x107) then (asset_Render.l2 k x2_0 x2_1 x2_2 x3_0 x3_1 x3_2 x3_3 x3_4 x3_5 x4_0 x4_1 x4_2 x7_0 x7_1 x7_2 x8 x108 x107 x108 x3_4 0) else (some ((T_asset_Image.mk x7_0 x7_1 x7_2), 0)))
def asset_Render.l2 : Nat → Int → Int → (List Int) → Int → Int → Int → Int → Int → Int → Int → Int → (List Int) → Int → Int → (List Int) → Int → Int → Int → Int → Int → Int → Option (T_asset_Image × Int)
  | 0, _, _, _, _, _, _, _, _, _, _, _, _, _, _, _, _, _, _, _, _, _ => none
  | k + 1, x2_0, x2_1, x2_2, x3_0, x3_1, x3_2, x3_3, x3_4, x3_5, x4_0, x4_1, x4_2, x7_0, x7_1, x7_2, x8, x9, x107, x108, x112, x113 => (bif (ilt x113 x112) then (bif ieq x3_5 0 then none else (asset_Render.l3 k x2_0 x2_1 x2_2 x3_0 x3_1 x3_2 x3_3 x3_4 x3_5 x4_0 x4_1 x4_2 x7_0 x7_1 x7_2 x8 x9 x113 0 (wquo .i64 (wmul .i64 x9 x3_3) x3_5) x107 x108 x112 x113)) else (asset_Render.l1 k x2_0 x2_1 x2_2 x3_0 x3_1 x3_2 x3_3 x3_4 x3_5 x4_0 x4_1 x4_2 x7_0 x7_1 x7_2 x8 x107 (wadd .i64 x108 1)))
def asset_Render.l3 : Nat → Int → Int → (List Int) → Int → Int → Int → Int → Int → Int → Int → Int → (List Int) → Int → Int → (List Int) → Int → Int → Int → Int → Int → Int → Int → Int → Int → Option (T_asset_Image × Int)
  | 0, _, _, _, _, _, _, _, _, _, _, _, _, _, _, _, _, _, _, _, _, _, _, _, _ => none
  | k + 1, x2_0, x2_1, x2_2, x3_0, x3_1, x3_2, x3_3, x3_4, x3_5, x4_0, x4_1, x4_2, x7_0, x7_1, x7_2, x8, x9, x10, x11, x12, x107, x108, x112, x113 => (bif (bif (ilt x12 x3_3) then (ilt (wmul .i64 x12 x3_5) (wmul .i64 (wadd .i64 x9 1) x3_3)) else false) then ((asset_overlap.f (wmul .i64 x12 x3_5) (wmul .i64 (wadd .i64 x12 1) x3_5) (wmul .i64 x9 x3_3) (wmul .i64 (wadd .i64 x9 1) x3_3)).bind fun y2 => (bif ieq x3_4 0 then none else (asset_Render.l4 k x2_0 x2_1 x2_2 x3_0 x3_1 x3_2 x3_3 x3_4 x3_5 x4_0 x4_1 x4_2 x7_0 x7_1 x7_2 x8 x9 x10 x11 x12 y2 (wquo .i64 (wmul .i64 x10 x3_2) x3_4) x107 x108 x112 x113))) else (bif ieq (wmul .i64 2 x8) 0 then none else ((lapp 8 x7_2 [(wquo .i64 (wadd .i64 (wmul .i64 2 x11) x8) (wmul .i64 2 x8))]).bind fun y3 => (asset_Render.l2 k x2_0 x2_1 x2_2 x3_0 x3_1 x3_2 x3_3 x3_4 x3_5 x4_0 x4_1 x4_2 x7_0 x7_1 y3 x8 x9 x107 x108 x112 (wadd .i64 x113 1)))))
def asset_Render.l4 : Nat → Int → Int → (List Int) → Int → Int → Int → Int → Int → Int → Int → Int → (List Int) → Int → Int → (List Int) → Int → Int → Int → Int → Int → Int → Int → Int → Int → Int → Int → Option (T_asset_Image × Int)
  | 0, _, _, _, _, _, _, _, _, _, _, _, _, _, _, _, _, _, _, _, _, _, _, _, _, _, _ => none
  | k + 1, x2_0, x2_1, x2_2, x3_0, x3_1, x3_2, x3_3, x3_4, x3_5, x4_0, x4_1, x4_2, x7_0, x7_1, x7_2, x8, x9, x10, x11, x12, x13, x14, x107, x108, x112, x113 => (bif (bif (ilt x14 x3_2) then (ilt (wmul .i64 x14 x3_4) (wmul .i64 (wadd .i64 x10 1) x3_2)) else false) then ((asset_overlap.f (wmul .i64 x14 x3_4) (wmul .i64 (wadd .i64 x14 1) x3_4) (wmul .i64 x10 x3_2) (wmul .i64 (wadd .i64 x10 1) x3_2)).bind fun y4 => ((lat x2_2 (wadd .i64 (wadd .i64 (wmul .i64 (wadd .i64 x3_1 x12) x2_0) x3_0) x14)).bind fun y5 => (asset_Render.l4 k x2_0 x2_1 x2_2 x3_0 x3_1 x3_2 x3_3 x3_4 x3_5 x4_0 x4_1 x4_2 x7_0 x7_1 x7_2 x8 x9 x10 (wadd .i64 x11 (wmul .i64 (wmul .i64 x13 y4) y5)) x12 x13 (wadd .i64 x14 1) x107 x108 x112 x113))) else (asset_Render.l3 k x2_0 x2_1 x2_2 x3_0 x3_1 x3_2 x3_3 x3_4 x3_5 x4_0 x4_1 x4_2 x7_0 x7_1 x7_2 x8 x9 x10 x11 (wadd .i64 x12 1) x107 x108 x112 x113))
end
def asset_Render.f (k : Nat) (a0 : T_asset_Image) (a1 : T_asset_Cut) : Option (T_asset_Image × Int) := ((asset_CheckImage.f k a0).bind fun y1 => (bif (!ieq y1 0) then (some ((T_asset_Image.mk 0 0 []), y1)) else (bif (bif (bif (bif (ilt a1.fX 0) then true else (ilt a1.fY 0)) then true else (ilt a1.fWidth 1)) then true else (ilt a1.fHeight 1)) then (asset_Render.l0 k a0.fWidth a0.fHeight a0.fLevels a1.fX a1.fY a1.fWidth a1.fHeight a1.fToWidth a1.fToHeight 0 0 [] true) else (bif (bif (bif (bif (ilt a0.fWidth a1.fWidth) then true else (ilt (wsub .i64 a0.fWidth a1.fWidth) a1.fX)) then true else (ilt a0.fHeight a1.fHeight)) then true else (ilt (wsub .i64 a0.fHeight a1.fHeight) a1.fY)) then (asset_Render.l0 k a0.fWidth a0.fHeight a0.fLevels a1.fX a1.fY a1.fWidth a1.fHeight a1.fToWidth a1.fToHeight 0 0 [] true) else (asset_Render.l0 k a0.fWidth a0.fHeight a0.fLevels a1.fX a1.fY a1.fWidth a1.fHeight a1.fToWidth a1.fToHeight 0 0 [] (bif (bif (bif (ilt a1.fToWidth 1) then true else (ilt a1.fWidth a1.fToWidth)) then true else (ilt a1.fToHeight 1)) then true else (ilt a1.fHeight a1.fToHeight)))))))
def asset_Render.O (k : Nat) : Oracle sg := fun n => lkp n [(72, asset_CheckImage.e k), (73, asset_overlap.e)]
def asset_Render.a : Ann := (.n .z (.n .z (.n (.n .z (.lab 0 .z)) (.n .z (.n .z (.n (.n .z (.lp 1 (.n .z (.n .z (.n (.n .z (.n .z (.lp 2 (.n .z (.n .z (.n (.n .z (.n .z (.n (.n .z (.lp 3 (.n .z (.n (.n .z (.n .z (.lp 4 .z))) .z)))) .z))) .z)))))) .z))))) .z))))))
def asset_Render.L (k : Nat) : Nat → St sg.U → Option (RT sg.U [(.st 0), (.int .i64)]) := labs [(0, labOf sg [(2, (.box [.d (.int .i64), .d (.int .i64), .d (.sl (.int .i64))])), (3, (.box [.d (.int .i64), .d (.int .i64), .d (.int .i64), .d (.int .i64), .d (.int .i64), .d (.int .i64)])), (4, (.box [.d (.int .i64), .d (.int .i64), .row 3 (.int .i64)])), (22, (.d .bool))] (fun h => asset_Render.l0 k h.1 h.2.1 h.2.2.1 h.2.2.2.1 h.2.2.2.2.1 h.2.2.2.2.2.1 h.2.2.2.2.2.2.1 h.2.2.2.2.2.2.2.1 h.2.2.2.2.2.2.2.2.1 h.2.2.2.2.2.2.2.2.2.1 h.2.2.2.2.2.2.2.2.2.2.1 h.2.2.2.2.2.2.2.2.2.2.2.1 h.2.2.2.2.2.2.2.2.2.2.2.2.1)), (1, labOf sg [(2, (.box [.d (.int .i64), .d (.int .i64), .d (.sl (.int .i64))])), (3, (.box [.d (.int .i64), .d (.int .i64), .d (.int .i64), .d (.int .i64), .d (.int .i64), .d (.int .i64)])), (4, (.box [.d (.int .i64), .d (.int .i64), .row 3 (.int .i64)])), (7, (.box [.d (.int .i64), .d (.int .i64), .row 3 (.int .i64)])), (8, (.d (.int .i64))), (107, (.d (.int .i64))), (108, (.d (.int .i64)))] (fun h => asset_Render.l1 k h.1 h.2.1 h.2.2.1 h.2.2.2.1 h.2.2.2.2.1 h.2.2.2.2.2.1 h.2.2.2.2.2.2.1 h.2.2.2.2.2.2.2.1 h.2.2.2.2.2.2.2.2.1 h.2.2.2.2.2.2.2.2.2.1 h.2.2.2.2.2.2.2.2.2.2.1 h.2.2.2.2.2.2.2.2.2.2.2.1 h.2.2.2.2.2.2.2.2.2.2.2.2.1 h.2.2.2.2.2.2.2.2.2.2.2.2.2.1 h.2.2.2.2.2.2.2.2.2.2.2.2.2.2.1 h.2.2.2.2.2.2.2.2.2.2.2.2.2.2.2.1 h.2.2.2.2.2.2.2.2.2.2.2.2.2.2.2.2.1 h.2.2.2.2.2.2.2.2.2.2.2.2.2.2.2.2.2.1)), (2, labOf sg [(2, (.box [.d (.int .i64), .d (.int .i64), .d (.sl (.int .i64))])), (3, (.box [.d (.int .i64), .d (.int .i64), .d (.int .i64), .d (.int .i64), .d (.int .i64), .d (.int .i64)])), (4, (.box [.d (.int .i64), .d (.int .i64), .row 3 (.int .i64)])), (7, (.box [.d (.int .i64), .d (.int .i64), .row 3 (.int .i64)])), (8, (.d (.int .i64))), (9, (.d (.int .i64))), (107, (.d (.int .i64))), (108, (.d (.int .i64))), (112, (.d (.int .i64))), (113, (.d (.int .i64)))] (fun h => asset_Render.l2 k h.1 h.2.1 h.2.2.1 h.2.2.2.1 h.2.2.2.2.1 h.2.2.2.2.2.1 h.2.2.2.2.2.2.1 h.2.2.2.2.2.2.2.1 h.2.2.2.2.2.2.2.2.1 h.2.2.2.2.2.2.2.2.2.1 h.2.2.2.2.2.2.2.2.2.2.1 h.2.2.2.2.2.2.2.2.2.2.2.1 h.2.2.2.2.2.2.2.2.2.2.2.2.1 h.2.2.2.2.2.2.2.2.2.2.2.2.2.1 h.2.2.2.2.2.2.2.2.2.2.2.2.2.2.1 h.2.2.2.2.2.2.2.2.2.2.2.2.2.2.2.1 h.2.2.2.2.2.2.2.2.2.2.2.2.2.2.2.2.1 h.2.2.2.2.2.2.2.2.2.2.2.2.2.2.2.2.2.1 h.2.2.2.2.2.2.2.2.2.2.2.2.2.2.2.2.2.2.1 h.2.2.2.2.2.2.2.2.2.2.2.2.2.2.2.2.2.2.2.1 h.2.2.2.2.2.2.2.2.2.2.2.2.2.2.2.2.2.2.2.2.1)), (3, labOf sg [(2, (.box [.d (.int .i64), .d (.int .i64), .d (.sl (.int .i64))])), (3, (.box [.d (.int .i64), .d (.int .i64), .d (.int .i64), .d (.int .i64), .d (.int .i64), .d (.int .i64)])), (4, (.box [.d (.int .i64), .d (.int .i64), .row 3 (.int .i64)])), (7, (.box [.d (.int .i64), .d (.int .i64), .row 3 (.int .i64)])), (8, (.d (.int .i64))), (9, (.d (.int .i64))), (10, (.d (.int .i64))), (11, (.d (.int .i64))), (12, (.d (.int .i64))), (107, (.d (.int .i64))), (108, (.d (.int .i64))), (112, (.d (.int .i64))), (113, (.d (.int .i64)))] (fun h => asset_Render.l3 k h.1 h.2.1 h.2.2.1 h.2.2.2.1 h.2.2.2.2.1 h.2.2.2.2.2.1 h.2.2.2.2.2.2.1 h.2.2.2.2.2.2.2.1 h.2.2.2.2.2.2.2.2.1 h.2.2.2.2.2.2.2.2.2.1 h.2.2.2.2.2.2.2.2.2.2.1 h.2.2.2.2.2.2.2.2.2.2.2.1 h.2.2.2.2.2.2.2.2.2.2.2.2.1 h.2.2.2.2.2.2.2.2.2.2.2.2.2.1 h.2.2.2.2.2.2.2.2.2.2.2.2.2.2.1 h.2.2.2.2.2.2.2.2.2.2.2.2.2.2.2.1 h.2.2.2.2.2.2.2.2.2.2.2.2.2.2.2.2.1 h.2.2.2.2.2.2.2.2.2.2.2.2.2.2.2.2.2.1 h.2.2.2.2.2.2.2.2.2.2.2.2.2.2.2.2.2.2.1 h.2.2.2.2.2.2.2.2.2.2.2.2.2.2.2.2.2.2.2.1 h.2.2.2.2.2.2.2.2.2.2.2.2.2.2.2.2.2.2.2.2.1 h.2.2.2.2.2.2.2.2.2.2.2.2.2.2.2.2.2.2.2.2.2.1 h.2.2.2.2.2.2.2.2.2.2.2.2.2.2.2.2.2.2.2.2.2.2.1 h.2.2.2.2.2.2.2.2.2.2.2.2.2.2.2.2.2.2.2.2.2.2.2.1)), (4, labOf sg [(2, (.box [.d (.int .i64), .d (.int .i64), .d (.sl (.int .i64))])), (3, (.box [.d (.int .i64), .d (.int .i64), .d (.int .i64), .d (.int .i64), .d (.int .i64), .d (.int .i64)])), (4, (.box [.d (.int .i64), .d (.int .i64), .row 3 (.int .i64)])), (7, (.box [.d (.int .i64), .d (.int .i64), .row 3 (.int .i64)])), (8, (.d (.int .i64))), (9, (.d (.int .i64))), (10, (.d (.int .i64))), (11, (.d (.int .i64))), (12, (.d (.int .i64))), (13, (.d (.int .i64))), (14, (.d (.int .i64))), (107, (.d (.int .i64))), (108, (.d (.int .i64))), (112, (.d (.int .i64))), (113, (.d (.int .i64)))] (fun h => asset_Render.l4 k h.1 h.2.1 h.2.2.1 h.2.2.2.1 h.2.2.2.2.1 h.2.2.2.2.2.1 h.2.2.2.2.2.2.1 h.2.2.2.2.2.2.2.1 h.2.2.2.2.2.2.2.2.1 h.2.2.2.2.2.2.2.2.2.1 h.2.2.2.2.2.2.2.2.2.2.1 h.2.2.2.2.2.2.2.2.2.2.2.1 h.2.2.2.2.2.2.2.2.2.2.2.2.1 h.2.2.2.2.2.2.2.2.2.2.2.2.2.1 h.2.2.2.2.2.2.2.2.2.2.2.2.2.2.1 h.2.2.2.2.2.2.2.2.2.2.2.2.2.2.2.1 h.2.2.2.2.2.2.2.2.2.2.2.2.2.2.2.2.1 h.2.2.2.2.2.2.2.2.2.2.2.2.2.2.2.2.2.1 h.2.2.2.2.2.2.2.2.2.2.2.2.2.2.2.2.2.2.1 h.2.2.2.2.2.2.2.2.2.2.2.2.2.2.2.2.2.2.2.1 h.2.2.2.2.2.2.2.2.2.2.2.2.2.2.2.2.2.2.2.2.1 h.2.2.2.2.2.2.2.2.2.2.2.2.2.2.2.2.2.2.2.2.2.1 h.2.2.2.2.2.2.2.2.2.2.2.2.2.2.2.2.2.2.2.2.2.2.1 h.2.2.2.2.2.2.2.2.2.2.2.2.2.2.2.2.2.2.2.2.2.2.2.1 h.2.2.2.2.2.2.2.2.2.2.2.2.2.2.2.2.2.2.2.2.2.2.2.2.1 h.2.2.2.2.2.2.2.2.2.2.2.2.2.2.2.2.2.2.2.2.2.2.2.2.2.1))]
theorem asset_Render.l0_eq (k : Nat) (x2_0 : Int) (x2_1 : Int) (x2_2 : (List Int)) (x3_0 : Int) (x3_1 : Int) (x3_2 : Int) (x3_3 : Int) (x3_4 : Int) (x3_5 : Int) (x4_0 : Int) (x4_1 : Int) (x4_2 : (List Int)) (x22 : Bool) : asset_Render.l0 (k + 1) x2_0 x2_1 x2_2 x3_0 x3_1 x3_2 x3_3 x3_4 x3_5 x4_0 x4_1 x4_2 x22 = runFrom (C := ctx) (asset_Render.O k) 241 (asset_Render.L k) (Try.f41.body.getD .skip) asset_Render.a 0 (endK ctx [(.st 0), (.int .i64)] [(.cell 4 67), (.tmp 5)]) (encD [(2, (.box [.d (.int .i64), .d (.int .i64), .d (.sl (.int .i64))])), (3, (.box [.d (.int .i64), .d (.int .i64), .d (.int .i64), .d (.int .i64), .d (.int .i64), .d (.int .i64)])), (4, (.box [.d (.int .i64), .d (.int .i64), .row 3 (.int .i64)])), (22, (.d .bool))] (x2_0, x2_1, x2_2, x3_0, x3_1, x3_2, x3_3, x3_4, x3_5, x4_0, x4_1, x4_2, x22, ()) (empty sg.U)) := by
  rw [asset_Render.l0]
  kernel_rfl
theorem asset_Render.l1_eq (k : Nat) (x2_0 : Int) (x2_1 : Int) (x2_2 : (List Int)) (x3_0 : Int) (x3_1 : Int) (x3_2 : Int) (x3_3 : Int) (x3_4 : Int) (x3_5 : Int) (x4_0 : Int) (x4_1 : Int) (x4_2 : (List Int)) (x7_0 : Int) (x7_1 : Int) (x7_2 : (List Int)) (x8 : Int) (x107 : Int) (x108 : Int) : asset_Render.l1 (k + 1) x2_0 x2_1 x2_2 x3_0 x3_1 x3_2 x3_3 x3_4 x3_5 x4_0 x4_1 x4_2 x7_0 x7_1 x7_2 x8 x107 x108 = runFrom (C := ctx) (asset_Render.O k) 241 (asset_Render.L k) (Try.f41.body.getD .skip) asset_Render.a 1 (endK ctx [(.st 0), (.int .i64)] [(.cell 4 67), (.tmp 5)]) (encD [(2, (.box [.d (.int .i64), .d (.int .i64), .d (.sl (.int .i64))])), (3, (.box [.d (.int .i64), .d (.int .i64), .d (.int .i64), .d (.int .i64), .d (.int .i64), .d (.int .i64)])), (4, (.box [.d (.int .i64), .d (.int .i64), .row 3 (.int .i64)])), (7, (.box [.d (.int .i64), .d (.int .i64), .row 3 (.int .i64)])), (8, (.d (.int .i64))), (107, (.d (.int .i64))), (108, (.d (.int .i64)))] (x2_0, x2_1, x2_2, x3_0, x3_1, x3_2, x3_3, x3_4, x3_5, x4_0, x4_1, x4_2, x7_0, x7_1, x7_2, x8, x107, x108, ()) (empty sg.U)) := by
  rw [asset_Render.l1]
  kernel_rfl
theorem asset_Render.l2_eq (k : Nat) (x2_0 : Int) (x2_1 : Int) (x2_2 : (List Int)) (x3_0 : Int) (x3_1 : Int) (x3_2 : Int) (x3_3 : Int) (x3_4 : Int) (x3_5 : Int) (x4_0 : Int) (x4_1 : Int) (x4_2 : (List Int)) (x7_0 : Int) (x7_1 : Int) (x7_2 : (List Int)) (x8 : Int) (x9 : Int) (x107 : Int) (x108 : Int) (x112 : Int) (x113 : Int) : asset_Render.l2 (k + 1) x2_0 x2_1 x2_2 x3_0 x3_1 x3_2 x3_3 x3_4 x3_5 x4_0 x4_1 x4_2 x7_0 x7_1 x7_2 x8 x9 x107 x108 x112 x113 = runFrom (C := ctx) (asset_Render.O k) 241 (asset_Render.L k) (Try.f41.body.getD .skip) asset_Render.a 2 (endK ctx [(.st 0), (.int .i64)] [(.cell 4 67), (.tmp 5)]) (encD [(2, (.box [.d (.int .i64), .d (.int .i64), .d (.sl (.int .i64))])), (3, (.box [.d (.int .i64), .d (.int .i64), .d (.int .i64), .d (.int .i64), .d (.int .i64), .d (.int .i64)])), (4, (.box [.d (.int .i64), .d (.int .i64), .row 3 (.int .i64)])), (7, (.box [.d (.int .i64), .d (.int .i64), .row 3 (.int .i64)])), (8, (.d (.int .i64))), (9, (.d (.int .i64))), (107, (.d (.int .i64))), (108, (.d (.int .i64))), (112, (.d (.int .i64))), (113, (.d (.int .i64)))] (x2_0, x2_1, x2_2, x3_0, x3_1, x3_2, x3_3, x3_4, x3_5, x4_0, x4_1, x4_2, x7_0, x7_1, x7_2, x8, x9, x107, x108, x112, x113, ()) (empty sg.U)) := by
  rw [asset_Render.l2]
  kernel_rfl
theorem asset_Render.l3_eq (k : Nat) (x2_0 : Int) (x2_1 : Int) (x2_2 : (List Int)) (x3_0 : Int) (x3_1 : Int) (x3_2 : Int) (x3_3 : Int) (x3_4 : Int) (x3_5 : Int) (x4_0 : Int) (x4_1 : Int) (x4_2 : (List Int)) (x7_0 : Int) (x7_1 : Int) (x7_2 : (List Int)) (x8 : Int) (x9 : Int) (x10 : Int) (x11 : Int) (x12 : Int) (x107 : Int) (x108 : Int) (x112 : Int) (x113 : Int) : asset_Render.l3 (k + 1) x2_0 x2_1 x2_2 x3_0 x3_1 x3_2 x3_3 x3_4 x3_5 x4_0 x4_1 x4_2 x7_0 x7_1 x7_2 x8 x9 x10 x11 x12 x107 x108 x112 x113 = runFrom (C := ctx) (asset_Render.O k) 241 (asset_Render.L k) (Try.f41.body.getD .skip) asset_Render.a 3 (endK ctx [(.st 0), (.int .i64)] [(.cell 4 67), (.tmp 5)]) (encD [(2, (.box [.d (.int .i64), .d (.int .i64), .d (.sl (.int .i64))])), (3, (.box [.d (.int .i64), .d (.int .i64), .d (.int .i64), .d (.int .i64), .d (.int .i64), .d (.int .i64)])), (4, (.box [.d (.int .i64), .d (.int .i64), .row 3 (.int .i64)])), (7, (.box [.d (.int .i64), .d (.int .i64), .row 3 (.int .i64)])), (8, (.d (.int .i64))), (9, (.d (.int .i64))), (10, (.d (.int .i64))), (11, (.d (.int .i64))), (12, (.d (.int .i64))), (107, (.d (.int .i64))), (108, (.d (.int .i64))), (112, (.d (.int .i64))), (113, (.d (.int .i64)))] (x2_0, x2_1, x2_2, x3_0, x3_1, x3_2, x3_3, x3_4, x3_5, x4_0, x4_1, x4_2, x7_0, x7_1, x7_2, x8, x9, x10, x11, x12, x107, x108, x112, x113, ()) (empty sg.U)) := by
  rw [asset_Render.l3]
  kernel_rfl
theorem asset_Render.l4_eq (k : Nat) (x2_0 : Int) (x2_1 : Int) (x2_2 : (List Int)) (x3_0 : Int) (x3_1 : Int) (x3_2 : Int) (x3_3 : Int) (x3_4 : Int) (x3_5 : Int) (x4_0 : Int) (x4_1 : Int) (x4_2 : (List Int)) (x7_0 : Int) (x7_1 : Int) (x7_2 : (List Int)) (x8 : Int) (x9 : Int) (x10 : Int) (x11 : Int) (x12 : Int) (x13 : Int) (x14 : Int) (x107 : Int) (x108 : Int) (x112 : Int) (x113 : Int) : asset_Render.l4 (k + 1) x2_0 x2_1 x2_2 x3_0 x3_1 x3_2 x3_3 x3_4 x3_5 x4_0 x4_1 x4_2 x7_0 x7_1 x7_2 x8 x9 x10 x11 x12 x13 x14 x107 x108 x112 x113 = runFrom (C := ctx) (asset_Render.O k) 241 (asset_Render.L k) (Try.f41.body.getD .skip) asset_Render.a 4 (endK ctx [(.st 0), (.int .i64)] [(.cell 4 67), (.tmp 5)]) (encD [(2, (.box [.d (.int .i64), .d (.int .i64), .d (.sl (.int .i64))])), (3, (.box [.d (.int .i64), .d (.int .i64), .d (.int .i64), .d (.int .i64), .d (.int .i64), .d (.int .i64)])), (4, (.box [.d (.int .i64), .d (.int .i64), .row 3 (.int .i64)])), (7, (.box [.d (.int .i64), .d (.int .i64), .row 3 (.int .i64)])), (8, (.d (.int .i64))), (9, (.d (.int .i64))), (10, (.d (.int .i64))), (11, (.d (.int .i64))), (12, (.d (.int .i64))), (13, (.d (.int .i64))), (14, (.d (.int .i64))), (107, (.d (.int .i64))), (108, (.d (.int .i64))), (112, (.d (.int .i64))), (113, (.d (.int .i64)))] (x2_0, x2_1, x2_2, x3_0, x3_1, x3_2, x3_3, x3_4, x3_5, x4_0, x4_1, x4_2, x7_0, x7_1, x7_2, x8, x9, x10, x11, x12, x13, x14, x107, x108, x112, x113, ()) (empty sg.U)) := by
  rw [asset_Render.l4]
  kernel_rfl
theorem asset_Render.f_eq (k : Nat) (a0 : T_asset_Image) (a1 : T_asset_Cut) : asset_Render.f k a0 a1 = codeK (C := ctx) (asset_Render.O k) 241 (asset_Render.L k) (Try.f41.body.getD .skip) asset_Render.a (endK ctx [(.st 0), (.int .i64)] [(.cell 4 67), (.tmp 5)]) (slotsOf sg.U 0 [(.d (.st 0)), (.d (.st 1))] (a0, a1, ()) (empty sg.U)) := by
  unfold asset_Render.f
  kernel_rfl
def asset_Render.e (k : Nat) : Entry sg := entryOf sg [(.d (.st 0)), (.d (.st 1))] [(.st 0), (.int .i64)] (fun h => asset_Render.f k h.1 h.2.1)
def asset_Render.T : List (Lb sg (RT sg.U [(.st 0), (.int .i64)])) := [⟨0, [(2, (.box [.d (.int .i64), .d (.int .i64), .d (.sl (.int .i64))])), (3, (.box [.d (.int .i64), .d (.int .i64), .d (.int .i64), .d (.int .i64), .d (.int .i64), .d (.int .i64)])), (4, (.box [.d (.int .i64), .d (.int .i64), .row 3 (.int .i64)])), (22, (.d .bool))], fun k h => asset_Render.l0 k h.1 h.2.1 h.2.2.1 h.2.2.2.1 h.2.2.2.2.1 h.2.2.2.2.2.1 h.2.2.2.2.2.2.1 h.2.2.2.2.2.2.2.1 h.2.2.2.2.2.2.2.2.1 h.2.2.2.2.2.2.2.2.2.1 h.2.2.2.2.2.2.2.2.2.2.1 h.2.2.2.2.2.2.2.2.2.2.2.1 h.2.2.2.2.2.2.2.2.2.2.2.2.1⟩, ⟨1, [(2, (.box [.d (.int .i64), .d (.int .i64), .d (.sl (.int .i64))])), (3, (.box [.d (.int .i64), .d (.int .i64), .d (.int .i64), .d (.int .i64), .d (.int .i64), .d (.int .i64)])), (4, (.box [.d (.int .i64), .d (.int .i64), .row 3 (.int .i64)])), (7, (.box [.d (.int .i64), .d (.int .i64), .row 3 (.int .i64)])), (8, (.d (.int .i64))), (107, (.d (.int .i64))), (108, (.d (.int .i64)))], fun k h => asset_Render.l1 k h.1 h.2.1 h.2.2.1 h.2.2.2.1 h.2.2.2.2.1 h.2.2.2.2.2.1 h.2.2.2.2.2.2.1 h.2.2.2.2.2.2.2.1 h.2.2.2.2.2.2.2.2.1 h.2.2.2.2.2.2.2.2.2.1 h.2.2.2.2.2.2.2.2.2.2.1 h.2.2.2.2.2.2.2.2.2.2.2.1 h.2.2.2.2.2.2.2.2.2.2.2.2.1 h.2.2.2.2.2.2.2.2.2.2.2.2.2.1 h.2.2.2.2.2.2.2.2.2.2.2.2.2.2.1 h.2.2.2.2.2.2.2.2.2.2.2.2.2.2.2.1 h.2.2.2.2.2.2.2.2.2.2.2.2.2.2.2.2.1 h.2.2.2.2.2.2.2.2.2.2.2.2.2.2.2.2.2.1⟩, ⟨2, [(2, (.box [.d (.int .i64), .d (.int .i64), .d (.sl (.int .i64))])), (3, (.box [.d (.int .i64), .d (.int .i64), .d (.int .i64), .d (.int .i64), .d (.int .i64), .d (.int .i64)])), (4, (.box [.d (.int .i64), .d (.int .i64), .row 3 (.int .i64)])), (7, (.box [.d (.int .i64), .d (.int .i64), .row 3 (.int .i64)])), (8, (.d (.int .i64))), (9, (.d (.int .i64))), (107, (.d (.int .i64))), (108, (.d (.int .i64))), (112, (.d (.int .i64))), (113, (.d (.int .i64)))], fun k h => asset_Render.l2 k h.1 h.2.1 h.2.2.1 h.2.2.2.1 h.2.2.2.2.1 h.2.2.2.2.2.1 h.2.2.2.2.2.2.1 h.2.2.2.2.2.2.2.1 h.2.2.2.2.2.2.2.2.1 h.2.2.2.2.2.2.2.2.2.1 h.2.2.2.2.2.2.2.2.2.2.1 h.2.2.2.2.2.2.2.2.2.2.2.1 h.2.2.2.2.2.2.2.2.2.2.2.2.1 h.2.2.2.2.2.2.2.2.2.2.2.2.2.1 h.2.2.2.2.2.2.2.2.2.2.2.2.2.2.1 h.2.2.2.2.2.2.2.2.2.2.2.2.2.2.2.1 h.2.2.2.2.2.2.2.2.2.2.2.2.2.2.2.2.1 h.2.2.2.2.2.2.2.2.2.2.2.2.2.2.2.2.2.1 h.2.2.2.2.2.2.2.2.2.2.2.2.2.2.2.2.2.2.1 h.2.2.2.2.2.2.2.2.2.2.2.2.2.2.2.2.2.2.2.1 h.2.2.2.2.2.2.2.2.2.2.2.2.2.2.2.2.2.2.2.2.1⟩, ⟨3, [(2, (.box [.d (.int .i64), .d (.int .i64), .d (.sl (.int .i64))])), (3, (.box [.d (.int .i64), .d (.int .i64), .d (.int .i64), .d (.int .i64), .d (.int .i64), .d (.int .i64)])), (4, (.box [.d (.int .i64), .d (.int .i64), .row 3 (.int .i64)])), (7, (.box [.d (.int .i64), .d (.int .i64), .row 3 (.int .i64)])), (8, (.d (.int .i64))), (9, (.d (.int .i64))), (10, (.d (.int .i64))), (11, (.d (.int .i64))), (12, (.d (.int .i64))), (107, (.d (.int .i64))), (108, (.d (.int .i64))), (112, (.d (.int .i64))), (113, (.d (.int .i64)))], fun k h => asset_Render.l3 k h.1 h.2.1 h.2.2.1 h.2.2.2.1 h.2.2.2.2.1 h.2.2.2.2.2.1 h.2.2.2.2.2.2.1 h.2.2.2.2.2.2.2.1 h.2.2.2.2.2.2.2.2.1 h.2.2.2.2.2.2.2.2.2.1 h.2.2.2.2.2.2.2.2.2.2.1 h.2.2.2.2.2.2.2.2.2.2.2.1 h.2.2.2.2.2.2.2.2.2.2.2.2.1 h.2.2.2.2.2.2.2.2.2.2.2.2.2.1 h.2.2.2.2.2.2.2.2.2.2.2.2.2.2.1 h.2.2.2.2.2.2.2.2.2.2.2.2.2.2.2.1 h.2.2.2.2.2.2.2.2.2.2.2.2.2.2.2.2.1 h.2.2.2.2.2.2.2.2.2.2.2.2.2.2.2.2.2.1 h.2.2.2.2.2.2.2.2.2.2.2.2.2.2.2.2.2.2.1 h.2.2.2.2.2.2.2.2.2.2.2.2.2.2.2.2.2.2.2.1 h.2.2.2.2.2.2.2.2.2.2.2.2.2.2.2.2.2.2.2.2.1 h.2.2.2.2.2.2.2.2.2.2.2.2.2.2.2.2.2.2.2.2.2.1 h.2.2.2.2.2.2.2.2.2.2.2.2.2.2.2.2.2.2.2.2.2.2.1 h.2.2.2.2.2.2.2.2.2.2.2.2.2.2.2.2.2.2.2.2.2.2.2.1⟩, ⟨4, [(2, (.box [.d (.int .i64), .d (.int .i64), .d (.sl (.int .i64))])), (3, (.box [.d (.int .i64), .d (.int .i64), .d (.int .i64), .d (.int .i64), .d (.int .i64), .d (.int .i64)])), (4, (.box [.d (.int .i64), .d (.int .i64), .row 3 (.int .i64)])), (7, (.box [.d (.int .i64), .d (.int .i64), .row 3 (.int .i64)])), (8, (.d (.int .i64))), (9, (.d (.int .i64))), (10, (.d (.int .i64))), (11, (.d (.int .i64))), (12, (.d (.int .i64))), (13, (.d (.int .i64))), (14, (.d (.int .i64))), (107, (.d (.int .i64))), (108, (.d (.int .i64))), (112, (.d (.int .i64))), (113, (.d (.int .i64)))], fun k h => asset_Render.l4 k h.1 h.2.1 h.2.2.1 h.2.2.2.1 h.2.2.2.2.1 h.2.2.2.2.2.1 h.2.2.2.2.2.2.1 h.2.2.2.2.2.2.2.1 h.2.2.2.2.2.2.2.2.1 h.2.2.2.2.2.2.2.2.2.1 h.2.2.2.2.2.2.2.2.2.2.1 h.2.2.2.2.2.2.2.2.2.2.2.1 h.2.2.2.2.2.2.2.2.2.2.2.2.1 h.2.2.2.2.2.2.2.2.2.2.2.2.2.1 h.2.2.2.2.2.2.2.2.2.2.2.2.2.2.1 h.2.2.2.2.2.2.2.2.2.2.2.2.2.2.2.1 h.2.2.2.2.2.2.2.2.2.2.2.2.2.2.2.2.1 h.2.2.2.2.2.2.2.2.2.2.2.2.2.2.2.2.2.1 h.2.2.2.2.2.2.2.2.2.2.2.2.2.2.2.2.2.2.1 h.2.2.2.2.2.2.2.2.2.2.2.2.2.2.2.2.2.2.2.1 h.2.2.2.2.2.2.2.2.2.2.2.2.2.2.2.2.2.2.2.2.1 h.2.2.2.2.2.2.2.2.2.2.2.2.2.2.2.2.2.2.2.2.2.1 h.2.2.2.2.2.2.2.2.2.2.2.2.2.2.2.2.2.2.2.2.2.2.1 h.2.2.2.2.2.2.2.2.2.2.2.2.2.2.2.2.2.2.2.2.2.2.2.1 h.2.2.2.2.2.2.2.2.2.2.2.2.2.2.2.2.2.2.2.2.2.2.2.2.1 h.2.2.2.2.2.2.2.2.2.2.2.2.2.2.2.2.2.2.2.2.2.2.2.2.2.1⟩]
theorem asset_Render.ok (k : Nat) : (asset_Render.e k).Sound Try.prog ctx 41 :=
  entry_ok base_ok mo (fn := Try.f41) (b := (Try.f41.body.getD .skip)) (pm := [(.d (.st 0)), (.d (.st 1))]) (rs := [(.st 0), (.int .i64)]) (an := asset_Render.a) (N := 241) (vars := [(.cell 4 67), (.tmp 5)]) Try.func41 (by kernel_rfl) (by kernel_rfl) (by kernel_rfl) (by kernel_rfl) (by kernel_rfl) (by kernel_rfl) (O := asset_Render.O)
    (fun k => by unfold asset_Render.O; exact oracle_of (P := Try.prog) (C := ctx) ⟨asset_CheckImage.ok k, ⟨asset_overlap.ok, trivial⟩⟩) asset_Render.T ⟨⟨by kernel_rfl, fun _ => by first | rfl | rw [asset_Render.l0], fun k h => asset_Render.l0_eq k h.1 h.2.1 h.2.2.1 h.2.2.2.1 h.2.2.2.2.1 h.2.2.2.2.2.1 h.2.2.2.2.2.2.1 h.2.2.2.2.2.2.2.1 h.2.2.2.2.2.2.2.2.1 h.2.2.2.2.2.2.2.2.2.1 h.2.2.2.2.2.2.2.2.2.2.1 h.2.2.2.2.2.2.2.2.2.2.2.1 h.2.2.2.2.2.2.2.2.2.2.2.2.1⟩, ⟨⟨by kernel_rfl, fun _ => by first | rfl | rw [asset_Render.l1], fun k h => asset_Render.l1_eq k h.1 h.2.1 h.2.2.1 h.2.2.2.1 h.2.2.2.2.1 h.2.2.2.2.2.1 h.2.2.2.2.2.2.1 h.2.2.2.2.2.2.2.1 h.2.2.2.2.2.2.2.2.1 h.2.2.2.2.2.2.2.2.2.1 h.2.2.2.2.2.2.2.2.2.2.1 h.2.2.2.2.2.2.2.2.2.2.2.1 h.2.2.2.2.2.2.2.2.2.2.2.2.1 h.2.2.2.2.2.2.2.2.2.2.2.2.2.1 h.2.2.2.2.2.2.2.2.2.2.2.2.2.2.1 h.2.2.2.2.2.2.2.2.2.2.2.2.2.2.2.1 h.2.2.2.2.2.2.2.2.2.2.2.2.2.2.2.2.1 h.2.2.2.2.2.2.2.2.2.2.2.2.2.2.2.2.2.1⟩, ⟨⟨by kernel_rfl, fun _ => by first | rfl | rw [asset_Render.l2], fun k h => asset_Render.l2_eq k h.1 h.2.1 h.2.2.1 h.2.2.2.1 h.2.2.2.2.1 h.2.2.2.2.2.1 h.2.2.2.2.2.2.1 h.2.2.2.2.2.2.2.1 h.2.2.2.2.2.2.2.2.1 h.2.2.2.2.2.2.2.2.2.1 h.2.2.2.2.2.2.2.2.2.2.1 h.2.2.2.2.2.2.2.2.2.2.2.1 h.2.2.2.2.2.2.2.2.2.2.2.2.1 h.2.2.2.2.2.2.2.2.2.2.2.2.2.1 h.2.2.2.2.2.2.2.2.2.2.2.2.2.2.1 h.2.2.2.2.2.2.2.2.2.2.2.2.2.2.2.1 h.2.2.2.2.2.2.2.2.2.2.2.2.2.2.2.2.1 h.2.2.2.2.2.2.2.2.2.2.2.2.2.2.2.2.2.1 h.2.2.2.2.2.2.2.2.2.2.2.2.2.2.2.2.2.2.1 h.2.2.2.2.2.2.2.2.2.2.2.2.2.2.2.2.2.2.2.1 h.2.2.2.2.2.2.2.2.2.2.2.2.2.2.2.2.2.2.2.2.1⟩, ⟨⟨by kernel_rfl, fun _ => by first | rfl | rw [asset_Render.l3], fun k h => asset_Render.l3_eq k h.1 h.2.1 h.2.2.1 h.2.2.2.1 h.2.2.2.2.1 h.2.2.2.2.2.1 h.2.2.2.2.2.2.1 h.2.2.2.2.2.2.2.1 h.2.2.2.2.2.2.2.2.1 h.2.2.2.2.2.2.2.2.2.1 h.2.2.2.2.2.2.2.2.2.2.1 h.2.2.2.2.2.2.2.2.2.2.2.1 h.2.2.2.2.2.2.2.2.2.2.2.2.1 h.2.2.2.2.2.2.2.2.2.2.2.2.2.1 h.2.2.2.2.2.2.2.2.2.2.2.2.2.2.1 h.2.2.2.2.2.2.2.2.2.2.2.2.2.2.2.1 h.2.2.2.2.2.2.2.2.2.2.2.2.2.2.2.2.1 h.2.2.2.2.2.2.2.2.2.2.2.2.2.2.2.2.2.1 h.2.2.2.2.2.2.2.2.2.2.2.2.2.2.2.2.2.2.1 h.2.2.2.2.2.2.2.2.2.2.2.2.2.2.2.2.2.2.2.1 h.2.2.2.2.2.2.2.2.2.2.2.2.2.2.2.2.2.2.2.2.1 h.2.2.2.2.2.2.2.2.2.2.2.2.2.2.2.2.2.2.2.2.2.1 h.2.2.2.2.2.2.2.2.2.2.2.2.2.2.2.2.2.2.2.2.2.2.1 h.2.2.2.2.2.2.2.2.2.2.2.2.2.2.2.2.2.2.2.2.2.2.2.1⟩, ⟨⟨by kernel_rfl, fun _ => by first | rfl | rw [asset_Render.l4], fun k h => asset_Render.l4_eq k h.1 h.2.1 h.2.2.1 h.2.2.2.1 h.2.2.2.2.1 h.2.2.2.2.2.1 h.2.2.2.2.2.2.1 h.2.2.2.2.2.2.2.1 h.2.2.2.2.2.2.2.2.1 h.2.2.2.2.2.2.2.2.2.1 h.2.2.2.2.2.2.2.2.2.2.1 h.2.2.2.2.2.2.2.2.2.2.2.1 h.2.2.2.2.2.2.2.2.2.2.2.2.1 h.2.2.2.2.2.2.2.2.2.2.2.2.2.1 h.2.2.2.2.2.2.2.2.2.2.2.2.2.2.1 h.2.2.2.2.2.2.2.2.2.2.2.2.2.2.2.1 h.2.2.2.2.2.2.2.2.2.2.2.2.2.2.2.2.1 h.2.2.2.2.2.2.2.2.2.2.2.2.2.2.2.2.2.1 h.2.2.2.2.2.2.2.2.2.2.2.2.2.2.2.2.2.2.1 h.2.2.2.2.2.2.2.2.2.2.2.2.2.2.2.2.2.2.2.1 h.2.2.2.2.2.2.2.2.2.2.2.2.2.2.2.2.2.2.2.2.1 h.2.2.2.2.2.2.2.2.2.2.2.2.2.2.2.2.2.2.2.2.2.1 h.2.2.2.2.2.2.2.2.2.2.2.2.2.2.2.2.2.2.2.2.2.2.1 h.2.2.2.2.2.2.2.2.2.2.2.2.2.2.2.2.2.2.2.2.2.2.2.1 h.2.2.2.2.2.2.2.2.2.2.2.2.2.2.2.2.2.2.2.2.2.2.2.2.1 h.2.2.2.2.2.2.2.2.2.2.2.2.2.2.2.2.2.2.2.2.2.2.2.2.2.1⟩, trivial⟩⟩⟩⟩⟩ k (fun h => asset_Render.f_eq k h.1 h.2.1)
def mastref2_isSide.f (a0 : Int) : Option (Bool) := (some (bif (ile 1 a0) then (ile a0 64) else false))
def mastref2_isSide.O : Oracle sg := fun n => lkp n []
def mastref2_isSide.a : Ann := .z
def mastref2_isSide.L : Nat → St sg.U → Option (RT sg.U [.bool]) := labs []
theorem mastref2_isSide.f_eq (a0 : Int) : mastref2_isSide.f a0 = codeK (C := ctx) (mastref2_isSide.O) 9 (mastref2_isSide.L) (Try.f57.body.getD .skip) mastref2_isSide.a (endK ctx [.bool] [(.tmp 2)]) (slotsOf sg.U 0 [(.d (.int .i64))] (a0, ()) (empty sg.U)) := by
  unfold mastref2_isSide.f
  kernel_rfl
def mastref2_isSide.e : Entry sg := entryOf sg [(.d (.int .i64))] [.bool] (fun h => mastref2_isSide.f h.1)
def mastref2_isSide.T : List (Lb sg (RT sg.U [.bool])) := []
theorem mastref2_isSide.ok : (mastref2_isSide.e).Sound Try.prog ctx 57 :=
  entry_ok base_ok mo (fn := Try.f57) (b := (Try.f57.body.getD .skip)) (pm := [(.d (.int .i64))]) (rs := [.bool]) (an := mastref2_isSide.a) (N := 9) (vars := [(.tmp 2)]) Try.func57 (by kernel_rfl) (by kernel_rfl) (by kernel_rfl) (by kernel_rfl) (by kernel_rfl) (by kernel_rfl) (O := fun _ => mastref2_isSide.O)
    (fun _ => by unfold mastref2_isSide.O; exact oracle_of (P := Try.prog) (C := ctx) trivial) mastref2_isSide.T trivial 0 (fun h => mastref2_isSide.f_eq h.1)
def mastref2_ImageFault.l0 : Nat → (List Int) → Int → Int → Option (Int)
  | 0, _, _, _ => none
  | k + 1, x25, x26, x27 => (bif (ilt x27 x26) then ((lat x25 x27).bind fun y3 => (bif (bif (ilt y3 0) then true else (ilt 15 y3)) then (some 2) else (mastref2_ImageFault.l0 k x25 x26 (wadd .i64 x27 1)))) else (some 0))
def mastref2_ImageFault.f (k : Nat) (a0 : T_asset_Image) : Option (Int) := ((mastref2_isSide.f a0.fWidth).bind fun y1 => (bif (!y1) then (some 2) else ((mastref2_isSide.f a0.fHeight).bind fun y2 => (bif (!y2) then (some 2) else (bif (!ieq (llen a0.fLevels) (wmul .i64 a0.fWidth a0.fHeight)) then (some 1) else (mastref2_ImageFault.l0 k a0.fLevels (llen a0.fLevels) 0))))))
def mastref2_ImageFault.O (k : Nat) : Oracle sg := fun n => lkp n [(57, mastref2_isSide.e)]
def mastref2_ImageFault.a : Ann := (.n .z (.n .z (.n .z (.n (.n .z (.lp 0 .z)) .z))))
def mastref2_ImageFault.L (k : Nat) : Nat → St sg.U → Option (RT sg.U [(.int .i64)]) := labs [(0, labOf sg [(25, (.d (.sl (.int .i64)))), (26, (.d (.int .i64))), (27, (.d (.int .i64)))] (fun h => mastref2_ImageFault.l0 k h.1 h.2.1 h.2.2.1))]
theorem mastref2_ImageFault.l0_eq (k : Nat) (x25 : (List Int)) (x26 : Int) (x27 : Int) : mastref2_ImageFault.l0 (k + 1) x25 x26 x27 = runFrom (C := ctx) (mastref2_ImageFault.O k) 38 (mastref2_ImageFault.L k) (Try.f74.body.getD .skip) mastref2_ImageFault.a 0 (endK ctx [(.int .i64)] [(.tmp 2)]) (encD [(25, (.d (.sl (.int .i64)))), (26, (.d (.int .i64))), (27, (.d (.int .i64)))] (x25, x26, x27, ()) (empty sg.U)) := by
  rw [mastref2_ImageFault.l0]
  kernel_rfl
theorem mastref2_ImageFault.f_eq (k : Nat) (a0 : T_asset_Image) : mastref2_ImageFault.f k a0 = codeK (C := ctx) (mastref2_ImageFault.O k) 38 (mastref2_ImageFault.L k) (Try.f74.body.getD .skip) mastref2_ImageFault.a (endK ctx [(.int .i64)] [(.tmp 2)]) (slotsOf sg.U 0 [(.d (.st 0))] (a0, ()) (empty sg.U)) := by
  unfold mastref2_ImageFault.f
  kernel_rfl
def mastref2_ImageFault.e (k : Nat) : Entry sg := entryOf sg [(.d (.st 0))] [(.int .i64)] (fun h => mastref2_ImageFault.f k h.1)
def mastref2_ImageFault.T : List (Lb sg (RT sg.U [(.int .i64)])) := [⟨0, [(25, (.d (.sl (.int .i64)))), (26, (.d (.int .i64))), (27, (.d (.int .i64)))], fun k h => mastref2_ImageFault.l0 k h.1 h.2.1 h.2.2.1⟩]
theorem mastref2_ImageFault.ok (k : Nat) : (mastref2_ImageFault.e k).Sound Try.prog ctx 74 :=
  entry_ok base_ok mo (fn := Try.f74) (b := (Try.f74.body.getD .skip)) (pm := [(.d (.st 0))]) (rs := [(.int .i64)]) (an := mastref2_ImageFault.a) (N := 38) (vars := [(.tmp 2)]) Try.func74 (by kernel_rfl) (by kernel_rfl) (by kernel_rfl) (by kernel_rfl) (by kernel_rfl) (by kernel_rfl) (O := mastref2_ImageFault.O)
    (fun k => by unfold mastref2_ImageFault.O; exact oracle_of (P := Try.prog) (C := ctx) ⟨mastref2_isSide.ok, trivial⟩) mastref2_ImageFault.T ⟨⟨by kernel_rfl, fun _ => by first | rfl | rw [mastref2_ImageFault.l0], fun k h => mastref2_ImageFault.l0_eq k h.1 h.2.1 h.2.2.1⟩, trivial⟩ k (fun h => mastref2_ImageFault.f_eq k h.1)
def mastref2_rounded.f (a0 : Int) (a1 : Int) : Option (Int) := (bif ieq (wmul .i64 2 a1) 0 then none else (some (wquo .i64 (wadd .i64 (wmul .i64 2 a0) a1) (wmul .i64 2 a1))))
def mastref2_rounded.O : Oracle sg := fun n => lkp n []
def mastref2_rounded.a : Ann := .z
def mastref2_rounded.L : Nat → St sg.U → Option (RT sg.U [(.int .i64)]) := labs []
theorem mastref2_rounded.f_eq (a0 : Int) (a1 : Int) : mastref2_rounded.f a0 a1 = codeK (C := ctx) (mastref2_rounded.O) 12 (mastref2_rounded.L) (Try.f59.body.getD .skip) mastref2_rounded.a (endK ctx [(.int .i64)] [(.tmp 4)]) (slotsOf sg.U 0 [(.d (.int .i64)), (.d (.int .i64))] (a0, a1, ()) (empty sg.U)) := by
  unfold mastref2_rounded.f
  kernel_rfl
def mastref2_rounded.e : Entry sg := entryOf sg [(.d (.int .i64)), (.d (.int .i64))] [(.int .i64)] (fun h => mastref2_rounded.f h.1 h.2.1)
def mastref2_rounded.T : List (Lb sg (RT sg.U [(.int .i64)])) := []
theorem mastref2_rounded.ok : (mastref2_rounded.e).Sound Try.prog ctx 59 :=
  entry_ok base_ok mo (fn := Try.f59) (b := (Try.f59.body.getD .skip)) (pm := [(.d (.int .i64)), (.d (.int .i64))]) (rs := [(.int .i64)]) (an := mastref2_rounded.a) (N := 12) (vars := [(.tmp 4)]) Try.func59 (by kernel_rfl) (by kernel_rfl) (by kernel_rfl) (by kernel_rfl) (by kernel_rfl) (by kernel_rfl) (O := fun _ => mastref2_rounded.O)
    (fun _ => by unfold mastref2_rounded.O; exact oracle_of (P := Try.prog) (C := ctx) trivial) mastref2_rounded.T trivial 0 (fun h => mastref2_rounded.f_eq h.1 h.2.1)
def mastref2_RenderOf_c1.f (a0 : Int) (a1 : Int) (a2 : Int) (a3 : Int) : Option (Int) := (some (imax 0 (wsub .i64 (imin (wmul .i64 (wadd .i64 a0 1) a1) (wmul .i64 (wadd .i64 a3 1) a2)) (imax (wmul .i64 a0 a1) (wmul .i64 a3 a2)))))
def mastref2_RenderOf_c1.O : Oracle sg := fun n => lkp n []
def mastref2_RenderOf_c1.a : Ann := .z
def mastref2_RenderOf_c1.L : Nat → St sg.U → Option (RT sg.U [(.int .i64)]) := labs []
theorem mastref2_RenderOf_c1.f_eq (a0 : Int) (a1 : Int) (a2 : Int) (a3 : Int) : mastref2_RenderOf_c1.f a0 a1 a2 a3 = codeK (C := ctx) (mastref2_RenderOf_c1.O) 27 (mastref2_RenderOf_c1.L) (Try.f75.body.getD .skip) mastref2_RenderOf_c1.a (endK ctx [(.int .i64)] [(.tmp 8)]) (slotsOf sg.U 0 [(.d (.int .i64)), (.d (.int .i64)), (.d (.int .i64)), (.d (.int .i64))] (a0, a1, a2, a3, ()) (empty sg.U)) := by
  unfold mastref2_RenderOf_c1.f
  kernel_rfl
def mastref2_RenderOf_c1.e : Entry sg := entryOf sg [(.d (.int .i64)), (.d (.int .i64)), (.d (.int .i64)), (.d (.int .i64))] [(.int .i64)] (fun h => mastref2_RenderOf_c1.f h.1 h.2.1 h.2.2.1 h.2.2.2.1)
def mastref2_RenderOf_c1.T : List (Lb sg (RT sg.U [(.int .i64)])) := []
theorem mastref2_RenderOf_c1.ok : (mastref2_RenderOf_c1.e).Sound Try.prog ctx 75 :=
  entry_ok base_ok mo (fn := Try.f75) (b := (Try.f75.body.getD .skip)) (pm := [(.d (.int .i64)), (.d (.int .i64)), (.d (.int .i64)), (.d (.int .i64))]) (rs := [(.int .i64)]) (an := mastref2_RenderOf_c1.a) (N := 27) (vars := [(.tmp 8)]) Try.func75 (by kernel_rfl) (by kernel_rfl) (by kernel_rfl) (by kernel_rfl) (by kernel_rfl) (by kernel_rfl) (O := fun _ => mastref2_RenderOf_c1.O)
    (fun _ => by unfold mastref2_RenderOf_c1.O; exact oracle_of (P := Try.prog) (C := ctx) trivial) mastref2_RenderOf_c1.T trivial 0 (fun h => mastref2_RenderOf_c1.f_eq h.1 h.2.1 h.2.2.1 h.2.2.2.1)
mutual
def mastref2_RenderOf.l0 : Nat → Int → Int → (List Int) → Int → Int → Int → Int → Int → Int → Int → Int → (List Int) → Int → Int → (List Int) → Int → Int → Option (T_asset_Image × Int)
  | 0, _, _, _, _, _, _, _, _, _, _, _, _, _, _, _, _, _ => none
  | k + 1, x2_0, x2_1, x2_2, x3_0, x3_1, x3_2, x3_3, x3_4, x3_5, x4_0, x4_1, x4_2, x7_0, x7_1, x7_2, x104, x105 => (bif (ilt x105 x104) then (mastref2_RenderOf.l1 k x2_0 x2_1 x2_2 x3_0 x3_1 x3_2 x3_3 x3_4 x3_5 x4_0 x4_1 x4_2 x7_0 x7_1 x7_2 x105 x104 x105 x3_4 0) else (some ((T_asset_Image.mk x7_0 x7_1 x7_2), 0)))
def mastref2_RenderOf.l1 : Nat → Int → Int → (List Int) → Int → Int → Int → Int → Int → Int → Int → Int → (List Int) → Int → Int → (List Int) → Int → Int → Int → Int → Int → Option (T_asset_Image × Int)
  | 0, _, _, _, _, _, _, _, _, _, _, _, _, _, _, _, _, _, _, _, _ => none
  | k + 1, x2_0, x2_1, x2_2, x3_0, x3_1, x3_2, x3_3, x3_4, x3_5, x4_0, x4_1, x4_2, x7_0, x7_1, x7_2, x9, x104, x105, x109, x110 => (bif (ilt x110 x109) then (mastref2_RenderOf.l2 k x2_0 x2_1 x2_2 x3_0 x3_1 x3_2 x3_3 x3_4 x3_5 x4_0 x4_1 x4_2 x7_0 x7_1 x7_2 x9 x110 0 0 x104 x105 x109 x110 x3_3 0) else (mastref2_RenderOf.l0 k x2_0 x2_1 x2_2 x3_0 x3_1 x3_2 x3_3 x3_4 x3_5 x4_0 x4_1 x4_2 x7_0 x7_1 x7_2 x104 (wadd .i64 x105 1)))
def mastref2_RenderOf.l2 : Nat → Int → Int → (List Int) → Int → Int → Int → Int → Int → Int → Int → Int → (List Int) → Int → Int → (List Int) → Int → Int → Int → Int → Int → Int → Int → Int → Int → Int → Option (T_asset_Image × Int)
  | 0, _, _, _, _, _, _, _, _, _, _, _, _, _, _, _, _, _, _, _, _, _, _, _, _, _ => none
  | k + 1, x2_0, x2_1, x2_2, x3_0, x3_1, x3_2, x3_3, x3_4, x3_5, x4_0, x4_1, x4_2, x7_0, x7_1, x7_2, x9, x10, x11, x12, x104, x105, x109, x110, x114, x115 => (bif (ilt x115 x114) then (mastref2_RenderOf.l3 k x2_0 x2_1 x2_2 x3_0 x3_1 x3_2 x3_3 x3_4 x3_5 x4_0 x4_1 x4_2 x7_0 x7_1 x7_2 x9 x10 x11 x12 x115 x104 x105 x109 x110 x114 x115 x3_2 0) else ((mastref2_rounded.f x11 x12).bind fun y2 => ((lapp 8 x7_2 [y2]).bind fun y3 => (mastref2_RenderOf.l1 k x2_0 x2_1 x2_2 x3_0 x3_1 x3_2 x3_3 x3_4 x3_5 x4_0 x4_1 x4_2 x7_0 x7_1 y3 x9 x104 x105 x109 (wadd .i64 x110 1)))))
def mastref2_RenderOf.l3 : Nat → Int → Int → (List Int) → Int → Int → Int → Int → Int → Int → Int → Int → (List Int) → Int → Int → (List Int) → Int → Int → Int → Int → Int → Int → Int → Int → Int → Int → Int → Int → Int → Option (T_asset_Image × Int)
  | 0, _, _, _, _, _, _, _, _, _, _, _, _, _, _, _, _, _, _, _, _, _, _, _, _, _, _, _, _ => none
  | k + 1, x2_0, x2_1, x2_2, x3_0, x3_1, x3_2, x3_3, x3_4, x3_5, x4_0, x4_1, x4_2, x7_0, x7_1, x7_2, x9, x10, x11, x12, x13, x104, x105, x109, x110, x114, x115, x119, x120 => (bif (ilt x120 x119) then ((mastref2_RenderOf_c1.f x10 x3_2 x3_4 x120).bind fun y4 => ((mastref2_RenderOf_c1.f x9 x3_3 x3_5 x13).bind fun y5 => ((lat x2_2 (wadd .i64 (wadd .i64 (wmul .i64 (wadd .i64 x3_1 x13) x2_0) x3_0) x120)).bind fun y6 => (mastref2_RenderOf.l3 k x2_0 x2_1 x2_2 x3_0 x3_1 x3_2 x3_3 x3_4 x3_5 x4_0 x4_1 x4_2 x7_0 x7_1 x7_2 x9 x10 (wadd .i64 x11 (wmul .i64 (wmul .i64 y4 y5) y6)) (wadd .i64 x12 (wmul .i64 y4 y5)) x13 x104 x105 x109 x110 x114 x115 x119 (wadd .i64 x120 1))))) else (mastref2_RenderOf.l2 k x2_0 x2_1 x2_2 x3_0 x3_1 x3_2 x3_3 x3_4 x3_5 x4_0 x4_1 x4_2 x7_0 x7_1 x7_2 x9 x10 x11 x12 x104 x105 x109 x110 x114 (wadd .i64 x115 1)))
end
def mastref2_RenderOf.f (k : Nat) (a0 : T_asset_Image) (a1 : T_asset_Cut) : Option (T_asset_Image × Int) := ((mastref2_ImageFault.f k a0).bind fun y1 => (bif (!ieq y1 0) then (some ((T_asset_Image.mk 0 0 []), y1)) else (bif (bif (bif (bif (bif (bif (bif (bif (ilt a1.fX 0) then true else (ilt a1.fY 0)) then true else (ilt a1.fWidth 1)) then true else (ilt a1.fHeight 1)) then true else (ilt a0.fWidth a1.fWidth)) then true else (ilt a0.fHeight a1.fHeight)) then true else (ilt (wsub .i64 a0.fWidth a1.fWidth) a1.fX)) then true else (ilt (wsub .i64 a0.fHeight a1.fHeight) a1.fY)) then (some ((T_asset_Image.mk 0 0 []), 2)) else (bif (bif (bif (bif (ilt a1.fToWidth 1) then true else (ilt a1.fWidth a1.fToWidth)) then true else (ilt a1.fToHeight 1)) then true else (ilt a1.fHeight a1.fToHeight)) then (some ((T_asset_Image.mk 0 0 []), 2)) else (mastref2_RenderOf.l0 k a0.fWidth a0.fHeight a0.fLevels a1.fX a1.fY a1.fWidth a1.fHeight a1.fToWidth a1.fToHeight 0 0 [] a1.fToWidth a1.fToHeight [] a1.fToHeight 0)))))
def mastref2_RenderOf.O (k : Nat) : Oracle sg := fun n => lkp n [(59, mastref2_rounded.e), (74, mastref2_ImageFault.e k), (75, mastref2_RenderOf_c1.e)]
def mastref2_RenderOf.a : Ann := (.n .z (.n .z (.n .z (.n .z (.n .z (.n .z (.n (.n .z (.lp 0 (.n .z (.n .z (.n (.n .z (.n .z (.lp 1 (.n .z (.n .z (.n (.n .z (.n .z (.n (.n .z (.lp 2 (.n .z (.n .z (.n (.n .z (.n .z (.lp 3 .z))) .z))))) .z))) .z)))))) .z))))) .z)))))))
def mastref2_RenderOf.L (k : Nat) : Nat → St sg.U → Option (RT sg.U [(.st 0), (.int .i64)]) := labs [(0, labOf sg [(2, (.box [.d (.int .i64), .d (.int .i64), .d (.sl (.int .i64))])), (3, (.box [.d (.int .i64), .d (.int .i64), .d (.int .i64), .d (.int .i64), .d (.int .i64), .d (.int .i64)])), (4, (.box [.d (.int .i64), .d (.int .i64), .row 3 (.int .i64)])), (7, (.box [.d (.int .i64), .d (.int .i64), .row 3 (.int .i64)])), (8, (.clo 75 [])), (104, (.d (.int .i64))), (105, (.d (.int .i64)))] (fun h => mastref2_RenderOf.l0 k h.1 h.2.1 h.2.2.1 h.2.2.2.1 h.2.2.2.2.1 h.2.2.2.2.2.1 h.2.2.2.2.2.2.1 h.2.2.2.2.2.2.2.1 h.2.2.2.2.2.2.2.2.1 h.2.2.2.2.2.2.2.2.2.1 h.2.2.2.2.2.2.2.2.2.2.1 h.2.2.2.2.2.2.2.2.2.2.2.1 h.2.2.2.2.2.2.2.2.2.2.2.2.1 h.2.2.2.2.2.2.2.2.2.2.2.2.2.1 h.2.2.2.2.2.2.2.2.2.2.2.2.2.2.1 h.2.2.2.2.2.2.2.2.2.2.2.2.2.2.2.1 h.2.2.2.2.2.2.2.2.2.2.2.2.2.2.2.2.1)), (1, labOf sg [(2, (.box [.d (.int .i64), .d (.int .i64), .d (.sl (.int .i64))])), (3, (.box [.d (.int .i64), .d (.int .i64), .d (.int .i64), .d (.int .i64), .d (.int .i64), .d (.int .i64)])), (4, (.box [.d (.int .i64), .d (.int .i64), .row 3 (.int .i64)])), (7, (.box [.d (.int .i64), .d (.int .i64), .row 3 (.int .i64)])), (8, (.clo 75 [])), (9, (.d (.int .i64))), (104, (.d (.int .i64))), (105, (.d (.int .i64))), (109, (.d (.int .i64))), (110, (.d (.int .i64)))] (fun h => mastref2_RenderOf.l1 k h.1 h.2.1 h.2.2.1 h.2.2.2.1 h.2.2.2.2.1 h.2.2.2.2.2.1 h.2.2.2.2.2.2.1 h.2.2.2.2.2.2.2.1 h.2.2.2.2.2.2.2.2.1 h.2.2.2.2.2.2.2.2.2.1 h.2.2.2.2.2.2.2.2.2.2.1 h.2.2.2.2.2.2.2.2.2.2.2.1 h.2.2.2.2.2.2.2.2.2.2.2.2.1 h.2.2.2.2.2.2.2.2.2.2.2.2.2.1 h.2.2.2.2.2.2.2.2.2.2.2.2.2.2.1 h.2.2.2.2.2.2.2.2.2.2.2.2.2.2.2.1 h.2.2.2.2.2.2.2.2.2.2.2.2.2.2.2.2.1 h.2.2.2.2.2.2.2.2.2.2.2.2.2.2.2.2.2.1 h.2.2.2.2.2.2.2.2.2.2.2.2.2.2.2.2.2.2.1 h.2.2.2.2.2.2.2.2.2.2.2.2.2.2.2.2.2.2.2.1)), (2, labOf sg [(2, (.box [.d (.int .i64), .d (.int .i64), .d (.sl (.int .i64))])), (3, (.box [.d (.int .i64), .d (.int .i64), .d (.int .i64), .d (.int .i64), .d (.int .i64), .d (.int .i64)])), (4, (.box [.d (.int .i64), .d (.int .i64), .row 3 (.int .i64)])), (7, (.box [.d (.int .i64), .d (.int .i64), .row 3 (.int .i64)])), (8, (.clo 75 [])), (9, (.d (.int .i64))), (10, (.d (.int .i64))), (11, (.d (.int .i64))), (12, (.d (.int .i64))), (104, (.d (.int .i64))), (105, (.d (.int .i64))), (109, (.d (.int .i64))), (110, (.d (.int .i64))), (114, (.d (.int .i64))), (115, (.d (.int .i64)))] (fun h => mastref2_RenderOf.l2 k h.1 h.2.1 h.2.2.1 h.2.2.2.1 h.2.2.2.2.1 h.2.2.2.2.2.1 h.2.2.2.2.2.2.1 h.2.2.2.2.2.2.2.1 h.2.2.2.2.2.2.2.2.1 h.2.2.2.2.2.2.2.2.2.1 h.2.2.2.2.2.2.2.2.2.2.1 h.2.2.2.2.2.2.2.2.2.2.2.1 h.2.2.2.2.2.2.2.2.2.2.2.2.1 h.2.2.2.2.2.2.2.2.2.2.2.2.2.1 h.2.2.2.2.2.2.2.2.2.2.2.2.2.2.1 h.2.2.2.2.2.2.2.2.2.2.2.2.2.2.2.1 h.2.2.2.2.2.2.2.2.2.2.2.2.2.2.2.2.1 h.2.2.2.2.2.2.2.2.2.2.2.2.2.2.2.2.2.1 h.2.2.2.2.2.2.2.2.2.2.2.2.2.2.2.2.2.2.1 h.2.2.2.2.2.2.2.2.2.2.2.2.2.2.2.2.2.2.2.1 h.2.2.2.2.2.2.2.2.2.2.2.2.2.2.2.2.2.2.2.2.1 h.2.2.2.2.2.2.2.2.2.2.2.2.2.2.2.2.2.2.2.2.2.1 h.2.2.2.2.2.2.2.2.2.2.2.2.2.2.2.2.2.2.2.2.2.2.1 h.2.2.2.2.2.2.2.2.2.2.2.2.2.2.2.2.2.2.2.2.2.2.2.1 h.2.2.2.2.2.2.2.2.2.2.2.2.2.2.2.2.2.2.2.2.2.2.2.2.1)), (3, labOf sg [(2, (.box [.d (.int .i64), .d (.int .i64), .d (.sl (.int .i64))])), (3, (.box [.d (.int .i64), .d (.int .i64), .d (.int .i64), .d (.int .i64), .d (.int .i64), .d (.int .i64)])), (4, (.box [.d (.int .i64), .d (.int .i64), .row 3 (.int .i64)])), (7, (.box [.d (.int .i64), .d (.int .i64), .row 3 (.int .i64)])), (8, (.clo 75 [])), (9, (.d (.int .i64))), (10, (.d (.int .i64))), (11, (.d (.int .i64))), (12, (.d (.int .i64))), (13, (.d (.int .i64))), (104, (.d (.int .i64))), (105, (.d (.int .i64))), (109, (.d (.int .i64))), (110, (.d (.int .i64))), (114, (.d (.int .i64))), (115, (.d (.int .i64))), (119, (.d (.int .i64))), (120, (.d (.int .i64)))] (fun h => mastref2_RenderOf.l3 k h.1 h.2.1 h.2.2.1 h.2.2.2.1 h.2.2.2.2.1 h.2.2.2.2.2.1 h.2.2.2.2.2.2.1 h.2.2.2.2.2.2.2.1 h.2.2.2.2.2.2.2.2.1 h.2.2.2.2.2.2.2.2.2.1 h.2.2.2.2.2.2.2.2.2.2.1 h.2.2.2.2.2.2.2.2.2.2.2.1 h.2.2.2.2.2.2.2.2.2.2.2.2.1 h.2.2.2.2.2.2.2.2.2.2.2.2.2.1 h.2.2.2.2.2.2.2.2.2.2.2.2.2.2.1 h.2.2.2.2.2.2.2.2.2.2.2.2.2.2.2.1 h.2.2.2.2.2.2.2.2.2.2.2.2.2.2.2.2.1 h.2.2.2.2.2.2.2.2.2.2.2.2.2.2.2.2.2.1 h.2.2.2.2.2.2.2.2.2.2.2.2.2.2.2.2.2.2.1 h.2.2.2.2.2.2.2.2.2.2.2.2.2.2.2.2.2.2.2.1 h.2.2.2.2.2.2.2.2.2.2.2.2.2.2.2.2.2.2.2.2.1 h.2.2.2.2.2.2.2.2.2.2.2.2.2.2.2.2.2.2.2.2.2.1 h.2.2.2.2.2.2.2.2.2.2.2.2.2.2.2.2.2.2.2.2.2.2.1 h.2.2.2.2.2.2.2.2.2.2.2.2.2.2.2.2.2.2.2.2.2.2.2.1 h.2.2.2.2.2.2.2.2.2.2.2.2.2.2.2.2.2.2.2.2.2.2.2.2.1 h.2.2.2.2.2.2.2.2.2.2.2.2.2.2.2.2.2.2.2.2.2.2.2.2.2.1 h.2.2.2.2.2.2.2.2.2.2.2.2.2.2.2.2.2.2.2.2.2.2.2.2.2.2.1 h.2.2.2.2.2.2.2.2.2.2.2.2.2.2.2.2.2.2.2.2.2.2.2.2.2.2.2.1))]
theorem mastref2_RenderOf.l0_eq (k : Nat) (x2_0 : Int) (x2_1 : Int) (x2_2 : (List Int)) (x3_0 : Int) (x3_1 : Int) (x3_2 : Int) (x3_3 : Int) (x3_4 : Int) (x3_5 : Int) (x4_0 : Int) (x4_1 : Int) (x4_2 : (List Int)) (x7_0 : Int) (x7_1 : Int) (x7_2 : (List Int)) (x104 : Int) (x105 : Int) : mastref2_RenderOf.l0 (k + 1) x2_0 x2_1 x2_2 x3_0 x3_1 x3_2 x3_3 x3_4 x3_5 x4_0 x4_1 x4_2 x7_0 x7_1 x7_2 x104 x105 = runFrom (C := ctx) (mastref2_RenderOf.O k) 176 (mastref2_RenderOf.L k) (Try.f42.body.getD .skip) mastref2_RenderOf.a 0 (endK ctx [(.st 0), (.int .i64)] [(.cell 4 67), (.tmp 5)]) (encD [(2, (.box [.d (.int .i64), .d (.int .i64), .d (.sl (.int .i64))])), (3, (.box [.d (.int .i64), .d (.int .i64), .d (.int .i64), .d (.int .i64), .d (.int .i64), .d (.int .i64)])), (4, (.box [.d (.int .i64), .d (.int .i64), .row 3 (.int .i64)])), (7, (.box [.d (.int .i64), .d (.int .i64), .row 3 (.int .i64)])), (8, (.clo 75 [])), (104, (.d (.int .i64))), (105, (.d (.int .i64)))] (x2_0, x2_1, x2_2, x3_0, x3_1, x3_2, x3_3, x3_4, x3_5, x4_0, x4_1, x4_2, x7_0, x7_1, x7_2, x104, x105, ()) (empty sg.U)) := by
  rw [mastref2_RenderOf.l0]
  kernel_rfl
theorem mastref2_RenderOf.l1_eq (k : Nat) (x2_0 : Int) (x2_1 : Int) (x2_2 : (List Int)) (x3_0 : Int) (x3_1 : Int) (x3_2 : Int) (x3_3 : Int) (x3_4 : Int) (x3_5 : Int) (x4_0 : Int) (x4_1 : Int) (x4_2 : (List Int)) (x7_0 : Int) (x7_1 : Int) (x7_2 : (List Int)) (x9 : Int) (x104 : Int) (x105 : Int) (x109 : Int) (x110 : Int) : mastref2_RenderOf.l1 (k + 1) x2_0 x2_1 x2_2 x3_0 x3_1 x3_2 x3_3 x3_4 x3_5 x4_0 x4_1 x4_2 x7_0 x7_1 x7_2 x9 x104 x105 x109 x110 = runFrom (C := ctx) (mastref2_RenderOf.O k) 176 (mastref2_RenderOf.L k) (Try.f42.body.getD .skip) mastref2_RenderOf.a 1 (endK ctx [(.st 0), (.int .i64)] [(.cell 4 67), (.tmp 5)]) (encD [(2, (.box [.d (.int .i64), .d (.int .i64), .d (.sl (.int .i64))])), (3, (.box [.d (.int .i64), .d (.int .i64), .d (.int .i64), .d (.int .i64), .d (.int .i64), .d (.int .i64)])), (4, (.box [.d (.int .i64), .d (.int .i64), .row 3 (.int .i64)])), (7, (.box [.d (.int .i64), .d (.int .i64), .row 3 (.int .i64)])), (8, (.clo 75 [])), (9, (.d (.int .i64))), (104, (.d (.int .i64))), (105, (.d (.int .i64))), (109, (.d (.int .i64))), (110, (.d (.int .i64)))] (x2_0, x2_1, x2_2, x3_0, x3_1, x3_2, x3_3, x3_4, x3_5, x4_0, x4_1, x4_2, x7_0, x7_1, x7_2, x9, x104, x105, x109, x110, ()) (empty sg.U)) := by
  rw [mastref2_RenderOf.l1]
  kernel_rfl
theorem mastref2_RenderOf.l2_eq (k : Nat) (x2_0 : Int) (x2_1 : Int) (x2_2 : (List Int)) (x3_0 : Int) (x3_1 : Int) (x3_2 : Int) (x3_3 : Int) (x3_4 : Int) (x3_5 : Int) (x4_0 : Int) (x4_1 : Int) (x4_2 : (List Int)) (x7_0 : Int) (x7_1 : Int) (x7_2 : (List Int)) (x9 : Int) (x10 : Int) (x11 : Int) (x12 : Int) (x104 : Int) (x105 : Int) (x109 : Int) (x110 : Int) (x114 : Int) (x115 : Int) : mastref2_RenderOf.l2 (k + 1) x2_0 x2_1 x2_2 x3_0 x3_1 x3_2 x3_3 x3_4 x3_5 x4_0 x4_1 x4_2 x7_0 x7_1 x7_2 x9 x10 x11 x12 x104 x105 x109 x110 x114 x115 = runFrom (C := ctx) (mastref2_RenderOf.O k) 176 (mastref2_RenderOf.L k) (Try.f42.body.getD .skip) mastref2_RenderOf.a 2 (endK ctx [(.st 0), (.int .i64)] [(.cell 4 67), (.tmp 5)]) (encD [(2, (.box [.d (.int .i64), .d (.int .i64), .d (.sl (.int .i64))])), (3, (.box [.d (.int .i64), .d (.int .i64), .d (.int .i64), .d (.int .i64), .d (.int .i64), .d (.int .i64)])), (4, (.box [.d (.int .i64), .d (.int .i64), .row 3 (.int .i64)])), (7, (.box [.d (.int .i64), .d (.int .i64), .row 3 (.int .i64)])), (8, (.clo 75 [])), (9, (.d (.int .i64))), (10, (.d (.int .i64))), (11, (.d (.int .i64))), (12, (.d (.int .i64))), (104, (.d (.int .i64))), (105, (.d (.int .i64))), (109, (.d (.int .i64))), (110, (.d (.int .i64))), (114, (.d (.int .i64))), (115, (.d (.int .i64)))] (x2_0, x2_1, x2_2, x3_0, x3_1, x3_2, x3_3, x3_4, x3_5, x4_0, x4_1, x4_2, x7_0, x7_1, x7_2, x9, x10, x11, x12, x104, x105, x109, x110, x114, x115, ()) (empty sg.U)) := by
  rw [mastref2_RenderOf.l2]
  kernel_rfl
theorem mastref2_RenderOf.l3_eq (k : Nat) (x2_0 : Int) (x2_1 : Int) (x2_2 : (List Int)) (x3_0 : Int) (x3_1 : Int) (x3_2 : Int) (x3_3 : Int) (x3_4 : Int) (x3_5 : Int) (x4_0 : Int) (x4_1 : Int) (x4_2 : (List Int)) (x7_0 : Int) (x7_1 : Int) (x7_2 : (List Int)) (x9 : Int) (x10 : Int) (x11 : Int) (x12 : Int) (x13 : Int) (x104 : Int) (x105 : Int) (x109 : Int) (x110 : Int) (x114 : Int) (x115 : Int) (x119 : Int) (x120 : Int) : mastref2_RenderOf.l3 (k + 1) x2_0 x2_1 x2_2 x3_0 x3_1 x3_2 x3_3 x3_4 x3_5 x4_0 x4_1 x4_2 x7_0 x7_1 x7_2 x9 x10 x11 x12 x13 x104 x105 x109 x110 x114 x115 x119 x120 = runFrom (C := ctx) (mastref2_RenderOf.O k) 176 (mastref2_RenderOf.L k) (Try.f42.body.getD .skip) mastref2_RenderOf.a 3 (endK ctx [(.st 0), (.int .i64)] [(.cell 4 67), (.tmp 5)]) (encD [(2, (.box [.d (.int .i64), .d (.int .i64), .d (.sl (.int .i64))])), (3, (.box [.d (.int .i64), .d (.int .i64), .d (.int .i64), .d (.int .i64), .d (.int .i64), .d (.int .i64)])), (4, (.box [.d (.int .i64), .d (.int .i64), .row 3 (.int .i64)])), (7, (.box [.d (.int .i64), .d (.int .i64), .row 3 (.int .i64)])), (8, (.clo 75 [])), (9, (.d (.int .i64))), (10, (.d (.int .i64))), (11, (.d (.int .i64))), (12, (.d (.int .i64))), (13, (.d (.int .i64))), (104, (.d (.int .i64))), (105, (.d (.int .i64))), (109, (.d (.int .i64))), (110, (.d (.int .i64))), (114, (.d (.int .i64))), (115, (.d (.int .i64))), (119, (.d (.int .i64))), (120, (.d (.int .i64)))] (x2_0, x2_1, x2_2, x3_0, x3_1, x3_2, x3_3, x3_4, x3_5, x4_0, x4_1, x4_2, x7_0, x7_1, x7_2, x9, x10, x11, x12, x13, x104, x105, x109, x110, x114, x115, x119, x120, ()) (empty sg.U)) := by
  rw [mastref2_RenderOf.l3]
  kernel_rfl
theorem mastref2_RenderOf.f_eq (k : Nat) (a0 : T_asset_Image) (a1 : T_asset_Cut) : mastref2_RenderOf.f k a0 a1 = codeK (C := ctx) (mastref2_RenderOf.O k) 176 (mastref2_RenderOf.L k) (Try.f42.body.getD .skip) mastref2_RenderOf.a (endK ctx [(.st 0), (.int .i64)] [(.cell 4 67), (.tmp 5)]) (slotsOf sg.U 0 [(.d (.st 0)), (.d (.st 1))] (a0, a1, ()) (empty sg.U)) := by
  unfold mastref2_RenderOf.f
  kernel_rfl
def mastref2_RenderOf.e (k : Nat) : Entry sg := entryOf sg [(.d (.st 0)), (.d (.st 1))] [(.st 0), (.int .i64)] (fun h => mastref2_RenderOf.f k h.1 h.2.1)
def mastref2_RenderOf.T : List (Lb sg (RT sg.U [(.st 0), (.int .i64)])) := [⟨0, [(2, (.box [.d (.int .i64), .d (.int .i64), .d (.sl (.int .i64))])), (3, (.box [.d (.int .i64), .d (.int .i64), .d (.int .i64), .d (.int .i64), .d (.int .i64), .d (.int .i64)])), (4, (.box [.d (.int .i64), .d (.int .i64), .row 3 (.int .i64)])), (7, (.box [.d (.int .i64), .d (.int .i64), .row 3 (.int .i64)])), (8, (.clo 75 [])), (104, (.d (.int .i64))), (105, (.d (.int .i64)))], fun k h => mastref2_RenderOf.l0 k h.1 h.2.1 h.2.2.1 h.2.2.2.1 h.2.2.2.2.1 h.2.2.2.2.2.1 h.2.2.2.2.2.2.1 h.2.2.2.2.2.2.2.1 h.2.2.2.2.2.2.2.2.1 h.2.2.2.2.2.2.2.2.2.1 h.2.2.2.2.2.2.2.2.2.2.1 h.2.2.2.2.2.2.2.2.2.2.2.1 h.2.2.2.2.2.2.2.2.2.2.2.2.1 h.2.2.2.2.2.2.2.2.2.2.2.2.2.1 h.2.2.2.2.2.2.2.2.2.2.2.2.2.2.1 h.2.2.2.2.2.2.2.2.2.2.2.2.2.2.2.1 h.2.2.2.2.2.2.2.2.2.2.2.2.2.2.2.2.1⟩, ⟨1, [(2, (.box [.d (.int .i64), .d (.int .i64), .d (.sl (.int .i64))])), (3, (.box [.d (.int .i64), .d (.int .i64), .d (.int .i64), .d (.int .i64), .d (.int .i64), .d (.int .i64)])), (4, (.box [.d (.int .i64), .d (.int .i64), .row 3 (.int .i64)])), (7, (.box [.d (.int .i64), .d (.int .i64), .row 3 (.int .i64)])), (8, (.clo 75 [])), (9, (.d (.int .i64))), (104, (.d (.int .i64))), (105, (.d (.int .i64))), (109, (.d (.int .i64))), (110, (.d (.int .i64)))], fun k h => mastref2_RenderOf.l1 k h.1 h.2.1 h.2.2.1 h.2.2.2.1 h.2.2.2.2.1 h.2.2.2.2.2.1 h.2.2.2.2.2.2.1 h.2.2.2.2.2.2.2.1 h.2.2.2.2.2.2.2.2.1 h.2.2.2.2.2.2.2.2.2.1 h.2.2.2.2.2.2.2.2.2.2.1 h.2.2.2.2.2.2.2.2.2.2.2.1 h.2.2.2.2.2.2.2.2.2.2.2.2.1 h.2.2.2.2.2.2.2.2.2.2.2.2.2.1 h.2.2.2.2.2.2.2.2.2.2.2.2.2.2.1 h.2.2.2.2.2.2.2.2.2.2.2.2.2.2.2.1 h.2.2.2.2.2.2.2.2.2.2.2.2.2.2.2.2.1 h.2.2.2.2.2.2.2.2.2.2.2.2.2.2.2.2.2.1 h.2.2.2.2.2.2.2.2.2.2.2.2.2.2.2.2.2.2.1 h.2.2.2.2.2.2.2.2.2.2.2.2.2.2.2.2.2.2.2.1⟩, ⟨2, [(2, (.box [.d (.int .i64), .d (.int .i64), .d (.sl (.int .i64))])), (3, (.box [.d (.int .i64), .d (.int .i64), .d (.int .i64), .d (.int .i64), .d (.int .i64), .d (.int .i64)])), (4, (.box [.d (.int .i64), .d (.int .i64), .row 3 (.int .i64)])), (7, (.box [.d (.int .i64), .d (.int .i64), .row 3 (.int .i64)])), (8, (.clo 75 [])), (9, (.d (.int .i64))), (10, (.d (.int .i64))), (11, (.d (.int .i64))), (12, (.d (.int .i64))), (104, (.d (.int .i64))), (105, (.d (.int .i64))), (109, (.d (.int .i64))), (110, (.d (.int .i64))), (114, (.d (.int .i64))), (115, (.d (.int .i64)))], fun k h => mastref2_RenderOf.l2 k h.1 h.2.1 h.2.2.1 h.2.2.2.1 h.2.2.2.2.1 h.2.2.2.2.2.1 h.2.2.2.2.2.2.1 h.2.2.2.2.2.2.2.1 h.2.2.2.2.2.2.2.2.1 h.2.2.2.2.2.2.2.2.2.1 h.2.2.2.2.2.2.2.2.2.2.1 h.2.2.2.2.2.2.2.2.2.2.2.1 h.2.2.2.2.2.2.2.2.2.2.2.2.1 h.2.2.2.2.2.2.2.2.2.2.2.2.2.1 h.2.2.2.2.2.2.2.2.2.2.2.2.2.2.1 h.2.2.2.2.2.2.2.2.2.2.2.2.2.2.2.1 h.2.2.2.2.2.2.2.2.2.2.2.2.2.2.2.2.1 h.2.2.2.2.2.2.2.2.2.2.2.2.2.2.2.2.2.1 h.2.2.2.2.2.2.2.2.2.2.2.2.2.2.2.2.2.2.1 h.2.2.2.2.2.2.2.2.2.2.2.2.2.2.2.2.2.2.2.1 h.2.2.2.2.2.2.2.2.2.2.2.2.2.2.2.2.2.2.2.2.1 h.2.2.2.2.2.2.2.2.2.2.2.2.2.2.2.2.2.2.2.2.2.1 h.2.2.2.2.2.2.2.2.2.2.2.2.2.2.2.2.2.2.2.2.2.2.1 h.2.2.2.2.2.2.2.2.2.2.2.2.2.2.2.2.2.2.2.2.2.2.2.1 h.2.2.2.2.2.2.2.2.2.2.2.2.2.2.2.2.2.2.2.2.2.2.2.2.1⟩, ⟨3, [(2, (.box [.d (.int .i64), .d (.int .i64), .d (.sl (.int .i64))])), (3, (.box [.d (.int .i64), .d (.int .i64), .d (.int .i64), .d (.int .i64), .d (.int .i64), .d (.int .i64)])), (4, (.box [.d (.int .i64), .d (.int .i64), .row 3 (.int .i64)])), (7, (.box [.d (.int .i64), .d (.int .i64), .row 3 (.int .i64)])), (8, (.clo 75 [])), (9, (.d (.int .i64))), (10, (.d (.int .i64))), (11, (.d (.int .i64))), (12, (.d (.int .i64))), (13, (.d (.int .i64))), (104, (.d (.int .i64))), (105, (.d (.int .i64))), (109, (.d (.int .i64))), (110, (.d (.int .i64))), (114, (.d (.int .i64))), (115, (.d (.int .i64))), (119, (.d (.int .i64))), (120, (.d (.int .i64)))], fun k h => mastref2_RenderOf.l3 k h.1 h.2.1 h.2.2.1 h.2.2.2.1 h.2.2.2.2.1 h.2.2.2.2.2.1 h.2.2.2.2.2.2.1 h.2.2.2.2.2.2.2.1 h.2.2.2.2.2.2.2.2.1 h.2.2.2.2.2.2.2.2.2.1 h.2.2.2.2.2.2.2.2.2.2.1 h.2.2.2.2.2.2.2.2.2.2.2.1 h.2.2.2.2.2.2.2.2.2.2.2.2.1 h.2.2.2.2.2.2.2.2.2.2.2.2.2.1 h.2.2.2.2.2.2.2.2.2.2.2.2.2.2.1 h.2.2.2.2.2.2.2.2.2.2.2.2.2.2.2.1 h.2.2.2.2.2.2.2.2.2.2.2.2.2.2.2.2.1 h.2.2.2.2.2.2.2.2.2.2.2.2.2.2.2.2.2.1 h.2.2.2.2.2.2.2.2.2.2.2.2.2.2.2.2.2.2.1 h.2.2.2.2.2.2.2.2.2.2.2.2.2.2.2.2.2.2.2.1 h.2.2.2.2.2.2.2.2.2.2.2.2.2.2.2.2.2.2.2.2.1 h.2.2.2.2.2.2.2.2.2.2.2.2.2.2.2.2.2.2.2.2.2.1 h.2.2.2.2.2.2.2.2.2.2.2.2.2.2.2.2.2.2.2.2.2.2.1 h.2.2.2.2.2.2.2.2.2.2.2.2.2.2.2.2.2.2.2.2.2.2.2.1 h.2.2.2.2.2.2.2.2.2.2.2.2.2.2.2.2.2.2.2.2.2.2.2.2.1 h.2.2.2.2.2.2.2.2.2.2.2.2.2.2.2.2.2.2.2.2.2.2.2.2.2.1 h.2.2.2.2.2.2.2.2.2.2.2.2.2.2.2.2.2.2.2.2.2.2.2.2.2.2.1 h.2.2.2.2.2.2.2.2.2.2.2.2.2.2.2.2.2.2.2.2.2.2.2.2.2.2.2.1⟩]
theorem mastref2_RenderOf.ok (k : Nat) : (mastref2_RenderOf.e k).Sound Try.prog ctx 42 :=
  entry_ok base_ok mo (fn := Try.f42) (b := (Try.f42.body.getD .skip)) (pm := [(.d (.st 0)), (.d (.st 1))]) (rs := [(.st 0), (.int .i64)]) (an := mastref2_RenderOf.a) (N := 176) (vars := [(.cell 4 67), (.tmp 5)]) Try.func42 (by kernel_rfl) (by kernel_rfl) (by kernel_rfl) (by kernel_rfl) (by kernel_rfl) (by kernel_rfl) (O := mastref2_RenderOf.O)
    (fun k => by unfold mastref2_RenderOf.O; exact oracle_of (P := Try.prog) (C := ctx) ⟨mastref2_rounded.ok, ⟨mastref2_ImageFault.ok k, ⟨mastref2_RenderOf_c1.ok, trivial⟩⟩⟩) mastref2_RenderOf.T ⟨⟨by kernel_rfl, fun _ => by first | rfl | rw [mastref2_RenderOf.l0], fun k h => mastref2_RenderOf.l0_eq k h.1 h.2.1 h.2.2.1 h.2.2.2.1 h.2.2.2.2.1 h.2.2.2.2.2.1 h.2.2.2.2.2.2.1 h.2.2.2.2.2.2.2.1 h.2.2.2.2.2.2.2.2.1 h.2.2.2.2.2.2.2.2.2.1 h.2.2.2.2.2.2.2.2.2.2.1 h.2.2.2.2.2.2.2.2.2.2.2.1 h.2.2.2.2.2.2.2.2.2.2.2.2.1 h.2.2.2.2.2.2.2.2.2.2.2.2.2.1 h.2.2.2.2.2.2.2.2.2.2.2.2.2.2.1 h.2.2.2.2.2.2.2.2.2.2.2.2.2.2.2.1 h.2.2.2.2.2.2.2.2.2.2.2.2.2.2.2.2.1⟩, ⟨⟨by kernel_rfl, fun _ => by first | rfl | rw [mastref2_RenderOf.l1], fun k h => mastref2_RenderOf.l1_eq k h.1 h.2.1 h.2.2.1 h.2.2.2.1 h.2.2.2.2.1 h.2.2.2.2.2.1 h.2.2.2.2.2.2.1 h.2.2.2.2.2.2.2.1 h.2.2.2.2.2.2.2.2.1 h.2.2.2.2.2.2.2.2.2.1 h.2.2.2.2.2.2.2.2.2.2.1 h.2.2.2.2.2.2.2.2.2.2.2.1 h.2.2.2.2.2.2.2.2.2.2.2.2.1 h.2.2.2.2.2.2.2.2.2.2.2.2.2.1 h.2.2.2.2.2.2.2.2.2.2.2.2.2.2.1 h.2.2.2.2.2.2.2.2.2.2.2.2.2.2.2.1 h.2.2.2.2.2.2.2.2.2.2.2.2.2.2.2.2.1 h.2.2.2.2.2.2.2.2.2.2.2.2.2.2.2.2.2.1 h.2.2.2.2.2.2.2.2.2.2.2.2.2.2.2.2.2.2.1 h.2.2.2.2.2.2.2.2.2.2.2.2.2.2.2.2.2.2.2.1⟩, ⟨⟨by kernel_rfl, fun _ => by first | rfl | rw [mastref2_RenderOf.l2], fun k h => mastref2_RenderOf.l2_eq k h.1 h.2.1 h.2.2.1 h.2.2.2.1 h.2.2.2.2.1 h.2.2.2.2.2.1 h.2.2.2.2.2.2.1 h.2.2.2.2.2.2.2.1 h.2.2.2.2.2.2.2.2.1 h.2.2.2.2.2.2.2.2.2.1 h.2.2.2.2.2.2.2.2.2.2.1 h.2.2.2.2.2.2.2.2.2.2.2.1 h.2.2.2.2.2.2.2.2.2.2.2.2.1 h.2.2.2.2.2.2.2.2.2.2.2.2.2.1 h.2.2.2.2.2.2.2.2.2.2.2.2.2.2.1 h.2.2.2.2.2.2.2.2.2.2.2.2.2.2.2.1 h.2.2.2.2.2.2.2.2.2.2.2.2.2.2.2.2.1 h.2.2.2.2.2.2.2.2.2.2.2.2.2.2.2.2.2.1 h.2.2.2.2.2.2.2.2.2.2.2.2.2.2.2.2.2.2.1 h.2.2.2.2.2.2.2.2.2.2.2.2.2.2.2.2.2.2.2.1 h.2.2.2.2.2.2.2.2.2.2.2.2.2.2.2.2.2.2.2.2.1 h.2.2.2.2.2.2.2.2.2.2.2.2.2.2.2.2.2.2.2.2.2.1 h.2.2.2.2.2.2.2.2.2.2.2.2.2.2.2.2.2.2.2.2.2.2.1 h.2.2.2.2.2.2.2.2.2.2.2.2.2.2.2.2.2.2.2.2.2.2.2.1 h.2.2.2.2.2.2.2.2.2.2.2.2.2.2.2.2.2.2.2.2.2.2.2.2.1⟩, ⟨⟨by kernel_rfl, fun _ => by first | rfl | rw [mastref2_RenderOf.l3], fun k h => mastref2_RenderOf.l3_eq k h.1 h.2.1 h.2.2.1 h.2.2.2.1 h.2.2.2.2.1 h.2.2.2.2.2.1 h.2.2.2.2.2.2.1 h.2.2.2.2.2.2.2.1 h.2.2.2.2.2.2.2.2.1 h.2.2.2.2.2.2.2.2.2.1 h.2.2.2.2.2.2.2.2.2.2.1 h.2.2.2.2.2.2.2.2.2.2.2.1 h.2.2.2.2.2.2.2.2.2.2.2.2.1 h.2.2.2.2.2.2.2.2.2.2.2.2.2.1 h.2.2.2.2.2.2.2.2.2.2.2.2.2.2.1 h.2.2.2.2.2.2.2.2.2.2.2.2.2.2.2.1 h.2.2.2.2.2.2.2.2.2.2.2.2.2.2.2.2.1 h.2.2.2.2.2.2.2.2.2.2.2.2.2.2.2.2.2.1 h.2.2.2.2.2.2.2.2.2.2.2.2.2.2.2.2.2.2.1 h.2.2.2.2.2.2.2.2.2.2.2.2.2.2.2.2.2.2.2.1 h.2.2.2.2.2.2.2.2.2.2.2.2.2.2.2.2.2.2.2.2.1 h.2.2.2.2.2.2.2.2.2.2.2.2.2.2.2.2.2.2.2.2.2.1 h.2.2.2.2.2.2.2.2.2.2.2.2.2.2.2.2.2.2.2.2.2.2.1 h.2.2.2.2.2.2.2.2.2.2.2.2.2.2.2.2.2.2.2.2.2.2.2.1 h.2.2.2.2.2.2.2.2.2.2.2.2.2.2.2.2.2.2.2.2.2.2.2.2.1 h.2.2.2.2.2.2.2.2.2.2.2.2.2.2.2.2.2.2.2.2.2.2.2.2.2.1 h.2.2.2.2.2.2.2.2.2.2.2.2.2.2.2.2.2.2.2.2.2.2.2.2.2.2.1 h.2.2.2.2.2.2.2.2.2.2.2.2.2.2.2.2.2.2.2.2.2.2.2.2.2.2.2.1⟩, trivial⟩⟩⟩⟩ k (fun h => mastref2_RenderOf.f_eq k h.1 h.2.1)
def slices_Equal_int_int.l0 : Nat → (List Int) → (List Int) → Int → Int → Option (Bool)
  | 0, _, _, _, _ => none
  | k + 1, x0, x1, x12, x13 => (bif (ilt x13 x12) then ((lat x0 x13).bind fun y1 => ((lat x1 x13).bind fun y2 => (bif (!ieq y1 y2) then (some false) else (slices_Equal_int_int.l0 k x0 x1 x12 (wadd .i64 x13 1))))) else (some true))
def slices_Equal_int_int.f (k : Nat) (a0 : (List Int)) (a1 : (List Int)) : Option (Bool) := (bif (!ieq (llen a0) (llen a1)) then (some false) else (slices_Equal_int_int.l0 k a0 a1 (llen a0) 0))
def slices_Equal_int_int.O (k : Nat) : Oracle sg := fun n => lkp n []
def slices_Equal_int_int.a : Ann := (.n .z (.n .z (.n (.n .z (.lp 0 .z)) .z)))
def slices_Equal_int_int.L (k : Nat) : Nat → St sg.U → Option (RT sg.U [.bool]) := labs [(0, labOf sg [(0, (.d (.sl (.int .i64)))), (1, (.d (.sl (.int .i64)))), (12, (.d (.int .i64))), (13, (.d (.int .i64)))] (fun h => slices_Equal_int_int.l0 k h.1 h.2.1 h.2.2.1 h.2.2.2.1))]
theorem slices_Equal_int_int.l0_eq (k : Nat) (x0 : (List Int)) (x1 : (List Int)) (x12 : Int) (x13 : Int) : slices_Equal_int_int.l0 (k + 1) x0 x1 x12 x13 = runFrom (C := ctx) (slices_Equal_int_int.O k) 26 (slices_Equal_int_int.L k) (Try.f19.body.getD .skip) slices_Equal_int_int.a 0 (endK ctx [.bool] [(.tmp 4)]) (encD [(0, (.d (.sl (.int .i64)))), (1, (.d (.sl (.int .i64)))), (12, (.d (.int .i64))), (13, (.d (.int .i64)))] (x0, x1, x12, x13, ()) (empty sg.U)) := by
  rw [slices_Equal_int_int.l0]
  kernel_rfl
theorem slices_Equal_int_int.f_eq (k : Nat) (a0 : (List Int)) (a1 : (List Int)) : slices_Equal_int_int.f k a0 a1 = codeK (C := ctx) (slices_Equal_int_int.O k) 26 (slices_Equal_int_int.L k) (Try.f19.body.getD .skip) slices_Equal_int_int.a (endK ctx [.bool] [(.tmp 4)]) (slotsOf sg.U 0 [(.d (.sl (.int .i64))), (.d (.sl (.int .i64)))] (a0, a1, ()) (empty sg.U)) := by
  unfold slices_Equal_int_int.f
  kernel_rfl
def slices_Equal_int_int.e (k : Nat) : Entry sg := entryOf sg [(.d (.sl (.int .i64))), (.d (.sl (.int .i64)))] [.bool] (fun h => slices_Equal_int_int.f k h.1 h.2.1)
def slices_Equal_int_int.T : List (Lb sg (RT sg.U [.bool])) := [⟨0, [(0, (.d (.sl (.int .i64)))), (1, (.d (.sl (.int .i64)))), (12, (.d (.int .i64))), (13, (.d (.int .i64)))], fun k h => slices_Equal_int_int.l0 k h.1 h.2.1 h.2.2.1 h.2.2.2.1⟩]
theorem slices_Equal_int_int.ok (k : Nat) : (slices_Equal_int_int.e k).Sound Try.prog ctx 19 :=
  entry_ok base_ok mo (fn := Try.f19) (b := (Try.f19.body.getD .skip)) (pm := [(.d (.sl (.int .i64))), (.d (.sl (.int .i64)))]) (rs := [.bool]) (an := slices_Equal_int_int.a) (N := 26) (vars := [(.tmp 4)]) Try.func19 (by kernel_rfl) (by kernel_rfl) (by kernel_rfl) (by kernel_rfl) (by kernel_rfl) (by kernel_rfl) (O := slices_Equal_int_int.O)
    (fun k => by unfold slices_Equal_int_int.O; exact oracle_of (P := Try.prog) (C := ctx) trivial) slices_Equal_int_int.T ⟨⟨by kernel_rfl, fun _ => by first | rfl | rw [slices_Equal_int_int.l0], fun k h => slices_Equal_int_int.l0_eq k h.1 h.2.1 h.2.2.1 h.2.2.2.1⟩, trivial⟩ k (fun h => slices_Equal_int_int.f_eq k h.1 h.2.1)
def mastref2_Alike_at_asset_Image.f (k : Nat) (a0 : T_asset_Image) (a1 : T_asset_Image) : Option (Bool) := (bif (bif (ieq a0.fWidth a1.fWidth) then (ieq a0.fHeight a1.fHeight) else false) then ((slices_Equal_int_int.f k a0.fLevels a1.fLevels).bind fun y1 => (some y1)) else (some false))
def mastref2_Alike_at_asset_Image.O (k : Nat) : Oracle sg := fun n => lkp n [(19, slices_Equal_int_int.e k)]
def mastref2_Alike_at_asset_Image.a : Ann := .z
def mastref2_Alike_at_asset_Image.L (k : Nat) : Nat → St sg.U → Option (RT sg.U [.bool]) := labs []
theorem mastref2_Alike_at_asset_Image.f_eq (k : Nat) (a0 : T_asset_Image) (a1 : T_asset_Image) : mastref2_Alike_at_asset_Image.f k a0 a1 = codeK (C := ctx) (mastref2_Alike_at_asset_Image.O k) 296 (mastref2_Alike_at_asset_Image.L k) (Try.f43.body.getD .skip) mastref2_Alike_at_asset_Image.a (endK ctx [.bool] [(.tmp 4)]) (slotsOf sg.U 0 [(.iv 67 (.st 0)), (.iv 67 (.st 0))] (a0, a1, ()) (empty sg.U)) := by
  unfold mastref2_Alike_at_asset_Image.f
  kernel_rfl
def mastref2_Alike_at_asset_Image.e (k : Nat) : Entry sg := entryOf sg [(.iv 67 (.st 0)), (.iv 67 (.st 0))] [.bool] (fun h => mastref2_Alike_at_asset_Image.f k h.1 h.2.1)
def mastref2_Alike_at_asset_Image.T : List (Lb sg (RT sg.U [.bool])) := []
theorem mastref2_Alike_at_asset_Image.ok (k : Nat) : (mastref2_Alike_at_asset_Image.e k).Sound Try.prog ctx 43 :=
  entry_ok base_ok mo (fn := Try.f43) (b := (Try.f43.body.getD .skip)) (pm := [(.iv 67 (.st 0)), (.iv 67 (.st 0))]) (rs := [.bool]) (an := mastref2_Alike_at_asset_Image.a) (N := 296) (vars := [(.tmp 4)]) Try.func43 (by kernel_rfl) (by kernel_rfl) (by kernel_rfl) (by kernel_rfl) (by kernel_rfl) (by kernel_rfl) (O := mastref2_Alike_at_asset_Image.O)
    (fun k => by unfold mastref2_Alike_at_asset_Image.O; exact oracle_of (P := Try.prog) (C := ctx) ⟨slices_Equal_int_int.ok k, trivial⟩) mastref2_Alike_at_asset_Image.T trivial k (fun h => mastref2_Alike_at_asset_Image.f_eq k h.1 h.2.1)
def mastlaw2_ImageRenders.f (k : Nat) (a0 : T_asset_Image) (a1 : T_asset_Cut) : Option (Bool) := ((asset_Render.f k a0 a1).bind fun y1 => ((mastref2_RenderOf.f k a0 a1).bind fun y2 => (bif (ieq y1.2 y2.2) then ((mastref2_Alike_at_asset_Image.f k y1.1 y2.1).bind fun y3 => (some y3)) else (some false))))
def mastlaw2_ImageRenders.O (k : Nat) : Oracle sg := fun n => lkp n [(41, asset_Render.e k), (42, mastref2_RenderOf.e k), (43, mastref2_Alike_at_asset_Image.e k)]
def mastlaw2_ImageRenders.a : Ann := .z
def mastlaw2_ImageRenders.L (k : Nat) : Nat → St sg.U → Option (RT sg.U [.bool]) := labs []
theorem mastlaw2_ImageRenders.f_eq (k : Nat) (a0 : T_asset_Image) (a1 : T_asset_Cut) : mastlaw2_ImageRenders.f k a0 a1 = codeK (C := ctx) (mastlaw2_ImageRenders.O k) 31 (mastlaw2_ImageRenders.L k) (Try.f12.body.getD .skip) mastlaw2_ImageRenders.a (endK ctx [.bool] [(.tmp 4)]) (slotsOf sg.U 0 [(.d (.st 0)), (.d (.st 1))] (a0, a1, ()) (empty sg.U)) := by
  unfold mastlaw2_ImageRenders.f
  kernel_rfl
def mastlaw2_ImageRenders.e (k : Nat) : Entry sg := entryOf sg [(.d (.st 0)), (.d (.st 1))] [.bool] (fun h => mastlaw2_ImageRenders.f k h.1 h.2.1)
def mastlaw2_ImageRenders.T : List (Lb sg (RT sg.U [.bool])) := []
theorem mastlaw2_ImageRenders.ok (k : Nat) : (mastlaw2_ImageRenders.e k).Sound Try.prog ctx 12 :=
  entry_ok base_ok mo (fn := Try.f12) (b := (Try.f12.body.getD .skip)) (pm := [(.d (.st 0)), (.d (.st 1))]) (rs := [.bool]) (an := mastlaw2_ImageRenders.a) (N := 31) (vars := [(.tmp 4)]) Try.func12 (by kernel_rfl) (by kernel_rfl) (by kernel_rfl) (by kernel_rfl) (by kernel_rfl) (by kernel_rfl) (O := mastlaw2_ImageRenders.O)
    (fun k => by unfold mastlaw2_ImageRenders.O; exact oracle_of (P := Try.prog) (C := ctx) ⟨asset_Render.ok k, ⟨mastref2_RenderOf.ok k, ⟨mastref2_Alike_at_asset_Image.ok k, trivial⟩⟩⟩) mastlaw2_ImageRenders.T trivial k (fun h => mastlaw2_ImageRenders.f_eq k h.1 h.2.1)
end Go.Proofs.Ytmjfjjnmdljkeaa.LImageRenders
