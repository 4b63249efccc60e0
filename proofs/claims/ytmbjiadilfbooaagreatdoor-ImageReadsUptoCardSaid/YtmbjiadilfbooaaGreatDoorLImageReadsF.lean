/- The functions behind the law ImageReads, checked against the code; their summaries hold. Conditions: none. -/
import Derived.Test.YtmbjiadilfbooaaGreatDoorLiftZ
import Derived.Test.YtmbjiadilfbooaaGreatDoorProg
import Derived.Test.YtmbjiadilfbooaaGreatDoorShelf
import Derived.Shelf.Strings.SlTrimAscii
namespace Go.Proofs.YtmbjiadilfbooaaGreatDoor.LImageReads
open Go Go.Proofs.YtmbjiadilfbooaaGreatDoor.Lift
set_option maxRecDepth 100000
set_option linter.unusedVariables false
structure T_asset_Image where
  fWidth : Int
  fHeight : Int
  fLevels : (List Int)
  deriving Inhabited
abbrev sgU : Nat → Type
  | 0 => T_asset_Image
  | 1 => Unit
  | 2 => Unit
  | 3 => Unit
  | 4 => Unit
  | 5 => Unit
  | 6 => Unit
  | 7 => Unit
  | 8 => Unit
  | 9 => Unit
  | 10 => Unit
  | 11 => Unit
  | 12 => Unit
  | 13 => Unit
  | 14 => Unit
  | 15 => Unit
  | 16 => Unit
  | 17 => Unit
  | 18 => Unit
  | 19 => Unit
  | 20 => Unit
  | 21 => Unit
  | 22 => Unit
  | 23 => Unit
  | 24 => Unit
  | 25 => Unit
  | 26 => Unit
  | 27 => Unit
  | 28 => Unit
  | _ + 29 => Unit
abbrev sgF : Nat → List Ty
  | 0 => [(.int .i64), (.int .i64), (.sl (.int .i64))]
  | 1 => []
  | 2 => []
  | 3 => []
  | 4 => []
  | 5 => []
  | 6 => []
  | 7 => []
  | 8 => []
  | 9 => []
  | 10 => []
  | 11 => []
  | 12 => []
  | 13 => []
  | 14 => []
  | 15 => []
  | 16 => []
  | 17 => []
  | 18 => []
  | 19 => []
  | 20 => []
  | 21 => []
  | 22 => []
  | 23 => []
  | 24 => []
  | 25 => []
  | 26 => []
  | 27 => []
  | 28 => []
  | _ + 29 => []
def sgO : (n : Nat) → sgU n → HL sgU (sgF n)
  | 0, x => (x.fWidth, x.fHeight, x.fLevels, ())
  | 1, _ => ()
  | 2, _ => ()
  | 3, _ => ()
  | 4, _ => ()
  | 5, _ => ()
  | 6, _ => ()
  | 7, _ => ()
  | 8, _ => ()
  | 9, _ => ()
  | 10, _ => ()
  | 11, _ => ()
  | 12, _ => ()
  | 13, _ => ()
  | 14, _ => ()
  | 15, _ => ()
  | 16, _ => ()
  | 17, _ => ()
  | 18, _ => ()
  | 19, _ => ()
  | 20, _ => ()
  | 21, _ => ()
  | 22, _ => ()
  | 23, _ => ()
  | 24, _ => ()
  | 25, _ => ()
  | 26, _ => ()
  | 27, _ => ()
  | 28, _ => ()
  | _ + 29, _ => ()
def sgB : (n : Nat) → HL sgU (sgF n) → sgU n
  | 0, h => ⟨h.1, h.2.1, h.2.2.1⟩
  | 1, _ => ()
  | 2, _ => ()
  | 3, _ => ()
  | 4, _ => ()
  | 5, _ => ()
  | 6, _ => ()
  | 7, _ => ()
  | 8, _ => ()
  | 9, _ => ()
  | 10, _ => ()
  | 11, _ => ()
  | 12, _ => ()
  | 13, _ => ()
  | 14, _ => ()
  | 15, _ => ()
  | 16, _ => ()
  | 17, _ => ()
  | 18, _ => ()
  | 19, _ => ()
  | 20, _ => ()
  | 21, _ => ()
  | 22, _ => ()
  | 23, _ => ()
  | 24, _ => ()
  | 25, _ => ()
  | 26, _ => ()
  | 27, _ => ()
  | 28, _ => ()
  | _ + 29, _ => ()
def sg : Sg := { U := sgU, fl := sgF, out := sgO, bld := sgB, gl := [2] }
def ctx : Ctx := { S := sg, ty := [(22, .n), (28, .n), (50, .n), (51, .n), (65, .n), (118, .n), (126, .n), (129, .n), (132, .n), (133, .n), (134, .n), (137, .n), (138, .n), (139, .n), (140, .n), (141, .n), (142, .n), (143, .n), (144, .n), (156, .n), (161, .n), (166, .n), (3, .d (.int .i64) 1 0), (5, .d (.int .u8) 1 0), (9, .d .str 1 0), (23, .d (.sl .str) 16 9), (29, .d (.int .i64) 1 0), (33, .d (.sl (.int .i64)) 8 3), (60, .d (.st 0) 1 0)], eqs := [] }
def c_empty : ByteArray := ⟨#[]⟩
def c__0a : ByteArray := ⟨#[10]⟩
def c__20 : ByteArray := ⟨#[32]⟩
def c_image : ByteArray := ⟨#[105, 109, 97, 103, 101]⟩
def c_0 : ByteArray := ⟨#[48]⟩
def c_0123456789abcdef : ByteArray := ⟨#[48, 49, 50, 51, 52, 53, 54, 55, 56, 57, 97, 98, 99, 100, 101, 102]⟩
def c_0123456789 : ByteArray := ⟨#[48, 49, 50, 51, 52, 53, 54, 55, 56, 57]⟩
def c__2d : ByteArray := ⟨#[45]⟩
theorem sg_ok : SgOk sg :=
  ⟨fun n h => by rcases n with _ | _ | _ | _ | _ | _ | _ | _ | _ | _ | _ | _ | _ | _ | _ | _ | _ | _ | _ | _ | _ | _ | _ | _ | _ | _ | _ | _ | _ | n <;> rfl, fun n => by rcases n with _ | _ | _ | _ | _ | _ | _ | _ | _ | _ | _ | _ | _ | _ | _ | _ | _ | _ | _ | _ | _ | _ | _ | _ | _ | _ | _ | _ | _ | n <;> rfl, fun n x => by rcases n with _ | _ | _ | _ | _ | _ | _ | _ | _ | _ | _ | _ | _ | _ | _ | _ | _ | _ | _ | _ | _ | _ | _ | _ | _ | _ | _ | _ | _ | n <;> rfl, fun n => by rcases n with _ | _ | _ | _ | _ | _ | _ | _ | _ | _ | _ | _ | _ | _ | _ | _ | _ | _ | _ | _ | _ | _ | _ | _ | _ | _ | _ | _ | _ | n <;> rfl⟩
theorem base_ok : Base Tryz.prog ctx := base_of sg_ok (by kernel_rfl) (eqOk_of (by kernel_rfl))
theorem open_ok : openB Tryz.prog ctx = true := by kernel_rfl
theorem mo : Tryz.prog.follows .mixedOrders = true := by kernel_rfl
def internal_stringslite_Index.f (a0 : ByteArray) (a1 : ByteArray) : Option (Int) := if a0.size < 4294967281 then some (Lib.index a0.data.toList a1.data.toList) else none
def internal_stringslite_Index.e : Entry sg := entryOf sg [(.d .str), (.d .str)] [(.int .i64)] (fun h => internal_stringslite_Index.f h.1 h.2.1)
theorem internal_stringslite_Index.ok : (internal_stringslite_Index.e).Sound Tryz.prog ctx 237 :=
  entry_extern (C := ctx) sg_ok Tryz.func237 (by kernel_rfl) (by kernel_rfl) (by kernel_rfl) (by kernel_rfl) (fun hh x w hx hG => by
    unfold internal_stringslite_Index.f at hx
    split at hx
    · rename_i c
      obtain rfl := Option.some.inj hx
      obtain ⟨m, hm⟩ := hG 2 (by simp [ctx, sg])
      have hm := cells_cell hm
      refine (Tryz.stringslite_Index hh.1 hh.2.1 m w c hm).mono ?_
      rintro e w' ⟨rfl, hb⟩
      exact ⟨rfl, by first | exact hb ▸ Grow.refl _ | exact Grow.of_below hb | (obtain ⟨k, os, rfl⟩ := hb; exact Grow.of_below (Lib.below_grow _ w (Nat.le_refl _) k os))⟩
    · cases hx)
def internal_stringslite_Cut.f (a0 : ByteArray) (a1 : ByteArray) : Option (ByteArray × ByteArray × Bool) := ((internal_stringslite_Index.f a0 a1).bind fun y1 => (bif (ile 0 y1) then ((ssub a0 0 y1).bind fun y2 => ((ssub a0 (wadd .i64 y1 (slen a1)) (slen a0)).bind fun y3 => (some (y2, y3, true)))) else (some (a0, c_empty, false))))
def internal_stringslite_Cut.O : Oracle sg := fun n => lkp n [(237, internal_stringslite_Index.e)]
def internal_stringslite_Cut.a : Ann := .z
def internal_stringslite_Cut.L : Nat → St sg.U → Option (RT sg.U [.str, .str, .bool]) := labs []
theorem internal_stringslite_Cut.f_eq (a0 : ByteArray) (a1 : ByteArray) : internal_stringslite_Cut.f a0 a1 = codeK (C := ctx) (internal_stringslite_Cut.O) ⟨23, [], []⟩ (internal_stringslite_Cut.L) (Tryz.f186.body.getD .skip) internal_stringslite_Cut.a (endK ctx [.str, .str, .bool] [(.tmp 4), (.tmp 5), (.tmp 6)]) (slotsOf sg.U 0 [(.d .str), (.d .str)] (a0, a1, ()) (empty sg.U)) := by
  unfold internal_stringslite_Cut.f
  kernel_rfl
def internal_stringslite_Cut.e : Entry sg := entryOf sg [(.d .str), (.d .str)] [.str, .str, .bool] (fun h => internal_stringslite_Cut.f h.1 h.2.1)
def internal_stringslite_Cut.T : List (Lb sg (RT sg.U [.str, .str, .bool])) := []
theorem internal_stringslite_Cut.ok : (internal_stringslite_Cut.e).Sound Tryz.prog ctx 186 :=
  entry_ok base_ok mo (fn := Tryz.f186) (b := (Tryz.f186.body.getD .skip)) (pm := [(.d .str), (.d .str)]) (rs := [.str, .str, .bool]) (an := internal_stringslite_Cut.a) (N := 23) (vars := [(.tmp 4), (.tmp 5), (.tmp 6)]) Tryz.func186 (by kernel_rfl) (by kernel_rfl) (by kernel_rfl) (by kernel_rfl) (by kernel_rfl) (by kernel_rfl) (O := fun _ => internal_stringslite_Cut.O)
    (fun _ => by unfold internal_stringslite_Cut.O; exact oracle_of (P := Tryz.prog) (C := ctx) ⟨(internal_stringslite_Index.ok), trivial⟩) internal_stringslite_Cut.T trivial 0 (fun h => internal_stringslite_Cut.f_eq h.1 h.2.1)
def strings_Cut.f (a0 : ByteArray) (a1 : ByteArray) : Option (ByteArray × ByteArray × Bool) := ((internal_stringslite_Cut.f a0 a1).bind fun y1 => (some (y1.1, y1.2.1, y1.2.2)))
def strings_Cut.O : Oracle sg := fun n => lkp n [(186, internal_stringslite_Cut.e)]
def strings_Cut.a : Ann := .z
def strings_Cut.L : Nat → St sg.U → Option (RT sg.U [.str, .str, .bool]) := labs []
theorem strings_Cut.f_eq (a0 : ByteArray) (a1 : ByteArray) : strings_Cut.f a0 a1 = codeK (C := ctx) (strings_Cut.O) ⟨13, [], []⟩ (strings_Cut.L) (Tryz.f93.body.getD .skip) strings_Cut.a (endK ctx [.str, .str, .bool] [(.tmp 4), (.tmp 5), (.tmp 6)]) (slotsOf sg.U 0 [(.d .str), (.d .str)] (a0, a1, ()) (empty sg.U)) := by
  unfold strings_Cut.f
  kernel_rfl
def strings_Cut.e : Entry sg := entryOf sg [(.d .str), (.d .str)] [.str, .str, .bool] (fun h => strings_Cut.f h.1 h.2.1)
def strings_Cut.T : List (Lb sg (RT sg.U [.str, .str, .bool])) := []
theorem strings_Cut.ok : (strings_Cut.e).Sound Tryz.prog ctx 93 :=
  entry_ok base_ok mo (fn := Tryz.f93) (b := (Tryz.f93.body.getD .skip)) (pm := [(.d .str), (.d .str)]) (rs := [.str, .str, .bool]) (an := strings_Cut.a) (N := 13) (vars := [(.tmp 4), (.tmp 5), (.tmp 6)]) Tryz.func93 (by kernel_rfl) (by kernel_rfl) (by kernel_rfl) (by kernel_rfl) (by kernel_rfl) (by kernel_rfl) (O := fun _ => strings_Cut.O)
    (fun _ => by unfold strings_Cut.O; exact oracle_of (P := Tryz.prog) (C := ctx) ⟨(internal_stringslite_Cut.ok), trivial⟩) strings_Cut.T trivial 0 (fun h => strings_Cut.f_eq h.1 h.2.1)
def strings_Split.f (a0 : ByteArray) (a1 : ByteArray) : Option ((List ByteArray)) := splitF a0 a1
def strings_Split.e : Entry sg := entryOf sg [(.d .str), (.d .str)] [(.sl .str)] (fun h => strings_Split.f h.1 h.2.1)
theorem strings_Split.ok : (strings_Split.e).Sound Tryz.prog ctx 55 :=
  split_sound (C := ctx) sg_ok Tryz.func55 (by kernel_rfl) (by kernel_rfl) (kM := 2) (fun w hG => by obtain ⟨m, hm⟩ := hG 2 (by simp [ctx, sg]); exact ⟨m, cells_cell hm⟩) (fun s sep m w hs hm h1 => Tryz.strings_Split s sep m w hs hm h1)
def asset_isDigit.f (a0 : Int) : Option (Bool) := (some (bif (ile 48 a0) then (ile a0 57) else false))
def asset_isDigit.O : Oracle sg := fun n => lkp n []
def asset_isDigit.a : Ann := .z
def asset_isDigit.L : Nat → St sg.U → Option (RT sg.U [.bool]) := labs []
theorem asset_isDigit.f_eq (a0 : Int) : asset_isDigit.f a0 = codeK (C := ctx) (asset_isDigit.O) ⟨9, [], []⟩ (asset_isDigit.L) (Tryz.f187.body.getD .skip) asset_isDigit.a (endK ctx [.bool] [(.tmp 2)]) (slotsOf sg.U 0 [(.d (.int .u8))] (a0, ()) (empty sg.U)) := by
  unfold asset_isDigit.f
  kernel_rfl
def asset_isDigit.e : Entry sg := entryOf sg [(.d (.int .u8))] [.bool] (fun h => asset_isDigit.f h.1)
def asset_isDigit.T : List (Lb sg (RT sg.U [.bool])) := []
theorem asset_isDigit.ok : (asset_isDigit.e).Sound Tryz.prog ctx 187 :=
  entry_ok base_ok mo (fn := Tryz.f187) (b := (Tryz.f187.body.getD .skip)) (pm := [(.d (.int .u8))]) (rs := [.bool]) (an := asset_isDigit.a) (N := 9) (vars := [(.tmp 2)]) Tryz.func187 (by kernel_rfl) (by kernel_rfl) (by kernel_rfl) (by kernel_rfl) (by kernel_rfl) (by kernel_rfl) (O := fun _ => asset_isDigit.O)
    (fun _ => by unfold asset_isDigit.O; exact oracle_of (P := Tryz.prog) (C := ctx) trivial) asset_isDigit.T trivial 0 (fun h => asset_isDigit.f_eq h.1)
def asset_side.l0 : Nat → ByteArray → Int → Int → Option (Int × Bool)
  | 0, _, _, _ => none
  | k + 1, x0, x4, x5 => (bif (ilt x5 (slen x0)) then ((sat x0 x5).bind fun y2 => ((asset_isDigit.f y2).bind fun y3 => (bif (!y3) then (some (0, false)) else ((sat x0 x5).bind fun y4 => (asset_side.l0 k x0 (wadd .i64 (wmul .i64 10 x4) (wcv .i64 (wsub .u8 y4 48))) (wadd .i64 x5 1)))))) else (some (x4, true)))
def asset_side.f (k : Nat) (a0 : ByteArray) : Option (Int × Bool) := (bif (bif (seq a0 c_empty) then true else (ilt 4 (slen a0))) then (some (0, false)) else ((sat a0 0).bind fun y1 => (bif (bif (ieq y1 48) then (!seq a0 c_0) else false) then (some (0, false)) else (asset_side.l0 k a0 0 0))))
def asset_side.O (k : Nat) : Oracle sg := fun n => lkp n [(187, asset_isDigit.e)]
def asset_side.a : Ann := (.n .z (.n .z (.n .z (.n (.n .z (.lp 0 .z)) .z))))
def asset_side.L (k : Nat) : Nat → St sg.U → Option (RT sg.U [(.int .i64), .bool]) := labs [(0, labOf sg [(0, (.d .str)), (4, (.d (.int .i64))), (5, (.d (.int .i64)))] (fun h => asset_side.l0 k h.1 h.2.1 h.2.2.1))]
theorem asset_side.l0_eq (k : Nat) (x0 : ByteArray) (x4 : Int) (x5 : Int) : asset_side.l0 (k + 1) x0 x4 x5 = runFrom (C := ctx) (asset_side.O k) ⟨42, [], []⟩ (asset_side.L k) (Tryz.f94.body.getD .skip) asset_side.a 0 (endK ctx [(.int .i64), .bool] [(.tmp 2), (.tmp 3)]) (encD [(0, (.d .str)), (4, (.d (.int .i64))), (5, (.d (.int .i64)))] (x0, x4, x5, ()) (startD sg.U ⟨42, [], []⟩ [(0, (.d .str)), (4, (.d (.int .i64))), (5, (.d (.int .i64)))])) := by
  rw [asset_side.l0]
  kernel_rfl
theorem asset_side.f_eq (k : Nat) (a0 : ByteArray) : asset_side.f k a0 = codeK (C := ctx) (asset_side.O k) ⟨42, [], []⟩ (asset_side.L k) (Tryz.f94.body.getD .skip) asset_side.a (endK ctx [(.int .i64), .bool] [(.tmp 2), (.tmp 3)]) (slotsOf sg.U 0 [(.d .str)] (a0, ()) (empty sg.U)) := by
  unfold asset_side.f
  kernel_rfl
def asset_side.e (k : Nat) : Entry sg := entryOf sg [(.d .str)] [(.int .i64), .bool] (fun h => asset_side.f k h.1)
def asset_side.T : List (Lb sg (RT sg.U [(.int .i64), .bool])) := [⟨0, [(0, (.d .str)), (4, (.d (.int .i64))), (5, (.d (.int .i64)))], fun k h => asset_side.l0 k h.1 h.2.1 h.2.2.1⟩]
theorem asset_side.ok (k : Nat) : (asset_side.e k).Sound Tryz.prog ctx 94 :=
  entry_ok base_ok mo (fn := Tryz.f94) (b := (Tryz.f94.body.getD .skip)) (pm := [(.d .str)]) (rs := [(.int .i64), .bool]) (an := asset_side.a) (N := 42) (vars := [(.tmp 2), (.tmp 3)]) Tryz.func94 (by kernel_rfl) (by kernel_rfl) (by kernel_rfl) (by kernel_rfl) (by kernel_rfl) (by kernel_rfl) (O := asset_side.O)
    (fun k => by unfold asset_side.O; exact oracle_of (P := Tryz.prog) (C := ctx) ⟨(asset_isDigit.ok), trivial⟩) asset_side.T ⟨⟨by kernel_rfl, fun _ => by first | rfl | rw [asset_side.l0], fun k h => asset_side.l0_eq k h.1 h.2.1 h.2.2.1⟩, trivial⟩ k (fun h => asset_side.f_eq k h.1)
def strings_IndexByte.f (a0 : ByteArray) (a1 : Int) : Option (Int) := some (Lib.indexByte a0.data.toList a1.toNat.toUInt8)
def strings_IndexByte.e : Entry sg := entryOf sg [(.d .str), (.d (.int .u8))] [(.int .i64)] (fun h => strings_IndexByte.f h.1 h.2.1)
theorem strings_IndexByte.ok : (strings_IndexByte.e).Sound Tryz.prog ctx 95 :=
  entry_extern (C := ctx) sg_ok Tryz.func95 (by kernel_rfl) (by kernel_rfl) (by kernel_rfl) (by kernel_rfl) (fun hh x w hx hG => by
    obtain rfl := Option.some.inj hx
    refine (Tryz.strings_IndexByte hh.1 hh.2.1 w).mono ?_
    rintro e w' ⟨rfl, hb⟩
    exact ⟨rfl, by first | exact hb ▸ Grow.refl _ | exact Grow.of_below hb | (obtain ⟨k, os, rfl⟩ := hb; exact Grow.of_below (Lib.below_grow _ w (Nat.le_refl _) k os))⟩)
def asset_isSide.f (a0 : Int) : Option (Bool) := (some (bif (ile 1 a0) then (ile a0 64) else false))
def asset_isSide.O : Oracle sg := fun n => lkp n []
def asset_isSide.a : Ann := .z
def asset_isSide.L : Nat → St sg.U → Option (RT sg.U [.bool]) := labs []
theorem asset_isSide.f_eq (a0 : Int) : asset_isSide.f a0 = codeK (C := ctx) (asset_isSide.O) ⟨9, [], []⟩ (asset_isSide.L) (Tryz.f189.body.getD .skip) asset_isSide.a (endK ctx [.bool] [(.tmp 2)]) (slotsOf sg.U 0 [(.d (.int .i64))] (a0, ()) (empty sg.U)) := by
  unfold asset_isSide.f
  kernel_rfl
def asset_isSide.e : Entry sg := entryOf sg [(.d (.int .i64))] [.bool] (fun h => asset_isSide.f h.1)
def asset_isSide.T : List (Lb sg (RT sg.U [.bool])) := []
theorem asset_isSide.ok : (asset_isSide.e).Sound Tryz.prog ctx 189 :=
  entry_ok base_ok mo (fn := Tryz.f189) (b := (Tryz.f189.body.getD .skip)) (pm := [(.d (.int .i64))]) (rs := [.bool]) (an := asset_isSide.a) (N := 9) (vars := [(.tmp 2)]) Tryz.func189 (by kernel_rfl) (by kernel_rfl) (by kernel_rfl) (by kernel_rfl) (by kernel_rfl) (by kernel_rfl) (O := fun _ => asset_isSide.O)
    (fun _ => by unfold asset_isSide.O; exact oracle_of (P := Tryz.prog) (C := ctx) trivial) asset_isSide.T trivial 0 (fun h => asset_isSide.f_eq h.1)
def asset_CheckImage.l0 : Nat → (List Int) → Int → Int → Option (Int)
  | 0, _, _, _ => none
  | k + 1, x25, x26, x27 => (bif (ilt x27 x26) then ((lat x25 x27).bind fun y3 => (bif (bif (ilt y3 0) then true else (ilt 15 y3)) then (some 2) else (asset_CheckImage.l0 k x25 x26 (wadd .i64 x27 1)))) else (some 0))
def asset_CheckImage.f (k : Nat) (a0 : T_asset_Image) : Option (Int) := ((asset_isSide.f a0.fWidth).bind fun y1 => (bif (!y1) then (some 2) else ((asset_isSide.f a0.fHeight).bind fun y2 => (bif (!y2) then (some 2) else (bif (!ieq (llen a0.fLevels) (wmul .i64 a0.fWidth a0.fHeight)) then (some 1) else (asset_CheckImage.l0 k a0.fLevels (llen a0.fLevels) 0))))))
def asset_CheckImage.O (k : Nat) : Oracle sg := fun n => lkp n [(189, asset_isSide.e)]
def asset_CheckImage.a : Ann := (.n .z (.n .z (.n .z (.n (.n .z (.lp 0 .z)) .z))))
def asset_CheckImage.L (k : Nat) : Nat → St sg.U → Option (RT sg.U [(.int .i64)]) := labs [(0, labOf sg [(25, (.d (.sl (.int .i64)))), (26, (.d (.int .i64))), (27, (.d (.int .i64)))] (fun h => asset_CheckImage.l0 k h.1 h.2.1 h.2.2.1))]
theorem asset_CheckImage.l0_eq (k : Nat) (x25 : (List Int)) (x26 : Int) (x27 : Int) : asset_CheckImage.l0 (k + 1) x25 x26 x27 = runFrom (C := ctx) (asset_CheckImage.O k) ⟨38, [], []⟩ (asset_CheckImage.L k) (Tryz.f96.body.getD .skip) asset_CheckImage.a 0 (endK ctx [(.int .i64)] [(.tmp 2)]) (encD [(25, (.d (.sl (.int .i64)))), (26, (.d (.int .i64))), (27, (.d (.int .i64)))] (x25, x26, x27, ()) (startD sg.U ⟨38, [], []⟩ [(25, (.d (.sl (.int .i64)))), (26, (.d (.int .i64))), (27, (.d (.int .i64)))])) := by
  rw [asset_CheckImage.l0]
  kernel_rfl
theorem asset_CheckImage.f_eq (k : Nat) (a0 : T_asset_Image) : asset_CheckImage.f k a0 = codeK (C := ctx) (asset_CheckImage.O k) ⟨38, [], []⟩ (asset_CheckImage.L k) (Tryz.f96.body.getD .skip) asset_CheckImage.a (endK ctx [(.int .i64)] [(.tmp 2)]) (slotsOf sg.U 0 [(.d (.st 0))] (a0, ()) (empty sg.U)) := by
  unfold asset_CheckImage.f
  kernel_rfl
def asset_CheckImage.e (k : Nat) : Entry sg := entryOf sg [(.d (.st 0))] [(.int .i64)] (fun h => asset_CheckImage.f k h.1)
def asset_CheckImage.T : List (Lb sg (RT sg.U [(.int .i64)])) := [⟨0, [(25, (.d (.sl (.int .i64)))), (26, (.d (.int .i64))), (27, (.d (.int .i64)))], fun k h => asset_CheckImage.l0 k h.1 h.2.1 h.2.2.1⟩]
theorem asset_CheckImage.ok (k : Nat) : (asset_CheckImage.e k).Sound Tryz.prog ctx 96 :=
  entry_ok base_ok mo (fn := Tryz.f96) (b := (Tryz.f96.body.getD .skip)) (pm := [(.d (.st 0))]) (rs := [(.int .i64)]) (an := asset_CheckImage.a) (N := 38) (vars := [(.tmp 2)]) Tryz.func96 (by kernel_rfl) (by kernel_rfl) (by kernel_rfl) (by kernel_rfl) (by kernel_rfl) (by kernel_rfl) (O := asset_CheckImage.O)
    (fun k => by unfold asset_CheckImage.O; exact oracle_of (P := Tryz.prog) (C := ctx) ⟨(asset_isSide.ok), trivial⟩) asset_CheckImage.T ⟨⟨by kernel_rfl, fun _ => by first | rfl | rw [asset_CheckImage.l0], fun k h => asset_CheckImage.l0_eq k h.1 h.2.1 h.2.2.1⟩, trivial⟩ k (fun h => asset_CheckImage.f_eq k h.1)
mutual
def asset_ReadImage.l0 : Nat → Int → Int → (List Int) → ByteArray → (List ByteArray) → Bool → Option (T_asset_Image × Int)
  | 0, _, _, _, _, _, _ => none
  | k + 1, x2_0, x2_1, x2_2, x5, x7, x40 => (bif x40 then (some ((T_asset_Image.mk 0 0 []), 8)) else ((lat x7 1).bind fun y4 => ((asset_side.f k y4).bind fun y5 => ((lat x7 2).bind fun y6 => ((asset_side.f k y6).bind fun y7 => (bif (bif (bif (!y5.2) then true else (!y7.2)) then true else (!ieq (slen x5) (wmul .i64 y7.1 (wadd .i64 y5.1 1)))) then (some ((T_asset_Image.mk 0 0 []), 8)) else (asset_ReadImage.l1 k x2_0 x2_1 x2_2 x5 y5.1 y5.1 y7.1 [] 0)))))))
def asset_ReadImage.l1 : Nat → Int → Int → (List Int) → ByteArray → Int → Int → Int → (List Int) → Int → Option (T_asset_Image × Int)
  | 0, _, _, _, _, _, _, _, _, _ => none
  | k + 1, x2_0, x2_1, x2_2, x5, x8, x12_0, x12_1, x12_2, x13 => (bif (ilt x13 (slen x5)) then (bif ieq (wadd .i64 x8 1) 0 then none else (bif (ieq (irem x13 (wadd .i64 x8 1)) x8) then ((sat x5 x13).bind fun y8 => (bif (!ieq y8 10) then (some ((T_asset_Image.mk 0 0 []), 8)) else (asset_ReadImage.l1 k x2_0 x2_1 x2_2 x5 x8 x12_0 x12_1 x12_2 (wadd .i64 x13 1)))) else ((sat x5 x13).bind fun y9 => ((strings_IndexByte.f c_0123456789abcdef y9).bind fun y10 => (bif (ilt y10 0) then (some ((T_asset_Image.mk 0 0 []), 8)) else ((lapp 8 x12_2 [y10]).bind fun y11 => (asset_ReadImage.l1 k x2_0 x2_1 x2_2 x5 x8 x12_0 x12_1 y11 (wadd .i64 x13 1)))))))) else ((asset_CheckImage.f k (T_asset_Image.mk x12_0 x12_1 x12_2)).bind fun y12 => (bif (!ieq y12 0) then (some ((T_asset_Image.mk 0 0 []), y12)) else (some ((T_asset_Image.mk x12_0 x12_1 x12_2), 0)))))
end
def asset_ReadImage.f (k : Nat) (a0 : ByteArray) : Option (T_asset_Image × Int) := (bif (ilt 20000 (slen a0)) then (some ((T_asset_Image.mk 0 0 []), 4)) else ((strings_Cut.f a0 c__0a).bind fun y1 => ((strings_Split.f y1.1 c__20).bind fun y2 => (bif (bif (!y1.2.2) then true else (!ieq (llen y2) 3)) then (asset_ReadImage.l0 k 0 0 [] y1.2.1 y2 true) else ((lat y2 0).bind fun y3 => (asset_ReadImage.l0 k 0 0 [] y1.2.1 y2 (!seq y3 c_image)))))))
def asset_ReadImage.O (k : Nat) : Oracle sg := fun n => lkp n [(55, strings_Split.e), (93, strings_Cut.e), (94, asset_side.e k), (95, strings_IndexByte.e), (96, asset_CheckImage.e k)]
def asset_ReadImage.a : Ann := (.n .z (.n .z (.n .z (.n .z (.n (.n .z (.lab 0 .z)) (.n .z (.n .z (.n .z (.n .z (.n (.n .z (.lp 1 .z)) .z))))))))))
def asset_ReadImage.L (k : Nat) : Nat → St sg.U → Option (RT sg.U [(.st 0), (.int .i64)]) := labs [(0, labOf sg [(2, (.box [.d (.int .i64), .d (.int .i64), .row 3 (.int .i64)])), (5, (.d .str)), (7, (.d (.sl .str))), (40, (.d .bool))] (fun h => asset_ReadImage.l0 k h.1 h.2.1 h.2.2.1 h.2.2.2.1 h.2.2.2.2.1 h.2.2.2.2.2.1)), (1, labOf sg [(2, (.box [.d (.int .i64), .d (.int .i64), .row 3 (.int .i64)])), (5, (.d .str)), (8, (.d (.int .i64))), (12, (.box [.d (.int .i64), .d (.int .i64), .row 3 (.int .i64)])), (13, (.d (.int .i64)))] (fun h => asset_ReadImage.l1 k h.1 h.2.1 h.2.2.1 h.2.2.2.1 h.2.2.2.2.1 h.2.2.2.2.2.1 h.2.2.2.2.2.2.1 h.2.2.2.2.2.2.2.1 h.2.2.2.2.2.2.2.2.1))]
theorem asset_ReadImage.l0_eq (k : Nat) (x2_0 : Int) (x2_1 : Int) (x2_2 : (List Int)) (x5 : ByteArray) (x7 : (List ByteArray)) (x40 : Bool) : asset_ReadImage.l0 (k + 1) x2_0 x2_1 x2_2 x5 x7 x40 = runFrom (C := ctx) (asset_ReadImage.O k) ⟨112, [], []⟩ (asset_ReadImage.L k) (Tryz.f27.body.getD .skip) asset_ReadImage.a 0 (endK ctx [(.st 0), (.int .i64)] [(.cell 2 60), (.tmp 3)]) (encD [(2, (.box [.d (.int .i64), .d (.int .i64), .row 3 (.int .i64)])), (5, (.d .str)), (7, (.d (.sl .str))), (40, (.d .bool))] (x2_0, x2_1, x2_2, x5, x7, x40, ()) (startD sg.U ⟨112, [], []⟩ [(2, (.box [.d (.int .i64), .d (.int .i64), .row 3 (.int .i64)])), (5, (.d .str)), (7, (.d (.sl .str))), (40, (.d .bool))])) := by
  rw [asset_ReadImage.l0]
  kernel_rfl
theorem asset_ReadImage.l1_eq (k : Nat) (x2_0 : Int) (x2_1 : Int) (x2_2 : (List Int)) (x5 : ByteArray) (x8 : Int) (x12_0 : Int) (x12_1 : Int) (x12_2 : (List Int)) (x13 : Int) : asset_ReadImage.l1 (k + 1) x2_0 x2_1 x2_2 x5 x8 x12_0 x12_1 x12_2 x13 = runFrom (C := ctx) (asset_ReadImage.O k) ⟨112, [], []⟩ (asset_ReadImage.L k) (Tryz.f27.body.getD .skip) asset_ReadImage.a 1 (endK ctx [(.st 0), (.int .i64)] [(.cell 2 60), (.tmp 3)]) (encD [(2, (.box [.d (.int .i64), .d (.int .i64), .row 3 (.int .i64)])), (5, (.d .str)), (8, (.d (.int .i64))), (12, (.box [.d (.int .i64), .d (.int .i64), .row 3 (.int .i64)])), (13, (.d (.int .i64)))] (x2_0, x2_1, x2_2, x5, x8, x12_0, x12_1, x12_2, x13, ()) (startD sg.U ⟨112, [], []⟩ [(2, (.box [.d (.int .i64), .d (.int .i64), .row 3 (.int .i64)])), (5, (.d .str)), (8, (.d (.int .i64))), (12, (.box [.d (.int .i64), .d (.int .i64), .row 3 (.int .i64)])), (13, (.d (.int .i64)))])) := by
  rw [asset_ReadImage.l1]
  kernel_rfl
theorem asset_ReadImage.f_eq (k : Nat) (a0 : ByteArray) : asset_ReadImage.f k a0 = codeK (C := ctx) (asset_ReadImage.O k) ⟨112, [], []⟩ (asset_ReadImage.L k) (Tryz.f27.body.getD .skip) asset_ReadImage.a (endK ctx [(.st 0), (.int .i64)] [(.cell 2 60), (.tmp 3)]) (slotsOf sg.U 0 [(.d .str)] (a0, ()) (empty sg.U)) := by
  unfold asset_ReadImage.f
  kernel_rfl
def asset_ReadImage.e (k : Nat) : Entry sg := entryOf sg [(.d .str)] [(.st 0), (.int .i64)] (fun h => asset_ReadImage.f k h.1)
def asset_ReadImage.T : List (Lb sg (RT sg.U [(.st 0), (.int .i64)])) := [⟨0, [(2, (.box [.d (.int .i64), .d (.int .i64), .row 3 (.int .i64)])), (5, (.d .str)), (7, (.d (.sl .str))), (40, (.d .bool))], fun k h => asset_ReadImage.l0 k h.1 h.2.1 h.2.2.1 h.2.2.2.1 h.2.2.2.2.1 h.2.2.2.2.2.1⟩, ⟨1, [(2, (.box [.d (.int .i64), .d (.int .i64), .row 3 (.int .i64)])), (5, (.d .str)), (8, (.d (.int .i64))), (12, (.box [.d (.int .i64), .d (.int .i64), .row 3 (.int .i64)])), (13, (.d (.int .i64)))], fun k h => asset_ReadImage.l1 k h.1 h.2.1 h.2.2.1 h.2.2.2.1 h.2.2.2.2.1 h.2.2.2.2.2.1 h.2.2.2.2.2.2.1 h.2.2.2.2.2.2.2.1 h.2.2.2.2.2.2.2.2.1⟩]
theorem asset_ReadImage.ok (k : Nat) : (asset_ReadImage.e k).Sound Tryz.prog ctx 27 :=
  entry_ok base_ok mo (fn := Tryz.f27) (b := (Tryz.f27.body.getD .skip)) (pm := [(.d .str)]) (rs := [(.st 0), (.int .i64)]) (an := asset_ReadImage.a) (N := 112) (vars := [(.cell 2 60), (.tmp 3)]) Tryz.func27 (by kernel_rfl) (by kernel_rfl) (by kernel_rfl) (by kernel_rfl) (by kernel_rfl) (by kernel_rfl) (O := asset_ReadImage.O)
    (fun k => by unfold asset_ReadImage.O; exact oracle_of (P := Tryz.prog) (C := ctx) ⟨(strings_Split.ok), ⟨(strings_Cut.ok), ⟨(asset_side.ok k), ⟨(strings_IndexByte.ok), ⟨(asset_CheckImage.ok k), trivial⟩⟩⟩⟩⟩) asset_ReadImage.T ⟨⟨by kernel_rfl, fun _ => by first | rfl | rw [asset_ReadImage.l0], fun k h => asset_ReadImage.l0_eq k h.1 h.2.1 h.2.2.1 h.2.2.2.1 h.2.2.2.2.1 h.2.2.2.2.2.1⟩, ⟨⟨by kernel_rfl, fun _ => by first | rfl | rw [asset_ReadImage.l1], fun k h => asset_ReadImage.l1_eq k h.1 h.2.1 h.2.2.1 h.2.2.2.1 h.2.2.2.2.1 h.2.2.2.2.2.1 h.2.2.2.2.2.2.1 h.2.2.2.2.2.2.2.1 h.2.2.2.2.2.2.2.2.1⟩, trivial⟩⟩ k (fun h => asset_ReadImage.f_eq k h.1)
def strings_Trim.f (a0 : ByteArray) (a1 : ByteArray) : Option (ByteArray) := if a0.size ≤ 9223372036854775807 ∧ a1.size < 4294967281 ∧ (a1.data.toList.all fun b => decide (b.toNat < 128)) = true then some (⟨(Lib.trimS a0.data.toList a1.data.toList).toArray⟩) else none
def strings_Trim.e : Entry sg := entryOf sg [(.d .str), (.d .str)] [.str] (fun h => strings_Trim.f h.1 h.2.1)
theorem strings_Trim.ok : (strings_Trim.e).Sound Tryz.prog ctx 101 :=
  entry_extern (C := ctx) sg_ok Tryz.func101 (by kernel_rfl) (by kernel_rfl) (by kernel_rfl) (by kernel_rfl) (fun hh x w hx hG => by
    unfold strings_Trim.f at hx
    split at hx
    · rename_i c
      obtain rfl := Option.some.inj hx
      refine (Any.strings_Trim_laid Tryz.lays160 (by kernel_rfl) hh.1 hh.2.1 w c.1 c.2.1 (ascii_of_all c.2.2)).mono ?_
      rintro e w' ⟨rfl, hb⟩
      exact ⟨rfl, by first | exact hb ▸ Grow.refl _ | exact Grow.of_below hb | (obtain ⟨k, os, rfl⟩ := hb; exact Grow.of_below (Lib.below_grow _ w (Nat.le_refl _) k os))⟩
    · cases hx)
def mastref2_digitsAlone.f (a0 : ByteArray) : Option (Bool) := (bif (!seq a0 c_empty) then ((strings_Trim.f a0 c_0123456789).bind fun y1 => (some (seq y1 c_empty))) else (some false))
def mastref2_digitsAlone.O : Oracle sg := fun n => lkp n [(101, strings_Trim.e)]
def mastref2_digitsAlone.a : Ann := .z
def mastref2_digitsAlone.L : Nat → St sg.U → Option (RT sg.U [.bool]) := labs []
theorem mastref2_digitsAlone.f_eq (a0 : ByteArray) : mastref2_digitsAlone.f a0 = codeK (C := ctx) (mastref2_digitsAlone.O) ⟨10, [], []⟩ (mastref2_digitsAlone.L) (Tryz.f98.body.getD .skip) mastref2_digitsAlone.a (endK ctx [.bool] [(.tmp 2)]) (slotsOf sg.U 0 [(.d .str)] (a0, ()) (empty sg.U)) := by
  unfold mastref2_digitsAlone.f
  kernel_rfl
def mastref2_digitsAlone.e : Entry sg := entryOf sg [(.d .str)] [.bool] (fun h => mastref2_digitsAlone.f h.1)
def mastref2_digitsAlone.T : List (Lb sg (RT sg.U [.bool])) := []
theorem mastref2_digitsAlone.ok : (mastref2_digitsAlone.e).Sound Tryz.prog ctx 98 :=
  entry_ok base_ok mo (fn := Tryz.f98) (b := (Tryz.f98.body.getD .skip)) (pm := [(.d .str)]) (rs := [.bool]) (an := mastref2_digitsAlone.a) (N := 10) (vars := [(.tmp 2)]) Tryz.func98 (by kernel_rfl) (by kernel_rfl) (by kernel_rfl) (by kernel_rfl) (by kernel_rfl) (by kernel_rfl) (O := fun _ => mastref2_digitsAlone.O)
    (fun _ => by unfold mastref2_digitsAlone.O; exact oracle_of (P := Tryz.prog) (C := ctx) ⟨(strings_Trim.ok), trivial⟩) mastref2_digitsAlone.T trivial 0 (fun h => mastref2_digitsAlone.f_eq h.1)
def internal_stringslite_HasPrefix.f (a0 : ByteArray) (a1 : ByteArray) : Option (Bool) := (bif (ile (slen a1) (slen a0)) then ((ssub a0 0 (slen a1)).bind fun y1 => (some (seq y1 a1))) else (some false))
def internal_stringslite_HasPrefix.O : Oracle sg := fun n => lkp n []
def internal_stringslite_HasPrefix.a : Ann := .z
def internal_stringslite_HasPrefix.L : Nat → St sg.U → Option (RT sg.U [.bool]) := labs []
theorem internal_stringslite_HasPrefix.f_eq (a0 : ByteArray) (a1 : ByteArray) : internal_stringslite_HasPrefix.f a0 a1 = codeK (C := ctx) (internal_stringslite_HasPrefix.O) ⟨18, [], []⟩ (internal_stringslite_HasPrefix.L) (Tryz.f214.body.getD .skip) internal_stringslite_HasPrefix.a (endK ctx [.bool] [(.tmp 4)]) (slotsOf sg.U 0 [(.d .str), (.d .str)] (a0, a1, ()) (empty sg.U)) := by
  unfold internal_stringslite_HasPrefix.f
  kernel_rfl
def internal_stringslite_HasPrefix.e : Entry sg := entryOf sg [(.d .str), (.d .str)] [.bool] (fun h => internal_stringslite_HasPrefix.f h.1 h.2.1)
def internal_stringslite_HasPrefix.T : List (Lb sg (RT sg.U [.bool])) := []
theorem internal_stringslite_HasPrefix.ok : (internal_stringslite_HasPrefix.e).Sound Tryz.prog ctx 214 :=
  entry_ok base_ok mo (fn := Tryz.f214) (b := (Tryz.f214.body.getD .skip)) (pm := [(.d .str), (.d .str)]) (rs := [.bool]) (an := internal_stringslite_HasPrefix.a) (N := 18) (vars := [(.tmp 4)]) Tryz.func214 (by kernel_rfl) (by kernel_rfl) (by kernel_rfl) (by kernel_rfl) (by kernel_rfl) (by kernel_rfl) (O := fun _ => internal_stringslite_HasPrefix.O)
    (fun _ => by unfold internal_stringslite_HasPrefix.O; exact oracle_of (P := Tryz.prog) (C := ctx) trivial) internal_stringslite_HasPrefix.T trivial 0 (fun h => internal_stringslite_HasPrefix.f_eq h.1 h.2.1)
def internal_stringslite_TrimPrefix.f (a0 : ByteArray) (a1 : ByteArray) : Option (ByteArray) := ((internal_stringslite_HasPrefix.f a0 a1).bind fun y1 => (bif y1 then ((ssub a0 (slen a1) (slen a0)).bind fun y2 => (some y2)) else (some a0)))
def internal_stringslite_TrimPrefix.O : Oracle sg := fun n => lkp n [(214, internal_stringslite_HasPrefix.e)]
def internal_stringslite_TrimPrefix.a : Ann := .z
def internal_stringslite_TrimPrefix.L : Nat → St sg.U → Option (RT sg.U [.str]) := labs []
theorem internal_stringslite_TrimPrefix.f_eq (a0 : ByteArray) (a1 : ByteArray) : internal_stringslite_TrimPrefix.f a0 a1 = codeK (C := ctx) (internal_stringslite_TrimPrefix.O) ⟨13, [], []⟩ (internal_stringslite_TrimPrefix.L) (Tryz.f239.body.getD .skip) internal_stringslite_TrimPrefix.a (endK ctx [.str] [(.tmp 4)]) (slotsOf sg.U 0 [(.d .str), (.d .str)] (a0, a1, ()) (empty sg.U)) := by
  unfold internal_stringslite_TrimPrefix.f
  kernel_rfl
def internal_stringslite_TrimPrefix.e : Entry sg := entryOf sg [(.d .str), (.d .str)] [.str] (fun h => internal_stringslite_TrimPrefix.f h.1 h.2.1)
def internal_stringslite_TrimPrefix.T : List (Lb sg (RT sg.U [.str])) := []
theorem internal_stringslite_TrimPrefix.ok : (internal_stringslite_TrimPrefix.e).Sound Tryz.prog ctx 239 :=
  entry_ok base_ok mo (fn := Tryz.f239) (b := (Tryz.f239.body.getD .skip)) (pm := [(.d .str), (.d .str)]) (rs := [.str]) (an := internal_stringslite_TrimPrefix.a) (N := 13) (vars := [(.tmp 4)]) Tryz.func239 (by kernel_rfl) (by kernel_rfl) (by kernel_rfl) (by kernel_rfl) (by kernel_rfl) (by kernel_rfl) (O := fun _ => internal_stringslite_TrimPrefix.O)
    (fun _ => by unfold internal_stringslite_TrimPrefix.O; exact oracle_of (P := Tryz.prog) (C := ctx) ⟨(internal_stringslite_HasPrefix.ok), trivial⟩) internal_stringslite_TrimPrefix.T trivial 0 (fun h => internal_stringslite_TrimPrefix.f_eq h.1 h.2.1)
def strings_TrimPrefix.f (a0 : ByteArray) (a1 : ByteArray) : Option (ByteArray) := ((internal_stringslite_TrimPrefix.f a0 a1).bind fun y1 => (some y1))
def strings_TrimPrefix.O : Oracle sg := fun n => lkp n [(239, internal_stringslite_TrimPrefix.e)]
def strings_TrimPrefix.a : Ann := .z
def strings_TrimPrefix.L : Nat → St sg.U → Option (RT sg.U [.str]) := labs []
theorem strings_TrimPrefix.f_eq (a0 : ByteArray) (a1 : ByteArray) : strings_TrimPrefix.f a0 a1 = codeK (C := ctx) (strings_TrimPrefix.O) ⟨8, [], []⟩ (strings_TrimPrefix.L) (Tryz.f190.body.getD .skip) strings_TrimPrefix.a (endK ctx [.str] [(.tmp 4)]) (slotsOf sg.U 0 [(.d .str), (.d .str)] (a0, a1, ()) (empty sg.U)) := by
  unfold strings_TrimPrefix.f
  kernel_rfl
def strings_TrimPrefix.e : Entry sg := entryOf sg [(.d .str), (.d .str)] [.str] (fun h => strings_TrimPrefix.f h.1 h.2.1)
def strings_TrimPrefix.T : List (Lb sg (RT sg.U [.str])) := []
theorem strings_TrimPrefix.ok : (strings_TrimPrefix.e).Sound Tryz.prog ctx 190 :=
  entry_ok base_ok mo (fn := Tryz.f190) (b := (Tryz.f190.body.getD .skip)) (pm := [(.d .str), (.d .str)]) (rs := [.str]) (an := strings_TrimPrefix.a) (N := 8) (vars := [(.tmp 4)]) Tryz.func190 (by kernel_rfl) (by kernel_rfl) (by kernel_rfl) (by kernel_rfl) (by kernel_rfl) (by kernel_rfl) (O := fun _ => strings_TrimPrefix.O)
    (fun _ => by unfold strings_TrimPrefix.O; exact oracle_of (P := Tryz.prog) (C := ctx) ⟨(internal_stringslite_TrimPrefix.ok), trivial⟩) strings_TrimPrefix.T trivial 0 (fun h => strings_TrimPrefix.f_eq h.1 h.2.1)
def mastref2_intForm.f (a0 : ByteArray) : Option (Bool) := ((strings_TrimPrefix.f a0 c__2d).bind fun y1 => ((mastref2_digitsAlone.f y1).bind fun y2 => (bif y2 then ((sat y1 0).bind fun y3 => (some (bif (!ieq y3 48) then true else (bif (seq y1 c_0) then (seq a0 c_0) else false)))) else (some false))))
def mastref2_intForm.O : Oracle sg := fun n => lkp n [(98, mastref2_digitsAlone.e), (190, strings_TrimPrefix.e)]
def mastref2_intForm.a : Ann := .z
def mastref2_intForm.L : Nat → St sg.U → Option (RT sg.U [.bool]) := labs []
theorem mastref2_intForm.f_eq (a0 : ByteArray) : mastref2_intForm.f a0 = codeK (C := ctx) (mastref2_intForm.O) ⟨21, [], []⟩ (mastref2_intForm.L) (Tryz.f99.body.getD .skip) mastref2_intForm.a (endK ctx [.bool] [(.tmp 2)]) (slotsOf sg.U 0 [(.d .str)] (a0, ()) (empty sg.U)) := by
  unfold mastref2_intForm.f
  kernel_rfl
def mastref2_intForm.e : Entry sg := entryOf sg [(.d .str)] [.bool] (fun h => mastref2_intForm.f h.1)
def mastref2_intForm.T : List (Lb sg (RT sg.U [.bool])) := []
theorem mastref2_intForm.ok : (mastref2_intForm.e).Sound Tryz.prog ctx 99 :=
  entry_ok base_ok mo (fn := Tryz.f99) (b := (Tryz.f99.body.getD .skip)) (pm := [(.d .str)]) (rs := [.bool]) (an := mastref2_intForm.a) (N := 21) (vars := [(.tmp 2)]) Tryz.func99 (by kernel_rfl) (by kernel_rfl) (by kernel_rfl) (by kernel_rfl) (by kernel_rfl) (by kernel_rfl) (O := fun _ => mastref2_intForm.O)
    (fun _ => by unfold mastref2_intForm.O; exact oracle_of (P := Tryz.prog) (C := ctx) ⟨(mastref2_digitsAlone.ok), ⟨(strings_TrimPrefix.ok), trivial⟩⟩) mastref2_intForm.T trivial 0 (fun h => mastref2_intForm.f_eq h.1)
def strconv_Atoi.f (a0 : ByteArray) : Option (Int) := atoiF a0
def strconv_Atoi.e : Entry sg := atoiE sg
theorem strconv_Atoi.ok : (strconv_Atoi.e).Sound Tryz.prog ctx 100 :=
  atoi_sound (C := ctx) sg_ok Tryz.func100 (by kernel_rfl) (by kernel_rfl) (fun s n w h1 h2 => Tryz.strconv_Atoi s n h1 h2 w)
def mastref2_ReadImageOf_c1.f (a0 : ByteArray) : Option (Int × Bool) := ((mastref2_digitsAlone.f a0).bind fun y1 => (bif (!y1) then (some (0, false)) else ((mastref2_intForm.f a0).bind fun y2 => (bif (bif (!y2) then true else (ilt 4 (slen a0))) then (some (0, false)) else ((strconv_Atoi.f a0).bind fun y3 => (some (y3, true)))))))
def mastref2_ReadImageOf_c1.O : Oracle sg := fun n => lkp n [(98, mastref2_digitsAlone.e), (99, mastref2_intForm.e), (100, strconv_Atoi.e)]
def mastref2_ReadImageOf_c1.a : Ann := .z
def mastref2_ReadImageOf_c1.L : Nat → St sg.U → Option (RT sg.U [(.int .i64), .bool]) := labs []
theorem mastref2_ReadImageOf_c1.f_eq (a0 : ByteArray) : mastref2_ReadImageOf_c1.f a0 = codeK (C := ctx) (mastref2_ReadImageOf_c1.O) ⟨25, [], []⟩ (mastref2_ReadImageOf_c1.L) (Tryz.f97.body.getD .skip) mastref2_ReadImageOf_c1.a (endK ctx [(.int .i64), .bool] [(.tmp 2), (.tmp 3)]) (slotsOf sg.U 0 [(.d .str)] (a0, ()) (empty sg.U)) := by
  unfold mastref2_ReadImageOf_c1.f
  kernel_rfl
def mastref2_ReadImageOf_c1.e : Entry sg := entryOf sg [(.d .str)] [(.int .i64), .bool] (fun h => mastref2_ReadImageOf_c1.f h.1)
def mastref2_ReadImageOf_c1.T : List (Lb sg (RT sg.U [(.int .i64), .bool])) := []
theorem mastref2_ReadImageOf_c1.ok : (mastref2_ReadImageOf_c1.e).Sound Tryz.prog ctx 97 :=
  entry_ok base_ok mo (fn := Tryz.f97) (b := (Tryz.f97.body.getD .skip)) (pm := [(.d .str)]) (rs := [(.int .i64), .bool]) (an := mastref2_ReadImageOf_c1.a) (N := 25) (vars := [(.tmp 2), (.tmp 3)]) Tryz.func97 (by kernel_rfl) (by kernel_rfl) (by kernel_rfl) (by kernel_rfl) (by kernel_rfl) (by kernel_rfl) (O := fun _ => mastref2_ReadImageOf_c1.O)
    (fun _ => by unfold mastref2_ReadImageOf_c1.O; exact oracle_of (P := Tryz.prog) (C := ctx) ⟨(mastref2_digitsAlone.ok), ⟨(mastref2_intForm.ok), ⟨(strconv_Atoi.ok), trivial⟩⟩⟩) mastref2_ReadImageOf_c1.T trivial 0 (fun h => mastref2_ReadImageOf_c1.f_eq h.1)
def mastref2_isSide.f (a0 : Int) : Option (Bool) := (some (bif (ile 1 a0) then (ile a0 64) else false))
def mastref2_isSide.O : Oracle sg := fun n => lkp n []
def mastref2_isSide.a : Ann := .z
def mastref2_isSide.L : Nat → St sg.U → Option (RT sg.U [.bool]) := labs []
theorem mastref2_isSide.f_eq (a0 : Int) : mastref2_isSide.f a0 = codeK (C := ctx) (mastref2_isSide.O) ⟨9, [], []⟩ (mastref2_isSide.L) (Tryz.f200.body.getD .skip) mastref2_isSide.a (endK ctx [.bool] [(.tmp 2)]) (slotsOf sg.U 0 [(.d (.int .i64))] (a0, ()) (empty sg.U)) := by
  unfold mastref2_isSide.f
  kernel_rfl
def mastref2_isSide.e : Entry sg := entryOf sg [(.d (.int .i64))] [.bool] (fun h => mastref2_isSide.f h.1)
def mastref2_isSide.T : List (Lb sg (RT sg.U [.bool])) := []
theorem mastref2_isSide.ok : (mastref2_isSide.e).Sound Tryz.prog ctx 200 :=
  entry_ok base_ok mo (fn := Tryz.f200) (b := (Tryz.f200.body.getD .skip)) (pm := [(.d (.int .i64))]) (rs := [.bool]) (an := mastref2_isSide.a) (N := 9) (vars := [(.tmp 2)]) Tryz.func200 (by kernel_rfl) (by kernel_rfl) (by kernel_rfl) (by kernel_rfl) (by kernel_rfl) (by kernel_rfl) (O := fun _ => mastref2_isSide.O)
    (fun _ => by unfold mastref2_isSide.O; exact oracle_of (P := Tryz.prog) (C := ctx) trivial) mastref2_isSide.T trivial 0 (fun h => mastref2_isSide.f_eq h.1)
def mastref2_ImageFault.l0 : Nat → (List Int) → Int → Int → Option (Int)
  | 0, _, _, _ => none
  | k + 1, x25, x26, x27 => (bif (ilt x27 x26) then ((lat x25 x27).bind fun y3 => (bif (bif (ilt y3 0) then true else (ilt 15 y3)) then (some 2) else (mastref2_ImageFault.l0 k x25 x26 (wadd .i64 x27 1)))) else (some 0))
def mastref2_ImageFault.f (k : Nat) (a0 : T_asset_Image) : Option (Int) := ((mastref2_isSide.f a0.fWidth).bind fun y1 => (bif (!y1) then (some 2) else ((mastref2_isSide.f a0.fHeight).bind fun y2 => (bif (!y2) then (some 2) else (bif (!ieq (llen a0.fLevels) (wmul .i64 a0.fWidth a0.fHeight)) then (some 1) else (mastref2_ImageFault.l0 k a0.fLevels (llen a0.fLevels) 0))))))
def mastref2_ImageFault.O (k : Nat) : Oracle sg := fun n => lkp n [(200, mastref2_isSide.e)]
def mastref2_ImageFault.a : Ann := (.n .z (.n .z (.n .z (.n (.n .z (.lp 0 .z)) .z))))
def mastref2_ImageFault.L (k : Nat) : Nat → St sg.U → Option (RT sg.U [(.int .i64)]) := labs [(0, labOf sg [(25, (.d (.sl (.int .i64)))), (26, (.d (.int .i64))), (27, (.d (.int .i64)))] (fun h => mastref2_ImageFault.l0 k h.1 h.2.1 h.2.2.1))]
theorem mastref2_ImageFault.l0_eq (k : Nat) (x25 : (List Int)) (x26 : Int) (x27 : Int) : mastref2_ImageFault.l0 (k + 1) x25 x26 x27 = runFrom (C := ctx) (mastref2_ImageFault.O k) ⟨38, [], []⟩ (mastref2_ImageFault.L k) (Tryz.f102.body.getD .skip) mastref2_ImageFault.a 0 (endK ctx [(.int .i64)] [(.tmp 2)]) (encD [(25, (.d (.sl (.int .i64)))), (26, (.d (.int .i64))), (27, (.d (.int .i64)))] (x25, x26, x27, ()) (startD sg.U ⟨38, [], []⟩ [(25, (.d (.sl (.int .i64)))), (26, (.d (.int .i64))), (27, (.d (.int .i64)))])) := by
  rw [mastref2_ImageFault.l0]
  kernel_rfl
theorem mastref2_ImageFault.f_eq (k : Nat) (a0 : T_asset_Image) : mastref2_ImageFault.f k a0 = codeK (C := ctx) (mastref2_ImageFault.O k) ⟨38, [], []⟩ (mastref2_ImageFault.L k) (Tryz.f102.body.getD .skip) mastref2_ImageFault.a (endK ctx [(.int .i64)] [(.tmp 2)]) (slotsOf sg.U 0 [(.d (.st 0))] (a0, ()) (empty sg.U)) := by
  unfold mastref2_ImageFault.f
  kernel_rfl
def mastref2_ImageFault.e (k : Nat) : Entry sg := entryOf sg [(.d (.st 0))] [(.int .i64)] (fun h => mastref2_ImageFault.f k h.1)
def mastref2_ImageFault.T : List (Lb sg (RT sg.U [(.int .i64)])) := [⟨0, [(25, (.d (.sl (.int .i64)))), (26, (.d (.int .i64))), (27, (.d (.int .i64)))], fun k h => mastref2_ImageFault.l0 k h.1 h.2.1 h.2.2.1⟩]
theorem mastref2_ImageFault.ok (k : Nat) : (mastref2_ImageFault.e k).Sound Tryz.prog ctx 102 :=
  entry_ok base_ok mo (fn := Tryz.f102) (b := (Tryz.f102.body.getD .skip)) (pm := [(.d (.st 0))]) (rs := [(.int .i64)]) (an := mastref2_ImageFault.a) (N := 38) (vars := [(.tmp 2)]) Tryz.func102 (by kernel_rfl) (by kernel_rfl) (by kernel_rfl) (by kernel_rfl) (by kernel_rfl) (by kernel_rfl) (O := mastref2_ImageFault.O)
    (fun k => by unfold mastref2_ImageFault.O; exact oracle_of (P := Tryz.prog) (C := ctx) ⟨(mastref2_isSide.ok), trivial⟩) mastref2_ImageFault.T ⟨⟨by kernel_rfl, fun _ => by first | rfl | rw [mastref2_ImageFault.l0], fun k h => mastref2_ImageFault.l0_eq k h.1 h.2.1 h.2.2.1⟩, trivial⟩ k (fun h => mastref2_ImageFault.f_eq k h.1)
mutual
def mastref2_ReadImageOf.l0 : Nat → Int → Int → (List Int) → (List ByteArray) → Int → (List ByteArray) → Bool → Option (T_asset_Image × Int)
  | 0, _, _, _, _, _, _, _ => none
  | k + 1, x2_0, x2_1, x2_2, x4, x5, x6, x48 => (bif x48 then (some ((T_asset_Image.mk 0 0 []), 8)) else ((lat x6 1).bind fun y6 => ((mastref2_ReadImageOf_c1.f y6).bind fun y7 => ((lat x6 2).bind fun y8 => ((mastref2_ReadImageOf_c1.f y8).bind fun y9 => (bif (bif (bif (!y7.2) then true else (!y9.2)) then true else (!ieq (wsub .i64 x5 1) y9.1)) then (some ((T_asset_Image.mk 0 0 []), 8)) else ((lsub x4 1 x5).bind fun y10 => (mastref2_ReadImageOf.l1 k x2_0 x2_1 x2_2 y7.1 y7.1 y9.1 [] y10 (llen y10) 0))))))))
def mastref2_ReadImageOf.l1 : Nat → Int → Int → (List Int) → Int → Int → Int → (List Int) → (List ByteArray) → Int → Int → Option (T_asset_Image × Int)
  | 0, _, _, _, _, _, _, _, _, _, _ => none
  | k + 1, x2_0, x2_1, x2_2, x8, x12_0, x12_1, x12_2, x84, x85, x86 => (bif (ilt x86 x85) then ((lat x84 x86).bind fun y11 => (bif (!ieq (slen y11) x8) then (mastref2_ReadImageOf.l2 k x2_0 x2_1 x2_2 x8 x12_0 x12_1 x12_2 y11 x84 x85 x86 true) else ((strings_Trim.f y11 c_0123456789abcdef).bind fun y12 => (mastref2_ReadImageOf.l2 k x2_0 x2_1 x2_2 x8 x12_0 x12_1 x12_2 y11 x84 x85 x86 (!seq y12 c_empty))))) else ((mastref2_ImageFault.f k (T_asset_Image.mk x12_0 x12_1 x12_2)).bind fun y13 => (bif (!ieq y13 0) then (some ((T_asset_Image.mk 0 0 []), y13)) else (some ((T_asset_Image.mk x12_0 x12_1 x12_2), 0)))))
def mastref2_ReadImageOf.l2 : Nat → Int → Int → (List Int) → Int → Int → Int → (List Int) → ByteArray → (List ByteArray) → Int → Int → Bool → Option (T_asset_Image × Int)
  | 0, _, _, _, _, _, _, _, _, _, _, _, _ => none
  | k + 1, x2_0, x2_1, x2_2, x8, x12_0, x12_1, x12_2, x14, x84, x85, x86, x98 => (bif x98 then (some ((T_asset_Image.mk 0 0 []), 8)) else (mastref2_ReadImageOf.l3 k x2_0 x2_1 x2_2 x8 x12_0 x12_1 x12_2 x14 0 x84 x85 x86))
def mastref2_ReadImageOf.l3 : Nat → Int → Int → (List Int) → Int → Int → Int → (List Int) → ByteArray → Int → (List ByteArray) → Int → Int → Option (T_asset_Image × Int)
  | 0, _, _, _, _, _, _, _, _, _, _, _, _ => none
  | k + 1, x2_0, x2_1, x2_2, x8, x12_0, x12_1, x12_2, x14, x15, x84, x85, x86 => (bif (ilt x15 (slen x14)) then ((sat x14 x15).bind fun y14 => ((strings_IndexByte.f c_0123456789abcdef y14).bind fun y15 => ((lapp 8 x12_2 [y15]).bind fun y16 => (mastref2_ReadImageOf.l3 k x2_0 x2_1 x2_2 x8 x12_0 x12_1 y16 x14 (wadd .i64 x15 1) x84 x85 x86)))) else (mastref2_ReadImageOf.l1 k x2_0 x2_1 x2_2 x8 x12_0 x12_1 x12_2 x84 x85 (wadd .i64 x86 1)))
end
def mastref2_ReadImageOf.f (k : Nat) (a0 : ByteArray) : Option (T_asset_Image × Int) := (bif (ilt 20000 (slen a0)) then (some ((T_asset_Image.mk 0 0 []), 4)) else ((strings_Split.f a0 c__0a).bind fun y1 => ((lat y1 (wsub .i64 (llen y1) 1)).bind fun y2 => (bif (bif (!seq y2 c_empty) then true else (ilt (wsub .i64 (llen y1) 1) 1)) then (some ((T_asset_Image.mk 0 0 []), 8)) else ((lat y1 0).bind fun y3 => ((strings_Split.f y3 c__20).bind fun y4 => (bif (!ieq (llen y4) 3) then (mastref2_ReadImageOf.l0 k 0 0 [] y1 (wsub .i64 (llen y1) 1) y4 true) else ((lat y4 0).bind fun y5 => (mastref2_ReadImageOf.l0 k 0 0 [] y1 (wsub .i64 (llen y1) 1) y4 (!seq y5 c_image))))))))))
def mastref2_ReadImageOf.O (k : Nat) : Oracle sg := fun n => lkp n [(55, strings_Split.e), (95, strings_IndexByte.e), (97, mastref2_ReadImageOf_c1.e), (101, strings_Trim.e), (102, mastref2_ImageFault.e k)]
def mastref2_ReadImageOf.a : Ann := (.n .z (.n .z (.n .z (.n .z (.n .z (.n .z (.n .z (.n (.n .z (.lab 0 .z)) (.n .z (.n .z (.n .z (.n .z (.n (.n .z (.lp 1 (.n .z (.n .z (.n (.n .z (.n (.n .z (.lab 2 .z)) (.n .z (.lp 3 .z)))) .z))))) .z)))))))))))))
def mastref2_ReadImageOf.L (k : Nat) : Nat → St sg.U → Option (RT sg.U [(.st 0), (.int .i64)]) := labs [(0, labOf sg [(2, (.box [.d (.int .i64), .d (.int .i64), .row 3 (.int .i64)])), (4, (.d (.sl .str))), (5, (.d (.int .i64))), (6, (.d (.sl .str))), (7, (.clo 97 [])), (48, (.d .bool))] (fun h => mastref2_ReadImageOf.l0 k h.1 h.2.1 h.2.2.1 h.2.2.2.1 h.2.2.2.2.1 h.2.2.2.2.2.1 h.2.2.2.2.2.2.1)), (1, labOf sg [(2, (.box [.d (.int .i64), .d (.int .i64), .row 3 (.int .i64)])), (8, (.d (.int .i64))), (12, (.box [.d (.int .i64), .d (.int .i64), .row 3 (.int .i64)])), (84, (.d (.sl .str))), (85, (.d (.int .i64))), (86, (.d (.int .i64)))] (fun h => mastref2_ReadImageOf.l1 k h.1 h.2.1 h.2.2.1 h.2.2.2.1 h.2.2.2.2.1 h.2.2.2.2.2.1 h.2.2.2.2.2.2.1 h.2.2.2.2.2.2.2.1 h.2.2.2.2.2.2.2.2.1 h.2.2.2.2.2.2.2.2.2.1)), (2, labOf sg [(2, (.box [.d (.int .i64), .d (.int .i64), .row 3 (.int .i64)])), (8, (.d (.int .i64))), (12, (.box [.d (.int .i64), .d (.int .i64), .row 3 (.int .i64)])), (14, (.d .str)), (84, (.d (.sl .str))), (85, (.d (.int .i64))), (86, (.d (.int .i64))), (98, (.d .bool))] (fun h => mastref2_ReadImageOf.l2 k h.1 h.2.1 h.2.2.1 h.2.2.2.1 h.2.2.2.2.1 h.2.2.2.2.2.1 h.2.2.2.2.2.2.1 h.2.2.2.2.2.2.2.1 h.2.2.2.2.2.2.2.2.1 h.2.2.2.2.2.2.2.2.2.1 h.2.2.2.2.2.2.2.2.2.2.1 h.2.2.2.2.2.2.2.2.2.2.2.1)), (3, labOf sg [(2, (.box [.d (.int .i64), .d (.int .i64), .row 3 (.int .i64)])), (8, (.d (.int .i64))), (12, (.box [.d (.int .i64), .d (.int .i64), .row 3 (.int .i64)])), (14, (.d .str)), (15, (.d (.int .i64))), (84, (.d (.sl .str))), (85, (.d (.int .i64))), (86, (.d (.int .i64)))] (fun h => mastref2_ReadImageOf.l3 k h.1 h.2.1 h.2.2.1 h.2.2.2.1 h.2.2.2.2.1 h.2.2.2.2.2.1 h.2.2.2.2.2.2.1 h.2.2.2.2.2.2.2.1 h.2.2.2.2.2.2.2.2.1 h.2.2.2.2.2.2.2.2.2.1 h.2.2.2.2.2.2.2.2.2.2.1 h.2.2.2.2.2.2.2.2.2.2.2.1))]
theorem mastref2_ReadImageOf.l0_eq (k : Nat) (x2_0 : Int) (x2_1 : Int) (x2_2 : (List Int)) (x4 : (List ByteArray)) (x5 : Int) (x6 : (List ByteArray)) (x48 : Bool) : mastref2_ReadImageOf.l0 (k + 1) x2_0 x2_1 x2_2 x4 x5 x6 x48 = runFrom (C := ctx) (mastref2_ReadImageOf.O k) ⟨123, [], []⟩ (mastref2_ReadImageOf.L k) (Tryz.f28.body.getD .skip) mastref2_ReadImageOf.a 0 (endK ctx [(.st 0), (.int .i64)] [(.cell 2 60), (.tmp 3)]) (encD [(2, (.box [.d (.int .i64), .d (.int .i64), .row 3 (.int .i64)])), (4, (.d (.sl .str))), (5, (.d (.int .i64))), (6, (.d (.sl .str))), (7, (.clo 97 [])), (48, (.d .bool))] (x2_0, x2_1, x2_2, x4, x5, x6, x48, ()) (startD sg.U ⟨123, [], []⟩ [(2, (.box [.d (.int .i64), .d (.int .i64), .row 3 (.int .i64)])), (4, (.d (.sl .str))), (5, (.d (.int .i64))), (6, (.d (.sl .str))), (7, (.clo 97 [])), (48, (.d .bool))])) := by
  rw [mastref2_ReadImageOf.l0]
  kernel_rfl
theorem mastref2_ReadImageOf.l1_eq (k : Nat) (x2_0 : Int) (x2_1 : Int) (x2_2 : (List Int)) (x8 : Int) (x12_0 : Int) (x12_1 : Int) (x12_2 : (List Int)) (x84 : (List ByteArray)) (x85 : Int) (x86 : Int) : mastref2_ReadImageOf.l1 (k + 1) x2_0 x2_1 x2_2 x8 x12_0 x12_1 x12_2 x84 x85 x86 = runFrom (C := ctx) (mastref2_ReadImageOf.O k) ⟨123, [], []⟩ (mastref2_ReadImageOf.L k) (Tryz.f28.body.getD .skip) mastref2_ReadImageOf.a 1 (endK ctx [(.st 0), (.int .i64)] [(.cell 2 60), (.tmp 3)]) (encD [(2, (.box [.d (.int .i64), .d (.int .i64), .row 3 (.int .i64)])), (8, (.d (.int .i64))), (12, (.box [.d (.int .i64), .d (.int .i64), .row 3 (.int .i64)])), (84, (.d (.sl .str))), (85, (.d (.int .i64))), (86, (.d (.int .i64)))] (x2_0, x2_1, x2_2, x8, x12_0, x12_1, x12_2, x84, x85, x86, ()) (startD sg.U ⟨123, [], []⟩ [(2, (.box [.d (.int .i64), .d (.int .i64), .row 3 (.int .i64)])), (8, (.d (.int .i64))), (12, (.box [.d (.int .i64), .d (.int .i64), .row 3 (.int .i64)])), (84, (.d (.sl .str))), (85, (.d (.int .i64))), (86, (.d (.int .i64)))])) := by
  rw [mastref2_ReadImageOf.l1]
  kernel_rfl
theorem mastref2_ReadImageOf.l2_eq (k : Nat) (x2_0 : Int) (x2_1 : Int) (x2_2 : (List Int)) (x8 : Int) (x12_0 : Int) (x12_1 : Int) (x12_2 : (List Int)) (x14 : ByteArray) (x84 : (List ByteArray)) (x85 : Int) (x86 : Int) (x98 : Bool) : mastref2_ReadImageOf.l2 (k + 1) x2_0 x2_1 x2_2 x8 x12_0 x12_1 x12_2 x14 x84 x85 x86 x98 = runFrom (C := ctx) (mastref2_ReadImageOf.O k) ⟨123, [], []⟩ (mastref2_ReadImageOf.L k) (Tryz.f28.body.getD .skip) mastref2_ReadImageOf.a 2 (endK ctx [(.st 0), (.int .i64)] [(.cell 2 60), (.tmp 3)]) (encD [(2, (.box [.d (.int .i64), .d (.int .i64), .row 3 (.int .i64)])), (8, (.d (.int .i64))), (12, (.box [.d (.int .i64), .d (.int .i64), .row 3 (.int .i64)])), (14, (.d .str)), (84, (.d (.sl .str))), (85, (.d (.int .i64))), (86, (.d (.int .i64))), (98, (.d .bool))] (x2_0, x2_1, x2_2, x8, x12_0, x12_1, x12_2, x14, x84, x85, x86, x98, ()) (startD sg.U ⟨123, [], []⟩ [(2, (.box [.d (.int .i64), .d (.int .i64), .row 3 (.int .i64)])), (8, (.d (.int .i64))), (12, (.box [.d (.int .i64), .d (.int .i64), .row 3 (.int .i64)])), (14, (.d .str)), (84, (.d (.sl .str))), (85, (.d (.int .i64))), (86, (.d (.int .i64))), (98, (.d .bool))])) := by
  rw [mastref2_ReadImageOf.l2]
  kernel_rfl
theorem mastref2_ReadImageOf.l3_eq (k : Nat) (x2_0 : Int) (x2_1 : Int) (x2_2 : (List Int)) (x8 : Int) (x12_0 : Int) (x12_1 : Int) (x12_2 : (List Int)) (x14 : ByteArray) (x15 : Int) (x84 : (List ByteArray)) (x85 : Int) (x86 : Int) : mastref2_ReadImageOf.l3 (k + 1) x2_0 x2_1 x2_2 x8 x12_0 x12_1 x12_2 x14 x15 x84 x85 x86 = runFrom (C := ctx) (mastref2_ReadImageOf.O k) ⟨123, [], []⟩ (mastref2_ReadImageOf.L k) (Tryz.f28.body.getD .skip) mastref2_ReadImageOf.a 3 (endK ctx [(.st 0), (.int .i64)] [(.cell 2 60), (.tmp 3)]) (encD [(2, (.box [.d (.int .i64), .d (.int .i64), .row 3 (.int .i64)])), (8, (.d (.int .i64))), (12, (.box [.d (.int .i64), .d (.int .i64), .row 3 (.int .i64)])), (14, (.d .str)), (15, (.d (.int .i64))), (84, (.d (.sl .str))), (85, (.d (.int .i64))), (86, (.d (.int .i64)))] (x2_0, x2_1, x2_2, x8, x12_0, x12_1, x12_2, x14, x15, x84, x85, x86, ()) (startD sg.U ⟨123, [], []⟩ [(2, (.box [.d (.int .i64), .d (.int .i64), .row 3 (.int .i64)])), (8, (.d (.int .i64))), (12, (.box [.d (.int .i64), .d (.int .i64), .row 3 (.int .i64)])), (14, (.d .str)), (15, (.d (.int .i64))), (84, (.d (.sl .str))), (85, (.d (.int .i64))), (86, (.d (.int .i64)))])) := by
  rw [mastref2_ReadImageOf.l3]
  kernel_rfl
theorem mastref2_ReadImageOf.f_eq (k : Nat) (a0 : ByteArray) : mastref2_ReadImageOf.f k a0 = codeK (C := ctx) (mastref2_ReadImageOf.O k) ⟨123, [], []⟩ (mastref2_ReadImageOf.L k) (Tryz.f28.body.getD .skip) mastref2_ReadImageOf.a (endK ctx [(.st 0), (.int .i64)] [(.cell 2 60), (.tmp 3)]) (slotsOf sg.U 0 [(.d .str)] (a0, ()) (empty sg.U)) := by
  unfold mastref2_ReadImageOf.f
  kernel_rfl
def mastref2_ReadImageOf.e (k : Nat) : Entry sg := entryOf sg [(.d .str)] [(.st 0), (.int .i64)] (fun h => mastref2_ReadImageOf.f k h.1)
def mastref2_ReadImageOf.T : List (Lb sg (RT sg.U [(.st 0), (.int .i64)])) := [⟨0, [(2, (.box [.d (.int .i64), .d (.int .i64), .row 3 (.int .i64)])), (4, (.d (.sl .str))), (5, (.d (.int .i64))), (6, (.d (.sl .str))), (7, (.clo 97 [])), (48, (.d .bool))], fun k h => mastref2_ReadImageOf.l0 k h.1 h.2.1 h.2.2.1 h.2.2.2.1 h.2.2.2.2.1 h.2.2.2.2.2.1 h.2.2.2.2.2.2.1⟩, ⟨1, [(2, (.box [.d (.int .i64), .d (.int .i64), .row 3 (.int .i64)])), (8, (.d (.int .i64))), (12, (.box [.d (.int .i64), .d (.int .i64), .row 3 (.int .i64)])), (84, (.d (.sl .str))), (85, (.d (.int .i64))), (86, (.d (.int .i64)))], fun k h => mastref2_ReadImageOf.l1 k h.1 h.2.1 h.2.2.1 h.2.2.2.1 h.2.2.2.2.1 h.2.2.2.2.2.1 h.2.2.2.2.2.2.1 h.2.2.2.2.2.2.2.1 h.2.2.2.2.2.2.2.2.1 h.2.2.2.2.2.2.2.2.2.1⟩, ⟨2, [(2, (.box [.d (.int .i64), .d (.int .i64), .row 3 (.int .i64)])), (8, (.d (.int .i64))), (12, (.box [.d (.int .i64), .d (.int .i64), .row 3 (.int .i64)])), (14, (.d .str)), (84, (.d (.sl .str))), (85, (.d (.int .i64))), (86, (.d (.int .i64))), (98, (.d .bool))], fun k h => mastref2_ReadImageOf.l2 k h.1 h.2.1 h.2.2.1 h.2.2.2.1 h.2.2.2.2.1 h.2.2.2.2.2.1 h.2.2.2.2.2.2.1 h.2.2.2.2.2.2.2.1 h.2.2.2.2.2.2.2.2.1 h.2.2.2.2.2.2.2.2.2.1 h.2.2.2.2.2.2.2.2.2.2.1 h.2.2.2.2.2.2.2.2.2.2.2.1⟩, ⟨3, [(2, (.box [.d (.int .i64), .d (.int .i64), .row 3 (.int .i64)])), (8, (.d (.int .i64))), (12, (.box [.d (.int .i64), .d (.int .i64), .row 3 (.int .i64)])), (14, (.d .str)), (15, (.d (.int .i64))), (84, (.d (.sl .str))), (85, (.d (.int .i64))), (86, (.d (.int .i64)))], fun k h => mastref2_ReadImageOf.l3 k h.1 h.2.1 h.2.2.1 h.2.2.2.1 h.2.2.2.2.1 h.2.2.2.2.2.1 h.2.2.2.2.2.2.1 h.2.2.2.2.2.2.2.1 h.2.2.2.2.2.2.2.2.1 h.2.2.2.2.2.2.2.2.2.1 h.2.2.2.2.2.2.2.2.2.2.1 h.2.2.2.2.2.2.2.2.2.2.2.1⟩]
theorem mastref2_ReadImageOf.ok (k : Nat) : (mastref2_ReadImageOf.e k).Sound Tryz.prog ctx 28 :=
  entry_ok base_ok mo (fn := Tryz.f28) (b := (Tryz.f28.body.getD .skip)) (pm := [(.d .str)]) (rs := [(.st 0), (.int .i64)]) (an := mastref2_ReadImageOf.a) (N := 123) (vars := [(.cell 2 60), (.tmp 3)]) Tryz.func28 (by kernel_rfl) (by kernel_rfl) (by kernel_rfl) (by kernel_rfl) (by kernel_rfl) (by kernel_rfl) (O := mastref2_ReadImageOf.O)
    (fun k => by unfold mastref2_ReadImageOf.O; exact oracle_of (P := Tryz.prog) (C := ctx) ⟨(strings_Split.ok), ⟨(strings_IndexByte.ok), ⟨(mastref2_ReadImageOf_c1.ok), ⟨(strings_Trim.ok), ⟨(mastref2_ImageFault.ok k), trivial⟩⟩⟩⟩⟩) mastref2_ReadImageOf.T ⟨⟨by kernel_rfl, fun _ => by first | rfl | rw [mastref2_ReadImageOf.l0], fun k h => mastref2_ReadImageOf.l0_eq k h.1 h.2.1 h.2.2.1 h.2.2.2.1 h.2.2.2.2.1 h.2.2.2.2.2.1 h.2.2.2.2.2.2.1⟩, ⟨⟨by kernel_rfl, fun _ => by first | rfl | rw [mastref2_ReadImageOf.l1], fun k h => mastref2_ReadImageOf.l1_eq k h.1 h.2.1 h.2.2.1 h.2.2.2.1 h.2.2.2.2.1 h.2.2.2.2.2.1 h.2.2.2.2.2.2.1 h.2.2.2.2.2.2.2.1 h.2.2.2.2.2.2.2.2.1 h.2.2.2.2.2.2.2.2.2.1⟩, ⟨⟨by kernel_rfl, fun _ => by first | rfl | rw [mastref2_ReadImageOf.l2], fun k h => mastref2_ReadImageOf.l2_eq k h.1 h.2.1 h.2.2.1 h.2.2.2.1 h.2.2.2.2.1 h.2.2.2.2.2.1 h.2.2.2.2.2.2.1 h.2.2.2.2.2.2.2.1 h.2.2.2.2.2.2.2.2.1 h.2.2.2.2.2.2.2.2.2.1 h.2.2.2.2.2.2.2.2.2.2.1 h.2.2.2.2.2.2.2.2.2.2.2.1⟩, ⟨⟨by kernel_rfl, fun _ => by first | rfl | rw [mastref2_ReadImageOf.l3], fun k h => mastref2_ReadImageOf.l3_eq k h.1 h.2.1 h.2.2.1 h.2.2.2.1 h.2.2.2.2.1 h.2.2.2.2.2.1 h.2.2.2.2.2.2.1 h.2.2.2.2.2.2.2.1 h.2.2.2.2.2.2.2.2.1 h.2.2.2.2.2.2.2.2.2.1 h.2.2.2.2.2.2.2.2.2.2.1 h.2.2.2.2.2.2.2.2.2.2.2.1⟩, trivial⟩⟩⟩⟩ k (fun h => mastref2_ReadImageOf.f_eq k h.1)
def slices_Equal_int_int.l0 : Nat → (List Int) → (List Int) → Int → Int → Option (Bool)
  | 0, _, _, _, _ => none
  | k + 1, x0, x1, x12, x13 => (bif (ilt x13 x12) then ((lat x0 x13).bind fun y1 => ((lat x1 x13).bind fun y2 => (bif (!ieq y1 y2) then (some false) else (slices_Equal_int_int.l0 k x0 x1 x12 (wadd .i64 x13 1))))) else (some true))
def slices_Equal_int_int.f (k : Nat) (a0 : (List Int)) (a1 : (List Int)) : Option (Bool) := (bif (!ieq (llen a0) (llen a1)) then (some false) else (slices_Equal_int_int.l0 k a0 a1 (llen a0) 0))
def slices_Equal_int_int.O (k : Nat) : Oracle sg := fun n => lkp n []
def slices_Equal_int_int.a : Ann := (.n .z (.n .z (.n (.n .z (.lp 0 .z)) .z)))
def slices_Equal_int_int.L (k : Nat) : Nat → St sg.U → Option (RT sg.U [.bool]) := labs [(0, labOf sg [(0, (.d (.sl (.int .i64)))), (1, (.d (.sl (.int .i64)))), (12, (.d (.int .i64))), (13, (.d (.int .i64)))] (fun h => slices_Equal_int_int.l0 k h.1 h.2.1 h.2.2.1 h.2.2.2.1))]
theorem slices_Equal_int_int.l0_eq (k : Nat) (x0 : (List Int)) (x1 : (List Int)) (x12 : Int) (x13 : Int) : slices_Equal_int_int.l0 (k + 1) x0 x1 x12 x13 = runFrom (C := ctx) (slices_Equal_int_int.O k) ⟨26, [], []⟩ (slices_Equal_int_int.L k) (Tryz.f15.body.getD .skip) slices_Equal_int_int.a 0 (endK ctx [.bool] [(.tmp 4)]) (encD [(0, (.d (.sl (.int .i64)))), (1, (.d (.sl (.int .i64)))), (12, (.d (.int .i64))), (13, (.d (.int .i64)))] (x0, x1, x12, x13, ()) (startD sg.U ⟨26, [], []⟩ [(0, (.d (.sl (.int .i64)))), (1, (.d (.sl (.int .i64)))), (12, (.d (.int .i64))), (13, (.d (.int .i64)))])) := by
  rw [slices_Equal_int_int.l0]
  kernel_rfl
theorem slices_Equal_int_int.f_eq (k : Nat) (a0 : (List Int)) (a1 : (List Int)) : slices_Equal_int_int.f k a0 a1 = codeK (C := ctx) (slices_Equal_int_int.O k) ⟨26, [], []⟩ (slices_Equal_int_int.L k) (Tryz.f15.body.getD .skip) slices_Equal_int_int.a (endK ctx [.bool] [(.tmp 4)]) (slotsOf sg.U 0 [(.d (.sl (.int .i64))), (.d (.sl (.int .i64)))] (a0, a1, ()) (empty sg.U)) := by
  unfold slices_Equal_int_int.f
  kernel_rfl
def slices_Equal_int_int.e (k : Nat) : Entry sg := entryOf sg [(.d (.sl (.int .i64))), (.d (.sl (.int .i64)))] [.bool] (fun h => slices_Equal_int_int.f k h.1 h.2.1)
def slices_Equal_int_int.T : List (Lb sg (RT sg.U [.bool])) := [⟨0, [(0, (.d (.sl (.int .i64)))), (1, (.d (.sl (.int .i64)))), (12, (.d (.int .i64))), (13, (.d (.int .i64)))], fun k h => slices_Equal_int_int.l0 k h.1 h.2.1 h.2.2.1 h.2.2.2.1⟩]
theorem slices_Equal_int_int.ok (k : Nat) : (slices_Equal_int_int.e k).Sound Tryz.prog ctx 15 :=
  entry_ok base_ok mo (fn := Tryz.f15) (b := (Tryz.f15.body.getD .skip)) (pm := [(.d (.sl (.int .i64))), (.d (.sl (.int .i64)))]) (rs := [.bool]) (an := slices_Equal_int_int.a) (N := 26) (vars := [(.tmp 4)]) Tryz.func15 (by kernel_rfl) (by kernel_rfl) (by kernel_rfl) (by kernel_rfl) (by kernel_rfl) (by kernel_rfl) (O := slices_Equal_int_int.O)
    (fun k => by unfold slices_Equal_int_int.O; exact oracle_of (P := Tryz.prog) (C := ctx) trivial) slices_Equal_int_int.T ⟨⟨by kernel_rfl, fun _ => by first | rfl | rw [slices_Equal_int_int.l0], fun k h => slices_Equal_int_int.l0_eq k h.1 h.2.1 h.2.2.1 h.2.2.2.1⟩, trivial⟩ k (fun h => slices_Equal_int_int.f_eq k h.1 h.2.1)
def mastref2_Alike_at_asset_Image.f (k : Nat) (a0 : T_asset_Image) (a1 : T_asset_Image) : Option (Bool) := (bif (bif (ieq a0.fWidth a1.fWidth) then (ieq a0.fHeight a1.fHeight) else false) then ((slices_Equal_int_int.f k a0.fLevels a1.fLevels).bind fun y1 => (some y1)) else (some false))
def mastref2_Alike_at_asset_Image.O (k : Nat) : Oracle sg := fun n => lkp n [(15, slices_Equal_int_int.e k)]
def mastref2_Alike_at_asset_Image.a : Ann := .z
def mastref2_Alike_at_asset_Image.L (k : Nat) : Nat → St sg.U → Option (RT sg.U [.bool]) := labs []
theorem mastref2_Alike_at_asset_Image.f_eq (k : Nat) (a0 : T_asset_Image) (a1 : T_asset_Image) : mastref2_Alike_at_asset_Image.f k a0 a1 = codeK (C := ctx) (mastref2_Alike_at_asset_Image.O k) ⟨296, [], []⟩ (mastref2_Alike_at_asset_Image.L k) (Tryz.f24.body.getD .skip) mastref2_Alike_at_asset_Image.a (endK ctx [.bool] [(.tmp 4)]) (slotsOf sg.U 0 [(.iv 60 (.st 0)), (.iv 60 (.st 0))] (a0, a1, ()) (empty sg.U)) := by
  unfold mastref2_Alike_at_asset_Image.f
  kernel_rfl
def mastref2_Alike_at_asset_Image.e (k : Nat) : Entry sg := entryOf sg [(.iv 60 (.st 0)), (.iv 60 (.st 0))] [.bool] (fun h => mastref2_Alike_at_asset_Image.f k h.1 h.2.1)
def mastref2_Alike_at_asset_Image.T : List (Lb sg (RT sg.U [.bool])) := []
theorem mastref2_Alike_at_asset_Image.ok (k : Nat) : (mastref2_Alike_at_asset_Image.e k).Sound Tryz.prog ctx 24 :=
  entry_ok base_ok mo (fn := Tryz.f24) (b := (Tryz.f24.body.getD .skip)) (pm := [(.iv 60 (.st 0)), (.iv 60 (.st 0))]) (rs := [.bool]) (an := mastref2_Alike_at_asset_Image.a) (N := 296) (vars := [(.tmp 4)]) Tryz.func24 (by kernel_rfl) (by kernel_rfl) (by kernel_rfl) (by kernel_rfl) (by kernel_rfl) (by kernel_rfl) (O := mastref2_Alike_at_asset_Image.O)
    (fun k => by unfold mastref2_Alike_at_asset_Image.O; exact oracle_of (P := Tryz.prog) (C := ctx) ⟨(slices_Equal_int_int.ok k), trivial⟩) mastref2_Alike_at_asset_Image.T trivial k (fun h => mastref2_Alike_at_asset_Image.f_eq k h.1 h.2.1)
def mastlaw2_ImageReads.f (k : Nat) (a0 : ByteArray) : Option (Bool) := ((asset_ReadImage.f k a0).bind fun y1 => ((mastref2_ReadImageOf.f k a0).bind fun y2 => (bif (ieq y1.2 y2.2) then ((mastref2_Alike_at_asset_Image.f k y1.1 y2.1).bind fun y3 => (some y3)) else (some false))))
def mastlaw2_ImageReads.O (k : Nat) : Oracle sg := fun n => lkp n [(24, mastref2_Alike_at_asset_Image.e k), (27, asset_ReadImage.e k), (28, mastref2_ReadImageOf.e k)]
def mastlaw2_ImageReads.a : Ann := .z
def mastlaw2_ImageReads.L (k : Nat) : Nat → St sg.U → Option (RT sg.U [.bool]) := labs []
theorem mastlaw2_ImageReads.f_eq (k : Nat) (a0 : ByteArray) : mastlaw2_ImageReads.f k a0 = codeK (C := ctx) (mastlaw2_ImageReads.O k) ⟨27, [], []⟩ (mastlaw2_ImageReads.L k) (Tryz.f8.body.getD .skip) mastlaw2_ImageReads.a (endK ctx [.bool] [(.tmp 2)]) (slotsOf sg.U 0 [(.d .str)] (a0, ()) (empty sg.U)) := by
  unfold mastlaw2_ImageReads.f
  kernel_rfl
def mastlaw2_ImageReads.e (k : Nat) : Entry sg := entryOf sg [(.d .str)] [.bool] (fun h => mastlaw2_ImageReads.f k h.1)
def mastlaw2_ImageReads.T : List (Lb sg (RT sg.U [.bool])) := []
theorem mastlaw2_ImageReads.ok (k : Nat) : (mastlaw2_ImageReads.e k).Sound Tryz.prog ctx 8 :=
  entry_ok base_ok mo (fn := Tryz.f8) (b := (Tryz.f8.body.getD .skip)) (pm := [(.d .str)]) (rs := [.bool]) (an := mastlaw2_ImageReads.a) (N := 27) (vars := [(.tmp 2)]) Tryz.func8 (by kernel_rfl) (by kernel_rfl) (by kernel_rfl) (by kernel_rfl) (by kernel_rfl) (by kernel_rfl) (O := mastlaw2_ImageReads.O)
    (fun k => by unfold mastlaw2_ImageReads.O; exact oracle_of (P := Tryz.prog) (C := ctx) ⟨(mastref2_Alike_at_asset_Image.ok k), ⟨(asset_ReadImage.ok k), ⟨(mastref2_ReadImageOf.ok k), trivial⟩⟩⟩) mastlaw2_ImageReads.T trivial k (fun h => mastlaw2_ImageReads.f_eq k h.1)
end Go.Proofs.YtmbjiadilfbooaaGreatDoor.LImageReads
