/- The functions behind the law AssetRelinks, checked against the code; their summaries hold. Conditions: none. -/
import Derived.Test.YtdllocgdhdfgeaaLiftZ
import Derived.Test.YtdllocgdhdfgeaaProg
import Derived.Test.YtdllocgdhdfgeaaLiftY2
import Derived.Test.YtdllocgdhdfgeaaShelf
namespace Go.Proofs.Ytdllocgdhdfgeaa.LAssetRelinks
open Go Go.Proofs.Ytdllocgdhdfgeaa.Lift
set_option maxRecDepth 100000
set_option linter.unusedVariables false
structure T_asset_Name where
  fPath : ByteArray
  fName : ByteArray
  deriving Inhabited
structure T_asset_Link where
  fFrom : Int
  fTo : Int
  fPath : ByteArray
  deriving Inhabited
structure T_asset_Token where
  fKind : Int
  fText : ByteArray
  deriving Inhabited
structure T_asset_placed where
  fToken : T_asset_Token
  ffrom : Int
  fto : Int
  deriving Inhabited
structure T_asset_scanner where
  fs : ByteArray
  fscript : Bool
  fout : (List T_asset_placed)
  deriving Inhabited
abbrev sgU : Nat → Type
  | 0 => T_asset_Name
  | 1 => T_asset_Link
  | 2 => T_asset_placed
  | 3 => T_asset_Token
  | 4 => T_asset_scanner
  | 5 => Unit
  | _ + 6 => Unit
abbrev sgF : Nat → List Ty
  | 0 => [.str, .str]
  | 1 => [(.int .i64), (.int .i64), .str]
  | 2 => [(.st 3), (.int .i64), (.int .i64)]
  | 3 => [(.int .i64), .str]
  | 4 => [.str, .bool, (.sl (.st 2))]
  | 5 => []
  | _ + 6 => []
def sgO : (n : Nat) → sgU n → HL sgU (sgF n)
  | 0, x => (x.fPath, x.fName, ())
  | 1, x => (x.fFrom, x.fTo, x.fPath, ())
  | 2, x => (x.fToken, x.ffrom, x.fto, ())
  | 3, x => (x.fKind, x.fText, ())
  | 4, x => (x.fs, x.fscript, x.fout, ())
  | 5, _ => ()
  | _ + 6, _ => ()
def sgB : (n : Nat) → HL sgU (sgF n) → sgU n
  | 0, h => ⟨h.1, h.2.1⟩
  | 1, h => ⟨h.1, h.2.1, h.2.2.1⟩
  | 2, h => ⟨h.1, h.2.1, h.2.2.1⟩
  | 3, h => ⟨h.1, h.2.1⟩
  | 4, h => ⟨h.1, h.2.1, h.2.2.1⟩
  | 5, _ => ()
  | _ + 6, _ => ()
def sg : Sg := { U := sgU, fl := sgF, out := sgO, bld := sgB, gl := [0] }
def ctx : Ctx := { S := sg, ty := [(3, .d (.int .i64) 1 0), (4, .d .bool 1 0), (5, .d (.int .u8) 1 0), (9, .d .str 1 0), (21, .d (.int .i32) 1 0), (22, .d (.sl (.st 3)) 24 47), (23, .d (.int .i64) 1 0), (34, .d (.sl (.st 1)) 32 116), (41, .d (.sl (.st 0)) 32 135), (47, .d (.st 3) 1 0), (106, .d (.sl (.int .i64)) 8 3), (116, .d (.st 1) 1 0), (125, .d (.sl (.st 2)) 40 218), (133, .m 9 9), (135, .d (.st 0) 1 0), (145, .b), (218, .d (.st 2) 1 0), (227, .d (.st 4) 1 0)], eqs := [] }
def c_empty : ByteArray := ⟨#[]⟩
def c__2f_2a : ByteArray := ⟨#[47, 42]⟩
def c__2a_2f : ByteArray := ⟨#[42, 47]⟩
def c__2f_2f : ByteArray := ⟨#[47, 47]⟩
def c__20 : ByteArray := ⟨#[32]⟩
def c__7b_7d_28_29_5b_5d_3b_3a_2c_3e : ByteArray := ⟨#[123, 125, 40, 41, 91, 93, 59, 58, 44, 62]⟩
def c_url : ByteArray := ⟨#[117, 114, 108]⟩
def c__28 : ByteArray := ⟨#[40]⟩
def c__29 : ByteArray := ⟨#[41]⟩
def c__7b_7d_28_29_5b_5d_3_0267af61 : ByteArray := ⟨#[123, 125, 40, 41, 91, 93, 59, 58, 44, 62, 34, 39, 32, 9, 10]⟩
theorem sg_ok : SgOk sg :=
  ⟨fun n h => by rcases n with _ | _ | _ | _ | _ | _ | n <;> rfl, fun n => by rcases n with _ | _ | _ | _ | _ | _ | n <;> rfl, fun n x => by rcases n with _ | _ | _ | _ | _ | _ | n <;> rfl, fun n => by rcases n with _ | _ | _ | _ | _ | _ | n <;> rfl⟩
theorem base_ok : Base Try.prog ctx := base_of sg_ok (by kernel_rfl) (eqOk_of (by kernel_rfl))
theorem open_ok : openB Try.prog ctx = true := by kernel_rfl
theorem mo : Try.prog.follows .mixedOrders = true := by kernel_rfl
def asset_badName.l0 : Nat → ByteArray → Int → Option (Bool)
  | 0, _, _ => none
  | k + 1, x0, x3 => (bif (ilt x3 (slen x0)) then ((sat x0 x3).bind fun y1 => (bif (bif (bif (bif (bif (ilt y1 33) then true else (ieq y1 34)) then true else (ieq y1 39)) then true else (ieq y1 92)) then true else (ieq y1 127)) then (some true) else (asset_badName.l0 k x0 (wadd .i64 x3 1)))) else (some false))
def asset_badName.f (k : Nat) (a0 : ByteArray) : Option (Bool) := (asset_badName.l0 k a0 0)
def asset_badName.O (k : Nat) : Oracle sg := fun n => lkp n []
def asset_badName.a : Ann := (.n .z (.n (.n .z (.lp 0 .z)) .z))
def asset_badName.L (k : Nat) : Nat → St sg.U → Option (RT sg.U [.bool]) := labs [(0, labOf sg [(0, (.d .str)), (3, (.d (.int .i64)))] (fun h => asset_badName.l0 k h.1 h.2.1))]
theorem asset_badName.l0_eq (k : Nat) (x0 : ByteArray) (x3 : Int) : asset_badName.l0 (k + 1) x0 x3 = runFrom (C := ctx) (asset_badName.O k) ⟨32, [], []⟩ (asset_badName.L k) (Try.f51.body.getD .skip) asset_badName.a 0 (endK ctx [.bool] [(.tmp 2)]) (encD [(0, (.d .str)), (3, (.d (.int .i64)))] (x0, x3, ()) (startD sg.U ⟨32, [], []⟩ [(0, (.d .str)), (3, (.d (.int .i64)))])) := by
  rw [asset_badName.l0]
  kernel_rfl
theorem asset_badName.f_eq (k : Nat) (a0 : ByteArray) : asset_badName.f k a0 = codeK (C := ctx) (asset_badName.O k) ⟨32, [], []⟩ (asset_badName.L k) (Try.f51.body.getD .skip) asset_badName.a (endK ctx [.bool] [(.tmp 2)]) (slotsOf sg.U 0 [(.d .str)] (a0, ()) (empty sg.U)) := by
  unfold asset_badName.f
  kernel_rfl
def asset_badName.e (k : Nat) : Entry sg := entryOf sg [(.d .str)] [.bool] (fun h => asset_badName.f k h.1)
def asset_badName.T : List (Lb sg (RT sg.U [.bool])) := [⟨0, [(0, (.d .str)), (3, (.d (.int .i64)))], fun k h => asset_badName.l0 k h.1 h.2.1⟩]
theorem asset_badName.ok (k : Nat) : (asset_badName.e k).Sound Try.prog ctx 51 :=
  entry_ok base_ok mo (fn := Try.f51) (b := (Try.f51.body.getD .skip)) (pm := [(.d .str)]) (rs := [.bool]) (an := asset_badName.a) (N := 32) (vars := [(.tmp 2)]) Try.func51 (by kernel_rfl) (by kernel_rfl) (by kernel_rfl) (by kernel_rfl) (by kernel_rfl) (by kernel_rfl) (O := asset_badName.O)
    (fun k => by unfold asset_badName.O; exact oracle_of (P := Try.prog) (C := ctx) trivial) asset_badName.T ⟨⟨by kernel_rfl, fun _ => by first | rfl | rw [asset_badName.l0], fun k h => asset_badName.l0_eq k h.1 h.2.1⟩, trivial⟩ k (fun h => asset_badName.f_eq k h.1)
def asset_badByte.f (a0 : Int) : Option (Bool) := (some (bif (bif (bif (ilt a0 32) then (!ieq a0 9) else false) then (!ieq a0 10) else false) then true else (ieq a0 127)))
def asset_badByte.O : Oracle sg := fun n => lkp n []
def asset_badByte.a : Ann := .z
def asset_badByte.L : Nat → St sg.U → Option (RT sg.U [.bool]) := labs []
theorem asset_badByte.f_eq (a0 : Int) : asset_badByte.f a0 = codeK (C := ctx) (asset_badByte.O) ⟨17, [], []⟩ (asset_badByte.L) (Try.f93.body.getD .skip) asset_badByte.a (endK ctx [.bool] [(.tmp 2)]) (slotsOf sg.U 0 [(.d (.int .u8))] (a0, ()) (empty sg.U)) := by
  unfold asset_badByte.f
  kernel_rfl
def asset_badByte.e : Entry sg := entryOf sg [(.d (.int .u8))] [.bool] (fun h => asset_badByte.f h.1)
def asset_badByte.T : List (Lb sg (RT sg.U [.bool])) := []
theorem asset_badByte.ok : (asset_badByte.e).Sound Try.prog ctx 93 :=
  entry_ok base_ok mo (fn := Try.f93) (b := (Try.f93.body.getD .skip)) (pm := [(.d (.int .u8))]) (rs := [.bool]) (an := asset_badByte.a) (N := 17) (vars := [(.tmp 2)]) Try.func93 (by kernel_rfl) (by kernel_rfl) (by kernel_rfl) (by kernel_rfl) (by kernel_rfl) (by kernel_rfl) (O := fun _ => asset_badByte.O)
    (fun _ => by unfold asset_badByte.O; exact oracle_of (P := Try.prog) (C := ctx) trivial) asset_badByte.T trivial 0 (fun h => asset_badByte.f_eq h.1)
def asset_isBlank.f (a0 : Int) : Option (Bool) := (some (bif (bif (ieq a0 32) then true else (ieq a0 9)) then true else (ieq a0 10)))
def asset_isBlank.O : Oracle sg := fun n => lkp n []
def asset_isBlank.a : Ann := .z
def asset_isBlank.L : Nat → St sg.U → Option (RT sg.U [.bool]) := labs []
theorem asset_isBlank.f_eq (a0 : Int) : asset_isBlank.f a0 = codeK (C := ctx) (asset_isBlank.O) ⟨13, [], []⟩ (asset_isBlank.L) (Try.f94.body.getD .skip) asset_isBlank.a (endK ctx [.bool] [(.tmp 2)]) (slotsOf sg.U 0 [(.d (.int .u8))] (a0, ()) (empty sg.U)) := by
  unfold asset_isBlank.f
  kernel_rfl
def asset_isBlank.e : Entry sg := entryOf sg [(.d (.int .u8))] [.bool] (fun h => asset_isBlank.f h.1)
def asset_isBlank.T : List (Lb sg (RT sg.U [.bool])) := []
theorem asset_isBlank.ok : (asset_isBlank.e).Sound Try.prog ctx 94 :=
  entry_ok base_ok mo (fn := Try.f94) (b := (Try.f94.body.getD .skip)) (pm := [(.d (.int .u8))]) (rs := [.bool]) (an := asset_isBlank.a) (N := 13) (vars := [(.tmp 2)]) Try.func94 (by kernel_rfl) (by kernel_rfl) (by kernel_rfl) (by kernel_rfl) (by kernel_rfl) (by kernel_rfl) (O := fun _ => asset_isBlank.O)
    (fun _ => by unfold asset_isBlank.O; exact oracle_of (P := Try.prog) (C := ctx) trivial) asset_isBlank.T trivial 0 (fun h => asset_isBlank.f_eq h.1)
def internal_stringslite_HasPrefix.f (a0 : ByteArray) (a1 : ByteArray) : Option (Bool) := (bif (ile (slen a1) (slen a0)) then ((ssub a0 0 (slen a1)).bind fun y1 => (some (seq y1 a1))) else (some false))
def internal_stringslite_HasPrefix.O : Oracle sg := fun n => lkp n []
def internal_stringslite_HasPrefix.a : Ann := .z
def internal_stringslite_HasPrefix.L : Nat → St sg.U → Option (RT sg.U [.bool]) := labs []
theorem internal_stringslite_HasPrefix.f_eq (a0 : ByteArray) (a1 : ByteArray) : internal_stringslite_HasPrefix.f a0 a1 = codeK (C := ctx) (internal_stringslite_HasPrefix.O) ⟨18, [], []⟩ (internal_stringslite_HasPrefix.L) (Try.f116.body.getD .skip) internal_stringslite_HasPrefix.a (endK ctx [.bool] [(.tmp 4)]) (slotsOf sg.U 0 [(.d .str), (.d .str)] (a0, a1, ()) (empty sg.U)) := by
  unfold internal_stringslite_HasPrefix.f
  kernel_rfl
def internal_stringslite_HasPrefix.e : Entry sg := entryOf sg [(.d .str), (.d .str)] [.bool] (fun h => internal_stringslite_HasPrefix.f h.1 h.2.1)
def internal_stringslite_HasPrefix.T : List (Lb sg (RT sg.U [.bool])) := []
theorem internal_stringslite_HasPrefix.ok : (internal_stringslite_HasPrefix.e).Sound Try.prog ctx 116 :=
  entry_ok base_ok mo (fn := Try.f116) (b := (Try.f116.body.getD .skip)) (pm := [(.d .str), (.d .str)]) (rs := [.bool]) (an := internal_stringslite_HasPrefix.a) (N := 18) (vars := [(.tmp 4)]) Try.func116 (by kernel_rfl) (by kernel_rfl) (by kernel_rfl) (by kernel_rfl) (by kernel_rfl) (by kernel_rfl) (O := fun _ => internal_stringslite_HasPrefix.O)
    (fun _ => by unfold internal_stringslite_HasPrefix.O; exact oracle_of (P := Try.prog) (C := ctx) trivial) internal_stringslite_HasPrefix.T trivial 0 (fun h => internal_stringslite_HasPrefix.f_eq h.1 h.2.1)
def strings_HasPrefix.f (a0 : ByteArray) (a1 : ByteArray) : Option (Bool) := ((internal_stringslite_HasPrefix.f a0 a1).bind fun y1 => (some y1))
def strings_HasPrefix.O : Oracle sg := fun n => lkp n [(116, internal_stringslite_HasPrefix.e)]
def strings_HasPrefix.a : Ann := .z
def strings_HasPrefix.L : Nat → St sg.U → Option (RT sg.U [.bool]) := labs []
theorem strings_HasPrefix.f_eq (a0 : ByteArray) (a1 : ByteArray) : strings_HasPrefix.f a0 a1 = codeK (C := ctx) (strings_HasPrefix.O) ⟨8, [], []⟩ (strings_HasPrefix.L) (Try.f110.body.getD .skip) strings_HasPrefix.a (endK ctx [.bool] [(.tmp 4)]) (slotsOf sg.U 0 [(.d .str), (.d .str)] (a0, a1, ()) (empty sg.U)) := by
  unfold strings_HasPrefix.f
  kernel_rfl
def strings_HasPrefix.e : Entry sg := entryOf sg [(.d .str), (.d .str)] [.bool] (fun h => strings_HasPrefix.f h.1 h.2.1)
def strings_HasPrefix.T : List (Lb sg (RT sg.U [.bool])) := []
theorem strings_HasPrefix.ok : (strings_HasPrefix.e).Sound Try.prog ctx 110 :=
  entry_ok base_ok mo (fn := Try.f110) (b := (Try.f110.body.getD .skip)) (pm := [(.d .str), (.d .str)]) (rs := [.bool]) (an := strings_HasPrefix.a) (N := 8) (vars := [(.tmp 4)]) Try.func110 (by kernel_rfl) (by kernel_rfl) (by kernel_rfl) (by kernel_rfl) (by kernel_rfl) (by kernel_rfl) (O := fun _ => strings_HasPrefix.O)
    (fun _ => by unfold strings_HasPrefix.O; exact oracle_of (P := Try.prog) (C := ctx) ⟨(internal_stringslite_HasPrefix.ok), trivial⟩) strings_HasPrefix.T trivial 0 (fun h => strings_HasPrefix.f_eq h.1 h.2.1)
def strings_Index.f (a0 : ByteArray) (a1 : ByteArray) : Option (Int) := if a0.size < 4294967281 then some (Lib.index a0.data.toList a1.data.toList) else none
def strings_Index.e : Entry sg := entryOf sg [(.d .str), (.d .str)] [(.int .i64)] (fun h => strings_Index.f h.1 h.2.1)
theorem strings_Index.ok : (strings_Index.e).Sound Try.prog ctx 111 :=
  entry_extern (C := ctx) sg_ok Try.func111 (by kernel_rfl) (by kernel_rfl) (by kernel_rfl) (by kernel_rfl) (fun hh x w hx hG => by
    unfold strings_Index.f at hx
    split at hx
    · rename_i c
      obtain rfl := Option.some.inj hx
      obtain ⟨m, hm⟩ := hG 0 (by simp [ctx, sg])
      refine (Try.strings_Index hh.1 hh.2.1 m w c hm).mono ?_
      rintro e w' ⟨rfl, rfl⟩
      exact ⟨rfl, Grow.refl _⟩
    · cases hx)
def strings_IndexByte.f (a0 : ByteArray) (a1 : Int) : Option (Int) := some (Lib.indexByte a0.data.toList a1.toNat.toUInt8)
def strings_IndexByte.e : Entry sg := entryOf sg [(.d .str), (.d (.int .u8))] [(.int .i64)] (fun h => strings_IndexByte.f h.1 h.2.1)
theorem strings_IndexByte.ok : (strings_IndexByte.e).Sound Try.prog ctx 112 :=
  entry_extern (C := ctx) sg_ok Try.func112 (by kernel_rfl) (by kernel_rfl) (by kernel_rfl) (by kernel_rfl) (fun hh x w hx hG => by
    obtain rfl := Option.some.inj hx
    refine (Try.strings_IndexByte hh.1 hh.2.1 w).mono ?_
    rintro e w' ⟨rfl, rfl⟩
    exact ⟨rfl, Grow.refl _⟩)
def asset_scanner_comment.l0 : Nat → ByteArray → Bool → (List T_asset_placed) → Int → ByteArray → Bool → Option (Int × ByteArray × Bool × (List T_asset_placed) × Unit)
  | 0, _, _, _, _, _, _ => none
  | k + 1, x0_0, x0_1, x0_2, x1, x5, x33 => (bif x33 then ((strings_IndexByte.f x5 10).bind fun y6 => (bif (ilt y6 0) then (some ((slen x0_0), (x0_0, x0_1, x0_2, ()))) else (some ((wadd .i64 x1 y6), (x0_0, x0_1, x0_2, ()))))) else (some ((-1), (x0_0, x0_1, x0_2, ()))))
def asset_scanner_comment.f (k : Nat) (a0_0 : ByteArray) (a0_1 : Bool) (a0_2 : (List T_asset_placed)) (a1 : Int) : Option (Int × ByteArray × Bool × (List T_asset_placed) × Unit) := ((ssub a0_0 a1 (slen a0_0)).bind fun y1 => ((strings_HasPrefix.f y1 c__2f_2a).bind fun y2 => (bif y2 then ((ssub y1 2 (slen y1)).bind fun y3 => ((strings_Index.f y3 c__2a_2f).bind fun y4 => (bif (ilt y4 0) then (some ((wadd .i64 (slen a0_0) 1), (a0_0, a0_1, a0_2, ()))) else (some ((wadd .i64 (wadd .i64 (wadd .i64 a1 2) y4) 2), (a0_0, a0_1, a0_2, ())))))) else (bif a0_1 then ((strings_HasPrefix.f y1 c__2f_2f).bind fun y5 => (asset_scanner_comment.l0 k a0_0 a0_1 a0_2 a1 y1 y5)) else (asset_scanner_comment.l0 k a0_0 a0_1 a0_2 a1 y1 false)))))
def asset_scanner_comment.O (k : Nat) : Oracle sg := fun n => lkp n [(110, strings_HasPrefix.e), (111, strings_Index.e), (112, strings_IndexByte.e)]
def asset_scanner_comment.a : Ann := (.n .z (.n .z (.n (.n .z (.n .z (.n .z (.lab 0 .z)))) .z)))
def asset_scanner_comment.L (k : Nat) : Nat → St sg.U → Option (RT sg.U [(.int .i64)] × HL sg.U (PM.outs [(.ref [.d .str, .d .bool, .row 218 (.st 2)]), (.d (.int .i64))])) := labs [(0, labOf sg [(0, (.box [.d .str, .d .bool, .row 218 (.st 2)])), (1, (.d (.int .i64))), (5, (.d .str)), (33, (.d .bool))] (fun h => asset_scanner_comment.l0 k h.1 h.2.1 h.2.2.1 h.2.2.2.1 h.2.2.2.2.1 h.2.2.2.2.2.1))]
theorem asset_scanner_comment.l0_eq (k : Nat) (x0_0 : ByteArray) (x0_1 : Bool) (x0_2 : (List T_asset_placed)) (x1 : Int) (x5 : ByteArray) (x33 : Bool) : asset_scanner_comment.l0 (k + 1) x0_0 x0_1 x0_2 x1 x5 x33 = runFrom (C := ctx) (asset_scanner_comment.O k) ⟨54, [0], []⟩ (asset_scanner_comment.L k) (Try.f95.body.getD .skip) asset_scanner_comment.a 0 (endR ctx [(.int .i64)] [(.tmp 4)] [(.ref [.d .str, .d .bool, .row 218 (.st 2)]), (.d (.int .i64))]) (encD [(0, (.box [.d .str, .d .bool, .row 218 (.st 2)])), (1, (.d (.int .i64))), (5, (.d .str)), (33, (.d .bool))] (x0_0, x0_1, x0_2, x1, x5, x33, ()) (startD sg.U ⟨54, [0], []⟩ [(0, (.box [.d .str, .d .bool, .row 218 (.st 2)])), (1, (.d (.int .i64))), (5, (.d .str)), (33, (.d .bool))])) := by
  rw [asset_scanner_comment.l0]
  kernel_rfl
theorem asset_scanner_comment.f_eq (k : Nat) (a0_0 : ByteArray) (a0_1 : Bool) (a0_2 : (List T_asset_placed)) (a1 : Int) : asset_scanner_comment.f k a0_0 a0_1 a0_2 a1 = codeK (C := ctx) (asset_scanner_comment.O k) ⟨54, [0], []⟩ (asset_scanner_comment.L k) (Try.f95.body.getD .skip) asset_scanner_comment.a (endR ctx [(.int .i64)] [(.tmp 4)] [(.ref [.d .str, .d .bool, .row 218 (.st 2)]), (.d (.int .i64))]) (slotsOf sg.U 0 [(.ref [.d .str, .d .bool, .row 218 (.st 2)]), (.d (.int .i64))] (a0_0, a0_1, a0_2, a1, ()) (emptyG sg.U (PM.gs [(.ref [.d .str, .d .bool, .row 218 (.st 2)]), (.d (.int .i64))]))) := by
  unfold asset_scanner_comment.f
  kernel_rfl
def asset_scanner_comment.e (k : Nat) : Entry sg := entryR sg [(.ref [.d .str, .d .bool, .row 218 (.st 2)]), (.d (.int .i64))] [(.int .i64)] (fun h => asset_scanner_comment.f k h.1 h.2.1 h.2.2.1 h.2.2.2.1)
def asset_scanner_comment.T : List (Lb sg (RT sg.U [(.int .i64)] × HL sg.U (PM.outs [(.ref [.d .str, .d .bool, .row 218 (.st 2)]), (.d (.int .i64))]))) := [⟨0, [(0, (.box [.d .str, .d .bool, .row 218 (.st 2)])), (1, (.d (.int .i64))), (5, (.d .str)), (33, (.d .bool))], fun k h => asset_scanner_comment.l0 k h.1 h.2.1 h.2.2.1 h.2.2.2.1 h.2.2.2.2.1 h.2.2.2.2.2.1⟩]
theorem asset_scanner_comment.ok (k : Nat) : (asset_scanner_comment.e k).Sound Try.prog ctx 95 :=
  entryR_ok base_ok mo (fn := Try.f95) (b := (Try.f95.body.getD .skip)) (pm := [(.ref [.d .str, .d .bool, .row 218 (.st 2)]), (.d (.int .i64))]) (rs := [(.int .i64)]) (an := asset_scanner_comment.a) (N := 54) (vars := [(.tmp 4)]) Try.func95 (by kernel_rfl) (by kernel_rfl) (by kernel_rfl) (by kernel_rfl) (by kernel_rfl) (by kernel_rfl) (by kernel_rfl) (by kernel_rfl) (O := asset_scanner_comment.O)
    (fun k => by unfold asset_scanner_comment.O; exact oracle_of (P := Try.prog) (C := ctx) ⟨(strings_HasPrefix.ok), ⟨(strings_Index.ok), ⟨(strings_IndexByte.ok), trivial⟩⟩⟩) asset_scanner_comment.T ⟨⟨by kernel_rfl, fun _ => by first | rfl | rw [asset_scanner_comment.l0], fun k h => asset_scanner_comment.l0_eq k h.1 h.2.1 h.2.2.1 h.2.2.2.1 h.2.2.2.2.1 h.2.2.2.2.2.1⟩, trivial⟩ k (fun h => asset_scanner_comment.f_eq k h.1 h.2.1 h.2.2.1 h.2.2.2.1)
def asset_scanner_checked.l0 : Nat → ByteArray → Bool → (List T_asset_placed) → Int → Int → Option (Int × ByteArray × Bool × (List T_asset_placed) × Unit)
  | 0, _, _, _, _, _ => none
  | k + 1, x0_0, x0_1, x0_2, x2, x7 => (bif (ilt x7 x2) then ((sat x0_0 x7).bind fun y1 => ((asset_badByte.f y1).bind fun y2 => (bif y2 then (some (x7, (x0_0, x0_1, x0_2, ()))) else (asset_scanner_checked.l0 k x0_0 x0_1 x0_2 x2 (wadd .i64 x7 1))))) else (some ((-1), (x0_0, x0_1, x0_2, ()))))
def asset_scanner_checked.f (k : Nat) (a0_0 : ByteArray) (a0_1 : Bool) (a0_2 : (List T_asset_placed)) (a1 : Int) (a2 : Int) : Option (Int × ByteArray × Bool × (List T_asset_placed) × Unit) := (asset_scanner_checked.l0 k a0_0 a0_1 a0_2 a2 a1)
def asset_scanner_checked.O (k : Nat) : Oracle sg := fun n => lkp n [(93, asset_badByte.e)]
def asset_scanner_checked.a : Ann := (.n .z (.n (.n .z (.lp 0 .z)) .z))
def asset_scanner_checked.L (k : Nat) : Nat → St sg.U → Option (RT sg.U [(.int .i64)] × HL sg.U (PM.outs [(.ref [.d .str, .d .bool, .row 218 (.st 2)]), (.d (.int .i64)), (.d (.int .i64))])) := labs [(0, labOf sg [(0, (.box [.d .str, .d .bool, .row 218 (.st 2)])), (2, (.d (.int .i64))), (7, (.d (.int .i64)))] (fun h => asset_scanner_checked.l0 k h.1 h.2.1 h.2.2.1 h.2.2.2.1 h.2.2.2.2.1))]
theorem asset_scanner_checked.l0_eq (k : Nat) (x0_0 : ByteArray) (x0_1 : Bool) (x0_2 : (List T_asset_placed)) (x2 : Int) (x7 : Int) : asset_scanner_checked.l0 (k + 1) x0_0 x0_1 x0_2 x2 x7 = runFrom (C := ctx) (asset_scanner_checked.O k) ⟨22, [0], []⟩ (asset_scanner_checked.L k) (Try.f99.body.getD .skip) asset_scanner_checked.a 0 (endR ctx [(.int .i64)] [(.tmp 6)] [(.ref [.d .str, .d .bool, .row 218 (.st 2)]), (.d (.int .i64)), (.d (.int .i64))]) (encD [(0, (.box [.d .str, .d .bool, .row 218 (.st 2)])), (2, (.d (.int .i64))), (7, (.d (.int .i64)))] (x0_0, x0_1, x0_2, x2, x7, ()) (startD sg.U ⟨22, [0], []⟩ [(0, (.box [.d .str, .d .bool, .row 218 (.st 2)])), (2, (.d (.int .i64))), (7, (.d (.int .i64)))])) := by
  rw [asset_scanner_checked.l0]
  kernel_rfl
theorem asset_scanner_checked.f_eq (k : Nat) (a0_0 : ByteArray) (a0_1 : Bool) (a0_2 : (List T_asset_placed)) (a1 : Int) (a2 : Int) : asset_scanner_checked.f k a0_0 a0_1 a0_2 a1 a2 = codeK (C := ctx) (asset_scanner_checked.O k) ⟨22, [0], []⟩ (asset_scanner_checked.L k) (Try.f99.body.getD .skip) asset_scanner_checked.a (endR ctx [(.int .i64)] [(.tmp 6)] [(.ref [.d .str, .d .bool, .row 218 (.st 2)]), (.d (.int .i64)), (.d (.int .i64))]) (slotsOf sg.U 0 [(.ref [.d .str, .d .bool, .row 218 (.st 2)]), (.d (.int .i64)), (.d (.int .i64))] (a0_0, a0_1, a0_2, a1, a2, ()) (emptyG sg.U (PM.gs [(.ref [.d .str, .d .bool, .row 218 (.st 2)]), (.d (.int .i64)), (.d (.int .i64))]))) := by
  unfold asset_scanner_checked.f
  kernel_rfl
def asset_scanner_checked.e (k : Nat) : Entry sg := entryR sg [(.ref [.d .str, .d .bool, .row 218 (.st 2)]), (.d (.int .i64)), (.d (.int .i64))] [(.int .i64)] (fun h => asset_scanner_checked.f k h.1 h.2.1 h.2.2.1 h.2.2.2.1 h.2.2.2.2.1)
def asset_scanner_checked.T : List (Lb sg (RT sg.U [(.int .i64)] × HL sg.U (PM.outs [(.ref [.d .str, .d .bool, .row 218 (.st 2)]), (.d (.int .i64)), (.d (.int .i64))]))) := [⟨0, [(0, (.box [.d .str, .d .bool, .row 218 (.st 2)])), (2, (.d (.int .i64))), (7, (.d (.int .i64)))], fun k h => asset_scanner_checked.l0 k h.1 h.2.1 h.2.2.1 h.2.2.2.1 h.2.2.2.2.1⟩]
theorem asset_scanner_checked.ok (k : Nat) : (asset_scanner_checked.e k).Sound Try.prog ctx 99 :=
  entryR_ok base_ok mo (fn := Try.f99) (b := (Try.f99.body.getD .skip)) (pm := [(.ref [.d .str, .d .bool, .row 218 (.st 2)]), (.d (.int .i64)), (.d (.int .i64))]) (rs := [(.int .i64)]) (an := asset_scanner_checked.a) (N := 22) (vars := [(.tmp 6)]) Try.func99 (by kernel_rfl) (by kernel_rfl) (by kernel_rfl) (by kernel_rfl) (by kernel_rfl) (by kernel_rfl) (by kernel_rfl) (by kernel_rfl) (O := asset_scanner_checked.O)
    (fun k => by unfold asset_scanner_checked.O; exact oracle_of (P := Try.prog) (C := ctx) ⟨(asset_badByte.ok), trivial⟩) asset_scanner_checked.T ⟨⟨by kernel_rfl, fun _ => by first | rfl | rw [asset_scanner_checked.l0], fun k h => asset_scanner_checked.l0_eq k h.1 h.2.1 h.2.2.1 h.2.2.2.1 h.2.2.2.2.1⟩, trivial⟩ k (fun h => asset_scanner_checked.f_eq k h.1 h.2.1 h.2.2.1 h.2.2.2.1 h.2.2.2.2.1)
mutual
def asset_scanner_blank.l0 : Nat → ByteArray → Bool → (List T_asset_placed) → Int → Option ((Int × Int × Int) × ByteArray × Bool × (List T_asset_placed) × Unit)
  | 0, _, _, _, _ => none
  | k + 1, x0_0, x0_1, x0_2, x1 => (bif (ilt x1 (slen x0_0)) then ((sat x0_0 x1).bind fun y1 => ((asset_isBlank.f y1).bind fun y2 => (bif y2 then (asset_scanner_blank.l0 k x0_0 x0_1 x0_2 (wadd .i64 x1 1)) else ((asset_scanner_comment.f k x0_0 x0_1 x0_2 x1).bind fun y3 => (bif (ilt y3.1 0) then (asset_scanner_blank.l1 k y3.2.1 y3.2.2.1 y3.2.2.2.1 x1) else (bif (ilt (slen y3.2.1) y3.1) then (some ((0, x1, 8), (y3.2.1, y3.2.2.1, y3.2.2.2.1, ()))) else ((asset_scanner_checked.f k y3.2.1 y3.2.2.1 y3.2.2.2.1 x1 y3.1).bind fun y4 => (bif (ile 0 y4.1) then (some ((0, y4.1, 9), (y4.2.1, y4.2.2.1, y4.2.2.2.1, ()))) else (asset_scanner_blank.l0 k y4.2.1 y4.2.2.1 y4.2.2.2.1 y3.1))))))))) else (asset_scanner_blank.l1 k x0_0 x0_1 x0_2 x1))
def asset_scanner_blank.l1 : Nat → ByteArray → Bool → (List T_asset_placed) → Int → Option ((Int × Int × Int) × ByteArray × Bool × (List T_asset_placed) × Unit)
  | 0, _, _, _, _ => none
  | k + 1, x0_0, x0_1, x0_2, x1 => (some ((x1, 0, 0), (x0_0, x0_1, x0_2, ())))
end
def asset_scanner_blank.f (k : Nat) (a0_0 : ByteArray) (a0_1 : Bool) (a0_2 : (List T_asset_placed)) (a1 : Int) : Option ((Int × Int × Int) × ByteArray × Bool × (List T_asset_placed) × Unit) := (asset_scanner_blank.l0 k a0_0 a0_1 a0_2 a1)
def asset_scanner_blank.O (k : Nat) : Oracle sg := fun n => lkp n [(94, asset_isBlank.e), (95, asset_scanner_comment.e k), (99, asset_scanner_checked.e k)]
def asset_scanner_blank.a : Ann := (.n .z (.n (.lp 0 .z) (.lab 1 .z)))
def asset_scanner_blank.L (k : Nat) : Nat → St sg.U → Option (RT sg.U [(.int .i64), (.int .i64), (.int .i64)] × HL sg.U (PM.outs [(.ref [.d .str, .d .bool, .row 218 (.st 2)]), (.d (.int .i64))])) := labs [(0, labOf sg [(0, (.box [.d .str, .d .bool, .row 218 (.st 2)])), (1, (.d (.int .i64)))] (fun h => asset_scanner_blank.l0 k h.1 h.2.1 h.2.2.1 h.2.2.2.1)), (1, labOf sg [(0, (.box [.d .str, .d .bool, .row 218 (.st 2)])), (1, (.d (.int .i64)))] (fun h => asset_scanner_blank.l1 k h.1 h.2.1 h.2.2.1 h.2.2.2.1))]
theorem asset_scanner_blank.l0_eq (k : Nat) (x0_0 : ByteArray) (x0_1 : Bool) (x0_2 : (List T_asset_placed)) (x1 : Int) : asset_scanner_blank.l0 (k + 1) x0_0 x0_1 x0_2 x1 = runFrom (C := ctx) (asset_scanner_blank.O k) ⟨47, [0], []⟩ (asset_scanner_blank.L k) (Try.f96.body.getD .skip) asset_scanner_blank.a 0 (endR ctx [(.int .i64), (.int .i64), (.int .i64)] [(.tmp 4), (.tmp 5), (.tmp 6)] [(.ref [.d .str, .d .bool, .row 218 (.st 2)]), (.d (.int .i64))]) (encD [(0, (.box [.d .str, .d .bool, .row 218 (.st 2)])), (1, (.d (.int .i64)))] (x0_0, x0_1, x0_2, x1, ()) (startD sg.U ⟨47, [0], []⟩ [(0, (.box [.d .str, .d .bool, .row 218 (.st 2)])), (1, (.d (.int .i64)))])) := by
  rw [asset_scanner_blank.l0]
  kernel_rfl
theorem asset_scanner_blank.l1_eq (k : Nat) (x0_0 : ByteArray) (x0_1 : Bool) (x0_2 : (List T_asset_placed)) (x1 : Int) : asset_scanner_blank.l1 (k + 1) x0_0 x0_1 x0_2 x1 = runFrom (C := ctx) (asset_scanner_blank.O k) ⟨47, [0], []⟩ (asset_scanner_blank.L k) (Try.f96.body.getD .skip) asset_scanner_blank.a 1 (endR ctx [(.int .i64), (.int .i64), (.int .i64)] [(.tmp 4), (.tmp 5), (.tmp 6)] [(.ref [.d .str, .d .bool, .row 218 (.st 2)]), (.d (.int .i64))]) (encD [(0, (.box [.d .str, .d .bool, .row 218 (.st 2)])), (1, (.d (.int .i64)))] (x0_0, x0_1, x0_2, x1, ()) (startD sg.U ⟨47, [0], []⟩ [(0, (.box [.d .str, .d .bool, .row 218 (.st 2)])), (1, (.d (.int .i64)))])) := by
  rw [asset_scanner_blank.l1]
  kernel_rfl
theorem asset_scanner_blank.f_eq (k : Nat) (a0_0 : ByteArray) (a0_1 : Bool) (a0_2 : (List T_asset_placed)) (a1 : Int) : asset_scanner_blank.f k a0_0 a0_1 a0_2 a1 = codeK (C := ctx) (asset_scanner_blank.O k) ⟨47, [0], []⟩ (asset_scanner_blank.L k) (Try.f96.body.getD .skip) asset_scanner_blank.a (endR ctx [(.int .i64), (.int .i64), (.int .i64)] [(.tmp 4), (.tmp 5), (.tmp 6)] [(.ref [.d .str, .d .bool, .row 218 (.st 2)]), (.d (.int .i64))]) (slotsOf sg.U 0 [(.ref [.d .str, .d .bool, .row 218 (.st 2)]), (.d (.int .i64))] (a0_0, a0_1, a0_2, a1, ()) (emptyG sg.U (PM.gs [(.ref [.d .str, .d .bool, .row 218 (.st 2)]), (.d (.int .i64))]))) := by
  unfold asset_scanner_blank.f
  kernel_rfl
def asset_scanner_blank.e (k : Nat) : Entry sg := entryR sg [(.ref [.d .str, .d .bool, .row 218 (.st 2)]), (.d (.int .i64))] [(.int .i64), (.int .i64), (.int .i64)] (fun h => asset_scanner_blank.f k h.1 h.2.1 h.2.2.1 h.2.2.2.1)
def asset_scanner_blank.T : List (Lb sg (RT sg.U [(.int .i64), (.int .i64), (.int .i64)] × HL sg.U (PM.outs [(.ref [.d .str, .d .bool, .row 218 (.st 2)]), (.d (.int .i64))]))) := [⟨0, [(0, (.box [.d .str, .d .bool, .row 218 (.st 2)])), (1, (.d (.int .i64)))], fun k h => asset_scanner_blank.l0 k h.1 h.2.1 h.2.2.1 h.2.2.2.1⟩, ⟨1, [(0, (.box [.d .str, .d .bool, .row 218 (.st 2)])), (1, (.d (.int .i64)))], fun k h => asset_scanner_blank.l1 k h.1 h.2.1 h.2.2.1 h.2.2.2.1⟩]
theorem asset_scanner_blank.ok (k : Nat) : (asset_scanner_blank.e k).Sound Try.prog ctx 96 :=
  entryR_ok base_ok mo (fn := Try.f96) (b := (Try.f96.body.getD .skip)) (pm := [(.ref [.d .str, .d .bool, .row 218 (.st 2)]), (.d (.int .i64))]) (rs := [(.int .i64), (.int .i64), (.int .i64)]) (an := asset_scanner_blank.a) (N := 47) (vars := [(.tmp 4), (.tmp 5), (.tmp 6)]) Try.func96 (by kernel_rfl) (by kernel_rfl) (by kernel_rfl) (by kernel_rfl) (by kernel_rfl) (by kernel_rfl) (by kernel_rfl) (by kernel_rfl) (O := asset_scanner_blank.O)
    (fun k => by unfold asset_scanner_blank.O; exact oracle_of (P := Try.prog) (C := ctx) ⟨(asset_isBlank.ok), ⟨(asset_scanner_comment.ok k), ⟨(asset_scanner_checked.ok k), trivial⟩⟩⟩) asset_scanner_blank.T ⟨⟨by kernel_rfl, fun _ => by first | rfl | rw [asset_scanner_blank.l0], fun k h => asset_scanner_blank.l0_eq k h.1 h.2.1 h.2.2.1 h.2.2.2.1⟩, ⟨⟨by kernel_rfl, fun _ => by first | rfl | rw [asset_scanner_blank.l1], fun k h => asset_scanner_blank.l1_eq k h.1 h.2.1 h.2.2.1 h.2.2.2.1⟩, trivial⟩⟩ k (fun h => asset_scanner_blank.f_eq k h.1 h.2.1 h.2.2.1 h.2.2.2.1)
def asset_scanner_add.l0 : Nat → ByteArray → Bool → (List T_asset_placed) → Int → ByteArray → Int → Int → Option (Unit × ByteArray × Bool × (List T_asset_placed) × Unit)
  | 0, _, _, _, _, _, _, _ => none
  | k + 1, x0_0, x0_1, x0_2, x8_0, x8_1, x8_2, x8_3 => ((lapp 40 x0_2 [(T_asset_placed.mk (T_asset_Token.mk x8_0 x8_1) x8_2 x8_3)]).bind fun y2 => (some ((), (x0_0, x0_1, y2, ()))))
def asset_scanner_add.f (k : Nat) (a0_0 : ByteArray) (a0_1 : Bool) (a0_2 : (List T_asset_placed)) (a1 : Int) (a2 : Int) (a3 : Int) : Option (Unit × ByteArray × Bool × (List T_asset_placed) × Unit) := ((ssub a0_0 a2 a3).bind fun y1 => (bif (ieq a1 4) then (asset_scanner_add.l0 k a0_0 a0_1 a0_2 a1 c__20 a2 a3) else (asset_scanner_add.l0 k a0_0 a0_1 a0_2 a1 y1 a2 a3)))
def asset_scanner_add.O (k : Nat) : Oracle sg := fun n => lkp n []
def asset_scanner_add.a : Ann := (.n .z (.n .z (.lab 0 .z)))
def asset_scanner_add.L (k : Nat) : Nat → St sg.U → Option (RT sg.U [] × HL sg.U (PM.outs [(.ref [.d .str, .d .bool, .row 218 (.st 2)]), (.d (.int .i64)), (.d (.int .i64)), (.d (.int .i64))])) := labs [(0, labOf sg [(0, (.box [.d .str, .d .bool, .row 218 (.st 2)])), (8, (.box [.d (.int .i64), .d .str, .d (.int .i64), .d (.int .i64)]))] (fun h => asset_scanner_add.l0 k h.1 h.2.1 h.2.2.1 h.2.2.2.1 h.2.2.2.2.1 h.2.2.2.2.2.1 h.2.2.2.2.2.2.1))]
theorem asset_scanner_add.l0_eq (k : Nat) (x0_0 : ByteArray) (x0_1 : Bool) (x0_2 : (List T_asset_placed)) (x8_0 : Int) (x8_1 : ByteArray) (x8_2 : Int) (x8_3 : Int) : asset_scanner_add.l0 (k + 1) x0_0 x0_1 x0_2 x8_0 x8_1 x8_2 x8_3 = runFrom (C := ctx) (asset_scanner_add.O k) ⟨35, [0], []⟩ (asset_scanner_add.L k) (Try.f97.body.getD .skip) asset_scanner_add.a 0 (endR ctx [] [] [(.ref [.d .str, .d .bool, .row 218 (.st 2)]), (.d (.int .i64)), (.d (.int .i64)), (.d (.int .i64))]) (encD [(0, (.box [.d .str, .d .bool, .row 218 (.st 2)])), (8, (.box [.d (.int .i64), .d .str, .d (.int .i64), .d (.int .i64)]))] (x0_0, x0_1, x0_2, x8_0, x8_1, x8_2, x8_3, ()) (startD sg.U ⟨35, [0], []⟩ [(0, (.box [.d .str, .d .bool, .row 218 (.st 2)])), (8, (.box [.d (.int .i64), .d .str, .d (.int .i64), .d (.int .i64)]))])) := by
  rw [asset_scanner_add.l0]
  kernel_rfl
theorem asset_scanner_add.f_eq (k : Nat) (a0_0 : ByteArray) (a0_1 : Bool) (a0_2 : (List T_asset_placed)) (a1 : Int) (a2 : Int) (a3 : Int) : asset_scanner_add.f k a0_0 a0_1 a0_2 a1 a2 a3 = codeK (C := ctx) (asset_scanner_add.O k) ⟨35, [0], []⟩ (asset_scanner_add.L k) (Try.f97.body.getD .skip) asset_scanner_add.a (endR ctx [] [] [(.ref [.d .str, .d .bool, .row 218 (.st 2)]), (.d (.int .i64)), (.d (.int .i64)), (.d (.int .i64))]) (slotsOf sg.U 0 [(.ref [.d .str, .d .bool, .row 218 (.st 2)]), (.d (.int .i64)), (.d (.int .i64)), (.d (.int .i64))] (a0_0, a0_1, a0_2, a1, a2, a3, ()) (emptyG sg.U (PM.gs [(.ref [.d .str, .d .bool, .row 218 (.st 2)]), (.d (.int .i64)), (.d (.int .i64)), (.d (.int .i64))]))) := by
  unfold asset_scanner_add.f
  kernel_rfl
def asset_scanner_add.e (k : Nat) : Entry sg := entryR sg [(.ref [.d .str, .d .bool, .row 218 (.st 2)]), (.d (.int .i64)), (.d (.int .i64)), (.d (.int .i64))] [] (fun h => asset_scanner_add.f k h.1 h.2.1 h.2.2.1 h.2.2.2.1 h.2.2.2.2.1 h.2.2.2.2.2.1)
def asset_scanner_add.T : List (Lb sg (RT sg.U [] × HL sg.U (PM.outs [(.ref [.d .str, .d .bool, .row 218 (.st 2)]), (.d (.int .i64)), (.d (.int .i64)), (.d (.int .i64))]))) := [⟨0, [(0, (.box [.d .str, .d .bool, .row 218 (.st 2)])), (8, (.box [.d (.int .i64), .d .str, .d (.int .i64), .d (.int .i64)]))], fun k h => asset_scanner_add.l0 k h.1 h.2.1 h.2.2.1 h.2.2.2.1 h.2.2.2.2.1 h.2.2.2.2.2.1 h.2.2.2.2.2.2.1⟩]
theorem asset_scanner_add.ok (k : Nat) : (asset_scanner_add.e k).Sound Try.prog ctx 97 :=
  entryR_ok base_ok mo (fn := Try.f97) (b := (Try.f97.body.getD .skip)) (pm := [(.ref [.d .str, .d .bool, .row 218 (.st 2)]), (.d (.int .i64)), (.d (.int .i64)), (.d (.int .i64))]) (rs := []) (an := asset_scanner_add.a) (N := 35) (vars := []) Try.func97 (by kernel_rfl) (by kernel_rfl) (by kernel_rfl) (by kernel_rfl) (by kernel_rfl) (by kernel_rfl) (by kernel_rfl) (by kernel_rfl) (O := asset_scanner_add.O)
    (fun k => by unfold asset_scanner_add.O; exact oracle_of (P := Try.prog) (C := ctx) trivial) asset_scanner_add.T ⟨⟨by kernel_rfl, fun _ => by first | rfl | rw [asset_scanner_add.l0], fun k h => asset_scanner_add.l0_eq k h.1 h.2.1 h.2.2.1 h.2.2.2.1 h.2.2.2.2.1 h.2.2.2.2.2.1 h.2.2.2.2.2.2.1⟩, trivial⟩ k (fun h => asset_scanner_add.f_eq k h.1 h.2.1 h.2.2.1 h.2.2.2.1 h.2.2.2.2.1 h.2.2.2.2.2.1)
mutual
def asset_scanner_text.l0 : Nat → ByteArray → Bool → (List T_asset_placed) → Int → Int → Option (Int × ByteArray × Bool × (List T_asset_placed) × Unit)
  | 0, _, _, _, _, _ => none
  | k + 1, x0_0, x0_1, x0_2, x1, x5 => (bif (ilt x1 (slen x0_0)) then ((sat x0_0 x1).bind fun y2 => (bif (!ieq y2 10) then ((sat x0_0 x1).bind fun y3 => (bif (ieq y3 x5) then (some ((wadd .i64 x1 1), (x0_0, x0_1, x0_2, ()))) else (bif (ieq y3 92) then (bif (ilt (wadd .i64 x1 1) (slen x0_0)) then ((sat x0_0 (wadd .i64 x1 1)).bind fun y4 => (asset_scanner_text.l1 k x0_0 x0_1 x0_2 x1 x5 x0_0 x1 y2 true (!ieq y4 10))) else (asset_scanner_text.l1 k x0_0 x0_1 x0_2 x1 x5 x0_0 x1 y2 true false)) else (asset_scanner_text.l0 k x0_0 x0_1 x0_2 (wadd .i64 x1 1) x5)))) else (some ((-1), (x0_0, x0_1, x0_2, ()))))) else (some ((-1), (x0_0, x0_1, x0_2, ()))))
def asset_scanner_text.l1 : Nat → ByteArray → Bool → (List T_asset_placed) → Int → Int → ByteArray → Int → Int → Bool → Bool → Option (Int × ByteArray × Bool × (List T_asset_placed) × Unit)
  | 0, _, _, _, _, _, _, _, _, _, _ => none
  | k + 1, x0_0, x0_1, x0_2, x1, x5, x25, x26, x27, x28, x62 => (bif x62 then (asset_scanner_text.l0 k x0_0 x0_1 x0_2 (wadd .i64 (wadd .i64 x1 1) 1) x5) else (asset_scanner_text.l0 k x0_0 x0_1 x0_2 (wadd .i64 x1 1) x5))
end
def asset_scanner_text.f (k : Nat) (a0_0 : ByteArray) (a0_1 : Bool) (a0_2 : (List T_asset_placed)) (a1 : Int) : Option (Int × ByteArray × Bool × (List T_asset_placed) × Unit) := ((sat a0_0 a1).bind fun y1 => (asset_scanner_text.l0 k a0_0 a0_1 a0_2 (wadd .i64 a1 1) y1))
def asset_scanner_text.O (k : Nat) : Oracle sg := fun n => lkp n []
def asset_scanner_text.a : Ann := (.n .z (.n .z (.n (.n .z (.lp 0 (.n .z (.n (.n .z (.n .z (.n .z (.n .z (.n (.n .z (.lab 1 .z)) .z))))) .z)))) .z)))
def asset_scanner_text.L (k : Nat) : Nat → St sg.U → Option (RT sg.U [(.int .i64)] × HL sg.U (PM.outs [(.ref [.d .str, .d .bool, .row 218 (.st 2)]), (.d (.int .i64))])) := labs [(0, labOf sg [(0, (.box [.d .str, .d .bool, .row 218 (.st 2)])), (1, (.d (.int .i64))), (5, (.d (.int .u8)))] (fun h => asset_scanner_text.l0 k h.1 h.2.1 h.2.2.1 h.2.2.2.1 h.2.2.2.2.1)), (1, labOf sg [(0, (.box [.d .str, .d .bool, .row 218 (.st 2)])), (1, (.d (.int .i64))), (5, (.d (.int .u8))), (25, (.d .str)), (26, (.d (.int .i64))), (27, (.d (.int .u8))), (28, (.d .bool)), (62, (.d .bool))] (fun h => asset_scanner_text.l1 k h.1 h.2.1 h.2.2.1 h.2.2.2.1 h.2.2.2.2.1 h.2.2.2.2.2.1 h.2.2.2.2.2.2.1 h.2.2.2.2.2.2.2.1 h.2.2.2.2.2.2.2.2.1 h.2.2.2.2.2.2.2.2.2.1))]
theorem asset_scanner_text.l0_eq (k : Nat) (x0_0 : ByteArray) (x0_1 : Bool) (x0_2 : (List T_asset_placed)) (x1 : Int) (x5 : Int) : asset_scanner_text.l0 (k + 1) x0_0 x0_1 x0_2 x1 x5 = runFrom (C := ctx) (asset_scanner_text.O k) ⟨65, [0], []⟩ (asset_scanner_text.L k) (Try.f98.body.getD .skip) asset_scanner_text.a 0 (endR ctx [(.int .i64)] [(.tmp 4)] [(.ref [.d .str, .d .bool, .row 218 (.st 2)]), (.d (.int .i64))]) (encD [(0, (.box [.d .str, .d .bool, .row 218 (.st 2)])), (1, (.d (.int .i64))), (5, (.d (.int .u8)))] (x0_0, x0_1, x0_2, x1, x5, ()) (startD sg.U ⟨65, [0], []⟩ [(0, (.box [.d .str, .d .bool, .row 218 (.st 2)])), (1, (.d (.int .i64))), (5, (.d (.int .u8)))])) := by
  rw [asset_scanner_text.l0]
  kernel_rfl
theorem asset_scanner_text.l1_eq (k : Nat) (x0_0 : ByteArray) (x0_1 : Bool) (x0_2 : (List T_asset_placed)) (x1 : Int) (x5 : Int) (x25 : ByteArray) (x26 : Int) (x27 : Int) (x28 : Bool) (x62 : Bool) : asset_scanner_text.l1 (k + 1) x0_0 x0_1 x0_2 x1 x5 x25 x26 x27 x28 x62 = runFrom (C := ctx) (asset_scanner_text.O k) ⟨65, [0], []⟩ (asset_scanner_text.L k) (Try.f98.body.getD .skip) asset_scanner_text.a 1 (endR ctx [(.int .i64)] [(.tmp 4)] [(.ref [.d .str, .d .bool, .row 218 (.st 2)]), (.d (.int .i64))]) (encD [(0, (.box [.d .str, .d .bool, .row 218 (.st 2)])), (1, (.d (.int .i64))), (5, (.d (.int .u8))), (25, (.d .str)), (26, (.d (.int .i64))), (27, (.d (.int .u8))), (28, (.d .bool)), (62, (.d .bool))] (x0_0, x0_1, x0_2, x1, x5, x25, x26, x27, x28, x62, ()) (startD sg.U ⟨65, [0], []⟩ [(0, (.box [.d .str, .d .bool, .row 218 (.st 2)])), (1, (.d (.int .i64))), (5, (.d (.int .u8))), (25, (.d .str)), (26, (.d (.int .i64))), (27, (.d (.int .u8))), (28, (.d .bool)), (62, (.d .bool))])) := by
  rw [asset_scanner_text.l1]
  kernel_rfl
theorem asset_scanner_text.f_eq (k : Nat) (a0_0 : ByteArray) (a0_1 : Bool) (a0_2 : (List T_asset_placed)) (a1 : Int) : asset_scanner_text.f k a0_0 a0_1 a0_2 a1 = codeK (C := ctx) (asset_scanner_text.O k) ⟨65, [0], []⟩ (asset_scanner_text.L k) (Try.f98.body.getD .skip) asset_scanner_text.a (endR ctx [(.int .i64)] [(.tmp 4)] [(.ref [.d .str, .d .bool, .row 218 (.st 2)]), (.d (.int .i64))]) (slotsOf sg.U 0 [(.ref [.d .str, .d .bool, .row 218 (.st 2)]), (.d (.int .i64))] (a0_0, a0_1, a0_2, a1, ()) (emptyG sg.U (PM.gs [(.ref [.d .str, .d .bool, .row 218 (.st 2)]), (.d (.int .i64))]))) := by
  unfold asset_scanner_text.f
  kernel_rfl
def asset_scanner_text.e (k : Nat) : Entry sg := entryR sg [(.ref [.d .str, .d .bool, .row 218 (.st 2)]), (.d (.int .i64))] [(.int .i64)] (fun h => asset_scanner_text.f k h.1 h.2.1 h.2.2.1 h.2.2.2.1)
def asset_scanner_text.T : List (Lb sg (RT sg.U [(.int .i64)] × HL sg.U (PM.outs [(.ref [.d .str, .d .bool, .row 218 (.st 2)]), (.d (.int .i64))]))) := [⟨0, [(0, (.box [.d .str, .d .bool, .row 218 (.st 2)])), (1, (.d (.int .i64))), (5, (.d (.int .u8)))], fun k h => asset_scanner_text.l0 k h.1 h.2.1 h.2.2.1 h.2.2.2.1 h.2.2.2.2.1⟩, ⟨1, [(0, (.box [.d .str, .d .bool, .row 218 (.st 2)])), (1, (.d (.int .i64))), (5, (.d (.int .u8))), (25, (.d .str)), (26, (.d (.int .i64))), (27, (.d (.int .u8))), (28, (.d .bool)), (62, (.d .bool))], fun k h => asset_scanner_text.l1 k h.1 h.2.1 h.2.2.1 h.2.2.2.1 h.2.2.2.2.1 h.2.2.2.2.2.1 h.2.2.2.2.2.2.1 h.2.2.2.2.2.2.2.1 h.2.2.2.2.2.2.2.2.1 h.2.2.2.2.2.2.2.2.2.1⟩]
theorem asset_scanner_text.ok (k : Nat) : (asset_scanner_text.e k).Sound Try.prog ctx 98 :=
  entryR_ok base_ok mo (fn := Try.f98) (b := (Try.f98.body.getD .skip)) (pm := [(.ref [.d .str, .d .bool, .row 218 (.st 2)]), (.d (.int .i64))]) (rs := [(.int .i64)]) (an := asset_scanner_text.a) (N := 65) (vars := [(.tmp 4)]) Try.func98 (by kernel_rfl) (by kernel_rfl) (by kernel_rfl) (by kernel_rfl) (by kernel_rfl) (by kernel_rfl) (by kernel_rfl) (by kernel_rfl) (O := asset_scanner_text.O)
    (fun k => by unfold asset_scanner_text.O; exact oracle_of (P := Try.prog) (C := ctx) trivial) asset_scanner_text.T ⟨⟨by kernel_rfl, fun _ => by first | rfl | rw [asset_scanner_text.l0], fun k h => asset_scanner_text.l0_eq k h.1 h.2.1 h.2.2.1 h.2.2.2.1 h.2.2.2.2.1⟩, ⟨⟨by kernel_rfl, fun _ => by first | rfl | rw [asset_scanner_text.l1], fun k h => asset_scanner_text.l1_eq k h.1 h.2.1 h.2.2.1 h.2.2.2.1 h.2.2.2.2.1 h.2.2.2.2.2.1 h.2.2.2.2.2.2.1 h.2.2.2.2.2.2.2.1 h.2.2.2.2.2.2.2.2.1 h.2.2.2.2.2.2.2.2.2.1⟩, trivial⟩⟩ k (fun h => asset_scanner_text.f_eq k h.1 h.2.1 h.2.2.1 h.2.2.2.1)
def asset_isDigit.f (a0 : Int) : Option (Bool) := (some (bif (ile 48 a0) then (ile a0 57) else false))
def asset_isDigit.O : Oracle sg := fun n => lkp n []
def asset_isDigit.a : Ann := .z
def asset_isDigit.L : Nat → St sg.U → Option (RT sg.U [.bool]) := labs []
theorem asset_isDigit.f_eq (a0 : Int) : asset_isDigit.f a0 = codeK (C := ctx) (asset_isDigit.O) ⟨9, [], []⟩ (asset_isDigit.L) (Try.f119.body.getD .skip) asset_isDigit.a (endK ctx [.bool] [(.tmp 2)]) (slotsOf sg.U 0 [(.d (.int .u8))] (a0, ()) (empty sg.U)) := by
  unfold asset_isDigit.f
  kernel_rfl
def asset_isDigit.e : Entry sg := entryOf sg [(.d (.int .u8))] [.bool] (fun h => asset_isDigit.f h.1)
def asset_isDigit.T : List (Lb sg (RT sg.U [.bool])) := []
theorem asset_isDigit.ok : (asset_isDigit.e).Sound Try.prog ctx 119 :=
  entry_ok base_ok mo (fn := Try.f119) (b := (Try.f119.body.getD .skip)) (pm := [(.d (.int .u8))]) (rs := [.bool]) (an := asset_isDigit.a) (N := 9) (vars := [(.tmp 2)]) Try.func119 (by kernel_rfl) (by kernel_rfl) (by kernel_rfl) (by kernel_rfl) (by kernel_rfl) (by kernel_rfl) (O := fun _ => asset_isDigit.O)
    (fun _ => by unfold asset_isDigit.O; exact oracle_of (P := Try.prog) (C := ctx) trivial) asset_isDigit.T trivial 0 (fun h => asset_isDigit.f_eq h.1)
def asset_isScriptWord.f (a0 : Int) : Option (Bool) := (bif (bif (bif (ile 97 a0) then (ile a0 122) else false) then true else (bif (ile 65 a0) then (ile a0 90) else false)) then (some true) else ((asset_isDigit.f a0).bind fun y1 => (some (bif (bif (bif y1 then true else (ieq a0 95)) then true else (ieq a0 36)) then true else (ile 128 a0)))))
def asset_isScriptWord.O : Oracle sg := fun n => lkp n [(119, asset_isDigit.e)]
def asset_isScriptWord.a : Ann := .z
def asset_isScriptWord.L : Nat → St sg.U → Option (RT sg.U [.bool]) := labs []
theorem asset_isScriptWord.f_eq (a0 : Int) : asset_isScriptWord.f a0 = codeK (C := ctx) (asset_isScriptWord.O) ⟨33, [], []⟩ (asset_isScriptWord.L) (Try.f113.body.getD .skip) asset_isScriptWord.a (endK ctx [.bool] [(.tmp 2)]) (slotsOf sg.U 0 [(.d (.int .u8))] (a0, ()) (empty sg.U)) := by
  unfold asset_isScriptWord.f
  kernel_rfl
def asset_isScriptWord.e : Entry sg := entryOf sg [(.d (.int .u8))] [.bool] (fun h => asset_isScriptWord.f h.1)
def asset_isScriptWord.T : List (Lb sg (RT sg.U [.bool])) := []
theorem asset_isScriptWord.ok : (asset_isScriptWord.e).Sound Try.prog ctx 113 :=
  entry_ok base_ok mo (fn := Try.f113) (b := (Try.f113.body.getD .skip)) (pm := [(.d (.int .u8))]) (rs := [.bool]) (an := asset_isScriptWord.a) (N := 33) (vars := [(.tmp 2)]) Try.func113 (by kernel_rfl) (by kernel_rfl) (by kernel_rfl) (by kernel_rfl) (by kernel_rfl) (by kernel_rfl) (O := fun _ => asset_isScriptWord.O)
    (fun _ => by unfold asset_isScriptWord.O; exact oracle_of (P := Try.prog) (C := ctx) ⟨(asset_isDigit.ok), trivial⟩) asset_isScriptWord.T trivial 0 (fun h => asset_isScriptWord.f_eq h.1)
def asset_scanner_isMark.f (a0_0 : ByteArray) (a0_1 : Bool) (a0_2 : (List T_asset_placed)) (a1 : Int) : Option (Bool × ByteArray × Bool × (List T_asset_placed) × Unit) := (bif a0_1 then ((asset_isScriptWord.f a1).bind fun y1 => (some ((!y1), (a0_0, a0_1, a0_2, ())))) else ((strings_IndexByte.f c__7b_7d_28_29_5b_5d_3b_3a_2c_3e a1).bind fun y2 => (some ((ile 0 y2), (a0_0, a0_1, a0_2, ())))))
def asset_scanner_isMark.O : Oracle sg := fun n => lkp n [(112, strings_IndexByte.e), (113, asset_isScriptWord.e)]
def asset_scanner_isMark.a : Ann := .z
def asset_scanner_isMark.L : Nat → St sg.U → Option (RT sg.U [.bool] × HL sg.U (PM.outs [(.ref [.d .str, .d .bool, .row 218 (.st 2)]), (.d (.int .u8))])) := labs []
theorem asset_scanner_isMark.f_eq (a0_0 : ByteArray) (a0_1 : Bool) (a0_2 : (List T_asset_placed)) (a1 : Int) : asset_scanner_isMark.f a0_0 a0_1 a0_2 a1 = codeK (C := ctx) (asset_scanner_isMark.O) ⟨15, [0], []⟩ (asset_scanner_isMark.L) (Try.f100.body.getD .skip) asset_scanner_isMark.a (endR ctx [.bool] [(.tmp 4)] [(.ref [.d .str, .d .bool, .row 218 (.st 2)]), (.d (.int .u8))]) (slotsOf sg.U 0 [(.ref [.d .str, .d .bool, .row 218 (.st 2)]), (.d (.int .u8))] (a0_0, a0_1, a0_2, a1, ()) (emptyG sg.U (PM.gs [(.ref [.d .str, .d .bool, .row 218 (.st 2)]), (.d (.int .u8))]))) := by
  unfold asset_scanner_isMark.f
  kernel_rfl
def asset_scanner_isMark.e : Entry sg := entryR sg [(.ref [.d .str, .d .bool, .row 218 (.st 2)]), (.d (.int .u8))] [.bool] (fun h => asset_scanner_isMark.f h.1 h.2.1 h.2.2.1 h.2.2.2.1)
def asset_scanner_isMark.T : List (Lb sg (RT sg.U [.bool] × HL sg.U (PM.outs [(.ref [.d .str, .d .bool, .row 218 (.st 2)]), (.d (.int .u8))]))) := []
theorem asset_scanner_isMark.ok : (asset_scanner_isMark.e).Sound Try.prog ctx 100 :=
  entryR_ok base_ok mo (fn := Try.f100) (b := (Try.f100.body.getD .skip)) (pm := [(.ref [.d .str, .d .bool, .row 218 (.st 2)]), (.d (.int .u8))]) (rs := [.bool]) (an := asset_scanner_isMark.a) (N := 15) (vars := [(.tmp 4)]) Try.func100 (by kernel_rfl) (by kernel_rfl) (by kernel_rfl) (by kernel_rfl) (by kernel_rfl) (by kernel_rfl) (by kernel_rfl) (by kernel_rfl) (O := fun _ => asset_scanner_isMark.O)
    (fun _ => by unfold asset_scanner_isMark.O; exact oracle_of (P := Try.prog) (C := ctx) ⟨(strings_IndexByte.ok), ⟨(asset_isScriptWord.ok), trivial⟩⟩) asset_scanner_isMark.T trivial 0 (fun h => asset_scanner_isMark.f_eq h.1 h.2.1 h.2.2.1 h.2.2.2.1)
def asset_scanner_begins.f (k : Nat) (a0_0 : ByteArray) (a0_1 : Bool) (a0_2 : (List T_asset_placed)) (a1 : Int) : Option (Bool × ByteArray × Bool × (List T_asset_placed) × Unit) := ((sat a0_0 a1).bind fun y1 => ((asset_isBlank.f y1).bind fun y2 => (bif (bif (bif y2 then true else (ieq y1 34)) then true else (ieq y1 39)) then (some (true, (a0_0, a0_1, a0_2, ()))) else ((asset_scanner_isMark.f a0_0 a0_1 a0_2 y1).bind fun y3 => (bif y3.1 then (some (true, (y3.2.1, y3.2.2.1, y3.2.2.2.1, ()))) else ((asset_scanner_comment.f k y3.2.1 y3.2.2.1 y3.2.2.2.1 a1).bind fun y4 => (bif (ile 0 y4.1) then (some (true, (y4.2.1, y4.2.2.1, y4.2.2.2.1, ()))) else ((asset_badByte.f y1).bind fun y5 => (some (y5, (y4.2.1, y4.2.2.1, y4.2.2.2.1, ())))))))))))
def asset_scanner_begins.O (k : Nat) : Oracle sg := fun n => lkp n [(93, asset_badByte.e), (94, asset_isBlank.e), (95, asset_scanner_comment.e k), (100, asset_scanner_isMark.e)]
def asset_scanner_begins.a : Ann := .z
def asset_scanner_begins.L (k : Nat) : Nat → St sg.U → Option (RT sg.U [.bool] × HL sg.U (PM.outs [(.ref [.d .str, .d .bool, .row 218 (.st 2)]), (.d (.int .i64))])) := labs []
theorem asset_scanner_begins.f_eq (k : Nat) (a0_0 : ByteArray) (a0_1 : Bool) (a0_2 : (List T_asset_placed)) (a1 : Int) : asset_scanner_begins.f k a0_0 a0_1 a0_2 a1 = codeK (C := ctx) (asset_scanner_begins.O k) ⟨37, [0], []⟩ (asset_scanner_begins.L k) (Try.f101.body.getD .skip) asset_scanner_begins.a (endR ctx [.bool] [(.tmp 4)] [(.ref [.d .str, .d .bool, .row 218 (.st 2)]), (.d (.int .i64))]) (slotsOf sg.U 0 [(.ref [.d .str, .d .bool, .row 218 (.st 2)]), (.d (.int .i64))] (a0_0, a0_1, a0_2, a1, ()) (emptyG sg.U (PM.gs [(.ref [.d .str, .d .bool, .row 218 (.st 2)]), (.d (.int .i64))]))) := by
  unfold asset_scanner_begins.f
  kernel_rfl
def asset_scanner_begins.e (k : Nat) : Entry sg := entryR sg [(.ref [.d .str, .d .bool, .row 218 (.st 2)]), (.d (.int .i64))] [.bool] (fun h => asset_scanner_begins.f k h.1 h.2.1 h.2.2.1 h.2.2.2.1)
def asset_scanner_begins.T : List (Lb sg (RT sg.U [.bool] × HL sg.U (PM.outs [(.ref [.d .str, .d .bool, .row 218 (.st 2)]), (.d (.int .i64))]))) := []
theorem asset_scanner_begins.ok (k : Nat) : (asset_scanner_begins.e k).Sound Try.prog ctx 101 :=
  entryR_ok base_ok mo (fn := Try.f101) (b := (Try.f101.body.getD .skip)) (pm := [(.ref [.d .str, .d .bool, .row 218 (.st 2)]), (.d (.int .i64))]) (rs := [.bool]) (an := asset_scanner_begins.a) (N := 37) (vars := [(.tmp 4)]) Try.func101 (by kernel_rfl) (by kernel_rfl) (by kernel_rfl) (by kernel_rfl) (by kernel_rfl) (by kernel_rfl) (by kernel_rfl) (by kernel_rfl) (O := asset_scanner_begins.O)
    (fun k => by unfold asset_scanner_begins.O; exact oracle_of (P := Try.prog) (C := ctx) ⟨(asset_badByte.ok), ⟨(asset_isBlank.ok), ⟨(asset_scanner_comment.ok k), ⟨(asset_scanner_isMark.ok), trivial⟩⟩⟩⟩) asset_scanner_begins.T trivial k (fun h => asset_scanner_begins.f_eq k h.1 h.2.1 h.2.2.1 h.2.2.2.1)
mutual
def asset_divided.l0 : Nat → ByteArray → ByteArray → Bool → (List T_asset_placed) → Int → Option ((List T_asset_placed) × Int × Int)
  | 0, _, _, _, _, _ => none
  | k + 1, x0, x7_0, x7_1, x7_2, x8 => (bif (ilt x8 (slen x0)) then ((sat x0 x8).bind fun y1 => ((asset_badByte.f y1).bind fun y2 => (bif y2 then (some ([], x8, 9)) else ((asset_isBlank.f y1).bind fun y3 => (bif y3 then (asset_divided.l1 k x0 x7_0 x7_1 x7_2 x8 y1 true) else ((asset_scanner_comment.f k x7_0 x7_1 x7_2 x8).bind fun y4 => (asset_divided.l1 k x0 y4.2.1 y4.2.2.1 y4.2.2.2.1 x8 y1 (ile 0 y4.1)))))))) else (some (x7_2, 0, 0)))
def asset_divided.l1 : Nat → ByteArray → ByteArray → Bool → (List T_asset_placed) → Int → Int → Bool → Option ((List T_asset_placed) × Int × Int)
  | 0, _, _, _, _, _, _, _ => none
  | k + 1, x0, x7_0, x7_1, x7_2, x8, x9, x50 => (bif x50 then ((asset_scanner_blank.f k x7_0 x7_1 x7_2 x8).bind fun y5 => (bif (!ieq y5.1.2.2 0) then (some ([], y5.1.2.1, y5.1.2.2)) else ((asset_scanner_add.f k y5.2.1 y5.2.2.1 y5.2.2.2.1 4 x8 y5.1.1).bind fun y6 => (asset_divided.l0 k x0 y6.2.1 y6.2.2.1 y6.2.2.2.1 y5.1.1)))) else (bif (bif (ieq x9 34) then true else (ieq x9 39)) then ((asset_scanner_text.f k x7_0 x7_1 x7_2 x8).bind fun y7 => (bif (ilt y7.1 0) then (some ([], x8, 8)) else ((asset_scanner_checked.f k y7.2.1 y7.2.2.1 y7.2.2.2.1 x8 y7.1).bind fun y8 => (bif (ile 0 y8.1) then (some ([], y8.1, 9)) else ((asset_scanner_add.f k y8.2.1 y8.2.2.1 y8.2.2.2.1 2 x8 y7.1).bind fun y9 => (asset_divided.l0 k x0 y9.2.1 y9.2.2.1 y9.2.2.2.1 y7.1)))))) else ((asset_scanner_isMark.f x7_0 x7_1 x7_2 x9).bind fun y10 => (bif y10.1 then ((asset_scanner_add.f k y10.2.1 y10.2.2.1 y10.2.2.2.1 3 x8 (wadd .i64 x8 1)).bind fun y11 => (asset_divided.l0 k x0 y11.2.1 y11.2.2.1 y11.2.2.2.1 (wadd .i64 x8 1))) else (asset_divided.l2 k x0 y10.2.1 y10.2.2.1 y10.2.2.2.1 x8 (wadd .i64 x8 1))))))
def asset_divided.l2 : Nat → ByteArray → ByteArray → Bool → (List T_asset_placed) → Int → Int → Option ((List T_asset_placed) × Int × Int)
  | 0, _, _, _, _, _, _ => none
  | k + 1, x0, x7_0, x7_1, x7_2, x8, x15 => (bif (ilt x15 (slen x0)) then ((asset_scanner_begins.f k x7_0 x7_1 x7_2 x15).bind fun y12 => (bif (!y12.1) then (asset_divided.l2 k x0 y12.2.1 y12.2.2.1 y12.2.2.2.1 x8 (wadd .i64 x15 1)) else (asset_divided.l3 k x0 y12.2.1 y12.2.2.1 y12.2.2.2.1 x8 x15))) else (asset_divided.l3 k x0 x7_0 x7_1 x7_2 x8 x15))
def asset_divided.l3 : Nat → ByteArray → ByteArray → Bool → (List T_asset_placed) → Int → Int → Option ((List T_asset_placed) × Int × Int)
  | 0, _, _, _, _, _, _ => none
  | k + 1, x0, x7_0, x7_1, x7_2, x8, x15 => ((asset_scanner_add.f k x7_0 x7_1 x7_2 1 x8 x15).bind fun y13 => (asset_divided.l0 k x0 y13.2.1 y13.2.2.1 y13.2.2.2.1 x15))
end
def asset_divided.f (k : Nat) (a0 : ByteArray) (a1 : Bool) : Option ((List T_asset_placed) × Int × Int) := (asset_divided.l0 k a0 a0 a1 [] 0)
def asset_divided.O (k : Nat) : Oracle sg := fun n => lkp n [(93, asset_badByte.e), (94, asset_isBlank.e), (95, asset_scanner_comment.e k), (96, asset_scanner_blank.e k), (97, asset_scanner_add.e k), (98, asset_scanner_text.e k), (99, asset_scanner_checked.e k), (100, asset_scanner_isMark.e), (101, asset_scanner_begins.e k)]
def asset_divided.a : Ann := (.n .z (.n .z (.n (.n .z (.lp 0 (.n .z (.n .z (.n .z (.n .z (.n .z (.lab 1 (.n .z (.n .z (.n .z (.n .z (.n .z (.n .z (.n (.lp 2 .z) (.lab 3 .z)))))))))))))))) .z)))
def asset_divided.L (k : Nat) : Nat → St sg.U → Option (RT sg.U [(.sl (.st 2)), (.int .i64), (.int .i64)]) := labs [(0, labOf sg [(0, (.d .str)), (7, (.box [.d .str, .d .bool, .row 218 (.st 2)])), (8, (.d (.int .i64)))] (fun h => asset_divided.l0 k h.1 h.2.1 h.2.2.1 h.2.2.2.1 h.2.2.2.2.1)), (1, labOf sg [(0, (.d .str)), (7, (.box [.d .str, .d .bool, .row 218 (.st 2)])), (8, (.d (.int .i64))), (9, (.d (.int .u8))), (50, (.d .bool))] (fun h => asset_divided.l1 k h.1 h.2.1 h.2.2.1 h.2.2.2.1 h.2.2.2.2.1 h.2.2.2.2.2.1 h.2.2.2.2.2.2.1)), (2, labOf sg [(0, (.d .str)), (7, (.box [.d .str, .d .bool, .row 218 (.st 2)])), (8, (.d (.int .i64))), (15, (.d (.int .i64)))] (fun h => asset_divided.l2 k h.1 h.2.1 h.2.2.1 h.2.2.2.1 h.2.2.2.2.1 h.2.2.2.2.2.1)), (3, labOf sg [(0, (.d .str)), (7, (.box [.d .str, .d .bool, .row 218 (.st 2)])), (8, (.d (.int .i64))), (15, (.d (.int .i64)))] (fun h => asset_divided.l3 k h.1 h.2.1 h.2.2.1 h.2.2.2.1 h.2.2.2.2.1 h.2.2.2.2.2.1))]
theorem asset_divided.l0_eq (k : Nat) (x0 : ByteArray) (x7_0 : ByteArray) (x7_1 : Bool) (x7_2 : (List T_asset_placed)) (x8 : Int) : asset_divided.l0 (k + 1) x0 x7_0 x7_1 x7_2 x8 = runFrom (C := ctx) (asset_divided.O k) ⟨115, [], []⟩ (asset_divided.L k) (Try.f49.body.getD .skip) asset_divided.a 0 (endK ctx [(.sl (.st 2)), (.int .i64), (.int .i64)] [(.tmp 4), (.tmp 5), (.tmp 6)]) (encD [(0, (.d .str)), (7, (.box [.d .str, .d .bool, .row 218 (.st 2)])), (8, (.d (.int .i64)))] (x0, x7_0, x7_1, x7_2, x8, ()) (startD sg.U ⟨115, [], []⟩ [(0, (.d .str)), (7, (.box [.d .str, .d .bool, .row 218 (.st 2)])), (8, (.d (.int .i64)))])) := by
  rw [asset_divided.l0]
  kernel_rfl
theorem asset_divided.l1_eq (k : Nat) (x0 : ByteArray) (x7_0 : ByteArray) (x7_1 : Bool) (x7_2 : (List T_asset_placed)) (x8 : Int) (x9 : Int) (x50 : Bool) : asset_divided.l1 (k + 1) x0 x7_0 x7_1 x7_2 x8 x9 x50 = runFrom (C := ctx) (asset_divided.O k) ⟨115, [], []⟩ (asset_divided.L k) (Try.f49.body.getD .skip) asset_divided.a 1 (endK ctx [(.sl (.st 2)), (.int .i64), (.int .i64)] [(.tmp 4), (.tmp 5), (.tmp 6)]) (encD [(0, (.d .str)), (7, (.box [.d .str, .d .bool, .row 218 (.st 2)])), (8, (.d (.int .i64))), (9, (.d (.int .u8))), (50, (.d .bool))] (x0, x7_0, x7_1, x7_2, x8, x9, x50, ()) (startD sg.U ⟨115, [], []⟩ [(0, (.d .str)), (7, (.box [.d .str, .d .bool, .row 218 (.st 2)])), (8, (.d (.int .i64))), (9, (.d (.int .u8))), (50, (.d .bool))])) := by
  rw [asset_divided.l1]
  kernel_rfl
theorem asset_divided.l2_eq (k : Nat) (x0 : ByteArray) (x7_0 : ByteArray) (x7_1 : Bool) (x7_2 : (List T_asset_placed)) (x8 : Int) (x15 : Int) : asset_divided.l2 (k + 1) x0 x7_0 x7_1 x7_2 x8 x15 = runFrom (C := ctx) (asset_divided.O k) ⟨115, [], []⟩ (asset_divided.L k) (Try.f49.body.getD .skip) asset_divided.a 2 (endK ctx [(.sl (.st 2)), (.int .i64), (.int .i64)] [(.tmp 4), (.tmp 5), (.tmp 6)]) (encD [(0, (.d .str)), (7, (.box [.d .str, .d .bool, .row 218 (.st 2)])), (8, (.d (.int .i64))), (15, (.d (.int .i64)))] (x0, x7_0, x7_1, x7_2, x8, x15, ()) (startD sg.U ⟨115, [], []⟩ [(0, (.d .str)), (7, (.box [.d .str, .d .bool, .row 218 (.st 2)])), (8, (.d (.int .i64))), (15, (.d (.int .i64)))])) := by
  rw [asset_divided.l2]
  kernel_rfl
theorem asset_divided.l3_eq (k : Nat) (x0 : ByteArray) (x7_0 : ByteArray) (x7_1 : Bool) (x7_2 : (List T_asset_placed)) (x8 : Int) (x15 : Int) : asset_divided.l3 (k + 1) x0 x7_0 x7_1 x7_2 x8 x15 = runFrom (C := ctx) (asset_divided.O k) ⟨115, [], []⟩ (asset_divided.L k) (Try.f49.body.getD .skip) asset_divided.a 3 (endK ctx [(.sl (.st 2)), (.int .i64), (.int .i64)] [(.tmp 4), (.tmp 5), (.tmp 6)]) (encD [(0, (.d .str)), (7, (.box [.d .str, .d .bool, .row 218 (.st 2)])), (8, (.d (.int .i64))), (15, (.d (.int .i64)))] (x0, x7_0, x7_1, x7_2, x8, x15, ()) (startD sg.U ⟨115, [], []⟩ [(0, (.d .str)), (7, (.box [.d .str, .d .bool, .row 218 (.st 2)])), (8, (.d (.int .i64))), (15, (.d (.int .i64)))])) := by
  rw [asset_divided.l3]
  kernel_rfl
theorem asset_divided.f_eq (k : Nat) (a0 : ByteArray) (a1 : Bool) : asset_divided.f k a0 a1 = codeK (C := ctx) (asset_divided.O k) ⟨115, [], []⟩ (asset_divided.L k) (Try.f49.body.getD .skip) asset_divided.a (endK ctx [(.sl (.st 2)), (.int .i64), (.int .i64)] [(.tmp 4), (.tmp 5), (.tmp 6)]) (slotsOf sg.U 0 [(.d .str), (.d .bool)] (a0, a1, ()) (empty sg.U)) := by
  unfold asset_divided.f
  kernel_rfl
def asset_divided.e (k : Nat) : Entry sg := entryOf sg [(.d .str), (.d .bool)] [(.sl (.st 2)), (.int .i64), (.int .i64)] (fun h => asset_divided.f k h.1 h.2.1)
def asset_divided.T : List (Lb sg (RT sg.U [(.sl (.st 2)), (.int .i64), (.int .i64)])) := [⟨0, [(0, (.d .str)), (7, (.box [.d .str, .d .bool, .row 218 (.st 2)])), (8, (.d (.int .i64)))], fun k h => asset_divided.l0 k h.1 h.2.1 h.2.2.1 h.2.2.2.1 h.2.2.2.2.1⟩, ⟨1, [(0, (.d .str)), (7, (.box [.d .str, .d .bool, .row 218 (.st 2)])), (8, (.d (.int .i64))), (9, (.d (.int .u8))), (50, (.d .bool))], fun k h => asset_divided.l1 k h.1 h.2.1 h.2.2.1 h.2.2.2.1 h.2.2.2.2.1 h.2.2.2.2.2.1 h.2.2.2.2.2.2.1⟩, ⟨2, [(0, (.d .str)), (7, (.box [.d .str, .d .bool, .row 218 (.st 2)])), (8, (.d (.int .i64))), (15, (.d (.int .i64)))], fun k h => asset_divided.l2 k h.1 h.2.1 h.2.2.1 h.2.2.2.1 h.2.2.2.2.1 h.2.2.2.2.2.1⟩, ⟨3, [(0, (.d .str)), (7, (.box [.d .str, .d .bool, .row 218 (.st 2)])), (8, (.d (.int .i64))), (15, (.d (.int .i64)))], fun k h => asset_divided.l3 k h.1 h.2.1 h.2.2.1 h.2.2.2.1 h.2.2.2.2.1 h.2.2.2.2.2.1⟩]
theorem asset_divided.ok (k : Nat) : (asset_divided.e k).Sound Try.prog ctx 49 :=
  entry_ok base_ok mo (fn := Try.f49) (b := (Try.f49.body.getD .skip)) (pm := [(.d .str), (.d .bool)]) (rs := [(.sl (.st 2)), (.int .i64), (.int .i64)]) (an := asset_divided.a) (N := 115) (vars := [(.tmp 4), (.tmp 5), (.tmp 6)]) Try.func49 (by kernel_rfl) (by kernel_rfl) (by kernel_rfl) (by kernel_rfl) (by kernel_rfl) (by kernel_rfl) (O := asset_divided.O)
    (fun k => by unfold asset_divided.O; exact oracle_of (P := Try.prog) (C := ctx) ⟨(asset_badByte.ok), ⟨(asset_isBlank.ok), ⟨(asset_scanner_comment.ok k), ⟨(asset_scanner_blank.ok k), ⟨(asset_scanner_add.ok k), ⟨(asset_scanner_text.ok k), ⟨(asset_scanner_checked.ok k), ⟨(asset_scanner_isMark.ok), ⟨(asset_scanner_begins.ok k), trivial⟩⟩⟩⟩⟩⟩⟩⟩⟩) asset_divided.T ⟨⟨by kernel_rfl, fun _ => by first | rfl | rw [asset_divided.l0], fun k h => asset_divided.l0_eq k h.1 h.2.1 h.2.2.1 h.2.2.2.1 h.2.2.2.2.1⟩, ⟨⟨by kernel_rfl, fun _ => by first | rfl | rw [asset_divided.l1], fun k h => asset_divided.l1_eq k h.1 h.2.1 h.2.2.1 h.2.2.2.1 h.2.2.2.2.1 h.2.2.2.2.2.1 h.2.2.2.2.2.2.1⟩, ⟨⟨by kernel_rfl, fun _ => by first | rfl | rw [asset_divided.l2], fun k h => asset_divided.l2_eq k h.1 h.2.1 h.2.2.1 h.2.2.2.1 h.2.2.2.2.1 h.2.2.2.2.2.1⟩, ⟨⟨by kernel_rfl, fun _ => by first | rfl | rw [asset_divided.l3], fun k h => asset_divided.l3_eq k h.1 h.2.1 h.2.2.1 h.2.2.2.1 h.2.2.2.2.1 h.2.2.2.2.2.1⟩, trivial⟩⟩⟩⟩ k (fun h => asset_divided.f_eq k h.1 h.2.1)
def asset_tokens.f (k : Nat) (a0 : ByteArray) (a1 : Bool) : Option ((List T_asset_placed) × Int × Int) := (bif (ilt 20000 (slen a0)) then (some ([], 0, 4)) else ((asset_divided.f k a0 a1).bind fun y1 => (some (y1.1, y1.2.1, y1.2.2))))
def asset_tokens.O (k : Nat) : Oracle sg := fun n => lkp n [(49, asset_divided.e k)]
def asset_tokens.a : Ann := .z
def asset_tokens.L (k : Nat) : Nat → St sg.U → Option (RT sg.U [(.sl (.st 2)), (.int .i64), (.int .i64)]) := labs []
theorem asset_tokens.f_eq (k : Nat) (a0 : ByteArray) (a1 : Bool) : asset_tokens.f k a0 a1 = codeK (C := ctx) (asset_tokens.O k) ⟨16, [], []⟩ (asset_tokens.L k) (Try.f43.body.getD .skip) asset_tokens.a (endK ctx [(.sl (.st 2)), (.int .i64), (.int .i64)] [(.tmp 4), (.tmp 5), (.tmp 6)]) (slotsOf sg.U 0 [(.d .str), (.d .bool)] (a0, a1, ()) (empty sg.U)) := by
  unfold asset_tokens.f
  kernel_rfl
def asset_tokens.e (k : Nat) : Entry sg := entryOf sg [(.d .str), (.d .bool)] [(.sl (.st 2)), (.int .i64), (.int .i64)] (fun h => asset_tokens.f k h.1 h.2.1)
def asset_tokens.T : List (Lb sg (RT sg.U [(.sl (.st 2)), (.int .i64), (.int .i64)])) := []
theorem asset_tokens.ok (k : Nat) : (asset_tokens.e k).Sound Try.prog ctx 43 :=
  entry_ok base_ok mo (fn := Try.f43) (b := (Try.f43.body.getD .skip)) (pm := [(.d .str), (.d .bool)]) (rs := [(.sl (.st 2)), (.int .i64), (.int .i64)]) (an := asset_tokens.a) (N := 16) (vars := [(.tmp 4), (.tmp 5), (.tmp 6)]) Try.func43 (by kernel_rfl) (by kernel_rfl) (by kernel_rfl) (by kernel_rfl) (by kernel_rfl) (by kernel_rfl) (O := asset_tokens.O)
    (fun k => by unfold asset_tokens.O; exact oracle_of (P := Try.prog) (C := ctx) ⟨(asset_divided.ok k), trivial⟩) asset_tokens.T trivial k (fun h => asset_tokens.f_eq k h.1 h.2.1)
def strings_Contains.f (a0 : ByteArray) (a1 : ByteArray) : Option (Bool) := if a0.size < 4294967281 then some (Lib.contains a0.data.toList a1.data.toList) else none
def strings_Contains.e : Entry sg := entryOf sg [(.d .str), (.d .str)] [.bool] (fun h => strings_Contains.f h.1 h.2.1)
theorem strings_Contains.ok : (strings_Contains.e).Sound Try.prog ctx 92 :=
  entry_extern (C := ctx) sg_ok Try.func92 (by kernel_rfl) (by kernel_rfl) (by kernel_rfl) (by kernel_rfl) (fun hh x w hx hG => by
    unfold strings_Contains.f at hx
    split at hx
    · rename_i c
      obtain rfl := Option.some.inj hx
      obtain ⟨m, hm⟩ := hG 0 (by simp [ctx, sg])
      refine (Try.strings_Contains hh.1 hh.2.1 m w c hm).mono ?_
      rintro e w' ⟨rfl, rfl⟩
      exact ⟨rfl, Grow.refl _⟩
    · cases hx)
def asset_among.f (a0 : T_asset_Token) (a1 : ByteArray) : Option (Bool) := (bif (bif (ieq a0.fKind 3) then (ieq (slen a0.fText) 1) else false) then ((strings_Contains.f a1 a0.fText).bind fun y1 => (some y1)) else (some false))
def asset_among.O : Oracle sg := fun n => lkp n [(92, strings_Contains.e)]
def asset_among.a : Ann := .z
def asset_among.L : Nat → St sg.U → Option (RT sg.U [.bool]) := labs []
theorem asset_among.f_eq (a0 : T_asset_Token) (a1 : ByteArray) : asset_among.f a0 a1 = codeK (C := ctx) (asset_among.O) ⟨20, [], []⟩ (asset_among.L) (Try.f91.body.getD .skip) asset_among.a (endK ctx [.bool] [(.tmp 4)]) (slotsOf sg.U 0 [(.d (.st 3)), (.d .str)] (a0, a1, ()) (empty sg.U)) := by
  unfold asset_among.f
  kernel_rfl
def asset_among.e : Entry sg := entryOf sg [(.d (.st 3)), (.d .str)] [.bool] (fun h => asset_among.f h.1 h.2.1)
def asset_among.T : List (Lb sg (RT sg.U [.bool])) := []
theorem asset_among.ok : (asset_among.e).Sound Try.prog ctx 91 :=
  entry_ok base_ok mo (fn := Try.f91) (b := (Try.f91.body.getD .skip)) (pm := [(.d (.st 3)), (.d .str)]) (rs := [.bool]) (an := asset_among.a) (N := 20) (vars := [(.tmp 4)]) Try.func91 (by kernel_rfl) (by kernel_rfl) (by kernel_rfl) (by kernel_rfl) (by kernel_rfl) (by kernel_rfl) (O := fun _ => asset_among.O)
    (fun _ => by unfold asset_among.O; exact oracle_of (P := Try.prog) (C := ctx) ⟨(strings_Contains.ok), trivial⟩) asset_among.T trivial 0 (fun h => asset_among.f_eq h.1 h.2.1)
mutual
def asset_links.l0 : Nat → (List T_asset_placed) → (List T_asset_Link) → Int → Option ((List T_asset_Link))
  | 0, _, _, _ => none
  | k + 1, x0, x3, x4 => (bif (ilt x4 (llen x0)) then ((lat x0 (wsub .i64 x4 3)).bind fun y1 => ((lat x0 (wsub .i64 x4 2)).bind fun y2 => ((lat x0 (wsub .i64 x4 1)).bind fun y3 => ((lat x0 x4).bind fun y4 => (bif (bif (ieq y1.fToken.fKind 1) then (seq y1.fToken.fText c_url) else false) then ((asset_among.f y2.fToken c__28).bind fun y5 => (bif (bif y5 then (ieq y3.fToken.fKind 2) else false) then ((asset_among.f y4.fToken c__29).bind fun y6 => (asset_links.l1 k x0 x3 x4 y3.fToken.fKind y3.fToken.fText y3.ffrom y3.fto y6)) else (asset_links.l1 k x0 x3 x4 y3.fToken.fKind y3.fToken.fText y3.ffrom y3.fto false))) else (asset_links.l1 k x0 x3 x4 y3.fToken.fKind y3.fToken.fText y3.ffrom y3.fto false)))))) else (some x3))
def asset_links.l1 : Nat → (List T_asset_placed) → (List T_asset_Link) → Int → Int → ByteArray → Int → Int → Bool → Option ((List T_asset_Link))
  | 0, _, _, _, _, _, _, _, _ => none
  | k + 1, x0, x3, x4, x7_0, x7_1, x7_2, x7_3, x59 => (bif x59 then ((ssub x7_1 1 (wsub .i64 (slen x7_1) 1)).bind fun y7 => ((lapp 32 x3 [(T_asset_Link.mk (wadd .i64 x7_2 1) (wsub .i64 x7_3 1) y7)]).bind fun y8 => (asset_links.l0 k x0 y8 (wadd .i64 x4 1)))) else (asset_links.l0 k x0 x3 (wadd .i64 x4 1)))
end
def asset_links.f (k : Nat) (a0 : (List T_asset_placed)) : Option ((List T_asset_Link)) := (asset_links.l0 k a0 [] 3)
def asset_links.O (k : Nat) : Oracle sg := fun n => lkp n [(91, asset_among.e)]
def asset_links.a : Ann := (.n .z (.n .z (.n (.n .z (.lp 0 (.n .z (.n (.n .z (.n .z (.lab 1 .z))) .z)))) .z)))
def asset_links.L (k : Nat) : Nat → St sg.U → Option (RT sg.U [(.sl (.st 1))]) := labs [(0, labOf sg [(0, (.d (.sl (.st 2)))), (3, (.row 116 (.st 1))), (4, (.d (.int .i64)))] (fun h => asset_links.l0 k h.1 h.2.1 h.2.2.1)), (1, labOf sg [(0, (.d (.sl (.st 2)))), (3, (.row 116 (.st 1))), (4, (.d (.int .i64))), (7, (.box [.d (.int .i64), .d .str, .d (.int .i64), .d (.int .i64)])), (59, (.d .bool))] (fun h => asset_links.l1 k h.1 h.2.1 h.2.2.1 h.2.2.2.1 h.2.2.2.2.1 h.2.2.2.2.2.1 h.2.2.2.2.2.2.1 h.2.2.2.2.2.2.2.1))]
theorem asset_links.l0_eq (k : Nat) (x0 : (List T_asset_placed)) (x3 : (List T_asset_Link)) (x4 : Int) : asset_links.l0 (k + 1) x0 x3 x4 = runFrom (C := ctx) (asset_links.O k) ⟨80, [], []⟩ (asset_links.L k) (Try.f46.body.getD .skip) asset_links.a 0 (endK ctx [(.sl (.st 1))] [(.tmp 2)]) (encD [(0, (.d (.sl (.st 2)))), (3, (.row 116 (.st 1))), (4, (.d (.int .i64)))] (x0, x3, x4, ()) (startD sg.U ⟨80, [], []⟩ [(0, (.d (.sl (.st 2)))), (3, (.row 116 (.st 1))), (4, (.d (.int .i64)))])) := by
  rw [asset_links.l0]
  kernel_rfl
theorem asset_links.l1_eq (k : Nat) (x0 : (List T_asset_placed)) (x3 : (List T_asset_Link)) (x4 : Int) (x7_0 : Int) (x7_1 : ByteArray) (x7_2 : Int) (x7_3 : Int) (x59 : Bool) : asset_links.l1 (k + 1) x0 x3 x4 x7_0 x7_1 x7_2 x7_3 x59 = runFrom (C := ctx) (asset_links.O k) ⟨80, [], []⟩ (asset_links.L k) (Try.f46.body.getD .skip) asset_links.a 1 (endK ctx [(.sl (.st 1))] [(.tmp 2)]) (encD [(0, (.d (.sl (.st 2)))), (3, (.row 116 (.st 1))), (4, (.d (.int .i64))), (7, (.box [.d (.int .i64), .d .str, .d (.int .i64), .d (.int .i64)])), (59, (.d .bool))] (x0, x3, x4, x7_0, x7_1, x7_2, x7_3, x59, ()) (startD sg.U ⟨80, [], []⟩ [(0, (.d (.sl (.st 2)))), (3, (.row 116 (.st 1))), (4, (.d (.int .i64))), (7, (.box [.d (.int .i64), .d .str, .d (.int .i64), .d (.int .i64)])), (59, (.d .bool))])) := by
  rw [asset_links.l1]
  kernel_rfl
theorem asset_links.f_eq (k : Nat) (a0 : (List T_asset_placed)) : asset_links.f k a0 = codeK (C := ctx) (asset_links.O k) ⟨80, [], []⟩ (asset_links.L k) (Try.f46.body.getD .skip) asset_links.a (endK ctx [(.sl (.st 1))] [(.tmp 2)]) (slotsOf sg.U 0 [(.d (.sl (.st 2)))] (a0, ()) (empty sg.U)) := by
  unfold asset_links.f
  kernel_rfl
def asset_links.e (k : Nat) : Entry sg := entryOf sg [(.d (.sl (.st 2)))] [(.sl (.st 1))] (fun h => asset_links.f k h.1)
def asset_links.T : List (Lb sg (RT sg.U [(.sl (.st 1))])) := [⟨0, [(0, (.d (.sl (.st 2)))), (3, (.row 116 (.st 1))), (4, (.d (.int .i64)))], fun k h => asset_links.l0 k h.1 h.2.1 h.2.2.1⟩, ⟨1, [(0, (.d (.sl (.st 2)))), (3, (.row 116 (.st 1))), (4, (.d (.int .i64))), (7, (.box [.d (.int .i64), .d .str, .d (.int .i64), .d (.int .i64)])), (59, (.d .bool))], fun k h => asset_links.l1 k h.1 h.2.1 h.2.2.1 h.2.2.2.1 h.2.2.2.2.1 h.2.2.2.2.2.1 h.2.2.2.2.2.2.1 h.2.2.2.2.2.2.2.1⟩]
theorem asset_links.ok (k : Nat) : (asset_links.e k).Sound Try.prog ctx 46 :=
  entry_ok base_ok mo (fn := Try.f46) (b := (Try.f46.body.getD .skip)) (pm := [(.d (.sl (.st 2)))]) (rs := [(.sl (.st 1))]) (an := asset_links.a) (N := 80) (vars := [(.tmp 2)]) Try.func46 (by kernel_rfl) (by kernel_rfl) (by kernel_rfl) (by kernel_rfl) (by kernel_rfl) (by kernel_rfl) (O := asset_links.O)
    (fun k => by unfold asset_links.O; exact oracle_of (P := Try.prog) (C := ctx) ⟨(asset_among.ok), trivial⟩) asset_links.T ⟨⟨by kernel_rfl, fun _ => by first | rfl | rw [asset_links.l0], fun k h => asset_links.l0_eq k h.1 h.2.1 h.2.2.1⟩, ⟨⟨by kernel_rfl, fun _ => by first | rfl | rw [asset_links.l1], fun k h => asset_links.l1_eq k h.1 h.2.1 h.2.2.1 h.2.2.2.1 h.2.2.2.2.1 h.2.2.2.2.2.1 h.2.2.2.2.2.2.1 h.2.2.2.2.2.2.2.1⟩, trivial⟩⟩ k (fun h => asset_links.f_eq k h.1)
def asset_Links.f (k : Nat) (a0 : ByteArray) : Option ((List T_asset_Link) × Int × Int) := ((asset_tokens.f k a0 false).bind fun y1 => (bif (!ieq y1.2.2 0) then (some ([], y1.2.1, y1.2.2)) else ((asset_links.f k y1.1).bind fun y2 => (some (y2, 0, 0)))))
def asset_Links.O (k : Nat) : Oracle sg := fun n => lkp n [(43, asset_tokens.e k), (46, asset_links.e k)]
def asset_Links.a : Ann := .z
def asset_Links.L (k : Nat) : Nat → St sg.U → Option (RT sg.U [(.sl (.st 1)), (.int .i64), (.int .i64)]) := labs []
theorem asset_Links.f_eq (k : Nat) (a0 : ByteArray) : asset_Links.f k a0 = codeK (C := ctx) (asset_Links.O k) ⟨20, [], []⟩ (asset_Links.L k) (Try.f16.body.getD .skip) asset_Links.a (endK ctx [(.sl (.st 1)), (.int .i64), (.int .i64)] [(.tmp 2), (.tmp 3), (.tmp 4)]) (slotsOf sg.U 0 [(.d .str)] (a0, ()) (empty sg.U)) := by
  unfold asset_Links.f
  kernel_rfl
def asset_Links.e (k : Nat) : Entry sg := entryOf sg [(.d .str)] [(.sl (.st 1)), (.int .i64), (.int .i64)] (fun h => asset_Links.f k h.1)
def asset_Links.T : List (Lb sg (RT sg.U [(.sl (.st 1)), (.int .i64), (.int .i64)])) := []
theorem asset_Links.ok (k : Nat) : (asset_Links.e k).Sound Try.prog ctx 16 :=
  entry_ok base_ok mo (fn := Try.f16) (b := (Try.f16.body.getD .skip)) (pm := [(.d .str)]) (rs := [(.sl (.st 1)), (.int .i64), (.int .i64)]) (an := asset_Links.a) (N := 20) (vars := [(.tmp 2), (.tmp 3), (.tmp 4)]) Try.func16 (by kernel_rfl) (by kernel_rfl) (by kernel_rfl) (by kernel_rfl) (by kernel_rfl) (by kernel_rfl) (O := asset_Links.O)
    (fun k => by unfold asset_Links.O; exact oracle_of (P := Try.prog) (C := ctx) ⟨(asset_tokens.ok k), ⟨(asset_links.ok k), trivial⟩⟩) asset_Links.T trivial k (fun h => asset_Links.f_eq k h.1)

def bld_write.e : Entry sg := bwE sg 145 5
open Go.Shelf Go.RowKit Go.Proofs
set_option maxHeartbeats 1000000 in
theorem bld_check (b : Nat) (p v : Value) (w : World) (hp : p = .pointer none ∨ p = ptr b 0) (hbk : w.heap[b]? = some (.cells #[p, v] 145 (0, 0))) : Calls Try.prog 103 #[ptr b 0] w (CheckPost 145 b v w) := by
  obtain ⟨j, hj, hjs⟩ := Option.map_eq_some_iff.1 (show (Try.prog.info? 145).map (·.size) = some 2 by kernel_rfl)
  have lies : liesAt Try.prog Try.prog.depth 145 (2 / Try.prog.cellsOf 145) 0 145 1 = true := by kernel_rfl
  have mixed : Try.prog.follows .mixedOrders = true := by kernel_rfl
  have t145 := Try.underlying145; have a145 := Try.isAgg145; have z145 := Try.sizeOf145; have v145 := Try.zeroValue145; have u145 := run_underlying Try.underlying145
  have t142 := Try.underlying142; have a142 := Try.isAgg142; have z142 := Try.sizeOf142; have v142 := Try.zeroValue142; have u142 := run_underlying Try.underlying142
  have t4 := Try.underlying4; have a4 := Try.isAgg4; have z4 := Try.sizeOf4; have v4 := Try.zeroValue4; have u4 := run_underlying Try.underlying4
  have t247 := Try.underlying247; have a247 := Try.isAgg247; have z247 := Try.sizeOf247; have v247 := Try.zeroValue247; have u247 := run_underlying Try.underlying247
  rcases hp with rfl | rfl
  · have h0 : w.cell? ⟨b, 0, none⟩ = some (.pointer none) := by rw [Lib.cell_of_heap hbk]; rfl
    have hsh : w.shape? b = some (145, 2) := by simp [World.shape?, hbk]
    have hfz : w.frozen? ⟨b, 0, none⟩ = false := by simp [World.frozen?, hbk]
    have fin := check_fresh hbk
    unfold ptr at fin ⊢
    go_enter Try.func103, Try.ntmps103
    go_wp2
    rw [Lib.run_to_unsafe w ⟨b, 0, none⟩ Try.underlying142 Try.underlying247 hj (by rw [hjs]; decide) hsh (Nat.zero_lt_succ 1)]
    simp only [Result.andThen]
    rw [Oper.upon_value]
    go_wp2
    rw [run_callFunc_extern Try.func114 (by kernel_rfl) (by kernel_rfl) (by kernel_rfl) (e := Extern.AbiNoEscape.same) (by kernel_rfl)]
    rw [Lib.run_noEscape]
    simp only [Result.andThen]
    rw [Oper.upon_value]
    go_wp2
    rw [Lib.run_from_unsafe w ⟨b, 0, none⟩ Try.underlying247 Try.underlying142 hj hsh lies]
    simp only [Result.andThen]
    rw [Oper.upon_value]
    go_wp2
    go_end0
    exact fin
  · have h0 : w.cell? ⟨b, 0, none⟩ = some (.pointer (some ⟨b, 0, none⟩)) := by rw [Lib.cell_of_heap hbk]; rfl
    have fin := check_used hbk
    unfold ptr at fin ⊢
    go_enter Try.func103, Try.ntmps103
    go_wp2
    rw [Lib.run_neq_ptr_same w _ Try.underlying142 hj]
    go_wp2
    go_end0
    exact fin
set_option maxHeartbeats 1000000 in
theorem bld_write0 (b : Nat) (p v : Value) (n : Nat) (bs : List Value) (s : ByteArray) (w : World) (hp : p = .pointer none ∨ p = ptr b 0) (hbk : w.heap[b]? = some (.cells #[p, v] 145 (0, 0))) (hown : w.ownsRow 0 5 1 v n bs) (hne : v.ownBlock ≠ some b) (hlen : n + s.size ≤ 140737488355328) : Calls Try.prog 57 #[ptr b 0, .string s] w (WritePost 145 5 b v n bs s w) := by
  obtain ⟨i0, hi, hz0, hz1, hz2⟩ := info_parts (show (Try.prog.info? 5).map (fun i => (i.zero, i.size, i.bytes)) = some (some (.int .u8 0), 1, 1) by kernel_rfl)
  have mixed : Try.prog.follows .mixedOrders = true := by kernel_rfl
  have t145 := Try.underlying145; have a145 := Try.isAgg145; have z145 := Try.sizeOf145; have v145 := Try.zeroValue145; have u145 := run_underlying Try.underlying145
  have t142 := Try.underlying142; have a142 := Try.isAgg142; have z142 := Try.sizeOf142; have v142 := Try.zeroValue142; have u142 := run_underlying Try.underlying142
  have t143 := Try.underlying143; have a143 := Try.isAgg143; have z143 := Try.sizeOf143; have v143 := Try.zeroValue143; have u143 := run_underlying Try.underlying143
  have t3 := Try.underlying3; have a3 := Try.isAgg3; have z3 := Try.sizeOf3; have v3 := Try.zeroValue3; have u3 := run_underlying Try.underlying3
  have t9 := Try.underlying9; have a9 := Try.isAgg9; have z9 := Try.sizeOf9; have v9 := Try.zeroValue9; have u9 := run_underlying Try.underlying9
  have t4 := Try.underlying4; have a4 := Try.isAgg4; have z4 := Try.sizeOf4; have v4 := Try.zeroValue4; have u4 := run_underlying Try.underlying4
  have t247 := Try.underlying247; have a247 := Try.isAgg247; have z247 := Try.sizeOf247; have v247 := Try.zeroValue247; have u247 := run_underlying Try.underlying247
  have t5 := Try.underlying5; have a5 := Try.isAgg5; have z5 := Try.sizeOf5; have v5 := Try.zeroValue5; have u5 := run_underlying Try.underlying5
  have eC : ∀ args w, (callFunc 103 args).run Try.prog w = .ok (.enter 103 args) w := enters_of Try.func103 (by kernel_rfl) rfl
  have hchk := bld_check b p v w hp hbk
  unfold WritePost
  unfold ptr at hchk ⊢
  go_enter Try.func57, Try.ntmps57
  go_wp2_with (go_at_fn 103; refine hchk.mono ?_)
  rintro e w1 ⟨rfl, h1, f1, f2, f3, f4, f5⟩
  unfold ptr at h1
  have hown1 : w1.ownsRow 0 5 1 v n bs := hown.kept (row := some b) ⟨f1, f2, f3, by omega, fun k _ hk => f5 k (fun e => hk (by simp [e]))⟩ (.inr hne)
  have c0 : w1.cell? ⟨b, 0, none⟩ = some (.pointer (some ⟨b, 0, none⟩)) := by rw [Lib.cell_of_heap h1]; rfl
  have c1 : w1.cell? ⟨b, 1, none⟩ = some v := by rw [Lib.cell_of_heap h1]; rfl
  go_wp2_with (at_builtin; refine wp_append_str rfl _ _ 143 9 rfl 5 i0 Try.underlying143 Try.underlying9 hi hz0 hz1 hz2 _ _ _ rfl hown1 s rfl ?c3 ?c4 ?_)
  case c3 => unfold maxLen; omega
  case c4 => omega
  intro v' w2 hown' hgrow hloc
  have hlt : b < w1.heap.size := lt_of_heap h1
  have hb2 : w2.heap[b]? = some (.cells #[.pointer (some ⟨b, 0, none⟩), v] 145 (0, 0)) := by
    rw [hgrow.block b hlt (fun e => hne e.symm)]
    exact h1
  have d0 : w2.cell? ⟨b, 0, none⟩ = some (.pointer (some ⟨b, 0, none⟩)) := by rw [Lib.cell_of_heap hb2]; rfl
  have d1 : w2.cell? ⟨b, 1, none⟩ = some v := by rw [Lib.cell_of_heap hb2]; rfl
  have g1 : w2.frozen? ⟨b, 1, none⟩ = false := Lib.frozen_of_heap hb2 1
  obtain ⟨ao, n', cap, rfl⟩ : ∃ ao n' cap, v' = .slice ao n' cap := by
    rcases hown'.2 with ⟨hv, _⟩ | ⟨g, cap, cur, hv, _⟩
    · exact ⟨_, _, _, hv⟩
    · exact ⟨_, _, _, hv⟩
  go_wp2
  go_ret2
  exact ⟨rfl, w1, w2, _, h1, ⟨f1, f2, f3, f4, f5⟩, hown', hgrow, by first | exact hloc | (rw [f4]; exact hloc), hb2, rfl⟩
theorem bld_write.ok : (bld_write.e).Sound Try.prog ctx 57 :=
  bwE_sound (C := ctx) bld_write0 Try.func57 (by kernel_rfl) (by kernel_rfl)

def bld_string.e : Entry sg := bsE sg 145 5
theorem bld_string.ok : (bld_string.e).Sound Try.prog ctx 58 :=
  bsE_sound (C := ctx) Try.Builder_Extra_169 Try.lays169 Try.func58 (by kernel_rfl) (by kernel_rfl)
def asset_relinked.l0 : Nat → ByteArray → (List ByteArray) → (List ByteArray) → (List Int) → Int → (List T_asset_Link) → Int → Int → Option (ByteArray × (List ByteArray) × (List ByteArray) × Unit)
  | 0, _, _, _, _, _, _, _, _ => none
  | k + 1, x0, x2k, x2v, x7, x8, x13, x14, x15 => (bif (ilt x15 x14) then ((lat x13 x15).bind fun y1 => (bif (!((mget seq x2k x2v y1.fPath).isSome)) then (asset_relinked.l0 k x0 x2k x2v x7 x8 x13 x14 (wadd .i64 x15 1)) else ((ssub x0 x8 y1.fFrom).bind fun y2 => ((lapp 1 x7 (sbytes y2)).bind fun y3 => ((lapp 1 y3 (sbytes ((mget seq x2k x2v y1.fPath).getD c_empty))).bind fun y4 => (asset_relinked.l0 k x0 x2k x2v y4 y1.fTo x13 x14 (wadd .i64 x15 1))))))) else ((ssub x0 x8 (slen x0)).bind fun y5 => ((lapp 1 x7 (sbytes y5)).bind fun y6 => (some ((bstr y6), (x2k, x2v, ()))))))
def asset_relinked.f (k : Nat) (a0 : ByteArray) (a1 : (List T_asset_Link)) (a2k : (List ByteArray)) (a2v : (List ByteArray)) : Option (ByteArray × (List ByteArray) × (List ByteArray) × Unit) := (asset_relinked.l0 k a0 a2k a2v [] 0 a1 (llen a1) 0)
def asset_relinked.O (k : Nat) : Oracle sg := fun n => lkp n [(57, bld_write.e), (58, bld_string.e)]
def asset_relinked.a : Ann := (.n .z (.n .z (.n .z (.n (.n .z (.lp 0 .z)) .z))))
def asset_relinked.L (k : Nat) : Nat → St sg.U → Option (RT sg.U [.str] × HL sg.U (PM.outs [(.d .str), (.d (.sl (.st 1))), (.mp .str .str)])) := labs [(0, labOf sg [(0, (.d .str)), (2, (.mp .str .str)), (7, (.bd 145 5)), (8, (.d (.int .i64))), (13, (.d (.sl (.st 1)))), (14, (.d (.int .i64))), (15, (.d (.int .i64)))] (fun h => asset_relinked.l0 k h.1 h.2.1 h.2.2.1 h.2.2.2.1 h.2.2.2.2.1 h.2.2.2.2.2.1 h.2.2.2.2.2.2.1 h.2.2.2.2.2.2.2.1))]
theorem asset_relinked.l0_eq (k : Nat) (x0 : ByteArray) (x2k : (List ByteArray)) (x2v : (List ByteArray)) (x7 : (List Int)) (x8 : Int) (x13 : (List T_asset_Link)) (x14 : Int) (x15 : Int) : asset_relinked.l0 (k + 1) x0 x2k x2v x7 x8 x13 x14 x15 = runFrom (C := ctx) (asset_relinked.O k) ⟨44, [2], []⟩ (asset_relinked.L k) (Try.f52.body.getD .skip) asset_relinked.a 0 (endR ctx [.str] [(.tmp 6)] [(.d .str), (.d (.sl (.st 1))), (.mp .str .str)]) (encD [(0, (.d .str)), (2, (.mp .str .str)), (7, (.bd 145 5)), (8, (.d (.int .i64))), (13, (.d (.sl (.st 1)))), (14, (.d (.int .i64))), (15, (.d (.int .i64)))] (x0, x2k, x2v, x7, x8, x13, x14, x15, ()) (startD sg.U ⟨44, [2], []⟩ [(0, (.d .str)), (2, (.mp .str .str)), (7, (.bd 145 5)), (8, (.d (.int .i64))), (13, (.d (.sl (.st 1)))), (14, (.d (.int .i64))), (15, (.d (.int .i64)))])) := by
  rw [asset_relinked.l0]
  kernel_rfl
theorem asset_relinked.f_eq (k : Nat) (a0 : ByteArray) (a1 : (List T_asset_Link)) (a2k : (List ByteArray)) (a2v : (List ByteArray)) : asset_relinked.f k a0 a1 a2k a2v = codeK (C := ctx) (asset_relinked.O k) ⟨44, [2], []⟩ (asset_relinked.L k) (Try.f52.body.getD .skip) asset_relinked.a (endR ctx [.str] [(.tmp 6)] [(.d .str), (.d (.sl (.st 1))), (.mp .str .str)]) (slotsOf sg.U 0 [(.d .str), (.d (.sl (.st 1))), (.mp .str .str)] (a0, a1, a2k, a2v, ()) (emptyG sg.U (PM.gs [(.d .str), (.d (.sl (.st 1))), (.mp .str .str)]))) := by
  unfold asset_relinked.f
  kernel_rfl
def asset_relinked.e (k : Nat) : Entry sg := entryR sg [(.d .str), (.d (.sl (.st 1))), (.mp .str .str)] [.str] (fun h => asset_relinked.f k h.1 h.2.1 h.2.2.1 h.2.2.2.1)
def asset_relinked.T : List (Lb sg (RT sg.U [.str] × HL sg.U (PM.outs [(.d .str), (.d (.sl (.st 1))), (.mp .str .str)]))) := [⟨0, [(0, (.d .str)), (2, (.mp .str .str)), (7, (.bd 145 5)), (8, (.d (.int .i64))), (13, (.d (.sl (.st 1)))), (14, (.d (.int .i64))), (15, (.d (.int .i64)))], fun k h => asset_relinked.l0 k h.1 h.2.1 h.2.2.1 h.2.2.2.1 h.2.2.2.2.1 h.2.2.2.2.2.1 h.2.2.2.2.2.2.1 h.2.2.2.2.2.2.2.1⟩]
theorem asset_relinked.ok (k : Nat) : (asset_relinked.e k).Sound Try.prog ctx 52 :=
  entryR_ok base_ok mo (fn := Try.f52) (b := (Try.f52.body.getD .skip)) (pm := [(.d .str), (.d (.sl (.st 1))), (.mp .str .str)]) (rs := [.str]) (an := asset_relinked.a) (N := 44) (vars := [(.tmp 6)]) Try.func52 (by kernel_rfl) (by kernel_rfl) (by kernel_rfl) (by kernel_rfl) (by kernel_rfl) (by kernel_rfl) (by kernel_rfl) (by kernel_rfl) (O := asset_relinked.O)
    (fun k => by unfold asset_relinked.O; exact oracle_of (P := Try.prog) (C := ctx) ⟨(bld_write.ok), ⟨(bld_string.ok), trivial⟩⟩) asset_relinked.T ⟨⟨by kernel_rfl, fun _ => by first | rfl | rw [asset_relinked.l0], fun k h => asset_relinked.l0_eq k h.1 h.2.1 h.2.2.1 h.2.2.2.1 h.2.2.2.2.1 h.2.2.2.2.2.1 h.2.2.2.2.2.2.1 h.2.2.2.2.2.2.2.1⟩, trivial⟩ k (fun h => asset_relinked.f_eq k h.1 h.2.1 h.2.2.1 h.2.2.2.1)
mutual
def asset_Relink.l0 : Nat → ByteArray → (List ByteArray) → (List ByteArray) → Int → (List T_asset_Name) → Int → Int → Option (ByteArray × Int × Int)
  | 0, _, _, _, _, _, _, _ => none
  | k + 1, x0, x7k, x7v, x8, x31, x32, x33 => (bif (ilt x33 x32) then ((lat x31 x33).bind fun y1 => (bif (mget seq x7k x7v y1.fPath).isSome then (some (c_empty, 0, 6)) else ((asset_badName.f k y1.fName).bind fun y2 => (bif y2 then (some (c_empty, 0, 9)) else (let y3 : List ByteArray := mputK seq x7k y1.fPath; let y4 : List ByteArray := mputV seq x7k x7v y1.fPath y1.fName; (asset_Relink.l0 k x0 y3 y4 x8 x31 x32 (wadd .i64 x33 1))))))) else ((asset_Links.f k x0).bind fun y5 => (bif (!ieq y5.2.2 0) then (some (c_empty, y5.2.1, y5.2.2)) else (asset_Relink.l1 k x0 x7k x7v x8 y5.1 y5.1 (llen y5.1) 0))))
def asset_Relink.l1 : Nat → ByteArray → (List ByteArray) → (List ByteArray) → Int → (List T_asset_Link) → (List T_asset_Link) → Int → Int → Option (ByteArray × Int × Int)
  | 0, _, _, _, _, _, _, _, _ => none
  | k + 1, x0, x7k, x7v, x8, x13, x64, x65, x66 => (bif (ilt x66 x65) then ((lat x64 x66).bind fun y6 => (bif (mget seq x7k x7v y6.fPath).isSome then (asset_Relink.l1 k x0 x7k x7v (wadd .i64 x8 (wsub .i64 (slen ((mget seq x7k x7v y6.fPath).getD c_empty)) (wsub .i64 y6.fTo y6.fFrom))) x13 x64 x65 (wadd .i64 x66 1)) else (asset_Relink.l1 k x0 x7k x7v x8 x13 x64 x65 (wadd .i64 x66 1)))) else (bif (ilt 200000 x8) then (some (c_empty, 0, 4)) else ((asset_relinked.f k x0 x13 x7k x7v).bind fun y7 => (some (y7.1, 0, 0)))))
end
def asset_Relink.f (k : Nat) (a0 : ByteArray) (a1 : (List T_asset_Name)) : Option (ByteArray × Int × Int) := (bif (bif (ilt 20000 (slen a0)) then true else (ilt 40 (llen a1))) then (some (c_empty, 0, 4)) else (asset_Relink.l0 k a0 [] [] (slen a0) a1 (llen a1) 0))
def asset_Relink.O (k : Nat) : Oracle sg := fun n => lkp n [(16, asset_Links.e k), (51, asset_badName.e k), (52, asset_relinked.e k)]
def asset_Relink.a : Ann := (.n .z (.n .z (.n .z (.n .z (.n (.n .z (.lp 0 .z)) (.n .z (.n .z (.n (.n .z (.lp 1 .z)) .z))))))))
def asset_Relink.L (k : Nat) : Nat → St sg.U → Option (RT sg.U [.str, (.int .i64), (.int .i64)]) := labs [(0, labOf sg [(0, (.d .str)), (7, (.mp .str .str)), (8, (.d (.int .i64))), (31, (.d (.sl (.st 0)))), (32, (.d (.int .i64))), (33, (.d (.int .i64)))] (fun h => asset_Relink.l0 k h.1 h.2.1 h.2.2.1 h.2.2.2.1 h.2.2.2.2.1 h.2.2.2.2.2.1 h.2.2.2.2.2.2.1)), (1, labOf sg [(0, (.d .str)), (7, (.mp .str .str)), (8, (.d (.int .i64))), (13, (.d (.sl (.st 1)))), (64, (.d (.sl (.st 1)))), (65, (.d (.int .i64))), (66, (.d (.int .i64)))] (fun h => asset_Relink.l1 k h.1 h.2.1 h.2.2.1 h.2.2.2.1 h.2.2.2.2.1 h.2.2.2.2.2.1 h.2.2.2.2.2.2.1 h.2.2.2.2.2.2.2.1))]
theorem asset_Relink.l0_eq (k : Nat) (x0 : ByteArray) (x7k : (List ByteArray)) (x7v : (List ByteArray)) (x8 : Int) (x31 : (List T_asset_Name)) (x32 : Int) (x33 : Int) : asset_Relink.l0 (k + 1) x0 x7k x7v x8 x31 x32 x33 = runFrom (C := ctx) (asset_Relink.O k) ⟨95, [], []⟩ (asset_Relink.L k) (Try.f20.body.getD .skip) asset_Relink.a 0 (endK ctx [.str, (.int .i64), (.int .i64)] [(.tmp 4), (.tmp 5), (.tmp 6)]) (encD [(0, (.d .str)), (7, (.mp .str .str)), (8, (.d (.int .i64))), (31, (.d (.sl (.st 0)))), (32, (.d (.int .i64))), (33, (.d (.int .i64)))] (x0, x7k, x7v, x8, x31, x32, x33, ()) (startD sg.U ⟨95, [], []⟩ [(0, (.d .str)), (7, (.mp .str .str)), (8, (.d (.int .i64))), (31, (.d (.sl (.st 0)))), (32, (.d (.int .i64))), (33, (.d (.int .i64)))])) := by
  rw [asset_Relink.l0]
  kernel_rfl
theorem asset_Relink.l1_eq (k : Nat) (x0 : ByteArray) (x7k : (List ByteArray)) (x7v : (List ByteArray)) (x8 : Int) (x13 : (List T_asset_Link)) (x64 : (List T_asset_Link)) (x65 : Int) (x66 : Int) : asset_Relink.l1 (k + 1) x0 x7k x7v x8 x13 x64 x65 x66 = runFrom (C := ctx) (asset_Relink.O k) ⟨95, [], []⟩ (asset_Relink.L k) (Try.f20.body.getD .skip) asset_Relink.a 1 (endK ctx [.str, (.int .i64), (.int .i64)] [(.tmp 4), (.tmp 5), (.tmp 6)]) (encD [(0, (.d .str)), (7, (.mp .str .str)), (8, (.d (.int .i64))), (13, (.d (.sl (.st 1)))), (64, (.d (.sl (.st 1)))), (65, (.d (.int .i64))), (66, (.d (.int .i64)))] (x0, x7k, x7v, x8, x13, x64, x65, x66, ()) (startD sg.U ⟨95, [], []⟩ [(0, (.d .str)), (7, (.mp .str .str)), (8, (.d (.int .i64))), (13, (.d (.sl (.st 1)))), (64, (.d (.sl (.st 1)))), (65, (.d (.int .i64))), (66, (.d (.int .i64)))])) := by
  rw [asset_Relink.l1]
  kernel_rfl
theorem asset_Relink.f_eq (k : Nat) (a0 : ByteArray) (a1 : (List T_asset_Name)) : asset_Relink.f k a0 a1 = codeK (C := ctx) (asset_Relink.O k) ⟨95, [], []⟩ (asset_Relink.L k) (Try.f20.body.getD .skip) asset_Relink.a (endK ctx [.str, (.int .i64), (.int .i64)] [(.tmp 4), (.tmp 5), (.tmp 6)]) (slotsOf sg.U 0 [(.d .str), (.d (.sl (.st 0)))] (a0, a1, ()) (empty sg.U)) := by
  unfold asset_Relink.f
  kernel_rfl
def asset_Relink.e (k : Nat) : Entry sg := entryOf sg [(.d .str), (.d (.sl (.st 0)))] [.str, (.int .i64), (.int .i64)] (fun h => asset_Relink.f k h.1 h.2.1)
def asset_Relink.T : List (Lb sg (RT sg.U [.str, (.int .i64), (.int .i64)])) := [⟨0, [(0, (.d .str)), (7, (.mp .str .str)), (8, (.d (.int .i64))), (31, (.d (.sl (.st 0)))), (32, (.d (.int .i64))), (33, (.d (.int .i64)))], fun k h => asset_Relink.l0 k h.1 h.2.1 h.2.2.1 h.2.2.2.1 h.2.2.2.2.1 h.2.2.2.2.2.1 h.2.2.2.2.2.2.1⟩, ⟨1, [(0, (.d .str)), (7, (.mp .str .str)), (8, (.d (.int .i64))), (13, (.d (.sl (.st 1)))), (64, (.d (.sl (.st 1)))), (65, (.d (.int .i64))), (66, (.d (.int .i64)))], fun k h => asset_Relink.l1 k h.1 h.2.1 h.2.2.1 h.2.2.2.1 h.2.2.2.2.1 h.2.2.2.2.2.1 h.2.2.2.2.2.2.1 h.2.2.2.2.2.2.2.1⟩]
theorem asset_Relink.ok (k : Nat) : (asset_Relink.e k).Sound Try.prog ctx 20 :=
  entry_ok base_ok mo (fn := Try.f20) (b := (Try.f20.body.getD .skip)) (pm := [(.d .str), (.d (.sl (.st 0)))]) (rs := [.str, (.int .i64), (.int .i64)]) (an := asset_Relink.a) (N := 95) (vars := [(.tmp 4), (.tmp 5), (.tmp 6)]) Try.func20 (by kernel_rfl) (by kernel_rfl) (by kernel_rfl) (by kernel_rfl) (by kernel_rfl) (by kernel_rfl) (O := asset_Relink.O)
    (fun k => by unfold asset_Relink.O; exact oracle_of (P := Try.prog) (C := ctx) ⟨(asset_Links.ok k), ⟨(asset_badName.ok k), ⟨(asset_relinked.ok k), trivial⟩⟩⟩) asset_Relink.T ⟨⟨by kernel_rfl, fun _ => by first | rfl | rw [asset_Relink.l0], fun k h => asset_Relink.l0_eq k h.1 h.2.1 h.2.2.1 h.2.2.2.1 h.2.2.2.2.1 h.2.2.2.2.2.1 h.2.2.2.2.2.2.1⟩, ⟨⟨by kernel_rfl, fun _ => by first | rfl | rw [asset_Relink.l1], fun k h => asset_Relink.l1_eq k h.1 h.2.1 h.2.2.1 h.2.2.2.1 h.2.2.2.2.1 h.2.2.2.2.2.1 h.2.2.2.2.2.2.1 h.2.2.2.2.2.2.2.1⟩, trivial⟩⟩ k (fun h => asset_Relink.f_eq k h.1 h.2.1)
def mastref2_RelinkOf_c1.f (a0 : T_asset_Name) (a1_0 : ByteArray) (a1_1 : ByteArray) : Option (Bool × ByteArray × ByteArray × Unit) := (some ((seq a0.fPath a1_0), (a1_0, a1_1, ())))
def mastref2_RelinkOf_c1.O : Oracle sg := fun n => lkp n []
def mastref2_RelinkOf_c1.a : Ann := .z
def mastref2_RelinkOf_c1.L : Nat → St sg.U → Option (RT sg.U [.bool] × HL sg.U (PM.outs [(.d (.st 0)), (.ref [.d .str, .d .str])])) := labs []
theorem mastref2_RelinkOf_c1.f_eq (a0 : T_asset_Name) (a1_0 : ByteArray) (a1_1 : ByteArray) : mastref2_RelinkOf_c1.f a0 a1_0 a1_1 = codeK (C := ctx) (mastref2_RelinkOf_c1.O) ⟨9, [1], []⟩ (mastref2_RelinkOf_c1.L) (Try.f54.body.getD .skip) mastref2_RelinkOf_c1.a (endR ctx [.bool] [(.tmp 3)] [(.d (.st 0)), (.ref [.d .str, .d .str])]) (slotsOf sg.U 0 [(.d (.st 0)), (.ref [.d .str, .d .str])] (a0, a1_0, a1_1, ()) (emptyG sg.U (PM.gs [(.d (.st 0)), (.ref [.d .str, .d .str])]))) := by
  unfold mastref2_RelinkOf_c1.f
  kernel_rfl
def mastref2_RelinkOf_c1.e : Entry sg := entryR sg [(.d (.st 0)), (.ref [.d .str, .d .str])] [.bool] (fun h => mastref2_RelinkOf_c1.f h.1 h.2.1 h.2.2.1)
def mastref2_RelinkOf_c1.T : List (Lb sg (RT sg.U [.bool] × HL sg.U (PM.outs [(.d (.st 0)), (.ref [.d .str, .d .str])]))) := []
theorem mastref2_RelinkOf_c1.ok : (mastref2_RelinkOf_c1.e).Sound Try.prog ctx 54 :=
  entryR_ok base_ok mo (fn := Try.f54) (b := (Try.f54.body.getD .skip)) (pm := [(.d (.st 0)), (.ref [.d .str, .d .str])]) (rs := [.bool]) (an := mastref2_RelinkOf_c1.a) (N := 9) (vars := [(.tmp 3)]) Try.func54 (by kernel_rfl) (by kernel_rfl) (by kernel_rfl) (by kernel_rfl) (by kernel_rfl) (by kernel_rfl) (by kernel_rfl) (by kernel_rfl) (O := fun _ => mastref2_RelinkOf_c1.O)
    (fun _ => by unfold mastref2_RelinkOf_c1.O; exact oracle_of (P := Try.prog) (C := ctx) trivial) mastref2_RelinkOf_c1.T trivial 0 (fun h => mastref2_RelinkOf_c1.f_eq h.1 h.2.1 h.2.2.1)
def slices_IndexFunc_asset_Name_asset_Name_at_mastref2_RelinkOf_c1.l0 : Nat → (List T_asset_Name) → Int → Int → ByteArray → ByteArray → Option (Int × ByteArray × ByteArray × Unit)
  | 0, _, _, _, _, _ => none
  | k + 1, x0, x7, x8, x19_0, x19_1 => (bif (ilt x8 x7) then ((lat x0 x8).bind fun y1 => ((mastref2_RelinkOf_c1.f y1 x19_0 x19_1).bind fun y2 => (bif y2.1 then (some (x8, (y2.2.1, y2.2.2.1, ()))) else (slices_IndexFunc_asset_Name_asset_Name_at_mastref2_RelinkOf_c1.l0 k x0 x7 (wadd .i64 x8 1) y2.2.1 y2.2.2.1)))) else (some ((-1), (x19_0, x19_1, ()))))
def slices_IndexFunc_asset_Name_asset_Name_at_mastref2_RelinkOf_c1.f (k : Nat) (a0 : (List T_asset_Name)) (a19_0 : ByteArray) (a19_1 : ByteArray) : Option (Int × ByteArray × ByteArray × Unit) := (slices_IndexFunc_asset_Name_asset_Name_at_mastref2_RelinkOf_c1.l0 k a0 (llen a0) 0 a19_0 a19_1)
def slices_IndexFunc_asset_Name_asset_Name_at_mastref2_RelinkOf_c1.O (k : Nat) : Oracle sg := fun n => lkp n [(54, mastref2_RelinkOf_c1.e)]
def slices_IndexFunc_asset_Name_asset_Name_at_mastref2_RelinkOf_c1.a : Ann := (.n .z (.n (.n .z (.lp 0 .z)) .z))
def slices_IndexFunc_asset_Name_asset_Name_at_mastref2_RelinkOf_c1.L (k : Nat) : Nat → St sg.U → Option (RT sg.U [(.int .i64)] × HL sg.U (PM.outs [(.d (.sl (.st 0))), (.clo 54 [19]), (.gh 19 [.d .str, .d .str])])) := labs [(0, labOf sg [(0, (.d (.sl (.st 0)))), (1, (.clo 54 [19])), (7, (.d (.int .i64))), (8, (.d (.int .i64))), (19, (.gh [.d .str, .d .str]))] (fun h => slices_IndexFunc_asset_Name_asset_Name_at_mastref2_RelinkOf_c1.l0 k h.1 h.2.1 h.2.2.1 h.2.2.2.1 h.2.2.2.2.1))]
theorem slices_IndexFunc_asset_Name_asset_Name_at_mastref2_RelinkOf_c1.l0_eq (k : Nat) (x0 : (List T_asset_Name)) (x7 : Int) (x8 : Int) (x19_0 : ByteArray) (x19_1 : ByteArray) : slices_IndexFunc_asset_Name_asset_Name_at_mastref2_RelinkOf_c1.l0 (k + 1) x0 x7 x8 x19_0 x19_1 = runFrom (C := ctx) (slices_IndexFunc_asset_Name_asset_Name_at_mastref2_RelinkOf_c1.O k) ⟨19, [], [19]⟩ (slices_IndexFunc_asset_Name_asset_Name_at_mastref2_RelinkOf_c1.L k) (Try.f102.body.getD .skip) slices_IndexFunc_asset_Name_asset_Name_at_mastref2_RelinkOf_c1.a 0 (endR ctx [(.int .i64)] [(.tmp 4)] [(.d (.sl (.st 0))), (.clo 54 [19]), (.gh 19 [.d .str, .d .str])]) (encD [(0, (.d (.sl (.st 0)))), (1, (.clo 54 [19])), (7, (.d (.int .i64))), (8, (.d (.int .i64))), (19, (.gh [.d .str, .d .str]))] (x0, x7, x8, x19_0, x19_1, ()) (startD sg.U ⟨19, [], [19]⟩ [(0, (.d (.sl (.st 0)))), (1, (.clo 54 [19])), (7, (.d (.int .i64))), (8, (.d (.int .i64))), (19, (.gh [.d .str, .d .str]))])) := by
  rw [slices_IndexFunc_asset_Name_asset_Name_at_mastref2_RelinkOf_c1.l0]
  kernel_rfl
theorem slices_IndexFunc_asset_Name_asset_Name_at_mastref2_RelinkOf_c1.f_eq (k : Nat) (a0 : (List T_asset_Name)) (a19_0 : ByteArray) (a19_1 : ByteArray) : slices_IndexFunc_asset_Name_asset_Name_at_mastref2_RelinkOf_c1.f k a0 a19_0 a19_1 = codeK (C := ctx) (slices_IndexFunc_asset_Name_asset_Name_at_mastref2_RelinkOf_c1.O k) ⟨19, [], [19]⟩ (slices_IndexFunc_asset_Name_asset_Name_at_mastref2_RelinkOf_c1.L k) (Try.f102.body.getD .skip) slices_IndexFunc_asset_Name_asset_Name_at_mastref2_RelinkOf_c1.a (endR ctx [(.int .i64)] [(.tmp 4)] [(.d (.sl (.st 0))), (.clo 54 [19]), (.gh 19 [.d .str, .d .str])]) (slotsOf sg.U 0 [(.d (.sl (.st 0))), (.clo 54 [19]), (.gh 19 [.d .str, .d .str])] (a0, a19_0, a19_1, ()) (emptyG sg.U (PM.gs [(.d (.sl (.st 0))), (.clo 54 [19]), (.gh 19 [.d .str, .d .str])]))) := by
  unfold slices_IndexFunc_asset_Name_asset_Name_at_mastref2_RelinkOf_c1.f
  kernel_rfl
def slices_IndexFunc_asset_Name_asset_Name_at_mastref2_RelinkOf_c1.e (k : Nat) : Entry sg := entryR sg [(.d (.sl (.st 0))), (.clo 54 [19]), (.gh 19 [.d .str, .d .str])] [(.int .i64)] (fun h => slices_IndexFunc_asset_Name_asset_Name_at_mastref2_RelinkOf_c1.f k h.1 h.2.1 h.2.2.1)
def slices_IndexFunc_asset_Name_asset_Name_at_mastref2_RelinkOf_c1.T : List (Lb sg (RT sg.U [(.int .i64)] × HL sg.U (PM.outs [(.d (.sl (.st 0))), (.clo 54 [19]), (.gh 19 [.d .str, .d .str])]))) := [⟨0, [(0, (.d (.sl (.st 0)))), (1, (.clo 54 [19])), (7, (.d (.int .i64))), (8, (.d (.int .i64))), (19, (.gh [.d .str, .d .str]))], fun k h => slices_IndexFunc_asset_Name_asset_Name_at_mastref2_RelinkOf_c1.l0 k h.1 h.2.1 h.2.2.1 h.2.2.2.1 h.2.2.2.2.1⟩]
theorem slices_IndexFunc_asset_Name_asset_Name_at_mastref2_RelinkOf_c1.ok (k : Nat) : (slices_IndexFunc_asset_Name_asset_Name_at_mastref2_RelinkOf_c1.e k).Sound Try.prog ctx 102 :=
  entryR_ok base_ok mo (fn := Try.f102) (b := (Try.f102.body.getD .skip)) (pm := [(.d (.sl (.st 0))), (.clo 54 [19]), (.gh 19 [.d .str, .d .str])]) (rs := [(.int .i64)]) (an := slices_IndexFunc_asset_Name_asset_Name_at_mastref2_RelinkOf_c1.a) (N := 19) (vars := [(.tmp 4)]) Try.func102 (by kernel_rfl) (by kernel_rfl) (by kernel_rfl) (by kernel_rfl) (by kernel_rfl) (by kernel_rfl) (by kernel_rfl) (by kernel_rfl) (O := slices_IndexFunc_asset_Name_asset_Name_at_mastref2_RelinkOf_c1.O)
    (fun k => by unfold slices_IndexFunc_asset_Name_asset_Name_at_mastref2_RelinkOf_c1.O; exact oracle_of (P := Try.prog) (C := ctx) ⟨(mastref2_RelinkOf_c1.ok), trivial⟩) slices_IndexFunc_asset_Name_asset_Name_at_mastref2_RelinkOf_c1.T ⟨⟨by kernel_rfl, fun _ => by first | rfl | rw [slices_IndexFunc_asset_Name_asset_Name_at_mastref2_RelinkOf_c1.l0], fun k h => slices_IndexFunc_asset_Name_asset_Name_at_mastref2_RelinkOf_c1.l0_eq k h.1 h.2.1 h.2.2.1 h.2.2.2.1 h.2.2.2.2.1⟩, trivial⟩ k (fun h => slices_IndexFunc_asset_Name_asset_Name_at_mastref2_RelinkOf_c1.f_eq k h.1 h.2.1 h.2.2.1)
def slices_ContainsFunc_asset_Name_asset_Name_at_mastref2_RelinkOf_c1.f (k : Nat) (a0 : (List T_asset_Name)) (a9_0 : ByteArray) (a9_1 : ByteArray) : Option (Bool × ByteArray × ByteArray × Unit) := ((slices_IndexFunc_asset_Name_asset_Name_at_mastref2_RelinkOf_c1.f k a0 a9_0 a9_1).bind fun y1 => (some ((ile 0 y1.1), (y1.2.1, y1.2.2.1, ()))))
def slices_ContainsFunc_asset_Name_asset_Name_at_mastref2_RelinkOf_c1.O (k : Nat) : Oracle sg := fun n => lkp n [(102, slices_IndexFunc_asset_Name_asset_Name_at_mastref2_RelinkOf_c1.e k)]
def slices_ContainsFunc_asset_Name_asset_Name_at_mastref2_RelinkOf_c1.a : Ann := .z
def slices_ContainsFunc_asset_Name_asset_Name_at_mastref2_RelinkOf_c1.L (k : Nat) : Nat → St sg.U → Option (RT sg.U [.bool] × HL sg.U (PM.outs [(.d (.sl (.st 0))), (.clo 54 [9]), (.gh 9 [.d .str, .d .str])])) := labs []
theorem slices_ContainsFunc_asset_Name_asset_Name_at_mastref2_RelinkOf_c1.f_eq (k : Nat) (a0 : (List T_asset_Name)) (a9_0 : ByteArray) (a9_1 : ByteArray) : slices_ContainsFunc_asset_Name_asset_Name_at_mastref2_RelinkOf_c1.f k a0 a9_0 a9_1 = codeK (C := ctx) (slices_ContainsFunc_asset_Name_asset_Name_at_mastref2_RelinkOf_c1.O k) ⟨9, [], [9]⟩ (slices_ContainsFunc_asset_Name_asset_Name_at_mastref2_RelinkOf_c1.L k) (Try.f53.body.getD .skip) slices_ContainsFunc_asset_Name_asset_Name_at_mastref2_RelinkOf_c1.a (endR ctx [.bool] [(.tmp 4)] [(.d (.sl (.st 0))), (.clo 54 [9]), (.gh 9 [.d .str, .d .str])]) (slotsOf sg.U 0 [(.d (.sl (.st 0))), (.clo 54 [9]), (.gh 9 [.d .str, .d .str])] (a0, a9_0, a9_1, ()) (emptyG sg.U (PM.gs [(.d (.sl (.st 0))), (.clo 54 [9]), (.gh 9 [.d .str, .d .str])]))) := by
  unfold slices_ContainsFunc_asset_Name_asset_Name_at_mastref2_RelinkOf_c1.f
  kernel_rfl
def slices_ContainsFunc_asset_Name_asset_Name_at_mastref2_RelinkOf_c1.e (k : Nat) : Entry sg := entryR sg [(.d (.sl (.st 0))), (.clo 54 [9]), (.gh 9 [.d .str, .d .str])] [.bool] (fun h => slices_ContainsFunc_asset_Name_asset_Name_at_mastref2_RelinkOf_c1.f k h.1 h.2.1 h.2.2.1)
def slices_ContainsFunc_asset_Name_asset_Name_at_mastref2_RelinkOf_c1.T : List (Lb sg (RT sg.U [.bool] × HL sg.U (PM.outs [(.d (.sl (.st 0))), (.clo 54 [9]), (.gh 9 [.d .str, .d .str])]))) := []
theorem slices_ContainsFunc_asset_Name_asset_Name_at_mastref2_RelinkOf_c1.ok (k : Nat) : (slices_ContainsFunc_asset_Name_asset_Name_at_mastref2_RelinkOf_c1.e k).Sound Try.prog ctx 53 :=
  entryR_ok base_ok mo (fn := Try.f53) (b := (Try.f53.body.getD .skip)) (pm := [(.d (.sl (.st 0))), (.clo 54 [9]), (.gh 9 [.d .str, .d .str])]) (rs := [.bool]) (an := slices_ContainsFunc_asset_Name_asset_Name_at_mastref2_RelinkOf_c1.a) (N := 9) (vars := [(.tmp 4)]) Try.func53 (by kernel_rfl) (by kernel_rfl) (by kernel_rfl) (by kernel_rfl) (by kernel_rfl) (by kernel_rfl) (by kernel_rfl) (by kernel_rfl) (O := slices_ContainsFunc_asset_Name_asset_Name_at_mastref2_RelinkOf_c1.O)
    (fun k => by unfold slices_ContainsFunc_asset_Name_asset_Name_at_mastref2_RelinkOf_c1.O; exact oracle_of (P := Try.prog) (C := ctx) ⟨(slices_IndexFunc_asset_Name_asset_Name_at_mastref2_RelinkOf_c1.ok k), trivial⟩) slices_ContainsFunc_asset_Name_asset_Name_at_mastref2_RelinkOf_c1.T trivial k (fun h => slices_ContainsFunc_asset_Name_asset_Name_at_mastref2_RelinkOf_c1.f_eq k h.1 h.2.1 h.2.2.1)
def mastref2_refusedByte_c1.f (a0 : Int) : Option (Bool) := (some (bif (bif (bif (ilt a0 32) then (!ieq a0 9) else false) then (!ieq a0 10) else false) then true else (ieq a0 127)))
def mastref2_refusedByte_c1.O : Oracle sg := fun n => lkp n []
def mastref2_refusedByte_c1.a : Ann := .z
def mastref2_refusedByte_c1.L : Nat → St sg.U → Option (RT sg.U [.bool]) := labs []
theorem mastref2_refusedByte_c1.f_eq (a0 : Int) : mastref2_refusedByte_c1.f a0 = codeK (C := ctx) (mastref2_refusedByte_c1.O) ⟨17, [], []⟩ (mastref2_refusedByte_c1.L) (Try.f109.body.getD .skip) mastref2_refusedByte_c1.a (endK ctx [.bool] [(.tmp 2)]) (slotsOf sg.U 0 [(.d (.int .i32))] (a0, ()) (empty sg.U)) := by
  unfold mastref2_refusedByte_c1.f
  kernel_rfl
def mastref2_refusedByte_c1.e : Entry sg := entryOf sg [(.d (.int .i32))] [.bool] (fun h => mastref2_refusedByte_c1.f h.1)
def mastref2_refusedByte_c1.T : List (Lb sg (RT sg.U [.bool])) := []
theorem mastref2_refusedByte_c1.ok : (mastref2_refusedByte_c1.e).Sound Try.prog ctx 109 :=
  entry_ok base_ok mo (fn := Try.f109) (b := (Try.f109.body.getD .skip)) (pm := [(.d (.int .i32))]) (rs := [.bool]) (an := mastref2_refusedByte_c1.a) (N := 17) (vars := [(.tmp 2)]) Try.func109 (by kernel_rfl) (by kernel_rfl) (by kernel_rfl) (by kernel_rfl) (by kernel_rfl) (by kernel_rfl) (O := fun _ => mastref2_refusedByte_c1.O)
    (fun _ => by unfold mastref2_refusedByte_c1.O; exact oracle_of (P := Try.prog) (C := ctx) trivial) mastref2_refusedByte_c1.T trivial 0 (fun h => mastref2_refusedByte_c1.f_eq h.1)
def strings_indexFunc_at_mastref2_refusedByte_c1.l0 : Nat → Bool → ByteArray → Int → Option (Int)
  | 0, _, _, _ => none
  | k + 1, x2, x10_s, x10_p => (bif (ilt x10_p (slen x10_s)) then ((mastref2_refusedByte_c1.f (srune x10_s x10_p)).bind fun y1 => (bif (y1 == x2) then (some x10_p) else (strings_indexFunc_at_mastref2_refusedByte_c1.l0 k x2 x10_s (snext x10_s x10_p)))) else (some (-1)))
def strings_indexFunc_at_mastref2_refusedByte_c1.f (k : Nat) (a0 : ByteArray) (a2 : Bool) : Option (Int) := (strings_indexFunc_at_mastref2_refusedByte_c1.l0 k a2 a0 0)
def strings_indexFunc_at_mastref2_refusedByte_c1.O (k : Nat) : Oracle sg := fun n => lkp n [(109, mastref2_refusedByte_c1.e)]
def strings_indexFunc_at_mastref2_refusedByte_c1.a : Ann := (.n .z (.n (.n .z (.lp 0 .z)) .z))
def strings_indexFunc_at_mastref2_refusedByte_c1.L (k : Nat) : Nat → St sg.U → Option (RT sg.U [(.int .i64)]) := labs [(0, labOf sg [(1, (.clo 109 [])), (2, (.d .bool)), (10, .it)] (fun h => strings_indexFunc_at_mastref2_refusedByte_c1.l0 k h.1 h.2.1 h.2.2.1))]
theorem strings_indexFunc_at_mastref2_refusedByte_c1.l0_eq (k : Nat) (x2 : Bool) (x10_s : ByteArray) (x10_p : Int) : strings_indexFunc_at_mastref2_refusedByte_c1.l0 (k + 1) x2 x10_s x10_p = runFrom (C := ctx) (strings_indexFunc_at_mastref2_refusedByte_c1.O k) ⟨21, [], []⟩ (strings_indexFunc_at_mastref2_refusedByte_c1.L k) (Try.f115.body.getD .skip) strings_indexFunc_at_mastref2_refusedByte_c1.a 0 (endK ctx [(.int .i64)] [(.tmp 6)]) (encD [(1, (.clo 109 [])), (2, (.d .bool)), (10, .it)] (x2, x10_s, x10_p, ()) (startD sg.U ⟨21, [], []⟩ [(1, (.clo 109 [])), (2, (.d .bool)), (10, .it)])) := by
  rw [strings_indexFunc_at_mastref2_refusedByte_c1.l0]
  kernel_rfl
theorem strings_indexFunc_at_mastref2_refusedByte_c1.f_eq (k : Nat) (a0 : ByteArray) (a2 : Bool) : strings_indexFunc_at_mastref2_refusedByte_c1.f k a0 a2 = codeK (C := ctx) (strings_indexFunc_at_mastref2_refusedByte_c1.O k) ⟨21, [], []⟩ (strings_indexFunc_at_mastref2_refusedByte_c1.L k) (Try.f115.body.getD .skip) strings_indexFunc_at_mastref2_refusedByte_c1.a (endK ctx [(.int .i64)] [(.tmp 6)]) (slotsOf sg.U 0 [(.d .str), .fn 109, (.d .bool)] (a0, a2, ()) (empty sg.U)) := by
  unfold strings_indexFunc_at_mastref2_refusedByte_c1.f
  kernel_rfl
def strings_indexFunc_at_mastref2_refusedByte_c1.e (k : Nat) : Entry sg := entryOf sg [(.d .str), .fn 109, (.d .bool)] [(.int .i64)] (fun h => strings_indexFunc_at_mastref2_refusedByte_c1.f k h.1 h.2.1)
def strings_indexFunc_at_mastref2_refusedByte_c1.T : List (Lb sg (RT sg.U [(.int .i64)])) := [⟨0, [(1, (.clo 109 [])), (2, (.d .bool)), (10, .it)], fun k h => strings_indexFunc_at_mastref2_refusedByte_c1.l0 k h.1 h.2.1 h.2.2.1⟩]
theorem strings_indexFunc_at_mastref2_refusedByte_c1.ok (k : Nat) : (strings_indexFunc_at_mastref2_refusedByte_c1.e k).Sound Try.prog ctx 115 :=
  entry_ok base_ok mo (fn := Try.f115) (b := (Try.f115.body.getD .skip)) (pm := [(.d .str), .fn 109, (.d .bool)]) (rs := [(.int .i64)]) (an := strings_indexFunc_at_mastref2_refusedByte_c1.a) (N := 21) (vars := [(.tmp 6)]) Try.func115 (by kernel_rfl) (by kernel_rfl) (by kernel_rfl) (by kernel_rfl) (by kernel_rfl) (by kernel_rfl) (O := strings_indexFunc_at_mastref2_refusedByte_c1.O)
    (fun k => by unfold strings_indexFunc_at_mastref2_refusedByte_c1.O; exact oracle_of (P := Try.prog) (C := ctx) ⟨(mastref2_refusedByte_c1.ok), trivial⟩) strings_indexFunc_at_mastref2_refusedByte_c1.T ⟨⟨by kernel_rfl, fun _ => by first | rfl | rw [strings_indexFunc_at_mastref2_refusedByte_c1.l0], fun k h => strings_indexFunc_at_mastref2_refusedByte_c1.l0_eq k h.1 h.2.1 h.2.2.1⟩, trivial⟩ k (fun h => strings_indexFunc_at_mastref2_refusedByte_c1.f_eq k h.1 h.2.1)
def strings_IndexFunc_at_mastref2_refusedByte_c1.f (k : Nat) (a0 : ByteArray) : Option (Int) := ((strings_indexFunc_at_mastref2_refusedByte_c1.f k a0 true).bind fun y1 => (some y1))
def strings_IndexFunc_at_mastref2_refusedByte_c1.O (k : Nat) : Oracle sg := fun n => lkp n [(115, strings_indexFunc_at_mastref2_refusedByte_c1.e k)]
def strings_IndexFunc_at_mastref2_refusedByte_c1.a : Ann := .z
def strings_IndexFunc_at_mastref2_refusedByte_c1.L (k : Nat) : Nat → St sg.U → Option (RT sg.U [(.int .i64)]) := labs []
theorem strings_IndexFunc_at_mastref2_refusedByte_c1.f_eq (k : Nat) (a0 : ByteArray) : strings_IndexFunc_at_mastref2_refusedByte_c1.f k a0 = codeK (C := ctx) (strings_IndexFunc_at_mastref2_refusedByte_c1.O k) ⟨8, [], []⟩ (strings_IndexFunc_at_mastref2_refusedByte_c1.L k) (Try.f108.body.getD .skip) strings_IndexFunc_at_mastref2_refusedByte_c1.a (endK ctx [(.int .i64)] [(.tmp 4)]) (slotsOf sg.U 0 [(.d .str), .fn 109] (a0, ()) (empty sg.U)) := by
  unfold strings_IndexFunc_at_mastref2_refusedByte_c1.f
  kernel_rfl
def strings_IndexFunc_at_mastref2_refusedByte_c1.e (k : Nat) : Entry sg := entryOf sg [(.d .str), .fn 109] [(.int .i64)] (fun h => strings_IndexFunc_at_mastref2_refusedByte_c1.f k h.1)
def strings_IndexFunc_at_mastref2_refusedByte_c1.T : List (Lb sg (RT sg.U [(.int .i64)])) := []
theorem strings_IndexFunc_at_mastref2_refusedByte_c1.ok (k : Nat) : (strings_IndexFunc_at_mastref2_refusedByte_c1.e k).Sound Try.prog ctx 108 :=
  entry_ok base_ok mo (fn := Try.f108) (b := (Try.f108.body.getD .skip)) (pm := [(.d .str), .fn 109]) (rs := [(.int .i64)]) (an := strings_IndexFunc_at_mastref2_refusedByte_c1.a) (N := 8) (vars := [(.tmp 4)]) Try.func108 (by kernel_rfl) (by kernel_rfl) (by kernel_rfl) (by kernel_rfl) (by kernel_rfl) (by kernel_rfl) (O := strings_IndexFunc_at_mastref2_refusedByte_c1.O)
    (fun k => by unfold strings_IndexFunc_at_mastref2_refusedByte_c1.O; exact oracle_of (P := Try.prog) (C := ctx) ⟨(strings_indexFunc_at_mastref2_refusedByte_c1.ok k), trivial⟩) strings_IndexFunc_at_mastref2_refusedByte_c1.T trivial k (fun h => strings_IndexFunc_at_mastref2_refusedByte_c1.f_eq k h.1)
def mastref2_refusedByte.f (k : Nat) (a0 : ByteArray) : Option (Int) := ((strings_IndexFunc_at_mastref2_refusedByte_c1.f k a0).bind fun y1 => (some y1))
def mastref2_refusedByte.O (k : Nat) : Oracle sg := fun n => lkp n [(108, strings_IndexFunc_at_mastref2_refusedByte_c1.e k)]
def mastref2_refusedByte.a : Ann := .z
def mastref2_refusedByte.L (k : Nat) : Nat → St sg.U → Option (RT sg.U [(.int .i64)]) := labs []
theorem mastref2_refusedByte.f_eq (k : Nat) (a0 : ByteArray) : mastref2_refusedByte.f k a0 = codeK (C := ctx) (mastref2_refusedByte.O k) ⟨5, [], []⟩ (mastref2_refusedByte.L k) (Try.f86.body.getD .skip) mastref2_refusedByte.a (endK ctx [(.int .i64)] [(.tmp 2)]) (slotsOf sg.U 0 [(.d .str)] (a0, ()) (empty sg.U)) := by
  unfold mastref2_refusedByte.f
  kernel_rfl
def mastref2_refusedByte.e (k : Nat) : Entry sg := entryOf sg [(.d .str)] [(.int .i64)] (fun h => mastref2_refusedByte.f k h.1)
def mastref2_refusedByte.T : List (Lb sg (RT sg.U [(.int .i64)])) := []
theorem mastref2_refusedByte.ok (k : Nat) : (mastref2_refusedByte.e k).Sound Try.prog ctx 86 :=
  entry_ok base_ok mo (fn := Try.f86) (b := (Try.f86.body.getD .skip)) (pm := [(.d .str)]) (rs := [(.int .i64)]) (an := mastref2_refusedByte.a) (N := 5) (vars := [(.tmp 2)]) Try.func86 (by kernel_rfl) (by kernel_rfl) (by kernel_rfl) (by kernel_rfl) (by kernel_rfl) (by kernel_rfl) (O := mastref2_refusedByte.O)
    (fun k => by unfold mastref2_refusedByte.O; exact oracle_of (P := Try.prog) (C := ctx) ⟨(strings_IndexFunc_at_mastref2_refusedByte_c1.ok k), trivial⟩) mastref2_refusedByte.T trivial k (fun h => mastref2_refusedByte.f_eq k h.1)
def mastref2_commentEnd.l0 : Nat → ByteArray → Int → Bool → Option (Int)
  | 0, _, _, _ => none
  | k + 1, x0, x1, x31 => (bif x31 then ((ssub x0 x1 (slen x0)).bind fun y7 => ((strings_IndexByte.f y7 10).bind fun y8 => (bif (ilt y8 0) then (some (slen x0)) else (some (wadd .i64 x1 y8))))) else (some 0))
def mastref2_commentEnd.f (k : Nat) (a0 : ByteArray) (a1 : Int) (a2 : Bool) : Option (Int) := ((ssub a0 a1 (slen a0)).bind fun y1 => ((strings_HasPrefix.f y1 c__2f_2a).bind fun y2 => (bif y2 then ((ssub a0 (wadd .i64 a1 2) (slen a0)).bind fun y3 => ((strings_Index.f y3 c__2a_2f).bind fun y4 => (bif (ilt y4 0) then (some (-1)) else (some (wadd .i64 (wadd .i64 (wadd .i64 a1 2) y4) 2))))) else (bif a2 then ((ssub a0 a1 (slen a0)).bind fun y5 => ((strings_HasPrefix.f y5 c__2f_2f).bind fun y6 => (mastref2_commentEnd.l0 k a0 a1 y6))) else (mastref2_commentEnd.l0 k a0 a1 false)))))
def mastref2_commentEnd.O (k : Nat) : Oracle sg := fun n => lkp n [(110, strings_HasPrefix.e), (111, strings_Index.e), (112, strings_IndexByte.e)]
def mastref2_commentEnd.a : Ann := (.n .z (.n .z (.n (.n .z (.lab 0 .z)) .z)))
def mastref2_commentEnd.L (k : Nat) : Nat → St sg.U → Option (RT sg.U [(.int .i64)]) := labs [(0, labOf sg [(0, (.d .str)), (1, (.d (.int .i64))), (31, (.d .bool))] (fun h => mastref2_commentEnd.l0 k h.1 h.2.1 h.2.2.1))]
theorem mastref2_commentEnd.l0_eq (k : Nat) (x0 : ByteArray) (x1 : Int) (x31 : Bool) : mastref2_commentEnd.l0 (k + 1) x0 x1 x31 = runFrom (C := ctx) (mastref2_commentEnd.O k) ⟨43, [], []⟩ (mastref2_commentEnd.L k) (Try.f87.body.getD .skip) mastref2_commentEnd.a 0 (endK ctx [(.int .i64)] [(.tmp 6)]) (encD [(0, (.d .str)), (1, (.d (.int .i64))), (31, (.d .bool))] (x0, x1, x31, ()) (startD sg.U ⟨43, [], []⟩ [(0, (.d .str)), (1, (.d (.int .i64))), (31, (.d .bool))])) := by
  rw [mastref2_commentEnd.l0]
  kernel_rfl
theorem mastref2_commentEnd.f_eq (k : Nat) (a0 : ByteArray) (a1 : Int) (a2 : Bool) : mastref2_commentEnd.f k a0 a1 a2 = codeK (C := ctx) (mastref2_commentEnd.O k) ⟨43, [], []⟩ (mastref2_commentEnd.L k) (Try.f87.body.getD .skip) mastref2_commentEnd.a (endK ctx [(.int .i64)] [(.tmp 6)]) (slotsOf sg.U 0 [(.d .str), (.d (.int .i64)), (.d .bool)] (a0, a1, a2, ()) (empty sg.U)) := by
  unfold mastref2_commentEnd.f
  kernel_rfl
def mastref2_commentEnd.e (k : Nat) : Entry sg := entryOf sg [(.d .str), (.d (.int .i64)), (.d .bool)] [(.int .i64)] (fun h => mastref2_commentEnd.f k h.1 h.2.1 h.2.2.1)
def mastref2_commentEnd.T : List (Lb sg (RT sg.U [(.int .i64)])) := [⟨0, [(0, (.d .str)), (1, (.d (.int .i64))), (31, (.d .bool))], fun k h => mastref2_commentEnd.l0 k h.1 h.2.1 h.2.2.1⟩]
theorem mastref2_commentEnd.ok (k : Nat) : (mastref2_commentEnd.e k).Sound Try.prog ctx 87 :=
  entry_ok base_ok mo (fn := Try.f87) (b := (Try.f87.body.getD .skip)) (pm := [(.d .str), (.d (.int .i64)), (.d .bool)]) (rs := [(.int .i64)]) (an := mastref2_commentEnd.a) (N := 43) (vars := [(.tmp 6)]) Try.func87 (by kernel_rfl) (by kernel_rfl) (by kernel_rfl) (by kernel_rfl) (by kernel_rfl) (by kernel_rfl) (O := mastref2_commentEnd.O)
    (fun k => by unfold mastref2_commentEnd.O; exact oracle_of (P := Try.prog) (C := ctx) ⟨(strings_HasPrefix.ok), ⟨(strings_Index.ok), ⟨(strings_IndexByte.ok), trivial⟩⟩⟩) mastref2_commentEnd.T ⟨⟨by kernel_rfl, fun _ => by first | rfl | rw [mastref2_commentEnd.l0], fun k h => mastref2_commentEnd.l0_eq k h.1 h.2.1 h.2.2.1⟩, trivial⟩ k (fun h => mastref2_commentEnd.f_eq k h.1 h.2.1 h.2.2.1)
def mastref2_stringEnd.l0 : Nat → ByteArray → Int → Int → Option (Int)
  | 0, _, _, _ => none
  | k + 1, x0, x1, x5 => (bif (ilt x5 (slen x0)) then ((sat x0 x5).bind fun y1 => (bif (ieq y1 10) then (some (-1)) else (bif (ieq y1 92) then (bif (ilt (wadd .i64 x5 1) (slen x0)) then ((sat x0 (wadd .i64 x5 1)).bind fun y2 => (bif (ieq y2 10) then (some (-1)) else (mastref2_stringEnd.l0 k x0 x1 (wadd .i64 (wadd .i64 x5 1) 1)))) else (mastref2_stringEnd.l0 k x0 x1 (wadd .i64 (wadd .i64 x5 1) 1))) else ((sat x0 x1).bind fun y3 => (bif (ieq y1 y3) then (some (wadd .i64 x5 1)) else (mastref2_stringEnd.l0 k x0 x1 (wadd .i64 x5 1))))))) else (some (-1)))
def mastref2_stringEnd.f (k : Nat) (a0 : ByteArray) (a1 : Int) : Option (Int) := (mastref2_stringEnd.l0 k a0 a1 (wadd .i64 a1 1))
def mastref2_stringEnd.O (k : Nat) : Oracle sg := fun n => lkp n []
def mastref2_stringEnd.a : Ann := (.n .z (.n (.n .z (.lp 0 .z)) .z))
def mastref2_stringEnd.L (k : Nat) : Nat → St sg.U → Option (RT sg.U [(.int .i64)]) := labs [(0, labOf sg [(0, (.d .str)), (1, (.d (.int .i64))), (5, (.d (.int .i64)))] (fun h => mastref2_stringEnd.l0 k h.1 h.2.1 h.2.2.1))]
theorem mastref2_stringEnd.l0_eq (k : Nat) (x0 : ByteArray) (x1 : Int) (x5 : Int) : mastref2_stringEnd.l0 (k + 1) x0 x1 x5 = runFrom (C := ctx) (mastref2_stringEnd.O k) ⟨42, [], []⟩ (mastref2_stringEnd.L k) (Try.f89.body.getD .skip) mastref2_stringEnd.a 0 (endK ctx [(.int .i64)] [(.tmp 4)]) (encD [(0, (.d .str)), (1, (.d (.int .i64))), (5, (.d (.int .i64)))] (x0, x1, x5, ()) (startD sg.U ⟨42, [], []⟩ [(0, (.d .str)), (1, (.d (.int .i64))), (5, (.d (.int .i64)))])) := by
  rw [mastref2_stringEnd.l0]
  kernel_rfl
theorem mastref2_stringEnd.f_eq (k : Nat) (a0 : ByteArray) (a1 : Int) : mastref2_stringEnd.f k a0 a1 = codeK (C := ctx) (mastref2_stringEnd.O k) ⟨42, [], []⟩ (mastref2_stringEnd.L k) (Try.f89.body.getD .skip) mastref2_stringEnd.a (endK ctx [(.int .i64)] [(.tmp 4)]) (slotsOf sg.U 0 [(.d .str), (.d (.int .i64))] (a0, a1, ()) (empty sg.U)) := by
  unfold mastref2_stringEnd.f
  kernel_rfl
def mastref2_stringEnd.e (k : Nat) : Entry sg := entryOf sg [(.d .str), (.d (.int .i64))] [(.int .i64)] (fun h => mastref2_stringEnd.f k h.1 h.2.1)
def mastref2_stringEnd.T : List (Lb sg (RT sg.U [(.int .i64)])) := [⟨0, [(0, (.d .str)), (1, (.d (.int .i64))), (5, (.d (.int .i64)))], fun k h => mastref2_stringEnd.l0 k h.1 h.2.1 h.2.2.1⟩]
theorem mastref2_stringEnd.ok (k : Nat) : (mastref2_stringEnd.e k).Sound Try.prog ctx 89 :=
  entry_ok base_ok mo (fn := Try.f89) (b := (Try.f89.body.getD .skip)) (pm := [(.d .str), (.d (.int .i64))]) (rs := [(.int .i64)]) (an := mastref2_stringEnd.a) (N := 42) (vars := [(.tmp 4)]) Try.func89 (by kernel_rfl) (by kernel_rfl) (by kernel_rfl) (by kernel_rfl) (by kernel_rfl) (by kernel_rfl) (O := mastref2_stringEnd.O)
    (fun k => by unfold mastref2_stringEnd.O; exact oracle_of (P := Try.prog) (C := ctx) trivial) mastref2_stringEnd.T ⟨⟨by kernel_rfl, fun _ => by first | rfl | rw [mastref2_stringEnd.l0], fun k h => mastref2_stringEnd.l0_eq k h.1 h.2.1 h.2.2.1⟩, trivial⟩ k (fun h => mastref2_stringEnd.f_eq k h.1 h.2.1)
def mastref2_fault7.f (a0 : Int) (a1 : Int) (a2 : Int) : Option ((List T_asset_Token) × Int × Int) := (bif (bif (ile 0 a0) then (ilt a0 a1) else false) then (some ([], a0, 9)) else (some ([], a1, a2)))
def mastref2_fault7.O : Oracle sg := fun n => lkp n []
def mastref2_fault7.a : Ann := .z
def mastref2_fault7.L : Nat → St sg.U → Option (RT sg.U [(.sl (.st 3)), (.int .i64), (.int .i64)]) := labs []
theorem mastref2_fault7.f_eq (a0 : Int) (a1 : Int) (a2 : Int) : mastref2_fault7.f a0 a1 a2 = codeK (C := ctx) (mastref2_fault7.O) ⟨19, [], []⟩ (mastref2_fault7.L) (Try.f88.body.getD .skip) mastref2_fault7.a (endK ctx [(.sl (.st 3)), (.int .i64), (.int .i64)] [(.tmp 6), (.tmp 7), (.tmp 8)]) (slotsOf sg.U 0 [(.d (.int .i64)), (.d (.int .i64)), (.d (.int .i64))] (a0, a1, a2, ()) (empty sg.U)) := by
  unfold mastref2_fault7.f
  kernel_rfl
def mastref2_fault7.e : Entry sg := entryOf sg [(.d (.int .i64)), (.d (.int .i64)), (.d (.int .i64))] [(.sl (.st 3)), (.int .i64), (.int .i64)] (fun h => mastref2_fault7.f h.1 h.2.1 h.2.2.1)
def mastref2_fault7.T : List (Lb sg (RT sg.U [(.sl (.st 3)), (.int .i64), (.int .i64)])) := []
theorem mastref2_fault7.ok : (mastref2_fault7.e).Sound Try.prog ctx 88 :=
  entry_ok base_ok mo (fn := Try.f88) (b := (Try.f88.body.getD .skip)) (pm := [(.d (.int .i64)), (.d (.int .i64)), (.d (.int .i64))]) (rs := [(.sl (.st 3)), (.int .i64), (.int .i64)]) (an := mastref2_fault7.a) (N := 19) (vars := [(.tmp 6), (.tmp 7), (.tmp 8)]) Try.func88 (by kernel_rfl) (by kernel_rfl) (by kernel_rfl) (by kernel_rfl) (by kernel_rfl) (by kernel_rfl) (O := fun _ => mastref2_fault7.O)
    (fun _ => by unfold mastref2_fault7.O; exact oracle_of (P := Try.prog) (C := ctx) trivial) mastref2_fault7.T trivial 0 (fun h => mastref2_fault7.f_eq h.1 h.2.1 h.2.2.1)
def mastref2_isWord7.f (a0 : ByteArray) (a1 : Int) (a2 : Bool) : Option (Bool) := ((sat a0 a1).bind fun y1 => (bif a2 then (some (bif (bif (bif (bif (bif (bif (ile 97 y1) then (ile y1 122) else false) then true else (bif (ile 65 y1) then (ile y1 90) else false)) then true else (bif (ile 48 y1) then (ile y1 57) else false)) then true else (ieq y1 95)) then true else (ieq y1 36)) then true else (ile 128 y1))) else ((strings_IndexByte.f c__7b_7d_28_29_5b_5d_3_0267af61 y1).bind fun y2 => (bif (ilt y2 0) then ((ssub a0 a1 (slen a0)).bind fun y3 => ((strings_HasPrefix.f y3 c__2f_2a).bind fun y4 => (some (!y4)))) else (some false)))))
def mastref2_isWord7.O : Oracle sg := fun n => lkp n [(110, strings_HasPrefix.e), (112, strings_IndexByte.e)]
def mastref2_isWord7.a : Ann := .z
def mastref2_isWord7.L : Nat → St sg.U → Option (RT sg.U [.bool]) := labs []
theorem mastref2_isWord7.f_eq (a0 : ByteArray) (a1 : Int) (a2 : Bool) : mastref2_isWord7.f a0 a1 a2 = codeK (C := ctx) (mastref2_isWord7.O) ⟨56, [], []⟩ (mastref2_isWord7.L) (Try.f90.body.getD .skip) mastref2_isWord7.a (endK ctx [.bool] [(.tmp 6)]) (slotsOf sg.U 0 [(.d .str), (.d (.int .i64)), (.d .bool)] (a0, a1, a2, ()) (empty sg.U)) := by
  unfold mastref2_isWord7.f
  kernel_rfl
def mastref2_isWord7.e : Entry sg := entryOf sg [(.d .str), (.d (.int .i64)), (.d .bool)] [.bool] (fun h => mastref2_isWord7.f h.1 h.2.1 h.2.2.1)
def mastref2_isWord7.T : List (Lb sg (RT sg.U [.bool])) := []
theorem mastref2_isWord7.ok : (mastref2_isWord7.e).Sound Try.prog ctx 90 :=
  entry_ok base_ok mo (fn := Try.f90) (b := (Try.f90.body.getD .skip)) (pm := [(.d .str), (.d (.int .i64)), (.d .bool)]) (rs := [.bool]) (an := mastref2_isWord7.a) (N := 56) (vars := [(.tmp 6)]) Try.func90 (by kernel_rfl) (by kernel_rfl) (by kernel_rfl) (by kernel_rfl) (by kernel_rfl) (by kernel_rfl) (O := fun _ => mastref2_isWord7.O)
    (fun _ => by unfold mastref2_isWord7.O; exact oracle_of (P := Try.prog) (C := ctx) ⟨(strings_HasPrefix.ok), ⟨(strings_IndexByte.ok), trivial⟩⟩) mastref2_isWord7.T trivial 0 (fun h => mastref2_isWord7.f_eq h.1 h.2.1 h.2.2.1)
mutual
def mastref2_tokensIn.l0 : Nat → ByteArray → Bool → (List T_asset_Token) → Int → Int → Option ((List T_asset_Token) × Int × Int)
  | 0, _, _, _, _, _ => none
  | k + 1, x0, x1, x7, x8, x9 => (bif (ilt x9 (slen x0)) then ((sat x0 x9).bind fun y2 => (bif (ieq y2 32) then (mastref2_tokensIn.l1 k x0 x1 x7 x8 x9 x9 4 true) else ((sat x0 x9).bind fun y3 => (bif (ieq y3 9) then (mastref2_tokensIn.l1 k x0 x1 x7 x8 x9 x9 4 true) else ((sat x0 x9).bind fun y4 => (bif (ieq y4 10) then (mastref2_tokensIn.l1 k x0 x1 x7 x8 x9 x9 4 true) else ((mastref2_commentEnd.f k x0 x9 x1).bind fun y5 => (mastref2_tokensIn.l1 k x0 x1 x7 x8 x9 x9 4 (!ieq y5 0))))))))) else (some (x7, 0, 0)))
def mastref2_tokensIn.l1 : Nat → ByteArray → Bool → (List T_asset_Token) → Int → Int → Int → Int → Bool → Option ((List T_asset_Token) × Int × Int)
  | 0, _, _, _, _, _, _, _, _ => none
  | k + 1, x0, x1, x7, x8, x9, x10, x11, x23 => (bif x23 then (mastref2_tokensIn.l2 k x0 x1 x7 x8 x9 x10 x11) else ((sat x0 x9).bind fun y6 => (bif (ieq y6 34) then (mastref2_tokensIn.l3 k x0 x1 x7 x8 x9 x10 true) else ((sat x0 x9).bind fun y7 => (mastref2_tokensIn.l3 k x0 x1 x7 x8 x9 x10 (ieq y7 39))))))
def mastref2_tokensIn.l2 : Nat → ByteArray → Bool → (List T_asset_Token) → Int → Int → Int → Int → Option ((List T_asset_Token) × Int × Int)
  | 0, _, _, _, _, _, _, _ => none
  | k + 1, x0, x1, x7, x8, x9, x10, x11 => (bif (ilt x9 (slen x0)) then ((sat x0 x9).bind fun y8 => (bif (ieq y8 32) then (mastref2_tokensIn.l4 k x0 x1 x7 x8 x9 x10 x11 true) else ((sat x0 x9).bind fun y9 => (bif (ieq y9 9) then (mastref2_tokensIn.l4 k x0 x1 x7 x8 x9 x10 x11 true) else ((sat x0 x9).bind fun y10 => (mastref2_tokensIn.l4 k x0 x1 x7 x8 x9 x10 x11 (ieq y10 10))))))) else (mastref2_tokensIn.l5 k x0 x1 x7 x8 x9 x10 x11))
def mastref2_tokensIn.l3 : Nat → ByteArray → Bool → (List T_asset_Token) → Int → Int → Int → Bool → Option ((List T_asset_Token) × Int × Int)
  | 0, _, _, _, _, _, _, _ => none
  | k + 1, x0, x1, x7, x8, x9, x10, x84 => (bif x84 then ((mastref2_stringEnd.f k x0 x9).bind fun y11 => (bif (ilt y11 0) then ((mastref2_fault7.f x8 x10 8).bind fun y12 => (some (y12.1, y12.2.1, y12.2.2))) else (mastref2_tokensIn.l5 k x0 x1 x7 x8 y11 x10 2))) else ((mastref2_isWord7.f x0 x9 x1).bind fun y13 => (bif y13 then (mastref2_tokensIn.l6 k x0 x1 x7 x8 x9 x10 1) else (mastref2_tokensIn.l5 k x0 x1 x7 x8 (wadd .i64 x9 1) x10 3))))
def mastref2_tokensIn.l4 : Nat → ByteArray → Bool → (List T_asset_Token) → Int → Int → Int → Int → Bool → Option ((List T_asset_Token) × Int × Int)
  | 0, _, _, _, _, _, _, _, _ => none
  | k + 1, x0, x1, x7, x8, x9, x10, x11, x66 => (bif x66 then (mastref2_tokensIn.l2 k x0 x1 x7 x8 (wadd .i64 x9 1) x10 x11) else ((mastref2_commentEnd.f k x0 x9 x1).bind fun y14 => (bif (ilt y14 0) then ((mastref2_fault7.f x8 x9 8).bind fun y15 => (some (y15.1, y15.2.1, y15.2.2))) else (bif (ieq y14 0) then (mastref2_tokensIn.l5 k x0 x1 x7 x8 x9 x10 x11) else (mastref2_tokensIn.l2 k x0 x1 x7 x8 y14 x10 x11)))))
def mastref2_tokensIn.l5 : Nat → ByteArray → Bool → (List T_asset_Token) → Int → Int → Int → Int → Option ((List T_asset_Token) × Int × Int)
  | 0, _, _, _, _, _, _, _ => none
  | k + 1, x0, x1, x7, x8, x9, x10, x11 => (bif (bif (ile 0 x8) then (ilt x8 x9) else false) then (some ([], x8, 9)) else ((ssub x0 x10 x9).bind fun y16 => (bif (ieq x11 4) then (mastref2_tokensIn.l7 k x0 x1 x7 x8 x9 x11 c__20) else (mastref2_tokensIn.l7 k x0 x1 x7 x8 x9 x11 y16))))
def mastref2_tokensIn.l6 : Nat → ByteArray → Bool → (List T_asset_Token) → Int → Int → Int → Int → Option ((List T_asset_Token) × Int × Int)
  | 0, _, _, _, _, _, _, _ => none
  | k + 1, x0, x1, x7, x8, x9, x10, x11 => (bif (ilt x9 (slen x0)) then ((mastref2_isWord7.f x0 x9 x1).bind fun y17 => (bif y17 then (mastref2_tokensIn.l6 k x0 x1 x7 x8 (wadd .i64 x9 1) x10 x11) else (mastref2_tokensIn.l5 k x0 x1 x7 x8 x9 x10 x11))) else (mastref2_tokensIn.l5 k x0 x1 x7 x8 x9 x10 x11))
def mastref2_tokensIn.l7 : Nat → ByteArray → Bool → (List T_asset_Token) → Int → Int → Int → ByteArray → Option ((List T_asset_Token) × Int × Int)
  | 0, _, _, _, _, _, _, _ => none
  | k + 1, x0, x1, x7, x8, x9, x11, x13 => ((lapp 24 x7 [(T_asset_Token.mk x11 x13)]).bind fun y18 => (mastref2_tokensIn.l0 k x0 x1 y18 x8 x9))
end
def mastref2_tokensIn.f (k : Nat) (a0 : ByteArray) (a1 : Bool) : Option ((List T_asset_Token) × Int × Int) := ((mastref2_refusedByte.f k a0).bind fun y1 => (mastref2_tokensIn.l0 k a0 a1 [] y1 0))
def mastref2_tokensIn.O (k : Nat) : Oracle sg := fun n => lkp n [(86, mastref2_refusedByte.e k), (87, mastref2_commentEnd.e k), (88, mastref2_fault7.e), (89, mastref2_stringEnd.e k), (90, mastref2_isWord7.e)]
def mastref2_tokensIn.a : Ann := (.n .z (.n .z (.n .z (.n (.n .z (.lp 0 (.n .z (.n .z (.n .z (.n (.n .z (.lab 1 (.n (.lp 2 (.n .z (.n (.n .z (.lab 4 .z)) .z))) (.n .z (.lab 3 (.n .z (.n .z (.n (.n .z (.lp 6 .z)) .z)))))))) (.lab 5 (.n .z (.n .z (.n .z (.lab 7 .z))))))))))) .z))))
def mastref2_tokensIn.L (k : Nat) : Nat → St sg.U → Option (RT sg.U [(.sl (.st 3)), (.int .i64), (.int .i64)]) := labs [(0, labOf sg [(0, (.d .str)), (1, (.d .bool)), (7, (.row 47 (.st 3))), (8, (.d (.int .i64))), (9, (.d (.int .i64)))] (fun h => mastref2_tokensIn.l0 k h.1 h.2.1 h.2.2.1 h.2.2.2.1 h.2.2.2.2.1)), (1, labOf sg [(0, (.d .str)), (1, (.d .bool)), (7, (.row 47 (.st 3))), (8, (.d (.int .i64))), (9, (.d (.int .i64))), (10, (.d (.int .i64))), (11, (.d (.int .i64))), (23, (.d .bool))] (fun h => mastref2_tokensIn.l1 k h.1 h.2.1 h.2.2.1 h.2.2.2.1 h.2.2.2.2.1 h.2.2.2.2.2.1 h.2.2.2.2.2.2.1 h.2.2.2.2.2.2.2.1)), (2, labOf sg [(0, (.d .str)), (1, (.d .bool)), (7, (.row 47 (.st 3))), (8, (.d (.int .i64))), (9, (.d (.int .i64))), (10, (.d (.int .i64))), (11, (.d (.int .i64)))] (fun h => mastref2_tokensIn.l2 k h.1 h.2.1 h.2.2.1 h.2.2.2.1 h.2.2.2.2.1 h.2.2.2.2.2.1 h.2.2.2.2.2.2.1)), (3, labOf sg [(0, (.d .str)), (1, (.d .bool)), (7, (.row 47 (.st 3))), (8, (.d (.int .i64))), (9, (.d (.int .i64))), (10, (.d (.int .i64))), (84, (.d .bool))] (fun h => mastref2_tokensIn.l3 k h.1 h.2.1 h.2.2.1 h.2.2.2.1 h.2.2.2.2.1 h.2.2.2.2.2.1 h.2.2.2.2.2.2.1)), (4, labOf sg [(0, (.d .str)), (1, (.d .bool)), (7, (.row 47 (.st 3))), (8, (.d (.int .i64))), (9, (.d (.int .i64))), (10, (.d (.int .i64))), (11, (.d (.int .i64))), (66, (.d .bool))] (fun h => mastref2_tokensIn.l4 k h.1 h.2.1 h.2.2.1 h.2.2.2.1 h.2.2.2.2.1 h.2.2.2.2.2.1 h.2.2.2.2.2.2.1 h.2.2.2.2.2.2.2.1)), (5, labOf sg [(0, (.d .str)), (1, (.d .bool)), (7, (.row 47 (.st 3))), (8, (.d (.int .i64))), (9, (.d (.int .i64))), (10, (.d (.int .i64))), (11, (.d (.int .i64)))] (fun h => mastref2_tokensIn.l5 k h.1 h.2.1 h.2.2.1 h.2.2.2.1 h.2.2.2.2.1 h.2.2.2.2.2.1 h.2.2.2.2.2.2.1)), (6, labOf sg [(0, (.d .str)), (1, (.d .bool)), (7, (.row 47 (.st 3))), (8, (.d (.int .i64))), (9, (.d (.int .i64))), (10, (.d (.int .i64))), (11, (.d (.int .i64)))] (fun h => mastref2_tokensIn.l6 k h.1 h.2.1 h.2.2.1 h.2.2.2.1 h.2.2.2.2.1 h.2.2.2.2.2.1 h.2.2.2.2.2.2.1)), (7, labOf sg [(0, (.d .str)), (1, (.d .bool)), (7, (.row 47 (.st 3))), (8, (.d (.int .i64))), (9, (.d (.int .i64))), (11, (.d (.int .i64))), (13, (.d .str))] (fun h => mastref2_tokensIn.l7 k h.1 h.2.1 h.2.2.1 h.2.2.2.1 h.2.2.2.2.1 h.2.2.2.2.2.1 h.2.2.2.2.2.2.1))]
theorem mastref2_tokensIn.l0_eq (k : Nat) (x0 : ByteArray) (x1 : Bool) (x7 : (List T_asset_Token)) (x8 : Int) (x9 : Int) : mastref2_tokensIn.l0 (k + 1) x0 x1 x7 x8 x9 = runFrom (C := ctx) (mastref2_tokensIn.O k) ⟨144, [], []⟩ (mastref2_tokensIn.L k) (Try.f45.body.getD .skip) mastref2_tokensIn.a 0 (endK ctx [(.sl (.st 3)), (.int .i64), (.int .i64)] [(.tmp 4), (.tmp 5), (.tmp 6)]) (encD [(0, (.d .str)), (1, (.d .bool)), (7, (.row 47 (.st 3))), (8, (.d (.int .i64))), (9, (.d (.int .i64)))] (x0, x1, x7, x8, x9, ()) (startD sg.U ⟨144, [], []⟩ [(0, (.d .str)), (1, (.d .bool)), (7, (.row 47 (.st 3))), (8, (.d (.int .i64))), (9, (.d (.int .i64)))])) := by
  rw [mastref2_tokensIn.l0]
  kernel_rfl
theorem mastref2_tokensIn.l1_eq (k : Nat) (x0 : ByteArray) (x1 : Bool) (x7 : (List T_asset_Token)) (x8 : Int) (x9 : Int) (x10 : Int) (x11 : Int) (x23 : Bool) : mastref2_tokensIn.l1 (k + 1) x0 x1 x7 x8 x9 x10 x11 x23 = runFrom (C := ctx) (mastref2_tokensIn.O k) ⟨144, [], []⟩ (mastref2_tokensIn.L k) (Try.f45.body.getD .skip) mastref2_tokensIn.a 1 (endK ctx [(.sl (.st 3)), (.int .i64), (.int .i64)] [(.tmp 4), (.tmp 5), (.tmp 6)]) (encD [(0, (.d .str)), (1, (.d .bool)), (7, (.row 47 (.st 3))), (8, (.d (.int .i64))), (9, (.d (.int .i64))), (10, (.d (.int .i64))), (11, (.d (.int .i64))), (23, (.d .bool))] (x0, x1, x7, x8, x9, x10, x11, x23, ()) (startD sg.U ⟨144, [], []⟩ [(0, (.d .str)), (1, (.d .bool)), (7, (.row 47 (.st 3))), (8, (.d (.int .i64))), (9, (.d (.int .i64))), (10, (.d (.int .i64))), (11, (.d (.int .i64))), (23, (.d .bool))])) := by
  rw [mastref2_tokensIn.l1]
  kernel_rfl
theorem mastref2_tokensIn.l2_eq (k : Nat) (x0 : ByteArray) (x1 : Bool) (x7 : (List T_asset_Token)) (x8 : Int) (x9 : Int) (x10 : Int) (x11 : Int) : mastref2_tokensIn.l2 (k + 1) x0 x1 x7 x8 x9 x10 x11 = runFrom (C := ctx) (mastref2_tokensIn.O k) ⟨144, [], []⟩ (mastref2_tokensIn.L k) (Try.f45.body.getD .skip) mastref2_tokensIn.a 2 (endK ctx [(.sl (.st 3)), (.int .i64), (.int .i64)] [(.tmp 4), (.tmp 5), (.tmp 6)]) (encD [(0, (.d .str)), (1, (.d .bool)), (7, (.row 47 (.st 3))), (8, (.d (.int .i64))), (9, (.d (.int .i64))), (10, (.d (.int .i64))), (11, (.d (.int .i64)))] (x0, x1, x7, x8, x9, x10, x11, ()) (startD sg.U ⟨144, [], []⟩ [(0, (.d .str)), (1, (.d .bool)), (7, (.row 47 (.st 3))), (8, (.d (.int .i64))), (9, (.d (.int .i64))), (10, (.d (.int .i64))), (11, (.d (.int .i64)))])) := by
  rw [mastref2_tokensIn.l2]
  kernel_rfl
theorem mastref2_tokensIn.l3_eq (k : Nat) (x0 : ByteArray) (x1 : Bool) (x7 : (List T_asset_Token)) (x8 : Int) (x9 : Int) (x10 : Int) (x84 : Bool) : mastref2_tokensIn.l3 (k + 1) x0 x1 x7 x8 x9 x10 x84 = runFrom (C := ctx) (mastref2_tokensIn.O k) ⟨144, [], []⟩ (mastref2_tokensIn.L k) (Try.f45.body.getD .skip) mastref2_tokensIn.a 3 (endK ctx [(.sl (.st 3)), (.int .i64), (.int .i64)] [(.tmp 4), (.tmp 5), (.tmp 6)]) (encD [(0, (.d .str)), (1, (.d .bool)), (7, (.row 47 (.st 3))), (8, (.d (.int .i64))), (9, (.d (.int .i64))), (10, (.d (.int .i64))), (84, (.d .bool))] (x0, x1, x7, x8, x9, x10, x84, ()) (startD sg.U ⟨144, [], []⟩ [(0, (.d .str)), (1, (.d .bool)), (7, (.row 47 (.st 3))), (8, (.d (.int .i64))), (9, (.d (.int .i64))), (10, (.d (.int .i64))), (84, (.d .bool))])) := by
  rw [mastref2_tokensIn.l3]
  kernel_rfl
theorem mastref2_tokensIn.l4_eq (k : Nat) (x0 : ByteArray) (x1 : Bool) (x7 : (List T_asset_Token)) (x8 : Int) (x9 : Int) (x10 : Int) (x11 : Int) (x66 : Bool) : mastref2_tokensIn.l4 (k + 1) x0 x1 x7 x8 x9 x10 x11 x66 = runFrom (C := ctx) (mastref2_tokensIn.O k) ⟨144, [], []⟩ (mastref2_tokensIn.L k) (Try.f45.body.getD .skip) mastref2_tokensIn.a 4 (endK ctx [(.sl (.st 3)), (.int .i64), (.int .i64)] [(.tmp 4), (.tmp 5), (.tmp 6)]) (encD [(0, (.d .str)), (1, (.d .bool)), (7, (.row 47 (.st 3))), (8, (.d (.int .i64))), (9, (.d (.int .i64))), (10, (.d (.int .i64))), (11, (.d (.int .i64))), (66, (.d .bool))] (x0, x1, x7, x8, x9, x10, x11, x66, ()) (startD sg.U ⟨144, [], []⟩ [(0, (.d .str)), (1, (.d .bool)), (7, (.row 47 (.st 3))), (8, (.d (.int .i64))), (9, (.d (.int .i64))), (10, (.d (.int .i64))), (11, (.d (.int .i64))), (66, (.d .bool))])) := by
  rw [mastref2_tokensIn.l4]
  kernel_rfl
theorem mastref2_tokensIn.l5_eq (k : Nat) (x0 : ByteArray) (x1 : Bool) (x7 : (List T_asset_Token)) (x8 : Int) (x9 : Int) (x10 : Int) (x11 : Int) : mastref2_tokensIn.l5 (k + 1) x0 x1 x7 x8 x9 x10 x11 = runFrom (C := ctx) (mastref2_tokensIn.O k) ⟨144, [], []⟩ (mastref2_tokensIn.L k) (Try.f45.body.getD .skip) mastref2_tokensIn.a 5 (endK ctx [(.sl (.st 3)), (.int .i64), (.int .i64)] [(.tmp 4), (.tmp 5), (.tmp 6)]) (encD [(0, (.d .str)), (1, (.d .bool)), (7, (.row 47 (.st 3))), (8, (.d (.int .i64))), (9, (.d (.int .i64))), (10, (.d (.int .i64))), (11, (.d (.int .i64)))] (x0, x1, x7, x8, x9, x10, x11, ()) (startD sg.U ⟨144, [], []⟩ [(0, (.d .str)), (1, (.d .bool)), (7, (.row 47 (.st 3))), (8, (.d (.int .i64))), (9, (.d (.int .i64))), (10, (.d (.int .i64))), (11, (.d (.int .i64)))])) := by
  rw [mastref2_tokensIn.l5]
  kernel_rfl
theorem mastref2_tokensIn.l6_eq (k : Nat) (x0 : ByteArray) (x1 : Bool) (x7 : (List T_asset_Token)) (x8 : Int) (x9 : Int) (x10 : Int) (x11 : Int) : mastref2_tokensIn.l6 (k + 1) x0 x1 x7 x8 x9 x10 x11 = runFrom (C := ctx) (mastref2_tokensIn.O k) ⟨144, [], []⟩ (mastref2_tokensIn.L k) (Try.f45.body.getD .skip) mastref2_tokensIn.a 6 (endK ctx [(.sl (.st 3)), (.int .i64), (.int .i64)] [(.tmp 4), (.tmp 5), (.tmp 6)]) (encD [(0, (.d .str)), (1, (.d .bool)), (7, (.row 47 (.st 3))), (8, (.d (.int .i64))), (9, (.d (.int .i64))), (10, (.d (.int .i64))), (11, (.d (.int .i64)))] (x0, x1, x7, x8, x9, x10, x11, ()) (startD sg.U ⟨144, [], []⟩ [(0, (.d .str)), (1, (.d .bool)), (7, (.row 47 (.st 3))), (8, (.d (.int .i64))), (9, (.d (.int .i64))), (10, (.d (.int .i64))), (11, (.d (.int .i64)))])) := by
  rw [mastref2_tokensIn.l6]
  kernel_rfl
theorem mastref2_tokensIn.l7_eq (k : Nat) (x0 : ByteArray) (x1 : Bool) (x7 : (List T_asset_Token)) (x8 : Int) (x9 : Int) (x11 : Int) (x13 : ByteArray) : mastref2_tokensIn.l7 (k + 1) x0 x1 x7 x8 x9 x11 x13 = runFrom (C := ctx) (mastref2_tokensIn.O k) ⟨144, [], []⟩ (mastref2_tokensIn.L k) (Try.f45.body.getD .skip) mastref2_tokensIn.a 7 (endK ctx [(.sl (.st 3)), (.int .i64), (.int .i64)] [(.tmp 4), (.tmp 5), (.tmp 6)]) (encD [(0, (.d .str)), (1, (.d .bool)), (7, (.row 47 (.st 3))), (8, (.d (.int .i64))), (9, (.d (.int .i64))), (11, (.d (.int .i64))), (13, (.d .str))] (x0, x1, x7, x8, x9, x11, x13, ()) (startD sg.U ⟨144, [], []⟩ [(0, (.d .str)), (1, (.d .bool)), (7, (.row 47 (.st 3))), (8, (.d (.int .i64))), (9, (.d (.int .i64))), (11, (.d (.int .i64))), (13, (.d .str))])) := by
  rw [mastref2_tokensIn.l7]
  kernel_rfl
theorem mastref2_tokensIn.f_eq (k : Nat) (a0 : ByteArray) (a1 : Bool) : mastref2_tokensIn.f k a0 a1 = codeK (C := ctx) (mastref2_tokensIn.O k) ⟨144, [], []⟩ (mastref2_tokensIn.L k) (Try.f45.body.getD .skip) mastref2_tokensIn.a (endK ctx [(.sl (.st 3)), (.int .i64), (.int .i64)] [(.tmp 4), (.tmp 5), (.tmp 6)]) (slotsOf sg.U 0 [(.d .str), (.d .bool)] (a0, a1, ()) (empty sg.U)) := by
  unfold mastref2_tokensIn.f
  kernel_rfl
def mastref2_tokensIn.e (k : Nat) : Entry sg := entryOf sg [(.d .str), (.d .bool)] [(.sl (.st 3)), (.int .i64), (.int .i64)] (fun h => mastref2_tokensIn.f k h.1 h.2.1)
def mastref2_tokensIn.T : List (Lb sg (RT sg.U [(.sl (.st 3)), (.int .i64), (.int .i64)])) := [⟨0, [(0, (.d .str)), (1, (.d .bool)), (7, (.row 47 (.st 3))), (8, (.d (.int .i64))), (9, (.d (.int .i64)))], fun k h => mastref2_tokensIn.l0 k h.1 h.2.1 h.2.2.1 h.2.2.2.1 h.2.2.2.2.1⟩, ⟨1, [(0, (.d .str)), (1, (.d .bool)), (7, (.row 47 (.st 3))), (8, (.d (.int .i64))), (9, (.d (.int .i64))), (10, (.d (.int .i64))), (11, (.d (.int .i64))), (23, (.d .bool))], fun k h => mastref2_tokensIn.l1 k h.1 h.2.1 h.2.2.1 h.2.2.2.1 h.2.2.2.2.1 h.2.2.2.2.2.1 h.2.2.2.2.2.2.1 h.2.2.2.2.2.2.2.1⟩, ⟨2, [(0, (.d .str)), (1, (.d .bool)), (7, (.row 47 (.st 3))), (8, (.d (.int .i64))), (9, (.d (.int .i64))), (10, (.d (.int .i64))), (11, (.d (.int .i64)))], fun k h => mastref2_tokensIn.l2 k h.1 h.2.1 h.2.2.1 h.2.2.2.1 h.2.2.2.2.1 h.2.2.2.2.2.1 h.2.2.2.2.2.2.1⟩, ⟨3, [(0, (.d .str)), (1, (.d .bool)), (7, (.row 47 (.st 3))), (8, (.d (.int .i64))), (9, (.d (.int .i64))), (10, (.d (.int .i64))), (84, (.d .bool))], fun k h => mastref2_tokensIn.l3 k h.1 h.2.1 h.2.2.1 h.2.2.2.1 h.2.2.2.2.1 h.2.2.2.2.2.1 h.2.2.2.2.2.2.1⟩, ⟨4, [(0, (.d .str)), (1, (.d .bool)), (7, (.row 47 (.st 3))), (8, (.d (.int .i64))), (9, (.d (.int .i64))), (10, (.d (.int .i64))), (11, (.d (.int .i64))), (66, (.d .bool))], fun k h => mastref2_tokensIn.l4 k h.1 h.2.1 h.2.2.1 h.2.2.2.1 h.2.2.2.2.1 h.2.2.2.2.2.1 h.2.2.2.2.2.2.1 h.2.2.2.2.2.2.2.1⟩, ⟨5, [(0, (.d .str)), (1, (.d .bool)), (7, (.row 47 (.st 3))), (8, (.d (.int .i64))), (9, (.d (.int .i64))), (10, (.d (.int .i64))), (11, (.d (.int .i64)))], fun k h => mastref2_tokensIn.l5 k h.1 h.2.1 h.2.2.1 h.2.2.2.1 h.2.2.2.2.1 h.2.2.2.2.2.1 h.2.2.2.2.2.2.1⟩, ⟨6, [(0, (.d .str)), (1, (.d .bool)), (7, (.row 47 (.st 3))), (8, (.d (.int .i64))), (9, (.d (.int .i64))), (10, (.d (.int .i64))), (11, (.d (.int .i64)))], fun k h => mastref2_tokensIn.l6 k h.1 h.2.1 h.2.2.1 h.2.2.2.1 h.2.2.2.2.1 h.2.2.2.2.2.1 h.2.2.2.2.2.2.1⟩, ⟨7, [(0, (.d .str)), (1, (.d .bool)), (7, (.row 47 (.st 3))), (8, (.d (.int .i64))), (9, (.d (.int .i64))), (11, (.d (.int .i64))), (13, (.d .str))], fun k h => mastref2_tokensIn.l7 k h.1 h.2.1 h.2.2.1 h.2.2.2.1 h.2.2.2.2.1 h.2.2.2.2.2.1 h.2.2.2.2.2.2.1⟩]
theorem mastref2_tokensIn.ok (k : Nat) : (mastref2_tokensIn.e k).Sound Try.prog ctx 45 :=
  entry_ok base_ok mo (fn := Try.f45) (b := (Try.f45.body.getD .skip)) (pm := [(.d .str), (.d .bool)]) (rs := [(.sl (.st 3)), (.int .i64), (.int .i64)]) (an := mastref2_tokensIn.a) (N := 144) (vars := [(.tmp 4), (.tmp 5), (.tmp 6)]) Try.func45 (by kernel_rfl) (by kernel_rfl) (by kernel_rfl) (by kernel_rfl) (by kernel_rfl) (by kernel_rfl) (O := mastref2_tokensIn.O)
    (fun k => by unfold mastref2_tokensIn.O; exact oracle_of (P := Try.prog) (C := ctx) ⟨(mastref2_refusedByte.ok k), ⟨(mastref2_commentEnd.ok k), ⟨(mastref2_fault7.ok), ⟨(mastref2_stringEnd.ok k), ⟨(mastref2_isWord7.ok), trivial⟩⟩⟩⟩⟩) mastref2_tokensIn.T ⟨⟨by kernel_rfl, fun _ => by first | rfl | rw [mastref2_tokensIn.l0], fun k h => mastref2_tokensIn.l0_eq k h.1 h.2.1 h.2.2.1 h.2.2.2.1 h.2.2.2.2.1⟩, ⟨⟨by kernel_rfl, fun _ => by first | rfl | rw [mastref2_tokensIn.l1], fun k h => mastref2_tokensIn.l1_eq k h.1 h.2.1 h.2.2.1 h.2.2.2.1 h.2.2.2.2.1 h.2.2.2.2.2.1 h.2.2.2.2.2.2.1 h.2.2.2.2.2.2.2.1⟩, ⟨⟨by kernel_rfl, fun _ => by first | rfl | rw [mastref2_tokensIn.l2], fun k h => mastref2_tokensIn.l2_eq k h.1 h.2.1 h.2.2.1 h.2.2.2.1 h.2.2.2.2.1 h.2.2.2.2.2.1 h.2.2.2.2.2.2.1⟩, ⟨⟨by kernel_rfl, fun _ => by first | rfl | rw [mastref2_tokensIn.l3], fun k h => mastref2_tokensIn.l3_eq k h.1 h.2.1 h.2.2.1 h.2.2.2.1 h.2.2.2.2.1 h.2.2.2.2.2.1 h.2.2.2.2.2.2.1⟩, ⟨⟨by kernel_rfl, fun _ => by first | rfl | rw [mastref2_tokensIn.l4], fun k h => mastref2_tokensIn.l4_eq k h.1 h.2.1 h.2.2.1 h.2.2.2.1 h.2.2.2.2.1 h.2.2.2.2.2.1 h.2.2.2.2.2.2.1 h.2.2.2.2.2.2.2.1⟩, ⟨⟨by kernel_rfl, fun _ => by first | rfl | rw [mastref2_tokensIn.l5], fun k h => mastref2_tokensIn.l5_eq k h.1 h.2.1 h.2.2.1 h.2.2.2.1 h.2.2.2.2.1 h.2.2.2.2.2.1 h.2.2.2.2.2.2.1⟩, ⟨⟨by kernel_rfl, fun _ => by first | rfl | rw [mastref2_tokensIn.l6], fun k h => mastref2_tokensIn.l6_eq k h.1 h.2.1 h.2.2.1 h.2.2.2.1 h.2.2.2.2.1 h.2.2.2.2.2.1 h.2.2.2.2.2.2.1⟩, ⟨⟨by kernel_rfl, fun _ => by first | rfl | rw [mastref2_tokensIn.l7], fun k h => mastref2_tokensIn.l7_eq k h.1 h.2.1 h.2.2.1 h.2.2.2.1 h.2.2.2.2.1 h.2.2.2.2.2.1 h.2.2.2.2.2.2.1⟩, trivial⟩⟩⟩⟩⟩⟩⟩⟩ k (fun h => mastref2_tokensIn.f_eq k h.1 h.2.1)
def mastref2_TokensOf.f (k : Nat) (a0 : ByteArray) (a1 : Bool) : Option ((List T_asset_Token) × Int × Int) := (bif (ilt 20000 (slen a0)) then (some ([], 0, 4)) else ((mastref2_tokensIn.f k a0 a1).bind fun y1 => (some (y1.1, y1.2.1, y1.2.2))))
def mastref2_TokensOf.O (k : Nat) : Oracle sg := fun n => lkp n [(45, mastref2_tokensIn.e k)]
def mastref2_TokensOf.a : Ann := .z
def mastref2_TokensOf.L (k : Nat) : Nat → St sg.U → Option (RT sg.U [(.sl (.st 3)), (.int .i64), (.int .i64)]) := labs []
theorem mastref2_TokensOf.f_eq (k : Nat) (a0 : ByteArray) (a1 : Bool) : mastref2_TokensOf.f k a0 a1 = codeK (C := ctx) (mastref2_TokensOf.O k) ⟨16, [], []⟩ (mastref2_TokensOf.L k) (Try.f15.body.getD .skip) mastref2_TokensOf.a (endK ctx [(.sl (.st 3)), (.int .i64), (.int .i64)] [(.tmp 4), (.tmp 5), (.tmp 6)]) (slotsOf sg.U 0 [(.d .str), (.d .bool)] (a0, a1, ()) (empty sg.U)) := by
  unfold mastref2_TokensOf.f
  kernel_rfl
def mastref2_TokensOf.e (k : Nat) : Entry sg := entryOf sg [(.d .str), (.d .bool)] [(.sl (.st 3)), (.int .i64), (.int .i64)] (fun h => mastref2_TokensOf.f k h.1 h.2.1)
def mastref2_TokensOf.T : List (Lb sg (RT sg.U [(.sl (.st 3)), (.int .i64), (.int .i64)])) := []
theorem mastref2_TokensOf.ok (k : Nat) : (mastref2_TokensOf.e k).Sound Try.prog ctx 15 :=
  entry_ok base_ok mo (fn := Try.f15) (b := (Try.f15.body.getD .skip)) (pm := [(.d .str), (.d .bool)]) (rs := [(.sl (.st 3)), (.int .i64), (.int .i64)]) (an := mastref2_TokensOf.a) (N := 16) (vars := [(.tmp 4), (.tmp 5), (.tmp 6)]) Try.func15 (by kernel_rfl) (by kernel_rfl) (by kernel_rfl) (by kernel_rfl) (by kernel_rfl) (by kernel_rfl) (O := mastref2_TokensOf.O)
    (fun k => by unfold mastref2_TokensOf.O; exact oracle_of (P := Try.prog) (C := ctx) ⟨(mastref2_tokensIn.ok k), trivial⟩) mastref2_TokensOf.T trivial k (fun h => mastref2_TokensOf.f_eq k h.1 h.2.1)
mutual
def mastref2_tokenPositions.l0 : Nat → ByteArray → (List Int) → Int → (List T_asset_Token) → Int → Int → Option ((List Int))
  | 0, _, _, _, _, _, _ => none
  | k + 1, x0, x5, x6, x10, x11, x12 => (bif (ilt x12 x11) then ((lat x10 x12).bind fun y1 => ((lapp 8 x5 [x6]).bind fun y2 => (bif (!ieq y1.fKind 4) then (mastref2_tokenPositions.l0 k x0 y2 (wadd .i64 x6 (slen y1.fText)) x10 x11 (wadd .i64 x12 1)) else (mastref2_tokenPositions.l1 k x0 y2 x6 x10 x11 x12)))) else (some x5))
def mastref2_tokenPositions.l1 : Nat → ByteArray → (List Int) → Int → (List T_asset_Token) → Int → Int → Option ((List Int))
  | 0, _, _, _, _, _, _ => none
  | k + 1, x0, x5, x6, x10, x11, x12 => (bif (ilt x6 (slen x0)) then ((mastref2_commentEnd.f k x0 x6 false).bind fun y3 => (bif (ilt 0 y3) then (mastref2_tokenPositions.l1 k x0 x5 y3 x10 x11 x12) else ((sat x0 x6).bind fun y4 => (bif (ieq y4 32) then (mastref2_tokenPositions.l2 k x0 x5 x6 x10 x11 x12 true) else ((sat x0 x6).bind fun y5 => (bif (ieq y5 9) then (mastref2_tokenPositions.l2 k x0 x5 x6 x10 x11 x12 true) else ((sat x0 x6).bind fun y6 => (mastref2_tokenPositions.l2 k x0 x5 x6 x10 x11 x12 (ieq y6 10))))))))) else (mastref2_tokenPositions.l0 k x0 x5 x6 x10 x11 (wadd .i64 x12 1)))
def mastref2_tokenPositions.l2 : Nat → ByteArray → (List Int) → Int → (List T_asset_Token) → Int → Int → Bool → Option ((List Int))
  | 0, _, _, _, _, _, _, _ => none
  | k + 1, x0, x5, x6, x10, x11, x12, x53 => (bif x53 then (mastref2_tokenPositions.l1 k x0 x5 (wadd .i64 x6 1) x10 x11 x12) else (mastref2_tokenPositions.l0 k x0 x5 x6 x10 x11 (wadd .i64 x12 1)))
end
def mastref2_tokenPositions.f (k : Nat) (a0 : ByteArray) (a1 : (List T_asset_Token)) : Option ((List Int)) := (mastref2_tokenPositions.l0 k a0 [] 0 a1 (llen a1) 0)
def mastref2_tokenPositions.O (k : Nat) : Oracle sg := fun n => lkp n [(87, mastref2_commentEnd.e k)]
def mastref2_tokenPositions.a : Ann := (.n .z (.n .z (.n .z (.n (.n .z (.lp 0 (.n .z (.n .z (.n (.n .z (.n .z (.n .z (.lp 1 (.n .z (.n .z (.n .z (.n .z (.n .z (.lab 2 .z)))))))))) .z))))) .z))))
def mastref2_tokenPositions.L (k : Nat) : Nat → St sg.U → Option (RT sg.U [(.sl (.int .i64))]) := labs [(0, labOf sg [(0, (.d .str)), (5, (.row 3 (.int .i64))), (6, (.d (.int .i64))), (10, (.d (.sl (.st 3)))), (11, (.d (.int .i64))), (12, (.d (.int .i64)))] (fun h => mastref2_tokenPositions.l0 k h.1 h.2.1 h.2.2.1 h.2.2.2.1 h.2.2.2.2.1 h.2.2.2.2.2.1)), (1, labOf sg [(0, (.d .str)), (5, (.row 3 (.int .i64))), (6, (.d (.int .i64))), (10, (.d (.sl (.st 3)))), (11, (.d (.int .i64))), (12, (.d (.int .i64)))] (fun h => mastref2_tokenPositions.l1 k h.1 h.2.1 h.2.2.1 h.2.2.2.1 h.2.2.2.2.1 h.2.2.2.2.2.1)), (2, labOf sg [(0, (.d .str)), (5, (.row 3 (.int .i64))), (6, (.d (.int .i64))), (10, (.d (.sl (.st 3)))), (11, (.d (.int .i64))), (12, (.d (.int .i64))), (53, (.d .bool))] (fun h => mastref2_tokenPositions.l2 k h.1 h.2.1 h.2.2.1 h.2.2.2.1 h.2.2.2.2.1 h.2.2.2.2.2.1 h.2.2.2.2.2.2.1))]
theorem mastref2_tokenPositions.l0_eq (k : Nat) (x0 : ByteArray) (x5 : (List Int)) (x6 : Int) (x10 : (List T_asset_Token)) (x11 : Int) (x12 : Int) : mastref2_tokenPositions.l0 (k + 1) x0 x5 x6 x10 x11 x12 = runFrom (C := ctx) (mastref2_tokenPositions.O k) ⟨58, [], []⟩ (mastref2_tokenPositions.L k) (Try.f47.body.getD .skip) mastref2_tokenPositions.a 0 (endK ctx [(.sl (.int .i64))] [(.tmp 4)]) (encD [(0, (.d .str)), (5, (.row 3 (.int .i64))), (6, (.d (.int .i64))), (10, (.d (.sl (.st 3)))), (11, (.d (.int .i64))), (12, (.d (.int .i64)))] (x0, x5, x6, x10, x11, x12, ()) (startD sg.U ⟨58, [], []⟩ [(0, (.d .str)), (5, (.row 3 (.int .i64))), (6, (.d (.int .i64))), (10, (.d (.sl (.st 3)))), (11, (.d (.int .i64))), (12, (.d (.int .i64)))])) := by
  rw [mastref2_tokenPositions.l0]
  kernel_rfl
theorem mastref2_tokenPositions.l1_eq (k : Nat) (x0 : ByteArray) (x5 : (List Int)) (x6 : Int) (x10 : (List T_asset_Token)) (x11 : Int) (x12 : Int) : mastref2_tokenPositions.l1 (k + 1) x0 x5 x6 x10 x11 x12 = runFrom (C := ctx) (mastref2_tokenPositions.O k) ⟨58, [], []⟩ (mastref2_tokenPositions.L k) (Try.f47.body.getD .skip) mastref2_tokenPositions.a 1 (endK ctx [(.sl (.int .i64))] [(.tmp 4)]) (encD [(0, (.d .str)), (5, (.row 3 (.int .i64))), (6, (.d (.int .i64))), (10, (.d (.sl (.st 3)))), (11, (.d (.int .i64))), (12, (.d (.int .i64)))] (x0, x5, x6, x10, x11, x12, ()) (startD sg.U ⟨58, [], []⟩ [(0, (.d .str)), (5, (.row 3 (.int .i64))), (6, (.d (.int .i64))), (10, (.d (.sl (.st 3)))), (11, (.d (.int .i64))), (12, (.d (.int .i64)))])) := by
  rw [mastref2_tokenPositions.l1]
  kernel_rfl
theorem mastref2_tokenPositions.l2_eq (k : Nat) (x0 : ByteArray) (x5 : (List Int)) (x6 : Int) (x10 : (List T_asset_Token)) (x11 : Int) (x12 : Int) (x53 : Bool) : mastref2_tokenPositions.l2 (k + 1) x0 x5 x6 x10 x11 x12 x53 = runFrom (C := ctx) (mastref2_tokenPositions.O k) ⟨58, [], []⟩ (mastref2_tokenPositions.L k) (Try.f47.body.getD .skip) mastref2_tokenPositions.a 2 (endK ctx [(.sl (.int .i64))] [(.tmp 4)]) (encD [(0, (.d .str)), (5, (.row 3 (.int .i64))), (6, (.d (.int .i64))), (10, (.d (.sl (.st 3)))), (11, (.d (.int .i64))), (12, (.d (.int .i64))), (53, (.d .bool))] (x0, x5, x6, x10, x11, x12, x53, ()) (startD sg.U ⟨58, [], []⟩ [(0, (.d .str)), (5, (.row 3 (.int .i64))), (6, (.d (.int .i64))), (10, (.d (.sl (.st 3)))), (11, (.d (.int .i64))), (12, (.d (.int .i64))), (53, (.d .bool))])) := by
  rw [mastref2_tokenPositions.l2]
  kernel_rfl
theorem mastref2_tokenPositions.f_eq (k : Nat) (a0 : ByteArray) (a1 : (List T_asset_Token)) : mastref2_tokenPositions.f k a0 a1 = codeK (C := ctx) (mastref2_tokenPositions.O k) ⟨58, [], []⟩ (mastref2_tokenPositions.L k) (Try.f47.body.getD .skip) mastref2_tokenPositions.a (endK ctx [(.sl (.int .i64))] [(.tmp 4)]) (slotsOf sg.U 0 [(.d .str), (.d (.sl (.st 3)))] (a0, a1, ()) (empty sg.U)) := by
  unfold mastref2_tokenPositions.f
  kernel_rfl
def mastref2_tokenPositions.e (k : Nat) : Entry sg := entryOf sg [(.d .str), (.d (.sl (.st 3)))] [(.sl (.int .i64))] (fun h => mastref2_tokenPositions.f k h.1 h.2.1)
def mastref2_tokenPositions.T : List (Lb sg (RT sg.U [(.sl (.int .i64))])) := [⟨0, [(0, (.d .str)), (5, (.row 3 (.int .i64))), (6, (.d (.int .i64))), (10, (.d (.sl (.st 3)))), (11, (.d (.int .i64))), (12, (.d (.int .i64)))], fun k h => mastref2_tokenPositions.l0 k h.1 h.2.1 h.2.2.1 h.2.2.2.1 h.2.2.2.2.1 h.2.2.2.2.2.1⟩, ⟨1, [(0, (.d .str)), (5, (.row 3 (.int .i64))), (6, (.d (.int .i64))), (10, (.d (.sl (.st 3)))), (11, (.d (.int .i64))), (12, (.d (.int .i64)))], fun k h => mastref2_tokenPositions.l1 k h.1 h.2.1 h.2.2.1 h.2.2.2.1 h.2.2.2.2.1 h.2.2.2.2.2.1⟩, ⟨2, [(0, (.d .str)), (5, (.row 3 (.int .i64))), (6, (.d (.int .i64))), (10, (.d (.sl (.st 3)))), (11, (.d (.int .i64))), (12, (.d (.int .i64))), (53, (.d .bool))], fun k h => mastref2_tokenPositions.l2 k h.1 h.2.1 h.2.2.1 h.2.2.2.1 h.2.2.2.2.1 h.2.2.2.2.2.1 h.2.2.2.2.2.2.1⟩]
theorem mastref2_tokenPositions.ok (k : Nat) : (mastref2_tokenPositions.e k).Sound Try.prog ctx 47 :=
  entry_ok base_ok mo (fn := Try.f47) (b := (Try.f47.body.getD .skip)) (pm := [(.d .str), (.d (.sl (.st 3)))]) (rs := [(.sl (.int .i64))]) (an := mastref2_tokenPositions.a) (N := 58) (vars := [(.tmp 4)]) Try.func47 (by kernel_rfl) (by kernel_rfl) (by kernel_rfl) (by kernel_rfl) (by kernel_rfl) (by kernel_rfl) (O := mastref2_tokenPositions.O)
    (fun k => by unfold mastref2_tokenPositions.O; exact oracle_of (P := Try.prog) (C := ctx) ⟨(mastref2_commentEnd.ok k), trivial⟩) mastref2_tokenPositions.T ⟨⟨by kernel_rfl, fun _ => by first | rfl | rw [mastref2_tokenPositions.l0], fun k h => mastref2_tokenPositions.l0_eq k h.1 h.2.1 h.2.2.1 h.2.2.2.1 h.2.2.2.2.1 h.2.2.2.2.2.1⟩, ⟨⟨by kernel_rfl, fun _ => by first | rfl | rw [mastref2_tokenPositions.l1], fun k h => mastref2_tokenPositions.l1_eq k h.1 h.2.1 h.2.2.1 h.2.2.2.1 h.2.2.2.2.1 h.2.2.2.2.2.1⟩, ⟨⟨by kernel_rfl, fun _ => by first | rfl | rw [mastref2_tokenPositions.l2], fun k h => mastref2_tokenPositions.l2_eq k h.1 h.2.1 h.2.2.1 h.2.2.2.1 h.2.2.2.2.1 h.2.2.2.2.2.1 h.2.2.2.2.2.2.1⟩, trivial⟩⟩⟩ k (fun h => mastref2_tokenPositions.f_eq k h.1 h.2.1)
def mastref2_isMark.f (a0 : T_asset_Token) (a1 : ByteArray) : Option (Bool) := (bif (bif (ieq a0.fKind 3) then (ieq (slen a0.fText) 1) else false) then ((strings_Contains.f a1 a0.fText).bind fun y1 => (some y1)) else (some false))
def mastref2_isMark.O : Oracle sg := fun n => lkp n [(92, strings_Contains.e)]
def mastref2_isMark.a : Ann := .z
def mastref2_isMark.L : Nat → St sg.U → Option (RT sg.U [.bool]) := labs []
theorem mastref2_isMark.f_eq (a0 : T_asset_Token) (a1 : ByteArray) : mastref2_isMark.f a0 a1 = codeK (C := ctx) (mastref2_isMark.O) ⟨20, [], []⟩ (mastref2_isMark.L) (Try.f48.body.getD .skip) mastref2_isMark.a (endK ctx [.bool] [(.tmp 4)]) (slotsOf sg.U 0 [(.d (.st 3)), (.d .str)] (a0, a1, ()) (empty sg.U)) := by
  unfold mastref2_isMark.f
  kernel_rfl
def mastref2_isMark.e : Entry sg := entryOf sg [(.d (.st 3)), (.d .str)] [.bool] (fun h => mastref2_isMark.f h.1 h.2.1)
def mastref2_isMark.T : List (Lb sg (RT sg.U [.bool])) := []
theorem mastref2_isMark.ok : (mastref2_isMark.e).Sound Try.prog ctx 48 :=
  entry_ok base_ok mo (fn := Try.f48) (b := (Try.f48.body.getD .skip)) (pm := [(.d (.st 3)), (.d .str)]) (rs := [.bool]) (an := mastref2_isMark.a) (N := 20) (vars := [(.tmp 4)]) Try.func48 (by kernel_rfl) (by kernel_rfl) (by kernel_rfl) (by kernel_rfl) (by kernel_rfl) (by kernel_rfl) (O := fun _ => mastref2_isMark.O)
    (fun _ => by unfold mastref2_isMark.O; exact oracle_of (P := Try.prog) (C := ctx) ⟨(strings_Contains.ok), trivial⟩) mastref2_isMark.T trivial 0 (fun h => mastref2_isMark.f_eq h.1 h.2.1)
mutual
def mastref2_LinksOf.l0 : Nat → (List T_asset_Token) → (List T_asset_Link) → (List Int) → Int → Option ((List T_asset_Link) × Int × Int)
  | 0, _, _, _, _ => none
  | k + 1, x5, x8, x9, x10 => (bif (ilt (wadd .i64 x10 1) (llen x5)) then ((lat x5 x10).bind fun y3 => (bif (ieq y3.fKind 2) then ((lat x5 (wsub .i64 x10 1)).bind fun y4 => ((mastref2_isMark.f y4 c__28).bind fun y5 => (bif y5 then ((lat x5 (wsub .i64 x10 2)).bind fun y6 => (bif (ieq y6.fKind 1) then ((lat x5 (wsub .i64 x10 2)).bind fun y7 => (bif (seq y7.fText c_url) then ((lat x5 (wadd .i64 x10 1)).bind fun y8 => ((mastref2_isMark.f y8 c__29).bind fun y9 => (mastref2_LinksOf.l1 k x5 x8 x9 x10 y9))) else (mastref2_LinksOf.l1 k x5 x8 x9 x10 false))) else (mastref2_LinksOf.l1 k x5 x8 x9 x10 false))) else (mastref2_LinksOf.l1 k x5 x8 x9 x10 false)))) else (mastref2_LinksOf.l1 k x5 x8 x9 x10 false))) else (some (x8, 0, 0)))
def mastref2_LinksOf.l1 : Nat → (List T_asset_Token) → (List T_asset_Link) → (List Int) → Int → Bool → Option ((List T_asset_Link) × Int × Int)
  | 0, _, _, _, _, _ => none
  | k + 1, x5, x8, x9, x10, x70 => (bif x70 then ((lat x9 x10).bind fun y10 => ((lat x9 x10).bind fun y11 => ((lat x5 x10).bind fun y12 => ((lat x5 x10).bind fun y13 => ((lat x5 x10).bind fun y14 => ((ssub y13.fText 1 (wsub .i64 (slen y14.fText) 1)).bind fun y15 => ((lapp 32 x8 [(T_asset_Link.mk (wadd .i64 y10 1) (wsub .i64 (wadd .i64 y11 (slen y12.fText)) 1) y15)]).bind fun y16 => (mastref2_LinksOf.l0 k x5 y16 x9 (wadd .i64 x10 1))))))))) else (mastref2_LinksOf.l0 k x5 x8 x9 (wadd .i64 x10 1)))
end
def mastref2_LinksOf.f (k : Nat) (a0 : ByteArray) : Option ((List T_asset_Link) × Int × Int) := ((mastref2_TokensOf.f k a0 false).bind fun y1 => (bif (!ieq y1.2.2 0) then (some ([], y1.2.1, y1.2.2)) else ((mastref2_tokenPositions.f k a0 y1.1).bind fun y2 => (mastref2_LinksOf.l0 k y1.1 [] y2 2))))
def mastref2_LinksOf.O (k : Nat) : Oracle sg := fun n => lkp n [(15, mastref2_TokensOf.e k), (47, mastref2_tokenPositions.e k), (48, mastref2_isMark.e)]
def mastref2_LinksOf.a : Ann := (.n .z (.n .z (.n .z (.n .z (.n .z (.n (.n .z (.lp 0 (.n .z (.n (.n .z (.lab 1 .z)) .z)))) .z))))))
def mastref2_LinksOf.L (k : Nat) : Nat → St sg.U → Option (RT sg.U [(.sl (.st 1)), (.int .i64), (.int .i64)]) := labs [(0, labOf sg [(5, (.d (.sl (.st 3)))), (8, (.row 116 (.st 1))), (9, (.d (.sl (.int .i64)))), (10, (.d (.int .i64)))] (fun h => mastref2_LinksOf.l0 k h.1 h.2.1 h.2.2.1 h.2.2.2.1)), (1, labOf sg [(5, (.d (.sl (.st 3)))), (8, (.row 116 (.st 1))), (9, (.d (.sl (.int .i64)))), (10, (.d (.int .i64))), (70, (.d .bool))] (fun h => mastref2_LinksOf.l1 k h.1 h.2.1 h.2.2.1 h.2.2.2.1 h.2.2.2.2.1))]
theorem mastref2_LinksOf.l0_eq (k : Nat) (x5 : (List T_asset_Token)) (x8 : (List T_asset_Link)) (x9 : (List Int)) (x10 : Int) : mastref2_LinksOf.l0 (k + 1) x5 x8 x9 x10 = runFrom (C := ctx) (mastref2_LinksOf.O k) ⟨106, [], []⟩ (mastref2_LinksOf.L k) (Try.f17.body.getD .skip) mastref2_LinksOf.a 0 (endK ctx [(.sl (.st 1)), (.int .i64), (.int .i64)] [(.tmp 2), (.tmp 3), (.tmp 4)]) (encD [(5, (.d (.sl (.st 3)))), (8, (.row 116 (.st 1))), (9, (.d (.sl (.int .i64)))), (10, (.d (.int .i64)))] (x5, x8, x9, x10, ()) (startD sg.U ⟨106, [], []⟩ [(5, (.d (.sl (.st 3)))), (8, (.row 116 (.st 1))), (9, (.d (.sl (.int .i64)))), (10, (.d (.int .i64)))])) := by
  rw [mastref2_LinksOf.l0]
  kernel_rfl
theorem mastref2_LinksOf.l1_eq (k : Nat) (x5 : (List T_asset_Token)) (x8 : (List T_asset_Link)) (x9 : (List Int)) (x10 : Int) (x70 : Bool) : mastref2_LinksOf.l1 (k + 1) x5 x8 x9 x10 x70 = runFrom (C := ctx) (mastref2_LinksOf.O k) ⟨106, [], []⟩ (mastref2_LinksOf.L k) (Try.f17.body.getD .skip) mastref2_LinksOf.a 1 (endK ctx [(.sl (.st 1)), (.int .i64), (.int .i64)] [(.tmp 2), (.tmp 3), (.tmp 4)]) (encD [(5, (.d (.sl (.st 3)))), (8, (.row 116 (.st 1))), (9, (.d (.sl (.int .i64)))), (10, (.d (.int .i64))), (70, (.d .bool))] (x5, x8, x9, x10, x70, ()) (startD sg.U ⟨106, [], []⟩ [(5, (.d (.sl (.st 3)))), (8, (.row 116 (.st 1))), (9, (.d (.sl (.int .i64)))), (10, (.d (.int .i64))), (70, (.d .bool))])) := by
  rw [mastref2_LinksOf.l1]
  kernel_rfl
theorem mastref2_LinksOf.f_eq (k : Nat) (a0 : ByteArray) : mastref2_LinksOf.f k a0 = codeK (C := ctx) (mastref2_LinksOf.O k) ⟨106, [], []⟩ (mastref2_LinksOf.L k) (Try.f17.body.getD .skip) mastref2_LinksOf.a (endK ctx [(.sl (.st 1)), (.int .i64), (.int .i64)] [(.tmp 2), (.tmp 3), (.tmp 4)]) (slotsOf sg.U 0 [(.d .str)] (a0, ()) (empty sg.U)) := by
  unfold mastref2_LinksOf.f
  kernel_rfl
def mastref2_LinksOf.e (k : Nat) : Entry sg := entryOf sg [(.d .str)] [(.sl (.st 1)), (.int .i64), (.int .i64)] (fun h => mastref2_LinksOf.f k h.1)
def mastref2_LinksOf.T : List (Lb sg (RT sg.U [(.sl (.st 1)), (.int .i64), (.int .i64)])) := [⟨0, [(5, (.d (.sl (.st 3)))), (8, (.row 116 (.st 1))), (9, (.d (.sl (.int .i64)))), (10, (.d (.int .i64)))], fun k h => mastref2_LinksOf.l0 k h.1 h.2.1 h.2.2.1 h.2.2.2.1⟩, ⟨1, [(5, (.d (.sl (.st 3)))), (8, (.row 116 (.st 1))), (9, (.d (.sl (.int .i64)))), (10, (.d (.int .i64))), (70, (.d .bool))], fun k h => mastref2_LinksOf.l1 k h.1 h.2.1 h.2.2.1 h.2.2.2.1 h.2.2.2.2.1⟩]
theorem mastref2_LinksOf.ok (k : Nat) : (mastref2_LinksOf.e k).Sound Try.prog ctx 17 :=
  entry_ok base_ok mo (fn := Try.f17) (b := (Try.f17.body.getD .skip)) (pm := [(.d .str)]) (rs := [(.sl (.st 1)), (.int .i64), (.int .i64)]) (an := mastref2_LinksOf.a) (N := 106) (vars := [(.tmp 2), (.tmp 3), (.tmp 4)]) Try.func17 (by kernel_rfl) (by kernel_rfl) (by kernel_rfl) (by kernel_rfl) (by kernel_rfl) (by kernel_rfl) (O := mastref2_LinksOf.O)
    (fun k => by unfold mastref2_LinksOf.O; exact oracle_of (P := Try.prog) (C := ctx) ⟨(mastref2_TokensOf.ok k), ⟨(mastref2_tokenPositions.ok k), ⟨(mastref2_isMark.ok), trivial⟩⟩⟩) mastref2_LinksOf.T ⟨⟨by kernel_rfl, fun _ => by first | rfl | rw [mastref2_LinksOf.l0], fun k h => mastref2_LinksOf.l0_eq k h.1 h.2.1 h.2.2.1 h.2.2.2.1⟩, ⟨⟨by kernel_rfl, fun _ => by first | rfl | rw [mastref2_LinksOf.l1], fun k h => mastref2_LinksOf.l1_eq k h.1 h.2.1 h.2.2.1 h.2.2.2.1 h.2.2.2.2.1⟩, trivial⟩⟩ k (fun h => mastref2_LinksOf.f_eq k h.1)
def mastref2_RelinkOf_c2.l0 : Nat → ByteArray → (List T_asset_Name) → (List T_asset_Name) → Int → Int → Option ((ByteArray × Bool) × (List T_asset_Name) × Unit)
  | 0, _, _, _, _, _ => none
  | k + 1, x0, x1_0, x7, x8, x9 => (bif (ilt x9 x8) then ((lat x7 x9).bind fun y1 => (bif (seq y1.fPath x0) then (some ((y1.fName, true), (x1_0, ()))) else (mastref2_RelinkOf_c2.l0 k x0 x1_0 x7 x8 (wadd .i64 x9 1)))) else (some ((c_empty, false), (x1_0, ()))))
def mastref2_RelinkOf_c2.f (k : Nat) (a0 : ByteArray) (a1_0 : (List T_asset_Name)) : Option ((ByteArray × Bool) × (List T_asset_Name) × Unit) := (mastref2_RelinkOf_c2.l0 k a0 a1_0 a1_0 (llen a1_0) 0)
def mastref2_RelinkOf_c2.O (k : Nat) : Oracle sg := fun n => lkp n []
def mastref2_RelinkOf_c2.a : Ann := (.n .z (.n (.n .z (.lp 0 .z)) .z))
def mastref2_RelinkOf_c2.L (k : Nat) : Nat → St sg.U → Option (RT sg.U [.str, .bool] × HL sg.U (PM.outs [(.d .str), (.ref [.d (.sl (.st 0))])])) := labs [(0, labOf sg [(0, (.d .str)), (1, (.box [.d (.sl (.st 0))])), (7, (.d (.sl (.st 0)))), (8, (.d (.int .i64))), (9, (.d (.int .i64)))] (fun h => mastref2_RelinkOf_c2.l0 k h.1 h.2.1 h.2.2.1 h.2.2.2.1 h.2.2.2.2.1))]
theorem mastref2_RelinkOf_c2.l0_eq (k : Nat) (x0 : ByteArray) (x1_0 : (List T_asset_Name)) (x7 : (List T_asset_Name)) (x8 : Int) (x9 : Int) : mastref2_RelinkOf_c2.l0 (k + 1) x0 x1_0 x7 x8 x9 = runFrom (C := ctx) (mastref2_RelinkOf_c2.O k) ⟨20, [1], []⟩ (mastref2_RelinkOf_c2.L k) (Try.f56.body.getD .skip) mastref2_RelinkOf_c2.a 0 (endR ctx [.str, .bool] [(.tmp 3), (.tmp 4)] [(.d .str), (.ref [.d (.sl (.st 0))])]) (encD [(0, (.d .str)), (1, (.box [.d (.sl (.st 0))])), (7, (.d (.sl (.st 0)))), (8, (.d (.int .i64))), (9, (.d (.int .i64)))] (x0, x1_0, x7, x8, x9, ()) (startD sg.U ⟨20, [1], []⟩ [(0, (.d .str)), (1, (.box [.d (.sl (.st 0))])), (7, (.d (.sl (.st 0)))), (8, (.d (.int .i64))), (9, (.d (.int .i64)))])) := by
  rw [mastref2_RelinkOf_c2.l0]
  kernel_rfl
theorem mastref2_RelinkOf_c2.f_eq (k : Nat) (a0 : ByteArray) (a1_0 : (List T_asset_Name)) : mastref2_RelinkOf_c2.f k a0 a1_0 = codeK (C := ctx) (mastref2_RelinkOf_c2.O k) ⟨20, [1], []⟩ (mastref2_RelinkOf_c2.L k) (Try.f56.body.getD .skip) mastref2_RelinkOf_c2.a (endR ctx [.str, .bool] [(.tmp 3), (.tmp 4)] [(.d .str), (.ref [.d (.sl (.st 0))])]) (slotsOf sg.U 0 [(.d .str), (.ref [.d (.sl (.st 0))])] (a0, a1_0, ()) (emptyG sg.U (PM.gs [(.d .str), (.ref [.d (.sl (.st 0))])]))) := by
  unfold mastref2_RelinkOf_c2.f
  kernel_rfl
def mastref2_RelinkOf_c2.e (k : Nat) : Entry sg := entryR sg [(.d .str), (.ref [.d (.sl (.st 0))])] [.str, .bool] (fun h => mastref2_RelinkOf_c2.f k h.1 h.2.1)
def mastref2_RelinkOf_c2.T : List (Lb sg (RT sg.U [.str, .bool] × HL sg.U (PM.outs [(.d .str), (.ref [.d (.sl (.st 0))])]))) := [⟨0, [(0, (.d .str)), (1, (.box [.d (.sl (.st 0))])), (7, (.d (.sl (.st 0)))), (8, (.d (.int .i64))), (9, (.d (.int .i64)))], fun k h => mastref2_RelinkOf_c2.l0 k h.1 h.2.1 h.2.2.1 h.2.2.2.1 h.2.2.2.2.1⟩]
theorem mastref2_RelinkOf_c2.ok (k : Nat) : (mastref2_RelinkOf_c2.e k).Sound Try.prog ctx 56 :=
  entryR_ok base_ok mo (fn := Try.f56) (b := (Try.f56.body.getD .skip)) (pm := [(.d .str), (.ref [.d (.sl (.st 0))])]) (rs := [.str, .bool]) (an := mastref2_RelinkOf_c2.a) (N := 20) (vars := [(.tmp 3), (.tmp 4)]) Try.func56 (by kernel_rfl) (by kernel_rfl) (by kernel_rfl) (by kernel_rfl) (by kernel_rfl) (by kernel_rfl) (by kernel_rfl) (by kernel_rfl) (O := mastref2_RelinkOf_c2.O)
    (fun k => by unfold mastref2_RelinkOf_c2.O; exact oracle_of (P := Try.prog) (C := ctx) trivial) mastref2_RelinkOf_c2.T ⟨⟨by kernel_rfl, fun _ => by first | rfl | rw [mastref2_RelinkOf_c2.l0], fun k h => mastref2_RelinkOf_c2.l0_eq k h.1 h.2.1 h.2.2.1 h.2.2.2.1 h.2.2.2.2.1⟩, trivial⟩ k (fun h => mastref2_RelinkOf_c2.f_eq k h.1 h.2.1)
def mastref2_relinked_at_mastref2_RelinkOf_c2.l0 : Nat → ByteArray → ByteArray → Int → (List T_asset_Link) → Int → Int → (List T_asset_Name) → Option (ByteArray × (List T_asset_Name) × Unit)
  | 0, _, _, _, _, _, _, _ => none
  | k + 1, x0, x8, x9, x20, x21, x22, x51_0 => (bif (ilt x22 x21) then ((lat x20 x22).bind fun y2 => ((mastref2_RelinkOf_c2.f k y2.fPath x51_0).bind fun y3 => (bif y3.1.2 then ((ssub x0 x9 y2.fFrom).bind fun y4 => ((scat y4 y3.1.1).bind fun y5 => ((scat x8 y5).bind fun y6 => (mastref2_relinked_at_mastref2_RelinkOf_c2.l0 k x0 y6 y2.fTo x20 x21 (wadd .i64 x22 1) y3.2.1)))) else (mastref2_relinked_at_mastref2_RelinkOf_c2.l0 k x0 x8 x9 x20 x21 (wadd .i64 x22 1) y3.2.1)))) else ((ssub x0 x9 (slen x0)).bind fun y7 => ((scat x8 y7).bind fun y8 => (some (y8, (x51_0, ()))))))
def mastref2_relinked_at_mastref2_RelinkOf_c2.f (k : Nat) (a0 : ByteArray) (a51_0 : (List T_asset_Name)) : Option (ByteArray × (List T_asset_Name) × Unit) := ((mastref2_LinksOf.f k a0).bind fun y1 => (mastref2_relinked_at_mastref2_RelinkOf_c2.l0 k a0 c_empty 0 y1.1 (llen y1.1) 0 a51_0))
def mastref2_relinked_at_mastref2_RelinkOf_c2.O (k : Nat) : Oracle sg := fun n => lkp n [(17, mastref2_LinksOf.e k), (56, mastref2_RelinkOf_c2.e k)]
def mastref2_relinked_at_mastref2_RelinkOf_c2.a : Ann := (.n .z (.n .z (.n .z (.n (.n .z (.lp 0 .z)) .z))))
def mastref2_relinked_at_mastref2_RelinkOf_c2.L (k : Nat) : Nat → St sg.U → Option (RT sg.U [.str] × HL sg.U (PM.outs [(.d .str), (.clo 56 [51]), (.gh 51 [.d (.sl (.st 0))])])) := labs [(0, labOf sg [(0, (.d .str)), (1, (.clo 56 [51])), (8, (.d .str)), (9, (.d (.int .i64))), (20, (.d (.sl (.st 1)))), (21, (.d (.int .i64))), (22, (.d (.int .i64))), (51, (.gh [.d (.sl (.st 0))]))] (fun h => mastref2_relinked_at_mastref2_RelinkOf_c2.l0 k h.1 h.2.1 h.2.2.1 h.2.2.2.1 h.2.2.2.2.1 h.2.2.2.2.2.1 h.2.2.2.2.2.2.1))]
theorem mastref2_relinked_at_mastref2_RelinkOf_c2.l0_eq (k : Nat) (x0 : ByteArray) (x8 : ByteArray) (x9 : Int) (x20 : (List T_asset_Link)) (x21 : Int) (x22 : Int) (x51_0 : (List T_asset_Name)) : mastref2_relinked_at_mastref2_RelinkOf_c2.l0 (k + 1) x0 x8 x9 x20 x21 x22 x51_0 = runFrom (C := ctx) (mastref2_relinked_at_mastref2_RelinkOf_c2.O k) ⟨51, [], [51]⟩ (mastref2_relinked_at_mastref2_RelinkOf_c2.L k) (Try.f55.body.getD .skip) mastref2_relinked_at_mastref2_RelinkOf_c2.a 0 (endR ctx [.str] [(.tmp 4)] [(.d .str), (.clo 56 [51]), (.gh 51 [.d (.sl (.st 0))])]) (encD [(0, (.d .str)), (1, (.clo 56 [51])), (8, (.d .str)), (9, (.d (.int .i64))), (20, (.d (.sl (.st 1)))), (21, (.d (.int .i64))), (22, (.d (.int .i64))), (51, (.gh [.d (.sl (.st 0))]))] (x0, x8, x9, x20, x21, x22, x51_0, ()) (startD sg.U ⟨51, [], [51]⟩ [(0, (.d .str)), (1, (.clo 56 [51])), (8, (.d .str)), (9, (.d (.int .i64))), (20, (.d (.sl (.st 1)))), (21, (.d (.int .i64))), (22, (.d (.int .i64))), (51, (.gh [.d (.sl (.st 0))]))])) := by
  rw [mastref2_relinked_at_mastref2_RelinkOf_c2.l0]
  kernel_rfl
theorem mastref2_relinked_at_mastref2_RelinkOf_c2.f_eq (k : Nat) (a0 : ByteArray) (a51_0 : (List T_asset_Name)) : mastref2_relinked_at_mastref2_RelinkOf_c2.f k a0 a51_0 = codeK (C := ctx) (mastref2_relinked_at_mastref2_RelinkOf_c2.O k) ⟨51, [], [51]⟩ (mastref2_relinked_at_mastref2_RelinkOf_c2.L k) (Try.f55.body.getD .skip) mastref2_relinked_at_mastref2_RelinkOf_c2.a (endR ctx [.str] [(.tmp 4)] [(.d .str), (.clo 56 [51]), (.gh 51 [.d (.sl (.st 0))])]) (slotsOf sg.U 0 [(.d .str), (.clo 56 [51]), (.gh 51 [.d (.sl (.st 0))])] (a0, a51_0, ()) (emptyG sg.U (PM.gs [(.d .str), (.clo 56 [51]), (.gh 51 [.d (.sl (.st 0))])]))) := by
  unfold mastref2_relinked_at_mastref2_RelinkOf_c2.f
  kernel_rfl
def mastref2_relinked_at_mastref2_RelinkOf_c2.e (k : Nat) : Entry sg := entryR sg [(.d .str), (.clo 56 [51]), (.gh 51 [.d (.sl (.st 0))])] [.str] (fun h => mastref2_relinked_at_mastref2_RelinkOf_c2.f k h.1 h.2.1)
def mastref2_relinked_at_mastref2_RelinkOf_c2.T : List (Lb sg (RT sg.U [.str] × HL sg.U (PM.outs [(.d .str), (.clo 56 [51]), (.gh 51 [.d (.sl (.st 0))])]))) := [⟨0, [(0, (.d .str)), (1, (.clo 56 [51])), (8, (.d .str)), (9, (.d (.int .i64))), (20, (.d (.sl (.st 1)))), (21, (.d (.int .i64))), (22, (.d (.int .i64))), (51, (.gh [.d (.sl (.st 0))]))], fun k h => mastref2_relinked_at_mastref2_RelinkOf_c2.l0 k h.1 h.2.1 h.2.2.1 h.2.2.2.1 h.2.2.2.2.1 h.2.2.2.2.2.1 h.2.2.2.2.2.2.1⟩]
theorem mastref2_relinked_at_mastref2_RelinkOf_c2.ok (k : Nat) : (mastref2_relinked_at_mastref2_RelinkOf_c2.e k).Sound Try.prog ctx 55 :=
  entryR_ok base_ok mo (fn := Try.f55) (b := (Try.f55.body.getD .skip)) (pm := [(.d .str), (.clo 56 [51]), (.gh 51 [.d (.sl (.st 0))])]) (rs := [.str]) (an := mastref2_relinked_at_mastref2_RelinkOf_c2.a) (N := 51) (vars := [(.tmp 4)]) Try.func55 (by kernel_rfl) (by kernel_rfl) (by kernel_rfl) (by kernel_rfl) (by kernel_rfl) (by kernel_rfl) (by kernel_rfl) (by kernel_rfl) (O := mastref2_relinked_at_mastref2_RelinkOf_c2.O)
    (fun k => by unfold mastref2_relinked_at_mastref2_RelinkOf_c2.O; exact oracle_of (P := Try.prog) (C := ctx) ⟨(mastref2_LinksOf.ok k), ⟨(mastref2_RelinkOf_c2.ok k), trivial⟩⟩) mastref2_relinked_at_mastref2_RelinkOf_c2.T ⟨⟨by kernel_rfl, fun _ => by first | rfl | rw [mastref2_relinked_at_mastref2_RelinkOf_c2.l0], fun k h => mastref2_relinked_at_mastref2_RelinkOf_c2.l0_eq k h.1 h.2.1 h.2.2.1 h.2.2.2.1 h.2.2.2.2.1 h.2.2.2.2.2.1 h.2.2.2.2.2.2.1⟩, trivial⟩ k (fun h => mastref2_relinked_at_mastref2_RelinkOf_c2.f_eq k h.1 h.2.1)
mutual
def mastref2_RelinkOf.l0 : Nat → ByteArray → (List T_asset_Name) → (List T_asset_Name) → Int → Int → Option (ByteArray × Int × Int)
  | 0, _, _, _, _, _ => none
  | k + 1, x0, x3_0, x21, x22, x23 => (bif (ilt x23 x22) then ((lat x21 x23).bind fun y1 => ((lsub x3_0 0 x23).bind fun y2 => ((slices_ContainsFunc_asset_Name_asset_Name_at_mastref2_RelinkOf_c1.f k y2 y1.fPath y1.fName).bind fun y3 => (bif y3.1 then (some (c_empty, 0, 6)) else (mastref2_RelinkOf.l1 k x0 x3_0 y3.2.1 y3.2.2.1 0 x21 x22 x23))))) else ((mastref2_TokensOf.f k x0 false).bind fun y4 => (bif (!ieq y4.2.2 0) then (some (c_empty, y4.2.1, y4.2.2)) else ((mastref2_relinked_at_mastref2_RelinkOf_c2.f k x0 x3_0).bind fun y5 => (bif (ilt 200000 (slen y5.1)) then (some (c_empty, 0, 4)) else (some (y5.1, 0, 0)))))))
def mastref2_RelinkOf.l1 : Nat → ByteArray → (List T_asset_Name) → ByteArray → ByteArray → Int → (List T_asset_Name) → Int → Int → Option (ByteArray × Int × Int)
  | 0, _, _, _, _, _, _, _, _ => none
  | k + 1, x0, x3_0, x8_0, x8_1, x9, x21, x22, x23 => (bif (ilt x9 (slen x8_1)) then ((sat x8_1 x9).bind fun y6 => (bif (bif (bif (bif (bif (ilt y6 33) then true else (ieq y6 34)) then true else (ieq y6 39)) then true else (ieq y6 92)) then true else (ieq y6 127)) then (some (c_empty, 0, 9)) else (mastref2_RelinkOf.l1 k x0 x3_0 x8_0 x8_1 (wadd .i64 x9 1) x21 x22 x23))) else (mastref2_RelinkOf.l0 k x0 x3_0 x21 x22 (wadd .i64 x23 1)))
end
def mastref2_RelinkOf.f (k : Nat) (a0 : ByteArray) (a1 : (List T_asset_Name)) : Option (ByteArray × Int × Int) := (bif (ilt 20000 (slen a0)) then (some (c_empty, 0, 4)) else (bif (ilt 40 (llen a1)) then (some (c_empty, 0, 4)) else (mastref2_RelinkOf.l0 k a0 a1 a1 (llen a1) 0)))
def mastref2_RelinkOf.O (k : Nat) : Oracle sg := fun n => lkp n [(15, mastref2_TokensOf.e k), (53, slices_ContainsFunc_asset_Name_asset_Name_at_mastref2_RelinkOf_c1.e k), (55, mastref2_relinked_at_mastref2_RelinkOf_c2.e k)]
def mastref2_RelinkOf.a : Ann := (.n .z (.n .z (.n .z (.n (.n .z (.lp 0 (.n .z (.n .z (.n (.n .z (.n .z (.n .z (.lp 1 .z)))) .z))))) .z))))
def mastref2_RelinkOf.L (k : Nat) : Nat → St sg.U → Option (RT sg.U [.str, (.int .i64), (.int .i64)]) := labs [(0, labOf sg [(0, (.d .str)), (3, (.box [.d (.sl (.st 0))])), (21, (.d (.sl (.st 0)))), (22, (.d (.int .i64))), (23, (.d (.int .i64)))] (fun h => mastref2_RelinkOf.l0 k h.1 h.2.1 h.2.2.1 h.2.2.2.1 h.2.2.2.2.1)), (1, labOf sg [(0, (.d .str)), (3, (.box [.d (.sl (.st 0))])), (8, (.box [.d .str, .d .str])), (9, (.d (.int .i64))), (21, (.d (.sl (.st 0)))), (22, (.d (.int .i64))), (23, (.d (.int .i64)))] (fun h => mastref2_RelinkOf.l1 k h.1 h.2.1 h.2.2.1 h.2.2.2.1 h.2.2.2.2.1 h.2.2.2.2.2.1 h.2.2.2.2.2.2.1 h.2.2.2.2.2.2.2.1))]
theorem mastref2_RelinkOf.l0_eq (k : Nat) (x0 : ByteArray) (x3_0 : (List T_asset_Name)) (x21 : (List T_asset_Name)) (x22 : Int) (x23 : Int) : mastref2_RelinkOf.l0 (k + 1) x0 x3_0 x21 x22 x23 = runFrom (C := ctx) (mastref2_RelinkOf.O k) ⟨80, [], []⟩ (mastref2_RelinkOf.L k) (Try.f21.body.getD .skip) mastref2_RelinkOf.a 0 (endK ctx [.str, (.int .i64), (.int .i64)] [(.tmp 4), (.tmp 5), (.tmp 6)]) (encD [(0, (.d .str)), (3, (.box [.d (.sl (.st 0))])), (21, (.d (.sl (.st 0)))), (22, (.d (.int .i64))), (23, (.d (.int .i64)))] (x0, x3_0, x21, x22, x23, ()) (startD sg.U ⟨80, [], []⟩ [(0, (.d .str)), (3, (.box [.d (.sl (.st 0))])), (21, (.d (.sl (.st 0)))), (22, (.d (.int .i64))), (23, (.d (.int .i64)))])) := by
  rw [mastref2_RelinkOf.l0]
  kernel_rfl
theorem mastref2_RelinkOf.l1_eq (k : Nat) (x0 : ByteArray) (x3_0 : (List T_asset_Name)) (x8_0 : ByteArray) (x8_1 : ByteArray) (x9 : Int) (x21 : (List T_asset_Name)) (x22 : Int) (x23 : Int) : mastref2_RelinkOf.l1 (k + 1) x0 x3_0 x8_0 x8_1 x9 x21 x22 x23 = runFrom (C := ctx) (mastref2_RelinkOf.O k) ⟨80, [], []⟩ (mastref2_RelinkOf.L k) (Try.f21.body.getD .skip) mastref2_RelinkOf.a 1 (endK ctx [.str, (.int .i64), (.int .i64)] [(.tmp 4), (.tmp 5), (.tmp 6)]) (encD [(0, (.d .str)), (3, (.box [.d (.sl (.st 0))])), (8, (.box [.d .str, .d .str])), (9, (.d (.int .i64))), (21, (.d (.sl (.st 0)))), (22, (.d (.int .i64))), (23, (.d (.int .i64)))] (x0, x3_0, x8_0, x8_1, x9, x21, x22, x23, ()) (startD sg.U ⟨80, [], []⟩ [(0, (.d .str)), (3, (.box [.d (.sl (.st 0))])), (8, (.box [.d .str, .d .str])), (9, (.d (.int .i64))), (21, (.d (.sl (.st 0)))), (22, (.d (.int .i64))), (23, (.d (.int .i64)))])) := by
  rw [mastref2_RelinkOf.l1]
  kernel_rfl
theorem mastref2_RelinkOf.f_eq (k : Nat) (a0 : ByteArray) (a1 : (List T_asset_Name)) : mastref2_RelinkOf.f k a0 a1 = codeK (C := ctx) (mastref2_RelinkOf.O k) ⟨80, [], []⟩ (mastref2_RelinkOf.L k) (Try.f21.body.getD .skip) mastref2_RelinkOf.a (endK ctx [.str, (.int .i64), (.int .i64)] [(.tmp 4), (.tmp 5), (.tmp 6)]) (slotsOf sg.U 0 [(.d .str), (.d (.sl (.st 0)))] (a0, a1, ()) (empty sg.U)) := by
  unfold mastref2_RelinkOf.f
  kernel_rfl
def mastref2_RelinkOf.e (k : Nat) : Entry sg := entryOf sg [(.d .str), (.d (.sl (.st 0)))] [.str, (.int .i64), (.int .i64)] (fun h => mastref2_RelinkOf.f k h.1 h.2.1)
def mastref2_RelinkOf.T : List (Lb sg (RT sg.U [.str, (.int .i64), (.int .i64)])) := [⟨0, [(0, (.d .str)), (3, (.box [.d (.sl (.st 0))])), (21, (.d (.sl (.st 0)))), (22, (.d (.int .i64))), (23, (.d (.int .i64)))], fun k h => mastref2_RelinkOf.l0 k h.1 h.2.1 h.2.2.1 h.2.2.2.1 h.2.2.2.2.1⟩, ⟨1, [(0, (.d .str)), (3, (.box [.d (.sl (.st 0))])), (8, (.box [.d .str, .d .str])), (9, (.d (.int .i64))), (21, (.d (.sl (.st 0)))), (22, (.d (.int .i64))), (23, (.d (.int .i64)))], fun k h => mastref2_RelinkOf.l1 k h.1 h.2.1 h.2.2.1 h.2.2.2.1 h.2.2.2.2.1 h.2.2.2.2.2.1 h.2.2.2.2.2.2.1 h.2.2.2.2.2.2.2.1⟩]
theorem mastref2_RelinkOf.ok (k : Nat) : (mastref2_RelinkOf.e k).Sound Try.prog ctx 21 :=
  entry_ok base_ok mo (fn := Try.f21) (b := (Try.f21.body.getD .skip)) (pm := [(.d .str), (.d (.sl (.st 0)))]) (rs := [.str, (.int .i64), (.int .i64)]) (an := mastref2_RelinkOf.a) (N := 80) (vars := [(.tmp 4), (.tmp 5), (.tmp 6)]) Try.func21 (by kernel_rfl) (by kernel_rfl) (by kernel_rfl) (by kernel_rfl) (by kernel_rfl) (by kernel_rfl) (O := mastref2_RelinkOf.O)
    (fun k => by unfold mastref2_RelinkOf.O; exact oracle_of (P := Try.prog) (C := ctx) ⟨(mastref2_TokensOf.ok k), ⟨(slices_ContainsFunc_asset_Name_asset_Name_at_mastref2_RelinkOf_c1.ok k), ⟨(mastref2_relinked_at_mastref2_RelinkOf_c2.ok k), trivial⟩⟩⟩) mastref2_RelinkOf.T ⟨⟨by kernel_rfl, fun _ => by first | rfl | rw [mastref2_RelinkOf.l0], fun k h => mastref2_RelinkOf.l0_eq k h.1 h.2.1 h.2.2.1 h.2.2.2.1 h.2.2.2.2.1⟩, ⟨⟨by kernel_rfl, fun _ => by first | rfl | rw [mastref2_RelinkOf.l1], fun k h => mastref2_RelinkOf.l1_eq k h.1 h.2.1 h.2.2.1 h.2.2.2.1 h.2.2.2.2.1 h.2.2.2.2.2.1 h.2.2.2.2.2.2.1 h.2.2.2.2.2.2.2.1⟩, trivial⟩⟩ k (fun h => mastref2_RelinkOf.f_eq k h.1 h.2.1)
def mastlaw2_AssetRelinks.f (k : Nat) (a0 : ByteArray) (a1 : (List T_asset_Name)) : Option (Bool) := ((asset_Relink.f k a0 a1).bind fun y1 => ((mastref2_RelinkOf.f k a0 a1).bind fun y2 => (some (bif (bif (ieq y1.2.2 y2.2.2) then (ieq y1.2.1 y2.2.1) else false) then (seq y1.1 y2.1) else false))))
def mastlaw2_AssetRelinks.O (k : Nat) : Oracle sg := fun n => lkp n [(20, asset_Relink.e k), (21, mastref2_RelinkOf.e k)]
def mastlaw2_AssetRelinks.a : Ann := .z
def mastlaw2_AssetRelinks.L (k : Nat) : Nat → St sg.U → Option (RT sg.U [.bool]) := labs []
theorem mastlaw2_AssetRelinks.f_eq (k : Nat) (a0 : ByteArray) (a1 : (List T_asset_Name)) : mastlaw2_AssetRelinks.f k a0 a1 = codeK (C := ctx) (mastlaw2_AssetRelinks.O k) ⟨38, [], []⟩ (mastlaw2_AssetRelinks.L k) (Try.f7.body.getD .skip) mastlaw2_AssetRelinks.a (endK ctx [.bool] [(.tmp 4)]) (slotsOf sg.U 0 [(.d .str), (.d (.sl (.st 0)))] (a0, a1, ()) (empty sg.U)) := by
  unfold mastlaw2_AssetRelinks.f
  kernel_rfl
def mastlaw2_AssetRelinks.e (k : Nat) : Entry sg := entryOf sg [(.d .str), (.d (.sl (.st 0)))] [.bool] (fun h => mastlaw2_AssetRelinks.f k h.1 h.2.1)
def mastlaw2_AssetRelinks.T : List (Lb sg (RT sg.U [.bool])) := []
theorem mastlaw2_AssetRelinks.ok (k : Nat) : (mastlaw2_AssetRelinks.e k).Sound Try.prog ctx 7 :=
  entry_ok base_ok mo (fn := Try.f7) (b := (Try.f7.body.getD .skip)) (pm := [(.d .str), (.d (.sl (.st 0)))]) (rs := [.bool]) (an := mastlaw2_AssetRelinks.a) (N := 38) (vars := [(.tmp 4)]) Try.func7 (by kernel_rfl) (by kernel_rfl) (by kernel_rfl) (by kernel_rfl) (by kernel_rfl) (by kernel_rfl) (O := mastlaw2_AssetRelinks.O)
    (fun k => by unfold mastlaw2_AssetRelinks.O; exact oracle_of (P := Try.prog) (C := ctx) ⟨(asset_Relink.ok k), ⟨(mastref2_RelinkOf.ok k), trivial⟩⟩) mastlaw2_AssetRelinks.T trivial k (fun h => mastlaw2_AssetRelinks.f_eq k h.1 h.2.1)
end Go.Proofs.Ytdllocgdhdfgeaa.LAssetRelinks
