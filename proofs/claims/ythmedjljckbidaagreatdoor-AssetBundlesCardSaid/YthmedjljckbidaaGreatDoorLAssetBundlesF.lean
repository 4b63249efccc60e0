/- The functions behind the law AssetBundles, checked against the code; their summaries hold. Conditions: none. -/
import Derived.Test.YthmedjljckbidaaGreatDoorLiftZ
import Derived.Test.YthmedjljckbidaaGreatDoorProg
import Derived.Test.YthmedjljckbidaaGreatDoorLiftY2
import Derived.Test.YthmedjljckbidaaGreatDoorShelf
import Derived.Shelf.Strings.SlTrimAscii
namespace Go.Proofs.YthmedjljckbidaaGreatDoor.LAssetBundles
open Go Go.Proofs.YthmedjljckbidaaGreatDoor.Lift
set_option maxRecDepth 100000
set_option linter.unusedVariables false
structure T_api_File where
  fPath : ByteArray
  fBody : ByteArray
  deriving Inhabited
structure T_asset_Bundled where
  fBody : ByteArray
  fParts : (List ByteArray)
  fEnds : (List Int)
  deriving Inhabited
abbrev sgU : Nat → Type
  | 0 => T_api_File
  | 1 => T_asset_Bundled
  | 2 => Unit
  | 3 => Unit
  | 4 => Unit
  | 5 => Unit
  | 6 => Unit
  | 7 => Unit
  | 8 => Unit
  | 9 => Unit
  | 10 => Unit
  | 11 => Unit
  | 12 => Unit
  | 13 => Unit
  | 14 => Unit
  | 15 => Unit
  | 16 => Unit
  | 17 => Unit
  | 18 => Unit
  | 19 => Unit
  | 20 => Unit
  | 21 => Unit
  | 22 => Unit
  | 23 => Unit
  | 24 => Unit
  | 25 => Unit
  | 26 => Unit
  | 27 => Unit
  | 28 => Unit
  | 29 => Unit
  | 30 => Unit
  | _ + 31 => Unit
abbrev sgF : Nat → List Ty
  | 0 => [.str, .str]
  | 1 => [.str, (.sl .str), (.sl (.int .i64))]
  | 2 => []
  | 3 => []
  | 4 => []
  | 5 => []
  | 6 => []
  | 7 => []
  | 8 => []
  | 9 => []
  | 10 => []
  | 11 => []
  | 12 => []
  | 13 => []
  | 14 => []
  | 15 => []
  | 16 => []
  | 17 => []
  | 18 => []
  | 19 => []
  | 20 => []
  | 21 => []
  | 22 => []
  | 23 => []
  | 24 => []
  | 25 => []
  | 26 => []
  | 27 => []
  | 28 => []
  | 29 => []
  | 30 => []
  | _ + 31 => []
def sgO : (n : Nat) → sgU n → HL sgU (sgF n)
  | 0, x => (x.fPath, x.fBody, ())
  | 1, x => (x.fBody, x.fParts, x.fEnds, ())
  | 2, _ => ()
  | 3, _ => ()
  | 4, _ => ()
  | 5, _ => ()
  | 6, _ => ()
  | 7, _ => ()
  | 8, _ => ()
  | 9, _ => ()
  | 10, _ => ()
  | 11, _ => ()
  | 12, _ => ()
  | 13, _ => ()
  | 14, _ => ()
  | 15, _ => ()
  | 16, _ => ()
  | 17, _ => ()
  | 18, _ => ()
  | 19, _ => ()
  | 20, _ => ()
  | 21, _ => ()
  | 22, _ => ()
  | 23, _ => ()
  | 24, _ => ()
  | 25, _ => ()
  | 26, _ => ()
  | 27, _ => ()
  | 28, _ => ()
  | 29, _ => ()
  | 30, _ => ()
  | _ + 31, _ => ()
def sgB : (n : Nat) → HL sgU (sgF n) → sgU n
  | 0, h => ⟨h.1, h.2.1⟩
  | 1, h => ⟨h.1, h.2.1, h.2.2.1⟩
  | 2, _ => ()
  | 3, _ => ()
  | 4, _ => ()
  | 5, _ => ()
  | 6, _ => ()
  | 7, _ => ()
  | 8, _ => ()
  | 9, _ => ()
  | 10, _ => ()
  | 11, _ => ()
  | 12, _ => ()
  | 13, _ => ()
  | 14, _ => ()
  | 15, _ => ()
  | 16, _ => ()
  | 17, _ => ()
  | 18, _ => ()
  | 19, _ => ()
  | 20, _ => ()
  | 21, _ => ()
  | 22, _ => ()
  | 23, _ => ()
  | 24, _ => ()
  | 25, _ => ()
  | 26, _ => ()
  | 27, _ => ()
  | 28, _ => ()
  | 29, _ => ()
  | 30, _ => ()
  | _ + 31, _ => ()
def sg : Sg := { U := sgU, fl := sgF, out := sgO, bld := sgB, gl := [1] }
def ctx : Ctx := { S := sg, ty := [(32, .n), (40, .n), (52, .n), (53, .n), (59, .n), (87, .n), (97, .n), (100, .n), (103, .n), (104, .n), (105, .n), (106, .n), (107, .n), (108, .n), (109, .n), (110, .n), (111, .n), (112, .n), (3, .d (.int .i64) 1 0), (5, .d (.int .u8) 1 0), (9, .d .str 1 0), (22, .d (.sl (.st 0)) 32 69), (23, .d (.sl .str) 16 9), (24, .d (.sl (.int .i64)) 8 3), (26, .d (.st 1) 1 0), (27, .d (.int .i64) 1 0), (69, .d (.st 0) 1 0), (73, .b)], eqs := [] }
def c_empty : ByteArray := ⟨#[]⟩
def c__0a : ByteArray := ⟨#[10]⟩
def c__2f : ByteArray := ⟨#[47]⟩
def c__2e : ByteArray := ⟨#[46]⟩
def c__2e_2e : ByteArray := ⟨#[46, 46]⟩
def c_abcdefghijklmnopqrst_c1516678 : ByteArray := ⟨#[97, 98, 99, 100, 101, 102, 103, 104, 105, 106, 107, 108, 109, 110, 111, 112, 113, 114, 115, 116, 117, 118, 119, 120, 121, 122, 48, 49, 50, 51, 52, 53, 54, 55, 56, 57, 45, 95, 46]⟩
theorem sg_ok : SgOk sg :=
  ⟨fun n h => by rcases n with _ | _ | _ | _ | _ | _ | _ | _ | _ | _ | _ | _ | _ | _ | _ | _ | _ | _ | _ | _ | _ | _ | _ | _ | _ | _ | _ | _ | _ | _ | _ | n <;> rfl, fun n => by rcases n with _ | _ | _ | _ | _ | _ | _ | _ | _ | _ | _ | _ | _ | _ | _ | _ | _ | _ | _ | _ | _ | _ | _ | _ | _ | _ | _ | _ | _ | _ | _ | n <;> rfl, fun n x => by rcases n with _ | _ | _ | _ | _ | _ | _ | _ | _ | _ | _ | _ | _ | _ | _ | _ | _ | _ | _ | _ | _ | _ | _ | _ | _ | _ | _ | _ | _ | _ | _ | n <;> rfl, fun n => by rcases n with _ | _ | _ | _ | _ | _ | _ | _ | _ | _ | _ | _ | _ | _ | _ | _ | _ | _ | _ | _ | _ | _ | _ | _ | _ | _ | _ | _ | _ | _ | _ | n <;> rfl⟩
theorem base_ok : Base Tryz.prog ctx := base_of sg_ok (by kernel_rfl) (eqOk_of (by kernel_rfl))
theorem open_ok : openB Tryz.prog ctx = true := by kernel_rfl
theorem mo : Tryz.prog.follows .mixedOrders = true := by kernel_rfl

def bld_write.e : Entry sg := bwE sg 73 5
open Go.Shelf Go.RowKit Go.Proofs
set_option maxHeartbeats 1000000 in
theorem bld_check (b : Nat) (p v : Value) (w : World) (hp : p = .pointer none ∨ p = ptr b 0) (hbk : w.heap[b]? = some (.cells #[p, v] 73 (0, 0))) : Calls Tryz.prog 102 #[ptr b 0] w (CheckPost 73 b v w) := by
  obtain ⟨j, hj, hjs⟩ := Option.map_eq_some_iff.1 (show (Tryz.prog.info? 73).map (·.size) = some 2 by kernel_rfl)
  have lies : liesAt Tryz.prog Tryz.prog.depth 73 (2 / Tryz.prog.cellsOf 73) 0 73 1 = true := by kernel_rfl
  have mixed : Tryz.prog.follows .mixedOrders = true := by kernel_rfl
  have t73 := Tryz.underlying73; have a73 := Tryz.isAgg73; have z73 := Tryz.sizeOf73; have v73 := Tryz.zeroValue73; have u73 := run_underlying Tryz.underlying73
  have t70 := Tryz.underlying70; have a70 := Tryz.isAgg70; have z70 := Tryz.sizeOf70; have v70 := Tryz.zeroValue70; have u70 := run_underlying Tryz.underlying70
  have t4 := Tryz.underlying4; have a4 := Tryz.isAgg4; have z4 := Tryz.sizeOf4; have v4 := Tryz.zeroValue4; have u4 := run_underlying Tryz.underlying4
  have t304 := Tryz.underlying304; have a304 := Tryz.isAgg304; have z304 := Tryz.sizeOf304; have v304 := Tryz.zeroValue304; have u304 := run_underlying Tryz.underlying304
  rcases hp with rfl | rfl
  · have h0 : w.cell? ⟨b, 0, none⟩ = some (.pointer none) := by rw [Lib.cell_of_heap hbk]; rfl
    have hsh : w.shape? b = some (73, 2) := by simp [World.shape?, hbk]
    have hfz : w.frozen? ⟨b, 0, none⟩ = false := by simp [World.frozen?, hbk]
    have fin := check_fresh hbk
    unfold ptr at fin ⊢
    go_enter Tryz.func102, Tryz.ntmps102
    go_wp2
    rw [Lib.run_to_unsafe w ⟨b, 0, none⟩ Tryz.underlying70 Tryz.underlying304 hj (by rw [hjs]; decide) hsh (Nat.zero_lt_succ 1)]
    simp only [Result.andThen]
    rw [Oper.upon_value]
    go_wp2
    rw [run_callFunc_extern Tryz.func202 (by kernel_rfl) (by kernel_rfl) (by kernel_rfl) (e := Extern.AbiNoEscape.same) (by kernel_rfl)]
    rw [Lib.run_noEscape]
    simp only [Result.andThen]
    rw [Oper.upon_value]
    go_wp2
    rw [Lib.run_from_unsafe w ⟨b, 0, none⟩ Tryz.underlying304 Tryz.underlying70 hj hsh lies]
    simp only [Result.andThen]
    rw [Oper.upon_value]
    go_wp2
    go_end0
    exact fin
  · have h0 : w.cell? ⟨b, 0, none⟩ = some (.pointer (some ⟨b, 0, none⟩)) := by rw [Lib.cell_of_heap hbk]; rfl
    have fin := check_used hbk
    unfold ptr at fin ⊢
    go_enter Tryz.func102, Tryz.ntmps102
    go_wp2
    rw [Lib.run_neq_ptr_same w _ Tryz.underlying70 hj]
    go_wp2
    go_end0
    exact fin
set_option maxHeartbeats 1000000 in
theorem bld_write0 (b : Nat) (p v : Value) (n : Nat) (bs : List Value) (s : ByteArray) (w : World) (hp : p = .pointer none ∨ p = ptr b 0) (hbk : w.heap[b]? = some (.cells #[p, v] 73 (0, 0))) (hown : w.ownsRow 0 5 1 v n bs) (hne : v.ownBlock ≠ some b) (hlen : n + s.size ≤ 140737488355328) : Calls Tryz.prog 31 #[ptr b 0, .string s] w (WritePost 73 5 b v n bs s w) := by
  obtain ⟨i0, hi, hz0, hz1, hz2⟩ := info_parts (show (Tryz.prog.info? 5).map (fun i => (i.zero, i.size, i.bytes)) = some (some (.int .u8 0), 1, 1) by kernel_rfl)
  have mixed : Tryz.prog.follows .mixedOrders = true := by kernel_rfl
  have t73 := Tryz.underlying73; have a73 := Tryz.isAgg73; have z73 := Tryz.sizeOf73; have v73 := Tryz.zeroValue73; have u73 := run_underlying Tryz.underlying73
  have t70 := Tryz.underlying70; have a70 := Tryz.isAgg70; have z70 := Tryz.sizeOf70; have v70 := Tryz.zeroValue70; have u70 := run_underlying Tryz.underlying70
  have t71 := Tryz.underlying71; have a71 := Tryz.isAgg71; have z71 := Tryz.sizeOf71; have v71 := Tryz.zeroValue71; have u71 := run_underlying Tryz.underlying71
  have t3 := Tryz.underlying3; have a3 := Tryz.isAgg3; have z3 := Tryz.sizeOf3; have v3 := Tryz.zeroValue3; have u3 := run_underlying Tryz.underlying3
  have t9 := Tryz.underlying9; have a9 := Tryz.isAgg9; have z9 := Tryz.sizeOf9; have v9 := Tryz.zeroValue9; have u9 := run_underlying Tryz.underlying9
  have t4 := Tryz.underlying4; have a4 := Tryz.isAgg4; have z4 := Tryz.sizeOf4; have v4 := Tryz.zeroValue4; have u4 := run_underlying Tryz.underlying4
  have t304 := Tryz.underlying304; have a304 := Tryz.isAgg304; have z304 := Tryz.sizeOf304; have v304 := Tryz.zeroValue304; have u304 := run_underlying Tryz.underlying304
  have t5 := Tryz.underlying5; have a5 := Tryz.isAgg5; have z5 := Tryz.sizeOf5; have v5 := Tryz.zeroValue5; have u5 := run_underlying Tryz.underlying5
  have eC : ∀ args w, (callFunc 102 args).run Tryz.prog w = .ok (.enter 102 args) w := enters_of Tryz.func102 (by kernel_rfl) rfl
  have hchk := bld_check b p v w hp hbk
  unfold WritePost
  unfold ptr at hchk ⊢
  go_enter Tryz.func31, Tryz.ntmps31
  go_wp2_with (go_at_fn 102; refine hchk.mono ?_)
  rintro e w1 ⟨rfl, h1, f1, f2, f3, f4, f5⟩
  unfold ptr at h1
  have hown1 : w1.ownsRow 0 5 1 v n bs := hown.kept (row := some b) ⟨f1, f2, f3, by omega, fun k _ hk => f5 k (fun e => hk (by simp [e]))⟩ (.inr hne)
  have c0 : w1.cell? ⟨b, 0, none⟩ = some (.pointer (some ⟨b, 0, none⟩)) := by rw [Lib.cell_of_heap h1]; rfl
  have c1 : w1.cell? ⟨b, 1, none⟩ = some v := by rw [Lib.cell_of_heap h1]; rfl
  go_wp2_with (at_builtin; refine wp_append_str rfl _ _ 71 9 rfl 5 i0 Tryz.underlying71 Tryz.underlying9 hi hz0 hz1 hz2 _ _ _ rfl hown1 s rfl ?c3 ?c4 ?_)
  case c3 => unfold maxLen; omega
  case c4 => omega
  intro v' w2 hown' hgrow hloc
  have hlt : b < w1.heap.size := lt_of_heap h1
  have hb2 : w2.heap[b]? = some (.cells #[.pointer (some ⟨b, 0, none⟩), v] 73 (0, 0)) := by
    rw [hgrow.block b hlt (fun e => hne e.symm)]
    exact h1
  have d0 : w2.cell? ⟨b, 0, none⟩ = some (.pointer (some ⟨b, 0, none⟩)) := by rw [Lib.cell_of_heap hb2]; rfl
  have d1 : w2.cell? ⟨b, 1, none⟩ = some v := by rw [Lib.cell_of_heap hb2]; rfl
  have g1 : w2.frozen? ⟨b, 1, none⟩ = false := Lib.frozen_of_heap hb2 1
  obtain ⟨ao, n', cap, rfl⟩ : ∃ ao n' cap, v' = .slice ao n' cap := by
    rcases hown'.2 with ⟨hv, _⟩ | ⟨g, cap, cur, hv, _⟩
    · exact ⟨_, _, _, hv⟩
    · exact ⟨_, _, _, hv⟩
  go_wp2
  go_ret2
  exact ⟨rfl, w1, w2, _, h1, ⟨f1, f2, f3, f4, f5⟩, hown', hgrow, by first | exact hloc | (rw [f4]; exact hloc), hb2, rfl⟩
theorem bld_write.ok : (bld_write.e).Sound Tryz.prog ctx 31 :=
  bwE_sound (C := ctx) bld_write0 Tryz.func31 (by kernel_rfl) (by kernel_rfl)
def internal_stringslite_HasSuffix.f (a0 : ByteArray) (a1 : ByteArray) : Option (Bool) := (bif (ile (slen a1) (slen a0)) then ((ssub a0 (wsub .i64 (slen a0) (slen a1)) (slen a0)).bind fun y1 => (some (seq y1 a1))) else (some false))
def internal_stringslite_HasSuffix.O : Oracle sg := fun n => lkp n []
def internal_stringslite_HasSuffix.a : Ann := .z
def internal_stringslite_HasSuffix.L : Nat → St sg.U → Option (RT sg.U [.bool]) := labs []
theorem internal_stringslite_HasSuffix.f_eq (a0 : ByteArray) (a1 : ByteArray) : internal_stringslite_HasSuffix.f a0 a1 = codeK (C := ctx) (internal_stringslite_HasSuffix.O) ⟨21, [], []⟩ (internal_stringslite_HasSuffix.L) (Tryz.f103.body.getD .skip) internal_stringslite_HasSuffix.a (endK ctx [.bool] [(.tmp 4)]) (slotsOf sg.U 0 [(.d .str), (.d .str)] (a0, a1, ()) (empty sg.U)) := by
  unfold internal_stringslite_HasSuffix.f
  kernel_rfl
def internal_stringslite_HasSuffix.e : Entry sg := entryOf sg [(.d .str), (.d .str)] [.bool] (fun h => internal_stringslite_HasSuffix.f h.1 h.2.1)
def internal_stringslite_HasSuffix.T : List (Lb sg (RT sg.U [.bool])) := []
theorem internal_stringslite_HasSuffix.ok : (internal_stringslite_HasSuffix.e).Sound Tryz.prog ctx 103 :=
  entry_ok base_ok mo (fn := Tryz.f103) (b := (Tryz.f103.body.getD .skip)) (pm := [(.d .str), (.d .str)]) (rs := [.bool]) (an := internal_stringslite_HasSuffix.a) (N := 21) (vars := [(.tmp 4)]) Tryz.func103 (by kernel_rfl) (by kernel_rfl) (by kernel_rfl) (by kernel_rfl) (by kernel_rfl) (by kernel_rfl) (O := fun _ => internal_stringslite_HasSuffix.O)
    (fun _ => by unfold internal_stringslite_HasSuffix.O; exact oracle_of (P := Tryz.prog) (C := ctx) trivial) internal_stringslite_HasSuffix.T trivial 0 (fun h => internal_stringslite_HasSuffix.f_eq h.1 h.2.1)
def strings_HasSuffix.f (a0 : ByteArray) (a1 : ByteArray) : Option (Bool) := ((internal_stringslite_HasSuffix.f a0 a1).bind fun y1 => (some y1))
def strings_HasSuffix.O : Oracle sg := fun n => lkp n [(103, internal_stringslite_HasSuffix.e)]
def strings_HasSuffix.a : Ann := .z
def strings_HasSuffix.L : Nat → St sg.U → Option (RT sg.U [.bool]) := labs []
theorem strings_HasSuffix.f_eq (a0 : ByteArray) (a1 : ByteArray) : strings_HasSuffix.f a0 a1 = codeK (C := ctx) (strings_HasSuffix.O) ⟨8, [], []⟩ (strings_HasSuffix.L) (Tryz.f32.body.getD .skip) strings_HasSuffix.a (endK ctx [.bool] [(.tmp 4)]) (slotsOf sg.U 0 [(.d .str), (.d .str)] (a0, a1, ()) (empty sg.U)) := by
  unfold strings_HasSuffix.f
  kernel_rfl
def strings_HasSuffix.e : Entry sg := entryOf sg [(.d .str), (.d .str)] [.bool] (fun h => strings_HasSuffix.f h.1 h.2.1)
def strings_HasSuffix.T : List (Lb sg (RT sg.U [.bool])) := []
theorem strings_HasSuffix.ok : (strings_HasSuffix.e).Sound Tryz.prog ctx 32 :=
  entry_ok base_ok mo (fn := Tryz.f32) (b := (Tryz.f32.body.getD .skip)) (pm := [(.d .str), (.d .str)]) (rs := [.bool]) (an := strings_HasSuffix.a) (N := 8) (vars := [(.tmp 4)]) Tryz.func32 (by kernel_rfl) (by kernel_rfl) (by kernel_rfl) (by kernel_rfl) (by kernel_rfl) (by kernel_rfl) (O := fun _ => strings_HasSuffix.O)
    (fun _ => by unfold strings_HasSuffix.O; exact oracle_of (P := Tryz.prog) (C := ctx) ⟨(internal_stringslite_HasSuffix.ok), trivial⟩) strings_HasSuffix.T trivial 0 (fun h => strings_HasSuffix.f_eq h.1 h.2.1)

def bld_byte.e : Entry sg := bbE sg 73 5
set_option maxHeartbeats 1000000 in
theorem bld_byte0 (b : Nat) (p v : Value) (n : Nat) (bs : List Value) (x : Int) (w : World) (hp : p = .pointer none ∨ p = ptr b 0) (hbk : w.heap[b]? = some (.cells #[p, v] 73 (0, 0))) (hown : w.ownsRow 0 5 1 v n bs) (hne : v.ownBlock ≠ some b) (hlen : n + 1 ≤ 140737488355328) : Calls Tryz.prog 33 #[ptr b 0, .int .u8 x] w (BytePost 73 5 b v n bs x w) := by
  obtain ⟨i0, hi, hz0, hz1, hz2⟩ := info_parts (show (Tryz.prog.info? 5).map (fun i => (i.zero, i.size, i.bytes)) = some (some (.int .u8 0), 1, 1) by kernel_rfl)
  have mixed : Tryz.prog.follows .mixedOrders = true := by kernel_rfl
  have t73 := Tryz.underlying73; have a73 := Tryz.isAgg73; have z73 := Tryz.sizeOf73; have v73 := Tryz.zeroValue73; have u73 := run_underlying Tryz.underlying73
  have t70 := Tryz.underlying70; have a70 := Tryz.isAgg70; have z70 := Tryz.sizeOf70; have v70 := Tryz.zeroValue70; have u70 := run_underlying Tryz.underlying70
  have t71 := Tryz.underlying71; have a71 := Tryz.isAgg71; have z71 := Tryz.sizeOf71; have v71 := Tryz.zeroValue71; have u71 := run_underlying Tryz.underlying71
  have t3 := Tryz.underlying3; have a3 := Tryz.isAgg3; have z3 := Tryz.sizeOf3; have v3 := Tryz.zeroValue3; have u3 := run_underlying Tryz.underlying3
  have t4 := Tryz.underlying4; have a4 := Tryz.isAgg4; have z4 := Tryz.sizeOf4; have v4 := Tryz.zeroValue4; have u4 := run_underlying Tryz.underlying4
  have t304 := Tryz.underlying304; have a304 := Tryz.isAgg304; have z304 := Tryz.sizeOf304; have v304 := Tryz.zeroValue304; have u304 := run_underlying Tryz.underlying304
  have t5 := Tryz.underlying5; have a5 := Tryz.isAgg5; have z5 := Tryz.sizeOf5; have v5 := Tryz.zeroValue5; have u5 := run_underlying Tryz.underlying5
  have eC : ∀ args w, (callFunc 102 args).run Tryz.prog w = .ok (.enter 102 args) w := enters_of Tryz.func102 (by kernel_rfl) rfl
  have hchk := bld_check b p v w hp hbk
  unfold BytePost
  unfold ptr at hchk ⊢
  go_enter Tryz.func33, Tryz.ntmps33
  go_wp2_with (go_at_fn 102; refine hchk.mono ?_)
  rintro e w1 ⟨rfl, h1, f1, f2, f3, f4, f5⟩
  unfold ptr at h1
  have hown1 : w1.ownsRow 0 5 1 v n bs := hown.kept (row := some b) ⟨f1, f2, f3, by omega, fun k _ hk => f5 k (fun e => hk (by simp [e]))⟩ (.inr hne)
  have c0 : w1.cell? ⟨b, 0, none⟩ = some (.pointer (some ⟨b, 0, none⟩)) := by rw [Lib.cell_of_heap h1]; rfl
  have c1 : w1.cell? ⟨b, 1, none⟩ = some v := by rw [Lib.cell_of_heap h1]; rfl
  go_wp2_with (at_builtin; refine wp_append_one rfl _ _ 71 rfl 5 i0 Tryz.underlying71 hi hz0 hz1 hz2 _ _ _ rfl (hown1.alloc _) _ x rfl ?c2 ?c3 ?c4 ?_)
  case c2 => (try rw [← f4]); simp
  case c3 => unfold maxLen; omega
  case c4 => omega
  intro v' w2 hown' hgrow hloc
  have hlt : b < w1.heap.size := lt_of_heap h1
  have hb2 : w2.heap[b]? = some (.cells #[.pointer (some ⟨b, 0, none⟩), v] 73 (0, 0)) := by
    rw [hgrow.block b (by simp; omega) (fun e => hne e.symm), Lib.alloc_old w1 _ b hlt]
    exact h1
  have d0 : w2.cell? ⟨b, 0, none⟩ = some (.pointer (some ⟨b, 0, none⟩)) := by rw [Lib.cell_of_heap hb2]; rfl
  have d1 : w2.cell? ⟨b, 1, none⟩ = some v := by rw [Lib.cell_of_heap hb2]; rfl
  have g1 : w2.frozen? ⟨b, 1, none⟩ = false := Lib.frozen_of_heap hb2 1
  obtain ⟨ao, n', cap, rfl⟩ : ∃ ao n' cap, v' = .slice ao n' cap := by
    rcases hown'.2 with ⟨hv, _⟩ | ⟨g, cap, cur, hv, _⟩
    · exact ⟨_, _, _, hv⟩
    · exact ⟨_, _, _, hv⟩
  go_wp2
  go_ret
  exact ⟨rfl, w1, w1.alloc (.cells #[.int .u8 x] 5), w2, _, h1, ⟨f1, f2, f3, f4, f5⟩, ⟨rfl, rfl, rfl, by simp, fun k hk => Lib.alloc_old w1 _ k hk⟩, hown', hgrow, hloc.imp id (fun ⟨q, q1, q2⟩ => ⟨q, q1, by simp; omega⟩), hb2, rfl⟩
theorem bld_byte.ok : (bld_byte.e).Sound Tryz.prog ctx 33 :=
  bbE_sound (C := ctx) bld_byte0 Tryz.func33 (by kernel_rfl) (by kernel_rfl)

def bld_len.e : Entry sg := blE sg 73 5
theorem bld_len.ok : (bld_len.e).Sound Tryz.prog ctx 34 :=
  blE_sound (C := ctx) Tryz.lays170 Tryz.func34 (by kernel_rfl) (by kernel_rfl)
def strings_Split.f (a0 : ByteArray) (a1 : ByteArray) : Option ((List ByteArray)) := splitF a0 a1
def strings_Split.e : Entry sg := entryOf sg [(.d .str), (.d .str)] [(.sl .str)] (fun h => strings_Split.f h.1 h.2.1)
theorem strings_Split.ok : (strings_Split.e).Sound Tryz.prog ctx 77 :=
  split_sound (C := ctx) sg_ok Tryz.func77 (by kernel_rfl) (by kernel_rfl) (kM := 1) (fun w hG => by obtain ⟨m, hm⟩ := hG 1 (by simp [ctx, sg]); exact ⟨m, cells_cell hm⟩) (fun s sep m w hs hm h1 => Tryz.strings_Split s sep m w hs hm h1)
def tree_isSmall.f (a0 : Int) : Option (Bool) := (some (bif (ile 97 a0) then (ile a0 122) else false))
def tree_isSmall.O : Oracle sg := fun n => lkp n []
def tree_isSmall.a : Ann := .z
def tree_isSmall.L : Nat → St sg.U → Option (RT sg.U [.bool]) := labs []
theorem tree_isSmall.f_eq (a0 : Int) : tree_isSmall.f a0 = codeK (C := ctx) (tree_isSmall.O) ⟨9, [], []⟩ (tree_isSmall.L) (Tryz.f220.body.getD .skip) tree_isSmall.a (endK ctx [.bool] [(.tmp 2)]) (slotsOf sg.U 0 [(.d (.int .u8))] (a0, ()) (empty sg.U)) := by
  unfold tree_isSmall.f
  kernel_rfl
def tree_isSmall.e : Entry sg := entryOf sg [(.d (.int .u8))] [.bool] (fun h => tree_isSmall.f h.1)
def tree_isSmall.T : List (Lb sg (RT sg.U [.bool])) := []
theorem tree_isSmall.ok : (tree_isSmall.e).Sound Tryz.prog ctx 220 :=
  entry_ok base_ok mo (fn := Tryz.f220) (b := (Tryz.f220.body.getD .skip)) (pm := [(.d (.int .u8))]) (rs := [.bool]) (an := tree_isSmall.a) (N := 9) (vars := [(.tmp 2)]) Tryz.func220 (by kernel_rfl) (by kernel_rfl) (by kernel_rfl) (by kernel_rfl) (by kernel_rfl) (by kernel_rfl) (O := fun _ => tree_isSmall.O)
    (fun _ => by unfold tree_isSmall.O; exact oracle_of (P := Tryz.prog) (C := ctx) trivial) tree_isSmall.T trivial 0 (fun h => tree_isSmall.f_eq h.1)
def tree_isDigit.f (a0 : Int) : Option (Bool) := (some (bif (ile 48 a0) then (ile a0 57) else false))
def tree_isDigit.O : Oracle sg := fun n => lkp n []
def tree_isDigit.a : Ann := .z
def tree_isDigit.L : Nat → St sg.U → Option (RT sg.U [.bool]) := labs []
theorem tree_isDigit.f_eq (a0 : Int) : tree_isDigit.f a0 = codeK (C := ctx) (tree_isDigit.O) ⟨9, [], []⟩ (tree_isDigit.L) (Tryz.f221.body.getD .skip) tree_isDigit.a (endK ctx [.bool] [(.tmp 2)]) (slotsOf sg.U 0 [(.d (.int .u8))] (a0, ()) (empty sg.U)) := by
  unfold tree_isDigit.f
  kernel_rfl
def tree_isDigit.e : Entry sg := entryOf sg [(.d (.int .u8))] [.bool] (fun h => tree_isDigit.f h.1)
def tree_isDigit.T : List (Lb sg (RT sg.U [.bool])) := []
theorem tree_isDigit.ok : (tree_isDigit.e).Sound Tryz.prog ctx 221 :=
  entry_ok base_ok mo (fn := Tryz.f221) (b := (Tryz.f221.body.getD .skip)) (pm := [(.d (.int .u8))]) (rs := [.bool]) (an := tree_isDigit.a) (N := 9) (vars := [(.tmp 2)]) Tryz.func221 (by kernel_rfl) (by kernel_rfl) (by kernel_rfl) (by kernel_rfl) (by kernel_rfl) (by kernel_rfl) (O := fun _ => tree_isDigit.O)
    (fun _ => by unfold tree_isDigit.O; exact oracle_of (P := Tryz.prog) (C := ctx) trivial) tree_isDigit.T trivial 0 (fun h => tree_isDigit.f_eq h.1)
def tree_isPart.l0 : Nat → ByteArray → Int → Option (Bool)
  | 0, _, _ => none
  | k + 1, x0, x3 => (bif (ilt x3 (slen x0)) then ((sat x0 x3).bind fun y1 => ((tree_isSmall.f y1).bind fun y2 => (bif (!y2) then ((sat x0 x3).bind fun y3 => ((tree_isDigit.f y3).bind fun y4 => (bif (!y4) then ((sat x0 x3).bind fun y5 => (bif (!ieq y5 45) then ((sat x0 x3).bind fun y6 => (bif (!ieq y6 95) then ((sat x0 x3).bind fun y7 => (bif (!ieq y7 46) then (some false) else (tree_isPart.l0 k x0 (wadd .i64 x3 1)))) else (tree_isPart.l0 k x0 (wadd .i64 x3 1)))) else (tree_isPart.l0 k x0 (wadd .i64 x3 1)))) else (tree_isPart.l0 k x0 (wadd .i64 x3 1))))) else (tree_isPart.l0 k x0 (wadd .i64 x3 1))))) else (some true))
def tree_isPart.f (k : Nat) (a0 : ByteArray) : Option (Bool) := (bif (bif (bif (bif (seq a0 c_empty) then true else (ilt 40 (slen a0))) then true else (seq a0 c__2e)) then true else (seq a0 c__2e_2e)) then (some false) else (tree_isPart.l0 k a0 0))
def tree_isPart.O (k : Nat) : Oracle sg := fun n => lkp n [(220, tree_isSmall.e), (221, tree_isDigit.e)]
def tree_isPart.a : Ann := (.n .z (.n .z (.n (.n .z (.lp 0 .z)) .z)))
def tree_isPart.L (k : Nat) : Nat → St sg.U → Option (RT sg.U [.bool]) := labs [(0, labOf sg [(0, (.d .str)), (3, (.d (.int .i64)))] (fun h => tree_isPart.l0 k h.1 h.2.1))]
theorem tree_isPart.l0_eq (k : Nat) (x0 : ByteArray) (x3 : Int) : tree_isPart.l0 (k + 1) x0 x3 = runFrom (C := ctx) (tree_isPart.O k) ⟨55, [], []⟩ (tree_isPart.L k) (Tryz.f158.body.getD .skip) tree_isPart.a 0 (endK ctx [.bool] [(.tmp 2)]) (encD [(0, (.d .str)), (3, (.d (.int .i64)))] (x0, x3, ()) (startD sg.U ⟨55, [], []⟩ [(0, (.d .str)), (3, (.d (.int .i64)))])) := by
  rw [tree_isPart.l0]
  kernel_rfl
theorem tree_isPart.f_eq (k : Nat) (a0 : ByteArray) : tree_isPart.f k a0 = codeK (C := ctx) (tree_isPart.O k) ⟨55, [], []⟩ (tree_isPart.L k) (Tryz.f158.body.getD .skip) tree_isPart.a (endK ctx [.bool] [(.tmp 2)]) (slotsOf sg.U 0 [(.d .str)] (a0, ()) (empty sg.U)) := by
  unfold tree_isPart.f
  kernel_rfl
def tree_isPart.e (k : Nat) : Entry sg := entryOf sg [(.d .str)] [.bool] (fun h => tree_isPart.f k h.1)
def tree_isPart.T : List (Lb sg (RT sg.U [.bool])) := [⟨0, [(0, (.d .str)), (3, (.d (.int .i64)))], fun k h => tree_isPart.l0 k h.1 h.2.1⟩]
theorem tree_isPart.ok (k : Nat) : (tree_isPart.e k).Sound Tryz.prog ctx 158 :=
  entry_ok base_ok mo (fn := Tryz.f158) (b := (Tryz.f158.body.getD .skip)) (pm := [(.d .str)]) (rs := [.bool]) (an := tree_isPart.a) (N := 55) (vars := [(.tmp 2)]) Tryz.func158 (by kernel_rfl) (by kernel_rfl) (by kernel_rfl) (by kernel_rfl) (by kernel_rfl) (by kernel_rfl) (O := tree_isPart.O)
    (fun k => by unfold tree_isPart.O; exact oracle_of (P := Tryz.prog) (C := ctx) ⟨(tree_isSmall.ok), ⟨(tree_isDigit.ok), trivial⟩⟩) tree_isPart.T ⟨⟨by kernel_rfl, fun _ => by first | rfl | rw [tree_isPart.l0], fun k h => tree_isPart.l0_eq k h.1 h.2.1⟩, trivial⟩ k (fun h => tree_isPart.f_eq k h.1)
def tree_isPath.l0 : Nat → (List ByteArray) → Int → Int → Option (Bool)
  | 0, _, _, _ => none
  | k + 1, x9, x10, x11 => (bif (ilt x11 x10) then ((lat x9 x11).bind fun y2 => ((tree_isPart.f k y2).bind fun y3 => (bif (!y3) then (some false) else (tree_isPath.l0 k x9 x10 (wadd .i64 x11 1))))) else (some true))
def tree_isPath.f (k : Nat) (a0 : ByteArray) : Option (Bool) := (bif (ilt 200 (slen a0)) then (some false) else ((strings_Split.f a0 c__2f).bind fun y1 => (tree_isPath.l0 k y1 (llen y1) 0)))
def tree_isPath.O (k : Nat) : Oracle sg := fun n => lkp n [(77, strings_Split.e), (158, tree_isPart.e k)]
def tree_isPath.a : Ann := (.n .z (.n .z (.n (.n .z (.lp 0 .z)) .z)))
def tree_isPath.L (k : Nat) : Nat → St sg.U → Option (RT sg.U [.bool]) := labs [(0, labOf sg [(9, (.d (.sl .str))), (10, (.d (.int .i64))), (11, (.d (.int .i64)))] (fun h => tree_isPath.l0 k h.1 h.2.1 h.2.2.1))]
theorem tree_isPath.l0_eq (k : Nat) (x9 : (List ByteArray)) (x10 : Int) (x11 : Int) : tree_isPath.l0 (k + 1) x9 x10 x11 = runFrom (C := ctx) (tree_isPath.O k) ⟨19, [], []⟩ (tree_isPath.L k) (Tryz.f141.body.getD .skip) tree_isPath.a 0 (endK ctx [.bool] [(.tmp 2)]) (encD [(9, (.d (.sl .str))), (10, (.d (.int .i64))), (11, (.d (.int .i64)))] (x9, x10, x11, ()) (startD sg.U ⟨19, [], []⟩ [(9, (.d (.sl .str))), (10, (.d (.int .i64))), (11, (.d (.int .i64)))])) := by
  rw [tree_isPath.l0]
  kernel_rfl
theorem tree_isPath.f_eq (k : Nat) (a0 : ByteArray) : tree_isPath.f k a0 = codeK (C := ctx) (tree_isPath.O k) ⟨19, [], []⟩ (tree_isPath.L k) (Tryz.f141.body.getD .skip) tree_isPath.a (endK ctx [.bool] [(.tmp 2)]) (slotsOf sg.U 0 [(.d .str)] (a0, ()) (empty sg.U)) := by
  unfold tree_isPath.f
  kernel_rfl
def tree_isPath.e (k : Nat) : Entry sg := entryOf sg [(.d .str)] [.bool] (fun h => tree_isPath.f k h.1)
def tree_isPath.T : List (Lb sg (RT sg.U [.bool])) := [⟨0, [(9, (.d (.sl .str))), (10, (.d (.int .i64))), (11, (.d (.int .i64)))], fun k h => tree_isPath.l0 k h.1 h.2.1 h.2.2.1⟩]
theorem tree_isPath.ok (k : Nat) : (tree_isPath.e k).Sound Tryz.prog ctx 141 :=
  entry_ok base_ok mo (fn := Tryz.f141) (b := (Tryz.f141.body.getD .skip)) (pm := [(.d .str)]) (rs := [.bool]) (an := tree_isPath.a) (N := 19) (vars := [(.tmp 2)]) Tryz.func141 (by kernel_rfl) (by kernel_rfl) (by kernel_rfl) (by kernel_rfl) (by kernel_rfl) (by kernel_rfl) (O := tree_isPath.O)
    (fun k => by unfold tree_isPath.O; exact oracle_of (P := Tryz.prog) (C := ctx) ⟨(strings_Split.ok), ⟨(tree_isPart.ok k), trivial⟩⟩) tree_isPath.T ⟨⟨by kernel_rfl, fun _ => by first | rfl | rw [tree_isPath.l0], fun k h => tree_isPath.l0_eq k h.1 h.2.1 h.2.2.1⟩, trivial⟩ k (fun h => tree_isPath.f_eq k h.1)
def tree_CheckPath.f (k : Nat) (a0 : ByteArray) : Option (Int) := ((tree_isPath.f k a0).bind fun y1 => (bif (!y1) then (some 3) else (some 0)))
def tree_CheckPath.O (k : Nat) : Oracle sg := fun n => lkp n [(141, tree_isPath.e k)]
def tree_CheckPath.a : Ann := .z
def tree_CheckPath.L (k : Nat) : Nat → St sg.U → Option (RT sg.U [(.int .i64)]) := labs []
theorem tree_CheckPath.f_eq (k : Nat) (a0 : ByteArray) : tree_CheckPath.f k a0 = codeK (C := ctx) (tree_CheckPath.O k) ⟨6, [], []⟩ (tree_CheckPath.L k) (Tryz.f203.body.getD .skip) tree_CheckPath.a (endK ctx [(.int .i64)] [(.tmp 2)]) (slotsOf sg.U 0 [(.d .str)] (a0, ()) (empty sg.U)) := by
  unfold tree_CheckPath.f
  kernel_rfl
def tree_CheckPath.e (k : Nat) : Entry sg := entryOf sg [(.d .str)] [(.int .i64)] (fun h => tree_CheckPath.f k h.1)
def tree_CheckPath.T : List (Lb sg (RT sg.U [(.int .i64)])) := []
theorem tree_CheckPath.ok (k : Nat) : (tree_CheckPath.e k).Sound Tryz.prog ctx 203 :=
  entry_ok base_ok mo (fn := Tryz.f203) (b := (Tryz.f203.body.getD .skip)) (pm := [(.d .str)]) (rs := [(.int .i64)]) (an := tree_CheckPath.a) (N := 6) (vars := [(.tmp 2)]) Tryz.func203 (by kernel_rfl) (by kernel_rfl) (by kernel_rfl) (by kernel_rfl) (by kernel_rfl) (by kernel_rfl) (O := tree_CheckPath.O)
    (fun k => by unfold tree_CheckPath.O; exact oracle_of (P := Tryz.prog) (C := ctx) ⟨(tree_isPath.ok k), trivial⟩) tree_CheckPath.T trivial k (fun h => tree_CheckPath.f_eq k h.1)
def asset_isPath.f (k : Nat) (a0 : ByteArray) : Option (Bool) := ((tree_CheckPath.f k a0).bind fun y1 => (some (ieq y1 0)))
def asset_isPath.O (k : Nat) : Oracle sg := fun n => lkp n [(203, tree_CheckPath.e k)]
def asset_isPath.a : Ann := .z
def asset_isPath.L (k : Nat) : Nat → St sg.U → Option (RT sg.U [.bool]) := labs []
theorem asset_isPath.f_eq (k : Nat) (a0 : ByteArray) : asset_isPath.f k a0 = codeK (C := ctx) (asset_isPath.O k) ⟨6, [], []⟩ (asset_isPath.L k) (Tryz.f104.body.getD .skip) asset_isPath.a (endK ctx [.bool] [(.tmp 2)]) (slotsOf sg.U 0 [(.d .str)] (a0, ()) (empty sg.U)) := by
  unfold asset_isPath.f
  kernel_rfl
def asset_isPath.e (k : Nat) : Entry sg := entryOf sg [(.d .str)] [.bool] (fun h => asset_isPath.f k h.1)
def asset_isPath.T : List (Lb sg (RT sg.U [.bool])) := []
theorem asset_isPath.ok (k : Nat) : (asset_isPath.e k).Sound Tryz.prog ctx 104 :=
  entry_ok base_ok mo (fn := Tryz.f104) (b := (Tryz.f104.body.getD .skip)) (pm := [(.d .str)]) (rs := [.bool]) (an := asset_isPath.a) (N := 6) (vars := [(.tmp 2)]) Tryz.func104 (by kernel_rfl) (by kernel_rfl) (by kernel_rfl) (by kernel_rfl) (by kernel_rfl) (by kernel_rfl) (O := asset_isPath.O)
    (fun k => by unfold asset_isPath.O; exact oracle_of (P := Tryz.prog) (C := ctx) ⟨(tree_CheckPath.ok k), trivial⟩) asset_isPath.T trivial k (fun h => asset_isPath.f_eq k h.1)
mutual
def asset_partsFault.l0 : Nat → (List ByteArray) → (List ByteArray) → Int → Int → Option (Int)
  | 0, _, _, _, _ => none
  | k + 1, x0, x7, x8, x9 => (bif (ilt x9 x8) then ((lat x7 x9).bind fun y1 => ((asset_isPath.f k y1).bind fun y2 => (bif (!y2) then (some 3) else ((lsub x0 0 x9).bind fun y3 => (asset_partsFault.l1 k x0 y1 x7 x8 x9 y3 (llen y3) 0))))) else (some 0))
def asset_partsFault.l1 : Nat → (List ByteArray) → ByteArray → (List ByteArray) → Int → Int → (List ByteArray) → Int → Int → Option (Int)
  | 0, _, _, _, _, _, _, _, _ => none
  | k + 1, x0, x4, x7, x8, x9, x19, x20, x21 => (bif (ilt x21 x20) then ((lat x19 x21).bind fun y4 => (bif (seq x4 y4) then (some 6) else (asset_partsFault.l1 k x0 x4 x7 x8 x9 x19 x20 (wadd .i64 x21 1)))) else (asset_partsFault.l0 k x0 x7 x8 (wadd .i64 x9 1)))
end
def asset_partsFault.f (k : Nat) (a0 : (List ByteArray)) : Option (Int) := (asset_partsFault.l0 k a0 a0 (llen a0) 0)
def asset_partsFault.O (k : Nat) : Oracle sg := fun n => lkp n [(104, asset_isPath.e k)]
def asset_partsFault.a : Ann := (.n .z (.n (.n .z (.lp 0 (.n .z (.n .z (.n (.n .z (.n .z (.n .z (.lp 1 .z)))) .z))))) .z))
def asset_partsFault.L (k : Nat) : Nat → St sg.U → Option (RT sg.U [(.int .i64)]) := labs [(0, labOf sg [(0, (.d (.sl .str))), (7, (.d (.sl .str))), (8, (.d (.int .i64))), (9, (.d (.int .i64)))] (fun h => asset_partsFault.l0 k h.1 h.2.1 h.2.2.1 h.2.2.2.1)), (1, labOf sg [(0, (.d (.sl .str))), (4, (.d .str)), (7, (.d (.sl .str))), (8, (.d (.int .i64))), (9, (.d (.int .i64))), (19, (.d (.sl .str))), (20, (.d (.int .i64))), (21, (.d (.int .i64)))] (fun h => asset_partsFault.l1 k h.1 h.2.1 h.2.2.1 h.2.2.2.1 h.2.2.2.2.1 h.2.2.2.2.2.1 h.2.2.2.2.2.2.1 h.2.2.2.2.2.2.2.1))]
theorem asset_partsFault.l0_eq (k : Nat) (x0 : (List ByteArray)) (x7 : (List ByteArray)) (x8 : Int) (x9 : Int) : asset_partsFault.l0 (k + 1) x0 x7 x8 x9 = runFrom (C := ctx) (asset_partsFault.O k) ⟨30, [], []⟩ (asset_partsFault.L k) (Tryz.f35.body.getD .skip) asset_partsFault.a 0 (endK ctx [(.int .i64)] [(.tmp 2)]) (encD [(0, (.d (.sl .str))), (7, (.d (.sl .str))), (8, (.d (.int .i64))), (9, (.d (.int .i64)))] (x0, x7, x8, x9, ()) (startD sg.U ⟨30, [], []⟩ [(0, (.d (.sl .str))), (7, (.d (.sl .str))), (8, (.d (.int .i64))), (9, (.d (.int .i64)))])) := by
  rw [asset_partsFault.l0]
  kernel_rfl
theorem asset_partsFault.l1_eq (k : Nat) (x0 : (List ByteArray)) (x4 : ByteArray) (x7 : (List ByteArray)) (x8 : Int) (x9 : Int) (x19 : (List ByteArray)) (x20 : Int) (x21 : Int) : asset_partsFault.l1 (k + 1) x0 x4 x7 x8 x9 x19 x20 x21 = runFrom (C := ctx) (asset_partsFault.O k) ⟨30, [], []⟩ (asset_partsFault.L k) (Tryz.f35.body.getD .skip) asset_partsFault.a 1 (endK ctx [(.int .i64)] [(.tmp 2)]) (encD [(0, (.d (.sl .str))), (4, (.d .str)), (7, (.d (.sl .str))), (8, (.d (.int .i64))), (9, (.d (.int .i64))), (19, (.d (.sl .str))), (20, (.d (.int .i64))), (21, (.d (.int .i64)))] (x0, x4, x7, x8, x9, x19, x20, x21, ()) (startD sg.U ⟨30, [], []⟩ [(0, (.d (.sl .str))), (4, (.d .str)), (7, (.d (.sl .str))), (8, (.d (.int .i64))), (9, (.d (.int .i64))), (19, (.d (.sl .str))), (20, (.d (.int .i64))), (21, (.d (.int .i64)))])) := by
  rw [asset_partsFault.l1]
  kernel_rfl
theorem asset_partsFault.f_eq (k : Nat) (a0 : (List ByteArray)) : asset_partsFault.f k a0 = codeK (C := ctx) (asset_partsFault.O k) ⟨30, [], []⟩ (asset_partsFault.L k) (Tryz.f35.body.getD .skip) asset_partsFault.a (endK ctx [(.int .i64)] [(.tmp 2)]) (slotsOf sg.U 0 [(.d (.sl .str))] (a0, ()) (empty sg.U)) := by
  unfold asset_partsFault.f
  kernel_rfl
def asset_partsFault.e (k : Nat) : Entry sg := entryOf sg [(.d (.sl .str))] [(.int .i64)] (fun h => asset_partsFault.f k h.1)
def asset_partsFault.T : List (Lb sg (RT sg.U [(.int .i64)])) := [⟨0, [(0, (.d (.sl .str))), (7, (.d (.sl .str))), (8, (.d (.int .i64))), (9, (.d (.int .i64)))], fun k h => asset_partsFault.l0 k h.1 h.2.1 h.2.2.1 h.2.2.2.1⟩, ⟨1, [(0, (.d (.sl .str))), (4, (.d .str)), (7, (.d (.sl .str))), (8, (.d (.int .i64))), (9, (.d (.int .i64))), (19, (.d (.sl .str))), (20, (.d (.int .i64))), (21, (.d (.int .i64)))], fun k h => asset_partsFault.l1 k h.1 h.2.1 h.2.2.1 h.2.2.2.1 h.2.2.2.2.1 h.2.2.2.2.2.1 h.2.2.2.2.2.2.1 h.2.2.2.2.2.2.2.1⟩]
theorem asset_partsFault.ok (k : Nat) : (asset_partsFault.e k).Sound Tryz.prog ctx 35 :=
  entry_ok base_ok mo (fn := Tryz.f35) (b := (Tryz.f35.body.getD .skip)) (pm := [(.d (.sl .str))]) (rs := [(.int .i64)]) (an := asset_partsFault.a) (N := 30) (vars := [(.tmp 2)]) Tryz.func35 (by kernel_rfl) (by kernel_rfl) (by kernel_rfl) (by kernel_rfl) (by kernel_rfl) (by kernel_rfl) (O := asset_partsFault.O)
    (fun k => by unfold asset_partsFault.O; exact oracle_of (P := Tryz.prog) (C := ctx) ⟨(asset_isPath.ok k), trivial⟩) asset_partsFault.T ⟨⟨by kernel_rfl, fun _ => by first | rfl | rw [asset_partsFault.l0], fun k h => asset_partsFault.l0_eq k h.1 h.2.1 h.2.2.1 h.2.2.2.1⟩, ⟨⟨by kernel_rfl, fun _ => by first | rfl | rw [asset_partsFault.l1], fun k h => asset_partsFault.l1_eq k h.1 h.2.1 h.2.2.1 h.2.2.2.1 h.2.2.2.2.1 h.2.2.2.2.2.1 h.2.2.2.2.2.2.1 h.2.2.2.2.2.2.2.1⟩, trivial⟩⟩ k (fun h => asset_partsFault.f_eq k h.1)

def bld_string.e : Entry sg := bsE sg 73 5
theorem bld_string.ok : (bld_string.e).Sound Tryz.prog ctx 36 :=
  bsE_sound (C := ctx) Tryz.Builder_Extra_169 Tryz.lays169 Tryz.func36 (by kernel_rfl) (by kernel_rfl)
mutual
def asset_Bundle.l0 : Nat → (List T_api_File) → ByteArray → (List ByteArray) → (List Int) → (List T_api_File) → Int → Int → Option (T_asset_Bundled × Int)
  | 0, _, _, _, _, _, _, _ => none
  | k + 1, x0, x2_0, x2_1, x2_2, x11, x12, x13 => (bif (ilt x13 x12) then ((lat x11 x13).bind fun y1 => (bif (ilt 20000 (slen y1.fBody)) then (some ((T_asset_Bundled.mk c_empty [] []), 4)) else (asset_Bundle.l0 k x0 x2_0 x2_1 x2_2 x11 x12 (wadd .i64 x13 1)))) else (bif (ilt 40 (llen x0)) then (some ((T_asset_Bundled.mk c_empty [] []), 4)) else (asset_Bundle.l1 k x2_0 x2_1 x2_2 c_empty [] [] [] x0 (llen x0) 0)))
def asset_Bundle.l1 : Nat → ByteArray → (List ByteArray) → (List Int) → ByteArray → (List ByteArray) → (List Int) → (List Int) → (List T_api_File) → Int → Int → Option (T_asset_Bundled × Int)
  | 0, _, _, _, _, _, _, _, _, _, _ => none
  | k + 1, x2_0, x2_1, x2_2, x6_0, x6_1, x6_2, x7, x28, x29, x30 => (bif (ilt x30 x29) then ((lat x28 x30).bind fun y2 => ((lapp 16 x6_1 [y2.fPath]).bind fun y3 => ((lapp 1 x7 (sbytes y2.fBody)).bind fun y4 => (bif (!seq y2.fBody c_empty) then ((strings_HasSuffix.f y2.fBody c__0a).bind fun y5 => (bif (!y5) then ((lapp 1 y4 [10]).bind fun y6 => (asset_Bundle.l2 k x2_0 x2_1 x2_2 x6_0 y3 x6_2 y6 x28 x29 x30)) else (asset_Bundle.l2 k x2_0 x2_1 x2_2 x6_0 y3 x6_2 y4 x28 x29 x30))) else (asset_Bundle.l2 k x2_0 x2_1 x2_2 x6_0 y3 x6_2 y4 x28 x29 x30))))) else ((asset_partsFault.f k x6_1).bind fun y7 => (bif (!ieq y7 0) then (some ((T_asset_Bundled.mk c_empty [] []), y7)) else (bif (ilt 200000 (slen (bstr x7))) then (some ((T_asset_Bundled.mk c_empty [] []), 4)) else (some ((T_asset_Bundled.mk (bstr x7) x6_1 x6_2), 0))))))
def asset_Bundle.l2 : Nat → ByteArray → (List ByteArray) → (List Int) → ByteArray → (List ByteArray) → (List Int) → (List Int) → (List T_api_File) → Int → Int → Option (T_asset_Bundled × Int)
  | 0, _, _, _, _, _, _, _, _, _, _ => none
  | k + 1, x2_0, x2_1, x2_2, x6_0, x6_1, x6_2, x7, x28, x29, x30 => ((lapp 8 x6_2 [(llen x7)]).bind fun y8 => (asset_Bundle.l1 k x2_0 x2_1 x2_2 x6_0 x6_1 y8 x7 x28 x29 (wadd .i64 x30 1)))
end
def asset_Bundle.f (k : Nat) (a0 : (List T_api_File)) : Option (T_asset_Bundled × Int) := (asset_Bundle.l0 k a0 c_empty [] [] a0 (llen a0) 0)
def asset_Bundle.O (k : Nat) : Oracle sg := fun n => lkp n [(31, bld_write.e), (32, strings_HasSuffix.e), (33, bld_byte.e), (34, bld_len.e), (35, asset_partsFault.e k), (36, bld_string.e)]
def asset_Bundle.a : Ann := (.n .z (.n (.n .z (.lp 0 .z)) (.n .z (.n .z (.n .z (.n (.n .z (.lp 1 (.n .z (.n .z (.n (.n .z (.n .z (.n .z (.n .z (.lab 2 .z))))) .z))))) .z))))))
def asset_Bundle.L (k : Nat) : Nat → St sg.U → Option (RT sg.U [(.st 1), (.int .i64)]) := labs [(0, labOf sg [(0, (.d (.sl (.st 0)))), (2, (.box [.d .str, .row 9 .str, .row 3 (.int .i64)])), (11, (.d (.sl (.st 0)))), (12, (.d (.int .i64))), (13, (.d (.int .i64)))] (fun h => asset_Bundle.l0 k h.1 h.2.1 h.2.2.1 h.2.2.2.1 h.2.2.2.2.1 h.2.2.2.2.2.1 h.2.2.2.2.2.2.1)), (1, labOf sg [(2, (.box [.d .str, .row 9 .str, .row 3 (.int .i64)])), (6, (.box [.d .str, .row 9 .str, .row 3 (.int .i64)])), (7, (.bd 73 5)), (28, (.d (.sl (.st 0)))), (29, (.d (.int .i64))), (30, (.d (.int .i64)))] (fun h => asset_Bundle.l1 k h.1 h.2.1 h.2.2.1 h.2.2.2.1 h.2.2.2.2.1 h.2.2.2.2.2.1 h.2.2.2.2.2.2.1 h.2.2.2.2.2.2.2.1 h.2.2.2.2.2.2.2.2.1 h.2.2.2.2.2.2.2.2.2.1)), (2, labOf sg [(2, (.box [.d .str, .row 9 .str, .row 3 (.int .i64)])), (6, (.box [.d .str, .row 9 .str, .row 3 (.int .i64)])), (7, (.bd 73 5)), (28, (.d (.sl (.st 0)))), (29, (.d (.int .i64))), (30, (.d (.int .i64)))] (fun h => asset_Bundle.l2 k h.1 h.2.1 h.2.2.1 h.2.2.2.1 h.2.2.2.2.1 h.2.2.2.2.2.1 h.2.2.2.2.2.2.1 h.2.2.2.2.2.2.2.1 h.2.2.2.2.2.2.2.2.1 h.2.2.2.2.2.2.2.2.2.1))]
theorem asset_Bundle.l0_eq (k : Nat) (x0 : (List T_api_File)) (x2_0 : ByteArray) (x2_1 : (List ByteArray)) (x2_2 : (List Int)) (x11 : (List T_api_File)) (x12 : Int) (x13 : Int) : asset_Bundle.l0 (k + 1) x0 x2_0 x2_1 x2_2 x11 x12 x13 = runFrom (C := ctx) (asset_Bundle.O k) ⟨76, [], []⟩ (asset_Bundle.L k) (Tryz.f11.body.getD .skip) asset_Bundle.a 0 (endK ctx [(.st 1), (.int .i64)] [(.cell 2 26), (.tmp 3)]) (encD [(0, (.d (.sl (.st 0)))), (2, (.box [.d .str, .row 9 .str, .row 3 (.int .i64)])), (11, (.d (.sl (.st 0)))), (12, (.d (.int .i64))), (13, (.d (.int .i64)))] (x0, x2_0, x2_1, x2_2, x11, x12, x13, ()) (startD sg.U ⟨76, [], []⟩ [(0, (.d (.sl (.st 0)))), (2, (.box [.d .str, .row 9 .str, .row 3 (.int .i64)])), (11, (.d (.sl (.st 0)))), (12, (.d (.int .i64))), (13, (.d (.int .i64)))])) := by
  rw [asset_Bundle.l0]
  kernel_rfl
theorem asset_Bundle.l1_eq (k : Nat) (x2_0 : ByteArray) (x2_1 : (List ByteArray)) (x2_2 : (List Int)) (x6_0 : ByteArray) (x6_1 : (List ByteArray)) (x6_2 : (List Int)) (x7 : (List Int)) (x28 : (List T_api_File)) (x29 : Int) (x30 : Int) : asset_Bundle.l1 (k + 1) x2_0 x2_1 x2_2 x6_0 x6_1 x6_2 x7 x28 x29 x30 = runFrom (C := ctx) (asset_Bundle.O k) ⟨76, [], []⟩ (asset_Bundle.L k) (Tryz.f11.body.getD .skip) asset_Bundle.a 1 (endK ctx [(.st 1), (.int .i64)] [(.cell 2 26), (.tmp 3)]) (encD [(2, (.box [.d .str, .row 9 .str, .row 3 (.int .i64)])), (6, (.box [.d .str, .row 9 .str, .row 3 (.int .i64)])), (7, (.bd 73 5)), (28, (.d (.sl (.st 0)))), (29, (.d (.int .i64))), (30, (.d (.int .i64)))] (x2_0, x2_1, x2_2, x6_0, x6_1, x6_2, x7, x28, x29, x30, ()) (startD sg.U ⟨76, [], []⟩ [(2, (.box [.d .str, .row 9 .str, .row 3 (.int .i64)])), (6, (.box [.d .str, .row 9 .str, .row 3 (.int .i64)])), (7, (.bd 73 5)), (28, (.d (.sl (.st 0)))), (29, (.d (.int .i64))), (30, (.d (.int .i64)))])) := by
  rw [asset_Bundle.l1]
  kernel_rfl
theorem asset_Bundle.l2_eq (k : Nat) (x2_0 : ByteArray) (x2_1 : (List ByteArray)) (x2_2 : (List Int)) (x6_0 : ByteArray) (x6_1 : (List ByteArray)) (x6_2 : (List Int)) (x7 : (List Int)) (x28 : (List T_api_File)) (x29 : Int) (x30 : Int) : asset_Bundle.l2 (k + 1) x2_0 x2_1 x2_2 x6_0 x6_1 x6_2 x7 x28 x29 x30 = runFrom (C := ctx) (asset_Bundle.O k) ⟨76, [], []⟩ (asset_Bundle.L k) (Tryz.f11.body.getD .skip) asset_Bundle.a 2 (endK ctx [(.st 1), (.int .i64)] [(.cell 2 26), (.tmp 3)]) (encD [(2, (.box [.d .str, .row 9 .str, .row 3 (.int .i64)])), (6, (.box [.d .str, .row 9 .str, .row 3 (.int .i64)])), (7, (.bd 73 5)), (28, (.d (.sl (.st 0)))), (29, (.d (.int .i64))), (30, (.d (.int .i64)))] (x2_0, x2_1, x2_2, x6_0, x6_1, x6_2, x7, x28, x29, x30, ()) (startD sg.U ⟨76, [], []⟩ [(2, (.box [.d .str, .row 9 .str, .row 3 (.int .i64)])), (6, (.box [.d .str, .row 9 .str, .row 3 (.int .i64)])), (7, (.bd 73 5)), (28, (.d (.sl (.st 0)))), (29, (.d (.int .i64))), (30, (.d (.int .i64)))])) := by
  rw [asset_Bundle.l2]
  kernel_rfl
theorem asset_Bundle.f_eq (k : Nat) (a0 : (List T_api_File)) : asset_Bundle.f k a0 = codeK (C := ctx) (asset_Bundle.O k) ⟨76, [], []⟩ (asset_Bundle.L k) (Tryz.f11.body.getD .skip) asset_Bundle.a (endK ctx [(.st 1), (.int .i64)] [(.cell 2 26), (.tmp 3)]) (slotsOf sg.U 0 [(.d (.sl (.st 0)))] (a0, ()) (empty sg.U)) := by
  unfold asset_Bundle.f
  kernel_rfl
def asset_Bundle.e (k : Nat) : Entry sg := entryOf sg [(.d (.sl (.st 0)))] [(.st 1), (.int .i64)] (fun h => asset_Bundle.f k h.1)
def asset_Bundle.T : List (Lb sg (RT sg.U [(.st 1), (.int .i64)])) := [⟨0, [(0, (.d (.sl (.st 0)))), (2, (.box [.d .str, .row 9 .str, .row 3 (.int .i64)])), (11, (.d (.sl (.st 0)))), (12, (.d (.int .i64))), (13, (.d (.int .i64)))], fun k h => asset_Bundle.l0 k h.1 h.2.1 h.2.2.1 h.2.2.2.1 h.2.2.2.2.1 h.2.2.2.2.2.1 h.2.2.2.2.2.2.1⟩, ⟨1, [(2, (.box [.d .str, .row 9 .str, .row 3 (.int .i64)])), (6, (.box [.d .str, .row 9 .str, .row 3 (.int .i64)])), (7, (.bd 73 5)), (28, (.d (.sl (.st 0)))), (29, (.d (.int .i64))), (30, (.d (.int .i64)))], fun k h => asset_Bundle.l1 k h.1 h.2.1 h.2.2.1 h.2.2.2.1 h.2.2.2.2.1 h.2.2.2.2.2.1 h.2.2.2.2.2.2.1 h.2.2.2.2.2.2.2.1 h.2.2.2.2.2.2.2.2.1 h.2.2.2.2.2.2.2.2.2.1⟩, ⟨2, [(2, (.box [.d .str, .row 9 .str, .row 3 (.int .i64)])), (6, (.box [.d .str, .row 9 .str, .row 3 (.int .i64)])), (7, (.bd 73 5)), (28, (.d (.sl (.st 0)))), (29, (.d (.int .i64))), (30, (.d (.int .i64)))], fun k h => asset_Bundle.l2 k h.1 h.2.1 h.2.2.1 h.2.2.2.1 h.2.2.2.2.1 h.2.2.2.2.2.1 h.2.2.2.2.2.2.1 h.2.2.2.2.2.2.2.1 h.2.2.2.2.2.2.2.2.1 h.2.2.2.2.2.2.2.2.2.1⟩]
theorem asset_Bundle.ok (k : Nat) : (asset_Bundle.e k).Sound Tryz.prog ctx 11 :=
  entry_ok base_ok mo (fn := Tryz.f11) (b := (Tryz.f11.body.getD .skip)) (pm := [(.d (.sl (.st 0)))]) (rs := [(.st 1), (.int .i64)]) (an := asset_Bundle.a) (N := 76) (vars := [(.cell 2 26), (.tmp 3)]) Tryz.func11 (by kernel_rfl) (by kernel_rfl) (by kernel_rfl) (by kernel_rfl) (by kernel_rfl) (by kernel_rfl) (O := asset_Bundle.O)
    (fun k => by unfold asset_Bundle.O; exact oracle_of (P := Tryz.prog) (C := ctx) ⟨(bld_write.ok), ⟨(strings_HasSuffix.ok), ⟨(bld_byte.ok), ⟨(bld_len.ok), ⟨(asset_partsFault.ok k), ⟨(bld_string.ok), trivial⟩⟩⟩⟩⟩⟩) asset_Bundle.T ⟨⟨by kernel_rfl, fun _ => by first | rfl | rw [asset_Bundle.l0], fun k h => asset_Bundle.l0_eq k h.1 h.2.1 h.2.2.1 h.2.2.2.1 h.2.2.2.2.1 h.2.2.2.2.2.1 h.2.2.2.2.2.2.1⟩, ⟨⟨by kernel_rfl, fun _ => by first | rfl | rw [asset_Bundle.l1], fun k h => asset_Bundle.l1_eq k h.1 h.2.1 h.2.2.1 h.2.2.2.1 h.2.2.2.2.1 h.2.2.2.2.2.1 h.2.2.2.2.2.2.1 h.2.2.2.2.2.2.2.1 h.2.2.2.2.2.2.2.2.1 h.2.2.2.2.2.2.2.2.2.1⟩, ⟨⟨by kernel_rfl, fun _ => by first | rfl | rw [asset_Bundle.l2], fun k h => asset_Bundle.l2_eq k h.1 h.2.1 h.2.2.1 h.2.2.2.1 h.2.2.2.2.1 h.2.2.2.2.2.1 h.2.2.2.2.2.2.1 h.2.2.2.2.2.2.2.1 h.2.2.2.2.2.2.2.2.1 h.2.2.2.2.2.2.2.2.2.1⟩, trivial⟩⟩⟩ k (fun h => asset_Bundle.f_eq k h.1)
def strings_Trim.f (a0 : ByteArray) (a1 : ByteArray) : Option (ByteArray) := if a0.size ≤ 9223372036854775807 ∧ a1.size < 4294967281 ∧ (a1.data.toList.all fun b => decide (b.toNat < 128)) = true then some (⟨(Lib.trimS a0.data.toList a1.data.toList).toArray⟩) else none
def strings_Trim.e : Entry sg := entryOf sg [(.d .str), (.d .str)] [.str] (fun h => strings_Trim.f h.1 h.2.1)
theorem strings_Trim.ok : (strings_Trim.e).Sound Tryz.prog ctx 81 :=
  entry_extern (C := ctx) sg_ok Tryz.func81 (by kernel_rfl) (by kernel_rfl) (by kernel_rfl) (by kernel_rfl) (fun hh x w hx hG => by
    unfold strings_Trim.f at hx
    split at hx
    · rename_i c
      obtain rfl := Option.some.inj hx
      refine (Any.strings_Trim_laid Tryz.lays160 (by kernel_rfl) hh.1 hh.2.1 w c.1 c.2.1 (ascii_of_all c.2.2)).mono ?_
      rintro e w' ⟨rfl, hb⟩
      exact ⟨rfl, by first | exact hb ▸ Grow.refl _ | exact Grow.of_below hb | (obtain ⟨k, os, rfl⟩ := hb; exact Grow.of_below (Lib.below_grow _ w (Nat.le_refl _) k os))⟩
    · cases hx)
def mastref2_IsPart.f (a0 : ByteArray) : Option (Bool) := (bif (bif (bif (bif (!seq a0 c_empty) then (ile (slen a0) 40) else false) then (!seq a0 c__2e) else false) then (!seq a0 c__2e_2e) else false) then ((strings_Trim.f a0 c_abcdefghijklmnopqrst_c1516678).bind fun y1 => (some (seq y1 c_empty))) else (some false))
def mastref2_IsPart.O : Oracle sg := fun n => lkp n [(81, strings_Trim.e)]
def mastref2_IsPart.a : Ann := .z
def mastref2_IsPart.L : Nat → St sg.U → Option (RT sg.U [.bool]) := labs []
theorem mastref2_IsPart.f_eq (a0 : ByteArray) : mastref2_IsPart.f a0 = codeK (C := ctx) (mastref2_IsPart.O) ⟨23, [], []⟩ (mastref2_IsPart.L) (Tryz.f78.body.getD .skip) mastref2_IsPart.a (endK ctx [.bool] [(.tmp 2)]) (slotsOf sg.U 0 [(.d .str)] (a0, ()) (empty sg.U)) := by
  unfold mastref2_IsPart.f
  kernel_rfl
def mastref2_IsPart.e : Entry sg := entryOf sg [(.d .str)] [.bool] (fun h => mastref2_IsPart.f h.1)
def mastref2_IsPart.T : List (Lb sg (RT sg.U [.bool])) := []
theorem mastref2_IsPart.ok : (mastref2_IsPart.e).Sound Tryz.prog ctx 78 :=
  entry_ok base_ok mo (fn := Tryz.f78) (b := (Tryz.f78.body.getD .skip)) (pm := [(.d .str)]) (rs := [.bool]) (an := mastref2_IsPart.a) (N := 23) (vars := [(.tmp 2)]) Tryz.func78 (by kernel_rfl) (by kernel_rfl) (by kernel_rfl) (by kernel_rfl) (by kernel_rfl) (by kernel_rfl) (O := fun _ => mastref2_IsPart.O)
    (fun _ => by unfold mastref2_IsPart.O; exact oracle_of (P := Tryz.prog) (C := ctx) ⟨(strings_Trim.ok), trivial⟩) mastref2_IsPart.T trivial 0 (fun h => mastref2_IsPart.f_eq h.1)
def mastref2_IsPath_c1.f (a0 : ByteArray) : Option (Bool) := ((mastref2_IsPart.f a0).bind fun y1 => (some (!y1)))
def mastref2_IsPath_c1.O : Oracle sg := fun n => lkp n [(78, mastref2_IsPart.e)]
def mastref2_IsPath_c1.a : Ann := .z
def mastref2_IsPath_c1.L : Nat → St sg.U → Option (RT sg.U [.bool]) := labs []
theorem mastref2_IsPath_c1.f_eq (a0 : ByteArray) : mastref2_IsPath_c1.f a0 = codeK (C := ctx) (mastref2_IsPath_c1.O) ⟨6, [], []⟩ (mastref2_IsPath_c1.L) (Tryz.f106.body.getD .skip) mastref2_IsPath_c1.a (endK ctx [.bool] [(.tmp 2)]) (slotsOf sg.U 0 [(.d .str)] (a0, ()) (empty sg.U)) := by
  unfold mastref2_IsPath_c1.f
  kernel_rfl
def mastref2_IsPath_c1.e : Entry sg := entryOf sg [(.d .str)] [.bool] (fun h => mastref2_IsPath_c1.f h.1)
def mastref2_IsPath_c1.T : List (Lb sg (RT sg.U [.bool])) := []
theorem mastref2_IsPath_c1.ok : (mastref2_IsPath_c1.e).Sound Tryz.prog ctx 106 :=
  entry_ok base_ok mo (fn := Tryz.f106) (b := (Tryz.f106.body.getD .skip)) (pm := [(.d .str)]) (rs := [.bool]) (an := mastref2_IsPath_c1.a) (N := 6) (vars := [(.tmp 2)]) Tryz.func106 (by kernel_rfl) (by kernel_rfl) (by kernel_rfl) (by kernel_rfl) (by kernel_rfl) (by kernel_rfl) (O := fun _ => mastref2_IsPath_c1.O)
    (fun _ => by unfold mastref2_IsPath_c1.O; exact oracle_of (P := Tryz.prog) (C := ctx) ⟨(mastref2_IsPart.ok), trivial⟩) mastref2_IsPath_c1.T trivial 0 (fun h => mastref2_IsPath_c1.f_eq h.1)
def slices_IndexFunc_string_string_at_mastref2_IsPath_c1.l0 : Nat → (List ByteArray) → Int → Int → Option (Int)
  | 0, _, _, _ => none
  | k + 1, x0, x7, x8 => (bif (ilt x8 x7) then ((lat x0 x8).bind fun y1 => ((mastref2_IsPath_c1.f y1).bind fun y2 => (bif y2 then (some x8) else (slices_IndexFunc_string_string_at_mastref2_IsPath_c1.l0 k x0 x7 (wadd .i64 x8 1))))) else (some (-1)))
def slices_IndexFunc_string_string_at_mastref2_IsPath_c1.f (k : Nat) (a0 : (List ByteArray)) : Option (Int) := (slices_IndexFunc_string_string_at_mastref2_IsPath_c1.l0 k a0 (llen a0) 0)
def slices_IndexFunc_string_string_at_mastref2_IsPath_c1.O (k : Nat) : Oracle sg := fun n => lkp n [(106, mastref2_IsPath_c1.e)]
def slices_IndexFunc_string_string_at_mastref2_IsPath_c1.a : Ann := (.n .z (.n (.n .z (.lp 0 .z)) .z))
def slices_IndexFunc_string_string_at_mastref2_IsPath_c1.L (k : Nat) : Nat → St sg.U → Option (RT sg.U [(.int .i64)]) := labs [(0, labOf sg [(0, (.d (.sl .str))), (1, (.clo 106 [])), (7, (.d (.int .i64))), (8, (.d (.int .i64)))] (fun h => slices_IndexFunc_string_string_at_mastref2_IsPath_c1.l0 k h.1 h.2.1 h.2.2.1))]
theorem slices_IndexFunc_string_string_at_mastref2_IsPath_c1.l0_eq (k : Nat) (x0 : (List ByteArray)) (x7 : Int) (x8 : Int) : slices_IndexFunc_string_string_at_mastref2_IsPath_c1.l0 (k + 1) x0 x7 x8 = runFrom (C := ctx) (slices_IndexFunc_string_string_at_mastref2_IsPath_c1.O k) ⟨19, [], []⟩ (slices_IndexFunc_string_string_at_mastref2_IsPath_c1.L k) (Tryz.f204.body.getD .skip) slices_IndexFunc_string_string_at_mastref2_IsPath_c1.a 0 (endK ctx [(.int .i64)] [(.tmp 4)]) (encD [(0, (.d (.sl .str))), (1, (.clo 106 [])), (7, (.d (.int .i64))), (8, (.d (.int .i64)))] (x0, x7, x8, ()) (startD sg.U ⟨19, [], []⟩ [(0, (.d (.sl .str))), (1, (.clo 106 [])), (7, (.d (.int .i64))), (8, (.d (.int .i64)))])) := by
  rw [slices_IndexFunc_string_string_at_mastref2_IsPath_c1.l0]
  kernel_rfl
theorem slices_IndexFunc_string_string_at_mastref2_IsPath_c1.f_eq (k : Nat) (a0 : (List ByteArray)) : slices_IndexFunc_string_string_at_mastref2_IsPath_c1.f k a0 = codeK (C := ctx) (slices_IndexFunc_string_string_at_mastref2_IsPath_c1.O k) ⟨19, [], []⟩ (slices_IndexFunc_string_string_at_mastref2_IsPath_c1.L k) (Tryz.f204.body.getD .skip) slices_IndexFunc_string_string_at_mastref2_IsPath_c1.a (endK ctx [(.int .i64)] [(.tmp 4)]) (slotsOf sg.U 0 [(.d (.sl .str)), .fn 106] (a0, ()) (empty sg.U)) := by
  unfold slices_IndexFunc_string_string_at_mastref2_IsPath_c1.f
  kernel_rfl
def slices_IndexFunc_string_string_at_mastref2_IsPath_c1.e (k : Nat) : Entry sg := entryOf sg [(.d (.sl .str)), .fn 106] [(.int .i64)] (fun h => slices_IndexFunc_string_string_at_mastref2_IsPath_c1.f k h.1)
def slices_IndexFunc_string_string_at_mastref2_IsPath_c1.T : List (Lb sg (RT sg.U [(.int .i64)])) := [⟨0, [(0, (.d (.sl .str))), (1, (.clo 106 [])), (7, (.d (.int .i64))), (8, (.d (.int .i64)))], fun k h => slices_IndexFunc_string_string_at_mastref2_IsPath_c1.l0 k h.1 h.2.1 h.2.2.1⟩]
theorem slices_IndexFunc_string_string_at_mastref2_IsPath_c1.ok (k : Nat) : (slices_IndexFunc_string_string_at_mastref2_IsPath_c1.e k).Sound Tryz.prog ctx 204 :=
  entry_ok base_ok mo (fn := Tryz.f204) (b := (Tryz.f204.body.getD .skip)) (pm := [(.d (.sl .str)), .fn 106]) (rs := [(.int .i64)]) (an := slices_IndexFunc_string_string_at_mastref2_IsPath_c1.a) (N := 19) (vars := [(.tmp 4)]) Tryz.func204 (by kernel_rfl) (by kernel_rfl) (by kernel_rfl) (by kernel_rfl) (by kernel_rfl) (by kernel_rfl) (O := slices_IndexFunc_string_string_at_mastref2_IsPath_c1.O)
    (fun k => by unfold slices_IndexFunc_string_string_at_mastref2_IsPath_c1.O; exact oracle_of (P := Tryz.prog) (C := ctx) ⟨(mastref2_IsPath_c1.ok), trivial⟩) slices_IndexFunc_string_string_at_mastref2_IsPath_c1.T ⟨⟨by kernel_rfl, fun _ => by first | rfl | rw [slices_IndexFunc_string_string_at_mastref2_IsPath_c1.l0], fun k h => slices_IndexFunc_string_string_at_mastref2_IsPath_c1.l0_eq k h.1 h.2.1 h.2.2.1⟩, trivial⟩ k (fun h => slices_IndexFunc_string_string_at_mastref2_IsPath_c1.f_eq k h.1)
def slices_ContainsFunc_string_string_at_mastref2_IsPath_c1.f (k : Nat) (a0 : (List ByteArray)) : Option (Bool) := ((slices_IndexFunc_string_string_at_mastref2_IsPath_c1.f k a0).bind fun y1 => (some (ile 0 y1)))
def slices_ContainsFunc_string_string_at_mastref2_IsPath_c1.O (k : Nat) : Oracle sg := fun n => lkp n [(204, slices_IndexFunc_string_string_at_mastref2_IsPath_c1.e k)]
def slices_ContainsFunc_string_string_at_mastref2_IsPath_c1.a : Ann := .z
def slices_ContainsFunc_string_string_at_mastref2_IsPath_c1.L (k : Nat) : Nat → St sg.U → Option (RT sg.U [.bool]) := labs []
theorem slices_ContainsFunc_string_string_at_mastref2_IsPath_c1.f_eq (k : Nat) (a0 : (List ByteArray)) : slices_ContainsFunc_string_string_at_mastref2_IsPath_c1.f k a0 = codeK (C := ctx) (slices_ContainsFunc_string_string_at_mastref2_IsPath_c1.O k) ⟨9, [], []⟩ (slices_ContainsFunc_string_string_at_mastref2_IsPath_c1.L k) (Tryz.f105.body.getD .skip) slices_ContainsFunc_string_string_at_mastref2_IsPath_c1.a (endK ctx [.bool] [(.tmp 4)]) (slotsOf sg.U 0 [(.d (.sl .str)), .fn 106] (a0, ()) (empty sg.U)) := by
  unfold slices_ContainsFunc_string_string_at_mastref2_IsPath_c1.f
  kernel_rfl
def slices_ContainsFunc_string_string_at_mastref2_IsPath_c1.e (k : Nat) : Entry sg := entryOf sg [(.d (.sl .str)), .fn 106] [.bool] (fun h => slices_ContainsFunc_string_string_at_mastref2_IsPath_c1.f k h.1)
def slices_ContainsFunc_string_string_at_mastref2_IsPath_c1.T : List (Lb sg (RT sg.U [.bool])) := []
theorem slices_ContainsFunc_string_string_at_mastref2_IsPath_c1.ok (k : Nat) : (slices_ContainsFunc_string_string_at_mastref2_IsPath_c1.e k).Sound Tryz.prog ctx 105 :=
  entry_ok base_ok mo (fn := Tryz.f105) (b := (Tryz.f105.body.getD .skip)) (pm := [(.d (.sl .str)), .fn 106]) (rs := [.bool]) (an := slices_ContainsFunc_string_string_at_mastref2_IsPath_c1.a) (N := 9) (vars := [(.tmp 4)]) Tryz.func105 (by kernel_rfl) (by kernel_rfl) (by kernel_rfl) (by kernel_rfl) (by kernel_rfl) (by kernel_rfl) (O := slices_ContainsFunc_string_string_at_mastref2_IsPath_c1.O)
    (fun k => by unfold slices_ContainsFunc_string_string_at_mastref2_IsPath_c1.O; exact oracle_of (P := Tryz.prog) (C := ctx) ⟨(slices_IndexFunc_string_string_at_mastref2_IsPath_c1.ok k), trivial⟩) slices_ContainsFunc_string_string_at_mastref2_IsPath_c1.T trivial k (fun h => slices_ContainsFunc_string_string_at_mastref2_IsPath_c1.f_eq k h.1)
def mastref2_IsPath.f (k : Nat) (a0 : ByteArray) : Option (Bool) := (bif (ile (slen a0) 200) then ((strings_Split.f a0 c__2f).bind fun y1 => ((slices_ContainsFunc_string_string_at_mastref2_IsPath_c1.f k y1).bind fun y2 => (some (!y2)))) else (some false))
def mastref2_IsPath.O (k : Nat) : Oracle sg := fun n => lkp n [(77, strings_Split.e), (105, slices_ContainsFunc_string_string_at_mastref2_IsPath_c1.e k)]
def mastref2_IsPath.a : Ann := .z
def mastref2_IsPath.L (k : Nat) : Nat → St sg.U → Option (RT sg.U [.bool]) := labs []
theorem mastref2_IsPath.f_eq (k : Nat) (a0 : ByteArray) : mastref2_IsPath.f k a0 = codeK (C := ctx) (mastref2_IsPath.O k) ⟨12, [], []⟩ (mastref2_IsPath.L k) (Tryz.f37.body.getD .skip) mastref2_IsPath.a (endK ctx [.bool] [(.tmp 2)]) (slotsOf sg.U 0 [(.d .str)] (a0, ()) (empty sg.U)) := by
  unfold mastref2_IsPath.f
  kernel_rfl
def mastref2_IsPath.e (k : Nat) : Entry sg := entryOf sg [(.d .str)] [.bool] (fun h => mastref2_IsPath.f k h.1)
def mastref2_IsPath.T : List (Lb sg (RT sg.U [.bool])) := []
theorem mastref2_IsPath.ok (k : Nat) : (mastref2_IsPath.e k).Sound Tryz.prog ctx 37 :=
  entry_ok base_ok mo (fn := Tryz.f37) (b := (Tryz.f37.body.getD .skip)) (pm := [(.d .str)]) (rs := [.bool]) (an := mastref2_IsPath.a) (N := 12) (vars := [(.tmp 2)]) Tryz.func37 (by kernel_rfl) (by kernel_rfl) (by kernel_rfl) (by kernel_rfl) (by kernel_rfl) (by kernel_rfl) (O := mastref2_IsPath.O)
    (fun k => by unfold mastref2_IsPath.O; exact oracle_of (P := Tryz.prog) (C := ctx) ⟨(strings_Split.ok), ⟨(slices_ContainsFunc_string_string_at_mastref2_IsPath_c1.ok k), trivial⟩⟩) mastref2_IsPath.T trivial k (fun h => mastref2_IsPath.f_eq k h.1)
def slices_Index_string_string.l0 : Nat → (List ByteArray) → ByteArray → Int → Int → Option (Int)
  | 0, _, _, _, _ => none
  | k + 1, x0, x1, x7, x8 => (bif (ilt x8 x7) then ((lat x0 x8).bind fun y1 => (bif (seq x1 y1) then (some x8) else (slices_Index_string_string.l0 k x0 x1 x7 (wadd .i64 x8 1)))) else (some (-1)))
def slices_Index_string_string.f (k : Nat) (a0 : (List ByteArray)) (a1 : ByteArray) : Option (Int) := (slices_Index_string_string.l0 k a0 a1 (llen a0) 0)
def slices_Index_string_string.O (k : Nat) : Oracle sg := fun n => lkp n []
def slices_Index_string_string.a : Ann := (.n .z (.n (.n .z (.lp 0 .z)) .z))
def slices_Index_string_string.L (k : Nat) : Nat → St sg.U → Option (RT sg.U [(.int .i64)]) := labs [(0, labOf sg [(0, (.d (.sl .str))), (1, (.d .str)), (7, (.d (.int .i64))), (8, (.d (.int .i64)))] (fun h => slices_Index_string_string.l0 k h.1 h.2.1 h.2.2.1 h.2.2.2.1))]
theorem slices_Index_string_string.l0_eq (k : Nat) (x0 : (List ByteArray)) (x1 : ByteArray) (x7 : Int) (x8 : Int) : slices_Index_string_string.l0 (k + 1) x0 x1 x7 x8 = runFrom (C := ctx) (slices_Index_string_string.O k) ⟨19, [], []⟩ (slices_Index_string_string.L k) (Tryz.f107.body.getD .skip) slices_Index_string_string.a 0 (endK ctx [(.int .i64)] [(.tmp 4)]) (encD [(0, (.d (.sl .str))), (1, (.d .str)), (7, (.d (.int .i64))), (8, (.d (.int .i64)))] (x0, x1, x7, x8, ()) (startD sg.U ⟨19, [], []⟩ [(0, (.d (.sl .str))), (1, (.d .str)), (7, (.d (.int .i64))), (8, (.d (.int .i64)))])) := by
  rw [slices_Index_string_string.l0]
  kernel_rfl
theorem slices_Index_string_string.f_eq (k : Nat) (a0 : (List ByteArray)) (a1 : ByteArray) : slices_Index_string_string.f k a0 a1 = codeK (C := ctx) (slices_Index_string_string.O k) ⟨19, [], []⟩ (slices_Index_string_string.L k) (Tryz.f107.body.getD .skip) slices_Index_string_string.a (endK ctx [(.int .i64)] [(.tmp 4)]) (slotsOf sg.U 0 [(.d (.sl .str)), (.d .str)] (a0, a1, ()) (empty sg.U)) := by
  unfold slices_Index_string_string.f
  kernel_rfl
def slices_Index_string_string.e (k : Nat) : Entry sg := entryOf sg [(.d (.sl .str)), (.d .str)] [(.int .i64)] (fun h => slices_Index_string_string.f k h.1 h.2.1)
def slices_Index_string_string.T : List (Lb sg (RT sg.U [(.int .i64)])) := [⟨0, [(0, (.d (.sl .str))), (1, (.d .str)), (7, (.d (.int .i64))), (8, (.d (.int .i64)))], fun k h => slices_Index_string_string.l0 k h.1 h.2.1 h.2.2.1 h.2.2.2.1⟩]
theorem slices_Index_string_string.ok (k : Nat) : (slices_Index_string_string.e k).Sound Tryz.prog ctx 107 :=
  entry_ok base_ok mo (fn := Tryz.f107) (b := (Tryz.f107.body.getD .skip)) (pm := [(.d (.sl .str)), (.d .str)]) (rs := [(.int .i64)]) (an := slices_Index_string_string.a) (N := 19) (vars := [(.tmp 4)]) Tryz.func107 (by kernel_rfl) (by kernel_rfl) (by kernel_rfl) (by kernel_rfl) (by kernel_rfl) (by kernel_rfl) (O := slices_Index_string_string.O)
    (fun k => by unfold slices_Index_string_string.O; exact oracle_of (P := Tryz.prog) (C := ctx) trivial) slices_Index_string_string.T ⟨⟨by kernel_rfl, fun _ => by first | rfl | rw [slices_Index_string_string.l0], fun k h => slices_Index_string_string.l0_eq k h.1 h.2.1 h.2.2.1 h.2.2.2.1⟩, trivial⟩ k (fun h => slices_Index_string_string.f_eq k h.1 h.2.1)
def slices_Contains_string_string.f (k : Nat) (a0 : (List ByteArray)) (a1 : ByteArray) : Option (Bool) := ((slices_Index_string_string.f k a0 a1).bind fun y1 => (some (ile 0 y1)))
def slices_Contains_string_string.O (k : Nat) : Oracle sg := fun n => lkp n [(107, slices_Index_string_string.e k)]
def slices_Contains_string_string.a : Ann := .z
def slices_Contains_string_string.L (k : Nat) : Nat → St sg.U → Option (RT sg.U [.bool]) := labs []
theorem slices_Contains_string_string.f_eq (k : Nat) (a0 : (List ByteArray)) (a1 : ByteArray) : slices_Contains_string_string.f k a0 a1 = codeK (C := ctx) (slices_Contains_string_string.O k) ⟨9, [], []⟩ (slices_Contains_string_string.L k) (Tryz.f38.body.getD .skip) slices_Contains_string_string.a (endK ctx [.bool] [(.tmp 4)]) (slotsOf sg.U 0 [(.d (.sl .str)), (.d .str)] (a0, a1, ()) (empty sg.U)) := by
  unfold slices_Contains_string_string.f
  kernel_rfl
def slices_Contains_string_string.e (k : Nat) : Entry sg := entryOf sg [(.d (.sl .str)), (.d .str)] [.bool] (fun h => slices_Contains_string_string.f k h.1 h.2.1)
def slices_Contains_string_string.T : List (Lb sg (RT sg.U [.bool])) := []
theorem slices_Contains_string_string.ok (k : Nat) : (slices_Contains_string_string.e k).Sound Tryz.prog ctx 38 :=
  entry_ok base_ok mo (fn := Tryz.f38) (b := (Tryz.f38.body.getD .skip)) (pm := [(.d (.sl .str)), (.d .str)]) (rs := [.bool]) (an := slices_Contains_string_string.a) (N := 9) (vars := [(.tmp 4)]) Tryz.func38 (by kernel_rfl) (by kernel_rfl) (by kernel_rfl) (by kernel_rfl) (by kernel_rfl) (by kernel_rfl) (O := slices_Contains_string_string.O)
    (fun k => by unfold slices_Contains_string_string.O; exact oracle_of (P := Tryz.prog) (C := ctx) ⟨(slices_Index_string_string.ok k), trivial⟩) slices_Contains_string_string.T trivial k (fun h => slices_Contains_string_string.f_eq k h.1 h.2.1)
mutual
def mastref2_BundleOf.l0 : Nat → (List T_api_File) → ByteArray → (List ByteArray) → (List Int) → (List T_api_File) → Int → Int → Option (T_asset_Bundled × Int)
  | 0, _, _, _, _, _, _, _ => none
  | k + 1, x0, x2_0, x2_1, x2_2, x9, x10, x11 => (bif (ilt x11 x10) then ((lat x9 x11).bind fun y1 => (bif (ilt 20000 (slen y1.fBody)) then (some ((T_asset_Bundled.mk c_empty [] []), 4)) else (mastref2_BundleOf.l0 k x0 x2_0 x2_1 x2_2 x9 x10 (wadd .i64 x11 1)))) else (bif (ilt 40 (llen x0)) then (some ((T_asset_Bundled.mk c_empty [] []), 4)) else (mastref2_BundleOf.l1 k x2_0 x2_1 x2_2 c_empty [] [] x0 (llen x0) 0)))
def mastref2_BundleOf.l1 : Nat → ByteArray → (List ByteArray) → (List Int) → ByteArray → (List ByteArray) → (List Int) → (List T_api_File) → Int → Int → Option (T_asset_Bundled × Int)
  | 0, _, _, _, _, _, _, _, _, _ => none
  | k + 1, x2_0, x2_1, x2_2, x6_0, x6_1, x6_2, x25, x26, x27 => (bif (ilt x27 x26) then ((lat x25 x27).bind fun y2 => ((mastref2_IsPath.f k y2.fPath).bind fun y3 => (bif (!y3) then (some ((T_asset_Bundled.mk c_empty [] []), 3)) else ((slices_Contains_string_string.f k x6_1 y2.fPath).bind fun y4 => (bif y4 then (some ((T_asset_Bundled.mk c_empty [] []), 6)) else ((lapp 16 x6_1 [y2.fPath]).bind fun y5 => ((scat x6_0 y2.fBody).bind fun y6 => (bif (!seq y2.fBody c_empty) then ((strings_HasSuffix.f y2.fBody c__0a).bind fun y7 => (mastref2_BundleOf.l2 k x2_0 x2_1 x2_2 y6 y5 x6_2 x25 x26 x27 (!y7))) else (mastref2_BundleOf.l2 k x2_0 x2_1 x2_2 y6 y5 x6_2 x25 x26 x27 false))))))))) else (bif (ilt 200000 (slen x6_0)) then (some ((T_asset_Bundled.mk c_empty [] []), 4)) else (some ((T_asset_Bundled.mk x6_0 x6_1 x6_2), 0))))
def mastref2_BundleOf.l2 : Nat → ByteArray → (List ByteArray) → (List Int) → ByteArray → (List ByteArray) → (List Int) → (List T_api_File) → Int → Int → Bool → Option (T_asset_Bundled × Int)
  | 0, _, _, _, _, _, _, _, _, _, _ => none
  | k + 1, x2_0, x2_1, x2_2, x6_0, x6_1, x6_2, x25, x26, x27, x63 => (bif x63 then ((scat x6_0 c__0a).bind fun y8 => (mastref2_BundleOf.l3 k x2_0 x2_1 x2_2 y8 x6_1 x6_2 x25 x26 x27)) else (mastref2_BundleOf.l3 k x2_0 x2_1 x2_2 x6_0 x6_1 x6_2 x25 x26 x27))
def mastref2_BundleOf.l3 : Nat → ByteArray → (List ByteArray) → (List Int) → ByteArray → (List ByteArray) → (List Int) → (List T_api_File) → Int → Int → Option (T_asset_Bundled × Int)
  | 0, _, _, _, _, _, _, _, _, _ => none
  | k + 1, x2_0, x2_1, x2_2, x6_0, x6_1, x6_2, x25, x26, x27 => ((lapp 8 x6_2 [(slen x6_0)]).bind fun y9 => (mastref2_BundleOf.l1 k x2_0 x2_1 x2_2 x6_0 x6_1 y9 x25 x26 (wadd .i64 x27 1)))
end
def mastref2_BundleOf.f (k : Nat) (a0 : (List T_api_File)) : Option (T_asset_Bundled × Int) := (mastref2_BundleOf.l0 k a0 c_empty [] [] a0 (llen a0) 0)
def mastref2_BundleOf.O (k : Nat) : Oracle sg := fun n => lkp n [(32, strings_HasSuffix.e), (37, mastref2_IsPath.e k), (38, slices_Contains_string_string.e k)]
def mastref2_BundleOf.a : Ann := (.n .z (.n (.n .z (.lp 0 .z)) (.n .z (.n .z (.n (.n .z (.lp 1 (.n .z (.n .z (.n (.n .z (.n .z (.n .z (.n .z (.n .z (.n (.n .z (.lab 2 .z)) (.lab 3 .z))))))) .z))))) .z)))))
def mastref2_BundleOf.L (k : Nat) : Nat → St sg.U → Option (RT sg.U [(.st 1), (.int .i64)]) := labs [(0, labOf sg [(0, (.d (.sl (.st 0)))), (2, (.box [.d .str, .row 9 .str, .row 3 (.int .i64)])), (9, (.d (.sl (.st 0)))), (10, (.d (.int .i64))), (11, (.d (.int .i64)))] (fun h => mastref2_BundleOf.l0 k h.1 h.2.1 h.2.2.1 h.2.2.2.1 h.2.2.2.2.1 h.2.2.2.2.2.1 h.2.2.2.2.2.2.1)), (1, labOf sg [(2, (.box [.d .str, .row 9 .str, .row 3 (.int .i64)])), (6, (.box [.d .str, .row 9 .str, .row 3 (.int .i64)])), (25, (.d (.sl (.st 0)))), (26, (.d (.int .i64))), (27, (.d (.int .i64)))] (fun h => mastref2_BundleOf.l1 k h.1 h.2.1 h.2.2.1 h.2.2.2.1 h.2.2.2.2.1 h.2.2.2.2.2.1 h.2.2.2.2.2.2.1 h.2.2.2.2.2.2.2.1 h.2.2.2.2.2.2.2.2.1)), (2, labOf sg [(2, (.box [.d .str, .row 9 .str, .row 3 (.int .i64)])), (6, (.box [.d .str, .row 9 .str, .row 3 (.int .i64)])), (25, (.d (.sl (.st 0)))), (26, (.d (.int .i64))), (27, (.d (.int .i64))), (63, (.d .bool))] (fun h => mastref2_BundleOf.l2 k h.1 h.2.1 h.2.2.1 h.2.2.2.1 h.2.2.2.2.1 h.2.2.2.2.2.1 h.2.2.2.2.2.2.1 h.2.2.2.2.2.2.2.1 h.2.2.2.2.2.2.2.2.1 h.2.2.2.2.2.2.2.2.2.1)), (3, labOf sg [(2, (.box [.d .str, .row 9 .str, .row 3 (.int .i64)])), (6, (.box [.d .str, .row 9 .str, .row 3 (.int .i64)])), (25, (.d (.sl (.st 0)))), (26, (.d (.int .i64))), (27, (.d (.int .i64)))] (fun h => mastref2_BundleOf.l3 k h.1 h.2.1 h.2.2.1 h.2.2.2.1 h.2.2.2.2.1 h.2.2.2.2.2.1 h.2.2.2.2.2.2.1 h.2.2.2.2.2.2.2.1 h.2.2.2.2.2.2.2.2.1))]
theorem mastref2_BundleOf.l0_eq (k : Nat) (x0 : (List T_api_File)) (x2_0 : ByteArray) (x2_1 : (List ByteArray)) (x2_2 : (List Int)) (x9 : (List T_api_File)) (x10 : Int) (x11 : Int) : mastref2_BundleOf.l0 (k + 1) x0 x2_0 x2_1 x2_2 x9 x10 x11 = runFrom (C := ctx) (mastref2_BundleOf.O k) ⟨83, [], []⟩ (mastref2_BundleOf.L k) (Tryz.f12.body.getD .skip) mastref2_BundleOf.a 0 (endK ctx [(.st 1), (.int .i64)] [(.cell 2 26), (.tmp 3)]) (encD [(0, (.d (.sl (.st 0)))), (2, (.box [.d .str, .row 9 .str, .row 3 (.int .i64)])), (9, (.d (.sl (.st 0)))), (10, (.d (.int .i64))), (11, (.d (.int .i64)))] (x0, x2_0, x2_1, x2_2, x9, x10, x11, ()) (startD sg.U ⟨83, [], []⟩ [(0, (.d (.sl (.st 0)))), (2, (.box [.d .str, .row 9 .str, .row 3 (.int .i64)])), (9, (.d (.sl (.st 0)))), (10, (.d (.int .i64))), (11, (.d (.int .i64)))])) := by
  rw [mastref2_BundleOf.l0]
  kernel_rfl
theorem mastref2_BundleOf.l1_eq (k : Nat) (x2_0 : ByteArray) (x2_1 : (List ByteArray)) (x2_2 : (List Int)) (x6_0 : ByteArray) (x6_1 : (List ByteArray)) (x6_2 : (List Int)) (x25 : (List T_api_File)) (x26 : Int) (x27 : Int) : mastref2_BundleOf.l1 (k + 1) x2_0 x2_1 x2_2 x6_0 x6_1 x6_2 x25 x26 x27 = runFrom (C := ctx) (mastref2_BundleOf.O k) ⟨83, [], []⟩ (mastref2_BundleOf.L k) (Tryz.f12.body.getD .skip) mastref2_BundleOf.a 1 (endK ctx [(.st 1), (.int .i64)] [(.cell 2 26), (.tmp 3)]) (encD [(2, (.box [.d .str, .row 9 .str, .row 3 (.int .i64)])), (6, (.box [.d .str, .row 9 .str, .row 3 (.int .i64)])), (25, (.d (.sl (.st 0)))), (26, (.d (.int .i64))), (27, (.d (.int .i64)))] (x2_0, x2_1, x2_2, x6_0, x6_1, x6_2, x25, x26, x27, ()) (startD sg.U ⟨83, [], []⟩ [(2, (.box [.d .str, .row 9 .str, .row 3 (.int .i64)])), (6, (.box [.d .str, .row 9 .str, .row 3 (.int .i64)])), (25, (.d (.sl (.st 0)))), (26, (.d (.int .i64))), (27, (.d (.int .i64)))])) := by
  rw [mastref2_BundleOf.l1]
  kernel_rfl
theorem mastref2_BundleOf.l2_eq (k : Nat) (x2_0 : ByteArray) (x2_1 : (List ByteArray)) (x2_2 : (List Int)) (x6_0 : ByteArray) (x6_1 : (List ByteArray)) (x6_2 : (List Int)) (x25 : (List T_api_File)) (x26 : Int) (x27 : Int) (x63 : Bool) : mastref2_BundleOf.l2 (k + 1) x2_0 x2_1 x2_2 x6_0 x6_1 x6_2 x25 x26 x27 x63 = runFrom (C := ctx) (mastref2_BundleOf.O k) ⟨83, [], []⟩ (mastref2_BundleOf.L k) (Tryz.f12.body.getD .skip) mastref2_BundleOf.a 2 (endK ctx [(.st 1), (.int .i64)] [(.cell 2 26), (.tmp 3)]) (encD [(2, (.box [.d .str, .row 9 .str, .row 3 (.int .i64)])), (6, (.box [.d .str, .row 9 .str, .row 3 (.int .i64)])), (25, (.d (.sl (.st 0)))), (26, (.d (.int .i64))), (27, (.d (.int .i64))), (63, (.d .bool))] (x2_0, x2_1, x2_2, x6_0, x6_1, x6_2, x25, x26, x27, x63, ()) (startD sg.U ⟨83, [], []⟩ [(2, (.box [.d .str, .row 9 .str, .row 3 (.int .i64)])), (6, (.box [.d .str, .row 9 .str, .row 3 (.int .i64)])), (25, (.d (.sl (.st 0)))), (26, (.d (.int .i64))), (27, (.d (.int .i64))), (63, (.d .bool))])) := by
  rw [mastref2_BundleOf.l2]
  kernel_rfl
theorem mastref2_BundleOf.l3_eq (k : Nat) (x2_0 : ByteArray) (x2_1 : (List ByteArray)) (x2_2 : (List Int)) (x6_0 : ByteArray) (x6_1 : (List ByteArray)) (x6_2 : (List Int)) (x25 : (List T_api_File)) (x26 : Int) (x27 : Int) : mastref2_BundleOf.l3 (k + 1) x2_0 x2_1 x2_2 x6_0 x6_1 x6_2 x25 x26 x27 = runFrom (C := ctx) (mastref2_BundleOf.O k) ⟨83, [], []⟩ (mastref2_BundleOf.L k) (Tryz.f12.body.getD .skip) mastref2_BundleOf.a 3 (endK ctx [(.st 1), (.int .i64)] [(.cell 2 26), (.tmp 3)]) (encD [(2, (.box [.d .str, .row 9 .str, .row 3 (.int .i64)])), (6, (.box [.d .str, .row 9 .str, .row 3 (.int .i64)])), (25, (.d (.sl (.st 0)))), (26, (.d (.int .i64))), (27, (.d (.int .i64)))] (x2_0, x2_1, x2_2, x6_0, x6_1, x6_2, x25, x26, x27, ()) (startD sg.U ⟨83, [], []⟩ [(2, (.box [.d .str, .row 9 .str, .row 3 (.int .i64)])), (6, (.box [.d .str, .row 9 .str, .row 3 (.int .i64)])), (25, (.d (.sl (.st 0)))), (26, (.d (.int .i64))), (27, (.d (.int .i64)))])) := by
  rw [mastref2_BundleOf.l3]
  kernel_rfl
theorem mastref2_BundleOf.f_eq (k : Nat) (a0 : (List T_api_File)) : mastref2_BundleOf.f k a0 = codeK (C := ctx) (mastref2_BundleOf.O k) ⟨83, [], []⟩ (mastref2_BundleOf.L k) (Tryz.f12.body.getD .skip) mastref2_BundleOf.a (endK ctx [(.st 1), (.int .i64)] [(.cell 2 26), (.tmp 3)]) (slotsOf sg.U 0 [(.d (.sl (.st 0)))] (a0, ()) (empty sg.U)) := by
  unfold mastref2_BundleOf.f
  kernel_rfl
def mastref2_BundleOf.e (k : Nat) : Entry sg := entryOf sg [(.d (.sl (.st 0)))] [(.st 1), (.int .i64)] (fun h => mastref2_BundleOf.f k h.1)
def mastref2_BundleOf.T : List (Lb sg (RT sg.U [(.st 1), (.int .i64)])) := [⟨0, [(0, (.d (.sl (.st 0)))), (2, (.box [.d .str, .row 9 .str, .row 3 (.int .i64)])), (9, (.d (.sl (.st 0)))), (10, (.d (.int .i64))), (11, (.d (.int .i64)))], fun k h => mastref2_BundleOf.l0 k h.1 h.2.1 h.2.2.1 h.2.2.2.1 h.2.2.2.2.1 h.2.2.2.2.2.1 h.2.2.2.2.2.2.1⟩, ⟨1, [(2, (.box [.d .str, .row 9 .str, .row 3 (.int .i64)])), (6, (.box [.d .str, .row 9 .str, .row 3 (.int .i64)])), (25, (.d (.sl (.st 0)))), (26, (.d (.int .i64))), (27, (.d (.int .i64)))], fun k h => mastref2_BundleOf.l1 k h.1 h.2.1 h.2.2.1 h.2.2.2.1 h.2.2.2.2.1 h.2.2.2.2.2.1 h.2.2.2.2.2.2.1 h.2.2.2.2.2.2.2.1 h.2.2.2.2.2.2.2.2.1⟩, ⟨2, [(2, (.box [.d .str, .row 9 .str, .row 3 (.int .i64)])), (6, (.box [.d .str, .row 9 .str, .row 3 (.int .i64)])), (25, (.d (.sl (.st 0)))), (26, (.d (.int .i64))), (27, (.d (.int .i64))), (63, (.d .bool))], fun k h => mastref2_BundleOf.l2 k h.1 h.2.1 h.2.2.1 h.2.2.2.1 h.2.2.2.2.1 h.2.2.2.2.2.1 h.2.2.2.2.2.2.1 h.2.2.2.2.2.2.2.1 h.2.2.2.2.2.2.2.2.1 h.2.2.2.2.2.2.2.2.2.1⟩, ⟨3, [(2, (.box [.d .str, .row 9 .str, .row 3 (.int .i64)])), (6, (.box [.d .str, .row 9 .str, .row 3 (.int .i64)])), (25, (.d (.sl (.st 0)))), (26, (.d (.int .i64))), (27, (.d (.int .i64)))], fun k h => mastref2_BundleOf.l3 k h.1 h.2.1 h.2.2.1 h.2.2.2.1 h.2.2.2.2.1 h.2.2.2.2.2.1 h.2.2.2.2.2.2.1 h.2.2.2.2.2.2.2.1 h.2.2.2.2.2.2.2.2.1⟩]
theorem mastref2_BundleOf.ok (k : Nat) : (mastref2_BundleOf.e k).Sound Tryz.prog ctx 12 :=
  entry_ok base_ok mo (fn := Tryz.f12) (b := (Tryz.f12.body.getD .skip)) (pm := [(.d (.sl (.st 0)))]) (rs := [(.st 1), (.int .i64)]) (an := mastref2_BundleOf.a) (N := 83) (vars := [(.cell 2 26), (.tmp 3)]) Tryz.func12 (by kernel_rfl) (by kernel_rfl) (by kernel_rfl) (by kernel_rfl) (by kernel_rfl) (by kernel_rfl) (O := mastref2_BundleOf.O)
    (fun k => by unfold mastref2_BundleOf.O; exact oracle_of (P := Tryz.prog) (C := ctx) ⟨(strings_HasSuffix.ok), ⟨(mastref2_IsPath.ok k), ⟨(slices_Contains_string_string.ok k), trivial⟩⟩⟩) mastref2_BundleOf.T ⟨⟨by kernel_rfl, fun _ => by first | rfl | rw [mastref2_BundleOf.l0], fun k h => mastref2_BundleOf.l0_eq k h.1 h.2.1 h.2.2.1 h.2.2.2.1 h.2.2.2.2.1 h.2.2.2.2.2.1 h.2.2.2.2.2.2.1⟩, ⟨⟨by kernel_rfl, fun _ => by first | rfl | rw [mastref2_BundleOf.l1], fun k h => mastref2_BundleOf.l1_eq k h.1 h.2.1 h.2.2.1 h.2.2.2.1 h.2.2.2.2.1 h.2.2.2.2.2.1 h.2.2.2.2.2.2.1 h.2.2.2.2.2.2.2.1 h.2.2.2.2.2.2.2.2.1⟩, ⟨⟨by kernel_rfl, fun _ => by first | rfl | rw [mastref2_BundleOf.l2], fun k h => mastref2_BundleOf.l2_eq k h.1 h.2.1 h.2.2.1 h.2.2.2.1 h.2.2.2.2.1 h.2.2.2.2.2.1 h.2.2.2.2.2.2.1 h.2.2.2.2.2.2.2.1 h.2.2.2.2.2.2.2.2.1 h.2.2.2.2.2.2.2.2.2.1⟩, ⟨⟨by kernel_rfl, fun _ => by first | rfl | rw [mastref2_BundleOf.l3], fun k h => mastref2_BundleOf.l3_eq k h.1 h.2.1 h.2.2.1 h.2.2.2.1 h.2.2.2.2.1 h.2.2.2.2.2.1 h.2.2.2.2.2.2.1 h.2.2.2.2.2.2.2.1 h.2.2.2.2.2.2.2.2.1⟩, trivial⟩⟩⟩⟩ k (fun h => mastref2_BundleOf.f_eq k h.1)
def slices_Equal_string_string.l0 : Nat → (List ByteArray) → (List ByteArray) → Int → Int → Option (Bool)
  | 0, _, _, _, _ => none
  | k + 1, x0, x1, x12, x13 => (bif (ilt x13 x12) then ((lat x0 x13).bind fun y1 => ((lat x1 x13).bind fun y2 => (bif (!seq y1 y2) then (some false) else (slices_Equal_string_string.l0 k x0 x1 x12 (wadd .i64 x13 1))))) else (some true))
def slices_Equal_string_string.f (k : Nat) (a0 : (List ByteArray)) (a1 : (List ByteArray)) : Option (Bool) := (bif (!ieq (llen a0) (llen a1)) then (some false) else (slices_Equal_string_string.l0 k a0 a1 (llen a0) 0))
def slices_Equal_string_string.O (k : Nat) : Oracle sg := fun n => lkp n []
def slices_Equal_string_string.a : Ann := (.n .z (.n .z (.n (.n .z (.lp 0 .z)) .z)))
def slices_Equal_string_string.L (k : Nat) : Nat → St sg.U → Option (RT sg.U [.bool]) := labs [(0, labOf sg [(0, (.d (.sl .str))), (1, (.d (.sl .str))), (12, (.d (.int .i64))), (13, (.d (.int .i64)))] (fun h => slices_Equal_string_string.l0 k h.1 h.2.1 h.2.2.1 h.2.2.2.1))]
theorem slices_Equal_string_string.l0_eq (k : Nat) (x0 : (List ByteArray)) (x1 : (List ByteArray)) (x12 : Int) (x13 : Int) : slices_Equal_string_string.l0 (k + 1) x0 x1 x12 x13 = runFrom (C := ctx) (slices_Equal_string_string.O k) ⟨26, [], []⟩ (slices_Equal_string_string.L k) (Tryz.f43.body.getD .skip) slices_Equal_string_string.a 0 (endK ctx [.bool] [(.tmp 4)]) (encD [(0, (.d (.sl .str))), (1, (.d (.sl .str))), (12, (.d (.int .i64))), (13, (.d (.int .i64)))] (x0, x1, x12, x13, ()) (startD sg.U ⟨26, [], []⟩ [(0, (.d (.sl .str))), (1, (.d (.sl .str))), (12, (.d (.int .i64))), (13, (.d (.int .i64)))])) := by
  rw [slices_Equal_string_string.l0]
  kernel_rfl
theorem slices_Equal_string_string.f_eq (k : Nat) (a0 : (List ByteArray)) (a1 : (List ByteArray)) : slices_Equal_string_string.f k a0 a1 = codeK (C := ctx) (slices_Equal_string_string.O k) ⟨26, [], []⟩ (slices_Equal_string_string.L k) (Tryz.f43.body.getD .skip) slices_Equal_string_string.a (endK ctx [.bool] [(.tmp 4)]) (slotsOf sg.U 0 [(.d (.sl .str)), (.d (.sl .str))] (a0, a1, ()) (empty sg.U)) := by
  unfold slices_Equal_string_string.f
  kernel_rfl
def slices_Equal_string_string.e (k : Nat) : Entry sg := entryOf sg [(.d (.sl .str)), (.d (.sl .str))] [.bool] (fun h => slices_Equal_string_string.f k h.1 h.2.1)
def slices_Equal_string_string.T : List (Lb sg (RT sg.U [.bool])) := [⟨0, [(0, (.d (.sl .str))), (1, (.d (.sl .str))), (12, (.d (.int .i64))), (13, (.d (.int .i64)))], fun k h => slices_Equal_string_string.l0 k h.1 h.2.1 h.2.2.1 h.2.2.2.1⟩]
theorem slices_Equal_string_string.ok (k : Nat) : (slices_Equal_string_string.e k).Sound Tryz.prog ctx 43 :=
  entry_ok base_ok mo (fn := Tryz.f43) (b := (Tryz.f43.body.getD .skip)) (pm := [(.d (.sl .str)), (.d (.sl .str))]) (rs := [.bool]) (an := slices_Equal_string_string.a) (N := 26) (vars := [(.tmp 4)]) Tryz.func43 (by kernel_rfl) (by kernel_rfl) (by kernel_rfl) (by kernel_rfl) (by kernel_rfl) (by kernel_rfl) (O := slices_Equal_string_string.O)
    (fun k => by unfold slices_Equal_string_string.O; exact oracle_of (P := Tryz.prog) (C := ctx) trivial) slices_Equal_string_string.T ⟨⟨by kernel_rfl, fun _ => by first | rfl | rw [slices_Equal_string_string.l0], fun k h => slices_Equal_string_string.l0_eq k h.1 h.2.1 h.2.2.1 h.2.2.2.1⟩, trivial⟩ k (fun h => slices_Equal_string_string.f_eq k h.1 h.2.1)
def slices_Equal_int_int.l0 : Nat → (List Int) → (List Int) → Int → Int → Option (Bool)
  | 0, _, _, _, _ => none
  | k + 1, x0, x1, x12, x13 => (bif (ilt x13 x12) then ((lat x0 x13).bind fun y1 => ((lat x1 x13).bind fun y2 => (bif (!ieq y1 y2) then (some false) else (slices_Equal_int_int.l0 k x0 x1 x12 (wadd .i64 x13 1))))) else (some true))
def slices_Equal_int_int.f (k : Nat) (a0 : (List Int)) (a1 : (List Int)) : Option (Bool) := (bif (!ieq (llen a0) (llen a1)) then (some false) else (slices_Equal_int_int.l0 k a0 a1 (llen a0) 0))
def slices_Equal_int_int.O (k : Nat) : Oracle sg := fun n => lkp n []
def slices_Equal_int_int.a : Ann := (.n .z (.n .z (.n (.n .z (.lp 0 .z)) .z)))
def slices_Equal_int_int.L (k : Nat) : Nat → St sg.U → Option (RT sg.U [.bool]) := labs [(0, labOf sg [(0, (.d (.sl (.int .i64)))), (1, (.d (.sl (.int .i64)))), (12, (.d (.int .i64))), (13, (.d (.int .i64)))] (fun h => slices_Equal_int_int.l0 k h.1 h.2.1 h.2.2.1 h.2.2.2.1))]
theorem slices_Equal_int_int.l0_eq (k : Nat) (x0 : (List Int)) (x1 : (List Int)) (x12 : Int) (x13 : Int) : slices_Equal_int_int.l0 (k + 1) x0 x1 x12 x13 = runFrom (C := ctx) (slices_Equal_int_int.O k) ⟨26, [], []⟩ (slices_Equal_int_int.L k) (Tryz.f30.body.getD .skip) slices_Equal_int_int.a 0 (endK ctx [.bool] [(.tmp 4)]) (encD [(0, (.d (.sl (.int .i64)))), (1, (.d (.sl (.int .i64)))), (12, (.d (.int .i64))), (13, (.d (.int .i64)))] (x0, x1, x12, x13, ()) (startD sg.U ⟨26, [], []⟩ [(0, (.d (.sl (.int .i64)))), (1, (.d (.sl (.int .i64)))), (12, (.d (.int .i64))), (13, (.d (.int .i64)))])) := by
  rw [slices_Equal_int_int.l0]
  kernel_rfl
theorem slices_Equal_int_int.f_eq (k : Nat) (a0 : (List Int)) (a1 : (List Int)) : slices_Equal_int_int.f k a0 a1 = codeK (C := ctx) (slices_Equal_int_int.O k) ⟨26, [], []⟩ (slices_Equal_int_int.L k) (Tryz.f30.body.getD .skip) slices_Equal_int_int.a (endK ctx [.bool] [(.tmp 4)]) (slotsOf sg.U 0 [(.d (.sl (.int .i64))), (.d (.sl (.int .i64)))] (a0, a1, ()) (empty sg.U)) := by
  unfold slices_Equal_int_int.f
  kernel_rfl
def slices_Equal_int_int.e (k : Nat) : Entry sg := entryOf sg [(.d (.sl (.int .i64))), (.d (.sl (.int .i64)))] [.bool] (fun h => slices_Equal_int_int.f k h.1 h.2.1)
def slices_Equal_int_int.T : List (Lb sg (RT sg.U [.bool])) := [⟨0, [(0, (.d (.sl (.int .i64)))), (1, (.d (.sl (.int .i64)))), (12, (.d (.int .i64))), (13, (.d (.int .i64)))], fun k h => slices_Equal_int_int.l0 k h.1 h.2.1 h.2.2.1 h.2.2.2.1⟩]
theorem slices_Equal_int_int.ok (k : Nat) : (slices_Equal_int_int.e k).Sound Tryz.prog ctx 30 :=
  entry_ok base_ok mo (fn := Tryz.f30) (b := (Tryz.f30.body.getD .skip)) (pm := [(.d (.sl (.int .i64))), (.d (.sl (.int .i64)))]) (rs := [.bool]) (an := slices_Equal_int_int.a) (N := 26) (vars := [(.tmp 4)]) Tryz.func30 (by kernel_rfl) (by kernel_rfl) (by kernel_rfl) (by kernel_rfl) (by kernel_rfl) (by kernel_rfl) (O := slices_Equal_int_int.O)
    (fun k => by unfold slices_Equal_int_int.O; exact oracle_of (P := Tryz.prog) (C := ctx) trivial) slices_Equal_int_int.T ⟨⟨by kernel_rfl, fun _ => by first | rfl | rw [slices_Equal_int_int.l0], fun k h => slices_Equal_int_int.l0_eq k h.1 h.2.1 h.2.2.1 h.2.2.2.1⟩, trivial⟩ k (fun h => slices_Equal_int_int.f_eq k h.1 h.2.1)
def mastref2_Alike_at_asset_Bundled.f (k : Nat) (a0 : T_asset_Bundled) (a1 : T_asset_Bundled) : Option (Bool) := (bif (seq a0.fBody a1.fBody) then ((slices_Equal_string_string.f k a0.fParts a1.fParts).bind fun y1 => (bif y1 then ((slices_Equal_int_int.f k a0.fEnds a1.fEnds).bind fun y2 => (some y2)) else (some false))) else (some false))
def mastref2_Alike_at_asset_Bundled.O (k : Nat) : Oracle sg := fun n => lkp n [(30, slices_Equal_int_int.e k), (43, slices_Equal_string_string.e k)]
def mastref2_Alike_at_asset_Bundled.a : Ann := .z
def mastref2_Alike_at_asset_Bundled.L (k : Nat) : Nat → St sg.U → Option (RT sg.U [.bool]) := labs []
theorem mastref2_Alike_at_asset_Bundled.f_eq (k : Nat) (a0 : T_asset_Bundled) (a1 : T_asset_Bundled) : mastref2_Alike_at_asset_Bundled.f k a0 a1 = codeK (C := ctx) (mastref2_Alike_at_asset_Bundled.O k) ⟨296, [], []⟩ (mastref2_Alike_at_asset_Bundled.L k) (Tryz.f13.body.getD .skip) mastref2_Alike_at_asset_Bundled.a (endK ctx [.bool] [(.tmp 4)]) (slotsOf sg.U 0 [(.iv 26 (.st 1)), (.iv 26 (.st 1))] (a0, a1, ()) (empty sg.U)) := by
  unfold mastref2_Alike_at_asset_Bundled.f
  kernel_rfl
def mastref2_Alike_at_asset_Bundled.e (k : Nat) : Entry sg := entryOf sg [(.iv 26 (.st 1)), (.iv 26 (.st 1))] [.bool] (fun h => mastref2_Alike_at_asset_Bundled.f k h.1 h.2.1)
def mastref2_Alike_at_asset_Bundled.T : List (Lb sg (RT sg.U [.bool])) := []
theorem mastref2_Alike_at_asset_Bundled.ok (k : Nat) : (mastref2_Alike_at_asset_Bundled.e k).Sound Tryz.prog ctx 13 :=
  entry_ok base_ok mo (fn := Tryz.f13) (b := (Tryz.f13.body.getD .skip)) (pm := [(.iv 26 (.st 1)), (.iv 26 (.st 1))]) (rs := [.bool]) (an := mastref2_Alike_at_asset_Bundled.a) (N := 296) (vars := [(.tmp 4)]) Tryz.func13 (by kernel_rfl) (by kernel_rfl) (by kernel_rfl) (by kernel_rfl) (by kernel_rfl) (by kernel_rfl) (O := mastref2_Alike_at_asset_Bundled.O)
    (fun k => by unfold mastref2_Alike_at_asset_Bundled.O; exact oracle_of (P := Tryz.prog) (C := ctx) ⟨(slices_Equal_int_int.ok k), ⟨(slices_Equal_string_string.ok k), trivial⟩⟩) mastref2_Alike_at_asset_Bundled.T trivial k (fun h => mastref2_Alike_at_asset_Bundled.f_eq k h.1 h.2.1)
def mastlaw2_AssetBundles.f (k : Nat) (a0 : (List T_api_File)) : Option (Bool) := ((asset_Bundle.f k a0).bind fun y1 => ((mastref2_BundleOf.f k a0).bind fun y2 => (bif (ieq y1.2 y2.2) then ((mastref2_Alike_at_asset_Bundled.f k y1.1 y2.1).bind fun y3 => (some y3)) else (some false))))
def mastlaw2_AssetBundles.O (k : Nat) : Oracle sg := fun n => lkp n [(11, asset_Bundle.e k), (12, mastref2_BundleOf.e k), (13, mastref2_Alike_at_asset_Bundled.e k)]
def mastlaw2_AssetBundles.a : Ann := .z
def mastlaw2_AssetBundles.L (k : Nat) : Nat → St sg.U → Option (RT sg.U [.bool]) := labs []
theorem mastlaw2_AssetBundles.f_eq (k : Nat) (a0 : (List T_api_File)) : mastlaw2_AssetBundles.f k a0 = codeK (C := ctx) (mastlaw2_AssetBundles.O k) ⟨27, [], []⟩ (mastlaw2_AssetBundles.L k) (Tryz.f3.body.getD .skip) mastlaw2_AssetBundles.a (endK ctx [.bool] [(.tmp 2)]) (slotsOf sg.U 0 [(.d (.sl (.st 0)))] (a0, ()) (empty sg.U)) := by
  unfold mastlaw2_AssetBundles.f
  kernel_rfl
def mastlaw2_AssetBundles.e (k : Nat) : Entry sg := entryOf sg [(.d (.sl (.st 0)))] [.bool] (fun h => mastlaw2_AssetBundles.f k h.1)
def mastlaw2_AssetBundles.T : List (Lb sg (RT sg.U [.bool])) := []
theorem mastlaw2_AssetBundles.ok (k : Nat) : (mastlaw2_AssetBundles.e k).Sound Tryz.prog ctx 3 :=
  entry_ok base_ok mo (fn := Tryz.f3) (b := (Tryz.f3.body.getD .skip)) (pm := [(.d (.sl (.st 0)))]) (rs := [.bool]) (an := mastlaw2_AssetBundles.a) (N := 27) (vars := [(.tmp 2)]) Tryz.func3 (by kernel_rfl) (by kernel_rfl) (by kernel_rfl) (by kernel_rfl) (by kernel_rfl) (by kernel_rfl) (O := mastlaw2_AssetBundles.O)
    (fun k => by unfold mastlaw2_AssetBundles.O; exact oracle_of (P := Tryz.prog) (C := ctx) ⟨(asset_Bundle.ok k), ⟨(mastref2_BundleOf.ok k), ⟨(mastref2_Alike_at_asset_Bundled.ok k), trivial⟩⟩⟩) mastlaw2_AssetBundles.T trivial k (fun h => mastlaw2_AssetBundles.f_eq k h.1)
end Go.Proofs.YthmedjljckbidaaGreatDoor.LAssetBundles
