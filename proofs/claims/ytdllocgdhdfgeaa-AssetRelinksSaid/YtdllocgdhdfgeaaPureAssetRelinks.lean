/- Names are put for the links of a style as the reference puts them. Conditions: none. -/
import Derived.Test.YtdllocgdhdfgeaaLAssetRelinksOp
import Derived.Lib.IndexBytes
import Derived.Lib.IndexLaws
import Derived.Lib.IndexAny
set_option linter.unusedVariables false
set_option linter.unusedSectionVars false
set_option linter.unusedSimpArgs false
namespace Go.Proofs.Ytdllocgdhdfgeaa.LAssetRelinks
open Go Go.Proofs.Ytdllocgdhdfgeaa.Lift

/-! Bytes. -/
def bt (s : ByteArray) (i : Nat) : Int := ((s.data.toList[i]?).map fun b => (b.toNat : Int)).getD 0

theorem bt_range (s : ByteArray) (i : Nat) : 0 ≤ bt s i ∧ bt s i ≤ 255 := by
  unfold bt
  cases s.data.toList[i]? with
  | none => decide
  | some b =>
    have := b.toNat_lt
    simp
    omega

theorem get_data {s : ByteArray} {i : Nat} (h : i < s.size) : s.data.toList[i]? = some s[i] := by
  have : i < s.data.size := h
  rw [Array.getElem?_toList, Array.getElem?_eq_getElem this]
  rfl

theorem sat_at {s : ByteArray} {i : Nat} (h : i < s.size) : sat s (i : Int) = some (bt s i) := by
  unfold sat bt
  rw [if_pos (by omega), get_data h, Int.toNat_natCast, getElem?_pos s i h]
  rfl

theorem ssub_at {s : ByteArray} {a b : Nat} (h1 : a ≤ b) (h2 : b ≤ s.size) : ssub s (a : Int) (b : Int) = some (s.extract a b) := by
  unfold ssub
  rw [if_pos ⟨by omega, by omega, by omega⟩, Int.toNat_natCast, Int.toNat_natCast]

theorem slen_eq (s : ByteArray) : slen s = (s.size : Int) := rfl

/-- Does it begin so. -/
def hpB (y c : ByteArray) : Bool := decide (c.size ≤ y.size) && seq (y.extract 0 c.size) c

theorem hasPrefix_ok (y c : ByteArray) : strings_HasPrefix.f y c = some (hpB y c) := by
  unfold strings_HasPrefix.f internal_stringslite_HasPrefix.f hpB
  by_cases h : c.size ≤ y.size
  · have e : ile (slen c) (slen y) = true := ile_t (by rw [slen_eq, slen_eq]; omega)
    have := ssub_at (s := y) (a := 0) (b := c.size) (by omega) h
    rw [e, cond_true, slen_eq, show (0 : Int) = ((0 : Nat) : Int) from rfl, this]
    simp [h]
  · have e : ile (slen c) (slen y) = false := ile_f (by rw [slen_eq, slen_eq]; omega)
    rw [e]
    simp [h]

def pre (s : ByteArray) (i : Nat) (c : ByteArray) : Bool := hpB (s.extract i s.size) c

theorem seq_list {a b : ByteArray} (h : seq a b = true) : a.data.toList = b.data.toList := by
  rw [seq_d] at h
  rw [of_decide_eq_true h]

theorem pre_two {s : ByteArray} {i : Nat} {x y : UInt8} (h : pre s i ⟨#[x, y]⟩ = true) : i + 2 ≤ s.size ∧ bt s i = x.toNat := by
  unfold pre hpB at h
  obtain ⟨h1, h2⟩ := Bool.and_eq_true_iff.1 h
  have h1 := of_decide_eq_true h1
  have h3 := seq_list h2
  have h1' : 2 ≤ (s.extract i s.size).size := h1
  rw [ByteArray.size_extract] at h1'
  refine ⟨by omega, ?_⟩
  rw [Lib.extract_data, Lib.extract_to_end, List.drop_zero] at h3
  have h4 : (s.data.toList.drop i).take 2 = [x, y] := h3
  have h5 : ((s.data.toList.drop i).take 2)[0]? = some x := by rw [h4]; rfl
  rw [List.getElem?_take, if_pos (by omega), List.getElem?_drop, Nat.add_zero] at h5
  unfold bt
  rw [h5]
  rfl

theorem index_fits : ∀ (l m : List UInt8), 0 ≤ Lib.index l m → Lib.index l m + m.length ≤ l.length
  | [], m, h => by
    unfold Lib.index at h ⊢
    cases m with
    | nil => simp
    | cons a m => simp at h
  | b :: l, m, h => by
    unfold Lib.index at h ⊢
    split
    · rename_i hp
      have := List.IsPrefix.length_le (List.isPrefixOf_iff_prefix.1 hp)
      simp at this ⊢
      omega
    · rename_i hp
      rw [if_neg hp] at h
      split
      · rename_i h2
        rw [if_pos h2] at h
        omega
      · rename_i h2
        rw [if_neg h2] at h
        have := Lib.index_ge l m
        have := index_fits l m (by
          have : Lib.index l m ≠ -1 := by simpa using h2
          omega)
        simp
        omega

/-- Where a comment ends: 0 none begins, -1 it has no end. -/
def cm (s : ByteArray) (B : Bool) (i : Nat) : Int :=
  if pre s i c__2f_2a then (if Lib.index (s.extract (i + 2) s.size).data.toList c__2a_2f.data.toList < 0 then -1 else (i : Int) + 2 + Lib.index (s.extract (i + 2) s.size).data.toList c__2a_2f.data.toList + 2)
  else if (B && pre s i c__2f_2f) = true then (if Lib.indexByte (s.extract i s.size).data.toList 10 < 0 then (s.size : Int) else (i : Int) + Lib.indexByte (s.extract i s.size).data.toList 10)
  else 0

theorem cm_range' {s : ByteArray} {B : Bool} {i : Nat} (hi : i < s.size) : (cm s B i = 0 ∧ (B && pre s i c__2f_2f) = false) ∨ cm s B i = -1 ∨ ((i : Int) < cm s B i ∧ cm s B i ≤ s.size) := by
  unfold cm
  split
  · rename_i h1
    have p := (pre_two h1).1
    split
    · exact .inr (.inl rfl)
    · rename_i h2
      have := index_fits (s.extract (i + 2) s.size).data.toList c__2a_2f.data.toList (by omega)
      rw [Lib.extract_to_end, List.length_drop] at this
      have e : s.data.toList.length = s.size := by rw [Array.length_toList]; rfl
      have e2 : c__2a_2f.data.toList.length = 2 := rfl
      rw [e, e2] at this
      rw [Lib.extract_to_end] at h2 ⊢
      right; right; omega
  · split
    · rename_i h1
      obtain ⟨hb, h1⟩ := Bool.and_eq_true_iff.1 h1
      have p := pre_two h1
      split
      · right; right; omega
      · rename_i h2
        obtain ⟨o, ho⟩ : ∃ o : Nat, Lib.indexByte (s.extract i s.size).data.toList 10 = o := ⟨(Lib.indexByte (s.extract i s.size).data.toList 10).toNat, by omega⟩
        have h3 := (Lib.indexByte_some ho).1
        rw [Lib.extract_to_end, List.getElem?_drop] at h3
        have h4 := (List.getElem?_eq_some_iff.1 h3).1
        have e : s.data.toList.length = s.size := by rw [Array.length_toList]; rfl
        rw [e] at h4
        rw [ho]
        have : o ≠ 0 := by
          rintro rfl
          have h5 := p.2
          unfold bt at h5
          rw [Nat.add_zero] at h3
          rw [h3] at h5
          revert h5
          decide
        right; right; omega
    · rename_i h; exact .inl ⟨rfl, by simpa using h⟩

theorem cm_range {s : ByteArray} {B : Bool} {i : Nat} (hi : i < s.size) : cm s B i = 0 ∨ cm s B i = -1 ∨ ((i : Int) < cm s B i ∧ cm s B i ≤ s.size) := (cm_range' hi).imp (fun h => h.1) id

theorem cm_a {s : ByteArray} {B : Bool} {i : Nat} (hp : pre s i c__2f_2a = true) : cm s B i = if Lib.index (s.data.toList.drop (i + 2)) c__2a_2f.data.toList < 0 then -1 else (i : Int) + 2 + Lib.index (s.data.toList.drop (i + 2)) c__2a_2f.data.toList + 2 := by
  unfold cm
  rw [if_pos hp, Lib.extract_to_end]
theorem cm_b {s : ByteArray} {B : Bool} {i : Nat} (hp : pre s i c__2f_2a = false) (hq : (B && pre s i c__2f_2f) = true) : cm s B i = if Lib.indexByte (s.extract i s.size).data.toList 10 < 0 then (s.size : Int) else (i : Int) + Lib.indexByte (s.extract i s.size).data.toList 10 := by
  unfold cm
  rw [if_neg (by rw [hp]; decide), if_pos hq]
theorem cm_c {s : ByteArray} {B : Bool} {i : Nat} (hp : pre s i c__2f_2a = false) (hq : (B && pre s i c__2f_2f) = false) : cm s B i = 0 := by
  unfold cm
  rw [if_neg (by rw [hp]; decide), if_neg (by rw [hq]; decide)]

theorem cm_slash {s : ByteArray} {B : Bool} {i : Nat} (h : bt s i ≠ 47) : cm s B i = 0 := by
  have h1 : pre s i c__2f_2a = false := by
    cases e : pre s i c__2f_2a with
    | false => rfl
    | true => exact absurd (pre_two e).2 h
  have h2 : pre s i c__2f_2f = false := by
    cases e : pre s i c__2f_2f with
    | false => rfl
    | true => exact absurd (pre_two e).2 h
  simp [cm, h1, h2]

section
variable {s : ByteArray} (hn : s.size ≤ 20000) {B : Bool}
include hn

theorem index_ok {i : Nat} (hi : i ≤ s.size) : strings_Index.f (s.extract i s.size) c__2a_2f = some (Lib.index (s.extract i s.size).data.toList c__2a_2f.data.toList) := by
  unfold strings_Index.f
  rw [if_pos]
  rw [ByteArray.size_extract]
  omega

theorem cm_ref {i : Nat} (hi : i < s.size) : Ev (fun k => mastref2_commentEnd.f k s (i : Int) B) (cm s B i) := by
  have w2 : wadd .i64 (i : Int) 2 = ((i + 2 : Nat) : Int) := wadd64 (by omega) (by omega)
  refine Ev.congr (g := fun k => bif pre s i c__2f_2a then some (cm s B i) else (mastref2_commentEnd.l0 k s (i : Int) (B && pre s i c__2f_2f))) (fun k => ?_) ?_
  · simp only [mastref2_commentEnd.f, slen_eq, ssub_at (Nat.le_of_lt hi) (Nat.le_refl _), Option.bind_some, hasPrefix_ok, w2]
    cases hp : pre s i c__2f_2a with
    | true =>
      have hp' : hpB (s.extract i s.size) c__2f_2a = true := hp
      have p := (pre_two hp).1
      rw [hp']
      simp only [cond_true, ssub_at p (Nat.le_refl _), Option.bind_some, index_ok hn p]
      have hx := index_fits (s.extract (i + 2) s.size).data.toList c__2a_2f.data.toList
      rw [Lib.extract_to_end, List.length_drop] at hx
      have e : s.data.toList.length = s.size := by rw [Array.length_toList]; rfl
      rw [e] at hx
      have hg := Lib.index_ge (s.data.toList.drop (i + 2)) c__2a_2f.data.toList
      rw [cm_a hp, Lib.extract_to_end]
      by_cases hlt : Lib.index (s.data.toList.drop (i + 2)) c__2a_2f.data.toList < 0
      · rw [ilt_t hlt, if_pos hlt, cond_true]
      · have := hx (by omega)
        have w3 : wadd .i64 ((i + 2 : Nat) : Int) (Lib.index (s.data.toList.drop (i + 2)) c__2a_2f.data.toList) = (i : Int) + 2 + Lib.index (s.data.toList.drop (i + 2)) c__2a_2f.data.toList := by rw [wadd64 (by omega) (by omega)]; omega
        rw [ilt_f (by omega), if_neg hlt, cond_false, w3, wadd64 (by omega) (by omega)]
    | false =>
      have hp' : hpB (s.extract i s.size) c__2f_2a = false := hp
      rw [hp']
      simp only [cond_false]
      cases B
      · rfl
      · simp only [cond_true, Bool.true_and]
        rfl
  · cases hp : pre s i c__2f_2a with
    | true => exact Ev.now fun _ => rfl
    | false =>
      simp only [cond_false]
      refine Ev.step (g := fun _ => some (cm s B i)) (fun k => ?_) (Ev.now fun _ => rfl)
      have rg := cm_range (B := B) hi
      cases hq : (B && pre s i c__2f_2f) with
      | false => simp only [mastref2_commentEnd.l0, cond_false, cm_c hp hq]
      | true =>
        rw [cm_b hp hq] at rg ⊢
        simp only [mastref2_commentEnd.l0, cond_true, slen_eq, ssub_at (Nat.le_of_lt hi) (Nat.le_refl _), Option.bind_some, strings_IndexByte.f, show (10 : Int).toNat.toUInt8 = (10 : UInt8) from rfl, if_true]
        by_cases hlt : Lib.indexByte (s.extract i s.size).data.toList 10 < 0
        · rw [ilt_t hlt, if_pos hlt, cond_true]
        · rw [if_neg hlt] at rg ⊢
          rw [ilt_f (by omega), cond_false, wadd64 (by omega) (by omega)]

/-- The program's words for it. -/
def cp (s : ByteArray) (B : Bool) (i : Nat) : Int := if cm s B i = 0 then -1 else if cm s B i = -1 then (s.size : Int) + 1 else cm s B i

omit hn in
theorem ext_ext {i : Nat} (p : i + 2 ≤ s.size) : (s.extract i s.size).extract 2 (s.extract i s.size).size = s.extract (i + 2) s.size := by
  apply ByteArray.ext
  apply Array.toList_inj.1
  rw [Lib.extract_to_end, Lib.extract_to_end, Lib.extract_to_end, List.drop_drop]

theorem cm_prog {i : Nat} (hi : i < s.size) (o : List T_asset_placed) : Ev (fun k => asset_scanner_comment.f k s B o (i : Int)) (cp s B i, (s, B, o, ())) := by
  have w2 : wadd .i64 (i : Int) 2 = (i : Int) + 2 := wadd64 (by omega) (by omega)
  have w1 : wadd .i64 (s.size : Int) 1 = (s.size : Int) + 1 := wadd64 (by omega) (by omega)
  have rg := cm_range (B := B) hi
  refine Ev.congr (g := fun k => bif pre s i c__2f_2a then some (cp s B i, (s, B, o, ())) else (asset_scanner_comment.l0 k s B o (i : Int) (s.extract i s.size) (B && pre s i c__2f_2f))) (fun k => ?_) ?_
  · simp only [asset_scanner_comment.f, slen_eq, ssub_at (Nat.le_of_lt hi) (Nat.le_refl _), Option.bind_some, hasPrefix_ok, w2, w1]
    cases hp : pre s i c__2f_2a with
    | true =>
      have hp' : hpB (s.extract i s.size) c__2f_2a = true := hp
      have p := (pre_two hp).1
      have hs2 : 2 ≤ (s.extract i s.size).size := by rw [ByteArray.size_extract]; omega
      rw [hp']
      simp only [cond_true]
      rw [show (2 : Int) = ((2 : Nat) : Int) from rfl, ssub_at hs2 (Nat.le_refl _), Option.bind_some, ext_ext p, index_ok hn p]
      simp only [Option.bind_some]
      have hx := index_fits (s.extract (i + 2) s.size).data.toList c__2a_2f.data.toList
      rw [Lib.extract_to_end, List.length_drop] at hx
      have e : s.data.toList.length = s.size := by rw [Array.length_toList]; rfl
      rw [e] at hx
      unfold cp
      rw [cm_a hp] at rg ⊢
      rw [Lib.extract_to_end]
      by_cases hlt : Lib.index (s.data.toList.drop (i + 2)) c__2a_2f.data.toList < 0
      · rw [ilt_t hlt, if_pos hlt, cond_true]
        rfl
      · have := hx (by omega)
        rw [if_neg hlt] at rg ⊢
        have w3 : wadd .i64 ((i : Int) + ((2 : Nat) : Int)) (Lib.index (s.data.toList.drop (i + 2)) c__2a_2f.data.toList) = (i : Int) + 2 + Lib.index (s.data.toList.drop (i + 2)) c__2a_2f.data.toList := by rw [wadd64 (by omega) (by omega)]; omega
        rw [ilt_f (by omega), cond_false, w3, wadd64 (by omega) (by omega), if_neg (by omega), if_neg (by omega)]
        rfl
    | false =>
      have hp' : hpB (s.extract i s.size) c__2f_2a = false := hp
      rw [hp']
      simp only [cond_false]
      cases B
      · rfl
      · simp only [cond_true, Bool.true_and]
        rfl
  · cases hp : pre s i c__2f_2a with
    | true => exact Ev.now fun _ => rfl
    | false =>
      simp only [cond_false]
      refine Ev.step (g := fun _ => some (cp s B i, (s, B, o, ()))) (fun k => ?_) (Ev.now fun _ => rfl)
      unfold cp
      cases hq : (B && pre s i c__2f_2f) with
      | false => simp only [asset_scanner_comment.l0, cond_false, cm_c hp hq, if_true]
      | true =>
        have rg := (cm_range' (B := B) hi).resolve_left fun q => by rw [hq] at q; cases q.2
        rw [cm_b hp hq] at rg ⊢
        simp only [asset_scanner_comment.l0, cond_true, slen_eq, Option.bind_some, strings_IndexByte.f, show (10 : Int).toNat.toUInt8 = (10 : UInt8) from rfl, if_true]
        by_cases hlt : Lib.indexByte (s.extract i s.size).data.toList 10 < 0
        · rw [if_pos hlt, ilt_t hlt, cond_true, if_neg (show ¬ (s.size : Int) = 0 by omega), if_neg (show ¬ (s.size : Int) = -1 by omega)]
        · rw [if_neg hlt] at rg ⊢
          rw [ilt_f (by omega), cond_false, wadd64 (by omega) (by omega), if_neg (by omega), if_neg (by omega)]
end

/-! Bytes that cannot be there. -/
def bad (x : Int) : Prop := (x < 32 ∧ x ≠ 9 ∧ x ≠ 10) ∨ x = 127
instance (x : Int) : Decidable (bad x) := by unfold bad; infer_instance

theorem bad_ok (x : Int) : asset_badByte.f x = some (decide (bad x)) := by
  unfold asset_badByte.f bad
  congr 1
  simp only [ilt_d, ieq_d]
  by_cases h1 : x < 32 <;> by_cases h2 : x = 9 <;> by_cases h3 : x = 10 <;> by_cases h4 : x = 127 <;> simp [h1, h2, h3, h4]
theorem bad_ref (x : Int) : mastref2_refusedByte_c1.f x = some (decide (bad x)) := bad_ok x

theorem getb {s : ByteArray} {i : Nat} (h : i < s.size) : ((s.get! i).toNat : Int) = bt s i := by
  unfold bt
  rw [get_data h]
  have : s.get! i = s[i] := by
    show s.data[i]! = s[i]
    rw [getElem!_pos s.data i h]
    rfl
  rw [this]
  rfl

theorem dec_low {s : ByteArray} {p : Nat} (hp : p < s.size) (h : bt s p < 128) : Utf8.decode s p = ((bt s p).toNat, 1) := by
  have g := getb hp
  unfold Utf8.decode
  have : (s.get! (p + 0)).toNat < 128 := by rw [Nat.add_zero]; omega
  simp only [this, if_true]
  rw [Nat.add_zero, ← g]
  rfl

theorem dec_high {s : ByteArray} {p : Nat} (hp : p < s.size) (h : 128 ≤ bt s p) : 128 ≤ (Utf8.decode s p).1 ∧ 1 ≤ (Utf8.decode s p).2 ∧ ∀ j, p ≤ j → j < p + (Utf8.decode s p).2 → j < s.size ∧ 128 ≤ bt s j := by
  have g := getb hp
  have h0 : ¬ (s.get! (p + 0)).toNat < 128 := by rw [Nat.add_zero]; omega
  have one : ∀ j, p ≤ j → j < p + 1 → j < s.size ∧ 128 ≤ bt s j := fun j h1 h2 => by
    obtain rfl : j = p := by omega
    exact ⟨hp, h⟩
  have cont : ∀ k, (decide (p + k < s.size) && (s.get! (p + k)).toNat / 64 == 2) = true → p + k < s.size ∧ 128 ≤ bt s (p + k) := fun k hk => by
    obtain ⟨h1, h2⟩ := Bool.and_eq_true_iff.1 hk
    have h1 := of_decide_eq_true h1
    have h2 : (s.get! (p + k)).toNat / 64 = 2 := by simpa using h2
    have := getb h1
    exact ⟨h1, by omega⟩
  unfold Utf8.decode
  simp only [h0, if_false]
  split
  · rename_i hc
    obtain ⟨_, hc⟩ := Bool.and_eq_true_iff.1 hc
    have c1 := cont 1 hc
    split
    · rename_i hv
      refine ⟨hv, by show 1 ≤ 2; decide, fun j h1 h2 => ?_⟩
      have : j = p ∨ j = p + 1 := by omega
      rcases this with rfl | rfl
      · exact ⟨hp, h⟩
      · exact c1
    · exact ⟨by decide, by decide, one⟩
  · split
    · rename_i hc
      obtain ⟨hc, hc2⟩ := Bool.and_eq_true_iff.1 hc
      obtain ⟨_, hc1⟩ := Bool.and_eq_true_iff.1 hc
      have c1 := cont 1 hc1
      have c2 := cont 2 hc2
      split
      · rename_i hv
        obtain ⟨hv, _⟩ := Bool.and_eq_true_iff.1 hv
        have hv := of_decide_eq_true hv
        refine ⟨by omega, by show 1 ≤ 3; decide, fun j h1 h2 => ?_⟩
        have : j = p ∨ j = p + 1 ∨ j = p + 2 := by omega
        rcases this with rfl | rfl | rfl
        · exact ⟨hp, h⟩
        · exact c1
        · exact c2
      · exact ⟨by decide, by decide, one⟩
    · split
      · rename_i hc
        obtain ⟨hc, hc3⟩ := Bool.and_eq_true_iff.1 hc
        obtain ⟨hc, hc2⟩ := Bool.and_eq_true_iff.1 hc
        obtain ⟨_, hc1⟩ := Bool.and_eq_true_iff.1 hc
        have c1 := cont 1 hc1
        have c2 := cont 2 hc2
        have c3 := cont 3 hc3
        split
        · rename_i hv
          obtain ⟨hv, _⟩ := Bool.and_eq_true_iff.1 hv
          have hv := of_decide_eq_true hv
          refine ⟨by omega, by show 1 ≤ 4; decide, fun j h1 h2 => ?_⟩
          have : j = p ∨ j = p + 1 ∨ j = p + 2 ∨ j = p + 3 := by omega
          rcases this with rfl | rfl | rfl | rfl
          · exact ⟨hp, h⟩
          · exact c1
          · exact c2
          · exact c3
        · exact ⟨by decide, by decide, one⟩
      · exact ⟨by decide, by decide, one⟩

/-- It is the place of the first bad byte, or -1. -/
def FB (s : ByteArray) (b : Int) : Prop := (b = -1 ∧ ∀ j, j < s.size → ¬ bad (bt s j)) ∨ ∃ j : Nat, j < s.size ∧ b = j ∧ bad (bt s j) ∧ ∀ k, k < j → ¬ bad (bt s k)

theorem not_bad_high {x : Int} (h : 128 ≤ x) : ¬ bad x := by unfold bad; omega

theorem refuse_loop (s : ByteArray) : ∀ (d p : Nat), s.size - p ≤ d → (∀ j, j < p → j < s.size → ¬ bad (bt s j)) → ∃ b, FB s b ∧ Ev (fun k => strings_indexFunc_at_mastref2_refusedByte_c1.l0 k true s (p : Int)) b := by
  intro d
  induction d with
  | zero =>
    intro p hd hb
    refine ⟨-1, .inl ⟨rfl, fun j hj => hb j (by omega) hj⟩, Ev.step (g := fun _ => some (-1)) (fun k => ?_) (Ev.now fun _ => rfl)⟩
    simp only [strings_indexFunc_at_mastref2_refusedByte_c1.l0, slen_eq, ilt_f (show (s.size : Int) ≤ (p : Int) by omega), cond_false]
  | succ d ih =>
    intro p hd hb
    by_cases hp : p < s.size
    · have hlt : ilt (p : Int) (s.size : Int) = true := ilt_t (by omega)
      by_cases hlow : bt s p < 128
      · have e := dec_low hp hlow
        have hr : srune s (p : Int) = bt s p := by
          unfold srune
          rw [Int.toNat_natCast, e]
          have := (bt_range s p).1
          simp only
          omega
        have hx : snext s (p : Int) = ((p + 1 : Nat) : Int) := by unfold snext; rw [Int.toNat_natCast, e]; rfl
        by_cases hbad : bad (bt s p)
        · refine ⟨p, .inr ⟨p, hp, rfl, hbad, fun k hk => hb k hk (by omega)⟩, Ev.step (g := fun _ => some (p : Int)) (fun k => ?_) (Ev.now fun _ => rfl)⟩
          simp only [strings_indexFunc_at_mastref2_refusedByte_c1.l0, slen_eq, hlt, cond_true, hr, bad_ref, Option.bind_some, decide_eq_true hbad, beq_self_eq_true]
        · obtain ⟨b, h1, h2⟩ := ih (p + 1) (by omega) (fun j hj hj2 => by
            by_cases q : j = p
            · rw [q]; exact hbad
            · exact hb j (by omega) hj2)
          refine ⟨b, h1, Ev.step (fun k => ?_) h2⟩
          simp only [strings_indexFunc_at_mastref2_refusedByte_c1.l0, slen_eq, hlt, cond_true, hr, bad_ref, Option.bind_some, decide_eq_false hbad, hx]
          rfl
      · obtain ⟨d1, d2, d3⟩ := dec_high hp (by omega)
        have hr : ¬ bad (srune s (p : Int)) := by
          unfold srune
          rw [Int.toNat_natCast]
          exact not_bad_high (by omega)
        have hx : snext s (p : Int) = ((p + (Utf8.decode s p).2 : Nat) : Int) := by unfold snext; rw [Int.toNat_natCast]; rfl
        obtain ⟨b, h1, h2⟩ := ih (p + (Utf8.decode s p).2) (by omega) (fun j hj hj2 => by
          by_cases q : j < p
          · exact hb j q hj2
          · exact not_bad_high (d3 j (by omega) hj).2)
        refine ⟨b, h1, Ev.step (fun k => ?_) h2⟩
        simp only [strings_indexFunc_at_mastref2_refusedByte_c1.l0, slen_eq, hlt, cond_true, bad_ref, Option.bind_some, decide_eq_false hr, hx]
        rfl
    · exact ⟨-1, .inl ⟨rfl, fun j hj => hb j (by omega) hj⟩, Ev.step (g := fun _ => some (-1)) (fun k => by simp only [strings_indexFunc_at_mastref2_refusedByte_c1.l0, slen_eq, ilt_f (show (s.size : Int) ≤ (p : Int) by omega), cond_false]) (Ev.now fun _ => rfl)⟩

theorem refuse (s : ByteArray) : ∃ b, FB s b ∧ Ev (fun k => mastref2_refusedByte.f k s) b := by
  obtain ⟨b, h1, h2⟩ := refuse_loop s s.size 0 (by omega) (fun j hj => by omega)
  refine ⟨b, h1, ?_⟩
  unfold mastref2_refusedByte.f strings_IndexFunc_at_mastref2_refusedByte_c1.f strings_indexFunc_at_mastref2_refusedByte_c1.f
  exact Ev.bind (Ev.bind h2 (Ev.now fun _ => rfl)) (Ev.now fun _ => rfl)

section
variable {s : ByteArray} (hn : s.size ≤ 20000) {B : Bool}
include hn

/-- The first bad byte of a part, or -1. -/
theorem checked_ok (o : List T_asset_placed) {e : Nat} (he : e ≤ s.size) : ∀ (d p : Nat), e - p ≤ d →
    ((∀ j, p ≤ j → j < e → ¬ bad (bt s j)) ∧ Ev (fun k => asset_scanner_checked.l0 k s B o (e : Int) (p : Int)) (-1, (s, B, o, ()))) ∨
    ∃ q : Nat, p ≤ q ∧ q < e ∧ bad (bt s q) ∧ (∀ j, p ≤ j → j < q → ¬ bad (bt s j)) ∧ Ev (fun k => asset_scanner_checked.l0 k s B o (e : Int) (p : Int)) ((q : Int), (s, B, o, ())) := by
  intro d
  induction d with
  | zero =>
    intro p hd
    refine .inl ⟨fun j _ _ => by omega, Ev.step (g := fun _ => some (-1, (s, B, o, ()))) (fun k => ?_) (Ev.now fun _ => rfl)⟩
    simp only [asset_scanner_checked.l0, ilt_f (show (e : Int) ≤ (p : Int) by omega), cond_false]
  | succ d ih =>
    intro p hd
    by_cases hp : p < e
    · have hlt : ilt (p : Int) (e : Int) = true := ilt_t (by omega)
      by_cases hb : bad (bt s p)
      · refine .inr ⟨p, Nat.le_refl _, hp, hb, fun j _ _ => by omega, Ev.step (g := fun _ => some ((p : Int), (s, B, o, ()))) (fun k => ?_) (Ev.now fun _ => rfl)⟩
        simp only [asset_scanner_checked.l0, hlt, cond_true, sat_at (show p < s.size by omega), Option.bind_some, bad_ok, decide_eq_true hb]
      · have hs : ∀ k, asset_scanner_checked.l0 (k + 1) s B o (e : Int) (p : Int) = asset_scanner_checked.l0 k s B o (e : Int) ((p + 1 : Nat) : Int) := fun k => by
          simp only [asset_scanner_checked.l0, hlt, cond_true, sat_at (show p < s.size by omega), Option.bind_some, bad_ok, decide_eq_false hb, cond_false, show wadd .i64 (p : Int) 1 = ((p + 1 : Nat) : Int) from wadd64 (by omega) (by omega)]
        rcases ih (p + 1) (by omega) with ⟨h1, h2⟩ | ⟨q, q1, q2, q3, q4, q5⟩
        · refine .inl ⟨fun j j1 j2 => ?_, Ev.step hs h2⟩
          by_cases q : j = p
          · rw [q]; exact hb
          · exact h1 j (by omega) j2
        · refine .inr ⟨q, by omega, q2, q3, fun j j1 j2 => ?_, Ev.step hs q5⟩
          by_cases q : j = p
          · rw [q]; exact hb
          · exact q4 j (by omega) j2
    · refine .inl ⟨fun j _ _ => by omega, Ev.step (g := fun _ => some (-1, (s, B, o, ()))) (fun k => ?_) (Ev.now fun _ => rfl)⟩
      simp only [asset_scanner_checked.l0, ilt_f (show (e : Int) ≤ (p : Int) by omega), cond_false]

/-- Where a string ends. -/
theorem text_loop (o : List T_asset_placed) {i : Nat} (hi : i < s.size) (hq : bt s i = 34 ∨ bt s i = 39) : ∀ (d p : Nat), s.size - p ≤ d → i < p → ∃ t : Int, (t = -1 ∨ ((p : Int) < t ∧ t ≤ s.size)) ∧
    Ev (fun k => asset_scanner_text.l0 k s B o (p : Int) (bt s i)) (t, (s, B, o, ())) ∧ Ev (fun k => mastref2_stringEnd.l0 k s (i : Int) (p : Int)) t := by
  intro d
  induction d using Nat.strongRecOn with
  | _ d ih =>
  intro p hd hip
  have over : ∀ p : Nat, s.size ≤ p → Ev (fun k => mastref2_stringEnd.l0 k s (i : Int) (p : Int)) (-1) := fun p hp => Ev.step (g := fun _ => some (-1)) (fun k => by simp only [mastref2_stringEnd.l0, slen_eq, ilt_f (show (s.size : Int) ≤ (p : Int) by omega), cond_false]) (Ev.now fun _ => rfl)
  have overP : ∀ p : Nat, s.size ≤ p → Ev (fun k => asset_scanner_text.l0 k s B o (p : Int) (bt s i)) (-1, (s, B, o, ())) := fun p hp => Ev.step (g := fun _ => some (-1, (s, B, o, ()))) (fun k => by simp only [asset_scanner_text.l0, slen_eq, ilt_f (show (s.size : Int) ≤ (p : Int) by omega), cond_false]) (Ev.now fun _ => rfl)
  by_cases hp : p < s.size
  · have hlt : ilt (p : Int) (s.size : Int) = true := ilt_t (by omega)
    have w1 : wadd .i64 (p : Int) 1 = ((p + 1 : Nat) : Int) := wadd64 (by omega) (by omega)
    have w2 : wadd .i64 ((p + 1 : Nat) : Int) 1 = ((p + 2 : Nat) : Int) := wadd64 (by omega) (by omega)
    have lineP : ∀ p : Nat, p < s.size → bt s p = 10 → Ev (fun k => asset_scanner_text.l0 k s B o (p : Int) (bt s i)) (-1, (s, B, o, ())) := fun p hp h10 => Ev.step (g := fun _ => some (-1, (s, B, o, ()))) (fun k => by simp only [asset_scanner_text.l0, slen_eq, ilt_t (show (p : Int) < (s.size : Int) by omega), cond_true, sat_at hp, Option.bind_some, h10, ieq_self, Bool.not_true, cond_false]) (Ev.now fun _ => rfl)
    by_cases h10 : bt s p = 10
    · exact ⟨-1, .inl rfl, lineP p hp h10, Ev.step (g := fun _ => some (-1)) (fun k => by simp only [mastref2_stringEnd.l0, slen_eq, hlt, cond_true, sat_at hp, Option.bind_some, h10, ieq_self]) (Ev.now fun _ => rfl)⟩
    · have e10 : ieq (bt s p) 10 = false := ieq_f h10
      by_cases hqq : bt s p = bt s i
      · have e92 : ieq (bt s p) 92 = false := ieq_f (by omega)
        refine ⟨((p + 1 : Nat) : Int), .inr ⟨by omega, by omega⟩, Ev.step (g := fun _ => some (((p + 1 : Nat) : Int), (s, B, o, ()))) (fun k => ?_) (Ev.now fun _ => rfl), Ev.step (g := fun _ => some ((p + 1 : Nat) : Int)) (fun k => ?_) (Ev.now fun _ => rfl)⟩
        · simp only [asset_scanner_text.l0, slen_eq, hlt, cond_true, sat_at hp, Option.bind_some, e10, Bool.not_false, ieq_t hqq, w1]
        · simp only [mastref2_stringEnd.l0, slen_eq, hlt, cond_true, sat_at hp, sat_at hi, Option.bind_some, e10, e92, cond_false, ieq_t hqq, w1]
      · have eq : ieq (bt s p) (bt s i) = false := ieq_f hqq
        by_cases h92 : bt s p = 92
        · have e92 : ieq (bt s p) 92 = true := ieq_t h92
          by_cases hp1 : p + 1 < s.size
          · have hlt1 : ilt ((p + 1 : Nat) : Int) (s.size : Int) = true := ilt_t (by omega)
            by_cases hn10 : bt s (p + 1) = 10
            · refine ⟨-1, .inl rfl, Ev.step (g := fun k => asset_scanner_text.l1 k s B o (p : Int) (bt s i) s (p : Int) (bt s p) true false) (fun k => ?_) (Ev.step (fun k => ?_) (lineP (p + 1) hp1 hn10)), Ev.step (g := fun _ => some (-1)) (fun k => ?_) (Ev.now fun _ => rfl)⟩
              · simp only [asset_scanner_text.l0, slen_eq, hlt, cond_true, sat_at hp, Option.bind_some, e10, Bool.not_false, eq, cond_false, e92, w1, hlt1, sat_at hp1, ieq_t hn10, Bool.not_true]
              · simp only [asset_scanner_text.l1, cond_false, w1]
              · simp only [mastref2_stringEnd.l0, slen_eq, hlt, cond_true, sat_at hp, Option.bind_some, e10, e92, cond_false, w1, hlt1, sat_at hp1, ieq_t hn10]
            · obtain ⟨t, t1, t2, t3⟩ := ih (s.size - (p + 2)) (by omega) (p + 2) (Nat.le_refl _) (by omega)
              refine ⟨t, t1.imp id (fun q => ⟨by omega, q.2⟩), Ev.step (g := fun k => asset_scanner_text.l1 k s B o (p : Int) (bt s i) s (p : Int) (bt s p) true true) (fun k => ?_) (Ev.step (fun k => ?_) t2), Ev.step (fun k => ?_) t3⟩
              · simp only [asset_scanner_text.l0, slen_eq, hlt, cond_true, sat_at hp, Option.bind_some, e10, Bool.not_false, eq, cond_false, e92, w1, hlt1, sat_at hp1, ieq_f hn10]
              · simp only [asset_scanner_text.l1, cond_true, w1, w2]
              · simp only [mastref2_stringEnd.l0, slen_eq, hlt, cond_true, sat_at hp, Option.bind_some, e10, e92, cond_false, w1, w2, hlt1, sat_at hp1, ieq_f hn10]
          · have hlt1 : ilt ((p + 1 : Nat) : Int) (s.size : Int) = false := ilt_f (by omega)
            refine ⟨-1, .inl rfl, Ev.step (g := fun k => asset_scanner_text.l1 k s B o (p : Int) (bt s i) s (p : Int) (bt s p) true false) (fun k => ?_) (Ev.step (fun k => ?_) (overP (p + 1) (by omega))), Ev.step (fun k => ?_) (over (p + 2) (by omega))⟩
            · simp only [asset_scanner_text.l0, slen_eq, hlt, cond_true, sat_at hp, Option.bind_some, e10, Bool.not_false, eq, cond_false, e92, w1, hlt1]
            · simp only [asset_scanner_text.l1, cond_false, w1]
            · simp only [mastref2_stringEnd.l0, slen_eq, hlt, cond_true, sat_at hp, Option.bind_some, e10, e92, cond_false, w1, w2, hlt1]
        · have e92 : ieq (bt s p) 92 = false := ieq_f h92
          obtain ⟨t, t1, t2, t3⟩ := ih (s.size - (p + 1)) (by omega) (p + 1) (Nat.le_refl _) (by omega)
          refine ⟨t, t1.imp id (fun q => ⟨by omega, q.2⟩), Ev.step (fun k => ?_) t2, Ev.step (fun k => ?_) t3⟩
          · simp only [asset_scanner_text.l0, slen_eq, hlt, cond_true, sat_at hp, Option.bind_some, e10, Bool.not_false, eq, cond_false, e92, w1]
          · simp only [mastref2_stringEnd.l0, slen_eq, hlt, cond_true, sat_at hp, sat_at hi, Option.bind_some, e10, e92, cond_false, eq, w1]
  · exact ⟨-1, .inl rfl, overP p (by omega), over p (by omega)⟩
end

/-! Kinds of bytes. -/
def blank (x : Int) : Prop := x = 32 ∨ x = 9 ∨ x = 10
instance (x : Int) : Decidable (blank x) := by unfold blank; infer_instance
theorem blank_ok (x : Int) : asset_isBlank.f x = some (decide (blank x)) := by
  unfold asset_isBlank.f blank
  congr 1
  simp only [ieq_d]
  by_cases h2 : x = 9 <;> by_cases h3 : x = 10 <;> by_cases h4 : x = 32 <;> simp [h2, h3, h4]

def swB (x : Int) : Bool := decide ((97 ≤ x ∧ x ≤ 122) ∨ (65 ≤ x ∧ x ≤ 90) ∨ (48 ≤ x ∧ x ≤ 57) ∨ x = 95 ∨ x = 36 ∨ 128 ≤ x)

theorem sw_prog (x : Int) : asset_isScriptWord.f x = some (swB x) := by
  unfold asset_isScriptWord.f asset_isDigit.f swB
  simp only [ile_d, ieq_d, Option.bind_some]
  by_cases a1 : 97 ≤ x <;> by_cases a2 : x ≤ 122 <;> by_cases a3 : 65 ≤ x <;> by_cases a4 : x ≤ 90 <;> simp [a1, a2, a3, a4] <;>
    (by_cases a5 : 48 ≤ x <;> by_cases a6 : x ≤ 57 <;> by_cases a7 : x = 95 <;> by_cases a8 : x = 36 <;> simp [a5, a6, a7, a8])

theorem sw_ref (x : Int) : (bif (bif (bif (bif (bif (bif (ile 97 x) then (ile x 122) else false) then true else (bif (ile 65 x) then (ile x 90) else false)) then true else (bif (ile 48 x) then (ile x 57) else false)) then true else (ieq x 95)) then true else (ieq x 36)) then true else (ile 128 x)) = swB x := by
  unfold swB
  simp only [ile_d, ieq_d]
  by_cases a1 : 97 ≤ x <;> by_cases a2 : x ≤ 122 <;> by_cases a3 : 65 ≤ x <;> by_cases a4 : x ≤ 90 <;> simp [a1, a2, a3, a4] <;>
    (by_cases a5 : 48 ≤ x <;> by_cases a6 : x ≤ 57 <;> by_cases a7 : x = 95 <;> by_cases a8 : x = 36 <;> simp [a5, a6, a7, a8])

def in10 (x : Int) : Bool := c__7b_7d_28_29_5b_5d_3b_3a_2c_3e.data.toList.contains x.toNat.toUInt8
def in15 (x : Int) : Bool := c__7b_7d_28_29_5b_5d_3_0267af61.data.toList.contains x.toNat.toUInt8

theorem in_idx (l : List UInt8) (b : UInt8) : l.contains b = decide (0 ≤ Lib.indexByte l b) := Lib.contains_iff_indexByte l b

theorem u8_eq {x : Int} (h0 : 0 ≤ x) (h1 : x ≤ 255) (c : UInt8) : (x.toNat.toUInt8 == c) = decide (x = (c.toNat : Int)) := by
  have e : x.toNat.toUInt8.toNat = x.toNat := by simp; omega
  by_cases h : x = (c.toNat : Int)
  · have : x.toNat.toUInt8 = c := by apply UInt8.toNat_inj.1; omega
    simp [h, this]
  · have : x.toNat.toUInt8 ≠ c := fun q => h (by rw [← q, e]; omega)
    simp [h, this]

theorem in15_eq {x : Int} (h0 : 0 ≤ x) (h1 : x ≤ 255) : in15 x = (in10 x || decide (x = 34 ∨ x = 39 ∨ blank x)) := by
  have L10 : c__7b_7d_28_29_5b_5d_3b_3a_2c_3e.data.toList = [123, 125, 40, 41, 91, 93, 59, 58, 44, 62] := rfl
  have L15 : c__7b_7d_28_29_5b_5d_3_0267af61.data.toList = [123, 125, 40, 41, 91, 93, 59, 58, 44, 62, 34, 39, 32, 9, 10] := rfl
  unfold in15 in10 blank
  rw [L10, L15]
  simp only [List.contains_cons, List.contains_nil, u8_eq h0 h1, Bool.or_false]
  rw [Bool.eq_iff_iff]
  simp only [Bool.or_eq_true, decide_eq_true_eq]
  have : ((34 : UInt8).toNat : Int) = 34 ∧ ((39 : UInt8).toNat : Int) = 39 ∧ ((32 : UInt8).toNat : Int) = 32 ∧ ((9 : UInt8).toNat : Int) = 9 ∧ ((10 : UInt8).toNat : Int) = 10 := by decide
  obtain ⟨e1, e2, e3, e4, e5⟩ := this
  rw [e1, e2, e3, e4, e5]
  constructor
  · rintro (h | h | h | h | h | h | h | h | h | h | h | h | h | h | h)
    all_goals first
      | (left; first | (left; exact h) | (right; left; exact h) | (right; right; left; exact h) | (right; right; right; left; exact h) | (right; right; right; right; left; exact h) | (right; right; right; right; right; left; exact h) | (right; right; right; right; right; right; left; exact h) | (right; right; right; right; right; right; right; left; exact h) | (right; right; right; right; right; right; right; right; left; exact h) | (right; right; right; right; right; right; right; right; right; exact h))
      | (right; omega)
  · rintro ((h | h | h | h | h | h | h | h | h | h) | h)
    all_goals first
      | (left; exact h) | (right; left; exact h) | (right; right; left; exact h) | (right; right; right; left; exact h) | (right; right; right; right; left; exact h) | (right; right; right; right; right; left; exact h) | (right; right; right; right; right; right; left; exact h) | (right; right; right; right; right; right; right; left; exact h) | (right; right; right; right; right; right; right; right; left; exact h) | (right; right; right; right; right; right; right; right; right; left; exact h)
      | (right; right; right; right; right; right; right; right; right; right; omega)

def mk (B : Bool) (x : Int) : Bool := cond B (!swB x) (in10 x)

theorem mark_ok (s : ByteArray) (B : Bool) (o : List T_asset_placed) (x : Int) : asset_scanner_isMark.f s B o x = some (mk B x, (s, B, o, ())) := by
  unfold asset_scanner_isMark.f mk
  cases B
  · simp only [cond_false, strings_IndexByte.f, Option.bind_some, ile_d]
    rw [show in10 x = decide (0 ≤ Lib.indexByte c__7b_7d_28_29_5b_5d_3b_3a_2c_3e.data.toList x.toNat.toUInt8) from in_idx _ _]
  · simp only [cond_true, sw_prog, Option.bind_some]

def wd (s : ByteArray) (B : Bool) (i : Nat) : Bool := cond B (swB (bt s i)) (!in15 (bt s i) && !pre s i c__2f_2a)

theorem wd_ok {s : ByteArray} {B : Bool} {i : Nat} (hi : i < s.size) : mastref2_isWord7.f s (i : Int) B = some (wd s B i) := by
  unfold mastref2_isWord7.f wd
  rw [sat_at hi, Option.bind_some, sw_ref]
  cases B
  · have e : in15 (bt s i) = decide (0 ≤ Lib.indexByte c__7b_7d_28_29_5b_5d_3_0267af61.data.toList (bt s i).toNat.toUInt8) := in_idx _ _
    simp only [cond_false, strings_IndexByte.f, Option.bind_some, slen_eq, ssub_at (Nat.le_of_lt hi) (Nat.le_refl _), hasPrefix_ok]
    by_cases h : Lib.indexByte c__7b_7d_28_29_5b_5d_3_0267af61.data.toList (bt s i).toNat.toUInt8 < 0
    · rw [ilt_t h, e, decide_eq_false (by omega)]
      rfl
    · rw [ilt_f (by omega), e, decide_eq_true (by omega)]
      rfl
  · rfl

section
variable {s : ByteArray} (hn : s.size ≤ 20000) {B : Bool}
include hn

/-- A token that is no word begins here. -/
def bg (s : ByteArray) (B : Bool) (j : Nat) : Bool := decide (blank (bt s j) ∨ bt s j = 34 ∨ bt s j = 39) || mk B (bt s j) || decide (0 ≤ cp s B j) || decide (bad (bt s j))

theorem begins_ok {j : Nat} (hj : j < s.size) (o : List T_asset_placed) : Ev (fun k => asset_scanner_begins.f k s B o (j : Int)) (bg s B j, (s, B, o, ())) := by
  unfold asset_scanner_begins.f bg
  simp only [sat_at hj, Option.bind_some, blank_ok, mark_ok]
  have e : (bif (bif decide (blank (bt s j)) then true else ieq (bt s j) 34) then true else ieq (bt s j) 39) = decide (blank (bt s j) ∨ bt s j = 34 ∨ bt s j = 39) := by
    simp only [ieq_d]
    by_cases h1 : blank (bt s j) <;> by_cases h2 : bt s j = 34 <;> by_cases h3 : bt s j = 39 <;> simp [h1, h2, h3]
  rw [e]
  cases h1 : decide (blank (bt s j) ∨ bt s j = 34 ∨ bt s j = 39)
  · simp only [cond_false, Bool.false_or]
    cases h2 : mk B (bt s j)
    · simp only [cond_false, Bool.false_or]
      refine Ev.bind (cm_prog hn hj o) ?_
      simp only [bad_ok, Option.bind_some, ile_d]
      cases h3 : decide (0 ≤ cp s B j)
      · exact Ev.now fun _ => rfl
      · exact Ev.now fun _ => rfl
    · exact Ev.now fun _ => rfl
  · exact Ev.now fun _ => rfl

theorem cp_pos {j : Nat} (hj : j < s.size) : 0 ≤ cp s B j ↔ cm s B j ≠ 0 := by
  have := cm_range (B := B) hj
  unfold cp
  constructor
  · intro h q
    rw [if_pos q] at h
    omega
  · intro h
    rw [if_neg h]
    split <;> omega

theorem bg_eq {j : Nat} (hj : j < s.size) : bg s B j = (!wd s B j || decide (bad (bt s j))) := by
  have r := bt_range s j
  have c := cp_pos hn (B := B) hj
  cases B
  · have hc : cm s false j ≠ 0 ↔ pre s j c__2f_2a = true := by
      cases hp : pre s j c__2f_2a
      · rw [cm_c hp rfl]; simp
      · have := cm_range' (B := false) hj
        have := index_fits (s.data.toList.drop (j + 2)) c__2a_2f.data.toList
        rw [cm_a hp]
        split <;> simp <;> omega
    unfold bg wd mk
    simp only [cond_false]
    rw [in15_eq r.1 r.2]
    by_cases h1 : blank (bt s j) ∨ bt s j = 34 ∨ bt s j = 39
    · have h1' : bt s j = 34 ∨ bt s j = 39 ∨ blank (bt s j) := h1.elim (fun h => .inr (.inr h)) fun h => h.elim .inl fun h => .inr (.inl h)
      rw [decide_eq_true h1, decide_eq_true h1']
      simp
    · have h1' : ¬ (bt s j = 34 ∨ bt s j = 39 ∨ blank (bt s j)) := fun q => h1 (q.elim (fun h => .inr (.inl h)) fun h => h.elim (fun h => .inr (.inr h)) .inl)
      rw [decide_eq_false h1, decide_eq_false h1']
      cases in10 (bt s j)
      · simp only [Bool.false_or, Bool.or_false, Bool.not_false, Bool.true_and, Bool.not_not]
        congr 1
        rw [Bool.eq_iff_iff, decide_eq_true_eq, c, hc]
      · simp
  · unfold bg wd mk
    simp only [cond_true]
    cases hs : swB (bt s j)
    · simp
    · have hs : (97 ≤ bt s j ∧ bt s j ≤ 122) ∨ (65 ≤ bt s j ∧ bt s j ≤ 90) ∨ (48 ≤ bt s j ∧ bt s j ≤ 57) ∨ bt s j = 95 ∨ bt s j = 36 ∨ 128 ≤ bt s j := by unfold swB at hs; exact of_decide_eq_true hs
      have h1 : ¬ (blank (bt s j) ∨ bt s j = 34 ∨ bt s j = 39) := by unfold blank; omega
      have h2 : cm s true j = 0 := cm_slash (by omega)
      have h3 : ¬ 0 ≤ cp s true j := fun q => c.1 q h2
      have h4 : ¬ bad (bt s j) := by unfold bad; omega
      simp [h1, h3, h4]
end

/-! The loops. -/
theorem FB.late {s : ByteArray} {b : Int} (h : FB s b) {p : Nat} (hp : p ≤ s.size) (hb : ∀ j, j < p → ¬ bad (bt s j)) : ¬ (0 ≤ b ∧ b < p) := by
  rintro ⟨h0, h1⟩
  rcases h with ⟨rfl, _⟩ | ⟨j, _, rfl, h3, _⟩
  · omega
  · exact hb j (by omega) h3

theorem FB.here {s : ByteArray} {b : Int} (h : FB s b) {q : Nat} (hq : q < s.size) (hbad : bad (bt s q)) (hb : ∀ j, j < q → ¬ bad (bt s j)) : b = q := by
  rcases h with ⟨_, h2⟩ | ⟨j, _, rfl, h3, h4⟩
  · exact absurd hbad (h2 q hq)
  · have : ¬ q < j := fun z => h4 q z hbad
    have : ¬ j < q := fun z => hb j z h3
    omega

section
variable {s : ByteArray} (hn : s.size ≤ 20000) {B : Bool} {b : Int} (hb : FB s b)
include hn hb

/-- The text of a token. -/
def tt (s : ByteArray) (kind : Int) (i p : Nat) : ByteArray := if kind = 4 then c__20 else s.extract i p

theorem r5_bad (l : List T_asset_Token) {p i : Nat} (kind : Int) (h : 0 ≤ b ∧ b < p) : Ev (fun k => mastref2_tokensIn.l5 k s B l b (p : Int) (i : Int) kind) ([], b, 9) := by
  refine Ev.step (g := fun _ => some ([], b, 9)) (fun k => ?_) (Ev.now fun _ => rfl)
  simp only [mastref2_tokensIn.l5, ile_t h.1, ilt_t h.2, cond_true]

theorem r5_ok {l : List T_asset_Token} (hl : l.length ≤ 20000) {p i : Nat} (kind : Int) (h : ¬ (0 ≤ b ∧ b < p)) (h1 : i ≤ p) (h2 : p ≤ s.size) {X : List T_asset_Token × Int × Int}
    (hX : Ev (fun k => mastref2_tokensIn.l0 k s B (l ++ [T_asset_Token.mk kind (tt s kind i p)]) b (p : Int)) X) : Ev (fun k => mastref2_tokensIn.l5 k s B l b (p : Int) (i : Int) kind) X := by
  have e : (bif (ile 0 b) then (ilt b (p : Int)) else false) = false := by
    rw [← Bool.not_eq_true]
    simp only [ile_d, ilt_d, Bool.cond_false_right, Bool.and_eq_true, decide_eq_true_eq]
    exact h
  have l7 : ∀ x, Ev (fun k => mastref2_tokensIn.l0 k s B (l ++ [T_asset_Token.mk kind x]) b (p : Int)) X → Ev (fun k => mastref2_tokensIn.l7 k s B l b (p : Int) kind x) X := fun x hx => Ev.step (fun k => by simp only [mastref2_tokensIn.l7, lapp_ok (show (l.length + [T_asset_Token.mk kind x].length) * 24 ≤ 140737488355328 by simp; omega) (show l.length + [T_asset_Token.mk kind x].length ≤ 140737488355328 by simp; omega), Option.bind_some]) hx
  unfold tt at hX
  by_cases h4 : kind = 4
  · subst h4
    rw [if_pos rfl] at hX
    exact Ev.step (g := fun k => mastref2_tokensIn.l7 k s B l b (p : Int) 4 c__20) (fun k => by simp only [mastref2_tokensIn.l5, e, cond_false, ssub_at h1 h2, Option.bind_some, ieq_self, cond_true]) (l7 _ hX)
  · rw [if_neg h4] at hX
    exact Ev.step (g := fun k => mastref2_tokensIn.l7 k s B l b (p : Int) kind (s.extract i p)) (fun k => by simp only [mastref2_tokensIn.l5, e, cond_false, ssub_at h1 h2, Option.bind_some, ieq_f h4]) (l7 _ hX)

theorem fault_ok (p : Nat) : mastref2_fault7.f b (p : Int) 8 = some (if 0 ≤ b ∧ b < p then ([], b, 9) else ([], (p : Int), 8)) := by
  unfold mastref2_fault7.f
  simp only [ile_d, ilt_d]
  by_cases h1 : 0 ≤ b <;> by_cases h2 : b < (p : Int) <;> simp [h1, h2]

section
variable (l : List T_asset_Token) (i : Nat)

theorem r2_end {p : Nat} (hp : s.size ≤ p) {X : List T_asset_Token × Int × Int} (h : Ev (fun k => mastref2_tokensIn.l5 k s B l b (p : Int) (i : Int) 4) X) : Ev (fun k => mastref2_tokensIn.l2 k s B l b (p : Int) (i : Int) 4) X :=
  Ev.step (fun k => by simp only [mastref2_tokensIn.l2, slen_eq, ilt_f (show (s.size : Int) ≤ (p : Int) by omega), cond_false]) h

theorem r2_in {p : Nat} (hp : p < s.size) {X : List T_asset_Token × Int × Int} (h : Ev (fun k => mastref2_tokensIn.l4 k s B l b (p : Int) (i : Int) 4 (decide (blank (bt s p)))) X) : Ev (fun k => mastref2_tokensIn.l2 k s B l b (p : Int) (i : Int) 4) X := by
  refine Ev.step (fun k => ?_) h
  simp only [mastref2_tokensIn.l2, slen_eq, ilt_t (show (p : Int) < (s.size : Int) by omega), cond_true, sat_at hp, Option.bind_some, ieq_d, blank]
  by_cases h1 : bt s p = 32 <;> by_cases h2 : bt s p = 9 <;> by_cases h3 : bt s p = 10 <;> simp [h1, h2, h3]

theorem r2_blank {p : Nat} (hp : p < s.size) (hbl : blank (bt s p)) {X : List T_asset_Token × Int × Int} (h : Ev (fun k => mastref2_tokensIn.l2 k s B l b ((p + 1 : Nat) : Int) (i : Int) 4) X) : Ev (fun k => mastref2_tokensIn.l2 k s B l b (p : Int) (i : Int) 4) X := by
  refine r2_in hn hb l i hp ?_
  rw [decide_eq_true hbl]
  refine Ev.step (fun k => ?_) h
  simp only [mastref2_tokensIn.l4, cond_true, show wadd .i64 (p : Int) 1 = ((p + 1 : Nat) : Int) from wadd64 (by omega) (by omega)]

theorem r2_else {p : Nat} (hp : p < s.size) (hbl : ¬ blank (bt s p)) {X : List T_asset_Token × Int × Int} (h : Ev (fun k => bif (ilt (cm s B p) 0) then (some (if 0 ≤ b ∧ b < p then ([], b, 9) else ([], (p : Int), 8))) else (bif (ieq (cm s B p) 0) then (mastref2_tokensIn.l5 k s B l b (p : Int) (i : Int) 4) else (mastref2_tokensIn.l2 k s B l b (cm s B p) (i : Int) 4))) X) : Ev (fun k => mastref2_tokensIn.l2 k s B l b (p : Int) (i : Int) 4) X := by
  refine r2_in hn hb l i hp ?_
  rw [decide_eq_false hbl]
  refine Ev.step (g := fun k => (mastref2_commentEnd.f k s (p : Int) B).bind fun y14 => (bif (ilt y14 0) then ((mastref2_fault7.f b (p : Int) 8).bind fun y15 => (some (y15.1, y15.2.1, y15.2.2))) else (bif (ieq y14 0) then (mastref2_tokensIn.l5 k s B l b (p : Int) (i : Int) 4) else (mastref2_tokensIn.l2 k s B l b y14 (i : Int) 4)))) (fun k => by simp only [mastref2_tokensIn.l4, cond_false]) ?_
  refine Ev.bind (cm_ref hn hp) ?_
  simp only [fault_ok hn hb, Option.bind_some]
  exact h

/-- Behind a bad byte the reference's blank ends with it. -/
theorem r2_bad : ∀ (d p : Nat), s.size - p ≤ d → (0 ≤ b ∧ b < p) → Ev (fun k => mastref2_tokensIn.l2 k s B l b (p : Int) (i : Int) 4) ([], b, 9) := by
  intro d
  induction d using Nat.strongRecOn with
  | _ d ih =>
  intro p hd h
  by_cases hp : p < s.size
  · by_cases hbl : blank (bt s p)
    · exact r2_blank hn hb l i hp hbl (ih (s.size - (p + 1)) (by omega) (p + 1) (Nat.le_refl _) ⟨h.1, by omega⟩)
    · refine r2_else hn hb l i hp hbl ?_
      rcases cm_range (B := B) hp with q | q | ⟨q1, q2⟩
      · rw [q]
        exact r5_bad hn hb l 4 h
      · rw [q, if_pos h]
        exact Ev.now fun _ => rfl
      · obtain ⟨v, hv⟩ : ∃ v : Nat, cm s B p = v := ⟨(cm s B p).toNat, by omega⟩
        rw [hv] at q1 q2 ⊢
        rw [ilt_f (by omega), ieq_f (by omega)]
        exact ih (s.size - v) (by omega) v (Nat.le_refl _) ⟨h.1, by omega⟩
  · exact r2_end hn hb l i (by omega) (r5_bad hn hb l 4 h)
end

/-- Blanks and comments from here end there. -/
inductive Blk (s : ByteArray) (B : Bool) : Nat → Nat → Prop where
  | stop {p : Nat} : (p < s.size → ¬ blank (bt s p) ∧ cm s B p = 0) → Blk s B p p
  | one {p q : Nat} : p < s.size → blank (bt s p) → Blk s B (p + 1) q → Blk s B p q
  | com {p q v : Nat} : p < s.size → ¬ blank (bt s p) → cm s B p = v → p < v → Blk s B v q → Blk s B p q

/-- Both walk a blank alike. -/
theorem blanks (l : List T_asset_Token) (o : List T_asset_placed) (i : Nat) : ∀ (d p : Nat), s.size - p ≤ d → p ≤ s.size → (∀ j, j < p → ¬ bad (bt s j)) →
    (∃ q : Nat, p ≤ q ∧ q ≤ s.size ∧ Blk s B p q ∧ (∀ j, j < q → ¬ bad (bt s j)) ∧ (q = p → p < s.size → ¬ blank (bt s p) ∧ cm s B p = 0) ∧ Ev (fun k => asset_scanner_blank.l0 k s B o (p : Int)) (((q : Int), 0, 0), (s, B, o, ())) ∧ ∀ X, Ev (fun k => mastref2_tokensIn.l5 k s B l b (q : Int) (i : Int) 4) X → Ev (fun k => mastref2_tokensIn.l2 k s B l b (p : Int) (i : Int) 4) X) ∨
    ∃ at' e : Int, e ≠ 0 ∧ Ev (fun k => asset_scanner_blank.l0 k s B o (p : Int)) ((0, at', e), (s, B, o, ())) ∧ Ev (fun k => mastref2_tokensIn.l2 k s B l b (p : Int) (i : Int) 4) ([], at', e) := by
  intro d
  induction d using Nat.strongRecOn with
  | _ d ih =>
  intro p hd hps hok
  have stop : Ev (fun k => asset_scanner_blank.l1 k s B o (p : Int)) (((p : Int), 0, 0), (s, B, o, ())) := Ev.step (g := fun _ => some (((p : Int), 0, 0), (s, B, o, ()))) (fun k => by simp only [asset_scanner_blank.l1]) (Ev.now fun _ => rfl)
  by_cases hp : p < s.size
  · have hlt : ilt (p : Int) (s.size : Int) = true := ilt_t (by omega)
    by_cases hbl : blank (bt s p)
    · have hnb : ¬ bad (bt s p) := by unfold blank at hbl; unfold bad; omega
      have hok' : ∀ j, j < p + 1 → ¬ bad (bt s j) := fun j hj => by
        by_cases q : j = p
        · rw [q]; exact hnb
        · exact hok j (by omega)
      have hs : ∀ k, asset_scanner_blank.l0 (k + 1) s B o (p : Int) = asset_scanner_blank.l0 k s B o ((p + 1 : Nat) : Int) := fun k => by
        simp only [asset_scanner_blank.l0, slen_eq, hlt, cond_true, sat_at hp, Option.bind_some, blank_ok, decide_eq_true hbl, show wadd .i64 (p : Int) 1 = ((p + 1 : Nat) : Int) from wadd64 (by omega) (by omega)]
      rcases ih (s.size - (p + 1)) (by omega) (p + 1) (Nat.le_refl _) (by omega) hok' with ⟨q, q1, q2, qb, q3, q4, q5, q6⟩ | ⟨at', e, e1, e2, e3⟩
      · exact .inl ⟨q, by omega, q2, .one hp hbl qb, q3, fun h => by omega, Ev.step hs q5, fun X hX => r2_blank hn hb l i hp hbl (q6 X hX)⟩
      · exact .inr ⟨at', e, e1, Ev.step hs e2, r2_blank hn hb l i hp hbl e3⟩
    · have prog : ∀ Y, Ev (fun k => bif (ilt (cp s B p) 0) then (asset_scanner_blank.l1 k s B o (p : Int)) else (bif (ilt (s.size : Int) (cp s B p)) then (some ((0, (p : Int), 8), (s, B, o, ()))) else ((asset_scanner_checked.f k s B o (p : Int) (cp s B p)).bind fun y4 => (bif (ile 0 y4.1) then (some ((0, y4.1, 9), (y4.2.1, y4.2.2.1, y4.2.2.2.1, ()))) else (asset_scanner_blank.l0 k y4.2.1 y4.2.2.1 y4.2.2.2.1 (cp s B p)))))) Y → Ev (fun k => asset_scanner_blank.l0 k s B o (p : Int)) Y := fun Y hY => by
        refine Ev.step (g := fun k => (asset_scanner_comment.f k s B o (p : Int)).bind fun y3 => (bif (ilt y3.1 0) then (asset_scanner_blank.l1 k y3.2.1 y3.2.2.1 y3.2.2.2.1 (p : Int)) else (bif (ilt (slen y3.2.1) y3.1) then (some ((0, (p : Int), 8), (y3.2.1, y3.2.2.1, y3.2.2.2.1, ()))) else ((asset_scanner_checked.f k y3.2.1 y3.2.2.1 y3.2.2.2.1 (p : Int) y3.1).bind fun y4 => (bif (ile 0 y4.1) then (some ((0, y4.1, 9), (y4.2.1, y4.2.2.1, y4.2.2.2.1, ()))) else (asset_scanner_blank.l0 k y4.2.1 y4.2.2.1 y4.2.2.2.1 y3.1)))))) (fun k => by simp only [asset_scanner_blank.l0, slen_eq, hlt, cond_true, sat_at hp, Option.bind_some, blank_ok, decide_eq_false hbl, cond_false]) ?_
        exact Ev.bind (cm_prog hn hp o) hY
      rcases cm_range (B := B) hp with q | q | ⟨q1, q2⟩
      · refine .inl ⟨p, Nat.le_refl _, hps, .stop fun _ => ⟨hbl, q⟩, hok, fun _ _ => ⟨hbl, q⟩, prog _ ?_, fun X hX => r2_else hn hb l i hp hbl ?_⟩
        · have : cp s B p = -1 := by unfold cp; rw [if_pos q]
          rw [this]
          exact stop
        · rw [q]
          exact hX
      · refine .inr ⟨p, 8, by decide, prog _ ?_, r2_else hn hb l i hp hbl ?_⟩
        · have : cp s B p = (s.size : Int) + 1 := by unfold cp; rw [if_neg (by omega), if_pos q]
          rw [this, ilt_f (by omega), ilt_t (by omega)]
          exact Ev.now fun _ => rfl
        · rw [q, if_neg (hb.late hps hok)]
          exact Ev.now fun _ => rfl
      · obtain ⟨v, hv⟩ : ∃ v : Nat, cm s B p = v := ⟨(cm s B p).toNat, by omega⟩
        have hcp : cp s B p = v := by unfold cp; rw [if_neg (by omega), if_neg (by omega), hv]
        rw [hv] at q1 q2
        have refv : ∀ X, Ev (fun k => mastref2_tokensIn.l2 k s B l b (v : Int) (i : Int) 4) X → Ev (fun k => mastref2_tokensIn.l2 k s B l b (p : Int) (i : Int) 4) X := fun X hX => r2_else hn hb l i hp hbl (by
          rw [hv, ilt_f (by omega), ieq_f (by omega)]
          exact hX)
        rcases checked_ok hn (B := B) o (e := v) (by omega) (v - p) p (Nat.le_refl _) with ⟨c1, c2⟩ | ⟨c, c1, c2, c3, c4, c5⟩
        · have hok' : ∀ j, j < v → ¬ bad (bt s j) := fun j hj => by
            by_cases z : j < p
            · exact hok j z
            · exact c1 j (by omega) hj
          have pv : ∀ Y, Ev (fun k => asset_scanner_blank.l0 k s B o (v : Int)) Y → Ev (fun k => asset_scanner_blank.l0 k s B o (p : Int)) Y := fun Y hY => prog Y (by
            rw [hcp, ilt_f (by omega), ilt_f (by omega)]
            unfold asset_scanner_checked.f
            exact Ev.bind c2 hY)
          rcases ih (s.size - v) (by omega) v (Nat.le_refl _) (by omega) hok' with ⟨q, r1, r2, rb, r3, r4, r5, r6⟩ | ⟨at', e, e1, e2, e3⟩
          · exact .inl ⟨q, by omega, r2, .com hp hbl hv (by omega) rb, r3, fun h => by omega, pv _ r5, fun X hX => refv X (r6 X hX)⟩
          · exact .inr ⟨at', e, e1, pv _ e2, refv _ e3⟩
        · have hbq : b = c := hb.here (by omega) c3 fun j hj => by
            by_cases z : j < p
            · exact hok j z
            · exact c4 j (by omega) hj
          refine .inr ⟨c, 9, by decide, prog _ ?_, refv _ ?_⟩
          · rw [hcp, ilt_f (by omega), ilt_f (by omega)]
            unfold asset_scanner_checked.f
            refine Ev.bind c5 (Ev.now fun k => ?_)
            simp only [ile_t (show (0 : Int) ≤ (c : Int) by omega), cond_true]
          · rw [← hbq]
            exact r2_bad hn hb l i (s.size - v) v (Nat.le_refl _) ⟨by omega, by omega⟩
  · refine .inl ⟨p, Nat.le_refl _, hps, .stop fun h => absurd h hp, hok, fun _ h => absurd h hp, Ev.step (fun k => ?_) stop, fun X hX => r2_end hn hb l i (by omega) hX⟩
    simp only [asset_scanner_blank.l0, slen_eq, ilt_f (show (s.size : Int) ≤ (p : Int) by omega), cond_false]

/-- The reference's word. -/
theorem word_ref (l : List T_asset_Token) (i : Nat) : ∀ (d p : Nat), s.size - p ≤ d → p ≤ s.size → ∃ e : Nat, p ≤ e ∧ e ≤ s.size ∧ (∀ j, p ≤ j → j < e → wd s B j = true) ∧ (e < s.size → wd s B e = false) ∧
    ∀ X, Ev (fun k => mastref2_tokensIn.l5 k s B l b (e : Int) (i : Int) 1) X → Ev (fun k => mastref2_tokensIn.l6 k s B l b (p : Int) (i : Int) 1) X := by
  intro d
  induction d with
  | zero =>
    intro p hd hp
    refine ⟨p, Nat.le_refl _, hp, fun j _ _ => by omega, fun h => by omega, fun X hX => Ev.step (fun k => ?_) hX⟩
    simp only [mastref2_tokensIn.l6, slen_eq, ilt_f (show (s.size : Int) ≤ (p : Int) by omega), cond_false]
  | succ d ih =>
    intro p hd hp
    by_cases hlt : p < s.size
    · cases hw : wd s B p with
      | true =>
        obtain ⟨e, e1, e2, e3, e4, e5⟩ := ih (p + 1) (by omega) (by omega)
        refine ⟨e, by omega, e2, fun j j1 j2 => ?_, e4, fun X hX => Ev.step (fun k => ?_) (e5 X hX)⟩
        · by_cases q : j = p
          · rw [q]; exact hw
          · exact e3 j (by omega) j2
        · simp only [mastref2_tokensIn.l6, slen_eq, ilt_t (show (p : Int) < (s.size : Int) by omega), cond_true, wd_ok hlt, Option.bind_some, hw, show wadd .i64 (p : Int) 1 = ((p + 1 : Nat) : Int) from wadd64 (by omega) (by omega)]
      | false =>
        refine ⟨p, Nat.le_refl _, hp, fun j _ _ => by omega, fun _ => hw, fun X hX => Ev.step (fun k => ?_) hX⟩
        simp only [mastref2_tokensIn.l6, slen_eq, ilt_t (show (p : Int) < (s.size : Int) by omega), cond_true, wd_ok hlt, Option.bind_some, hw, cond_false]
    · refine ⟨p, Nat.le_refl _, hp, fun j _ _ => by omega, fun h => by omega, fun X hX => Ev.step (fun k => ?_) hX⟩
      simp only [mastref2_tokensIn.l6, slen_eq, ilt_f (show (s.size : Int) ≤ (p : Int) by omega), cond_false]

omit hb in
/-- The program's word. -/
theorem word_prog (o : List T_asset_placed) (i : Nat) : ∀ (d p : Nat), s.size - p ≤ d → p ≤ s.size → ∃ e : Nat, p ≤ e ∧ e ≤ s.size ∧ (∀ j, p ≤ j → j < e → bg s B j = false) ∧ (e < s.size → bg s B e = true) ∧
    ∀ Y, Ev (fun k => asset_divided.l3 k s s B o (i : Int) (e : Int)) Y → Ev (fun k => asset_divided.l2 k s s B o (i : Int) (p : Int)) Y := by
  intro d
  induction d with
  | zero =>
    intro p hd hp
    refine ⟨p, Nat.le_refl _, hp, fun j _ _ => by omega, fun h => by omega, fun X hX => Ev.step (fun k => ?_) hX⟩
    simp only [asset_divided.l2, slen_eq, ilt_f (show (s.size : Int) ≤ (p : Int) by omega), cond_false]
  | succ d ih =>
    intro p hd hp
    by_cases hlt : p < s.size
    · have hs : ∀ Y, Ev (fun k => bif (!bg s B p) then (asset_divided.l2 k s s B o (i : Int) ((p + 1 : Nat) : Int)) else (asset_divided.l3 k s s B o (i : Int) (p : Int))) Y → Ev (fun k => asset_divided.l2 k s s B o (i : Int) (p : Int)) Y := fun Y hY => by
        refine Ev.step (g := fun k => (asset_scanner_begins.f k s B o (p : Int)).bind fun y12 => (bif (!y12.1) then (asset_divided.l2 k s y12.2.1 y12.2.2.1 y12.2.2.2.1 (i : Int) ((p + 1 : Nat) : Int)) else (asset_divided.l3 k s y12.2.1 y12.2.2.1 y12.2.2.2.1 (i : Int) (p : Int)))) (fun k => by simp only [asset_divided.l2, slen_eq, ilt_t (show (p : Int) < (s.size : Int) by omega), cond_true, show wadd .i64 (p : Int) 1 = ((p + 1 : Nat) : Int) from wadd64 (by omega) (by omega)]) ?_
        exact Ev.bind (begins_ok hn hlt o) hY
      cases hw : bg s B p with
      | false =>
        rw [hw] at hs
        obtain ⟨e, e1, e2, e3, e4, e5⟩ := ih (p + 1) (by omega) (by omega)
        refine ⟨e, by omega, e2, fun j j1 j2 => ?_, e4, fun X hX => hs X (e5 X hX)⟩
        by_cases q : j = p
        · rw [q]; exact hw
        · exact e3 j (by omega) j2
      | true =>
        rw [hw] at hs
        exact ⟨p, Nat.le_refl _, hp, fun j _ _ => by omega, fun _ => hw, fun X hX => hs X hX⟩
    · refine ⟨p, Nat.le_refl _, hp, fun j _ _ => by omega, fun h => by omega, fun X hX => Ev.step (fun k => ?_) hX⟩
      simp only [asset_divided.l2, slen_eq, ilt_f (show (s.size : Int) ≤ (p : Int) by omega), cond_false]

omit hb in
theorem add_ok {o : List T_asset_placed} (ho : o.length ≤ 20000) (kind : Int) {i p : Nat} (h1 : i ≤ p) (h2 : p ≤ s.size) : Ev (fun k => asset_scanner_add.f k s B o kind (i : Int) (p : Int)) ((), (s, B, o ++ [T_asset_placed.mk (T_asset_Token.mk kind (tt s kind i p)) (i : Int) (p : Int)], ())) := by
  unfold asset_scanner_add.f
  simp only [ssub_at h1 h2, Option.bind_some]
  have l0 : ∀ x, Ev (fun k => asset_scanner_add.l0 k s B o kind x (i : Int) (p : Int)) ((), (s, B, o ++ [T_asset_placed.mk (T_asset_Token.mk kind x) (i : Int) (p : Int)], ())) := fun x => Ev.step (g := fun _ => some ((), (s, B, o ++ [T_asset_placed.mk (T_asset_Token.mk kind x) (i : Int) (p : Int)], ()))) (fun k => by simp only [asset_scanner_add.l0, lapp_ok (show (o.length + [T_asset_placed.mk (T_asset_Token.mk kind x) (i : Int) (p : Int)].length) * 40 ≤ 140737488355328 by simp; omega) (show o.length + [T_asset_placed.mk (T_asset_Token.mk kind x) (i : Int) (p : Int)].length ≤ 140737488355328 by simp; omega), Option.bind_some]) (Ev.now fun _ => rfl)
  unfold tt
  by_cases h4 : kind = 4
  · rw [ieq_t h4, if_pos h4]
    exact l0 _
  · rw [ieq_f h4, if_neg h4]
    exact l0 _
end


/-- The tokens tile the text. -/
def Tile (s : ByteArray) (B : Bool) : List T_asset_placed → Nat → Nat → Prop
  | [], a, z => a = z
  | t :: l, a, z => ∃ c : Nat, t.ffrom = a ∧ t.fto = c ∧ a < c ∧ c ≤ s.size ∧ t.fToken.fText = tt s t.fToken.fKind a c ∧ (t.fToken.fKind = 4 → Blk s B a c) ∧ (t.fToken.fKind = 2 → a + 2 ≤ c) ∧ Tile s B l c z

theorem Tile.snoc {s : ByteArray} {B : Bool} : ∀ {o : List T_asset_placed} {a i p : Nat} {kind : Int}, Tile s B o a i → i < p → p ≤ s.size → (kind = 4 → Blk s B i p) → (kind = 2 → i + 2 ≤ p) → Tile s B (o ++ [T_asset_placed.mk (T_asset_Token.mk kind (tt s kind i p)) (i : Int) (p : Int)]) a p
  | [], a, i, p, kind, h, h1, h2, h3, h4 => by
    obtain rfl : a = i := h
    exact ⟨p, rfl, rfl, h1, h2, rfl, h3, h4, rfl⟩
  | t :: o, a, i, p, kind, h, h1, h2, h3, h4 => by
    obtain ⟨c, c1, c2, c3, c4, c5, c6, c7, c8⟩ := h
    exact ⟨c, c1, c2, c3, c4, c5, c6, c7, c8.snoc h1 h2 h3 h4⟩


section
variable {s : ByteArray} (hn : s.size ≤ 20000) {B : Bool} {b : Int} (hb : FB s b)
include hn hb

omit hb in
theorem ref0 (l : List T_asset_Token) {i : Nat} (hi : i < s.size) {X : List T_asset_Token × Int × Int} (h : Ev (fun k => mastref2_tokensIn.l1 k s B l b (i : Int) (i : Int) 4 (decide (blank (bt s i) ∨ cm s B i ≠ 0))) X) : Ev (fun k => mastref2_tokensIn.l0 k s B l b (i : Int)) X := by
  by_cases hbl : blank (bt s i)
  · rw [decide_eq_true (.inl hbl)] at h
    refine Ev.step (fun k => ?_) h
    simp only [mastref2_tokensIn.l0, slen_eq, ilt_t (show (i : Int) < (s.size : Int) by omega), cond_true, sat_at hi, Option.bind_some, ieq_d]
    unfold blank at hbl
    rcases hbl with q | q | q <;> rw [q] <;> rfl
  · refine Ev.step (g := fun k => (mastref2_commentEnd.f k s (i : Int) B).bind fun y5 => (mastref2_tokensIn.l1 k s B l b (i : Int) (i : Int) 4 (!ieq y5 0))) (fun k => ?_) ?_
    · have h1 : ieq (bt s i) 32 = false := ieq_f fun q => hbl (.inl q)
      have h2 : ieq (bt s i) 9 = false := ieq_f fun q => hbl (.inr (.inl q))
      have h3 : ieq (bt s i) 10 = false := ieq_f fun q => hbl (.inr (.inr q))
      simp only [mastref2_tokensIn.l0, slen_eq, ilt_t (show (i : Int) < (s.size : Int) by omega), cond_true, sat_at hi, Option.bind_some, h1, h2, h3, cond_false]
    · refine Ev.bind (cm_ref hn hi) ?_
      have : (!ieq (cm s B i) 0) = decide (blank (bt s i) ∨ cm s B i ≠ 0) := by
        rw [ieq_d]; simp [hbl]
      rw [this]
      exact h

omit hb in
theorem prog0 (o : List T_asset_placed) {i : Nat} (hi : i < s.size) (hbad : ¬ bad (bt s i)) {Y : List T_asset_placed × Int × Int} (h : Ev (fun k => asset_divided.l1 k s s B o (i : Int) (bt s i) (decide (blank (bt s i) ∨ cm s B i ≠ 0))) Y) : Ev (fun k => asset_divided.l0 k s s B o (i : Int)) Y := by
  by_cases hbl : blank (bt s i)
  · rw [decide_eq_true (.inl hbl)] at h
    refine Ev.step (fun k => ?_) h
    simp only [asset_divided.l0, slen_eq, ilt_t (show (i : Int) < (s.size : Int) by omega), cond_true, sat_at hi, Option.bind_some, bad_ok, decide_eq_false hbad, cond_false, blank_ok, decide_eq_true hbl]
  · refine Ev.step (g := fun k => (asset_scanner_comment.f k s B o (i : Int)).bind fun y4 => (asset_divided.l1 k s y4.2.1 y4.2.2.1 y4.2.2.2.1 (i : Int) (bt s i) (ile 0 y4.1))) (fun k => ?_) ?_
    · simp only [asset_divided.l0, slen_eq, ilt_t (show (i : Int) < (s.size : Int) by omega), cond_true, sat_at hi, Option.bind_some, bad_ok, decide_eq_false hbad, cond_false, blank_ok, decide_eq_false hbl]
    · refine Ev.bind (cm_prog hn hi o) ?_
      have : ile 0 (cp s B i) = decide (blank (bt s i) ∨ cm s B i ≠ 0) := by
        rw [ile_d]
        have := cp_pos hn (B := B) hi
        rw [Bool.eq_iff_iff, decide_eq_true_eq, decide_eq_true_eq, this]
        exact ⟨.inr, fun q => q.resolve_left hbl⟩
      simp only [this]
      exact h

/-- The reference at a bad byte. -/
theorem ref_bad (l : List T_asset_Token) {i : Nat} (hi : i < s.size) (hbad : bad (bt s i)) (hok : ∀ j, j < i → ¬ bad (bt s j)) : Ev (fun k => mastref2_tokensIn.l0 k s B l b (i : Int)) ([], (i : Int), 9) := by
  have hbi : b = i := hb.here hi hbad hok
  have hbl : ¬ blank (bt s i) := by unfold bad at hbad; unfold blank; omega
  have h34 : ieq (bt s i) 34 = false := ieq_f (by unfold bad at hbad; omega)
  have h39 : ieq (bt s i) 39 = false := ieq_f (by unfold bad at hbad; omega)
  have hcm : cm s B i = 0 := cm_slash (by unfold bad at hbad; omega)
  refine ref0 hn l hi ?_
  rw [decide_eq_false (fun q => q.elim hbl fun q => q hcm)]
  refine Ev.step (g := fun k => mastref2_tokensIn.l3 k s B l b (i : Int) (i : Int) false) (fun k => ?_) ?_
  · simp only [mastref2_tokensIn.l1, cond_false, sat_at hi, Option.bind_some, h34, h39]
  have five : ∀ (p : Nat) kind, i < p → Ev (fun k => mastref2_tokensIn.l5 k s B l b (p : Int) (i : Int) kind) ([], (i : Int), 9) := fun p kind hp => by
    have := r5_bad hn hb (B := B) l (p := p) (i := i) kind ⟨by omega, by omega⟩
    rw [← hbi] at this ⊢
    exact this
  cases hw : wd s B i with
  | true =>
    obtain ⟨e, e1, e2, e3, e4, e5⟩ := word_ref hn hb (B := B) l i (s.size - i) i (Nat.le_refl _) (by omega)
    refine Ev.step (g := fun k => mastref2_tokensIn.l6 k s B l b (i : Int) (i : Int) 1) (fun k => ?_) (e5 _ (five e 1 ?_))
    · simp only [mastref2_tokensIn.l3, cond_false, wd_ok hi, Option.bind_some, hw, cond_true]
    · rcases Nat.lt_or_ge i e with h | h
      · exact h
      · obtain rfl : e = i := by omega
        rw [e4 hi] at hw
        cases hw
  | false =>
    refine Ev.step (g := fun k => mastref2_tokensIn.l5 k s B l b ((i + 1 : Nat) : Int) (i : Int) 3) (fun k => ?_) (five (i + 1) 3 (by omega))
    simp only [mastref2_tokensIn.l3, cond_false, wd_ok hi, Option.bind_some, hw, show wadd .i64 (i : Int) 1 = ((i + 1 : Nat) : Int) from wadd64 (by omega) (by omega)]

/-- Both divide alike. -/
theorem sim : ∀ (d i : Nat), s.size - i ≤ d → i ≤ s.size → (∀ j, j < i → ¬ bad (bt s j)) → ∀ o : List T_asset_placed, o.length ≤ i → Tile s B o 0 i →
    ∃ (op : List T_asset_placed) (at' e : Int), Ev (fun k => asset_divided.l0 k s s B o (i : Int)) (op, at', e) ∧ Ev (fun k => mastref2_tokensIn.l0 k s B (o.map T_asset_placed.fToken) b (i : Int)) (op.map T_asset_placed.fToken, at', e) ∧ op.length ≤ s.size ∧ (e = 0 → Tile s B op 0 s.size) := by
  intro d
  induction d using Nat.strongRecOn with
  | _ d ih =>
  intro i hd his hok o ho htl
  have hl : (o.map T_asset_placed.fToken).length ≤ 20000 := by rw [List.length_map]; omega
  rcases Nat.lt_or_ge i s.size with hi | hi
  · by_cases hbad : bad (bt s i)
    · refine ⟨[], (i : Int), 9, Ev.step (g := fun _ => some ([], (i : Int), 9)) (fun k => ?_) (Ev.now fun _ => rfl), ref_bad hn hb _ hi hbad hok, by simp, fun h => by cases h⟩
      simp only [asset_divided.l0, slen_eq, ilt_t (show (i : Int) < (s.size : Int) by omega), cond_true, sat_at hi, Option.bind_some, bad_ok, decide_eq_true hbad]
    -- what both do behind a token
    have after : ∀ (kind : Int) (p : Nat), i < p → p ≤ s.size → (∀ j, j < p → ¬ bad (bt s j)) → (kind = 4 → Blk s B i p) → (kind = 2 → i + 2 ≤ p) → ∃ (op : List T_asset_placed) (at' e : Int),
        Ev (fun k => asset_divided.l0 k s s B (o ++ [T_asset_placed.mk (T_asset_Token.mk kind (tt s kind i p)) (i : Int) (p : Int)]) (p : Int)) (op, at', e) ∧
        Ev (fun k => mastref2_tokensIn.l5 k s B (o.map T_asset_placed.fToken) b (p : Int) (i : Int) kind) (op.map T_asset_placed.fToken, at', e) ∧ op.length ≤ s.size ∧ (e = 0 → Tile s B op 0 s.size) := fun kind p hp hps hokp hk4 hk2 => by
      obtain ⟨op, at', e, h1, h2, h3⟩ := ih (s.size - p) (by omega) p (Nat.le_refl _) hps hokp (o ++ [T_asset_placed.mk (T_asset_Token.mk kind (tt s kind i p)) (i : Int) (p : Int)]) (by rw [List.length_append]; simp; omega) (htl.snoc hp hps hk4 hk2)
      refine ⟨op, at', e, h1, r5_ok hn hb hl kind (hb.late hps hokp) (by omega) hps ?_, h3⟩
      rw [List.map_append] at h2
      exact h2
    have hadd : ∀ (kind : Int) (p : Nat), i < p → p ≤ s.size → Ev (fun k => asset_scanner_add.f k s B o kind (i : Int) (p : Int)) ((), (s, B, o ++ [T_asset_placed.mk (T_asset_Token.mk kind (tt s kind i p)) (i : Int) (p : Int)], ())) := fun kind p hp hps => add_ok hn (by omega) kind (by omega) hps
    by_cases hC : blank (bt s i) ∨ cm s B i ≠ 0
    · have pstep : ∀ Y, Ev (fun k => (asset_scanner_blank.l0 k s B o (i : Int)).bind fun y5 => (bif (!ieq y5.1.2.2 0) then (some ([], y5.1.2.1, y5.1.2.2)) else ((asset_scanner_add.f k y5.2.1 y5.2.2.1 y5.2.2.2.1 4 (i : Int) y5.1.1).bind fun y6 => (asset_divided.l0 k s y6.2.1 y6.2.2.1 y6.2.2.2.1 y5.1.1)))) Y → Ev (fun k => asset_divided.l0 k s s B o (i : Int)) Y := fun Y hY => prog0 hn o hi hbad (by
        rw [decide_eq_true hC]
        exact Ev.step (fun k => by simp only [asset_divided.l1, cond_true, asset_scanner_blank.f]) hY)
      have rstep : ∀ X, Ev (fun k => mastref2_tokensIn.l2 k s B (o.map T_asset_placed.fToken) b (i : Int) (i : Int) 4) X → Ev (fun k => mastref2_tokensIn.l0 k s B (o.map T_asset_placed.fToken) b (i : Int)) X := fun X hX => ref0 hn _ hi (by
        rw [decide_eq_true hC]
        exact Ev.step (fun k => by simp only [mastref2_tokensIn.l1, cond_true]) hX)
      rcases blanks hn hb (B := B) (o.map T_asset_placed.fToken) o i (s.size - i) i (Nat.le_refl _) his hok with ⟨q, q1, q2, qb, q3, q4, q5, q6⟩ | ⟨at', e, e1, e2, e3⟩
      · have hq : i < q := by
          rcases Nat.lt_or_ge i q with h | h
          · exact h
          · have h : q = i := by omega
            obtain ⟨z1, z2⟩ := q4 h hi
            rcases hC with z | z
            · exact absurd z z1
            · exact absurd z2 z
        obtain ⟨op, at', e, h1, h2, h3⟩ := after 4 q hq q2 q3 (fun _ => qb) (fun h => by cases h)
        refine ⟨op, at', e, pstep _ (Ev.bind q5 ?_), rstep _ (q6 _ h2), h3⟩
        simp only [ieq_self, Bool.not_true, cond_false]
        exact Ev.bind (hadd 4 q hq q2) h1
      · refine ⟨[], at', e, pstep _ (Ev.bind e2 (Ev.now fun k => ?_)), rstep _ e3, by simp, fun h => absurd h e1⟩
        simp only [ieq_f e1, Bool.not_false, cond_true]
    · have rstep : ∀ q1 X, (bif ieq (bt s i) 34 then true else ieq (bt s i) 39) = q1 → Ev (fun k => mastref2_tokensIn.l3 k s B (o.map T_asset_placed.fToken) b (i : Int) (i : Int) q1) X → Ev (fun k => mastref2_tokensIn.l0 k s B (o.map T_asset_placed.fToken) b (i : Int)) X := fun q1 X e hX => ref0 hn _ hi (by
        rw [decide_eq_false hC]
        refine Ev.step (fun k => ?_) hX
        simp only [mastref2_tokensIn.l1, cond_false, sat_at hi, Option.bind_some]
        cases h34 : ieq (bt s i) 34
        · rw [h34] at e
          rw [cond_false] at e
          rw [e]
          rfl
        · rw [h34] at e
          rw [cond_true] at e
          rw [← e]
          rfl)
      by_cases hqt : bt s i = 34 ∨ bt s i = 39
      · have eqt : (bif ieq (bt s i) 34 then true else ieq (bt s i) 39) = true := by
          simp only [ieq_d]
          rcases hqt with q | q <;> rw [q] <;> rfl
        have w1 : wadd .i64 (i : Int) 1 = ((i + 1 : Nat) : Int) := wadd64 (by omega) (by omega)
        have pstep : ∀ Y, Ev (fun k => (asset_scanner_text.l0 k s B o ((i + 1 : Nat) : Int) (bt s i)).bind fun y7 => (bif (ilt y7.1 0) then (some ([], (i : Int), 8)) else ((asset_scanner_checked.f k y7.2.1 y7.2.2.1 y7.2.2.2.1 (i : Int) y7.1).bind fun y8 => (bif (ile 0 y8.1) then (some ([], y8.1, 9)) else ((asset_scanner_add.f k y8.2.1 y8.2.2.1 y8.2.2.2.1 2 (i : Int) y7.1).bind fun y9 => (asset_divided.l0 k s y9.2.1 y9.2.2.1 y9.2.2.2.1 y7.1)))))) Y → Ev (fun k => asset_divided.l0 k s s B o (i : Int)) Y := fun Y hY => prog0 hn o hi hbad (by
          rw [decide_eq_false hC]
          exact Ev.step (fun k => by simp only [asset_divided.l1, cond_false, eqt, cond_true, asset_scanner_text.f, sat_at hi, Option.bind_some, w1]) hY)
        have rstep2 : ∀ X, Ev (fun k => (mastref2_stringEnd.l0 k s (i : Int) ((i + 1 : Nat) : Int)).bind fun y11 => (bif (ilt y11 0) then ((mastref2_fault7.f b (i : Int) 8).bind fun y12 => (some (y12.1, y12.2.1, y12.2.2))) else (mastref2_tokensIn.l5 k s B (o.map T_asset_placed.fToken) b y11 (i : Int) 2))) X → Ev (fun k => mastref2_tokensIn.l0 k s B (o.map T_asset_placed.fToken) b (i : Int)) X := fun X hX => rstep true X eqt (Ev.step (fun k => by simp only [mastref2_tokensIn.l3, cond_true, mastref2_stringEnd.f, w1]) hX)
        obtain ⟨t, t1, t2, t3⟩ := text_loop hn (B := B) o hi hqt (s.size - (i + 1)) (i + 1) (Nat.le_refl _) (by omega)
        rcases t1 with rfl | ⟨t4, t5⟩
        · refine ⟨[], (i : Int), 8, pstep _ (Ev.bind t2 (Ev.now fun k => rfl)), rstep2 _ (Ev.bind t3 (Ev.now fun k => ?_)), by simp, fun h => by cases h⟩
          rw [ilt_t (by decide), cond_true, fault_ok hn hb, if_neg (hb.late his hok)]
          rfl
        · obtain ⟨t, rfl⟩ : ∃ t' : Nat, t = t' := ⟨t.toNat, by omega⟩
          rcases checked_ok hn (B := B) o (e := t) (by omega) (t - i) i (Nat.le_refl _) with ⟨c1, c2⟩ | ⟨c, c1, c2, c3, c4, c5⟩
          · obtain ⟨op, at', e, h1, h2, h3⟩ := after 2 t (by omega) (by omega) (fun j hj => by
              by_cases z : j < i
              · exact hok j z
              · exact c1 j (by omega) hj) (fun h => by cases h) (fun _ => by omega)
            refine ⟨op, at', e, pstep _ (Ev.bind t2 ?_), rstep2 _ (Ev.bind t3 ?_), h3⟩
            · simp only [ilt_f (show (0 : Int) ≤ (t : Int) by omega), cond_false]
              unfold asset_scanner_checked.f
              refine Ev.bind c2 ?_
              simp only [ile_f (show (-1 : Int) < 0 by decide), cond_false]
              exact Ev.bind (hadd 2 t (by omega) (by omega)) h1
            · simp only [ilt_f (show (0 : Int) ≤ (t : Int) by omega), cond_false]
              exact h2
          · have hbc : b = c := hb.here (by omega) c3 (fun j hj => by
              by_cases z : j < i
              · exact hok j z
              · exact c4 j (by omega) hj)
            refine ⟨[], (c : Int), 9, pstep _ (Ev.bind t2 ?_), rstep2 _ (Ev.bind t3 ?_), by simp, fun h => by cases h⟩
            · simp only [ilt_f (show (0 : Int) ≤ (t : Int) by omega), cond_false]
              unfold asset_scanner_checked.f
              refine Ev.bind c5 (Ev.now fun k => ?_)
              simp only [ile_t (show (0 : Int) ≤ (c : Int) by omega), cond_true]
            · simp only [ilt_f (show (0 : Int) ≤ (t : Int) by omega), cond_false]
              have := r5_bad hn hb (B := B) (o.map T_asset_placed.fToken) (p := t) (i := i) 2 ⟨by omega, by omega⟩
              rw [hbc] at this ⊢
              exact this
      · have eqt : (bif ieq (bt s i) 34 then true else ieq (bt s i) 39) = false := by
          simp only [ieq_d]
          rw [decide_eq_false (fun q => hqt (.inl q)), decide_eq_false (fun q => hqt (.inr q))]
          rfl
        have w1 : wadd .i64 (i : Int) 1 = ((i + 1 : Nat) : Int) := wadd64 (by omega) (by omega)
        have hbg : bg s B i = mk B (bt s i) := by
          unfold bg
          have h1 : ¬ (blank (bt s i) ∨ bt s i = 34 ∨ bt s i = 39) := fun q => q.elim (fun q => hC (.inl q)) hqt
          have h2 : ¬ 0 ≤ cp s B i := fun q => hC (.inr ((cp_pos hn hi).1 q))
          rw [decide_eq_false h1, decide_eq_false h2, decide_eq_false hbad]
          simp
        have hwd : wd s B i = !mk B (bt s i) := by
          have := bg_eq hn (B := B) hi
          rw [decide_eq_false hbad, Bool.or_false, hbg] at this
          rw [this, Bool.not_not]
        have pstep : ∀ Y, Ev (fun k => bif mk B (bt s i) then ((asset_scanner_add.f k s B o 3 (i : Int) ((i + 1 : Nat) : Int)).bind fun y11 => (asset_divided.l0 k s y11.2.1 y11.2.2.1 y11.2.2.2.1 ((i + 1 : Nat) : Int))) else (asset_divided.l2 k s s B o (i : Int) ((i + 1 : Nat) : Int))) Y → Ev (fun k => asset_divided.l0 k s s B o (i : Int)) Y := fun Y hY => prog0 hn o hi hbad (by
          rw [decide_eq_false hC]
          exact Ev.step (fun k => by simp only [asset_divided.l1, cond_false, eqt, mark_ok, Option.bind_some, w1]) hY)
        have rstep2 : ∀ X, Ev (fun k => bif wd s B i then (mastref2_tokensIn.l6 k s B (o.map T_asset_placed.fToken) b (i : Int) (i : Int) 1) else (mastref2_tokensIn.l5 k s B (o.map T_asset_placed.fToken) b ((i + 1 : Nat) : Int) (i : Int) 3)) X → Ev (fun k => mastref2_tokensIn.l0 k s B (o.map T_asset_placed.fToken) b (i : Int)) X := fun X hX => rstep false X eqt (Ev.step (fun k => by simp only [mastref2_tokensIn.l3, cond_false, wd_ok hi, Option.bind_some, w1]) hX)
        have hok1 : ∀ j, j < i + 1 → ¬ bad (bt s j) := fun j hj => by
          by_cases z : j < i
          · exact hok j z
          · obtain rfl : j = i := by omega
            exact hbad
        rw [hwd] at rstep2
        cases hm : mk B (bt s i) with
        | true =>
          rw [hm] at pstep rstep2
          obtain ⟨op, at', e, h1, h2, h3⟩ := after 3 (i + 1) (by omega) hi hok1 (fun h => by cases h) (fun h => by cases h)
          exact ⟨op, at', e, pstep _ (Ev.bind (hadd 3 (i + 1) (by omega) hi) h1), rstep2 _ h2, h3⟩
        | false =>
          rw [hm] at pstep rstep2
          rw [hm] at hwd
          simp only [cond_false] at pstep
          simp only [Bool.not_false, cond_true] at rstep2
          obtain ⟨u, u1, u2, u3, u4, u5⟩ := word_ref hn hb (B := B) (o.map T_asset_placed.fToken) i (s.size - i) i (Nat.le_refl _) his
          obtain ⟨v, v1, v2, v3, v4, v5⟩ := word_prog hn (B := B) o i (s.size - (i + 1)) (i + 1) (Nat.le_refl _) hi
          have hnb : ∀ j, j < v → ¬ bad (bt s j) := fun j hj => by
            by_cases z : j < i + 1
            · exact hok1 j z
            · have := v3 j (by omega) hj
              rw [bg_eq hn (by omega)] at this
              intro q
              rw [decide_eq_true q, Bool.or_true] at this
              cases this
          have huv : v ≤ u := by
            rcases Nat.lt_or_ge u v with z | z
            · have h1 := u4 (by omega)
              have : i < u := by
                rcases Nat.lt_or_ge i u with y | y
                · exact y
                · obtain rfl : u = i := by omega
                  rw [hwd] at h1
                  cases h1
              have h2 := v3 u (by omega) z
              rw [bg_eq hn (by omega), h1] at h2
              cases h2
            · exact z
          obtain ⟨op, at', e, h1, h2, h3⟩ := after 1 v (by omega) v2 hnb (fun h => by cases h) (fun h => by cases h)
          have hp : Ev (fun k => asset_divided.l0 k s s B o (i : Int)) (op, at', e) := pstep _ (v5 _ (Ev.step (g := fun k => (asset_scanner_add.f k s B o 1 (i : Int) (v : Int)).bind fun y13 => (asset_divided.l0 k s y13.2.1 y13.2.2.1 y13.2.2.2.1 (v : Int))) (fun k => by simp only [asset_divided.l3]) (Ev.bind (hadd 1 v (by omega) v2) h1)))
          rcases Nat.eq_or_lt_of_le huv with z | z
          · rw [z] at h2
            exact ⟨op, at', e, hp, rstep2 _ (u5 _ h2), h3⟩
          · have hvs : v < s.size := by omega
            have hbv : bad (bt s v) := by
              have := v4 hvs
              rw [bg_eq hn hvs, u3 v (by omega) z] at this
              simpa using this
            have hbq : b = v := hb.here hvs hbv hnb
            refine ⟨[], (v : Int), 9, pstep _ (v5 _ (Ev.step (g := fun k => (asset_scanner_add.f k s B o 1 (i : Int) (v : Int)).bind fun y13 => (asset_divided.l0 k s y13.2.1 y13.2.2.1 y13.2.2.2.1 (v : Int))) (fun k => by simp only [asset_divided.l3]) (Ev.bind (hadd 1 v (by omega) v2) (Ev.step (g := fun _ => some ([], (v : Int), 9)) (fun k => ?_) (Ev.now fun _ => rfl))))), rstep2 _ (u5 _ ?_), by simp, fun h => by cases h⟩
            · simp only [asset_divided.l0, slen_eq, ilt_t (show (v : Int) < (s.size : Int) by omega), cond_true, sat_at hvs, Option.bind_some, bad_ok, decide_eq_true hbv]
            · have := r5_bad hn hb (B := B) (o.map T_asset_placed.fToken) (p := u) (i := i) 1 ⟨by omega, by omega⟩
              rw [hbq] at this ⊢
              exact this
  · refine ⟨o, 0, 0, Ev.step (g := fun _ => some (o, 0, 0)) (fun k => ?_) (Ev.now fun _ => rfl), Ev.step (g := fun _ => some (o.map T_asset_placed.fToken, 0, 0)) (fun k => ?_) (Ev.now fun _ => rfl), by omega, fun _ => by
      obtain rfl : i = s.size := by omega
      exact htl⟩
    · simp only [asset_divided.l0, slen_eq, ilt_f (show (s.size : Int) ≤ (i : Int) by omega), cond_false]
    · simp only [mastref2_tokensIn.l0, slen_eq, ilt_f (show (s.size : Int) ≤ (i : Int) by omega), cond_false]
end

/-! Positions. -/
section
variable {s : ByteArray} (hn : s.size ≤ 20000)
include hn

theorem pos_blank {p q : Nat} (h : Blk s false p q) (pos : List Int) (l : List T_asset_Token) (n j : Int) {Z : List Int} (hZ : Ev (fun k => mastref2_tokenPositions.l0 k s pos (q : Int) l n (wadd .i64 j 1)) Z) : Ev (fun k => mastref2_tokenPositions.l1 k s pos (p : Int) l n j) Z := by
  induction h with
  | @stop p h =>
    rcases Nat.lt_or_ge p s.size with hp | hp
    · obtain ⟨h1, h2⟩ := h hp
      refine Ev.step (g := fun k => (mastref2_commentEnd.f k s (p : Int) false).bind fun y3 => (bif (ilt 0 y3) then (mastref2_tokenPositions.l1 k s pos y3 l n j) else (mastref2_tokenPositions.l2 k s pos (p : Int) l n j false))) (fun k => ?_) (Ev.bind (cm_ref hn hp) ?_)
      · have e1 : ieq (bt s p) 32 = false := ieq_f fun q => h1 (.inl q)
        have e2 : ieq (bt s p) 9 = false := ieq_f fun q => h1 (.inr (.inl q))
        have e3 : ieq (bt s p) 10 = false := ieq_f fun q => h1 (.inr (.inr q))
        simp only [mastref2_tokenPositions.l1, slen_eq, ilt_t (show (p : Int) < (s.size : Int) by omega), cond_true, sat_at hp, Option.bind_some, e1, e2, e3, cond_false]
      · rw [h2]
        refine Ev.step (fun k => ?_) hZ
        simp only [ilt_f (show (0 : Int) ≤ 0 by decide), cond_false, mastref2_tokenPositions.l2]
    · refine Ev.step (fun k => ?_) hZ
      simp only [mastref2_tokenPositions.l1, slen_eq, ilt_f (show (s.size : Int) ≤ (p : Int) by omega), cond_false]
  | @one p q hp hbl hq ih =>
    have hc : cm s false p = 0 := cm_slash (by unfold blank at hbl; omega)
    refine Ev.step (g := fun k => (mastref2_commentEnd.f k s (p : Int) false).bind fun y3 => (bif (ilt 0 y3) then (mastref2_tokenPositions.l1 k s pos y3 l n j) else (mastref2_tokenPositions.l2 k s pos (p : Int) l n j true))) (fun k => ?_) (Ev.bind (cm_ref hn hp) ?_)
    · simp only [mastref2_tokenPositions.l1, slen_eq, ilt_t (show (p : Int) < (s.size : Int) by omega), cond_true, sat_at hp, Option.bind_some, ieq_d]
      unfold blank at hbl
      rcases hbl with e | e | e <;> rw [e] <;> rfl
    · rw [hc]
      refine Ev.step (fun k => ?_) (ih hZ)
      simp only [ilt_f (show (0 : Int) ≤ 0 by decide), cond_false, mastref2_tokenPositions.l2, cond_true, show wadd .i64 (p : Int) 1 = ((p + 1 : Nat) : Int) from wadd64 (by omega) (by omega)]
  | @com p q v hp hbl hv hpv hq ih =>
    refine Ev.step (g := fun k => (mastref2_commentEnd.f k s (p : Int) false).bind fun y3 => (bif (ilt 0 y3) then (mastref2_tokenPositions.l1 k s pos y3 l n j) else (mastref2_tokenPositions.l2 k s pos (p : Int) l n j false))) (fun k => ?_) (Ev.bind (cm_ref hn hp) ?_)
    · have e1 : ieq (bt s p) 32 = false := ieq_f fun q => hbl (.inl q)
      have e2 : ieq (bt s p) 9 = false := ieq_f fun q => hbl (.inr (.inl q))
      have e3 : ieq (bt s p) 10 = false := ieq_f fun q => hbl (.inr (.inr q))
      simp only [mastref2_tokenPositions.l1, slen_eq, ilt_t (show (p : Int) < (s.size : Int) by omega), cond_true, sat_at hp, Option.bind_some, e1, e2, e3, cond_false]
    · rw [hv]
      refine Ev.congr (fun k => ?_) (ih hZ)
      simp only [ilt_t (show (0 : Int) < (v : Int) by omega), cond_true]

theorem pos_loop {op : List T_asset_placed} (hop : op.length ≤ 20000) : ∀ (d j i : Nat), op.length - j ≤ d → j ≤ op.length → Tile s false (op.drop j) i s.size →
    Ev (fun k => mastref2_tokenPositions.l0 k s ((op.take j).map T_asset_placed.ffrom) (i : Int) (op.map T_asset_placed.fToken) (llen (op.map T_asset_placed.fToken)) (j : Int)) (op.map T_asset_placed.ffrom) := by
  intro d
  induction d with
  | zero =>
    intro j i hd hj ht
    obtain rfl : j = op.length := by omega
    rw [List.take_length]
    refine Ev.step (g := fun _ => some (op.map T_asset_placed.ffrom)) (fun k => ?_) (Ev.now fun _ => rfl)
    simp only [mastref2_tokenPositions.l0, llen_eq, List.length_map, ilt_f (Int.le_refl _), cond_false]
  | succ d ih =>
    intro j i hd hj ht
    rcases Nat.lt_or_ge j op.length with hlt | hge
    · rw [List.drop_eq_getElem_cons hlt] at ht
      obtain ⟨c, c1, c2, c3, c4, c5, c6, c7, c8⟩ := ht
      have hn' := ih (j + 1) c (by omega) hlt c8
      have hw : wadd .i64 (j : Int) 1 = ((j + 1 : Nat) : Int) := wadd64 (by omega) (by omega)
      have hlen : (j : Int) < ((op.map T_asset_placed.fToken).length : Int) := by rw [List.length_map]; omega
      have hget : lat (op.map T_asset_placed.fToken) (j : Int) = some (op[j]).fToken := by rw [lat_lt (by rw [List.length_map]; exact hlt), List.getElem_map]
      have happ : lapp 8 ((op.take j).map T_asset_placed.ffrom) [(i : Int)] = some ((op.take (j + 1)).map T_asset_placed.ffrom) := by
        rw [lapp_ok (by rw [List.length_map, List.length_take]; simp; omega) (by rw [List.length_map, List.length_take]; simp; omega)]
        rw [List.take_succ_eq_append_getElem hlt, List.map_append, List.map_cons, List.map_nil, c1]
      refine Ev.step (g := fun k => (bif (!ieq (op[j]).fToken.fKind 4) then (mastref2_tokenPositions.l0 k s ((op.take (j + 1)).map T_asset_placed.ffrom) (wadd .i64 (i : Int) (slen (op[j]).fToken.fText)) (op.map T_asset_placed.fToken) (llen (op.map T_asset_placed.fToken)) (wadd .i64 (j : Int) 1)) else (mastref2_tokenPositions.l1 k s ((op.take (j + 1)).map T_asset_placed.ffrom) (i : Int) (op.map T_asset_placed.fToken) (llen (op.map T_asset_placed.fToken)) (j : Int)))) (fun k => ?_) ?_
      · simp only [mastref2_tokenPositions.l0]
        rw [llen_eq, ilt_t hlen]
        simp only [cond_true, hget, Option.bind_some, happ]
      · by_cases h4 : (op[j]).fToken.fKind = 4
        · simp only [ieq_t h4, Bool.not_true, cond_false]
          refine pos_blank hn (c6 h4) _ _ _ _ ?_
          rw [hw]
          exact hn'
        · have hsl : slen (op[j]).fToken.fText = ((c - i : Nat) : Int) := by
            rw [c5]
            unfold tt
            rw [if_neg h4, slen_eq, ByteArray.size_extract]
            omega
          have hw2 : wadd .i64 (i : Int) ((c - i : Nat) : Int) = (c : Int) := by rw [wadd64 (by omega) (by omega)]; omega
          simp only [ieq_f h4, Bool.not_false, cond_true, hsl, hw2, hw]
          exact hn'
    · obtain rfl : j = op.length := by omega
      rw [List.take_length]
      refine Ev.step (g := fun _ => some (op.map T_asset_placed.ffrom)) (fun k => ?_) (Ev.now fun _ => rfl)
      simp only [mastref2_tokenPositions.l0, llen_eq, List.length_map, ilt_f (Int.le_refl _), cond_false]

theorem Tile.at' {B : Bool} : ∀ {op : List T_asset_placed} {a z : Nat}, Tile s B op a z → ∀ t ∈ op, ∃ u c : Nat, t.ffrom = u ∧ t.fto = c ∧ u < c ∧ c ≤ s.size ∧ t.fToken.fText = tt s t.fToken.fKind u c ∧ (t.fToken.fKind = 2 → u + 2 ≤ c)
  | [], _, _, _, t, h => by cases h
  | x :: op, a, z, ⟨c, c1, c2, c3, c4, c5, c6, c7, c8⟩, t, h => by
    rcases List.mem_cons.1 h with rfl | h
    · exact ⟨a, c, c1, c2, c3, c4, c5, c7⟩
    · exact c8.at' t h
end

def isM (t : T_asset_Token) (c : ByteArray) : Bool := decide (t.fKind = 3) && decide (t.fText.size = 1) && Lib.contains c.data.toList t.fText.data.toList

theorem among_ok (t : T_asset_Token) {c : ByteArray} (h : c.size < 4294967281) : asset_among.f t c = some (isM t c) := by
  unfold asset_among.f strings_Contains.f isM
  rw [if_pos h]
  simp only [ieq_d, slen_eq, Option.bind_some]
  by_cases h1 : t.fKind = 3 <;> by_cases h2 : t.fText.size = 1
  · have : ((t.fText.size : Nat) : Int) = 1 := by omega
    simp [h1, h2]
  · have : ¬ ((t.fText.size : Nat) : Int) = 1 := by omega
    simp [h1, h2, this]
  · simp [h1]
  · simp [h1]
theorem isMark_ok (t : T_asset_Token) {c : ByteArray} (h : c.size < 4294967281) : mastref2_isMark.f t c = some (isM t c) := among_ok t h

/-- Links one behind the other. -/
def Ord : List T_asset_Link → Nat → Nat → Prop
  | [], a, z => a ≤ z
  | l :: r, a, z => ∃ u c : Nat, l.fFrom = u ∧ l.fTo = c ∧ a ≤ u ∧ u ≤ c ∧ Ord r c z
theorem Ord.snoc {x : T_asset_Link} {u c : Nat} (h1 : x.fFrom = u) (h2 : x.fTo = c) (h3 : u ≤ c) : ∀ {o : List T_asset_Link} {a e : Nat}, Ord o a e → e ≤ u → Ord (o ++ [x]) a c
  | [], a, e, h, h4 => ⟨u, c, h1, h2, Nat.le_trans h h4, h3, Nat.le_refl _⟩
  | l :: o, a, e, ⟨u', c', k1, k2, k3, k4, k5⟩, h4 => ⟨u', c', k1, k2, k3, k4, k5.snoc h1 h2 h3 h4⟩

theorem Ord.le : ∀ {o : List T_asset_Link} {a e z : Nat}, Ord o a e → e ≤ z → Ord o a z
  | [], _, _, _, h, k => Nat.le_trans h k
  | _ :: _, _, _, _, ⟨u, c, k1, k2, k3, k4, k5⟩, k => ⟨u, c, k1, k2, k3, k4, k5.le k⟩
theorem Ord.ge : ∀ {o : List T_asset_Link} {a e : Nat}, Ord o a e → a ≤ e
  | [], _, _, h => h
  | _ :: _, _, _, ⟨u, c, k1, k2, k3, k4, k5⟩ => by have := k5.ge; omega

theorem Tile.from {s : ByteArray} {B : Bool} : ∀ {op : List T_asset_placed} {a z : Nat}, Tile s B op a z → ∀ (j : Nat) (h : j < op.length), (a : Int) ≤ (op[j]).ffrom
  | x :: op, a, z, ⟨c, c1, c2, c3, c4, c5, c6, c7, c8⟩, 0, _ => by show (a : Int) ≤ x.ffrom; omega
  | x :: op, a, z, ⟨c, c1, c2, c3, c4, c5, c6, c7, c8⟩, j + 1, h => by
    have := c8.from j (by simpa using h)
    show (a : Int) ≤ (op[j]'(by simpa using h)).ffrom
    omega
theorem Tile.pair {s : ByteArray} {B : Bool} : ∀ {op : List T_asset_placed} {a z : Nat}, Tile s B op a z → ∀ (i j : Nat) (h : j < op.length) (hi : i < j), (op[i]'(by omega)).fto ≤ (op[j]).ffrom
  | x :: op, a, z, ⟨c, c1, c2, c3, c4, c5, c6, c7, c8⟩, 0, j + 1, h, _ => by
    have := c8.from j (by simpa using h)
    show x.fto ≤ (op[j]'(by simpa using h)).ffrom
    omega
  | x :: op, a, z, ⟨c, c1, c2, c3, c4, c5, c6, c7, c8⟩, i + 1, j + 1, h, hi => c8.pair i j (by simpa using h) (by omega)
  | _ :: _, _, _, _, _, 0, _, hi => by omega

section
variable {s : ByteArray} (hn : s.size ≤ 20000)
include hn

theorem links_loop {op : List T_asset_placed} (hop : op.length ≤ 20000) (ht : Tile s false op 0 s.size) : ∀ (d i : Nat) (acc : List T_asset_Link), op.length - i ≤ d → 3 ≤ i → i ≤ 30000 → acc.length + 3 ≤ i → acc.length ≤ op.length → ∀ e : Nat, Ord acc 0 e → e ≤ s.size → (∀ j, i - 1 ≤ j → ∀ h : j < op.length, (e : Int) ≤ (op[j]).ffrom) →
    ∃ L : List T_asset_Link, L.length ≤ 20000 ∧ Ord L 0 s.size ∧ Ev (fun k => asset_links.l0 k op acc (i : Int)) L ∧ Ev (fun k => mastref2_LinksOf.l0 k (op.map T_asset_placed.fToken) acc (op.map T_asset_placed.ffrom) ((i - 1 : Nat) : Int)) (L, 0, 0) := by
  intro d
  induction d with
  | zero =>
    intro i acc hd hi hsm ha hb e he1 he2 he3
    refine ⟨acc, by omega, he1.le he2, Ev.step (g := fun _ => some acc) (fun k => ?_) (Ev.now fun _ => rfl), Ev.step (g := fun _ => some (acc, 0, 0)) (fun k => ?_) (Ev.now fun _ => rfl)⟩
    · simp only [asset_links.l0, llen_eq, ilt_f (show (op.length : Int) ≤ (i : Int) by omega), cond_false]
    · have hw : wadd .i64 ((i - 1 : Nat) : Int) 1 = (i : Int) := by rw [wadd64 (by omega) (by omega)]; omega
      simp only [mastref2_LinksOf.l0, llen_eq, List.length_map, hw, ilt_f (show (op.length : Int) ≤ (i : Int) by omega), cond_false]
  | succ d ih =>
    intro i acc hd hi hsm ha hb e he1 he2 he3
    rcases Nat.lt_or_ge i op.length with hlt | hge
    · have w3 : wsub .i64 (i : Int) 3 = ((i - 3 : Nat) : Int) := by rw [wsub64 (by omega) (by omega)]; omega
      have w2 : wsub .i64 (i : Int) 2 = ((i - 2 : Nat) : Int) := by rw [wsub64 (by omega) (by omega)]; omega
      have w1 : wsub .i64 (i : Int) 1 = ((i - 1 : Nat) : Int) := by rw [wsub64 (by omega) (by omega)]; omega
      have v2 : wsub .i64 ((i - 1 : Nat) : Int) 2 = ((i - 3 : Nat) : Int) := by rw [wsub64 (by omega) (by omega)]; omega
      have v1 : wsub .i64 ((i - 1 : Nat) : Int) 1 = ((i - 2 : Nat) : Int) := by rw [wsub64 (by omega) (by omega)]; omega
      have v0 : wadd .i64 ((i - 1 : Nat) : Int) 1 = (i : Int) := by rw [wadd64 (by omega) (by omega)]; omega
      have u0 : wadd .i64 (i : Int) 1 = ((i + 1 : Nat) : Int) := wadd64 (by omega) (by omega)
      have tok : ∀ j (h : j < op.length), lat (op.map T_asset_placed.fToken) (j : Int) = some (op[j]).fToken := fun j h => by rw [lat_lt (by rw [List.length_map]; exact h), List.getElem_map]
      have frm : ∀ j (h : j < op.length), lat (op.map T_asset_placed.ffrom) (j : Int) = some (op[j]).ffrom := fun j h => by rw [lat_lt (by rw [List.length_map]; exact h), List.getElem_map]
      obtain ⟨P, hP⟩ : ∃ P : Bool, P = ((ieq (op[i - 3]).fToken.fKind 1 && seq (op[i - 3]).fToken.fText c_url) && (isM (op[i - 2]).fToken c__28 && ieq (op[i - 1]).fToken.fKind 2) && isM (op[i]).fToken c__29) := ⟨_, rfl⟩
      have z28 : c__28.size < 4294967281 := by decide
      have z29 : c__29.size < 4294967281 := by decide
      have hp : ∀ X, Ev (fun k => asset_links.l1 k op acc (i : Int) (op[i - 1]).fToken.fKind (op[i - 1]).fToken.fText (op[i - 1]).ffrom (op[i - 1]).fto P) X → Ev (fun k => asset_links.l0 k op acc (i : Int)) X := fun X h => Ev.step (fun k => by
        simp only [asset_links.l0, llen_eq, ilt_t (show (i : Int) < (op.length : Int) by omega), cond_true, w3, w2, w1, lat_lt (show i - 3 < op.length by omega), lat_lt (show i - 2 < op.length by omega), lat_lt (show i - 1 < op.length by omega), lat_lt hlt, Option.bind_some, among_ok _ z28, among_ok _ z29]
        rw [hP]
        cases ieq (op[i - 3]).fToken.fKind 1 <;> cases seq (op[i - 3]).fToken.fText c_url <;> cases isM (op[i - 2]).fToken c__28 <;> cases ieq (op[i - 1]).fToken.fKind 2 <;> cases isM (op[i]).fToken c__29 <;> rfl) h
      have hr : ∀ X, Ev (fun k => mastref2_LinksOf.l1 k (op.map T_asset_placed.fToken) acc (op.map T_asset_placed.ffrom) ((i - 1 : Nat) : Int) P) X → Ev (fun k => mastref2_LinksOf.l0 k (op.map T_asset_placed.fToken) acc (op.map T_asset_placed.ffrom) ((i - 1 : Nat) : Int)) X := fun X h => Ev.step (fun k => by
        simp only [mastref2_LinksOf.l0, llen_eq, List.length_map, v0, v1, v2, ilt_t (show (i : Int) < (op.length : Int) by omega), cond_true, tok (i - 3) (by omega), tok (i - 2) (by omega), tok (i - 1) (by omega), tok i hlt, Option.bind_some, isMark_ok _ z28, isMark_ok _ z29]
        rw [hP]
        cases ieq (op[i - 3]).fToken.fKind 1 <;> cases seq (op[i - 3]).fToken.fText c_url <;> cases isM (op[i - 2]).fToken c__28 <;> cases ieq (op[i - 1]).fToken.fKind 2 <;> cases isM (op[i]).fToken c__29 <;> rfl) h
      cases P with
      | false =>
        obtain ⟨L, L1, L0, L2, L3⟩ := ih (i + 1) acc (by omega) (by omega) (by omega) (by omega) hb e he1 he2 (fun j hj => he3 j (by omega))
        rw [show i + 1 - 1 = i from rfl] at L3
        exact ⟨L, L1, L0, hp _ (Ev.step (fun k => by simp only [asset_links.l1, cond_false, u0]) L2), hr _ (Ev.step (fun k => by simp only [mastref2_LinksOf.l1, cond_false, v0]) L3)⟩
      | true =>
        have hk2 : (op[i - 1]).fToken.fKind = 2 := by
          have := hP.symm
          simp only [Bool.and_eq_true, ieq_d, decide_eq_true_eq] at this
          exact this.1.2.2
        obtain ⟨u, c, c1, c2, c3, c4, c5, c6⟩ := Tile.at' hn ht _ (List.getElem_mem (show i - 1 < op.length by omega))
        have c7 := c6 hk2
        have hsz : (op[i - 1]).fToken.fText.size = c - u := by
          rw [c5, hk2]
          unfold tt
          rw [if_neg (by decide), ByteArray.size_extract]
          omega
        have w4 : wsub .i64 (((op[i - 1]).fToken.fText.size : Nat) : Int) 1 = ((c - u - 1 : Nat) : Int) := by rw [wsub64 (by omega) (by omega)]; omega
        have hsub : ssub (op[i - 1]).fToken.fText 1 ((c - u - 1 : Nat) : Int) = some ((op[i - 1]).fToken.fText.extract 1 (c - u - 1)) := ssub_at (a := 1) (by omega) (by omega)
        have w5 : wadd .i64 (u : Int) (((op[i - 1]).fToken.fText.size : Nat) : Int) = (c : Int) := by rw [wadd64 (by omega) (by omega)]; omega
        have w6 : wadd .i64 (u : Int) 1 = ((u + 1 : Nat) : Int) := wadd64 (by omega) (by omega)
        have w7 : wsub .i64 (c : Int) 1 = ((c - 1 : Nat) : Int) := by rw [wsub64 (by omega) (by omega)]; omega
        have heu := he3 (i - 1) (Nat.le_refl _) (by omega)
        rw [c1] at heu
        have hpair : ∀ j, i + 1 - 1 ≤ j → ∀ h : j < op.length, ((c - 1 : Nat) : Int) ≤ (op[j]).ffrom := fun j hj h => by
          have := ht.pair (i - 1) j h (by omega)
          omega
        obtain ⟨L, L1, L0, L2, L3⟩ := ih (i + 1) (acc ++ [T_asset_Link.mk (wadd .i64 (u : Int) 1) (wsub .i64 (c : Int) 1) ((op[i - 1]).fToken.fText.extract 1 (c - u - 1))]) (by omega) (by omega) (by omega) (by simp; omega) (by simp; omega) (c - 1) (he1.snoc w6 w7 (by omega) (by omega)) (by omega) hpair
        rw [show i + 1 - 1 = i from rfl] at L3
        have happ : ∀ x : T_asset_Link, lapp 32 acc [x] = some (acc ++ [x]) := fun x => lapp_ok (by simp; omega) (by simp; omega)
        exact ⟨L, L1, L0, hp _ (Ev.step (fun k => by simp only [asset_links.l1, cond_true, slen_eq, w4, hsub, Option.bind_some, c1, c2, happ, u0]) L2),
          hr _ (Ev.step (fun k => by simp only [mastref2_LinksOf.l1, cond_true, slen_eq, frm (i - 1) (by omega), tok (i - 1) (by omega), w4, hsub, Option.bind_some, c1, w5, happ, v0]) L3)⟩
    · exact (by
        refine ⟨acc, by omega, he1.le he2, Ev.step (g := fun _ => some acc) (fun k => ?_) (Ev.now fun _ => rfl), Ev.step (g := fun _ => some (acc, 0, 0)) (fun k => ?_) (Ev.now fun _ => rfl)⟩
        · simp only [asset_links.l0, llen_eq, ilt_f (show (op.length : Int) ≤ (i : Int) by omega), cond_false]
        · have hw : wadd .i64 ((i - 1 : Nat) : Int) 1 = (i : Int) := by rw [wadd64 (by omega) (by omega)]; omega
          simp only [mastref2_LinksOf.l0, llen_eq, List.length_map, hw, ilt_f (show (op.length : Int) ≤ (i : Int) by omega), cond_false])
end

theorem both (s : ByteArray) (B : Bool) : ∃ (op : List T_asset_placed) (at' e : Int), Ev (fun k => asset_tokens.f k s B) (op, at', e) ∧ Ev (fun k => mastref2_TokensOf.f k s B) (op.map T_asset_placed.fToken, at', e) ∧ op.length ≤ 20000 ∧ (e = 0 → s.size ≤ 20000 ∧ Tile s B op 0 s.size) := by
  rcases Nat.lt_or_ge 20000 s.size with h | hn
  · refine ⟨[], 0, 4, Ev.now fun k => ?_, Ev.now fun k => ?_, by simp, fun h => by cases h⟩
    · simp only [asset_tokens.f, slen_eq, ilt_t (show (20000 : Int) < (s.size : Int) by omega), cond_true]
    · simp only [mastref2_TokensOf.f, slen_eq, ilt_t (show (20000 : Int) < (s.size : Int) by omega), cond_true, List.map_nil]
  · obtain ⟨b, hb, hr⟩ := refuse s
    obtain ⟨op, at', e, h1, h2, h3, h4⟩ := sim hn hb (B := B) s.size 0 (by omega) (by omega) (fun j hj => by omega) [] (by simp) rfl
    refine ⟨op, at', e, ?_, ?_, by omega, fun h => ⟨hn, h4 h⟩⟩
    · unfold asset_tokens.f asset_divided.f
      simp only [slen_eq, ilt_f (show (s.size : Int) ≤ (20000 : Int) by omega), cond_false]
      exact Ev.bind h1 (Ev.now fun _ => rfl)
    · unfold mastref2_TokensOf.f mastref2_tokensIn.f
      simp only [slen_eq, ilt_f (show (s.size : Int) ≤ (20000 : Int) by omega), cond_false]
      exact Ev.bind (Ev.bind hr h2) (Ev.now fun _ => rfl)


/-! Names, and what is put for a path. -/
def look (l : List T_asset_Name) (p : ByteArray) : Option ByteArray := mget seq (l.map T_asset_Name.fPath) (l.map T_asset_Name.fName) p

theorem seq_comm (a b : ByteArray) : seq a b = seq b a := by
  rw [seq_d, seq_d]
  exact decide_eq_decide.2 eq_comm

theorem look_cons (n : T_asset_Name) (l : List T_asset_Name) (p : ByteArray) : look (n :: l) p = cond (seq p n.fPath) (some n.fName) (look l p) := rfl

theorem mputK_new : ∀ (l : List T_asset_Name) (p : ByteArray), look l p = none → mputK seq (l.map T_asset_Name.fPath) p = l.map T_asset_Name.fPath ++ [p]
  | [], _, _ => rfl
  | n :: l, p, h => by
    rw [look_cons] at h
    cases q : seq p n.fPath with
    | true => rw [q] at h; cases h
    | false =>
      rw [q] at h
      simp only [List.map_cons, mputK, q, cond_false, mputK_new l p h, List.cons_append]
theorem mputV_new : ∀ (l : List T_asset_Name) (p v : ByteArray), look l p = none → mputV seq (l.map T_asset_Name.fPath) (l.map T_asset_Name.fName) p v = l.map T_asset_Name.fName ++ [v]
  | [], _, _, _ => rfl
  | n :: l, p, v, h => by
    rw [look_cons] at h
    cases q : seq p n.fPath with
    | true => rw [q] at h; cases h
    | false =>
      rw [q] at h
      simp only [List.map_cons, mputV, q, cond_false, mputV_new l p v h, List.cons_append]

theorem find_c1 (l : List T_asset_Name) (hl : l.length ≤ 100) (p m : ByteArray) : ∀ (d j : Nat), l.length - j ≤ d → j ≤ l.length → ∃ r : Int, Ev (fun k => slices_IndexFunc_asset_Name_asset_Name_at_mastref2_RelinkOf_c1.l0 k l (llen l) (j : Int) p m) (r, p, m, ()) ∧ (ile 0 r = (look (l.drop j) p).isSome) := by
  intro d
  induction d with
  | zero =>
    intro j hd hj
    refine ⟨-1, Ev.step (g := fun _ => some (-1, p, m, ())) (fun k => ?_) (Ev.now fun _ => rfl), ?_⟩
    · simp only [slices_IndexFunc_asset_Name_asset_Name_at_mastref2_RelinkOf_c1.l0, llen_eq, ilt_f (show (l.length : Int) ≤ (j : Int) by omega), cond_false]
    · rw [List.drop_eq_nil_of_le (by omega)]; rfl
  | succ d ih =>
    intro j hd hj
    rcases Nat.lt_or_ge j l.length with hlt | hge
    · have u0 : wadd .i64 (j : Int) 1 = ((j + 1 : Nat) : Int) := wadd64 (by omega) (by omega)
      obtain ⟨r, r1, r2⟩ := ih (j + 1) (by omega) (by omega)
      rw [List.drop_eq_getElem_cons hlt, look_cons]
      cases q : seq p (l[j]).fPath with
      | true =>
        refine ⟨j, Ev.step (g := fun _ => some ((j : Int), p, m, ())) (fun k => ?_) (Ev.now fun _ => rfl), ile_t (by omega)⟩
        simp only [slices_IndexFunc_asset_Name_asset_Name_at_mastref2_RelinkOf_c1.l0, llen_eq, ilt_t (show (j : Int) < (l.length : Int) by omega), cond_true, lat_lt hlt, Option.bind_some, mastref2_RelinkOf_c1.f, seq_comm (l[j]).fPath p, q]
      | false =>
        refine ⟨r, Ev.step (fun k => ?_) r1, r2⟩
        simp only [slices_IndexFunc_asset_Name_asset_Name_at_mastref2_RelinkOf_c1.l0, llen_eq, ilt_t (show (j : Int) < (l.length : Int) by omega), cond_true, lat_lt hlt, Option.bind_some, mastref2_RelinkOf_c1.f, seq_comm (l[j]).fPath p, q, cond_false, u0]
    · refine ⟨-1, Ev.step (g := fun _ => some (-1, p, m, ())) (fun k => ?_) (Ev.now fun _ => rfl), ?_⟩
      · simp only [slices_IndexFunc_asset_Name_asset_Name_at_mastref2_RelinkOf_c1.l0, llen_eq, ilt_f (show (l.length : Int) ≤ (j : Int) by omega), cond_false]
      · rw [List.drop_eq_nil_of_le (by omega)]; rfl

theorem contains_c1 (l : List T_asset_Name) (hl : l.length ≤ 100) (p m : ByteArray) : Ev (fun k => slices_ContainsFunc_asset_Name_asset_Name_at_mastref2_RelinkOf_c1.f k l p m) ((look l p).isSome, p, m, ()) := by
  obtain ⟨r, r1, r2⟩ := find_c1 l hl p m l.length 0 (by omega) (by omega)
  unfold slices_ContainsFunc_asset_Name_asset_Name_at_mastref2_RelinkOf_c1.f slices_IndexFunc_asset_Name_asset_Name_at_mastref2_RelinkOf_c1.f
  refine Ev.bind r1 (Ev.now fun _ => ?_)
  rw [r2, List.drop_zero]

theorem c2_loop (l : List T_asset_Name) (hl : l.length ≤ 100) (p : ByteArray) : ∀ (d j : Nat), l.length - j ≤ d → j ≤ l.length → Ev (fun k => mastref2_RelinkOf_c2.l0 k p l l (llen l) (j : Int)) ((match look (l.drop j) p with | some v => (v, true) | none => (c_empty, false)), l, ()) := by
  intro d
  induction d with
  | zero =>
    intro j hd hj
    rw [List.drop_eq_nil_of_le (by omega)]
    refine Ev.step (g := fun _ => some ((c_empty, false), l, ())) (fun k => ?_) (Ev.now fun _ => rfl)
    simp only [mastref2_RelinkOf_c2.l0, llen_eq, ilt_f (show (l.length : Int) ≤ (j : Int) by omega), cond_false]
  | succ d ih =>
    intro j hd hj
    rcases Nat.lt_or_ge j l.length with hlt | hge
    · have u0 : wadd .i64 (j : Int) 1 = ((j + 1 : Nat) : Int) := wadd64 (by omega) (by omega)
      rw [List.drop_eq_getElem_cons hlt, look_cons]
      cases q : seq p (l[j]).fPath with
      | true =>
        refine Ev.step (g := fun _ => some (((l[j]).fName, true), l, ())) (fun k => ?_) (Ev.now fun _ => rfl)
        simp only [mastref2_RelinkOf_c2.l0, llen_eq, ilt_t (show (j : Int) < (l.length : Int) by omega), cond_true, lat_lt hlt, Option.bind_some, seq_comm (l[j]).fPath p, q]
      | false =>
        refine Ev.step (fun k => ?_) (ih (j + 1) (by omega) (by omega))
        simp only [mastref2_RelinkOf_c2.l0, llen_eq, ilt_t (show (j : Int) < (l.length : Int) by omega), cond_true, lat_lt hlt, Option.bind_some, seq_comm (l[j]).fPath p, q, cond_false, u0]
    · rw [List.drop_eq_nil_of_le (by omega)]
      refine Ev.step (g := fun _ => some ((c_empty, false), l, ())) (fun k => ?_) (Ev.now fun _ => rfl)
      simp only [mastref2_RelinkOf_c2.l0, llen_eq, ilt_f (show (l.length : Int) ≤ (j : Int) by omega), cond_false]

theorem c2_ok (l : List T_asset_Name) (hl : l.length ≤ 100) (p : ByteArray) : Ev (fun k => mastref2_RelinkOf_c2.f k p l) ((match look l p with | some v => (v, true) | none => (c_empty, false)), l, ()) := by
  have := c2_loop l hl p l.length 0 (by omega) (by omega)
  rw [List.drop_zero] at this
  exact this

/-- A byte that stands in no name. -/
def bnB (x : Int) : Bool := bif (bif (bif (bif (ilt x 33) then true else (ieq x 34)) then true else (ieq x 39)) then true else (ieq x 92)) then true else (ieq x 127)

theorem name_bytes (s : ByteArray) (A : List T_asset_Name) (p nm : ByteArray) (hs : nm.size ≤ 140737488351232) (n : Int) (i : Nat) (hi : i ≤ 100) : ∀ (d j : Nat), nm.size - j ≤ d → j ≤ nm.size →
    (Ev (fun k => asset_badName.l0 k nm (j : Int)) true ∧ Ev (fun k => mastref2_RelinkOf.l1 k s A p nm (j : Int) A n (i : Int)) (c_empty, 0, 9)) ∨
    (Ev (fun k => asset_badName.l0 k nm (j : Int)) false ∧ ∀ X, Ev (fun k => mastref2_RelinkOf.l0 k s A A n ((i + 1 : Nat) : Int)) X → Ev (fun k => mastref2_RelinkOf.l1 k s A p nm (j : Int) A n (i : Int)) X) := by
  have w0 : wadd .i64 (i : Int) 1 = ((i + 1 : Nat) : Int) := wadd64 (by omega) (by omega)
  intro d
  induction d with
  | zero =>
    intro j hd hj
    refine .inr ⟨Ev.step (g := fun _ => some false) (fun k => ?_) (Ev.now fun _ => rfl), fun X h => Ev.step (fun k => ?_) h⟩
    · simp only [asset_badName.l0, slen_eq, ilt_f (show (nm.size : Int) ≤ (j : Int) by omega), cond_false]
    · simp only [mastref2_RelinkOf.l1, slen_eq, ilt_f (show (nm.size : Int) ≤ (j : Int) by omega), cond_false, w0]
  | succ d ih =>
    intro j hd hj
    rcases Nat.lt_or_ge j nm.size with hlt | hge
    · have u0 : wadd .i64 (j : Int) 1 = ((j + 1 : Nat) : Int) := wadd64 (by omega) (by omega)
      have e1 : ∀ k, asset_badName.l0 (k + 1) nm (j : Int) = bif bnB (bt nm j) then some true else asset_badName.l0 k nm ((j + 1 : Nat) : Int) := fun k => by
        simp only [asset_badName.l0, slen_eq, ilt_t (show (j : Int) < (nm.size : Int) by omega), cond_true, sat_at hlt, Option.bind_some, u0]
        rfl
      have e2 : ∀ k, mastref2_RelinkOf.l1 (k + 1) s A p nm (j : Int) A n (i : Int) = bif bnB (bt nm j) then some (c_empty, 0, 9) else mastref2_RelinkOf.l1 k s A p nm ((j + 1 : Nat) : Int) A n (i : Int) := fun k => by
        simp only [mastref2_RelinkOf.l1, slen_eq, ilt_t (show (j : Int) < (nm.size : Int) by omega), cond_true, sat_at hlt, Option.bind_some, u0]
        rfl
      cases q : bnB (bt nm j) with
      | true => exact .inl ⟨Ev.step (g := fun _ => some true) (fun k => by rw [e1, q]; rfl) (Ev.now fun _ => rfl), Ev.step (g := fun _ => some (c_empty, 0, 9)) (fun k => by rw [e2, q]; rfl) (Ev.now fun _ => rfl)⟩
      | false =>
        rcases ih (j + 1) (by omega) (by omega) with ⟨h1, h2⟩ | ⟨h1, h2⟩
        · exact .inl ⟨Ev.step (fun k => by rw [e1, q]; rfl) h1, Ev.step (fun k => by rw [e2, q]; rfl) h2⟩
        · exact .inr ⟨Ev.step (fun k => by rw [e1, q]; rfl) h1, fun X h => Ev.step (fun k => by rw [e2, q]; rfl) (h2 X h)⟩
    · refine .inr ⟨Ev.step (g := fun _ => some false) (fun k => ?_) (Ev.now fun _ => rfl), fun X h => Ev.step (fun k => ?_) h⟩
      · simp only [asset_badName.l0, slen_eq, ilt_f (show (nm.size : Int) ≤ (j : Int) by omega), cond_false]
      · simp only [mastref2_RelinkOf.l1, slen_eq, ilt_f (show (nm.size : Int) ≤ (j : Int) by omega), cond_false, w0]

theorem lsub_take {α : Type} {l : List α} {j : Nat} (h : j ≤ l.length) : lsub l 0 (j : Int) = some (l.take j) := by
  unfold lsub
  rw [if_pos ⟨by omega, by omega, by omega⟩]
  simp

theorem names_loop (s : ByteArray) (A : List T_asset_Name) (hl : A.length ≤ 40) (hs : ∀ n ∈ A, n.fName.size ≤ 140737488351232) (sz : Int)
    (hend : ∃ X, Ev (fun k => asset_Relink.l0 k s (A.map T_asset_Name.fPath) (A.map T_asset_Name.fName) sz A (llen A) (A.length : Int)) X ∧ Ev (fun k => mastref2_RelinkOf.l0 k s A A (llen A) (A.length : Int)) X) :
    ∀ (d j : Nat), A.length - j ≤ d → j ≤ A.length → ∃ X, Ev (fun k => asset_Relink.l0 k s ((A.take j).map T_asset_Name.fPath) ((A.take j).map T_asset_Name.fName) sz A (llen A) (j : Int)) X ∧ Ev (fun k => mastref2_RelinkOf.l0 k s A A (llen A) (j : Int)) X := by
  have fin : ∀ j, A.length ≤ j → j ≤ A.length → ∃ X, Ev (fun k => asset_Relink.l0 k s ((A.take j).map T_asset_Name.fPath) ((A.take j).map T_asset_Name.fName) sz A (llen A) (j : Int)) X ∧ Ev (fun k => mastref2_RelinkOf.l0 k s A A (llen A) (j : Int)) X := fun j h1 h2 => by
    obtain rfl : j = A.length := by omega
    rw [List.take_length]
    exact hend
  intro d
  induction d with
  | zero => intro j hd hj; exact fin j (by omega) hj
  | succ d ih =>
    intro j hd hj
    rcases Nat.lt_or_ge j A.length with hlt | hge
    · have u0 : wadd .i64 (j : Int) 1 = ((j + 1 : Nat) : Int) := wadd64 (by omega) (by omega)
      have hz := hs _ (List.getElem_mem hlt)
      have hc := contains_c1 (A.take j) (by rw [List.length_take]; omega) (A[j]).fPath (A[j]).fName
      have r0 : ∀ X, Ev (fun k => bif (look (A.take j) (A[j]).fPath).isSome then some (c_empty, 0, 6) else mastref2_RelinkOf.l1 k s A (A[j]).fPath (A[j]).fName 0 A (llen A) (j : Int)) X → Ev (fun k => mastref2_RelinkOf.l0 k s A A (llen A) (j : Int)) X := fun X h => by
        refine Ev.step (g := fun k => (slices_ContainsFunc_asset_Name_asset_Name_at_mastref2_RelinkOf_c1.f k (A.take j) (A[j]).fPath (A[j]).fName).bind fun y3 => bif y3.1 then some (c_empty, 0, 6) else mastref2_RelinkOf.l1 k s A y3.2.1 y3.2.2.1 0 A (llen A) (j : Int)) (fun k => ?_) (Ev.bind hc h)
        simp only [mastref2_RelinkOf.l0, llen_eq, ilt_t (show (j : Int) < (A.length : Int) by omega), cond_true, lat_lt hlt, Option.bind_some, lsub_take (Nat.le_of_lt hlt)]
      cases q : look (A.take j) (A[j]).fPath with
      | some v =>
        refine ⟨(c_empty, 0, 6), Ev.step (g := fun _ => some (c_empty, 0, 6)) (fun k => ?_) (Ev.now fun _ => rfl), r0 _ (by rw [q]; exact Ev.now fun _ => rfl)⟩
        simp only [asset_Relink.l0, llen_eq, ilt_t (show (j : Int) < (A.length : Int) by omega), cond_true, lat_lt hlt, Option.bind_some]
        rw [show mget seq ((A.take j).map T_asset_Name.fPath) ((A.take j).map T_asset_Name.fName) (A[j]).fPath = some v from q]
        rfl
      | none =>
        have hK := mputK_new (A.take j) (A[j]).fPath q
        have hV := mputV_new (A.take j) (A[j]).fPath (A[j]).fName q
        have ht : A.take (j + 1) = A.take j ++ [A[j]] := by rw [List.take_add_one, List.getElem?_eq_getElem hlt]; rfl
        have p0 : ∀ b X, Ev (fun k => asset_badName.f k (A[j]).fName) b → Ev (fun k => bif b then some (c_empty, 0, 9) else asset_Relink.l0 k s ((A.take (j + 1)).map T_asset_Name.fPath) ((A.take (j + 1)).map T_asset_Name.fName) sz A (llen A) ((j + 1 : Nat) : Int)) X → Ev (fun k => asset_Relink.l0 k s ((A.take j).map T_asset_Name.fPath) ((A.take j).map T_asset_Name.fName) sz A (llen A) (j : Int)) X := fun b X hb h => by
          refine Ev.step (g := fun k => (asset_badName.f k (A[j]).fName).bind fun y2 => bif y2 then some (c_empty, 0, 9) else asset_Relink.l0 k s ((A.take (j + 1)).map T_asset_Name.fPath) ((A.take (j + 1)).map T_asset_Name.fName) sz A (llen A) ((j + 1 : Nat) : Int)) (fun k => ?_) (Ev.bind hb h)
          simp only [asset_Relink.l0, llen_eq, ilt_t (show (j : Int) < (A.length : Int) by omega), cond_true, lat_lt hlt, Option.bind_some]
          rw [show mget seq ((A.take j).map T_asset_Name.fPath) ((A.take j).map T_asset_Name.fName) (A[j]).fPath = none from q, hK, hV, u0, ht, List.map_append, List.map_append]
          rfl
        rcases name_bytes s A (A[j]).fPath (A[j]).fName hz (llen A) j (by omega) (A[j]).fName.size 0 (by omega) (by omega) with ⟨h1, h2⟩ | ⟨h1, h2⟩
        · exact ⟨(c_empty, 0, 9), p0 true _ h1 (Ev.now fun _ => rfl), r0 _ (by rw [q]; exact h2)⟩
        · obtain ⟨X, x1, x2⟩ := ih (j + 1) (by omega) (by omega)
          exact ⟨X, p0 false X h1 x1, r0 _ (by rw [q]; exact h2 X x2)⟩
    · exact fin j hge hj

/-! What comes out. -/
section
variable (s : ByteArray) (A : List T_asset_Name)

def cnt : List T_asset_Link → Int
  | [] => 0
  | x :: r => (match look A x.fPath with | some v => (v.size : Int) - (x.fTo - x.fFrom) | none => 0) + cnt r

def out : List T_asset_Link → Nat → ByteArray
  | [], a => s.extract a s.size
  | x :: r, a => match look A x.fPath with
    | none => out r a
    | some v => s.extract a x.fFrom.toNat ++ v ++ out r x.fTo.toNat

theorem Ord.start : ∀ {o : List T_asset_Link} {a c e : Nat}, Ord o c e → a ≤ c → Ord o a e
  | [], _, _, _, h, k => Nat.le_trans k h
  | _ :: _, _, _, _, ⟨u, c', k1, k2, k3, k4, k5⟩, k => ⟨u, c', k1, k2, by omega, k4, k5⟩

theorem out_size : ∀ (L : List T_asset_Link) (a : Nat), Ord L a s.size → ((out s A L a).size : Int) = s.size - a + cnt A L
  | [], a, h => by
    have h : a ≤ s.size := h
    simp only [out, cnt, ByteArray.size_extract]
    omega
  | x :: r, a, ⟨u, c, k1, k2, k3, k4, k5⟩ => by
    have hz := k5.ge
    simp only [out, cnt]
    cases q : look A x.fPath with
    | none =>
      simp only
      rw [out_size r a (k5.start (by omega))]
      omega
    | some v =>
      simp only
      rw [k1, k2, Int.toNat_natCast, Int.toNat_natCast]
      have := out_size r c k5
      simp only [ByteArray.size_append, ByteArray.size_extract]
      omega

theorem look_mem : ∀ {l : List T_asset_Name} {p v : ByteArray}, look l p = some v → ∃ n ∈ l, n.fName = v
  | n :: l, p, v, h => by
    rw [look_cons] at h
    cases q : seq p n.fPath with
    | true => rw [q] at h; cases h; exact ⟨n, List.mem_cons_self .., rfl⟩
    | false =>
      rw [q] at h
      obtain ⟨m, h1, h2⟩ := look_mem h
      exact ⟨m, List.mem_cons_of_mem _ h1, h2⟩

variable {s A}
variable (hn : s.size ≤ 20000) (hA : A.length ≤ 40) (hs : ∀ n ∈ A, n.fName.size ≤ 140737488351232)
include hn hA hs

theorem Ord.get : ∀ {L : List T_asset_Link} {a e : Nat}, Ord L a e → e ≤ 20000 → ∀ x ∈ L, 0 ≤ x.fTo - x.fFrom ∧ x.fTo - x.fFrom ≤ 20000
  | _ :: _, a, e, ⟨u, c, k1, k2, k3, k4, k5⟩, he, x, hx => by
    have := k5.ge
    rcases List.mem_cons.1 hx with rfl | hx
    · omega
    · exact k5.get he x hx

/-- The size is reckoned ahead. -/
theorem size_loop {L : List T_asset_Link} (hL : L.length ≤ 20000) (ho : Ord L 0 s.size) (X : ByteArray × Int × Int) : ∀ (d j : Nat) (v : Int), L.length - j ≤ d → j ≤ L.length → -(20000 * (j : Int)) ≤ v → v ≤ 20000 + 140737488351232 * (j : Int) →
    Ev (fun k => asset_Relink.l1 k s (A.map T_asset_Name.fPath) (A.map T_asset_Name.fName) (v + cnt A (L.drop j)) L L (llen L) (L.length : Int)) X → Ev (fun k => asset_Relink.l1 k s (A.map T_asset_Name.fPath) (A.map T_asset_Name.fName) v L L (llen L) (j : Int)) X := by
  intro d
  induction d with
  | zero =>
    intro j v hd hj h1 h2 h
    obtain rfl : j = L.length := by omega
    rw [List.drop_length] at h
    simpa [cnt] using h
  | succ d ih =>
    intro j v hd hj h1 h2 h
    rcases Nat.lt_or_ge j L.length with hlt | hge
    · have u0 : wadd .i64 (j : Int) 1 = ((j + 1 : Nat) : Int) := wadd64 (by omega) (by omega)
      have hx := ho.get hn hA hs hn _ (List.getElem_mem hlt)
      rw [List.drop_eq_getElem_cons hlt] at h
      simp only [cnt] at h
      cases q : look A (L[j]).fPath with
      | none =>
        rw [q] at h
        simp only at h
        refine Ev.step (fun k => ?_) (ih (j + 1) v (by omega) (by omega) (by omega) (by omega) (by rw [show v + cnt A (L.drop (j + 1)) = v + (0 + cnt A (L.drop (j + 1))) by omega]; exact h))
        simp only [asset_Relink.l1, llen_eq, ilt_t (show (j : Int) < (L.length : Int) by omega), cond_true, lat_lt hlt, Option.bind_some]
        rw [show mget seq (A.map T_asset_Name.fPath) (A.map T_asset_Name.fName) (L[j]).fPath = none from q, u0]
        rfl
      | some w =>
        rw [q] at h
        simp only at h
        obtain ⟨n, n1, rfl⟩ := look_mem q
        have hw := hs n n1
        have w1 : wsub .i64 (L[j]).fTo (L[j]).fFrom = (L[j]).fTo - (L[j]).fFrom := wsub64 (by omega) (by omega)
        have w2 : wsub .i64 (n.fName.size : Int) ((L[j]).fTo - (L[j]).fFrom) = (n.fName.size : Int) - ((L[j]).fTo - (L[j]).fFrom) := wsub64 (by omega) (by omega)
        have w3 : wadd .i64 v ((n.fName.size : Int) - ((L[j]).fTo - (L[j]).fFrom)) = v + ((n.fName.size : Int) - ((L[j]).fTo - (L[j]).fFrom)) := wadd64 (by omega) (by omega)
        refine Ev.step (fun k => ?_) (ih (j + 1) (v + ((n.fName.size : Int) - ((L[j]).fTo - (L[j]).fFrom))) (by omega) (by omega) (by omega) (by omega) (by rw [Int.add_assoc]; exact h))
        simp only [asset_Relink.l1, llen_eq, ilt_t (show (j : Int) < (L.length : Int) by omega), cond_true, lat_lt hlt, Option.bind_some]
        rw [show mget seq (A.map T_asset_Name.fPath) (A.map T_asset_Name.fName) (L[j]).fPath = some n.fName from q, u0]
        simp only [Option.isSome_some, cond_true, Option.getD_some, slen_eq, w1, w2, w3]
    · obtain rfl : j = L.length := by omega
      rw [List.drop_length] at h
      simpa [cnt] using h

omit hn hA hs in
theorem scat_ok {a b : ByteArray} (h : a.size + b.size ≤ 9223372036854775807) : scat a b = some (a ++ b) := by
  unfold scat
  rw [if_pos h]

/-- The reference puts the names. -/
theorem ref_loop {L : List T_asset_Link} (hL : L.length ≤ 20000) : ∀ (d j a : Nat) (acc : ByteArray), L.length - j ≤ d → j ≤ L.length → acc.size ≤ 140737488371232 * j → Ord (L.drop j) a s.size →
    Ev (fun k => mastref2_relinked_at_mastref2_RelinkOf_c2.l0 k s acc (a : Int) L (llen L) (j : Int) A) (acc ++ out s A (L.drop j) a, A, ()) := by
  have fin : ∀ (j a : Nat) (acc : ByteArray), L.length ≤ j → j ≤ L.length → acc.size ≤ 140737488371232 * j → Ord (L.drop j) a s.size → Ev (fun k => mastref2_relinked_at_mastref2_RelinkOf_c2.l0 k s acc (a : Int) L (llen L) (j : Int) A) (acc ++ out s A (L.drop j) a, A, ()) := fun j a acc h1 h2 h3 h4 => by
    have hd : L.drop j = [] := List.drop_eq_nil_of_le h1
    rw [hd] at h4 ⊢
    have h4 : a ≤ s.size := h4
    refine Ev.step (g := fun _ => some (acc ++ out s A [] a, A, ())) (fun k => ?_) (Ev.now fun _ => rfl)
    simp only [mastref2_relinked_at_mastref2_RelinkOf_c2.l0, llen_eq, ilt_f (show (L.length : Int) ≤ (j : Int) by omega), cond_false, slen_eq, ssub_at h4 (Nat.le_refl _), Option.bind_some, out]
    rw [scat_ok (by rw [ByteArray.size_extract]; omega)]
    rfl
  intro d
  induction d with
  | zero => intro j a acc hd hj h1 h2; exact fin j a acc (by omega) hj h1 h2
  | succ d ih =>
    intro j a acc hd hj h1 h2
    rcases Nat.lt_or_ge j L.length with hlt | hge
    · have u0 : wadd .i64 (j : Int) 1 = ((j + 1 : Nat) : Int) := wadd64 (by omega) (by omega)
      rw [List.drop_eq_getElem_cons hlt] at h2 ⊢
      obtain ⟨u, c, k1, k2, k3, k4, k5⟩ := h2
      have hz := k5.ge
      have hc := c2_ok A (by omega) (L[j]).fPath
      have r0 : ∀ X, Ev (fun k => bif (match look A (L[j]).fPath with | some v => (v, true) | none => (c_empty, false)).2 then ((ssub s (a : Int) (L[j]).fFrom).bind fun y4 => ((scat y4 (match look A (L[j]).fPath with | some v => (v, true) | none => (c_empty, false)).1).bind fun y5 => ((scat acc y5).bind fun y6 => (mastref2_relinked_at_mastref2_RelinkOf_c2.l0 k s y6 (L[j]).fTo L (llen L) ((j + 1 : Nat) : Int) A)))) else mastref2_relinked_at_mastref2_RelinkOf_c2.l0 k s acc (a : Int) L (llen L) ((j + 1 : Nat) : Int) A) X → Ev (fun k => mastref2_relinked_at_mastref2_RelinkOf_c2.l0 k s acc (a : Int) L (llen L) (j : Int) A) X := fun X h => by
        refine Ev.step (g := fun k => (mastref2_RelinkOf_c2.f k (L[j]).fPath A).bind fun y3 => bif y3.1.2 then ((ssub s (a : Int) (L[j]).fFrom).bind fun y4 => ((scat y4 y3.1.1).bind fun y5 => ((scat acc y5).bind fun y6 => (mastref2_relinked_at_mastref2_RelinkOf_c2.l0 k s y6 (L[j]).fTo L (llen L) ((j + 1 : Nat) : Int) y3.2.1)))) else mastref2_relinked_at_mastref2_RelinkOf_c2.l0 k s acc (a : Int) L (llen L) ((j + 1 : Nat) : Int) y3.2.1) (fun k => ?_) (Ev.bind hc h)
        simp only [mastref2_relinked_at_mastref2_RelinkOf_c2.l0, llen_eq, ilt_t (show (j : Int) < (L.length : Int) by omega), cond_true, lat_lt hlt, Option.bind_some, u0]
      refine r0 _ ?_
      cases q : look A (L[j]).fPath with
      | none =>
        simp only [out, q, cond_false]
        exact ih (j + 1) a acc (by omega) (by omega) (by omega) (k5.start (by omega))
      | some v =>
        obtain ⟨n, n1, rfl⟩ := look_mem q
        have hw := hs n n1
        simp only [out, q, cond_true, k1, k2, Int.toNat_natCast, ssub_at k3 (show u ≤ s.size by omega), Option.bind_some]
        have e1 : scat (s.extract a u) n.fName = some (s.extract a u ++ n.fName) := scat_ok (by rw [ByteArray.size_extract]; omega)
        have hsz : (s.extract a u ++ n.fName).size ≤ 140737488371232 := by rw [ByteArray.size_append, ByteArray.size_extract]; omega
        have e2 : scat acc (s.extract a u ++ n.fName) = some (acc ++ (s.extract a u ++ n.fName)) := scat_ok (by omega)
        simp only [e1, e2, Option.bind_some]
        have := ih (j + 1) c (acc ++ (s.extract a u ++ n.fName)) (by omega) (by omega) (by rw [ByteArray.size_append]; omega) k5
        rw [ByteArray.append_assoc] at this
        exact this
    · exact fin j a acc hge hj h1 h2

omit hn hA hs in
theorem sbytes_app (a b : ByteArray) : sbytes (a ++ b) = sbytes a ++ sbytes b := by
  unfold sbytes
  rw [← List.map_append]
  congr 1
  first | done | simp
omit hn hA hs in
theorem bstr_sbytes (a : ByteArray) : bstr (sbytes a) = a := by
  obtain ⟨⟨l⟩⟩ := a
  unfold bstr sbytes
  have : ∀ l : List UInt8, List.map (fun n : Int => UInt8.ofNat n.toNat) (List.map (fun b : UInt8 => (b.toNat : Int)) l) = l := fun l => by
    rw [List.map_map]
    exact (List.map_congr_left (fun b _ => by simp)).trans (List.map_id l)
  simp only [this]
omit hn hA hs in
theorem sbytes_len' (a : ByteArray) : (sbytes a).length = a.size := by
  unfold sbytes; rw [List.length_map, Array.length_toList]; rfl

/-- The program puts the names. -/
theorem prog_loop {L : List T_asset_Link} (hL : L.length ≤ 20000) : ∀ (d j a : Nat) (acc : ByteArray), L.length - j ≤ d → j ≤ L.length → acc.size + (out s A (L.drop j) a).size ≤ 200000 → Ord (L.drop j) a s.size →
    Ev (fun k => asset_relinked.l0 k s (A.map T_asset_Name.fPath) (A.map T_asset_Name.fName) (sbytes acc) (a : Int) L (llen L) (j : Int)) (acc ++ out s A (L.drop j) a, A.map T_asset_Name.fPath, A.map T_asset_Name.fName, ()) := by
  have ap : ∀ x y : ByteArray, x.size + y.size ≤ 200000 → lapp 1 (sbytes x) (sbytes y) = some (sbytes (x ++ y)) := fun x y h => by
    rw [lapp_ok (by rw [sbytes_len', sbytes_len']; omega) (by rw [sbytes_len', sbytes_len']; omega), sbytes_app]
  have fin : ∀ (j a : Nat) (acc : ByteArray), L.length ≤ j → j ≤ L.length → acc.size + (out s A (L.drop j) a).size ≤ 200000 → Ord (L.drop j) a s.size → Ev (fun k => asset_relinked.l0 k s (A.map T_asset_Name.fPath) (A.map T_asset_Name.fName) (sbytes acc) (a : Int) L (llen L) (j : Int)) (acc ++ out s A (L.drop j) a, A.map T_asset_Name.fPath, A.map T_asset_Name.fName, ()) := fun j a acc h1 h2 h3 h4 => by
    have hd : L.drop j = [] := List.drop_eq_nil_of_le h1
    rw [hd] at h3 h4 ⊢
    have h4 : a ≤ s.size := h4
    refine Ev.step (g := fun _ => some (acc ++ out s A [] a, A.map T_asset_Name.fPath, A.map T_asset_Name.fName, ())) (fun k => ?_) (Ev.now fun _ => rfl)
    simp only [out] at h3
    simp only [asset_relinked.l0, llen_eq, ilt_f (show (L.length : Int) ≤ (j : Int) by omega), cond_false, slen_eq, ssub_at h4 (Nat.le_refl _), Option.bind_some, out]
    rw [ap _ _ h3]
    simp only [Option.bind_some, bstr_sbytes]
  intro d
  induction d with
  | zero => intro j a acc hd hj h1 h2; exact fin j a acc (by omega) hj h1 h2
  | succ d ih =>
    intro j a acc hd hj h1 h2
    rcases Nat.lt_or_ge j L.length with hlt | hge
    · have u0 : wadd .i64 (j : Int) 1 = ((j + 1 : Nat) : Int) := wadd64 (by omega) (by omega)
      rw [List.drop_eq_getElem_cons hlt] at h1 h2 ⊢
      obtain ⟨u, c, k1, k2, k3, k4, k5⟩ := h2
      have hz := k5.ge
      cases q : look A (L[j]).fPath with
      | none =>
        simp only [out, q] at h1 ⊢
        refine Ev.step (fun k => ?_) (ih (j + 1) a acc (by omega) (by omega) h1 (k5.start (by omega)))
        simp only [asset_relinked.l0, llen_eq, ilt_t (show (j : Int) < (L.length : Int) by omega), cond_true, lat_lt hlt, Option.bind_some]
        rw [show mget seq (A.map T_asset_Name.fPath) (A.map T_asset_Name.fName) (L[j]).fPath = none from q, u0]
        rfl
      | some v =>
        simp only [out, q, k1, k2, Int.toNat_natCast] at h1 ⊢
        simp only [ByteArray.size_append] at h1
        have := ih (j + 1) c (acc ++ s.extract a u ++ v) (by omega) (by omega) (by simp only [ByteArray.size_append]; omega) k5
        rw [show acc ++ s.extract a u ++ v ++ out s A (L.drop (j + 1)) c = acc ++ (s.extract a u ++ v ++ out s A (L.drop (j + 1)) c) by simp only [ByteArray.append_assoc]] at this
        refine Ev.step (fun k => ?_) this
        simp only [asset_relinked.l0, llen_eq, ilt_t (show (j : Int) < (L.length : Int) by omega), cond_true, lat_lt hlt, Option.bind_some]
        rw [show mget seq (A.map T_asset_Name.fPath) (A.map T_asset_Name.fName) (L[j]).fPath = some v from q, u0]
        simp only [Option.isSome_some, Bool.not_true, cond_false, Option.getD_some, k1, k2, ssub_at k3 (show u ≤ s.size by omega), Option.bind_some]
        rw [ap _ _ (by omega)]
        simp only [Option.bind_some]
        rw [ap _ _ (by simp only [ByteArray.size_append]; omega)]
        simp only [Option.bind_some]
    · exact fin j a acc hge hj h1 h2
end

theorem pure_holds : Pure := by
  intro s A _ hg
  apply Ev.get
  unfold mastlaw2_AssetRelinks.f
  suffices h : ∃ X, Ev (fun k => asset_Relink.f k s A) X ∧ Ev (fun k => mastref2_RelinkOf.f k s A) X by
    obtain ⟨X, h1, h2⟩ := h
    refine Ev.bind h1 (Ev.bind h2 (Ev.now fun _ => ?_))
    simp only [ieq_self, cond_true, seq_self]
  unfold asset_Relink.f mastref2_RelinkOf.f
  rcases Nat.lt_or_ge 20000 s.size with hbig | hn
  · refine ⟨(c_empty, 0, 4), Ev.now fun _ => ?_, Ev.now fun _ => ?_⟩ <;> simp only [slen_eq, ilt_t (show (20000 : Int) < (s.size : Int) by omega), cond_true]
  rcases Nat.lt_or_ge 40 A.length with hbig | hA
  · refine ⟨(c_empty, 0, 4), Ev.now fun _ => ?_, Ev.now fun _ => ?_⟩ <;> simp only [slen_eq, llen_eq, ilt_f (show (s.size : Int) ≤ 20000 by omega), ilt_t (show (40 : Int) < (A.length : Int) by omega), cond_true, cond_false]
  simp only [slen_eq, llen_eq, ilt_f (show (s.size : Int) ≤ 20000 by omega), ilt_f (show (A.length : Int) ≤ 40 by omega), cond_false]
  have hs : ∀ n ∈ A, n.fName.size ≤ 140737488351232 := fun n hn => by
    have := hg.2.2 n hn
    exact this.2
  refine names_loop s A hA hs (s.size : Int) ?_ A.length 0 (by omega) (by omega)
  obtain ⟨op, at', e, h1, h2, h3, h4⟩ := both s false
  have pe : ∀ X, Ev (fun k => (asset_Links.f k s).bind fun y5 => (bif (!ieq y5.2.2 0) then (some (c_empty, y5.2.1, y5.2.2)) else (asset_Relink.l1 k s (A.map T_asset_Name.fPath) (A.map T_asset_Name.fName) (s.size : Int) y5.1 y5.1 (llen y5.1) 0))) X → Ev (fun k => asset_Relink.l0 k s (A.map T_asset_Name.fPath) (A.map T_asset_Name.fName) (s.size : Int) A (llen A) (A.length : Int)) X := fun X h => Ev.step (fun k => by
    simp only [asset_Relink.l0, llen_eq, ilt_f (Int.le_refl _), cond_false]) h
  have re : ∀ X, Ev (fun k => bif (!ieq e 0) then (some (c_empty, at', e)) else ((mastref2_relinked_at_mastref2_RelinkOf_c2.f k s A).bind fun y5 => (bif (ilt 200000 (slen y5.1)) then (some (c_empty, 0, 4)) else (some (y5.1, 0, 0))))) X → Ev (fun k => mastref2_RelinkOf.l0 k s A A (llen A) (A.length : Int)) X := fun X h => by
    refine Ev.step (g := fun k => (mastref2_TokensOf.f k s false).bind fun y4 => bif (!ieq y4.2.2 0) then (some (c_empty, y4.2.1, y4.2.2)) else ((mastref2_relinked_at_mastref2_RelinkOf_c2.f k s A).bind fun y5 => (bif (ilt 200000 (slen y5.1)) then (some (c_empty, 0, 4)) else (some (y5.1, 0, 0))))) (fun k => ?_) (Ev.bind h2 h)
    simp only [mastref2_RelinkOf.l0, llen_eq, ilt_f (Int.le_refl _), cond_false]
  by_cases he : e = 0
  · obtain ⟨_, ht⟩ := h4 he
    obtain ⟨L, L1, L0, L2, L3⟩ := links_loop hn h3 ht (op.length) 3 [] (by omega) (by omega) (by omega) (by simp) (by simp) 0 (Nat.le_refl _) (Nat.zero_le _) (fun j hj h => by have := ht.from j h; simpa using this)
    have hp : Ev (fun k => asset_Links.f k s) (L, 0, 0) := by
      unfold asset_Links.f asset_links.f
      refine Ev.bind h1 ?_
      simp only [ieq_t he, Bool.not_true, cond_false]
      exact Ev.bind L2 (Ev.now fun _ => rfl)
    have hr : Ev (fun k => mastref2_LinksOf.f k s) (L, 0, 0) := by
      unfold mastref2_LinksOf.f
      refine Ev.bind h2 ?_
      simp only [ieq_t he, Bool.not_true, cond_false]
      unfold mastref2_tokenPositions.f
      refine Ev.bind (pos_loop hn h3 op.length 0 0 (by omega) (by omega) ?_) L3
      rw [List.drop_zero]
      exact ht
    have hz := out_size s A L 0 L0
    have hrl : Ev (fun k => mastref2_relinked_at_mastref2_RelinkOf_c2.f k s A) (out s A L 0, A, ()) := by
      unfold mastref2_relinked_at_mastref2_RelinkOf_c2.f
      refine Ev.bind hr ?_
      have := ref_loop hn hA hs L1 L.length 0 0 c_empty (by omega) (by omega) (by decide) (by rw [List.drop_zero]; exact L0)
      rw [List.drop_zero, show c_empty ++ out s A L 0 = out s A L 0 from ByteArray.empty_append] at this
      exact this
    refine ⟨bif ilt 200000 (slen (out s A L 0)) then (c_empty, 0, 4) else (out s A L 0, 0, 0), pe _ (Ev.bind hp ?_), re _ ?_⟩
    · simp only [ieq_self, Bool.not_true, cond_false]
      refine size_loop hn hA hs L1 L0 _ L.length 0 (s.size : Int) (by omega) (by omega) (by omega) (by omega) ?_
      rw [List.drop_zero, show (s.size : Int) + cnt A L = ((out s A L 0).size : Int) by omega]
      rcases Nat.lt_or_ge 200000 (out s A L 0).size with hbig | hsm
      · refine Ev.step (g := fun _ => some (c_empty, 0, 4)) (fun k => ?_) (Ev.now fun _ => ?_)
        · simp only [asset_Relink.l1, llen_eq, ilt_f (Int.le_refl _), cond_false, ilt_t (show (200000 : Int) < ((out s A L 0).size : Int) by omega), cond_true]
        · rw [slen_eq, ilt_t (show (200000 : Int) < ((out s A L 0).size : Int) by omega)]; rfl
      · have hl := prog_loop hn hA hs L1 L.length 0 0 c_empty (by omega) (by omega) (by rw [List.drop_zero, show c_empty.size = 0 from rfl]; omega) (by rw [List.drop_zero]; exact L0)
        rw [List.drop_zero, show c_empty ++ out s A L 0 = out s A L 0 from ByteArray.empty_append] at hl
        have hl' : Ev (fun k => asset_relinked.f k s L (A.map T_asset_Name.fPath) (A.map T_asset_Name.fName)) (out s A L 0, A.map T_asset_Name.fPath, A.map T_asset_Name.fName, ()) := hl
        rw [slen_eq, ilt_f (show ((out s A L 0).size : Int) ≤ 200000 by omega), cond_false]
        refine Ev.step (g := fun k => (asset_relinked.f k s L (A.map T_asset_Name.fPath) (A.map T_asset_Name.fName)).bind fun y7 => some (y7.1, 0, 0)) (fun k => ?_) (Ev.bind hl' (Ev.now fun _ => rfl))
        simp only [asset_Relink.l1, llen_eq, ilt_f (Int.le_refl _), cond_false, ilt_f (show ((out s A L 0).size : Int) ≤ 200000 by omega)]
    · simp only [ieq_t he, Bool.not_true, cond_false]
      refine Ev.bind hrl (Ev.now fun _ => ?_)
      cases ilt 200000 (slen (out s A L 0)) <;> rfl
  · refine ⟨(c_empty, at', e), pe _ (Ev.bind (f := fun k => asset_Links.f k s) (x := ([], at', e)) ?_ (Ev.now fun _ => ?_)), re _ (Ev.now fun _ => ?_)⟩
    · unfold asset_Links.f
      refine Ev.bind h1 (Ev.now fun k => ?_)
      simp only [ieq_f he, Bool.not_false, cond_true]
    · simp only [ieq_f he, Bool.not_false, cond_true]
    · simp only [ieq_f he, Bool.not_false, cond_true]

end Go.Proofs.Ytdllocgdhdfgeaa.LAssetRelinks
