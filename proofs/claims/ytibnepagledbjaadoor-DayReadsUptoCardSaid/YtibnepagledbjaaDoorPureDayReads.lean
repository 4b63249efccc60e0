/- A day is read as the reference says, for every text. Conditions: none. -/
import Derived.Test.YtibnepagledbjaaDoorLDayReadsOp
set_option linter.unusedVariables false
set_option linter.unusedSimpArgs false
namespace Go.Proofs.YtibnepagledbjaaDoor.LDayReads
open Go Go.Proofs.YtibnepagledbjaaDoor.Lift

namespace Cal
def leap (y : Int) : Bool := y % 4 == 0 && (!(y % 100 == 0) || y % 400 == 0)
def mdays (y m : Int) : Int := if m = 2 then (if leap y = true then 29 else 28) else if m = 4 then 30 else if m = 6 then 30 else if m = 9 then 30 else if m = 11 then 30 else 31
/-- The days ahead of month k + 1. -/
def cum (y : Int) : Nat → Int
  | 0 => 0
  | k + 1 => cum y k + mdays y (k + 1)
def ydays (y : Int) : Int := if leap y = true then 366 else 365
def before (y : Int) : Int := 365 * (y - 1970) + (y - 1) / 4 - (y - 1) / 100 + (y - 1) / 400 - 477
def yearDay (y : Int) : Int := 365 * (y - 2001) + (y - 2001) / 4 - (y - 2001) / 100 + (y - 2001) / 400
def inRow (n : Int) : Int := (n - n / 1460 + n / 36524 - n / 146096) / 365
def inYear (n y : Int) : Int := n - (365 * y + y / 4 - y / 100)
def march (n : Int) : Int := (5 * n + 2) / 153
def parts3 (row y n m : Int) : Int × Int × Int := if m + 3 > 12 then (400 * row + y + 1, m + 3 - 12, n - (153 * m + 2) / 5 + 1) else (400 * row + y, m + 3, n - (153 * m + 2) / 5 + 1)
def parts2 (row y n : Int) : Int × Int × Int := parts3 row y n (march n)
def parts1 (row n y : Int) : Int × Int × Int := parts2 row y (inYear n y)
def parts0 (row n : Int) : Int × Int × Int := parts1 row n (inRow n)
def parts (t : Int) : Int × Int × Int := parts0 ((t + 730791) / 146097) ((t + 730791) % 146097)
theorem before_yearDay (y : Int) : before y = yearDay y + 11323 := by unfold before yearDay; omega
theorem before_succ (y : Int) : before (y + 1) = before y + ydays y := by
  unfold before ydays leap
  by_cases h4 : y % 4 = 0 <;> by_cases h1 : y % 100 = 0 <;> by_cases h0 : y % 400 = 0 <;> simp [h4, h1, h0] <;> omega
theorem mdays_lo (y m : Int) : 28 ≤ mdays y m ∧ mdays y m ≤ 31 := by
  unfold mdays
  split
  · split <;> omega
  · split
    · omega
    · split
      · omega
      · split
        · omega
        · split <;> omega
theorem cum12 (y : Int) : cum y 12 = ydays y := by
  unfold ydays
  cases h : leap y <;> simp [cum, mdays, h]
/-- One date, both ways. -/
def chk (y m d : Int) (k : Nat) : Bool :=
  let t := yearDay y + cum y k + d - 1
  if d ≤ mdays y m then parts t == (y, m, d) else (parts t).2.2 != d
/-- Ten years from 1970 + 10 * c on. -/
def chkTen (c : Nat) : Bool := (List.range 10).all fun y => (List.range 12).all fun k => (List.range 31).all fun d => chk (1970 + ((10 * c + y : Nat) : Int)) ((k : Int) + 1) ((d : Int) + 1) k
set_option maxRecDepth 100000
theorem chkTen_0 : chkTen 0 = true := by decide +kernel
theorem chkTen_1 : chkTen 1 = true := by decide +kernel
theorem chkTen_2 : chkTen 2 = true := by decide +kernel
theorem chkTen_3 : chkTen 3 = true := by decide +kernel
theorem chkTen_4 : chkTen 4 = true := by decide +kernel
theorem chkTen_5 : chkTen 5 = true := by decide +kernel
theorem chkTen_6 : chkTen 6 = true := by decide +kernel
theorem chkTen_7 : chkTen 7 = true := by decide +kernel
theorem chkTen_8 : chkTen 8 = true := by decide +kernel
theorem chkTen_9 : chkTen 9 = true := by decide +kernel
theorem chkTen_10 : chkTen 10 = true := by decide +kernel
theorem chkTen_11 : chkTen 11 = true := by decide +kernel
theorem chkTen_12 : chkTen 12 = true := by decide +kernel
theorem chkTen_13 : chkTen 13 = true := by decide +kernel
theorem chkTen_14 : chkTen 14 = true := by decide +kernel
theorem chkTen_15 : chkTen 15 = true := by decide +kernel
theorem chkTen_16 : chkTen 16 = true := by decide +kernel
theorem chkTen_17 : chkTen 17 = true := by decide +kernel
theorem chkTen_18 : chkTen 18 = true := by decide +kernel
theorem chkTen_19 : chkTen 19 = true := by decide +kernel
theorem chkTen_20 : chkTen 20 = true := by decide +kernel
theorem chkTen_21 : chkTen 21 = true := by decide +kernel
theorem chkTen_22 : chkTen 22 = true := by decide +kernel
theorem chkTen_all : ∀ c, c < 23 → chkTen c = true := by
  intro c hc
  have : c = 0 ∨ c = 1 ∨ c = 2 ∨ c = 3 ∨ c = 4 ∨ c = 5 ∨ c = 6 ∨ c = 7 ∨ c = 8 ∨ c = 9 ∨ c = 10 ∨ c = 11 ∨ c = 12 ∨ c = 13 ∨ c = 14 ∨ c = 15 ∨ c = 16 ∨ c = 17 ∨ c = 18 ∨ c = 19 ∨ c = 20 ∨ c = 21 ∨ c = 22 := by omega
  rcases this with rfl | rfl | rfl | rfl | rfl | rfl | rfl | rfl | rfl | rfl | rfl | rfl | rfl | rfl | rfl | rfl | rfl | rfl | rfl | rfl | rfl | rfl | rfl
  · exact chkTen_0
  · exact chkTen_1
  · exact chkTen_2
  · exact chkTen_3
  · exact chkTen_4
  · exact chkTen_5
  · exact chkTen_6
  · exact chkTen_7
  · exact chkTen_8
  · exact chkTen_9
  · exact chkTen_10
  · exact chkTen_11
  · exact chkTen_12
  · exact chkTen_13
  · exact chkTen_14
  · exact chkTen_15
  · exact chkTen_16
  · exact chkTen_17
  · exact chkTen_18
  · exact chkTen_19
  · exact chkTen_20
  · exact chkTen_21
  · exact chkTen_22
theorem chk_true (y m d : Int) (k : Nat) (hy : 1970 ≤ y) (hy' : y ≤ 2199) (hk : k < 12) (hm : m = k + 1) (hd : 1 ≤ d) (hd' : d ≤ 31) : chk y m d k = true := by
  have h := chkTen_all ((y - 1970).toNat / 10) (by omega)
  unfold chkTen at h
  rw [List.all_eq_true] at h
  have h1 := h ((y - 1970).toNat % 10) (List.mem_range.2 (by omega))
  rw [List.all_eq_true] at h1
  have h2 := h1 k (List.mem_range.2 hk)
  rw [List.all_eq_true] at h2
  have h3 := h2 (d - 1).toNat (List.mem_range.2 (by omega))
  rw [show (1970 + ((10 * ((y - 1970).toNat / 10) + (y - 1970).toNat % 10 : Nat) : Int)) = y from by omega, show (((d - 1).toNat : Int) + 1) = d from by omega] at h3
  rw [hm]
  exact h3
theorem parts_date (y m d : Int) (k : Nat) (hy : 1970 ≤ y) (hy' : y ≤ 2199) (hk : k < 12) (hm : m = k + 1) (hd : 1 ≤ d) (hd' : d ≤ mdays y m) : parts (yearDay y + cum y k + d - 1) = (y, m, d) := by
  have h := chk_true y m d k hy hy' hk hm hd (by have := mdays_lo y m; omega)
  unfold chk at h
  simp only [if_pos hd'] at h
  exact eq_of_beq h
theorem parts_none (y m d : Int) (k : Nat) (hy : 1970 ≤ y) (hy' : y ≤ 2199) (hk : k < 12) (hm : m = k + 1) (hd : 1 ≤ d) (hd' : d ≤ 31) (hn : mdays y m < d) : (parts (yearDay y + cum y k + d - 1)).2.2 ≠ d := by
  have h := chk_true y m d k hy hy' hk hm hd hd'
  unfold chk at h
  simp only [if_neg (show ¬ d ≤ mdays y m by omega)] at h
  simpa using h
/-- The first days of the months of fifty years. -/
def chkFirst (c : Nat) : Bool := (List.range 50).all fun y => (List.range 12).all fun k => parts (yearDay (1700 + ((50 * c + y : Nat) : Int)) + cum (1700 + ((50 * c + y : Nat) : Int)) k) == (1700 + ((50 * c + y : Nat) : Int), (k : Int) + 1, 1)
theorem chkFirst_0 : chkFirst 0 = true := by decide +kernel
theorem chkFirst_1 : chkFirst 1 = true := by decide +kernel
theorem chkFirst_2 : chkFirst 2 = true := by decide +kernel
theorem chkFirst_3 : chkFirst 3 = true := by decide +kernel
theorem chkFirst_4 : chkFirst 4 = true := by decide +kernel
theorem chkFirst_5 : chkFirst 5 = true := by decide +kernel
theorem chkFirst_6 : chkFirst 6 = true := by decide +kernel
theorem chkFirst_7 : chkFirst 7 = true := by decide +kernel
theorem chkFirst_8 : chkFirst 8 = true := by decide +kernel
theorem chkFirst_9 : chkFirst 9 = true := by decide +kernel
theorem chkFirst_10 : chkFirst 10 = true := by decide +kernel
theorem chkFirst_11 : chkFirst 11 = true := by decide +kernel
theorem chkFirst_12 : chkFirst 12 = true := by decide +kernel
theorem chkFirst_13 : chkFirst 13 = true := by decide +kernel
theorem chkFirst_14 : chkFirst 14 = true := by decide +kernel
theorem chkFirst_15 : chkFirst 15 = true := by decide +kernel
theorem chkFirst_all : ∀ c, c < 16 → chkFirst c = true := by
  intro c hc
  have : c = 0 ∨ c = 1 ∨ c = 2 ∨ c = 3 ∨ c = 4 ∨ c = 5 ∨ c = 6 ∨ c = 7 ∨ c = 8 ∨ c = 9 ∨ c = 10 ∨ c = 11 ∨ c = 12 ∨ c = 13 ∨ c = 14 ∨ c = 15 := by omega
  rcases this with rfl | rfl | rfl | rfl | rfl | rfl | rfl | rfl | rfl | rfl | rfl | rfl | rfl | rfl | rfl | rfl
  · exact chkFirst_0
  · exact chkFirst_1
  · exact chkFirst_2
  · exact chkFirst_3
  · exact chkFirst_4
  · exact chkFirst_5
  · exact chkFirst_6
  · exact chkFirst_7
  · exact chkFirst_8
  · exact chkFirst_9
  · exact chkFirst_10
  · exact chkFirst_11
  · exact chkFirst_12
  · exact chkFirst_13
  · exact chkFirst_14
  · exact chkFirst_15
theorem parts_first (y m : Int) (k : Nat) (hy : 1700 ≤ y) (hy' : y ≤ 2460) (hk : k < 12) (hm : m = k + 1) : parts (yearDay y + cum y k) = (y, m, 1) := by
  have h := chkFirst_all ((y - 1700).toNat / 50) (by omega)
  unfold chkFirst at h
  rw [List.all_eq_true] at h
  have h1 := h ((y - 1700).toNat % 50) (List.mem_range.2 (by omega))
  rw [List.all_eq_true] at h1
  have h2 := h1 k (List.mem_range.2 hk)
  rw [show (1700 + ((50 * ((y - 1700).toNat / 50) + (y - 1700).toNat % 50 : Nat) : Int)) = y from by omega] at h2
  rw [hm]
  exact eq_of_beq h2
/-- The table's sum. -/
def tab : List Int := [31, 28, 31, 30, 31, 30, 31, 31, 30, 31, 30, 31]
theorem tab_cum (y : Int) (k : Nat) (hk : k < 12) : (tab.take k).sum + (if (k : Int) + 1 > 2 then (if leap y = true then 1 else 0) else 0) = cum y k := by
  have : k = 0 ∨ k = 1 ∨ k = 2 ∨ k = 3 ∨ k = 4 ∨ k = 5 ∨ k = 6 ∨ k = 7 ∨ k = 8 ∨ k = 9 ∨ k = 10 ∨ k = 11 := by omega
  rcases this with rfl | rfl | rfl | rfl | rfl | rfl | rfl | rfl | rfl | rfl | rfl | rfl <;> cases h : leap y <;> simp [tab, cum, mdays, h]
/-! A day lies in its year. -/
def fore (y : Int) : Int := 365 * y + y / 4 - y / 100
theorem inRow_mono {a b : Int} (h : a ≤ b) : inRow a ≤ inRow b := by
  unfold inRow
  have : a - a / 1460 + a / 36524 - a / 146096 ≤ b - b / 1460 + b / 36524 - b / 146096 := by omega
  exact Int.ediv_le_ediv (by omega) this
def chkRow : Bool := (List.range 400).all fun y => inRow (fore y) == (y : Int) && (y == 0 || inRow (fore y - 1) == (y : Int) - 1)
theorem chkRow_true : chkRow = true := by decide +kernel
theorem inRow_fore (y : Int) (h0 : 0 ≤ y) (h1 : y ≤ 399) : inRow (fore y) = y ∧ (y = 0 ∨ inRow (fore y - 1) = y - 1) := by
  have h := chkRow_true
  unfold chkRow at h
  rw [List.all_eq_true] at h
  have h2 := h y.toNat (List.mem_range.2 (by omega))
  rw [show ((y.toNat : Nat) : Int) = y from by omega] at h2
  simp only [Bool.and_eq_true, Bool.or_eq_true, beq_iff_eq] at h2
  exact ⟨h2.1, h2.2.imp (fun h => by omega) id⟩
theorem inYear_bd (n : Int) (h0 : 0 ≤ n) (h1 : n ≤ 146096) : 0 ≤ inYear n (inRow n) ∧ inYear n (inRow n) ≤ 365 := by
  obtain ⟨y, hy⟩ : ∃ y, inRow n = y := ⟨_, rfl⟩
  have b : 0 ≤ y ∧ y ≤ 399 := by
    have e : (n - n / 1460 + n / 36524 - n / 146096) / 365 = y := hy
    have : 0 ≤ n - n / 1460 + n / 36524 - n / 146096 ∧ n - n / 1460 + n / 36524 - n / 146096 ≤ 145999 := by omega
    omega
  rw [hy]
  have lo : fore y ≤ n := by
    by_cases c : fore y ≤ n
    · exact c
    · rcases (inRow_fore y b.1 b.2).2 with z | z
      · subst z; unfold fore at c; omega
      · have := inRow_mono (a := n) (b := fore y - 1) (by omega)
        omega
  have hi : n ≤ fore y + 365 := by
    by_cases c : y = 399
    · subst c; unfold fore; omega
    · by_cases d : n ≤ fore y + 365
      · exact d
      · have e : fore (y + 1) ≤ fore y + 366 := by unfold fore; omega
        have := inRow_mono (a := fore (y + 1)) (b := n) (by omega)
        rw [(inRow_fore (y + 1) (by omega) (by omega)).1] at this
        omega
  unfold fore at lo hi
  unfold inYear
  omega
/-! Go's quotients -/
theorem tdiv_pos {a b : Int} (h : 0 ≤ a) : Int.tdiv a b = a / b := Int.tdiv_eq_ediv_of_nonneg h
theorem tmod_pos {a b : Int} (h : 0 ≤ a) : Int.tmod a b = a % b := Int.tmod_eq_emod_of_nonneg h
theorem tdiv_neg' {a b : Int} (h : a ≤ 0) : Int.tdiv a b = -((-a) / b) := by
  rw [← tdiv_pos (show 0 ≤ -a by omega), Int.neg_tdiv, Int.neg_neg]
theorem tmod_neg' {a b : Int} (h : a ≤ 0) : Int.tmod a b = -((-a) % b) := by
  rw [← tmod_pos (show 0 ≤ -a by omega), Int.neg_tmod, Int.neg_neg]
end Cal
theorem seq_empty (s : ByteArray) : seq s c_empty = s.data.toList.isEmpty := by
  unfold seq
  rw [ByteArray.toList_eq, ByteArray.toList_eq]
  cases h : s.data.toList <;> rfl
theorem mem_dw {α : Type} {p : α → Bool} : ∀ {l : List α} {x : α}, x ∈ l → p x = false → x ∈ l.dropWhile p
  | a :: l, x, h, hp => by
    rw [List.dropWhile_cons]
    split
    · rename_i ha
      rcases List.mem_cons.1 h with rfl | h
      · rw [hp] at ha; cases ha
      · exact mem_dw h hp
    · exact h
theorem dw_nil {α : Type} {p : α → Bool} : ∀ {l : List α}, (∀ x ∈ l, p x = true) → l.dropWhile p = []
  | [], _ => rfl
  | a :: l, h => by rw [List.dropWhile_cons, if_pos (h a (List.mem_cons_self ..))]; exact dw_nil fun x hx => h x (List.mem_cons_of_mem _ hx)
theorem trim_nil (l cs : List UInt8) : (Lib.trimS l cs).isEmpty = l.all (cs.contains ·) := by
  unfold Lib.trimS Lib.trimLeftS Lib.trimRightS
  cases h : l.all (cs.contains ·) with
  | true =>
    have h := List.all_eq_true.1 h
    rw [dw_nil (l := l.reverse) fun x hx => h x (List.mem_reverse.1 hx)]
    rfl
  | false =>
    obtain ⟨x, hx, hp⟩ : ∃ x ∈ l, cs.contains x = false := by
      rcases List.all_eq_false.1 h with ⟨x, hx, hp⟩
      exact ⟨x, hx, by simpa using hp⟩
    have h1 : x ∈ (l.reverse.dropWhile (cs.contains ·)).reverse := List.mem_reverse.2 (mem_dw (List.mem_reverse.2 hx) hp)
    have h2 := mem_dw h1 hp
    cases e : List.dropWhile (cs.contains ·) (l.reverse.dropWhile (cs.contains ·)).reverse with
    | nil => rw [e] at h2; cases h2
    | cons _ _ => rfl
theorem ex_data (s : ByteArray) (a b : Nat) (h : a ≤ b) : (s.extract a b).data.toList = (s.data.toList.drop a).take (b - a) := by
  rw [ByteArray.data_extract, Array.toList_extract]
def digB (c : UInt8) : Bool := bif ile 48 (c.toNat : Int) then ile (c.toNat : Int) 57 else false
theorem set_dig (c : UInt8) : c_0123456789.data.toList.contains c = digB c := by
  have h : ∀ n : Fin 256, c_0123456789.data.toList.contains (UInt8.ofNat n.val) = digB (UInt8.ofNat n.val) := by decide +kernel
  have := h ⟨c.toNat, c.toNat_lt⟩
  simpa using this
theorem digits_ok (s : ByteArray) (hs : s.size ≤ 2000000) : mastref2_digitsAlone.f s = some (!s.data.toList.isEmpty && s.data.toList.all digB) := by
  have hc : strings_Trim.f s c_0123456789 = some ⟨(Lib.trimS s.data.toList c_0123456789.data.toList).toArray⟩ := by
    unfold strings_Trim.f
    rw [if_pos ⟨by omega, by decide, by decide +kernel⟩]
  unfold mastref2_digitsAlone.f
  rw [seq_empty, hc]
  cases h : s.data.toList.isEmpty with
  | true => rfl
  | false =>
    simp only [Bool.not_false, cond_true, Option.bind_some, Bool.true_and]
    rw [seq_empty]
    show some (Lib.trimS s.data.toList _).isEmpty = _
    rw [trim_nil, show (fun x => c_0123456789.data.toList.contains x) = digB from funext set_dig]
theorem dig_not {c : UInt8} (h : digB c = true) : c ≠ 45 ∧ c ≠ 43 ∧ c ≠ 42 := by
  refine ⟨?_, ?_, ?_⟩ <;> rintro rfl <;> exact absurd h (by decide)

/-- The number of digits. -/
def hors (n : Int) (l : List UInt8) : Int := l.foldl (fun n c => 10 * n + ((c.toNat : Int) - 48)) n
theorem dig_in {c : UInt8} (h : digB c = true) : 48 ≤ c.toNat ∧ c.toNat ≤ 57 := by
  unfold digB at h
  by_cases q : (48 : Int) ≤ c.toNat
  · rw [ile_t q, cond_true] at h
    have := of_decide_eq_true h
    omega
  · rw [ile_f (by omega)] at h; exact nomatch h
theorem hors_bd : ∀ (l : List UInt8) (n : Int), l.all digB = true → 0 ≤ n → 0 ≤ hors n l ∧ hors n l < (n + 1) * 10 ^ l.length
  | [], n, _, h0 => by unfold hors; simp; omega
  | c :: r, n, h, h0 => by
    rw [List.all_cons, Bool.and_eq_true] at h
    have hc := dig_in h.1
    have ih := hors_bd r (10 * n + ((c.toNat : Int) - 48)) h.2 (by omega)
    have e : hors n (c :: r) = hors (10 * n + ((c.toNat : Int) - 48)) r := rfl
    rw [e]
    refine ⟨ih.1, Int.lt_of_lt_of_le ih.2 ?_⟩
    rw [List.length_cons, Int.pow_succ, Int.mul_comm (10 ^ r.length) 10, ← Int.mul_assoc]
    exact Int.mul_le_mul_of_nonneg_right (by omega) (Int.le_of_lt (Int.pow_pos (by decide)))
theorem dec_hors : ∀ (l : List UInt8) (n : Nat), l.all digB = true → ∃ m : Nat, Lib.decFrom n l = some m ∧ (m : Int) = hors (n : Int) l
  | [], n, _ => ⟨n, rfl, rfl⟩
  | b :: r, n, h => by
    rw [List.all_cons, Bool.and_eq_true] at h
    have hb := dig_in h.1
    obtain ⟨m, h1, h2⟩ := dec_hors r (n * 10 + (b.toNat - 48)) h.2
    refine ⟨m, ?_, ?_⟩
    · unfold Lib.decFrom Lib.digitVal
      rw [if_pos hb]
      exact h1
    · rw [h2]
      show _ = hors (10 * (n : Int) + ((b.toNat : Int) - 48)) r
      congr 1; omega
theorem dig_sub {c : UInt8} (h : digB c = true) : wcv .i64 (wsub .u8 (c.toNat : Int) 48) = (c.toNat : Int) - 48 := by
  have hc := dig_in h
  have h1 : wsub .u8 (c.toNat : Int) 48 = (c.toNat : Int) - 48 := wrap_u rfl (by omega) (by show (c.toNat : Int) - 48 < 2 ^ 8; omega)
  rw [h1]
  unfold wcv
  exact wrap64 (by omega) (by omega)

/-! Days: the program. -/
theorem leap_f (y : Int) (h0 : 0 ≤ y) : conf_leap.f y = some (Cal.leap y) := by
  unfold conf_leap.f Cal.leap irem
  rw [Cal.tmod_pos h0, Cal.tmod_pos h0, Cal.tmod_pos h0]
  unfold ieq
  cases (y % 4 == 0) <;> cases (y % 100 == 0) <;> rfl
theorem monthDays_f (y m : Int) (h0 : 0 ≤ y) : conf_monthDays.f y m = some (Cal.mdays y m) := by
  unfold conf_monthDays.f Cal.mdays
  rw [leap_f y h0]
  simp only [Option.bind_some]
  by_cases c2 : m = 2
  · rw [ieq_t c2, if_pos c2]; cases Cal.leap y <;> rfl
  · rw [ieq_f c2, if_neg c2, cond_false]
    by_cases c4 : m = 4
    · rw [ieq_t c4, if_pos c4]; rfl
    · rw [ieq_f c4, if_neg c4, cond_false]
      by_cases c6 : m = 6
      · rw [ieq_t c6, if_pos c6]; rfl
      · rw [ieq_f c6, if_neg c6, cond_false]
        by_cases c9 : m = 9
        · rw [ieq_t c9, if_pos c9]; rfl
        · rw [ieq_f c9, if_neg c9, cond_false]
          by_cases c11 : m = 11
          · rw [ieq_t c11, if_pos c11]; rfl
          · rw [ieq_f c11, if_neg c11]; rfl
theorem before_f (y : Int) (h0 : 1 ≤ y) (h1 : y ≤ 100000) : conf_before.f y = some (Cal.before y) := by
  unfold conf_before.f Cal.before wadd wsub wmul wquo
  have e1 : IntKind.i64.wrap (y - 1) = y - 1 := wrap64 (by omega) (by omega)
  rw [e1, Cal.tdiv_pos (by omega), Cal.tdiv_pos (by omega), Cal.tdiv_pos (by omega)]
  simp (disch := omega) only [wrap64]
theorem cum_bd (y : Int) : ∀ k, 0 ≤ Cal.cum y k ∧ Cal.cum y k ≤ 31 * k
  | 0 => by simp [Cal.cum]
  | k + 1 => by
    have := cum_bd y k
    have := Cal.mdays_lo y (k + 1)
    simp only [Cal.cum]
    omega
theorem dayOf_loop (y b : Int) (h0 : 0 ≤ y) (hb : -10000000 ≤ b) (hb' : b ≤ 10000000) : ∀ (d j : Nat), j + d ≤ 100 → Ev (fun k => conf_dayOf.l0 k y (((j + d : Nat) : Int) + 1) (b + Cal.cum y j) ((j : Int) + 1)) (b + Cal.cum y (j + d), true) := by
  intro d
  induction d with
  | zero =>
    intro j hj
    have h : ilt ((j : Int) + 1) (((j + 0 : Nat) : Int) + 1) = false := ilt_f (by omega)
    exact Ev.step (g := fun _ => some (b + Cal.cum y j, true)) (fun k => by simp only [conf_dayOf.l0, h, cond_false]) (Ev.now fun _ => rfl)
  | succ d ih =>
    intro j hj
    have hc := cum_bd y j
    have hm := Cal.mdays_lo y ((j : Int) + 1)
    have e : b + Cal.cum y j + Cal.mdays y ((j : Int) + 1) = b + Cal.cum y (j + 1) := by simp only [Cal.cum]; omega
    have i := ih (j + 1) (by omega)
    rw [show j + 1 + d = j + (d + 1) from by omega] at i
    refine Ev.step (fun k => ?_) i
    have h : ilt ((j : Int) + 1) (((j + (d + 1) : Nat) : Int) + 1) = true := ilt_t (by omega)
    simp only [conf_dayOf.l0, h, cond_true, monthDays_f y _ h0, Option.bind_some]
    rw [wadd64 (by omega) (by omega), wadd64 (by omega) (by omega), e]
    rfl
theorem dayOf_in (y m d : Int) (k : Nat) (hy : 1970 ≤ y) (hy' : y ≤ 2199) (hk : k < 12) (hm : m = k + 1) (hd : 1 ≤ d) (hd' : d ≤ Cal.mdays y m) : Ev (fun k => conf_DayOf.f k y m d) (Cal.before y + d - 1 + Cal.cum y k, 0) := by
  have hb : -1000000 ≤ Cal.before y ∧ Cal.before y ≤ 1000000 := by unfold Cal.before; omega
  have hmd := Cal.mdays_lo y m
  have l := dayOf_loop y (Cal.before y + d - 1) (by omega) (by omega) (by omega) k 0 (by omega)
  simp only [Nat.zero_add, Cal.cum] at l
  rw [← hm] at l
  have e : Ev (fun k => conf_dayOf.f k y m d) (Cal.before y + d - 1 + Cal.cum y k, true) := by
    refine Ev.congr (fun n => ?_) l
    unfold conf_dayOf.f
    rw [ilt_f (show 1970 ≤ y by omega), ilt_f (show y ≤ 2199 by omega), ilt_f (show 1 ≤ m by omega), ilt_f (show m ≤ 12 by omega), ilt_f (show 1 ≤ d by omega), monthDays_f y m (by omega)]
    simp only [cond_false, Option.bind_some, ilt_f hd', before_f y (by omega) (by omega)]
    rw [wadd64 (by omega) (by omega), wsub64 (by omega) (by omega)]
    simp
  refine Ev.congr (fun k => by simp only [conf_DayOf.f]; rfl) (Ev.bind e (Ev.now fun _ => rfl))
theorem dayOf_bad (y m d : Int) : ¬ (1970 ≤ y ∧ y ≤ 2199 ∧ 1 ≤ m ∧ m ≤ 12 ∧ 1 ≤ d ∧ d ≤ Cal.mdays y m) → Ev (fun k => conf_DayOf.f k y m d) (0, 2) := by
  intro hn
  have e : Ev (fun k => conf_dayOf.f k y m d) (0, false) := by
    refine Ev.now fun k => ?_
    unfold conf_dayOf.f
    by_cases c1 : y < 1970
    · rw [ilt_t c1]; rfl
    by_cases c2 : 2199 < y
    · rw [ilt_f (show 1970 ≤ y by omega), ilt_t c2]; rfl
    by_cases c3 : m < 1
    · rw [ilt_f (show 1970 ≤ y by omega), ilt_f (show y ≤ 2199 by omega), ilt_t c3]; rfl
    by_cases c4 : 12 < m
    · rw [ilt_f (show 1970 ≤ y by omega), ilt_f (show y ≤ 2199 by omega), ilt_f (show 1 ≤ m by omega), ilt_t c4]; rfl
    by_cases c5 : d < 1
    · rw [ilt_f (show 1970 ≤ y by omega), ilt_f (show y ≤ 2199 by omega), ilt_f (show 1 ≤ m by omega), ilt_f (show m ≤ 12 by omega), ilt_t c5]; rfl
    have c6 : Cal.mdays y m < d := by
      by_cases c6 : Cal.mdays y m < d
      · exact c6
      · exact absurd ⟨by omega, by omega, by omega, by omega, by omega, by omega⟩ hn
    rw [ilt_f (show 1970 ≤ y by omega), ilt_f (show y ≤ 2199 by omega), ilt_f (show 1 ≤ m by omega), ilt_f (show m ≤ 12 by omega), ilt_f (show 1 ≤ d by omega), monthDays_f y m (by omega)]
    simp only [cond_false, Option.bind_some, ilt_t c6, cond_true]
  refine Ev.congr (fun k => by simp only [conf_DayOf.f]; rfl) (Ev.bind e (Ev.now fun _ => rfl))
/-! The reference. -/
theorem floor_f (a b : Int) (hb : b = 4 ∨ b = 100 ∨ b = 400 ∨ b = 12 ∨ b = 146097) (h0 : -1000000000 ≤ a) (h1 : a ≤ 1000000000) : mastref2_floor.f a b = some (a / b) := by
  unfold mastref2_floor.f
  rw [ieq_f (show b ≠ 0 by omega)]
  simp only [cond_false, irem, wquo, wsub]
  by_cases hp : 0 ≤ a
  · rw [Cal.tmod_pos hp, Cal.tdiv_pos hp]
    rcases hb with rfl | rfl | rfl | rfl | rfl <;> (rw [ilt_f (by omega)]; simp only [cond_false]; congr 1; exact wrap64 (by omega) (by omega))
  · rw [Cal.tmod_neg' (by omega), Cal.tdiv_neg' (by omega)]
    by_cases q : -((-a) % b) < 0
    · rw [ilt_t q]
      simp only [cond_true]
      rcases hb with rfl | rfl | rfl | rfl | rfl <;> (congr 1; simp (disch := omega) only [wrap64]; omega)
    · rw [ilt_f (show 0 ≤ -((-a) % b) by omega)]
      simp only [cond_false]
      rcases hb with rfl | rfl | rfl | rfl | rfl <;> (congr 1; simp (disch := omega) only [wrap64]; omega)
theorem parts_f (t : Int) (h0 : -500000 ≤ t) (h1 : t ≤ 500000) : Ev (fun k => mastref2_date_parts.f k t) (Cal.parts t) := by
  have e0 : IntKind.i64.wrap (t + 730791) = t + 730791 := wrap64 (by omega) (by omega)
  obtain ⟨r, hr⟩ : ∃ r, (t + 730791) / 146097 = r := ⟨_, rfl⟩
  obtain ⟨n, hn⟩ : ∃ n, (t + 730791) % 146097 = n := ⟨_, rfl⟩
  have bn : 0 ≤ n ∧ n ≤ 146096 := by omega
  have br : -100 ≤ r ∧ r ≤ 100 := by omega
  have e1 : IntKind.i64.wrap (t + 730791 - IntKind.i64.wrap (146097 * r)) = n := by rw [wrap64 (x := 146097 * r) (by omega) (by omega), wrap64 (by omega) (by omega)]; omega
  have fl0 := floor_f (t + 730791) 146097 (by omega) (by omega) (by omega)
  rw [hr] at fl0
  obtain ⟨y, hy⟩ : ∃ y, Cal.inRow n = y := ⟨_, rfl⟩
  have e2 : IntKind.i64.wrap (Int.tdiv (IntKind.i64.wrap (IntKind.i64.wrap (IntKind.i64.wrap (n - IntKind.i64.wrap (Int.tdiv n 1460)) + IntKind.i64.wrap (Int.tdiv n 36524)) - IntKind.i64.wrap (Int.tdiv n 146096))) 365) = y := by
    rw [← hy]
    unfold Cal.inRow
    rw [Cal.tdiv_pos (a := n) (by omega), Cal.tdiv_pos (a := n) (by omega), Cal.tdiv_pos (a := n) (by omega)]
    simp (disch := omega) only [wrap64, Cal.tdiv_pos]
  have by_ : 0 ≤ y ∧ y ≤ 400 := by unfold Cal.inRow at hy; omega
  obtain ⟨q, hq⟩ : ∃ q, Cal.inYear n y = q := ⟨_, rfl⟩
  have e3 : IntKind.i64.wrap (n - IntKind.i64.wrap (IntKind.i64.wrap (IntKind.i64.wrap (365 * y) + IntKind.i64.wrap (Int.tdiv y 4)) - IntKind.i64.wrap (Int.tdiv y 100))) = q := by
    rw [← hq]
    unfold Cal.inYear
    rw [Cal.tdiv_pos (a := y) (by omega), Cal.tdiv_pos (a := y) (by omega)]
    simp (disch := omega) only [wrap64]
  have bq : 0 ≤ q ∧ q ≤ 365 := by have := Cal.inYear_bd n bn.1 bn.2; rw [hy, hq] at this; exact this
  obtain ⟨m, hm⟩ : ∃ m, Cal.march q = m := ⟨_, rfl⟩
  have e4 : IntKind.i64.wrap (Int.tdiv (IntKind.i64.wrap (IntKind.i64.wrap (5 * q) + 2)) 153) = m := by
    rw [← hm]
    unfold Cal.march
    simp (disch := omega) only [wrap64, Cal.tdiv_pos]
  have bm : 0 ≤ m ∧ m ≤ 11 := by unfold Cal.march at hm; omega
  have e5 : IntKind.i64.wrap (m + 3) = m + 3 := wrap64 (by omega) (by omega)
  have e6 : IntKind.i64.wrap (IntKind.i64.wrap (q - IntKind.i64.wrap (Int.tdiv (IntKind.i64.wrap (IntKind.i64.wrap (153 * m) + 2)) 5)) + 1) = q - (153 * m + 2) / 5 + 1 := by simp (disch := omega) only [wrap64, Cal.tdiv_pos]
  have e7 : IntKind.i64.wrap (IntKind.i64.wrap (400 * r) + y) = 400 * r + y := by simp (disch := omega) only [wrap64]
  have e8 : IntKind.i64.wrap (400 * r + y + 1) = 400 * r + y + 1 := wrap64 (by omega) (by omega)
  have e9 : IntKind.i64.wrap (m + 3 - 12) = m + 3 - 12 := wrap64 (by omega) (by omega)
  have st : ∀ k, mastref2_date_parts.f k t = bif ilt 12 (m + 3) then mastref2_date_parts.l0 k (400 * r + y + 1) (m + 3 - 12) (q - (153 * m + 2) / 5 + 1) else mastref2_date_parts.l0 k (400 * r + y) (m + 3) (q - (153 * m + 2) / 5 + 1) := fun k => by
    unfold mastref2_date_parts.f wadd wsub wmul wquo
    rw [e0, fl0]
    simp only [Option.bind_some]
    rw [e1, e2, e3, e4, e5, e6, e7, e8, e9]
  have pe : Cal.parts t = if m + 3 > 12 then (400 * r + y + 1, m + 3 - 12, q - (153 * m + 2) / 5 + 1) else (400 * r + y, m + 3, q - (153 * m + 2) / 5 + 1) := by
    unfold Cal.parts
    rw [hr, hn]
    unfold Cal.parts0
    rw [hy]
    unfold Cal.parts1
    rw [hq]
    unfold Cal.parts2
    rw [hm]
    rfl
  rw [pe]
  by_cases c : 12 < m + 3
  · rw [if_pos c]
    exact Ev.congr (g := fun k => mastref2_date_parts.l0 k (400 * r + y + 1) (m + 3 - 12) (q - (153 * m + 2) / 5 + 1)) (fun k => by rw [st, ilt_t c]; rfl) (Ev.step (g := fun _ => some (400 * r + y + 1, m + 3 - 12, q - (153 * m + 2) / 5 + 1)) (fun k => by simp only [mastref2_date_parts.l0]) (Ev.now fun _ => rfl))
  · rw [if_neg c]
    exact Ev.congr (g := fun k => mastref2_date_parts.l0 k (400 * r + y) (m + 3) (q - (153 * m + 2) / 5 + 1)) (fun k => by rw [st, ilt_f (show m + 3 ≤ 12 by omega)]; rfl) (Ev.step (g := fun _ => some (400 * r + y, m + 3, q - (153 * m + 2) / 5 + 1)) (fun k => by simp only [mastref2_date_parts.l0]) (Ev.now fun _ => rfl))
theorem leap2_f (y : Int) (h0 : 0 ≤ y) : mastref2_leap.f y = some (Cal.leap y) := by
  unfold mastref2_leap.f Cal.leap irem
  rw [Cal.tmod_pos h0, Cal.tmod_pos h0, Cal.tmod_pos h0]
  unfold ieq
  cases (y % 4 == 0) <;> cases (y % 100 == 0) <;> rfl
theorem yearDay_f (y : Int) (h0 : 0 ≤ y) (h1 : y ≤ 100000) : mastref2_yearDay.f y = some (Cal.yearDay y) := by
  unfold mastref2_yearDay.f Cal.yearDay wadd wsub wmul
  have e : IntKind.i64.wrap (y - 2001) = y - 2001 := wrap64 (by omega) (by omega)
  rw [e, floor_f _ _ (by omega) (by omega) (by omega), floor_f _ _ (by omega) (by omega) (by omega), floor_f _ _ (by omega) (by omega) (by omega)]
  simp only [Option.bind_some]
  simp (disch := omega) only [wrap64]
def tv (i : Nat) : Int := Cal.tab.getD i 0
theorem take_sum (k i : Nat) (hk : k ≤ 12) (hi : i < k) : ((Cal.tab.take k).take (i + 1)).sum = ((Cal.tab.take k).take i).sum + tv i ∧ 0 ≤ ((Cal.tab.take k).take i).sum ∧ ((Cal.tab.take k).take i).sum ≤ 365 ∧ 0 ≤ tv i ∧ tv i ≤ 31 ∧ (Cal.tab.take k)[i]? = some (tv i) := by
  have : ∀ k, k ≤ 12 → ∀ i, i < k → ((Cal.tab.take k).take (i + 1)).sum = ((Cal.tab.take k).take i).sum + tv i ∧ 0 ≤ ((Cal.tab.take k).take i).sum ∧ ((Cal.tab.take k).take i).sum ≤ 365 ∧ 0 ≤ tv i ∧ tv i ≤ 31 ∧ (Cal.tab.take k)[i]? = some (tv i) := by decide +kernel
  exact this k hk i hi
theorem tk_bd (i : Nat) (hi : i ≤ 12) : 0 ≤ (Cal.tab.take i).sum ∧ (Cal.tab.take i).sum ≤ 365 := by
  have : ∀ i, i ≤ 12 → 0 ≤ (Cal.tab.take i).sum ∧ (Cal.tab.take i).sum ≤ 365 := by decide +kernel
  exact this i hi
theorem date_end (y n s : Int) (b : Bool) (hy : 0 ≤ y) (hy' : y ≤ 100000) (hn : -1000 ≤ n) (hn' : n ≤ 1000) (hs : 0 ≤ s) (hs' : s ≤ 1000) : Ev (fun f => mastref2_dateOf.l1 f y n s b) (Cal.yearDay y + (s + (if b = true then 1 else 0)) + n - 1) := by
  have hyd : -100000000 ≤ Cal.yearDay y ∧ Cal.yearDay y ≤ 100000000 := by unfold Cal.yearDay; omega
  have l2 : ∀ s, 0 ≤ s → s ≤ 2000 → Ev (fun f => mastref2_dateOf.l2 f y n s) (Cal.yearDay y + s + n - 1) := fun s h1 h2 => by
    refine Ev.step (g := fun _ => some (Cal.yearDay y + s + n - 1)) (fun k => ?_) (Ev.now fun _ => rfl)
    have a1 : wadd .i64 (Cal.yearDay y) s = Cal.yearDay y + s := wadd64 (by omega) (by omega)
    have a2 : wadd .i64 (Cal.yearDay y + s) n = Cal.yearDay y + s + n := wadd64 (by omega) (by omega)
    have a3 : wsub .i64 (Cal.yearDay y + s + n) 1 = Cal.yearDay y + s + n - 1 := wsub64 (by omega) (by omega)
    simp only [mastref2_dateOf.l2, yearDay_f y hy hy', Option.bind_some, a1, a2, a3]
  cases b with
  | true =>
    have := l2 (s + 1) (by omega) (by omega)
    refine Ev.step (fun k => ?_) this
    simp only [mastref2_dateOf.l1, cond_true]
    rw [wadd64 (by omega) (by omega)]
  | false =>
    have := l2 s (by omega) (by omega)
    simp only [Bool.false_eq_true, if_false, Int.add_zero]
    refine Ev.step (fun k => ?_) this
    simp only [mastref2_dateOf.l1, cond_false]
theorem dateOf_loop (y m n : Int) (k : Nat) (hk : k < 12) (hm : m = k + 1) (r : Int) (hy : 0 ≤ y) (hy' : y ≤ 100000) (hn : -1000 ≤ n) (hn' : n ≤ 1000) (hr : r = Cal.yearDay y + Cal.cum y k + n - 1) : ∀ (d i : Nat), i + d = k → Ev (fun f => mastref2_dateOf.l0 f y m n ((Cal.tab.take k).take i).sum (Cal.tab.take k) (llen (Cal.tab.take k)) (i : Int)) r := by
  have hl : (Cal.tab.take k).length = k := by rw [List.length_take]; show min k 12 = k; omega
  intro d
  induction d with
  | zero =>
    intro i hi
    obtain rfl : i = k := by omega
    have ht := Cal.tab_cum y i hk
    have hc := cum_bd y i
    have hts : (Cal.tab.take i).take i = Cal.tab.take i := List.take_of_length_le (by omega)
    rw [hts]
    obtain ⟨s, hs⟩ : ∃ s, (Cal.tab.take i).sum = s := ⟨_, rfl⟩
    have hsb := tk_bd i (by omega)
    rw [hs] at hsb
    rw [hs] at ht ⊢
    have hle : ilt (i : Int) (llen (Cal.tab.take i)) = false := by rw [llen_eq, hl]; exact ilt_f (Int.le_refl _)
    by_cases h2 : 2 < m
    · rw [if_pos (by omega)] at ht
      have := date_end y n s (Cal.leap y) hy hy' hn hn' hsb.1 (by omega)
      rw [ht, ← hr] at this
      refine Ev.step (fun f => ?_) this
      simp only [mastref2_dateOf.l0, hle, cond_false, ilt_t h2, cond_true, leap2_f y hy, Option.bind_some]
    · rw [if_neg (by omega)] at ht
      have := date_end y n s false hy hy' hn hn' hsb.1 (by omega)
      simp only [Bool.false_eq_true, if_false] at this
      rw [ht, ← hr] at this
      refine Ev.step (fun f => ?_) this
      simp only [mastref2_dateOf.l0, hle, cond_false, ilt_f (show m ≤ 2 by omega)]
  | succ d ih =>
    intro i hi
    obtain ⟨t1, t2, t3, t4, t5, t6⟩ := take_sum k i (by omega) (by omega)
    have hle : ilt (i : Int) (llen (Cal.tab.take k)) = true := by rw [llen_eq, hl]; exact ilt_t (by omega)
    refine Ev.step (fun f => ?_) (ih (i + 1) (by omega))
    simp only [mastref2_dateOf.l0, hle, cond_true, lat_nat, t6, Option.bind_some, t1, u0 (show i ≤ 4611686018427387904 by omega)]
    rw [wadd64 (by omega) (by omega)]
theorem dateOf_f (y m n : Int) (hy : 1000 ≤ y) (hy' : y ≤ 10000) (hm : -5000 ≤ m) (hm' : m ≤ 5000) (hn : -1000 ≤ n) (hn' : n ≤ 1000) :
    Ev (fun f => mastref2_dateOf.f f y m n) (Cal.yearDay (y + (m - 1) / 12) + Cal.cum (y + (m - 1) / 12) ((m - 1) % 12).toNat + n - 1) := by
  have l := dateOf_loop (y + (m - 1) / 12) ((m - 1) % 12 + 1) n ((m - 1) % 12).toNat (by omega) (by omega) _ (by omega) (by omega) hn hn' rfl ((m - 1) % 12).toNat 0 (by omega)
  refine Ev.congr (fun f => ?_) l
  unfold mastref2_dateOf.f
  rw [wsub64 (a := m) (b := 1) (by omega) (by omega), floor_f _ _ (by omega) (by omega) (by omega)]
  simp only [Option.bind_some]
  have e2 : wmul .i64 12 ((m - 1) / 12) = 12 * ((m - 1) / 12) := wmul64 (by omega) (by omega)
  have e3 : wsub .i64 m (12 * ((m - 1) / 12)) = (m - 1) % 12 + 1 := by rw [wsub64 (by omega) (by omega)]; omega
  have e4 : wsub .i64 ((m - 1) % 12 + 1) 1 = (m - 1) % 12 := by rw [wsub64 (by omega) (by omega)]; omega
  have e5 : wadd .i64 y ((m - 1) / 12) = y + (m - 1) / 12 := wadd64 (by omega) (by omega)
  rw [e2, e3, e4, e5]
  have e6 : lsub [31, 28, 31, 30, 31, 30, 31, 31, 30, 31, 30, 31] 0 ((m - 1) % 12) = some (Cal.tab.take ((m - 1) % 12).toNat) := by
    unfold lsub
    rw [if_pos ⟨by omega, by omega, by show (m - 1) % 12 ≤ 12; omega⟩]
    rfl
  rw [e6]
  rfl
theorem dayOf2_in (y m d : Int) (k : Nat) (hy : 1970 ≤ y) (hy' : y ≤ 2199) (hk : k < 12) (hm : m = k + 1) (hd : 1 ≤ d) (hd' : d ≤ Cal.mdays y m) : Ev (fun f => mastref2_DayOf.f f y m d) (Cal.before y + d - 1 + Cal.cum y k, 0) := by
  have hmd := Cal.mdays_lo y m
  have hc := cum_bd y k
  have l := dateOf_f y m d (by omega) (by omega) (by omega) (by omega) (by omega) (by omega)
  rw [show y + (m - 1) / 12 = y from by omega, show ((m - 1) % 12).toNat = k from by omega] at l
  have hyd : -100000 ≤ Cal.yearDay y ∧ Cal.yearDay y ≤ 100000 := by unfold Cal.yearDay; omega
  have p := Cal.parts_date y m d k hy hy' hk hm hd hd'
  have pf := parts_f (Cal.yearDay y + Cal.cum y k + d - 1) (by omega) (by omega)
  rw [p] at pf
  have nf : Ev (fun f => mastref2_date_number.f f (Cal.yearDay y + Cal.cum y k + d - 1)) d := Ev.congr (fun f => by simp only [mastref2_date_number.f]; rfl) (Ev.bind pf (Ev.now fun _ => rfl))
  refine Ev.congr (g := fun f => (mastref2_dateOf.f f y m d).bind fun y1 => (mastref2_date_number.f f y1).bind fun y2 => bif !ieq y2 d then some (0, 2) else some (wadd .i64 y1 11323, 0)) (fun f => ?_) (Ev.bind l (Ev.bind nf (Ev.now (x := (Cal.before y + d - 1 + Cal.cum y k, 0)) fun _ => ?_)))
  · unfold mastref2_DayOf.f
    rw [ilt_f (show 1970 ≤ y by omega), ilt_f (show y ≤ 2199 by omega), ilt_f (show 1 ≤ m by omega), ilt_f (show m ≤ 12 by omega), ilt_f (show 1 ≤ d by omega), ilt_f (show d ≤ 31 by omega)]
    rfl
  · simp only [ieq_self, Bool.not_true, cond_false]
    rw [wadd64 (by omega) (by omega), Cal.before_yearDay]
    congr 2
    omega
theorem dayOf2_bad (y m d : Int) : ¬ (1970 ≤ y ∧ y ≤ 2199 ∧ 1 ≤ m ∧ m ≤ 12 ∧ 1 ≤ d ∧ d ≤ Cal.mdays y m) → Ev (fun f => mastref2_DayOf.f f y m d) (0, 2) := by
  intro hn
  by_cases c1 : y < 1970
  · exact Ev.now fun k => by unfold mastref2_DayOf.f; rw [ilt_t c1]; rfl
  by_cases c2 : 2199 < y
  · exact Ev.now fun k => by unfold mastref2_DayOf.f; rw [ilt_f (show 1970 ≤ y by omega), ilt_t c2]; rfl
  by_cases c3 : m < 1
  · exact Ev.now fun k => by unfold mastref2_DayOf.f; rw [ilt_f (show 1970 ≤ y by omega), ilt_f (show y ≤ 2199 by omega), ilt_t c3]; rfl
  by_cases c4 : 12 < m
  · exact Ev.now fun k => by unfold mastref2_DayOf.f; rw [ilt_f (show 1970 ≤ y by omega), ilt_f (show y ≤ 2199 by omega), ilt_f (show 1 ≤ m by omega), ilt_t c4]; rfl
  by_cases c5 : d < 1
  · exact Ev.now fun k => by unfold mastref2_DayOf.f; rw [ilt_f (show 1970 ≤ y by omega), ilt_f (show y ≤ 2199 by omega), ilt_f (show 1 ≤ m by omega), ilt_f (show m ≤ 12 by omega), ilt_t c5]; rfl
  by_cases c6 : 31 < d
  · exact Ev.now fun k => by unfold mastref2_DayOf.f; rw [ilt_f (show 1970 ≤ y by omega), ilt_f (show y ≤ 2199 by omega), ilt_f (show 1 ≤ m by omega), ilt_f (show m ≤ 12 by omega), ilt_f (show 1 ≤ d by omega), ilt_t c6]; rfl
  have c7 : Cal.mdays y m < d := by
    by_cases c7 : Cal.mdays y m < d
    · exact c7
    · exact absurd ⟨by omega, by omega, by omega, by omega, by omega, by omega⟩ hn
  have p := Cal.parts_none y m d (m - 1).toNat (by omega) (by omega) (by omega) (by omega) (by omega) (by omega) c7
  have l := dateOf_f y m d (by omega) (by omega) (by omega) (by omega) (by omega) (by omega)
  rw [show y + (m - 1) / 12 = y from by omega, show ((m - 1) % 12).toNat = (m - 1).toNat from by omega] at l
  have hc := cum_bd y (m - 1).toNat
  have hyd : -100000 ≤ Cal.yearDay y ∧ Cal.yearDay y ≤ 100000 := by unfold Cal.yearDay; omega
  have pf := parts_f (Cal.yearDay y + Cal.cum y (m - 1).toNat + d - 1) (by omega) (by omega)
  have nf := (Ev.congr (fun f => by simp only [mastref2_date_number.f]; rfl) (Ev.bind pf (Ev.now fun _ => rfl)) : Ev (fun f => mastref2_date_number.f f (Cal.yearDay y + Cal.cum y (m - 1).toNat + d - 1)) (Cal.parts (Cal.yearDay y + Cal.cum y (m - 1).toNat + d - 1)).2.2)
  refine Ev.congr (g := fun f => (mastref2_dateOf.f f y m d).bind fun y1 => (mastref2_date_number.f f y1).bind fun y2 => bif !ieq y2 d then some (0, 2) else some (wadd .i64 y1 11323, 0)) (fun f => ?_) (Ev.bind l (Ev.bind nf (Ev.now (x := (0, 2)) fun _ => ?_)))
  · unfold mastref2_DayOf.f
    rw [ilt_f (show 1970 ≤ y by omega), ilt_f (show y ≤ 2199 by omega), ilt_f (show 1 ≤ m by omega), ilt_f (show m ≤ 12 by omega), ilt_f (show 1 ≤ d by omega), ilt_f (show d ≤ 31 by omega)]
    rfl
  · rw [ieq_f p]; rfl
theorem days (y m d : Int) : ∃ r, Ev (fun k => conf_DayOf.f k y m d) r ∧ Ev (fun k => mastref2_DayOf.f k y m d) r := by
  by_cases h : 1970 ≤ y ∧ y ≤ 2199 ∧ 1 ≤ m ∧ m ≤ 12 ∧ 1 ≤ d ∧ d ≤ Cal.mdays y m
  · obtain ⟨h1, h2, h3, h4, h5, h6⟩ := h
    exact ⟨_, dayOf_in y m d (m - 1).toNat h1 h2 (by omega) (by omega) h5 h6, dayOf2_in y m d (m - 1).toNat h1 h2 (by omega) (by omega) h5 h6⟩
  · exact ⟨_, dayOf_bad y m d h, dayOf2_bad y m d h⟩

theorem atoi_digs {p : ByteArray} (h1 : p.data.toList.all digB = true) (h0 : p.data.toList ≠ []) (hl : p.data.toList.length ≤ 18) : strconv_Atoi.f p = some (hors 0 p.data.toList) := by
  cases hb : p.data.toList with
  | nil => exact absurd hb h0
  | cons c r =>
    rw [hb] at h1 hl
    have hc := dig_not (List.all_eq_true.1 h1 c (List.mem_cons_self ..))
    obtain ⟨m, hm, hm2⟩ := dec_hors (c :: r) 0 h1
    rw [show hors 0 (c :: r) = (m : Int) from hm2.symm]
    unfold strconv_Atoi.f atoiF
    rw [size_l, hb, if_pos hl]
    unfold Lib.atoi
    have e1 : (c == 45) = false := beq_eq_false_iff_ne.2 hc.1
    have e2 : (c == 43) = false := beq_eq_false_iff_ne.2 hc.2.1
    simp only [e1, e2, Bool.false_eq_true, if_false, Lib.decNat, List.isEmpty_cons, hm]
    rfl
def nx (n : Int) (b : UInt8) : Int := wadd .i64 (wmul .i64 10 n) (wcv .i64 (wsub .u8 (b.toNat : Int) 48))
theorem nx_eq {n : Int} {b : UInt8} (hb : digB b = true) (h0 : 0 ≤ n) (h1 : n ≤ 1000000) : nx n b = 10 * n + ((b.toNat : Int) - 48) := by
  have hc := dig_in hb
  unfold nx
  rw [dig_sub hb, wmul64 (by omega) (by omega), wadd64 (by omega) (by omega)]
noncomputable def rr (y m d : Int) : Int × Int := (days y m d).choose
theorem rr1 (y m d : Int) : Ev (fun k => conf_DayOf.f k y m d) (rr y m d) := (days y m d).choose_spec.1
theorem rr2 (y m d : Int) : Ev (fun k => mastref2_DayOf.f k y m d) (rr y m d) := (days y m d).choose_spec.2
theorem ten : ∀ {l : List UInt8}, l.length = 10 → ∃ b0 b1 b2 b3 b4 b5 b6 b7 b8 b9, l = [b0, b1, b2, b3, b4, b5, b6, b7, b8, b9]
  | [b0, b1, b2, b3, b4, b5, b6, b7, b8, b9], _ => ⟨b0, b1, b2, b3, b4, b5, b6, b7, b8, b9, rfl⟩
theorem satL {s : ByteArray} {l : List UInt8} (hb : s.data.toList = l) (i : Nat) (h : i < l.length) : sat s (i : Int) = some (l[i].toNat : Int) := by subst hb; exact sat_l h

theorem dstep0 (s : ByteArray) (i : Nat) (b : UInt8) (hs : slen s = 10) (hb : sat s (i : Int) = some (b.toNat : Int)) (hi : i < 10) (h4 : i ≠ 4) (h7 : i ≠ 7) (n0 n1 n2 : Int) (r : Int × Int) (h : Ev (fun k => conf_ReadDay.l0 k s (nx n0 b) n1 n2 0 ((i + 1 : Nat) : Int)) r) : Ev (fun k => conf_ReadDay.l0 k s n0 n1 n2 0 (i : Int)) (bif digB b then r else (0, 8)) := by
  have i00 : ieq 0 0 = true := rfl
  have i10 : ieq 1 0 = false := rfl
  have i11 : ieq 1 1 = true := rfl
  have i20 : ieq 2 0 = false := rfl
  have i21 : ieq 2 1 = false := rfl
  have i22 : ieq 2 2 = true := rfl
  have hd : conf_isDigit.f (b.toNat : Int) = some (digB b) := rfl
  cases q : digB b with
  | false =>
    refine Ev.step (g := fun _ => some (0, 8)) (fun k => ?_) (Ev.now fun _ => rfl)
    simp only [conf_ReadDay.l0, hs, ilt_t (show (i : Int) < 10 by omega), cond_true, ieq_f (show (i : Int) ≠ 4 by omega), ieq_f (show (i : Int) ≠ 7 by omega), cond_false, hb, Option.bind_some, hd, q, Bool.not_false]
  | true =>
    refine Ev.step (fun k => ?_) h
    simp only [conf_ReadDay.l0, hs, ilt_t (show (i : Int) < 10 by omega), cond_true, ieq_f (show (i : Int) ≠ 4 by omega), ieq_f (show (i : Int) ≠ 7 by omega), cond_false, hb, Option.bind_some, hd, q, Bool.not_true, i00, i10, i11, i20, i21, i22, u0 (show i ≤ 4611686018427387904 by omega)]
    rfl

theorem dstep1 (s : ByteArray) (i : Nat) (b : UInt8) (hs : slen s = 10) (hb : sat s (i : Int) = some (b.toNat : Int)) (hi : i < 10) (h4 : i ≠ 4) (h7 : i ≠ 7) (n0 n1 n2 : Int) (r : Int × Int) (h : Ev (fun k => conf_ReadDay.l0 k s n0 (nx n1 b) n2 1 ((i + 1 : Nat) : Int)) r) : Ev (fun k => conf_ReadDay.l0 k s n0 n1 n2 1 (i : Int)) (bif digB b then r else (0, 8)) := by
  have i00 : ieq 0 0 = true := rfl
  have i10 : ieq 1 0 = false := rfl
  have i11 : ieq 1 1 = true := rfl
  have i20 : ieq 2 0 = false := rfl
  have i21 : ieq 2 1 = false := rfl
  have i22 : ieq 2 2 = true := rfl
  have hd : conf_isDigit.f (b.toNat : Int) = some (digB b) := rfl
  cases q : digB b with
  | false =>
    refine Ev.step (g := fun _ => some (0, 8)) (fun k => ?_) (Ev.now fun _ => rfl)
    simp only [conf_ReadDay.l0, hs, ilt_t (show (i : Int) < 10 by omega), cond_true, ieq_f (show (i : Int) ≠ 4 by omega), ieq_f (show (i : Int) ≠ 7 by omega), cond_false, hb, Option.bind_some, hd, q, Bool.not_false]
  | true =>
    refine Ev.step (fun k => ?_) h
    simp only [conf_ReadDay.l0, hs, ilt_t (show (i : Int) < 10 by omega), cond_true, ieq_f (show (i : Int) ≠ 4 by omega), ieq_f (show (i : Int) ≠ 7 by omega), cond_false, hb, Option.bind_some, hd, q, Bool.not_true, i00, i10, i11, i20, i21, i22, u0 (show i ≤ 4611686018427387904 by omega)]
    rfl

theorem dstep2 (s : ByteArray) (i : Nat) (b : UInt8) (hs : slen s = 10) (hb : sat s (i : Int) = some (b.toNat : Int)) (hi : i < 10) (h4 : i ≠ 4) (h7 : i ≠ 7) (n0 n1 n2 : Int) (r : Int × Int) (h : Ev (fun k => conf_ReadDay.l0 k s n0 n1 (nx n2 b) 2 ((i + 1 : Nat) : Int)) r) : Ev (fun k => conf_ReadDay.l0 k s n0 n1 n2 2 (i : Int)) (bif digB b then r else (0, 8)) := by
  have i00 : ieq 0 0 = true := rfl
  have i10 : ieq 1 0 = false := rfl
  have i11 : ieq 1 1 = true := rfl
  have i20 : ieq 2 0 = false := rfl
  have i21 : ieq 2 1 = false := rfl
  have i22 : ieq 2 2 = true := rfl
  have hd : conf_isDigit.f (b.toNat : Int) = some (digB b) := rfl
  cases q : digB b with
  | false =>
    refine Ev.step (g := fun _ => some (0, 8)) (fun k => ?_) (Ev.now fun _ => rfl)
    simp only [conf_ReadDay.l0, hs, ilt_t (show (i : Int) < 10 by omega), cond_true, ieq_f (show (i : Int) ≠ 4 by omega), ieq_f (show (i : Int) ≠ 7 by omega), cond_false, hb, Option.bind_some, hd, q, Bool.not_false]
  | true =>
    refine Ev.step (fun k => ?_) h
    simp only [conf_ReadDay.l0, hs, ilt_t (show (i : Int) < 10 by omega), cond_true, ieq_f (show (i : Int) ≠ 4 by omega), ieq_f (show (i : Int) ≠ 7 by omega), cond_false, hb, Option.bind_some, hd, q, Bool.not_true, i00, i10, i11, i20, i21, i22, u0 (show i ≤ 4611686018427387904 by omega)]
    rfl

theorem ssub_ok (s : ByteArray) (a b : Nat) (h1 : a ≤ b) (h2 : b ≤ s.size) : ssub s (a : Int) (b : Int) = some (s.extract a b) := by
  unfold ssub
  rw [if_pos ⟨by omega, by omega, by omega⟩, Int.toNat_natCast, Int.toNat_natCast]
theorem scat_ok {a b : ByteArray} (h : a.size + b.size ≤ 9223372036854775807) : scat a b = some (a ++ b) := by unfold scat; rw [if_pos h]
theorem cat_data (a b : ByteArray) : (a ++ b).data.toList = a.data.toList ++ b.data.toList := by rw [ByteArray.data_append, Array.toList_append]
theorem seq45 (b : UInt8) : ieq (b.toNat : Int) 45 = decide (b = 45) := by
  rw [ieq_d]
  congr 1
  refine propext ⟨fun h => UInt8.toNat_inj.1 (by rw [show (45 : UInt8).toNat = 45 from rfl]; omega), fun h => by rw [h]; rfl⟩
theorem pure_holds : Pure := fun s hsz => by
  suffices h : ∃ r, Ev (fun k => conf_ReadDay.f k s) r ∧ Ev (fun k => mastref2_DayOfString.f k s) r by
    obtain ⟨r, h1, h2⟩ := h
    refine (Ev.congr (fun k => by simp only [mastlaw2_DayReads.f]; rfl) (Ev.bind h1 (Ev.bind h2 (Ev.now fun _ => ?_))) : Ev (fun k => mastlaw2_DayReads.f k s) true).get
    rw [ieq_self, ieq_self]; rfl
  by_cases hl : s.data.toList.length = 10
  · obtain ⟨b0, b1, b2, b3, b4, b5, b6, b7, b8, b9, hb⟩ := ten hl
    have hs : slen s = 10 := by rw [slen_l, hl]; rfl
    have hsize : s.size = 10 := by rw [size_l, hl]
    have h0 : sat s ((0 : Nat) : Int) = some (b0.toNat : Int) := satL hb 0 (by simp)
    have h1 : sat s ((1 : Nat) : Int) = some (b1.toNat : Int) := satL hb 1 (by simp)
    have h2 : sat s ((2 : Nat) : Int) = some (b2.toNat : Int) := satL hb 2 (by simp)
    have h3 : sat s ((3 : Nat) : Int) = some (b3.toNat : Int) := satL hb 3 (by simp)
    have h4 : sat s ((4 : Nat) : Int) = some (b4.toNat : Int) := satL hb 4 (by simp)
    have h5 : sat s ((5 : Nat) : Int) = some (b5.toNat : Int) := satL hb 5 (by simp)
    have h6 : sat s ((6 : Nat) : Int) = some (b6.toNat : Int) := satL hb 6 (by simp)
    have h7 : sat s ((7 : Nat) : Int) = some (b7.toNat : Int) := satL hb 7 (by simp)
    have h8 : sat s ((8 : Nat) : Int) = some (b8.toNat : Int) := satL hb 8 (by simp)
    have h9 : sat s ((9 : Nat) : Int) = some (b9.toNat : Int) := satL hb 9 (by simp)
    have i10 : ieq 10 10 = true := rfl
    have h4' : sat s 4 = some (b4.toNat : Int) := h4
    have h7' : sat s 7 = some (b7.toNat : Int) := h7
    by_cases q4 : b4 = 45
    · by_cases q7 : b7 = 45
      · have p : ∀ k, conf_ReadDay.f k s = conf_ReadDay.l0 k s 0 0 0 0 ((0 : Nat) : Int) := fun k => by
          simp only [conf_ReadDay.f, hs, i10, Bool.not_true, cond_false, h4', h7', Option.bind_some, seq45, q4, q7, decide_true]
          rfl
        have e10 : ∀ n0 n1 n2, Ev (fun k => conf_ReadDay.l0 k s n0 n1 n2 2 ((10 : Nat) : Int)) (rr n0 n1 n2) := fun n0 n1 n2 => by
          have h : ilt ((10 : Nat) : Int) 10 = false := rfl
          exact Ev.step (fun k => by simp only [conf_ReadDay.l0, hs, h, cond_false]) (Ev.bind (rr1 n0 n1 n2) (Ev.now fun _ => rfl))
        have e9 : ∀ n0 n1 n2, Ev (fun k => conf_ReadDay.l0 k s n0 n1 n2 2 ((9 : Nat) : Int)) (bif digB b9 then rr n0 n1 (nx n2 b9) else (0, 8)) := fun n0 n1 n2 => dstep2 s 9 b9 hs h9 (by decide) (by decide) (by decide) n0 n1 n2 _ (e10 n0 n1 (nx n2 b9))
        have e8 : ∀ n0 n1 n2, Ev (fun k => conf_ReadDay.l0 k s n0 n1 n2 2 ((8 : Nat) : Int)) (bif digB b8 then (bif digB b9 then rr n0 n1 (nx (nx n2 b8) b9) else (0, 8)) else (0, 8)) := fun n0 n1 n2 => dstep2 s 8 b8 hs h8 (by decide) (by decide) (by decide) n0 n1 n2 _ (e9 n0 n1 (nx n2 b8))
        have e7 : ∀ n0 n1 n2, Ev (fun k => conf_ReadDay.l0 k s n0 n1 n2 1 ((7 : Nat) : Int)) (bif digB b8 then (bif digB b9 then rr n0 n1 (nx (nx n2 b8) b9) else (0, 8)) else (0, 8)) := fun n0 n1 n2 => by
          have h : ilt ((7 : Nat) : Int) 10 = true := rfl
          have h2 : (bif ieq ((7 : Nat) : Int) 4 then true else ieq ((7 : Nat) : Int) 7) = true := rfl
          refine Ev.step (fun k => ?_) (e8 n0 n1 n2)
          simp only [conf_ReadDay.l0, hs, h, h2, cond_true]
          rfl
        have e6 : ∀ n0 n1 n2, Ev (fun k => conf_ReadDay.l0 k s n0 n1 n2 1 ((6 : Nat) : Int)) (bif digB b6 then (bif digB b8 then (bif digB b9 then rr n0 (nx n1 b6) (nx (nx n2 b8) b9) else (0, 8)) else (0, 8)) else (0, 8)) := fun n0 n1 n2 => dstep1 s 6 b6 hs h6 (by decide) (by decide) (by decide) n0 n1 n2 _ (e7 n0 (nx n1 b6) n2)
        have e5 : ∀ n0 n1 n2, Ev (fun k => conf_ReadDay.l0 k s n0 n1 n2 1 ((5 : Nat) : Int)) (bif digB b5 then (bif digB b6 then (bif digB b8 then (bif digB b9 then rr n0 (nx (nx n1 b5) b6) (nx (nx n2 b8) b9) else (0, 8)) else (0, 8)) else (0, 8)) else (0, 8)) := fun n0 n1 n2 => dstep1 s 5 b5 hs h5 (by decide) (by decide) (by decide) n0 n1 n2 _ (e6 n0 (nx n1 b5) n2)
        have e4 : ∀ n0 n1 n2, Ev (fun k => conf_ReadDay.l0 k s n0 n1 n2 0 ((4 : Nat) : Int)) (bif digB b5 then (bif digB b6 then (bif digB b8 then (bif digB b9 then rr n0 (nx (nx n1 b5) b6) (nx (nx n2 b8) b9) else (0, 8)) else (0, 8)) else (0, 8)) else (0, 8)) := fun n0 n1 n2 => by
          have h : ilt ((4 : Nat) : Int) 10 = true := rfl
          have h2 : (bif ieq ((4 : Nat) : Int) 4 then true else ieq ((4 : Nat) : Int) 7) = true := rfl
          refine Ev.step (fun k => ?_) (e5 n0 n1 n2)
          simp only [conf_ReadDay.l0, hs, h, h2, cond_true]
          rfl
        have e3 : ∀ n0 n1 n2, Ev (fun k => conf_ReadDay.l0 k s n0 n1 n2 0 ((3 : Nat) : Int)) (bif digB b3 then (bif digB b5 then (bif digB b6 then (bif digB b8 then (bif digB b9 then rr (nx n0 b3) (nx (nx n1 b5) b6) (nx (nx n2 b8) b9) else (0, 8)) else (0, 8)) else (0, 8)) else (0, 8)) else (0, 8)) := fun n0 n1 n2 => dstep0 s 3 b3 hs h3 (by decide) (by decide) (by decide) n0 n1 n2 _ (e4 (nx n0 b3) n1 n2)
        have e2 : ∀ n0 n1 n2, Ev (fun k => conf_ReadDay.l0 k s n0 n1 n2 0 ((2 : Nat) : Int)) (bif digB b2 then (bif digB b3 then (bif digB b5 then (bif digB b6 then (bif digB b8 then (bif digB b9 then rr (nx (nx n0 b2) b3) (nx (nx n1 b5) b6) (nx (nx n2 b8) b9) else (0, 8)) else (0, 8)) else (0, 8)) else (0, 8)) else (0, 8)) else (0, 8)) := fun n0 n1 n2 => dstep0 s 2 b2 hs h2 (by decide) (by decide) (by decide) n0 n1 n2 _ (e3 (nx n0 b2) n1 n2)
        have e1 : ∀ n0 n1 n2, Ev (fun k => conf_ReadDay.l0 k s n0 n1 n2 0 ((1 : Nat) : Int)) (bif digB b1 then (bif digB b2 then (bif digB b3 then (bif digB b5 then (bif digB b6 then (bif digB b8 then (bif digB b9 then rr (nx (nx (nx n0 b1) b2) b3) (nx (nx n1 b5) b6) (nx (nx n2 b8) b9) else (0, 8)) else (0, 8)) else (0, 8)) else (0, 8)) else (0, 8)) else (0, 8)) else (0, 8)) := fun n0 n1 n2 => dstep0 s 1 b1 hs h1 (by decide) (by decide) (by decide) n0 n1 n2 _ (e2 (nx n0 b1) n1 n2)
        have e0 : ∀ n0 n1 n2, Ev (fun k => conf_ReadDay.l0 k s n0 n1 n2 0 ((0 : Nat) : Int)) (bif digB b0 then (bif digB b1 then (bif digB b2 then (bif digB b3 then (bif digB b5 then (bif digB b6 then (bif digB b8 then (bif digB b9 then rr (nx (nx (nx (nx n0 b0) b1) b2) b3) (nx (nx n1 b5) b6) (nx (nx n2 b8) b9) else (0, 8)) else (0, 8)) else (0, 8)) else (0, 8)) else (0, 8)) else (0, 8)) else (0, 8)) else (0, 8)) := fun n0 n1 n2 => dstep0 s 0 b0 hs h0 (by decide) (by decide) (by decide) n0 n1 n2 _ (e1 (nx n0 b0) n1 n2)
        have e0' := e0 0 0 0
        have x1 : ssub s 0 4 = some (s.extract 0 4) := ssub_ok s 0 4 (by decide) (by omega)
        have x2 : ssub s 5 7 = some (s.extract 5 7) := ssub_ok s 5 7 (by decide) (by omega)
        have x3 : ssub s 8 10 = some (s.extract 8 10) := ssub_ok s 8 10 (by decide) (by omega)
        have d1 : (s.extract 0 4).data.toList = [b0, b1, b2, b3] := by rw [ex_data s 0 4 (by decide), hb]; rfl
        have d2 : (s.extract 5 7).data.toList = [b5, b6] := by rw [ex_data s 5 7 (by decide), hb]; rfl
        have d3 : (s.extract 8 10).data.toList = [b8, b9] := by rw [ex_data s 8 10 (by decide), hb]; rfl
        have z1 : (s.extract 0 4).size = 4 := by rw [size_l, d1]; rfl
        have z2 : (s.extract 5 7).size = 2 := by rw [size_l, d2]; rfl
        have z3 : (s.extract 8 10).size = 2 := by rw [size_l, d3]; rfl
        have c1 : scat (s.extract 0 4) (s.extract 5 7) = some (s.extract 0 4 ++ s.extract 5 7) := scat_ok (by omega)
        have c2 : scat (s.extract 0 4 ++ s.extract 5 7) (s.extract 8 10) = some (s.extract 0 4 ++ s.extract 5 7 ++ s.extract 8 10) := scat_ok (by rw [ByteArray.size_append]; omega)
        have dd : (s.extract 0 4 ++ s.extract 5 7 ++ s.extract 8 10).data.toList = [b0, b1, b2, b3, b5, b6, b8, b9] := by rw [cat_data, cat_data, d1, d2, d3]; rfl
        have ds : mastref2_digitsAlone.f (s.extract 0 4 ++ s.extract 5 7 ++ s.extract 8 10) = some ([b0, b1, b2, b3, b5, b6, b8, b9].all digB) := by
          rw [digits_ok _ (by rw [ByteArray.size_append, ByteArray.size_append]; omega), dd]; rfl
        have fm : mastref2_dayForm.f s = some ([b0, b1, b2, b3, b5, b6, b8, b9].all digB) := by
          simp only [mastref2_dayForm.f, hs, i10, cond_true, h4', h7', Option.bind_some, seq45, q4, q7, decide_true, x1, x2, x3, c1, c2, ds]
        cases ha : [b0, b1, b2, b3, b5, b6, b8, b9].all digB with
        | false =>
          refine ⟨(0, 8), Ev.congr p ?_, Ev.now fun k => ?_⟩
          · have : (bif digB b0 then (bif digB b1 then (bif digB b2 then (bif digB b3 then (bif digB b5 then (bif digB b6 then (bif digB b8 then (bif digB b9 then rr (nx (nx (nx (nx 0 b0) b1) b2) b3) (nx (nx 0 b5) b6) (nx (nx 0 b8) b9) else (0, 8)) else (0, 8)) else (0, 8)) else (0, 8)) else (0, 8)) else (0, 8)) else (0, 8)) else (0, 8)) = (0, 8) := by
              simp only [List.all_cons, List.all_nil, Bool.and_true] at ha
              revert ha
              cases digB b0 with
              | false => intro _; rfl
              | true => cases digB b1 with
                | false => intro _; rfl
                | true => cases digB b2 with
                  | false => intro _; rfl
                  | true => cases digB b3 with
                    | false => intro _; rfl
                    | true => cases digB b5 with
                      | false => intro _; rfl
                      | true => cases digB b6 with
                        | false => intro _; rfl
                        | true => cases digB b8 with
                          | false => intro _; rfl
                          | true => cases digB b9 with
                            | false => intro _; rfl
                            | true => intro h; exact nomatch h
            rw [this] at e0'
            exact e0'
          · simp only [mastref2_DayOfString.f, fm, ha, Option.bind_some, Bool.not_false, cond_true]
        | true =>
          have ha' := ha
          simp only [List.all_cons, List.all_nil, Bool.and_true, Bool.and_eq_true] at ha
          obtain ⟨g0, g1, g2, g3, g5, g6, g8, g9⟩ := ha
          have w0 := dig_in g0
          have w1 := dig_in g1
          have w2 := dig_in g2
          have w3 := dig_in g3
          have w5 := dig_in g5
          have w6 := dig_in g6
          have w8 := dig_in g8
          have w9 := dig_in g9
          have a1 : strconv_Atoi.f (s.extract 0 4) = some (nx (nx (nx (nx 0 b0) b1) b2) b3) := by
            rw [atoi_digs (by rw [d1]; simp [g0, g1, g2, g3]) (by rw [d1]; simp) (by rw [d1]; simp), d1]
            rw [nx_eq g0 (by omega) (by omega), nx_eq g1 (by omega) (by omega), nx_eq g2 (by omega) (by omega), nx_eq g3 (by omega) (by omega)]
            rfl
          have a2 : strconv_Atoi.f (s.extract 5 7) = some (nx (nx 0 b5) b6) := by
            rw [atoi_digs (by rw [d2]; simp [g5, g6]) (by rw [d2]; simp) (by rw [d2]; simp), d2]
            rw [nx_eq g5 (by omega) (by omega), nx_eq g6 (by omega) (by omega)]
            rfl
          have a3 : strconv_Atoi.f (s.extract 8 10) = some (nx (nx 0 b8) b9) := by
            rw [atoi_digs (by rw [d3]; simp [g8, g9]) (by rw [d3]; simp) (by rw [d3]; simp), d3]
            rw [nx_eq g8 (by omega) (by omega), nx_eq g9 (by omega) (by omega)]
            rfl
          rw [g0, g1, g2, g3, g5, g6, g8, g9] at e0'
          refine ⟨_, Ev.congr p e0', ?_⟩
          refine Ev.congr (fun k => ?_) (Ev.bind (rr2 _ _ _) (Ev.now fun _ => rfl))
          simp only [mastref2_DayOfString.f, fm, ha', Option.bind_some, Bool.not_true, cond_false, hs, x1, x2, x3, a1, a2, a3]
      · refine ⟨(0, 8), Ev.now fun k => ?_, Ev.now fun k => ?_⟩
        · simp only [conf_ReadDay.f, hs, i10, Bool.not_true, cond_false, h4', h7', Option.bind_some, seq45, q4, decide_true, decide_eq_false q7, Bool.not_false, cond_true]
        · simp only [mastref2_DayOfString.f, mastref2_dayForm.f, hs, i10, cond_true, h4', h7', Option.bind_some, seq45, q4, decide_true, decide_eq_false q7, cond_false, Bool.not_false]
    · refine ⟨(0, 8), Ev.now fun k => ?_, Ev.now fun k => ?_⟩
      · simp only [conf_ReadDay.f, hs, i10, Bool.not_true, cond_false, h4', Option.bind_some, seq45, decide_eq_false q4, Bool.not_false, cond_true]
      · simp only [mastref2_DayOfString.f, mastref2_dayForm.f, hs, i10, cond_true, h4', Option.bind_some, seq45, decide_eq_false q4, cond_false, Bool.not_false]
  · have hn : ieq (slen s) 10 = false := by rw [slen_l]; exact ieq_f (by omega)
    refine ⟨(0, 8), Ev.now fun k => ?_, Ev.now fun k => ?_⟩
    · simp only [conf_ReadDay.f, hn, Bool.not_false, cond_true]
    · simp only [mastref2_DayOfString.f, mastref2_dayForm.f, hn, cond_false, Option.bind_some, Bool.not_false, cond_true]

end Go.Proofs.YtibnepagledbjaaDoor.LDayReads
