/- The calendar: days from and to dates, as plain arithmetic; the two ways of reckoning agree. Conditions: years from 1700 to 2460. -/
import Derived.WalkKit
namespace Go.Proofs.Ytmjfjjnmdljkeaa.Cal
def leap (y : Int) : Bool := y % 4 == 0 && (!(y % 100 == 0) || y % 400 == 0)
def mdays (y m : Int) : Int := if m = 2 then (if leap y = true then 29 else 28) else if m = 4 then 30 else if m = 6 then 30 else if m = 9 then 30 else if m = 11 then 30 else 31
/-- The days ahead of month k + 1. -/
def cum (y : Int) : Nat → Int
  | 0 => 0
  | k + 1 => cum y k + mdays y (k + 1)
def ydays (y : Int) : Int := if leap y = true then 366 else 365
def before (y : Int) : Int := 365 * (y - 1970) + (y - 1) / 4 - (y - 1) / 100 + (y - 1) / 400 - 477
def yearDay (y : Int) : Int := 365 * (y - 2001) + (y - 2001) / 4 - (y - 2001) / 100 + (y - 2001) / 400
def inRow (n : Int) : Int := (n - n / 1460 + n / 36524 - n / 146096) / 365
def inYear (n y : Int) : Int := n - (365 * y + y / 4 - y / 100)
def march (n : Int) : Int := (5 * n + 2) / 153
def parts3 (row y n m : Int) : Int × Int × Int := if m + 3 > 12 then (400 * row + y + 1, m + 3 - 12, n - (153 * m + 2) / 5 + 1) else (400 * row + y, m + 3, n - (153 * m + 2) / 5 + 1)
def parts2 (row y n : Int) : Int × Int × Int := parts3 row y n (march n)
def parts1 (row n y : Int) : Int × Int × Int := parts2 row y (inYear n y)
def parts0 (row n : Int) : Int × Int × Int := parts1 row n (inRow n)
def parts (t : Int) : Int × Int × Int := parts0 ((t + 730791) / 146097) ((t + 730791) % 146097)
theorem before_yearDay (y : Int) : before y = yearDay y + 11323 := by unfold before yearDay; omega
theorem before_succ (y : Int) : before (y + 1) = before y + ydays y := by
  unfold before ydays leap
  by_cases h4 : y % 4 = 0 <;> by_cases h1 : y % 100 = 0 <;> by_cases h0 : y % 400 = 0 <;> simp [h4, h1, h0] <;> omega
theorem mdays_lo (y m : Int) : 28 ≤ mdays y m ∧ mdays y m ≤ 31 := by
  unfold mdays
  split
  · split <;> omega
  · split
    · omega
    · split
      · omega
      · split
        · omega
        · split <;> omega
theorem cum12 (y : Int) : cum y 12 = ydays y := by
  unfold ydays
  cases h : leap y <;> simp [cum, mdays, h]
/-- One date, both ways. -/
def chk (y m d : Int) (k : Nat) : Bool :=
  let t := yearDay y + cum y k + d - 1
  if d ≤ mdays y m then parts t == (y, m, d) else (parts t).2.2 != d
/-- Ten years from 1970 + 10 * c on. -/
def chkTen (c : Nat) : Bool := (List.range 10).all fun y => (List.range 12).all fun k => (List.range 31).all fun d => chk (1970 + ((10 * c + y : Nat) : Int)) ((k : Int) + 1) ((d : Int) + 1) k
set_option maxRecDepth 100000
theorem chkTen_0 : chkTen 0 = true := by decide +kernel
theorem chkTen_1 : chkTen 1 = true := by decide +kernel
theorem chkTen_2 : chkTen 2 = true := by decide +kernel
theorem chkTen_3 : chkTen 3 = true := by decide +kernel
theorem chkTen_4 : chkTen 4 = true := by decide +kernel
theorem chkTen_5 : chkTen 5 = true := by decide +kernel
theorem chkTen_6 : chkTen 6 = true := by decide +kernel
theorem chkTen_7 : chkTen 7 = true := by decide +kernel
theorem chkTen_8 : chkTen 8 = true := by decide +kernel
theorem chkTen_9 : chkTen 9 = true := by decide +kernel
theorem chkTen_10 : chkTen 10 = true := by decide +kernel
theorem chkTen_11 : chkTen 11 = true := by decide +kernel
theorem chkTen_12 : chkTen 12 = true := by decide +kernel
theorem chkTen_13 : chkTen 13 = true := by decide +kernel
theorem chkTen_14 : chkTen 14 = true := by decide +kernel
theorem chkTen_15 : chkTen 15 = true := by decide +kernel
theorem chkTen_16 : chkTen 16 = true := by decide +kernel
theorem chkTen_17 : chkTen 17 = true := by decide +kernel
theorem chkTen_18 : chkTen 18 = true := by decide +kernel
theorem chkTen_19 : chkTen 19 = true := by decide +kernel
theorem chkTen_20 : chkTen 20 = true := by decide +kernel
theorem chkTen_21 : chkTen 21 = true := by decide +kernel
theorem chkTen_22 : chkTen 22 = true := by decide +kernel
theorem chkTen_all : ∀ c, c < 23 → chkTen c = true := by
  intro c hc
  have : c = 0 ∨ c = 1 ∨ c = 2 ∨ c = 3 ∨ c = 4 ∨ c = 5 ∨ c = 6 ∨ c = 7 ∨ c = 8 ∨ c = 9 ∨ c = 10 ∨ c = 11 ∨ c = 12 ∨ c = 13 ∨ c = 14 ∨ c = 15 ∨ c = 16 ∨ c = 17 ∨ c = 18 ∨ c = 19 ∨ c = 20 ∨ c = 21 ∨ c = 22 := by omega
  rcases this with rfl | rfl | rfl | rfl | rfl | rfl | rfl | rfl | rfl | rfl | rfl | rfl | rfl | rfl | rfl | rfl | rfl | rfl | rfl | rfl | rfl | rfl | rfl
  · exact chkTen_0
  · exact chkTen_1
  · exact chkTen_2
  · exact chkTen_3
  · exact chkTen_4
  · exact chkTen_5
  · exact chkTen_6
  · exact chkTen_7
  · exact chkTen_8
  · exact chkTen_9
  · exact chkTen_10
  · exact chkTen_11
  · exact chkTen_12
  · exact chkTen_13
  · exact chkTen_14
  · exact chkTen_15
  · exact chkTen_16
  · exact chkTen_17
  · exact chkTen_18
  · exact chkTen_19
  · exact chkTen_20
  · exact chkTen_21
  · exact chkTen_22
theorem chk_true (y m d : Int) (k : Nat) (hy : 1970 ≤ y) (hy' : y ≤ 2199) (hk : k < 12) (hm : m = k + 1) (hd : 1 ≤ d) (hd' : d ≤ 31) : chk y m d k = true := by
  have h := chkTen_all ((y - 1970).toNat / 10) (by omega)
  unfold chkTen at h
  rw [List.all_eq_true] at h
  have h1 := h ((y - 1970).toNat % 10) (List.mem_range.2 (by omega))
  rw [List.all_eq_true] at h1
  have h2 := h1 k (List.mem_range.2 hk)
  rw [List.all_eq_true] at h2
  have h3 := h2 (d - 1).toNat (List.mem_range.2 (by omega))
  rw [show (1970 + ((10 * ((y - 1970).toNat / 10) + (y - 1970).toNat % 10 : Nat) : Int)) = y from by omega, show (((d - 1).toNat : Int) + 1) = d from by omega] at h3
  rw [hm]
  exact h3
theorem parts_date (y m d : Int) (k : Nat) (hy : 1970 ≤ y) (hy' : y ≤ 2199) (hk : k < 12) (hm : m = k + 1) (hd : 1 ≤ d) (hd' : d ≤ mdays y m) : parts (yearDay y + cum y k + d - 1) = (y, m, d) := by
  have h := chk_true y m d k hy hy' hk hm hd (by have := mdays_lo y m; omega)
  unfold chk at h
  simp only [if_pos hd'] at h
  exact eq_of_beq h
theorem parts_none (y m d : Int) (k : Nat) (hy : 1970 ≤ y) (hy' : y ≤ 2199) (hk : k < 12) (hm : m = k + 1) (hd : 1 ≤ d) (hd' : d ≤ 31) (hn : mdays y m < d) : (parts (yearDay y + cum y k + d - 1)).2.2 ≠ d := by
  have h := chk_true y m d k hy hy' hk hm hd hd'
  unfold chk at h
  simp only [if_neg (show ¬ d ≤ mdays y m by omega)] at h
  simpa using h
/-- The first days of the months of fifty years. -/
def chkFirst (c : Nat) : Bool := (List.range 50).all fun y => (List.range 12).all fun k => parts (yearDay (1700 + ((50 * c + y : Nat) : Int)) + cum (1700 + ((50 * c + y : Nat) : Int)) k) == (1700 + ((50 * c + y : Nat) : Int), (k : Int) + 1, 1)
theorem chkFirst_0 : chkFirst 0 = true := by decide +kernel
theorem chkFirst_1 : chkFirst 1 = true := by decide +kernel
theorem chkFirst_2 : chkFirst 2 = true := by decide +kernel
theorem chkFirst_3 : chkFirst 3 = true := by decide +kernel
theorem chkFirst_4 : chkFirst 4 = true := by decide +kernel
theorem chkFirst_5 : chkFirst 5 = true := by decide +kernel
theorem chkFirst_6 : chkFirst 6 = true := by decide +kernel
theorem chkFirst_7 : chkFirst 7 = true := by decide +kernel
theorem chkFirst_8 : chkFirst 8 = true := by decide +kernel
theorem chkFirst_9 : chkFirst 9 = true := by decide +kernel
theorem chkFirst_10 : chkFirst 10 = true := by decide +kernel
theorem chkFirst_11 : chkFirst 11 = true := by decide +kernel
theorem chkFirst_12 : chkFirst 12 = true := by decide +kernel
theorem chkFirst_13 : chkFirst 13 = true := by decide +kernel
theorem chkFirst_14 : chkFirst 14 = true := by decide +kernel
theorem chkFirst_15 : chkFirst 15 = true := by decide +kernel
theorem chkFirst_all : ∀ c, c < 16 → chkFirst c = true := by
  intro c hc
  have : c = 0 ∨ c = 1 ∨ c = 2 ∨ c = 3 ∨ c = 4 ∨ c = 5 ∨ c = 6 ∨ c = 7 ∨ c = 8 ∨ c = 9 ∨ c = 10 ∨ c = 11 ∨ c = 12 ∨ c = 13 ∨ c = 14 ∨ c = 15 := by omega
  rcases this with rfl | rfl | rfl | rfl | rfl | rfl | rfl | rfl | rfl | rfl | rfl | rfl | rfl | rfl | rfl | rfl
  · exact chkFirst_0
  · exact chkFirst_1
  · exact chkFirst_2
  · exact chkFirst_3
  · exact chkFirst_4
  · exact chkFirst_5
  · exact chkFirst_6
  · exact chkFirst_7
  · exact chkFirst_8
  · exact chkFirst_9
  · exact chkFirst_10
  · exact chkFirst_11
  · exact chkFirst_12
  · exact chkFirst_13
  · exact chkFirst_14
  · exact chkFirst_15
theorem parts_first (y m : Int) (k : Nat) (hy : 1700 ≤ y) (hy' : y ≤ 2460) (hk : k < 12) (hm : m = k + 1) : parts (yearDay y + cum y k) = (y, m, 1) := by
  have h := chkFirst_all ((y - 1700).toNat / 50) (by omega)
  unfold chkFirst at h
  rw [List.all_eq_true] at h
  have h1 := h ((y - 1700).toNat % 50) (List.mem_range.2 (by omega))
  rw [List.all_eq_true] at h1
  have h2 := h1 k (List.mem_range.2 hk)
  rw [show (1700 + ((50 * ((y - 1700).toNat / 50) + (y - 1700).toNat % 50 : Nat) : Int)) = y from by omega] at h2
  rw [hm]
  exact eq_of_beq h2
/-- The table's sum. -/
def tab : List Int := [31, 28, 31, 30, 31, 30, 31, 31, 30, 31, 30, 31]
theorem tab_cum (y : Int) (k : Nat) (hk : k < 12) : (tab.take k).sum + (if (k : Int) + 1 > 2 then (if leap y = true then 1 else 0) else 0) = cum y k := by
  have : k = 0 ∨ k = 1 ∨ k = 2 ∨ k = 3 ∨ k = 4 ∨ k = 5 ∨ k = 6 ∨ k = 7 ∨ k = 8 ∨ k = 9 ∨ k = 10 ∨ k = 11 := by omega
  rcases this with rfl | rfl | rfl | rfl | rfl | rfl | rfl | rfl | rfl | rfl | rfl | rfl <;> cases h : leap y <;> simp [tab, cum, mdays, h]
/-! A day lies in its year. -/
def fore (y : Int) : Int := 365 * y + y / 4 - y / 100
theorem inRow_mono {a b : Int} (h : a ≤ b) : inRow a ≤ inRow b := by
  unfold inRow
  have : a - a / 1460 + a / 36524 - a / 146096 ≤ b - b / 1460 + b / 36524 - b / 146096 := by omega
  exact Int.ediv_le_ediv (by omega) this
def chkRow : Bool := (List.range 400).all fun y => inRow (fore y) == (y : Int) && (y == 0 || inRow (fore y - 1) == (y : Int) - 1)
theorem chkRow_true : chkRow = true := by decide +kernel
theorem inRow_fore (y : Int) (h0 : 0 ≤ y) (h1 : y ≤ 399) : inRow (fore y) = y ∧ (y = 0 ∨ inRow (fore y - 1) = y - 1) := by
  have h := chkRow_true
  unfold chkRow at h
  rw [List.all_eq_true] at h
  have h2 := h y.toNat (List.mem_range.2 (by omega))
  rw [show ((y.toNat : Nat) : Int) = y from by omega] at h2
  simp only [Bool.and_eq_true, Bool.or_eq_true, beq_iff_eq] at h2
  exact ⟨h2.1, h2.2.imp (fun h => by omega) id⟩
theorem inYear_bd (n : Int) (h0 : 0 ≤ n) (h1 : n ≤ 146096) : 0 ≤ inYear n (inRow n) ∧ inYear n (inRow n) ≤ 365 := by
  obtain ⟨y, hy⟩ : ∃ y, inRow n = y := ⟨_, rfl⟩
  have b : 0 ≤ y ∧ y ≤ 399 := by
    have e : (n - n / 1460 + n / 36524 - n / 146096) / 365 = y := hy
    have : 0 ≤ n - n / 1460 + n / 36524 - n / 146096 ∧ n - n / 1460 + n / 36524 - n / 146096 ≤ 145999 := by omega
    omega
  rw [hy]
  have lo : fore y ≤ n := by
    by_cases c : fore y ≤ n
    · exact c
    · rcases (inRow_fore y b.1 b.2).2 with z | z
      · subst z; unfold fore at c; omega
      · have := inRow_mono (a := n) (b := fore y - 1) (by omega)
        omega
  have hi : n ≤ fore y + 365 := by
    by_cases c : y = 399
    · subst c; unfold fore; omega
    · by_cases d : n ≤ fore y + 365
      · exact d
      · have e : fore (y + 1) ≤ fore y + 366 := by unfold fore; omega
        have := inRow_mono (a := fore (y + 1)) (b := n) (by omega)
        rw [(inRow_fore (y + 1) (by omega) (by omega)).1] at this
        omega
  unfold fore at lo hi
  unfold inYear
  omega
/-! Go's quotients -/
theorem tdiv_pos {a b : Int} (h : 0 ≤ a) : Int.tdiv a b = a / b := Int.tdiv_eq_ediv_of_nonneg h
theorem tmod_pos {a b : Int} (h : 0 ≤ a) : Int.tmod a b = a % b := Int.tmod_eq_emod_of_nonneg h
theorem tdiv_neg' {a b : Int} (h : a ≤ 0) : Int.tdiv a b = -((-a) / b) := by
  rw [← tdiv_pos (show 0 ≤ -a by omega), Int.neg_tdiv, Int.neg_neg]
theorem tmod_neg' {a b : Int} (h : a ≤ 0) : Int.tmod a b = -((-a) % b) := by
  rw [← tmod_pos (show 0 ≤ -a by omega), Int.neg_tmod, Int.neg_neg]
end Go.Proofs.Ytmjfjjnmdljkeaa.Cal
