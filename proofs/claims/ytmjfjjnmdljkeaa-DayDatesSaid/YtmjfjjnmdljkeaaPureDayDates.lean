/- A day's string, date and weekday are the reference's, with the same errors. Conditions: none. -/
import Derived.Test.YtmjfjjnmdljkeaaGDayDatesOp
import Derived.Test.YtmjfjjnmdljkeaaCal
namespace Go.Proofs.Ytmjfjjnmdljkeaa.Pure.DayDates
set_option linter.unusedVariables false
open Go.RowKit Go.Proofs.Ytmjfjjnmdljkeaa Go.Proofs.Ytmjfjjnmdljkeaa.GDayDates Go.Proofs.YtmjfjjnmdljkeaaW.PrintWords Go.Proofs.YtmjfjjnmdljkeaaW.PrintLast

theorem w64 {x : Int} (h0 : -9223372036854775808 ≤ x) (h1 : x < 9223372036854775808) : wrap64 x = x := by unfold wrap64; omega

/-! The program -/
theorem leap_f (y : Int) (h0 : 0 ≤ y) : conf_leap.f y = some (Cal.leap y) := by
  unfold conf_leap.f Cal.leap
  rw [Cal.tmod_pos h0, Cal.tmod_pos h0, Cal.tmod_pos h0]
  by_cases h4 : y % 4 = 0 <;> by_cases h1 : y % 100 = 0 <;> simp [h4, h1]
theorem monthDays_f (y m : Int) (h0 : 0 ≤ y) : conf_monthDays.f y m = some (Cal.mdays y m) := by
  unfold conf_monthDays.f Cal.mdays
  rw [leap_f y h0]
  simp only [Option.bind_some]
  cases Cal.leap y <;> simp <;> repeat' split
  all_goals (first | rfl | simp_all)
theorem before_f (y : Int) (h0 : 1 ≤ y) (h1 : y ≤ 100000) : conf_before.f y = some (Cal.before y) := by
  unfold conf_before.f Cal.before
  have e1 : wrap64 (y - 1) = y - 1 := w64 (by omega) (by omega)
  rw [e1, Cal.tdiv_pos (by omega), Cal.tdiv_pos (by omega), Cal.tdiv_pos (by omega)]
  simp (disch := omega) only [w64]
theorem cum_bd (y : Int) : ∀ k, 0 ≤ Cal.cum y k ∧ Cal.cum y k ≤ 31 * k
  | 0 => by simp [Cal.cum]
  | k + 1 => by
    have := cum_bd y k
    have := Cal.mdays_lo y (k + 1)
    simp only [Cal.cum]
    omega
/-! The reference -/
theorem floor_f (a b : Int) (hb : b = 4 ∨ b = 100 ∨ b = 400 ∨ b = 12 ∨ b = 146097 ∨ b = 7) (h0 : -1000000000 ≤ a) (h1 : a ≤ 1000000000) : mastref2_floor.f a b = some (a / b) := by
  unfold mastref2_floor.f
  rw [if_neg (by omega)]
  by_cases hp : 0 ≤ a
  · rw [Cal.tmod_pos hp, Cal.tdiv_pos hp]
    rcases hb with rfl | rfl | rfl | rfl | rfl | rfl <;> (rw [if_neg (by omega)]; congr 1; exact w64 (by omega) (by omega))
  · rw [Cal.tmod_neg' (by omega), Cal.tdiv_neg' (by omega)]
    rcases hb with rfl | rfl | rfl | rfl | rfl | rfl <;> (split <;> (congr 1; first | (rw [w64 (by omega) (by omega)]; omega) | (rw [w64 (x := -(_)) (by omega) (by omega), w64 (by omega) (by omega)]; omega)))
theorem parts_f (t : Int) (h0 : -500000 ≤ t) (h1 : t ≤ 500000) : mastref2_date_parts.f t = some (Cal.parts t) := by
  unfold mastref2_date_parts.f
  have e0 : wrap64 (t + 730791) = t + 730791 := w64 (by omega) (by omega)
  rw [e0, floor_f _ _ (by omega) (by omega) (by omega)]
  simp only [Option.bind_some]
  obtain ⟨r, hr⟩ : ∃ r, (t + 730791) / 146097 = r := ⟨_, rfl⟩
  obtain ⟨n, hn⟩ : ∃ n, (t + 730791) % 146097 = n := ⟨_, rfl⟩
  have bn : 0 ≤ n ∧ n ≤ 146096 := by omega
  have br : -100 ≤ r ∧ r ≤ 100 := by omega
  have e1 : wrap64 (t + 730791 - wrap64 (146097 * r)) = n := by rw [w64 (x := 146097 * r) (by omega) (by omega), w64 (by omega) (by omega)]; omega
  rw [hr, e1]
  unfold Cal.parts
  rw [hr, hn]
  clear e0 e1 hr hn
  unfold Cal.parts0
  obtain ⟨y, hy⟩ : ∃ y, Cal.inRow n = y := ⟨_, rfl⟩
  have e2 : wrap64 (Int.tdiv (wrap64 (wrap64 (wrap64 (n - wrap64 (Int.tdiv n 1460)) + wrap64 (Int.tdiv n 36524)) - wrap64 (Int.tdiv n 146096))) 365) = y := by
    rw [← hy]
    unfold Cal.inRow
    rw [Cal.tdiv_pos (a := n) (by omega), Cal.tdiv_pos (a := n) (by omega), Cal.tdiv_pos (a := n) (by omega)]
    simp (disch := omega) only [w64, Cal.tdiv_pos]
  have by_ : 0 ≤ y ∧ y ≤ 400 := by unfold Cal.inRow at hy; omega
  rw [e2, hy]
  clear e2
  unfold Cal.parts1
  obtain ⟨q, hq⟩ : ∃ q, Cal.inYear n y = q := ⟨_, rfl⟩
  have e3 : wrap64 (n - wrap64 (wrap64 (wrap64 (365 * y) + wrap64 (Int.tdiv y 4)) - wrap64 (Int.tdiv y 100))) = q := by
    rw [← hq]
    unfold Cal.inYear
    rw [Cal.tdiv_pos (a := y) (by omega), Cal.tdiv_pos (a := y) (by omega)]
    simp (disch := omega) only [w64]
  have bq : 0 ≤ q ∧ q ≤ 365 := by have := Cal.inYear_bd n bn.1 bn.2; rw [hy, hq] at this; exact this
  rw [e3, hq]
  clear e3
  unfold Cal.parts2
  obtain ⟨m, hm⟩ : ∃ m, Cal.march q = m := ⟨_, rfl⟩
  have e4 : wrap64 (Int.tdiv (wrap64 (wrap64 (5 * q) + 2)) 153) = m := by
    rw [← hm]
    unfold Cal.march
    simp (disch := omega) only [w64, Cal.tdiv_pos]
  have bm : 0 ≤ m ∧ m ≤ 11 := by unfold Cal.march at hm; omega
  rw [e4, hm]
  clear e4
  unfold Cal.parts3
  have e5 : wrap64 (m + 3) = m + 3 := w64 (by omega) (by omega)
  have e6 : wrap64 (wrap64 (q - wrap64 (Int.tdiv (wrap64 (wrap64 (153 * m) + 2)) 5)) + 1) = q - (153 * m + 2) / 5 + 1 := by simp (disch := omega) only [w64, Cal.tdiv_pos]
  have e7 : wrap64 (wrap64 (400 * r) + y) = 400 * r + y := by simp (disch := omega) only [w64]
  rw [e5, e6, e7]
  split
  · rw [w64 (x := 400 * r + y + 1) (by omega) (by omega), w64 (x := m + 3 - 12) (by omega) (by omega)]
  · rfl
theorem yearDays_f (y : Int) (h0 : 0 ≤ y) : conf_yearDays.f y = some (Cal.ydays y) := by
  unfold conf_yearDays.f Cal.ydays
  rw [leap_f y h0]
  simp only [Option.bind_some]
  cases Cal.leap y <;> rfl
theorem date_months (y : Int) (hy : 1970 ≤ y) (hy' : y ≤ 2199) (n : Int) : ∀ (e j : Nat) (r : Int), j + e = 11 → 0 ≤ r → r = n - Cal.cum y j → r < Cal.ydays y - Cal.cum y j →
    ∃ (m d : Int) (k : Nat), k < 12 ∧ m = k + 1 ∧ 1 ≤ d ∧ d ≤ Cal.mdays y m ∧ n = Cal.cum y k + d - 1 ∧ Ev (fun f => conf_date.l1 f r y ((j : Int) + 1)) (y, m, d) := by
  intro e
  induction e with
  | zero =>
    intro j r hj h0 hr hlt
    obtain rfl : j = 11 := by omega
    have h12 := Cal.cum12 y
    have hs : Cal.cum y 12 = Cal.cum y 11 + Cal.mdays y 12 := rfl
    have hm := Cal.mdays_lo y 12
    refine ⟨12, r + 1, 11, by omega, rfl, by omega, by omega, by omega, ?_⟩
    refine Ev.step (f := fun _ => some (y, 12, r + 1)) (fun f => ?_) (Ev.now _)
    simp only [conf_date.l1]
    rw [show (((11 : Nat) : Int) + 1) = 12 from rfl, monthDays_f y 12 (by omega)]
    simp only [Option.bind_some]
    rw [if_neg (by omega), w64 (by omega) (by omega)]
  | succ e ih =>
    intro j r hj h0 hr hlt
    have hm := Cal.mdays_lo y ((j : Int) + 1)
    have hs : Cal.cum y (j + 1) = Cal.cum y j + Cal.mdays y ((j : Int) + 1) := rfl
    have hc := cum_bd y j
    have hyd : Cal.ydays y ≤ 366 := by unfold Cal.ydays; split <;> omega
    by_cases hge : Cal.mdays y ((j : Int) + 1) ≤ r
    · obtain ⟨m, d, k, a1, a2, a3, a4, a5, a6⟩ := ih (j + 1) (r - Cal.mdays y ((j : Int) + 1)) (by omega) (by omega) (by omega) (by omega)
      refine ⟨m, d, k, a1, a2, a3, a4, a5, Ev.step (fun f => ?_) a6⟩
      simp only [conf_date.l1]
      rw [monthDays_f y _ (by omega)]
      simp only [Option.bind_some]
      rw [if_pos hge, w64 (x := r - Cal.mdays y ((j : Int) + 1)) (by omega) (by omega), w64 (x := (j : Int) + 1 + 1) (by omega) (by omega)]
      rfl
    · refine ⟨(j : Int) + 1, r + 1, j, by omega, rfl, by omega, by omega, by omega, ?_⟩
      refine Ev.step (f := fun _ => some (y, (j : Int) + 1, r + 1)) (fun f => ?_) (Ev.now _)
      simp only [conf_date.l1]
      rw [monthDays_f y _ (by omega)]
      simp only [Option.bind_some]
      rw [if_neg (by omega), w64 (by omega) (by omega)]
theorem date_years (n : Int) (h0 : 0 ≤ n) (h1 : n ≤ 84005) : ∀ (e : Nat) (y : Int), 1970 ≤ y → y + e = 2199 → Cal.before y ≤ n →
    ∃ (y' m d : Int) (k : Nat), 1970 ≤ y' ∧ y' ≤ 2199 ∧ k < 12 ∧ m = k + 1 ∧ 1 ≤ d ∧ d ≤ Cal.mdays y' m ∧ n = Cal.before y' + Cal.cum y' k + d - 1 ∧ Ev (fun f => conf_date.l0 f n y) (y', m, d) := by
  have hyd : ∀ y, 365 ≤ Cal.ydays y ∧ Cal.ydays y ≤ 366 := fun y => by unfold Cal.ydays; split <;> omega
  have stop : ∀ y, 1970 ≤ y → y ≤ 2199 → Cal.before y ≤ n → n < Cal.before y + Cal.ydays y →
      ∃ (y' m d : Int) (k : Nat), 1970 ≤ y' ∧ y' ≤ 2199 ∧ k < 12 ∧ m = k + 1 ∧ 1 ≤ d ∧ d ≤ Cal.mdays y' m ∧ n = Cal.before y' + Cal.cum y' k + d - 1 ∧ Ev (fun f => conf_date.l0 f n y) (y', m, d) := by
    intro y a b c d
    have hyy := hyd y
    have hbb : 0 ≤ Cal.before y ∧ Cal.before y ≤ 1000000 := by unfold Cal.before; omega
    obtain ⟨m, dd, k, e1, e2, e3, e4, e5, e6⟩ := date_months y a b (n - Cal.before y) 11 0 (n - Cal.before y) (by omega) (by omega) (by simp [Cal.cum]) (by simp [Cal.cum]; omega)
    refine ⟨y, m, dd, k, a, b, e1, e2, e3, e4, by omega, Ev.step (fun f => ?_) e6⟩
    simp only [conf_date.l0]
    rw [before_f y (by omega) (by omega), yearDays_f y (by omega)]
    simp only [Option.bind_some]
    rw [w64 (x := Cal.before y + Cal.ydays y) (by omega) (by omega), if_neg (by omega), w64 (x := n - Cal.before y) (by omega) (by omega)]
    rfl
  intro e
  induction e with
  | zero =>
    intro y a b c
    obtain rfl : y = 2199 := by omega
    exact stop 2199 (by omega) (by omega) c (by have e : Cal.before 2199 + Cal.ydays 2199 = 84006 := by decide +kernel
                                                omega)
  | succ e ih =>
    intro y a b c
    have hyy := hyd y
    have hbb : 0 ≤ Cal.before y ∧ Cal.before y ≤ 1000000 := by unfold Cal.before; omega
    have hs := Cal.before_succ y
    by_cases hge : Cal.before y + Cal.ydays y ≤ n
    · obtain ⟨y', m, d, k, e1, e2, e3, e4, e5, e6, e7, e8⟩ := ih (y + 1) (by omega) (by omega) (by omega)
      refine ⟨y', m, d, k, e1, e2, e3, e4, e5, e6, e7, Ev.step (fun f => ?_) e8⟩
      simp only [conf_date.l0]
      rw [before_f y (by omega) (by omega), yearDays_f y (by omega)]
      simp only [Option.bind_some]
      rw [w64 (x := Cal.before y + Cal.ydays y) (by omega) (by omega), if_pos (by omega), w64 (x := y + 1) (by omega) (by omega)]
    · exact stop y a (by omega) c (by omega)
/-- The date of a day. -/
theorem date_f (n : Int) (h0 : 0 ≤ n) (h1 : n ≤ 84005) :
    ∃ (y m d : Int) (k : Nat), 1970 ≤ y ∧ y ≤ 2199 ∧ k < 12 ∧ m = k + 1 ∧ 1 ≤ d ∧ d ≤ Cal.mdays y m ∧ n = Cal.before y + Cal.cum y k + d - 1 ∧ Ev (fun f => conf_date.f f n) (y, m, d) := by
  have e : wrap64 (1970 + wrap64 (Int.tdiv n 366)) = 1970 + n / 366 := by rw [Cal.tdiv_pos h0]; simp (disch := omega) only [w64]
  obtain ⟨y, m, d, k, a1, a2, a3, a4, a5, a6, a7, a8⟩ := date_years n h0 h1 (2199 - (1970 + n / 366)).toNat (1970 + n / 366) (by omega) (by omega) (by unfold Cal.before; omega)
  refine ⟨y, m, d, k, a1, a2, a3, a4, a5, a6, a7, Ev.congr (fun f => ?_) a8⟩
  unfold conf_date.f
  rw [e]
theorem badDay_f (n : Int) : conf_badDay.f n = some (!(decide (0 ≤ n ∧ n ≤ 84005))) := by
  unfold conf_badDay.f
  by_cases h : n < 0
  · rw [if_pos h]; simp; omega
  · rw [if_neg h]; congr 1; by_cases h2 : n > 84005 <;> simp [h2] <;> omega
theorem isDay_f (n : Int) : mastref2_IsDay.f n = some (decide (0 ≤ n ∧ n ≤ 84005)) := by
  unfold mastref2_IsDay.f
  by_cases h : n ≥ 0
  · rw [if_pos h]; congr 1; by_cases h2 : n ≤ 84005 <;> simp [h2] <;> omega
  · rw [if_neg h]; simp; omega
/-! Digits -/
theorem str_append (a b : List Int) : strOfNums a ++ strOfNums b = strOfNums (a ++ b) := by
  apply ByteArray.ext
  simp [strOfNums, ByteArray.data_append]
theorem str_nil : (⟨#[]⟩ : ByteArray) = strOfNums [] := rfl
/-- A digit's byte. -/
def dg (n : Int) : Int := (wrap64 (48 + Int.tmod n 10)) % 256
theorem digits_step (n w : Int) (l : List Int) (h : n > 0 ∨ (l.length : Int) < w) (hl : l.length ≤ 100) (h0 : 0 ≤ n) (h1 : n ≤ 1000000) {r : ByteArray} (e : Ev (fun k => mastref2_digitsOf.l0 k (n / 10) w (strOfNums ([dg n] ++ l))) r) : Ev (fun k => mastref2_digitsOf.l0 k n w (strOfNums l)) r := by
  refine Ev.step (fun k => ?_) e
  have q : wrap64 (Int.tdiv n 10) = n / 10 := by rw [Cal.tdiv_pos h0, w64 (by omega) (by omega)]
  simp only [mastref2_digitsOf.l0, Option.bind_some]
  rw [q, strOfNums_size, strOfNums_size]
  have s : ([(wrap64 (48 + Int.tmod n 10)) % 256] : List Int).length + l.length ≤ 9223372036854775807 := by simp; omega
  by_cases hp : n > 0
  · rw [if_pos hp, if_pos s, str_append]; rfl
  · rw [if_neg hp, if_pos (by omega), if_pos s, str_append]; rfl
theorem digits_stop (w : Int) (l : List Int) (h : w ≤ (l.length : Int)) : Ev (fun k => mastref2_digitsOf.l0 k 0 w (strOfNums l)) (strOfNums l) := by
  refine Ev.step (f := fun _ => some (strOfNums l)) (fun k => ?_) (Ev.now _)
  simp only [mastref2_digitsOf.l0]
  rw [strOfNums_size, if_neg (by omega), if_neg (by omega)]
def two (n : Int) : List Int := [dg (n / 10), dg n]
def four (n : Int) : List Int := [dg (n / 10 / 10 / 10), dg (n / 10 / 10), dg (n / 10), dg n]
theorem ref_two (n : Int) (h0 : 0 ≤ n) (h1 : n < 100) : Ev (fun k => mastref2_digitsOf.f k n 2) (strOfNums (two n)) := by
  unfold mastref2_digitsOf.f
  rw [str_nil]
  refine digits_step n 2 [] (.inr (by simp)) (by simp) h0 (by omega) ?_
  refine digits_step (n / 10) 2 _ (.inr (by simp)) (by simp) (by omega) (by omega) ?_
  rw [show n / 10 / 10 = 0 from by omega]
  exact digits_stop 2 _ (by simp)
theorem ref_four (n : Int) (h0 : 1000 ≤ n) (h1 : n < 10000) : Ev (fun k => mastref2_digitsOf.f k n 4) (strOfNums (four n)) := by
  unfold mastref2_digitsOf.f
  rw [str_nil]
  refine digits_step n 4 [] (.inr (by simp)) (by simp) (by omega) (by omega) ?_
  refine digits_step (n / 10) 4 _ (.inr (by simp)) (by simp) (by omega) (by omega) ?_
  refine digits_step (n / 10 / 10) 4 _ (.inr (by simp)) (by simp) (by omega) (by omega) ?_
  refine digits_step (n / 10 / 10 / 10) 4 _ (.inr (by simp)) (by simp) (by omega) (by omega) ?_
  rw [show n / 10 / 10 / 10 / 10 = 0 from by omega]
  exact digits_stop 4 _ (by simp)
theorem conf_step (n i : Int) (l : List Int) (hi : 0 ≤ i) (hl : i < l.length) (h4 : l.length ≤ 4) (h0 : 0 ≤ n) (h1 : n ≤ 1000000) {r : ByteArray} (e : Ev (fun k => conf_digits.l0 k (n / 10) (l.set i.toNat (dg n)) (i - 1)) r) : Ev (fun k => conf_digits.l0 k n l i) r := by
  refine Ev.step (fun k => ?_) e
  have q : wrap64 (Int.tdiv n 10) = n / 10 := by rw [Cal.tdiv_pos h0, w64 (by omega) (by omega)]
  simp only [conf_digits.l0]
  rw [if_pos hi, if_pos hi, if_pos hl, q, w64 (x := i - 1) (by omega) (by omega)]
  rfl
theorem conf_stop (n : Int) (l : List Int) : Ev (fun k => conf_digits.l0 k n l (-1)) (strOfNums l) := by
  refine Ev.step (f := fun _ => some (strOfNums l)) (fun k => ?_) (Ev.now _)
  simp only [conf_digits.l0]
  rw [if_neg (by omega)]
theorem conf_two (n : Int) (h0 : 0 ≤ n) (h1 : n < 100) : Ev (fun k => conf_digits.f k n 2) (strOfNums (two n)) := by
  refine Ev.congr (f := fun k => conf_digits.l0 k n [0, 0] 1) (fun k => by unfold conf_digits.f; rw [if_pos (by simp), if_pos (by simp), w64 (x := 2 - 1) (by omega) (by omega)]; rfl) ?_
  refine conf_step n 1 _ (by simp) (by simp) (by simp) h0 (by omega) ?_
  refine conf_step (n / 10) 0 _ (by simp) (by simp) (by simp) (by omega) (by omega) ?_
  exact conf_stop _ _
theorem conf_four (n : Int) (h0 : 0 ≤ n) (h1 : n < 10000) : Ev (fun k => conf_digits.f k n 4) (strOfNums (four n)) := by
  refine Ev.congr (f := fun k => conf_digits.l0 k n [0, 0, 0, 0] 3) (fun k => by unfold conf_digits.f; rw [if_pos (by simp), if_pos (by simp), w64 (x := 4 - 1) (by omega) (by omega)]; rfl) ?_
  refine conf_step n 3 _ (by simp) (by simp) (by simp) h0 (by omega) ?_
  refine conf_step (n / 10) 2 _ (by simp) (by simp) (by simp) (by omega) (by omega) ?_
  refine conf_step (n / 10 / 10) 1 _ (by simp) (by simp) (by simp) (by omega) (by omega) ?_
  refine conf_step (n / 10 / 10 / 10) 0 _ (by simp) (by simp) (by simp) (by omega) (by omega) ?_
  exact conf_stop _ _
def dayS (y m d : Int) : ByteArray := strOfNums (four y) ++ (⟨#[45]⟩ : ByteArray) ++ strOfNums (two m) ++ (⟨#[45]⟩ : ByteArray) ++ strOfNums (two d)
theorem s1 (y : Int) : (strOfNums (four y)).size + 1 ≤ 9223372036854775807 := by rw [strOfNums_size]; simp [four]
theorem s2 (y m : Int) : (strOfNums (four y) ++ (⟨#[45]⟩ : ByteArray)).size + (strOfNums (two m)).size ≤ 9223372036854775807 := by rw [ByteArray.size_append, strOfNums_size, strOfNums_size]; simp [four, two]; decide
theorem s3 (y m : Int) : (strOfNums (four y) ++ (⟨#[45]⟩ : ByteArray) ++ strOfNums (two m)).size + 1 ≤ 9223372036854775807 := by rw [ByteArray.size_append, ByteArray.size_append, strOfNums_size, strOfNums_size]; simp [four, two]; decide
theorem s4 (y m d : Int) : (strOfNums (four y) ++ (⟨#[45]⟩ : ByteArray) ++ strOfNums (two m) ++ (⟨#[45]⟩ : ByteArray)).size + (strOfNums (two d)).size ≤ 9223372036854775807 := by rw [ByteArray.size_append, ByteArray.size_append, ByteArray.size_append, strOfNums_size, strOfNums_size, strOfNums_size]; simp [four, two]; decide
theorem good (n : Int) (h0 : 0 ≤ n) (h1 : n ≤ 84005) : ∃ y m d, Ev (fun k => conf_date.f k n) (y, m, d) ∧ mastref2_DateOfDay.f n = some (y, m, d) ∧ Ev (fun k => conf_dayString.f k n) (dayS y m d) ∧ Ev (fun k => mastref2_StringOfDay.f k n) (dayS y m d) := by
  obtain ⟨y, m, d, k, a1, a2, a3, a4, a5, a6, a7, a8⟩ := date_f n h0 h1
  have hmd := Cal.mdays_lo y m
  have hc := cum_bd y k
  have hyd : -100000 ≤ Cal.yearDay y ∧ Cal.yearDay y ≤ 100000 := by unfold Cal.yearDay; omega
  have D : mastref2_DateOfDay.f n = some (y, m, d) := by
    unfold mastref2_DateOfDay.f
    have q4 : wrap64 (n - 11323) = Cal.yearDay y + Cal.cum y k + d - 1 := by rw [w64 (by omega) (by omega), a7, Cal.before_yearDay]; omega
    rw [q4, parts_f _ (by omega) (by omega), Cal.parts_date y m d k a1 a2 a3 a4 a5 a6]
    rfl
  refine ⟨y, m, d, a8, D, ?_, ?_⟩
  · unfold conf_dayString.f
    refine Ev.bind a8 (Ev.bind (conf_four y (by omega) (by omega)) (Ev.congr (fun k => if_pos (s1 y)) ?_))
    refine Ev.bind (conf_two m (by omega) (by omega)) (Ev.congr (fun k => (if_pos (s2 y m)).trans (if_pos (s3 y m))) ?_)
    refine Ev.bind (conf_two d (by omega) (by omega)) (Ev.congr (f := fun _ => some (dayS y m d)) (fun k => if_pos (s4 y m d)) (Ev.now _))
  · unfold mastref2_StringOfDay.f
    rw [D]
    simp only [Option.bind_some]
    refine Ev.bind (ref_four y (by omega) (by omega)) (Ev.congr (fun k => if_pos (s1 y)) ?_)
    refine Ev.bind (ref_two m (by omega) (by omega)) (Ev.congr (fun k => (if_pos (s2 y m)).trans (if_pos (s3 y m))) ?_)
    refine Ev.bind (ref_two d (by omega) (by omega)) (Ev.congr (f := fun _ => some (dayS y m d)) (fun k => if_pos (s4 y m d)) (Ev.now _))
end Go.Proofs.Ytmjfjjnmdljkeaa.Pure.DayDates
namespace Go.Proofs.Ytmjfjjnmdljkeaa.Pure
open Go.RowKit Go.Proofs.Ytmjfjjnmdljkeaa Go.Proofs.Ytmjfjjnmdljkeaa.GDayDates Go.Proofs.YtmjfjjnmdljkeaaW.PrintWords Go.Proofs.YtmjfjjnmdljkeaaW.PrintLast
/-- The pure statement. -/
theorem DayDates : mastlaw2_DayDates.Pure := by
  intro n _
  refine Ev.rounds (g := fun k => mastlaw2_DayDates.f k n) ?_
  unfold mastlaw2_DayDates.f
  by_cases h : 0 ≤ n ∧ n ≤ 84005
  · obtain ⟨y, m, d, e1, e2, e3, e4⟩ := DayDates.good n h.1 h.2
    have b : conf_badDay.f n = some false := by rw [DayDates.badDay_f, decide_eq_true h]; rfl
    have i : mastref2_IsDay.f n = some true := by rw [DayDates.isDay_f, decide_eq_true h]
    have E1 : Ev (fun k => conf_DayString.f k n) (DayDates.dayS y m d, 0) := by
      unfold conf_DayString.f
      rw [b]
      simp only [Option.bind_some]
      exact Ev.congr (fun k => if_neg (by simp)) (Ev.bind e3 (Ev.now _))
    have E2 : Ev (fun k => conf_Date.f k n) (y, m, d, 0) := by
      unfold conf_Date.f
      rw [b]
      simp only [Option.bind_some]
      exact Ev.congr (fun k => if_neg (by simp)) (Ev.bind e1 (Ev.now _))
    have w : conf_Weekday.f n = some ((n + 3) % 7, 0) := by
      unfold conf_Weekday.f
      rw [b]
      simp only [Option.bind_some]
      rw [if_neg (by simp), DayDates.w64 (by omega) (by omega), Cal.tmod_pos (by omega)]
    have w2 : mastref2_WeekdayOf.f n = some ((n + 3) % 7) := by
      unfold mastref2_WeekdayOf.f mastref2_date_weekday.f
      rw [DayDates.w64 (x := n - 11323) (by omega) (by omega), DayDates.floor_f _ 7 (by omega) (by omega) (by omega)]
      simp only [Option.bind_some]
      rw [DayDates.w64 (x := 7 * ((n - 11323) / 7)) (by omega) (by omega), DayDates.w64 (by omega) (by omega)]
      congr 1
      omega
    refine Ev.bind E1 (Ev.bind E2 ?_)
    rw [w, i, e2]
    simp only [Option.bind_some, if_true]
    refine Ev.bind e4 (Ev.congr (f := fun _ => some true) (fun k => ?_) (Ev.now _))
    rw [w2]
    simp
  · have b : conf_badDay.f n = some true := by rw [DayDates.badDay_f, decide_eq_false h]; rfl
    have i : mastref2_IsDay.f n = some false := by rw [DayDates.isDay_f, decide_eq_false h]
    unfold conf_DayString.f conf_Date.f conf_Weekday.f
    rw [b, i]
    exact Ev.congr (f := fun _ => some true) (fun k => by simp) (Ev.now _)
end Go.Proofs.Ytmjfjjnmdljkeaa.Pure
