/- The day so many months later is the reference's, with the same errors. Conditions: none. -/
import Derived.Test.YtmjfjjnmdljkeaaGDayMonthsOp
import Derived.Test.YtmjfjjnmdljkeaaCal
namespace Go.Proofs.Ytmjfjjnmdljkeaa.Pure.DayMonths
set_option linter.unusedVariables false
open Go.RowKit Go.Proofs.Ytmjfjjnmdljkeaa Go.Proofs.Ytmjfjjnmdljkeaa.GDayMonths Go.Proofs.YtmjfjjnmdljkeaaW.PrintWords Go.Proofs.YtmjfjjnmdljkeaaW.PrintLast

theorem w64 {x : Int} (h0 : -9223372036854775808 ≤ x) (h1 : x < 9223372036854775808) : wrap64 x = x := by unfold wrap64; omega

/-! The program -/
theorem leap_f (y : Int) (h0 : 0 ≤ y) : conf_leap.f y = some (Cal.leap y) := by
  unfold conf_leap.f Cal.leap
  rw [Cal.tmod_pos h0, Cal.tmod_pos h0, Cal.tmod_pos h0]
  by_cases h4 : y % 4 = 0 <;> by_cases h1 : y % 100 = 0 <;> simp [h4, h1]
theorem monthDays_f (y m : Int) (h0 : 0 ≤ y) : conf_monthDays.f y m = some (Cal.mdays y m) := by
  unfold conf_monthDays.f Cal.mdays
  rw [leap_f y h0]
  simp only [Option.bind_some]
  cases Cal.leap y <;> simp <;> repeat' split
  all_goals (first | rfl | simp_all)
theorem before_f (y : Int) (h0 : 1 ≤ y) (h1 : y ≤ 100000) : conf_before.f y = some (Cal.before y) := by
  unfold conf_before.f Cal.before
  have e1 : wrap64 (y - 1) = y - 1 := w64 (by omega) (by omega)
  rw [e1, Cal.tdiv_pos (by omega), Cal.tdiv_pos (by omega), Cal.tdiv_pos (by omega)]
  simp (disch := omega) only [w64]
theorem cum_bd (y : Int) : ∀ k, 0 ≤ Cal.cum y k ∧ Cal.cum y k ≤ 31 * k
  | 0 => by simp [Cal.cum]
  | k + 1 => by
    have := cum_bd y k
    have := Cal.mdays_lo y (k + 1)
    simp only [Cal.cum]
    omega
theorem dayOf_loop (y b : Int) (h0 : 0 ≤ y) (hb : -10000000 ≤ b) (hb' : b ≤ 10000000) : ∀ (d j : Nat), j + d ≤ 100 → Ev (fun k => conf_dayOf.l0 k y ((j + d : Nat) + 1) (b + Cal.cum y j) ((j : Int) + 1)) (b + Cal.cum y (j + d), true) := by
  intro d
  induction d with
  | zero =>
    intro j hj
    exact Ev.step (f := fun _ => some (b + Cal.cum y j, true)) (fun k => by simp only [conf_dayOf.l0]; rw [if_neg (by omega)]) (Ev.now _)
  | succ d ih =>
    intro j hj
    have hc := cum_bd y j
    have hm := Cal.mdays_lo y ((j : Int) + 1)
    have e : b + Cal.cum y j + Cal.mdays y ((j : Int) + 1) = b + Cal.cum y (j + 1) := by simp only [Cal.cum]; omega
    have i := ih (j + 1) (by omega)
    rw [show j + 1 + d = j + (d + 1) from by omega] at i
    refine Ev.step (fun k => ?_) i
    simp only [conf_dayOf.l0]
    rw [if_pos (by omega), monthDays_f y _ h0]
    simp only [Option.bind_some]
    rw [w64 (by omega) (by omega), w64 (by omega) (by omega), e]
    rfl
theorem dayOf_in (y m d : Int) (k : Nat) (hy : 1970 ≤ y) (hy' : y ≤ 2199) (hk : k < 12) (hm : m = k + 1) (hd : 1 ≤ d) (hd' : d ≤ Cal.mdays y m) : Ev (fun k => conf_DayOf.f k y m d) (Cal.before y + d - 1 + Cal.cum y k, 0) := by
  have hb : -1000000 ≤ Cal.before y ∧ Cal.before y ≤ 1000000 := by unfold Cal.before; omega
  have hmd := Cal.mdays_lo y m
  have l := dayOf_loop y (Cal.before y + d - 1) (by omega) (by omega) (by omega) k 0 (by omega)
  simp only [Nat.zero_add, Cal.cum] at l
  rw [← hm] at l
  have e : Ev (fun k => conf_dayOf.f k y m d) (Cal.before y + d - 1 + Cal.cum y k, true) := by
    refine Ev.congr (f := fun n => conf_dayOf.j0 n y m d (decide (d > Cal.mdays y m))) (fun n => ?_) ?_
    · unfold conf_dayOf.f
      rw [if_neg (by omega), if_neg (by omega), if_neg (by omega), if_neg (by omega), if_neg (by omega), monthDays_f y m (by omega)]
      rfl
    · refine Ev.step (fun n => ?_) l
      simp only [conf_dayOf.j0]
      rw [if_neg (by simp; omega), before_f y (by omega) (by omega)]
      simp only [Option.bind_some]
      simp (disch := omega) only [w64]
      simp
  unfold conf_DayOf.f
  exact Ev.bind e (Ev.congr (fun n => by rw [if_pos rfl]) (Ev.now _))
theorem dayOf_bad (y m d : Int) : ¬ (1970 ≤ y ∧ y ≤ 2199 ∧ 1 ≤ m ∧ m ≤ 12 ∧ 1 ≤ d ∧ d ≤ Cal.mdays y m) → Ev (fun k => conf_DayOf.f k y m d) (0, 2) := by
  intro hn
  have e : Ev (fun k => conf_dayOf.f k y m d) (0, false) := by
    have j : Ev (fun k => conf_dayOf.j0 k y m d true) (0, false) := Ev.step (f := fun _ => some (0, false)) (fun k => by simp only [conf_dayOf.j0]; rw [if_pos trivial]) (Ev.now _)
    by_cases c1 : y < 1970
    · exact Ev.congr (fun k => by unfold conf_dayOf.f; rw [if_pos c1]) j
    by_cases c2 : y > 2199
    · exact Ev.congr (fun k => by unfold conf_dayOf.f; rw [if_neg c1, if_pos c2]) j
    by_cases c3 : m < 1
    · exact Ev.congr (fun k => by unfold conf_dayOf.f; rw [if_neg c1, if_neg c2, if_pos c3]) j
    by_cases c4 : m > 12
    · exact Ev.congr (fun k => by unfold conf_dayOf.f; rw [if_neg c1, if_neg c2, if_neg c3, if_pos c4]) j
    by_cases c5 : d < 1
    · exact Ev.congr (fun k => by unfold conf_dayOf.f; rw [if_neg c1, if_neg c2, if_neg c3, if_neg c4, if_pos c5]) j
    have c6 : d > Cal.mdays y m := by
      by_cases c6 : d > Cal.mdays y m
      · exact c6
      · exact absurd ⟨by omega, by omega, by omega, by omega, by omega, by omega⟩ hn
    refine Ev.congr (f := fun n => conf_dayOf.j0 n y m d true) (fun n => ?_) j
    unfold conf_dayOf.f
    rw [if_neg c1, if_neg c2, if_neg c3, if_neg c4, if_neg c5, monthDays_f y m (by omega)]
    simp only [Option.bind_some, decide_eq_true c6]
  unfold conf_DayOf.f
  exact Ev.bind e (Ev.congr (fun n => by rw [if_neg (by simp)]) (Ev.now _))
/-! The reference -/
theorem floor_f (a b : Int) (hb : b = 4 ∨ b = 100 ∨ b = 400 ∨ b = 12 ∨ b = 146097) (h0 : -1000000000 ≤ a) (h1 : a ≤ 1000000000) : mastref2_floor.f a b = some (a / b) := by
  unfold mastref2_floor.f
  rw [if_neg (by omega)]
  by_cases hp : 0 ≤ a
  · rw [Cal.tmod_pos hp, Cal.tdiv_pos hp]
    rcases hb with rfl | rfl | rfl | rfl | rfl <;> (rw [if_neg (by omega)]; congr 1; exact w64 (by omega) (by omega))
  · rw [Cal.tmod_neg' (by omega), Cal.tdiv_neg' (by omega)]
    rcases hb with rfl | rfl | rfl | rfl | rfl <;> (split <;> (congr 1; first | (rw [w64 (by omega) (by omega)]; omega) | (rw [w64 (x := -(_)) (by omega) (by omega), w64 (by omega) (by omega)]; omega)))
theorem parts_f (t : Int) (h0 : -500000 ≤ t) (h1 : t ≤ 500000) : mastref2_date_parts.f t = some (Cal.parts t) := by
  unfold mastref2_date_parts.f
  have e0 : wrap64 (t + 730791) = t + 730791 := w64 (by omega) (by omega)
  rw [e0, floor_f _ _ (by omega) (by omega) (by omega)]
  simp only [Option.bind_some]
  obtain ⟨r, hr⟩ : ∃ r, (t + 730791) / 146097 = r := ⟨_, rfl⟩
  obtain ⟨n, hn⟩ : ∃ n, (t + 730791) % 146097 = n := ⟨_, rfl⟩
  have bn : 0 ≤ n ∧ n ≤ 146096 := by omega
  have br : -100 ≤ r ∧ r ≤ 100 := by omega
  have e1 : wrap64 (t + 730791 - wrap64 (146097 * r)) = n := by rw [w64 (x := 146097 * r) (by omega) (by omega), w64 (by omega) (by omega)]; omega
  rw [hr, e1]
  unfold Cal.parts
  rw [hr, hn]
  clear e0 e1 hr hn
  unfold Cal.parts0
  obtain ⟨y, hy⟩ : ∃ y, Cal.inRow n = y := ⟨_, rfl⟩
  have e2 : wrap64 (Int.tdiv (wrap64 (wrap64 (wrap64 (n - wrap64 (Int.tdiv n 1460)) + wrap64 (Int.tdiv n 36524)) - wrap64 (Int.tdiv n 146096))) 365) = y := by
    rw [← hy]
    unfold Cal.inRow
    rw [Cal.tdiv_pos (a := n) (by omega), Cal.tdiv_pos (a := n) (by omega), Cal.tdiv_pos (a := n) (by omega)]
    simp (disch := omega) only [w64, Cal.tdiv_pos]
  have by_ : 0 ≤ y ∧ y ≤ 400 := by unfold Cal.inRow at hy; omega
  rw [e2, hy]
  clear e2
  unfold Cal.parts1
  obtain ⟨q, hq⟩ : ∃ q, Cal.inYear n y = q := ⟨_, rfl⟩
  have e3 : wrap64 (n - wrap64 (wrap64 (wrap64 (365 * y) + wrap64 (Int.tdiv y 4)) - wrap64 (Int.tdiv y 100))) = q := by
    rw [← hq]
    unfold Cal.inYear
    rw [Cal.tdiv_pos (a := y) (by omega), Cal.tdiv_pos (a := y) (by omega)]
    simp (disch := omega) only [w64]
  have bq : 0 ≤ q ∧ q ≤ 365 := by have := Cal.inYear_bd n bn.1 bn.2; rw [hy, hq] at this; exact this
  rw [e3, hq]
  clear e3
  unfold Cal.parts2
  obtain ⟨m, hm⟩ : ∃ m, Cal.march q = m := ⟨_, rfl⟩
  have e4 : wrap64 (Int.tdiv (wrap64 (wrap64 (5 * q) + 2)) 153) = m := by
    rw [← hm]
    unfold Cal.march
    simp (disch := omega) only [w64, Cal.tdiv_pos]
  have bm : 0 ≤ m ∧ m ≤ 11 := by unfold Cal.march at hm; omega
  rw [e4, hm]
  clear e4
  unfold Cal.parts3
  have e5 : wrap64 (m + 3) = m + 3 := w64 (by omega) (by omega)
  have e6 : wrap64 (wrap64 (q - wrap64 (Int.tdiv (wrap64 (wrap64 (153 * m) + 2)) 5)) + 1) = q - (153 * m + 2) / 5 + 1 := by simp (disch := omega) only [w64, Cal.tdiv_pos]
  have e7 : wrap64 (wrap64 (400 * r) + y) = 400 * r + y := by simp (disch := omega) only [w64]
  rw [e5, e6, e7]
  split
  · rw [w64 (x := 400 * r + y + 1) (by omega) (by omega), w64 (x := m + 3 - 12) (by omega) (by omega)]
  · rfl
theorem leap2_f (y : Int) (h0 : 0 ≤ y) : mastref2_leap.f y = some (Cal.leap y) := by
  unfold mastref2_leap.f Cal.leap
  rw [Cal.tmod_pos h0, Cal.tmod_pos h0, Cal.tmod_pos h0]
  by_cases h4 : y % 4 = 0 <;> by_cases h1 : y % 100 = 0 <;> simp [h4, h1]
theorem yearDay_f (y : Int) (h0 : 0 ≤ y) (h1 : y ≤ 100000) : mastref2_yearDay.f y = some (Cal.yearDay y) := by
  unfold mastref2_yearDay.f Cal.yearDay
  have e : wrap64 (y - 2001) = y - 2001 := w64 (by omega) (by omega)
  rw [e, floor_f _ _ (by omega) (by omega) (by omega), floor_f _ _ (by omega) (by omega) (by omega), floor_f _ _ (by omega) (by omega) (by omega)]
  simp only [Option.bind_some]
  simp (disch := omega) only [w64]
theorem take_sum (k i : Nat) (hk : k ≤ 12) (hi : i < k) : ((Cal.tab.take k).take (i + 1)).sum = ((Cal.tab.take k).take i).sum + rd (Cal.tab.take k) i ∧ 0 ≤ ((Cal.tab.take k).take i).sum ∧ ((Cal.tab.take k).take i).sum ≤ 365 ∧ 0 ≤ rd (Cal.tab.take k) i ∧ rd (Cal.tab.take k) i ≤ 31 := by
  have : ∀ k, k ≤ 12 → ∀ i, i < k → ((Cal.tab.take k).take (i + 1)).sum = ((Cal.tab.take k).take i).sum + rd (Cal.tab.take k) i ∧ 0 ≤ ((Cal.tab.take k).take i).sum ∧ ((Cal.tab.take k).take i).sum ≤ 365 ∧ 0 ≤ rd (Cal.tab.take k) i ∧ rd (Cal.tab.take k) i ≤ 31 := by decide +kernel
  exact this k hk i hi
theorem dateOf_loop (y m n : Int) (k : Nat) (hk : k < 12) (hm : m = k + 1) (r : Int) (hy : 0 ≤ y) (hy' : y ≤ 100000) (hn : -1000 ≤ n) (hn' : n ≤ 1000) (hr : r = Cal.yearDay y + Cal.cum y k + n - 1) : ∀ (d i : Nat), i + d = k → Ev (fun f => mastref2_dateOf.l0 f y m n ((Cal.tab.take k).take i).sum (Cal.tab.take k) ((Cal.tab.take k).length : Int) (i : Int)) r := by
  have hl : (Cal.tab.take k).length = k := by rw [List.length_take]; show min k 12 = k; omega
  have hyd : -100000000 ≤ Cal.yearDay y ∧ Cal.yearDay y ≤ 100000000 := by unfold Cal.yearDay; omega
  intro d
  induction d with
  | zero =>
    intro i hi
    obtain rfl : i = k := by omega
    have ht := Cal.tab_cum y i hk
    have hc := cum_bd y i
    have hts : (Cal.tab.take i).take i = Cal.tab.take i := List.take_of_length_le (by omega)
    rw [hts]
    obtain ⟨s, hs⟩ : ∃ s, (Cal.tab.take i).sum = s := ⟨_, rfl⟩
    rw [hs] at ht ⊢
    refine Ev.step (f := fun _ => some r) (fun f => ?_) (Ev.now _)
    simp only [mastref2_dateOf.l0]
    rw [if_neg (by omega)]
    by_cases h2 : m > 2
    · rw [if_pos h2, leap2_f y hy]
      rw [if_pos (by omega)] at ht
      simp only [Option.bind_some]
      cases hlp : Cal.leap y with
      | true =>
        rw [hlp, if_pos rfl] at ht
        rw [if_pos rfl, yearDay_f y hy hy']
        simp only [Option.bind_some]
        simp (disch := omega) only [w64]
        congr 1
        omega
      | false =>
        rw [hlp, if_neg (by simp)] at ht
        rw [if_neg (by simp), yearDay_f y hy hy']
        simp only [Option.bind_some]
        simp (disch := omega) only [w64]
        congr 1
        omega
    · rw [if_neg h2, yearDay_f y hy hy']
      rw [if_neg (by omega)] at ht
      simp only [Option.bind_some]
      simp (disch := omega) only [w64]
      congr 1
      omega
  | succ d ih =>
    intro i hi
    obtain ⟨t1, t2, t3, t4, t5⟩ := take_sum k i (by omega) (by omega)
    refine Ev.step (fun f => ?_) (ih (i + 1) (by omega))
    simp only [mastref2_dateOf.l0]
    rw [if_pos (by omega), if_pos (by omega), if_pos (by omega), w64 (x := (i : Int) + 1) (by omega) (by omega), t1]
    have e : wrap64 (((Cal.tab.take k).take i).sum + rd (Cal.tab.take k) (i : Int)) = ((Cal.tab.take k).take i).sum + rd (Cal.tab.take k) (i : Int) := w64 (by omega) (by omega)
    rw [e]
    rfl
theorem dateOf_f (y m n : Int) (hy : 1000 ≤ y) (hy' : y ≤ 10000) (hm : -5000 ≤ m) (hm' : m ≤ 5000) (hn : -1000 ≤ n) (hn' : n ≤ 1000) :
    Ev (fun f => mastref2_dateOf.f f y m n) (Cal.yearDay (y + (m - 1) / 12) + Cal.cum (y + (m - 1) / 12) ((m - 1) % 12).toNat + n - 1) := by
  have e1 : wrap64 (m - 1) = m - 1 := w64 (by omega) (by omega)
  have l := dateOf_loop (y + (m - 1) / 12) ((m - 1) % 12 + 1) n ((m - 1) % 12).toNat (by omega) (by omega) _ (by omega) (by omega) hn hn' rfl ((m - 1) % 12).toNat 0 (by omega)
  refine Ev.congr (fun f => ?_) l
  unfold mastref2_dateOf.f
  rw [e1, floor_f _ _ (by omega) (by omega) (by omega)]
  simp only [Option.bind_some]
  have e2 : wrap64 (12 * ((m - 1) / 12)) = 12 * ((m - 1) / 12) := w64 (by omega) (by omega)
  have e3 : wrap64 (m - 12 * ((m - 1) / 12)) = (m - 1) % 12 + 1 := by rw [w64 (by omega) (by omega)]; omega
  have e4 : wrap64 ((m - 1) % 12 + 1 - 1) = (m - 1) % 12 := by rw [w64 (by omega) (by omega)]; omega
  have e5 : wrap64 (y + (m - 1) / 12) = y + (m - 1) / 12 := w64 (by omega) (by omega)
  rw [e2, e3, e4, e5, if_pos (by omega), if_pos (by show (m - 1) % 12 ≤ 12; omega)]
  rfl
theorem dayOf2_in (y m d : Int) (k : Nat) (hy : 1970 ≤ y) (hy' : y ≤ 2199) (hk : k < 12) (hm : m = k + 1) (hd : 1 ≤ d) (hd' : d ≤ Cal.mdays y m) : Ev (fun f => mastref2_DayOf.f f y m d) (Cal.before y + d - 1 + Cal.cum y k, 0) := by
  have hmd := Cal.mdays_lo y m
  have hc := cum_bd y k
  have l := dateOf_f y m d (by omega) (by omega) (by omega) (by omega) (by omega) (by omega)
  rw [show y + (m - 1) / 12 = y from by omega, show ((m - 1) % 12).toNat = k from by omega] at l
  have hyd : -100000 ≤ Cal.yearDay y ∧ Cal.yearDay y ≤ 100000 := by unfold Cal.yearDay; omega
  have p := Cal.parts_date y m d k hy hy' hk hm hd hd'
  refine Ev.congr (f := fun f => mastref2_DayOf.j0 f y m d (decide (d > 31))) (fun f => ?_) ?_
  · unfold mastref2_DayOf.f
    rw [if_neg (by omega), if_neg (by omega), if_neg (by omega), if_neg (by omega), if_neg (by omega)]
  · refine Ev.step (fun f => by simp only [mastref2_DayOf.j0]; rw [if_neg (by simp; omega)]) ?_
    refine Ev.bind l (Ev.congr (f := fun _ => some _) (fun f => ?_) (Ev.now _))
    unfold mastref2_date_number.f
    rw [parts_f _ (by omega) (by omega), p]
    simp only [Option.bind_some]
    rw [if_pos trivial, w64 (by omega) (by omega), Cal.before_yearDay]
    congr 2
    omega
theorem dayOf2_bad (y m d : Int) : ¬ (1970 ≤ y ∧ y ≤ 2199 ∧ 1 ≤ m ∧ m ≤ 12 ∧ 1 ≤ d ∧ d ≤ Cal.mdays y m) → Ev (fun f => mastref2_DayOf.f f y m d) (0, 2) := by
  intro hn
  have j : Ev (fun k => mastref2_DayOf.j0 k y m d true) (0, 2) := Ev.step (f := fun _ => some (0, 2)) (fun k => by simp only [mastref2_DayOf.j0]; rw [if_pos trivial]) (Ev.now _)
  by_cases c1 : y < 1970
  · exact Ev.congr (fun k => by unfold mastref2_DayOf.f; rw [if_pos c1]) j
  by_cases c2 : y > 2199
  · exact Ev.congr (fun k => by unfold mastref2_DayOf.f; rw [if_neg c1, if_pos c2]) j
  by_cases c3 : m < 1
  · exact Ev.congr (fun k => by unfold mastref2_DayOf.f; rw [if_neg c1, if_neg c2, if_pos c3]) j
  by_cases c4 : m > 12
  · exact Ev.congr (fun k => by unfold mastref2_DayOf.f; rw [if_neg c1, if_neg c2, if_neg c3, if_pos c4]) j
  by_cases c5 : d < 1
  · exact Ev.congr (fun k => by unfold mastref2_DayOf.f; rw [if_neg c1, if_neg c2, if_neg c3, if_neg c4, if_pos c5]) j
  by_cases c6 : d > 31
  · refine Ev.congr (f := fun n => mastref2_DayOf.j0 n y m d true) (fun n => ?_) j
    unfold mastref2_DayOf.f
    rw [if_neg c1, if_neg c2, if_neg c3, if_neg c4, if_neg c5, decide_eq_true c6]
  have c7 : Cal.mdays y m < d := by
    by_cases c7 : Cal.mdays y m < d
    · exact c7
    · exact absurd ⟨by omega, by omega, by omega, by omega, by omega, by omega⟩ hn
  have p := Cal.parts_none y m d (m - 1).toNat (by omega) (by omega) (by omega) (by omega) (by omega) (by omega) c7
  have l := dateOf_f y m d (by omega) (by omega) (by omega) (by omega) (by omega) (by omega)
  rw [show y + (m - 1) / 12 = y from by omega, show ((m - 1) % 12).toNat = (m - 1).toNat from by omega] at l
  have hc := cum_bd y (m - 1).toNat
  have hyd : -100000 ≤ Cal.yearDay y ∧ Cal.yearDay y ≤ 100000 := by unfold Cal.yearDay; omega
  refine Ev.congr (f := fun f => mastref2_DayOf.j0 f y m d (decide (d > 31))) (fun f => ?_) ?_
  · unfold mastref2_DayOf.f
    rw [if_neg c1, if_neg c2, if_neg c3, if_neg c4, if_neg c5]
  · refine Ev.step (fun f => by simp only [mastref2_DayOf.j0]; rw [if_neg (by simp; omega)]) ?_
    refine Ev.bind l (Ev.congr (f := fun _ => some (0, 2)) (fun f => ?_) (Ev.now _))
    unfold mastref2_date_number.f
    rw [parts_f _ (by omega) (by omega)]
    simp only [Option.bind_some]
    rw [if_neg p]
theorem yearDays_f (y : Int) (h0 : 0 ≤ y) : conf_yearDays.f y = some (Cal.ydays y) := by
  unfold conf_yearDays.f Cal.ydays
  rw [leap_f y h0]
  simp only [Option.bind_some]
  cases Cal.leap y <;> rfl
theorem date_months (y : Int) (hy : 1970 ≤ y) (hy' : y ≤ 2199) (n : Int) : ∀ (e j : Nat) (r : Int), j + e = 11 → 0 ≤ r → r = n - Cal.cum y j → r < Cal.ydays y - Cal.cum y j →
    ∃ (m d : Int) (k : Nat), k < 12 ∧ m = k + 1 ∧ 1 ≤ d ∧ d ≤ Cal.mdays y m ∧ n = Cal.cum y k + d - 1 ∧ Ev (fun f => conf_date.l1 f r y ((j : Int) + 1)) (y, m, d) := by
  intro e
  induction e with
  | zero =>
    intro j r hj h0 hr hlt
    obtain rfl : j = 11 := by omega
    have h12 := Cal.cum12 y
    have hs : Cal.cum y 12 = Cal.cum y 11 + Cal.mdays y 12 := rfl
    have hm := Cal.mdays_lo y 12
    refine ⟨12, r + 1, 11, by omega, rfl, by omega, by omega, by omega, ?_⟩
    refine Ev.step (f := fun _ => some (y, 12, r + 1)) (fun f => ?_) (Ev.now _)
    simp only [conf_date.l1]
    rw [show (((11 : Nat) : Int) + 1) = 12 from rfl, monthDays_f y 12 (by omega)]
    simp only [Option.bind_some]
    rw [if_neg (by omega), w64 (by omega) (by omega)]
  | succ e ih =>
    intro j r hj h0 hr hlt
    have hm := Cal.mdays_lo y ((j : Int) + 1)
    have hs : Cal.cum y (j + 1) = Cal.cum y j + Cal.mdays y ((j : Int) + 1) := rfl
    have hc := cum_bd y j
    have hyd : Cal.ydays y ≤ 366 := by unfold Cal.ydays; split <;> omega
    by_cases hge : Cal.mdays y ((j : Int) + 1) ≤ r
    · obtain ⟨m, d, k, a1, a2, a3, a4, a5, a6⟩ := ih (j + 1) (r - Cal.mdays y ((j : Int) + 1)) (by omega) (by omega) (by omega) (by omega)
      refine ⟨m, d, k, a1, a2, a3, a4, a5, Ev.step (fun f => ?_) a6⟩
      simp only [conf_date.l1]
      rw [monthDays_f y _ (by omega)]
      simp only [Option.bind_some]
      rw [if_pos hge, w64 (x := r - Cal.mdays y ((j : Int) + 1)) (by omega) (by omega), w64 (x := (j : Int) + 1 + 1) (by omega) (by omega)]
      rfl
    · refine ⟨(j : Int) + 1, r + 1, j, by omega, rfl, by omega, by omega, by omega, ?_⟩
      refine Ev.step (f := fun _ => some (y, (j : Int) + 1, r + 1)) (fun f => ?_) (Ev.now _)
      simp only [conf_date.l1]
      rw [monthDays_f y _ (by omega)]
      simp only [Option.bind_some]
      rw [if_neg (by omega), w64 (by omega) (by omega)]
theorem date_years (n : Int) (h0 : 0 ≤ n) (h1 : n ≤ 84005) : ∀ (e : Nat) (y : Int), 1970 ≤ y → y + e = 2199 → Cal.before y ≤ n →
    ∃ (y' m d : Int) (k : Nat), 1970 ≤ y' ∧ y' ≤ 2199 ∧ k < 12 ∧ m = k + 1 ∧ 1 ≤ d ∧ d ≤ Cal.mdays y' m ∧ n = Cal.before y' + Cal.cum y' k + d - 1 ∧ Ev (fun f => conf_date.l0 f n y) (y', m, d) := by
  have hyd : ∀ y, 365 ≤ Cal.ydays y ∧ Cal.ydays y ≤ 366 := fun y => by unfold Cal.ydays; split <;> omega
  have stop : ∀ y, 1970 ≤ y → y ≤ 2199 → Cal.before y ≤ n → n < Cal.before y + Cal.ydays y →
      ∃ (y' m d : Int) (k : Nat), 1970 ≤ y' ∧ y' ≤ 2199 ∧ k < 12 ∧ m = k + 1 ∧ 1 ≤ d ∧ d ≤ Cal.mdays y' m ∧ n = Cal.before y' + Cal.cum y' k + d - 1 ∧ Ev (fun f => conf_date.l0 f n y) (y', m, d) := by
    intro y a b c d
    have hyy := hyd y
    have hbb : 0 ≤ Cal.before y ∧ Cal.before y ≤ 1000000 := by unfold Cal.before; omega
    obtain ⟨m, dd, k, e1, e2, e3, e4, e5, e6⟩ := date_months y a b (n - Cal.before y) 11 0 (n - Cal.before y) (by omega) (by omega) (by simp [Cal.cum]) (by simp [Cal.cum]; omega)
    refine ⟨y, m, dd, k, a, b, e1, e2, e3, e4, by omega, Ev.step (fun f => ?_) e6⟩
    simp only [conf_date.l0]
    rw [before_f y (by omega) (by omega), yearDays_f y (by omega)]
    simp only [Option.bind_some]
    rw [w64 (x := Cal.before y + Cal.ydays y) (by omega) (by omega), if_neg (by omega), w64 (x := n - Cal.before y) (by omega) (by omega)]
    rfl
  intro e
  induction e with
  | zero =>
    intro y a b c
    obtain rfl : y = 2199 := by omega
    exact stop 2199 (by omega) (by omega) c (by have e : Cal.before 2199 + Cal.ydays 2199 = 84006 := by decide +kernel
                                                omega)
  | succ e ih =>
    intro y a b c
    have hyy := hyd y
    have hbb : 0 ≤ Cal.before y ∧ Cal.before y ≤ 1000000 := by unfold Cal.before; omega
    have hs := Cal.before_succ y
    by_cases hge : Cal.before y + Cal.ydays y ≤ n
    · obtain ⟨y', m, d, k, e1, e2, e3, e4, e5, e6, e7, e8⟩ := ih (y + 1) (by omega) (by omega) (by omega)
      refine ⟨y', m, d, k, e1, e2, e3, e4, e5, e6, e7, Ev.step (fun f => ?_) e8⟩
      simp only [conf_date.l0]
      rw [before_f y (by omega) (by omega), yearDays_f y (by omega)]
      simp only [Option.bind_some]
      rw [w64 (x := Cal.before y + Cal.ydays y) (by omega) (by omega), if_pos (by omega), w64 (x := y + 1) (by omega) (by omega)]
    · exact stop y a (by omega) c (by omega)
/-- The date of a day. -/
theorem date_f (n : Int) (h0 : 0 ≤ n) (h1 : n ≤ 84005) :
    ∃ (y m d : Int) (k : Nat), 1970 ≤ y ∧ y ≤ 2199 ∧ k < 12 ∧ m = k + 1 ∧ 1 ≤ d ∧ d ≤ Cal.mdays y m ∧ n = Cal.before y + Cal.cum y k + d - 1 ∧ Ev (fun f => conf_date.f f n) (y, m, d) := by
  have e : wrap64 (1970 + wrap64 (Int.tdiv n 366)) = 1970 + n / 366 := by rw [Cal.tdiv_pos h0]; simp (disch := omega) only [w64]
  obtain ⟨y, m, d, k, a1, a2, a3, a4, a5, a6, a7, a8⟩ := date_years n h0 h1 (2199 - (1970 + n / 366)).toNat (1970 + n / 366) (by omega) (by omega) (by unfold Cal.before; omega)
  refine ⟨y, m, d, k, a1, a2, a3, a4, a5, a6, a7, Ev.congr (fun f => ?_) a8⟩
  unfold conf_date.f
  rw [e]
theorem badDay_f (n : Int) : conf_badDay.f n = some (!(decide (0 ≤ n ∧ n ≤ 84005))) := by
  unfold conf_badDay.f
  by_cases h : n < 0
  · rw [if_pos h]; simp; omega
  · rw [if_neg h]; congr 1; by_cases h2 : n > 84005 <;> simp [h2] <;> omega
theorem isDay_f (n : Int) : mastref2_IsDay.f n = some (decide (0 ≤ n ∧ n ≤ 84005)) := by
  unfold mastref2_IsDay.f
  by_cases h : n ≥ 0
  · rw [if_pos h]; congr 1; by_cases h2 : n ≤ 84005 <;> simp [h2] <;> omega
  · rw [if_neg h]; simp; omega
/-- The first day of the next month. -/
theorem next_first (y m : Int) : Cal.yearDay (y + m / 12) + Cal.cum (y + m / 12) (m % 12).toNat = Cal.yearDay (y + (m - 1) / 12) + Cal.cum (y + (m - 1) / 12) ((m - 1) % 12).toNat + Cal.mdays (y + (m - 1) / 12) ((m - 1) % 12 + 1) := by
  by_cases h : m % 12 = 0
  · have e1 : (m - 1) / 12 = m / 12 - 1 := by omega
    have e2 : (m - 1) % 12 = 11 := by omega
    rw [h, e1, e2]
    obtain ⟨Y, hY⟩ : ∃ Y, y + (m / 12 - 1) = Y := ⟨_, rfl⟩
    rw [hY, show y + m / 12 = Y + 1 from by omega]
    have s := Cal.before_succ Y
    rw [Cal.before_yearDay, Cal.before_yearDay] at s
    have c := Cal.cum12 Y
    have c' : Cal.cum Y 12 = Cal.cum Y 11 + Cal.mdays Y 12 := rfl
    show Cal.yearDay (Y + 1) + Cal.cum (Y + 1) 0 = Cal.yearDay Y + Cal.cum Y 11 + Cal.mdays Y 12
    simp only [Cal.cum]
    simp only [Cal.cum] at c c'
    omega
  · have e1 : (m - 1) / 12 = m / 12 := by omega
    have e2 : (m % 12).toNat = ((m - 1) % 12).toNat + 1 := by omega
    rw [e1, e2]
    simp only [Cal.cum]
    rw [show ((((m - 1) % 12).toNat : Nat) : Int) = (m - 1) % 12 from by omega]
    omega
theorem later (y m d : Int) (k : Nat) (b : Int) (hy : 1970 ≤ y) (hy' : y ≤ 2199) (hk : k < 12) (hm : m = k + 1) (hd : 1 ≤ d) (hd' : d ≤ Cal.mdays y m) (hb : -3000 ≤ b) (hb' : b ≤ 3000) :
    ∃ r c, Ev (fun f => conf_DayOf.f f (y + (m + b - 1) / 12) ((m + b - 1) % 12 + 1) (mn d (Cal.mdays (y + (m + b - 1) / 12) ((m + b - 1) % 12 + 1)))) (r, c) ∧ Ev (fun f => mastref2_DayOf.f f (y + (m + b - 1) / 12) ((m + b - 1) % 12 + 1) (mn d (Cal.mdays (y + (m + b - 1) / 12) ((m + b - 1) % 12 + 1)))) (r, c) ∧
      (¬ (1970 ≤ y + (m + b - 1) / 12 ∧ y + (m + b - 1) / 12 ≤ 2199) → r = 0 ∧ c = 2) := by
  obtain ⟨Y, hY⟩ : ∃ Y, y + (m + b - 1) / 12 = Y := ⟨_, rfl⟩
  obtain ⟨M, hM⟩ : ∃ M, (m + b - 1) % 12 + 1 = M := ⟨_, rfl⟩
  rw [hY, hM]
  have hmd := Cal.mdays_lo Y M
  have hmn : 1 ≤ mn d (Cal.mdays Y M) ∧ mn d (Cal.mdays Y M) ≤ Cal.mdays Y M := by unfold mn; split <;> omega
  by_cases h : 1970 ≤ Y ∧ Y ≤ 2199
  · exact ⟨_, _, dayOf_in Y M _ (M - 1).toNat h.1 h.2 (by omega) (by omega) hmn.1 hmn.2, dayOf2_in Y M _ (M - 1).toNat h.1 h.2 (by omega) (by omega) hmn.1 hmn.2, fun hn => absurd h hn⟩
  · exact ⟨0, 2, dayOf_bad Y M _ (fun z => h ⟨z.1, z.2.1⟩), dayOf2_bad Y M _ (fun z => h ⟨z.1, z.2.1⟩), fun _ => ⟨rfl, rfl⟩⟩
theorem both (n b : Int) : ∃ r c, Ev (fun f => conf_AddMonths.f f n b) (r, c) ∧ Ev (fun f => mastref2_LaterOf.f f n b) (r, c) := by
  have bad1 : Ev (fun f => conf_AddMonths.j0 f n b true) (0, 2) := Ev.step (f := fun _ => some (0, 2)) (fun k => by simp only [conf_AddMonths.j0]; rw [if_pos trivial]) (Ev.now _)
  have bad2 : Ev (fun f => mastref2_LaterOf.j0 f n b true) (0, 2) := Ev.step (f := fun _ => some (0, 2)) (fun k => by simp only [mastref2_LaterOf.j0]; rw [if_pos trivial]) (Ev.now _)
  by_cases hn : 0 ≤ n ∧ n ≤ 84005
  case neg =>
    exact ⟨0, 2, Ev.congr (fun k => by unfold conf_AddMonths.f; rw [badDay_f, decide_eq_false hn]; rfl) bad1, Ev.congr (fun k => by unfold mastref2_LaterOf.f; rw [isDay_f, decide_eq_false hn]; rfl) bad2⟩
  by_cases h1 : b < -3000
  · exact ⟨0, 2, Ev.congr (fun k => by unfold conf_AddMonths.f; rw [badDay_f, decide_eq_true hn]; simp only [Option.bind_some]; rw [if_neg (by simp), if_pos h1]) bad1, Ev.congr (fun k => by unfold mastref2_LaterOf.f; rw [isDay_f, decide_eq_true hn]; simp only [Option.bind_some]; rw [if_pos trivial, if_pos h1]) bad2⟩
  by_cases h2 : b > 3000
  · exact ⟨0, 2, Ev.congr (fun k => by unfold conf_AddMonths.f; rw [badDay_f, decide_eq_true hn]; simp only [Option.bind_some]; rw [if_neg (by simp), if_neg h1, decide_eq_true h2]) bad1, Ev.congr (fun k => by unfold mastref2_LaterOf.f; rw [isDay_f, decide_eq_true hn]; simp only [Option.bind_some]; rw [if_pos trivial, if_neg h1, decide_eq_true h2]) bad2⟩
  obtain ⟨y, m, d, k, a1, a2, a3, a4, a5, a6, a7, a8⟩ := date_f n hn.1 hn.2
  obtain ⟨r, c, e1, e2, e3⟩ := later y m d k b a1 a2 a3 a4 a5 a6 (by omega) (by omega)
  have hc := cum_bd y k
  have hmd := Cal.mdays_lo y m
  have q1 : wrap64 (wrap64 (wrap64 (wrap64 (12 * y) + m) - 1) + b) = 12 * y + m - 1 + b := by simp (disch := omega) only [w64]
  have q2 : wrap64 (Int.tdiv (12 * y + m - 1 + b) 12) = y + (m + b - 1) / 12 := by rw [Cal.tdiv_pos (by omega), w64 (by omega) (by omega)]; omega
  have q3 : wrap64 (Int.tmod (12 * y + m - 1 + b) 12 + 1) = (m + b - 1) % 12 + 1 := by rw [Cal.tmod_pos (by omega), w64 (by omega) (by omega)]; omega
  refine ⟨r, c, ?_, ?_⟩
  · refine Ev.congr (f := fun f => conf_AddMonths.j0 f n b false) (fun f => by unfold conf_AddMonths.f; rw [badDay_f, decide_eq_true hn]; simp only [Option.bind_some]; rw [if_neg (by simp), if_neg h1, decide_eq_false h2]) ?_
    refine Ev.step (fun f => by simp only [conf_AddMonths.j0]; rw [if_neg (by simp)]) ?_
    refine Ev.bind a8 ?_
    simp only [q1, q2, q3]
    have fin : ∀ t : Bool, (t = true → r = 0 ∧ c = 2) → Ev (fun f => conf_AddMonths.j1 f (y + (m + b - 1) / 12) ((m + b - 1) % 12 + 1) d t) (r, c) := by
      intro t ht
      cases t with
      | true =>
        obtain ⟨rfl, rfl⟩ := ht rfl
        exact Ev.step (f := fun _ => some (0, 2)) (fun f => by simp only [conf_AddMonths.j1]; rw [if_pos trivial]) (Ev.now _)
      | false =>
        refine Ev.step (f := fun f => (conf_DayOf.f f (y + (m + b - 1) / 12) ((m + b - 1) % 12 + 1) (mn d (Cal.mdays (y + (m + b - 1) / 12) ((m + b - 1) % 12 + 1)))).bind fun z => some (z.1, z.2)) (fun f => by simp only [conf_AddMonths.j1]; rw [if_neg (by simp), monthDays_f _ _ (by omega)]; rfl) ?_
        exact Ev.bind e1 (Ev.now _)
    by_cases c1 : y + (m + b - 1) / 12 < 1970
    · exact Ev.congr (fun f => by rw [if_pos c1]) (fin true (fun _ => e3 (by omega)))
    · exact Ev.congr (fun f => by rw [if_neg c1]) (fin _ (fun h => e3 (by have := of_decide_eq_true h; omega)))
  · refine Ev.congr (f := fun f => mastref2_LaterOf.j0 f n b false) (fun f => by unfold mastref2_LaterOf.f; rw [isDay_f, decide_eq_true hn]; simp only [Option.bind_some]; rw [if_pos trivial, if_neg h1, decide_eq_false h2]) ?_
    have p := Cal.parts_date y m d k a1 a2 a3 a4 a5 a6
    have pf := Cal.parts_first (y + (m + b - 1) / 12) ((m + b - 1) % 12 + 1) ((m + b - 1) % 12).toNat (by omega) (by omega) (by omega) (by omega)
    have q4 : wrap64 (n - 11323) = Cal.yearDay y + Cal.cum y k + d - 1 := by rw [w64 (by omega) (by omega), a7, Cal.before_yearDay]; omega
    have q5 : wrap64 (m + b) = m + b := w64 (by omega) (by omega)
    have q6 : wrap64 (m + b + 1) = m + b + 1 := w64 (by omega) (by omega)
    have hyd : -100000 ≤ Cal.yearDay y ∧ Cal.yearDay y ≤ 100000 := by unfold Cal.yearDay; omega
    have hyd2 : -300000 ≤ Cal.yearDay (y + (m + b - 1) / 12) ∧ Cal.yearDay (y + (m + b - 1) / 12) ≤ 300000 := by unfold Cal.yearDay; omega
    have hc2 := cum_bd (y + (m + b - 1) / 12) ((m + b - 1) % 12).toNat
    have hmd2 := Cal.mdays_lo (y + (m + b - 1) / 12) ((m + b - 1) % 12 + 1)
    have l1 := dateOf_f y (m + b) 1 (by omega) (by omega) (by omega) (by omega) (by omega) (by omega)
    have l2 := dateOf_f y (m + b + 1) 1 (by omega) (by omega) (by omega) (by omega) (by omega) (by omega)
    have nf := next_first y (m + b)
    rw [show m + b + 1 - 1 = m + b from by omega, nf] at l2
    refine Ev.step (fun f => by simp only [mastref2_LaterOf.j0]; rw [if_neg (by simp)]) ?_
    have D : mastref2_DateOfDay.f n = some (y, m, d) := by
      unfold mastref2_DateOfDay.f
      rw [q4, parts_f _ (by omega) (by omega), p]
      rfl
    rw [D]
    simp only [Option.bind_some, q5, q6]
    refine Ev.bind l1 (Ev.bind l2 ?_)
    have P : mastref2_date_parts.f (Cal.yearDay (y + (m + b - 1) / 12) + Cal.cum (y + (m + b - 1) / 12) ((m + b - 1) % 12).toNat + 1 - 1) = some (y + (m + b - 1) / 12, (m + b - 1) % 12 + 1, 1) := by
      rw [parts_f _ (by omega) (by omega), ← pf]
      congr 2
      omega
    rw [P]
    simp only [Option.bind_some]
    have q7 : wrap64 (Cal.yearDay (y + (m + b - 1) / 12) + Cal.cum (y + (m + b - 1) / 12) ((m + b - 1) % 12).toNat + Cal.mdays (y + (m + b - 1) / 12) ((m + b - 1) % 12 + 1) + 1 - 1 - (Cal.yearDay (y + (m + b - 1) / 12) + Cal.cum (y + (m + b - 1) / 12) ((m + b - 1) % 12).toNat + 1 - 1)) = Cal.mdays (y + (m + b - 1) / 12) ((m + b - 1) % 12 + 1) := by
      rw [w64 (by omega) (by omega)]
      omega
    rw [q7]
    exact Ev.bind e2 (Ev.now _)
end Go.Proofs.Ytmjfjjnmdljkeaa.Pure.DayMonths
namespace Go.Proofs.Ytmjfjjnmdljkeaa.Pure
open Go.RowKit Go.Proofs.Ytmjfjjnmdljkeaa Go.Proofs.Ytmjfjjnmdljkeaa.GDayMonths Go.Proofs.YtmjfjjnmdljkeaaW.PrintWords Go.Proofs.YtmjfjjnmdljkeaaW.PrintLast
/-- The pure statement. -/
theorem DayMonths : mastlaw2_DayMonths.Pure := by
  intro n b _ _
  refine Ev.rounds (g := fun k => mastlaw2_DayMonths.f k n b) ?_
  unfold mastlaw2_DayMonths.f
  obtain ⟨r, c, e1, e2⟩ := DayMonths.both n b
  refine Ev.bind e1 (Ev.bind e2 (Ev.congr (f := fun _ => some true) (fun k => ?_) (Ev.now _)))
  rw [if_pos rfl]
  simp
end Go.Proofs.Ytmjfjjnmdljkeaa.Pure
