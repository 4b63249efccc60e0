/- The day of a year, month and number is the reference's, with the same errors. Conditions: none. -/
import Derived.Test.YtmjfjjnmdljkeaaGDayCountsOp
import Derived.Test.YtmjfjjnmdljkeaaCal
namespace Go.Proofs.Ytmjfjjnmdljkeaa.Pure.DayCounts
open Go.RowKit Go.Proofs.Ytmjfjjnmdljkeaa Go.Proofs.Ytmjfjjnmdljkeaa.GDayCounts Go.Proofs.YtmjfjjnmdljkeaaW.PrintWords Go.Proofs.YtmjfjjnmdljkeaaW.PrintLast

theorem w64 {x : Int} (h0 : -9223372036854775808 ≤ x) (h1 : x < 9223372036854775808) : wrap64 x = x := by unfold wrap64; omega

/-! The program -/
theorem leap_f (y : Int) (h0 : 0 ≤ y) : conf_leap.f y = some (Cal.leap y) := by
  unfold conf_leap.f Cal.leap
  rw [Cal.tmod_pos h0, Cal.tmod_pos h0, Cal.tmod_pos h0]
  by_cases h4 : y % 4 = 0 <;> by_cases h1 : y % 100 = 0 <;> simp [h4, h1]
theorem monthDays_f (y m : Int) (h0 : 0 ≤ y) : conf_monthDays.f y m = some (Cal.mdays y m) := by
  unfold conf_monthDays.f Cal.mdays
  rw [leap_f y h0]
  simp only [Option.bind_some]
  cases Cal.leap y <;> simp <;> repeat' split
  all_goals (first | rfl | simp_all)
theorem before_f (y : Int) (h0 : 1 ≤ y) (h1 : y ≤ 100000) : conf_before.f y = some (Cal.before y) := by
  unfold conf_before.f Cal.before
  have e1 : wrap64 (y - 1) = y - 1 := w64 (by omega) (by omega)
  rw [e1, Cal.tdiv_pos (by omega), Cal.tdiv_pos (by omega), Cal.tdiv_pos (by omega)]
  simp (disch := omega) only [w64]
theorem cum_bd (y : Int) : ∀ k, 0 ≤ Cal.cum y k ∧ Cal.cum y k ≤ 31 * k
  | 0 => by simp [Cal.cum]
  | k + 1 => by
    have := cum_bd y k
    have := Cal.mdays_lo y (k + 1)
    simp only [Cal.cum]
    omega
theorem dayOf_loop (y b : Int) (h0 : 0 ≤ y) (hb : -10000000 ≤ b) (hb' : b ≤ 10000000) : ∀ (d j : Nat), j + d ≤ 100 → Ev (fun k => conf_dayOf.l0 k y ((j + d : Nat) + 1) (b + Cal.cum y j) ((j : Int) + 1)) (b + Cal.cum y (j + d), true) := by
  intro d
  induction d with
  | zero =>
    intro j hj
    exact Ev.step (f := fun _ => some (b + Cal.cum y j, true)) (fun k => by simp only [conf_dayOf.l0]; rw [if_neg (by omega)]) (Ev.now _)
  | succ d ih =>
    intro j hj
    have hc := cum_bd y j
    have hm := Cal.mdays_lo y ((j : Int) + 1)
    have e : b + Cal.cum y j + Cal.mdays y ((j : Int) + 1) = b + Cal.cum y (j + 1) := by simp only [Cal.cum]; omega
    have i := ih (j + 1) (by omega)
    rw [show j + 1 + d = j + (d + 1) from by omega] at i
    refine Ev.step (fun k => ?_) i
    simp only [conf_dayOf.l0]
    rw [if_pos (by omega), monthDays_f y _ h0]
    simp only [Option.bind_some]
    rw [w64 (by omega) (by omega), w64 (by omega) (by omega), e]
    rfl
theorem dayOf_in (y m d : Int) (k : Nat) (hy : 1970 ≤ y) (hy' : y ≤ 2199) (hk : k < 12) (hm : m = k + 1) (hd : 1 ≤ d) (hd' : d ≤ Cal.mdays y m) : Ev (fun k => conf_DayOf.f k y m d) (Cal.before y + d - 1 + Cal.cum y k, 0) := by
  have hb : -1000000 ≤ Cal.before y ∧ Cal.before y ≤ 1000000 := by unfold Cal.before; omega
  have hmd := Cal.mdays_lo y m
  have l := dayOf_loop y (Cal.before y + d - 1) (by omega) (by omega) (by omega) k 0 (by omega)
  simp only [Nat.zero_add, Cal.cum] at l
  rw [← hm] at l
  have e : Ev (fun k => conf_dayOf.f k y m d) (Cal.before y + d - 1 + Cal.cum y k, true) := by
    refine Ev.congr (f := fun n => conf_dayOf.j0 n y m d (decide (d > Cal.mdays y m))) (fun n => ?_) ?_
    · unfold conf_dayOf.f
      rw [if_neg (by omega), if_neg (by omega), if_neg (by omega), if_neg (by omega), if_neg (by omega), monthDays_f y m (by omega)]
      rfl
    · refine Ev.step (fun n => ?_) l
      simp only [conf_dayOf.j0]
      rw [if_neg (by simp; omega), before_f y (by omega) (by omega)]
      simp only [Option.bind_some]
      simp (disch := omega) only [w64]
      simp
  unfold conf_DayOf.f
  exact Ev.bind e (Ev.congr (fun n => by rw [if_pos rfl]) (Ev.now _))
theorem dayOf_bad (y m d : Int) : ¬ (1970 ≤ y ∧ y ≤ 2199 ∧ 1 ≤ m ∧ m ≤ 12 ∧ 1 ≤ d ∧ d ≤ Cal.mdays y m) → Ev (fun k => conf_DayOf.f k y m d) (0, 2) := by
  intro hn
  have e : Ev (fun k => conf_dayOf.f k y m d) (0, false) := by
    have j : Ev (fun k => conf_dayOf.j0 k y m d true) (0, false) := Ev.step (f := fun _ => some (0, false)) (fun k => by simp only [conf_dayOf.j0]; rw [if_pos trivial]) (Ev.now _)
    by_cases c1 : y < 1970
    · exact Ev.congr (fun k => by unfold conf_dayOf.f; rw [if_pos c1]) j
    by_cases c2 : y > 2199
    · exact Ev.congr (fun k => by unfold conf_dayOf.f; rw [if_neg c1, if_pos c2]) j
    by_cases c3 : m < 1
    · exact Ev.congr (fun k => by unfold conf_dayOf.f; rw [if_neg c1, if_neg c2, if_pos c3]) j
    by_cases c4 : m > 12
    · exact Ev.congr (fun k => by unfold conf_dayOf.f; rw [if_neg c1, if_neg c2, if_neg c3, if_pos c4]) j
    by_cases c5 : d < 1
    · exact Ev.congr (fun k => by unfold conf_dayOf.f; rw [if_neg c1, if_neg c2, if_neg c3, if_neg c4, if_pos c5]) j
    have c6 : d > Cal.mdays y m := by
      by_cases c6 : d > Cal.mdays y m
      · exact c6
      · exact absurd ⟨by omega, by omega, by omega, by omega, by omega, by omega⟩ hn
    refine Ev.congr (f := fun n => conf_dayOf.j0 n y m d true) (fun n => ?_) j
    unfold conf_dayOf.f
    rw [if_neg c1, if_neg c2, if_neg c3, if_neg c4, if_neg c5, monthDays_f y m (by omega)]
    simp only [Option.bind_some, decide_eq_true c6]
  unfold conf_DayOf.f
  exact Ev.bind e (Ev.congr (fun n => by rw [if_neg (by simp)]) (Ev.now _))
/-! The reference -/
theorem floor_f (a b : Int) (hb : b = 4 ∨ b = 100 ∨ b = 400 ∨ b = 12 ∨ b = 146097) (h0 : -1000000000 ≤ a) (h1 : a ≤ 1000000000) : mastref2_floor.f a b = some (a / b) := by
  unfold mastref2_floor.f
  rw [if_neg (by omega)]
  by_cases hp : 0 ≤ a
  · rw [Cal.tmod_pos hp, Cal.tdiv_pos hp]
    rcases hb with rfl | rfl | rfl | rfl | rfl <;> (rw [if_neg (by omega)]; congr 1; exact w64 (by omega) (by omega))
  · rw [Cal.tmod_neg' (by omega), Cal.tdiv_neg' (by omega)]
    rcases hb with rfl | rfl | rfl | rfl | rfl <;> (split <;> (congr 1; first | (rw [w64 (by omega) (by omega)]; omega) | (rw [w64 (x := -(_)) (by omega) (by omega), w64 (by omega) (by omega)]; omega)))
theorem parts_f (t : Int) (h0 : -500000 ≤ t) (h1 : t ≤ 500000) : mastref2_date_parts.f t = some (Cal.parts t) := by
  unfold mastref2_date_parts.f
  have e0 : wrap64 (t + 730791) = t + 730791 := w64 (by omega) (by omega)
  rw [e0, floor_f _ _ (by omega) (by omega) (by omega)]
  simp only [Option.bind_some]
  obtain ⟨r, hr⟩ : ∃ r, (t + 730791) / 146097 = r := ⟨_, rfl⟩
  obtain ⟨n, hn⟩ : ∃ n, (t + 730791) % 146097 = n := ⟨_, rfl⟩
  have bn : 0 ≤ n ∧ n ≤ 146096 := by omega
  have br : -100 ≤ r ∧ r ≤ 100 := by omega
  have e1 : wrap64 (t + 730791 - wrap64 (146097 * r)) = n := by rw [w64 (x := 146097 * r) (by omega) (by omega), w64 (by omega) (by omega)]; omega
  rw [hr, e1]
  unfold Cal.parts
  rw [hr, hn]
  clear e0 e1 hr hn
  unfold Cal.parts0
  obtain ⟨y, hy⟩ : ∃ y, Cal.inRow n = y := ⟨_, rfl⟩
  have e2 : wrap64 (Int.tdiv (wrap64 (wrap64 (wrap64 (n - wrap64 (Int.tdiv n 1460)) + wrap64 (Int.tdiv n 36524)) - wrap64 (Int.tdiv n 146096))) 365) = y := by
    rw [← hy]
    unfold Cal.inRow
    rw [Cal.tdiv_pos (a := n) (by omega), Cal.tdiv_pos (a := n) (by omega), Cal.tdiv_pos (a := n) (by omega)]
    simp (disch := omega) only [w64, Cal.tdiv_pos]
  have by_ : 0 ≤ y ∧ y ≤ 400 := by unfold Cal.inRow at hy; omega
  rw [e2, hy]
  clear e2
  unfold Cal.parts1
  obtain ⟨q, hq⟩ : ∃ q, Cal.inYear n y = q := ⟨_, rfl⟩
  have e3 : wrap64 (n - wrap64 (wrap64 (wrap64 (365 * y) + wrap64 (Int.tdiv y 4)) - wrap64 (Int.tdiv y 100))) = q := by
    rw [← hq]
    unfold Cal.inYear
    rw [Cal.tdiv_pos (a := y) (by omega), Cal.tdiv_pos (a := y) (by omega)]
    simp (disch := omega) only [w64]
  have bq : 0 ≤ q ∧ q ≤ 365 := by have := Cal.inYear_bd n bn.1 bn.2; rw [hy, hq] at this; exact this
  rw [e3, hq]
  clear e3
  unfold Cal.parts2
  obtain ⟨m, hm⟩ : ∃ m, Cal.march q = m := ⟨_, rfl⟩
  have e4 : wrap64 (Int.tdiv (wrap64 (wrap64 (5 * q) + 2)) 153) = m := by
    rw [← hm]
    unfold Cal.march
    simp (disch := omega) only [w64, Cal.tdiv_pos]
  have bm : 0 ≤ m ∧ m ≤ 11 := by unfold Cal.march at hm; omega
  rw [e4, hm]
  clear e4
  unfold Cal.parts3
  have e5 : wrap64 (m + 3) = m + 3 := w64 (by omega) (by omega)
  have e6 : wrap64 (wrap64 (q - wrap64 (Int.tdiv (wrap64 (wrap64 (153 * m) + 2)) 5)) + 1) = q - (153 * m + 2) / 5 + 1 := by simp (disch := omega) only [w64, Cal.tdiv_pos]
  have e7 : wrap64 (wrap64 (400 * r) + y) = 400 * r + y := by simp (disch := omega) only [w64]
  rw [e5, e6, e7]
  split
  · rw [w64 (x := 400 * r + y + 1) (by omega) (by omega), w64 (x := m + 3 - 12) (by omega) (by omega)]
  · rfl
theorem leap2_f (y : Int) (h0 : 0 ≤ y) : mastref2_leap.f y = some (Cal.leap y) := by
  unfold mastref2_leap.f Cal.leap
  rw [Cal.tmod_pos h0, Cal.tmod_pos h0, Cal.tmod_pos h0]
  by_cases h4 : y % 4 = 0 <;> by_cases h1 : y % 100 = 0 <;> simp [h4, h1]
theorem yearDay_f (y : Int) (h0 : 0 ≤ y) (h1 : y ≤ 100000) : mastref2_yearDay.f y = some (Cal.yearDay y) := by
  unfold mastref2_yearDay.f Cal.yearDay
  have e : wrap64 (y - 2001) = y - 2001 := w64 (by omega) (by omega)
  rw [e, floor_f _ _ (by omega) (by omega) (by omega), floor_f _ _ (by omega) (by omega) (by omega), floor_f _ _ (by omega) (by omega) (by omega)]
  simp only [Option.bind_some]
  simp (disch := omega) only [w64]
theorem take_sum (k i : Nat) (hk : k ≤ 12) (hi : i < k) : ((Cal.tab.take k).take (i + 1)).sum = ((Cal.tab.take k).take i).sum + rd (Cal.tab.take k) i ∧ 0 ≤ ((Cal.tab.take k).take i).sum ∧ ((Cal.tab.take k).take i).sum ≤ 365 ∧ 0 ≤ rd (Cal.tab.take k) i ∧ rd (Cal.tab.take k) i ≤ 31 := by
  have : ∀ k, k ≤ 12 → ∀ i, i < k → ((Cal.tab.take k).take (i + 1)).sum = ((Cal.tab.take k).take i).sum + rd (Cal.tab.take k) i ∧ 0 ≤ ((Cal.tab.take k).take i).sum ∧ ((Cal.tab.take k).take i).sum ≤ 365 ∧ 0 ≤ rd (Cal.tab.take k) i ∧ rd (Cal.tab.take k) i ≤ 31 := by decide +kernel
  exact this k hk i hi
theorem dateOf_loop (y m n : Int) (k : Nat) (hk : k < 12) (hm : m = k + 1) (r : Int) (hy : 0 ≤ y) (hy' : y ≤ 100000) (hn : -1000 ≤ n) (hn' : n ≤ 1000) (hr : r = Cal.yearDay y + Cal.cum y k + n - 1) : ∀ (d i : Nat), i + d = k → Ev (fun f => mastref2_dateOf.l0 f y m n ((Cal.tab.take k).take i).sum (Cal.tab.take k) ((Cal.tab.take k).length : Int) (i : Int)) r := by
  have hl : (Cal.tab.take k).length = k := by rw [List.length_take]; show min k 12 = k; omega
  have hyd : -100000000 ≤ Cal.yearDay y ∧ Cal.yearDay y ≤ 100000000 := by unfold Cal.yearDay; omega
  intro d
  induction d with
  | zero =>
    intro i hi
    obtain rfl : i = k := by omega
    have ht := Cal.tab_cum y i hk
    have hc := cum_bd y i
    have hts : (Cal.tab.take i).take i = Cal.tab.take i := List.take_of_length_le (by omega)
    rw [hts]
    obtain ⟨s, hs⟩ : ∃ s, (Cal.tab.take i).sum = s := ⟨_, rfl⟩
    rw [hs] at ht ⊢
    refine Ev.step (f := fun _ => some r) (fun f => ?_) (Ev.now _)
    simp only [mastref2_dateOf.l0]
    rw [if_neg (by omega)]
    by_cases h2 : m > 2
    · rw [if_pos h2, leap2_f y hy]
      rw [if_pos (by omega)] at ht
      simp only [Option.bind_some]
      cases hlp : Cal.leap y with
      | true =>
        rw [hlp, if_pos rfl] at ht
        rw [if_pos rfl, yearDay_f y hy hy']
        simp only [Option.bind_some]
        simp (disch := omega) only [w64]
        congr 1
        omega
      | false =>
        rw [hlp, if_neg (by simp)] at ht
        rw [if_neg (by simp), yearDay_f y hy hy']
        simp only [Option.bind_some]
        simp (disch := omega) only [w64]
        congr 1
        omega
    · rw [if_neg h2, yearDay_f y hy hy']
      rw [if_neg (by omega)] at ht
      simp only [Option.bind_some]
      simp (disch := omega) only [w64]
      congr 1
      omega
  | succ d ih =>
    intro i hi
    obtain ⟨t1, t2, t3, t4, t5⟩ := take_sum k i (by omega) (by omega)
    refine Ev.step (fun f => ?_) (ih (i + 1) (by omega))
    simp only [mastref2_dateOf.l0]
    rw [if_pos (by omega), if_pos (by omega), if_pos (by omega), w64 (x := (i : Int) + 1) (by omega) (by omega), t1]
    have e : wrap64 (((Cal.tab.take k).take i).sum + rd (Cal.tab.take k) (i : Int)) = ((Cal.tab.take k).take i).sum + rd (Cal.tab.take k) (i : Int) := w64 (by omega) (by omega)
    rw [e]
    rfl
theorem dateOf_f (y m n : Int) (hy : 1000 ≤ y) (hy' : y ≤ 10000) (hm : -5000 ≤ m) (hm' : m ≤ 5000) (hn : -1000 ≤ n) (hn' : n ≤ 1000) :
    Ev (fun f => mastref2_dateOf.f f y m n) (Cal.yearDay (y + (m - 1) / 12) + Cal.cum (y + (m - 1) / 12) ((m - 1) % 12).toNat + n - 1) := by
  have e1 : wrap64 (m - 1) = m - 1 := w64 (by omega) (by omega)
  have l := dateOf_loop (y + (m - 1) / 12) ((m - 1) % 12 + 1) n ((m - 1) % 12).toNat (by omega) (by omega) _ (by omega) (by omega) hn hn' rfl ((m - 1) % 12).toNat 0 (by omega)
  refine Ev.congr (fun f => ?_) l
  unfold mastref2_dateOf.f
  rw [e1, floor_f _ _ (by omega) (by omega) (by omega)]
  simp only [Option.bind_some]
  have e2 : wrap64 (12 * ((m - 1) / 12)) = 12 * ((m - 1) / 12) := w64 (by omega) (by omega)
  have e3 : wrap64 (m - 12 * ((m - 1) / 12)) = (m - 1) % 12 + 1 := by rw [w64 (by omega) (by omega)]; omega
  have e4 : wrap64 ((m - 1) % 12 + 1 - 1) = (m - 1) % 12 := by rw [w64 (by omega) (by omega)]; omega
  have e5 : wrap64 (y + (m - 1) / 12) = y + (m - 1) / 12 := w64 (by omega) (by omega)
  rw [e2, e3, e4, e5, if_pos (by omega), if_pos (by show (m - 1) % 12 ≤ 12; omega)]
  rfl
theorem dayOf2_in (y m d : Int) (k : Nat) (hy : 1970 ≤ y) (hy' : y ≤ 2199) (hk : k < 12) (hm : m = k + 1) (hd : 1 ≤ d) (hd' : d ≤ Cal.mdays y m) : Ev (fun f => mastref2_DayOf.f f y m d) (Cal.before y + d - 1 + Cal.cum y k, 0) := by
  have hmd := Cal.mdays_lo y m
  have hc := cum_bd y k
  have l := dateOf_f y m d (by omega) (by omega) (by omega) (by omega) (by omega) (by omega)
  rw [show y + (m - 1) / 12 = y from by omega, show ((m - 1) % 12).toNat = k from by omega] at l
  have hyd : -100000 ≤ Cal.yearDay y ∧ Cal.yearDay y ≤ 100000 := by unfold Cal.yearDay; omega
  have p := Cal.parts_date y m d k hy hy' hk hm hd hd'
  refine Ev.congr (f := fun f => mastref2_DayOf.j0 f y m d (decide (d > 31))) (fun f => ?_) ?_
  · unfold mastref2_DayOf.f
    rw [if_neg (by omega), if_neg (by omega), if_neg (by omega), if_neg (by omega), if_neg (by omega)]
  · refine Ev.step (fun f => by simp only [mastref2_DayOf.j0]; rw [if_neg (by simp; omega)]) ?_
    refine Ev.bind l (Ev.congr (f := fun _ => some _) (fun f => ?_) (Ev.now _))
    unfold mastref2_date_number.f
    rw [parts_f _ (by omega) (by omega), p]
    simp only [Option.bind_some]
    rw [if_pos trivial, w64 (by omega) (by omega), Cal.before_yearDay]
    congr 2
    omega
theorem dayOf2_bad (y m d : Int) : ¬ (1970 ≤ y ∧ y ≤ 2199 ∧ 1 ≤ m ∧ m ≤ 12 ∧ 1 ≤ d ∧ d ≤ Cal.mdays y m) → Ev (fun f => mastref2_DayOf.f f y m d) (0, 2) := by
  intro hn
  have j : Ev (fun k => mastref2_DayOf.j0 k y m d true) (0, 2) := Ev.step (f := fun _ => some (0, 2)) (fun k => by simp only [mastref2_DayOf.j0]; rw [if_pos trivial]) (Ev.now _)
  by_cases c1 : y < 1970
  · exact Ev.congr (fun k => by unfold mastref2_DayOf.f; rw [if_pos c1]) j
  by_cases c2 : y > 2199
  · exact Ev.congr (fun k => by unfold mastref2_DayOf.f; rw [if_neg c1, if_pos c2]) j
  by_cases c3 : m < 1
  · exact Ev.congr (fun k => by unfold mastref2_DayOf.f; rw [if_neg c1, if_neg c2, if_pos c3]) j
  by_cases c4 : m > 12
  · exact Ev.congr (fun k => by unfold mastref2_DayOf.f; rw [if_neg c1, if_neg c2, if_neg c3, if_pos c4]) j
  by_cases c5 : d < 1
  · exact Ev.congr (fun k => by unfold mastref2_DayOf.f; rw [if_neg c1, if_neg c2, if_neg c3, if_neg c4, if_pos c5]) j
  by_cases c6 : d > 31
  · refine Ev.congr (f := fun n => mastref2_DayOf.j0 n y m d true) (fun n => ?_) j
    unfold mastref2_DayOf.f
    rw [if_neg c1, if_neg c2, if_neg c3, if_neg c4, if_neg c5, decide_eq_true c6]
  have c7 : Cal.mdays y m < d := by
    by_cases c7 : Cal.mdays y m < d
    · exact c7
    · exact absurd ⟨by omega, by omega, by omega, by omega, by omega, by omega⟩ hn
  have p := Cal.parts_none y m d (m - 1).toNat (by omega) (by omega) (by omega) (by omega) (by omega) (by omega) c7
  have l := dateOf_f y m d (by omega) (by omega) (by omega) (by omega) (by omega) (by omega)
  rw [show y + (m - 1) / 12 = y from by omega, show ((m - 1) % 12).toNat = (m - 1).toNat from by omega] at l
  have hc := cum_bd y (m - 1).toNat
  have hyd : -100000 ≤ Cal.yearDay y ∧ Cal.yearDay y ≤ 100000 := by unfold Cal.yearDay; omega
  refine Ev.congr (f := fun f => mastref2_DayOf.j0 f y m d (decide (d > 31))) (fun f => ?_) ?_
  · unfold mastref2_DayOf.f
    rw [if_neg c1, if_neg c2, if_neg c3, if_neg c4, if_neg c5]
  · refine Ev.step (fun f => by simp only [mastref2_DayOf.j0]; rw [if_neg (by simp; omega)]) ?_
    refine Ev.bind l (Ev.congr (f := fun _ => some (0, 2)) (fun f => ?_) (Ev.now _))
    unfold mastref2_date_number.f
    rw [parts_f _ (by omega) (by omega)]
    simp only [Option.bind_some]
    rw [if_neg p]
end Go.Proofs.Ytmjfjjnmdljkeaa.Pure.DayCounts
namespace Go.Proofs.Ytmjfjjnmdljkeaa.Pure
open Go.RowKit Go.Proofs.Ytmjfjjnmdljkeaa Go.Proofs.Ytmjfjjnmdljkeaa.GDayCounts Go.Proofs.YtmjfjjnmdljkeaaW.PrintWords Go.Proofs.YtmjfjjnmdljkeaaW.PrintLast
/-- The pure statement. -/
theorem DayCounts : mastlaw2_DayCounts.Pure := by
  intro y m d _ _ _
  refine Ev.rounds (g := fun k => mastlaw2_DayCounts.f k y m d) ?_
  unfold mastlaw2_DayCounts.f
  by_cases h : 1970 ≤ y ∧ y ≤ 2199 ∧ 1 ≤ m ∧ m ≤ 12 ∧ 1 ≤ d ∧ d ≤ Cal.mdays y m
  · obtain ⟨h1, h2, h3, h4, h5, h6⟩ := h
    have a := DayCounts.dayOf_in y m d (m - 1).toNat h1 h2 (by omega) (by omega) h5 h6
    have b := DayCounts.dayOf2_in y m d (m - 1).toNat h1 h2 (by omega) (by omega) h5 h6
    refine Ev.bind a (Ev.bind b (Ev.congr (f := fun _ => some true) (fun k => ?_) (Ev.now _)))
    rw [if_pos rfl]
    simp
  · refine Ev.bind (DayCounts.dayOf_bad y m d h) (Ev.bind (DayCounts.dayOf2_bad y m d h) (Ev.congr (f := fun _ => some true) (fun k => ?_) (Ev.now _)))
    rw [if_pos rfl]
    simp
end Go.Proofs.Ytmjfjjnmdljkeaa.Pure
