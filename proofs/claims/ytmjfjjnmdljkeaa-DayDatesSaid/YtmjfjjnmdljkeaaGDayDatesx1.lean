/- What the functions that a statement comes to compute, and that the machine's calls come to just that. Conditions: as each theorem states them. -/
import Derived.Test.YtmjfjjnmdljkeaaGDayDatesx0
namespace Go.Proofs.Ytmjfjjnmdljkeaa.GDayDates
open Go.RowKit Go.Proofs.YtmjfjjnmdljkeaaW.PrintWords Go.Proofs.YtmjfjjnmdljkeaaW.PrintLast Go.Proofs.YtmjfjjnmdljkeaaW.PrintMore
attribute [local go_sem] max2_int min2_int max_two min_two max_three min_three max_four min_four   -- for this text's walks alone
set_option linter.unusedVariables false
set_option linter.unusedSimpArgs false

/-! ### conf_badDay: function 63 -/
def conf_badDay.f (a0 : Int) : Option (Bool) := if a0 < 0 then (some true) else (some (decide (a0 > 84005)))
set_option maxHeartbeats 8000000 in
set_option maxRecDepth 100000 in
theorem conf_badDay.calls (a0 : Int) (r : Bool) (w : World) (h : conf_badDay.f a0 = some r) :
    Calls Try.prog 63 #[.int .i64 a0] w fun e w' => e = .returned (.bool r) ∧ Drawn0 w w' := by
  have H : (if a0 < 0 then (some true) else (some (decide (a0 > 84005)))) = some r := h
  clear h
  by_cases c2 : a0 < 0
  · rw [if_pos c2] at H
    have c2b0 : decide (a0 < 0) = true := decide_eq_true c2
    clear c2
    obtain rfl := Option.some.inj H
    go_enter Try.func63, Try.ntmps63
    go_wp2
    go_ret
    exact ⟨by first | rfl | (simp; done) | (simp [*]; done), by repeat (first | exact Drawn0.refl _ | apply Drawn0.step)⟩
  · rw [if_neg c2] at H
    have c2b0 : decide (a0 < 0) = false := decide_eq_false c2
    clear c2
    obtain rfl := Option.some.inj H
    go_enter Try.func63, Try.ntmps63
    go_wp2
    go_ret
    exact ⟨by first | rfl | (simp; done) | (simp [*]; done), by repeat (first | exact Drawn0.refl _ | apply Drawn0.step)⟩

/-! ### conf_before: function 105 -/
def conf_before.f (a0 : Int) : Option (Int) := some (wrap64 ((wrap64 ((wrap64 ((wrap64 ((wrap64 (365 * (wrap64 (a0 - 1970)))) + (wrap64 (Int.tdiv (wrap64 (a0 - 1)) 4)))) - (wrap64 (Int.tdiv (wrap64 (a0 - 1)) 100)))) + (wrap64 (Int.tdiv (wrap64 (a0 - 1)) 400)))) - 477))
set_option maxHeartbeats 8000000 in
set_option maxRecDepth 100000 in
theorem conf_before.calls (a0 : Int) (r : Int) (w : World) (h : conf_before.f a0 = some r) :
    Calls Try.prog 105 #[.int .i64 a0] w fun e w' => e = .returned (.int .i64 r) ∧ Drawn0 w w' := by
  have H : (some (wrap64 ((wrap64 ((wrap64 ((wrap64 ((wrap64 (365 * (wrap64 (a0 - 1970)))) + (wrap64 (Int.tdiv (wrap64 (a0 - 1)) 4)))) - (wrap64 (Int.tdiv (wrap64 (a0 - 1)) 100)))) + (wrap64 (Int.tdiv (wrap64 (a0 - 1)) 400)))) - 477))) = some r := h
  clear h
  obtain rfl := Option.some.inj H
  go_enter Try.func105, Try.ntmps105
  go_wp2
  go_ret
  exact ⟨by first | rfl | (simp; done) | (simp [*]; done), by repeat (first | exact Drawn0.refl _ | apply Drawn0.step)⟩

/-! ### conf_leap: function 110 -/
def conf_leap.f (a0 : Int) : Option (Bool) := if (Int.tmod a0 4) = 0 then (if (Int.tmod a0 100) = 0 then (some ((Int.tmod a0 400) == 0)) else (some true)) else (some false)
set_option maxHeartbeats 8000000 in
set_option maxRecDepth 100000 in
theorem conf_leap.calls (a0 : Int) (r : Bool) (w : World) (h : conf_leap.f a0 = some r) :
    Calls Try.prog 110 #[.int .i64 a0] w fun e w' => e = .returned (.bool r) ∧ Drawn0 w w' := by
  have H : (if (Int.tmod a0 4) = 0 then (if (Int.tmod a0 100) = 0 then (some ((Int.tmod a0 400) == 0)) else (some true)) else (some false)) = some r := h
  clear h
  by_cases c2 : (Int.tmod a0 4) = 0
  · rw [if_pos c2] at H
    have c2b0 : ((Int.tmod a0 4) == 0) = true := beq_iff_eq.mpr c2
    have c2b1 : ((Int.tmod a0 4) != 0) = false := bne_eq_false_iff_eq.mpr c2
    clear c2
    by_cases c3 : (Int.tmod a0 100) = 0
    · rw [if_pos c3] at H
      have c3b0 : ((Int.tmod a0 100) == 0) = true := beq_iff_eq.mpr c3
      have c3b1 : ((Int.tmod a0 100) != 0) = false := bne_eq_false_iff_eq.mpr c3
      clear c3
      obtain rfl := Option.some.inj H
      go_enter Try.func110, Try.ntmps110
      go_wp2
      go_ret
      exact ⟨by first | rfl | (simp; done) | (simp [*]; done), by repeat (first | exact Drawn0.refl _ | apply Drawn0.step)⟩
    · rw [if_neg c3] at H
      have c3b0 : ((Int.tmod a0 100) == 0) = false := beq_eq_false_iff_ne.mpr c3
      have c3b1 : ((Int.tmod a0 100) != 0) = true := bne_iff_ne.mpr c3
      obtain rfl := Option.some.inj H
      go_enter Try.func110, Try.ntmps110
      go_wp2
      go_ret
      exact ⟨by first | rfl | (simp; done) | (simp [*]; done), by repeat (first | exact Drawn0.refl _ | apply Drawn0.step)⟩
  · rw [if_neg c2] at H
    have c2b0 : ((Int.tmod a0 4) == 0) = false := beq_eq_false_iff_ne.mpr c2
    have c2b1 : ((Int.tmod a0 4) != 0) = true := bne_iff_ne.mpr c2
    obtain rfl := Option.some.inj H
    go_enter Try.func110, Try.ntmps110
    go_wp2
    go_ret
    exact ⟨by first | rfl | (simp; done) | (simp [*]; done), by repeat (first | exact Drawn0.refl _ | apply Drawn0.step)⟩

/-! ### conf_yearDays: function 109 -/
def conf_yearDays.f (a0 : Int) : Option (Int) := (conf_leap.f a0).bind fun t101 => (if t101 = true then (some 366) else (some 365))
set_option maxHeartbeats 8000000 in
set_option maxRecDepth 100000 in
theorem conf_yearDays.calls (a0 : Int) (r : Int) (w : World) (h : conf_yearDays.f a0 = some r) :
    Calls Try.prog 109 #[.int .i64 a0] w fun e w' => e = .returned (.int .i64 r) ∧ Drawn0 w w' := by
  have H : ((conf_leap.f a0).bind fun t101 => (if t101 = true then (some 366) else (some 365))) = some r := h
  clear h
  replace H := Option.bind_eq_some_iff.mp H
  obtain ⟨t101, A20, H⟩ := H
  replace H : (if t101 = true then (some 366) else (some 365)) = some r := H
  have A2 := Aside0.mk A20
  clear A20
  by_cases c3 : t101 = true
  · subst c3
    have H1 : (some 366) = some r := by rw [if_pos rfl] at H; exact H
    clear H
    have H := H1
    clear H1
    obtain rfl := Option.some.inj H
    go_enter Try.func109, Try.ntmps109
    go_wp2_with (first | ((with_reducible refine gate_callee (f := 110) rfl ?_); refine goesL_ (some 4) rfl rfl Try.func110 (by kernel_rfl) rfl #[.int .i64 a0] rfl (by (try simp only [List.map_toArray, List.map_cons, List.map_nil]); first | done | rfl | (simp only [List.length_drop, List.length_take]; rfl)) ?_; (with_reducible refine (conf_leap.calls a0 true _ A2.out).mono ?_); rintro e w' ⟨rfl, ⟨nd, rfl⟩⟩; refine ⟨_, rfl, ?_⟩))
    go_ret
    exact ⟨by first | rfl | (simp; done) | (simp [*]; done), by repeat (first | exact Drawn0.refl _ | apply Drawn0.step)⟩
  · replace c3 := Bool.eq_false_iff.mpr c3
    subst c3
    have H1 : (some 365) = some r := by rw [if_neg (show ¬ (false = true) by decide)] at H; exact H
    clear H
    have H := H1
    clear H1
    obtain rfl := Option.some.inj H
    go_enter Try.func109, Try.ntmps109
    go_wp2_with (first | ((with_reducible refine gate_callee (f := 110) rfl ?_); refine goesL_ (some 4) rfl rfl Try.func110 (by kernel_rfl) rfl #[.int .i64 a0] rfl (by (try simp only [List.map_toArray, List.map_cons, List.map_nil]); first | done | rfl | (simp only [List.length_drop, List.length_take]; rfl)) ?_; (with_reducible refine (conf_leap.calls a0 false _ A2.out).mono ?_); rintro e w' ⟨rfl, ⟨nd, rfl⟩⟩; refine ⟨_, rfl, ?_⟩))
    go_ret
    exact ⟨by first | rfl | (simp; done) | (simp [*]; done), by repeat (first | exact Drawn0.refl _ | apply Drawn0.step)⟩

/-! ### conf_monthDays: function 65 -/
def conf_monthDays.f (a0 : Int) (a1 : Int) : Option (Int) := if a1 = 2 then ((conf_leap.f a0).bind fun t102 => (if t102 = true then (some 29) else (some 28))) else (if a1 = 4 then (some 30) else (if a1 = 6 then (some 30) else (if a1 = 9 then (some 30) else (if a1 = 11 then (some 30) else (some 31)))))
set_option maxHeartbeats 8000000 in
set_option maxRecDepth 100000 in
theorem conf_monthDays.calls (a0 : Int) (a1 : Int) (r : Int) (w : World) (h : conf_monthDays.f a0 a1 = some r) :
    Calls Try.prog 65 #[.int .i64 a0, .int .i64 a1] w fun e w' => e = .returned (.int .i64 r) ∧ Drawn0 w w' := by
  have H : (if a1 = 2 then ((conf_leap.f a0).bind fun t102 => (if t102 = true then (some 29) else (some 28))) else (if a1 = 4 then (some 30) else (if a1 = 6 then (some 30) else (if a1 = 9 then (some 30) else (if a1 = 11 then (some 30) else (some 31)))))) = some r := h
  clear h
  by_cases c3 : a1 = 2
  · rw [if_pos c3] at H
    have c3b0 : (a1 == 2) = true := beq_iff_eq.mpr c3
    have c3b1 : (a1 != 2) = false := bne_eq_false_iff_eq.mpr c3
    clear c3
    replace H := Option.bind_eq_some_iff.mp H
    obtain ⟨t102, A40, H⟩ := H
    replace H : (if t102 = true then (some 29) else (some 28)) = some r := H
    have A4 := Aside0.mk A40
    clear A40
    by_cases c5 : t102 = true
    · subst c5
      have H1 : (some 29) = some r := by rw [if_pos rfl] at H; exact H
      clear H
      have H := H1
      clear H1
      obtain rfl := Option.some.inj H
      go_enter Try.func65, Try.ntmps65
      go_wp2_with (first | ((with_reducible refine gate_callee (f := 110) rfl ?_); refine goesL_ (some 9) rfl rfl Try.func110 (by kernel_rfl) rfl #[.int .i64 a0] rfl (by (try simp only [List.map_toArray, List.map_cons, List.map_nil]); first | done | rfl | (simp only [List.length_drop, List.length_take]; rfl)) ?_; (with_reducible refine (conf_leap.calls a0 true _ A4.out).mono ?_); rintro e w' ⟨rfl, ⟨nd, rfl⟩⟩; refine ⟨_, rfl, ?_⟩))
      go_ret
      exact ⟨by first | rfl | (simp; done) | (simp [*]; done), by repeat (first | exact Drawn0.refl _ | apply Drawn0.step)⟩
    · replace c5 := Bool.eq_false_iff.mpr c5
      subst c5
      have H1 : (some 28) = some r := by rw [if_neg (show ¬ (false = true) by decide)] at H; exact H
      clear H
      have H := H1
      clear H1
      obtain rfl := Option.some.inj H
      go_enter Try.func65, Try.ntmps65
      go_wp2_with (first | ((with_reducible refine gate_callee (f := 110) rfl ?_); refine goesL_ (some 9) rfl rfl Try.func110 (by kernel_rfl) rfl #[.int .i64 a0] rfl (by (try simp only [List.map_toArray, List.map_cons, List.map_nil]); first | done | rfl | (simp only [List.length_drop, List.length_take]; rfl)) ?_; (with_reducible refine (conf_leap.calls a0 false _ A4.out).mono ?_); rintro e w' ⟨rfl, ⟨nd, rfl⟩⟩; refine ⟨_, rfl, ?_⟩))
      go_ret
      exact ⟨by first | rfl | (simp; done) | (simp [*]; done), by repeat (first | exact Drawn0.refl _ | apply Drawn0.step)⟩
  · rw [if_neg c3] at H
    have c3b0 : (a1 == 2) = false := beq_eq_false_iff_ne.mpr c3
    have c3b1 : (a1 != 2) = true := bne_iff_ne.mpr c3
    by_cases c6 : a1 = 4
    · rw [if_pos c6] at H
      have c6b0 : (a1 == 4) = true := beq_iff_eq.mpr c6
      have c6b1 : (a1 != 4) = false := bne_eq_false_iff_eq.mpr c6
      clear c6
      obtain rfl := Option.some.inj H
      go_enter Try.func65, Try.ntmps65
      go_wp2
      go_ret
      exact ⟨by first | rfl | (simp; done) | (simp [*]; done), by repeat (first | exact Drawn0.refl _ | apply Drawn0.step)⟩
    · rw [if_neg c6] at H
      have c6b0 : (a1 == 4) = false := beq_eq_false_iff_ne.mpr c6
      have c6b1 : (a1 != 4) = true := bne_iff_ne.mpr c6
      by_cases c7 : a1 = 6
      · rw [if_pos c7] at H
        have c7b0 : (a1 == 6) = true := beq_iff_eq.mpr c7
        have c7b1 : (a1 != 6) = false := bne_eq_false_iff_eq.mpr c7
        clear c7
        obtain rfl := Option.some.inj H
        go_enter Try.func65, Try.ntmps65
        go_wp2
        go_ret
        exact ⟨by first | rfl | (simp; done) | (simp [*]; done), by repeat (first | exact Drawn0.refl _ | apply Drawn0.step)⟩
      · rw [if_neg c7] at H
        have c7b0 : (a1 == 6) = false := beq_eq_false_iff_ne.mpr c7
        have c7b1 : (a1 != 6) = true := bne_iff_ne.mpr c7
        by_cases c8 : a1 = 9
        · rw [if_pos c8] at H
          have c8b0 : (a1 == 9) = true := beq_iff_eq.mpr c8
          have c8b1 : (a1 != 9) = false := bne_eq_false_iff_eq.mpr c8
          clear c8
          obtain rfl := Option.some.inj H
          go_enter Try.func65, Try.ntmps65
          go_wp2
          go_ret
          exact ⟨by first | rfl | (simp; done) | (simp [*]; done), by repeat (first | exact Drawn0.refl _ | apply Drawn0.step)⟩
        · rw [if_neg c8] at H
          have c8b0 : (a1 == 9) = false := beq_eq_false_iff_ne.mpr c8
          have c8b1 : (a1 != 9) = true := bne_iff_ne.mpr c8
          by_cases c9 : a1 = 11
          · rw [if_pos c9] at H
            have c9b0 : (a1 == 11) = true := beq_iff_eq.mpr c9
            have c9b1 : (a1 != 11) = false := bne_eq_false_iff_eq.mpr c9
            clear c9
            obtain rfl := Option.some.inj H
            go_enter Try.func65, Try.ntmps65
            go_wp2
            go_ret
            exact ⟨by first | rfl | (simp; done) | (simp [*]; done), by repeat (first | exact Drawn0.refl _ | apply Drawn0.step)⟩
          · rw [if_neg c9] at H
            have c9b0 : (a1 == 11) = false := beq_eq_false_iff_ne.mpr c9
            have c9b1 : (a1 != 11) = true := bne_iff_ne.mpr c9
            obtain rfl := Option.some.inj H
            go_enter Try.func65, Try.ntmps65
            go_wp2
            go_ret
            exact ⟨by first | rfl | (simp; done) | (simp [*]; done), by repeat (first | exact Drawn0.refl _ | apply Drawn0.step)⟩

/-! ### conf_date: function 64 -/
mutual
def conf_date.l0 : Nat → Int → Int → Option (Int × Int × Int)
  | 0, _, _ => none
  | k + 1, x0, x2 => (conf_before.f x2).bind fun t103 => ((conf_yearDays.f x2).bind fun t104 => (if x0 ≥ (wrap64 (t103 + t104)) then (conf_date.l0 k x0 (wrap64 (x2 + 1))) else ((conf_before.f x2).bind fun t105 => (conf_date.l1 k (wrap64 (x0 - t105)) x2 1))))
def conf_date.l1 : Nat → Int → Int → Int → Option (Int × Int × Int)
  | 0, _, _, _ => none
  | k + 1, x0, x2, x3 => (conf_monthDays.f x2 x3).bind fun t106 => (if x0 ≥ t106 then ((conf_monthDays.f x2 x3).bind fun t107 => (conf_date.l1 k (wrap64 (x0 - t107)) x2 (wrap64 (x3 + 1)))) else (some (x2, x3, wrap64 (x0 + 1))))
end
def conf_date.f (k : Nat) (a0 : Int) : Option (Int × Int × Int) := conf_date.l0 k a0 (wrap64 (1970 + (wrap64 (Int.tdiv a0 366))))
theorem conf_date.mono_l : ∀ k, (∀ y0 y1, LeO (conf_date.l0 k y0 y1) (conf_date.l0 (k + 1) y0 y1)) ∧ (∀ y0 y1 y2, LeO (conf_date.l1 k y0 y1 y2) (conf_date.l1 (k + 1) y0 y1 y2))
  | 0 => ⟨fun _ _ r h => by simp [conf_date.l0] at h, fun _ _ _ r h => by simp [conf_date.l1] at h⟩
  | k + 1 => by
    obtain ⟨ih0, ih1⟩ := conf_date.mono_l k
    refine ⟨?_, ?_⟩
    · intro y0 y1
      unfold conf_date.l0
      repeat' first
      | (with_reducible exact ih0 _ _)
      | (with_reducible exact ih1 _ _ _)
      | (with_reducible exact LeO.refl _)
      | (with_reducible exact LeO.none _)
      | (with_reducible refine LeO.ite ?_ ?_)
      | (with_reducible refine LeO.bind ?_ (fun _ => ?_))
      | exact ih0 _ _
      | exact ih1 _ _ _
      | exact LeO.none _
      | refine LeO.ite ?_ ?_
      | refine LeO.bind ?_ (fun _ => ?_)
    · intro y0 y1 y2
      unfold conf_date.l1
      repeat' first
      | (with_reducible exact ih0 _ _)
      | (with_reducible exact ih1 _ _ _)
      | (with_reducible exact LeO.refl _)
      | (with_reducible exact LeO.none _)
      | (with_reducible refine LeO.ite ?_ ?_)
      | (with_reducible refine LeO.bind ?_ (fun _ => ?_))
      | exact ih0 _ _
      | exact ih1 _ _ _
      | exact LeO.none _
      | refine LeO.ite ?_ ?_
      | refine LeO.bind ?_ (fun _ => ?_)
theorem conf_date.mono : ∀ a0 k, LeO (conf_date.f k a0) (conf_date.f (k + 1) a0) := by
  intro a0 k
  obtain ⟨ih0, ih1⟩ := conf_date.mono_l k
  unfold conf_date.f
  repeat' first
      | (with_reducible exact ih0 _ _)
      | (with_reducible exact ih1 _ _ _)
      | (with_reducible exact LeO.refl _)
      | (with_reducible exact LeO.none _)
      | (with_reducible refine LeO.ite ?_ ?_)
      | (with_reducible refine LeO.bind ?_ (fun _ => ?_))
      | exact ih0 _ _
      | exact ih1 _ _ _
      | exact LeO.none _
      | refine LeO.ite ?_ ?_
      | refine LeO.bind ?_ (fun _ => ?_)
set_option maxHeartbeats 8000000 in
set_option maxRecDepth 100000 in
theorem conf_date.calls (k : Nat) (a0 : Int) (r1 : Int) (r2 : Int) (r3 : Int) (w : World) (h : conf_date.f k a0 = some (r1, r2, r3)) :
    Calls Try.prog 64 #[.int .i64 a0] w fun e w' => e = .returned (.tuple #[.int .i64 r1, .int .i64 r2, .int .i64 r3]) ∧ Drawn0 w w' := by
  have H : (conf_date.l0 k a0 (wrap64 (1970 + (wrap64 (Int.tdiv a0 366))))) = some (r1, r2, r3) := h
  clear h
  have H' := Aside0.mk H
  clear H
  go_enter Try.func64, Try.ntmps64
  go_wp2
  go_loopg [2] k (fun kq v2 w' => ∃ (x2_1 : Int), v2 = .int .i64 x2_1 ∧ Aside0 (conf_date.l0 kq a0 x2_1 = some (r1, r2, r3)) ∧ Aside0 (kq ≤ k) ∧ Drawn0 w w')
  case atStart => exact ⟨(wrap64 (1970 + (wrap64 (Int.tdiv a0 366)))), (by first | rfl | (simp; done) | (simp [*]; done)), H', ⟨Nat.le_refl _⟩, by repeat (first | exact Drawn0.refl _ | apply Drawn0.step)⟩
  case round =>
    clear H'
    obtain ⟨x2_1, rfl, HA, HK1, ⟨m1, rfl⟩⟩ := hrel
    cases gk with
    | zero => exact absurd HA.out (by simp [conf_date.l0])
    | succ k1 =>
      have H := HA.out
      clear HA
      simp only [conf_date.l0] at H
      replace H := Option.bind_eq_some_iff.mp H
      obtain ⟨t103, A20, H⟩ := H
      replace H : ((conf_yearDays.f x2_1).bind fun t104 => (if a0 ≥ (wrap64 (t103 + t104)) then (conf_date.l0 k1 a0 (wrap64 (x2_1 + 1))) else ((conf_before.f x2_1).bind fun t105 => (conf_date.l1 k1 (wrap64 (a0 - t105)) x2_1 1)))) = some (r1, r2, r3) := H
      have A2 := Aside0.mk A20
      clear A20
      replace H := Option.bind_eq_some_iff.mp H
      obtain ⟨t104, A30, H⟩ := H
      replace H : (if a0 ≥ (wrap64 (t103 + t104)) then (conf_date.l0 k1 a0 (wrap64 (x2_1 + 1))) else ((conf_before.f x2_1).bind fun t105 => (conf_date.l1 k1 (wrap64 (a0 - t105)) x2_1 1))) = some (r1, r2, r3) := H
      have A3 := Aside0.mk A30
      clear A30
      by_cases c4 : a0 ≥ (wrap64 (t103 + t104))
      · rw [if_pos c4] at H
        have c4b0 : decide ((wrap64 (t103 + t104)) ≤ a0) = true := decide_eq_true c4
        clear c4
        have H' := Aside0.mk H
        clear H
        go_wp2_with (first | ((with_reducible refine gate_callee (f := 105) rfl ?_); refine goesL_ (some 10) rfl rfl Try.func105 (by kernel_rfl) rfl #[.int .i64 x2_1] rfl (by (try simp only [List.map_toArray, List.map_cons, List.map_nil]); first | done | rfl | (simp only [List.length_drop, List.length_take]; rfl)) ?_; (with_reducible refine (conf_before.calls x2_1 t103 _ A2.out).mono ?_); rintro e w' ⟨rfl, ⟨nd, rfl⟩⟩; refine ⟨_, rfl, ?_⟩) | ((with_reducible refine gate_callee (f := 109) rfl ?_); refine goesL_ (some 12) rfl rfl Try.func109 (by kernel_rfl) rfl #[.int .i64 x2_1] rfl (by (try simp only [List.map_toArray, List.map_cons, List.map_nil]); first | done | rfl | (simp only [List.length_drop, List.length_take]; rfl)) ?_; (with_reducible refine (conf_yearDays.calls x2_1 t104 _ A3.out).mono ?_); rintro e w' ⟨rfl, ⟨nd, rfl⟩⟩; refine ⟨_, rfl, ?_⟩))
        go_roundg k1
        case measure => have := HK1.out; omega
        case rel => exact ⟨(wrap64 (x2_1 + 1)), (by first | rfl | (simp; done) | (simp [*]; done)), H', ⟨by have := HK1.out; omega⟩, by repeat (first | exact Drawn0.refl _ | apply Drawn0.step)⟩
      · rw [if_neg c4] at H
        have c4b0 : decide ((wrap64 (t103 + t104)) ≤ a0) = false := decide_eq_false c4
        clear c4
        replace H := Option.bind_eq_some_iff.mp H
        obtain ⟨t105, A50, H⟩ := H
        replace H : (conf_date.l1 k1 (wrap64 (a0 - t105)) x2_1 1) = some (r1, r2, r3) := H
        have A5 := Aside0.mk A50
        clear A50
        have H' := Aside0.mk H
        clear H
        go_wp2_with (first | ((with_reducible refine gate_callee (f := 105) rfl ?_); refine goesL_ (some 10) rfl rfl Try.func105 (by kernel_rfl) rfl #[.int .i64 x2_1] rfl (by (try simp only [List.map_toArray, List.map_cons, List.map_nil]); first | done | rfl | (simp only [List.length_drop, List.length_take]; rfl)) ?_; (with_reducible refine (conf_before.calls x2_1 t103 _ A2.out).mono ?_); rintro e w' ⟨rfl, ⟨nd, rfl⟩⟩; refine ⟨_, rfl, ?_⟩) | ((with_reducible refine gate_callee (f := 109) rfl ?_); refine goesL_ (some 12) rfl rfl Try.func109 (by kernel_rfl) rfl #[.int .i64 x2_1] rfl (by (try simp only [List.map_toArray, List.map_cons, List.map_nil]); first | done | rfl | (simp only [List.length_drop, List.length_take]; rfl)) ?_; (with_reducible refine (conf_yearDays.calls x2_1 t104 _ A3.out).mono ?_); rintro e w' ⟨rfl, ⟨nd, rfl⟩⟩; refine ⟨_, rfl, ?_⟩) | ((with_reducible refine gate_callee (f := 105) rfl ?_); refine goesL_ (some 19) rfl rfl Try.func105 (by kernel_rfl) rfl #[.int .i64 x2_1] rfl (by (try simp only [List.map_toArray, List.map_cons, List.map_nil]); first | done | rfl | (simp only [List.length_drop, List.length_take]; rfl)) ?_; (with_reducible refine (conf_before.calls x2_1 t105 _ A5.out).mono ?_); rintro e w' ⟨rfl, ⟨nd, rfl⟩⟩; refine ⟨_, rfl, ?_⟩))
        go_loopg [0, 3] k1 (fun kq v0 v3 w' => ∃ (x0_2 : Int) (x3_2 : Int), v0 = .int .i64 x0_2 ∧ v3 = .int .i64 x3_2 ∧ Aside0 (conf_date.l1 kq x0_2 x2_1 x3_2 = some (r1, r2, r3)) ∧ Aside0 (kq ≤ k1) ∧ Drawn0 w w')
        case atStart => exact ⟨(wrap64 (a0 - t105)), (1), (by first | rfl | (simp; done) | (simp [*]; done)), (by first | rfl | (simp; done) | (simp [*]; done)), H', ⟨Nat.le_refl _⟩, by repeat (first | exact Drawn0.refl _ | apply Drawn0.step)⟩
        case round =>
          clear H'
          try clear c1
          try clear p2
          try clear c4
          try clear c4b0
          obtain ⟨x0_2, x3_2, rfl, rfl, HA, HK2, ⟨m2, rfl⟩⟩ := hrel
          cases gk with
          | zero => exact absurd HA.out (by simp [conf_date.l1])
          | succ k2 =>
            have H := HA.out
            clear HA
            simp only [conf_date.l1] at H
            replace H := Option.bind_eq_some_iff.mp H
            obtain ⟨t106, A60, H⟩ := H
            replace H : (if x0_2 ≥ t106 then ((conf_monthDays.f x2_1 x3_2).bind fun t107 => (conf_date.l1 k2 (wrap64 (x0_2 - t107)) x2_1 (wrap64 (x3_2 + 1)))) else (some (x2_1, x3_2, wrap64 (x0_2 + 1)))) = some (r1, r2, r3) := H
            have A6 := Aside0.mk A60
            clear A60
            by_cases c7 : x0_2 ≥ t106
            · rw [if_pos c7] at H
              have c7b0 : decide (t106 ≤ x0_2) = true := decide_eq_true c7
              clear c7
              replace H := Option.bind_eq_some_iff.mp H
              obtain ⟨t107, A80, H⟩ := H
              replace H : (conf_date.l1 k2 (wrap64 (x0_2 - t107)) x2_1 (wrap64 (x3_2 + 1))) = some (r1, r2, r3) := H
              have A8 := Aside0.mk A80
              clear A80
              have H' := Aside0.mk H
              clear H
              go_wp2_with (first | ((with_reducible refine gate_callee (f := 65) rfl ?_); refine goesL_ (some 24) rfl rfl Try.func65 (by kernel_rfl) rfl #[.int .i64 x2_1, .int .i64 x3_2] rfl (by (try simp only [List.map_toArray, List.map_cons, List.map_nil]); first | done | rfl | (simp only [List.length_drop, List.length_take]; rfl)) ?_; (with_reducible refine (conf_monthDays.calls x2_1 x3_2 t106 _ A6.out).mono ?_); rintro e w' ⟨rfl, ⟨nd, rfl⟩⟩; refine ⟨_, rfl, ?_⟩) | ((with_reducible refine gate_callee (f := 65) rfl ?_); refine goesL_ (some 31) rfl rfl Try.func65 (by kernel_rfl) rfl #[.int .i64 x2_1, .int .i64 x3_2] rfl (by (try simp only [List.map_toArray, List.map_cons, List.map_nil]); first | done | rfl | (simp only [List.length_drop, List.length_take]; rfl)) ?_; (with_reducible refine (conf_monthDays.calls x2_1 x3_2 t107 _ A8.out).mono ?_); rintro e w' ⟨rfl, ⟨nd, rfl⟩⟩; refine ⟨_, rfl, ?_⟩))
              go_roundg k2
              case measure => have := HK1.out; have := HK2.out; omega
              case rel => exact ⟨(wrap64 (x0_2 - t107)), (wrap64 (x3_2 + 1)), (by first | rfl | (simp; done) | (simp [*]; done)), (by first | rfl | (simp; done) | (simp [*]; done)), H', ⟨by have := HK1.out; have := HK2.out; omega⟩, by repeat (first | exact Drawn0.refl _ | apply Drawn0.step)⟩
            · rw [if_neg c7] at H
              have c7b0 : decide (t106 ≤ x0_2) = false := decide_eq_false c7
              clear c7
              simp only [Option.some.injEq, Prod.mk.injEq] at H
              obtain ⟨rfl, rfl, rfl⟩ := H
              go_wp2_with (first | ((with_reducible refine gate_callee (f := 65) rfl ?_); refine goesL_ (some 24) rfl rfl Try.func65 (by kernel_rfl) rfl #[.int .i64 x2_1, .int .i64 x3_2] rfl (by (try simp only [List.map_toArray, List.map_cons, List.map_nil]); first | done | rfl | (simp only [List.length_drop, List.length_take]; rfl)) ?_; (with_reducible refine (conf_monthDays.calls x2_1 x3_2 t106 _ A6.out).mono ?_); rintro e w' ⟨rfl, ⟨nd, rfl⟩⟩; refine ⟨_, rfl, ?_⟩))
              go_ret3
              exact ⟨by first | rfl | (simp; done) | (simp [*]; done), by repeat (first | exact Drawn0.refl _ | apply Drawn0.step)⟩

/-! ### conf_digits: function 111 -/
def conf_digits.l0 : Nat → Int → List Int → Int → Option (ByteArray)
  | 0, _, _, _ => none
  | k + 1, x0, x5, x6 => if x6 ≥ 0 then (if 0 ≤ x6 then (if x6 < (x5.length : Int) then (conf_digits.l0 k (wrap64 (Int.tdiv x0 10)) (x5.set (x6 : Int).toNat ((wrap64 (48 + (Int.tmod x0 10))) % 256)) (wrap64 (x6 - 1))) else (none)) else (none)) else (some (strOfNums x5))
def conf_digits.f (k : Nat) (a0 : Int) (a1 : Int) : Option (ByteArray) := if 0 ≤ a1 then (if (a1 : Int).toNat ≤ 281474976710656 then (conf_digits.l0 k a0 (List.replicate (a1 : Int).toNat 0) (wrap64 (a1 - 1))) else (none)) else (none)
theorem conf_digits.mono_l : ∀ k, (∀ y0 y1 y2, LeO (conf_digits.l0 k y0 y1 y2) (conf_digits.l0 (k + 1) y0 y1 y2))
  | 0 => fun _ _ _ r h => by simp [conf_digits.l0] at h
  | k + 1 => by
    have ih0 := conf_digits.mono_l k
    · intro y0 y1 y2
      unfold conf_digits.l0
      repeat' first
      | (with_reducible exact ih0 _ _ _)
      | (with_reducible exact LeO.refl _)
      | (with_reducible exact LeO.none _)
      | (with_reducible refine LeO.ite ?_ ?_)
      | (with_reducible refine LeO.bind ?_ (fun _ => ?_))
      | exact ih0 _ _ _
      | exact LeO.none _
      | refine LeO.ite ?_ ?_
      | refine LeO.bind ?_ (fun _ => ?_)
theorem conf_digits.mono : ∀ a0 a1 k, LeO (conf_digits.f k a0 a1) (conf_digits.f (k + 1) a0 a1) := by
  intro a0 a1 k
  have ih0 := conf_digits.mono_l k
  unfold conf_digits.f
  repeat' first
      | (with_reducible exact ih0 _ _ _)
      | (with_reducible exact LeO.refl _)
      | (with_reducible exact LeO.none _)
      | (with_reducible refine LeO.ite ?_ ?_)
      | (with_reducible refine LeO.bind ?_ (fun _ => ?_))
      | exact ih0 _ _ _
      | exact LeO.none _
      | refine LeO.ite ?_ ?_
      | refine LeO.bind ?_ (fun _ => ?_)
set_option maxHeartbeats 8000000 in
set_option maxRecDepth 100000 in
theorem conf_digits.calls (k : Nat) (a0 : Int) (a1 : Int) (r : ByteArray) (w : World) (h : conf_digits.f k a0 a1 = some r) :
    Calls Try.prog 111 #[.int .i64 a0, .int .i64 a1] w fun e w' => e = .returned (.string r) ∧ Below w.heap.size w w' := by
  have HB := Aside0.mk (Below.refl w.heap.size w)
  have H : (if 0 ≤ a1 then (if (a1 : Int).toNat ≤ 281474976710656 then (conf_digits.l0 k a0 (List.replicate (a1 : Int).toNat 0) (wrap64 (a1 - 1))) else (none)) else (none)) = some r := h
  clear h
  by_cases c3 : 0 ≤ a1
  · rw [if_pos c3] at H
    have c3b0 := eq_true c3
    have c3b1 : decide (0 ≤ a1) = true := decide_eq_true c3
    clear c3
    by_cases c4 : (a1 : Int).toNat ≤ 281474976710656
    · rw [if_pos c4] at H
      have c4b0 := eq_true c4
      have c4b1 : decide ((a1 : Int).toNat ≤ 281474976710656) = true := decide_eq_true c4
      clear c4
      obtain ⟨y108, hy108⟩ : ∃ y_ : List Int, y_ = (List.replicate (a1 : Int).toNat 0) := ⟨_, rfl⟩
      replace H : (conf_digits.l0 k a0 y108 (wrap64 (a1 - 1))) = some r := by first | (rw [hy108]; with_reducible exact H) | (have H2_ := (Option.bind_some _ _).symm.trans H; rw [hy108]; with_reducible exact H2_) | (have H2_ := (Option.bind_some _ _).symm.trans H; with_reducible exact H2_) | with_reducible exact H | (rw [hy108]; exact H) | exact H
      have Ny108 := Aside0.mk hy108
      clear hy108
      have H' := Aside0.mk H
      clear H
      go_enter Try.func111, Try.ntmps111
      go_wp2_with (first | ((with_reducible refine gate_dst (N := 8) rfl ?_); refine Kd.R_make (Kd.int .u8) _ 5 rfl (N := 8) rfl 99 _ _ rfl a1 rfl rfl Try.underlying99 (.int .u8 0) 1 info5 rfl (by decide) (by omega) 0 (ok := fun _ => True) (okp := fun _ => True) rfl (fun _ hk => hk) trivial (of_decide_eq_true (by first | (with_reducible assumption) | assumption)) (Nat.le_trans (Nat.mul_le_mul_right _ (of_decide_eq_true (by first | (with_reducible assumption) | assumption) : a1.toNat ≤ 281474976710656)) (by omega)) (Below.refl _ _) (Nat.le_refl _) ?_; intro v109 w5 ho6 hb hg_ hnew_; clear hg_ hnew_; (first | rw [← Ny108.out] at ho6 | (simp only [Int.reduceToNat] at ho6; rw [← Ny108.out] at ho6)); have n0_ := Aside0.mk (Kd.R_lower ho6 (below_size (by repeat (first | (with_reducible first | exact HB.out | apply below_alloc | apply pw_below_drewN | apply below_drew1) | exact HB.out)))); have n1_ := Aside0.mk (below_step (by repeat (first | (with_reducible first | exact HB.out | apply below_alloc | apply pw_below_drewN | apply below_drew1) | exact HB.out)) hb); clear HB; have HO110 := n0_; have HB := n1_; clear n0_ n1_; clear hb ho6))
      go_loopg [0, 6] k (fun kq v0 v6 w' => ∃ (x0_1 : Int) (x5_1 : List Int) (x6_1 : Int), v0 = .int .i64 x0_1 ∧ v6 = .int .i64 x6_1 ∧ Aside0 (conf_digits.l0 kq x0_1 x5_1 x6_1 = some r) ∧ Aside0 (kq ≤ k) ∧ Aside0 (Kd.R (Kd.int .u8) 5 w' w.heap.size (fun _ => True) v109 x5_1) ∧ Aside0 (Below w.heap.size w w'))
      case atStart => exact ⟨(a0), (y108), (wrap64 (a1 - 1)), (by first | rfl | (simp; done) | (simp [*]; done)), (by first | rfl | (simp; done) | (simp [*]; done)), H', ⟨Nat.le_refl _⟩, ⟨by (with_reducible repeat (first | apply Kd.R_alloc | apply Kd.R_drewN | apply Kd.R_drew)); exact HO110.out⟩, ⟨by repeat (first | (with_reducible first | exact HB.out | apply below_alloc | apply pw_below_drewN | apply below_drew1) | exact HB.out)⟩⟩
      case round =>
        clear H'
        try clear c1
        try clear p2
        try clear c3
        try clear c3b0
        try clear c3b1
        try clear c4
        try clear c4b0
        try clear c4b1
        try clear p6
        obtain ⟨x0_1, x5_1, x6_1, rfl, rfl, HA, HK1, HO_5, HB⟩ := hrel
        cases gk with
        | zero => exact absurd HA.out (by simp [conf_digits.l0])
        | succ k1 =>
          have H := HA.out
          clear HA
          simp only [conf_digits.l0] at H
          by_cases c7 : x6_1 ≥ 0
          · rw [if_pos c7] at H
            have c7b0 : decide (0 ≤ x6_1) = true := decide_eq_true c7
            clear c7
            by_cases c8 : 0 ≤ x6_1
            · rw [if_pos c8] at H
              have c8b0 : decide (0 ≤ x6_1) = true := decide_eq_true c8
              clear c8
              by_cases c9 : x6_1 < (x5_1.length : Int)
              · rw [if_pos c9] at H
                have c9b0 : decide (x6_1 < (x5_1.length : Int)) = true := decide_eq_true c9
                clear c9
                obtain ⟨y111, hy111⟩ : ∃ y_ : List Int, y_ = (x5_1.set (x6_1 : Int).toNat ((wrap64 (48 + (Int.tmod x0_1 10))) % 256)) := ⟨_, rfl⟩
                replace H : (conf_digits.l0 k1 (wrap64 (Int.tdiv x0_1 10)) y111 (wrap64 (x6_1 - 1))) = some r := by first | (rw [hy111]; with_reducible exact H) | (have H2_ := (Option.bind_some _ _).symm.trans H; rw [hy111]; with_reducible exact H2_) | (have H2_ := (Option.bind_some _ _).symm.trans H; with_reducible exact H2_) | with_reducible exact H | (rw [hy111]; exact H) | exact H
                have Ny111 := Aside0.mk hy111
                clear hy111
                have H' := Aside0.mk H
                clear H
                have p10 : 0 ≤ (x6_1 : Int) := of_decide_eq_true (by first | (with_reducible assumption) | assumption)
                have q10 : (x6_1 : Int) < ((x5_1.length : Int) : Int) := of_decide_eq_true (by first | (with_reducible assumption) | assumption)
                obtain ⟨go10, co10, eo10, gb10, gl10, cl10, HG10⟩ := Kd.R_form HO_5.out (by omega)
                (first | cases eo10 | (injection eo10 with ea_ en_ ec_; (first | subst ea_ | (injection ea_ with ea_; subst ea_)); subst ec_; clear en_))
                have GB10 := Aside0.mk gb10
                have GG10 := Aside0.mk HG10
                clear gb10 gl10 HG10
                obtain ⟨hx10_0, hf10_0⟩ := Kd.R_celln 0 HO_5.out (x6_1 : Int) p10 q10
                replace p10 := eq_true p10
                replace q10 := eq_true q10
                have HP11 := Kd.R_putg HO_5.out (x6_1 : Int) ((wrap64 (48 + (Int.tmod x0_1 10))) % 256)
                go_wp2_with (first | ((with_reducible refine gate_store (t := 5) (p := 21) rfl ?_); refine store_event (t := 5) (p := 21) (v := ?vo_w12) (w1 := (wr.setCell ⟨go10, (x6_1 : Int).toNat, none⟩ (.int .u8 ((wrap64 (48 + (Int.tmod x0_1 10))) % 256)))) ?hg ?ho ?hn ?hr ?_; (case ho => rfl); (case hg => rfl); (case hn => rfl); (case hr => first | (go_simp; done) | (go_simp; rfl)); intro w12 hw; have hg : wr.grownBy w12 (some go10) := (by rw [hw]; exact HP11.2); have hp_ : Kd.R (Kd.int .u8) 5 w12 w.heap.size (fun _ => True) (.slice (some ⟨go10, 0, none⟩) x5_1.length co10) y111 := (by rw [hw, Ny111.out]; exact HP11.1); clear HP11; have n0_ := Aside0.mk (hp_); have n1_ := Aside0.mk ((by rw [hw]; exact below_set (HB.out) GB10.out : Below w.heap.size w w12)); clear HO_5; clear HB; have HO_5 := n0_; have HB := n1_; clear n0_ n1_; clear hg hw hp_))
                go_roundg k1
                case measure => have := HK1.out; omega
                case rel => exact ⟨(wrap64 (Int.tdiv x0_1 10)), (y111), (wrap64 (x6_1 - 1)), (by first | rfl | (simp; done) | (simp [*]; done)), (by first | rfl | (simp; done) | (simp [*]; done)), H', ⟨by have := HK1.out; omega⟩, ⟨by (with_reducible repeat (first | apply Kd.R_alloc | apply Kd.R_drewN | apply Kd.R_drew)); exact HO_5.out⟩, ⟨by repeat (first | (with_reducible first | exact HB.out | apply below_alloc | apply pw_below_drewN | apply below_drew1) | exact HB.out)⟩⟩
              · rw [if_neg c9] at H
                exact absurd H (by simp)
            · rw [if_neg c8] at H
              exact absurd H (by simp)
          · rw [if_neg c7] at H
            have c7b0 : decide (0 ≤ x6_1) = false := decide_eq_false c7
            clear c7
            obtain rfl := Option.some.inj H
            have hcv13 := own_string (P := Try.prog) Try.underlying99 Try.underlying5 Try.underlying9 (Kd.own_of_R HO_5.out)
            go_wp2
            go_ret
            exact ⟨by first | rfl | (simp [errW_none, errW_some] <;> rfl) | (simp [*, errW_none, errW_some] <;> rfl), by repeat (first | (with_reducible first | exact HB.out | apply below_alloc | apply pw_below_drewN | apply below_drew1) | exact HB.out)⟩
    · rw [if_neg c4] at H
      exact absurd H (by simp)
  · rw [if_neg c3] at H
    exact absurd H (by simp)

/-! ### conf_dayString: function 67 -/
def conf_dayString.f (k : Nat) (a0 : Int) : Option (ByteArray) := (conf_date.f k a0).bind fun bt112 => ((conf_digits.f k bt112.1 4).bind fun t115 => (if t115.size + 1 ≤ 9223372036854775807 then ((conf_digits.f k bt112.2.1 2).bind fun t116 => (if (t115 ++ (⟨#[45]⟩ : ByteArray)).size + t116.size ≤ 9223372036854775807 then (if ((t115 ++ (⟨#[45]⟩ : ByteArray)) ++ t116).size + 1 ≤ 9223372036854775807 then ((conf_digits.f k bt112.2.2 2).bind fun t117 => (if (((t115 ++ (⟨#[45]⟩ : ByteArray)) ++ t116) ++ (⟨#[45]⟩ : ByteArray)).size + t117.size ≤ 9223372036854775807 then (some ((((t115 ++ (⟨#[45]⟩ : ByteArray)) ++ t116) ++ (⟨#[45]⟩ : ByteArray)) ++ t117)) else (none))) else (none)) else (none))) else (none)))
theorem conf_dayString.mono : ∀ a0 k, LeO (conf_dayString.f k a0) (conf_dayString.f (k + 1) a0) := by
  intro a0 k
  unfold conf_dayString.f
  repeat' first
      | (with_reducible exact conf_date.mono _ _)
      | (with_reducible exact conf_digits.mono _ _ _)
      | (with_reducible exact LeO.refl _)
      | (with_reducible exact LeO.none _)
      | (with_reducible refine LeO.ite ?_ ?_)
      | (with_reducible refine LeO.bind ?_ (fun _ => ?_))
      | exact conf_date.mono _ _
      | exact conf_digits.mono _ _ _
      | exact LeO.none _
      | refine LeO.ite ?_ ?_
      | refine LeO.bind ?_ (fun _ => ?_)
set_option maxHeartbeats 8000000 in
set_option maxRecDepth 100000 in
theorem conf_dayString.calls (k : Nat) (a0 : Int) (r : ByteArray) (w : World) (h : conf_dayString.f k a0 = some r) :
    Calls Try.prog 67 #[.int .i64 a0] w fun e w' => e = .returned (.string r) ∧ Below w.heap.size w w' := by
  have HB := Aside0.mk (Below.refl w.heap.size w)
  have H : ((conf_date.f k a0).bind fun bt112 => ((conf_digits.f k bt112.1 4).bind fun t115 => (if t115.size + 1 ≤ 9223372036854775807 then ((conf_digits.f k bt112.2.1 2).bind fun t116 => (if (t115 ++ (⟨#[45]⟩ : ByteArray)).size + t116.size ≤ 9223372036854775807 then (if ((t115 ++ (⟨#[45]⟩ : ByteArray)) ++ t116).size + 1 ≤ 9223372036854775807 then ((conf_digits.f k bt112.2.2 2).bind fun t117 => (if (((t115 ++ (⟨#[45]⟩ : ByteArray)) ++ t116) ++ (⟨#[45]⟩ : ByteArray)).size + t117.size ≤ 9223372036854775807 then (some ((((t115 ++ (⟨#[45]⟩ : ByteArray)) ++ t116) ++ (⟨#[45]⟩ : ByteArray)) ++ t117)) else (none))) else (none)) else (none))) else (none)))) = some r := h
  clear h
  replace H := Option.bind_eq_some_iff.mp H
  obtain ⟨⟨t112, t113, t114⟩, A20, H⟩ := H
  replace H : ((conf_digits.f k t112 4).bind fun t115 => (if t115.size + 1 ≤ 9223372036854775807 then ((conf_digits.f k t113 2).bind fun t116 => (if (t115 ++ (⟨#[45]⟩ : ByteArray)).size + t116.size ≤ 9223372036854775807 then (if ((t115 ++ (⟨#[45]⟩ : ByteArray)) ++ t116).size + 1 ≤ 9223372036854775807 then ((conf_digits.f k t114 2).bind fun t117 => (if (((t115 ++ (⟨#[45]⟩ : ByteArray)) ++ t116) ++ (⟨#[45]⟩ : ByteArray)).size + t117.size ≤ 9223372036854775807 then (some ((((t115 ++ (⟨#[45]⟩ : ByteArray)) ++ t116) ++ (⟨#[45]⟩ : ByteArray)) ++ t117)) else (none))) else (none)) else (none))) else (none))) = some r := H
  have A2 := Aside0.mk A20
  clear A20
  replace H := Option.bind_eq_some_iff.mp H
  obtain ⟨t115, A30, H⟩ := H
  replace H : (if t115.size + 1 ≤ 9223372036854775807 then ((conf_digits.f k t113 2).bind fun t116 => (if (t115 ++ (⟨#[45]⟩ : ByteArray)).size + t116.size ≤ 9223372036854775807 then (if ((t115 ++ (⟨#[45]⟩ : ByteArray)) ++ t116).size + 1 ≤ 9223372036854775807 then ((conf_digits.f k t114 2).bind fun t117 => (if (((t115 ++ (⟨#[45]⟩ : ByteArray)) ++ t116) ++ (⟨#[45]⟩ : ByteArray)).size + t117.size ≤ 9223372036854775807 then (some ((((t115 ++ (⟨#[45]⟩ : ByteArray)) ++ t116) ++ (⟨#[45]⟩ : ByteArray)) ++ t117)) else (none))) else (none)) else (none))) else (none)) = some r := H
  have A3 := Aside0.mk A30
  clear A30
  by_cases c4 : t115.size + 1 ≤ 9223372036854775807
  · rw [if_pos c4] at H
    have c4b0 := eq_true c4
    have c4b1 : decide (t115.size + 1 ≤ 9223372036854775807) = true := decide_eq_true c4
    try have c4b2 : (9223372036854775807 < t115.size + 1) = False := eq_false (Nat.not_lt.2 c4)
    replace H := Option.bind_eq_some_iff.mp H
    obtain ⟨t116, A50, H⟩ := H
    replace H : (if (t115 ++ (⟨#[45]⟩ : ByteArray)).size + t116.size ≤ 9223372036854775807 then (if ((t115 ++ (⟨#[45]⟩ : ByteArray)) ++ t116).size + 1 ≤ 9223372036854775807 then ((conf_digits.f k t114 2).bind fun t117 => (if (((t115 ++ (⟨#[45]⟩ : ByteArray)) ++ t116) ++ (⟨#[45]⟩ : ByteArray)).size + t117.size ≤ 9223372036854775807 then (some ((((t115 ++ (⟨#[45]⟩ : ByteArray)) ++ t116) ++ (⟨#[45]⟩ : ByteArray)) ++ t117)) else (none))) else (none)) else (none)) = some r := H
    have A5 := Aside0.mk A50
    clear A50
    by_cases c6 : (t115 ++ (⟨#[45]⟩ : ByteArray)).size + t116.size ≤ 9223372036854775807
    · rw [if_pos c6] at H
      have c6b0 := eq_true c6
      have c6b1 : decide ((t115 ++ (⟨#[45]⟩ : ByteArray)).size + t116.size ≤ 9223372036854775807) = true := decide_eq_true c6
      try have c6b2 : (9223372036854775807 < (t115 ++ (⟨#[45]⟩ : ByteArray)).size + t116.size) = False := eq_false (Nat.not_lt.2 c6)
      have c6b3 : t115.size + 1 + t116.size ≤ 9223372036854775807 := (by have e0_ : (t115 ++ (⟨#[45]⟩ : ByteArray)).size = t115.size + 1 := (by first | rfl | (simp only [ByteArray.size_append] <;> rfl)); omega)
      have c6b4 : (9223372036854775807 < t115.size + 1 + t116.size) = False := eq_false (Nat.not_lt.2 c6b3)
      replace c6b3 := decide_eq_true c6b3
      by_cases c7 : ((t115 ++ (⟨#[45]⟩ : ByteArray)) ++ t116).size + 1 ≤ 9223372036854775807
      · rw [if_pos c7] at H
        have c7b0 := eq_true c7
        have c7b1 : decide (((t115 ++ (⟨#[45]⟩ : ByteArray)) ++ t116).size + 1 ≤ 9223372036854775807) = true := decide_eq_true c7
        try have c7b2 : (9223372036854775807 < ((t115 ++ (⟨#[45]⟩ : ByteArray)) ++ t116).size + 1) = False := eq_false (Nat.not_lt.2 c7)
        have c7b3 : t115.size + 1 + t116.size + 1 ≤ 9223372036854775807 := (by have e0_ : ((t115 ++ (⟨#[45]⟩ : ByteArray)) ++ t116).size = t115.size + 1 + t116.size := (by first | rfl | (simp only [ByteArray.size_append] <;> rfl)); omega)
        have c7b4 : (9223372036854775807 < t115.size + 1 + t116.size + 1) = False := eq_false (Nat.not_lt.2 c7b3)
        replace c7b3 := decide_eq_true c7b3
        replace H := Option.bind_eq_some_iff.mp H
        obtain ⟨t117, A80, H⟩ := H
        replace H : (if (((t115 ++ (⟨#[45]⟩ : ByteArray)) ++ t116) ++ (⟨#[45]⟩ : ByteArray)).size + t117.size ≤ 9223372036854775807 then (some ((((t115 ++ (⟨#[45]⟩ : ByteArray)) ++ t116) ++ (⟨#[45]⟩ : ByteArray)) ++ t117)) else (none)) = some r := H
        have A8 := Aside0.mk A80
        clear A80
        by_cases c9 : (((t115 ++ (⟨#[45]⟩ : ByteArray)) ++ t116) ++ (⟨#[45]⟩ : ByteArray)).size + t117.size ≤ 9223372036854775807
        · rw [if_pos c9] at H
          have c9b0 := eq_true c9
          have c9b1 : decide ((((t115 ++ (⟨#[45]⟩ : ByteArray)) ++ t116) ++ (⟨#[45]⟩ : ByteArray)).size + t117.size ≤ 9223372036854775807) = true := decide_eq_true c9
          try have c9b2 : (9223372036854775807 < (((t115 ++ (⟨#[45]⟩ : ByteArray)) ++ t116) ++ (⟨#[45]⟩ : ByteArray)).size + t117.size) = False := eq_false (Nat.not_lt.2 c9)
          have c9b3 : t115.size + 1 + t116.size + 1 + t117.size ≤ 9223372036854775807 := (by have e0_ : (((t115 ++ (⟨#[45]⟩ : ByteArray)) ++ t116) ++ (⟨#[45]⟩ : ByteArray)).size = t115.size + 1 + t116.size + 1 := (by first | rfl | (simp only [ByteArray.size_append] <;> rfl)); omega)
          have c9b4 : (9223372036854775807 < t115.size + 1 + t116.size + 1 + t117.size) = False := eq_false (Nat.not_lt.2 c9b3)
          replace c9b3 := decide_eq_true c9b3
          obtain rfl := Option.some.inj H
          go_enter Try.func67, Try.ntmps67
          go_wp2_with (first | ((with_reducible refine gate_callee (f := 64) rfl ?_); refine goesL_ (some 8) rfl rfl Try.func64 (by kernel_rfl) rfl #[.int .i64 a0] rfl (by (try simp only [List.map_toArray, List.map_cons, List.map_nil]); first | done | rfl | (simp only [List.length_drop, List.length_take]; rfl)) ?_; (with_reducible refine (conf_date.calls k a0 t112 t113 t114 _ A2.out).mono ?_); rintro e w' ⟨rfl, ⟨nd, rfl⟩⟩; refine ⟨_, rfl, ?_⟩) | ((with_reducible refine gate_callee (f := 111) rfl ?_); refine goesL_ (some 13) rfl rfl Try.func111 (by kernel_rfl) rfl #[.int .i64 t112, .int .i64 4] rfl (by (try simp only [List.map_toArray, List.map_cons, List.map_nil]); first | done | rfl | (simp only [List.length_drop, List.length_take]; rfl)) ?_; (with_reducible refine (conf_digits.calls k t112 4 t115 _ A3.out).mono ?_); rintro e w10 ⟨rfl, hb⟩; refine ⟨_, rfl, ?_⟩; have n0_ := Aside0.mk (below_step (by repeat (first | (with_reducible first | exact HB.out | apply below_alloc | apply pw_below_drewN | apply below_drew1) | exact HB.out)) hb); clear HB; have HB := n0_; clear n0_; (try clear hb); (try clear hb2); (try clear hk); (try clear hi)) | ((with_reducible refine gate_callee (f := 111) rfl ?_); refine goesL_ (some 16) rfl rfl Try.func111 (by kernel_rfl) rfl #[.int .i64 t113, .int .i64 2] rfl (by (try simp only [List.map_toArray, List.map_cons, List.map_nil]); first | done | rfl | (simp only [List.length_drop, List.length_take]; rfl)) ?_; (with_reducible refine (conf_digits.calls k t113 2 t116 _ A5.out).mono ?_); rintro e w11 ⟨rfl, hb⟩; refine ⟨_, rfl, ?_⟩; have n0_ := Aside0.mk (below_step (by repeat (first | (with_reducible first | exact HB.out | apply below_alloc | apply pw_below_drewN | apply below_drew1) | exact HB.out)) hb); clear HB; have HB := n0_; clear n0_; (try clear hb); (try clear hb2); (try clear hk); (try clear hi)) | ((with_reducible refine gate_callee (f := 111) rfl ?_); refine goesL_ (some 20) rfl rfl Try.func111 (by kernel_rfl) rfl #[.int .i64 t114, .int .i64 2] rfl (by (try simp only [List.map_toArray, List.map_cons, List.map_nil]); first | done | rfl | (simp only [List.length_drop, List.length_take]; rfl)) ?_; (with_reducible refine (conf_digits.calls k t114 2 t117 _ A8.out).mono ?_); rintro e w12 ⟨rfl, hb⟩; refine ⟨_, rfl, ?_⟩; have n0_ := Aside0.mk (below_step (by repeat (first | (with_reducible first | exact HB.out | apply below_alloc | apply pw_below_drewN | apply below_drew1) | exact HB.out)) hb); clear HB; have HB := n0_; clear n0_; (try clear hb); (try clear hb2); (try clear hk); (try clear hi)))
          go_ret
          exact ⟨by first | rfl | (simp [errW_none, errW_some] <;> rfl) | (simp [*, errW_none, errW_some] <;> rfl), by repeat (first | (with_reducible first | exact HB.out | apply below_alloc | apply pw_below_drewN | apply below_drew1) | exact HB.out)⟩
        · rw [if_neg c9] at H
          exact absurd H (by simp)
      · rw [if_neg c7] at H
        exact absurd H (by simp)
    · rw [if_neg c6] at H
      exact absurd H (by simp)
  · rw [if_neg c4] at H
    exact absurd H (by simp)

/-! ### conf_DayString: function 30 -/
def conf_DayString.f (k : Nat) (a0 : Int) : Option (ByteArray × Int) := (conf_badDay.f a0).bind fun t118 => (if t118 = true then (some ((⟨#[]⟩ : ByteArray), 2)) else ((conf_dayString.f k a0).bind fun t119 => (some (t119, 0))))
theorem conf_DayString.mono : ∀ a0 k, LeO (conf_DayString.f k a0) (conf_DayString.f (k + 1) a0) := by
  intro a0 k
  unfold conf_DayString.f
  repeat' first
      | (with_reducible exact conf_dayString.mono _ _)
      | (with_reducible exact LeO.refl _)
      | (with_reducible exact LeO.none _)
      | (with_reducible refine LeO.ite ?_ ?_)
      | (with_reducible refine LeO.bind ?_ (fun _ => ?_))
      | exact conf_dayString.mono _ _
      | exact LeO.none _
      | refine LeO.ite ?_ ?_
      | refine LeO.bind ?_ (fun _ => ?_)
set_option maxHeartbeats 8000000 in
set_option maxRecDepth 100000 in
theorem conf_DayString.calls (k : Nat) (a0 : Int) (r1 : ByteArray) (r2 : Int) (w : World) (h : conf_DayString.f k a0 = some (r1, r2)) :
    Calls Try.prog 30 #[.int .i64 a0] w fun e w' => e = .returned (.tuple #[.string r1, .int .i64 r2]) ∧ Below w.heap.size w w' := by
  have HB := Aside0.mk (Below.refl w.heap.size w)
  have H : ((conf_badDay.f a0).bind fun t118 => (if t118 = true then (some ((⟨#[]⟩ : ByteArray), 2)) else ((conf_dayString.f k a0).bind fun t119 => (some (t119, 0))))) = some (r1, r2) := h
  clear h
  replace H := Option.bind_eq_some_iff.mp H
  obtain ⟨t118, A20, H⟩ := H
  replace H : (if t118 = true then (some ((⟨#[]⟩ : ByteArray), 2)) else ((conf_dayString.f k a0).bind fun t119 => (some (t119, 0)))) = some (r1, r2) := H
  have A2 := Aside0.mk A20
  clear A20
  by_cases c3 : t118 = true
  · subst c3
    have H1 : (some ((⟨#[]⟩ : ByteArray), 2)) = some (r1, r2) := by rw [if_pos rfl] at H; exact H
    clear H
    have H := H1
    clear H1
    simp only [Option.some.injEq, Prod.mk.injEq] at H
    obtain ⟨rfl, rfl⟩ := H
    go_enter Try.func30, Try.ntmps30
    go_wp2_with (first | ((with_reducible refine gate_callee (f := 63) rfl ?_); refine goesL_ (some 5) rfl rfl Try.func63 (by kernel_rfl) rfl #[.int .i64 a0] rfl (by (try simp only [List.map_toArray, List.map_cons, List.map_nil]); first | done | rfl | (simp only [List.length_drop, List.length_take]; rfl)) ?_; (with_reducible refine (conf_badDay.calls a0 true _ A2.out).mono ?_); rintro e w' ⟨rfl, ⟨nd, rfl⟩⟩; refine ⟨_, rfl, ?_⟩))
    go_ret2
    exact ⟨by first | rfl | (simp [errW_none, errW_some] <;> rfl) | (simp [*, errW_none, errW_some] <;> rfl), by repeat (first | (with_reducible first | exact HB.out | apply below_alloc | apply pw_below_drewN | apply below_drew1) | exact HB.out)⟩
  · replace c3 := Bool.eq_false_iff.mpr c3
    subst c3
    have H1 : ((conf_dayString.f k a0).bind fun t119 => (some (t119, 0))) = some (r1, r2) := by rw [if_neg (show ¬ (false = true) by decide)] at H; exact H
    clear H
    have H := H1
    clear H1
    replace H := Option.bind_eq_some_iff.mp H
    obtain ⟨t119, A40, H⟩ := H
    replace H : (some (t119, 0)) = some (r1, r2) := H
    have A4 := Aside0.mk A40
    clear A40
    simp only [Option.some.injEq, Prod.mk.injEq] at H
    obtain ⟨rfl, rfl⟩ := H
    go_enter Try.func30, Try.ntmps30
    go_wp2_with (first | ((with_reducible refine gate_callee (f := 63) rfl ?_); refine goesL_ (some 5) rfl rfl Try.func63 (by kernel_rfl) rfl #[.int .i64 a0] rfl (by (try simp only [List.map_toArray, List.map_cons, List.map_nil]); first | done | rfl | (simp only [List.length_drop, List.length_take]; rfl)) ?_; (with_reducible refine (conf_badDay.calls a0 false _ A2.out).mono ?_); rintro e w' ⟨rfl, ⟨nd, rfl⟩⟩; refine ⟨_, rfl, ?_⟩) | ((with_reducible refine gate_callee (f := 67) rfl ?_); refine goesL_ (some 7) rfl rfl Try.func67 (by kernel_rfl) rfl #[.int .i64 a0] rfl (by (try simp only [List.map_toArray, List.map_cons, List.map_nil]); first | done | rfl | (simp only [List.length_drop, List.length_take]; rfl)) ?_; (with_reducible refine (conf_dayString.calls k a0 t119 _ A4.out).mono ?_); rintro e w5 ⟨rfl, hb⟩; refine ⟨_, rfl, ?_⟩; have n0_ := Aside0.mk (below_step (by repeat (first | (with_reducible first | exact HB.out | apply below_alloc | apply pw_below_drewN | apply below_drew1) | exact HB.out)) hb); clear HB; have HB := n0_; clear n0_; (try clear hb); (try clear hb2); (try clear hk); (try clear hi)))
    go_ret2
    exact ⟨by first | rfl | (simp [errW_none, errW_some] <;> rfl) | (simp [*, errW_none, errW_some] <;> rfl), by repeat (first | (with_reducible first | exact HB.out | apply below_alloc | apply pw_below_drewN | apply below_drew1) | exact HB.out)⟩

/-! ### conf_Date: function 31 -/
def conf_Date.f (k : Nat) (a0 : Int) : Option (Int × Int × Int × Int) := (conf_badDay.f a0).bind fun t120 => (if t120 = true then (some (0, 0, 0, 2)) else ((conf_date.f k a0).bind fun bt121 => (some (bt121.1, bt121.2.1, bt121.2.2, 0))))
theorem conf_Date.mono : ∀ a0 k, LeO (conf_Date.f k a0) (conf_Date.f (k + 1) a0) := by
  intro a0 k
  unfold conf_Date.f
  repeat' first
      | (with_reducible exact conf_date.mono _ _)
      | (with_reducible exact LeO.refl _)
      | (with_reducible exact LeO.none _)
      | (with_reducible refine LeO.ite ?_ ?_)
      | (with_reducible refine LeO.bind ?_ (fun _ => ?_))
      | exact conf_date.mono _ _
      | exact LeO.none _
      | refine LeO.ite ?_ ?_
      | refine LeO.bind ?_ (fun _ => ?_)
set_option maxHeartbeats 8000000 in
set_option maxRecDepth 100000 in
theorem conf_Date.calls (k : Nat) (a0 : Int) (r1 : Int) (r2 : Int) (r3 : Int) (r4 : Int) (w : World) (h : conf_Date.f k a0 = some (r1, r2, r3, r4)) :
    Calls Try.prog 31 #[.int .i64 a0] w fun e w' => e = .returned (.tuple #[.int .i64 r1, .int .i64 r2, .int .i64 r3, .int .i64 r4]) ∧ Drawn0 w w' := by
  have H : ((conf_badDay.f a0).bind fun t120 => (if t120 = true then (some (0, 0, 0, 2)) else ((conf_date.f k a0).bind fun bt121 => (some (bt121.1, bt121.2.1, bt121.2.2, 0))))) = some (r1, r2, r3, r4) := h
  clear h
  replace H := Option.bind_eq_some_iff.mp H
  obtain ⟨t120, A20, H⟩ := H
  replace H : (if t120 = true then (some (0, 0, 0, 2)) else ((conf_date.f k a0).bind fun bt121 => (some (bt121.1, bt121.2.1, bt121.2.2, 0)))) = some (r1, r2, r3, r4) := H
  have A2 := Aside0.mk A20
  clear A20
  by_cases c3 : t120 = true
  · subst c3
    have H1 : (some (0, 0, 0, 2)) = some (r1, r2, r3, r4) := by rw [if_pos rfl] at H; exact H
    clear H
    have H := H1
    clear H1
    simp only [Option.some.injEq, Prod.mk.injEq] at H
    obtain ⟨rfl, rfl, rfl, rfl⟩ := H
    go_enter Try.func31, Try.ntmps31
    go_wp2_with (first | ((with_reducible refine gate_callee (f := 63) rfl ?_); refine goesL_ (some 7) rfl rfl Try.func63 (by kernel_rfl) rfl #[.int .i64 a0] rfl (by (try simp only [List.map_toArray, List.map_cons, List.map_nil]); first | done | rfl | (simp only [List.length_drop, List.length_take]; rfl)) ?_; (with_reducible refine (conf_badDay.calls a0 true _ A2.out).mono ?_); rintro e w' ⟨rfl, ⟨nd, rfl⟩⟩; refine ⟨_, rfl, ?_⟩))
    refine bodyPost_ret (results_list (rs := [.tmp 2, .tmp 3, .tmp 4, .tmp 5]) rfl (by simp) (.tmp (.tmp (.tmp (.tmp .nil))))) rfl ?_
    exact ⟨by first | rfl | (simp; done) | (simp [*]; done), by repeat (first | exact Drawn0.refl _ | apply Drawn0.step)⟩
  · replace c3 := Bool.eq_false_iff.mpr c3
    subst c3
    have H1 : ((conf_date.f k a0).bind fun bt121 => (some (bt121.1, bt121.2.1, bt121.2.2, 0))) = some (r1, r2, r3, r4) := by rw [if_neg (show ¬ (false = true) by decide)] at H; exact H
    clear H
    have H := H1
    clear H1
    replace H := Option.bind_eq_some_iff.mp H
    obtain ⟨⟨t121, t122, t123⟩, A40, H⟩ := H
    replace H : (some (t121, t122, t123, 0)) = some (r1, r2, r3, r4) := H
    have A4 := Aside0.mk A40
    clear A40
    simp only [Option.some.injEq, Prod.mk.injEq] at H
    obtain ⟨rfl, rfl, rfl, rfl⟩ := H
    go_enter Try.func31, Try.ntmps31
    go_wp2_with (first | ((with_reducible refine gate_callee (f := 63) rfl ?_); refine goesL_ (some 7) rfl rfl Try.func63 (by kernel_rfl) rfl #[.int .i64 a0] rfl (by (try simp only [List.map_toArray, List.map_cons, List.map_nil]); first | done | rfl | (simp only [List.length_drop, List.length_take]; rfl)) ?_; (with_reducible refine (conf_badDay.calls a0 false _ A2.out).mono ?_); rintro e w' ⟨rfl, ⟨nd, rfl⟩⟩; refine ⟨_, rfl, ?_⟩) | ((with_reducible refine gate_callee (f := 64) rfl ?_); refine goesL_ (some 10) rfl rfl Try.func64 (by kernel_rfl) rfl #[.int .i64 a0] rfl (by (try simp only [List.map_toArray, List.map_cons, List.map_nil]); first | done | rfl | (simp only [List.length_drop, List.length_take]; rfl)) ?_; (with_reducible refine (conf_date.calls k a0 t121 t122 t123 _ A4.out).mono ?_); rintro e w' ⟨rfl, ⟨nd, rfl⟩⟩; refine ⟨_, rfl, ?_⟩))
    refine bodyPost_ret (results_list (rs := [.tmp 2, .tmp 3, .tmp 4, .tmp 5]) rfl (by simp) (.tmp (.tmp (.tmp (.tmp .nil))))) rfl ?_
    exact ⟨by first | rfl | (simp; done) | (simp [*]; done), by repeat (first | exact Drawn0.refl _ | apply Drawn0.step)⟩

/-! ### conf_Weekday: function 32 -/
def conf_Weekday.f (a0 : Int) : Option (Int × Int) := (conf_badDay.f a0).bind fun t124 => (if t124 = true then (some (0, 2)) else (some (Int.tmod (wrap64 (a0 + 3)) 7, 0)))
set_option maxHeartbeats 8000000 in
set_option maxRecDepth 100000 in
theorem conf_Weekday.calls (a0 : Int) (r1 : Int) (r2 : Int) (w : World) (h : conf_Weekday.f a0 = some (r1, r2)) :
    Calls Try.prog 32 #[.int .i64 a0] w fun e w' => e = .returned (.tuple #[.int .i64 r1, .int .i64 r2]) ∧ Drawn0 w w' := by
  have H : ((conf_badDay.f a0).bind fun t124 => (if t124 = true then (some (0, 2)) else (some (Int.tmod (wrap64 (a0 + 3)) 7, 0)))) = some (r1, r2) := h
  clear h
  replace H := Option.bind_eq_some_iff.mp H
  obtain ⟨t124, A20, H⟩ := H
  replace H : (if t124 = true then (some (0, 2)) else (some (Int.tmod (wrap64 (a0 + 3)) 7, 0))) = some (r1, r2) := H
  have A2 := Aside0.mk A20
  clear A20
  by_cases c3 : t124 = true
  · subst c3
    have H1 : (some (0, 2)) = some (r1, r2) := by rw [if_pos rfl] at H; exact H
    clear H
    have H := H1
    clear H1
    simp only [Option.some.injEq, Prod.mk.injEq] at H
    obtain ⟨rfl, rfl⟩ := H
    go_enter Try.func32, Try.ntmps32
    go_wp2_with (first | ((with_reducible refine gate_callee (f := 63) rfl ?_); refine goesL_ (some 5) rfl rfl Try.func63 (by kernel_rfl) rfl #[.int .i64 a0] rfl (by (try simp only [List.map_toArray, List.map_cons, List.map_nil]); first | done | rfl | (simp only [List.length_drop, List.length_take]; rfl)) ?_; (with_reducible refine (conf_badDay.calls a0 true _ A2.out).mono ?_); rintro e w' ⟨rfl, ⟨nd, rfl⟩⟩; refine ⟨_, rfl, ?_⟩))
    go_ret2
    exact ⟨by first | rfl | (simp; done) | (simp [*]; done), by repeat (first | exact Drawn0.refl _ | apply Drawn0.step)⟩
  · replace c3 := Bool.eq_false_iff.mpr c3
    subst c3
    have H1 : (some (Int.tmod (wrap64 (a0 + 3)) 7, 0)) = some (r1, r2) := by rw [if_neg (show ¬ (false = true) by decide)] at H; exact H
    clear H
    have H := H1
    clear H1
    simp only [Option.some.injEq, Prod.mk.injEq] at H
    obtain ⟨rfl, rfl⟩ := H
    go_enter Try.func32, Try.ntmps32
    go_wp2_with (first | ((with_reducible refine gate_callee (f := 63) rfl ?_); refine goesL_ (some 5) rfl rfl Try.func63 (by kernel_rfl) rfl #[.int .i64 a0] rfl (by (try simp only [List.map_toArray, List.map_cons, List.map_nil]); first | done | rfl | (simp only [List.length_drop, List.length_take]; rfl)) ?_; (with_reducible refine (conf_badDay.calls a0 false _ A2.out).mono ?_); rintro e w' ⟨rfl, ⟨nd, rfl⟩⟩; refine ⟨_, rfl, ?_⟩))
    go_ret2
    exact ⟨by first | rfl | (simp; done) | (simp [*]; done), by repeat (first | exact Drawn0.refl _ | apply Drawn0.step)⟩

/-! ### mastref2_IsDay: function 33 -/
def mastref2_IsDay.f (a0 : Int) : Option (Bool) := if a0 ≥ 0 then (some (decide (a0 ≤ 84005))) else (some false)
set_option maxHeartbeats 8000000 in
set_option maxRecDepth 100000 in
theorem mastref2_IsDay.calls (a0 : Int) (r : Bool) (w : World) (h : mastref2_IsDay.f a0 = some r) :
    Calls Try.prog 33 #[.int .i64 a0] w fun e w' => e = .returned (.bool r) ∧ Drawn0 w w' := by
  have H : (if a0 ≥ 0 then (some (decide (a0 ≤ 84005))) else (some false)) = some r := h
  clear h
  by_cases c2 : a0 ≥ 0
  · rw [if_pos c2] at H
    have c2b0 : decide (0 ≤ a0) = true := decide_eq_true c2
    clear c2
    obtain rfl := Option.some.inj H
    go_enter Try.func33, Try.ntmps33
    go_wp2
    go_ret
    exact ⟨by first | rfl | (simp; done) | (simp [*]; done), by repeat (first | exact Drawn0.refl _ | apply Drawn0.step)⟩
  · rw [if_neg c2] at H
    have c2b0 : decide (0 ≤ a0) = false := decide_eq_false c2
    clear c2
    obtain rfl := Option.some.inj H
    go_enter Try.func33, Try.ntmps33
    go_wp2
    go_ret
    exact ⟨by first | rfl | (simp; done) | (simp [*]; done), by repeat (first | exact Drawn0.refl _ | apply Drawn0.step)⟩

/-! ### mastref2_floor: function 106 -/
def mastref2_floor.f (a0 : Int) (a1 : Int) : Option (Int) := if a1 = 0 then (none) else (if (Int.tmod a0 a1) < 0 then (some (wrap64 ((wrap64 (Int.tdiv a0 a1)) - 1))) else (some (wrap64 (Int.tdiv a0 a1))))
set_option maxHeartbeats 8000000 in
set_option maxRecDepth 100000 in
theorem mastref2_floor.calls (a0 : Int) (a1 : Int) (r : Int) (w : World) (h : mastref2_floor.f a0 a1 = some r) :
    Calls Try.prog 106 #[.int .i64 a0, .int .i64 a1] w fun e w' => e = .returned (.int .i64 r) ∧ Drawn0 w w' := by
  have H : (if a1 = 0 then (none) else (if (Int.tmod a0 a1) < 0 then (some (wrap64 ((wrap64 (Int.tdiv a0 a1)) - 1))) else (some (wrap64 (Int.tdiv a0 a1))))) = some r := h
  clear h
  by_cases c3 : a1 = 0
  · rw [if_pos c3] at H
    exact absurd H (by simp)
  · rw [if_neg c3] at H
    have c3b0 : (a1 == 0) = false := beq_eq_false_iff_ne.mpr c3
    have c3b1 : (a1 != 0) = true := bne_iff_ne.mpr c3
    by_cases c4 : (Int.tmod a0 a1) < 0
    · rw [if_pos c4] at H
      have c4b0 : decide ((Int.tmod a0 a1) < 0) = true := decide_eq_true c4
      clear c4
      obtain rfl := Option.some.inj H
      go_enter Try.func106, Try.ntmps106
      go_wp2
      go_ret
      exact ⟨by first | rfl | (simp; done) | (simp [*]; done), by repeat (first | exact Drawn0.refl _ | apply Drawn0.step)⟩
    · rw [if_neg c4] at H
      have c4b0 : decide ((Int.tmod a0 a1) < 0) = false := decide_eq_false c4
      clear c4
      obtain rfl := Option.some.inj H
      go_enter Try.func106, Try.ntmps106
      go_wp2
      go_ret
      exact ⟨by first | rfl | (simp; done) | (simp [*]; done), by repeat (first | exact Drawn0.refl _ | apply Drawn0.step)⟩

/-! ### mastref2_date_parts: function 66 -/
def mastref2_date_parts.f (a0 : Int) : Option (Int × Int × Int) := (mastref2_floor.f (wrap64 (a0 + 730791)) 146097).bind fun t125 => (if (wrap64 ((wrap64 (Int.tdiv (wrap64 ((wrap64 (5 * (wrap64 ((wrap64 ((wrap64 (a0 + 730791)) - (wrap64 (146097 * t125)))) - (wrap64 ((wrap64 ((wrap64 (365 * (wrap64 (Int.tdiv (wrap64 ((wrap64 ((wrap64 ((wrap64 ((wrap64 (a0 + 730791)) - (wrap64 (146097 * t125)))) - (wrap64 (Int.tdiv (wrap64 ((wrap64 (a0 + 730791)) - (wrap64 (146097 * t125)))) 1460)))) + (wrap64 (Int.tdiv (wrap64 ((wrap64 (a0 + 730791)) - (wrap64 (146097 * t125)))) 36524)))) - (wrap64 (Int.tdiv (wrap64 ((wrap64 (a0 + 730791)) - (wrap64 (146097 * t125)))) 146096)))) 365)))) + (wrap64 (Int.tdiv (wrap64 (Int.tdiv (wrap64 ((wrap64 ((wrap64 ((wrap64 ((wrap64 (a0 + 730791)) - (wrap64 (146097 * t125)))) - (wrap64 (Int.tdiv (wrap64 ((wrap64 (a0 + 730791)) - (wrap64 (146097 * t125)))) 1460)))) + (wrap64 (Int.tdiv (wrap64 ((wrap64 (a0 + 730791)) - (wrap64 (146097 * t125)))) 36524)))) - (wrap64 (Int.tdiv (wrap64 ((wrap64 (a0 + 730791)) - (wrap64 (146097 * t125)))) 146096)))) 365)) 4)))) - (wrap64 (Int.tdiv (wrap64 (Int.tdiv (wrap64 ((wrap64 ((wrap64 ((wrap64 ((wrap64 (a0 + 730791)) - (wrap64 (146097 * t125)))) - (wrap64 (Int.tdiv (wrap64 ((wrap64 (a0 + 730791)) - (wrap64 (146097 * t125)))) 1460)))) + (wrap64 (Int.tdiv (wrap64 ((wrap64 (a0 + 730791)) - (wrap64 (146097 * t125)))) 36524)))) - (wrap64 (Int.tdiv (wrap64 ((wrap64 (a0 + 730791)) - (wrap64 (146097 * t125)))) 146096)))) 365)) 100)))))))) + 2)) 153)) + 3)) > 12 then (some (wrap64 ((wrap64 ((wrap64 (400 * t125)) + (wrap64 (Int.tdiv (wrap64 ((wrap64 ((wrap64 ((wrap64 ((wrap64 (a0 + 730791)) - (wrap64 (146097 * t125)))) - (wrap64 (Int.tdiv (wrap64 ((wrap64 (a0 + 730791)) - (wrap64 (146097 * t125)))) 1460)))) + (wrap64 (Int.tdiv (wrap64 ((wrap64 (a0 + 730791)) - (wrap64 (146097 * t125)))) 36524)))) - (wrap64 (Int.tdiv (wrap64 ((wrap64 (a0 + 730791)) - (wrap64 (146097 * t125)))) 146096)))) 365)))) + 1), wrap64 ((wrap64 ((wrap64 (Int.tdiv (wrap64 ((wrap64 (5 * (wrap64 ((wrap64 ((wrap64 (a0 + 730791)) - (wrap64 (146097 * t125)))) - (wrap64 ((wrap64 ((wrap64 (365 * (wrap64 (Int.tdiv (wrap64 ((wrap64 ((wrap64 ((wrap64 ((wrap64 (a0 + 730791)) - (wrap64 (146097 * t125)))) - (wrap64 (Int.tdiv (wrap64 ((wrap64 (a0 + 730791)) - (wrap64 (146097 * t125)))) 1460)))) + (wrap64 (Int.tdiv (wrap64 ((wrap64 (a0 + 730791)) - (wrap64 (146097 * t125)))) 36524)))) - (wrap64 (Int.tdiv (wrap64 ((wrap64 (a0 + 730791)) - (wrap64 (146097 * t125)))) 146096)))) 365)))) + (wrap64 (Int.tdiv (wrap64 (Int.tdiv (wrap64 ((wrap64 ((wrap64 ((wrap64 ((wrap64 (a0 + 730791)) - (wrap64 (146097 * t125)))) - (wrap64 (Int.tdiv (wrap64 ((wrap64 (a0 + 730791)) - (wrap64 (146097 * t125)))) 1460)))) + (wrap64 (Int.tdiv (wrap64 ((wrap64 (a0 + 730791)) - (wrap64 (146097 * t125)))) 36524)))) - (wrap64 (Int.tdiv (wrap64 ((wrap64 (a0 + 730791)) - (wrap64 (146097 * t125)))) 146096)))) 365)) 4)))) - (wrap64 (Int.tdiv (wrap64 (Int.tdiv (wrap64 ((wrap64 ((wrap64 ((wrap64 ((wrap64 (a0 + 730791)) - (wrap64 (146097 * t125)))) - (wrap64 (Int.tdiv (wrap64 ((wrap64 (a0 + 730791)) - (wrap64 (146097 * t125)))) 1460)))) + (wrap64 (Int.tdiv (wrap64 ((wrap64 (a0 + 730791)) - (wrap64 (146097 * t125)))) 36524)))) - (wrap64 (Int.tdiv (wrap64 ((wrap64 (a0 + 730791)) - (wrap64 (146097 * t125)))) 146096)))) 365)) 100)))))))) + 2)) 153)) + 3)) - 12), wrap64 ((wrap64 ((wrap64 ((wrap64 ((wrap64 (a0 + 730791)) - (wrap64 (146097 * t125)))) - (wrap64 ((wrap64 ((wrap64 (365 * (wrap64 (Int.tdiv (wrap64 ((wrap64 ((wrap64 ((wrap64 ((wrap64 (a0 + 730791)) - (wrap64 (146097 * t125)))) - (wrap64 (Int.tdiv (wrap64 ((wrap64 (a0 + 730791)) - (wrap64 (146097 * t125)))) 1460)))) + (wrap64 (Int.tdiv (wrap64 ((wrap64 (a0 + 730791)) - (wrap64 (146097 * t125)))) 36524)))) - (wrap64 (Int.tdiv (wrap64 ((wrap64 (a0 + 730791)) - (wrap64 (146097 * t125)))) 146096)))) 365)))) + (wrap64 (Int.tdiv (wrap64 (Int.tdiv (wrap64 ((wrap64 ((wrap64 ((wrap64 ((wrap64 (a0 + 730791)) - (wrap64 (146097 * t125)))) - (wrap64 (Int.tdiv (wrap64 ((wrap64 (a0 + 730791)) - (wrap64 (146097 * t125)))) 1460)))) + (wrap64 (Int.tdiv (wrap64 ((wrap64 (a0 + 730791)) - (wrap64 (146097 * t125)))) 36524)))) - (wrap64 (Int.tdiv (wrap64 ((wrap64 (a0 + 730791)) - (wrap64 (146097 * t125)))) 146096)))) 365)) 4)))) - (wrap64 (Int.tdiv (wrap64 (Int.tdiv (wrap64 ((wrap64 ((wrap64 ((wrap64 ((wrap64 (a0 + 730791)) - (wrap64 (146097 * t125)))) - (wrap64 (Int.tdiv (wrap64 ((wrap64 (a0 + 730791)) - (wrap64 (146097 * t125)))) 1460)))) + (wrap64 (Int.tdiv (wrap64 ((wrap64 (a0 + 730791)) - (wrap64 (146097 * t125)))) 36524)))) - (wrap64 (Int.tdiv (wrap64 ((wrap64 (a0 + 730791)) - (wrap64 (146097 * t125)))) 146096)))) 365)) 100)))))) - (wrap64 (Int.tdiv (wrap64 ((wrap64 (153 * (wrap64 (Int.tdiv (wrap64 ((wrap64 (5 * (wrap64 ((wrap64 ((wrap64 (a0 + 730791)) - (wrap64 (146097 * t125)))) - (wrap64 ((wrap64 ((wrap64 (365 * (wrap64 (Int.tdiv (wrap64 ((wrap64 ((wrap64 ((wrap64 ((wrap64 (a0 + 730791)) - (wrap64 (146097 * t125)))) - (wrap64 (Int.tdiv (wrap64 ((wrap64 (a0 + 730791)) - (wrap64 (146097 * t125)))) 1460)))) + (wrap64 (Int.tdiv (wrap64 ((wrap64 (a0 + 730791)) - (wrap64 (146097 * t125)))) 36524)))) - (wrap64 (Int.tdiv (wrap64 ((wrap64 (a0 + 730791)) - (wrap64 (146097 * t125)))) 146096)))) 365)))) + (wrap64 (Int.tdiv (wrap64 (Int.tdiv (wrap64 ((wrap64 ((wrap64 ((wrap64 ((wrap64 (a0 + 730791)) - (wrap64 (146097 * t125)))) - (wrap64 (Int.tdiv (wrap64 ((wrap64 (a0 + 730791)) - (wrap64 (146097 * t125)))) 1460)))) + (wrap64 (Int.tdiv (wrap64 ((wrap64 (a0 + 730791)) - (wrap64 (146097 * t125)))) 36524)))) - (wrap64 (Int.tdiv (wrap64 ((wrap64 (a0 + 730791)) - (wrap64 (146097 * t125)))) 146096)))) 365)) 4)))) - (wrap64 (Int.tdiv (wrap64 (Int.tdiv (wrap64 ((wrap64 ((wrap64 ((wrap64 ((wrap64 (a0 + 730791)) - (wrap64 (146097 * t125)))) - (wrap64 (Int.tdiv (wrap64 ((wrap64 (a0 + 730791)) - (wrap64 (146097 * t125)))) 1460)))) + (wrap64 (Int.tdiv (wrap64 ((wrap64 (a0 + 730791)) - (wrap64 (146097 * t125)))) 36524)))) - (wrap64 (Int.tdiv (wrap64 ((wrap64 (a0 + 730791)) - (wrap64 (146097 * t125)))) 146096)))) 365)) 100)))))))) + 2)) 153)))) + 2)) 5)))) + 1))) else (some (wrap64 ((wrap64 (400 * t125)) + (wrap64 (Int.tdiv (wrap64 ((wrap64 ((wrap64 ((wrap64 ((wrap64 (a0 + 730791)) - (wrap64 (146097 * t125)))) - (wrap64 (Int.tdiv (wrap64 ((wrap64 (a0 + 730791)) - (wrap64 (146097 * t125)))) 1460)))) + (wrap64 (Int.tdiv (wrap64 ((wrap64 (a0 + 730791)) - (wrap64 (146097 * t125)))) 36524)))) - (wrap64 (Int.tdiv (wrap64 ((wrap64 (a0 + 730791)) - (wrap64 (146097 * t125)))) 146096)))) 365))), wrap64 ((wrap64 (Int.tdiv (wrap64 ((wrap64 (5 * (wrap64 ((wrap64 ((wrap64 (a0 + 730791)) - (wrap64 (146097 * t125)))) - (wrap64 ((wrap64 ((wrap64 (365 * (wrap64 (Int.tdiv (wrap64 ((wrap64 ((wrap64 ((wrap64 ((wrap64 (a0 + 730791)) - (wrap64 (146097 * t125)))) - (wrap64 (Int.tdiv (wrap64 ((wrap64 (a0 + 730791)) - (wrap64 (146097 * t125)))) 1460)))) + (wrap64 (Int.tdiv (wrap64 ((wrap64 (a0 + 730791)) - (wrap64 (146097 * t125)))) 36524)))) - (wrap64 (Int.tdiv (wrap64 ((wrap64 (a0 + 730791)) - (wrap64 (146097 * t125)))) 146096)))) 365)))) + (wrap64 (Int.tdiv (wrap64 (Int.tdiv (wrap64 ((wrap64 ((wrap64 ((wrap64 ((wrap64 (a0 + 730791)) - (wrap64 (146097 * t125)))) - (wrap64 (Int.tdiv (wrap64 ((wrap64 (a0 + 730791)) - (wrap64 (146097 * t125)))) 1460)))) + (wrap64 (Int.tdiv (wrap64 ((wrap64 (a0 + 730791)) - (wrap64 (146097 * t125)))) 36524)))) - (wrap64 (Int.tdiv (wrap64 ((wrap64 (a0 + 730791)) - (wrap64 (146097 * t125)))) 146096)))) 365)) 4)))) - (wrap64 (Int.tdiv (wrap64 (Int.tdiv (wrap64 ((wrap64 ((wrap64 ((wrap64 ((wrap64 (a0 + 730791)) - (wrap64 (146097 * t125)))) - (wrap64 (Int.tdiv (wrap64 ((wrap64 (a0 + 730791)) - (wrap64 (146097 * t125)))) 1460)))) + (wrap64 (Int.tdiv (wrap64 ((wrap64 (a0 + 730791)) - (wrap64 (146097 * t125)))) 36524)))) - (wrap64 (Int.tdiv (wrap64 ((wrap64 (a0 + 730791)) - (wrap64 (146097 * t125)))) 146096)))) 365)) 100)))))))) + 2)) 153)) + 3), wrap64 ((wrap64 ((wrap64 ((wrap64 ((wrap64 (a0 + 730791)) - (wrap64 (146097 * t125)))) - (wrap64 ((wrap64 ((wrap64 (365 * (wrap64 (Int.tdiv (wrap64 ((wrap64 ((wrap64 ((wrap64 ((wrap64 (a0 + 730791)) - (wrap64 (146097 * t125)))) - (wrap64 (Int.tdiv (wrap64 ((wrap64 (a0 + 730791)) - (wrap64 (146097 * t125)))) 1460)))) + (wrap64 (Int.tdiv (wrap64 ((wrap64 (a0 + 730791)) - (wrap64 (146097 * t125)))) 36524)))) - (wrap64 (Int.tdiv (wrap64 ((wrap64 (a0 + 730791)) - (wrap64 (146097 * t125)))) 146096)))) 365)))) + (wrap64 (Int.tdiv (wrap64 (Int.tdiv (wrap64 ((wrap64 ((wrap64 ((wrap64 ((wrap64 (a0 + 730791)) - (wrap64 (146097 * t125)))) - (wrap64 (Int.tdiv (wrap64 ((wrap64 (a0 + 730791)) - (wrap64 (146097 * t125)))) 1460)))) + (wrap64 (Int.tdiv (wrap64 ((wrap64 (a0 + 730791)) - (wrap64 (146097 * t125)))) 36524)))) - (wrap64 (Int.tdiv (wrap64 ((wrap64 (a0 + 730791)) - (wrap64 (146097 * t125)))) 146096)))) 365)) 4)))) - (wrap64 (Int.tdiv (wrap64 (Int.tdiv (wrap64 ((wrap64 ((wrap64 ((wrap64 ((wrap64 (a0 + 730791)) - (wrap64 (146097 * t125)))) - (wrap64 (Int.tdiv (wrap64 ((wrap64 (a0 + 730791)) - (wrap64 (146097 * t125)))) 1460)))) + (wrap64 (Int.tdiv (wrap64 ((wrap64 (a0 + 730791)) - (wrap64 (146097 * t125)))) 36524)))) - (wrap64 (Int.tdiv (wrap64 ((wrap64 (a0 + 730791)) - (wrap64 (146097 * t125)))) 146096)))) 365)) 100)))))) - (wrap64 (Int.tdiv (wrap64 ((wrap64 (153 * (wrap64 (Int.tdiv (wrap64 ((wrap64 (5 * (wrap64 ((wrap64 ((wrap64 (a0 + 730791)) - (wrap64 (146097 * t125)))) - (wrap64 ((wrap64 ((wrap64 (365 * (wrap64 (Int.tdiv (wrap64 ((wrap64 ((wrap64 ((wrap64 ((wrap64 (a0 + 730791)) - (wrap64 (146097 * t125)))) - (wrap64 (Int.tdiv (wrap64 ((wrap64 (a0 + 730791)) - (wrap64 (146097 * t125)))) 1460)))) + (wrap64 (Int.tdiv (wrap64 ((wrap64 (a0 + 730791)) - (wrap64 (146097 * t125)))) 36524)))) - (wrap64 (Int.tdiv (wrap64 ((wrap64 (a0 + 730791)) - (wrap64 (146097 * t125)))) 146096)))) 365)))) + (wrap64 (Int.tdiv (wrap64 (Int.tdiv (wrap64 ((wrap64 ((wrap64 ((wrap64 ((wrap64 (a0 + 730791)) - (wrap64 (146097 * t125)))) - (wrap64 (Int.tdiv (wrap64 ((wrap64 (a0 + 730791)) - (wrap64 (146097 * t125)))) 1460)))) + (wrap64 (Int.tdiv (wrap64 ((wrap64 (a0 + 730791)) - (wrap64 (146097 * t125)))) 36524)))) - (wrap64 (Int.tdiv (wrap64 ((wrap64 (a0 + 730791)) - (wrap64 (146097 * t125)))) 146096)))) 365)) 4)))) - (wrap64 (Int.tdiv (wrap64 (Int.tdiv (wrap64 ((wrap64 ((wrap64 ((wrap64 ((wrap64 (a0 + 730791)) - (wrap64 (146097 * t125)))) - (wrap64 (Int.tdiv (wrap64 ((wrap64 (a0 + 730791)) - (wrap64 (146097 * t125)))) 1460)))) + (wrap64 (Int.tdiv (wrap64 ((wrap64 (a0 + 730791)) - (wrap64 (146097 * t125)))) 36524)))) - (wrap64 (Int.tdiv (wrap64 ((wrap64 (a0 + 730791)) - (wrap64 (146097 * t125)))) 146096)))) 365)) 100)))))))) + 2)) 153)))) + 2)) 5)))) + 1))))
set_option maxHeartbeats 8000000 in
set_option maxRecDepth 100000 in
theorem mastref2_date_parts.calls (a0 : Int) (r1 : Int) (r2 : Int) (r3 : Int) (w : World) (h : mastref2_date_parts.f a0 = some (r1, r2, r3)) :
    Calls Try.prog 66 #[.int .i64 a0] w fun e w' => e = .returned (.tuple #[.int .i64 r1, .int .i64 r2, .int .i64 r3]) ∧ Drawn0 w w' := by
  have H : ((mastref2_floor.f (wrap64 (a0 + 730791)) 146097).bind fun t125 => (if (wrap64 ((wrap64 (Int.tdiv (wrap64 ((wrap64 (5 * (wrap64 ((wrap64 ((wrap64 (a0 + 730791)) - (wrap64 (146097 * t125)))) - (wrap64 ((wrap64 ((wrap64 (365 * (wrap64 (Int.tdiv (wrap64 ((wrap64 ((wrap64 ((wrap64 ((wrap64 (a0 + 730791)) - (wrap64 (146097 * t125)))) - (wrap64 (Int.tdiv (wrap64 ((wrap64 (a0 + 730791)) - (wrap64 (146097 * t125)))) 1460)))) + (wrap64 (Int.tdiv (wrap64 ((wrap64 (a0 + 730791)) - (wrap64 (146097 * t125)))) 36524)))) - (wrap64 (Int.tdiv (wrap64 ((wrap64 (a0 + 730791)) - (wrap64 (146097 * t125)))) 146096)))) 365)))) + (wrap64 (Int.tdiv (wrap64 (Int.tdiv (wrap64 ((wrap64 ((wrap64 ((wrap64 ((wrap64 (a0 + 730791)) - (wrap64 (146097 * t125)))) - (wrap64 (Int.tdiv (wrap64 ((wrap64 (a0 + 730791)) - (wrap64 (146097 * t125)))) 1460)))) + (wrap64 (Int.tdiv (wrap64 ((wrap64 (a0 + 730791)) - (wrap64 (146097 * t125)))) 36524)))) - (wrap64 (Int.tdiv (wrap64 ((wrap64 (a0 + 730791)) - (wrap64 (146097 * t125)))) 146096)))) 365)) 4)))) - (wrap64 (Int.tdiv (wrap64 (Int.tdiv (wrap64 ((wrap64 ((wrap64 ((wrap64 ((wrap64 (a0 + 730791)) - (wrap64 (146097 * t125)))) - (wrap64 (Int.tdiv (wrap64 ((wrap64 (a0 + 730791)) - (wrap64 (146097 * t125)))) 1460)))) + (wrap64 (Int.tdiv (wrap64 ((wrap64 (a0 + 730791)) - (wrap64 (146097 * t125)))) 36524)))) - (wrap64 (Int.tdiv (wrap64 ((wrap64 (a0 + 730791)) - (wrap64 (146097 * t125)))) 146096)))) 365)) 100)))))))) + 2)) 153)) + 3)) > 12 then (some (wrap64 ((wrap64 ((wrap64 (400 * t125)) + (wrap64 (Int.tdiv (wrap64 ((wrap64 ((wrap64 ((wrap64 ((wrap64 (a0 + 730791)) - (wrap64 (146097 * t125)))) - (wrap64 (Int.tdiv (wrap64 ((wrap64 (a0 + 730791)) - (wrap64 (146097 * t125)))) 1460)))) + (wrap64 (Int.tdiv (wrap64 ((wrap64 (a0 + 730791)) - (wrap64 (146097 * t125)))) 36524)))) - (wrap64 (Int.tdiv (wrap64 ((wrap64 (a0 + 730791)) - (wrap64 (146097 * t125)))) 146096)))) 365)))) + 1), wrap64 ((wrap64 ((wrap64 (Int.tdiv (wrap64 ((wrap64 (5 * (wrap64 ((wrap64 ((wrap64 (a0 + 730791)) - (wrap64 (146097 * t125)))) - (wrap64 ((wrap64 ((wrap64 (365 * (wrap64 (Int.tdiv (wrap64 ((wrap64 ((wrap64 ((wrap64 ((wrap64 (a0 + 730791)) - (wrap64 (146097 * t125)))) - (wrap64 (Int.tdiv (wrap64 ((wrap64 (a0 + 730791)) - (wrap64 (146097 * t125)))) 1460)))) + (wrap64 (Int.tdiv (wrap64 ((wrap64 (a0 + 730791)) - (wrap64 (146097 * t125)))) 36524)))) - (wrap64 (Int.tdiv (wrap64 ((wrap64 (a0 + 730791)) - (wrap64 (146097 * t125)))) 146096)))) 365)))) + (wrap64 (Int.tdiv (wrap64 (Int.tdiv (wrap64 ((wrap64 ((wrap64 ((wrap64 ((wrap64 (a0 + 730791)) - (wrap64 (146097 * t125)))) - (wrap64 (Int.tdiv (wrap64 ((wrap64 (a0 + 730791)) - (wrap64 (146097 * t125)))) 1460)))) + (wrap64 (Int.tdiv (wrap64 ((wrap64 (a0 + 730791)) - (wrap64 (146097 * t125)))) 36524)))) - (wrap64 (Int.tdiv (wrap64 ((wrap64 (a0 + 730791)) - (wrap64 (146097 * t125)))) 146096)))) 365)) 4)))) - (wrap64 (Int.tdiv (wrap64 (Int.tdiv (wrap64 ((wrap64 ((wrap64 ((wrap64 ((wrap64 (a0 + 730791)) - (wrap64 (146097 * t125)))) - (wrap64 (Int.tdiv (wrap64 ((wrap64 (a0 + 730791)) - (wrap64 (146097 * t125)))) 1460)))) + (wrap64 (Int.tdiv (wrap64 ((wrap64 (a0 + 730791)) - (wrap64 (146097 * t125)))) 36524)))) - (wrap64 (Int.tdiv (wrap64 ((wrap64 (a0 + 730791)) - (wrap64 (146097 * t125)))) 146096)))) 365)) 100)))))))) + 2)) 153)) + 3)) - 12), wrap64 ((wrap64 ((wrap64 ((wrap64 ((wrap64 (a0 + 730791)) - (wrap64 (146097 * t125)))) - (wrap64 ((wrap64 ((wrap64 (365 * (wrap64 (Int.tdiv (wrap64 ((wrap64 ((wrap64 ((wrap64 ((wrap64 (a0 + 730791)) - (wrap64 (146097 * t125)))) - (wrap64 (Int.tdiv (wrap64 ((wrap64 (a0 + 730791)) - (wrap64 (146097 * t125)))) 1460)))) + (wrap64 (Int.tdiv (wrap64 ((wrap64 (a0 + 730791)) - (wrap64 (146097 * t125)))) 36524)))) - (wrap64 (Int.tdiv (wrap64 ((wrap64 (a0 + 730791)) - (wrap64 (146097 * t125)))) 146096)))) 365)))) + (wrap64 (Int.tdiv (wrap64 (Int.tdiv (wrap64 ((wrap64 ((wrap64 ((wrap64 ((wrap64 (a0 + 730791)) - (wrap64 (146097 * t125)))) - (wrap64 (Int.tdiv (wrap64 ((wrap64 (a0 + 730791)) - (wrap64 (146097 * t125)))) 1460)))) + (wrap64 (Int.tdiv (wrap64 ((wrap64 (a0 + 730791)) - (wrap64 (146097 * t125)))) 36524)))) - (wrap64 (Int.tdiv (wrap64 ((wrap64 (a0 + 730791)) - (wrap64 (146097 * t125)))) 146096)))) 365)) 4)))) - (wrap64 (Int.tdiv (wrap64 (Int.tdiv (wrap64 ((wrap64 ((wrap64 ((wrap64 ((wrap64 (a0 + 730791)) - (wrap64 (146097 * t125)))) - (wrap64 (Int.tdiv (wrap64 ((wrap64 (a0 + 730791)) - (wrap64 (146097 * t125)))) 1460)))) + (wrap64 (Int.tdiv (wrap64 ((wrap64 (a0 + 730791)) - (wrap64 (146097 * t125)))) 36524)))) - (wrap64 (Int.tdiv (wrap64 ((wrap64 (a0 + 730791)) - (wrap64 (146097 * t125)))) 146096)))) 365)) 100)))))) - (wrap64 (Int.tdiv (wrap64 ((wrap64 (153 * (wrap64 (Int.tdiv (wrap64 ((wrap64 (5 * (wrap64 ((wrap64 ((wrap64 (a0 + 730791)) - (wrap64 (146097 * t125)))) - (wrap64 ((wrap64 ((wrap64 (365 * (wrap64 (Int.tdiv (wrap64 ((wrap64 ((wrap64 ((wrap64 ((wrap64 (a0 + 730791)) - (wrap64 (146097 * t125)))) - (wrap64 (Int.tdiv (wrap64 ((wrap64 (a0 + 730791)) - (wrap64 (146097 * t125)))) 1460)))) + (wrap64 (Int.tdiv (wrap64 ((wrap64 (a0 + 730791)) - (wrap64 (146097 * t125)))) 36524)))) - (wrap64 (Int.tdiv (wrap64 ((wrap64 (a0 + 730791)) - (wrap64 (146097 * t125)))) 146096)))) 365)))) + (wrap64 (Int.tdiv (wrap64 (Int.tdiv (wrap64 ((wrap64 ((wrap64 ((wrap64 ((wrap64 (a0 + 730791)) - (wrap64 (146097 * t125)))) - (wrap64 (Int.tdiv (wrap64 ((wrap64 (a0 + 730791)) - (wrap64 (146097 * t125)))) 1460)))) + (wrap64 (Int.tdiv (wrap64 ((wrap64 (a0 + 730791)) - (wrap64 (146097 * t125)))) 36524)))) - (wrap64 (Int.tdiv (wrap64 ((wrap64 (a0 + 730791)) - (wrap64 (146097 * t125)))) 146096)))) 365)) 4)))) - (wrap64 (Int.tdiv (wrap64 (Int.tdiv (wrap64 ((wrap64 ((wrap64 ((wrap64 ((wrap64 (a0 + 730791)) - (wrap64 (146097 * t125)))) - (wrap64 (Int.tdiv (wrap64 ((wrap64 (a0 + 730791)) - (wrap64 (146097 * t125)))) 1460)))) + (wrap64 (Int.tdiv (wrap64 ((wrap64 (a0 + 730791)) - (wrap64 (146097 * t125)))) 36524)))) - (wrap64 (Int.tdiv (wrap64 ((wrap64 (a0 + 730791)) - (wrap64 (146097 * t125)))) 146096)))) 365)) 100)))))))) + 2)) 153)))) + 2)) 5)))) + 1))) else (some (wrap64 ((wrap64 (400 * t125)) + (wrap64 (Int.tdiv (wrap64 ((wrap64 ((wrap64 ((wrap64 ((wrap64 (a0 + 730791)) - (wrap64 (146097 * t125)))) - (wrap64 (Int.tdiv (wrap64 ((wrap64 (a0 + 730791)) - (wrap64 (146097 * t125)))) 1460)))) + (wrap64 (Int.tdiv (wrap64 ((wrap64 (a0 + 730791)) - (wrap64 (146097 * t125)))) 36524)))) - (wrap64 (Int.tdiv (wrap64 ((wrap64 (a0 + 730791)) - (wrap64 (146097 * t125)))) 146096)))) 365))), wrap64 ((wrap64 (Int.tdiv (wrap64 ((wrap64 (5 * (wrap64 ((wrap64 ((wrap64 (a0 + 730791)) - (wrap64 (146097 * t125)))) - (wrap64 ((wrap64 ((wrap64 (365 * (wrap64 (Int.tdiv (wrap64 ((wrap64 ((wrap64 ((wrap64 ((wrap64 (a0 + 730791)) - (wrap64 (146097 * t125)))) - (wrap64 (Int.tdiv (wrap64 ((wrap64 (a0 + 730791)) - (wrap64 (146097 * t125)))) 1460)))) + (wrap64 (Int.tdiv (wrap64 ((wrap64 (a0 + 730791)) - (wrap64 (146097 * t125)))) 36524)))) - (wrap64 (Int.tdiv (wrap64 ((wrap64 (a0 + 730791)) - (wrap64 (146097 * t125)))) 146096)))) 365)))) + (wrap64 (Int.tdiv (wrap64 (Int.tdiv (wrap64 ((wrap64 ((wrap64 ((wrap64 ((wrap64 (a0 + 730791)) - (wrap64 (146097 * t125)))) - (wrap64 (Int.tdiv (wrap64 ((wrap64 (a0 + 730791)) - (wrap64 (146097 * t125)))) 1460)))) + (wrap64 (Int.tdiv (wrap64 ((wrap64 (a0 + 730791)) - (wrap64 (146097 * t125)))) 36524)))) - (wrap64 (Int.tdiv (wrap64 ((wrap64 (a0 + 730791)) - (wrap64 (146097 * t125)))) 146096)))) 365)) 4)))) - (wrap64 (Int.tdiv (wrap64 (Int.tdiv (wrap64 ((wrap64 ((wrap64 ((wrap64 ((wrap64 (a0 + 730791)) - (wrap64 (146097 * t125)))) - (wrap64 (Int.tdiv (wrap64 ((wrap64 (a0 + 730791)) - (wrap64 (146097 * t125)))) 1460)))) + (wrap64 (Int.tdiv (wrap64 ((wrap64 (a0 + 730791)) - (wrap64 (146097 * t125)))) 36524)))) - (wrap64 (Int.tdiv (wrap64 ((wrap64 (a0 + 730791)) - (wrap64 (146097 * t125)))) 146096)))) 365)) 100)))))))) + 2)) 153)) + 3), wrap64 ((wrap64 ((wrap64 ((wrap64 ((wrap64 (a0 + 730791)) - (wrap64 (146097 * t125)))) - (wrap64 ((wrap64 ((wrap64 (365 * (wrap64 (Int.tdiv (wrap64 ((wrap64 ((wrap64 ((wrap64 ((wrap64 (a0 + 730791)) - (wrap64 (146097 * t125)))) - (wrap64 (Int.tdiv (wrap64 ((wrap64 (a0 + 730791)) - (wrap64 (146097 * t125)))) 1460)))) + (wrap64 (Int.tdiv (wrap64 ((wrap64 (a0 + 730791)) - (wrap64 (146097 * t125)))) 36524)))) - (wrap64 (Int.tdiv (wrap64 ((wrap64 (a0 + 730791)) - (wrap64 (146097 * t125)))) 146096)))) 365)))) + (wrap64 (Int.tdiv (wrap64 (Int.tdiv (wrap64 ((wrap64 ((wrap64 ((wrap64 ((wrap64 (a0 + 730791)) - (wrap64 (146097 * t125)))) - (wrap64 (Int.tdiv (wrap64 ((wrap64 (a0 + 730791)) - (wrap64 (146097 * t125)))) 1460)))) + (wrap64 (Int.tdiv (wrap64 ((wrap64 (a0 + 730791)) - (wrap64 (146097 * t125)))) 36524)))) - (wrap64 (Int.tdiv (wrap64 ((wrap64 (a0 + 730791)) - (wrap64 (146097 * t125)))) 146096)))) 365)) 4)))) - (wrap64 (Int.tdiv (wrap64 (Int.tdiv (wrap64 ((wrap64 ((wrap64 ((wrap64 ((wrap64 (a0 + 730791)) - (wrap64 (146097 * t125)))) - (wrap64 (Int.tdiv (wrap64 ((wrap64 (a0 + 730791)) - (wrap64 (146097 * t125)))) 1460)))) + (wrap64 (Int.tdiv (wrap64 ((wrap64 (a0 + 730791)) - (wrap64 (146097 * t125)))) 36524)))) - (wrap64 (Int.tdiv (wrap64 ((wrap64 (a0 + 730791)) - (wrap64 (146097 * t125)))) 146096)))) 365)) 100)))))) - (wrap64 (Int.tdiv (wrap64 ((wrap64 (153 * (wrap64 (Int.tdiv (wrap64 ((wrap64 (5 * (wrap64 ((wrap64 ((wrap64 (a0 + 730791)) - (wrap64 (146097 * t125)))) - (wrap64 ((wrap64 ((wrap64 (365 * (wrap64 (Int.tdiv (wrap64 ((wrap64 ((wrap64 ((wrap64 ((wrap64 (a0 + 730791)) - (wrap64 (146097 * t125)))) - (wrap64 (Int.tdiv (wrap64 ((wrap64 (a0 + 730791)) - (wrap64 (146097 * t125)))) 1460)))) + (wrap64 (Int.tdiv (wrap64 ((wrap64 (a0 + 730791)) - (wrap64 (146097 * t125)))) 36524)))) - (wrap64 (Int.tdiv (wrap64 ((wrap64 (a0 + 730791)) - (wrap64 (146097 * t125)))) 146096)))) 365)))) + (wrap64 (Int.tdiv (wrap64 (Int.tdiv (wrap64 ((wrap64 ((wrap64 ((wrap64 ((wrap64 (a0 + 730791)) - (wrap64 (146097 * t125)))) - (wrap64 (Int.tdiv (wrap64 ((wrap64 (a0 + 730791)) - (wrap64 (146097 * t125)))) 1460)))) + (wrap64 (Int.tdiv (wrap64 ((wrap64 (a0 + 730791)) - (wrap64 (146097 * t125)))) 36524)))) - (wrap64 (Int.tdiv (wrap64 ((wrap64 (a0 + 730791)) - (wrap64 (146097 * t125)))) 146096)))) 365)) 4)))) - (wrap64 (Int.tdiv (wrap64 (Int.tdiv (wrap64 ((wrap64 ((wrap64 ((wrap64 ((wrap64 (a0 + 730791)) - (wrap64 (146097 * t125)))) - (wrap64 (Int.tdiv (wrap64 ((wrap64 (a0 + 730791)) - (wrap64 (146097 * t125)))) 1460)))) + (wrap64 (Int.tdiv (wrap64 ((wrap64 (a0 + 730791)) - (wrap64 (146097 * t125)))) 36524)))) - (wrap64 (Int.tdiv (wrap64 ((wrap64 (a0 + 730791)) - (wrap64 (146097 * t125)))) 146096)))) 365)) 100)))))))) + 2)) 153)))) + 2)) 5)))) + 1))))) = some (r1, r2, r3) := h
  clear h
  replace H := Option.bind_eq_some_iff.mp H
  obtain ⟨t125, A20, H⟩ := H
  replace H : (if (wrap64 ((wrap64 (Int.tdiv (wrap64 ((wrap64 (5 * (wrap64 ((wrap64 ((wrap64 (a0 + 730791)) - (wrap64 (146097 * t125)))) - (wrap64 ((wrap64 ((wrap64 (365 * (wrap64 (Int.tdiv (wrap64 ((wrap64 ((wrap64 ((wrap64 ((wrap64 (a0 + 730791)) - (wrap64 (146097 * t125)))) - (wrap64 (Int.tdiv (wrap64 ((wrap64 (a0 + 730791)) - (wrap64 (146097 * t125)))) 1460)))) + (wrap64 (Int.tdiv (wrap64 ((wrap64 (a0 + 730791)) - (wrap64 (146097 * t125)))) 36524)))) - (wrap64 (Int.tdiv (wrap64 ((wrap64 (a0 + 730791)) - (wrap64 (146097 * t125)))) 146096)))) 365)))) + (wrap64 (Int.tdiv (wrap64 (Int.tdiv (wrap64 ((wrap64 ((wrap64 ((wrap64 ((wrap64 (a0 + 730791)) - (wrap64 (146097 * t125)))) - (wrap64 (Int.tdiv (wrap64 ((wrap64 (a0 + 730791)) - (wrap64 (146097 * t125)))) 1460)))) + (wrap64 (Int.tdiv (wrap64 ((wrap64 (a0 + 730791)) - (wrap64 (146097 * t125)))) 36524)))) - (wrap64 (Int.tdiv (wrap64 ((wrap64 (a0 + 730791)) - (wrap64 (146097 * t125)))) 146096)))) 365)) 4)))) - (wrap64 (Int.tdiv (wrap64 (Int.tdiv (wrap64 ((wrap64 ((wrap64 ((wrap64 ((wrap64 (a0 + 730791)) - (wrap64 (146097 * t125)))) - (wrap64 (Int.tdiv (wrap64 ((wrap64 (a0 + 730791)) - (wrap64 (146097 * t125)))) 1460)))) + (wrap64 (Int.tdiv (wrap64 ((wrap64 (a0 + 730791)) - (wrap64 (146097 * t125)))) 36524)))) - (wrap64 (Int.tdiv (wrap64 ((wrap64 (a0 + 730791)) - (wrap64 (146097 * t125)))) 146096)))) 365)) 100)))))))) + 2)) 153)) + 3)) > 12 then (some (wrap64 ((wrap64 ((wrap64 (400 * t125)) + (wrap64 (Int.tdiv (wrap64 ((wrap64 ((wrap64 ((wrap64 ((wrap64 (a0 + 730791)) - (wrap64 (146097 * t125)))) - (wrap64 (Int.tdiv (wrap64 ((wrap64 (a0 + 730791)) - (wrap64 (146097 * t125)))) 1460)))) + (wrap64 (Int.tdiv (wrap64 ((wrap64 (a0 + 730791)) - (wrap64 (146097 * t125)))) 36524)))) - (wrap64 (Int.tdiv (wrap64 ((wrap64 (a0 + 730791)) - (wrap64 (146097 * t125)))) 146096)))) 365)))) + 1), wrap64 ((wrap64 ((wrap64 (Int.tdiv (wrap64 ((wrap64 (5 * (wrap64 ((wrap64 ((wrap64 (a0 + 730791)) - (wrap64 (146097 * t125)))) - (wrap64 ((wrap64 ((wrap64 (365 * (wrap64 (Int.tdiv (wrap64 ((wrap64 ((wrap64 ((wrap64 ((wrap64 (a0 + 730791)) - (wrap64 (146097 * t125)))) - (wrap64 (Int.tdiv (wrap64 ((wrap64 (a0 + 730791)) - (wrap64 (146097 * t125)))) 1460)))) + (wrap64 (Int.tdiv (wrap64 ((wrap64 (a0 + 730791)) - (wrap64 (146097 * t125)))) 36524)))) - (wrap64 (Int.tdiv (wrap64 ((wrap64 (a0 + 730791)) - (wrap64 (146097 * t125)))) 146096)))) 365)))) + (wrap64 (Int.tdiv (wrap64 (Int.tdiv (wrap64 ((wrap64 ((wrap64 ((wrap64 ((wrap64 (a0 + 730791)) - (wrap64 (146097 * t125)))) - (wrap64 (Int.tdiv (wrap64 ((wrap64 (a0 + 730791)) - (wrap64 (146097 * t125)))) 1460)))) + (wrap64 (Int.tdiv (wrap64 ((wrap64 (a0 + 730791)) - (wrap64 (146097 * t125)))) 36524)))) - (wrap64 (Int.tdiv (wrap64 ((wrap64 (a0 + 730791)) - (wrap64 (146097 * t125)))) 146096)))) 365)) 4)))) - (wrap64 (Int.tdiv (wrap64 (Int.tdiv (wrap64 ((wrap64 ((wrap64 ((wrap64 ((wrap64 (a0 + 730791)) - (wrap64 (146097 * t125)))) - (wrap64 (Int.tdiv (wrap64 ((wrap64 (a0 + 730791)) - (wrap64 (146097 * t125)))) 1460)))) + (wrap64 (Int.tdiv (wrap64 ((wrap64 (a0 + 730791)) - (wrap64 (146097 * t125)))) 36524)))) - (wrap64 (Int.tdiv (wrap64 ((wrap64 (a0 + 730791)) - (wrap64 (146097 * t125)))) 146096)))) 365)) 100)))))))) + 2)) 153)) + 3)) - 12), wrap64 ((wrap64 ((wrap64 ((wrap64 ((wrap64 (a0 + 730791)) - (wrap64 (146097 * t125)))) - (wrap64 ((wrap64 ((wrap64 (365 * (wrap64 (Int.tdiv (wrap64 ((wrap64 ((wrap64 ((wrap64 ((wrap64 (a0 + 730791)) - (wrap64 (146097 * t125)))) - (wrap64 (Int.tdiv (wrap64 ((wrap64 (a0 + 730791)) - (wrap64 (146097 * t125)))) 1460)))) + (wrap64 (Int.tdiv (wrap64 ((wrap64 (a0 + 730791)) - (wrap64 (146097 * t125)))) 36524)))) - (wrap64 (Int.tdiv (wrap64 ((wrap64 (a0 + 730791)) - (wrap64 (146097 * t125)))) 146096)))) 365)))) + (wrap64 (Int.tdiv (wrap64 (Int.tdiv (wrap64 ((wrap64 ((wrap64 ((wrap64 ((wrap64 (a0 + 730791)) - (wrap64 (146097 * t125)))) - (wrap64 (Int.tdiv (wrap64 ((wrap64 (a0 + 730791)) - (wrap64 (146097 * t125)))) 1460)))) + (wrap64 (Int.tdiv (wrap64 ((wrap64 (a0 + 730791)) - (wrap64 (146097 * t125)))) 36524)))) - (wrap64 (Int.tdiv (wrap64 ((wrap64 (a0 + 730791)) - (wrap64 (146097 * t125)))) 146096)))) 365)) 4)))) - (wrap64 (Int.tdiv (wrap64 (Int.tdiv (wrap64 ((wrap64 ((wrap64 ((wrap64 ((wrap64 (a0 + 730791)) - (wrap64 (146097 * t125)))) - (wrap64 (Int.tdiv (wrap64 ((wrap64 (a0 + 730791)) - (wrap64 (146097 * t125)))) 1460)))) + (wrap64 (Int.tdiv (wrap64 ((wrap64 (a0 + 730791)) - (wrap64 (146097 * t125)))) 36524)))) - (wrap64 (Int.tdiv (wrap64 ((wrap64 (a0 + 730791)) - (wrap64 (146097 * t125)))) 146096)))) 365)) 100)))))) - (wrap64 (Int.tdiv (wrap64 ((wrap64 (153 * (wrap64 (Int.tdiv (wrap64 ((wrap64 (5 * (wrap64 ((wrap64 ((wrap64 (a0 + 730791)) - (wrap64 (146097 * t125)))) - (wrap64 ((wrap64 ((wrap64 (365 * (wrap64 (Int.tdiv (wrap64 ((wrap64 ((wrap64 ((wrap64 ((wrap64 (a0 + 730791)) - (wrap64 (146097 * t125)))) - (wrap64 (Int.tdiv (wrap64 ((wrap64 (a0 + 730791)) - (wrap64 (146097 * t125)))) 1460)))) + (wrap64 (Int.tdiv (wrap64 ((wrap64 (a0 + 730791)) - (wrap64 (146097 * t125)))) 36524)))) - (wrap64 (Int.tdiv (wrap64 ((wrap64 (a0 + 730791)) - (wrap64 (146097 * t125)))) 146096)))) 365)))) + (wrap64 (Int.tdiv (wrap64 (Int.tdiv (wrap64 ((wrap64 ((wrap64 ((wrap64 ((wrap64 (a0 + 730791)) - (wrap64 (146097 * t125)))) - (wrap64 (Int.tdiv (wrap64 ((wrap64 (a0 + 730791)) - (wrap64 (146097 * t125)))) 1460)))) + (wrap64 (Int.tdiv (wrap64 ((wrap64 (a0 + 730791)) - (wrap64 (146097 * t125)))) 36524)))) - (wrap64 (Int.tdiv (wrap64 ((wrap64 (a0 + 730791)) - (wrap64 (146097 * t125)))) 146096)))) 365)) 4)))) - (wrap64 (Int.tdiv (wrap64 (Int.tdiv (wrap64 ((wrap64 ((wrap64 ((wrap64 ((wrap64 (a0 + 730791)) - (wrap64 (146097 * t125)))) - (wrap64 (Int.tdiv (wrap64 ((wrap64 (a0 + 730791)) - (wrap64 (146097 * t125)))) 1460)))) + (wrap64 (Int.tdiv (wrap64 ((wrap64 (a0 + 730791)) - (wrap64 (146097 * t125)))) 36524)))) - (wrap64 (Int.tdiv (wrap64 ((wrap64 (a0 + 730791)) - (wrap64 (146097 * t125)))) 146096)))) 365)) 100)))))))) + 2)) 153)))) + 2)) 5)))) + 1))) else (some (wrap64 ((wrap64 (400 * t125)) + (wrap64 (Int.tdiv (wrap64 ((wrap64 ((wrap64 ((wrap64 ((wrap64 (a0 + 730791)) - (wrap64 (146097 * t125)))) - (wrap64 (Int.tdiv (wrap64 ((wrap64 (a0 + 730791)) - (wrap64 (146097 * t125)))) 1460)))) + (wrap64 (Int.tdiv (wrap64 ((wrap64 (a0 + 730791)) - (wrap64 (146097 * t125)))) 36524)))) - (wrap64 (Int.tdiv (wrap64 ((wrap64 (a0 + 730791)) - (wrap64 (146097 * t125)))) 146096)))) 365))), wrap64 ((wrap64 (Int.tdiv (wrap64 ((wrap64 (5 * (wrap64 ((wrap64 ((wrap64 (a0 + 730791)) - (wrap64 (146097 * t125)))) - (wrap64 ((wrap64 ((wrap64 (365 * (wrap64 (Int.tdiv (wrap64 ((wrap64 ((wrap64 ((wrap64 ((wrap64 (a0 + 730791)) - (wrap64 (146097 * t125)))) - (wrap64 (Int.tdiv (wrap64 ((wrap64 (a0 + 730791)) - (wrap64 (146097 * t125)))) 1460)))) + (wrap64 (Int.tdiv (wrap64 ((wrap64 (a0 + 730791)) - (wrap64 (146097 * t125)))) 36524)))) - (wrap64 (Int.tdiv (wrap64 ((wrap64 (a0 + 730791)) - (wrap64 (146097 * t125)))) 146096)))) 365)))) + (wrap64 (Int.tdiv (wrap64 (Int.tdiv (wrap64 ((wrap64 ((wrap64 ((wrap64 ((wrap64 (a0 + 730791)) - (wrap64 (146097 * t125)))) - (wrap64 (Int.tdiv (wrap64 ((wrap64 (a0 + 730791)) - (wrap64 (146097 * t125)))) 1460)))) + (wrap64 (Int.tdiv (wrap64 ((wrap64 (a0 + 730791)) - (wrap64 (146097 * t125)))) 36524)))) - (wrap64 (Int.tdiv (wrap64 ((wrap64 (a0 + 730791)) - (wrap64 (146097 * t125)))) 146096)))) 365)) 4)))) - (wrap64 (Int.tdiv (wrap64 (Int.tdiv (wrap64 ((wrap64 ((wrap64 ((wrap64 ((wrap64 (a0 + 730791)) - (wrap64 (146097 * t125)))) - (wrap64 (Int.tdiv (wrap64 ((wrap64 (a0 + 730791)) - (wrap64 (146097 * t125)))) 1460)))) + (wrap64 (Int.tdiv (wrap64 ((wrap64 (a0 + 730791)) - (wrap64 (146097 * t125)))) 36524)))) - (wrap64 (Int.tdiv (wrap64 ((wrap64 (a0 + 730791)) - (wrap64 (146097 * t125)))) 146096)))) 365)) 100)))))))) + 2)) 153)) + 3), wrap64 ((wrap64 ((wrap64 ((wrap64 ((wrap64 (a0 + 730791)) - (wrap64 (146097 * t125)))) - (wrap64 ((wrap64 ((wrap64 (365 * (wrap64 (Int.tdiv (wrap64 ((wrap64 ((wrap64 ((wrap64 ((wrap64 (a0 + 730791)) - (wrap64 (146097 * t125)))) - (wrap64 (Int.tdiv (wrap64 ((wrap64 (a0 + 730791)) - (wrap64 (146097 * t125)))) 1460)))) + (wrap64 (Int.tdiv (wrap64 ((wrap64 (a0 + 730791)) - (wrap64 (146097 * t125)))) 36524)))) - (wrap64 (Int.tdiv (wrap64 ((wrap64 (a0 + 730791)) - (wrap64 (146097 * t125)))) 146096)))) 365)))) + (wrap64 (Int.tdiv (wrap64 (Int.tdiv (wrap64 ((wrap64 ((wrap64 ((wrap64 ((wrap64 (a0 + 730791)) - (wrap64 (146097 * t125)))) - (wrap64 (Int.tdiv (wrap64 ((wrap64 (a0 + 730791)) - (wrap64 (146097 * t125)))) 1460)))) + (wrap64 (Int.tdiv (wrap64 ((wrap64 (a0 + 730791)) - (wrap64 (146097 * t125)))) 36524)))) - (wrap64 (Int.tdiv (wrap64 ((wrap64 (a0 + 730791)) - (wrap64 (146097 * t125)))) 146096)))) 365)) 4)))) - (wrap64 (Int.tdiv (wrap64 (Int.tdiv (wrap64 ((wrap64 ((wrap64 ((wrap64 ((wrap64 (a0 + 730791)) - (wrap64 (146097 * t125)))) - (wrap64 (Int.tdiv (wrap64 ((wrap64 (a0 + 730791)) - (wrap64 (146097 * t125)))) 1460)))) + (wrap64 (Int.tdiv (wrap64 ((wrap64 (a0 + 730791)) - (wrap64 (146097 * t125)))) 36524)))) - (wrap64 (Int.tdiv (wrap64 ((wrap64 (a0 + 730791)) - (wrap64 (146097 * t125)))) 146096)))) 365)) 100)))))) - (wrap64 (Int.tdiv (wrap64 ((wrap64 (153 * (wrap64 (Int.tdiv (wrap64 ((wrap64 (5 * (wrap64 ((wrap64 ((wrap64 (a0 + 730791)) - (wrap64 (146097 * t125)))) - (wrap64 ((wrap64 ((wrap64 (365 * (wrap64 (Int.tdiv (wrap64 ((wrap64 ((wrap64 ((wrap64 ((wrap64 (a0 + 730791)) - (wrap64 (146097 * t125)))) - (wrap64 (Int.tdiv (wrap64 ((wrap64 (a0 + 730791)) - (wrap64 (146097 * t125)))) 1460)))) + (wrap64 (Int.tdiv (wrap64 ((wrap64 (a0 + 730791)) - (wrap64 (146097 * t125)))) 36524)))) - (wrap64 (Int.tdiv (wrap64 ((wrap64 (a0 + 730791)) - (wrap64 (146097 * t125)))) 146096)))) 365)))) + (wrap64 (Int.tdiv (wrap64 (Int.tdiv (wrap64 ((wrap64 ((wrap64 ((wrap64 ((wrap64 (a0 + 730791)) - (wrap64 (146097 * t125)))) - (wrap64 (Int.tdiv (wrap64 ((wrap64 (a0 + 730791)) - (wrap64 (146097 * t125)))) 1460)))) + (wrap64 (Int.tdiv (wrap64 ((wrap64 (a0 + 730791)) - (wrap64 (146097 * t125)))) 36524)))) - (wrap64 (Int.tdiv (wrap64 ((wrap64 (a0 + 730791)) - (wrap64 (146097 * t125)))) 146096)))) 365)) 4)))) - (wrap64 (Int.tdiv (wrap64 (Int.tdiv (wrap64 ((wrap64 ((wrap64 ((wrap64 ((wrap64 (a0 + 730791)) - (wrap64 (146097 * t125)))) - (wrap64 (Int.tdiv (wrap64 ((wrap64 (a0 + 730791)) - (wrap64 (146097 * t125)))) 1460)))) + (wrap64 (Int.tdiv (wrap64 ((wrap64 (a0 + 730791)) - (wrap64 (146097 * t125)))) 36524)))) - (wrap64 (Int.tdiv (wrap64 ((wrap64 (a0 + 730791)) - (wrap64 (146097 * t125)))) 146096)))) 365)) 100)))))))) + 2)) 153)))) + 2)) 5)))) + 1)))) = some (r1, r2, r3) := H
  have A2 := Aside0.mk A20
  clear A20
  by_cases c3 : (wrap64 ((wrap64 (Int.tdiv (wrap64 ((wrap64 (5 * (wrap64 ((wrap64 ((wrap64 (a0 + 730791)) - (wrap64 (146097 * t125)))) - (wrap64 ((wrap64 ((wrap64 (365 * (wrap64 (Int.tdiv (wrap64 ((wrap64 ((wrap64 ((wrap64 ((wrap64 (a0 + 730791)) - (wrap64 (146097 * t125)))) - (wrap64 (Int.tdiv (wrap64 ((wrap64 (a0 + 730791)) - (wrap64 (146097 * t125)))) 1460)))) + (wrap64 (Int.tdiv (wrap64 ((wrap64 (a0 + 730791)) - (wrap64 (146097 * t125)))) 36524)))) - (wrap64 (Int.tdiv (wrap64 ((wrap64 (a0 + 730791)) - (wrap64 (146097 * t125)))) 146096)))) 365)))) + (wrap64 (Int.tdiv (wrap64 (Int.tdiv (wrap64 ((wrap64 ((wrap64 ((wrap64 ((wrap64 (a0 + 730791)) - (wrap64 (146097 * t125)))) - (wrap64 (Int.tdiv (wrap64 ((wrap64 (a0 + 730791)) - (wrap64 (146097 * t125)))) 1460)))) + (wrap64 (Int.tdiv (wrap64 ((wrap64 (a0 + 730791)) - (wrap64 (146097 * t125)))) 36524)))) - (wrap64 (Int.tdiv (wrap64 ((wrap64 (a0 + 730791)) - (wrap64 (146097 * t125)))) 146096)))) 365)) 4)))) - (wrap64 (Int.tdiv (wrap64 (Int.tdiv (wrap64 ((wrap64 ((wrap64 ((wrap64 ((wrap64 (a0 + 730791)) - (wrap64 (146097 * t125)))) - (wrap64 (Int.tdiv (wrap64 ((wrap64 (a0 + 730791)) - (wrap64 (146097 * t125)))) 1460)))) + (wrap64 (Int.tdiv (wrap64 ((wrap64 (a0 + 730791)) - (wrap64 (146097 * t125)))) 36524)))) - (wrap64 (Int.tdiv (wrap64 ((wrap64 (a0 + 730791)) - (wrap64 (146097 * t125)))) 146096)))) 365)) 100)))))))) + 2)) 153)) + 3)) > 12
  · rw [if_pos c3] at H
    have c3b0 : decide (12 < (wrap64 ((wrap64 (Int.tdiv (wrap64 ((wrap64 (5 * (wrap64 ((wrap64 ((wrap64 (a0 + 730791)) - (wrap64 (146097 * t125)))) - (wrap64 ((wrap64 ((wrap64 (365 * (wrap64 (Int.tdiv (wrap64 ((wrap64 ((wrap64 ((wrap64 ((wrap64 (a0 + 730791)) - (wrap64 (146097 * t125)))) - (wrap64 (Int.tdiv (wrap64 ((wrap64 (a0 + 730791)) - (wrap64 (146097 * t125)))) 1460)))) + (wrap64 (Int.tdiv (wrap64 ((wrap64 (a0 + 730791)) - (wrap64 (146097 * t125)))) 36524)))) - (wrap64 (Int.tdiv (wrap64 ((wrap64 (a0 + 730791)) - (wrap64 (146097 * t125)))) 146096)))) 365)))) + (wrap64 (Int.tdiv (wrap64 (Int.tdiv (wrap64 ((wrap64 ((wrap64 ((wrap64 ((wrap64 (a0 + 730791)) - (wrap64 (146097 * t125)))) - (wrap64 (Int.tdiv (wrap64 ((wrap64 (a0 + 730791)) - (wrap64 (146097 * t125)))) 1460)))) + (wrap64 (Int.tdiv (wrap64 ((wrap64 (a0 + 730791)) - (wrap64 (146097 * t125)))) 36524)))) - (wrap64 (Int.tdiv (wrap64 ((wrap64 (a0 + 730791)) - (wrap64 (146097 * t125)))) 146096)))) 365)) 4)))) - (wrap64 (Int.tdiv (wrap64 (Int.tdiv (wrap64 ((wrap64 ((wrap64 ((wrap64 ((wrap64 (a0 + 730791)) - (wrap64 (146097 * t125)))) - (wrap64 (Int.tdiv (wrap64 ((wrap64 (a0 + 730791)) - (wrap64 (146097 * t125)))) 1460)))) + (wrap64 (Int.tdiv (wrap64 ((wrap64 (a0 + 730791)) - (wrap64 (146097 * t125)))) 36524)))) - (wrap64 (Int.tdiv (wrap64 ((wrap64 (a0 + 730791)) - (wrap64 (146097 * t125)))) 146096)))) 365)) 100)))))))) + 2)) 153)) + 3))) = true := decide_eq_true c3
    clear c3
    simp only [Option.some.injEq, Prod.mk.injEq] at H
    obtain ⟨rfl, rfl, rfl⟩ := H
    go_enter Try.func66, Try.ntmps66
    go_wp2_with (first | ((with_reducible refine gate_callee (f := 106) rfl ?_); refine goesL_ (some 12) rfl rfl Try.func106 (by kernel_rfl) rfl #[.int .i64 (wrap64 (a0 + 730791)), .int .i64 146097] rfl (by (try simp only [List.map_toArray, List.map_cons, List.map_nil]); first | done | rfl | (simp only [List.length_drop, List.length_take]; rfl)) ?_; (with_reducible refine (mastref2_floor.calls (wrap64 (a0 + 730791)) 146097 t125 _ A2.out).mono ?_); rintro e w' ⟨rfl, ⟨nd, rfl⟩⟩; refine ⟨_, rfl, ?_⟩))
    go_ret3
    exact ⟨by first | rfl | (simp; done) | (simp [*]; done), by repeat (first | exact Drawn0.refl _ | apply Drawn0.step)⟩
  · rw [if_neg c3] at H
    have c3b0 : decide (12 < (wrap64 ((wrap64 (Int.tdiv (wrap64 ((wrap64 (5 * (wrap64 ((wrap64 ((wrap64 (a0 + 730791)) - (wrap64 (146097 * t125)))) - (wrap64 ((wrap64 ((wrap64 (365 * (wrap64 (Int.tdiv (wrap64 ((wrap64 ((wrap64 ((wrap64 ((wrap64 (a0 + 730791)) - (wrap64 (146097 * t125)))) - (wrap64 (Int.tdiv (wrap64 ((wrap64 (a0 + 730791)) - (wrap64 (146097 * t125)))) 1460)))) + (wrap64 (Int.tdiv (wrap64 ((wrap64 (a0 + 730791)) - (wrap64 (146097 * t125)))) 36524)))) - (wrap64 (Int.tdiv (wrap64 ((wrap64 (a0 + 730791)) - (wrap64 (146097 * t125)))) 146096)))) 365)))) + (wrap64 (Int.tdiv (wrap64 (Int.tdiv (wrap64 ((wrap64 ((wrap64 ((wrap64 ((wrap64 (a0 + 730791)) - (wrap64 (146097 * t125)))) - (wrap64 (Int.tdiv (wrap64 ((wrap64 (a0 + 730791)) - (wrap64 (146097 * t125)))) 1460)))) + (wrap64 (Int.tdiv (wrap64 ((wrap64 (a0 + 730791)) - (wrap64 (146097 * t125)))) 36524)))) - (wrap64 (Int.tdiv (wrap64 ((wrap64 (a0 + 730791)) - (wrap64 (146097 * t125)))) 146096)))) 365)) 4)))) - (wrap64 (Int.tdiv (wrap64 (Int.tdiv (wrap64 ((wrap64 ((wrap64 ((wrap64 ((wrap64 (a0 + 730791)) - (wrap64 (146097 * t125)))) - (wrap64 (Int.tdiv (wrap64 ((wrap64 (a0 + 730791)) - (wrap64 (146097 * t125)))) 1460)))) + (wrap64 (Int.tdiv (wrap64 ((wrap64 (a0 + 730791)) - (wrap64 (146097 * t125)))) 36524)))) - (wrap64 (Int.tdiv (wrap64 ((wrap64 (a0 + 730791)) - (wrap64 (146097 * t125)))) 146096)))) 365)) 100)))))))) + 2)) 153)) + 3))) = false := decide_eq_false c3
    clear c3
    simp only [Option.some.injEq, Prod.mk.injEq] at H
    obtain ⟨rfl, rfl, rfl⟩ := H
    go_enter Try.func66, Try.ntmps66
    go_wp2_with (first | ((with_reducible refine gate_callee (f := 106) rfl ?_); refine goesL_ (some 12) rfl rfl Try.func106 (by kernel_rfl) rfl #[.int .i64 (wrap64 (a0 + 730791)), .int .i64 146097] rfl (by (try simp only [List.map_toArray, List.map_cons, List.map_nil]); first | done | rfl | (simp only [List.length_drop, List.length_take]; rfl)) ?_; (with_reducible refine (mastref2_floor.calls (wrap64 (a0 + 730791)) 146097 t125 _ A2.out).mono ?_); rintro e w' ⟨rfl, ⟨nd, rfl⟩⟩; refine ⟨_, rfl, ?_⟩))
    go_ret3
    exact ⟨by first | rfl | (simp; done) | (simp [*]; done), by repeat (first | exact Drawn0.refl _ | apply Drawn0.step)⟩

/-! ### mastref2_DateOfDay: function 34 -/
def mastref2_DateOfDay.f (a0 : Int) : Option (Int × Int × Int) := (mastref2_date_parts.f (wrap64 (a0 - 11323))).bind fun bt126 => (some (bt126.1, bt126.2.1, bt126.2.2))
set_option maxHeartbeats 8000000 in
set_option maxRecDepth 100000 in
theorem mastref2_DateOfDay.calls (a0 : Int) (r1 : Int) (r2 : Int) (r3 : Int) (w : World) (h : mastref2_DateOfDay.f a0 = some (r1, r2, r3)) :
    Calls Try.prog 34 #[.int .i64 a0] w fun e w' => e = .returned (.tuple #[.int .i64 r1, .int .i64 r2, .int .i64 r3]) ∧ Drawn0 w w' := by
  have H : ((mastref2_date_parts.f (wrap64 (a0 - 11323))).bind fun bt126 => (some (bt126.1, bt126.2.1, bt126.2.2))) = some (r1, r2, r3) := h
  clear h
  replace H := Option.bind_eq_some_iff.mp H
  obtain ⟨⟨t126, t127, t128⟩, A20, H⟩ := H
  replace H : (some (t126, t127, t128)) = some (r1, r2, r3) := H
  have A2 := Aside0.mk A20
  clear A20
  simp only [Option.some.injEq, Prod.mk.injEq] at H
  obtain ⟨rfl, rfl, rfl⟩ := H
  go_enter Try.func34, Try.ntmps34
  go_wp2_with (first | ((with_reducible refine gate_callee (f := 66) rfl ?_); refine goesL_ (some 7) rfl rfl Try.func66 (by kernel_rfl) rfl #[.int .i64 (wrap64 (a0 - 11323))] rfl (by (try simp only [List.map_toArray, List.map_cons, List.map_nil]); first | done | rfl | (simp only [List.length_drop, List.length_take]; rfl)) ?_; (with_reducible refine (mastref2_date_parts.calls (wrap64 (a0 - 11323)) t126 t127 t128 _ A2.out).mono ?_); rintro e w' ⟨rfl, ⟨nd, rfl⟩⟩; refine ⟨_, rfl, ?_⟩))
  go_ret3
  exact ⟨by first | rfl | (simp; done) | (simp [*]; done), by repeat (first | exact Drawn0.refl _ | apply Drawn0.step)⟩

end Go.Proofs.Ytmjfjjnmdljkeaa.GDayDates
