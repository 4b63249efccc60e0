/- What the functions that a statement comes to compute, and that the machine's calls come to just that. Conditions: as each theorem states them. -/
import Derived.Test.YtmjfjjnmdljkeaaGDayCountsx0
namespace Go.Proofs.Ytmjfjjnmdljkeaa.GDayCounts
open Go.RowKit Go.Proofs.YtmjfjjnmdljkeaaW.PrintWords Go.Proofs.YtmjfjjnmdljkeaaW.PrintLast Go.Proofs.YtmjfjjnmdljkeaaW.PrintMore
attribute [local go_sem] max2_int min2_int max_two min_two max_three min_three max_four min_four   -- for this text's walks alone
set_option linter.unusedVariables false
set_option linter.unusedSimpArgs false

/-! ### conf_leap: function 110 -/
def conf_leap.f (a0 : Int) : Option (Bool) := if (Int.tmod a0 4) = 0 then (if (Int.tmod a0 100) = 0 then (some ((Int.tmod a0 400) == 0)) else (some true)) else (some false)
set_option maxHeartbeats 8000000 in
set_option maxRecDepth 100000 in
theorem conf_leap.calls (a0 : Int) (r : Bool) (w : World) (h : conf_leap.f a0 = some r) :
    Calls Try.prog 110 #[.int .i64 a0] w fun e w' => e = .returned (.bool r) ∧ Drawn0 w w' := by
  have H : (if (Int.tmod a0 4) = 0 then (if (Int.tmod a0 100) = 0 then (some ((Int.tmod a0 400) == 0)) else (some true)) else (some false)) = some r := h
  clear h
  by_cases c2 : (Int.tmod a0 4) = 0
  · rw [if_pos c2] at H
    have c2b0 : ((Int.tmod a0 4) == 0) = true := beq_iff_eq.mpr c2
    have c2b1 : ((Int.tmod a0 4) != 0) = false := bne_eq_false_iff_eq.mpr c2
    clear c2
    by_cases c3 : (Int.tmod a0 100) = 0
    · rw [if_pos c3] at H
      have c3b0 : ((Int.tmod a0 100) == 0) = true := beq_iff_eq.mpr c3
      have c3b1 : ((Int.tmod a0 100) != 0) = false := bne_eq_false_iff_eq.mpr c3
      clear c3
      obtain rfl := Option.some.inj H
      go_enter Try.func110, Try.ntmps110
      go_wp2
      go_ret
      exact ⟨by first | rfl | (simp; done) | (simp [*]; done), by repeat (first | exact Drawn0.refl _ | apply Drawn0.step)⟩
    · rw [if_neg c3] at H
      have c3b0 : ((Int.tmod a0 100) == 0) = false := beq_eq_false_iff_ne.mpr c3
      have c3b1 : ((Int.tmod a0 100) != 0) = true := bne_iff_ne.mpr c3
      obtain rfl := Option.some.inj H
      go_enter Try.func110, Try.ntmps110
      go_wp2
      go_ret
      exact ⟨by first | rfl | (simp; done) | (simp [*]; done), by repeat (first | exact Drawn0.refl _ | apply Drawn0.step)⟩
  · rw [if_neg c2] at H
    have c2b0 : ((Int.tmod a0 4) == 0) = false := beq_eq_false_iff_ne.mpr c2
    have c2b1 : ((Int.tmod a0 4) != 0) = true := bne_iff_ne.mpr c2
    obtain rfl := Option.some.inj H
    go_enter Try.func110, Try.ntmps110
    go_wp2
    go_ret
    exact ⟨by first | rfl | (simp; done) | (simp [*]; done), by repeat (first | exact Drawn0.refl _ | apply Drawn0.step)⟩

/-! ### conf_monthDays: function 65 -/
def conf_monthDays.f (a0 : Int) (a1 : Int) : Option (Int) := if a1 = 2 then ((conf_leap.f a0).bind fun t101 => (if t101 = true then (some 29) else (some 28))) else (if a1 = 4 then (some 30) else (if a1 = 6 then (some 30) else (if a1 = 9 then (some 30) else (if a1 = 11 then (some 30) else (some 31)))))
set_option maxHeartbeats 8000000 in
set_option maxRecDepth 100000 in
theorem conf_monthDays.calls (a0 : Int) (a1 : Int) (r : Int) (w : World) (h : conf_monthDays.f a0 a1 = some r) :
    Calls Try.prog 65 #[.int .i64 a0, .int .i64 a1] w fun e w' => e = .returned (.int .i64 r) ∧ Drawn0 w w' := by
  have H : (if a1 = 2 then ((conf_leap.f a0).bind fun t101 => (if t101 = true then (some 29) else (some 28))) else (if a1 = 4 then (some 30) else (if a1 = 6 then (some 30) else (if a1 = 9 then (some 30) else (if a1 = 11 then (some 30) else (some 31)))))) = some r := h
  clear h
  by_cases c3 : a1 = 2
  · rw [if_pos c3] at H
    have c3b0 : (a1 == 2) = true := beq_iff_eq.mpr c3
    have c3b1 : (a1 != 2) = false := bne_eq_false_iff_eq.mpr c3
    clear c3
    replace H := Option.bind_eq_some_iff.mp H
    obtain ⟨t101, A40, H⟩ := H
    replace H : (if t101 = true then (some 29) else (some 28)) = some r := H
    have A4 := Aside0.mk A40
    clear A40
    by_cases c5 : t101 = true
    · subst c5
      have H1 : (some 29) = some r := by rw [if_pos rfl] at H; exact H
      clear H
      have H := H1
      clear H1
      obtain rfl := Option.some.inj H
      go_enter Try.func65, Try.ntmps65
      go_wp2_with (first | ((with_reducible refine gate_callee (f := 110) rfl ?_); refine goesL_ (some 9) rfl rfl Try.func110 (by kernel_rfl) rfl #[.int .i64 a0] rfl (by (try simp only [List.map_toArray, List.map_cons, List.map_nil]); first | done | rfl | (simp only [List.length_drop, List.length_take]; rfl)) ?_; (with_reducible refine (conf_leap.calls a0 true _ A4.out).mono ?_); rintro e w' ⟨rfl, ⟨nd, rfl⟩⟩; refine ⟨_, rfl, ?_⟩))
      go_ret
      exact ⟨by first | rfl | (simp; done) | (simp [*]; done), by repeat (first | exact Drawn0.refl _ | apply Drawn0.step)⟩
    · replace c5 := Bool.eq_false_iff.mpr c5
      subst c5
      have H1 : (some 28) = some r := by rw [if_neg (show ¬ (false = true) by decide)] at H; exact H
      clear H
      have H := H1
      clear H1
      obtain rfl := Option.some.inj H
      go_enter Try.func65, Try.ntmps65
      go_wp2_with (first | ((with_reducible refine gate_callee (f := 110) rfl ?_); refine goesL_ (some 9) rfl rfl Try.func110 (by kernel_rfl) rfl #[.int .i64 a0] rfl (by (try simp only [List.map_toArray, List.map_cons, List.map_nil]); first | done | rfl | (simp only [List.length_drop, List.length_take]; rfl)) ?_; (with_reducible refine (conf_leap.calls a0 false _ A4.out).mono ?_); rintro e w' ⟨rfl, ⟨nd, rfl⟩⟩; refine ⟨_, rfl, ?_⟩))
      go_ret
      exact ⟨by first | rfl | (simp; done) | (simp [*]; done), by repeat (first | exact Drawn0.refl _ | apply Drawn0.step)⟩
  · rw [if_neg c3] at H
    have c3b0 : (a1 == 2) = false := beq_eq_false_iff_ne.mpr c3
    have c3b1 : (a1 != 2) = true := bne_iff_ne.mpr c3
    by_cases c6 : a1 = 4
    · rw [if_pos c6] at H
      have c6b0 : (a1 == 4) = true := beq_iff_eq.mpr c6
      have c6b1 : (a1 != 4) = false := bne_eq_false_iff_eq.mpr c6
      clear c6
      obtain rfl := Option.some.inj H
      go_enter Try.func65, Try.ntmps65
      go_wp2
      go_ret
      exact ⟨by first | rfl | (simp; done) | (simp [*]; done), by repeat (first | exact Drawn0.refl _ | apply Drawn0.step)⟩
    · rw [if_neg c6] at H
      have c6b0 : (a1 == 4) = false := beq_eq_false_iff_ne.mpr c6
      have c6b1 : (a1 != 4) = true := bne_iff_ne.mpr c6
      by_cases c7 : a1 = 6
      · rw [if_pos c7] at H
        have c7b0 : (a1 == 6) = true := beq_iff_eq.mpr c7
        have c7b1 : (a1 != 6) = false := bne_eq_false_iff_eq.mpr c7
        clear c7
        obtain rfl := Option.some.inj H
        go_enter Try.func65, Try.ntmps65
        go_wp2
        go_ret
        exact ⟨by first | rfl | (simp; done) | (simp [*]; done), by repeat (first | exact Drawn0.refl _ | apply Drawn0.step)⟩
      · rw [if_neg c7] at H
        have c7b0 : (a1 == 6) = false := beq_eq_false_iff_ne.mpr c7
        have c7b1 : (a1 != 6) = true := bne_iff_ne.mpr c7
        by_cases c8 : a1 = 9
        · rw [if_pos c8] at H
          have c8b0 : (a1 == 9) = true := beq_iff_eq.mpr c8
          have c8b1 : (a1 != 9) = false := bne_eq_false_iff_eq.mpr c8
          clear c8
          obtain rfl := Option.some.inj H
          go_enter Try.func65, Try.ntmps65
          go_wp2
          go_ret
          exact ⟨by first | rfl | (simp; done) | (simp [*]; done), by repeat (first | exact Drawn0.refl _ | apply Drawn0.step)⟩
        · rw [if_neg c8] at H
          have c8b0 : (a1 == 9) = false := beq_eq_false_iff_ne.mpr c8
          have c8b1 : (a1 != 9) = true := bne_iff_ne.mpr c8
          by_cases c9 : a1 = 11
          · rw [if_pos c9] at H
            have c9b0 : (a1 == 11) = true := beq_iff_eq.mpr c9
            have c9b1 : (a1 != 11) = false := bne_eq_false_iff_eq.mpr c9
            clear c9
            obtain rfl := Option.some.inj H
            go_enter Try.func65, Try.ntmps65
            go_wp2
            go_ret
            exact ⟨by first | rfl | (simp; done) | (simp [*]; done), by repeat (first | exact Drawn0.refl _ | apply Drawn0.step)⟩
          · rw [if_neg c9] at H
            have c9b0 : (a1 == 11) = false := beq_eq_false_iff_ne.mpr c9
            have c9b1 : (a1 != 11) = true := bne_iff_ne.mpr c9
            obtain rfl := Option.some.inj H
            go_enter Try.func65, Try.ntmps65
            go_wp2
            go_ret
            exact ⟨by first | rfl | (simp; done) | (simp [*]; done), by repeat (first | exact Drawn0.refl _ | apply Drawn0.step)⟩

/-! ### conf_before: function 105 -/
def conf_before.f (a0 : Int) : Option (Int) := some (wrap64 ((wrap64 ((wrap64 ((wrap64 ((wrap64 (365 * (wrap64 (a0 - 1970)))) + (wrap64 (Int.tdiv (wrap64 (a0 - 1)) 4)))) - (wrap64 (Int.tdiv (wrap64 (a0 - 1)) 100)))) + (wrap64 (Int.tdiv (wrap64 (a0 - 1)) 400)))) - 477))
set_option maxHeartbeats 8000000 in
set_option maxRecDepth 100000 in
theorem conf_before.calls (a0 : Int) (r : Int) (w : World) (h : conf_before.f a0 = some r) :
    Calls Try.prog 105 #[.int .i64 a0] w fun e w' => e = .returned (.int .i64 r) ∧ Drawn0 w w' := by
  have H : (some (wrap64 ((wrap64 ((wrap64 ((wrap64 ((wrap64 (365 * (wrap64 (a0 - 1970)))) + (wrap64 (Int.tdiv (wrap64 (a0 - 1)) 4)))) - (wrap64 (Int.tdiv (wrap64 (a0 - 1)) 100)))) + (wrap64 (Int.tdiv (wrap64 (a0 - 1)) 400)))) - 477))) = some r := h
  clear h
  obtain rfl := Option.some.inj H
  go_enter Try.func105, Try.ntmps105
  go_wp2
  go_ret
  exact ⟨by first | rfl | (simp; done) | (simp [*]; done), by repeat (first | exact Drawn0.refl _ | apply Drawn0.step)⟩

/-! ### conf_dayOf: function 51 -/
mutual
def conf_dayOf.j0 : Nat → Int → Int → Int → Bool → Option (Int × Bool)
  | 0, _, _, _, _ => none
  | k + 1, x0, x1, x2, x34 => if x34 = true then (some (0, false)) else ((conf_before.f x0).bind fun t103 => (conf_dayOf.l0 k x0 x1 (wrap64 ((wrap64 (t103 + x2)) - 1)) 1))
def conf_dayOf.l0 : Nat → Int → Int → Int → Int → Option (Int × Bool)
  | 0, _, _, _, _ => none
  | k + 1, x0, x1, x8, x9 => if x9 < x1 then ((conf_monthDays.f x0 x9).bind fun t104 => (conf_dayOf.l0 k x0 x1 (wrap64 (x8 + t104)) (wrap64 (x9 + 1)))) else (some (x8, true))
end
def conf_dayOf.f (k : Nat) (a0 : Int) (a1 : Int) (a2 : Int) : Option (Int × Bool) := if a0 < 1970 then (conf_dayOf.j0 k a0 a1 a2 true) else (if a0 > 2199 then (conf_dayOf.j0 k a0 a1 a2 true) else (if a1 < 1 then (conf_dayOf.j0 k a0 a1 a2 true) else (if a1 > 12 then (conf_dayOf.j0 k a0 a1 a2 true) else (if a2 < 1 then (conf_dayOf.j0 k a0 a1 a2 true) else ((conf_monthDays.f a0 a1).bind fun t102 => (conf_dayOf.j0 k a0 a1 a2 (decide (a2 > t102))))))))
theorem conf_dayOf.mono_l : ∀ k, (∀ y0 y1 y2 y3, LeO (conf_dayOf.j0 k y0 y1 y2 y3) (conf_dayOf.j0 (k + 1) y0 y1 y2 y3)) ∧ (∀ y0 y1 y2 y3, LeO (conf_dayOf.l0 k y0 y1 y2 y3) (conf_dayOf.l0 (k + 1) y0 y1 y2 y3))
  | 0 => ⟨fun _ _ _ _ r h => by simp [conf_dayOf.j0] at h, fun _ _ _ _ r h => by simp [conf_dayOf.l0] at h⟩
  | k + 1 => by
    obtain ⟨ih0, ih1⟩ := conf_dayOf.mono_l k
    refine ⟨?_, ?_⟩
    · intro y0 y1 y2 y3
      unfold conf_dayOf.j0
      repeat' first
      | (with_reducible exact ih0 _ _ _ _)
      | (with_reducible exact ih1 _ _ _ _)
      | (with_reducible exact LeO.refl _)
      | (with_reducible exact LeO.none _)
      | (with_reducible refine LeO.ite ?_ ?_)
      | (with_reducible refine LeO.bind ?_ (fun _ => ?_))
      | exact ih0 _ _ _ _
      | exact ih1 _ _ _ _
      | exact LeO.none _
      | refine LeO.ite ?_ ?_
      | refine LeO.bind ?_ (fun _ => ?_)
    · intro y0 y1 y2 y3
      unfold conf_dayOf.l0
      repeat' first
      | (with_reducible exact ih0 _ _ _ _)
      | (with_reducible exact ih1 _ _ _ _)
      | (with_reducible exact LeO.refl _)
      | (with_reducible exact LeO.none _)
      | (with_reducible refine LeO.ite ?_ ?_)
      | (with_reducible refine LeO.bind ?_ (fun _ => ?_))
      | exact ih0 _ _ _ _
      | exact ih1 _ _ _ _
      | exact LeO.none _
      | refine LeO.ite ?_ ?_
      | refine LeO.bind ?_ (fun _ => ?_)
theorem conf_dayOf.mono : ∀ a0 a1 a2 k, LeO (conf_dayOf.f k a0 a1 a2) (conf_dayOf.f (k + 1) a0 a1 a2) := by
  intro a0 a1 a2 k
  obtain ⟨ih0, ih1⟩ := conf_dayOf.mono_l k
  unfold conf_dayOf.f
  repeat' first
      | (with_reducible exact ih0 _ _ _ _)
      | (with_reducible exact ih1 _ _ _ _)
      | (with_reducible exact LeO.refl _)
      | (with_reducible exact LeO.none _)
      | (with_reducible refine LeO.ite ?_ ?_)
      | (with_reducible refine LeO.bind ?_ (fun _ => ?_))
      | exact ih0 _ _ _ _
      | exact ih1 _ _ _ _
      | exact LeO.none _
      | refine LeO.ite ?_ ?_
      | refine LeO.bind ?_ (fun _ => ?_)
set_option maxHeartbeats 8000000 in
set_option maxRecDepth 100000 in
theorem conf_dayOf.calls (k : Nat) (a0 : Int) (a1 : Int) (a2 : Int) (r1 : Int) (r2 : Bool) (w : World) (h : conf_dayOf.f k a0 a1 a2 = some (r1, r2)) :
    Calls Try.prog 51 #[.int .i64 a0, .int .i64 a1, .int .i64 a2] w fun e w' => e = .returned (.tuple #[.int .i64 r1, .bool r2]) ∧ Drawn0 w w' := by
  have H : (if a0 < 1970 then (conf_dayOf.j0 k a0 a1 a2 true) else (if a0 > 2199 then (conf_dayOf.j0 k a0 a1 a2 true) else (if a1 < 1 then (conf_dayOf.j0 k a0 a1 a2 true) else (if a1 > 12 then (conf_dayOf.j0 k a0 a1 a2 true) else (if a2 < 1 then (conf_dayOf.j0 k a0 a1 a2 true) else ((conf_monthDays.f a0 a1).bind fun t102 => (conf_dayOf.j0 k a0 a1 a2 (decide (a2 > t102))))))))) = some (r1, r2) := h
  clear h
  have HC4 := Aside0.mk H
  clear H
  go_enter Try.func51, Try.ntmps51
  go_upto_region 1 with (fail)
  go_cut [34] (fun v34 wc => ∃ (kq : Nat) (x34_3 : Bool), v34 = .bool x34_3 ∧ Aside0 (conf_dayOf.j0 kq a0 a1 a2 x34_3 = some (r1, r2)) ∧ Aside0 (kq ≤ k) ∧ Drawn0 w wc)
  case first =>
    have H := HC4.out
    clear HC4
    by_cases c5 : a0 < 1970
    · rw [if_pos c5] at H
      have c5b0 : decide (a0 < 1970) = true := decide_eq_true c5
      clear c5
      (first | rw [c5b0] | (simp only [i64_w, i32_w]; rw [c5b0]) | skip)
      have H' := Aside0.mk H
      clear H
      go_wp2
      go_meet
      case rel => exact ⟨_, (true), (by first | rfl | (simp; done) | (simp [*]; done)), H', ⟨by first | omega | exact Nat.le_refl _⟩, by repeat (first | exact Drawn0.refl _ | apply Drawn0.step)⟩
    · rw [if_neg c5] at H
      have c5b0 : decide (a0 < 1970) = false := decide_eq_false c5
      clear c5
      (first | rw [c5b0] | (simp only [i64_w, i32_w]; rw [c5b0]) | skip)
      by_cases c6 : a0 > 2199
      · rw [if_pos c6] at H
        have c6b0 : decide (2199 < a0) = true := decide_eq_true c6
        clear c6
        have H' := Aside0.mk H
        clear H
        go_wp2
        go_meet
        case rel => exact ⟨_, (true), (by first | rfl | (simp; done) | (simp [*]; done)), H', ⟨by first | omega | exact Nat.le_refl _⟩, by repeat (first | exact Drawn0.refl _ | apply Drawn0.step)⟩
      · rw [if_neg c6] at H
        have c6b0 : decide (2199 < a0) = false := decide_eq_false c6
        clear c6
        by_cases c7 : a1 < 1
        · rw [if_pos c7] at H
          have c7b0 : decide (a1 < 1) = true := decide_eq_true c7
          clear c7
          have H' := Aside0.mk H
          clear H
          go_wp2
          go_meet
          case rel => exact ⟨_, (true), (by first | rfl | (simp; done) | (simp [*]; done)), H', ⟨by first | omega | exact Nat.le_refl _⟩, by repeat (first | exact Drawn0.refl _ | apply Drawn0.step)⟩
        · rw [if_neg c7] at H
          have c7b0 : decide (a1 < 1) = false := decide_eq_false c7
          clear c7
          by_cases c8 : a1 > 12
          · rw [if_pos c8] at H
            have c8b0 : decide (12 < a1) = true := decide_eq_true c8
            clear c8
            have H' := Aside0.mk H
            clear H
            go_wp2
            go_meet
            case rel => exact ⟨_, (true), (by first | rfl | (simp; done) | (simp [*]; done)), H', ⟨by first | omega | exact Nat.le_refl _⟩, by repeat (first | exact Drawn0.refl _ | apply Drawn0.step)⟩
          · rw [if_neg c8] at H
            have c8b0 : decide (12 < a1) = false := decide_eq_false c8
            clear c8
            by_cases c9 : a2 < 1
            · rw [if_pos c9] at H
              have c9b0 : decide (a2 < 1) = true := decide_eq_true c9
              clear c9
              have H' := Aside0.mk H
              clear H
              go_wp2
              go_meet
              case rel => exact ⟨_, (true), (by first | rfl | (simp; done) | (simp [*]; done)), H', ⟨by first | omega | exact Nat.le_refl _⟩, by repeat (first | exact Drawn0.refl _ | apply Drawn0.step)⟩
            · rw [if_neg c9] at H
              have c9b0 : decide (a2 < 1) = false := decide_eq_false c9
              clear c9
              replace H := Option.bind_eq_some_iff.mp H
              obtain ⟨t102, A100, H⟩ := H
              replace H : (conf_dayOf.j0 k a0 a1 a2 (decide (a2 > t102))) = some (r1, r2) := H
              have A10 := Aside0.mk A100
              clear A100
              have H' := Aside0.mk H
              clear H
              go_wp2_with (first | (go_at_call 65; (with_reducible refine (conf_monthDays.calls a0 a1 t102 _ A10.out).mono ?_); rintro e w' ⟨rfl, ⟨nd, rfl⟩⟩))
              go_meet
              case rel => exact ⟨_, (decide (a2 > t102)), (by first | rfl | (simp; done) | (simp [*]; done)), H', ⟨by first | omega | exact Nat.le_refl _⟩, by repeat (first | exact Drawn0.refl _ | apply Drawn0.step)⟩
  case rest =>
    clear HC4
    try clear p2
    try clear c5
    try clear c5b0
    try clear c6
    try clear c6b0
    try clear c7
    try clear c7b0
    try clear c8
    try clear c8b0
    try clear c9
    try clear c9b0
    obtain ⟨kq, x34_3, rfl, HA, HJ3, ⟨mc3, rfl⟩⟩ := hcut
    cases kq with
    | zero => exact absurd HA.out (by simp [conf_dayOf.j0])
    | succ kj3 =>
      have H := HA.out
      clear HA
      simp only [conf_dayOf.j0] at H
      by_cases c11 : x34_3 = true
      · subst c11
        have H1 : (some (0, false)) = some (r1, r2) := by rw [if_pos rfl] at H; exact H
        clear H
        have H := H1
        clear H1
        simp only [Option.some.injEq, Prod.mk.injEq] at H
        obtain ⟨rfl, rfl⟩ := H
        go_wp2
        go_ret2
        exact ⟨by first | rfl | (simp; done) | (simp [*]; done), by repeat (first | exact Drawn0.refl _ | apply Drawn0.step)⟩
      · replace c11 := Bool.eq_false_iff.mpr c11
        subst c11
        have H1 : ((conf_before.f a0).bind fun t103 => (conf_dayOf.l0 kj3 a0 a1 (wrap64 ((wrap64 (t103 + a2)) - 1)) 1)) = some (r1, r2) := by rw [if_neg (show ¬ (false = true) by decide)] at H; exact H
        clear H
        have H := H1
        clear H1
        replace H := Option.bind_eq_some_iff.mp H
        obtain ⟨t103, A120, H⟩ := H
        replace H : (conf_dayOf.l0 kj3 a0 a1 (wrap64 ((wrap64 (t103 + a2)) - 1)) 1) = some (r1, r2) := H
        have A12 := Aside0.mk A120
        clear A120
        have H' := Aside0.mk H
        clear H
        go_wp2_with (first | ((with_reducible refine gate_callee (f := 105) rfl ?_); refine goesL_ (some 36) rfl rfl Try.func105 (by kernel_rfl) rfl #[.int .i64 a0] rfl (by (try simp only [List.map_toArray, List.map_cons, List.map_nil]); first | done | rfl | (simp only [List.length_drop, List.length_take]; rfl)) ?_; (with_reducible refine (conf_before.calls a0 t103 _ A12.out).mono ?_); rintro e w' ⟨rfl, ⟨nd, rfl⟩⟩; refine ⟨_, rfl, ?_⟩))
        go_loopg [8, 9] kj3 (fun kq v8 v9 w' => ∃ (x8_2 : Int) (x9_2 : Int), v8 = .int .i64 x8_2 ∧ v9 = .int .i64 x9_2 ∧ Aside0 (conf_dayOf.l0 kq a0 a1 x8_2 x9_2 = some (r1, r2)) ∧ Aside0 (kq ≤ kj3) ∧ Drawn0 w w')
        case atStart => exact ⟨(wrap64 ((wrap64 (t103 + a2)) - 1)), (1), (by first | rfl | (simp; done) | (simp [*]; done)), (by first | rfl | (simp; done) | (simp [*]; done)), H', ⟨Nat.le_refl _⟩, by repeat (first | exact Drawn0.refl _ | apply Drawn0.step)⟩
        case round =>
          clear H'
          try clear c1
          try clear p2
          try clear c3
          try clear c5
          try clear c5b0
          try clear c6
          try clear c6b0
          try clear p6
          try clear c7
          try clear c7b0
          try clear c8
          try clear c8b0
          try clear c9
          try clear c9b0
          try clear c10
          try clear c11
          try clear p2
          obtain ⟨x8_2, x9_2, rfl, rfl, HA, HK2, ⟨m2, rfl⟩⟩ := hrel
          cases gk with
          | zero => exact absurd HA.out (by simp [conf_dayOf.l0])
          | succ k2 =>
            have H := HA.out
            clear HA
            simp only [conf_dayOf.l0] at H
            by_cases c13 : x9_2 < a1
            · rw [if_pos c13] at H
              have c13b0 : decide (x9_2 < a1) = true := decide_eq_true c13
              clear c13
              replace H := Option.bind_eq_some_iff.mp H
              obtain ⟨t104, A140, H⟩ := H
              replace H : (conf_dayOf.l0 k2 a0 a1 (wrap64 (x8_2 + t104)) (wrap64 (x9_2 + 1))) = some (r1, r2) := H
              have A14 := Aside0.mk A140
              clear A140
              have H' := Aside0.mk H
              clear H
              go_wp2_with (first | ((with_reducible refine gate_callee (f := 65) rfl ?_); refine goesL_ (some 48) rfl rfl Try.func65 (by kernel_rfl) rfl #[.int .i64 a0, .int .i64 x9_2] rfl (by (try simp only [List.map_toArray, List.map_cons, List.map_nil]); first | done | rfl | (simp only [List.length_drop, List.length_take]; rfl)) ?_; (with_reducible refine (conf_monthDays.calls a0 x9_2 t104 _ A14.out).mono ?_); rintro e w' ⟨rfl, ⟨nd, rfl⟩⟩; refine ⟨_, rfl, ?_⟩))
              go_roundg k2
              case measure => have := HJ3.out; have := HK2.out; omega
              case rel => exact ⟨(wrap64 (x8_2 + t104)), (wrap64 (x9_2 + 1)), (by first | rfl | (simp; done) | (simp [*]; done)), (by first | rfl | (simp; done) | (simp [*]; done)), H', ⟨by have := HJ3.out; have := HK2.out; omega⟩, by repeat (first | exact Drawn0.refl _ | apply Drawn0.step)⟩
            · rw [if_neg c13] at H
              have c13b0 : decide (x9_2 < a1) = false := decide_eq_false c13
              clear c13
              simp only [Option.some.injEq, Prod.mk.injEq] at H
              obtain ⟨rfl, rfl⟩ := H
              go_wp2
              go_ret2
              exact ⟨by first | rfl | (simp; done) | (simp [*]; done), by repeat (first | exact Drawn0.refl _ | apply Drawn0.step)⟩

/-! ### conf_DayOf: function 22 -/
def conf_DayOf.f (k : Nat) (a0 : Int) (a1 : Int) (a2 : Int) : Option (Int × Int) := (conf_dayOf.f k a0 a1 a2).bind fun bt105 => (if bt105.2 = true then (some (bt105.1, 0)) else (some (0, 2)))
theorem conf_DayOf.mono : ∀ a0 a1 a2 k, LeO (conf_DayOf.f k a0 a1 a2) (conf_DayOf.f (k + 1) a0 a1 a2) := by
  intro a0 a1 a2 k
  unfold conf_DayOf.f
  repeat' first
      | (with_reducible exact conf_dayOf.mono _ _ _ _)
      | (with_reducible exact LeO.refl _)
      | (with_reducible exact LeO.none _)
      | (with_reducible refine LeO.ite ?_ ?_)
      | (with_reducible refine LeO.bind ?_ (fun _ => ?_))
      | exact conf_dayOf.mono _ _ _ _
      | exact LeO.none _
      | refine LeO.ite ?_ ?_
      | refine LeO.bind ?_ (fun _ => ?_)
set_option maxHeartbeats 8000000 in
set_option maxRecDepth 100000 in
theorem conf_DayOf.calls (k : Nat) (a0 : Int) (a1 : Int) (a2 : Int) (r1 : Int) (r2 : Int) (w : World) (h : conf_DayOf.f k a0 a1 a2 = some (r1, r2)) :
    Calls Try.prog 22 #[.int .i64 a0, .int .i64 a1, .int .i64 a2] w fun e w' => e = .returned (.tuple #[.int .i64 r1, .int .i64 r2]) ∧ Drawn0 w w' := by
  have H : ((conf_dayOf.f k a0 a1 a2).bind fun bt105 => (if bt105.2 = true then (some (bt105.1, 0)) else (some (0, 2)))) = some (r1, r2) := h
  clear h
  replace H := Option.bind_eq_some_iff.mp H
  obtain ⟨⟨t105, t106⟩, A40, H⟩ := H
  replace H : (if t106 = true then (some (t105, 0)) else (some (0, 2))) = some (r1, r2) := H
  have A4 := Aside0.mk A40
  clear A40
  by_cases c5 : t106 = true
  · subst c5
    have H1 : (some (t105, 0)) = some (r1, r2) := by rw [if_pos rfl] at H; exact H
    clear H
    have H := H1
    clear H1
    simp only [Option.some.injEq, Prod.mk.injEq] at H
    obtain ⟨rfl, rfl⟩ := H
    go_enter Try.func22, Try.ntmps22
    go_wp2_with (first | ((with_reducible refine gate_callee (f := 51) rfl ?_); refine goesL_ (some 14) rfl rfl Try.func51 (by kernel_rfl) rfl #[.int .i64 a0, .int .i64 a1, .int .i64 a2] rfl (by (try simp only [List.map_toArray, List.map_cons, List.map_nil]); first | done | rfl | (simp only [List.length_drop, List.length_take]; rfl)) ?_; (with_reducible refine (conf_dayOf.calls k a0 a1 a2 t105 true _ A4.out).mono ?_); rintro e w' ⟨rfl, ⟨nd, rfl⟩⟩; refine ⟨_, rfl, ?_⟩))
    go_ret2
    exact ⟨by first | rfl | (simp; done) | (simp [*]; done), by repeat (first | exact Drawn0.refl _ | apply Drawn0.step)⟩
  · replace c5 := Bool.eq_false_iff.mpr c5
    subst c5
    have H1 : (some (0, 2)) = some (r1, r2) := by rw [if_neg (show ¬ (false = true) by decide)] at H; exact H
    clear H
    have H := H1
    clear H1
    simp only [Option.some.injEq, Prod.mk.injEq] at H
    obtain ⟨rfl, rfl⟩ := H
    go_enter Try.func22, Try.ntmps22
    go_wp2_with (first | ((with_reducible refine gate_callee (f := 51) rfl ?_); refine goesL_ (some 14) rfl rfl Try.func51 (by kernel_rfl) rfl #[.int .i64 a0, .int .i64 a1, .int .i64 a2] rfl (by (try simp only [List.map_toArray, List.map_cons, List.map_nil]); first | done | rfl | (simp only [List.length_drop, List.length_take]; rfl)) ?_; (with_reducible refine (conf_dayOf.calls k a0 a1 a2 t105 false _ A4.out).mono ?_); rintro e w' ⟨rfl, ⟨nd, rfl⟩⟩; refine ⟨_, rfl, ?_⟩))
    go_ret2
    exact ⟨by first | rfl | (simp; done) | (simp [*]; done), by repeat (first | exact Drawn0.refl _ | apply Drawn0.step)⟩

/-! ### mastref2_floor: function 106 -/
def mastref2_floor.f (a0 : Int) (a1 : Int) : Option (Int) := if a1 = 0 then (none) else (if (Int.tmod a0 a1) < 0 then (some (wrap64 ((wrap64 (Int.tdiv a0 a1)) - 1))) else (some (wrap64 (Int.tdiv a0 a1))))
set_option maxHeartbeats 8000000 in
set_option maxRecDepth 100000 in
theorem mastref2_floor.calls (a0 : Int) (a1 : Int) (r : Int) (w : World) (h : mastref2_floor.f a0 a1 = some r) :
    Calls Try.prog 106 #[.int .i64 a0, .int .i64 a1] w fun e w' => e = .returned (.int .i64 r) ∧ Drawn0 w w' := by
  have H : (if a1 = 0 then (none) else (if (Int.tmod a0 a1) < 0 then (some (wrap64 ((wrap64 (Int.tdiv a0 a1)) - 1))) else (some (wrap64 (Int.tdiv a0 a1))))) = some r := h
  clear h
  by_cases c3 : a1 = 0
  · rw [if_pos c3] at H
    exact absurd H (by simp)
  · rw [if_neg c3] at H
    have c3b0 : (a1 == 0) = false := beq_eq_false_iff_ne.mpr c3
    have c3b1 : (a1 != 0) = true := bne_iff_ne.mpr c3
    by_cases c4 : (Int.tmod a0 a1) < 0
    · rw [if_pos c4] at H
      have c4b0 : decide ((Int.tmod a0 a1) < 0) = true := decide_eq_true c4
      clear c4
      obtain rfl := Option.some.inj H
      go_enter Try.func106, Try.ntmps106
      go_wp2
      go_ret
      exact ⟨by first | rfl | (simp; done) | (simp [*]; done), by repeat (first | exact Drawn0.refl _ | apply Drawn0.step)⟩
    · rw [if_neg c4] at H
      have c4b0 : decide ((Int.tmod a0 a1) < 0) = false := decide_eq_false c4
      clear c4
      obtain rfl := Option.some.inj H
      go_enter Try.func106, Try.ntmps106
      go_wp2
      go_ret
      exact ⟨by first | rfl | (simp; done) | (simp [*]; done), by repeat (first | exact Drawn0.refl _ | apply Drawn0.step)⟩

/-! ### mastref2_leap: function 107 -/
def mastref2_leap.f (a0 : Int) : Option (Bool) := if (Int.tmod a0 4) = 0 then (if (Int.tmod a0 100) = 0 then (some ((Int.tmod a0 400) == 0)) else (some true)) else (some false)
set_option maxHeartbeats 8000000 in
set_option maxRecDepth 100000 in
theorem mastref2_leap.calls (a0 : Int) (r : Bool) (w : World) (h : mastref2_leap.f a0 = some r) :
    Calls Try.prog 107 #[.int .i64 a0] w fun e w' => e = .returned (.bool r) ∧ Drawn0 w w' := by
  have H : (if (Int.tmod a0 4) = 0 then (if (Int.tmod a0 100) = 0 then (some ((Int.tmod a0 400) == 0)) else (some true)) else (some false)) = some r := h
  clear h
  by_cases c2 : (Int.tmod a0 4) = 0
  · rw [if_pos c2] at H
    have c2b0 : ((Int.tmod a0 4) == 0) = true := beq_iff_eq.mpr c2
    have c2b1 : ((Int.tmod a0 4) != 0) = false := bne_eq_false_iff_eq.mpr c2
    clear c2
    by_cases c3 : (Int.tmod a0 100) = 0
    · rw [if_pos c3] at H
      have c3b0 : ((Int.tmod a0 100) == 0) = true := beq_iff_eq.mpr c3
      have c3b1 : ((Int.tmod a0 100) != 0) = false := bne_eq_false_iff_eq.mpr c3
      clear c3
      obtain rfl := Option.some.inj H
      go_enter Try.func107, Try.ntmps107
      go_wp2
      go_ret
      exact ⟨by first | rfl | (simp; done) | (simp [*]; done), by repeat (first | exact Drawn0.refl _ | apply Drawn0.step)⟩
    · rw [if_neg c3] at H
      have c3b0 : ((Int.tmod a0 100) == 0) = false := beq_eq_false_iff_ne.mpr c3
      have c3b1 : ((Int.tmod a0 100) != 0) = true := bne_iff_ne.mpr c3
      obtain rfl := Option.some.inj H
      go_enter Try.func107, Try.ntmps107
      go_wp2
      go_ret
      exact ⟨by first | rfl | (simp; done) | (simp [*]; done), by repeat (first | exact Drawn0.refl _ | apply Drawn0.step)⟩
  · rw [if_neg c2] at H
    have c2b0 : ((Int.tmod a0 4) == 0) = false := beq_eq_false_iff_ne.mpr c2
    have c2b1 : ((Int.tmod a0 4) != 0) = true := bne_iff_ne.mpr c2
    obtain rfl := Option.some.inj H
    go_enter Try.func107, Try.ntmps107
    go_wp2
    go_ret
    exact ⟨by first | rfl | (simp; done) | (simp [*]; done), by repeat (first | exact Drawn0.refl _ | apply Drawn0.step)⟩

/-! ### mastref2_yearDay: function 108 -/
def mastref2_yearDay.f (a0 : Int) : Option (Int) := (mastref2_floor.f (wrap64 (a0 - 2001)) 4).bind fun t107 => ((mastref2_floor.f (wrap64 (a0 - 2001)) 100).bind fun t108 => ((mastref2_floor.f (wrap64 (a0 - 2001)) 400).bind fun t109 => (some (wrap64 ((wrap64 ((wrap64 ((wrap64 (365 * (wrap64 (a0 - 2001)))) + t107)) - t108)) + t109)))))
set_option maxHeartbeats 8000000 in
set_option maxRecDepth 100000 in
theorem mastref2_yearDay.calls (a0 : Int) (r : Int) (w : World) (h : mastref2_yearDay.f a0 = some r) :
    Calls Try.prog 108 #[.int .i64 a0] w fun e w' => e = .returned (.int .i64 r) ∧ Drawn0 w w' := by
  have H : ((mastref2_floor.f (wrap64 (a0 - 2001)) 4).bind fun t107 => ((mastref2_floor.f (wrap64 (a0 - 2001)) 100).bind fun t108 => ((mastref2_floor.f (wrap64 (a0 - 2001)) 400).bind fun t109 => (some (wrap64 ((wrap64 ((wrap64 ((wrap64 (365 * (wrap64 (a0 - 2001)))) + t107)) - t108)) + t109)))))) = some r := h
  clear h
  replace H := Option.bind_eq_some_iff.mp H
  obtain ⟨t107, A20, H⟩ := H
  replace H : ((mastref2_floor.f (wrap64 (a0 - 2001)) 100).bind fun t108 => ((mastref2_floor.f (wrap64 (a0 - 2001)) 400).bind fun t109 => (some (wrap64 ((wrap64 ((wrap64 ((wrap64 (365 * (wrap64 (a0 - 2001)))) + t107)) - t108)) + t109))))) = some r := H
  have A2 := Aside0.mk A20
  clear A20
  replace H := Option.bind_eq_some_iff.mp H
  obtain ⟨t108, A30, H⟩ := H
  replace H : ((mastref2_floor.f (wrap64 (a0 - 2001)) 400).bind fun t109 => (some (wrap64 ((wrap64 ((wrap64 ((wrap64 (365 * (wrap64 (a0 - 2001)))) + t107)) - t108)) + t109)))) = some r := H
  have A3 := Aside0.mk A30
  clear A30
  replace H := Option.bind_eq_some_iff.mp H
  obtain ⟨t109, A40, H⟩ := H
  replace H : (some (wrap64 ((wrap64 ((wrap64 ((wrap64 (365 * (wrap64 (a0 - 2001)))) + t107)) - t108)) + t109))) = some r := H
  have A4 := Aside0.mk A40
  clear A40
  obtain rfl := Option.some.inj H
  go_enter Try.func108, Try.ntmps108
  go_wp2_with (first | ((with_reducible refine gate_callee (f := 106) rfl ?_); refine goesL_ (some 9) rfl rfl Try.func106 (by kernel_rfl) rfl #[.int .i64 (wrap64 (a0 - 2001)), .int .i64 4] rfl (by (try simp only [List.map_toArray, List.map_cons, List.map_nil]); first | done | rfl | (simp only [List.length_drop, List.length_take]; rfl)) ?_; (with_reducible refine (mastref2_floor.calls (wrap64 (a0 - 2001)) 4 t107 _ A2.out).mono ?_); rintro e w' ⟨rfl, ⟨nd, rfl⟩⟩; refine ⟨_, rfl, ?_⟩) | ((with_reducible refine gate_callee (f := 106) rfl ?_); refine goesL_ (some 12) rfl rfl Try.func106 (by kernel_rfl) rfl #[.int .i64 (wrap64 (a0 - 2001)), .int .i64 100] rfl (by (try simp only [List.map_toArray, List.map_cons, List.map_nil]); first | done | rfl | (simp only [List.length_drop, List.length_take]; rfl)) ?_; (with_reducible refine (mastref2_floor.calls (wrap64 (a0 - 2001)) 100 t108 _ A3.out).mono ?_); rintro e w' ⟨rfl, ⟨nd, rfl⟩⟩; refine ⟨_, rfl, ?_⟩) | ((with_reducible refine gate_callee (f := 106) rfl ?_); refine goesL_ (some 15) rfl rfl Try.func106 (by kernel_rfl) rfl #[.int .i64 (wrap64 (a0 - 2001)), .int .i64 400] rfl (by (try simp only [List.map_toArray, List.map_cons, List.map_nil]); first | done | rfl | (simp only [List.length_drop, List.length_take]; rfl)) ?_; (with_reducible refine (mastref2_floor.calls (wrap64 (a0 - 2001)) 400 t109 _ A4.out).mono ?_); rintro e w' ⟨rfl, ⟨nd, rfl⟩⟩; refine ⟨_, rfl, ?_⟩))
  go_ret
  exact ⟨by first | rfl | (simp; done) | (simp [*]; done), by repeat (first | exact Drawn0.refl _ | apply Drawn0.step)⟩

/-! ### mastref2_dateOf: function 52 -/
def mastref2_dateOf.l0 : Nat → Int → Int → Int → Int → List Int → Int → Int → Option (Int)
  | 0, _, _, _, _, _, _, _ => none
  | k + 1, x0, x1, x2, x7, x24, x25, x26 => if x26 < x25 then (if 0 ≤ x26 then (if x26 < (x24.length : Int) then (mastref2_dateOf.l0 k x0 x1 x2 (wrap64 (x7 + (rd x24 x26))) x24 x25 (wrap64 (x26 + 1))) else (none)) else (none)) else (if x1 > 2 then ((mastref2_leap.f x0).bind fun t120 => (if t120 = true then ((mastref2_yearDay.f x0).bind fun t121 => (some (wrap64 ((wrap64 ((wrap64 (t121 + (wrap64 (x7 + 1)))) + x2)) - 1)))) else ((mastref2_yearDay.f x0).bind fun t122 => (some (wrap64 ((wrap64 ((wrap64 (t122 + x7)) + x2)) - 1)))))) else ((mastref2_yearDay.f x0).bind fun t123 => (some (wrap64 ((wrap64 ((wrap64 (t123 + x7)) + x2)) - 1)))))
def mastref2_dateOf.f (k : Nat) (a0 : Int) (a1 : Int) (a2 : Int) : Option (Int) := (mastref2_floor.f (wrap64 (a1 - 1)) 12).bind fun t110 => ((mastref2_floor.f (wrap64 (a1 - 1)) 12).bind fun t111 => ((some (([31, 28, 31, 30, 31, 30, 31, 31, 30, 31, 30, 31] : List Int) : List Int)).bind fun y112 => (if 0 ≤ (wrap64 ((wrap64 (a1 - (wrap64 (12 * t111)))) - 1)) then (if (wrap64 ((wrap64 (a1 - (wrap64 (12 * t111)))) - 1)) ≤ (y112.length : Int) then ((some (y112.take ((wrap64 ((wrap64 (a1 - (wrap64 (12 * t111)))) - 1)) : Int).toNat : List Int)).bind fun y115 => (mastref2_dateOf.l0 k (wrap64 (a0 + t110)) (wrap64 (a1 - (wrap64 (12 * t111)))) a2 0 y115 (y115.length : Int) 0)) else (none)) else (none))))
theorem mastref2_dateOf.mono_l : ∀ k, (∀ y0 y1 y2 y3 y4 y5 y6, LeO (mastref2_dateOf.l0 k y0 y1 y2 y3 y4 y5 y6) (mastref2_dateOf.l0 (k + 1) y0 y1 y2 y3 y4 y5 y6))
  | 0 => fun _ _ _ _ _ _ _ r h => by simp [mastref2_dateOf.l0] at h
  | k + 1 => by
    have ih0 := mastref2_dateOf.mono_l k
    · intro y0 y1 y2 y3 y4 y5 y6
      unfold mastref2_dateOf.l0
      repeat' first
      | (with_reducible exact ih0 _ _ _ _ _ _ _)
      | (with_reducible exact LeO.refl _)
      | (with_reducible exact LeO.none _)
      | (with_reducible refine LeO.ite ?_ ?_)
      | (with_reducible refine LeO.bind ?_ (fun _ => ?_))
      | exact ih0 _ _ _ _ _ _ _
      | exact LeO.none _
      | refine LeO.ite ?_ ?_
      | refine LeO.bind ?_ (fun _ => ?_)
theorem mastref2_dateOf.mono : ∀ a0 a1 a2 k, LeO (mastref2_dateOf.f k a0 a1 a2) (mastref2_dateOf.f (k + 1) a0 a1 a2) := by
  intro a0 a1 a2 k
  have ih0 := mastref2_dateOf.mono_l k
  unfold mastref2_dateOf.f
  repeat' first
      | (with_reducible exact ih0 _ _ _ _ _ _ _)
      | (with_reducible exact LeO.refl _)
      | (with_reducible exact LeO.none _)
      | (with_reducible refine LeO.ite ?_ ?_)
      | (with_reducible refine LeO.bind ?_ (fun _ => ?_))
      | exact ih0 _ _ _ _ _ _ _
      | exact LeO.none _
      | refine LeO.ite ?_ ?_
      | refine LeO.bind ?_ (fun _ => ?_)
set_option maxHeartbeats 8000000 in
set_option maxRecDepth 100000 in
theorem mastref2_dateOf.calls (k : Nat) (a0 : Int) (a1 : Int) (a2 : Int) (r : Int) (w : World) (h : mastref2_dateOf.f k a0 a1 a2 = some r) :
    Calls Try.prog 52 #[.int .i64 a0, .int .i64 a1, .int .i64 a2] w fun e w' => e = .returned (.int .i64 r) ∧ Below w.heap.size w w' := by
  have HB := Aside0.mk (Below.refl w.heap.size w)
  have H : ((mastref2_floor.f (wrap64 (a1 - 1)) 12).bind fun t110 => ((mastref2_floor.f (wrap64 (a1 - 1)) 12).bind fun t111 => ((some (([31, 28, 31, 30, 31, 30, 31, 31, 30, 31, 30, 31] : List Int) : List Int)).bind fun y112 => (if 0 ≤ (wrap64 ((wrap64 (a1 - (wrap64 (12 * t111)))) - 1)) then (if (wrap64 ((wrap64 (a1 - (wrap64 (12 * t111)))) - 1)) ≤ (y112.length : Int) then ((some (y112.take ((wrap64 ((wrap64 (a1 - (wrap64 (12 * t111)))) - 1)) : Int).toNat : List Int)).bind fun y115 => (mastref2_dateOf.l0 k (wrap64 (a0 + t110)) (wrap64 (a1 - (wrap64 (12 * t111)))) a2 0 y115 (y115.length : Int) 0)) else (none)) else (none))))) = some r := h
  clear h
  replace H := Option.bind_eq_some_iff.mp H
  obtain ⟨t110, A40, H⟩ := H
  replace H : ((mastref2_floor.f (wrap64 (a1 - 1)) 12).bind fun t111 => ((some (([31, 28, 31, 30, 31, 30, 31, 31, 30, 31, 30, 31] : List Int) : List Int)).bind fun y112 => (if 0 ≤ (wrap64 ((wrap64 (a1 - (wrap64 (12 * t111)))) - 1)) then (if (wrap64 ((wrap64 (a1 - (wrap64 (12 * t111)))) - 1)) ≤ (y112.length : Int) then ((some (y112.take ((wrap64 ((wrap64 (a1 - (wrap64 (12 * t111)))) - 1)) : Int).toNat : List Int)).bind fun y115 => (mastref2_dateOf.l0 k (wrap64 (a0 + t110)) (wrap64 (a1 - (wrap64 (12 * t111)))) a2 0 y115 (y115.length : Int) 0)) else (none)) else (none)))) = some r := H
  have A4 := Aside0.mk A40
  clear A40
  replace H := Option.bind_eq_some_iff.mp H
  obtain ⟨t111, A50, H⟩ := H
  replace H : ((some (([31, 28, 31, 30, 31, 30, 31, 31, 30, 31, 30, 31] : List Int) : List Int)).bind fun y112 => (if 0 ≤ (wrap64 ((wrap64 (a1 - (wrap64 (12 * t111)))) - 1)) then (if (wrap64 ((wrap64 (a1 - (wrap64 (12 * t111)))) - 1)) ≤ (y112.length : Int) then ((some (y112.take ((wrap64 ((wrap64 (a1 - (wrap64 (12 * t111)))) - 1)) : Int).toNat : List Int)).bind fun y115 => (mastref2_dateOf.l0 k (wrap64 (a0 + t110)) (wrap64 (a1 - (wrap64 (12 * t111)))) a2 0 y115 (y115.length : Int) 0)) else (none)) else (none))) = some r := H
  have A5 := Aside0.mk A50
  clear A50
  obtain ⟨y112, hy112⟩ : ∃ y_ : List Int, y_ = (([31, 28, 31, 30, 31, 30, 31, 31, 30, 31, 30, 31] : List Int)) := ⟨_, rfl⟩
  replace H : (if 0 ≤ (wrap64 ((wrap64 (a1 - (wrap64 (12 * t111)))) - 1)) then (if (wrap64 ((wrap64 (a1 - (wrap64 (12 * t111)))) - 1)) ≤ (y112.length : Int) then ((some (y112.take ((wrap64 ((wrap64 (a1 - (wrap64 (12 * t111)))) - 1)) : Int).toNat : List Int)).bind fun y115 => (mastref2_dateOf.l0 k (wrap64 (a0 + t110)) (wrap64 (a1 - (wrap64 (12 * t111)))) a2 0 y115 (y115.length : Int) 0)) else (none)) else (none)) = some r := by first | (rw [hy112]; with_reducible exact H) | (have H2_ := (Option.bind_some _ _).symm.trans H; rw [hy112]; with_reducible exact H2_) | (have H2_ := (Option.bind_some _ _).symm.trans H; with_reducible exact H2_) | with_reducible exact H | (rw [hy112]; exact H) | exact H
  have Ny112 := Aside0.mk hy112
  clear hy112
  obtain ⟨ji6, hji6⟩ : ∃ j_ : Int, (wrap64 ((wrap64 (a1 - (wrap64 (12 * t111)))) - 1)) = j_ := ⟨_, rfl⟩
  replace H : (if 0 ≤ (ji6) then (if (ji6) ≤ (y112.length : Int) then ((some (y112.take ((ji6) : Int).toNat : List Int)).bind fun y115 => (mastref2_dateOf.l0 k (wrap64 (a0 + t110)) (wrap64 (a1 - (wrap64 (12 * t111)))) a2 0 y115 (y115.length : Int) 0)) else (none)) else (none)) = some r := by first | (rw [hji6] at H; exact H) | (simp only [hji6] at H ⊢; exact H)
  (try rw [hji6] at A4)
  (try rw [hji6] at A5)
  have hji6w : (IntKind.i64.wrap ((wrap64 (a1 - (wrap64 (12 * t111)))) - 1)) = ji6 := (i64_w _).trans hji6
  by_cases c7 : 0 ≤ (ji6)
  · rw [if_pos c7] at H
    have c7b0 := eq_true c7
    have c7b1 : decide (0 ≤ (ji6)) = true := decide_eq_true c7
    clear c7
    by_cases c8 : (ji6) ≤ (y112.length : Int)
    · rw [if_pos c8] at H
      have c8b0 := eq_true c8
      have c8b1 : decide ((ji6) ≤ (y112.length : Int)) = true := decide_eq_true c8
      clear c8
      obtain ⟨y115, hy115⟩ : ∃ y_ : List Int, y_ = (y112.take ((ji6) : Int).toNat) := ⟨_, rfl⟩
      replace H : (mastref2_dateOf.l0 k (wrap64 (a0 + t110)) (wrap64 (a1 - (wrap64 (12 * t111)))) a2 0 y115 (y115.length : Int) 0) = some r := by first | (rw [hy115]; with_reducible exact H) | (have H2_ := (Option.bind_some _ _).symm.trans H; rw [hy115]; with_reducible exact H2_) | (have H2_ := (Option.bind_some _ _).symm.trans H; with_reducible exact H2_) | with_reducible exact H | (rw [hy115]; exact H) | exact H
      have Ny115 := Aside0.mk hy115
      clear hy115
      have H' := Aside0.mk H
      clear H
      go_enter Try.func52, Try.ntmps52
      go_wp2_with (first | ((with_reducible refine gate_callee (f := 106) rfl ?_); refine goesL_ (some 13) rfl rfl Try.func106 (by kernel_rfl) rfl #[.int .i64 (wrap64 (a1 - 1)), .int .i64 12] rfl (by (try simp only [List.map_toArray, List.map_cons, List.map_nil]); first | done | rfl | (simp only [List.length_drop, List.length_take]; rfl)) ?_; (with_reducible refine (mastref2_floor.calls (wrap64 (a1 - 1)) 12 t110 _ A4.out).mono ?_); rintro e w' ⟨rfl, ⟨nd, rfl⟩⟩; refine ⟨_, rfl, ?_⟩) | ((with_reducible refine gate_callee (f := 106) rfl ?_); refine goesL_ (some 18) rfl rfl Try.func106 (by kernel_rfl) rfl #[.int .i64 (wrap64 (a1 - 1)), .int .i64 12] rfl (by (try simp only [List.map_toArray, List.map_cons, List.map_nil]); first | done | rfl | (simp only [List.length_drop, List.length_take]; rfl)) ?_; (with_reducible refine (mastref2_floor.calls (wrap64 (a1 - 1)) 12 t111 _ A5.out).mono ?_); rintro e w' ⟨rfl, ⟨nd, rfl⟩⟩; refine ⟨_, rfl, ?_⟩) | ((with_reducible refine gate_dst (N := 21) rfl ?_); refine Kd.R_lit (Kd.int .i64) _ 3 ?hg (N := 21) ?hd (xs := ([31, 28, 31, 30, 31, 30, 31, 31, 30, 31, 30, 31] : List Int)) (inner := [.int .i64 31, .int .i64 28, .int .i64 31, .int .i64 30, .int .i64 31, .int .i64 30, .int .i64 31, .int .i64 31, .int .i64 30, .int .i64 31, .int .i64 30, .int .i64 31]) (ok := fun _ => True) (okp := fun _ => True) ?hr ?hp (fun _ hk => hk) trivial (Below.refl _ _) (Nat.le_refl _) (by simp) ?_; (case hd => rfl); (case hg => rfl); (case hr => first | (go_simp; done) | (go_simp; rfl)); (case hp => exact (Reps.one (show Kd.M (Kd.int .i64) _ _ _ 31 [.int .i64 31] from rfl) (Reps.one (show Kd.M (Kd.int .i64) _ _ _ 28 [.int .i64 28] from rfl) (Reps.one (show Kd.M (Kd.int .i64) _ _ _ 31 [.int .i64 31] from rfl) (Reps.one (show Kd.M (Kd.int .i64) _ _ _ 30 [.int .i64 30] from rfl) (Reps.one (show Kd.M (Kd.int .i64) _ _ _ 31 [.int .i64 31] from rfl) (Reps.one (show Kd.M (Kd.int .i64) _ _ _ 30 [.int .i64 30] from rfl) (Reps.one (show Kd.M (Kd.int .i64) _ _ _ 31 [.int .i64 31] from rfl) (Reps.one (show Kd.M (Kd.int .i64) _ _ _ 31 [.int .i64 31] from rfl) (Reps.one (show Kd.M (Kd.int .i64) _ _ _ 30 [.int .i64 30] from rfl) (Reps.one (show Kd.M (Kd.int .i64) _ _ _ 31 [.int .i64 31] from rfl) (Reps.one (show Kd.M (Kd.int .i64) _ _ _ 30 [.int .i64 30] from rfl) (Reps.one (show Kd.M (Kd.int .i64) _ _ _ 31 [.int .i64 31] from rfl) (Reps.none _ _)))))))))))))); intro v113 w9 ho10 hb hg_ hnew_; clear hg_ hnew_; (first | rw [← Ny112.out] at ho10 | (simp only [Int.reduceToNat] at ho10; rw [← Ny112.out] at ho10)); have n0_ := Aside0.mk (Kd.R_lower ho10 (below_size (by repeat (first | (with_reducible first | exact HB.out | apply below_alloc | apply pw_below_drewN | apply below_drew1) | exact HB.out)))); have n1_ := Aside0.mk (below_step (by repeat (first | (with_reducible first | exact HB.out | apply below_alloc | apply pw_below_drewN | apply below_drew1) | exact HB.out)) hb); clear HB; have HO114 := n0_; have HB := n1_; clear n0_ n1_; clear hb ho10; obtain ⟨Ao12, co12, eo12⟩ := Kd.R_slice HO114.out; subst eo12; have q11 : ((ji6) : Int) ≤ ((y112.length : Int) : Int) := of_decide_eq_true (by first | (with_reducible assumption) | assumption); obtain ⟨i011, hi011, _, hsz11, _⟩ := info_parts info3; have hroom11 : y112.length ≤ co12 := (Kd.R_reads' HO114.out).2.1; have hC11 : Kd.C (Kd.int .i64) _ Ao12 y112.length y112 := (Kd.R_reads' HO114.out).2.2; have hcut11 := cut_to (P := Try.prog) 30 3 .i64 Try.underlying30 hi011 Ao12 y112.length co12 (ji6) (of_decide_eq_true (by first | (with_reducible assumption) | assumption)) q11 hroom11; have hr11 := Kd.C_take (m := ((ji6) : Int).toNat) hC11 (by omega); have hy11 : y115.length = ((ji6) : Int).toNat := (by rw [Ny115.out, List.length_take]; omega); rw [← Ny115.out] at hr11; rw [← hy11] at hcut11; have HR118 := Aside0.mk hr11; have HC118 := Aside0.mk (show y115.length ≤ co12 from by omega); clear hr11 hC11 hroom11 hi011 hsz11; have KY11 := Aside0.mk hy11; clear hy11; have KL11 := Aside0.mk (show ((ji6) : Int).toNat ≤ y112.length from by omega); replace q11 := eq_true q11))
      go_loopg [7, 26] k (fun kq v7 v26 w' => ∃ (x7_1 : Int) (x26_1 : Int), v7 = .int .i64 x7_1 ∧ v26 = .int .i64 x26_1 ∧ Aside0 (mastref2_dateOf.l0 kq (wrap64 (a0 + t110)) (wrap64 (a1 - (wrap64 (12 * t111)))) a2 x7_1 y115 (y115.length : Int) x26_1 = some r) ∧ Aside0 (kq ≤ k) ∧ Aside0 (Kd.C (Kd.int .i64) w' Ao12 y115.length y115) ∧ Aside0 (Below w.heap.size w w'))
      case atStart => exact ⟨(0), (0), (by first | rfl | (simp; done) | (simp [*]; done)), (by first | rfl | (simp; done) | (simp [*]; done)), H', ⟨Nat.le_refl _⟩, ⟨by repeat (first | (with_reducible exact HR118.out) | (with_reducible refine Kd.C_alloc ?_ _) | (with_reducible refine Kd.C_drewN ?_ _) | (with_reducible refine Kd.C_drew ?_) | exact HR118.out)⟩, ⟨by repeat (first | (with_reducible first | exact HB.out | apply below_alloc | apply pw_below_drewN | apply below_drew1) | exact HB.out)⟩⟩
      case round =>
        clear H'
        try clear c1
        try clear q1
        try clear p2
        try clear c5
        try clear p6
        try clear c7
        try clear c7b0
        try clear c7b1
        try clear c8
        try clear c8b0
        try clear c8b1
        try clear c10
        try clear q11
        try clear q11
        obtain ⟨x7_1, x26_1, rfl, rfl, HA, HK1, HR118, HB⟩ := hrel
        cases gk with
        | zero => exact absurd HA.out (by simp [mastref2_dateOf.l0])
        | succ k1 =>
          have H := HA.out
          clear HA
          simp only [mastref2_dateOf.l0] at H
          by_cases c13 : x26_1 < (y115.length : Int)
          · rw [if_pos c13] at H
            have c13b0 : decide (x26_1 < (y115.length : Int)) = true := decide_eq_true c13
            clear c13
            by_cases c14 : 0 ≤ x26_1
            · rw [if_pos c14] at H
              have c14b0 : decide (0 ≤ x26_1) = true := decide_eq_true c14
              clear c14
              by_cases c15 : x26_1 < (y115.length : Int)
              · rw [if_pos c15] at H
                have c15b0 : decide (x26_1 < (y115.length : Int)) = true := decide_eq_true c15
                clear c15
                have H' := Aside0.mk H
                clear H
                have p119 : 0 ≤ (x26_1 : Int) := of_decide_eq_true (by first | (with_reducible assumption) | assumption)
                have q119 : x26_1 < (y115.length : Int) := of_decide_eq_true (by first | (with_reducible assumption) | assumption)
                obtain ⟨ad119, e119, hx119_0⟩ := Kd.at_int HR118.out x26_1 p119 q119
                cases e119
                (try replace hx119_0 := (HB.out.cell (World.block_lt_of_cell? w _ hx119_0)).trans hx119_0)
                replace p119 := eq_true p119
                replace q119 := eq_true q119
                go_wp2
                go_roundg k1
                case measure => have := HK1.out; omega
                case rel => exact ⟨(wrap64 (x7_1 + (rd y115 x26_1))), (wrap64 (x26_1 + 1)), (by first | rfl | (simp; done) | (simp [*]; done)), (by first | rfl | (simp; done) | (simp [*]; done)), H', ⟨by have := HK1.out; omega⟩, ⟨by repeat (first | (with_reducible exact HR118.out) | (with_reducible refine Kd.C_alloc ?_ _) | (with_reducible refine Kd.C_drewN ?_ _) | (with_reducible refine Kd.C_drew ?_) | exact HR118.out)⟩, ⟨by repeat (first | (with_reducible first | exact HB.out | apply below_alloc | apply pw_below_drewN | apply below_drew1) | exact HB.out)⟩⟩
              · rw [if_neg c15] at H
                exact absurd H (by simp)
            · rw [if_neg c14] at H
              exact absurd H (by simp)
          · rw [if_neg c13] at H
            have c13b0 : decide (x26_1 < (y115.length : Int)) = false := decide_eq_false c13
            clear c13
            by_cases c16 : (wrap64 (a1 - (wrap64 (12 * t111)))) > 2
            · rw [if_pos c16] at H
              have c16b0 : decide (2 < (wrap64 (a1 - (wrap64 (12 * t111))))) = true := decide_eq_true c16
              clear c16
              replace H := Option.bind_eq_some_iff.mp H
              obtain ⟨t120, A170, H⟩ := H
              replace H : (if t120 = true then ((mastref2_yearDay.f (wrap64 (a0 + t110))).bind fun t121 => (some (wrap64 ((wrap64 ((wrap64 (t121 + (wrap64 (x7_1 + 1)))) + a2)) - 1)))) else ((mastref2_yearDay.f (wrap64 (a0 + t110))).bind fun t122 => (some (wrap64 ((wrap64 ((wrap64 (t122 + x7_1)) + a2)) - 1))))) = some r := H
              have A17 := Aside0.mk A170
              clear A170
              by_cases c18 : t120 = true
              · subst c18
                have H1 : ((mastref2_yearDay.f (wrap64 (a0 + t110))).bind fun t121 => (some (wrap64 ((wrap64 ((wrap64 (t121 + (wrap64 (x7_1 + 1)))) + a2)) - 1)))) = some r := by rw [if_pos rfl] at H; exact H
                clear H
                have H := H1
                clear H1
                replace H := Option.bind_eq_some_iff.mp H
                obtain ⟨t121, A190, H⟩ := H
                replace H : (some (wrap64 ((wrap64 ((wrap64 (t121 + (wrap64 (x7_1 + 1)))) + a2)) - 1))) = some r := H
                have A19 := Aside0.mk A190
                clear A190
                obtain rfl := Option.some.inj H
                go_wp2_with (first | (go_at_call 107; (with_reducible refine (mastref2_leap.calls (wrap64 (a0 + t110)) true _ A17.out).mono ?_); rintro e w' ⟨rfl, ⟨nd, rfl⟩⟩) | ((with_reducible refine gate_callee (f := 108) rfl ?_); refine goesL_ (some 43) rfl rfl Try.func108 (by kernel_rfl) rfl #[.int .i64 (wrap64 (a0 + t110))] rfl (by (try simp only [List.map_toArray, List.map_cons, List.map_nil]); first | done | rfl | (simp only [List.length_drop, List.length_take]; rfl)) ?_; (with_reducible refine (mastref2_yearDay.calls (wrap64 (a0 + t110)) t121 _ A19.out).mono ?_); rintro e w' ⟨rfl, ⟨nd, rfl⟩⟩; refine ⟨_, rfl, ?_⟩))
                go_ret
                exact ⟨by first | rfl | (simp [errW_none, errW_some] <;> rfl) | (simp only [← hji6]; first | rfl | (simp [errW_none, errW_some] <;> rfl)) | (simp [*, errW_none, errW_some] <;> rfl), by repeat (first | (with_reducible first | exact HB.out | apply below_alloc | apply pw_below_drewN | apply below_drew1) | exact HB.out)⟩
              · replace c18 := Bool.eq_false_iff.mpr c18
                subst c18
                have H1 : ((mastref2_yearDay.f (wrap64 (a0 + t110))).bind fun t122 => (some (wrap64 ((wrap64 ((wrap64 (t122 + x7_1)) + a2)) - 1)))) = some r := by rw [if_neg (show ¬ (false = true) by decide)] at H; exact H
                clear H
                have H := H1
                clear H1
                replace H := Option.bind_eq_some_iff.mp H
                obtain ⟨t122, A200, H⟩ := H
                replace H : (some (wrap64 ((wrap64 ((wrap64 (t122 + x7_1)) + a2)) - 1))) = some r := H
                have A20 := Aside0.mk A200
                clear A200
                obtain rfl := Option.some.inj H
                go_wp2_with (first | (go_at_call 107; (with_reducible refine (mastref2_leap.calls (wrap64 (a0 + t110)) false _ A17.out).mono ?_); rintro e w' ⟨rfl, ⟨nd, rfl⟩⟩) | ((with_reducible refine gate_callee (f := 108) rfl ?_); refine goesL_ (some 43) rfl rfl Try.func108 (by kernel_rfl) rfl #[.int .i64 (wrap64 (a0 + t110))] rfl (by (try simp only [List.map_toArray, List.map_cons, List.map_nil]); first | done | rfl | (simp only [List.length_drop, List.length_take]; rfl)) ?_; (with_reducible refine (mastref2_yearDay.calls (wrap64 (a0 + t110)) t122 _ A20.out).mono ?_); rintro e w' ⟨rfl, ⟨nd, rfl⟩⟩; refine ⟨_, rfl, ?_⟩))
                go_ret
                exact ⟨by first | rfl | (simp [errW_none, errW_some] <;> rfl) | (simp only [← hji6]; first | rfl | (simp [errW_none, errW_some] <;> rfl)) | (simp [*, errW_none, errW_some] <;> rfl), by repeat (first | (with_reducible first | exact HB.out | apply below_alloc | apply pw_below_drewN | apply below_drew1) | exact HB.out)⟩
            · rw [if_neg c16] at H
              have c16b0 : decide (2 < (wrap64 (a1 - (wrap64 (12 * t111))))) = false := decide_eq_false c16
              clear c16
              replace H := Option.bind_eq_some_iff.mp H
              obtain ⟨t123, A210, H⟩ := H
              replace H : (some (wrap64 ((wrap64 ((wrap64 (t123 + x7_1)) + a2)) - 1))) = some r := H
              have A21 := Aside0.mk A210
              clear A210
              obtain rfl := Option.some.inj H
              go_wp2_with (first | ((with_reducible refine gate_callee (f := 108) rfl ?_); refine goesL_ (some 43) rfl rfl Try.func108 (by kernel_rfl) rfl #[.int .i64 (wrap64 (a0 + t110))] rfl (by (try simp only [List.map_toArray, List.map_cons, List.map_nil]); first | done | rfl | (simp only [List.length_drop, List.length_take]; rfl)) ?_; (with_reducible refine (mastref2_yearDay.calls (wrap64 (a0 + t110)) t123 _ A21.out).mono ?_); rintro e w' ⟨rfl, ⟨nd, rfl⟩⟩; refine ⟨_, rfl, ?_⟩))
              go_ret
              exact ⟨by first | rfl | (simp [errW_none, errW_some] <;> rfl) | (simp only [← hji6]; first | rfl | (simp [errW_none, errW_some] <;> rfl)) | (simp [*, errW_none, errW_some] <;> rfl), by repeat (first | (with_reducible first | exact HB.out | apply below_alloc | apply pw_below_drewN | apply below_drew1) | exact HB.out)⟩
    · rw [if_neg c8] at H
      exact absurd H (by simp)
  · rw [if_neg c7] at H
    exact absurd H (by simp)

/-! ### mastref2_date_parts: function 66 -/
def mastref2_date_parts.f (a0 : Int) : Option (Int × Int × Int) := (mastref2_floor.f (wrap64 (a0 + 730791)) 146097).bind fun t124 => (if (wrap64 ((wrap64 (Int.tdiv (wrap64 ((wrap64 (5 * (wrap64 ((wrap64 ((wrap64 (a0 + 730791)) - (wrap64 (146097 * t124)))) - (wrap64 ((wrap64 ((wrap64 (365 * (wrap64 (Int.tdiv (wrap64 ((wrap64 ((wrap64 ((wrap64 ((wrap64 (a0 + 730791)) - (wrap64 (146097 * t124)))) - (wrap64 (Int.tdiv (wrap64 ((wrap64 (a0 + 730791)) - (wrap64 (146097 * t124)))) 1460)))) + (wrap64 (Int.tdiv (wrap64 ((wrap64 (a0 + 730791)) - (wrap64 (146097 * t124)))) 36524)))) - (wrap64 (Int.tdiv (wrap64 ((wrap64 (a0 + 730791)) - (wrap64 (146097 * t124)))) 146096)))) 365)))) + (wrap64 (Int.tdiv (wrap64 (Int.tdiv (wrap64 ((wrap64 ((wrap64 ((wrap64 ((wrap64 (a0 + 730791)) - (wrap64 (146097 * t124)))) - (wrap64 (Int.tdiv (wrap64 ((wrap64 (a0 + 730791)) - (wrap64 (146097 * t124)))) 1460)))) + (wrap64 (Int.tdiv (wrap64 ((wrap64 (a0 + 730791)) - (wrap64 (146097 * t124)))) 36524)))) - (wrap64 (Int.tdiv (wrap64 ((wrap64 (a0 + 730791)) - (wrap64 (146097 * t124)))) 146096)))) 365)) 4)))) - (wrap64 (Int.tdiv (wrap64 (Int.tdiv (wrap64 ((wrap64 ((wrap64 ((wrap64 ((wrap64 (a0 + 730791)) - (wrap64 (146097 * t124)))) - (wrap64 (Int.tdiv (wrap64 ((wrap64 (a0 + 730791)) - (wrap64 (146097 * t124)))) 1460)))) + (wrap64 (Int.tdiv (wrap64 ((wrap64 (a0 + 730791)) - (wrap64 (146097 * t124)))) 36524)))) - (wrap64 (Int.tdiv (wrap64 ((wrap64 (a0 + 730791)) - (wrap64 (146097 * t124)))) 146096)))) 365)) 100)))))))) + 2)) 153)) + 3)) > 12 then (some (wrap64 ((wrap64 ((wrap64 (400 * t124)) + (wrap64 (Int.tdiv (wrap64 ((wrap64 ((wrap64 ((wrap64 ((wrap64 (a0 + 730791)) - (wrap64 (146097 * t124)))) - (wrap64 (Int.tdiv (wrap64 ((wrap64 (a0 + 730791)) - (wrap64 (146097 * t124)))) 1460)))) + (wrap64 (Int.tdiv (wrap64 ((wrap64 (a0 + 730791)) - (wrap64 (146097 * t124)))) 36524)))) - (wrap64 (Int.tdiv (wrap64 ((wrap64 (a0 + 730791)) - (wrap64 (146097 * t124)))) 146096)))) 365)))) + 1), wrap64 ((wrap64 ((wrap64 (Int.tdiv (wrap64 ((wrap64 (5 * (wrap64 ((wrap64 ((wrap64 (a0 + 730791)) - (wrap64 (146097 * t124)))) - (wrap64 ((wrap64 ((wrap64 (365 * (wrap64 (Int.tdiv (wrap64 ((wrap64 ((wrap64 ((wrap64 ((wrap64 (a0 + 730791)) - (wrap64 (146097 * t124)))) - (wrap64 (Int.tdiv (wrap64 ((wrap64 (a0 + 730791)) - (wrap64 (146097 * t124)))) 1460)))) + (wrap64 (Int.tdiv (wrap64 ((wrap64 (a0 + 730791)) - (wrap64 (146097 * t124)))) 36524)))) - (wrap64 (Int.tdiv (wrap64 ((wrap64 (a0 + 730791)) - (wrap64 (146097 * t124)))) 146096)))) 365)))) + (wrap64 (Int.tdiv (wrap64 (Int.tdiv (wrap64 ((wrap64 ((wrap64 ((wrap64 ((wrap64 (a0 + 730791)) - (wrap64 (146097 * t124)))) - (wrap64 (Int.tdiv (wrap64 ((wrap64 (a0 + 730791)) - (wrap64 (146097 * t124)))) 1460)))) + (wrap64 (Int.tdiv (wrap64 ((wrap64 (a0 + 730791)) - (wrap64 (146097 * t124)))) 36524)))) - (wrap64 (Int.tdiv (wrap64 ((wrap64 (a0 + 730791)) - (wrap64 (146097 * t124)))) 146096)))) 365)) 4)))) - (wrap64 (Int.tdiv (wrap64 (Int.tdiv (wrap64 ((wrap64 ((wrap64 ((wrap64 ((wrap64 (a0 + 730791)) - (wrap64 (146097 * t124)))) - (wrap64 (Int.tdiv (wrap64 ((wrap64 (a0 + 730791)) - (wrap64 (146097 * t124)))) 1460)))) + (wrap64 (Int.tdiv (wrap64 ((wrap64 (a0 + 730791)) - (wrap64 (146097 * t124)))) 36524)))) - (wrap64 (Int.tdiv (wrap64 ((wrap64 (a0 + 730791)) - (wrap64 (146097 * t124)))) 146096)))) 365)) 100)))))))) + 2)) 153)) + 3)) - 12), wrap64 ((wrap64 ((wrap64 ((wrap64 ((wrap64 (a0 + 730791)) - (wrap64 (146097 * t124)))) - (wrap64 ((wrap64 ((wrap64 (365 * (wrap64 (Int.tdiv (wrap64 ((wrap64 ((wrap64 ((wrap64 ((wrap64 (a0 + 730791)) - (wrap64 (146097 * t124)))) - (wrap64 (Int.tdiv (wrap64 ((wrap64 (a0 + 730791)) - (wrap64 (146097 * t124)))) 1460)))) + (wrap64 (Int.tdiv (wrap64 ((wrap64 (a0 + 730791)) - (wrap64 (146097 * t124)))) 36524)))) - (wrap64 (Int.tdiv (wrap64 ((wrap64 (a0 + 730791)) - (wrap64 (146097 * t124)))) 146096)))) 365)))) + (wrap64 (Int.tdiv (wrap64 (Int.tdiv (wrap64 ((wrap64 ((wrap64 ((wrap64 ((wrap64 (a0 + 730791)) - (wrap64 (146097 * t124)))) - (wrap64 (Int.tdiv (wrap64 ((wrap64 (a0 + 730791)) - (wrap64 (146097 * t124)))) 1460)))) + (wrap64 (Int.tdiv (wrap64 ((wrap64 (a0 + 730791)) - (wrap64 (146097 * t124)))) 36524)))) - (wrap64 (Int.tdiv (wrap64 ((wrap64 (a0 + 730791)) - (wrap64 (146097 * t124)))) 146096)))) 365)) 4)))) - (wrap64 (Int.tdiv (wrap64 (Int.tdiv (wrap64 ((wrap64 ((wrap64 ((wrap64 ((wrap64 (a0 + 730791)) - (wrap64 (146097 * t124)))) - (wrap64 (Int.tdiv (wrap64 ((wrap64 (a0 + 730791)) - (wrap64 (146097 * t124)))) 1460)))) + (wrap64 (Int.tdiv (wrap64 ((wrap64 (a0 + 730791)) - (wrap64 (146097 * t124)))) 36524)))) - (wrap64 (Int.tdiv (wrap64 ((wrap64 (a0 + 730791)) - (wrap64 (146097 * t124)))) 146096)))) 365)) 100)))))) - (wrap64 (Int.tdiv (wrap64 ((wrap64 (153 * (wrap64 (Int.tdiv (wrap64 ((wrap64 (5 * (wrap64 ((wrap64 ((wrap64 (a0 + 730791)) - (wrap64 (146097 * t124)))) - (wrap64 ((wrap64 ((wrap64 (365 * (wrap64 (Int.tdiv (wrap64 ((wrap64 ((wrap64 ((wrap64 ((wrap64 (a0 + 730791)) - (wrap64 (146097 * t124)))) - (wrap64 (Int.tdiv (wrap64 ((wrap64 (a0 + 730791)) - (wrap64 (146097 * t124)))) 1460)))) + (wrap64 (Int.tdiv (wrap64 ((wrap64 (a0 + 730791)) - (wrap64 (146097 * t124)))) 36524)))) - (wrap64 (Int.tdiv (wrap64 ((wrap64 (a0 + 730791)) - (wrap64 (146097 * t124)))) 146096)))) 365)))) + (wrap64 (Int.tdiv (wrap64 (Int.tdiv (wrap64 ((wrap64 ((wrap64 ((wrap64 ((wrap64 (a0 + 730791)) - (wrap64 (146097 * t124)))) - (wrap64 (Int.tdiv (wrap64 ((wrap64 (a0 + 730791)) - (wrap64 (146097 * t124)))) 1460)))) + (wrap64 (Int.tdiv (wrap64 ((wrap64 (a0 + 730791)) - (wrap64 (146097 * t124)))) 36524)))) - (wrap64 (Int.tdiv (wrap64 ((wrap64 (a0 + 730791)) - (wrap64 (146097 * t124)))) 146096)))) 365)) 4)))) - (wrap64 (Int.tdiv (wrap64 (Int.tdiv (wrap64 ((wrap64 ((wrap64 ((wrap64 ((wrap64 (a0 + 730791)) - (wrap64 (146097 * t124)))) - (wrap64 (Int.tdiv (wrap64 ((wrap64 (a0 + 730791)) - (wrap64 (146097 * t124)))) 1460)))) + (wrap64 (Int.tdiv (wrap64 ((wrap64 (a0 + 730791)) - (wrap64 (146097 * t124)))) 36524)))) - (wrap64 (Int.tdiv (wrap64 ((wrap64 (a0 + 730791)) - (wrap64 (146097 * t124)))) 146096)))) 365)) 100)))))))) + 2)) 153)))) + 2)) 5)))) + 1))) else (some (wrap64 ((wrap64 (400 * t124)) + (wrap64 (Int.tdiv (wrap64 ((wrap64 ((wrap64 ((wrap64 ((wrap64 (a0 + 730791)) - (wrap64 (146097 * t124)))) - (wrap64 (Int.tdiv (wrap64 ((wrap64 (a0 + 730791)) - (wrap64 (146097 * t124)))) 1460)))) + (wrap64 (Int.tdiv (wrap64 ((wrap64 (a0 + 730791)) - (wrap64 (146097 * t124)))) 36524)))) - (wrap64 (Int.tdiv (wrap64 ((wrap64 (a0 + 730791)) - (wrap64 (146097 * t124)))) 146096)))) 365))), wrap64 ((wrap64 (Int.tdiv (wrap64 ((wrap64 (5 * (wrap64 ((wrap64 ((wrap64 (a0 + 730791)) - (wrap64 (146097 * t124)))) - (wrap64 ((wrap64 ((wrap64 (365 * (wrap64 (Int.tdiv (wrap64 ((wrap64 ((wrap64 ((wrap64 ((wrap64 (a0 + 730791)) - (wrap64 (146097 * t124)))) - (wrap64 (Int.tdiv (wrap64 ((wrap64 (a0 + 730791)) - (wrap64 (146097 * t124)))) 1460)))) + (wrap64 (Int.tdiv (wrap64 ((wrap64 (a0 + 730791)) - (wrap64 (146097 * t124)))) 36524)))) - (wrap64 (Int.tdiv (wrap64 ((wrap64 (a0 + 730791)) - (wrap64 (146097 * t124)))) 146096)))) 365)))) + (wrap64 (Int.tdiv (wrap64 (Int.tdiv (wrap64 ((wrap64 ((wrap64 ((wrap64 ((wrap64 (a0 + 730791)) - (wrap64 (146097 * t124)))) - (wrap64 (Int.tdiv (wrap64 ((wrap64 (a0 + 730791)) - (wrap64 (146097 * t124)))) 1460)))) + (wrap64 (Int.tdiv (wrap64 ((wrap64 (a0 + 730791)) - (wrap64 (146097 * t124)))) 36524)))) - (wrap64 (Int.tdiv (wrap64 ((wrap64 (a0 + 730791)) - (wrap64 (146097 * t124)))) 146096)))) 365)) 4)))) - (wrap64 (Int.tdiv (wrap64 (Int.tdiv (wrap64 ((wrap64 ((wrap64 ((wrap64 ((wrap64 (a0 + 730791)) - (wrap64 (146097 * t124)))) - (wrap64 (Int.tdiv (wrap64 ((wrap64 (a0 + 730791)) - (wrap64 (146097 * t124)))) 1460)))) + (wrap64 (Int.tdiv (wrap64 ((wrap64 (a0 + 730791)) - (wrap64 (146097 * t124)))) 36524)))) - (wrap64 (Int.tdiv (wrap64 ((wrap64 (a0 + 730791)) - (wrap64 (146097 * t124)))) 146096)))) 365)) 100)))))))) + 2)) 153)) + 3), wrap64 ((wrap64 ((wrap64 ((wrap64 ((wrap64 (a0 + 730791)) - (wrap64 (146097 * t124)))) - (wrap64 ((wrap64 ((wrap64 (365 * (wrap64 (Int.tdiv (wrap64 ((wrap64 ((wrap64 ((wrap64 ((wrap64 (a0 + 730791)) - (wrap64 (146097 * t124)))) - (wrap64 (Int.tdiv (wrap64 ((wrap64 (a0 + 730791)) - (wrap64 (146097 * t124)))) 1460)))) + (wrap64 (Int.tdiv (wrap64 ((wrap64 (a0 + 730791)) - (wrap64 (146097 * t124)))) 36524)))) - (wrap64 (Int.tdiv (wrap64 ((wrap64 (a0 + 730791)) - (wrap64 (146097 * t124)))) 146096)))) 365)))) + (wrap64 (Int.tdiv (wrap64 (Int.tdiv (wrap64 ((wrap64 ((wrap64 ((wrap64 ((wrap64 (a0 + 730791)) - (wrap64 (146097 * t124)))) - (wrap64 (Int.tdiv (wrap64 ((wrap64 (a0 + 730791)) - (wrap64 (146097 * t124)))) 1460)))) + (wrap64 (Int.tdiv (wrap64 ((wrap64 (a0 + 730791)) - (wrap64 (146097 * t124)))) 36524)))) - (wrap64 (Int.tdiv (wrap64 ((wrap64 (a0 + 730791)) - (wrap64 (146097 * t124)))) 146096)))) 365)) 4)))) - (wrap64 (Int.tdiv (wrap64 (Int.tdiv (wrap64 ((wrap64 ((wrap64 ((wrap64 ((wrap64 (a0 + 730791)) - (wrap64 (146097 * t124)))) - (wrap64 (Int.tdiv (wrap64 ((wrap64 (a0 + 730791)) - (wrap64 (146097 * t124)))) 1460)))) + (wrap64 (Int.tdiv (wrap64 ((wrap64 (a0 + 730791)) - (wrap64 (146097 * t124)))) 36524)))) - (wrap64 (Int.tdiv (wrap64 ((wrap64 (a0 + 730791)) - (wrap64 (146097 * t124)))) 146096)))) 365)) 100)))))) - (wrap64 (Int.tdiv (wrap64 ((wrap64 (153 * (wrap64 (Int.tdiv (wrap64 ((wrap64 (5 * (wrap64 ((wrap64 ((wrap64 (a0 + 730791)) - (wrap64 (146097 * t124)))) - (wrap64 ((wrap64 ((wrap64 (365 * (wrap64 (Int.tdiv (wrap64 ((wrap64 ((wrap64 ((wrap64 ((wrap64 (a0 + 730791)) - (wrap64 (146097 * t124)))) - (wrap64 (Int.tdiv (wrap64 ((wrap64 (a0 + 730791)) - (wrap64 (146097 * t124)))) 1460)))) + (wrap64 (Int.tdiv (wrap64 ((wrap64 (a0 + 730791)) - (wrap64 (146097 * t124)))) 36524)))) - (wrap64 (Int.tdiv (wrap64 ((wrap64 (a0 + 730791)) - (wrap64 (146097 * t124)))) 146096)))) 365)))) + (wrap64 (Int.tdiv (wrap64 (Int.tdiv (wrap64 ((wrap64 ((wrap64 ((wrap64 ((wrap64 (a0 + 730791)) - (wrap64 (146097 * t124)))) - (wrap64 (Int.tdiv (wrap64 ((wrap64 (a0 + 730791)) - (wrap64 (146097 * t124)))) 1460)))) + (wrap64 (Int.tdiv (wrap64 ((wrap64 (a0 + 730791)) - (wrap64 (146097 * t124)))) 36524)))) - (wrap64 (Int.tdiv (wrap64 ((wrap64 (a0 + 730791)) - (wrap64 (146097 * t124)))) 146096)))) 365)) 4)))) - (wrap64 (Int.tdiv (wrap64 (Int.tdiv (wrap64 ((wrap64 ((wrap64 ((wrap64 ((wrap64 (a0 + 730791)) - (wrap64 (146097 * t124)))) - (wrap64 (Int.tdiv (wrap64 ((wrap64 (a0 + 730791)) - (wrap64 (146097 * t124)))) 1460)))) + (wrap64 (Int.tdiv (wrap64 ((wrap64 (a0 + 730791)) - (wrap64 (146097 * t124)))) 36524)))) - (wrap64 (Int.tdiv (wrap64 ((wrap64 (a0 + 730791)) - (wrap64 (146097 * t124)))) 146096)))) 365)) 100)))))))) + 2)) 153)))) + 2)) 5)))) + 1))))
set_option maxHeartbeats 8000000 in
set_option maxRecDepth 100000 in
theorem mastref2_date_parts.calls (a0 : Int) (r1 : Int) (r2 : Int) (r3 : Int) (w : World) (h : mastref2_date_parts.f a0 = some (r1, r2, r3)) :
    Calls Try.prog 66 #[.int .i64 a0] w fun e w' => e = .returned (.tuple #[.int .i64 r1, .int .i64 r2, .int .i64 r3]) ∧ Drawn0 w w' := by
  have H : ((mastref2_floor.f (wrap64 (a0 + 730791)) 146097).bind fun t124 => (if (wrap64 ((wrap64 (Int.tdiv (wrap64 ((wrap64 (5 * (wrap64 ((wrap64 ((wrap64 (a0 + 730791)) - (wrap64 (146097 * t124)))) - (wrap64 ((wrap64 ((wrap64 (365 * (wrap64 (Int.tdiv (wrap64 ((wrap64 ((wrap64 ((wrap64 ((wrap64 (a0 + 730791)) - (wrap64 (146097 * t124)))) - (wrap64 (Int.tdiv (wrap64 ((wrap64 (a0 + 730791)) - (wrap64 (146097 * t124)))) 1460)))) + (wrap64 (Int.tdiv (wrap64 ((wrap64 (a0 + 730791)) - (wrap64 (146097 * t124)))) 36524)))) - (wrap64 (Int.tdiv (wrap64 ((wrap64 (a0 + 730791)) - (wrap64 (146097 * t124)))) 146096)))) 365)))) + (wrap64 (Int.tdiv (wrap64 (Int.tdiv (wrap64 ((wrap64 ((wrap64 ((wrap64 ((wrap64 (a0 + 730791)) - (wrap64 (146097 * t124)))) - (wrap64 (Int.tdiv (wrap64 ((wrap64 (a0 + 730791)) - (wrap64 (146097 * t124)))) 1460)))) + (wrap64 (Int.tdiv (wrap64 ((wrap64 (a0 + 730791)) - (wrap64 (146097 * t124)))) 36524)))) - (wrap64 (Int.tdiv (wrap64 ((wrap64 (a0 + 730791)) - (wrap64 (146097 * t124)))) 146096)))) 365)) 4)))) - (wrap64 (Int.tdiv (wrap64 (Int.tdiv (wrap64 ((wrap64 ((wrap64 ((wrap64 ((wrap64 (a0 + 730791)) - (wrap64 (146097 * t124)))) - (wrap64 (Int.tdiv (wrap64 ((wrap64 (a0 + 730791)) - (wrap64 (146097 * t124)))) 1460)))) + (wrap64 (Int.tdiv (wrap64 ((wrap64 (a0 + 730791)) - (wrap64 (146097 * t124)))) 36524)))) - (wrap64 (Int.tdiv (wrap64 ((wrap64 (a0 + 730791)) - (wrap64 (146097 * t124)))) 146096)))) 365)) 100)))))))) + 2)) 153)) + 3)) > 12 then (some (wrap64 ((wrap64 ((wrap64 (400 * t124)) + (wrap64 (Int.tdiv (wrap64 ((wrap64 ((wrap64 ((wrap64 ((wrap64 (a0 + 730791)) - (wrap64 (146097 * t124)))) - (wrap64 (Int.tdiv (wrap64 ((wrap64 (a0 + 730791)) - (wrap64 (146097 * t124)))) 1460)))) + (wrap64 (Int.tdiv (wrap64 ((wrap64 (a0 + 730791)) - (wrap64 (146097 * t124)))) 36524)))) - (wrap64 (Int.tdiv (wrap64 ((wrap64 (a0 + 730791)) - (wrap64 (146097 * t124)))) 146096)))) 365)))) + 1), wrap64 ((wrap64 ((wrap64 (Int.tdiv (wrap64 ((wrap64 (5 * (wrap64 ((wrap64 ((wrap64 (a0 + 730791)) - (wrap64 (146097 * t124)))) - (wrap64 ((wrap64 ((wrap64 (365 * (wrap64 (Int.tdiv (wrap64 ((wrap64 ((wrap64 ((wrap64 ((wrap64 (a0 + 730791)) - (wrap64 (146097 * t124)))) - (wrap64 (Int.tdiv (wrap64 ((wrap64 (a0 + 730791)) - (wrap64 (146097 * t124)))) 1460)))) + (wrap64 (Int.tdiv (wrap64 ((wrap64 (a0 + 730791)) - (wrap64 (146097 * t124)))) 36524)))) - (wrap64 (Int.tdiv (wrap64 ((wrap64 (a0 + 730791)) - (wrap64 (146097 * t124)))) 146096)))) 365)))) + (wrap64 (Int.tdiv (wrap64 (Int.tdiv (wrap64 ((wrap64 ((wrap64 ((wrap64 ((wrap64 (a0 + 730791)) - (wrap64 (146097 * t124)))) - (wrap64 (Int.tdiv (wrap64 ((wrap64 (a0 + 730791)) - (wrap64 (146097 * t124)))) 1460)))) + (wrap64 (Int.tdiv (wrap64 ((wrap64 (a0 + 730791)) - (wrap64 (146097 * t124)))) 36524)))) - (wrap64 (Int.tdiv (wrap64 ((wrap64 (a0 + 730791)) - (wrap64 (146097 * t124)))) 146096)))) 365)) 4)))) - (wrap64 (Int.tdiv (wrap64 (Int.tdiv (wrap64 ((wrap64 ((wrap64 ((wrap64 ((wrap64 (a0 + 730791)) - (wrap64 (146097 * t124)))) - (wrap64 (Int.tdiv (wrap64 ((wrap64 (a0 + 730791)) - (wrap64 (146097 * t124)))) 1460)))) + (wrap64 (Int.tdiv (wrap64 ((wrap64 (a0 + 730791)) - (wrap64 (146097 * t124)))) 36524)))) - (wrap64 (Int.tdiv (wrap64 ((wrap64 (a0 + 730791)) - (wrap64 (146097 * t124)))) 146096)))) 365)) 100)))))))) + 2)) 153)) + 3)) - 12), wrap64 ((wrap64 ((wrap64 ((wrap64 ((wrap64 (a0 + 730791)) - (wrap64 (146097 * t124)))) - (wrap64 ((wrap64 ((wrap64 (365 * (wrap64 (Int.tdiv (wrap64 ((wrap64 ((wrap64 ((wrap64 ((wrap64 (a0 + 730791)) - (wrap64 (146097 * t124)))) - (wrap64 (Int.tdiv (wrap64 ((wrap64 (a0 + 730791)) - (wrap64 (146097 * t124)))) 1460)))) + (wrap64 (Int.tdiv (wrap64 ((wrap64 (a0 + 730791)) - (wrap64 (146097 * t124)))) 36524)))) - (wrap64 (Int.tdiv (wrap64 ((wrap64 (a0 + 730791)) - (wrap64 (146097 * t124)))) 146096)))) 365)))) + (wrap64 (Int.tdiv (wrap64 (Int.tdiv (wrap64 ((wrap64 ((wrap64 ((wrap64 ((wrap64 (a0 + 730791)) - (wrap64 (146097 * t124)))) - (wrap64 (Int.tdiv (wrap64 ((wrap64 (a0 + 730791)) - (wrap64 (146097 * t124)))) 1460)))) + (wrap64 (Int.tdiv (wrap64 ((wrap64 (a0 + 730791)) - (wrap64 (146097 * t124)))) 36524)))) - (wrap64 (Int.tdiv (wrap64 ((wrap64 (a0 + 730791)) - (wrap64 (146097 * t124)))) 146096)))) 365)) 4)))) - (wrap64 (Int.tdiv (wrap64 (Int.tdiv (wrap64 ((wrap64 ((wrap64 ((wrap64 ((wrap64 (a0 + 730791)) - (wrap64 (146097 * t124)))) - (wrap64 (Int.tdiv (wrap64 ((wrap64 (a0 + 730791)) - (wrap64 (146097 * t124)))) 1460)))) + (wrap64 (Int.tdiv (wrap64 ((wrap64 (a0 + 730791)) - (wrap64 (146097 * t124)))) 36524)))) - (wrap64 (Int.tdiv (wrap64 ((wrap64 (a0 + 730791)) - (wrap64 (146097 * t124)))) 146096)))) 365)) 100)))))) - (wrap64 (Int.tdiv (wrap64 ((wrap64 (153 * (wrap64 (Int.tdiv (wrap64 ((wrap64 (5 * (wrap64 ((wrap64 ((wrap64 (a0 + 730791)) - (wrap64 (146097 * t124)))) - (wrap64 ((wrap64 ((wrap64 (365 * (wrap64 (Int.tdiv (wrap64 ((wrap64 ((wrap64 ((wrap64 ((wrap64 (a0 + 730791)) - (wrap64 (146097 * t124)))) - (wrap64 (Int.tdiv (wrap64 ((wrap64 (a0 + 730791)) - (wrap64 (146097 * t124)))) 1460)))) + (wrap64 (Int.tdiv (wrap64 ((wrap64 (a0 + 730791)) - (wrap64 (146097 * t124)))) 36524)))) - (wrap64 (Int.tdiv (wrap64 ((wrap64 (a0 + 730791)) - (wrap64 (146097 * t124)))) 146096)))) 365)))) + (wrap64 (Int.tdiv (wrap64 (Int.tdiv (wrap64 ((wrap64 ((wrap64 ((wrap64 ((wrap64 (a0 + 730791)) - (wrap64 (146097 * t124)))) - (wrap64 (Int.tdiv (wrap64 ((wrap64 (a0 + 730791)) - (wrap64 (146097 * t124)))) 1460)))) + (wrap64 (Int.tdiv (wrap64 ((wrap64 (a0 + 730791)) - (wrap64 (146097 * t124)))) 36524)))) - (wrap64 (Int.tdiv (wrap64 ((wrap64 (a0 + 730791)) - (wrap64 (146097 * t124)))) 146096)))) 365)) 4)))) - (wrap64 (Int.tdiv (wrap64 (Int.tdiv (wrap64 ((wrap64 ((wrap64 ((wrap64 ((wrap64 (a0 + 730791)) - (wrap64 (146097 * t124)))) - (wrap64 (Int.tdiv (wrap64 ((wrap64 (a0 + 730791)) - (wrap64 (146097 * t124)))) 1460)))) + (wrap64 (Int.tdiv (wrap64 ((wrap64 (a0 + 730791)) - (wrap64 (146097 * t124)))) 36524)))) - (wrap64 (Int.tdiv (wrap64 ((wrap64 (a0 + 730791)) - (wrap64 (146097 * t124)))) 146096)))) 365)) 100)))))))) + 2)) 153)))) + 2)) 5)))) + 1))) else (some (wrap64 ((wrap64 (400 * t124)) + (wrap64 (Int.tdiv (wrap64 ((wrap64 ((wrap64 ((wrap64 ((wrap64 (a0 + 730791)) - (wrap64 (146097 * t124)))) - (wrap64 (Int.tdiv (wrap64 ((wrap64 (a0 + 730791)) - (wrap64 (146097 * t124)))) 1460)))) + (wrap64 (Int.tdiv (wrap64 ((wrap64 (a0 + 730791)) - (wrap64 (146097 * t124)))) 36524)))) - (wrap64 (Int.tdiv (wrap64 ((wrap64 (a0 + 730791)) - (wrap64 (146097 * t124)))) 146096)))) 365))), wrap64 ((wrap64 (Int.tdiv (wrap64 ((wrap64 (5 * (wrap64 ((wrap64 ((wrap64 (a0 + 730791)) - (wrap64 (146097 * t124)))) - (wrap64 ((wrap64 ((wrap64 (365 * (wrap64 (Int.tdiv (wrap64 ((wrap64 ((wrap64 ((wrap64 ((wrap64 (a0 + 730791)) - (wrap64 (146097 * t124)))) - (wrap64 (Int.tdiv (wrap64 ((wrap64 (a0 + 730791)) - (wrap64 (146097 * t124)))) 1460)))) + (wrap64 (Int.tdiv (wrap64 ((wrap64 (a0 + 730791)) - (wrap64 (146097 * t124)))) 36524)))) - (wrap64 (Int.tdiv (wrap64 ((wrap64 (a0 + 730791)) - (wrap64 (146097 * t124)))) 146096)))) 365)))) + (wrap64 (Int.tdiv (wrap64 (Int.tdiv (wrap64 ((wrap64 ((wrap64 ((wrap64 ((wrap64 (a0 + 730791)) - (wrap64 (146097 * t124)))) - (wrap64 (Int.tdiv (wrap64 ((wrap64 (a0 + 730791)) - (wrap64 (146097 * t124)))) 1460)))) + (wrap64 (Int.tdiv (wrap64 ((wrap64 (a0 + 730791)) - (wrap64 (146097 * t124)))) 36524)))) - (wrap64 (Int.tdiv (wrap64 ((wrap64 (a0 + 730791)) - (wrap64 (146097 * t124)))) 146096)))) 365)) 4)))) - (wrap64 (Int.tdiv (wrap64 (Int.tdiv (wrap64 ((wrap64 ((wrap64 ((wrap64 ((wrap64 (a0 + 730791)) - (wrap64 (146097 * t124)))) - (wrap64 (Int.tdiv (wrap64 ((wrap64 (a0 + 730791)) - (wrap64 (146097 * t124)))) 1460)))) + (wrap64 (Int.tdiv (wrap64 ((wrap64 (a0 + 730791)) - (wrap64 (146097 * t124)))) 36524)))) - (wrap64 (Int.tdiv (wrap64 ((wrap64 (a0 + 730791)) - (wrap64 (146097 * t124)))) 146096)))) 365)) 100)))))))) + 2)) 153)) + 3), wrap64 ((wrap64 ((wrap64 ((wrap64 ((wrap64 (a0 + 730791)) - (wrap64 (146097 * t124)))) - (wrap64 ((wrap64 ((wrap64 (365 * (wrap64 (Int.tdiv (wrap64 ((wrap64 ((wrap64 ((wrap64 ((wrap64 (a0 + 730791)) - (wrap64 (146097 * t124)))) - (wrap64 (Int.tdiv (wrap64 ((wrap64 (a0 + 730791)) - (wrap64 (146097 * t124)))) 1460)))) + (wrap64 (Int.tdiv (wrap64 ((wrap64 (a0 + 730791)) - (wrap64 (146097 * t124)))) 36524)))) - (wrap64 (Int.tdiv (wrap64 ((wrap64 (a0 + 730791)) - (wrap64 (146097 * t124)))) 146096)))) 365)))) + (wrap64 (Int.tdiv (wrap64 (Int.tdiv (wrap64 ((wrap64 ((wrap64 ((wrap64 ((wrap64 (a0 + 730791)) - (wrap64 (146097 * t124)))) - (wrap64 (Int.tdiv (wrap64 ((wrap64 (a0 + 730791)) - (wrap64 (146097 * t124)))) 1460)))) + (wrap64 (Int.tdiv (wrap64 ((wrap64 (a0 + 730791)) - (wrap64 (146097 * t124)))) 36524)))) - (wrap64 (Int.tdiv (wrap64 ((wrap64 (a0 + 730791)) - (wrap64 (146097 * t124)))) 146096)))) 365)) 4)))) - (wrap64 (Int.tdiv (wrap64 (Int.tdiv (wrap64 ((wrap64 ((wrap64 ((wrap64 ((wrap64 (a0 + 730791)) - (wrap64 (146097 * t124)))) - (wrap64 (Int.tdiv (wrap64 ((wrap64 (a0 + 730791)) - (wrap64 (146097 * t124)))) 1460)))) + (wrap64 (Int.tdiv (wrap64 ((wrap64 (a0 + 730791)) - (wrap64 (146097 * t124)))) 36524)))) - (wrap64 (Int.tdiv (wrap64 ((wrap64 (a0 + 730791)) - (wrap64 (146097 * t124)))) 146096)))) 365)) 100)))))) - (wrap64 (Int.tdiv (wrap64 ((wrap64 (153 * (wrap64 (Int.tdiv (wrap64 ((wrap64 (5 * (wrap64 ((wrap64 ((wrap64 (a0 + 730791)) - (wrap64 (146097 * t124)))) - (wrap64 ((wrap64 ((wrap64 (365 * (wrap64 (Int.tdiv (wrap64 ((wrap64 ((wrap64 ((wrap64 ((wrap64 (a0 + 730791)) - (wrap64 (146097 * t124)))) - (wrap64 (Int.tdiv (wrap64 ((wrap64 (a0 + 730791)) - (wrap64 (146097 * t124)))) 1460)))) + (wrap64 (Int.tdiv (wrap64 ((wrap64 (a0 + 730791)) - (wrap64 (146097 * t124)))) 36524)))) - (wrap64 (Int.tdiv (wrap64 ((wrap64 (a0 + 730791)) - (wrap64 (146097 * t124)))) 146096)))) 365)))) + (wrap64 (Int.tdiv (wrap64 (Int.tdiv (wrap64 ((wrap64 ((wrap64 ((wrap64 ((wrap64 (a0 + 730791)) - (wrap64 (146097 * t124)))) - (wrap64 (Int.tdiv (wrap64 ((wrap64 (a0 + 730791)) - (wrap64 (146097 * t124)))) 1460)))) + (wrap64 (Int.tdiv (wrap64 ((wrap64 (a0 + 730791)) - (wrap64 (146097 * t124)))) 36524)))) - (wrap64 (Int.tdiv (wrap64 ((wrap64 (a0 + 730791)) - (wrap64 (146097 * t124)))) 146096)))) 365)) 4)))) - (wrap64 (Int.tdiv (wrap64 (Int.tdiv (wrap64 ((wrap64 ((wrap64 ((wrap64 ((wrap64 (a0 + 730791)) - (wrap64 (146097 * t124)))) - (wrap64 (Int.tdiv (wrap64 ((wrap64 (a0 + 730791)) - (wrap64 (146097 * t124)))) 1460)))) + (wrap64 (Int.tdiv (wrap64 ((wrap64 (a0 + 730791)) - (wrap64 (146097 * t124)))) 36524)))) - (wrap64 (Int.tdiv (wrap64 ((wrap64 (a0 + 730791)) - (wrap64 (146097 * t124)))) 146096)))) 365)) 100)))))))) + 2)) 153)))) + 2)) 5)))) + 1))))) = some (r1, r2, r3) := h
  clear h
  replace H := Option.bind_eq_some_iff.mp H
  obtain ⟨t124, A20, H⟩ := H
  replace H : (if (wrap64 ((wrap64 (Int.tdiv (wrap64 ((wrap64 (5 * (wrap64 ((wrap64 ((wrap64 (a0 + 730791)) - (wrap64 (146097 * t124)))) - (wrap64 ((wrap64 ((wrap64 (365 * (wrap64 (Int.tdiv (wrap64 ((wrap64 ((wrap64 ((wrap64 ((wrap64 (a0 + 730791)) - (wrap64 (146097 * t124)))) - (wrap64 (Int.tdiv (wrap64 ((wrap64 (a0 + 730791)) - (wrap64 (146097 * t124)))) 1460)))) + (wrap64 (Int.tdiv (wrap64 ((wrap64 (a0 + 730791)) - (wrap64 (146097 * t124)))) 36524)))) - (wrap64 (Int.tdiv (wrap64 ((wrap64 (a0 + 730791)) - (wrap64 (146097 * t124)))) 146096)))) 365)))) + (wrap64 (Int.tdiv (wrap64 (Int.tdiv (wrap64 ((wrap64 ((wrap64 ((wrap64 ((wrap64 (a0 + 730791)) - (wrap64 (146097 * t124)))) - (wrap64 (Int.tdiv (wrap64 ((wrap64 (a0 + 730791)) - (wrap64 (146097 * t124)))) 1460)))) + (wrap64 (Int.tdiv (wrap64 ((wrap64 (a0 + 730791)) - (wrap64 (146097 * t124)))) 36524)))) - (wrap64 (Int.tdiv (wrap64 ((wrap64 (a0 + 730791)) - (wrap64 (146097 * t124)))) 146096)))) 365)) 4)))) - (wrap64 (Int.tdiv (wrap64 (Int.tdiv (wrap64 ((wrap64 ((wrap64 ((wrap64 ((wrap64 (a0 + 730791)) - (wrap64 (146097 * t124)))) - (wrap64 (Int.tdiv (wrap64 ((wrap64 (a0 + 730791)) - (wrap64 (146097 * t124)))) 1460)))) + (wrap64 (Int.tdiv (wrap64 ((wrap64 (a0 + 730791)) - (wrap64 (146097 * t124)))) 36524)))) - (wrap64 (Int.tdiv (wrap64 ((wrap64 (a0 + 730791)) - (wrap64 (146097 * t124)))) 146096)))) 365)) 100)))))))) + 2)) 153)) + 3)) > 12 then (some (wrap64 ((wrap64 ((wrap64 (400 * t124)) + (wrap64 (Int.tdiv (wrap64 ((wrap64 ((wrap64 ((wrap64 ((wrap64 (a0 + 730791)) - (wrap64 (146097 * t124)))) - (wrap64 (Int.tdiv (wrap64 ((wrap64 (a0 + 730791)) - (wrap64 (146097 * t124)))) 1460)))) + (wrap64 (Int.tdiv (wrap64 ((wrap64 (a0 + 730791)) - (wrap64 (146097 * t124)))) 36524)))) - (wrap64 (Int.tdiv (wrap64 ((wrap64 (a0 + 730791)) - (wrap64 (146097 * t124)))) 146096)))) 365)))) + 1), wrap64 ((wrap64 ((wrap64 (Int.tdiv (wrap64 ((wrap64 (5 * (wrap64 ((wrap64 ((wrap64 (a0 + 730791)) - (wrap64 (146097 * t124)))) - (wrap64 ((wrap64 ((wrap64 (365 * (wrap64 (Int.tdiv (wrap64 ((wrap64 ((wrap64 ((wrap64 ((wrap64 (a0 + 730791)) - (wrap64 (146097 * t124)))) - (wrap64 (Int.tdiv (wrap64 ((wrap64 (a0 + 730791)) - (wrap64 (146097 * t124)))) 1460)))) + (wrap64 (Int.tdiv (wrap64 ((wrap64 (a0 + 730791)) - (wrap64 (146097 * t124)))) 36524)))) - (wrap64 (Int.tdiv (wrap64 ((wrap64 (a0 + 730791)) - (wrap64 (146097 * t124)))) 146096)))) 365)))) + (wrap64 (Int.tdiv (wrap64 (Int.tdiv (wrap64 ((wrap64 ((wrap64 ((wrap64 ((wrap64 (a0 + 730791)) - (wrap64 (146097 * t124)))) - (wrap64 (Int.tdiv (wrap64 ((wrap64 (a0 + 730791)) - (wrap64 (146097 * t124)))) 1460)))) + (wrap64 (Int.tdiv (wrap64 ((wrap64 (a0 + 730791)) - (wrap64 (146097 * t124)))) 36524)))) - (wrap64 (Int.tdiv (wrap64 ((wrap64 (a0 + 730791)) - (wrap64 (146097 * t124)))) 146096)))) 365)) 4)))) - (wrap64 (Int.tdiv (wrap64 (Int.tdiv (wrap64 ((wrap64 ((wrap64 ((wrap64 ((wrap64 (a0 + 730791)) - (wrap64 (146097 * t124)))) - (wrap64 (Int.tdiv (wrap64 ((wrap64 (a0 + 730791)) - (wrap64 (146097 * t124)))) 1460)))) + (wrap64 (Int.tdiv (wrap64 ((wrap64 (a0 + 730791)) - (wrap64 (146097 * t124)))) 36524)))) - (wrap64 (Int.tdiv (wrap64 ((wrap64 (a0 + 730791)) - (wrap64 (146097 * t124)))) 146096)))) 365)) 100)))))))) + 2)) 153)) + 3)) - 12), wrap64 ((wrap64 ((wrap64 ((wrap64 ((wrap64 (a0 + 730791)) - (wrap64 (146097 * t124)))) - (wrap64 ((wrap64 ((wrap64 (365 * (wrap64 (Int.tdiv (wrap64 ((wrap64 ((wrap64 ((wrap64 ((wrap64 (a0 + 730791)) - (wrap64 (146097 * t124)))) - (wrap64 (Int.tdiv (wrap64 ((wrap64 (a0 + 730791)) - (wrap64 (146097 * t124)))) 1460)))) + (wrap64 (Int.tdiv (wrap64 ((wrap64 (a0 + 730791)) - (wrap64 (146097 * t124)))) 36524)))) - (wrap64 (Int.tdiv (wrap64 ((wrap64 (a0 + 730791)) - (wrap64 (146097 * t124)))) 146096)))) 365)))) + (wrap64 (Int.tdiv (wrap64 (Int.tdiv (wrap64 ((wrap64 ((wrap64 ((wrap64 ((wrap64 (a0 + 730791)) - (wrap64 (146097 * t124)))) - (wrap64 (Int.tdiv (wrap64 ((wrap64 (a0 + 730791)) - (wrap64 (146097 * t124)))) 1460)))) + (wrap64 (Int.tdiv (wrap64 ((wrap64 (a0 + 730791)) - (wrap64 (146097 * t124)))) 36524)))) - (wrap64 (Int.tdiv (wrap64 ((wrap64 (a0 + 730791)) - (wrap64 (146097 * t124)))) 146096)))) 365)) 4)))) - (wrap64 (Int.tdiv (wrap64 (Int.tdiv (wrap64 ((wrap64 ((wrap64 ((wrap64 ((wrap64 (a0 + 730791)) - (wrap64 (146097 * t124)))) - (wrap64 (Int.tdiv (wrap64 ((wrap64 (a0 + 730791)) - (wrap64 (146097 * t124)))) 1460)))) + (wrap64 (Int.tdiv (wrap64 ((wrap64 (a0 + 730791)) - (wrap64 (146097 * t124)))) 36524)))) - (wrap64 (Int.tdiv (wrap64 ((wrap64 (a0 + 730791)) - (wrap64 (146097 * t124)))) 146096)))) 365)) 100)))))) - (wrap64 (Int.tdiv (wrap64 ((wrap64 (153 * (wrap64 (Int.tdiv (wrap64 ((wrap64 (5 * (wrap64 ((wrap64 ((wrap64 (a0 + 730791)) - (wrap64 (146097 * t124)))) - (wrap64 ((wrap64 ((wrap64 (365 * (wrap64 (Int.tdiv (wrap64 ((wrap64 ((wrap64 ((wrap64 ((wrap64 (a0 + 730791)) - (wrap64 (146097 * t124)))) - (wrap64 (Int.tdiv (wrap64 ((wrap64 (a0 + 730791)) - (wrap64 (146097 * t124)))) 1460)))) + (wrap64 (Int.tdiv (wrap64 ((wrap64 (a0 + 730791)) - (wrap64 (146097 * t124)))) 36524)))) - (wrap64 (Int.tdiv (wrap64 ((wrap64 (a0 + 730791)) - (wrap64 (146097 * t124)))) 146096)))) 365)))) + (wrap64 (Int.tdiv (wrap64 (Int.tdiv (wrap64 ((wrap64 ((wrap64 ((wrap64 ((wrap64 (a0 + 730791)) - (wrap64 (146097 * t124)))) - (wrap64 (Int.tdiv (wrap64 ((wrap64 (a0 + 730791)) - (wrap64 (146097 * t124)))) 1460)))) + (wrap64 (Int.tdiv (wrap64 ((wrap64 (a0 + 730791)) - (wrap64 (146097 * t124)))) 36524)))) - (wrap64 (Int.tdiv (wrap64 ((wrap64 (a0 + 730791)) - (wrap64 (146097 * t124)))) 146096)))) 365)) 4)))) - (wrap64 (Int.tdiv (wrap64 (Int.tdiv (wrap64 ((wrap64 ((wrap64 ((wrap64 ((wrap64 (a0 + 730791)) - (wrap64 (146097 * t124)))) - (wrap64 (Int.tdiv (wrap64 ((wrap64 (a0 + 730791)) - (wrap64 (146097 * t124)))) 1460)))) + (wrap64 (Int.tdiv (wrap64 ((wrap64 (a0 + 730791)) - (wrap64 (146097 * t124)))) 36524)))) - (wrap64 (Int.tdiv (wrap64 ((wrap64 (a0 + 730791)) - (wrap64 (146097 * t124)))) 146096)))) 365)) 100)))))))) + 2)) 153)))) + 2)) 5)))) + 1))) else (some (wrap64 ((wrap64 (400 * t124)) + (wrap64 (Int.tdiv (wrap64 ((wrap64 ((wrap64 ((wrap64 ((wrap64 (a0 + 730791)) - (wrap64 (146097 * t124)))) - (wrap64 (Int.tdiv (wrap64 ((wrap64 (a0 + 730791)) - (wrap64 (146097 * t124)))) 1460)))) + (wrap64 (Int.tdiv (wrap64 ((wrap64 (a0 + 730791)) - (wrap64 (146097 * t124)))) 36524)))) - (wrap64 (Int.tdiv (wrap64 ((wrap64 (a0 + 730791)) - (wrap64 (146097 * t124)))) 146096)))) 365))), wrap64 ((wrap64 (Int.tdiv (wrap64 ((wrap64 (5 * (wrap64 ((wrap64 ((wrap64 (a0 + 730791)) - (wrap64 (146097 * t124)))) - (wrap64 ((wrap64 ((wrap64 (365 * (wrap64 (Int.tdiv (wrap64 ((wrap64 ((wrap64 ((wrap64 ((wrap64 (a0 + 730791)) - (wrap64 (146097 * t124)))) - (wrap64 (Int.tdiv (wrap64 ((wrap64 (a0 + 730791)) - (wrap64 (146097 * t124)))) 1460)))) + (wrap64 (Int.tdiv (wrap64 ((wrap64 (a0 + 730791)) - (wrap64 (146097 * t124)))) 36524)))) - (wrap64 (Int.tdiv (wrap64 ((wrap64 (a0 + 730791)) - (wrap64 (146097 * t124)))) 146096)))) 365)))) + (wrap64 (Int.tdiv (wrap64 (Int.tdiv (wrap64 ((wrap64 ((wrap64 ((wrap64 ((wrap64 (a0 + 730791)) - (wrap64 (146097 * t124)))) - (wrap64 (Int.tdiv (wrap64 ((wrap64 (a0 + 730791)) - (wrap64 (146097 * t124)))) 1460)))) + (wrap64 (Int.tdiv (wrap64 ((wrap64 (a0 + 730791)) - (wrap64 (146097 * t124)))) 36524)))) - (wrap64 (Int.tdiv (wrap64 ((wrap64 (a0 + 730791)) - (wrap64 (146097 * t124)))) 146096)))) 365)) 4)))) - (wrap64 (Int.tdiv (wrap64 (Int.tdiv (wrap64 ((wrap64 ((wrap64 ((wrap64 ((wrap64 (a0 + 730791)) - (wrap64 (146097 * t124)))) - (wrap64 (Int.tdiv (wrap64 ((wrap64 (a0 + 730791)) - (wrap64 (146097 * t124)))) 1460)))) + (wrap64 (Int.tdiv (wrap64 ((wrap64 (a0 + 730791)) - (wrap64 (146097 * t124)))) 36524)))) - (wrap64 (Int.tdiv (wrap64 ((wrap64 (a0 + 730791)) - (wrap64 (146097 * t124)))) 146096)))) 365)) 100)))))))) + 2)) 153)) + 3), wrap64 ((wrap64 ((wrap64 ((wrap64 ((wrap64 (a0 + 730791)) - (wrap64 (146097 * t124)))) - (wrap64 ((wrap64 ((wrap64 (365 * (wrap64 (Int.tdiv (wrap64 ((wrap64 ((wrap64 ((wrap64 ((wrap64 (a0 + 730791)) - (wrap64 (146097 * t124)))) - (wrap64 (Int.tdiv (wrap64 ((wrap64 (a0 + 730791)) - (wrap64 (146097 * t124)))) 1460)))) + (wrap64 (Int.tdiv (wrap64 ((wrap64 (a0 + 730791)) - (wrap64 (146097 * t124)))) 36524)))) - (wrap64 (Int.tdiv (wrap64 ((wrap64 (a0 + 730791)) - (wrap64 (146097 * t124)))) 146096)))) 365)))) + (wrap64 (Int.tdiv (wrap64 (Int.tdiv (wrap64 ((wrap64 ((wrap64 ((wrap64 ((wrap64 (a0 + 730791)) - (wrap64 (146097 * t124)))) - (wrap64 (Int.tdiv (wrap64 ((wrap64 (a0 + 730791)) - (wrap64 (146097 * t124)))) 1460)))) + (wrap64 (Int.tdiv (wrap64 ((wrap64 (a0 + 730791)) - (wrap64 (146097 * t124)))) 36524)))) - (wrap64 (Int.tdiv (wrap64 ((wrap64 (a0 + 730791)) - (wrap64 (146097 * t124)))) 146096)))) 365)) 4)))) - (wrap64 (Int.tdiv (wrap64 (Int.tdiv (wrap64 ((wrap64 ((wrap64 ((wrap64 ((wrap64 (a0 + 730791)) - (wrap64 (146097 * t124)))) - (wrap64 (Int.tdiv (wrap64 ((wrap64 (a0 + 730791)) - (wrap64 (146097 * t124)))) 1460)))) + (wrap64 (Int.tdiv (wrap64 ((wrap64 (a0 + 730791)) - (wrap64 (146097 * t124)))) 36524)))) - (wrap64 (Int.tdiv (wrap64 ((wrap64 (a0 + 730791)) - (wrap64 (146097 * t124)))) 146096)))) 365)) 100)))))) - (wrap64 (Int.tdiv (wrap64 ((wrap64 (153 * (wrap64 (Int.tdiv (wrap64 ((wrap64 (5 * (wrap64 ((wrap64 ((wrap64 (a0 + 730791)) - (wrap64 (146097 * t124)))) - (wrap64 ((wrap64 ((wrap64 (365 * (wrap64 (Int.tdiv (wrap64 ((wrap64 ((wrap64 ((wrap64 ((wrap64 (a0 + 730791)) - (wrap64 (146097 * t124)))) - (wrap64 (Int.tdiv (wrap64 ((wrap64 (a0 + 730791)) - (wrap64 (146097 * t124)))) 1460)))) + (wrap64 (Int.tdiv (wrap64 ((wrap64 (a0 + 730791)) - (wrap64 (146097 * t124)))) 36524)))) - (wrap64 (Int.tdiv (wrap64 ((wrap64 (a0 + 730791)) - (wrap64 (146097 * t124)))) 146096)))) 365)))) + (wrap64 (Int.tdiv (wrap64 (Int.tdiv (wrap64 ((wrap64 ((wrap64 ((wrap64 ((wrap64 (a0 + 730791)) - (wrap64 (146097 * t124)))) - (wrap64 (Int.tdiv (wrap64 ((wrap64 (a0 + 730791)) - (wrap64 (146097 * t124)))) 1460)))) + (wrap64 (Int.tdiv (wrap64 ((wrap64 (a0 + 730791)) - (wrap64 (146097 * t124)))) 36524)))) - (wrap64 (Int.tdiv (wrap64 ((wrap64 (a0 + 730791)) - (wrap64 (146097 * t124)))) 146096)))) 365)) 4)))) - (wrap64 (Int.tdiv (wrap64 (Int.tdiv (wrap64 ((wrap64 ((wrap64 ((wrap64 ((wrap64 (a0 + 730791)) - (wrap64 (146097 * t124)))) - (wrap64 (Int.tdiv (wrap64 ((wrap64 (a0 + 730791)) - (wrap64 (146097 * t124)))) 1460)))) + (wrap64 (Int.tdiv (wrap64 ((wrap64 (a0 + 730791)) - (wrap64 (146097 * t124)))) 36524)))) - (wrap64 (Int.tdiv (wrap64 ((wrap64 (a0 + 730791)) - (wrap64 (146097 * t124)))) 146096)))) 365)) 100)))))))) + 2)) 153)))) + 2)) 5)))) + 1)))) = some (r1, r2, r3) := H
  have A2 := Aside0.mk A20
  clear A20
  by_cases c3 : (wrap64 ((wrap64 (Int.tdiv (wrap64 ((wrap64 (5 * (wrap64 ((wrap64 ((wrap64 (a0 + 730791)) - (wrap64 (146097 * t124)))) - (wrap64 ((wrap64 ((wrap64 (365 * (wrap64 (Int.tdiv (wrap64 ((wrap64 ((wrap64 ((wrap64 ((wrap64 (a0 + 730791)) - (wrap64 (146097 * t124)))) - (wrap64 (Int.tdiv (wrap64 ((wrap64 (a0 + 730791)) - (wrap64 (146097 * t124)))) 1460)))) + (wrap64 (Int.tdiv (wrap64 ((wrap64 (a0 + 730791)) - (wrap64 (146097 * t124)))) 36524)))) - (wrap64 (Int.tdiv (wrap64 ((wrap64 (a0 + 730791)) - (wrap64 (146097 * t124)))) 146096)))) 365)))) + (wrap64 (Int.tdiv (wrap64 (Int.tdiv (wrap64 ((wrap64 ((wrap64 ((wrap64 ((wrap64 (a0 + 730791)) - (wrap64 (146097 * t124)))) - (wrap64 (Int.tdiv (wrap64 ((wrap64 (a0 + 730791)) - (wrap64 (146097 * t124)))) 1460)))) + (wrap64 (Int.tdiv (wrap64 ((wrap64 (a0 + 730791)) - (wrap64 (146097 * t124)))) 36524)))) - (wrap64 (Int.tdiv (wrap64 ((wrap64 (a0 + 730791)) - (wrap64 (146097 * t124)))) 146096)))) 365)) 4)))) - (wrap64 (Int.tdiv (wrap64 (Int.tdiv (wrap64 ((wrap64 ((wrap64 ((wrap64 ((wrap64 (a0 + 730791)) - (wrap64 (146097 * t124)))) - (wrap64 (Int.tdiv (wrap64 ((wrap64 (a0 + 730791)) - (wrap64 (146097 * t124)))) 1460)))) + (wrap64 (Int.tdiv (wrap64 ((wrap64 (a0 + 730791)) - (wrap64 (146097 * t124)))) 36524)))) - (wrap64 (Int.tdiv (wrap64 ((wrap64 (a0 + 730791)) - (wrap64 (146097 * t124)))) 146096)))) 365)) 100)))))))) + 2)) 153)) + 3)) > 12
  · rw [if_pos c3] at H
    have c3b0 : decide (12 < (wrap64 ((wrap64 (Int.tdiv (wrap64 ((wrap64 (5 * (wrap64 ((wrap64 ((wrap64 (a0 + 730791)) - (wrap64 (146097 * t124)))) - (wrap64 ((wrap64 ((wrap64 (365 * (wrap64 (Int.tdiv (wrap64 ((wrap64 ((wrap64 ((wrap64 ((wrap64 (a0 + 730791)) - (wrap64 (146097 * t124)))) - (wrap64 (Int.tdiv (wrap64 ((wrap64 (a0 + 730791)) - (wrap64 (146097 * t124)))) 1460)))) + (wrap64 (Int.tdiv (wrap64 ((wrap64 (a0 + 730791)) - (wrap64 (146097 * t124)))) 36524)))) - (wrap64 (Int.tdiv (wrap64 ((wrap64 (a0 + 730791)) - (wrap64 (146097 * t124)))) 146096)))) 365)))) + (wrap64 (Int.tdiv (wrap64 (Int.tdiv (wrap64 ((wrap64 ((wrap64 ((wrap64 ((wrap64 (a0 + 730791)) - (wrap64 (146097 * t124)))) - (wrap64 (Int.tdiv (wrap64 ((wrap64 (a0 + 730791)) - (wrap64 (146097 * t124)))) 1460)))) + (wrap64 (Int.tdiv (wrap64 ((wrap64 (a0 + 730791)) - (wrap64 (146097 * t124)))) 36524)))) - (wrap64 (Int.tdiv (wrap64 ((wrap64 (a0 + 730791)) - (wrap64 (146097 * t124)))) 146096)))) 365)) 4)))) - (wrap64 (Int.tdiv (wrap64 (Int.tdiv (wrap64 ((wrap64 ((wrap64 ((wrap64 ((wrap64 (a0 + 730791)) - (wrap64 (146097 * t124)))) - (wrap64 (Int.tdiv (wrap64 ((wrap64 (a0 + 730791)) - (wrap64 (146097 * t124)))) 1460)))) + (wrap64 (Int.tdiv (wrap64 ((wrap64 (a0 + 730791)) - (wrap64 (146097 * t124)))) 36524)))) - (wrap64 (Int.tdiv (wrap64 ((wrap64 (a0 + 730791)) - (wrap64 (146097 * t124)))) 146096)))) 365)) 100)))))))) + 2)) 153)) + 3))) = true := decide_eq_true c3
    clear c3
    simp only [Option.some.injEq, Prod.mk.injEq] at H
    obtain ⟨rfl, rfl, rfl⟩ := H
    go_enter Try.func66, Try.ntmps66
    go_wp2_with (first | ((with_reducible refine gate_callee (f := 106) rfl ?_); refine goesL_ (some 12) rfl rfl Try.func106 (by kernel_rfl) rfl #[.int .i64 (wrap64 (a0 + 730791)), .int .i64 146097] rfl (by (try simp only [List.map_toArray, List.map_cons, List.map_nil]); first | done | rfl | (simp only [List.length_drop, List.length_take]; rfl)) ?_; (with_reducible refine (mastref2_floor.calls (wrap64 (a0 + 730791)) 146097 t124 _ A2.out).mono ?_); rintro e w' ⟨rfl, ⟨nd, rfl⟩⟩; refine ⟨_, rfl, ?_⟩))
    go_ret3
    exact ⟨by first | rfl | (simp; done) | (simp [*]; done), by repeat (first | exact Drawn0.refl _ | apply Drawn0.step)⟩
  · rw [if_neg c3] at H
    have c3b0 : decide (12 < (wrap64 ((wrap64 (Int.tdiv (wrap64 ((wrap64 (5 * (wrap64 ((wrap64 ((wrap64 (a0 + 730791)) - (wrap64 (146097 * t124)))) - (wrap64 ((wrap64 ((wrap64 (365 * (wrap64 (Int.tdiv (wrap64 ((wrap64 ((wrap64 ((wrap64 ((wrap64 (a0 + 730791)) - (wrap64 (146097 * t124)))) - (wrap64 (Int.tdiv (wrap64 ((wrap64 (a0 + 730791)) - (wrap64 (146097 * t124)))) 1460)))) + (wrap64 (Int.tdiv (wrap64 ((wrap64 (a0 + 730791)) - (wrap64 (146097 * t124)))) 36524)))) - (wrap64 (Int.tdiv (wrap64 ((wrap64 (a0 + 730791)) - (wrap64 (146097 * t124)))) 146096)))) 365)))) + (wrap64 (Int.tdiv (wrap64 (Int.tdiv (wrap64 ((wrap64 ((wrap64 ((wrap64 ((wrap64 (a0 + 730791)) - (wrap64 (146097 * t124)))) - (wrap64 (Int.tdiv (wrap64 ((wrap64 (a0 + 730791)) - (wrap64 (146097 * t124)))) 1460)))) + (wrap64 (Int.tdiv (wrap64 ((wrap64 (a0 + 730791)) - (wrap64 (146097 * t124)))) 36524)))) - (wrap64 (Int.tdiv (wrap64 ((wrap64 (a0 + 730791)) - (wrap64 (146097 * t124)))) 146096)))) 365)) 4)))) - (wrap64 (Int.tdiv (wrap64 (Int.tdiv (wrap64 ((wrap64 ((wrap64 ((wrap64 ((wrap64 (a0 + 730791)) - (wrap64 (146097 * t124)))) - (wrap64 (Int.tdiv (wrap64 ((wrap64 (a0 + 730791)) - (wrap64 (146097 * t124)))) 1460)))) + (wrap64 (Int.tdiv (wrap64 ((wrap64 (a0 + 730791)) - (wrap64 (146097 * t124)))) 36524)))) - (wrap64 (Int.tdiv (wrap64 ((wrap64 (a0 + 730791)) - (wrap64 (146097 * t124)))) 146096)))) 365)) 100)))))))) + 2)) 153)) + 3))) = false := decide_eq_false c3
    clear c3
    simp only [Option.some.injEq, Prod.mk.injEq] at H
    obtain ⟨rfl, rfl, rfl⟩ := H
    go_enter Try.func66, Try.ntmps66
    go_wp2_with (first | ((with_reducible refine gate_callee (f := 106) rfl ?_); refine goesL_ (some 12) rfl rfl Try.func106 (by kernel_rfl) rfl #[.int .i64 (wrap64 (a0 + 730791)), .int .i64 146097] rfl (by (try simp only [List.map_toArray, List.map_cons, List.map_nil]); first | done | rfl | (simp only [List.length_drop, List.length_take]; rfl)) ?_; (with_reducible refine (mastref2_floor.calls (wrap64 (a0 + 730791)) 146097 t124 _ A2.out).mono ?_); rintro e w' ⟨rfl, ⟨nd, rfl⟩⟩; refine ⟨_, rfl, ?_⟩))
    go_ret3
    exact ⟨by first | rfl | (simp; done) | (simp [*]; done), by repeat (first | exact Drawn0.refl _ | apply Drawn0.step)⟩

/-! ### mastref2_date_number: function 53 -/
def mastref2_date_number.f (a0 : Int) : Option (Int) := (mastref2_date_parts.f a0).bind fun bt125 => (some bt125.2.2)
set_option maxHeartbeats 8000000 in
set_option maxRecDepth 100000 in
theorem mastref2_date_number.calls (a0 : Int) (r : Int) (w : World) (h : mastref2_date_number.f a0 = some r) :
    Calls Try.prog 53 #[.int .i64 a0] w fun e w' => e = .returned (.int .i64 r) ∧ Drawn0 w w' := by
  have H : ((mastref2_date_parts.f a0).bind fun bt125 => (some bt125.2.2)) = some r := h
  clear h
  replace H := Option.bind_eq_some_iff.mp H
  obtain ⟨⟨t125, t126, t127⟩, A20, H⟩ := H
  replace H : (some t127) = some r := H
  have A2 := Aside0.mk A20
  clear A20
  obtain rfl := Option.some.inj H
  go_enter Try.func53, Try.ntmps53
  go_wp2_with (first | ((with_reducible refine gate_callee (f := 66) rfl ?_); refine goesL_ (some 8) rfl rfl Try.func66 (by kernel_rfl) rfl #[.int .i64 a0] rfl (by (try simp only [List.map_toArray, List.map_cons, List.map_nil]); first | done | rfl | (simp only [List.length_drop, List.length_take]; rfl)) ?_; (with_reducible refine (mastref2_date_parts.calls a0 t125 t126 t127 _ A2.out).mono ?_); rintro e w' ⟨rfl, ⟨nd, rfl⟩⟩; refine ⟨_, rfl, ?_⟩))
  go_ret
  exact ⟨by first | rfl | (simp; done) | (simp [*]; done), by repeat (first | exact Drawn0.refl _ | apply Drawn0.step)⟩

end Go.Proofs.Ytmjfjjnmdljkeaa.GDayCounts
