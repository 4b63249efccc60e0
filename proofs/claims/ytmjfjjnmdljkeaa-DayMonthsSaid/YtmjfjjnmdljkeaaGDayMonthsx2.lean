/- What the functions that a statement comes to compute, and that the machine's calls come to just that. Conditions: as each theorem states them. -/
import Derived.Test.YtmjfjjnmdljkeaaGDayMonthsx0
import Derived.Test.YtmjfjjnmdljkeaaGDayMonthsx1
namespace Go.Proofs.Ytmjfjjnmdljkeaa.GDayMonths
open Go.RowKit Go.Proofs.YtmjfjjnmdljkeaaW.PrintWords Go.Proofs.YtmjfjjnmdljkeaaW.PrintLast Go.Proofs.YtmjfjjnmdljkeaaW.PrintMore
attribute [local go_sem] max2_int min2_int max_two min_two max_three min_three max_four min_four   -- for this text's walks alone
set_option linter.unusedVariables false
set_option linter.unusedSimpArgs false

/-! ### conf_AddMonths: function 28 -/
mutual
def conf_AddMonths.j0 : Nat → Int → Int → Bool → Option (Int × Int)
  | 0, _, _, _ => none
  | k + 1, x0, x1, x19 => if x19 = true then (some (0, 2)) else ((conf_date.f k x0).bind fun bt114 => (if (wrap64 (Int.tdiv (wrap64 ((wrap64 ((wrap64 ((wrap64 (12 * bt114.1)) + bt114.2.1)) - 1)) + x1)) 12)) < 1970 then (conf_AddMonths.j1 k (wrap64 (Int.tdiv (wrap64 ((wrap64 ((wrap64 ((wrap64 (12 * bt114.1)) + bt114.2.1)) - 1)) + x1)) 12)) (wrap64 ((Int.tmod (wrap64 ((wrap64 ((wrap64 ((wrap64 (12 * bt114.1)) + bt114.2.1)) - 1)) + x1)) 12) + 1)) bt114.2.2 true) else (conf_AddMonths.j1 k (wrap64 (Int.tdiv (wrap64 ((wrap64 ((wrap64 ((wrap64 (12 * bt114.1)) + bt114.2.1)) - 1)) + x1)) 12)) (wrap64 ((Int.tmod (wrap64 ((wrap64 ((wrap64 ((wrap64 (12 * bt114.1)) + bt114.2.1)) - 1)) + x1)) 12) + 1)) bt114.2.2 (decide ((wrap64 (Int.tdiv (wrap64 ((wrap64 ((wrap64 ((wrap64 (12 * bt114.1)) + bt114.2.1)) - 1)) + x1)) 12)) > 2199)))))
def conf_AddMonths.j1 : Nat → Int → Int → Int → Bool → Option (Int × Int)
  | 0, _, _, _, _ => none
  | k + 1, x6, x7, x8, x43 => if x43 = true then (some (0, 2)) else ((conf_monthDays.f x6 x7).bind fun t117 => ((conf_DayOf.f k x6 x7 (mn x8 t117)).bind fun bt118 => (some (bt118.1, bt118.2))))
end
def conf_AddMonths.f (k : Nat) (a0 : Int) (a1 : Int) : Option (Int × Int) := (conf_badDay.f a0).bind fun t113 => (if t113 = true then (conf_AddMonths.j0 k a0 a1 true) else (if a1 < (-3000) then (conf_AddMonths.j0 k a0 a1 true) else (conf_AddMonths.j0 k a0 a1 (decide (a1 > 3000)))))
theorem conf_AddMonths.mono_l : ∀ k, (∀ y0 y1 y2, LeO (conf_AddMonths.j0 k y0 y1 y2) (conf_AddMonths.j0 (k + 1) y0 y1 y2)) ∧ (∀ y0 y1 y2 y3, LeO (conf_AddMonths.j1 k y0 y1 y2 y3) (conf_AddMonths.j1 (k + 1) y0 y1 y2 y3))
  | 0 => ⟨fun _ _ _ r h => by simp [conf_AddMonths.j0] at h, fun _ _ _ _ r h => by simp [conf_AddMonths.j1] at h⟩
  | k + 1 => by
    obtain ⟨ih0, ih1⟩ := conf_AddMonths.mono_l k
    refine ⟨?_, ?_⟩
    · intro y0 y1 y2
      unfold conf_AddMonths.j0
      repeat' first
      | (with_reducible exact ih0 _ _ _)
      | (with_reducible exact ih1 _ _ _ _)
      | (with_reducible exact conf_DayOf.mono _ _ _ _)
      | (with_reducible exact conf_date.mono _ _)
      | (with_reducible exact LeO.refl _)
      | (with_reducible exact LeO.none _)
      | (with_reducible refine LeO.ite ?_ ?_)
      | (with_reducible refine LeO.bind ?_ (fun _ => ?_))
      | exact ih0 _ _ _
      | exact ih1 _ _ _ _
      | exact conf_DayOf.mono _ _ _ _
      | exact conf_date.mono _ _
      | exact LeO.none _
      | refine LeO.ite ?_ ?_
      | refine LeO.bind ?_ (fun _ => ?_)
    · intro y0 y1 y2 y3
      unfold conf_AddMonths.j1
      repeat' first
      | (with_reducible exact ih0 _ _ _)
      | (with_reducible exact ih1 _ _ _ _)
      | (with_reducible exact conf_DayOf.mono _ _ _ _)
      | (with_reducible exact conf_date.mono _ _)
      | (with_reducible exact LeO.refl _)
      | (with_reducible exact LeO.none _)
      | (with_reducible refine LeO.ite ?_ ?_)
      | (with_reducible refine LeO.bind ?_ (fun _ => ?_))
      | exact ih0 _ _ _
      | exact ih1 _ _ _ _
      | exact conf_DayOf.mono _ _ _ _
      | exact conf_date.mono _ _
      | exact LeO.none _
      | refine LeO.ite ?_ ?_
      | refine LeO.bind ?_ (fun _ => ?_)
theorem conf_AddMonths.mono : ∀ a0 a1 k, LeO (conf_AddMonths.f k a0 a1) (conf_AddMonths.f (k + 1) a0 a1) := by
  intro a0 a1 k
  obtain ⟨ih0, ih1⟩ := conf_AddMonths.mono_l k
  unfold conf_AddMonths.f
  repeat' first
      | (with_reducible exact ih0 _ _ _)
      | (with_reducible exact ih1 _ _ _ _)
      | (with_reducible exact conf_DayOf.mono _ _ _ _)
      | (with_reducible exact conf_date.mono _ _)
      | (with_reducible exact LeO.refl _)
      | (with_reducible exact LeO.none _)
      | (with_reducible refine LeO.ite ?_ ?_)
      | (with_reducible refine LeO.bind ?_ (fun _ => ?_))
      | exact ih0 _ _ _
      | exact ih1 _ _ _ _
      | exact conf_DayOf.mono _ _ _ _
      | exact conf_date.mono _ _
      | exact LeO.none _
      | refine LeO.ite ?_ ?_
      | refine LeO.bind ?_ (fun _ => ?_)
set_option maxHeartbeats 8000000 in
set_option maxRecDepth 100000 in
theorem conf_AddMonths.calls (k : Nat) (a0 : Int) (a1 : Int) (r1 : Int) (r2 : Int) (w : World) (h : conf_AddMonths.f k a0 a1 = some (r1, r2)) :
    Calls Try.prog 28 #[.int .i64 a0, .int .i64 a1] w fun e w' => e = .returned (.tuple #[.int .i64 r1, .int .i64 r2]) ∧ Below w.heap.size w w' := by
  have HB := Aside0.mk (Below.refl w.heap.size w)
  have H : ((conf_badDay.f a0).bind fun t113 => (if t113 = true then (conf_AddMonths.j0 k a0 a1 true) else (if a1 < (-3000) then (conf_AddMonths.j0 k a0 a1 true) else (conf_AddMonths.j0 k a0 a1 (decide (a1 > 3000)))))) = some (r1, r2) := h
  clear h
  have HC3 := Aside0.mk H
  clear H
  go_enter Try.func28, Try.ntmps28
  go_upto_region 1 with (fail)
  go_cut [19] (fun v19 wc => ∃ (kq : Nat) (x19_2 : Bool), v19 = .bool x19_2 ∧ Aside0 (conf_AddMonths.j0 kq a0 a1 x19_2 = some (r1, r2)) ∧ Aside0 (kq ≤ k) ∧ Aside0 (Below w.heap.size w wc))
  case first =>
    have H := HC3.out
    clear HC3
    replace H := Option.bind_eq_some_iff.mp H
    obtain ⟨t113, A40, H⟩ := H
    replace H : (if t113 = true then (conf_AddMonths.j0 k a0 a1 true) else (if a1 < (-3000) then (conf_AddMonths.j0 k a0 a1 true) else (conf_AddMonths.j0 k a0 a1 (decide (a1 > 3000))))) = some (r1, r2) := H
    have A4 := Aside0.mk A40
    clear A40
    by_cases c5 : t113 = true
    · subst c5
      have H1 : (conf_AddMonths.j0 k a0 a1 true) = some (r1, r2) := by rw [if_pos rfl] at H; exact H
      clear H
      have H := H1
      clear H1
      have H' := Aside0.mk H
      clear H
      go_wp2_with (first | ((with_reducible refine gate_callee (f := 63) rfl ?_); refine goesL_ (some 11) rfl rfl Try.func63 (by kernel_rfl) rfl #[.int .i64 a0] rfl (by (try simp only [List.map_toArray, List.map_cons, List.map_nil]); first | done | rfl | (simp only [List.length_drop, List.length_take]; rfl)) ?_; (with_reducible refine (conf_badDay.calls a0 true _ A4.out).mono ?_); rintro e w' ⟨rfl, ⟨nd, rfl⟩⟩; refine ⟨_, rfl, ?_⟩))
      go_meet
      case rel => exact ⟨_, (true), (by first | rfl | (simp; done) | (simp [*]; done)), H', ⟨by first | omega | exact Nat.le_refl _⟩, ⟨by repeat (first | (with_reducible first | exact HB.out | apply below_alloc | apply pw_below_drewN | apply below_drew1) | exact HB.out)⟩⟩
    · replace c5 := Bool.eq_false_iff.mpr c5
      subst c5
      have H1 : (if a1 < (-3000) then (conf_AddMonths.j0 k a0 a1 true) else (conf_AddMonths.j0 k a0 a1 (decide (a1 > 3000)))) = some (r1, r2) := by rw [if_neg (show ¬ (false = true) by decide)] at H; exact H
      clear H
      have H := H1
      clear H1
      by_cases c6 : a1 < (-3000)
      · rw [if_pos c6] at H
        have c6b0 : decide (a1 < (-3000)) = true := decide_eq_true c6
        clear c6
        (first | rw [c6b0] | (simp only [i64_w, i32_w]; rw [c6b0]) | skip)
        have H' := Aside0.mk H
        clear H
        go_wp2_with (first | ((with_reducible refine gate_callee (f := 63) rfl ?_); refine goesL_ (some 11) rfl rfl Try.func63 (by kernel_rfl) rfl #[.int .i64 a0] rfl (by (try simp only [List.map_toArray, List.map_cons, List.map_nil]); first | done | rfl | (simp only [List.length_drop, List.length_take]; rfl)) ?_; (with_reducible refine (conf_badDay.calls a0 false _ A4.out).mono ?_); rintro e w' ⟨rfl, ⟨nd, rfl⟩⟩; refine ⟨_, rfl, ?_⟩))
        go_meet
        case rel => exact ⟨_, (true), (by first | rfl | (simp; done) | (simp [*]; done)), H', ⟨by first | omega | exact Nat.le_refl _⟩, ⟨by repeat (first | (with_reducible first | exact HB.out | apply below_alloc | apply pw_below_drewN | apply below_drew1) | exact HB.out)⟩⟩
      · rw [if_neg c6] at H
        have c6b0 : decide (a1 < (-3000)) = false := decide_eq_false c6
        clear c6
        (first | rw [c6b0] | (simp only [i64_w, i32_w]; rw [c6b0]) | skip)
        have H' := Aside0.mk H
        clear H
        go_wp2_with (first | ((with_reducible refine gate_callee (f := 63) rfl ?_); refine goesL_ (some 11) rfl rfl Try.func63 (by kernel_rfl) rfl #[.int .i64 a0] rfl (by (try simp only [List.map_toArray, List.map_cons, List.map_nil]); first | done | rfl | (simp only [List.length_drop, List.length_take]; rfl)) ?_; (with_reducible refine (conf_badDay.calls a0 false _ A4.out).mono ?_); rintro e w' ⟨rfl, ⟨nd, rfl⟩⟩; refine ⟨_, rfl, ?_⟩))
        go_meet
        case rel => exact ⟨_, (decide (a1 > 3000)), (by first | rfl | (simp; done) | (simp [*]; done)), H', ⟨by first | omega | exact Nat.le_refl _⟩, ⟨by repeat (first | (with_reducible first | exact HB.out | apply below_alloc | apply pw_below_drewN | apply below_drew1) | exact HB.out)⟩⟩
  case rest =>
    clear HC3
    try clear c2
    try clear p2
    try clear c5
    try clear c6
    try clear c6b0
    obtain ⟨kq, x19_2, rfl, HA, HJ2, HB⟩ := hcut
    cases kq with
    | zero => exact absurd HA.out (by simp [conf_AddMonths.j0])
    | succ kj2 =>
      have H := HA.out
      clear HA
      simp only [conf_AddMonths.j0] at H
      by_cases c7 : x19_2 = true
      · subst c7
        have H1 : (some (0, 2)) = some (r1, r2) := by rw [if_pos rfl] at H; exact H
        clear H
        have H := H1
        clear H1
        simp only [Option.some.injEq, Prod.mk.injEq] at H
        obtain ⟨rfl, rfl⟩ := H
        go_wp2
        go_ret2
        exact ⟨by first | rfl | (simp [errW_none, errW_some] <;> rfl) | (simp [*, errW_none, errW_some] <;> rfl), by repeat (first | (with_reducible first | exact HB.out | apply below_alloc | apply pw_below_drewN | apply below_drew1) | exact HB.out)⟩
      · replace c7 := Bool.eq_false_iff.mpr c7
        subst c7
        have H1 : ((conf_date.f kj2 a0).bind fun bt114 => (if (wrap64 (Int.tdiv (wrap64 ((wrap64 ((wrap64 ((wrap64 (12 * bt114.1)) + bt114.2.1)) - 1)) + a1)) 12)) < 1970 then (conf_AddMonths.j1 kj2 (wrap64 (Int.tdiv (wrap64 ((wrap64 ((wrap64 ((wrap64 (12 * bt114.1)) + bt114.2.1)) - 1)) + a1)) 12)) (wrap64 ((Int.tmod (wrap64 ((wrap64 ((wrap64 ((wrap64 (12 * bt114.1)) + bt114.2.1)) - 1)) + a1)) 12) + 1)) bt114.2.2 true) else (conf_AddMonths.j1 kj2 (wrap64 (Int.tdiv (wrap64 ((wrap64 ((wrap64 ((wrap64 (12 * bt114.1)) + bt114.2.1)) - 1)) + a1)) 12)) (wrap64 ((Int.tmod (wrap64 ((wrap64 ((wrap64 ((wrap64 (12 * bt114.1)) + bt114.2.1)) - 1)) + a1)) 12) + 1)) bt114.2.2 (decide ((wrap64 (Int.tdiv (wrap64 ((wrap64 ((wrap64 ((wrap64 (12 * bt114.1)) + bt114.2.1)) - 1)) + a1)) 12)) > 2199))))) = some (r1, r2) := by rw [if_neg (show ¬ (false = true) by decide)] at H; exact H
        clear H
        have H := H1
        clear H1
        replace H := Option.bind_eq_some_iff.mp H
        obtain ⟨⟨t114, t115, t116⟩, A80, H⟩ := H
        replace H : (if (wrap64 (Int.tdiv (wrap64 ((wrap64 ((wrap64 ((wrap64 (12 * t114)) + t115)) - 1)) + a1)) 12)) < 1970 then (conf_AddMonths.j1 kj2 (wrap64 (Int.tdiv (wrap64 ((wrap64 ((wrap64 ((wrap64 (12 * t114)) + t115)) - 1)) + a1)) 12)) (wrap64 ((Int.tmod (wrap64 ((wrap64 ((wrap64 ((wrap64 (12 * t114)) + t115)) - 1)) + a1)) 12) + 1)) t116 true) else (conf_AddMonths.j1 kj2 (wrap64 (Int.tdiv (wrap64 ((wrap64 ((wrap64 ((wrap64 (12 * t114)) + t115)) - 1)) + a1)) 12)) (wrap64 ((Int.tmod (wrap64 ((wrap64 ((wrap64 ((wrap64 (12 * t114)) + t115)) - 1)) + a1)) 12) + 1)) t116 (decide ((wrap64 (Int.tdiv (wrap64 ((wrap64 ((wrap64 ((wrap64 (12 * t114)) + t115)) - 1)) + a1)) 12)) > 2199)))) = some (r1, r2) := H
        have A8 := Aside0.mk A80
        clear A80
        have HC9 := Aside0.mk H
        clear H
        go_upto_region 6 with (first | ((with_reducible refine gate_callee (f := 64) rfl ?_); refine goesL_ (some 22) rfl rfl Try.func64 (by kernel_rfl) rfl #[.int .i64 a0] rfl (by (try simp only [List.map_toArray, List.map_cons, List.map_nil]); first | done | rfl | (simp only [List.length_drop, List.length_take]; rfl)) ?_; (with_reducible refine (conf_date.calls kj2 a0 t114 t115 t116 _ A8.out).mono ?_); rintro e w' ⟨rfl, ⟨nd, rfl⟩⟩; refine ⟨_, rfl, ?_⟩))
        (try simp only [Act.put, List.setIfInBounds_toArray, List.set_cons_zero, List.set_cons_succ])
        go_cut [43] (fun v43 wc => ∃ (kq : Nat) (x43_8 : Bool), v43 = .bool x43_8 ∧ Aside0 (conf_AddMonths.j1 kq (wrap64 (Int.tdiv (wrap64 ((wrap64 ((wrap64 ((wrap64 (12 * t114)) + t115)) - 1)) + a1)) 12)) (wrap64 ((Int.tmod (wrap64 ((wrap64 ((wrap64 ((wrap64 (12 * t114)) + t115)) - 1)) + a1)) 12) + 1)) t116 x43_8 = some (r1, r2)) ∧ Aside0 (kq ≤ kj2) ∧ Aside0 (Below w.heap.size w wc))
        case first =>
          have H := HC9.out
          clear HC9
          by_cases c10 : (wrap64 (Int.tdiv (wrap64 ((wrap64 ((wrap64 ((wrap64 (12 * t114)) + t115)) - 1)) + a1)) 12)) < 1970
          · rw [if_pos c10] at H
            have c10b0 : decide ((wrap64 (Int.tdiv (wrap64 ((wrap64 ((wrap64 ((wrap64 (12 * t114)) + t115)) - 1)) + a1)) 12)) < 1970) = true := decide_eq_true c10
            clear c10
            (first | rw [c10b0] | (simp only [i64_w, i32_w]; rw [c10b0]) | skip)
            have H' := Aside0.mk H
            clear H
            go_wp2
            go_meet
            case rel => exact ⟨_, (true), (by first | rfl | (simp; done) | (simp [*]; done)), H', ⟨by have := HJ2.out; first | omega | exact Nat.le_refl _⟩, ⟨by repeat (first | (with_reducible first | exact HB.out | apply below_alloc | apply pw_below_drewN | apply below_drew1) | exact HB.out)⟩⟩
          · rw [if_neg c10] at H
            have c10b0 : decide ((wrap64 (Int.tdiv (wrap64 ((wrap64 ((wrap64 ((wrap64 (12 * t114)) + t115)) - 1)) + a1)) 12)) < 1970) = false := decide_eq_false c10
            clear c10
            (first | rw [c10b0] | (simp only [i64_w, i32_w]; rw [c10b0]) | skip)
            have H' := Aside0.mk H
            clear H
            go_wp2
            go_meet
            case rel => exact ⟨_, (decide ((wrap64 (Int.tdiv (wrap64 ((wrap64 ((wrap64 ((wrap64 (12 * t114)) + t115)) - 1)) + a1)) 12)) > 2199)), (by first | rfl | (simp; done) | (simp [*]; done)), H', ⟨by have := HJ2.out; first | omega | exact Nat.le_refl _⟩, ⟨by repeat (first | (with_reducible first | exact HB.out | apply below_alloc | apply pw_below_drewN | apply below_drew1) | exact HB.out)⟩⟩
        case rest =>
          clear HC9
          try clear c1
          try clear c2
          try clear p2
          try clear c5
          try clear c6
          try clear c6b0
          try clear p6
          try clear c7
          try clear c10
          try clear c10b0
          try clear p2
          obtain ⟨kq, x43_8, rfl, HA, HJ8, HB⟩ := hcut
          cases kq with
          | zero => exact absurd HA.out (by simp [conf_AddMonths.j1])
          | succ kj8 =>
            have H := HA.out
            clear HA
            simp only [conf_AddMonths.j1] at H
            by_cases c11 : x43_8 = true
            · subst c11
              have H1 : (some (0, 2)) = some (r1, r2) := by rw [if_pos rfl] at H; exact H
              clear H
              have H := H1
              clear H1
              simp only [Option.some.injEq, Prod.mk.injEq] at H
              obtain ⟨rfl, rfl⟩ := H
              go_wp2
              go_ret2
              exact ⟨by first | rfl | (simp [errW_none, errW_some] <;> rfl) | (simp [*, errW_none, errW_some] <;> rfl), by repeat (first | (with_reducible first | exact HB.out | apply below_alloc | apply pw_below_drewN | apply below_drew1) | exact HB.out)⟩
            · replace c11 := Bool.eq_false_iff.mpr c11
              subst c11
              have H1 : ((conf_monthDays.f (wrap64 (Int.tdiv (wrap64 ((wrap64 ((wrap64 ((wrap64 (12 * t114)) + t115)) - 1)) + a1)) 12)) (wrap64 ((Int.tmod (wrap64 ((wrap64 ((wrap64 ((wrap64 (12 * t114)) + t115)) - 1)) + a1)) 12) + 1))).bind fun t117 => ((conf_DayOf.f kj8 (wrap64 (Int.tdiv (wrap64 ((wrap64 ((wrap64 ((wrap64 (12 * t114)) + t115)) - 1)) + a1)) 12)) (wrap64 ((Int.tmod (wrap64 ((wrap64 ((wrap64 ((wrap64 (12 * t114)) + t115)) - 1)) + a1)) 12) + 1)) (mn t116 t117)).bind fun bt118 => (some (bt118.1, bt118.2)))) = some (r1, r2) := by rw [if_neg (show ¬ (false = true) by decide)] at H; exact H
              clear H
              have H := H1
              clear H1
              replace H := Option.bind_eq_some_iff.mp H
              obtain ⟨t117, A120, H⟩ := H
              replace H : ((conf_DayOf.f kj8 (wrap64 (Int.tdiv (wrap64 ((wrap64 ((wrap64 ((wrap64 (12 * t114)) + t115)) - 1)) + a1)) 12)) (wrap64 ((Int.tmod (wrap64 ((wrap64 ((wrap64 ((wrap64 (12 * t114)) + t115)) - 1)) + a1)) 12) + 1)) (mn t116 t117)).bind fun bt118 => (some (bt118.1, bt118.2))) = some (r1, r2) := H
              have A12 := Aside0.mk A120
              clear A120
              obtain ⟨ji13, hji13⟩ : ∃ j_ : Int, (mn t116 t117) = j_ := ⟨_, rfl⟩
              replace H : ((conf_DayOf.f kj8 (wrap64 (Int.tdiv (wrap64 ((wrap64 ((wrap64 ((wrap64 (12 * t114)) + t115)) - 1)) + a1)) 12)) (wrap64 ((Int.tmod (wrap64 ((wrap64 ((wrap64 ((wrap64 (12 * t114)) + t115)) - 1)) + a1)) 12) + 1)) (ji13)).bind fun bt118 => (some (bt118.1, bt118.2))) = some (r1, r2) := by first | (rw [hji13] at H; exact H) | (simp only [hji13] at H ⊢; exact H)
              (try rw [hji13] at A12)
              have hji13_ : (if t117 < t116 then t117 else t116) = ji13 := hji13
              replace H := Option.bind_eq_some_iff.mp H
              obtain ⟨⟨t118, t119⟩, A140, H⟩ := H
              replace H : (some (t118, t119)) = some (r1, r2) := H
              have A14 := Aside0.mk A140
              clear A140
              simp only [Option.some.injEq, Prod.mk.injEq] at H
              obtain ⟨rfl, rfl⟩ := H
              go_wp2_with (first | ((with_reducible refine gate_callee (f := 65) rfl ?_); refine goesL_ (some 49) rfl rfl Try.func65 (by kernel_rfl) rfl #[.int .i64 (wrap64 (Int.tdiv (wrap64 ((wrap64 ((wrap64 ((wrap64 (12 * t114)) + t115)) - 1)) + a1)) 12)), .int .i64 (wrap64 ((Int.tmod (wrap64 ((wrap64 ((wrap64 ((wrap64 (12 * t114)) + t115)) - 1)) + a1)) 12) + 1))] rfl (by (try simp only [List.map_toArray, List.map_cons, List.map_nil]); first | done | rfl | (simp only [List.length_drop, List.length_take]; rfl)) ?_; (with_reducible refine (conf_monthDays.calls (wrap64 (Int.tdiv (wrap64 ((wrap64 ((wrap64 ((wrap64 (12 * t114)) + t115)) - 1)) + a1)) 12)) (wrap64 ((Int.tmod (wrap64 ((wrap64 ((wrap64 ((wrap64 (12 * t114)) + t115)) - 1)) + a1)) 12) + 1)) t117 _ A12.out).mono ?_); rintro e w' ⟨rfl, ⟨nd, rfl⟩⟩; refine ⟨_, rfl, ?_⟩) | ((with_reducible refine gate_callee (f := 22) rfl ?_); refine goesL_ (some 51) rfl rfl Try.func22 (by kernel_rfl) rfl #[.int .i64 (wrap64 (Int.tdiv (wrap64 ((wrap64 ((wrap64 ((wrap64 (12 * t114)) + t115)) - 1)) + a1)) 12)), .int .i64 (wrap64 ((Int.tmod (wrap64 ((wrap64 ((wrap64 ((wrap64 (12 * t114)) + t115)) - 1)) + a1)) 12) + 1)), .int .i64 ji13] rfl (by (try simp only [List.map_toArray, List.map_cons, List.map_nil]); first | done | (simp only [hji13]; rfl) | rfl | (simp only [List.length_drop, List.length_take]; rfl)) ?_; (with_reducible refine (conf_DayOf.calls kj8 (wrap64 (Int.tdiv (wrap64 ((wrap64 ((wrap64 ((wrap64 (12 * t114)) + t115)) - 1)) + a1)) 12)) (wrap64 ((Int.tmod (wrap64 ((wrap64 ((wrap64 ((wrap64 (12 * t114)) + t115)) - 1)) + a1)) 12) + 1)) ji13 t118 t119 _ A14.out).mono ?_); rintro e w' ⟨rfl, ⟨nd, rfl⟩⟩; refine ⟨_, rfl, ?_⟩))
              go_ret2
              exact ⟨by first | rfl | (simp [errW_none, errW_some] <;> rfl) | (simp only [← hji13]; first | rfl | (simp [errW_none, errW_some] <;> rfl)) | (simp [*, errW_none, errW_some] <;> rfl), by repeat (first | (with_reducible first | exact HB.out | apply below_alloc | apply pw_below_drewN | apply below_drew1) | exact HB.out)⟩

/-! ### mastref2_IsDay: function 33 -/
def mastref2_IsDay.f (a0 : Int) : Option (Bool) := if a0 ≥ 0 then (some (decide (a0 ≤ 84005))) else (some false)
set_option maxHeartbeats 8000000 in
set_option maxRecDepth 100000 in
theorem mastref2_IsDay.calls (a0 : Int) (r : Bool) (w : World) (h : mastref2_IsDay.f a0 = some r) :
    Calls Try.prog 33 #[.int .i64 a0] w fun e w' => e = .returned (.bool r) ∧ Drawn0 w w' := by
  have H : (if a0 ≥ 0 then (some (decide (a0 ≤ 84005))) else (some false)) = some r := h
  clear h
  by_cases c2 : a0 ≥ 0
  · rw [if_pos c2] at H
    have c2b0 : decide (0 ≤ a0) = true := decide_eq_true c2
    clear c2
    obtain rfl := Option.some.inj H
    go_enter Try.func33, Try.ntmps33
    go_wp2
    go_ret
    exact ⟨by first | rfl | (simp; done) | (simp [*]; done), by repeat (first | exact Drawn0.refl _ | apply Drawn0.step)⟩
  · rw [if_neg c2] at H
    have c2b0 : decide (0 ≤ a0) = false := decide_eq_false c2
    clear c2
    obtain rfl := Option.some.inj H
    go_enter Try.func33, Try.ntmps33
    go_wp2
    go_ret
    exact ⟨by first | rfl | (simp; done) | (simp [*]; done), by repeat (first | exact Drawn0.refl _ | apply Drawn0.step)⟩

/-! ### mastref2_floor: function 106 -/
def mastref2_floor.f (a0 : Int) (a1 : Int) : Option (Int) := if a1 = 0 then (none) else (if (Int.tmod a0 a1) < 0 then (some (wrap64 ((wrap64 (Int.tdiv a0 a1)) - 1))) else (some (wrap64 (Int.tdiv a0 a1))))
set_option maxHeartbeats 8000000 in
set_option maxRecDepth 100000 in
theorem mastref2_floor.calls (a0 : Int) (a1 : Int) (r : Int) (w : World) (h : mastref2_floor.f a0 a1 = some r) :
    Calls Try.prog 106 #[.int .i64 a0, .int .i64 a1] w fun e w' => e = .returned (.int .i64 r) ∧ Drawn0 w w' := by
  have H : (if a1 = 0 then (none) else (if (Int.tmod a0 a1) < 0 then (some (wrap64 ((wrap64 (Int.tdiv a0 a1)) - 1))) else (some (wrap64 (Int.tdiv a0 a1))))) = some r := h
  clear h
  by_cases c3 : a1 = 0
  · rw [if_pos c3] at H
    exact absurd H (by simp)
  · rw [if_neg c3] at H
    have c3b0 : (a1 == 0) = false := beq_eq_false_iff_ne.mpr c3
    have c3b1 : (a1 != 0) = true := bne_iff_ne.mpr c3
    by_cases c4 : (Int.tmod a0 a1) < 0
    · rw [if_pos c4] at H
      have c4b0 : decide ((Int.tmod a0 a1) < 0) = true := decide_eq_true c4
      clear c4
      obtain rfl := Option.some.inj H
      go_enter Try.func106, Try.ntmps106
      go_wp2
      go_ret
      exact ⟨by first | rfl | (simp; done) | (simp [*]; done), by repeat (first | exact Drawn0.refl _ | apply Drawn0.step)⟩
    · rw [if_neg c4] at H
      have c4b0 : decide ((Int.tmod a0 a1) < 0) = false := decide_eq_false c4
      clear c4
      obtain rfl := Option.some.inj H
      go_enter Try.func106, Try.ntmps106
      go_wp2
      go_ret
      exact ⟨by first | rfl | (simp; done) | (simp [*]; done), by repeat (first | exact Drawn0.refl _ | apply Drawn0.step)⟩

/-! ### mastref2_date_parts: function 66 -/
def mastref2_date_parts.f (a0 : Int) : Option (Int × Int × Int) := (mastref2_floor.f (wrap64 (a0 + 730791)) 146097).bind fun t120 => (if (wrap64 ((wrap64 (Int.tdiv (wrap64 ((wrap64 (5 * (wrap64 ((wrap64 ((wrap64 (a0 + 730791)) - (wrap64 (146097 * t120)))) - (wrap64 ((wrap64 ((wrap64 (365 * (wrap64 (Int.tdiv (wrap64 ((wrap64 ((wrap64 ((wrap64 ((wrap64 (a0 + 730791)) - (wrap64 (146097 * t120)))) - (wrap64 (Int.tdiv (wrap64 ((wrap64 (a0 + 730791)) - (wrap64 (146097 * t120)))) 1460)))) + (wrap64 (Int.tdiv (wrap64 ((wrap64 (a0 + 730791)) - (wrap64 (146097 * t120)))) 36524)))) - (wrap64 (Int.tdiv (wrap64 ((wrap64 (a0 + 730791)) - (wrap64 (146097 * t120)))) 146096)))) 365)))) + (wrap64 (Int.tdiv (wrap64 (Int.tdiv (wrap64 ((wrap64 ((wrap64 ((wrap64 ((wrap64 (a0 + 730791)) - (wrap64 (146097 * t120)))) - (wrap64 (Int.tdiv (wrap64 ((wrap64 (a0 + 730791)) - (wrap64 (146097 * t120)))) 1460)))) + (wrap64 (Int.tdiv (wrap64 ((wrap64 (a0 + 730791)) - (wrap64 (146097 * t120)))) 36524)))) - (wrap64 (Int.tdiv (wrap64 ((wrap64 (a0 + 730791)) - (wrap64 (146097 * t120)))) 146096)))) 365)) 4)))) - (wrap64 (Int.tdiv (wrap64 (Int.tdiv (wrap64 ((wrap64 ((wrap64 ((wrap64 ((wrap64 (a0 + 730791)) - (wrap64 (146097 * t120)))) - (wrap64 (Int.tdiv (wrap64 ((wrap64 (a0 + 730791)) - (wrap64 (146097 * t120)))) 1460)))) + (wrap64 (Int.tdiv (wrap64 ((wrap64 (a0 + 730791)) - (wrap64 (146097 * t120)))) 36524)))) - (wrap64 (Int.tdiv (wrap64 ((wrap64 (a0 + 730791)) - (wrap64 (146097 * t120)))) 146096)))) 365)) 100)))))))) + 2)) 153)) + 3)) > 12 then (some (wrap64 ((wrap64 ((wrap64 (400 * t120)) + (wrap64 (Int.tdiv (wrap64 ((wrap64 ((wrap64 ((wrap64 ((wrap64 (a0 + 730791)) - (wrap64 (146097 * t120)))) - (wrap64 (Int.tdiv (wrap64 ((wrap64 (a0 + 730791)) - (wrap64 (146097 * t120)))) 1460)))) + (wrap64 (Int.tdiv (wrap64 ((wrap64 (a0 + 730791)) - (wrap64 (146097 * t120)))) 36524)))) - (wrap64 (Int.tdiv (wrap64 ((wrap64 (a0 + 730791)) - (wrap64 (146097 * t120)))) 146096)))) 365)))) + 1), wrap64 ((wrap64 ((wrap64 (Int.tdiv (wrap64 ((wrap64 (5 * (wrap64 ((wrap64 ((wrap64 (a0 + 730791)) - (wrap64 (146097 * t120)))) - (wrap64 ((wrap64 ((wrap64 (365 * (wrap64 (Int.tdiv (wrap64 ((wrap64 ((wrap64 ((wrap64 ((wrap64 (a0 + 730791)) - (wrap64 (146097 * t120)))) - (wrap64 (Int.tdiv (wrap64 ((wrap64 (a0 + 730791)) - (wrap64 (146097 * t120)))) 1460)))) + (wrap64 (Int.tdiv (wrap64 ((wrap64 (a0 + 730791)) - (wrap64 (146097 * t120)))) 36524)))) - (wrap64 (Int.tdiv (wrap64 ((wrap64 (a0 + 730791)) - (wrap64 (146097 * t120)))) 146096)))) 365)))) + (wrap64 (Int.tdiv (wrap64 (Int.tdiv (wrap64 ((wrap64 ((wrap64 ((wrap64 ((wrap64 (a0 + 730791)) - (wrap64 (146097 * t120)))) - (wrap64 (Int.tdiv (wrap64 ((wrap64 (a0 + 730791)) - (wrap64 (146097 * t120)))) 1460)))) + (wrap64 (Int.tdiv (wrap64 ((wrap64 (a0 + 730791)) - (wrap64 (146097 * t120)))) 36524)))) - (wrap64 (Int.tdiv (wrap64 ((wrap64 (a0 + 730791)) - (wrap64 (146097 * t120)))) 146096)))) 365)) 4)))) - (wrap64 (Int.tdiv (wrap64 (Int.tdiv (wrap64 ((wrap64 ((wrap64 ((wrap64 ((wrap64 (a0 + 730791)) - (wrap64 (146097 * t120)))) - (wrap64 (Int.tdiv (wrap64 ((wrap64 (a0 + 730791)) - (wrap64 (146097 * t120)))) 1460)))) + (wrap64 (Int.tdiv (wrap64 ((wrap64 (a0 + 730791)) - (wrap64 (146097 * t120)))) 36524)))) - (wrap64 (Int.tdiv (wrap64 ((wrap64 (a0 + 730791)) - (wrap64 (146097 * t120)))) 146096)))) 365)) 100)))))))) + 2)) 153)) + 3)) - 12), wrap64 ((wrap64 ((wrap64 ((wrap64 ((wrap64 (a0 + 730791)) - (wrap64 (146097 * t120)))) - (wrap64 ((wrap64 ((wrap64 (365 * (wrap64 (Int.tdiv (wrap64 ((wrap64 ((wrap64 ((wrap64 ((wrap64 (a0 + 730791)) - (wrap64 (146097 * t120)))) - (wrap64 (Int.tdiv (wrap64 ((wrap64 (a0 + 730791)) - (wrap64 (146097 * t120)))) 1460)))) + (wrap64 (Int.tdiv (wrap64 ((wrap64 (a0 + 730791)) - (wrap64 (146097 * t120)))) 36524)))) - (wrap64 (Int.tdiv (wrap64 ((wrap64 (a0 + 730791)) - (wrap64 (146097 * t120)))) 146096)))) 365)))) + (wrap64 (Int.tdiv (wrap64 (Int.tdiv (wrap64 ((wrap64 ((wrap64 ((wrap64 ((wrap64 (a0 + 730791)) - (wrap64 (146097 * t120)))) - (wrap64 (Int.tdiv (wrap64 ((wrap64 (a0 + 730791)) - (wrap64 (146097 * t120)))) 1460)))) + (wrap64 (Int.tdiv (wrap64 ((wrap64 (a0 + 730791)) - (wrap64 (146097 * t120)))) 36524)))) - (wrap64 (Int.tdiv (wrap64 ((wrap64 (a0 + 730791)) - (wrap64 (146097 * t120)))) 146096)))) 365)) 4)))) - (wrap64 (Int.tdiv (wrap64 (Int.tdiv (wrap64 ((wrap64 ((wrap64 ((wrap64 ((wrap64 (a0 + 730791)) - (wrap64 (146097 * t120)))) - (wrap64 (Int.tdiv (wrap64 ((wrap64 (a0 + 730791)) - (wrap64 (146097 * t120)))) 1460)))) + (wrap64 (Int.tdiv (wrap64 ((wrap64 (a0 + 730791)) - (wrap64 (146097 * t120)))) 36524)))) - (wrap64 (Int.tdiv (wrap64 ((wrap64 (a0 + 730791)) - (wrap64 (146097 * t120)))) 146096)))) 365)) 100)))))) - (wrap64 (Int.tdiv (wrap64 ((wrap64 (153 * (wrap64 (Int.tdiv (wrap64 ((wrap64 (5 * (wrap64 ((wrap64 ((wrap64 (a0 + 730791)) - (wrap64 (146097 * t120)))) - (wrap64 ((wrap64 ((wrap64 (365 * (wrap64 (Int.tdiv (wrap64 ((wrap64 ((wrap64 ((wrap64 ((wrap64 (a0 + 730791)) - (wrap64 (146097 * t120)))) - (wrap64 (Int.tdiv (wrap64 ((wrap64 (a0 + 730791)) - (wrap64 (146097 * t120)))) 1460)))) + (wrap64 (Int.tdiv (wrap64 ((wrap64 (a0 + 730791)) - (wrap64 (146097 * t120)))) 36524)))) - (wrap64 (Int.tdiv (wrap64 ((wrap64 (a0 + 730791)) - (wrap64 (146097 * t120)))) 146096)))) 365)))) + (wrap64 (Int.tdiv (wrap64 (Int.tdiv (wrap64 ((wrap64 ((wrap64 ((wrap64 ((wrap64 (a0 + 730791)) - (wrap64 (146097 * t120)))) - (wrap64 (Int.tdiv (wrap64 ((wrap64 (a0 + 730791)) - (wrap64 (146097 * t120)))) 1460)))) + (wrap64 (Int.tdiv (wrap64 ((wrap64 (a0 + 730791)) - (wrap64 (146097 * t120)))) 36524)))) - (wrap64 (Int.tdiv (wrap64 ((wrap64 (a0 + 730791)) - (wrap64 (146097 * t120)))) 146096)))) 365)) 4)))) - (wrap64 (Int.tdiv (wrap64 (Int.tdiv (wrap64 ((wrap64 ((wrap64 ((wrap64 ((wrap64 (a0 + 730791)) - (wrap64 (146097 * t120)))) - (wrap64 (Int.tdiv (wrap64 ((wrap64 (a0 + 730791)) - (wrap64 (146097 * t120)))) 1460)))) + (wrap64 (Int.tdiv (wrap64 ((wrap64 (a0 + 730791)) - (wrap64 (146097 * t120)))) 36524)))) - (wrap64 (Int.tdiv (wrap64 ((wrap64 (a0 + 730791)) - (wrap64 (146097 * t120)))) 146096)))) 365)) 100)))))))) + 2)) 153)))) + 2)) 5)))) + 1))) else (some (wrap64 ((wrap64 (400 * t120)) + (wrap64 (Int.tdiv (wrap64 ((wrap64 ((wrap64 ((wrap64 ((wrap64 (a0 + 730791)) - (wrap64 (146097 * t120)))) - (wrap64 (Int.tdiv (wrap64 ((wrap64 (a0 + 730791)) - (wrap64 (146097 * t120)))) 1460)))) + (wrap64 (Int.tdiv (wrap64 ((wrap64 (a0 + 730791)) - (wrap64 (146097 * t120)))) 36524)))) - (wrap64 (Int.tdiv (wrap64 ((wrap64 (a0 + 730791)) - (wrap64 (146097 * t120)))) 146096)))) 365))), wrap64 ((wrap64 (Int.tdiv (wrap64 ((wrap64 (5 * (wrap64 ((wrap64 ((wrap64 (a0 + 730791)) - (wrap64 (146097 * t120)))) - (wrap64 ((wrap64 ((wrap64 (365 * (wrap64 (Int.tdiv (wrap64 ((wrap64 ((wrap64 ((wrap64 ((wrap64 (a0 + 730791)) - (wrap64 (146097 * t120)))) - (wrap64 (Int.tdiv (wrap64 ((wrap64 (a0 + 730791)) - (wrap64 (146097 * t120)))) 1460)))) + (wrap64 (Int.tdiv (wrap64 ((wrap64 (a0 + 730791)) - (wrap64 (146097 * t120)))) 36524)))) - (wrap64 (Int.tdiv (wrap64 ((wrap64 (a0 + 730791)) - (wrap64 (146097 * t120)))) 146096)))) 365)))) + (wrap64 (Int.tdiv (wrap64 (Int.tdiv (wrap64 ((wrap64 ((wrap64 ((wrap64 ((wrap64 (a0 + 730791)) - (wrap64 (146097 * t120)))) - (wrap64 (Int.tdiv (wrap64 ((wrap64 (a0 + 730791)) - (wrap64 (146097 * t120)))) 1460)))) + (wrap64 (Int.tdiv (wrap64 ((wrap64 (a0 + 730791)) - (wrap64 (146097 * t120)))) 36524)))) - (wrap64 (Int.tdiv (wrap64 ((wrap64 (a0 + 730791)) - (wrap64 (146097 * t120)))) 146096)))) 365)) 4)))) - (wrap64 (Int.tdiv (wrap64 (Int.tdiv (wrap64 ((wrap64 ((wrap64 ((wrap64 ((wrap64 (a0 + 730791)) - (wrap64 (146097 * t120)))) - (wrap64 (Int.tdiv (wrap64 ((wrap64 (a0 + 730791)) - (wrap64 (146097 * t120)))) 1460)))) + (wrap64 (Int.tdiv (wrap64 ((wrap64 (a0 + 730791)) - (wrap64 (146097 * t120)))) 36524)))) - (wrap64 (Int.tdiv (wrap64 ((wrap64 (a0 + 730791)) - (wrap64 (146097 * t120)))) 146096)))) 365)) 100)))))))) + 2)) 153)) + 3), wrap64 ((wrap64 ((wrap64 ((wrap64 ((wrap64 (a0 + 730791)) - (wrap64 (146097 * t120)))) - (wrap64 ((wrap64 ((wrap64 (365 * (wrap64 (Int.tdiv (wrap64 ((wrap64 ((wrap64 ((wrap64 ((wrap64 (a0 + 730791)) - (wrap64 (146097 * t120)))) - (wrap64 (Int.tdiv (wrap64 ((wrap64 (a0 + 730791)) - (wrap64 (146097 * t120)))) 1460)))) + (wrap64 (Int.tdiv (wrap64 ((wrap64 (a0 + 730791)) - (wrap64 (146097 * t120)))) 36524)))) - (wrap64 (Int.tdiv (wrap64 ((wrap64 (a0 + 730791)) - (wrap64 (146097 * t120)))) 146096)))) 365)))) + (wrap64 (Int.tdiv (wrap64 (Int.tdiv (wrap64 ((wrap64 ((wrap64 ((wrap64 ((wrap64 (a0 + 730791)) - (wrap64 (146097 * t120)))) - (wrap64 (Int.tdiv (wrap64 ((wrap64 (a0 + 730791)) - (wrap64 (146097 * t120)))) 1460)))) + (wrap64 (Int.tdiv (wrap64 ((wrap64 (a0 + 730791)) - (wrap64 (146097 * t120)))) 36524)))) - (wrap64 (Int.tdiv (wrap64 ((wrap64 (a0 + 730791)) - (wrap64 (146097 * t120)))) 146096)))) 365)) 4)))) - (wrap64 (Int.tdiv (wrap64 (Int.tdiv (wrap64 ((wrap64 ((wrap64 ((wrap64 ((wrap64 (a0 + 730791)) - (wrap64 (146097 * t120)))) - (wrap64 (Int.tdiv (wrap64 ((wrap64 (a0 + 730791)) - (wrap64 (146097 * t120)))) 1460)))) + (wrap64 (Int.tdiv (wrap64 ((wrap64 (a0 + 730791)) - (wrap64 (146097 * t120)))) 36524)))) - (wrap64 (Int.tdiv (wrap64 ((wrap64 (a0 + 730791)) - (wrap64 (146097 * t120)))) 146096)))) 365)) 100)))))) - (wrap64 (Int.tdiv (wrap64 ((wrap64 (153 * (wrap64 (Int.tdiv (wrap64 ((wrap64 (5 * (wrap64 ((wrap64 ((wrap64 (a0 + 730791)) - (wrap64 (146097 * t120)))) - (wrap64 ((wrap64 ((wrap64 (365 * (wrap64 (Int.tdiv (wrap64 ((wrap64 ((wrap64 ((wrap64 ((wrap64 (a0 + 730791)) - (wrap64 (146097 * t120)))) - (wrap64 (Int.tdiv (wrap64 ((wrap64 (a0 + 730791)) - (wrap64 (146097 * t120)))) 1460)))) + (wrap64 (Int.tdiv (wrap64 ((wrap64 (a0 + 730791)) - (wrap64 (146097 * t120)))) 36524)))) - (wrap64 (Int.tdiv (wrap64 ((wrap64 (a0 + 730791)) - (wrap64 (146097 * t120)))) 146096)))) 365)))) + (wrap64 (Int.tdiv (wrap64 (Int.tdiv (wrap64 ((wrap64 ((wrap64 ((wrap64 ((wrap64 (a0 + 730791)) - (wrap64 (146097 * t120)))) - (wrap64 (Int.tdiv (wrap64 ((wrap64 (a0 + 730791)) - (wrap64 (146097 * t120)))) 1460)))) + (wrap64 (Int.tdiv (wrap64 ((wrap64 (a0 + 730791)) - (wrap64 (146097 * t120)))) 36524)))) - (wrap64 (Int.tdiv (wrap64 ((wrap64 (a0 + 730791)) - (wrap64 (146097 * t120)))) 146096)))) 365)) 4)))) - (wrap64 (Int.tdiv (wrap64 (Int.tdiv (wrap64 ((wrap64 ((wrap64 ((wrap64 ((wrap64 (a0 + 730791)) - (wrap64 (146097 * t120)))) - (wrap64 (Int.tdiv (wrap64 ((wrap64 (a0 + 730791)) - (wrap64 (146097 * t120)))) 1460)))) + (wrap64 (Int.tdiv (wrap64 ((wrap64 (a0 + 730791)) - (wrap64 (146097 * t120)))) 36524)))) - (wrap64 (Int.tdiv (wrap64 ((wrap64 (a0 + 730791)) - (wrap64 (146097 * t120)))) 146096)))) 365)) 100)))))))) + 2)) 153)))) + 2)) 5)))) + 1))))
set_option maxHeartbeats 8000000 in
set_option maxRecDepth 100000 in
theorem mastref2_date_parts.calls (a0 : Int) (r1 : Int) (r2 : Int) (r3 : Int) (w : World) (h : mastref2_date_parts.f a0 = some (r1, r2, r3)) :
    Calls Try.prog 66 #[.int .i64 a0] w fun e w' => e = .returned (.tuple #[.int .i64 r1, .int .i64 r2, .int .i64 r3]) ∧ Drawn0 w w' := by
  have H : ((mastref2_floor.f (wrap64 (a0 + 730791)) 146097).bind fun t120 => (if (wrap64 ((wrap64 (Int.tdiv (wrap64 ((wrap64 (5 * (wrap64 ((wrap64 ((wrap64 (a0 + 730791)) - (wrap64 (146097 * t120)))) - (wrap64 ((wrap64 ((wrap64 (365 * (wrap64 (Int.tdiv (wrap64 ((wrap64 ((wrap64 ((wrap64 ((wrap64 (a0 + 730791)) - (wrap64 (146097 * t120)))) - (wrap64 (Int.tdiv (wrap64 ((wrap64 (a0 + 730791)) - (wrap64 (146097 * t120)))) 1460)))) + (wrap64 (Int.tdiv (wrap64 ((wrap64 (a0 + 730791)) - (wrap64 (146097 * t120)))) 36524)))) - (wrap64 (Int.tdiv (wrap64 ((wrap64 (a0 + 730791)) - (wrap64 (146097 * t120)))) 146096)))) 365)))) + (wrap64 (Int.tdiv (wrap64 (Int.tdiv (wrap64 ((wrap64 ((wrap64 ((wrap64 ((wrap64 (a0 + 730791)) - (wrap64 (146097 * t120)))) - (wrap64 (Int.tdiv (wrap64 ((wrap64 (a0 + 730791)) - (wrap64 (146097 * t120)))) 1460)))) + (wrap64 (Int.tdiv (wrap64 ((wrap64 (a0 + 730791)) - (wrap64 (146097 * t120)))) 36524)))) - (wrap64 (Int.tdiv (wrap64 ((wrap64 (a0 + 730791)) - (wrap64 (146097 * t120)))) 146096)))) 365)) 4)))) - (wrap64 (Int.tdiv (wrap64 (Int.tdiv (wrap64 ((wrap64 ((wrap64 ((wrap64 ((wrap64 (a0 + 730791)) - (wrap64 (146097 * t120)))) - (wrap64 (Int.tdiv (wrap64 ((wrap64 (a0 + 730791)) - (wrap64 (146097 * t120)))) 1460)))) + (wrap64 (Int.tdiv (wrap64 ((wrap64 (a0 + 730791)) - (wrap64 (146097 * t120)))) 36524)))) - (wrap64 (Int.tdiv (wrap64 ((wrap64 (a0 + 730791)) - (wrap64 (146097 * t120)))) 146096)))) 365)) 100)))))))) + 2)) 153)) + 3)) > 12 then (some (wrap64 ((wrap64 ((wrap64 (400 * t120)) + (wrap64 (Int.tdiv (wrap64 ((wrap64 ((wrap64 ((wrap64 ((wrap64 (a0 + 730791)) - (wrap64 (146097 * t120)))) - (wrap64 (Int.tdiv (wrap64 ((wrap64 (a0 + 730791)) - (wrap64 (146097 * t120)))) 1460)))) + (wrap64 (Int.tdiv (wrap64 ((wrap64 (a0 + 730791)) - (wrap64 (146097 * t120)))) 36524)))) - (wrap64 (Int.tdiv (wrap64 ((wrap64 (a0 + 730791)) - (wrap64 (146097 * t120)))) 146096)))) 365)))) + 1), wrap64 ((wrap64 ((wrap64 (Int.tdiv (wrap64 ((wrap64 (5 * (wrap64 ((wrap64 ((wrap64 (a0 + 730791)) - (wrap64 (146097 * t120)))) - (wrap64 ((wrap64 ((wrap64 (365 * (wrap64 (Int.tdiv (wrap64 ((wrap64 ((wrap64 ((wrap64 ((wrap64 (a0 + 730791)) - (wrap64 (146097 * t120)))) - (wrap64 (Int.tdiv (wrap64 ((wrap64 (a0 + 730791)) - (wrap64 (146097 * t120)))) 1460)))) + (wrap64 (Int.tdiv (wrap64 ((wrap64 (a0 + 730791)) - (wrap64 (146097 * t120)))) 36524)))) - (wrap64 (Int.tdiv (wrap64 ((wrap64 (a0 + 730791)) - (wrap64 (146097 * t120)))) 146096)))) 365)))) + (wrap64 (Int.tdiv (wrap64 (Int.tdiv (wrap64 ((wrap64 ((wrap64 ((wrap64 ((wrap64 (a0 + 730791)) - (wrap64 (146097 * t120)))) - (wrap64 (Int.tdiv (wrap64 ((wrap64 (a0 + 730791)) - (wrap64 (146097 * t120)))) 1460)))) + (wrap64 (Int.tdiv (wrap64 ((wrap64 (a0 + 730791)) - (wrap64 (146097 * t120)))) 36524)))) - (wrap64 (Int.tdiv (wrap64 ((wrap64 (a0 + 730791)) - (wrap64 (146097 * t120)))) 146096)))) 365)) 4)))) - (wrap64 (Int.tdiv (wrap64 (Int.tdiv (wrap64 ((wrap64 ((wrap64 ((wrap64 ((wrap64 (a0 + 730791)) - (wrap64 (146097 * t120)))) - (wrap64 (Int.tdiv (wrap64 ((wrap64 (a0 + 730791)) - (wrap64 (146097 * t120)))) 1460)))) + (wrap64 (Int.tdiv (wrap64 ((wrap64 (a0 + 730791)) - (wrap64 (146097 * t120)))) 36524)))) - (wrap64 (Int.tdiv (wrap64 ((wrap64 (a0 + 730791)) - (wrap64 (146097 * t120)))) 146096)))) 365)) 100)))))))) + 2)) 153)) + 3)) - 12), wrap64 ((wrap64 ((wrap64 ((wrap64 ((wrap64 (a0 + 730791)) - (wrap64 (146097 * t120)))) - (wrap64 ((wrap64 ((wrap64 (365 * (wrap64 (Int.tdiv (wrap64 ((wrap64 ((wrap64 ((wrap64 ((wrap64 (a0 + 730791)) - (wrap64 (146097 * t120)))) - (wrap64 (Int.tdiv (wrap64 ((wrap64 (a0 + 730791)) - (wrap64 (146097 * t120)))) 1460)))) + (wrap64 (Int.tdiv (wrap64 ((wrap64 (a0 + 730791)) - (wrap64 (146097 * t120)))) 36524)))) - (wrap64 (Int.tdiv (wrap64 ((wrap64 (a0 + 730791)) - (wrap64 (146097 * t120)))) 146096)))) 365)))) + (wrap64 (Int.tdiv (wrap64 (Int.tdiv (wrap64 ((wrap64 ((wrap64 ((wrap64 ((wrap64 (a0 + 730791)) - (wrap64 (146097 * t120)))) - (wrap64 (Int.tdiv (wrap64 ((wrap64 (a0 + 730791)) - (wrap64 (146097 * t120)))) 1460)))) + (wrap64 (Int.tdiv (wrap64 ((wrap64 (a0 + 730791)) - (wrap64 (146097 * t120)))) 36524)))) - (wrap64 (Int.tdiv (wrap64 ((wrap64 (a0 + 730791)) - (wrap64 (146097 * t120)))) 146096)))) 365)) 4)))) - (wrap64 (Int.tdiv (wrap64 (Int.tdiv (wrap64 ((wrap64 ((wrap64 ((wrap64 ((wrap64 (a0 + 730791)) - (wrap64 (146097 * t120)))) - (wrap64 (Int.tdiv (wrap64 ((wrap64 (a0 + 730791)) - (wrap64 (146097 * t120)))) 1460)))) + (wrap64 (Int.tdiv (wrap64 ((wrap64 (a0 + 730791)) - (wrap64 (146097 * t120)))) 36524)))) - (wrap64 (Int.tdiv (wrap64 ((wrap64 (a0 + 730791)) - (wrap64 (146097 * t120)))) 146096)))) 365)) 100)))))) - (wrap64 (Int.tdiv (wrap64 ((wrap64 (153 * (wrap64 (Int.tdiv (wrap64 ((wrap64 (5 * (wrap64 ((wrap64 ((wrap64 (a0 + 730791)) - (wrap64 (146097 * t120)))) - (wrap64 ((wrap64 ((wrap64 (365 * (wrap64 (Int.tdiv (wrap64 ((wrap64 ((wrap64 ((wrap64 ((wrap64 (a0 + 730791)) - (wrap64 (146097 * t120)))) - (wrap64 (Int.tdiv (wrap64 ((wrap64 (a0 + 730791)) - (wrap64 (146097 * t120)))) 1460)))) + (wrap64 (Int.tdiv (wrap64 ((wrap64 (a0 + 730791)) - (wrap64 (146097 * t120)))) 36524)))) - (wrap64 (Int.tdiv (wrap64 ((wrap64 (a0 + 730791)) - (wrap64 (146097 * t120)))) 146096)))) 365)))) + (wrap64 (Int.tdiv (wrap64 (Int.tdiv (wrap64 ((wrap64 ((wrap64 ((wrap64 ((wrap64 (a0 + 730791)) - (wrap64 (146097 * t120)))) - (wrap64 (Int.tdiv (wrap64 ((wrap64 (a0 + 730791)) - (wrap64 (146097 * t120)))) 1460)))) + (wrap64 (Int.tdiv (wrap64 ((wrap64 (a0 + 730791)) - (wrap64 (146097 * t120)))) 36524)))) - (wrap64 (Int.tdiv (wrap64 ((wrap64 (a0 + 730791)) - (wrap64 (146097 * t120)))) 146096)))) 365)) 4)))) - (wrap64 (Int.tdiv (wrap64 (Int.tdiv (wrap64 ((wrap64 ((wrap64 ((wrap64 ((wrap64 (a0 + 730791)) - (wrap64 (146097 * t120)))) - (wrap64 (Int.tdiv (wrap64 ((wrap64 (a0 + 730791)) - (wrap64 (146097 * t120)))) 1460)))) + (wrap64 (Int.tdiv (wrap64 ((wrap64 (a0 + 730791)) - (wrap64 (146097 * t120)))) 36524)))) - (wrap64 (Int.tdiv (wrap64 ((wrap64 (a0 + 730791)) - (wrap64 (146097 * t120)))) 146096)))) 365)) 100)))))))) + 2)) 153)))) + 2)) 5)))) + 1))) else (some (wrap64 ((wrap64 (400 * t120)) + (wrap64 (Int.tdiv (wrap64 ((wrap64 ((wrap64 ((wrap64 ((wrap64 (a0 + 730791)) - (wrap64 (146097 * t120)))) - (wrap64 (Int.tdiv (wrap64 ((wrap64 (a0 + 730791)) - (wrap64 (146097 * t120)))) 1460)))) + (wrap64 (Int.tdiv (wrap64 ((wrap64 (a0 + 730791)) - (wrap64 (146097 * t120)))) 36524)))) - (wrap64 (Int.tdiv (wrap64 ((wrap64 (a0 + 730791)) - (wrap64 (146097 * t120)))) 146096)))) 365))), wrap64 ((wrap64 (Int.tdiv (wrap64 ((wrap64 (5 * (wrap64 ((wrap64 ((wrap64 (a0 + 730791)) - (wrap64 (146097 * t120)))) - (wrap64 ((wrap64 ((wrap64 (365 * (wrap64 (Int.tdiv (wrap64 ((wrap64 ((wrap64 ((wrap64 ((wrap64 (a0 + 730791)) - (wrap64 (146097 * t120)))) - (wrap64 (Int.tdiv (wrap64 ((wrap64 (a0 + 730791)) - (wrap64 (146097 * t120)))) 1460)))) + (wrap64 (Int.tdiv (wrap64 ((wrap64 (a0 + 730791)) - (wrap64 (146097 * t120)))) 36524)))) - (wrap64 (Int.tdiv (wrap64 ((wrap64 (a0 + 730791)) - (wrap64 (146097 * t120)))) 146096)))) 365)))) + (wrap64 (Int.tdiv (wrap64 (Int.tdiv (wrap64 ((wrap64 ((wrap64 ((wrap64 ((wrap64 (a0 + 730791)) - (wrap64 (146097 * t120)))) - (wrap64 (Int.tdiv (wrap64 ((wrap64 (a0 + 730791)) - (wrap64 (146097 * t120)))) 1460)))) + (wrap64 (Int.tdiv (wrap64 ((wrap64 (a0 + 730791)) - (wrap64 (146097 * t120)))) 36524)))) - (wrap64 (Int.tdiv (wrap64 ((wrap64 (a0 + 730791)) - (wrap64 (146097 * t120)))) 146096)))) 365)) 4)))) - (wrap64 (Int.tdiv (wrap64 (Int.tdiv (wrap64 ((wrap64 ((wrap64 ((wrap64 ((wrap64 (a0 + 730791)) - (wrap64 (146097 * t120)))) - (wrap64 (Int.tdiv (wrap64 ((wrap64 (a0 + 730791)) - (wrap64 (146097 * t120)))) 1460)))) + (wrap64 (Int.tdiv (wrap64 ((wrap64 (a0 + 730791)) - (wrap64 (146097 * t120)))) 36524)))) - (wrap64 (Int.tdiv (wrap64 ((wrap64 (a0 + 730791)) - (wrap64 (146097 * t120)))) 146096)))) 365)) 100)))))))) + 2)) 153)) + 3), wrap64 ((wrap64 ((wrap64 ((wrap64 ((wrap64 (a0 + 730791)) - (wrap64 (146097 * t120)))) - (wrap64 ((wrap64 ((wrap64 (365 * (wrap64 (Int.tdiv (wrap64 ((wrap64 ((wrap64 ((wrap64 ((wrap64 (a0 + 730791)) - (wrap64 (146097 * t120)))) - (wrap64 (Int.tdiv (wrap64 ((wrap64 (a0 + 730791)) - (wrap64 (146097 * t120)))) 1460)))) + (wrap64 (Int.tdiv (wrap64 ((wrap64 (a0 + 730791)) - (wrap64 (146097 * t120)))) 36524)))) - (wrap64 (Int.tdiv (wrap64 ((wrap64 (a0 + 730791)) - (wrap64 (146097 * t120)))) 146096)))) 365)))) + (wrap64 (Int.tdiv (wrap64 (Int.tdiv (wrap64 ((wrap64 ((wrap64 ((wrap64 ((wrap64 (a0 + 730791)) - (wrap64 (146097 * t120)))) - (wrap64 (Int.tdiv (wrap64 ((wrap64 (a0 + 730791)) - (wrap64 (146097 * t120)))) 1460)))) + (wrap64 (Int.tdiv (wrap64 ((wrap64 (a0 + 730791)) - (wrap64 (146097 * t120)))) 36524)))) - (wrap64 (Int.tdiv (wrap64 ((wrap64 (a0 + 730791)) - (wrap64 (146097 * t120)))) 146096)))) 365)) 4)))) - (wrap64 (Int.tdiv (wrap64 (Int.tdiv (wrap64 ((wrap64 ((wrap64 ((wrap64 ((wrap64 (a0 + 730791)) - (wrap64 (146097 * t120)))) - (wrap64 (Int.tdiv (wrap64 ((wrap64 (a0 + 730791)) - (wrap64 (146097 * t120)))) 1460)))) + (wrap64 (Int.tdiv (wrap64 ((wrap64 (a0 + 730791)) - (wrap64 (146097 * t120)))) 36524)))) - (wrap64 (Int.tdiv (wrap64 ((wrap64 (a0 + 730791)) - (wrap64 (146097 * t120)))) 146096)))) 365)) 100)))))) - (wrap64 (Int.tdiv (wrap64 ((wrap64 (153 * (wrap64 (Int.tdiv (wrap64 ((wrap64 (5 * (wrap64 ((wrap64 ((wrap64 (a0 + 730791)) - (wrap64 (146097 * t120)))) - (wrap64 ((wrap64 ((wrap64 (365 * (wrap64 (Int.tdiv (wrap64 ((wrap64 ((wrap64 ((wrap64 ((wrap64 (a0 + 730791)) - (wrap64 (146097 * t120)))) - (wrap64 (Int.tdiv (wrap64 ((wrap64 (a0 + 730791)) - (wrap64 (146097 * t120)))) 1460)))) + (wrap64 (Int.tdiv (wrap64 ((wrap64 (a0 + 730791)) - (wrap64 (146097 * t120)))) 36524)))) - (wrap64 (Int.tdiv (wrap64 ((wrap64 (a0 + 730791)) - (wrap64 (146097 * t120)))) 146096)))) 365)))) + (wrap64 (Int.tdiv (wrap64 (Int.tdiv (wrap64 ((wrap64 ((wrap64 ((wrap64 ((wrap64 (a0 + 730791)) - (wrap64 (146097 * t120)))) - (wrap64 (Int.tdiv (wrap64 ((wrap64 (a0 + 730791)) - (wrap64 (146097 * t120)))) 1460)))) + (wrap64 (Int.tdiv (wrap64 ((wrap64 (a0 + 730791)) - (wrap64 (146097 * t120)))) 36524)))) - (wrap64 (Int.tdiv (wrap64 ((wrap64 (a0 + 730791)) - (wrap64 (146097 * t120)))) 146096)))) 365)) 4)))) - (wrap64 (Int.tdiv (wrap64 (Int.tdiv (wrap64 ((wrap64 ((wrap64 ((wrap64 ((wrap64 (a0 + 730791)) - (wrap64 (146097 * t120)))) - (wrap64 (Int.tdiv (wrap64 ((wrap64 (a0 + 730791)) - (wrap64 (146097 * t120)))) 1460)))) + (wrap64 (Int.tdiv (wrap64 ((wrap64 (a0 + 730791)) - (wrap64 (146097 * t120)))) 36524)))) - (wrap64 (Int.tdiv (wrap64 ((wrap64 (a0 + 730791)) - (wrap64 (146097 * t120)))) 146096)))) 365)) 100)))))))) + 2)) 153)))) + 2)) 5)))) + 1))))) = some (r1, r2, r3) := h
  clear h
  replace H := Option.bind_eq_some_iff.mp H
  obtain ⟨t120, A20, H⟩ := H
  replace H : (if (wrap64 ((wrap64 (Int.tdiv (wrap64 ((wrap64 (5 * (wrap64 ((wrap64 ((wrap64 (a0 + 730791)) - (wrap64 (146097 * t120)))) - (wrap64 ((wrap64 ((wrap64 (365 * (wrap64 (Int.tdiv (wrap64 ((wrap64 ((wrap64 ((wrap64 ((wrap64 (a0 + 730791)) - (wrap64 (146097 * t120)))) - (wrap64 (Int.tdiv (wrap64 ((wrap64 (a0 + 730791)) - (wrap64 (146097 * t120)))) 1460)))) + (wrap64 (Int.tdiv (wrap64 ((wrap64 (a0 + 730791)) - (wrap64 (146097 * t120)))) 36524)))) - (wrap64 (Int.tdiv (wrap64 ((wrap64 (a0 + 730791)) - (wrap64 (146097 * t120)))) 146096)))) 365)))) + (wrap64 (Int.tdiv (wrap64 (Int.tdiv (wrap64 ((wrap64 ((wrap64 ((wrap64 ((wrap64 (a0 + 730791)) - (wrap64 (146097 * t120)))) - (wrap64 (Int.tdiv (wrap64 ((wrap64 (a0 + 730791)) - (wrap64 (146097 * t120)))) 1460)))) + (wrap64 (Int.tdiv (wrap64 ((wrap64 (a0 + 730791)) - (wrap64 (146097 * t120)))) 36524)))) - (wrap64 (Int.tdiv (wrap64 ((wrap64 (a0 + 730791)) - (wrap64 (146097 * t120)))) 146096)))) 365)) 4)))) - (wrap64 (Int.tdiv (wrap64 (Int.tdiv (wrap64 ((wrap64 ((wrap64 ((wrap64 ((wrap64 (a0 + 730791)) - (wrap64 (146097 * t120)))) - (wrap64 (Int.tdiv (wrap64 ((wrap64 (a0 + 730791)) - (wrap64 (146097 * t120)))) 1460)))) + (wrap64 (Int.tdiv (wrap64 ((wrap64 (a0 + 730791)) - (wrap64 (146097 * t120)))) 36524)))) - (wrap64 (Int.tdiv (wrap64 ((wrap64 (a0 + 730791)) - (wrap64 (146097 * t120)))) 146096)))) 365)) 100)))))))) + 2)) 153)) + 3)) > 12 then (some (wrap64 ((wrap64 ((wrap64 (400 * t120)) + (wrap64 (Int.tdiv (wrap64 ((wrap64 ((wrap64 ((wrap64 ((wrap64 (a0 + 730791)) - (wrap64 (146097 * t120)))) - (wrap64 (Int.tdiv (wrap64 ((wrap64 (a0 + 730791)) - (wrap64 (146097 * t120)))) 1460)))) + (wrap64 (Int.tdiv (wrap64 ((wrap64 (a0 + 730791)) - (wrap64 (146097 * t120)))) 36524)))) - (wrap64 (Int.tdiv (wrap64 ((wrap64 (a0 + 730791)) - (wrap64 (146097 * t120)))) 146096)))) 365)))) + 1), wrap64 ((wrap64 ((wrap64 (Int.tdiv (wrap64 ((wrap64 (5 * (wrap64 ((wrap64 ((wrap64 (a0 + 730791)) - (wrap64 (146097 * t120)))) - (wrap64 ((wrap64 ((wrap64 (365 * (wrap64 (Int.tdiv (wrap64 ((wrap64 ((wrap64 ((wrap64 ((wrap64 (a0 + 730791)) - (wrap64 (146097 * t120)))) - (wrap64 (Int.tdiv (wrap64 ((wrap64 (a0 + 730791)) - (wrap64 (146097 * t120)))) 1460)))) + (wrap64 (Int.tdiv (wrap64 ((wrap64 (a0 + 730791)) - (wrap64 (146097 * t120)))) 36524)))) - (wrap64 (Int.tdiv (wrap64 ((wrap64 (a0 + 730791)) - (wrap64 (146097 * t120)))) 146096)))) 365)))) + (wrap64 (Int.tdiv (wrap64 (Int.tdiv (wrap64 ((wrap64 ((wrap64 ((wrap64 ((wrap64 (a0 + 730791)) - (wrap64 (146097 * t120)))) - (wrap64 (Int.tdiv (wrap64 ((wrap64 (a0 + 730791)) - (wrap64 (146097 * t120)))) 1460)))) + (wrap64 (Int.tdiv (wrap64 ((wrap64 (a0 + 730791)) - (wrap64 (146097 * t120)))) 36524)))) - (wrap64 (Int.tdiv (wrap64 ((wrap64 (a0 + 730791)) - (wrap64 (146097 * t120)))) 146096)))) 365)) 4)))) - (wrap64 (Int.tdiv (wrap64 (Int.tdiv (wrap64 ((wrap64 ((wrap64 ((wrap64 ((wrap64 (a0 + 730791)) - (wrap64 (146097 * t120)))) - (wrap64 (Int.tdiv (wrap64 ((wrap64 (a0 + 730791)) - (wrap64 (146097 * t120)))) 1460)))) + (wrap64 (Int.tdiv (wrap64 ((wrap64 (a0 + 730791)) - (wrap64 (146097 * t120)))) 36524)))) - (wrap64 (Int.tdiv (wrap64 ((wrap64 (a0 + 730791)) - (wrap64 (146097 * t120)))) 146096)))) 365)) 100)))))))) + 2)) 153)) + 3)) - 12), wrap64 ((wrap64 ((wrap64 ((wrap64 ((wrap64 (a0 + 730791)) - (wrap64 (146097 * t120)))) - (wrap64 ((wrap64 ((wrap64 (365 * (wrap64 (Int.tdiv (wrap64 ((wrap64 ((wrap64 ((wrap64 ((wrap64 (a0 + 730791)) - (wrap64 (146097 * t120)))) - (wrap64 (Int.tdiv (wrap64 ((wrap64 (a0 + 730791)) - (wrap64 (146097 * t120)))) 1460)))) + (wrap64 (Int.tdiv (wrap64 ((wrap64 (a0 + 730791)) - (wrap64 (146097 * t120)))) 36524)))) - (wrap64 (Int.tdiv (wrap64 ((wrap64 (a0 + 730791)) - (wrap64 (146097 * t120)))) 146096)))) 365)))) + (wrap64 (Int.tdiv (wrap64 (Int.tdiv (wrap64 ((wrap64 ((wrap64 ((wrap64 ((wrap64 (a0 + 730791)) - (wrap64 (146097 * t120)))) - (wrap64 (Int.tdiv (wrap64 ((wrap64 (a0 + 730791)) - (wrap64 (146097 * t120)))) 1460)))) + (wrap64 (Int.tdiv (wrap64 ((wrap64 (a0 + 730791)) - (wrap64 (146097 * t120)))) 36524)))) - (wrap64 (Int.tdiv (wrap64 ((wrap64 (a0 + 730791)) - (wrap64 (146097 * t120)))) 146096)))) 365)) 4)))) - (wrap64 (Int.tdiv (wrap64 (Int.tdiv (wrap64 ((wrap64 ((wrap64 ((wrap64 ((wrap64 (a0 + 730791)) - (wrap64 (146097 * t120)))) - (wrap64 (Int.tdiv (wrap64 ((wrap64 (a0 + 730791)) - (wrap64 (146097 * t120)))) 1460)))) + (wrap64 (Int.tdiv (wrap64 ((wrap64 (a0 + 730791)) - (wrap64 (146097 * t120)))) 36524)))) - (wrap64 (Int.tdiv (wrap64 ((wrap64 (a0 + 730791)) - (wrap64 (146097 * t120)))) 146096)))) 365)) 100)))))) - (wrap64 (Int.tdiv (wrap64 ((wrap64 (153 * (wrap64 (Int.tdiv (wrap64 ((wrap64 (5 * (wrap64 ((wrap64 ((wrap64 (a0 + 730791)) - (wrap64 (146097 * t120)))) - (wrap64 ((wrap64 ((wrap64 (365 * (wrap64 (Int.tdiv (wrap64 ((wrap64 ((wrap64 ((wrap64 ((wrap64 (a0 + 730791)) - (wrap64 (146097 * t120)))) - (wrap64 (Int.tdiv (wrap64 ((wrap64 (a0 + 730791)) - (wrap64 (146097 * t120)))) 1460)))) + (wrap64 (Int.tdiv (wrap64 ((wrap64 (a0 + 730791)) - (wrap64 (146097 * t120)))) 36524)))) - (wrap64 (Int.tdiv (wrap64 ((wrap64 (a0 + 730791)) - (wrap64 (146097 * t120)))) 146096)))) 365)))) + (wrap64 (Int.tdiv (wrap64 (Int.tdiv (wrap64 ((wrap64 ((wrap64 ((wrap64 ((wrap64 (a0 + 730791)) - (wrap64 (146097 * t120)))) - (wrap64 (Int.tdiv (wrap64 ((wrap64 (a0 + 730791)) - (wrap64 (146097 * t120)))) 1460)))) + (wrap64 (Int.tdiv (wrap64 ((wrap64 (a0 + 730791)) - (wrap64 (146097 * t120)))) 36524)))) - (wrap64 (Int.tdiv (wrap64 ((wrap64 (a0 + 730791)) - (wrap64 (146097 * t120)))) 146096)))) 365)) 4)))) - (wrap64 (Int.tdiv (wrap64 (Int.tdiv (wrap64 ((wrap64 ((wrap64 ((wrap64 ((wrap64 (a0 + 730791)) - (wrap64 (146097 * t120)))) - (wrap64 (Int.tdiv (wrap64 ((wrap64 (a0 + 730791)) - (wrap64 (146097 * t120)))) 1460)))) + (wrap64 (Int.tdiv (wrap64 ((wrap64 (a0 + 730791)) - (wrap64 (146097 * t120)))) 36524)))) - (wrap64 (Int.tdiv (wrap64 ((wrap64 (a0 + 730791)) - (wrap64 (146097 * t120)))) 146096)))) 365)) 100)))))))) + 2)) 153)))) + 2)) 5)))) + 1))) else (some (wrap64 ((wrap64 (400 * t120)) + (wrap64 (Int.tdiv (wrap64 ((wrap64 ((wrap64 ((wrap64 ((wrap64 (a0 + 730791)) - (wrap64 (146097 * t120)))) - (wrap64 (Int.tdiv (wrap64 ((wrap64 (a0 + 730791)) - (wrap64 (146097 * t120)))) 1460)))) + (wrap64 (Int.tdiv (wrap64 ((wrap64 (a0 + 730791)) - (wrap64 (146097 * t120)))) 36524)))) - (wrap64 (Int.tdiv (wrap64 ((wrap64 (a0 + 730791)) - (wrap64 (146097 * t120)))) 146096)))) 365))), wrap64 ((wrap64 (Int.tdiv (wrap64 ((wrap64 (5 * (wrap64 ((wrap64 ((wrap64 (a0 + 730791)) - (wrap64 (146097 * t120)))) - (wrap64 ((wrap64 ((wrap64 (365 * (wrap64 (Int.tdiv (wrap64 ((wrap64 ((wrap64 ((wrap64 ((wrap64 (a0 + 730791)) - (wrap64 (146097 * t120)))) - (wrap64 (Int.tdiv (wrap64 ((wrap64 (a0 + 730791)) - (wrap64 (146097 * t120)))) 1460)))) + (wrap64 (Int.tdiv (wrap64 ((wrap64 (a0 + 730791)) - (wrap64 (146097 * t120)))) 36524)))) - (wrap64 (Int.tdiv (wrap64 ((wrap64 (a0 + 730791)) - (wrap64 (146097 * t120)))) 146096)))) 365)))) + (wrap64 (Int.tdiv (wrap64 (Int.tdiv (wrap64 ((wrap64 ((wrap64 ((wrap64 ((wrap64 (a0 + 730791)) - (wrap64 (146097 * t120)))) - (wrap64 (Int.tdiv (wrap64 ((wrap64 (a0 + 730791)) - (wrap64 (146097 * t120)))) 1460)))) + (wrap64 (Int.tdiv (wrap64 ((wrap64 (a0 + 730791)) - (wrap64 (146097 * t120)))) 36524)))) - (wrap64 (Int.tdiv (wrap64 ((wrap64 (a0 + 730791)) - (wrap64 (146097 * t120)))) 146096)))) 365)) 4)))) - (wrap64 (Int.tdiv (wrap64 (Int.tdiv (wrap64 ((wrap64 ((wrap64 ((wrap64 ((wrap64 (a0 + 730791)) - (wrap64 (146097 * t120)))) - (wrap64 (Int.tdiv (wrap64 ((wrap64 (a0 + 730791)) - (wrap64 (146097 * t120)))) 1460)))) + (wrap64 (Int.tdiv (wrap64 ((wrap64 (a0 + 730791)) - (wrap64 (146097 * t120)))) 36524)))) - (wrap64 (Int.tdiv (wrap64 ((wrap64 (a0 + 730791)) - (wrap64 (146097 * t120)))) 146096)))) 365)) 100)))))))) + 2)) 153)) + 3), wrap64 ((wrap64 ((wrap64 ((wrap64 ((wrap64 (a0 + 730791)) - (wrap64 (146097 * t120)))) - (wrap64 ((wrap64 ((wrap64 (365 * (wrap64 (Int.tdiv (wrap64 ((wrap64 ((wrap64 ((wrap64 ((wrap64 (a0 + 730791)) - (wrap64 (146097 * t120)))) - (wrap64 (Int.tdiv (wrap64 ((wrap64 (a0 + 730791)) - (wrap64 (146097 * t120)))) 1460)))) + (wrap64 (Int.tdiv (wrap64 ((wrap64 (a0 + 730791)) - (wrap64 (146097 * t120)))) 36524)))) - (wrap64 (Int.tdiv (wrap64 ((wrap64 (a0 + 730791)) - (wrap64 (146097 * t120)))) 146096)))) 365)))) + (wrap64 (Int.tdiv (wrap64 (Int.tdiv (wrap64 ((wrap64 ((wrap64 ((wrap64 ((wrap64 (a0 + 730791)) - (wrap64 (146097 * t120)))) - (wrap64 (Int.tdiv (wrap64 ((wrap64 (a0 + 730791)) - (wrap64 (146097 * t120)))) 1460)))) + (wrap64 (Int.tdiv (wrap64 ((wrap64 (a0 + 730791)) - (wrap64 (146097 * t120)))) 36524)))) - (wrap64 (Int.tdiv (wrap64 ((wrap64 (a0 + 730791)) - (wrap64 (146097 * t120)))) 146096)))) 365)) 4)))) - (wrap64 (Int.tdiv (wrap64 (Int.tdiv (wrap64 ((wrap64 ((wrap64 ((wrap64 ((wrap64 (a0 + 730791)) - (wrap64 (146097 * t120)))) - (wrap64 (Int.tdiv (wrap64 ((wrap64 (a0 + 730791)) - (wrap64 (146097 * t120)))) 1460)))) + (wrap64 (Int.tdiv (wrap64 ((wrap64 (a0 + 730791)) - (wrap64 (146097 * t120)))) 36524)))) - (wrap64 (Int.tdiv (wrap64 ((wrap64 (a0 + 730791)) - (wrap64 (146097 * t120)))) 146096)))) 365)) 100)))))) - (wrap64 (Int.tdiv (wrap64 ((wrap64 (153 * (wrap64 (Int.tdiv (wrap64 ((wrap64 (5 * (wrap64 ((wrap64 ((wrap64 (a0 + 730791)) - (wrap64 (146097 * t120)))) - (wrap64 ((wrap64 ((wrap64 (365 * (wrap64 (Int.tdiv (wrap64 ((wrap64 ((wrap64 ((wrap64 ((wrap64 (a0 + 730791)) - (wrap64 (146097 * t120)))) - (wrap64 (Int.tdiv (wrap64 ((wrap64 (a0 + 730791)) - (wrap64 (146097 * t120)))) 1460)))) + (wrap64 (Int.tdiv (wrap64 ((wrap64 (a0 + 730791)) - (wrap64 (146097 * t120)))) 36524)))) - (wrap64 (Int.tdiv (wrap64 ((wrap64 (a0 + 730791)) - (wrap64 (146097 * t120)))) 146096)))) 365)))) + (wrap64 (Int.tdiv (wrap64 (Int.tdiv (wrap64 ((wrap64 ((wrap64 ((wrap64 ((wrap64 (a0 + 730791)) - (wrap64 (146097 * t120)))) - (wrap64 (Int.tdiv (wrap64 ((wrap64 (a0 + 730791)) - (wrap64 (146097 * t120)))) 1460)))) + (wrap64 (Int.tdiv (wrap64 ((wrap64 (a0 + 730791)) - (wrap64 (146097 * t120)))) 36524)))) - (wrap64 (Int.tdiv (wrap64 ((wrap64 (a0 + 730791)) - (wrap64 (146097 * t120)))) 146096)))) 365)) 4)))) - (wrap64 (Int.tdiv (wrap64 (Int.tdiv (wrap64 ((wrap64 ((wrap64 ((wrap64 ((wrap64 (a0 + 730791)) - (wrap64 (146097 * t120)))) - (wrap64 (Int.tdiv (wrap64 ((wrap64 (a0 + 730791)) - (wrap64 (146097 * t120)))) 1460)))) + (wrap64 (Int.tdiv (wrap64 ((wrap64 (a0 + 730791)) - (wrap64 (146097 * t120)))) 36524)))) - (wrap64 (Int.tdiv (wrap64 ((wrap64 (a0 + 730791)) - (wrap64 (146097 * t120)))) 146096)))) 365)) 100)))))))) + 2)) 153)))) + 2)) 5)))) + 1)))) = some (r1, r2, r3) := H
  have A2 := Aside0.mk A20
  clear A20
  by_cases c3 : (wrap64 ((wrap64 (Int.tdiv (wrap64 ((wrap64 (5 * (wrap64 ((wrap64 ((wrap64 (a0 + 730791)) - (wrap64 (146097 * t120)))) - (wrap64 ((wrap64 ((wrap64 (365 * (wrap64 (Int.tdiv (wrap64 ((wrap64 ((wrap64 ((wrap64 ((wrap64 (a0 + 730791)) - (wrap64 (146097 * t120)))) - (wrap64 (Int.tdiv (wrap64 ((wrap64 (a0 + 730791)) - (wrap64 (146097 * t120)))) 1460)))) + (wrap64 (Int.tdiv (wrap64 ((wrap64 (a0 + 730791)) - (wrap64 (146097 * t120)))) 36524)))) - (wrap64 (Int.tdiv (wrap64 ((wrap64 (a0 + 730791)) - (wrap64 (146097 * t120)))) 146096)))) 365)))) + (wrap64 (Int.tdiv (wrap64 (Int.tdiv (wrap64 ((wrap64 ((wrap64 ((wrap64 ((wrap64 (a0 + 730791)) - (wrap64 (146097 * t120)))) - (wrap64 (Int.tdiv (wrap64 ((wrap64 (a0 + 730791)) - (wrap64 (146097 * t120)))) 1460)))) + (wrap64 (Int.tdiv (wrap64 ((wrap64 (a0 + 730791)) - (wrap64 (146097 * t120)))) 36524)))) - (wrap64 (Int.tdiv (wrap64 ((wrap64 (a0 + 730791)) - (wrap64 (146097 * t120)))) 146096)))) 365)) 4)))) - (wrap64 (Int.tdiv (wrap64 (Int.tdiv (wrap64 ((wrap64 ((wrap64 ((wrap64 ((wrap64 (a0 + 730791)) - (wrap64 (146097 * t120)))) - (wrap64 (Int.tdiv (wrap64 ((wrap64 (a0 + 730791)) - (wrap64 (146097 * t120)))) 1460)))) + (wrap64 (Int.tdiv (wrap64 ((wrap64 (a0 + 730791)) - (wrap64 (146097 * t120)))) 36524)))) - (wrap64 (Int.tdiv (wrap64 ((wrap64 (a0 + 730791)) - (wrap64 (146097 * t120)))) 146096)))) 365)) 100)))))))) + 2)) 153)) + 3)) > 12
  · rw [if_pos c3] at H
    have c3b0 : decide (12 < (wrap64 ((wrap64 (Int.tdiv (wrap64 ((wrap64 (5 * (wrap64 ((wrap64 ((wrap64 (a0 + 730791)) - (wrap64 (146097 * t120)))) - (wrap64 ((wrap64 ((wrap64 (365 * (wrap64 (Int.tdiv (wrap64 ((wrap64 ((wrap64 ((wrap64 ((wrap64 (a0 + 730791)) - (wrap64 (146097 * t120)))) - (wrap64 (Int.tdiv (wrap64 ((wrap64 (a0 + 730791)) - (wrap64 (146097 * t120)))) 1460)))) + (wrap64 (Int.tdiv (wrap64 ((wrap64 (a0 + 730791)) - (wrap64 (146097 * t120)))) 36524)))) - (wrap64 (Int.tdiv (wrap64 ((wrap64 (a0 + 730791)) - (wrap64 (146097 * t120)))) 146096)))) 365)))) + (wrap64 (Int.tdiv (wrap64 (Int.tdiv (wrap64 ((wrap64 ((wrap64 ((wrap64 ((wrap64 (a0 + 730791)) - (wrap64 (146097 * t120)))) - (wrap64 (Int.tdiv (wrap64 ((wrap64 (a0 + 730791)) - (wrap64 (146097 * t120)))) 1460)))) + (wrap64 (Int.tdiv (wrap64 ((wrap64 (a0 + 730791)) - (wrap64 (146097 * t120)))) 36524)))) - (wrap64 (Int.tdiv (wrap64 ((wrap64 (a0 + 730791)) - (wrap64 (146097 * t120)))) 146096)))) 365)) 4)))) - (wrap64 (Int.tdiv (wrap64 (Int.tdiv (wrap64 ((wrap64 ((wrap64 ((wrap64 ((wrap64 (a0 + 730791)) - (wrap64 (146097 * t120)))) - (wrap64 (Int.tdiv (wrap64 ((wrap64 (a0 + 730791)) - (wrap64 (146097 * t120)))) 1460)))) + (wrap64 (Int.tdiv (wrap64 ((wrap64 (a0 + 730791)) - (wrap64 (146097 * t120)))) 36524)))) - (wrap64 (Int.tdiv (wrap64 ((wrap64 (a0 + 730791)) - (wrap64 (146097 * t120)))) 146096)))) 365)) 100)))))))) + 2)) 153)) + 3))) = true := decide_eq_true c3
    clear c3
    simp only [Option.some.injEq, Prod.mk.injEq] at H
    obtain ⟨rfl, rfl, rfl⟩ := H
    go_enter Try.func66, Try.ntmps66
    go_wp2_with (first | ((with_reducible refine gate_callee (f := 106) rfl ?_); refine goesL_ (some 12) rfl rfl Try.func106 (by kernel_rfl) rfl #[.int .i64 (wrap64 (a0 + 730791)), .int .i64 146097] rfl (by (try simp only [List.map_toArray, List.map_cons, List.map_nil]); first | done | rfl | (simp only [List.length_drop, List.length_take]; rfl)) ?_; (with_reducible refine (mastref2_floor.calls (wrap64 (a0 + 730791)) 146097 t120 _ A2.out).mono ?_); rintro e w' ⟨rfl, ⟨nd, rfl⟩⟩; refine ⟨_, rfl, ?_⟩))
    go_ret3
    exact ⟨by first | rfl | (simp; done) | (simp [*]; done), by repeat (first | exact Drawn0.refl _ | apply Drawn0.step)⟩
  · rw [if_neg c3] at H
    have c3b0 : decide (12 < (wrap64 ((wrap64 (Int.tdiv (wrap64 ((wrap64 (5 * (wrap64 ((wrap64 ((wrap64 (a0 + 730791)) - (wrap64 (146097 * t120)))) - (wrap64 ((wrap64 ((wrap64 (365 * (wrap64 (Int.tdiv (wrap64 ((wrap64 ((wrap64 ((wrap64 ((wrap64 (a0 + 730791)) - (wrap64 (146097 * t120)))) - (wrap64 (Int.tdiv (wrap64 ((wrap64 (a0 + 730791)) - (wrap64 (146097 * t120)))) 1460)))) + (wrap64 (Int.tdiv (wrap64 ((wrap64 (a0 + 730791)) - (wrap64 (146097 * t120)))) 36524)))) - (wrap64 (Int.tdiv (wrap64 ((wrap64 (a0 + 730791)) - (wrap64 (146097 * t120)))) 146096)))) 365)))) + (wrap64 (Int.tdiv (wrap64 (Int.tdiv (wrap64 ((wrap64 ((wrap64 ((wrap64 ((wrap64 (a0 + 730791)) - (wrap64 (146097 * t120)))) - (wrap64 (Int.tdiv (wrap64 ((wrap64 (a0 + 730791)) - (wrap64 (146097 * t120)))) 1460)))) + (wrap64 (Int.tdiv (wrap64 ((wrap64 (a0 + 730791)) - (wrap64 (146097 * t120)))) 36524)))) - (wrap64 (Int.tdiv (wrap64 ((wrap64 (a0 + 730791)) - (wrap64 (146097 * t120)))) 146096)))) 365)) 4)))) - (wrap64 (Int.tdiv (wrap64 (Int.tdiv (wrap64 ((wrap64 ((wrap64 ((wrap64 ((wrap64 (a0 + 730791)) - (wrap64 (146097 * t120)))) - (wrap64 (Int.tdiv (wrap64 ((wrap64 (a0 + 730791)) - (wrap64 (146097 * t120)))) 1460)))) + (wrap64 (Int.tdiv (wrap64 ((wrap64 (a0 + 730791)) - (wrap64 (146097 * t120)))) 36524)))) - (wrap64 (Int.tdiv (wrap64 ((wrap64 (a0 + 730791)) - (wrap64 (146097 * t120)))) 146096)))) 365)) 100)))))))) + 2)) 153)) + 3))) = false := decide_eq_false c3
    clear c3
    simp only [Option.some.injEq, Prod.mk.injEq] at H
    obtain ⟨rfl, rfl, rfl⟩ := H
    go_enter Try.func66, Try.ntmps66
    go_wp2_with (first | ((with_reducible refine gate_callee (f := 106) rfl ?_); refine goesL_ (some 12) rfl rfl Try.func106 (by kernel_rfl) rfl #[.int .i64 (wrap64 (a0 + 730791)), .int .i64 146097] rfl (by (try simp only [List.map_toArray, List.map_cons, List.map_nil]); first | done | rfl | (simp only [List.length_drop, List.length_take]; rfl)) ?_; (with_reducible refine (mastref2_floor.calls (wrap64 (a0 + 730791)) 146097 t120 _ A2.out).mono ?_); rintro e w' ⟨rfl, ⟨nd, rfl⟩⟩; refine ⟨_, rfl, ?_⟩))
    go_ret3
    exact ⟨by first | rfl | (simp; done) | (simp [*]; done), by repeat (first | exact Drawn0.refl _ | apply Drawn0.step)⟩

/-! ### mastref2_DateOfDay: function 34 -/
def mastref2_DateOfDay.f (a0 : Int) : Option (Int × Int × Int) := (mastref2_date_parts.f (wrap64 (a0 - 11323))).bind fun bt121 => (some (bt121.1, bt121.2.1, bt121.2.2))
set_option maxHeartbeats 8000000 in
set_option maxRecDepth 100000 in
theorem mastref2_DateOfDay.calls (a0 : Int) (r1 : Int) (r2 : Int) (r3 : Int) (w : World) (h : mastref2_DateOfDay.f a0 = some (r1, r2, r3)) :
    Calls Try.prog 34 #[.int .i64 a0] w fun e w' => e = .returned (.tuple #[.int .i64 r1, .int .i64 r2, .int .i64 r3]) ∧ Drawn0 w w' := by
  have H : ((mastref2_date_parts.f (wrap64 (a0 - 11323))).bind fun bt121 => (some (bt121.1, bt121.2.1, bt121.2.2))) = some (r1, r2, r3) := h
  clear h
  replace H := Option.bind_eq_some_iff.mp H
  obtain ⟨⟨t121, t122, t123⟩, A20, H⟩ := H
  replace H : (some (t121, t122, t123)) = some (r1, r2, r3) := H
  have A2 := Aside0.mk A20
  clear A20
  simp only [Option.some.injEq, Prod.mk.injEq] at H
  obtain ⟨rfl, rfl, rfl⟩ := H
  go_enter Try.func34, Try.ntmps34
  go_wp2_with (first | ((with_reducible refine gate_callee (f := 66) rfl ?_); refine goesL_ (some 7) rfl rfl Try.func66 (by kernel_rfl) rfl #[.int .i64 (wrap64 (a0 - 11323))] rfl (by (try simp only [List.map_toArray, List.map_cons, List.map_nil]); first | done | rfl | (simp only [List.length_drop, List.length_take]; rfl)) ?_; (with_reducible refine (mastref2_date_parts.calls (wrap64 (a0 - 11323)) t121 t122 t123 _ A2.out).mono ?_); rintro e w' ⟨rfl, ⟨nd, rfl⟩⟩; refine ⟨_, rfl, ?_⟩))
  go_ret3
  exact ⟨by first | rfl | (simp; done) | (simp [*]; done), by repeat (first | exact Drawn0.refl _ | apply Drawn0.step)⟩

/-! ### mastref2_leap: function 107 -/
def mastref2_leap.f (a0 : Int) : Option (Bool) := if (Int.tmod a0 4) = 0 then (if (Int.tmod a0 100) = 0 then (some ((Int.tmod a0 400) == 0)) else (some true)) else (some false)
set_option maxHeartbeats 8000000 in
set_option maxRecDepth 100000 in
theorem mastref2_leap.calls (a0 : Int) (r : Bool) (w : World) (h : mastref2_leap.f a0 = some r) :
    Calls Try.prog 107 #[.int .i64 a0] w fun e w' => e = .returned (.bool r) ∧ Drawn0 w w' := by
  have H : (if (Int.tmod a0 4) = 0 then (if (Int.tmod a0 100) = 0 then (some ((Int.tmod a0 400) == 0)) else (some true)) else (some false)) = some r := h
  clear h
  by_cases c2 : (Int.tmod a0 4) = 0
  · rw [if_pos c2] at H
    have c2b0 : ((Int.tmod a0 4) == 0) = true := beq_iff_eq.mpr c2
    have c2b1 : ((Int.tmod a0 4) != 0) = false := bne_eq_false_iff_eq.mpr c2
    clear c2
    by_cases c3 : (Int.tmod a0 100) = 0
    · rw [if_pos c3] at H
      have c3b0 : ((Int.tmod a0 100) == 0) = true := beq_iff_eq.mpr c3
      have c3b1 : ((Int.tmod a0 100) != 0) = false := bne_eq_false_iff_eq.mpr c3
      clear c3
      obtain rfl := Option.some.inj H
      go_enter Try.func107, Try.ntmps107
      go_wp2
      go_ret
      exact ⟨by first | rfl | (simp; done) | (simp [*]; done), by repeat (first | exact Drawn0.refl _ | apply Drawn0.step)⟩
    · rw [if_neg c3] at H
      have c3b0 : ((Int.tmod a0 100) == 0) = false := beq_eq_false_iff_ne.mpr c3
      have c3b1 : ((Int.tmod a0 100) != 0) = true := bne_iff_ne.mpr c3
      obtain rfl := Option.some.inj H
      go_enter Try.func107, Try.ntmps107
      go_wp2
      go_ret
      exact ⟨by first | rfl | (simp; done) | (simp [*]; done), by repeat (first | exact Drawn0.refl _ | apply Drawn0.step)⟩
  · rw [if_neg c2] at H
    have c2b0 : ((Int.tmod a0 4) == 0) = false := beq_eq_false_iff_ne.mpr c2
    have c2b1 : ((Int.tmod a0 4) != 0) = true := bne_iff_ne.mpr c2
    obtain rfl := Option.some.inj H
    go_enter Try.func107, Try.ntmps107
    go_wp2
    go_ret
    exact ⟨by first | rfl | (simp; done) | (simp [*]; done), by repeat (first | exact Drawn0.refl _ | apply Drawn0.step)⟩

/-! ### mastref2_yearDay: function 108 -/
def mastref2_yearDay.f (a0 : Int) : Option (Int) := (mastref2_floor.f (wrap64 (a0 - 2001)) 4).bind fun t124 => ((mastref2_floor.f (wrap64 (a0 - 2001)) 100).bind fun t125 => ((mastref2_floor.f (wrap64 (a0 - 2001)) 400).bind fun t126 => (some (wrap64 ((wrap64 ((wrap64 ((wrap64 (365 * (wrap64 (a0 - 2001)))) + t124)) - t125)) + t126)))))
set_option maxHeartbeats 8000000 in
set_option maxRecDepth 100000 in
theorem mastref2_yearDay.calls (a0 : Int) (r : Int) (w : World) (h : mastref2_yearDay.f a0 = some r) :
    Calls Try.prog 108 #[.int .i64 a0] w fun e w' => e = .returned (.int .i64 r) ∧ Drawn0 w w' := by
  have H : ((mastref2_floor.f (wrap64 (a0 - 2001)) 4).bind fun t124 => ((mastref2_floor.f (wrap64 (a0 - 2001)) 100).bind fun t125 => ((mastref2_floor.f (wrap64 (a0 - 2001)) 400).bind fun t126 => (some (wrap64 ((wrap64 ((wrap64 ((wrap64 (365 * (wrap64 (a0 - 2001)))) + t124)) - t125)) + t126)))))) = some r := h
  clear h
  replace H := Option.bind_eq_some_iff.mp H
  obtain ⟨t124, A20, H⟩ := H
  replace H : ((mastref2_floor.f (wrap64 (a0 - 2001)) 100).bind fun t125 => ((mastref2_floor.f (wrap64 (a0 - 2001)) 400).bind fun t126 => (some (wrap64 ((wrap64 ((wrap64 ((wrap64 (365 * (wrap64 (a0 - 2001)))) + t124)) - t125)) + t126))))) = some r := H
  have A2 := Aside0.mk A20
  clear A20
  replace H := Option.bind_eq_some_iff.mp H
  obtain ⟨t125, A30, H⟩ := H
  replace H : ((mastref2_floor.f (wrap64 (a0 - 2001)) 400).bind fun t126 => (some (wrap64 ((wrap64 ((wrap64 ((wrap64 (365 * (wrap64 (a0 - 2001)))) + t124)) - t125)) + t126)))) = some r := H
  have A3 := Aside0.mk A30
  clear A30
  replace H := Option.bind_eq_some_iff.mp H
  obtain ⟨t126, A40, H⟩ := H
  replace H : (some (wrap64 ((wrap64 ((wrap64 ((wrap64 (365 * (wrap64 (a0 - 2001)))) + t124)) - t125)) + t126))) = some r := H
  have A4 := Aside0.mk A40
  clear A40
  obtain rfl := Option.some.inj H
  go_enter Try.func108, Try.ntmps108
  go_wp2_with (first | ((with_reducible refine gate_callee (f := 106) rfl ?_); refine goesL_ (some 9) rfl rfl Try.func106 (by kernel_rfl) rfl #[.int .i64 (wrap64 (a0 - 2001)), .int .i64 4] rfl (by (try simp only [List.map_toArray, List.map_cons, List.map_nil]); first | done | rfl | (simp only [List.length_drop, List.length_take]; rfl)) ?_; (with_reducible refine (mastref2_floor.calls (wrap64 (a0 - 2001)) 4 t124 _ A2.out).mono ?_); rintro e w' ⟨rfl, ⟨nd, rfl⟩⟩; refine ⟨_, rfl, ?_⟩) | ((with_reducible refine gate_callee (f := 106) rfl ?_); refine goesL_ (some 12) rfl rfl Try.func106 (by kernel_rfl) rfl #[.int .i64 (wrap64 (a0 - 2001)), .int .i64 100] rfl (by (try simp only [List.map_toArray, List.map_cons, List.map_nil]); first | done | rfl | (simp only [List.length_drop, List.length_take]; rfl)) ?_; (with_reducible refine (mastref2_floor.calls (wrap64 (a0 - 2001)) 100 t125 _ A3.out).mono ?_); rintro e w' ⟨rfl, ⟨nd, rfl⟩⟩; refine ⟨_, rfl, ?_⟩) | ((with_reducible refine gate_callee (f := 106) rfl ?_); refine goesL_ (some 15) rfl rfl Try.func106 (by kernel_rfl) rfl #[.int .i64 (wrap64 (a0 - 2001)), .int .i64 400] rfl (by (try simp only [List.map_toArray, List.map_cons, List.map_nil]); first | done | rfl | (simp only [List.length_drop, List.length_take]; rfl)) ?_; (with_reducible refine (mastref2_floor.calls (wrap64 (a0 - 2001)) 400 t126 _ A4.out).mono ?_); rintro e w' ⟨rfl, ⟨nd, rfl⟩⟩; refine ⟨_, rfl, ?_⟩))
  go_ret
  exact ⟨by first | rfl | (simp; done) | (simp [*]; done), by repeat (first | exact Drawn0.refl _ | apply Drawn0.step)⟩

/-! ### mastref2_dateOf: function 52 -/
def mastref2_dateOf.l0 : Nat → Int → Int → Int → Int → List Int → Int → Int → Option (Int)
  | 0, _, _, _, _, _, _, _ => none
  | k + 1, x0, x1, x2, x7, x24, x25, x26 => if x26 < x25 then (if 0 ≤ x26 then (if x26 < (x24.length : Int) then (mastref2_dateOf.l0 k x0 x1 x2 (wrap64 (x7 + (rd x24 x26))) x24 x25 (wrap64 (x26 + 1))) else (none)) else (none)) else (if x1 > 2 then ((mastref2_leap.f x0).bind fun t137 => (if t137 = true then ((mastref2_yearDay.f x0).bind fun t138 => (some (wrap64 ((wrap64 ((wrap64 (t138 + (wrap64 (x7 + 1)))) + x2)) - 1)))) else ((mastref2_yearDay.f x0).bind fun t139 => (some (wrap64 ((wrap64 ((wrap64 (t139 + x7)) + x2)) - 1)))))) else ((mastref2_yearDay.f x0).bind fun t140 => (some (wrap64 ((wrap64 ((wrap64 (t140 + x7)) + x2)) - 1)))))
def mastref2_dateOf.f (k : Nat) (a0 : Int) (a1 : Int) (a2 : Int) : Option (Int) := (mastref2_floor.f (wrap64 (a1 - 1)) 12).bind fun t127 => ((mastref2_floor.f (wrap64 (a1 - 1)) 12).bind fun t128 => ((some (([31, 28, 31, 30, 31, 30, 31, 31, 30, 31, 30, 31] : List Int) : List Int)).bind fun y129 => (if 0 ≤ (wrap64 ((wrap64 (a1 - (wrap64 (12 * t128)))) - 1)) then (if (wrap64 ((wrap64 (a1 - (wrap64 (12 * t128)))) - 1)) ≤ (y129.length : Int) then ((some (y129.take ((wrap64 ((wrap64 (a1 - (wrap64 (12 * t128)))) - 1)) : Int).toNat : List Int)).bind fun y132 => (mastref2_dateOf.l0 k (wrap64 (a0 + t127)) (wrap64 (a1 - (wrap64 (12 * t128)))) a2 0 y132 (y132.length : Int) 0)) else (none)) else (none))))
theorem mastref2_dateOf.mono_l : ∀ k, (∀ y0 y1 y2 y3 y4 y5 y6, LeO (mastref2_dateOf.l0 k y0 y1 y2 y3 y4 y5 y6) (mastref2_dateOf.l0 (k + 1) y0 y1 y2 y3 y4 y5 y6))
  | 0 => fun _ _ _ _ _ _ _ r h => by simp [mastref2_dateOf.l0] at h
  | k + 1 => by
    have ih0 := mastref2_dateOf.mono_l k
    · intro y0 y1 y2 y3 y4 y5 y6
      unfold mastref2_dateOf.l0
      repeat' first
      | (with_reducible exact ih0 _ _ _ _ _ _ _)
      | (with_reducible exact LeO.refl _)
      | (with_reducible exact LeO.none _)
      | (with_reducible refine LeO.ite ?_ ?_)
      | (with_reducible refine LeO.bind ?_ (fun _ => ?_))
      | exact ih0 _ _ _ _ _ _ _
      | exact LeO.none _
      | refine LeO.ite ?_ ?_
      | refine LeO.bind ?_ (fun _ => ?_)
theorem mastref2_dateOf.mono : ∀ a0 a1 a2 k, LeO (mastref2_dateOf.f k a0 a1 a2) (mastref2_dateOf.f (k + 1) a0 a1 a2) := by
  intro a0 a1 a2 k
  have ih0 := mastref2_dateOf.mono_l k
  unfold mastref2_dateOf.f
  repeat' first
      | (with_reducible exact ih0 _ _ _ _ _ _ _)
      | (with_reducible exact LeO.refl _)
      | (with_reducible exact LeO.none _)
      | (with_reducible refine LeO.ite ?_ ?_)
      | (with_reducible refine LeO.bind ?_ (fun _ => ?_))
      | exact ih0 _ _ _ _ _ _ _
      | exact LeO.none _
      | refine LeO.ite ?_ ?_
      | refine LeO.bind ?_ (fun _ => ?_)
set_option maxHeartbeats 8000000 in
set_option maxRecDepth 100000 in
theorem mastref2_dateOf.calls (k : Nat) (a0 : Int) (a1 : Int) (a2 : Int) (r : Int) (w : World) (h : mastref2_dateOf.f k a0 a1 a2 = some r) :
    Calls Try.prog 52 #[.int .i64 a0, .int .i64 a1, .int .i64 a2] w fun e w' => e = .returned (.int .i64 r) ∧ Below w.heap.size w w' := by
  have HB := Aside0.mk (Below.refl w.heap.size w)
  have H : ((mastref2_floor.f (wrap64 (a1 - 1)) 12).bind fun t127 => ((mastref2_floor.f (wrap64 (a1 - 1)) 12).bind fun t128 => ((some (([31, 28, 31, 30, 31, 30, 31, 31, 30, 31, 30, 31] : List Int) : List Int)).bind fun y129 => (if 0 ≤ (wrap64 ((wrap64 (a1 - (wrap64 (12 * t128)))) - 1)) then (if (wrap64 ((wrap64 (a1 - (wrap64 (12 * t128)))) - 1)) ≤ (y129.length : Int) then ((some (y129.take ((wrap64 ((wrap64 (a1 - (wrap64 (12 * t128)))) - 1)) : Int).toNat : List Int)).bind fun y132 => (mastref2_dateOf.l0 k (wrap64 (a0 + t127)) (wrap64 (a1 - (wrap64 (12 * t128)))) a2 0 y132 (y132.length : Int) 0)) else (none)) else (none))))) = some r := h
  clear h
  replace H := Option.bind_eq_some_iff.mp H
  obtain ⟨t127, A40, H⟩ := H
  replace H : ((mastref2_floor.f (wrap64 (a1 - 1)) 12).bind fun t128 => ((some (([31, 28, 31, 30, 31, 30, 31, 31, 30, 31, 30, 31] : List Int) : List Int)).bind fun y129 => (if 0 ≤ (wrap64 ((wrap64 (a1 - (wrap64 (12 * t128)))) - 1)) then (if (wrap64 ((wrap64 (a1 - (wrap64 (12 * t128)))) - 1)) ≤ (y129.length : Int) then ((some (y129.take ((wrap64 ((wrap64 (a1 - (wrap64 (12 * t128)))) - 1)) : Int).toNat : List Int)).bind fun y132 => (mastref2_dateOf.l0 k (wrap64 (a0 + t127)) (wrap64 (a1 - (wrap64 (12 * t128)))) a2 0 y132 (y132.length : Int) 0)) else (none)) else (none)))) = some r := H
  have A4 := Aside0.mk A40
  clear A40
  replace H := Option.bind_eq_some_iff.mp H
  obtain ⟨t128, A50, H⟩ := H
  replace H : ((some (([31, 28, 31, 30, 31, 30, 31, 31, 30, 31, 30, 31] : List Int) : List Int)).bind fun y129 => (if 0 ≤ (wrap64 ((wrap64 (a1 - (wrap64 (12 * t128)))) - 1)) then (if (wrap64 ((wrap64 (a1 - (wrap64 (12 * t128)))) - 1)) ≤ (y129.length : Int) then ((some (y129.take ((wrap64 ((wrap64 (a1 - (wrap64 (12 * t128)))) - 1)) : Int).toNat : List Int)).bind fun y132 => (mastref2_dateOf.l0 k (wrap64 (a0 + t127)) (wrap64 (a1 - (wrap64 (12 * t128)))) a2 0 y132 (y132.length : Int) 0)) else (none)) else (none))) = some r := H
  have A5 := Aside0.mk A50
  clear A50
  obtain ⟨y129, hy129⟩ : ∃ y_ : List Int, y_ = (([31, 28, 31, 30, 31, 30, 31, 31, 30, 31, 30, 31] : List Int)) := ⟨_, rfl⟩
  replace H : (if 0 ≤ (wrap64 ((wrap64 (a1 - (wrap64 (12 * t128)))) - 1)) then (if (wrap64 ((wrap64 (a1 - (wrap64 (12 * t128)))) - 1)) ≤ (y129.length : Int) then ((some (y129.take ((wrap64 ((wrap64 (a1 - (wrap64 (12 * t128)))) - 1)) : Int).toNat : List Int)).bind fun y132 => (mastref2_dateOf.l0 k (wrap64 (a0 + t127)) (wrap64 (a1 - (wrap64 (12 * t128)))) a2 0 y132 (y132.length : Int) 0)) else (none)) else (none)) = some r := by first | (rw [hy129]; with_reducible exact H) | (have H2_ := (Option.bind_some _ _).symm.trans H; rw [hy129]; with_reducible exact H2_) | (have H2_ := (Option.bind_some _ _).symm.trans H; with_reducible exact H2_) | with_reducible exact H | (rw [hy129]; exact H) | exact H
  have Ny129 := Aside0.mk hy129
  clear hy129
  obtain ⟨ji6, hji6⟩ : ∃ j_ : Int, (wrap64 ((wrap64 (a1 - (wrap64 (12 * t128)))) - 1)) = j_ := ⟨_, rfl⟩
  replace H : (if 0 ≤ (ji6) then (if (ji6) ≤ (y129.length : Int) then ((some (y129.take ((ji6) : Int).toNat : List Int)).bind fun y132 => (mastref2_dateOf.l0 k (wrap64 (a0 + t127)) (wrap64 (a1 - (wrap64 (12 * t128)))) a2 0 y132 (y132.length : Int) 0)) else (none)) else (none)) = some r := by first | (rw [hji6] at H; exact H) | (simp only [hji6] at H ⊢; exact H)
  (try rw [hji6] at A4)
  (try rw [hji6] at A5)
  have hji6w : (IntKind.i64.wrap ((wrap64 (a1 - (wrap64 (12 * t128)))) - 1)) = ji6 := (i64_w _).trans hji6
  by_cases c7 : 0 ≤ (ji6)
  · rw [if_pos c7] at H
    have c7b0 := eq_true c7
    have c7b1 : decide (0 ≤ (ji6)) = true := decide_eq_true c7
    clear c7
    by_cases c8 : (ji6) ≤ (y129.length : Int)
    · rw [if_pos c8] at H
      have c8b0 := eq_true c8
      have c8b1 : decide ((ji6) ≤ (y129.length : Int)) = true := decide_eq_true c8
      clear c8
      obtain ⟨y132, hy132⟩ : ∃ y_ : List Int, y_ = (y129.take ((ji6) : Int).toNat) := ⟨_, rfl⟩
      replace H : (mastref2_dateOf.l0 k (wrap64 (a0 + t127)) (wrap64 (a1 - (wrap64 (12 * t128)))) a2 0 y132 (y132.length : Int) 0) = some r := by first | (rw [hy132]; with_reducible exact H) | (have H2_ := (Option.bind_some _ _).symm.trans H; rw [hy132]; with_reducible exact H2_) | (have H2_ := (Option.bind_some _ _).symm.trans H; with_reducible exact H2_) | with_reducible exact H | (rw [hy132]; exact H) | exact H
      have Ny132 := Aside0.mk hy132
      clear hy132
      have H' := Aside0.mk H
      clear H
      go_enter Try.func52, Try.ntmps52
      go_wp2_with (first | ((with_reducible refine gate_callee (f := 106) rfl ?_); refine goesL_ (some 13) rfl rfl Try.func106 (by kernel_rfl) rfl #[.int .i64 (wrap64 (a1 - 1)), .int .i64 12] rfl (by (try simp only [List.map_toArray, List.map_cons, List.map_nil]); first | done | rfl | (simp only [List.length_drop, List.length_take]; rfl)) ?_; (with_reducible refine (mastref2_floor.calls (wrap64 (a1 - 1)) 12 t127 _ A4.out).mono ?_); rintro e w' ⟨rfl, ⟨nd, rfl⟩⟩; refine ⟨_, rfl, ?_⟩) | ((with_reducible refine gate_callee (f := 106) rfl ?_); refine goesL_ (some 18) rfl rfl Try.func106 (by kernel_rfl) rfl #[.int .i64 (wrap64 (a1 - 1)), .int .i64 12] rfl (by (try simp only [List.map_toArray, List.map_cons, List.map_nil]); first | done | rfl | (simp only [List.length_drop, List.length_take]; rfl)) ?_; (with_reducible refine (mastref2_floor.calls (wrap64 (a1 - 1)) 12 t128 _ A5.out).mono ?_); rintro e w' ⟨rfl, ⟨nd, rfl⟩⟩; refine ⟨_, rfl, ?_⟩) | ((with_reducible refine gate_dst (N := 21) rfl ?_); refine Kd.R_lit (Kd.int .i64) _ 3 ?hg (N := 21) ?hd (xs := ([31, 28, 31, 30, 31, 30, 31, 31, 30, 31, 30, 31] : List Int)) (inner := [.int .i64 31, .int .i64 28, .int .i64 31, .int .i64 30, .int .i64 31, .int .i64 30, .int .i64 31, .int .i64 31, .int .i64 30, .int .i64 31, .int .i64 30, .int .i64 31]) (ok := fun _ => True) (okp := fun _ => True) ?hr ?hp (fun _ hk => hk) trivial (Below.refl _ _) (Nat.le_refl _) (by simp) ?_; (case hd => rfl); (case hg => rfl); (case hr => first | (go_simp; done) | (go_simp; rfl)); (case hp => exact (Reps.one (show Kd.M (Kd.int .i64) _ _ _ 31 [.int .i64 31] from rfl) (Reps.one (show Kd.M (Kd.int .i64) _ _ _ 28 [.int .i64 28] from rfl) (Reps.one (show Kd.M (Kd.int .i64) _ _ _ 31 [.int .i64 31] from rfl) (Reps.one (show Kd.M (Kd.int .i64) _ _ _ 30 [.int .i64 30] from rfl) (Reps.one (show Kd.M (Kd.int .i64) _ _ _ 31 [.int .i64 31] from rfl) (Reps.one (show Kd.M (Kd.int .i64) _ _ _ 30 [.int .i64 30] from rfl) (Reps.one (show Kd.M (Kd.int .i64) _ _ _ 31 [.int .i64 31] from rfl) (Reps.one (show Kd.M (Kd.int .i64) _ _ _ 31 [.int .i64 31] from rfl) (Reps.one (show Kd.M (Kd.int .i64) _ _ _ 30 [.int .i64 30] from rfl) (Reps.one (show Kd.M (Kd.int .i64) _ _ _ 31 [.int .i64 31] from rfl) (Reps.one (show Kd.M (Kd.int .i64) _ _ _ 30 [.int .i64 30] from rfl) (Reps.one (show Kd.M (Kd.int .i64) _ _ _ 31 [.int .i64 31] from rfl) (Reps.none _ _)))))))))))))); intro v130 w9 ho10 hb hg_ hnew_; clear hg_ hnew_; (first | rw [← Ny129.out] at ho10 | (simp only [Int.reduceToNat] at ho10; rw [← Ny129.out] at ho10)); have n0_ := Aside0.mk (Kd.R_lower ho10 (below_size (by repeat (first | (with_reducible first | exact HB.out | apply below_alloc | apply pw_below_drewN | apply below_drew1) | exact HB.out)))); have n1_ := Aside0.mk (below_step (by repeat (first | (with_reducible first | exact HB.out | apply below_alloc | apply pw_below_drewN | apply below_drew1) | exact HB.out)) hb); clear HB; have HO131 := n0_; have HB := n1_; clear n0_ n1_; clear hb ho10; obtain ⟨Ao12, co12, eo12⟩ := Kd.R_slice HO131.out; subst eo12; have q11 : ((ji6) : Int) ≤ ((y129.length : Int) : Int) := of_decide_eq_true (by first | (with_reducible assumption) | assumption); obtain ⟨i011, hi011, _, hsz11, _⟩ := info_parts info3; have hroom11 : y129.length ≤ co12 := (Kd.R_reads' HO131.out).2.1; have hC11 : Kd.C (Kd.int .i64) _ Ao12 y129.length y129 := (Kd.R_reads' HO131.out).2.2; have hcut11 := cut_to (P := Try.prog) 30 3 .i64 Try.underlying30 hi011 Ao12 y129.length co12 (ji6) (of_decide_eq_true (by first | (with_reducible assumption) | assumption)) q11 hroom11; have hr11 := Kd.C_take (m := ((ji6) : Int).toNat) hC11 (by omega); have hy11 : y132.length = ((ji6) : Int).toNat := (by rw [Ny132.out, List.length_take]; omega); rw [← Ny132.out] at hr11; rw [← hy11] at hcut11; have HR135 := Aside0.mk hr11; have HC135 := Aside0.mk (show y132.length ≤ co12 from by omega); clear hr11 hC11 hroom11 hi011 hsz11; have KY11 := Aside0.mk hy11; clear hy11; have KL11 := Aside0.mk (show ((ji6) : Int).toNat ≤ y129.length from by omega); replace q11 := eq_true q11))
      go_loopg [7, 26] k (fun kq v7 v26 w' => ∃ (x7_1 : Int) (x26_1 : Int), v7 = .int .i64 x7_1 ∧ v26 = .int .i64 x26_1 ∧ Aside0 (mastref2_dateOf.l0 kq (wrap64 (a0 + t127)) (wrap64 (a1 - (wrap64 (12 * t128)))) a2 x7_1 y132 (y132.length : Int) x26_1 = some r) ∧ Aside0 (kq ≤ k) ∧ Aside0 (Kd.C (Kd.int .i64) w' Ao12 y132.length y132) ∧ Aside0 (Below w.heap.size w w'))
      case atStart => exact ⟨(0), (0), (by first | rfl | (simp; done) | (simp [*]; done)), (by first | rfl | (simp; done) | (simp [*]; done)), H', ⟨Nat.le_refl _⟩, ⟨by repeat (first | (with_reducible exact HR135.out) | (with_reducible refine Kd.C_alloc ?_ _) | (with_reducible refine Kd.C_drewN ?_ _) | (with_reducible refine Kd.C_drew ?_) | exact HR135.out)⟩, ⟨by repeat (first | (with_reducible first | exact HB.out | apply below_alloc | apply pw_below_drewN | apply below_drew1) | exact HB.out)⟩⟩
      case round =>
        clear H'
        try clear c1
        try clear q1
        try clear p2
        try clear c5
        try clear p6
        try clear c7
        try clear c7b0
        try clear c7b1
        try clear c8
        try clear c8b0
        try clear c8b1
        try clear c10
        try clear q11
        try clear q11
        obtain ⟨x7_1, x26_1, rfl, rfl, HA, HK1, HR135, HB⟩ := hrel
        cases gk with
        | zero => exact absurd HA.out (by simp [mastref2_dateOf.l0])
        | succ k1 =>
          have H := HA.out
          clear HA
          simp only [mastref2_dateOf.l0] at H
          by_cases c13 : x26_1 < (y132.length : Int)
          · rw [if_pos c13] at H
            have c13b0 : decide (x26_1 < (y132.length : Int)) = true := decide_eq_true c13
            clear c13
            by_cases c14 : 0 ≤ x26_1
            · rw [if_pos c14] at H
              have c14b0 : decide (0 ≤ x26_1) = true := decide_eq_true c14
              clear c14
              by_cases c15 : x26_1 < (y132.length : Int)
              · rw [if_pos c15] at H
                have c15b0 : decide (x26_1 < (y132.length : Int)) = true := decide_eq_true c15
                clear c15
                have H' := Aside0.mk H
                clear H
                have p136 : 0 ≤ (x26_1 : Int) := of_decide_eq_true (by first | (with_reducible assumption) | assumption)
                have q136 : x26_1 < (y132.length : Int) := of_decide_eq_true (by first | (with_reducible assumption) | assumption)
                obtain ⟨ad136, e136, hx136_0⟩ := Kd.at_int HR135.out x26_1 p136 q136
                cases e136
                (try replace hx136_0 := (HB.out.cell (World.block_lt_of_cell? w _ hx136_0)).trans hx136_0)
                replace p136 := eq_true p136
                replace q136 := eq_true q136
                go_wp2
                go_roundg k1
                case measure => have := HK1.out; omega
                case rel => exact ⟨(wrap64 (x7_1 + (rd y132 x26_1))), (wrap64 (x26_1 + 1)), (by first | rfl | (simp; done) | (simp [*]; done)), (by first | rfl | (simp; done) | (simp [*]; done)), H', ⟨by have := HK1.out; omega⟩, ⟨by repeat (first | (with_reducible exact HR135.out) | (with_reducible refine Kd.C_alloc ?_ _) | (with_reducible refine Kd.C_drewN ?_ _) | (with_reducible refine Kd.C_drew ?_) | exact HR135.out)⟩, ⟨by repeat (first | (with_reducible first | exact HB.out | apply below_alloc | apply pw_below_drewN | apply below_drew1) | exact HB.out)⟩⟩
              · rw [if_neg c15] at H
                exact absurd H (by simp)
            · rw [if_neg c14] at H
              exact absurd H (by simp)
          · rw [if_neg c13] at H
            have c13b0 : decide (x26_1 < (y132.length : Int)) = false := decide_eq_false c13
            clear c13
            by_cases c16 : (wrap64 (a1 - (wrap64 (12 * t128)))) > 2
            · rw [if_pos c16] at H
              have c16b0 : decide (2 < (wrap64 (a1 - (wrap64 (12 * t128))))) = true := decide_eq_true c16
              clear c16
              replace H := Option.bind_eq_some_iff.mp H
              obtain ⟨t137, A170, H⟩ := H
              replace H : (if t137 = true then ((mastref2_yearDay.f (wrap64 (a0 + t127))).bind fun t138 => (some (wrap64 ((wrap64 ((wrap64 (t138 + (wrap64 (x7_1 + 1)))) + a2)) - 1)))) else ((mastref2_yearDay.f (wrap64 (a0 + t127))).bind fun t139 => (some (wrap64 ((wrap64 ((wrap64 (t139 + x7_1)) + a2)) - 1))))) = some r := H
              have A17 := Aside0.mk A170
              clear A170
              by_cases c18 : t137 = true
              · subst c18
                have H1 : ((mastref2_yearDay.f (wrap64 (a0 + t127))).bind fun t138 => (some (wrap64 ((wrap64 ((wrap64 (t138 + (wrap64 (x7_1 + 1)))) + a2)) - 1)))) = some r := by rw [if_pos rfl] at H; exact H
                clear H
                have H := H1
                clear H1
                replace H := Option.bind_eq_some_iff.mp H
                obtain ⟨t138, A190, H⟩ := H
                replace H : (some (wrap64 ((wrap64 ((wrap64 (t138 + (wrap64 (x7_1 + 1)))) + a2)) - 1))) = some r := H
                have A19 := Aside0.mk A190
                clear A190
                obtain rfl := Option.some.inj H
                go_wp2_with (first | (go_at_call 107; (with_reducible refine (mastref2_leap.calls (wrap64 (a0 + t127)) true _ A17.out).mono ?_); rintro e w' ⟨rfl, ⟨nd, rfl⟩⟩) | ((with_reducible refine gate_callee (f := 108) rfl ?_); refine goesL_ (some 43) rfl rfl Try.func108 (by kernel_rfl) rfl #[.int .i64 (wrap64 (a0 + t127))] rfl (by (try simp only [List.map_toArray, List.map_cons, List.map_nil]); first | done | rfl | (simp only [List.length_drop, List.length_take]; rfl)) ?_; (with_reducible refine (mastref2_yearDay.calls (wrap64 (a0 + t127)) t138 _ A19.out).mono ?_); rintro e w' ⟨rfl, ⟨nd, rfl⟩⟩; refine ⟨_, rfl, ?_⟩))
                go_ret
                exact ⟨by first | rfl | (simp [errW_none, errW_some] <;> rfl) | (simp only [← hji6]; first | rfl | (simp [errW_none, errW_some] <;> rfl)) | (simp [*, errW_none, errW_some] <;> rfl), by repeat (first | (with_reducible first | exact HB.out | apply below_alloc | apply pw_below_drewN | apply below_drew1) | exact HB.out)⟩
              · replace c18 := Bool.eq_false_iff.mpr c18
                subst c18
                have H1 : ((mastref2_yearDay.f (wrap64 (a0 + t127))).bind fun t139 => (some (wrap64 ((wrap64 ((wrap64 (t139 + x7_1)) + a2)) - 1)))) = some r := by rw [if_neg (show ¬ (false = true) by decide)] at H; exact H
                clear H
                have H := H1
                clear H1
                replace H := Option.bind_eq_some_iff.mp H
                obtain ⟨t139, A200, H⟩ := H
                replace H : (some (wrap64 ((wrap64 ((wrap64 (t139 + x7_1)) + a2)) - 1))) = some r := H
                have A20 := Aside0.mk A200
                clear A200
                obtain rfl := Option.some.inj H
                go_wp2_with (first | (go_at_call 107; (with_reducible refine (mastref2_leap.calls (wrap64 (a0 + t127)) false _ A17.out).mono ?_); rintro e w' ⟨rfl, ⟨nd, rfl⟩⟩) | ((with_reducible refine gate_callee (f := 108) rfl ?_); refine goesL_ (some 43) rfl rfl Try.func108 (by kernel_rfl) rfl #[.int .i64 (wrap64 (a0 + t127))] rfl (by (try simp only [List.map_toArray, List.map_cons, List.map_nil]); first | done | rfl | (simp only [List.length_drop, List.length_take]; rfl)) ?_; (with_reducible refine (mastref2_yearDay.calls (wrap64 (a0 + t127)) t139 _ A20.out).mono ?_); rintro e w' ⟨rfl, ⟨nd, rfl⟩⟩; refine ⟨_, rfl, ?_⟩))
                go_ret
                exact ⟨by first | rfl | (simp [errW_none, errW_some] <;> rfl) | (simp only [← hji6]; first | rfl | (simp [errW_none, errW_some] <;> rfl)) | (simp [*, errW_none, errW_some] <;> rfl), by repeat (first | (with_reducible first | exact HB.out | apply below_alloc | apply pw_below_drewN | apply below_drew1) | exact HB.out)⟩
            · rw [if_neg c16] at H
              have c16b0 : decide (2 < (wrap64 (a1 - (wrap64 (12 * t128))))) = false := decide_eq_false c16
              clear c16
              replace H := Option.bind_eq_some_iff.mp H
              obtain ⟨t140, A210, H⟩ := H
              replace H : (some (wrap64 ((wrap64 ((wrap64 (t140 + x7_1)) + a2)) - 1))) = some r := H
              have A21 := Aside0.mk A210
              clear A210
              obtain rfl := Option.some.inj H
              go_wp2_with (first | ((with_reducible refine gate_callee (f := 108) rfl ?_); refine goesL_ (some 43) rfl rfl Try.func108 (by kernel_rfl) rfl #[.int .i64 (wrap64 (a0 + t127))] rfl (by (try simp only [List.map_toArray, List.map_cons, List.map_nil]); first | done | rfl | (simp only [List.length_drop, List.length_take]; rfl)) ?_; (with_reducible refine (mastref2_yearDay.calls (wrap64 (a0 + t127)) t140 _ A21.out).mono ?_); rintro e w' ⟨rfl, ⟨nd, rfl⟩⟩; refine ⟨_, rfl, ?_⟩))
              go_ret
              exact ⟨by first | rfl | (simp [errW_none, errW_some] <;> rfl) | (simp only [← hji6]; first | rfl | (simp [errW_none, errW_some] <;> rfl)) | (simp [*, errW_none, errW_some] <;> rfl), by repeat (first | (with_reducible first | exact HB.out | apply below_alloc | apply pw_below_drewN | apply below_drew1) | exact HB.out)⟩
    · rw [if_neg c8] at H
      exact absurd H (by simp)
  · rw [if_neg c7] at H
    exact absurd H (by simp)

/-! ### mastref2_date_number: function 53 -/
def mastref2_date_number.f (a0 : Int) : Option (Int) := (mastref2_date_parts.f a0).bind fun bt141 => (some bt141.2.2)
set_option maxHeartbeats 8000000 in
set_option maxRecDepth 100000 in
theorem mastref2_date_number.calls (a0 : Int) (r : Int) (w : World) (h : mastref2_date_number.f a0 = some r) :
    Calls Try.prog 53 #[.int .i64 a0] w fun e w' => e = .returned (.int .i64 r) ∧ Drawn0 w w' := by
  have H : ((mastref2_date_parts.f a0).bind fun bt141 => (some bt141.2.2)) = some r := h
  clear h
  replace H := Option.bind_eq_some_iff.mp H
  obtain ⟨⟨t141, t142, t143⟩, A20, H⟩ := H
  replace H : (some t143) = some r := H
  have A2 := Aside0.mk A20
  clear A20
  obtain rfl := Option.some.inj H
  go_enter Try.func53, Try.ntmps53
  go_wp2_with (first | ((with_reducible refine gate_callee (f := 66) rfl ?_); refine goesL_ (some 8) rfl rfl Try.func66 (by kernel_rfl) rfl #[.int .i64 a0] rfl (by (try simp only [List.map_toArray, List.map_cons, List.map_nil]); first | done | rfl | (simp only [List.length_drop, List.length_take]; rfl)) ?_; (with_reducible refine (mastref2_date_parts.calls a0 t141 t142 t143 _ A2.out).mono ?_); rintro e w' ⟨rfl, ⟨nd, rfl⟩⟩; refine ⟨_, rfl, ?_⟩))
  go_ret
  exact ⟨by first | rfl | (simp; done) | (simp [*]; done), by repeat (first | exact Drawn0.refl _ | apply Drawn0.step)⟩

/-! ### mastref2_DayOf: function 23 -/
def mastref2_DayOf.j0 : Nat → Int → Int → Int → Bool → Option (Int × Int)
  | 0, _, _, _, _ => none
  | k + 1, x0, x1, x2, x30 => if x30 = true then (some (0, 2)) else ((mastref2_dateOf.f k x0 x1 x2).bind fun t144 => ((mastref2_date_number.f t144).bind fun t145 => (if t145 = x2 then (some (wrap64 (t144 + 11323), 0)) else (some (0, 2)))))
def mastref2_DayOf.f (k : Nat) (a0 : Int) (a1 : Int) (a2 : Int) : Option (Int × Int) := if a0 < 1970 then (mastref2_DayOf.j0 k a0 a1 a2 true) else (if a0 > 2199 then (mastref2_DayOf.j0 k a0 a1 a2 true) else (if a1 < 1 then (mastref2_DayOf.j0 k a0 a1 a2 true) else (if a1 > 12 then (mastref2_DayOf.j0 k a0 a1 a2 true) else (if a2 < 1 then (mastref2_DayOf.j0 k a0 a1 a2 true) else (mastref2_DayOf.j0 k a0 a1 a2 (decide (a2 > 31)))))))
theorem mastref2_DayOf.mono_l : ∀ k, (∀ y0 y1 y2 y3, LeO (mastref2_DayOf.j0 k y0 y1 y2 y3) (mastref2_DayOf.j0 (k + 1) y0 y1 y2 y3))
  | 0 => fun _ _ _ _ r h => by simp [mastref2_DayOf.j0] at h
  | k + 1 => by
    have ih0 := mastref2_DayOf.mono_l k
    · intro y0 y1 y2 y3
      unfold mastref2_DayOf.j0
      repeat' first
      | (with_reducible exact ih0 _ _ _ _)
      | (with_reducible exact mastref2_dateOf.mono _ _ _ _)
      | (with_reducible exact LeO.refl _)
      | (with_reducible exact LeO.none _)
      | (with_reducible refine LeO.ite ?_ ?_)
      | (with_reducible refine LeO.bind ?_ (fun _ => ?_))
      | exact ih0 _ _ _ _
      | exact mastref2_dateOf.mono _ _ _ _
      | exact LeO.none _
      | refine LeO.ite ?_ ?_
      | refine LeO.bind ?_ (fun _ => ?_)
theorem mastref2_DayOf.mono : ∀ a0 a1 a2 k, LeO (mastref2_DayOf.f k a0 a1 a2) (mastref2_DayOf.f (k + 1) a0 a1 a2) := by
  intro a0 a1 a2 k
  have ih0 := mastref2_DayOf.mono_l k
  unfold mastref2_DayOf.f
  repeat' first
      | (with_reducible exact ih0 _ _ _ _)
      | (with_reducible exact mastref2_dateOf.mono _ _ _ _)
      | (with_reducible exact LeO.refl _)
      | (with_reducible exact LeO.none _)
      | (with_reducible refine LeO.ite ?_ ?_)
      | (with_reducible refine LeO.bind ?_ (fun _ => ?_))
      | exact ih0 _ _ _ _
      | exact mastref2_dateOf.mono _ _ _ _
      | exact LeO.none _
      | refine LeO.ite ?_ ?_
      | refine LeO.bind ?_ (fun _ => ?_)
set_option maxHeartbeats 8000000 in
set_option maxRecDepth 100000 in
theorem mastref2_DayOf.calls (k : Nat) (a0 : Int) (a1 : Int) (a2 : Int) (r1 : Int) (r2 : Int) (w : World) (h : mastref2_DayOf.f k a0 a1 a2 = some (r1, r2)) :
    Calls Try.prog 23 #[.int .i64 a0, .int .i64 a1, .int .i64 a2] w fun e w' => e = .returned (.tuple #[.int .i64 r1, .int .i64 r2]) ∧ Below w.heap.size w w' := by
  have HB := Aside0.mk (Below.refl w.heap.size w)
  have H : (if a0 < 1970 then (mastref2_DayOf.j0 k a0 a1 a2 true) else (if a0 > 2199 then (mastref2_DayOf.j0 k a0 a1 a2 true) else (if a1 < 1 then (mastref2_DayOf.j0 k a0 a1 a2 true) else (if a1 > 12 then (mastref2_DayOf.j0 k a0 a1 a2 true) else (if a2 < 1 then (mastref2_DayOf.j0 k a0 a1 a2 true) else (mastref2_DayOf.j0 k a0 a1 a2 (decide (a2 > 31)))))))) = some (r1, r2) := h
  clear h
  have HC4 := Aside0.mk H
  clear H
  go_enter Try.func23, Try.ntmps23
  go_upto_region 1 with (fail)
  go_cut [30] (fun v30 wc => ∃ (kq : Nat) (x30_3 : Bool), v30 = .bool x30_3 ∧ Aside0 (mastref2_DayOf.j0 kq a0 a1 a2 x30_3 = some (r1, r2)) ∧ Aside0 (kq ≤ k) ∧ Aside0 (Below w.heap.size w wc))
  case first =>
    have H := HC4.out
    clear HC4
    by_cases c5 : a0 < 1970
    · rw [if_pos c5] at H
      have c5b0 : decide (a0 < 1970) = true := decide_eq_true c5
      clear c5
      (first | rw [c5b0] | (simp only [i64_w, i32_w]; rw [c5b0]) | skip)
      have H' := Aside0.mk H
      clear H
      go_wp2
      go_meet
      case rel => exact ⟨_, (true), (by first | rfl | (simp; done) | (simp [*]; done)), H', ⟨by first | omega | exact Nat.le_refl _⟩, ⟨by repeat (first | (with_reducible first | exact HB.out | apply below_alloc | apply pw_below_drewN | apply below_drew1) | exact HB.out)⟩⟩
    · rw [if_neg c5] at H
      have c5b0 : decide (a0 < 1970) = false := decide_eq_false c5
      clear c5
      (first | rw [c5b0] | (simp only [i64_w, i32_w]; rw [c5b0]) | skip)
      by_cases c6 : a0 > 2199
      · rw [if_pos c6] at H
        have c6b0 : decide (2199 < a0) = true := decide_eq_true c6
        clear c6
        have H' := Aside0.mk H
        clear H
        go_wp2
        go_meet
        case rel => exact ⟨_, (true), (by first | rfl | (simp; done) | (simp [*]; done)), H', ⟨by first | omega | exact Nat.le_refl _⟩, ⟨by repeat (first | (with_reducible first | exact HB.out | apply below_alloc | apply pw_below_drewN | apply below_drew1) | exact HB.out)⟩⟩
      · rw [if_neg c6] at H
        have c6b0 : decide (2199 < a0) = false := decide_eq_false c6
        clear c6
        by_cases c7 : a1 < 1
        · rw [if_pos c7] at H
          have c7b0 : decide (a1 < 1) = true := decide_eq_true c7
          clear c7
          have H' := Aside0.mk H
          clear H
          go_wp2
          go_meet
          case rel => exact ⟨_, (true), (by first | rfl | (simp; done) | (simp [*]; done)), H', ⟨by first | omega | exact Nat.le_refl _⟩, ⟨by repeat (first | (with_reducible first | exact HB.out | apply below_alloc | apply pw_below_drewN | apply below_drew1) | exact HB.out)⟩⟩
        · rw [if_neg c7] at H
          have c7b0 : decide (a1 < 1) = false := decide_eq_false c7
          clear c7
          by_cases c8 : a1 > 12
          · rw [if_pos c8] at H
            have c8b0 : decide (12 < a1) = true := decide_eq_true c8
            clear c8
            have H' := Aside0.mk H
            clear H
            go_wp2
            go_meet
            case rel => exact ⟨_, (true), (by first | rfl | (simp; done) | (simp [*]; done)), H', ⟨by first | omega | exact Nat.le_refl _⟩, ⟨by repeat (first | (with_reducible first | exact HB.out | apply below_alloc | apply pw_below_drewN | apply below_drew1) | exact HB.out)⟩⟩
          · rw [if_neg c8] at H
            have c8b0 : decide (12 < a1) = false := decide_eq_false c8
            clear c8
            by_cases c9 : a2 < 1
            · rw [if_pos c9] at H
              have c9b0 : decide (a2 < 1) = true := decide_eq_true c9
              clear c9
              have H' := Aside0.mk H
              clear H
              go_wp2
              go_meet
              case rel => exact ⟨_, (true), (by first | rfl | (simp; done) | (simp [*]; done)), H', ⟨by first | omega | exact Nat.le_refl _⟩, ⟨by repeat (first | (with_reducible first | exact HB.out | apply below_alloc | apply pw_below_drewN | apply below_drew1) | exact HB.out)⟩⟩
            · rw [if_neg c9] at H
              have c9b0 : decide (a2 < 1) = false := decide_eq_false c9
              clear c9
              have H' := Aside0.mk H
              clear H
              go_wp2
              go_meet
              case rel => exact ⟨_, (decide (a2 > 31)), (by first | rfl | (simp; done) | (simp [*]; done)), H', ⟨by first | omega | exact Nat.le_refl _⟩, ⟨by repeat (first | (with_reducible first | exact HB.out | apply below_alloc | apply pw_below_drewN | apply below_drew1) | exact HB.out)⟩⟩
  case rest =>
    clear HC4
    try clear c2
    try clear p2
    try clear c5
    try clear c5b0
    try clear c6
    try clear c6b0
    try clear c7
    try clear c7b0
    try clear c8
    try clear c8b0
    try clear c9
    try clear c9b0
    obtain ⟨kq, x30_3, rfl, HA, HJ3, HB⟩ := hcut
    cases kq with
    | zero => exact absurd HA.out (by simp [mastref2_DayOf.j0])
    | succ kj3 =>
      have H := HA.out
      clear HA
      simp only [mastref2_DayOf.j0] at H
      by_cases c10 : x30_3 = true
      · subst c10
        have H1 : (some (0, 2)) = some (r1, r2) := by rw [if_pos rfl] at H; exact H
        clear H
        have H := H1
        clear H1
        simp only [Option.some.injEq, Prod.mk.injEq] at H
        obtain ⟨rfl, rfl⟩ := H
        go_wp2
        go_ret2
        exact ⟨by first | rfl | (simp [errW_none, errW_some] <;> rfl) | (simp [*, errW_none, errW_some] <;> rfl), by repeat (first | (with_reducible first | exact HB.out | apply below_alloc | apply pw_below_drewN | apply below_drew1) | exact HB.out)⟩
      · replace c10 := Bool.eq_false_iff.mpr c10
        subst c10
        have H1 : ((mastref2_dateOf.f kj3 a0 a1 a2).bind fun t144 => ((mastref2_date_number.f t144).bind fun t145 => (if t145 = a2 then (some (wrap64 (t144 + 11323), 0)) else (some (0, 2))))) = some (r1, r2) := by rw [if_neg (show ¬ (false = true) by decide)] at H; exact H
        clear H
        have H := H1
        clear H1
        replace H := Option.bind_eq_some_iff.mp H
        obtain ⟨t144, A110, H⟩ := H
        replace H : ((mastref2_date_number.f t144).bind fun t145 => (if t145 = a2 then (some (wrap64 (t144 + 11323), 0)) else (some (0, 2)))) = some (r1, r2) := H
        have A11 := Aside0.mk A110
        clear A110
        replace H := Option.bind_eq_some_iff.mp H
        obtain ⟨t145, A120, H⟩ := H
        replace H : (if t145 = a2 then (some (wrap64 (t144 + 11323), 0)) else (some (0, 2))) = some (r1, r2) := H
        have A12 := Aside0.mk A120
        clear A120
        by_cases c13 : t145 = a2
        · rw [if_pos c13] at H
          have c13b0 : (t145 == a2) = true := beq_iff_eq.mpr c13
          have c13b1 : (t145 != a2) = false := bne_eq_false_iff_eq.mpr c13
          clear c13
          simp only [Option.some.injEq, Prod.mk.injEq] at H
          obtain ⟨rfl, rfl⟩ := H
          go_wp2_with (first | ((with_reducible refine gate_callee (f := 52) rfl ?_); refine goesL_ (some 34) rfl rfl Try.func52 (by kernel_rfl) rfl #[.int .i64 a0, .int .i64 a1, .int .i64 a2] rfl (by (try simp only [List.map_toArray, List.map_cons, List.map_nil]); first | done | rfl | (simp only [List.length_drop, List.length_take]; rfl)) ?_; (with_reducible refine (mastref2_dateOf.calls kj3 a0 a1 a2 t144 _ A11.out).mono ?_); rintro e w14 ⟨rfl, hb⟩; refine ⟨_, rfl, ?_⟩; have n0_ := Aside0.mk (below_step (by repeat (first | (with_reducible first | exact HB.out | apply below_alloc | apply pw_below_drewN | apply below_drew1) | exact HB.out)) hb); clear HB; have HB := n0_; clear n0_; (try clear hb); (try clear hb2); (try clear hk); (try clear hi)) | ((with_reducible refine gate_callee (f := 53) rfl ?_); refine goesL_ (some 36) rfl rfl Try.func53 (by kernel_rfl) rfl #[.int .i64 t144] rfl (by (try simp only [List.map_toArray, List.map_cons, List.map_nil]); first | done | rfl | (simp only [List.length_drop, List.length_take]; rfl)) ?_; (with_reducible refine (mastref2_date_number.calls t144 t145 _ A12.out).mono ?_); rintro e w' ⟨rfl, ⟨nd, rfl⟩⟩; refine ⟨_, rfl, ?_⟩))
          go_ret2
          exact ⟨by first | rfl | (simp [errW_none, errW_some] <;> rfl) | (simp [*, errW_none, errW_some] <;> rfl), by repeat (first | (with_reducible first | exact HB.out | apply below_alloc | apply pw_below_drewN | apply below_drew1) | exact HB.out)⟩
        · rw [if_neg c13] at H
          have c13b0 : (t145 == a2) = false := beq_eq_false_iff_ne.mpr c13
          have c13b1 : (t145 != a2) = true := bne_iff_ne.mpr c13
          simp only [Option.some.injEq, Prod.mk.injEq] at H
          obtain ⟨rfl, rfl⟩ := H
          go_wp2_with (first | ((with_reducible refine gate_callee (f := 52) rfl ?_); refine goesL_ (some 34) rfl rfl Try.func52 (by kernel_rfl) rfl #[.int .i64 a0, .int .i64 a1, .int .i64 a2] rfl (by (try simp only [List.map_toArray, List.map_cons, List.map_nil]); first | done | rfl | (simp only [List.length_drop, List.length_take]; rfl)) ?_; (with_reducible refine (mastref2_dateOf.calls kj3 a0 a1 a2 t144 _ A11.out).mono ?_); rintro e w15 ⟨rfl, hb⟩; refine ⟨_, rfl, ?_⟩; have n0_ := Aside0.mk (below_step (by repeat (first | (with_reducible first | exact HB.out | apply below_alloc | apply pw_below_drewN | apply below_drew1) | exact HB.out)) hb); clear HB; have HB := n0_; clear n0_; (try clear hb); (try clear hb2); (try clear hk); (try clear hi)) | ((with_reducible refine gate_callee (f := 53) rfl ?_); refine goesL_ (some 36) rfl rfl Try.func53 (by kernel_rfl) rfl #[.int .i64 t144] rfl (by (try simp only [List.map_toArray, List.map_cons, List.map_nil]); first | done | rfl | (simp only [List.length_drop, List.length_take]; rfl)) ?_; (with_reducible refine (mastref2_date_number.calls t144 t145 _ A12.out).mono ?_); rintro e w' ⟨rfl, ⟨nd, rfl⟩⟩; refine ⟨_, rfl, ?_⟩))
          go_ret2
          exact ⟨by first | rfl | (simp [errW_none, errW_some] <;> rfl) | (simp [*, errW_none, errW_some] <;> rfl), by repeat (first | (with_reducible first | exact HB.out | apply below_alloc | apply pw_below_drewN | apply below_drew1) | exact HB.out)⟩

end Go.Proofs.Ytmjfjjnmdljkeaa.GDayMonths
