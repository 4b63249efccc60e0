/- The plan of an image's cut is the reference's, with the same errors. Conditions: none. -/
import Derived.Test.YtmjfjjnmdljkeaaLImagePlansOp
set_option linter.unusedVariables false
set_option linter.unusedSimpArgs false
namespace Go.Proofs.Ytmjfjjnmdljkeaa.LImagePlans
open Go Go.Proofs.Ytmjfjjnmdljkeaa.Lift

def R (a b : Int) : Int := wquo .i64 (wadd .i64 (wmul .i64 2 a) b) (wmul .i64 2 b)
theorem two (b : Int) (h : 1 ≤ b ∧ b ≤ 64) : ieq (wmul .i64 2 b) 0 = false := ieq_f (by rw [wmul64 (by omega) (by omega)]; omega)
theorem ar (a b : Int) (h : 1 ≤ b ∧ b ≤ 64) : asset_rounded.f a b = some (imax 1 (R a b)) := by
  simp only [asset_rounded.f, two b h, cond_false, R]
theorem mr (a b : Int) (h : 1 ≤ b ∧ b ≤ 64) : mastref2_rounded.f a b = some (R a b) := by
  simp only [mastref2_rounded.f, two b h, cond_false, R]
theorem sideA (a : Int) : asset_isSide.f a = some (decide (1 ≤ a ∧ a ≤ 64)) := by
  unfold asset_isSide.f
  simp only [ile_d, Bool.cond_false_right, ← Bool.decide_and]
theorem sideM (a : Int) : mastref2_isSide.f a = some (decide (1 ≤ a ∧ a ≤ 64)) := sideA a

theorem imin_pos {a b : Int} (ha : 1 ≤ a) (hb : 1 ≤ b) : ieq (imin a b) 0 = false := ieq_f (by unfold imin; split <;> omega)

theorem rest (a0 a1 x y z : Int) (s0 : 1 ≤ a0 ∧ a0 ≤ 64) (s1 : 1 ≤ a1 ∧ a1 ≤ 64) (hx : x = 1 ∨ x = 2 ∨ x = 3 ∨ x = 4) (hy : x ≠ 4 → 1 ≤ y) (hz : x ≠ 3 → 1 ≤ z) (zy : x = 4 → y = 0) (zz : x = 3 → z = 0) :
    ∃ r, asset_Plan.l1 9 a0 a1 x y z 0 0 0 0 0 0 false = some r ∧ mastref2_PlanOf.l3 7 a0 a1 x y z 0 0 0 0 0 0 false = some r := by
  have e1 : ∀ a, mastref2_PlanOf_c1.f a 0 0 a0 a1 0 0 a1 a0 = some (T_asset_Cut.mk 0 0 a0 a1 a (imax 1 (R (wmul .i64 a1 a) a0)), (0, 0, a0, a1, 0, 0, a1, a0, ())) := fun a => by
    unfold mastref2_PlanOf_c1.f
    rw [mr _ _ s0]
    rfl
  have e2 : ∀ a, mastref2_PlanOf_c2.f a 0 0 a0 a1 0 0 a0 a1 = some (T_asset_Cut.mk 0 0 a0 a1 (imax 1 (R (wmul .i64 a0 a) a1)) a, (0, 0, a0, a1, 0, 0, a0, a1, ())) := fun a => by
    unfold mastref2_PlanOf_c2.f
    rw [mr _ _ s1]
    rfl
  simp only [asset_Plan.l1, mastref2_PlanOf.l3, ar _ _ s0, ar _ _ s1, e1, e2, Option.bind_some]
  rcases hx with rfl | rfl | rfl | rfl
  · simp only [ieq_d, Bool.false_eq_true, Int.reduceEq, decide_true, decide_false, cond_true, cond_false]
    cases ile (imax 1 (R (wmul .i64 a1 (imin y a0)) a0)) (imin z a1)
    · exact ⟨_, rfl, rfl⟩
    · exact ⟨_, rfl, rfl⟩
  · have hy0 := imin_pos (hy (by decide)) s0.1
    have hz0 := imin_pos (hz (by decide)) s1.1
    simp only [show ieq 2 4 = false from rfl, show ieq 2 3 = false from rfl, show ieq 2 2 = true from rfl, show ieq 2 1 = false from rfl, cond_true, cond_false, asset_filled.f]
    cases ilt (wmul .i64 a1 (imin y a0)) (wmul .i64 a0 (imin z a1))
    · simp only [cond_false, hy0]
      exact ⟨_, rfl, rfl⟩
    · simp only [cond_true, cond_false, hz0]
      exact ⟨_, rfl, rfl⟩
  · obtain rfl := zz rfl
    simp only [ieq_d, Bool.false_eq_true, Int.reduceEq, decide_true, decide_false, cond_true, cond_false, Bool.not_true]
    exact ⟨_, rfl, rfl⟩
  · obtain rfl := zy rfl
    simp only [ieq_d, Bool.false_eq_true, Int.reduceEq, decide_true, decide_false, cond_true, cond_false, Bool.not_true]
    exact ⟨_, rfl, rfl⟩

theorem inner (a0 a1 x y z : Int) (s0 : 1 ≤ a0 ∧ a0 ≤ 64) (s1 : 1 ≤ a1 ∧ a1 ≤ 64) : ∃ r, asset_Plan.l0 10 a0 a1 x y z 0 0 0 0 0 0 false = some r ∧ mastref2_PlanOf.l0 10 a0 a1 x y z 0 0 0 0 0 0 false = some r := by
  by_cases w1 : x < 1
  · exact ⟨(T_asset_Cut.mk 0 0 0 0 0 0, 1), by simp [asset_Plan.l0, ilt_t w1], by simp [mastref2_PlanOf.l0, ilt_t w1]⟩
  have u1 : ilt x 1 = false := ilt_f (by omega)
  by_cases w4 : 4 < x
  · exact ⟨(T_asset_Cut.mk 0 0 0 0 0 0, 1), by simp [asset_Plan.l0, u1, ilt_t w4], by simp [mastref2_PlanOf.l0, u1, ilt_t w4]⟩
  have u4 : ilt 4 x = false := ilt_f (by omega)
  have hx : x = 1 ∨ x = 2 ∨ x = 3 ∨ x = 4 := by omega
  by_cases sy : x = 4 ∨ (1 ≤ y ∧ y ≤ 64)
  · by_cases sz : x = 3 ∨ (1 ≤ z ∧ z ≤ 64)
    · by_cases zy : x = 4 → y = 0
      · by_cases zz : x = 3 → z = 0
        · obtain ⟨r, e1, e2⟩ := rest a0 a1 x y z s0 s1 hx (fun h => (sy.resolve_left h).1) (fun h => (sz.resolve_left h).1) zy zz
          refine ⟨r, ?_, ?_⟩
          · rw [← e1]
            rcases hx with rfl | rfl | rfl | rfl
            · simp [asset_Plan.l0, ieq_d, ilt_d, sideA, sy.resolve_left (by decide), sz.resolve_left (by decide)]
            · simp [asset_Plan.l0, ieq_d, ilt_d, sideA, sy.resolve_left (by decide), sz.resolve_left (by decide)]
            · simp [asset_Plan.l0, ieq_d, ilt_d, sideA, sy.resolve_left (by decide), zz rfl]
            · simp [asset_Plan.l0, ieq_d, ilt_d, sideA, sz.resolve_left (by decide), zy rfl]
          · rw [← e2]
            rcases hx with rfl | rfl | rfl | rfl
            · simp [mastref2_PlanOf.l0, mastref2_PlanOf.l1, mastref2_PlanOf.l2, ieq_d, ilt_d, sideM, sy.resolve_left (by decide), sz.resolve_left (by decide)]
            · simp [mastref2_PlanOf.l0, mastref2_PlanOf.l1, mastref2_PlanOf.l2, ieq_d, ilt_d, sideM, sy.resolve_left (by decide), sz.resolve_left (by decide)]
            · simp [mastref2_PlanOf.l0, mastref2_PlanOf.l1, mastref2_PlanOf.l2, ieq_d, ilt_d, sideM, sy.resolve_left (by decide), zz rfl]
            · simp [mastref2_PlanOf.l0, mastref2_PlanOf.l1, mastref2_PlanOf.l2, ieq_d, ilt_d, sideM, sz.resolve_left (by decide), zy rfl]
        · have h3 : x = 3 := by omega
          subst h3
          have hz : ¬ z = 0 := fun h => zz (fun _ => h)
          exact ⟨(T_asset_Cut.mk 0 0 0 0 0 0, 1), by simp [asset_Plan.l0, asset_Plan.l1, ieq_d, ilt_d, sideA, sy.resolve_left (by decide), hz], by simp [mastref2_PlanOf.l0, mastref2_PlanOf.l1, mastref2_PlanOf.l2, mastref2_PlanOf.l3, ieq_d, ilt_d, sideM, sy.resolve_left (by decide), hz]⟩
      · have h4 : x = 4 := by omega
        subst h4
        have hy : ¬ y = 0 := fun h => zy (fun _ => h)
        exact ⟨(T_asset_Cut.mk 0 0 0 0 0 0, 1), by simp [asset_Plan.l0, asset_Plan.l1, ieq_d, ilt_d, sideA, sz.resolve_left (by decide), hy], by simp [mastref2_PlanOf.l0, mastref2_PlanOf.l1, mastref2_PlanOf.l2, mastref2_PlanOf.l3, ieq_d, ilt_d, sideM, sz.resolve_left (by decide), hy]⟩
    · have h3 : ¬ x = 3 := fun h => sz (Or.inl h)
      have hz : ¬ (1 ≤ z ∧ z ≤ 64) := fun h => sz (Or.inr h)
      refine ⟨(T_asset_Cut.mk 0 0 0 0 0 0, 2), ?_, ?_⟩
      · by_cases h4 : x = 4
        · subst h4
          simp [asset_Plan.l0, asset_Plan.l1, ieq_d, ilt_d, sideA, decide_eq_false hz]
        · simp [asset_Plan.l0, asset_Plan.l1, ieq_d, u1, u4, sideA, decide_eq_false hz, sy.resolve_left h4, h3, h4]
      · by_cases h4 : x = 4
        · subst h4
          simp [mastref2_PlanOf.l0, mastref2_PlanOf.l1, mastref2_PlanOf.l2, ieq_d, ilt_d, sideM, decide_eq_false hz]
        · simp [mastref2_PlanOf.l0, mastref2_PlanOf.l1, mastref2_PlanOf.l2, ieq_d, u1, u4, sideM, decide_eq_false hz, sy.resolve_left h4, h3, h4]
  · have h4 : ¬ x = 4 := fun h => sy (Or.inl h)
    have hy : ¬ (1 ≤ y ∧ y ≤ 64) := fun h => sy (Or.inr h)
    refine ⟨(T_asset_Cut.mk 0 0 0 0 0 0, 2), ?_, ?_⟩
    · simp [asset_Plan.l0, asset_Plan.l1, ieq_d, u1, u4, sideA, decide_eq_false hy, h4]
    · simp [mastref2_PlanOf.l0, mastref2_PlanOf.l1, mastref2_PlanOf.l2, ieq_d, u1, u4, sideM, decide_eq_false hy, h4]

theorem both (a0 a1 : Int) (w : T_asset_Want) : ∃ r, asset_Plan.f 10 a0 a1 w = some r ∧ mastref2_PlanOf.f 10 a0 a1 w = some r := by
  unfold asset_Plan.f mastref2_PlanOf.f
  rw [sideA, sideA, sideM, sideM]
  simp only [Option.bind_some]
  by_cases s0 : 1 ≤ a0 ∧ a0 ≤ 64
  · rw [decide_eq_true s0]
    by_cases s1 : 1 ≤ a1 ∧ a1 ≤ 64
    · rw [decide_eq_true s1]
      exact inner a0 a1 w.fWay w.fWidth w.fHeight s0 s1
    · rw [decide_eq_false s1]
      exact ⟨(T_asset_Cut.mk 0 0 0 0 0 0, 2), by simp [asset_Plan.l0], by simp [mastref2_PlanOf.l0]⟩
  · rw [decide_eq_false s0]
    exact ⟨(T_asset_Cut.mk 0 0 0 0 0 0, 2), by simp [asset_Plan.l0], by simp [mastref2_PlanOf.l0]⟩

theorem pure_holds : Pure := by
  intro a b s _ _ _
  obtain ⟨r, e1, e2⟩ := both a b s
  refine ⟨10, ?_⟩
  unfold mastlaw2_ImagePlans.f
  simp only [e1, e2, Option.bind_some, ieq_self, cond_true, Bool.and_self]

end Go.Proofs.Ytmjfjjnmdljkeaa.LImagePlans
