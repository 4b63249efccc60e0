/- The window of parts that the program shows is the one that the law counts out, for all arguments. Conditions: none. -/
import Derived.Test.YtmjfjjnmdljkeaaPListWindowsx2
namespace Go.Proofs.Ytmjfjjnmdljkeaa.Pure
open Go.RowKit Go.Proofs.Ytmjfjjnmdljkeaa.PListWindows Go.Proofs.YtmjfjjnmdljkeaaW.PrintWords Go.Proofs.YtmjfjjnmdljkeaaW.PrintLast

theorem lw_wrap {a : Int} (h0 : 0 ≤ a) (h1 : a ≤ 100000) : wrap64 (a + 1) = a + 1 := by unfold wrap64; omega

theorem lw_same (l : List Int) (hl : l.length ≤ 100000) : ∀ (d : Nat) (i : Int), 0 ≤ i → (l.length : Int) - i = d → Ev (fun k => slices_Equal_int_int.l0 k l l (l.length : Int) i) true := by
  intro d
  induction d with
  | zero =>
    intro i h0 hd
    exact Ev.step (f := fun _ => some true) (fun k => by simp only [slices_Equal_int_int.l0]; rw [if_neg (by omega)]) (Ev.now _)
  | succ d ih =>
    intro i h0 hd
    refine Ev.step (fun k => ?_) (ih (i + 1) (by omega) (by omega))
    simp only [slices_Equal_int_int.l0]
    rw [if_pos (by omega), if_pos h0, if_pos (by omega), if_pos (by omega), if_pos trivial, lw_wrap h0 (by omega)]

theorem lw_same' (l : List Int) (hl : l.length ≤ 100000) : Ev (fun k => slices_Equal_int_int.f k l l) true :=
  Ev.congr (fun k => by unfold slices_Equal_int_int.f; rw [if_pos rfl]) (lw_same l hl l.length 0 (by omega) (by omega))

/-- Both loops append the same numbers. -/
theorem lw_loops (p n a : Int) (hp : p ≤ 2000) : ∀ (d : Nat) (x8 : List Int) (x9 x10 : Int), 0 ≤ x9 → x9 ≤ 2001 → 1 ≤ x10 → (p + 1 - x10).toNat ≤ d → x8.length + 2 * d ≤ 10000 →
    ∃ r, Ev (fun k => list_Window.l0 k p n a x8 x9 x10) (r, 0) ∧ r.length ≤ 100000 ∧ ∀ y b, Ev (fun k => slices_Equal_int_int.f k y r) b → Ev (fun k => mastlaw2_ListWindows.l0 k p n a y 0 x8 x9 x10) b := by
  intro d
  induction d with
  | zero =>
    intro x8 x9 x10 h1 h2 h3 h4 h5
    have hn : ¬ x10 ≤ p := by omega
    refine ⟨x8, Ev.step (f := fun _ => some (x8, 0)) (fun k => by simp only [list_Window.l0]; rw [if_neg hn]) (Ev.now _), by omega, fun y b hb => ?_⟩
    refine Ev.step (f := fun k => (slices_Equal_int_int.f k y x8).bind fun t => some t) (fun k => by simp only [mastlaw2_ListWindows.l0]; rw [if_neg hn, if_pos trivial]) (Ev.bind hb (Ev.now _))
  | succ d ih =>
    intro x8 x9 x10 h1 h2 h3 h4 h5
    by_cases hle : x10 ≤ p
    · have w10 := lw_wrap (a := x10) (by omega) (by omega)
      have w9 := lw_wrap (a := x9) (by omega) (by omega)
      -- what follows the test
      have after : ∀ t : Bool, ∃ r, Ev (fun k => list_Window.j2 k p n a x8 x9 x10 t) (r, 0) ∧ r.length ≤ 100000 ∧ ∀ y b, Ev (fun k => slices_Equal_int_int.f k y r) b → Ev (fun k => mastlaw2_ListWindows.j2 k p n a y 0 x8 x9 x10 t) b := by
        intro t
        cases t with
        | true =>
          obtain ⟨r, e, hl, h⟩ := ih x8 x9 (x10 + 1) h1 h2 (by omega) (by omega) (by omega)
          refine ⟨r, Ev.step (fun k => by simp only [list_Window.j2]; rw [if_pos trivial, w10]) e, hl, fun y b hb => Ev.step (fun k => by simp only [mastlaw2_ListWindows.j2]; rw [if_pos trivial, w10]) (h y b hb)⟩
        | false =>
          by_cases hgap : x10 > x9 + 1
          · obtain ⟨r, e, hl, h⟩ := ih ((x8 ++ [0]) ++ [x10]) x10 (x10 + 1) (by omega) (by omega) (by omega) (by omega) (by simp; omega)
            refine ⟨r, Ev.step (fun k => ?_) e, hl, fun y b hb => Ev.step (fun k => ?_) (h y b hb)⟩
            · simp only [list_Window.j2]
              rw [if_neg (by simp), w9, if_pos hgap, if_pos (by omega)]
              simp only [Option.bind_some]
              rw [if_pos (by simp; omega), w10]
            · simp only [mastlaw2_ListWindows.j2]
              rw [if_neg (by simp), w9, if_pos hgap, if_pos (by omega)]
              simp only [Option.bind_some]
              rw [if_pos (by simp; omega), w10]
          · obtain ⟨r, e, hl, h⟩ := ih (x8 ++ [x10]) x10 (x10 + 1) (by omega) (by omega) (by omega) (by omega) (by simp; omega)
            refine ⟨r, Ev.step (fun k => ?_) e, hl, fun y b hb => Ev.step (fun k => ?_) (h y b hb)⟩
            · simp only [list_Window.j2]
              rw [if_neg (by simp), w9, if_neg hgap, if_pos (by omega), w10]
            · simp only [mastlaw2_ListWindows.j2]
              rw [if_neg (by simp), w9, if_neg hgap, if_pos (by omega), w10]
      by_cases c1 : x10 = 1
      · obtain ⟨r, e, hl, h⟩ := after false
        exact ⟨r, Ev.step (fun k => by simp only [list_Window.l0]; rw [if_pos hle, if_pos c1]) e, hl, fun y b hb => Ev.step (fun k => by simp only [mastlaw2_ListWindows.l0]; rw [if_pos hle, if_pos c1]) (h y b hb)⟩
      by_cases c2 : x10 = p
      · obtain ⟨r, e, hl, h⟩ := after false
        exact ⟨r, Ev.step (fun k => by simp only [list_Window.l0]; rw [if_pos hle, if_neg c1, if_pos c2]) e, hl, fun y b hb => Ev.step (fun k => by simp only [mastlaw2_ListWindows.l0]; rw [if_pos hle, if_neg c1, if_pos c2]) (h y b hb)⟩
      by_cases c3 : x10 < wrap64 (n - a)
      · obtain ⟨r, e, hl, h⟩ := after true
        exact ⟨r, Ev.step (fun k => by simp only [list_Window.l0]; rw [if_pos hle, if_neg c1, if_neg c2, if_pos c3]) e, hl, fun y b hb => Ev.step (fun k => by simp only [mastlaw2_ListWindows.l0]; rw [if_pos hle, if_neg c1, if_neg c2, if_pos c3]) (h y b hb)⟩
      · obtain ⟨r, e, hl, h⟩ := after (decide (x10 > wrap64 (n + a)))
        exact ⟨r, Ev.step (fun k => by simp only [list_Window.l0]; rw [if_pos hle, if_neg c1, if_neg c2, if_neg c3]) e, hl, fun y b hb => Ev.step (fun k => by simp only [mastlaw2_ListWindows.l0]; rw [if_pos hle, if_neg c1, if_neg c2, if_neg c3]) (h y b hb)⟩
    · refine ⟨x8, Ev.step (f := fun _ => some (x8, 0)) (fun k => by simp only [list_Window.l0]; rw [if_neg hle]) (Ev.now _), by omega, fun y b hb => ?_⟩
      refine Ev.step (f := fun k => (slices_Equal_int_int.f k y x8).bind fun t => some t) (fun k => by simp only [mastlaw2_ListWindows.l0]; rw [if_neg hle, if_pos trivial]) (Ev.bind hb (Ev.now _))

theorem lw_bad (p n a : Int) (t : Bool) (ht : t = true) : Ev (fun k => list_Window.j0 k p n a t) ([], 2) ∧ Ev (fun k => mastlaw2_ListWindows.j0 k p n a [] 2 t) true := by
  subst ht
  exact ⟨Ev.step (f := fun _ => some ([], 2)) (fun k => by simp only [list_Window.j0]; rw [if_pos trivial]) (Ev.now _),
    Ev.step (f := fun _ => some true) (fun k => by simp only [mastlaw2_ListWindows.j0]; rw [if_pos trivial, if_pos (by simp)]; rfl) (Ev.now _)⟩

/-- The pure statement. -/
theorem ListWindows : mastlaw2_ListWindows.Pure := by
  intro p n a _ _ _
  refine Ev.rounds (g := fun k => mastlaw2_ListWindows.f k p n a) ?_
  have go : ∀ t : Bool, (t = false → p ≤ 2000) → ∃ r c, Ev (fun k => list_Window.j0 k p n a t) (r, c) ∧ Ev (fun k => mastlaw2_ListWindows.j0 k p n a r c t) true := by
    intro t ht
    cases t with
    | true => exact ⟨[], 2, lw_bad p n a true rfl⟩
    | false =>
      obtain ⟨r, e, hl, h⟩ := lw_loops p n a (ht rfl) 2001 [] 0 1 (by omega) (by omega) (by omega) (by have := ht rfl; omega) (by simp)
      exact ⟨r, 0, Ev.step (fun k => by simp only [list_Window.j0]; rw [if_neg (by simp)]) e, Ev.step (fun k => by simp only [mastlaw2_ListWindows.j0]; rw [if_neg (by simp)]) (h r true (lw_same' r hl))⟩
  unfold mastlaw2_ListWindows.f
  by_cases h1 : p < 1
  · obtain ⟨r, c, e1, e2⟩ := go true (by simp)
    exact Ev.bind (Ev.congr (fun k => by unfold list_Window.f; rw [if_pos h1]) e1) (Ev.congr (fun k => by rw [if_pos h1]) e2)
  by_cases h2 : p > 2000
  · obtain ⟨r, c, e1, e2⟩ := go true (by simp)
    exact Ev.bind (Ev.congr (fun k => by unfold list_Window.f; rw [if_neg h1, if_pos h2]) e1) (Ev.congr (fun k => by rw [if_neg h1, if_pos h2]) e2)
  by_cases h3 : n < 1
  · obtain ⟨r, c, e1, e2⟩ := go true (by simp)
    exact Ev.bind (Ev.congr (fun k => by unfold list_Window.f; rw [if_neg h1, if_neg h2, if_pos h3]) e1) (Ev.congr (fun k => by rw [if_neg h1, if_neg h2, if_pos h3]) e2)
  by_cases h4 : n > p
  · obtain ⟨r, c, e1, e2⟩ := go true (by simp)
    exact Ev.bind (Ev.congr (fun k => by unfold list_Window.f; rw [if_neg h1, if_neg h2, if_neg h3, if_pos h4]) e1) (Ev.congr (fun k => by rw [if_neg h1, if_neg h2, if_neg h3, if_pos h4]) e2)
  by_cases h5 : a < 0
  · obtain ⟨r, c, e1, e2⟩ := go true (by simp)
    exact Ev.bind (Ev.congr (fun k => by unfold list_Window.f; rw [if_neg h1, if_neg h2, if_neg h3, if_neg h4, if_pos h5]) e1) (Ev.congr (fun k => by rw [if_neg h1, if_neg h2, if_neg h3, if_neg h4, if_pos h5]) e2)
  · obtain ⟨r, c, e1, e2⟩ := go (decide (a > 2000)) (fun _ => by omega)
    exact Ev.bind (Ev.congr (fun k => by unfold list_Window.f; rw [if_neg h1, if_neg h2, if_neg h3, if_neg h4, if_neg h5]) e1) (Ev.congr (fun k => by rw [if_neg h1, if_neg h2, if_neg h3, if_neg h4, if_neg h5]) e2)

end Go.Proofs.Ytmjfjjnmdljkeaa.Pure
