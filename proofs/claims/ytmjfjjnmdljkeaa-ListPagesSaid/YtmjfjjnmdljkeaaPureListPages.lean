/- The pager's parts and the reference's parts are the same list, for all arguments. Conditions: none. -/
import Derived.Test.YtmjfjjnmdljkeaaPListPagesx2
namespace Go.Proofs.Ytmjfjjnmdljkeaa.Pure
open Go.RowKit Go.Proofs.Ytmjfjjnmdljkeaa.PListPages Go.Proofs.YtmjfjjnmdljkeaaW.PrintWords Go.Proofs.YtmjfjjnmdljkeaaW.PrintLast

theorem lp_wrap {a b : Int} (h0 : 0 ≤ a) (h1 : a ≤ 100000) (h2 : 0 ≤ b) (h3 : b ≤ 100000) : wrap64 (a + b) = a + b := by
  unfold wrap64; omega

theorem lp_loops (m s : Int) (hm1 : m ≤ 2000) (hs0 : 1 ≤ s) (hs1 : s ≤ 2000) : ∀ (d : Nat) (x6 : List S28) (x7 : Int), 1 ≤ x7 → x7 ≤ 4000 → (m - x7).toNat ≤ d → x6.length + d ≤ 5000 →
    ∃ r, Ev (fun k => list_Pager.l0 k m s x6 x7) (r, 0) ∧ Ev (fun k => mastref2_PagerOf.l0 k m s x6 x7) (r, 0) := by
  intro d
  induction d with
  | zero =>
    intro x6 x7 h1 h2 h3 h4
    have hn : ¬ x7 < m := by omega
    exact ⟨x6, Ev.step (f := fun _ => some (x6, 0)) (fun k => by simp only [list_Pager.l0]; rw [if_neg hn, if_neg (by omega)]) (Ev.now _),
      Ev.step (f := fun _ => some (x6, 0)) (fun k => by simp only [mastref2_PagerOf.l0]; rw [if_neg hn]) (Ev.now _)⟩
  | succ d ih =>
    intro x6 x7 h1 h2 h3 h4
    by_cases hlt : x7 < m
    · have hw := lp_wrap (a := x7) (b := s) (by omega) (by omega) (by omega) (by omega)
      obtain ⟨r, e1, e2⟩ := ih (x6 ++ [(⟨wrap64 ((x6.length : Int) + 1), x7, mn (x7 + s) m⟩ : S28)]) (x7 + s) (by omega) (by omega) (by omega) (by simp; omega)
      exact ⟨r, Ev.step (fun k => by simp only [list_Pager.l0]; rw [if_pos hlt, if_pos (by omega), hw]) e1,
        Ev.step (fun k => by simp only [mastref2_PagerOf.l0]; rw [if_pos hlt, if_pos (by omega), hw]) e2⟩
    · exact ⟨x6, Ev.step (f := fun _ => some (x6, 0)) (fun k => by simp only [list_Pager.l0]; rw [if_neg hlt, if_neg (by omega)]) (Ev.now _),
        Ev.step (f := fun _ => some (x6, 0)) (fun k => by simp only [mastref2_PagerOf.l0]; rw [if_neg hlt]) (Ev.now _)⟩

theorem lp_same (l : List S28) (hl : l.length ≤ 100000) : ∀ (d : Nat) (i : Int), 0 ≤ i → (l.length : Int) - i = d → Ev (fun k => list_Part.l0 k l l (l.length : Int) i) true := by
  intro d
  induction d with
  | zero =>
    intro i h0 hd
    exact Ev.step (f := fun _ => some true) (fun k => by simp only [list_Part.l0]; rw [if_neg (by omega)]) (Ev.now _)
  | succ d ih =>
    intro i h0 hd
    have hw := lp_wrap (a := i) (b := 1) (by omega) (by omega) (by omega) (by omega)
    refine Ev.step (fun k => ?_) (ih (i + 1) (by omega) (by omega))
    simp only [list_Part.l0]
    rw [if_pos (by omega), if_pos h0, if_pos (by omega), if_pos (by omega), if_neg (by simp), hw]

theorem lp_same' (l : List S28) (hl : l.length ≤ 100000) : Ev (fun k => list_Part.f k l l) true :=
  Ev.congr (fun k => by unfold list_Part.f; rw [if_pos rfl]) (lp_same l hl l.length 0 (by omega) (by omega))

theorem lp_long (m s : Int) : ∀ (k : Nat) (x6 : List S28) (x7 : Int) r, list_Pager.l0 k m s x6 x7 = some r → x6.length ≤ 50000 → 1 ≤ s → s ≤ 2000 → 0 ≤ x7 → m ≤ 2000 → x7 ≤ 4000 → x6.length ≤ x7 → x7 ≤ 4000 → r.1.length ≤ 100000 := by
  intro k
  induction k with
  | zero => intro x6 x7 r h; simp [list_Pager.l0] at h
  | succ k ih =>
    intro x6 x7 r h h1 h2 h3 h4 h5 h6 h7 h8
    simp only [list_Pager.l0] at h
    have hw : wrap64 (x7 + s) = x7 + s := lp_wrap (by omega) (by omega) (by omega) (by omega)
    rw [hw] at h
    split at h
    · split at h
      · exact ih _ _ r h (by simp; omega) h2 h3 (by omega) h5 (by omega) (by simp; omega) (by omega)
      · cases h
    · split at h
      · split at h
        · split at h
          · exact ih _ _ r h (by simp; omega) h2 h3 (by omega) h5 (by omega) (by simp; omega) (by omega)
          · cases h
        · cases h; simp; omega
      · cases h; simp; omega

theorem lp_bad (m s : Int) (b : Bool) (hb : b = true) : Ev (fun k => list_Pager.j0 k m s b) ([], 2) ∧ Ev (fun k => mastref2_PagerOf.j0 k m s b) ([], 2) := by
  subst hb
  exact ⟨Ev.step (f := fun _ => some ([], 2)) (fun k => by simp only [list_Pager.j0]; rw [if_pos trivial]) (Ev.now _),
    Ev.step (f := fun _ => some ([], 2)) (fun k => by simp only [mastref2_PagerOf.j0]; rw [if_pos trivial]) (Ev.now _)⟩

theorem lp_both (m s : Int) : ∃ r c, Ev (fun k => list_Pager.f k m s) (r, c) ∧ Ev (fun k => mastref2_PagerOf.f k m s) (r, c) ∧ r.length ≤ 100000 := by
  by_cases h1 : m < 0
  · obtain ⟨e1, e2⟩ := lp_bad m s true rfl
    exact ⟨[], 2, Ev.congr (fun k => by unfold list_Pager.f; rw [if_pos h1]) e1, Ev.congr (fun k => by unfold mastref2_PagerOf.f; rw [if_pos h1]) e2, by simp⟩
  by_cases h2 : m > 2000
  · obtain ⟨e1, e2⟩ := lp_bad m s true rfl
    exact ⟨[], 2, Ev.congr (fun k => by unfold list_Pager.f; rw [if_neg h1, if_pos h2]) e1, Ev.congr (fun k => by unfold mastref2_PagerOf.f; rw [if_neg h1, if_pos h2]) e2, by simp⟩
  by_cases h3 : s < 1
  · obtain ⟨e1, e2⟩ := lp_bad m s true rfl
    exact ⟨[], 2, Ev.congr (fun k => by unfold list_Pager.f; rw [if_neg h1, if_neg h2, if_pos h3]) e1, Ev.congr (fun k => by unfold mastref2_PagerOf.f; rw [if_neg h1, if_neg h2, if_pos h3]) e2, by simp⟩
  by_cases h4 : s > 2000
  · obtain ⟨e1, e2⟩ := lp_bad m s (decide (s > 2000)) (decide_eq_true h4)
    exact ⟨[], 2, Ev.congr (fun k => by unfold list_Pager.f; rw [if_neg h1, if_neg h2, if_neg h3]) e1, Ev.congr (fun k => by unfold mastref2_PagerOf.f; rw [if_neg h1, if_neg h2, if_neg h3]) e2, by simp⟩
  have hd : decide (s > 2000) = false := decide_eq_false h4
  have one : ([(⟨1, 0, mn s m⟩ : S28)] : List S28) = [] ++ [(⟨wrap64 ((([] : List S28).length : Int) + 1), 0, mn (wrap64 (0 + s)) m⟩ : S28)] := by
    have : wrap64 (0 + s) = s := by unfold wrap64; omega
    have w1 : wrap64 ((([] : List S28).length : Int) + 1) = 1 := by unfold wrap64; simp
    rw [this, w1]; rfl
  have hw : wrap64 (0 + s) = s := by unfold wrap64; omega
  obtain ⟨r, e1, e2⟩ := lp_loops m s (by omega) (by omega) (by omega) 2000 [(⟨1, 0, mn s m⟩ : S28)] s (by omega) (by omega) (by omega) (by simp)
  have E1 : Ev (fun k => list_Pager.l0 k m s [] 0) (r, 0) := by
    refine Ev.step (fun k => ?_) e1
    simp only [list_Pager.l0]
    by_cases hp : (0 : Int) < m
    · rw [if_pos hp, if_pos (by simp), one, hw]
    · rw [if_neg hp, if_pos trivial, if_pos (by simp), if_pos (by simp), one, hw]
  refine ⟨r, 0, ?_, ?_, ?_⟩
  · refine Ev.congr (f := fun k => list_Pager.j0 k m s false) (fun k => by unfold list_Pager.f; rw [if_neg h1, if_neg h2, if_neg h3, hd]) ?_
    exact Ev.step (fun k => by simp only [list_Pager.j0]; rw [if_neg (by simp)]) E1
  · refine Ev.congr (f := fun k => mastref2_PagerOf.j0 k m s false) (fun k => by unfold mastref2_PagerOf.f; rw [if_neg h1, if_neg h2, if_neg h3, hd]) ?_
    exact Ev.step (fun k => by simp only [mastref2_PagerOf.j0]; rw [if_neg (by simp)]) e2
  · obtain ⟨k, hk⟩ := E1.rounds
    exact lp_long m s k [] 0 (r, 0) hk (by simp) (by omega) (by omega) (by omega) (by omega) (by omega) (by simp) (by omega)

/-- The pure statement. -/
theorem ListPages : mastlaw2_ListPages.Pure := by
  intro m s _ _
  obtain ⟨r, c, e1, e2, hl⟩ := lp_both m s
  refine Ev.rounds (g := fun k => mastlaw2_ListPages.f k m s) ?_
  unfold mastlaw2_ListPages.f
  refine Ev.bind e1 (Ev.bind e2 ?_)
  refine Ev.congr (fun k => by rw [if_pos rfl]) (Ev.bind (lp_same' r hl) (Ev.now _))

end Go.Proofs.Ytmjfjjnmdljkeaa.Pure
