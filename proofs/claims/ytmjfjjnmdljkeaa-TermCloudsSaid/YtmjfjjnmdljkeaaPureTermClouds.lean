/- The steps of a cloud of terms are the reference's, with the same errors. Conditions: none. -/
import Derived.Test.YtmjfjjnmdljkeaaGTermCloudsOp
namespace Go.Proofs.Ytmjfjjnmdljkeaa.Pure.TermClouds
set_option linter.unusedVariables false
open Go.RowKit Go.Proofs.Ytmjfjjnmdljkeaa.GTermClouds Go.Proofs.YtmjfjjnmdljkeaaW.PrintWords Go.Proofs.YtmjfjjnmdljkeaaW.PrintLast Go.Proofs.YtmjfjjnmdljkeaaW.PrintMore

theorem w64 {x : Int} (h0 : -9223372036854775808 ≤ x) (h1 : x < 9223372036854775808) : wrap64 x = x := by unfold wrap64; omega
/-- How many items each term has. -/
def lens (l : List S95) : List Int := l.map fun t => (t.f2.length : Int)
theorem lens_length (l : List S95) : (lens l).length = l.length := by simp [lens]
theorem lens_at (l : List S95) (i : Nat) (h : i < l.length) : (lens l)[i]? = some (((rd_T95 l (i : Int)).f2).length : Int) := by
  simp [lens, rd_T95, List.getElem?_eq_getElem h]
theorem lens_rd (l : List S95) (i : Nat) (h : i < l.length) : rd (lens l) (i : Int) = (((rd_T95 l (i : Int)).f2).length : Int) := by
  have := lens_at l i h
  simp only [rd, Int.toNat_natCast]
  rw [List.getD_eq_getElem?_getD, this]
  rfl
theorem drop_at (L : List Int) (i : Nat) (h : i < L.length) : L.drop i = rd L (i : Int) :: L.drop (i + 1) := by
  rw [List.drop_eq_getElem_cons h]
  simp [rd, List.getElem?_eq_getElem h]
/-- The least and the greatest, as the program finds them. -/
def ends (first : Bool) (a b : Int) : List Int → Int × Int
  | [] => (a, b)
  | n :: r => ends false (if first = true then n else if n < a then n else a) (mx b n) r
theorem ends_rest : ∀ (r : List Int) (a b : Int), ends false a b r = (r.foldl mn a, r.foldl mx b)
  | [], a, b => rfl
  | n :: r, a, b => by
    unfold ends
    rw [ends_rest r]
    simp [mn]
def minL (L : List Int) : Int := (L.drop 1).foldl mn (rd L 0)
def maxL (L : List Int) : Int := (L.drop 1).foldl mx (rd L 0)
theorem ends_all (L : List Int) (h : 0 < L.length) (h0 : 0 ≤ rd L 0) : ends true 0 0 L = (minL L, maxL L) := by
  have e := drop_at L 0 h
  rw [List.drop_zero] at e
  rw [e]
  unfold ends
  rw [ends_rest]
  have : mx 0 (rd L ((0 : Nat) : Int)) = rd L ((0 : Nat) : Int) := by
    have : (0 : Int) ≤ rd L ((0 : Nat) : Int) := h0
    unfold mx; split <;> omega
  rw [this, ← e]
  rfl
theorem foldl_mn_le : ∀ (r : List Int) (a b : Int), a ≤ b → r.foldl mn a ≤ r.foldl mx b
  | [], a, b, h => h
  | n :: r, a, b, h => foldl_mn_le r _ _ (by unfold mn mx; split <;> split <;> omega)
theorem min_le_max (L : List Int) : minL L ≤ maxL L := foldl_mn_le _ _ _ (Int.le_refl _)
theorem foldl_bd (r : List Int) (B : Int) (hr : ∀ n ∈ r, 0 ≤ n ∧ n ≤ B) : ∀ a, 0 ≤ a → a ≤ B → (0 ≤ r.foldl mn a ∧ r.foldl mn a ≤ B) ∧ (0 ≤ r.foldl mx a ∧ r.foldl mx a ≤ B) := by
  induction r with
  | nil => intro a h0 h1; exact ⟨⟨h0, h1⟩, h0, h1⟩
  | cons n r ih =>
    intro a h0 h1
    have hn := hr n (by simp)
    have i := ih (fun m hm => hr m (by simp [hm]))
    exact ⟨(i (mn a n) (by unfold mn; split <;> omega) (by unfold mn; split <;> omega)).1, (i (mx a n) (by unfold mx; split <;> omega) (by unfold mx; split <;> omega)).2⟩
theorem rd_mem (L : List Int) (h : 0 < L.length) : rd L 0 ∈ L := by
  simp only [rd, Int.toNat_zero]
  rw [List.getD_eq_getElem?_getD, List.getElem?_eq_getElem h]
  simp
theorem bounds (L : List Int) (B : Int) (h : 0 < L.length) (hL : ∀ n ∈ L, 0 ≤ n ∧ n ≤ B) : (0 ≤ minL L ∧ minL L ≤ B) ∧ (0 ≤ maxL L ∧ maxL L ≤ B) := by
  have h0 := hL _ (rd_mem L h)
  have i := foldl_bd (L.drop 1) B (fun n hn => hL n (List.mem_of_mem_drop hn)) (rd L 0) h0.1 h0.2
  exact ⟨i.1, i.2⟩

theorem min_ev (L : List Int) (hL : L.length ≤ 100000) (h : 0 < L.length) : Ev (fun k => slices_Min_int_int.f k L) (minL L) := by
  have loop : ∀ (d i : Nat) (a : Int), i + d = L.length → Ev (fun k => slices_Min_int_int.l0 k L a (i : Int)) ((L.drop i).foldl mn a) := by
    intro d
    induction d with
    | zero =>
      intro i a hi
      rw [List.drop_eq_nil_of_le (by omega)]
      exact Ev.step (f := fun _ => some a) (fun k => by simp only [slices_Min_int_int.l0]; rw [if_neg (by omega)]) (Ev.now _)
    | succ d ih =>
      intro i a hi
      rw [drop_at L i (by omega), List.foldl_cons]
      refine Ev.step (fun k => ?_) (ih (i + 1) (mn a (rd L (i : Int))) (by omega))
      simp only [slices_Min_int_int.l0]
      rw [if_pos (by omega), if_pos (by omega), w64 (by omega) (by omega)]
      rfl
  refine Ev.congr (fun k => ?_) (loop (L.length - 1) 1 (rd L 0) (by omega))
  unfold slices_Min_int_int.f
  rw [if_neg (by omega), if_pos (by omega)]
  rfl
theorem max_ev (L : List Int) (hL : L.length ≤ 100000) (h : 0 < L.length) : Ev (fun k => slices_Max_int_int.f k L) (maxL L) := by
  have loop : ∀ (d i : Nat) (a : Int), i + d = L.length → Ev (fun k => slices_Max_int_int.l0 k L a (i : Int)) ((L.drop i).foldl mx a) := by
    intro d
    induction d with
    | zero =>
      intro i a hi
      rw [List.drop_eq_nil_of_le (by omega)]
      exact Ev.step (f := fun _ => some a) (fun k => by simp only [slices_Max_int_int.l0]; rw [if_neg (by omega)]) (Ev.now _)
    | succ d ih =>
      intro i a hi
      rw [drop_at L i (by omega), List.foldl_cons]
      refine Ev.step (fun k => ?_) (ih (i + 1) (mx a (rd L (i : Int))) (by omega))
      simp only [slices_Max_int_int.l0]
      rw [if_pos (by omega), if_pos (by omega), w64 (by omega) (by omega)]
      rfl
  refine Ev.congr (fun k => ?_) (loop (L.length - 1) 1 (rd L 0) (by omega))
  unfold slices_Max_int_int.f
  rw [if_neg (by omega), if_pos (by omega)]
  rfl

/-- A term's step. -/
def stepOf (s lo hi n : Int) : Int := wrap64 (Int.tdiv (wrap64 ((wrap64 (n - lo)) * s)) (wrap64 ((wrap64 (hi - lo)) + 1)))
theorem prog_steps (l : List S95) (s lo hi : Int) (hl : l.length ≤ 2000) (hd : ¬ wrap64 (wrap64 (hi - lo) + 1) = 0) : ∀ (d i : Nat) (acc : List Int), i + d = l.length → acc.length = i →
    Ev (fun k => list_Cloud.l1 k s lo hi acc l (l.length : Int) (i : Int)) (acc ++ ((lens l).drop i).map (stepOf s lo hi), 0) := by
  intro d
  induction d with
  | zero =>
    intro i acc hi' ha
    rw [List.drop_eq_nil_of_le (by rw [lens_length]; omega)]
    refine Ev.step (f := fun _ => some _) (fun k => by simp only [list_Cloud.l1]; rw [if_neg (by omega)]; simp) (Ev.now _)
  | succ d ih =>
    intro i acc hi' ha
    rw [drop_at _ i (by rw [lens_length]; omega), lens_rd l i (by omega)]
    have i2 := ih (i + 1) (acc ++ [stepOf s lo hi (((rd_T95 l (i : Int)).f2).length : Int)]) (by omega) (by simp [ha])
    rw [List.append_assoc] at i2
    refine Ev.step (fun k => ?_) i2
    simp only [list_Cloud.l1]
    rw [if_pos (by omega), if_pos (by omega), if_pos (by omega), if_neg hd, if_pos (by omega), w64 (x := (i : Int) + 1) (by omega) (by omega)]
    rfl
theorem ref_steps (L : List Int) (s : Int) (hl : L.length ≤ 2000) (hd : ¬ wrap64 (wrap64 (maxL L - minL L) + 1) = 0) : ∀ (d i : Nat) (acc : List Int), i + d = L.length → acc.length = i →
    Ev (fun k => mastref2_CloudOf.l1 k s L acc L (L.length : Int) (i : Int)) (acc ++ (L.drop i).map (stepOf s (minL L) (maxL L)), 0) := by
  intro d
  induction d with
  | zero =>
    intro i acc hi' ha
    rw [List.drop_eq_nil_of_le (by omega)]
    refine Ev.step (f := fun _ => some _) (fun k => by simp only [mastref2_CloudOf.l1]; rw [if_neg (by omega)]; simp) (Ev.now _)
  | succ d ih =>
    intro i acc hi' ha
    rw [drop_at _ i (by omega)]
    have i2 := ih (i + 1) (acc ++ [stepOf s (minL L) (maxL L) (rd L (i : Int))]) (by omega) (by simp [ha])
    rw [List.append_assoc] at i2
    refine Ev.step (fun k => by simp only [mastref2_CloudOf.l1]; rw [if_pos (by omega), if_pos (by omega), if_pos (by omega)]) ?_
    refine Ev.bind (min_ev L (by omega) (by omega)) (Ev.bind (max_ev L (by omega) (by omega)) (Ev.congr (fun k => ?_) i2))
    rw [if_neg hd, if_pos (by omega), w64 (x := (i : Int) + 1) (by omega) (by omega)]
    rfl
theorem prog_ends (l : List S95) (s : Int) (hl : l.length ≤ 2000) {r : List Int × Int} : ∀ (d i : Nat) (a b : Int), i + d = l.length →
    Ev (fun k => list_Cloud.l1 k s (ends (decide (i = 0)) a b ((lens l).drop i)).1 (ends (decide (i = 0)) a b ((lens l).drop i)).2 [] l (l.length : Int) 0) r → Ev (fun k => list_Cloud.l0 k l s a b l (l.length : Int) (i : Int)) r := by
  intro d
  induction d with
  | zero =>
    intro i a b hi' e
    rw [List.drop_eq_nil_of_le (by rw [lens_length]; omega)] at e
    refine Ev.step (fun k => ?_) e
    simp only [list_Cloud.l0]
    rw [if_neg (by omega)]
    rfl
  | succ d ih =>
    intro i a b hi' e
    rw [drop_at _ i (by rw [lens_length]; omega), lens_rd l i (by omega)] at e
    unfold ends at e
    have i2 := ih (i + 1) (if decide (i = 0) = true then (((rd_T95 l (i : Int)).f2).length : Int) else if (((rd_T95 l (i : Int)).f2).length : Int) < a then (((rd_T95 l (i : Int)).f2).length : Int) else a) (mx b (((rd_T95 l (i : Int)).f2).length : Int)) (by omega) (by rw [decide_eq_false (show ¬ i + 1 = 0 by omega)]; exact e)
    refine Ev.step (fun k => ?_) i2
    simp only [list_Cloud.l0]
    rw [if_pos (by omega), if_pos (by omega), if_pos (by omega), w64 (x := (i : Int) + 1) (by omega) (by omega)]
    by_cases h0 : i = 0
    · have hi0 : (i : Int) = 0 := by omega
      simp only [if_pos hi0, decide_eq_true h0, if_true]
      rfl
    · have hi0 : ¬ ((i : Int) = 0) := by omega
      by_cases h1 : (((rd_T95 l (i : Int)).f2).length : Int) < a
      · simp only [if_neg hi0, decide_eq_false h0, if_pos h1, Bool.false_eq_true, if_false]
        rfl
      · simp only [if_neg hi0, decide_eq_false h0, if_neg h1, Bool.false_eq_true, if_false]
        rfl
theorem ref_lens (l : List S95) (s : Int) (hl : l.length ≤ 2000) {r : List Int × Int} : ∀ (d i : Nat) (acc : List Int), i + d = l.length → acc = (lens l).take i →
    Ev (fun k => mastref2_CloudOf.l1 k s (lens l) [] (lens l) ((lens l).length : Int) 0) r → Ev (fun k => mastref2_CloudOf.l0 k s acc l (l.length : Int) (i : Int)) r := by
  intro d
  induction d with
  | zero =>
    intro i acc hi' ha e
    rw [List.take_of_length_le (by rw [lens_length]; omega)] at ha
    subst ha
    refine Ev.step (fun k => ?_) e
    simp only [mastref2_CloudOf.l0]
    rw [if_neg (by omega)]
  | succ d ih =>
    intro i acc hi' ha e
    have hla : acc.length = i := by rw [ha, List.length_take, lens_length]; omega
    refine Ev.step (fun k => ?_) (ih (i + 1) (acc ++ [(((rd_T95 l (i : Int)).f2).length : Int)]) (by omega) (by rw [List.take_add_one, lens_at l i (by omega), ha]; rfl) e)
    simp only [mastref2_CloudOf.l0]
    rw [if_pos (by omega), if_pos (by omega), if_pos (by omega), if_pos (by omega), w64 (x := (i : Int) + 1) (by omega) (by omega)]
    rfl
theorem same (l : List Int) (hl : l.length ≤ 100000) : Ev (fun k => slices_Equal_int_int.f k l l) true := by
  have loop : ∀ (d : Nat) (i : Int), 0 ≤ i → (l.length : Int) - i = d → Ev (fun k => slices_Equal_int_int.l0 k l l (l.length : Int) i) true := by
    intro d
    induction d with
    | zero =>
      intro i h0 hd
      exact Ev.step (f := fun _ => some true) (fun k => by simp only [slices_Equal_int_int.l0]; rw [if_neg (by omega)]) (Ev.now _)
    | succ d ih =>
      intro i h0 hd
      refine Ev.step (fun k => ?_) (ih (i + 1) (by omega) (by omega))
      simp only [slices_Equal_int_int.l0]
      rw [if_pos (by omega), if_pos h0, if_pos (by omega), if_pos (by omega), if_pos trivial, w64 (by omega) (by omega)]
  exact Ev.congr (fun k => by unfold slices_Equal_int_int.f; rw [if_pos rfl]) (loop l.length 0 (by omega) (by omega))
theorem both (l : List S95) (s : Int) (hB : ∀ y ∈ l, y.f2.length * 8 ≤ 140737488351232) : ∃ r c, Ev (fun k => list_Cloud.f k l s) (r, c) ∧ Ev (fun k => mastref2_CloudOf.f k l s) (r, c) ∧ r.length ≤ 100000 := by
  by_cases h1 : (l.length : Int) > 2000
  · exact ⟨[], 4, Ev.congr (f := fun _ => some ([], 4)) (fun k => by unfold list_Cloud.f; rw [if_pos h1]) (Ev.now _), Ev.congr (f := fun _ => some ([], 4)) (fun k => by unfold mastref2_CloudOf.f; rw [if_pos h1]) (Ev.now _), by simp⟩
  have bad1 : Ev (fun k => list_Cloud.j0 k l s true) ([], 2) := Ev.step (f := fun _ => some ([], 2)) (fun k => by simp only [list_Cloud.j0]; rw [if_pos trivial]) (Ev.now _)
  have bad2 : Ev (fun k => mastref2_CloudOf.j0 k l s true) ([], 2) := Ev.step (f := fun _ => some ([], 2)) (fun k => by simp only [mastref2_CloudOf.j0]; rw [if_pos trivial]) (Ev.now _)
  by_cases h2 : s < 1
  · exact ⟨[], 2, Ev.congr (fun k => by unfold list_Cloud.f; rw [if_neg h1, if_pos h2]) bad1, Ev.congr (fun k => by unfold mastref2_CloudOf.f; rw [if_neg h1, if_pos h2]) bad2, by simp⟩
  by_cases h3 : s > 100
  · exact ⟨[], 2, Ev.congr (fun k => by unfold list_Cloud.f; rw [if_neg h1, if_neg h2, decide_eq_true h3]) bad1, Ev.congr (fun k => by unfold mastref2_CloudOf.f; rw [if_neg h1, if_neg h2, decide_eq_true h3]) bad2, by simp⟩
  have hl : l.length ≤ 2000 := by omega
  have hLB : ∀ n ∈ lens l, 0 ≤ n ∧ n ≤ 17592186043904 := by
    intro n hn
    simp only [lens, List.mem_map] at hn
    obtain ⟨y, hy, rfl⟩ := hn
    have := hB y hy
    omega
  have A : Ev (fun k => list_Cloud.l0 k l s 0 0 l (l.length : Int) 0) ((lens l).map (stepOf s (minL (lens l)) (maxL (lens l))), 0) := by
    refine prog_ends l s hl l.length 0 0 0 (by omega) ?_
    by_cases hp : 0 < l.length
    · have hb := bounds (lens l) 17592186043904 (by rw [lens_length]; exact hp) hLB
      have hm := min_le_max (lens l)
      have h0 := hLB _ (rd_mem (lens l) (by rw [lens_length]; exact hp))
      rw [List.drop_zero, decide_eq_true rfl, ends_all _ (by rw [lens_length]; exact hp) h0.1]
      refine prog_steps l s _ _ hl (by rw [w64 (x := maxL (lens l) - minL (lens l)) (by omega) (by omega), w64 (by omega) (by omega)]; omega) l.length 0 [] (by omega) rfl
    · obtain rfl : l = [] := List.eq_nil_of_length_eq_zero (by omega)
      refine Ev.step (f := fun _ => some ([], 0)) (fun k => ?_) (Ev.now _)
      simp only [list_Cloud.l1]
      rw [if_neg (by simp)]
  have B : Ev (fun k => mastref2_CloudOf.l0 k s [] l (l.length : Int) 0) ((lens l).map (stepOf s (minL (lens l)) (maxL (lens l))), 0) := by
    refine ref_lens l s hl l.length 0 [] (by omega) rfl ?_
    by_cases hp : 0 < l.length
    · have hb := bounds (lens l) 17592186043904 (by rw [lens_length]; exact hp) hLB
      have hm := min_le_max (lens l)
      refine ref_steps (lens l) s (by rw [lens_length]; exact hl) (by rw [w64 (x := maxL (lens l) - minL (lens l)) (by omega) (by omega), w64 (by omega) (by omega)]; omega) l.length 0 [] (by rw [lens_length]; omega) rfl
    · obtain rfl : l = [] := List.eq_nil_of_length_eq_zero (by omega)
      refine Ev.step (f := fun _ => some ([], 0)) (fun k => ?_) (Ev.now _)
      simp only [mastref2_CloudOf.l1, lens, List.map_nil]
      rw [if_neg (by simp)]
  refine ⟨_, 0, Ev.congr (f := fun k => list_Cloud.j0 k l s false) (fun k => by unfold list_Cloud.f; rw [if_neg h1, if_neg h2, decide_eq_false h3]) (Ev.step (fun k => by simp only [list_Cloud.j0]; rw [if_neg (by simp)]) A),
    Ev.congr (f := fun k => mastref2_CloudOf.j0 k l s false) (fun k => by unfold mastref2_CloudOf.f; rw [if_neg h1, if_neg h2, decide_eq_false h3]) (Ev.step (fun k => by simp only [mastref2_CloudOf.j0]; rw [if_neg (by simp)]) B), by rw [List.length_map, lens_length]; omega⟩
end Go.Proofs.Ytmjfjjnmdljkeaa.Pure.TermClouds
namespace Go.Proofs.Ytmjfjjnmdljkeaa.Pure
open Go.RowKit Go.Proofs.Ytmjfjjnmdljkeaa.GTermClouds Go.Proofs.YtmjfjjnmdljkeaaW.PrintWords Go.Proofs.YtmjfjjnmdljkeaaW.PrintLast
/-- The pure statement. -/
theorem TermClouds : mastlaw2_TermClouds.Pure := by
  intro l s hl _
  refine Ev.rounds (g := fun k => mastlaw2_TermClouds.f k l s) ?_
  unfold mastlaw2_TermClouds.f
  obtain ⟨r, c, e1, e2, e3⟩ := TermClouds.both l s (fun y hy => ((G95_iff y).1 (hl.2.2 y hy)).2.2.1)
  exact Ev.bind e1 (Ev.bind e2 (Ev.congr (fun k => if_pos rfl) (Ev.bind (TermClouds.same r e3) (Ev.now _))))
end Go.Proofs.Ytmjfjjnmdljkeaa.Pure
